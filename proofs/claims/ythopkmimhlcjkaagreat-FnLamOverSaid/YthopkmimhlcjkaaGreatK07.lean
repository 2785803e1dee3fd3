/- FnLamOver: for every code, the law of functions over contexts answers true. No condition. -/
import Derived.Test.YthopkmimhlcjkaaGreatK01
import Derived.Test.YthopkmimhlcjkaaGreatK02
import Derived.Test.YthopkmimhlcjkaaGreatK03
import Derived.Test.YthopkmimhlcjkaaGreatK04
import Derived.Test.YthopkmimhlcjkaaGreatK05
import Derived.Test.YthopkmimhlcjkaaGreatK06
import Derived.ChangeArms
import Derived.Deep.Slices
import Derived.Deep.Strs
import Derived.WalkKit
import Derived.ProofKit
import Derived.OpenShut
import Derived.ShutString
import Derived.ChangeOld
import Derived.Below
section
/- The reference's reading and writing of terms answers. -/
set_option linter.unusedVariables false
set_option linter.unusedSimpArgs false
namespace Go.Proofs.YthopkmimhlcjkaaGreat
open Go Go.Ab Go.Dk
abbrev st (s : ByteArray) : V1 := .one (.str s)
/-- Any number, any truth value. -/
abbrev IsNB (r : List V1 × List AObj) : Prop := ∃ v b, r = ([nt v, bl b], [])
theorem num_loop (n : Nat) (s : ByteArray) (hs : s.size ≤ 1000000) (neg : Bool) : ∀ g m (i : Nat) (v : Int), g < m → i + g = s.size → Tot (L_spec_l19Num_0 n m s neg v i) IsNB
  | g, 0, i, v, hg, _ => by omega
  | 0, m + 1, i, v, _, hi => by
    rw [L_spec_l19Num_0_eq]
    repeat' (first | (simp (disch := omega) only [wrap64]; done) | (simp (disch := omega) only [wrap64]) | (with_reducible refine tot_cond (fun hq => ?_) (fun hq => ?_) <;> (try simp (disch := omega) only [wrap64] at hq) <;> (try simp only [decide_eq_true_eq, decide_eq_false_iff_not, Bool.not_eq_true', Bool.not_eq_false', Bool.and_eq_true, Bool.and_eq_false_iff, inB, Bool.not_true, Bool.not_false] at hq) <;> try (exfalso; omega; done)) | ((with_reducible refine tot_some ?_); (exact ⟨_, _, rfl⟩)))
  | g + 1, m + 1, i, v, hg, hi => by
    rw [L_spec_l19Num_0_eq]
    have w : IntKind.i64.wrap ((i : Int) + 1) = ((i + 1 : Nat) : Int) := wrap64 (by omega)
    rw [w]
    repeat' (first | (simp (disch := omega) only [wrap64]; done) | (simp (disch := omega) only [wrap64]) | (with_reducible refine tot_cond (fun hq => ?_) (fun hq => ?_) <;> (try simp (disch := omega) only [wrap64] at hq) <;> (try simp only [decide_eq_true_eq, decide_eq_false_iff_not, Bool.not_eq_true', Bool.not_eq_false', Bool.and_eq_true, Bool.and_eq_false_iff, inB, Bool.not_true, Bool.not_false] at hq) <;> try (exfalso; omega; done)) | ((with_reducible refine tot_some ?_); (exact ⟨_, _, rfl⟩)) | (with_reducible exact num_loop n s hs neg g m (i + 1) _ (by omega) (by omega)))
theorem t_l19Num {n : Nat} {s : ByteArray} (hn : s.size + 3 ≤ n) (hs : s.size ≤ 1000000) : Tot (FF n 197 [st s] []) IsNB := by
  refine tot_step (C := s.size + 2) hn fun n hn _ => ?_
  rw [E_spec_l19Num]
  have hx : (s.extract (1 : Int).toNat (s.size : Int).toNat).size ≤ s.size := by rw [ByteArray.size_extract]; omega
  have h1 : ∀ neg, Tot (L_spec_l19Num_0 n n (s.extract (1 : Int).toNat (s.size : Int).toNat) neg 0 0) IsNB := fun neg => num_loop n (s.extract (1 : Int).toNat (s.size : Int).toNat) (by omega) neg (s.extract (1 : Int).toNat (s.size : Int).toNat).size n 0 0 (by omega) (by omega)
  have h2 : ∀ neg, Tot (L_spec_l19Num_0 n n s neg 0 0) IsNB := fun neg => num_loop n s hs neg s.size n 0 0 (by omega) (by omega)
  repeat' (first | (simp (disch := omega) only [wrap64]; done) | (simp (disch := omega) only [wrap64]) | (with_reducible refine tot_cond (fun hq => ?_) (fun hq => ?_) <;> (try simp (disch := omega) only [wrap64] at hq) <;> (try simp only [decide_eq_true_eq, decide_eq_false_iff_not, Bool.not_eq_true', Bool.not_eq_false', Bool.and_eq_true, Bool.and_eq_false_iff, inB, Bool.not_true, Bool.not_false] at hq) <;> try (exfalso; omega; done)) | ((with_reducible refine tot_some ?_); (exact ⟨_, _, rfl⟩)) | (with_reducible exact h1 _) | (with_reducible exact h2 _))
/-- A number and an offset behind it, or none. -/
abbrev IsOff (s : ByteArray) (lo : Int) (r : List V1 × List AObj) : Prop := ∃ v e : Int, r = ([nt v, nt e], []) ∧ -1 ≤ e ∧ e ≤ s.size ∧ (0 ≤ e → lo ≤ e)
theorem numb_loop (n : Nat) (s : ByteArray) (hs : s.size ≤ 1000000) (hn : s.size + 3 ≤ n) (a d : Int) (ha : 0 ≤ a) (hd : 0 ≤ d ∧ d ≤ 10) : ∀ g m (i : Nat), g < m → i + g = s.size → a ≤ i → Tot (L_spec_l1Number_0 n m s a d i) (IsOff s a)
  | g, 0, i, hg, _, _ => by omega
  | g, m + 1, i, hg, hi, hai => by
    have hx : (s.extract a.toNat (i : Int).toNat).size ≤ s.size := by rw [ByteArray.size_extract]; omega
    rw [L_spec_l1Number_0_eq]
    have w : IntKind.i64.wrap ((i : Int) + 1) = ((i + 1 : Nat) : Int) := wrap64 (by omega)
    rw [w]
    cases g with
    | zero =>
      repeat' (first | (simp (disch := omega) only [wrap64]; done) | (simp (disch := omega) only [wrap64]) | (with_reducible refine tot_cond (fun hq => ?_) (fun hq => ?_) <;> (try simp (disch := omega) only [wrap64] at hq) <;> (try simp only [decide_eq_true_eq, decide_eq_false_iff_not, Bool.not_eq_true', Bool.not_eq_false', Bool.and_eq_true, Bool.and_eq_false_iff, inB, Bool.not_true, Bool.not_false] at hq) <;> try (exfalso; omega; done)) | (with_reducible refine tot_call (t_l19Num (by omega) (by omega)) ?_; rintro _ ⟨v, b, rfl⟩; simp only [evt]) | ((with_reducible refine tot_some ?_); (exact ⟨_, _, rfl, by omega, by omega, by omega⟩)))
    | succ g =>
      repeat' (first | (simp (disch := omega) only [wrap64]; done) | (simp (disch := omega) only [wrap64]) | (with_reducible refine tot_cond (fun hq => ?_) (fun hq => ?_) <;> (try simp (disch := omega) only [wrap64] at hq) <;> (try simp only [decide_eq_true_eq, decide_eq_false_iff_not, Bool.not_eq_true', Bool.not_eq_false', Bool.and_eq_true, Bool.and_eq_false_iff, inB, Bool.not_true, Bool.not_false] at hq) <;> try (exfalso; omega; done)) | (with_reducible refine tot_call (t_l19Num (by omega) (by omega)) ?_; rintro _ ⟨v, b, rfl⟩; simp only [evt]) | ((with_reducible refine tot_some ?_); (exact ⟨_, _, rfl, by omega, by omega, by omega⟩)) | (with_reducible exact numb_loop n s hs hn a d ha hd g m (i + 1) (by omega) (by omega) (by omega)))
theorem t_l1Number {n : Nat} {s : ByteArray} {a d : Int} (hn : s.size + 5 ≤ n) (hs : s.size ≤ 1000000) (ha : 0 ≤ a ∧ a ≤ s.size) (hd : 0 ≤ d ∧ d ≤ 10) : Tot (FF n 192 [st s, nt a, nt d] []) (IsOff s a) := by
  refine tot_step (C := s.size + 4) hn fun n hn _ => ?_
  rw [E_spec_l1Number]
  obtain ⟨i, rfl⟩ : ∃ i : Nat, a = i := ⟨a.toNat, by omega⟩
  exact numb_loop n s hs (by omega) i d ha.1 hd (s.size - i) n i (by omega) (by omega) (by omega)
/-- A term and an offset behind it, or none. -/
abbrev IsTerm (s : ByteArray) (a : Int) (r : List V1 × List AObj) : Prop := ∃ (t : T) (e : Int), r = ([tm t, nt e], []) ∧ -1 ≤ e ∧ e ≤ s.size ∧ (0 ≤ e → a + t.size ≤ e)
theorem t_leaf {n : Nat} (hn : 1 ≤ n) (k m : Int) : Tot (FF n 100 [nt k, nt m] []) (fun r => r = ([tm (.mk k m [])], [])) := ⟨_, f_l1Leaf hn k m, rfl⟩
theorem t_nodeS {n : Nat} (hn : 1 ≤ n) (k : Int) (l : List T) (hl : l.length ≤ 100) : Tot (FF n 99 [nt k, tms l] []) (fun r => r = ([tm (.mk k 0 l)], [])) := ⟨_, f_l1Node hn k l (by omega), rfl⟩
theorem t_kids {n : Nat} (hn : 1 ≤ n) (k : Int) : Tot (FF n 137 [nt k] []) (fun r => r = ([nt (opsOf k)], [])) := ⟨_, f_l1Kids hn k, rfl⟩
section
variable {s : ByteArray} (hs : s.size ≤ 1000000) {d N : Nat} (hd : d ≤ 30) (ih : ∀ n, N ≤ n → ∀ a : Int, 0 ≤ a → a ≤ s.size + 1 → Tot (FF n 188 [st s, nt a, nt (d : Int)] []) (IsTerm s a))
include hs hd ih
theorem t_l1Prefix {n : Nat} (hn : N + 2 ≤ n) {a : Int} (ha : 0 ≤ a ∧ a < s.size) : Tot (FF n 193 [st s, nt a, nt ((d : Int) + 1)] []) (IsTerm s a) := by
  refine tot_step (C := N + 1) hn fun n hn _ => ?_
  rw [E_spec_l1Prefix]
  have w : IntKind.i64.wrap ((d : Int) + 1 - 1) = (d : Int) := by rw [wrap64 (by omega)]; omega
  rw [w]
  repeat' (first | (simp (disch := omega) only [wrap64]; done) | (simp (disch := omega) only [wrap64]) | (with_reducible refine tot_cond (fun hq => ?_) (fun hq => ?_) <;> (try simp (disch := omega) only [wrap64] at hq) <;> (try simp only [decide_eq_true_eq, decide_eq_false_iff_not, Bool.not_eq_true', Bool.not_eq_false', Bool.and_eq_true, Bool.and_eq_false_iff, inB, Bool.not_true, Bool.not_false] at hq) <;> try (exfalso; omega; done)) | (with_reducible refine tot_call (ih n (by omega) _ (by omega) (by omega)) ?_; rintro _ ⟨t, e, rfl, h1, h2, h3⟩; simp only [evt]) | (with_reducible refine tot_call (t_nodeS (by omega) _ _ (by simp)) ?_; rintro _ rfl; simp only [evt]) | ((with_reducible refine tot_some ?_); (exact ⟨.mk _ _ _, _, rfl, by omega, by omega, fun h => by have := h3 h; simp only [T.size, T.sizeL]; omega⟩)))
theorem t_l1Round {n : Nat} (hn : N + 2 ≤ n) {a : Int} (ha : 0 ≤ a ∧ a ≤ s.size) : Tot (FF n 194 [st s, nt a, nt (d : Int)] []) (fun r => ∃ (t : T) (e : Int), r = ([tm t, nt e], []) ∧ -1 ≤ e ∧ e ≤ s.size ∧ (0 ≤ e → a + t.size ≤ e + 1)) := by
  have hs' := hs
  have hd' := hd
  refine tot_step (C := N + 1) hn fun n hn _ => ?_
  rw [E_spec_l1Round]
  refine tot_call (ih n (by omega) a (by omega) (by omega)) ?_
  rintro _ ⟨t, e, rfl, h1, h2, h3⟩
  simp only [evt]
  repeat' (first | (simp (disch := omega) only [wrap64]; done) | (simp (disch := omega) only [wrap64]) | (with_reducible refine tot_cond (fun hq => ?_) (fun hq => ?_) <;> (try simp (disch := omega) only [wrap64] at hq) <;> (try simp only [decide_eq_true_eq, decide_eq_false_iff_not, Bool.not_eq_true', Bool.not_eq_false', Bool.and_eq_true, Bool.and_eq_false_iff, inB, Bool.not_true, Bool.not_false] at hq) <;> try (exfalso; omega; done)) | (with_reducible refine tot_call (ih n (by omega) _ (by omega) (by omega)) ?_; rintro _ ⟨u, e', rfl, h4, h5, h6⟩; simp only [evt]) | (with_reducible refine tot_call (t_nodeS (by omega) _ _ (by simp)) ?_; rintro _ rfl; simp only [evt]) | ((with_reducible refine tot_some ?_); (exact ⟨.mk _ _ _, _, rfl, by omega, by omega, by omega⟩)) | ((with_reducible refine tot_some ?_); (exact ⟨.mk _ _ _, _, rfl, by omega, by omega, fun h => by have := h3 (by omega); have := h6 (by omega); simp only [T.size, T.sizeL]; omega⟩)))
theorem series_loop (n : Nat) (hn : N + 1 ≤ n) (last : Int) (many : Nat) (hmany : many ≤ 4) (a0 : Int) (ha0 : 0 ≤ a0) : ∀ g m (i : Nat) (a : Int) (acc : List T), g < m → i + g = many → 0 ≤ a → a ≤ s.size → acc.length = i → a0 + T.sizeL acc ≤ a →
    Tot (L_spec_l1Series_0 n m s a d many last i acc) (fun r => ∃ (l : List T) (e : Int), r = ([tms l, nt e], []) ∧ -1 ≤ e ∧ e ≤ s.size ∧ (0 ≤ e → a0 + T.sizeL l ≤ e))
  | g, 0, i, a, acc, hg, _, _, _, _, _ => by
    have hs' := hs
    have hd' := hd
    omega
  | 0, m + 1, i, a, acc, _, hi, h0, h1, hl, hz => by
    rw [L_spec_l1Series_0_eq]
    rw [decide_eq_false (show ¬ (i : Int) < many by omega)]
    exact tot_some ⟨_, _, rfl, by omega, by omega, by omega⟩
  | g + 1, m + 1, i, a, acc, hg, hi, h0, h1, hl, hz => by
    have w : IntKind.i64.wrap ((i : Int) + 1) = ((i + 1 : Nat) : Int) := wrap64 (by omega)
    rw [L_spec_l1Series_0_eq, w]
    rw [decide_eq_true (show (i : Int) < many by omega), cond_true]
    refine tot_call (ih n (by omega) a (by omega) (by omega)) ?_
    rintro _ ⟨t, e, rfl, k1, k2, k3⟩
    simp only [evt, List.length_append, List.length_cons, List.length_nil, hl]
    have hroom : roomB (i + (0 + 1)) = true := roomB_ok (by omega)
    have hsz : T.sizeL (acc ++ [t]) = T.sizeL acc + t.size := by
      clear hl hz
      induction acc with
      | nil => simp [T.sizeL]
      | cons x acc ih2 => simp only [List.cons_append, T.sizeL, ih2]; omega
    rw [hroom]
    simp only [cond_true]
    have nx : 0 ≤ e → e < s.size → Tot (L_spec_l1Series_0 n m s (e + 1) d many last ((i + 1 : Nat) : Int) (acc ++ [t])) (fun r => ∃ (l : List T) (e : Int), r = ([tms l, nt e], []) ∧ -1 ≤ e ∧ e ≤ s.size ∧ (0 ≤ e → a0 + T.sizeL l ≤ e)) := fun h h' =>
      series_loop n hn last many hmany a0 ha0 g m (i + 1) (e + 1) (acc ++ [t]) (by omega) (by omega) (by omega) (by omega) (by simp [hl]) (by have := k3 h; rw [hsz]; omega)
    repeat' (first | (simp (disch := omega) only [wrap64]; done) | (simp (disch := omega) only [wrap64]) | (with_reducible refine tot_cond (fun hq => ?_) (fun hq => ?_) <;> (try simp (disch := omega) only [wrap64] at hq) <;> (try simp only [decide_eq_true_eq, decide_eq_false_iff_not, Bool.not_eq_true', Bool.not_eq_false', Bool.and_eq_true, Bool.and_eq_false_iff, inB, Bool.not_true, Bool.not_false] at hq) <;> try (exfalso; omega; done)) | ((with_reducible refine tot_some ?_); (exact ⟨[], _, rfl, by omega, by omega, by omega⟩)) | (with_reducible exact nx (by omega) (by omega)))
theorem t_l1Series {n : Nat} (hn : N + 7 ≤ n) {a : Int} (ha : 0 ≤ a ∧ a ≤ s.size) (many : Int) (hm : 0 ≤ many ∧ many ≤ 4) (last : Int) : Tot (FF n 198 [st s, nt a, nt (d : Int), nt many, .one (.int .u8 last)] []) (fun r => ∃ (l : List T) (e : Int), r = ([tms l, nt e], []) ∧ -1 ≤ e ∧ e ≤ s.size ∧ (0 ≤ e → a + T.sizeL l ≤ e)) := by
  refine tot_step (C := N + 6) hn fun n hn _ => ?_
  rw [E_spec_l1Series]
  obtain ⟨k, rfl⟩ : ∃ k : Nat, many = k := ⟨many.toNat, by omega⟩
  exact series_loop hs hd ih n (by omega) last k (by omega) a ha.1 k n 0 a [] (by omega) (by omega) ha.1 ha.2 rfl (by simp [T.sizeL])
theorem t_l1Block {n : Nat} (hn : N + 8 ≤ n) {a : Int} (ha : 0 ≤ a ∧ a < s.size) : Tot (FF n 195 [st s, nt a, nt ((d : Int) + 1)] []) (IsTerm s a) := by
  refine tot_step (C := N + 7) hn fun n hn _ => ?_
  rw [E_spec_l1Block]
  have w : IntKind.i64.wrap ((d : Int) + 1 - 1) = (d : Int) := by rw [wrap64 (by omega)]; omega
  rw [w]
  have k9 : opsOf 9 = 4 := rfl
  have k10 : opsOf 10 = 3 := rfl
  have k14 : opsOf 14 = 3 := rfl
  have k12 : opsOf 12 = 3 := rfl
  repeat' (first | (simp (disch := omega) only [wrap64]; done) | (simp (disch := omega) only [wrap64]) | (with_reducible refine tot_cond (fun hq => ?_) (fun hq => ?_) <;> (try simp (disch := omega) only [wrap64] at hq) <;> (try simp only [decide_eq_true_eq, decide_eq_false_iff_not, Bool.not_eq_true', Bool.not_eq_false', Bool.and_eq_true, Bool.and_eq_false_iff, inB, Bool.not_true, Bool.not_false] at hq) <;> try (exfalso; omega; done)) | (with_reducible refine tot_call (t_kids (by omega) _) ?_; rintro _ rfl; simp only [evt]) | (with_reducible refine tot_call (t_l1Series hs hd ih (by omega) ⟨by omega, by omega⟩ _ (by rw [k9]; omega) _) ?_; rintro _ ⟨l, e, rfl, h1, h2, h3⟩; simp only [evt]) | (with_reducible refine tot_call (t_l1Series hs hd ih (by omega) ⟨by omega, by omega⟩ _ (by rw [k10]; omega) _) ?_; rintro _ ⟨l, e, rfl, h1, h2, h3⟩; simp only [evt]) | (with_reducible refine tot_call (t_l1Series hs hd ih (by omega) ⟨by omega, by omega⟩ _ (by rw [k14]; omega) _) ?_; rintro _ ⟨l, e, rfl, h1, h2, h3⟩; simp only [evt]) | (with_reducible refine tot_call (t_l1Series hs hd ih (by omega) ⟨by omega, by omega⟩ _ (by rw [k12]; omega) _) ?_; rintro _ ⟨l, e, rfl, h1, h2, h3⟩; simp only [evt]) | ((with_reducible refine tot_some ?_); (exact ⟨.mk _ _ _, _, rfl, by omega, by omega, by omega⟩)) | ((with_reducible refine tot_some ?_); (exact ⟨.mk _ _ _, _, rfl, by omega, by omega, fun h => by have := h3 h; simp only [T.size]; omega⟩)))
end
theorem t_l1Parse {s : ByteArray} (hs : s.size ≤ 1000000) : ∀ (d : Nat), d ≤ 30 → ∀ n, s.size + 20 + 12 * d ≤ n → ∀ a : Int, 0 ≤ a → a ≤ s.size + 1 → Tot (FF n 188 [st s, nt a, nt (d : Int)] []) (IsTerm s a)
  | 0, hd, n, hn, a, h0, h1 => by
    refine tot_step (C := s.size + 19) (by omega) fun n hn _ => ?_
    rw [E_spec_l1Parse]
    repeat' (first | (simp (disch := omega) only [wrap64]; done) | (simp (disch := omega) only [wrap64]) | (with_reducible refine tot_cond (fun hq => ?_) (fun hq => ?_) <;> (try simp (disch := omega) only [wrap64] at hq) <;> (try simp only [decide_eq_true_eq, decide_eq_false_iff_not, Bool.not_eq_true', Bool.not_eq_false', Bool.and_eq_true, Bool.and_eq_false_iff, inB, Bool.not_true, Bool.not_false] at hq) <;> try (exfalso; omega; done)) | ((with_reducible refine tot_some ?_); (exact ⟨.mk _ _ _, _, rfl, by omega, by omega, by omega⟩)))
  | d + 1, hd, n, hn, a, h0, h1 => by
    have ih := fun n hn => t_l1Parse hs d (by omega) n hn
    refine tot_step (C := s.size + 19 + 12 * (d + 1)) (by omega) fun n hn _ => ?_
    rw [E_spec_l1Parse]
    have w : IntKind.i64.wrap (((d + 1 : Nat) : Int) - 1) = (d : Int) := by rw [wrap64 (by omega)]; omega
    have w2 : (((d + 1 : Nat) : Int)) = (d : Int) + 1 := rfl
    rw [w, w2]
    repeat' (first | (simp (disch := omega) only [wrap64]; done) | (simp (disch := omega) only [wrap64]) | (with_reducible refine tot_cond (fun hq => ?_) (fun hq => ?_) <;> (try simp (disch := omega) only [wrap64] at hq) <;> (try simp only [decide_eq_true_eq, decide_eq_false_iff_not, Bool.not_eq_true', Bool.not_eq_false', Bool.and_eq_true, Bool.and_eq_false_iff, inB, Bool.not_true, Bool.not_false] at hq) <;> try (exfalso; omega; done)) | (with_reducible refine tot_call (t_l1Number (by omega) hs ⟨by omega, by omega⟩ ⟨by omega, by omega⟩) ?_; rintro _ ⟨v, e, rfl, k1, k2, k3⟩; simp only [evt]) | (with_reducible refine tot_call (t_leaf (by omega) _ _) ?_; rintro _ rfl; simp only [evt]) | (with_reducible refine tot_call (t_l1Prefix hs (by omega) ih (by omega) ⟨by omega, by omega⟩) ?_; rintro _ ⟨t, e, rfl, k1, k2, k3⟩; simp only [evt]) | (with_reducible refine tot_call (t_l1Round hs (by omega) ih (by omega) ⟨by omega, by omega⟩) ?_; rintro _ ⟨t, e, rfl, k1, k2, k3⟩; simp only [evt]) | (with_reducible refine tot_call (t_l1Block hs (by omega) ih (by omega) ⟨by omega, by omega⟩) ?_; rintro _ ⟨t, e, rfl, k1, k2, k3⟩; simp only [evt]) | (with_reducible refine tot_call (ih n (by omega) _ (by omega) (by omega)) ?_; rintro _ ⟨u, e', rfl, k4, k5, k6⟩; simp only [evt]) | (with_reducible refine tot_call (t_nodeS (by omega) _ _ (by simp)) ?_; rintro _ rfl; simp only [evt]) | ((with_reducible refine tot_some ?_); (exact ⟨.mk _ _ _, _, rfl, by omega, by omega, by omega⟩)) | ((with_reducible refine tot_some ?_); (exact ⟨.mk _ _ _, _, rfl, by omega, by omega, fun h => by simp only [T.size, T.sizeL]; omega⟩)) | ((with_reducible refine tot_some ?_); (exact ⟨t, _, rfl, by omega, by omega, fun h => by have := k3 h; omega⟩)) | ((with_reducible refine tot_some ?_); (exact ⟨.mk _ _ _, _, rfl, by omega, by omega, fun h => by have := k3 h; simp only [T.size, T.sizeL]; omega⟩)) | ((with_reducible refine tot_some ?_); (exact ⟨.mk _ _ _, _, rfl, by omega, by omega, fun h => by have := k3 (by omega); have := k6 h; simp only [T.size, T.sizeL]; omega⟩)))
/-! The text of a term. -/
/-- A text of at most m bytes. -/
abbrev IsStr (m : Nat) (r : List V1 × List AObj) : Prop := ∃ s : ByteArray, r = ([st s], []) ∧ s.size ≤ m
theorem dec_byte (v : Int) (h : 0 ≤ v ∧ v ≤ 9) : IntKind.u8.wrap (IntKind.i64.wrap (48 + v)) = 48 + v := by
  rw [wrap64 (by omega)]
  rw [IntKind.wrap]; simp [IntKind.signed, IntKind.bits]; omega
theorem t_l19Dec {n : Nat} (hn : 5 ≤ n) {v : Int} (hv : 0 ≤ v ∧ v ≤ 99) : Tot (FF n 199 [nt v] []) (IsStr 2) := by
  refine tot_step (C := 4) hn fun n hn _ => ?_
  rw [E_spec_l19Dec]
  rw [decide_eq_false (show ¬ v < -9223372036854775807 by omega), decide_eq_false (show ¬ v < 0 by omega)]
  simp only [cond_false]
  have fin : ∀ (m : Nat) (v : Int) (x : ByteArray), 0 ≤ v ∧ v ≤ 9 → x.size ≤ 1 → Tot (L_spec_l19Dec_0 n (m + 1) v x) (IsStr 2) := by
    intro m v x hv hx
    rw [L_spec_l19Dec_0_eq, dec_byte v hv, decide_eq_false (show ¬ 9 < v by omega), decide_eq_true (show 0 ≤ 48 + v by omega), decide_eq_true (show 48 + v ≤ 255 by omega)]
    simp only [Bool.and_self, cond_true, cond_false]
    refine tot_cond (fun _ => tot_some ?_) (fun hq => ?_)
    · exact ⟨_, rfl, by rw [ByteArray.size_append]; show 1 + x.size ≤ 2; omega⟩
    · have hq' := of_decide_eq_false hq
      exact absurd (show 1 + x.size ≤ 9223372036854775807 by omega) hq'
  obtain ⟨m, rfl⟩ : ∃ m, n = m + 2 := ⟨n - 2, by omega⟩
  by_cases h9 : 9 < v
  · have hm := tmod_bd (show 0 ≤ v by omega) (show (0 : Int) < 10 by omega)
    have hd := tdiv_bd (show 0 ≤ v by omega) (show (0 : Int) < 10 by omega)
    have hd2 : v.tdiv 10 ≤ 9 := by rw [Int.tdiv_eq_ediv_of_nonneg (by omega)]; omega
    rw [L_spec_l19Dec_0_eq, dec_byte _ (by omega), decide_eq_true h9, decide_eq_true (show 0 ≤ 48 + v.tmod 10 by omega), decide_eq_true (show 48 + v.tmod 10 ≤ 255 by omega), wrap64 (by omega)]
    simp only [Bool.and_self, cond_true]
    refine tot_cond (fun _ => ?_) (fun hq => ?_)
    · exact fin m _ _ ⟨hd.1, hd2⟩ (by rw [ByteArray.size_append]; exact Nat.le_refl 1)
    · have hq' := of_decide_eq_false hq
      exact absurd (show 1 + 0 ≤ 9223372036854775807 by omega) hq'
  · exact fin (m + 1) v _ ⟨hv.1, by omega⟩ (by decide)
theorem size_bytes (l : List UInt8) : (bytesOf l).size = l.length := by simp [bytesOf, ByteArray.size]
theorem list_loop (n : Nat) (ts : List T) (hl : ts.length ≤ 1000) (hsz : T.sizeL ts ≤ 1000) (h : ∀ u ∈ ts, Tot (FF n 196 [tm u] []) (IsStr (8 * u.size - 1))) :
    ∀ g m (i : Nat) (x : ByteArray), g < m → i + g = ts.length → x.size + 8 * T.sizeL (ts.drop i) ≤ 8 * T.sizeL ts → Tot (L_spec_l1List_0 n m ts x i) (IsStr (8 * T.sizeL ts))
  | g, 0, i, x, hg, _, _ => by omega
  | 0, m + 1, i, x, _, hi, hx => by
    rw [L_spec_l1List_0_eq, decide_eq_false (show ¬ (i : Int) < ts.length by omega)]
    refine tot_some ?_
    exact ⟨_, rfl, by omega⟩
  | g + 1, m + 1, i, x, hg, hi, hx => by
    have hlt : i < ts.length := by omega
    have hm := List.getElem_mem hlt
    rw [List.drop_eq_getElem_cons hlt, T.sizeL] at hx
    have w : IntKind.i64.wrap ((i : Int) + 1) = ((i + 1 : Nat) : Int) := wrap64 (by omega)
    have hp := size_pos ts[i]
    rw [L_spec_l1List_0_eq, w]
    simp only [Int.toNat_natCast, List.getElem?_eq_getElem hlt, Option.bind_some, ByteArray.size_append, size_bytes, List.length_cons, List.length_nil]
    have nx : ∀ y : ByteArray, y.size ≤ x.size + 8 * ts[i].size → Tot (L_spec_l1List_0 n m ts y ((i + 1 : Nat) : Int)) (IsStr (8 * T.sizeL ts)) := fun y hy => list_loop n ts hl hsz h g m (i + 1) y (by omega) (by omega) (by omega)
    repeat' (first | (simp (disch := omega) only [wrap64]; done) | (simp (disch := omega) only [wrap64]) | (with_reducible refine tot_cond (fun hq => ?_) (fun hq => ?_) <;> (try simp (disch := omega) only [wrap64] at hq) <;> (try simp only [decide_eq_true_eq, decide_eq_false_iff_not, Bool.not_eq_true', Bool.not_eq_false', Bool.and_eq_true, Bool.and_eq_false_iff, inB, Bool.not_true, Bool.not_false] at hq) <;> try (exfalso; omega; done)) | (with_reducible refine tot_call (h _ hm) ?_; rintro _ ⟨s, rfl, hs⟩; simp only [evt]) | (with_reducible exact nx _ (by simp only [ByteArray.size_append, size_bytes, List.length_cons, List.length_nil]; omega)))
theorem tot_kid {t : T} {i : Nat} {k : T → OR} {Q : List V1 × List AObj → Prop} (h : i < t.kids.length) (hk : Tot (k (kd t i)) Q) : Tot (t.kids[i]?.bind k) Q := by
  rw [kid_get h]; exact hk
theorem t_l1Text (t : T) : ∀ {n : Nat}, 2 * t.size + 10 ≤ n → validB t = true → Tot (FF n 196 [tm t] []) (IsStr (8 * t.size - 1)) := by
  induction t using T.ind with | h t ih =>
  intro n hn hv
  have hsz := T.size_eq t
  have hz := validB_size hv
  have hl := T.sizeL_len t.kids
  have ho := validB_ops hv
  refine tot_step (C := 2 * t.size + 9) hn fun n hn _ => ?_
  have hk : ∀ i, i < t.kids.length → Tot (FF n 196 [tm (kd t i)] []) (IsStr (8 * (kd t i).size - 1)) := fun i hi => ih _ (kd_mem hi) (by have := T.sizeL_mem (kd_mem hi); omega) (validB_kid hv (kd_mem hi))
  have hkz : ∀ i, i < t.kids.length → (kd t i).size ≤ T.sizeL t.kids := fun i hi => T.sizeL_mem (kd_mem hi)
  have hlist : Tot (FF n 200 [tms t.kids] []) (IsStr (8 * T.sizeL t.kids)) := by
    refine tot_step (C := 2 * t.size + 8) (by omega) fun n hn e => ?_
    subst e
    rw [E_spec_l1List]
    exact list_loop n t.kids (by omega) (by omega) (fun u hu => ih u hu (by have := T.sizeL_mem hu; omega) (validB_kid hv hu)) t.kids.length n 0 _ (by omega) (by omega) (by simp [size_bytes])
  rw [E_spec_l1Text]
  simp only [Int.toNat_zero, Int.reduceToNat, Int.toNat_one]
  have l8 : t.k = 8 → t.kids.length = 1 := fun h => ops_len hv (c := 1) (by rw [h]; rfl)
  have l11 : t.k = 11 → t.kids.length = 1 := fun h => ops_len hv (c := 1) (by rw [h]; rfl)
  have l15 : t.k = 15 → t.kids.length = 1 := fun h => ops_len hv (c := 1) (by rw [h]; rfl)
  have l16 : t.k = 16 → t.kids.length = 1 := fun h => ops_len hv (c := 1) (by rw [h]; rfl)
  have l3 : t.k = 3 → t.kids.length = 2 := fun h => ops_len hv (c := 2) (by rw [h]; rfl)
  have l13 : t.k = 13 → t.kids.length = 2 := fun h => ops_len hv (c := 2) (by rw [h]; rfl)
  have l5 : t.k = 5 → t.kids.length = 2 := fun h => ops_len hv (c := 2) (by rw [h]; rfl)
  have l4 : t.k = 4 → t.kids.length = 2 := fun h => ops_len hv (c := 2) (by rw [h]; rfl)
  have h01 : t.kids.length = 2 → (kd t 0).size + (kd t 1).size ≤ T.sizeL t.kids := by
    intro h2
    cases t with | mk k n' ts =>
    match ts, h2 with
    | [x, y], _ => simp [kd, T.kids, T.sizeL]
  have h0 := hkz 0
  have z0 := size_pos (kd t 0)
  have z1 := size_pos (kd t 1)
  have hn20 : 0 ≤ t.n ∧ t.n ≤ 20 := ⟨(gd_out (gd_valid hv)).1, (gd_out (gd_valid hv)).2.1⟩
  simp only [ByteArray.size_append, size_bytes, List.length_cons, List.length_nil]
  repeat' (first | (simp (disch := omega) only [wrap64]; done) | (simp (disch := omega) only [wrap64]) | (with_reducible refine tot_cond (fun hq => ?_) (fun hq => ?_) <;> (try simp (disch := omega) only [wrap64] at hq) <;> (try simp only [decide_eq_true_eq, decide_eq_false_iff_not, Bool.not_eq_true', Bool.not_eq_false', Bool.and_eq_true, Bool.and_eq_false_iff, inB, Bool.not_true, Bool.not_false] at hq) <;> try (exfalso; omega; done)) | (with_reducible refine tot_call (t_l19Dec (by omega) (by omega)) ?_; rintro _ ⟨s, rfl, hs⟩; simp only [evt]) | (with_reducible refine tot_call (hlist) ?_; rintro _ ⟨s, rfl, hs⟩; simp only [evt]) | ((with_reducible refine tot_kid (t := t) (by omega) ?_)) | (with_reducible refine tot_call (hk 0 (by omega)) ?_; rintro _ ⟨s, rfl, hs⟩; simp only [evt]) | (with_reducible refine tot_call (hk 1 (by omega)) ?_; rintro _ ⟨s', rfl, hs'⟩; simp only [evt]) | ((with_reducible refine tot_some ?_); (exact ⟨_, rfl, by simp only [ByteArray.size_append, size_bytes, List.length_cons, List.length_nil]; omega⟩)))
theorem t_FormatTerm {n : Nat} {t : T} (hn : 3 * t.size + 2000 ≤ n) (hz : t.size ≤ 1000000) : Tot (FF n 189 [tm t] []) (fun r => ∃ s : ByteArray, r = ([st s], []) ∧ (validB t = false → s.size = 0)) := by
  refine tot_step (C := 3 * t.size + 1999) hn fun n hn _ => ?_
  rw [E_spec_FormatTerm, f_TermValidS (by omega) (by omega)]
  simp only [evt]
  cases hv : validB t with
  | false => exact ⟨_, rfl, _, rfl, fun _ => rfl⟩
  | true =>
    simp only [Bool.not_true, cond_false]
    refine tot_call (t_l1Text t (by omega) hv) ?_
    rintro _ ⟨s, rfl, _⟩
    exact ⟨_, rfl, _, rfl, fun h => by cases h⟩
/-- The reference's reading of a text: a valid term, or the zero value. -/
theorem t_ParseTerm {n : Nat} {s : ByteArray} (hn : 5 * s.size + 5000 ≤ n) (hs : s.size ≤ 100000) : Tot (FF n 165 [st s] []) (fun r => ∃ t b, r = ([tm t, bl b], []) ∧ (b = true → validB t = true) ∧ (b = false → t = .mk 0 0 [])) := by
  refine tot_step (C := 5 * s.size + 4999) hn fun n hn _ => ?_
  rw [E_spec_ParseTerm]
  refine tot_call (t_l1Parse (s := s) (by omega) 30 (by omega) n (by omega) 0 (by omega) (by omega)) ?_
  rintro _ ⟨t, e, rfl, h1, h2, h3⟩
  simp only [evt]
  refine tot_cond (fun hq => ⟨_, rfl, .mk 0 0 [], false, rfl, by simp, fun _ => rfl⟩) (fun hne => ?_)
  refine tot_cond (fun hq => ⟨_, rfl, .mk 0 0 [], false, rfl, by simp, fun _ => rfl⟩) (fun hq => ?_)
  have hq' : e = s.size := by simpa using hq
  have h4 := h3 (by omega)
  refine tot_call (t_FormatTerm (t := t) (by omega) (by omega)) ?_
  rintro _ ⟨x, rfl, hx⟩
  simp only [evt]
  refine tot_cond (fun hq => ⟨_, rfl, .mk 0 0 [], false, rfl, by simp, fun _ => rfl⟩) (fun hq2 => ⟨_, rfl, t, true, rfl, fun _ => ?_, by simp⟩)
  cases hv : validB t with
  | true => rfl
  | false =>
    exfalso
    have hx0 := hx hv
    have hxs : x.toList = s.toList := by simpa using hq2
    have hx1 : x.data = #[] := by
      apply Array.eq_empty_of_size_eq_zero
      exact hx0
    have hxe : x = ByteArray.mk #[] := by cases x; simp at hx1; rw [hx1]
    rw [hxe] at hxs
    rw [← hxs, show bytesOf [] = ByteArray.mk #[] from rfl] at hne
    simp at hne
end Go.Proofs.YthopkmimhlcjkaaGreat
end
section
/- Drawn terms: the drawing answers. -/
set_option linter.unusedVariables false
set_option linter.unusedSimpArgs false
namespace Go.Proofs.YthopkmimhlcjkaaGreat
open Go Go.Ab Go.Dk
theorem t_pick {n : Nat} (hn : 1 ≤ n) {l : List UInt8} {p m k : Int} (h : RdOk l p m) (hm : m ≤ 1000000000000) (hk : k ≤ 2147483648) :
    Tot (FF n 97 [.one (.ptr 0 0), nt k] [rdr l p]) (fun r => ∃ v p' : Int, r = ([nt v], [rdr l p']) ∧ 0 ≤ v ∧ (0 < k → v < k) ∧ RdOk l p' (m + 1)) := by
  obtain ⟨v, ⟨h1, h2, _⟩, h3, h4⟩ := s_pick h (by omega) hk
  exact ⟨_, h4 n hn, v, _, rfl, h1, h2, h3⟩
theorem t_num {n : Nat} (hn : 2 ≤ n) {l : List UInt8} {p m : Int} {ss : List Int} (h : RdOk l p m) (hm : m ≤ 1000000000000) (hs : ss ≠ []) (hl : ss.length ≤ 1000) :
    Tot (FF n 118 [.one (.ptr 0 0), .one (.fr (.is ss))] [rdr l p]) (fun r => ∃ v p' : Int, r = ([nt v], [rdr l p']) ∧ v ∈ ss ∧ RdOk l p' (m + 1)) := by
  obtain ⟨v, h1, h3, h4⟩ := s_num h (by omega) hs (by omega)
  exact ⟨_, h4 n hn, v, _, rfl, h1, h3⟩
theorem t_open {n : Nat} (hn : 1 ≤ n) (l : List UInt8) : Tot (FF n 78 [.one (.fr (.bs l))] []) (fun r => ∃ l', r = ([.one (.ptr 0 0)], [rdr l' 0]) ∧ RdOk l' 0 0) := by
  obtain ⟨l', h1, h2⟩ := s_open l
  exact ⟨_, h2 n hn, l', rfl, h1⟩
/-- A drawn term of at most z nodes; the reader has read at most to m. -/
abbrev IsDraw (z : Nat) (l : List UInt8) (m : Int) (r : List V1 × List AObj) : Prop := ∃ (t : T) (p : Int), r = ([tm t], [rdr l p]) ∧ t.size ≤ z ∧ RdOk l p m
theorem draw_loop (Q : Int) (hQ : Q ≤ 900000000000) (n : Nat) (hn : 1 ≤ n) (l : List UInt8) (d kind : Int) (K : Nat) (M : Int)
    (ih : ∀ p m, RdOk l p m → m ≤ Q → Tot (FF n 131 [.one (.ptr 0 0), nt (d - 1)] [rdr l p]) (IsDraw K l (m + M))) (hM : 0 ≤ M ∧ M ≤ 1000000000) (hd : -100 ≤ d ∧ d ≤ 100) (hK : K ≤ 4000000) (z1 z2 : Int) (l0 : List T) (k1 n1 : Int) :
    ∀ (g c i : Nat) (p m : Int) (acc : List T), g < c → (opsOf kind = i + g ∨ (g = 0 ∧ opsOf kind ≤ i)) → i ≤ 4 → g ≤ 4 → RdOk l p m → m + g * M ≤ Q → acc.length = i →
      Tot (L_spec_l1Draw_0_foo n c d kind i l p z1 z2 l0 k1 n1 acc) (IsDraw (1 + T.sizeL acc + g * K) l (m + g * M))
  | g, 0, i, p, m, acc, hg, _, _, _, _, _, _ => by omega
  | 0, c + 1, i, p, m, acc, _, hi, _, _, hr, _, hl => by
    rw [L_spec_l1Draw_0_foo_eq, f_l1Kids hn]
    simp only [evt]
    rw [decide_eq_false (show ¬ (i : Int) < opsOf kind by omega)]
    refine tot_some ?_
    exact ⟨.mk k1 n1 acc, p, rfl, by simp [T.size], by simpa using hr⟩
  | g + 1, c + 1, i, p, m, acc, hg, hi, hi4, hg4, hr, hm, hl => by
    rw [L_spec_l1Draw_0_foo_eq, f_l1Kids hn]
    simp only [evt]
    have hgM : (((g + 1 : Nat)) : Int) * M = g * M + M := by rw [Int.natCast_add, Int.add_mul]; simp
    have hgK : (g + 1) * K = g * K + K := by rw [Nat.add_mul, Nat.one_mul]
    have ho := ops_le kind
    have hg0 : 0 ≤ (g : Int) * M := Int.mul_nonneg (by omega) hM.1
    rw [decide_eq_true (show (i : Int) < opsOf kind by omega), cond_true, wrap64 (show -9223372036854775808 ≤ d - 1 ∧ d - 1 ≤ 9223372036854775807 by omega)]
    refine tot_call (ih p m hr (by rw [hgM] at hm; omega)) ?_
    rintro _ ⟨t, p', rfl, ht, hr'⟩
    have w : IntKind.i64.wrap ((i : Int) + 1) = ((i + 1 : Nat) : Int) := wrap64 (by omega)
    simp only [evt, w, List.length_append, List.length_cons, List.length_nil, hl]
    rw [roomB_ok (by omega), cond_true]
    have hsz : T.sizeL (acc ++ [t]) = T.sizeL acc + t.size := by
      clear hl
      induction acc with
      | nil => simp [T.sizeL]
      | cons x acc ih2 => simp only [List.cons_append, T.sizeL, ih2]; omega
    have := draw_loop Q hQ n hn l d kind K M ih hM hd hK z1 z2 l0 k1 n1 g c (i + 1) p' (m + M) (acc ++ [t]) (by omega) (by omega) (by omega) (by omega) hr' (by rw [hgM] at hm; omega) (by simp [hl])
    refine tot_mono this ?_
    rintro _ ⟨u, q, rfl, hu, hq⟩
    exact ⟨u, q, rfl, by rw [hsz] at hu; omega, hq.mono (by rw [hgM]; omega)⟩
theorem t_l1Draw_step (Q : Int) (hQ : Q ≤ 900000000000) {n : Nat} (hn : 10 ≤ n) (l : List UInt8) (d : Int) (K : Nat) (M : Int) (hM : 0 ≤ M ∧ M ≤ 1000000000) (hd : -100 ≤ d ∧ d ≤ 100) (hK : K ≤ 4000000) (hK1 : 1 ≤ K)
    (ih : ∀ m, n ≤ m + 1 → ∀ p q, RdOk l p q → q ≤ Q → Tot (FF m 131 [.one (.ptr 0 0), nt (d - 1)] [rdr l p]) (IsDraw K l (q + M))) {p m : Int} (hr : RdOk l p m) (hm : m + 3 + 4 * M ≤ Q) :
    Tot (FF n 131 [.one (.ptr 0 0), nt d] [rdr l p]) (IsDraw (1 + 4 * K) l (m + 3 + 4 * M)) := by
  refine tot_step (C := 9) (by omega) fun n hn e => ?_
  have fin : ∀ (kind k1 n1 q m' : Int), opsOf kind ≠ -1 → RdOk l q m' → m' ≤ m + 3 → Tot (L_spec_l1Draw_0_foo n n d kind 0 l q 0 0 [] k1 n1 []) (IsDraw (1 + 4 * K) l (m + 3 + 4 * M)) := by
    intro kind k1 n1 q m' hk hq hm'
    have h0 : 0 ≤ opsOf kind := by
      unfold opsOf at hk ⊢; repeat' split
      all_goals first | omega | (exfalso; simp_all)
    have h4 := ops_le kind
    obtain ⟨g, hg⟩ : ∃ g : Nat, opsOf kind = g := ⟨(opsOf kind).toNat, by omega⟩
    have hgM : (g : Int) * M ≤ 4 * M := Int.mul_le_mul_of_nonneg_right (by omega) hM.1
    have hgK : g * K ≤ 4 * K := Nat.mul_le_mul_right K (by omega)
    have := draw_loop Q hQ n (by omega) l d kind K M (fun p q => ih n (by omega) p q) hM hd hK 0 0 [] k1 n1 g n 0 q m' [] (by omega) (.inl (by omega)) (by omega) (by omega) hq (by omega) rfl
    refine tot_mono this ?_
    rintro _ ⟨u, q, rfl, hu, hq⟩
    exact ⟨u, q, rfl, by simp only [T.sizeL] at hu; omega, hq.mono (by omega)⟩
  have hk1 : ∀ v : Int, v ∈ ([1, 5, 4, 8, 9, 3, 6, 7, 11, 15, 14, 10, 12, 13, 16, 2] : List Int) → opsOf v ≠ -1 := fun v hv => by simpa using List.all_eq_true.1 (show (([1, 5, 4, 8, 9, 3, 6, 7, 11, 15, 14, 10, 12, 13, 16, 2] : List Int).all fun v => decide (opsOf v ≠ -1)) = true by decide +kernel) v hv
  have hk2 : ∀ v : Int, v ∈ ([1, 7, 6, 2, 1] : List Int) → opsOf v ≠ -1 := fun v hv => by simpa using List.all_eq_true.1 (show (([1, 7, 6, 2, 1] : List Int).all fun v => decide (opsOf v ≠ -1)) = true by decide +kernel) v hv
  rw [E_spec_l1Draw]
  refine tot_call (t_num (by omega) hr (by omega) (by simp) (by simp)) ?_
  rintro _ ⟨v, p1, rfl, hv, hr1⟩
  simp only [evt]
  refine tot_cond (fun _ => ?_) (fun _ => ?_)
  · refine tot_call (t_num (by omega) hr1 (by omega) (by simp) (by simp)) ?_
    rintro _ ⟨v2, p2, rfl, hv2, hr2⟩
    simp only [evt, f_l1Most (show 1 ≤ n by omega)]
    refine tot_cond (fun _ => ?_) (fun _ => ?_)
    · refine tot_call (t_num (by omega) hr2 (by omega) (by simp) (by simp)) ?_
      rintro _ ⟨v3, p3, rfl, hv3, hr3⟩
      simp only [evt]
      exact fin _ _ _ _ _ (hk2 _ hv2) hr3 (by omega)
    · exact fin _ _ _ _ _ (hk2 _ hv2) hr2 (by omega)
  · simp only [f_l1Most (show 1 ≤ n by omega), evt]
    refine tot_cond (fun _ => ?_) (fun _ => ?_)
    · refine tot_call (t_num (by omega) hr1 (by omega) (by simp) (by simp)) ?_
      rintro _ ⟨v3, p3, rfl, hv3, hr3⟩
      simp only [evt]
      exact fin _ _ _ _ _ (hk1 _ hv) hr3 (by omega)
    · exact fin _ _ _ _ _ (hk1 _ hv) hr1 (by omega)
/-- Depths 1 to 4. -/
theorem t_l1Draw1 {n : Nat} (hn : 20 ≤ n) {l : List UInt8} {d : Int} (hd : -10 ≤ d ∧ d ≤ 1) {p m : Int} (hr : RdOk l p m) (hm : m ≤ 900000000000) : Tot (FF n 131 [.one (.ptr 0 0), nt d] [rdr l p]) (IsDraw 1 l (m + 3)) := by
  refine tot_step (C := 19) (by omega) fun n hn e => ?_
  have fin : ∀ (kind k1 n1 q m' : Int), opsOf kind = 0 → RdOk l q m' → m' ≤ m + 3 → Tot (L_spec_l1Draw_0_foo n n d kind 0 l q 0 0 [] k1 n1 []) (IsDraw 1 l (m + 3)) := by
    intro kind k1 n1 q m' hk hq hm'
    obtain ⟨c, rfl⟩ : ∃ c, n = c + 1 := ⟨n - 1, by omega⟩
    rw [L_spec_l1Draw_0_foo_eq, f_l1Kids (by omega), hk]
    simp only [evt]
    refine tot_cond (fun h => by simp at h) (fun _ => tot_some ?_)
    exact ⟨.mk k1 n1 [], q, rfl, by simp [T.size, T.sizeL], hq.mono (by omega)⟩
  have hk2 : ∀ v : Int, v ∈ ([1, 7, 6, 2, 1] : List Int) → opsOf v = 0 := fun v hv => by simpa using List.all_eq_true.1 (show (([1, 7, 6, 2, 1] : List Int).all fun v => decide (opsOf v = 0)) = true by decide +kernel) v hv
  rw [E_spec_l1Draw]
  refine tot_call (t_num (by omega) hr (by omega) (by simp) (by simp)) ?_
  rintro _ ⟨v, p1, rfl, hv, hr1⟩
  simp only [evt]
  rw [decide_eq_true (show d < 2 by omega), cond_true]
  refine tot_call (t_num (by omega) hr1 (by omega) (by simp) (by simp)) ?_
  rintro _ ⟨v2, p2, rfl, hv2, hr2⟩
  simp only [evt, f_l1Most (show 1 ≤ n by omega)]
  refine tot_cond (fun _ => ?_) (fun _ => ?_)
  · refine tot_call (t_num (by omega) hr2 (by omega) (by simp) (by simp)) ?_
    rintro _ ⟨v3, p3, rfl, hv3, hr3⟩
    simp only [evt]
    exact fin _ _ _ _ _ (hk2 _ hv2) hr3 (by omega)
  · exact fin _ _ _ _ _ (hk2 _ hv2) hr2 (by omega)
theorem draw_weaken {o : OR} {z z' : Nat} {l : List UInt8} {m m' : Int} (h : Tot o (IsDraw z l m)) (hz : z ≤ z') (hm : m ≤ m') : Tot o (IsDraw z' l m') :=
  tot_mono h fun r ⟨t, p, e, h1, h2⟩ => ⟨t, p, e, Nat.le_trans h1 hz, h2.mono hm⟩
theorem t_l1Draw2 {n : Nat} (hn : 40 ≤ n) {l : List UInt8} {p m : Int} (hr : RdOk l p m) (hm : m ≤ 800000000000) : Tot (FF n 131 [.one (.ptr 0 0), nt 2] [rdr l p]) (IsDraw 5 l (m + 15)) :=
  draw_weaken (t_l1Draw_step 900000000000 (by omega) (by omega) l 2 1 3 (by omega) (by omega) (by omega) (by omega) (fun k hk p q hr hq => t_l1Draw1 (by omega) (by omega) hr hq) hr (by omega)) (by omega) (by omega)
theorem t_l1Draw3 {n : Nat} (hn : 60 ≤ n) {l : List UInt8} {p m : Int} (hr : RdOk l p m) (hm : m ≤ 700000000000) : Tot (FF n 131 [.one (.ptr 0 0), nt 3] [rdr l p]) (IsDraw 21 l (m + 63)) :=
  draw_weaken (t_l1Draw_step 800000000000 (by omega) (by omega) l 3 5 15 (by omega) (by omega) (by omega) (by omega) (fun k hk p q hr hq => t_l1Draw2 (by omega) hr hq) hr (by omega)) (by omega) (by omega)
theorem t_l1Draw4 {n : Nat} (hn : 80 ≤ n) {l : List UInt8} {p m : Int} (hr : RdOk l p m) (hm : m ≤ 600000000000) : Tot (FF n 131 [.one (.ptr 0 0), nt 4] [rdr l p]) (IsDraw 85 l (m + 255)) :=
  draw_weaken (t_l1Draw_step 700000000000 (by omega) (by omega) l 4 21 63 (by omega) (by omega) (by omega) (by omega) (fun k hk p q hr hq => t_l1Draw3 (by omega) hr hq) hr (by omega)) (by omega) (by omega)
/-- A drawn valid term. -/
abbrev IsDrawV (l : List UInt8) (m : Int) (r : List V1 × List AObj) : Prop := ∃ (t : T) (p : Int), r = ([tm t], [rdr l p]) ∧ validB t = true ∧ RdOk l p m
theorem zero_valid : validB (.mk 7 0 []) = true := by decide +kernel
theorem t_l1Any {n : Nat} (hn : 500 ≤ n) {l : List UInt8} {p m : Int} (hr : RdOk l p m) (hm : m ≤ 500000000000) : Tot (FF n 98 [.one (.ptr 0 0)] [rdr l p]) (IsDrawV l (m + 256)) := by
  refine tot_step (C := 499) (by omega) fun n hn e => ?_
  rw [E_spec_l1Any]
  refine tot_call (t_num (by omega) hr (by omega) (by simp) (by simp)) ?_
  rintro _ ⟨v, p1, rfl, hv, hr1⟩
  simp only [evt]
  have hd : Tot (FF n 131 [.one (.ptr 0 0), nt v] [rdr l p1]) (IsDraw 85 l (m + 256)) := by
    simp only [List.mem_cons, List.not_mem_nil, or_false] at hv
    rcases hv with rfl | rfl | rfl | rfl | rfl
    · exact draw_weaken (t_l1Draw3 (by omega) hr1 (by omega)) (by omega) (by omega)
    · exact draw_weaken (t_l1Draw4 (by omega) hr1 (by omega)) (by omega) (by omega)
    · exact draw_weaken (t_l1Draw2 (by omega) hr1 (by omega)) (by omega) (by omega)
    · exact draw_weaken (t_l1Draw3 (by omega) hr1 (by omega)) (by omega) (by omega)
    · exact draw_weaken (t_l1Draw1 (by omega) (by omega) hr1 (by omega)) (by omega) (by omega)
  refine tot_call hd ?_
  rintro _ ⟨t, p2, rfl, hz, hr2⟩
  simp only [evt, f_TermValidS (show t.size + 6 ≤ n by omega) (show t.size ≤ 4000000 by omega)]
  refine tot_cond (fun h => tot_some ?_) (fun _ => ?_)
  · exact ⟨t, p2, rfl, h, hr2⟩
  · simp only [f_l1Leaf (show 1 ≤ n by omega), evt]
    refine tot_some ?_
    exact ⟨.mk 7 0 [], p2, rfl, zero_valid, hr2⟩
theorem set_size (ts : List T) (v : T) (h : 0 < ts.length) : T.sizeL (ts.set 0 v) ≤ T.sizeL ts + v.size := by
  match ts, h with
  | t :: ts, _ => simp only [List.set_cons_zero, T.sizeL]; omega
theorem snoc_size (ts : List T) (v : T) : T.sizeL (ts ++ [v]) = T.sizeL ts + v.size := by
  induction ts with
  | nil => simp [T.sizeL]
  | cons x ts ih => simp only [List.cons_append, T.sizeL, ih]; omega
theorem t_l1Mutate {n : Nat} {t : T} (hz : t.size ≤ 500000) (hn : t.size + 500 ≤ n) {l : List UInt8} {p m : Int} (hr : RdOk l p m) (hm : m ≤ 500000000000) : Tot (FF n 102 [.one (.ptr 0 0), tm t] [rdr l p]) (IsDraw (t.size + 2) l (m + 2)) := by
  refine tot_step (C := t.size + 499) (by omega) fun n hn e => ?_
  have hsz := T.size_eq t
  have hl := T.sizeL_len t.kids
  rw [E_spec_l1Mutate, f_l1Copy t (by omega) (by omega)]
  simp only [evt]
  refine tot_call (t_pick (by omega) hr (by omega) (by omega)) ?_
  rintro _ ⟨v, p1, rfl, hv0, hv1, hr1⟩
  have hap : roomB (t.kids ++ [T.mk 7 0 []]).length = true := roomB_ok (by simp; omega)
  have hs1 := snoc_size t.kids (.mk 7 0 [])
  have hs2 := set_size t.kids (.mk 1 25 [])
  have hz7 : (T.mk 7 0 []).size = 1 := rfl
  have hz1 : (T.mk 1 25 []).size = 1 := rfl
  rw [hz7] at hs1
  rw [hz1] at hs2
  simp (disch := simp) only [evt, f_l1Leaf (show 1 ≤ n by omega), f_l1Node (show 1 ≤ n by omega), hap]
  repeat' (first | (simp (disch := omega) only [wrap64]; done) | (simp (disch := omega) only [wrap64]) | (with_reducible refine tot_cond (fun hq => ?_) (fun hq => ?_) <;> (try simp (disch := omega) only [wrap64] at hq) <;> (try simp only [decide_eq_true_eq, decide_eq_false_iff_not, Bool.not_eq_true', Bool.not_eq_false', Bool.and_eq_true, Bool.and_eq_false_iff, inB, Bool.not_true, Bool.not_false] at hq) <;> try (exfalso; omega; done)) | (with_reducible refine tot_call (t_num (by omega) hr1 (by omega) (by simp) (by simp)) ?_; rintro _ ⟨w, p2, rfl, hw, hr2⟩; simp only [evt]) | ((with_reducible refine tot_some ?_); (exact ⟨.mk w t.n t.kids, _, rfl, by simp only [T.size]; omega, hr2.mono (by omega)⟩)) | ((with_reducible refine tot_some ?_); (exact ⟨.mk t.k w t.kids, _, rfl, by simp only [T.size]; omega, hr2.mono (by omega)⟩)) | ((with_reducible refine tot_some ?_); (exact ⟨t, _, rfl, by omega, hr1.mono (by omega)⟩)) | ((with_reducible refine tot_some ?_); (exact ⟨.mk t.k t.n (t.kids ++ [.mk 7 0 []]), _, rfl, by simp only [T.size]; omega, hr1.mono (by omega)⟩)) | ((with_reducible refine tot_some ?_); (exact ⟨.mk 8 0 [t], _, rfl, by simp only [T.size, T.sizeL]; omega, hr1.mono (by omega)⟩)) | ((with_reducible refine tot_some ?_); (exact ⟨.mk t.k t.n (t.kids.set 0 (.mk 1 25 [])), _, rfl, by simp only [T.size]; have := hs2 (by omega); omega, hr1.mono (by omega)⟩)))
theorem all_small (l : List ByteArray) (h : (l.all fun s => decide (s.size ≤ 300)) = true) (s : ByteArray) (hs : s ∈ l) : s.size ≤ 300 := by
  simpa using List.all_eq_true.1 h s hs
end Go.Proofs.YthopkmimhlcjkaaGreat
end
section
/- Applications in the abstract run. -/
set_option linter.unusedVariables false
set_option linter.unusedSimpArgs false
namespace Go.Proofs.YthopkmimhlcjkaaGreat
open Go Go.Ab Go.Dk
/-- Lists that the chapter takes: not too long, of valid terms. -/
def okA (l : List T) : Bool := decide (l.length ≤ 8) && l.all validB
theorem okA_out {l : List T} (h : okA l = true) : l.length ≤ 8 ∧ ∀ t ∈ l, validB t = true := by
  unfold okA at h
  rw [Bool.and_eq_true, decide_eq_true_eq, List.all_eq_true] at h
  exact h
theorem idx_loop (n : Nat) (l : List T) (hl : l.length ≤ 4000000) (h : ∀ t ∈ l, FF n 127 [tm t] [] = some ([bl (!validB t)], [])) :
    ∀ g m (i : Nat), g < m → i + g = l.length → ∃ v, L_slices_IndexFunc_impl_areTerms_1_0 n m l l.length i = some ([nt v], []) ∧ (0 ≤ v ↔ (l.drop i).all validB = false)
  | g, 0, i, hg, _ => by omega
  | 0, m + 1, i, _, hi => by
    rw [L_slices_IndexFunc_impl_areTerms_1_0_eq, List.drop_of_length_le (by omega), decide_eq_false (show ¬ (i : Int) < l.length by omega)]
    exact ⟨-1, rfl, by simp⟩
  | g + 1, m + 1, i, hg, hi => by
    have hlt : i < l.length := by omega
    rw [List.drop_eq_getElem_cons hlt, List.all_cons]
    rw [L_slices_IndexFunc_impl_areTerms_1_0_eq]; simp (disch := omega) only [evt, cond_dec, Int.toNat_natCast, cast1, wrap64, roomB_ok, List.length_append, List.length_cons, List.length_nil, if_pos (show (i : Int) < l.length by omega), if_pos (show 0 ≤ (i : Int) by omega), List.getElem?_eq_getElem hlt, h _ (List.getElem_mem hlt)]
    cases hs : validB l[i] with
    | false => exact ⟨i, rfl, by simp⟩
    | true =>
      simp only [Bool.not_true, cond_false, Bool.true_and]
      exact idx_loop n l hl h g m (i + 1) (by omega) (by omega)
theorem f_areTerms {n : Nat} {l : List T} (hn : 4400000 ≤ n) (hl : l.length ≤ 4000000) (hz : ∀ t ∈ l, t.size ≤ 4000000) : FF n 90 [tms l] [] = some ([bl (okA l)], []) := by
  obtain ⟨n, rfl⟩ : ∃ m, n = m + 3 := ⟨n - 3, by omega⟩
  have hc : ∀ t ∈ l, FF n 127 [tm t] [] = some ([bl (!validB t)], []) := by
    intro t ht
    have := hz t ht
    obtain ⟨n, rfl⟩ : ∃ m, n = m + 1 := ⟨n - 1, by omega⟩
    rw [E_impl_areTerms_1, f_TermValid (by omega)]
    simp only [evt]
  obtain ⟨v, h1, h2⟩ := idx_loop n l hl hc l.length n 0 (by omega) (by omega)
  rw [E_impl_areTerms]
  unfold okA
  by_cases h8 : l.length ≤ 8
  · rw [decide_eq_true (show (l.length : Int) ≤ 8 by omega), decide_eq_true h8, E_slices_ContainsFunc_impl_areTerms_1, E_slices_IndexFunc_impl_areTerms_1]
    rw [show (L_slices_IndexFunc_impl_areTerms_1_0 n n l l.length 0) = _ from h1]
    simp only [evt]
    rw [List.drop_zero] at h2
    cases ha : l.all validB with
    | true =>
      rw [ha] at h2
      have : ¬ (0 : Int) ≤ v := fun hh => by have := h2.1 hh; cases this
      rw [decide_eq_false this]; rfl
    | false =>
      rw [ha] at h2
      rw [decide_eq_true (h2.2 rfl)]; rfl
  · rw [decide_eq_false (show ¬ (l.length : Int) ≤ 8 by omega), decide_eq_false h8]; rfl
theorem fits_loop (n : Nat) (l : List T) (hl : l.length ≤ 4000000) (h : ∀ t ∈ l, FF n 68 [tm t] [] = some ([bl (validB t)], [])) :
    ∀ g m (i : Nat), g < m → i + g = l.length → L_spec_l5Fits_0 n m l i = some ([bl ((l.drop i).all validB && decide (l.length ≤ 8))], [])
  | g, 0, i, hg, _ => by omega
  | 0, m + 1, i, _, hi => by
    rw [L_spec_l5Fits_0_eq, List.drop_of_length_le (by omega), decide_eq_false (show ¬ (i : Int) < l.length by omega)]
    have : decide ((l.length : Int) ≤ 8) = decide (l.length ≤ 8) := decide_eq_decide.2 (by omega)
    simp [this]
  | g + 1, m + 1, i, hg, hi => by
    have hlt : i < l.length := by omega
    rw [List.drop_eq_getElem_cons hlt, List.all_cons]
    rw [L_spec_l5Fits_0_eq]; simp (disch := omega) only [evt, cond_dec, Int.toNat_natCast, cast1, wrap64, roomB_ok, List.length_append, List.length_cons, List.length_nil, if_pos (show (i : Int) < l.length by omega), if_pos (show 0 ≤ (i : Int) by omega), List.getElem?_eq_getElem hlt, h _ (List.getElem_mem hlt)]
    cases hs : validB l[i] with
    | false => simp
    | true =>
      simp only [Bool.not_true, cond_false, Bool.true_and]
      exact fits_loop n l hl h g m (i + 1) (by omega) (by omega)
theorem f_l5Fits {n : Nat} {l : List T} (hn : 4400000 ≤ n) (hl : l.length ≤ 4000000) (hz : ∀ t ∈ l, t.size ≤ 4000000) : FF n 64 [tms l] [] = some ([bl (okA l)], []) := by
  obtain ⟨n, rfl⟩ := pos_succ (show 0 < n by omega)
  rw [E_spec_l5Fits]
  have := fits_loop n l hl (fun t ht => f_TermValidS (by have := hz t ht; omega) (hz t ht)) l.length n 0 (by omega) (by omega)
  rw [List.drop_zero] at this
  unfold okA
  rw [Bool.and_comm]
  exact this
/-! Applications. -/
theorem sizeL_le {l : List T} {k : Nat} (h : ∀ t ∈ l, t.size ≤ k) : T.sizeL l ≤ l.length * k := by
  induction l with
  | nil => simp [T.sizeL]
  | cons t l ih =>
    rw [T.sizeL, List.length_cons, Nat.add_mul, Nat.one_mul]
    have h1 := h t (List.mem_cons_self ..)
    have h2 := ih fun u hu => h u (List.mem_cons_of_mem _ hu)
    omega
theorem okT_valid' {t : T} (h : validB t = true) : okT t = t := if_pos h
end Go.Proofs.YthopkmimhlcjkaaGreat
end
section
/- What the public functions about types answer, from the inferences. No program in sight. -/
set_option linter.unusedVariables false
set_option linter.unusedSimpArgs false
namespace Go.Proofs.YthopkmimhlcjkaaGreat
namespace Tm
variable {O : Orc}
section
variable (O : Orc)
open Classical in
noncomputable def tI (G : List Tm) (t : Tm) : Rs := if h : ∃ r, Is (fun n => inI O n G t) r then h.choose else .opn
open Classical in
noncomputable def tS (G : List Tm) (t : Tm) : Rs := if h : ∃ r, Is (fun n => inS O n G t) r then h.choose else .opn
/-- The level that a type's type gives. -/
def lvr (x : Rs) : Rs := (lvl O (some x)).getD .opn
def ckr (x : Rs) (w : Tm) : Rs := (chk O (some x) w).getD .opn
/-- The check of a context. -/
def cc (f : List Tm → Tm → Rs) : List Tm → Rs
  | [] => .ok nat
  | A :: G => match cc f G with
    | .ok _ => lvr O (f G A)
    | r => r
def pt (f : List Tm → Tm → Rs) (G : List Tm) (t : Tm) : Rs := match cc O f G with
  | .ok _ => f G t
  | r => r
def ps (f : List Tm → Tm → Rs) (G : List Tm) (t : Tm) : Rs := match cc O f G with
  | .ok _ => lvr O (f G t)
  | r => r
def pc (f : List Tm → Tm → Rs) (G : List Tm) (t A : Tm) : Rs := match ps O f G A with
  | .ok _ => ckr O (f G t) A
  | r => r
end
theorem tI_is {G : List Tm} {t : Tm} {r : Rs} (h : Is (fun n => inI O n G t) r) : tI O G t = r := by
  have e : ∃ r, Is (fun n => inI O n G t) r := ⟨r, h⟩
  rw [tI, dif_pos e]; exact e.choose_spec.uniq h
theorem tS_is {G : List Tm} {t : Tm} {r : Rs} (h : Is (fun n => inS O n G t) r) : tS O G t = r := by
  have e : ∃ r, Is (fun n => inS O n G t) r := ⟨r, h⟩
  rw [tS, dif_pos e]; exact e.choose_spec.uniq h
theorem tI_get (k : OrcOk O) {G : List Tm} (w : Wf G) (t : Tm) : Is (fun n => inI O n G t) (tI O G t) := by
  obtain ⟨r, h⟩ := inI_end k w t
  rw [tI_is h]; exact h
theorem lvr_eq (x : Rs) : lvl O (some x) = some (lvr O x) := by
  unfold lvr
  cases h : lvl O (some x) with
  | some r => rfl
  | none =>
    exfalso
    unfold lvl frm sq at h
    cases x with
    | ok s =>
      simp only at h
      cases hs : O.hn s <;> rw [hs] at h <;> simp only at h <;> first | (cases h; done) | (split at h <;> cases h)
    | bad => cases h
    | opn => cases h
theorem lvr_ok (k : OrcOk O) {x : Rs} {h : Tm} (e : lvr O x = .ok h) : ∃ s i, x = .ok s ∧ h = sort i ∧ Wh s (sort i) := by
  obtain ⟨s, i, e1, e2, e3⟩ := lvl_ok k ((lvr_eq x).trans (congrArg some e))
  exact ⟨s, i, Option.some.inj e1, e2, e3⟩
theorem tI_al (k : OrcOk O) {G : List Tm} (w : Wf G) {t A : Tm} (h : tI O G t = .ok A) : Al G t A := isI_al k (h ▸ tI_get k w t)
theorem tI_vd (k : OrcOk O) {G : List Tm} (w : Wf G) {t A : Tm} (v : O.vd t = true) (h : tI O G t = .ok A) : O.vd A = true := by
  obtain ⟨N, hN⟩ := tI_get k w t
  exact inI_vd k v ((hN N (Nat.le_refl N)).trans (congrArg some h))
theorem ccI_wf (k : OrcOk O) : ∀ {G : List Tm} {A : Tm}, cc O (tI O) G = .ok A → Wf G
  | [], _, _ => .nil
  | B :: G, A, h => by
    unfold cc at h
    split at h
    · rename_i e
      have w := ccI_wf k e
      obtain ⟨N, hN⟩ := tI_get k w B
      have e2 : Is (fun n => lvl O (inI O n G B)) (.ok A) := ⟨N, fun n hn => by show lvl O (inI O n G B) = _; rw [show inI O n G B = _ from hN n hn, lvr_eq, h]⟩
      exact isI_lvl k w e2
    · rename_i e; exact absurd h (e A)
theorem ptI_wf (k : OrcOk O) {G : List Tm} {t A : Tm} (h : pt O (tI O) G t = .ok A) : Wf G ∧ tI O G t = .ok A ∧ ∃ B, cc O (tI O) G = .ok B := by
  unfold pt at h
  split at h
  · rename_i e; exact ⟨ccI_wf k e, h, _, e⟩
  · rename_i e; exact absurd h (e A)
theorem psI_wf (k : OrcOk O) {G : List Tm} {t A : Tm} (h : ps O (tI O) G t = .ok A) : Wf G ∧ lvr O (tI O G t) = .ok A ∧ ∃ B, cc O (tI O) G = .ok B := by
  unfold ps at h
  split at h
  · rename_i e; exact ⟨ccI_wf k e, h, _, e⟩
  · rename_i e; exact absurd h (e A)
/-- Typed terms. -/
theorem tI_typed (k : OrcOk O) {G : List Tm} {t A : Tm} (w : Wf G) (hl : G.length ≤ 20) (v : O.vd t = true) (h : Ty G t A) : tI O G t = tS O G t ∧ tI O G t ≠ .bad ∧ ∀ B, tI O G t = .ok B → Ty G t B ∧ Conv B A := by
  obtain ⟨r, h1, h2, h3, h4⟩ := inI_typed k w hl v h
  rw [tI_is h1, tS_is h2]
  exact ⟨rfl, h3, h4⟩
end Tm
end Go.Proofs.YthopkmimhlcjkaaGreat
end
section
/- The public functions about types in the abstract run: contexts. -/
set_option linter.unusedVariables false
set_option linter.unusedSimpArgs false
namespace Go.Proofs.YthopkmimhlcjkaaGreat
open Go Go.Ab Go.Dk
open Tm (Rs sq frm lvl chk fam made inI inS tI tS lvr ckr cc Wf)
/-- What is given back: a term and a status. -/
def zr : Rs → T
  | .ok t => of t
  | _ => .mk 0 0 []
def sts : Rs → Int
  | .ok _ => 0
  | .bad => 1
  | .opn => 2
def lvn : Rs → Int
  | .ok t => Tm.lv t
  | _ => 0
theorem rsh_out {h : List AObj} {o : OR} {r : Rs} (k : RSh h o r) : ∃ x, o = some ([tm x, nt (sts r)], h) ∧ ∀ t, r = .ok t → x = of t := by
  obtain ⟨x, c, rfl, h2⟩ := k
  cases r with
  | ok t => obtain ⟨rfl, rfl⟩ := h2; exact ⟨_, rfl, fun t e => by cases e; rfl⟩
  | bad => cases h2; exact ⟨_, rfl, fun t e => by cases e⟩
  | opn => cases h2; exact ⟨_, rfl, fun t e => by cases e⟩
theorem rlh_out {h : List AObj} {o : OR} {r : Rs} (k : RLh h o r) : ∃ i, o = some ([nt i, nt (sts r)], h) ∧ ∀ t, r = .ok t → i = lvn r := by
  obtain ⟨i, c, rfl, h2⟩ := k
  cases r with
  | ok t => obtain ⟨rfl, j, rfl, rfl⟩ := h2; exact ⟨_, rfl, fun t e => by cases e; rfl⟩
  | bad => cases h2; exact ⟨_, rfl, fun t e => by cases e⟩
  | opn => cases h2; exact ⟨_, rfl, fun t e => by cases e⟩
theorem rc_out {o : OR} {r : Rs} (k : RC o r) : o = some ([nt (sts r)], []) := by
  obtain ⟨c, rfl, h2⟩ := k
  cases r with
  | ok t => cases h2; rfl
  | bad => cases h2; rfl
  | opn => cases h2; rfl
theorem sts_zero {r : Rs} : sts r = 0 ↔ ∃ t, r = .ok t := by cases r <;> simp [sts]
/-! The program's side. -/
theorem ev_inferI {G : List Tm} {t : Tm} (w : Wf G) (hG : ∀ A ∈ G, vdM A = true) (hl : G.length ≤ 20) (hv : vdM t = true) : ∃ B, 7000500 ≤ B ∧ IvI B (cx G) (of t) (some (tI O G t)) := by
  obtain ⟨N, hN⟩ := Tm.tI_get orcOk w t
  refine ⟨7000500 + 30 * N, by omega, fun m hm r e => ?_⟩
  cases e
  exact f_infer N m G t hm hG hl hv _ (hN N (Nat.le_refl N))
theorem ev_levelI {G : List Tm} {t : Tm} (w : Wf G) (hG : ∀ A ∈ G, vdM A = true) (hl : G.length ≤ 20) (hv : vdM t = true) : ∃ B, ∀ n, B ≤ n → RLh [] (FF n 67 [tms (cx G), tm (of t)] []) (lvr O (tI O G t)) := by
  obtain ⟨B, hB, h⟩ := ev_inferI w hG hl hv
  exact ⟨B + 2, fun n hn => f_level hB hn h (fun s e => Tm.tI_vd orcOk w hv (Option.some.inj e)) _ (Tm.lvr_eq _)⟩
theorem ev_checkI {G : List Tm} {t u : Tm} (w : Wf G) (hG : ∀ A ∈ G, vdM A = true) (hl : G.length ≤ 20) (hv : vdM t = true) (hu : vdM u = true) : ∃ B, ∀ n, B ≤ n → FF n 71 [tms (cx G), tm (of t), tm (of u)] [] = some ([nt (sts (ckr O (tI O G t) u))], []) := by
  obtain ⟨B, hB, h⟩ := ev_inferI w hG hl hv
  refine ⟨B + 2, fun n hn => ?_⟩
  obtain ⟨n, rfl⟩ := pos_succ (show 0 < n by omega)
  have zu := validB_size hu
  rw [E_impl_check]
  obtain ⟨x, eo, hx⟩ := rsh_out (h n (by omega) _ rfl)
  rw [eo]
  simp only [evt]
  cases hr : tI O G t with
  | ok A =>
    have vA : vdM A = true := Tm.tI_vd orcOk w hv hr
    have zA := validB_size vA
    rw [hx A hr]
    simp only [sts, decide_true, Bool.not_true, cond_false]
    have := rc_out (f_converts (n := n) (a := A) (b := u) (by omega) (by omega) (by omega))
    rw [this]
    rfl
  | bad => rfl
  | opn => rfl
theorem cc_err {f : List Tm → Tm → Rs} {H : List Tm} (h : ∀ t, cc O f H ≠ .ok t) : ∀ P : List Tm, cc O f (P ++ H) = cc O f H
  | [] => rfl
  | A :: P => by
    have e := cc_err h P
    rw [List.cons_append, cc, e]
    cases h2 : cc O f H with
    | ok t => exact absurd h2 (h t)
    | bad => rfl
    | opn => rfl
theorem ctx_loopI : ∀ (Q H : List Tm), (∀ A ∈ H, vdM A = true) → (∀ A ∈ Q, vdM A = true) → H.length + Q.length ≤ 20 → (∃ t, cc O (tI O) H = .ok t) → ∃ B, ∀ n, B ≤ n → ∀ m, Q.length < m →
    L_impl_CheckContext_2 n m (cx H ++ Q.map of) (cx H ++ Q.map of) (H.length + Q.length : Nat) (H.length : Nat) = some ([nt (sts (cc O (tI O) (Q.reverse ++ H)))], [])
  | [], H, vH, vQ, hl, ⟨t, ht⟩ => by
    refine ⟨0, fun n hn m hm => ?_⟩
    obtain ⟨m, rfl⟩ := pos_succ (show 0 < m by omega)
    rw [L_impl_CheckContext_2_eq, decide_eq_false (show ¬ ((H.length : Nat) : Int) < ((H.length + ([] : List Tm).length : Nat) : Int) by simp)]
    rw [List.reverse_nil, List.nil_append, ht]; rfl
  | A :: Q, H, vH, vQ, hl, ⟨t, ht⟩ => by
    have w := Tm.ccI_wf orcOk ht
    have vA := vQ A List.mem_cons_self
    have eG : (A :: Q).reverse ++ H = Q.reverse ++ (A :: H) := by simp
    have ex : cx H ++ (A :: Q).map of = cx (A :: H) ++ Q.map of := by simp [cx]
    have hcA : cc O (tI O) (A :: H) = lvr O (tI O H A) := by rw [cc, ht]
    simp only [List.length_cons] at hl
    obtain ⟨B1, h1⟩ := ev_levelI w vH (by omega) vA
    have hget : (cx H ++ (A :: Q).map of)[H.length]? = some (of A) := by
      rw [List.getElem?_append_right (by rw [cx_len]; omega), cx_len, Nat.sub_self]; rfl
    have htk : (cx H ++ (A :: Q).map of).take H.length = cx H := by
      have := List.take_left (l₁ := cx H) (l₂ := (A :: Q).map of)
      rw [cx_len] at this; exact this
    have hlen : (cx H ++ (A :: Q).map of).length = H.length + (Q.length + 1) := by simp [cx_len]
    have step : ∀ n, B1 ≤ n → ∀ m, L_impl_CheckContext_2 n (m + 1) (cx H ++ (A :: Q).map of) (cx H ++ (A :: Q).map of) (H.length + (Q.length + 1) : Nat) (H.length : Nat) =
        cond (!decide (sts (lvr O (tI O H A)) = 0)) (some ([nt (sts (lvr O (tI O H A)))], [])) (L_impl_CheckContext_2 n m (cx H ++ (A :: Q).map of) (cx H ++ (A :: Q).map of) (H.length + (Q.length + 1) : Nat) ((H.length + 1 : Nat) : Int)) := by
      intro n hn m
      obtain ⟨i, eo, _⟩ := rlh_out (h1 n hn)
      rw [L_impl_CheckContext_2_eq, decide_eq_true (show ((H.length : Nat) : Int) < ((H.length + (Q.length + 1) : Nat) : Int) by omega), cond_true, decide_eq_true (show (0 : Int) ≤ ((H.length : Nat) : Int) by omega), cond_true, Int.toNat_natCast, hget]
      simp only [Option.bind_some]
      rw [show Go.Ab.inB 0 ((H.length : Nat) : Int) (cx H ++ (A :: Q).map of).length = true from by rw [hlen]; simp [Go.Ab.inB]; omega, cond_true, htk, show (0 : Int).toNat = 0 from rfl, List.drop_zero]
      have eo : FF n 67 [tms (cx H), .agg [.int .i64 (of A).k, .int .i64 (of A).n, .fr (.ts (of A).kids)]] [] = _ := eo
      rw [eo]
      simp only [evt]
      rw [wrap64 (show -9223372036854775808 ≤ ((H.length : Nat) : Int) + 1 ∧ ((H.length : Nat) : Int) + 1 ≤ 9223372036854775807 by omega)]
      rfl
    cases hr : lvr O (tI O H A) with
    | ok s =>
      obtain ⟨B2, h2⟩ := ctx_loopI Q (A :: H) (fun C hC => by rcases List.mem_cons.1 hC with rfl | hC; exact vA; exact vH C hC) (fun C hC => vQ C (List.mem_cons_of_mem _ hC)) (by simp only [List.length_cons]; omega) ⟨s, hcA.trans hr⟩
      refine ⟨max B1 B2, fun n hn m hm => ?_⟩
      obtain ⟨m, rfl⟩ := pos_succ (show 0 < m by omega)
      simp only [List.length_cons] at hm
      have := h2 n (by omega) m (by omega)
      rw [List.length_cons, step n (by omega), hr, eG, ex]
      simp only [sts, decide_true, Bool.not_true, cond_false]
      rw [List.length_cons, show H.length + 1 + Q.length = H.length + (Q.length + 1) by omega] at this
      exact this
    | bad =>
      refine ⟨B1, fun n hn m hm => ?_⟩
      obtain ⟨m, rfl⟩ := pos_succ (show 0 < m by omega)
      rw [List.length_cons, step n hn, hr, eG, cc_err (fun t e => by rw [hcA, hr] at e; cases e), hcA, hr]; rfl
    | opn =>
      refine ⟨B1, fun n hn m hm => ?_⟩
      obtain ⟨m, rfl⟩ := pos_succ (show 0 < m by omega)
      rw [List.length_cons, step n hn, hr, eG, cc_err (fun t e => by rw [hcA, hr] at e; cases e), hcA, hr]; rfl
theorem cx_inv {l : List T} (h : okA l = true) : ∃ G : List Tm, l = cx G ∧ (∀ A ∈ G, vdM A = true) ∧ G.length ≤ 8 := by
  obtain ⟨hl, hv⟩ := okA_out h
  have : ∀ l : List T, (∀ t ∈ l, validB t = true) → ∃ G : List Tm, l = G.map of ∧ ∀ A ∈ G, vdM A = true := by
    intro l
    induction l with
    | nil => exact fun _ => ⟨[], rfl, fun A hA => by cases hA⟩
    | cons t l ih =>
      intro h
      obtain ⟨G, e, hG⟩ := ih fun u hu => h u (List.mem_cons_of_mem _ hu)
      obtain ⟨m, em⟩ := of_valid (h t List.mem_cons_self)
      refine ⟨m :: G, by rw [e, em]; rfl, fun A hA => ?_⟩
      rcases List.mem_cons.1 hA with rfl | hA
      · have := h t List.mem_cons_self
        rw [em] at this; exact this
      · exact hG A hA
  obtain ⟨G, e, hG⟩ := this l hv
  refine ⟨G.reverse, by rw [e, cx, List.map_reverse, List.reverse_reverse], fun A hA => hG A (List.mem_reverse.1 hA), ?_⟩
  rw [e, List.length_map] at hl
  rw [List.length_reverse]; exact hl
theorem cx_ok {G : List Tm} (h : ∀ A ∈ G, vdM A = true) (hl : G.length ≤ 8) : okA (cx G) = true := by
  unfold okA
  rw [Bool.and_eq_true, decide_eq_true_eq, cx_len, List.all_eq_true]
  refine ⟨hl, fun t ht => ?_⟩
  obtain ⟨A, hA, rfl⟩ := List.mem_map.1 (List.mem_reverse.1 (show t ∈ (G.map of).reverse from ht))
  exact h A hA
theorem vld_loop (n : Nat) (l : List T) (hl : l.length ≤ 4000000) (h : ∀ t ∈ l, FF n 66 [tm t] [] = some ([bl (validB t)], [])) :
    ∀ g m (i : Nat), g < m → i + g = l.length → L_impl_CheckContext_0 n m l l l.length i = cond ((l.drop i).all validB) (L_impl_CheckContext_2 n n l l l.length 0) (some ([nt 3], []))
  | g, 0, i, hg, _ => by omega
  | 0, m + 1, i, _, hi => by
    rw [L_impl_CheckContext_0_eq, List.drop_of_length_le (by omega), decide_eq_false (show ¬ (i : Int) < l.length by omega)]
    rfl
  | g + 1, m + 1, i, hg, hi => by
    have hlt : i < l.length := by omega
    rw [List.drop_eq_getElem_cons hlt, List.all_cons]
    rw [L_impl_CheckContext_0_eq]; simp (disch := omega) only [evt, cond_dec, Int.toNat_natCast, cast1, wrap64, roomB_ok, List.length_append, List.length_cons, List.length_nil, if_pos (show (i : Int) < l.length by omega), if_pos (show 0 ≤ (i : Int) by omega), List.getElem?_eq_getElem hlt, h _ (List.getElem_mem hlt)]
    cases hs : validB l[i] with
    | false => simp
    | true =>
      simp only [Bool.not_true, cond_false, Bool.true_and]
      exact vld_loop n l hl h g m (i + 1) (by omega) (by omega)
/-- The program's check of contexts. -/
theorem f_CheckContextN {n : Nat} {l : List T} (hn : 4400000 ≤ n) (hl : l.length ≤ 4000000) (hz : ∀ t ∈ l, t.size ≤ 4000000) (h : okA l = false) : FF n 28 [tms l] [] = some ([nt 3], []) := by
  obtain ⟨n, rfl⟩ := pos_succ (show 0 < n by omega)
  rw [E_impl_CheckContext]
  by_cases h8 : l.length ≤ 8
  · rw [decide_eq_false (show ¬ (8 : Int) < l.length by omega), cond_false]
    have := vld_loop n l hl (fun t ht => f_TermValid (by have := hz t ht; omega)) l.length n 0 (by omega) (by omega)
    unfold okA at h
    rw [decide_eq_true h8, Bool.true_and] at h
    rw [List.drop_zero, h] at this
    exact this
  · rw [decide_eq_true (show (8 : Int) < l.length by omega)]; rfl
theorem f_CheckContext {G : List Tm} (hG : ∀ A ∈ G, vdM A = true) (hl : G.length ≤ 8) : ∃ B, ∀ n, B ≤ n → FF n 28 [tms (cx G)] [] = some ([nt (sts (cc O (tI O) G))], []) := by
  obtain ⟨B, h⟩ := ctx_loopI G.reverse [] (fun A hA => by cases hA) (fun A hA => hG A (List.mem_reverse.1 hA)) (by simp; omega) ⟨.nat, rfl⟩
  refine ⟨max B 4400000 + 1, fun n hn => ?_⟩
  obtain ⟨n, rfl⟩ := pos_succ (show 0 < n by omega)
  have hz : ∀ t ∈ cx G, t.size ≤ 4000000 := fun t ht => by
    obtain ⟨A, hA, rfl⟩ := List.mem_map.1 (List.mem_reverse.1 (show t ∈ (G.map of).reverse from ht))
    have := validB_size (hG A hA); omega
  have ho := okA_out (cx_ok hG hl)
  have hl' : (cx G).length ≤ 4000000 := by rw [cx_len]; omega
  rw [E_impl_CheckContext, decide_eq_false (show ¬ (8 : Int) < (cx G).length by rw [cx_len]; omega), cond_false]
  have e1 := vld_loop n (cx G) hl' (fun t ht => f_TermValid (by have := hz t ht; omega)) (cx G).length n 0 (by omega) (by omega)
  rw [List.drop_zero, List.all_eq_true.2 ho.2, cond_true] at e1
  have e2 := h n (by omega) n (by rw [List.length_reverse]; omega)
  rw [List.append_nil, List.reverse_reverse] at e2
  have e3 : cx [] ++ G.reverse.map of = cx G := by rw [show cx [] = [] from rfl, List.nil_append, cx, List.map_reverse]
  rw [e3] at e2
  have e4 : ((([] : List Tm).length + G.reverse.length : Nat) : Int) = ((cx G).length : Int) := by rw [cx_len, List.length_reverse]; simp
  rw [e4] at e2
  exact e1.trans e2
end Go.Proofs.YthopkmimhlcjkaaGreat
end
section
/- The public functions about types in the abstract run: terms. -/
set_option linter.unusedVariables false
set_option linter.unusedSimpArgs false
namespace Go.Proofs.YthopkmimhlcjkaaGreat
open Go Go.Ab Go.Dk
open Tm (Rs sq frm lvl chk fam made inI inS tI tS lvr ckr cc pt ps pc Wf)
theorem idx_loopR (n : Nat) (l : List T) (hl : l.length ≤ 4000000) (h : ∀ t ∈ l, FF n 109 [tm t] [] = some ([bl (!validB t)], [])) :
    ∀ g m (i : Nat), g < m → i + g = l.length → ∃ v, L_slices_IndexFunc_impl_ready_1_0 n m l l.length i = some ([nt v], []) ∧ (0 ≤ v ↔ (l.drop i).all validB = false)
  | g, 0, i, hg, _ => by omega
  | 0, m + 1, i, _, hi => by
    rw [L_slices_IndexFunc_impl_ready_1_0_eq, List.drop_of_length_le (by omega), decide_eq_false (show ¬ (i : Int) < l.length by omega)]
    exact ⟨-1, rfl, by simp⟩
  | g + 1, m + 1, i, hg, hi => by
    have hlt : i < l.length := by omega
    rw [List.drop_eq_getElem_cons hlt, List.all_cons]
    rw [L_slices_IndexFunc_impl_ready_1_0_eq]; simp (disch := omega) only [evt, cond_dec, Int.toNat_natCast, cast1, wrap64, roomB_ok, List.length_append, List.length_cons, List.length_nil, if_pos (show (i : Int) < l.length by omega), if_pos (show 0 ≤ (i : Int) by omega), List.getElem?_eq_getElem hlt, h _ (List.getElem_mem hlt)]
    cases hs : validB l[i] with
    | false => exact ⟨i, rfl, by simp⟩
    | true =>
      simp only [Bool.not_true, cond_false, Bool.true_and]
      exact idx_loopR n l hl h g m (i + 1) (by omega) (by omega)
theorem f_ready {n : Nat} {l ts : List T} {c : Int} (hn : 4400000 ≤ n) (hl : ts.length ≤ 4000000) (hz : ∀ t ∈ ts, t.size ≤ 4000000) (h : FF n 28 [tms l] [] = some ([nt c], [])) : FF (n + 1) 69 [tms l, tms ts] [] = some ([nt (if ts.all validB = true then c else 3)], []) := by
  rw [E_impl_ready, h]
  simp only [evt]
  obtain ⟨n, rfl⟩ : ∃ m, n = m + 2 := ⟨n - 2, by omega⟩
  have hc : ∀ t ∈ ts, FF n 109 [tm t] [] = some ([bl (!validB t)], []) := by
    intro t ht
    have := hz t ht
    obtain ⟨n, rfl⟩ : ∃ m, n = m + 1 := ⟨n - 1, by omega⟩
    rw [E_impl_ready_1, f_TermValid (by omega)]
    simp only [evt]
  obtain ⟨v, h1, h2⟩ := idx_loopR n ts hl hc ts.length n 0 (by omega) (by omega)
  rw [E_slices_ContainsFunc_impl_ready_1, E_slices_IndexFunc_impl_ready_1]
  rw [show (L_slices_IndexFunc_impl_ready_1_0 n n ts ts.length 0) = _ from h1]
  simp only [evt]
  rw [List.drop_zero] at h2
  cases ha : ts.all validB with
  | true =>
    rw [ha] at h2
    have : ¬ (0 : Int) ≤ v := fun hh => by have := h2.1 hh; cases this
    rw [decide_eq_false this]; rfl
  | false =>
    rw [ha] at h2
    rw [decide_eq_true (h2.2 rfl)]; rfl
theorem ready_ok {G : List Tm} {ts : List T} (hG : ∀ A ∈ G, vdM A = true) (h8 : G.length ≤ 8) (hl' : ts.length ≤ 4000000) (hz' : ∀ t ∈ ts, t.size ≤ 4000000) (h : ts.all validB = true) : ∃ B, ∀ n, B ≤ n → FF n 69 [tms (cx G), tms ts] [] = some ([nt (sts (cc O (tI O) G))], []) := by
  obtain ⟨B, hB⟩ := f_CheckContext hG h8
  refine ⟨max B 4400000 + 1, fun n hn => ?_⟩
  obtain ⟨n, rfl⟩ := pos_succ (show 0 < n by omega)
  rw [f_ready (by omega) hl' hz' (hB n (by omega)), if_pos h]
/-! Types of terms. -/
theorem f_InferType {G : List Tm} {t : Tm} (hG : ∀ A ∈ G, vdM A = true) (h8 : G.length ≤ 8) (hv : vdM t = true) : ∃ B, ∀ n, B ≤ n → FF n 38 [tms (cx G), tm (of t)] [] = some ([tm (zr (pt O (tI O) G t)), nt (sts (pt O (tI O) G t))], []) := by
  have zt := validB_size hv
  obtain ⟨B, hB⟩ := ready_ok (ts := [of t]) hG h8 (by simp) (by simp; omega) (by have h1 : validB (of t) = true := hv; simp [h1])
  unfold pt
  cases hc : cc O (tI O) G with
  | ok C =>
    have w := Tm.ccI_wf orcOk hc
    obtain ⟨B', hB', h'⟩ := ev_inferI w hG (by omega) hv
    refine ⟨max B B' + 1, fun n hn => ?_⟩
    obtain ⟨n, rfl⟩ := pos_succ (show 0 < n by omega)
    have e1 := hB n (by omega)
    rw [hc] at e1
    rw [E_impl_InferType, show T.mk (of t).k (of t).n (of t).kids = of t from by cases of t; rfl, e1]
    obtain ⟨x, eo, hx⟩ := rsh_out (h' n (by omega) _ rfl)
    simp only [evt, sts]
    have eo : FF n 74 [tms (cx G), .agg [.int .i64 (of t).k, .int .i64 (of t).n, .fr (.ts (of t).kids)]] [] = _ := eo
    rw [eo]
    simp only [evt]
    cases hr : tI O G t with
    | ok A =>
      have vA : vdM A = true := Tm.tI_vd orcOk w hv hr
      have zA := validB_size vA
      rw [hx A hr]
      simp only [sts, decide_true, Bool.not_true, cond_false]
      have := f_own (of A) (n := n) (by omega) (by omega)
      rw [this]; rfl
    | bad => rfl
    | opn => rfl
  | bad =>
    refine ⟨B + 1, fun n hn => ?_⟩
    obtain ⟨n, rfl⟩ := pos_succ (show 0 < n by omega)
    have e1 := hB n (by omega)
    rw [hc] at e1
    rw [E_impl_InferType, show T.mk (of t).k (of t).n (of t).kids = of t from by cases of t; rfl, e1]; rfl
  | opn =>
    refine ⟨B + 1, fun n hn => ?_⟩
    obtain ⟨n, rfl⟩ := pos_succ (show 0 < n by omega)
    have e1 := hB n (by omega)
    rw [hc] at e1
    rw [E_impl_InferType, show T.mk (of t).k (of t).n (of t).kids = of t from by cases of t; rfl, e1]; rfl
/-! Levels. -/
theorem f_SortOf {G : List Tm} {t : Tm} (hG : ∀ A ∈ G, vdM A = true) (h8 : G.length ≤ 8) (hv : vdM t = true) : ∃ B, ∀ n, B ≤ n → FF n 33 [tms (cx G), tm (of t)] [] = some ([nt (lvn (ps O (tI O) G t)), nt (sts (ps O (tI O) G t))], []) := by
  have zt := validB_size hv
  obtain ⟨B, hB⟩ := ready_ok (ts := [of t]) hG h8 (by simp) (by simp; omega) (by have h1 : validB (of t) = true := hv; simp [h1])
  unfold ps
  cases hc : cc O (tI O) G with
  | ok C =>
    have w := Tm.ccI_wf orcOk hc
    obtain ⟨B', h'⟩ := ev_levelI w hG (by omega) hv
    refine ⟨max B B' + 1, fun n hn => ?_⟩
    obtain ⟨n, rfl⟩ := pos_succ (show 0 < n by omega)
    have e1 := hB n (by omega)
    rw [hc] at e1
    rw [E_impl_SortOf, show T.mk (of t).k (of t).n (of t).kids = of t from by cases of t; rfl, e1]
    obtain ⟨x, eo, hx⟩ := rlh_out (h' n (by omega))
    simp only [evt, sts]
    have eo : FF n 67 [tms (cx G), .agg [.int .i64 (of t).k, .int .i64 (of t).n, .fr (.ts (of t).kids)]] [] = _ := eo
    rw [eo]
    simp only [evt]
    cases hr : lvr O (tI O G t) with
    | ok A => rw [hx A hr, hr]; rfl
    | bad => rfl
    | opn => rfl
  | bad =>
    refine ⟨B + 1, fun n hn => ?_⟩
    obtain ⟨n, rfl⟩ := pos_succ (show 0 < n by omega)
    have e1 := hB n (by omega)
    rw [hc] at e1
    rw [E_impl_SortOf, show T.mk (of t).k (of t).n (of t).kids = of t from by cases of t; rfl, e1]; rfl
  | opn =>
    refine ⟨B + 1, fun n hn => ?_⟩
    obtain ⟨n, rfl⟩ := pos_succ (show 0 < n by omega)
    have e1 := hB n (by omega)
    rw [hc] at e1
    rw [E_impl_SortOf, show T.mk (of t).k (of t).n (of t).kids = of t from by cases of t; rfl, e1]; rfl
/-! Types that are given. -/
theorem f_CheckType {G : List Tm} {t u : Tm} (hG : ∀ A ∈ G, vdM A = true) (h8 : G.length ≤ 8) (hv : vdM t = true) (hu : vdM u = true) : ∃ B, ∀ n, B ≤ n → FF n 36 [tms (cx G), tm (of t), tm (of u)] [] = some ([nt (sts (pc O (tI O) G t u))], []) := by
  have zt := validB_size hv
  have zu := validB_size hu
  have eu : T.mk (of u).k (of u).n (of u).kids = of u := by cases of u; rfl
  have et : T.mk (of t).k (of t).n (of t).kids = of t := by cases of t; rfl
  obtain ⟨B, hB⟩ := ready_ok (ts := [of t, of u]) hG h8 (by simp) (by simp; omega) (by have h1 : validB (of t) = true := hv; have h2 : validB (of u) = true := hu; simp [h1, h2])
  unfold pc ps
  cases hc : cc O (tI O) G with
  | ok C =>
    have w := Tm.ccI_wf orcOk hc
    obtain ⟨B', h'⟩ := ev_levelI w hG (by omega) hu
    obtain ⟨B2, h2⟩ := ev_checkI w hG (by omega) hv hu
    refine ⟨max B (max B' B2) + 1, fun n hn => ?_⟩
    obtain ⟨n, rfl⟩ := pos_succ (show 0 < n by omega)
    have e1 := hB n (by omega)
    rw [hc] at e1
    rw [E_impl_CheckType, et, eu, e1]
    obtain ⟨x, eo, hx⟩ := rlh_out (h' n (by omega))
    simp only [evt, sts]
    have eo : FF n 67 [tms (cx G), .agg [.int .i64 (of u).k, .int .i64 (of u).n, .fr (.ts (of u).kids)]] [] = _ := eo
    rw [eo]
    simp only [evt]
    cases hr : lvr O (tI O G u) with
    | ok A =>
      simp only [sts, decide_true, Bool.not_true, cond_false]
      have := h2 n (by omega)
      simp only [tms, tm] at this
      rw [this]; rfl
    | bad => rfl
    | opn => rfl
  | bad =>
    refine ⟨B + 1, fun n hn => ?_⟩
    obtain ⟨n, rfl⟩ := pos_succ (show 0 < n by omega)
    have e1 := hB n (by omega)
    rw [hc] at e1
    rw [E_impl_CheckType, et, eu, e1]; rfl
  | opn =>
    refine ⟨B + 1, fun n hn => ?_⟩
    obtain ⟨n, rfl⟩ := pos_succ (show 0 < n by omega)
    have e1 := hB n (by omega)
    rw [hc] at e1
    rw [E_impl_CheckType, et, eu, e1]; rfl
end Go.Proofs.YthopkmimhlcjkaaGreat
end
section
/- Valid terms are finitely many: what holds from some fuel on for each of them holds from one fuel on for all. No program in sight. -/
set_option linter.unusedVariables false
set_option linter.unusedSimpArgs false
namespace Go.Proofs.YthopkmimhlcjkaaGreat
open Go Go.Dk
def pr2 (l : List Tm) (f : Tm → Tm → Tm) : List Tm := l.flatMap fun a => l.map (f a)
def pr3 (l : List Tm) (f : Tm → Tm → Tm → Tm) : List Tm := l.flatMap fun a => pr2 l (f a)
def pr4 (l : List Tm) (f : Tm → Tm → Tm → Tm → Tm) : List Tm := l.flatMap fun a => pr3 l (f a)
theorem mem2 {l : List Tm} {f : Tm → Tm → Tm} {a b : Tm} (ha : a ∈ l) (hb : b ∈ l) : f a b ∈ pr2 l f := List.mem_flatMap.2 ⟨a, ha, List.mem_map.2 ⟨b, hb, rfl⟩⟩
theorem mem3 {l : List Tm} {f : Tm → Tm → Tm → Tm} {a b c : Tm} (ha : a ∈ l) (hb : b ∈ l) (hc : c ∈ l) : f a b c ∈ pr3 l f := List.mem_flatMap.2 ⟨a, ha, mem2 hb hc⟩
theorem mem4 {l : List Tm} {f : Tm → Tm → Tm → Tm → Tm} {a b c d : Tm} (ha : a ∈ l) (hb : b ∈ l) (hc : c ∈ l) (hd : d ∈ l) : f a b c d ∈ pr4 l f := List.mem_flatMap.2 ⟨a, ha, mem3 hb hc hd⟩
def enum : Nat → List Tm
  | 0 => []
  | d + 1 => (List.range ((mostOf 1).toNat + 1)).map .var ++ ((List.range ((mostOf 2).toNat + 1)).map .sort ++ ([.nat, .zero] ++ ((enum d).map .succ ++ ((enum d).map .refl ++ ((enum d).map .fst ++ ((enum d).map .snd ++
      (pr2 (enum d) .pi ++ (pr2 (enum d) .sig ++ (pr2 (enum d) .lam ++ (pr2 (enum d) .app ++ (pr3 (enum d) .id ++ (pr3 (enum d) .move ++ (pr3 (enum d) .pair ++ pr4 (enum d) .elim)))))))))))))
theorem enum_all : ∀ (d : Nat) (t : Tm), shapeF (of t) d = true → t ∈ enum d
  | 0, t, h => by
    rw [shapeF_eq] at h
    simp at h
  | d + 1, t, h => by
    have ih := enum_all d
    rw [shapeF_eq] at h
    simp only [Bool.and_eq_true, decide_eq_true_eq, Nat.add_sub_cancel] at h
    obtain ⟨_, _, hn, hk⟩ := h
    unfold enum
    cases t with
    | var n =>
      simp only [of, Go.Dk.T.n, Go.Dk.T.k] at hn
      exact List.mem_append.2 (.inl (List.mem_map.2 ⟨n, List.mem_range.2 (by omega), rfl⟩))
    | sort n =>
      simp only [of, Go.Dk.T.n, Go.Dk.T.k] at hn
      exact List.mem_append.2 (.inr (List.mem_append.2 (.inl (List.mem_map.2 ⟨n, List.mem_range.2 (by omega), rfl⟩))))
    | _ =>
      simp only [of, Go.Dk.T.kids, shapeL, Bool.and_true, Bool.and_eq_true] at hk
      simp only [List.mem_append]
      first
        | (simp; done)
        | (have := ih _ hk; simp [this]; done)
        | (have := @mem2 _ Tm.pi _ _ (ih _ hk.1) (ih _ hk.2); simp [this]; done)
        | (have := @mem2 _ Tm.sig _ _ (ih _ hk.1) (ih _ hk.2); simp [this]; done)
        | (have := @mem2 _ Tm.lam _ _ (ih _ hk.1) (ih _ hk.2); simp [this]; done)
        | (have := @mem2 _ Tm.app _ _ (ih _ hk.1) (ih _ hk.2); simp [this]; done)
        | (have := @mem3 _ Tm.id _ _ _ (ih _ hk.1) (ih _ hk.2.1) (ih _ hk.2.2); simp [this]; done)
        | (have := @mem3 _ Tm.move _ _ _ (ih _ hk.1) (ih _ hk.2.1) (ih _ hk.2.2); simp [this]; done)
        | (have := @mem3 _ Tm.pair _ _ _ (ih _ hk.1) (ih _ hk.2.1) (ih _ hk.2.2); simp [this]; done)
        | (have := @mem4 _ Tm.elim _ _ _ _ (ih _ hk.1) (ih _ hk.2.1) (ih _ hk.2.2.1) (ih _ hk.2.2.2); simp [this]; done)
theorem fin_tm : ∃ L : List Tm, ∀ t, vdM t = true → t ∈ L := ⟨enum 30, fun t h => enum_all 30 t (vdM_iff.1 h).1⟩
def enumL (L : List Tm) : Nat → List (List Tm)
  | 0 => [[]]
  | k + 1 => [] :: L.flatMap fun a => (enumL L k).map (a :: ·)
theorem enumL_all (L : List Tm) : ∀ (k : Nat) (G : List Tm), G.length ≤ k → (∀ A ∈ G, A ∈ L) → G ∈ enumL L k
  | 0, [], _, _ => by simp [enumL]
  | 0, A :: G, h, _ => by simp at h
  | k + 1, [], _, _ => by simp [enumL]
  | k + 1, A :: G, h, hG => List.mem_cons_of_mem _ (List.mem_flatMap.2 ⟨A, hG A List.mem_cons_self, List.mem_map.2 ⟨G, enumL_all L k G (by simpa using h) (fun B hB => hG B (List.mem_cons_of_mem _ hB)), rfl⟩⟩)
theorem unif {α : Type} (P : α → Nat → Prop) : ∀ (L : List α), (∀ x ∈ L, ∃ B, ∀ n, B ≤ n → P x n) → ∃ B, ∀ x ∈ L, ∀ n, B ≤ n → P x n
  | [], _ => ⟨0, fun x hx => by cases hx⟩
  | a :: L, h => by
    obtain ⟨B, hB⟩ := h a List.mem_cons_self
    obtain ⟨C, hC⟩ := unif P L fun x hx => h x (List.mem_cons_of_mem _ hx)
    refine ⟨max B C, fun x hx n hn => ?_⟩
    rcases List.mem_cons.1 hx with rfl | hx
    · exact hB n (by omega)
    · exact hC x hx n (by omega)
/-- One fuel for all short contexts of valid terms. -/
theorem unifG (P : List Tm → Nat → Prop) (h : ∀ G : List Tm, (∀ A ∈ G, vdM A = true) → G.length ≤ 8 → ∃ B, ∀ n, B ≤ n → P G n) : ∃ B, ∀ G : List Tm, (∀ A ∈ G, vdM A = true) → G.length ≤ 8 → ∀ n, B ≤ n → P G n := by
  obtain ⟨L, hL⟩ := fin_tm
  obtain ⟨B, hB⟩ := unif (fun G n => (∀ A ∈ G, vdM A = true) → G.length ≤ 8 → P G n) (enumL L 8) fun G _ => by
    by_cases hg : (∀ A ∈ G, vdM A = true) ∧ G.length ≤ 8
    · obtain ⟨B, hB⟩ := h G hg.1 hg.2
      exact ⟨B, fun n hn _ _ => hB n hn⟩
    · exact ⟨0, fun n _ h1 h2 => absurd ⟨h1, h2⟩ hg⟩
  exact ⟨B, fun G hG hl n hn => hB G (enumL_all L 8 G hl fun A hA => hL A (hG A hA)) n hn hG hl⟩
theorem unifT (P : Tm → Nat → Prop) (h : ∀ t, vdM t = true → ∃ B, ∀ n, B ≤ n → P t n) : ∃ B, ∀ t, vdM t = true → ∀ n, B ≤ n → P t n := by
  obtain ⟨L, hL⟩ := fin_tm
  obtain ⟨B, hB⟩ := unif (fun t n => vdM t = true → P t n) L fun t _ => by
    by_cases hv : vdM t = true
    · obtain ⟨B, hB⟩ := h t hv
      exact ⟨B, fun n hn _ => hB n hn⟩
    · exact ⟨0, fun n _ h1 => absurd h1 hv⟩
  exact ⟨B, fun t hv n hn => hB t (hL t hv) n hn hv⟩
end Go.Proofs.YthopkmimhlcjkaaGreat
end
section
/- The public functions about types in the abstract run: one fuel for all inputs. -/
set_option linter.unusedVariables false
set_option linter.unusedSimpArgs false
namespace Go.Proofs.YthopkmimhlcjkaaGreat
open Go Go.Ab Go.Dk
open Tm (Rs sq frm lvl chk fam made inI inS tI tS lvr ckr cc pt ps pc Wf)
structure AtG (G : List Tm) (n : Nat) : Prop where
  ctxI : FF n 28 [tms (cx G)] [] = some ([nt (sts (cc O (tI O) G))], [])
  tyI : ∀ t, vdM t = true → FF n 38 [tms (cx G), tm (of t)] [] = some ([tm (zr (pt O (tI O) G t)), nt (sts (pt O (tI O) G t))], [])
  soI : ∀ t, vdM t = true → FF n 33 [tms (cx G), tm (of t)] [] = some ([nt (lvn (ps O (tI O) G t)), nt (sts (ps O (tI O) G t))], [])
  ctI : ∀ t, vdM t = true → ∀ u, vdM u = true → FF n 36 [tms (cx G), tm (of t), tm (of u)] [] = some ([nt (sts (pc O (tI O) G t u))], [])
theorem all_fuel : ∃ B, ∀ G : List Tm, (∀ A ∈ G, vdM A = true) → G.length ≤ 8 → ∀ n, B ≤ n → AtG G n := by
  refine unifG AtG fun G hG h8 => ?_
  obtain ⟨B1, h1⟩ := f_CheckContext hG h8
  obtain ⟨B3, h3⟩ := unifT _ fun t hv => f_InferType hG h8 hv
  obtain ⟨B5, h5⟩ := unifT _ fun t hv => f_SortOf hG h8 hv
  obtain ⟨B7, h7⟩ := unifT (fun t n => ∀ u, vdM u = true → FF n 36 [tms (cx G), tm (of t), tm (of u)] [] = some ([nt (sts (pc O (tI O) G t u))], [])) fun t hv => by
    obtain ⟨B, h⟩ := unifT _ fun u hu => f_CheckType hG h8 hv hu
    exact ⟨B, fun n hn u hu => h u hu n hn⟩
  exact ⟨max (max B1 B3) (max B5 B7), fun n hn =>
    ⟨h1 n (by omega), fun t hv => h3 t hv n (by omega), fun t hv => h5 t hv n (by omega), fun t hv u hu => h7 t hv n (by omega) u hu⟩⟩
/-- Fuel for all. -/
noncomputable def BB : Nat := max all_fuel.choose 10000000
theorem BB_ge : 10000000 ≤ BB := by unfold BB; omega
theorem at_BB {G : List Tm} (hG : ∀ A ∈ G, vdM A = true) (h8 : G.length ≤ 8) {n : Nat} (hn : BB ≤ n) : AtG G n := all_fuel.choose_spec G hG h8 n (by unfold BB at hn; omega)
/-! What is answered to whatever is given. -/
open Classical in
noncomputable def dec (t : T) : Tm := if h : ∃ m, t = of m then h.choose else .nat
theorem dec_of (m : Tm) : dec (of m) = m := by
  have h : ∃ m', of m = of m' := ⟨m, rfl⟩
  rw [dec, dif_pos h]
  exact (of_inj h.choose_spec).symm
noncomputable def decL (l : List T) : List Tm := (l.map dec).reverse
theorem decL_cx (G : List Tm) : decL (cx G) = G := by
  rw [decL, cx, List.map_reverse, List.reverse_reverse, List.map_map]
  have : dec ∘ of = id := funext dec_of
  rw [this, List.map_id]
noncomputable def itI (l : List T) (t : T) : T × Int := if (okA l && validB t) = true then (zr (pt O (tI O) (decL l) (dec t)), sts (pt O (tI O) (decL l) (dec t))) else (.mk 0 0 [], 3)
noncomputable def soI (l : List T) (t : T) : Int × Int := if (okA l && validB t) = true then (lvn (ps O (tI O) (decL l) (dec t)), sts (ps O (tI O) (decL l) (dec t))) else (0, 3)
noncomputable def ctI (l : List T) (t u : T) : Int := if (okA l && (validB t && validB u)) = true then sts (pc O (tI O) (decL l) (dec t) (dec u)) else 3
noncomputable def coI (l : List T) : Int := if okA l = true then sts (cc O (tI O) (decL l)) else 3
section
variable {n : Nat} {l : List T} {t u : T}
theorem g_CheckContext (hn : BB ≤ n) (hl : l.length ≤ 4000000) (hz : ∀ t ∈ l, t.size ≤ 4000000) : FF n 28 [tms l] [] = some ([nt (coI l)], []) := by
  have := BB_ge
  unfold coI
  cases h : okA l with
  | false => rw [if_neg (by simp)]; exact f_CheckContextN (by omega) hl hz h
  | true =>
    obtain ⟨G, rfl, hG, h8⟩ := cx_inv h
    rw [if_pos rfl, decL_cx]; exact (at_BB hG h8 hn).ctxI
theorem coI_bad (h : okA l = false) : coI l = 3 := by unfold coI; rw [h, if_neg (by simp)]
theorem g_readyN {ts : List T} (hn : BB + 1 ≤ n) (hl : l.length ≤ 4000000) (hz : ∀ t ∈ l, t.size ≤ 4000000) (hl' : ts.length ≤ 4000000) (hz' : ∀ t ∈ ts, t.size ≤ 4000000) (h : (okA l && ts.all validB) = false) : FF n 69 [tms l, tms ts] [] = some ([nt 3], []) := by
  have := BB_ge
  obtain ⟨n, rfl⟩ := pos_succ (show 0 < n by omega)
  rw [f_ready (by omega) hl' hz' (g_CheckContext (by omega) hl hz)]
  cases ha : ts.all validB with
  | true => rw [ha, Bool.and_true] at h; rw [coI_bad h]; rfl
  | false => rfl
theorem g_InferType (hn : BB + 2 ≤ n) (hl : l.length ≤ 4000000) (hz : ∀ t ∈ l, t.size ≤ 4000000) (ht : t.size ≤ 4000000) : FF n 38 [tms l, tm t] [] = some ([tm (itI l t).1, nt (itI l t).2], []) := by
  have := BB_ge
  unfold itI
  cases h : okA l && validB t with
  | false =>
    obtain ⟨n, rfl⟩ := pos_succ (show 0 < n by omega)
    rw [if_neg (by simp), E_impl_InferType, show T.mk t.k t.n t.kids = t from by cases t; rfl, g_readyN (by omega) hl hz (by simp) (by simpa using ht) (by simpa using h)]; rfl
  | true =>
    rw [Bool.and_eq_true] at h
    obtain ⟨G, rfl, hG, h8⟩ := cx_inv h.1
    obtain ⟨m, rfl⟩ := of_valid h.2
    rw [if_pos rfl, decL_cx, dec_of]; exact (at_BB hG h8 (by omega)).tyI m h.2
theorem g_SortOf (hn : BB + 2 ≤ n) (hl : l.length ≤ 4000000) (hz : ∀ t ∈ l, t.size ≤ 4000000) (ht : t.size ≤ 4000000) : FF n 33 [tms l, tm t] [] = some ([nt (soI l t).1, nt (soI l t).2], []) := by
  have := BB_ge
  unfold soI
  cases h : okA l && validB t with
  | false =>
    obtain ⟨n, rfl⟩ := pos_succ (show 0 < n by omega)
    rw [if_neg (by simp), E_impl_SortOf, show T.mk t.k t.n t.kids = t from by cases t; rfl, g_readyN (by omega) hl hz (by simp) (by simpa using ht) (by simpa using h)]; rfl
  | true =>
    rw [Bool.and_eq_true] at h
    obtain ⟨G, rfl, hG, h8⟩ := cx_inv h.1
    obtain ⟨m, rfl⟩ := of_valid h.2
    rw [if_pos rfl, decL_cx, dec_of]; exact (at_BB hG h8 (by omega)).soI m h.2
end
/-! What is inferred is valid; types that are inferred have types. -/
theorem itI_ok {l : List T} {t : T} (h : (itI l t).2 = 0) : ∃ (G : List Tm) (m A : Tm), l = cx G ∧ t = of m ∧ (∀ A ∈ G, vdM A = true) ∧ G.length ≤ 8 ∧ vdM m = true ∧ Wf G ∧ pt O (tI O) G m = .ok A ∧ tI O G m = .ok A ∧ (itI l t).1 = of A ∧ vdM A = true ∧ Tm.Ty G m A := by
  unfold itI at h ⊢
  cases hv : okA l && validB t with
  | false => rw [hv, if_neg (by simp)] at h; simp at h
  | true =>
    rw [hv, if_pos rfl] at h
    rw [if_pos rfl]
    rw [Bool.and_eq_true] at hv
    obtain ⟨G, rfl, hG, h8⟩ := cx_inv hv.1
    obtain ⟨m, rfl⟩ := of_valid hv.2
    rw [decL_cx, dec_of] at h ⊢
    obtain ⟨A, e⟩ := sts_zero.1 h
    obtain ⟨w, e1, _⟩ := Tm.ptI_wf orcOk e
    refine ⟨G, m, A, rfl, rfl, hG, h8, hv.2, w, e, e1, by rw [e]; rfl, Tm.tI_vd orcOk w hv.2 e1, (Tm.tI_al orcOk w e1).sound w⟩
theorem itI_size {l : List T} {t : T} : (itI l t).1.size ≤ 400 := by
  by_cases h : (itI l t).2 = 0
  · obtain ⟨G, m, A, _, _, _, _, _, _, _, _, e, v, _⟩ := itI_ok h
    rw [e]; exact validB_size v
  · have : (itI l t).1 = .mk 0 0 [] := by
      unfold itI at h ⊢
      split
      · rename_i hv
        rw [if_pos hv] at h
        cases e : pt O (tI O) (decL l) (dec t) with
        | ok A => rw [e] at h; exact absurd rfl h
        | bad => rfl
        | opn => rfl
      · rfl
    rw [this]; decide
end Go.Proofs.YthopkmimhlcjkaaGreat
end
section
/- Function types taken apart and put together, in the abstract run. -/
set_option linter.unusedVariables false
set_option linter.unusedSimpArgs false
namespace Go.Proofs.YthopkmimhlcjkaaGreat
open Go Go.Ab Go.Dk
/-! Types over contexts. -/
end Go.Proofs.YthopkmimhlcjkaaGreat
end
section
/- Texts that the reference reads as valid terms: run in the kernel. -/
set_option linter.unusedVariables false
namespace Go.Proofs.YthopkmimhlcjkaaGreat
open Go Go.Ab Go.Dk
/-- The reference reads the text as a valid term. -/
def readsB (r : OR) : Bool := match r with | some (_ :: .one (.bool b) :: _, _) => b | _ => false
set_option maxRecDepth 100000 in
theorem reads0 (n : Nat) : readsB (FF (n + 200) 165 [st (bytesOf [35, 48])] []) = true := by kernel_rfl
set_option maxRecDepth 100000 in
theorem reads1 (n : Nat) : readsB (FF (n + 200) 165 [st (bytesOf [33, 35, 49])] []) = true := by kernel_rfl
set_option maxRecDepth 100000 in
theorem reads2 (n : Nat) : readsB (FF (n + 200) 165 [st (bytesOf [40, 78, 62, 42, 48, 41])] []) = true := by kernel_rfl
set_option maxRecDepth 100000 in
theorem reads3 (n : Nat) : readsB (FF (n + 200) 165 [st (bytesOf [40, 35, 48, 32, 48, 41])] []) = true := by kernel_rfl
end Go.Proofs.YthopkmimhlcjkaaGreat
end
section
/- Drawn contexts and terms: the drawing answers. -/
set_option linter.unusedVariables false
set_option linter.unusedSimpArgs false
namespace Go.Proofs.YthopkmimhlcjkaaGreat
open Go Go.Ab Go.Dk
def szN : Nat → Nat
  | 0 => 1
  | k + 1 => 8 + 3 * szN k
def rdN : Nat → Int
  | 0 => 2
  | k + 1 => 2 + 3 * rdN k
theorem szN_pos : ∀ k, 1 ≤ szN k
  | 0 => by simp [szN]
  | k + 1 => by simp only [szN]; omega
theorem rdN_pos : ∀ k, 2 ≤ rdN k
  | 0 => by simp [rdN]
  | k + 1 => by have := rdN_pos k; simp only [rdN]; omega
theorem t_l1Node {n : Nat} (hn : 1 ≤ n) (k : Int) (l : List T) (hl : l.length ≤ 1099511627776) : Tot (FF n 99 [nt k, tms l] []) (fun r => r = ([tm (.mk k 0 l)], [])) := ⟨_, f_l1Node hn k l hl, rfl⟩
theorem t_l1Leaf {n : Nat} (hn : 1 ≤ n) (k m : Int) : Tot (FF n 100 [nt k, nt m] []) (fun r => r = ([tm (.mk k m [])], [])) := ⟨_, f_l1Leaf hn k m, rfl⟩
theorem t_l5Nat : ∀ (k : Nat) {n : Nat} {l : List UInt8} {p m v d : Int}, 20 * k + 20 ≤ n → (0 ≤ v ∧ v + 2 * k ≤ 1000) → (-10 ≤ d ∧ d ≤ k) → RdOk l p m → m + rdN k ≤ 1000000000 → Tot (FF n 119 [.one (.ptr 0 0), nt v, nt d] [rdr l p]) (IsDraw (szN k) l (m + rdN k))
  | 0, n, l, p, m, v, d, hn, hv, hd, hr, hm => by
    refine tot_step (C := 19) (by omega) fun n hn e => ?_
    rw [E_spec_l5Nat]
    simp only [f_l1Leaf (show 1 ≤ n by omega), evt]
    rw [decide_eq_true (show d < 1 by omega), cond_true]
    simp only [szN, rdN] at hm ⊢
    repeat' (first | (simp (disch := omega) only [wrap64]; done) | (simp (disch := omega) only [wrap64]) | (with_reducible refine tot_cond (fun hq => ?_) (fun hq => ?_) <;> (try simp (disch := omega) only [wrap64] at hq) <;> (try simp only [decide_eq_true_eq, decide_eq_false_iff_not, Bool.not_eq_true', Bool.not_eq_false', Bool.and_eq_true, Bool.and_eq_false_iff, inB, Bool.not_true, Bool.not_false] at hq) <;> try (exfalso; omega; done)) | (with_reducible refine tot_call (t_pick (by omega) hr (by omega) (by omega)) ?_; rintro _ ⟨w, p, rfl, hw, hw2, hr⟩; simp only [evt]) | (with_reducible refine tot_call (t_l1Leaf (by omega) _ _) ?_; rintro _ rfl; simp only [evt]) | ((with_reducible refine tot_some ?_); (exact ⟨.mk 7 0 [], _, rfl, by simp [T.size, T.sizeL], hr.mono (by omega)⟩)) | ((with_reducible refine tot_some ?_); (exact ⟨.mk 1 _ [], _, rfl, by simp [T.size, T.sizeL], hr.mono (by omega)⟩)))
  | k + 1, n, l, p, m, v, d, hn, hv, hd, hr, hm => by
    refine tot_step (C := 20 * k + 39) (by omega) fun n hn e => ?_
    have ih := @t_l5Nat k n l
    have s1 := szN_pos k
    have s2 := rdN_pos k
    rw [E_spec_l5Nat]
    simp only [f_l1Leaf (show 1 ≤ n by omega), evt]
    simp only [szN, rdN] at hm ⊢
    repeat' (first | (simp (disch := omega) only [wrap64]; done) | (simp (disch := omega) only [wrap64]) | (with_reducible refine tot_cond (fun hq => ?_) (fun hq => ?_) <;> (try simp (disch := omega) only [wrap64] at hq) <;> (try simp only [decide_eq_true_eq, decide_eq_false_iff_not, Bool.not_eq_true', Bool.not_eq_false', Bool.and_eq_true, Bool.and_eq_false_iff, inB, Bool.not_true, Bool.not_false] at hq) <;> try (exfalso; omega; done)) | (with_reducible refine tot_call (t_pick (by omega) hr (by omega) (by omega)) ?_; rintro _ ⟨w, p, rfl, hw, hw2, hr⟩; simp only [evt]) | (with_reducible refine tot_call (t_num (by omega) hr (by omega) (by simp) (by simp)) ?_; rintro _ ⟨w, p, rfl, hw, hr⟩; simp only [evt]) | (with_reducible refine tot_call (t_l1Leaf (by omega) _ _) ?_; rintro _ rfl; simp only [evt]) | (with_reducible refine tot_call (t_l1Node (by omega) _ _ (by simp)) ?_; rintro _ rfl; simp only [evt]) | (with_reducible refine tot_call (ih (by omega) (by omega) (by omega) hr (by omega)) ?_; rintro _ ⟨t, p, rfl, hz, hr⟩; simp only [evt]) | ((with_reducible refine tot_some ?_); (exact ⟨.mk 7 0 [], _, rfl, by simp only [T.size, T.sizeL]; omega, hr.mono (by omega)⟩)) | ((with_reducible refine tot_some ?_); (exact ⟨.mk 1 _ [], _, rfl, by simp only [T.size, T.sizeL]; omega, hr.mono (by omega)⟩)) | ((with_reducible refine tot_some ?_); (exact ⟨.mk 5 0 [.mk 4 0 [.mk 6 0 [], _], _], _, rfl, by simp only [T.size, T.sizeL]; omega, hr.mono (by omega)⟩)) | ((with_reducible refine tot_some ?_); (exact ⟨.mk 9 0 [.mk 4 0 [.mk 6 0 [], .mk 6 0 []], _, .mk 4 0 [.mk 6 0 [], .mk 4 0 [.mk 6 0 [], _]], _], _, rfl, by simp only [T.size, T.sizeL]; omega, hr.mono (by omega)⟩)) | ((with_reducible refine tot_some ?_); (exact ⟨.mk _ 0 [.mk 14 0 [.mk 13 0 [.mk 6 0 [], .mk 6 0 []], _, _]], _, rfl, by simp only [T.size, T.sizeL]; omega, hr.mono (by omega)⟩)) | ((with_reducible refine tot_some ?_); (exact ⟨.mk 12 0 [.mk 4 0 [.mk 6 0 [], .mk 6 0 []], .mk 11 0 [_], _], _, rfl, by simp only [T.size, T.sizeL]; omega, hr.mono (by omega)⟩)) | ((with_reducible refine tot_some ?_); (exact ⟨.mk 8 0 [_], _, rfl, by simp only [T.size, T.sizeL]; omega, hr.mono (by omega)⟩)) | ((with_reducible refine tot_some ?_); (exact ⟨_, _, rfl, by omega, hr.mono (by omega)⟩)))
/-- The reference reads every text of a list; at least one is read if the list holds one that it reads. -/
theorem read_loop (n : Nat) (hn : 7000 ≤ n) (ss : List ByteArray) (hs : ∀ s ∈ ss, s.size ≤ 300) (hl : ss.length ≤ 1000) : ∀ (g c i : Nat) (acc : List T), g < c → i + g = ss.length → acc.length ≤ i → (∀ t ∈ acc, validB t = true) →
    Tot (L_spec_l5Read_0 n c ss i acc) (fun r => ∃ ts, r = ([tms ts], []) ∧ (∀ t ∈ ts, validB t = true) ∧ ts.length ≤ ss.length ∧ acc.length ≤ ts.length ∧ ((∃ s ∈ ss.drop i, ∀ k, readsB (FF (k + 200) 165 [st s] []) = true) → ts ≠ []))
  | g, 0, i, acc, hg, _, _, _ => by omega
  | 0, c + 1, i, acc, _, hi, ha, hz => by
    rw [L_spec_l5Read_0_eq, decide_eq_false (show ¬ (i : Int) < ss.length by omega), List.drop_of_length_le (by omega)]
    exact ⟨_, rfl, acc, rfl, hz, by omega, Nat.le_refl _, fun ⟨s, h, _⟩ => by cases h⟩
  | g + 1, c + 1, i, acc, hg, hi, ha, hz => by
    have hlt : i < ss.length := by omega
    have hsz := hs _ (List.getElem_mem hlt)
    rw [L_spec_l5Read_0_eq, decide_eq_true (show (i : Int) < ss.length by omega), decide_eq_true (show 0 ≤ (i : Int) by omega), Int.toNat_natCast, List.getElem?_eq_getElem hlt]
    simp only [cond_true, Option.bind_some]
    obtain ⟨r, e, t, b, rfl, hb1, hb2⟩ := t_ParseTerm (n := n) (s := ss[i]) (by omega) (by omega)
    have w : IntKind.i64.wrap ((i : Int) + 1) = ((i + 1 : Nat) : Int) := wrap64 (by omega)
    rw [e, w]
    simp only [evt]
    rw [List.drop_eq_getElem_cons hlt]
    cases b with
    | true =>
      simp only [cond_true]
      rw [roomB_ok (by simp; omega), cond_true]
      refine tot_mono (read_loop n hn ss hs hl g c (i + 1) (acc ++ [t]) (by omega) (by omega) (by simp; omega) (fun u hu => ?_)) ?_
      · rcases List.mem_append.1 hu with h | h
        · exact hz u h
        · rw [List.mem_singleton.1 h]; exact hb1 rfl
      · rintro _ ⟨ts, rfl, h1, h2, h3, h4⟩
        simp only [List.length_append, List.length_cons, List.length_nil] at h3
        exact ⟨ts, rfl, h1, h2, by omega, fun _ h => by rw [h] at h3; simp at h3⟩
    | false =>
      simp only [cond_false]
      refine tot_mono (read_loop n hn ss hs hl g c (i + 1) acc (by omega) (by omega) (by omega) hz) ?_
      rintro _ ⟨ts, rfl, h1, h2, h3, h4⟩
      refine ⟨ts, rfl, h1, h2, h3, fun ⟨s, hs', hr⟩ => ?_⟩
      rcases List.mem_cons.1 hs' with rfl | h
      · have := hr (n - 200)
        rw [show n - 200 + 200 = n by omega, e] at this
        cases this
      · exact h4 ⟨s, h, hr⟩
theorem t_l5Read {n : Nat} (hn : 7100 ≤ n) (ss : List ByteArray) (hs : ∀ s ∈ ss, s.size ≤ 300) (hl : ss.length ≤ 1000) :
    Tot (FF n 121 [.one (.fr (.ss ss))] []) (fun r => ∃ ts, r = ([tms ts], []) ∧ (∀ t ∈ ts, validB t = true) ∧ ts.length ≤ ss.length ∧ ((∃ s ∈ ss, ∀ k, readsB (FF (k + 200) 165 [st s] []) = true) → ts ≠ [])) := by
  refine tot_step (C := 7099) (by omega) fun n hn e => ?_
  rw [E_spec_l5Read]
  refine tot_mono (read_loop n (by omega) ss hs hl ss.length n 0 [] (by omega) (by omega) (by simp) (by simp)) ?_
  rintro _ ⟨ts, rfl, h1, h2, h3, h4⟩
  exact ⟨ts, rfl, h1, h2, by simpa using h4⟩
theorem t_l5Pairs {n : Nat} (hn : 1 ≤ n) (v : Int) : Tot (FF n 120 [nt v] []) (fun r => ∃ a b, r = ([.one (.fr (.ss a)), .one (.fr (.ss b))], []) ∧ (∀ s ∈ a, s.size ≤ 300) ∧ (∀ s ∈ b, s.size ≤ 300) ∧ a.length ≤ 6 ∧ b.length ≤ 100 ∧ ∃ s ∈ b, ∀ k, readsB (FF (k + 200) 165 [st s] []) = true) := by
  refine tot_step (C := 0) (by omega) fun n hn e => ?_
  rw [E_spec_l5Pairs]
  refine tot_cond (fun _ => ⟨_, rfl, _, _, rfl, all_small _ (by decide +kernel), all_small _ (by decide +kernel), by simp, by simp, _, ?_, reads2⟩) (fun _ => ?_)
  · simp
  refine tot_cond (fun _ => ⟨_, rfl, _, _, rfl, all_small _ (by decide +kernel), all_small _ (by decide +kernel), by simp, by simp, _, ?_, reads1⟩) (fun _ => ?_)
  · simp
  refine tot_cond (fun _ => ⟨_, rfl, _, _, rfl, all_small _ (by decide +kernel), all_small _ (by decide +kernel), by simp, by simp, _, ?_, reads0⟩) (fun _ => ⟨_, rfl, _, _, rfl, all_small _ (by decide +kernel), all_small _ (by decide +kernel), by simp, by simp, _, ?_, reads3⟩)
  · simp
  · simp
/-- A drawn context and a drawn term. -/
abbrev IsCtx (l : List UInt8) (m : Int) (r : List V1 × List AObj) : Prop := ∃ (g : List T) (t : T) (p : Int), r = ([tms g, tm t], [rdr l p]) ∧ validB t = true ∧ (∀ u ∈ g, validB u = true) ∧ g.length ≤ 6 ∧ RdOk l p m
theorem draw5_loop (n : Nat) (hn : 20000 ≤ n) (l : List UInt8) (z1 z2 : Int) (l0 : List T) (v : Nat) (hv : v ≤ 2) : ∀ (g c i : Nat) (p m : Int) (acc : List T), g < c → i + g = v → RdOk l p m → m ≤ 1000 → acc.length = i → (∀ u ∈ acc, validB u = true) →
    Tot (L_spec_l5Draw_0_fo n c v i l p z1 z2 l0 acc) (IsCtx l 1000000)
  | g, 0, i, p, m, acc, hg, _, _, _, _, _ => by omega
  | 0, c + 1, i, p, m, acc, _, hi, hr, hm, ha, hz => by
    rw [L_spec_l5Draw_0_fo_eq, decide_eq_false (show ¬ (i : Int) < v by omega), cond_false]
    refine tot_call (t_num (by omega) hr (by omega) (by simp) (by simp)) ?_
    rintro _ ⟨w, p, rfl, hw, hr⟩
    simp only [evt]
    have hw4 : 0 ≤ w ∧ w ≤ 4 := by
      simp only [List.mem_cons, List.not_mem_nil, or_false] at hw
      omega
    have e0 : szN 4 = 401 := by decide
    have e1 : rdN 4 = 242 := by decide
    refine tot_call (t_l5Nat 4 (by omega) (by omega) (by omega) hr (by omega)) ?_
    rintro _ ⟨t, p, rfl, hz2, hr⟩
    simp only [evt]
    rw [f_TermValidS (show t.size + 6 ≤ n by omega) (by omega)]
    simp only [evt]
    refine tot_cond (fun hq => tot_some ⟨acc, t, p, rfl, hq, hz, by omega, hr.mono (by omega)⟩) (fun _ => ?_)
    refine tot_call (t_pick (by omega) hr (by omega) (by omega)) ?_
    rintro _ ⟨w, p, rfl, hw, hw2, hr⟩
    simp only [evt]
    refine tot_call (t_l5Pairs (by omega) w) ?_
    rintro _ ⟨a, b, rfl, ha1, hb1, ha2, hb2, hx⟩
    simp only [evt]
    refine tot_call (t_l5Read (by omega) b hb1 (by omega)) ?_
    rintro _ ⟨ts, rfl, ht1, ht2, ht3⟩
    simp only [evt]
    refine tot_call (t_l5Read (by omega) a ha1 (by omega)) ?_
    rintro _ ⟨gs, rfl, hg1, hg2, hg3⟩
    simp only [evt]
    have hpos := List.length_pos_iff.2 (ht3 hx)
    refine tot_call (t_pick (by omega) hr (by omega) (by omega)) ?_
    rintro _ ⟨w, p, rfl, hw, hw2, hr⟩
    have hw2 := hw2 (by omega)
    have hlt : w.toNat < ts.length := by omega
    simp only [evt]
    rw [decide_eq_true hw, cond_true, List.getElem?_eq_getElem hlt]
    exact tot_some ⟨gs, ts[w.toNat], p, rfl, ht1 _ (List.getElem_mem hlt), hg1, by omega, hr.mono (by omega)⟩
  | g + 1, c + 1, i, p, m, acc, hg, hi, hr, hm, ha, hz => by
    rw [L_spec_l5Draw_0_fo_eq, decide_eq_true (show (i : Int) < v by omega), cond_true, f_l1Leaf (show 1 ≤ n by omega)]
    simp only [evt]
    have w : IntKind.i64.wrap ((i : Int) + 1) = ((i + 1 : Nat) : Int) := wrap64 (by omega)
    rw [roomB_ok (by simp; omega), cond_true, w]
    have six : validB (.mk 6 0 []) = true := by decide +kernel
    have nx := draw5_loop n hn l z1 z2 l0 v hv g c (i + 1) p m (acc ++ [.mk 6 0 []]) (by omega) (by omega) hr hm (by simp; omega) (by
      intro u hu
      rcases List.mem_append.1 hu with h | h
      · exact hz u h
      · rw [List.mem_singleton.1 h]; exact six)
    with_reducible exact nx
theorem t_l5Draw {n : Nat} (hn : 20001 ≤ n) {l : List UInt8} {p m : Int} (hr : RdOk l p m) (hm : m ≤ 100) : Tot (FF n 79 [.one (.ptr 0 0)] [rdr l p]) (IsCtx l 1000000) := by
  refine tot_step (C := 20000) (by omega) fun n hn e => ?_
  rw [E_spec_l5Draw]
  refine tot_call (t_pick (by omega) hr (by omega) (by omega)) ?_
  rintro _ ⟨w, p, rfl, hw, hw2, hr⟩
  simp only [evt]
  refine tot_cond (fun _ => ?_) (fun _ => ?_)
  · refine tot_call (t_num (by omega) hr (by omega) (by simp) (by simp)) ?_
    rintro _ ⟨w, p, rfl, hw, hr⟩
    simp only [evt]
    obtain ⟨v, rfl, hv⟩ : ∃ v : Nat, w = v ∧ v ≤ 2 := by
      simp only [List.mem_cons, List.not_mem_nil, or_false] at hw
      exact ⟨w.toNat, by omega, by omega⟩
    exact draw5_loop n hn l 0 0 [] v hv v n 0 p _ [] (by omega) (by omega) hr (by omega) rfl (by simp)
  · refine tot_call (t_pick (by omega) hr (by omega) (by omega)) ?_
    rintro _ ⟨w, p, rfl, hw, hw2, hr⟩
    simp only [evt]
    refine tot_call (t_l5Pairs (by omega) w) ?_
    rintro _ ⟨a, b, rfl, ha1, hb1, ha2, hb2, hx⟩
    simp only [evt]
    refine tot_call (t_l5Read (by omega) b hb1 (by omega)) ?_
    rintro _ ⟨ts, rfl, ht1, ht2, ht3⟩
    simp only [evt]
    refine tot_call (t_l5Read (by omega) a ha1 (by omega)) ?_
    rintro _ ⟨gs, rfl, hg1, hg2, hg3⟩
    simp only [evt]
    have hpos := List.length_pos_iff.2 (ht3 hx)
    refine tot_call (t_pick (by omega) hr (by omega) (by omega)) ?_
    rintro _ ⟨w, p, rfl, hw, hw2, hr⟩
    have hw2 := hw2 (by omega)
    have hlt : w.toNat < ts.length := by omega
    simp only [evt]
    rw [decide_eq_true hw, cond_true, List.getElem?_eq_getElem hlt]
    exact tot_some ⟨gs, ts[w.toNat], p, rfl, ht1 _ (List.getElem_mem hlt), hg1, by omega, hr.mono (by omega)⟩
end Go.Proofs.YthopkmimhlcjkaaGreat
end
section
/- Drawn contexts and terms for typing: the drawing answers. -/
set_option linter.unusedVariables false
set_option linter.unusedSimpArgs false
namespace Go.Proofs.YthopkmimhlcjkaaGreat
open Go Go.Ab Go.Dk
/-- A drawn context and a drawn term, either maybe damaged. -/
abbrev IsMut (l : List UInt8) (m : Int) (r : List V1 × List AObj) : Prop := ∃ (g : List T) (t : T) (p : Int), r = ([tms g, tm t], [rdr l p]) ∧ t.size ≤ 1000 ∧ (∀ u ∈ g, validB u = true) ∧ g.length ≤ 10 ∧ RdOk l p m
theorem six_ok : validB (.mk 6 0 []) = true := by decide +kernel
theorem mut_fill (n : Nat) (hn : 20000 ≤ n) (l : List UInt8) (t : T) (ht : t.size ≤ 400) (z1 z2 : Int) (l0 : List T) : ∀ (g c : Nat) (p m : Int) (acc : List T), g < c → acc.length + g = 9 → RdOk l p m → m ≤ 300000000000 → (∀ u ∈ acc, validB u = true) →
    Tot (L_spec_l5Mutate_3_ffo n c l p t.k t.n t.kids z1 z2 l0 acc) (IsMut l (m + 1000))
  | g, 0, p, m, acc, hg, _, _, _, _ => by omega
  | 0, c + 1, p, m, acc, _, ha, hr, hm, hz => by
    rw [L_spec_l5Mutate_3_ffo_eq, decide_eq_false (show ¬ ((acc.length : Nat) : Int) ≤ 8 by omega), cond_false]
    refine tot_call (t_l1Mutate (t := t) (by omega) (by omega) hr (by omega)) ?_
    rintro _ ⟨y, p, rfl, hy, hr⟩
    simp only [evt]
    exact tot_some ⟨acc, y, p, rfl, by omega, hz, by omega, hr.mono (by omega)⟩
  | g + 1, c + 1, p, m, acc, hg, ha, hr, hm, hz => by
    rw [L_spec_l5Mutate_3_ffo_eq, decide_eq_true (show ((acc.length : Nat) : Int) ≤ 8 by omega), cond_true, f_l1Leaf (show 1 ≤ n by omega)]
    simp only [evt]
    rw [roomB_ok (by simp; omega), cond_true]
    have nx := mut_fill n hn l t ht z1 z2 l0 g c p m (acc ++ [.mk 6 0 []]) (by omega) (by simp; omega) hr hm (by
      intro u hu
      rcases List.mem_append.1 hu with h | h
      · exact hz u h
      · rw [List.mem_singleton.1 h]; exact six_ok)
    with_reducible exact nx
theorem mut_copy (n : Nat) (hn : 20000 ≤ n) (l : List UInt8) (t : T) (ht : t.size ≤ 400) (z1 z2 : Int) (l0 : List T) (v0 : List T) (hv : ∀ u ∈ v0, validB u = true) (hl : v0.length ≤ 9) : ∀ (g c i : Nat) (p m : Int), g < c → i + g = v0.length → RdOk l p m → m ≤ 200000000000 →
    Tot (L_spec_l5Mutate_0_ffo n c v0 i l p t.k t.n t.kids z1 z2 l0 (v0.take i)) (IsMut l (m + 3000))
  | g, 0, i, p, m, hg, _, _, _ => by omega
  | 0, c + 1, i, p, m, _, hi, hr, hm => by
    rw [L_spec_l5Mutate_0_ffo_eq, decide_eq_false (show ¬ (i : Int) < v0.length by omega), cond_false, List.take_of_length_le (show v0.length ≤ i by omega)]
    refine tot_call (t_pick (by omega) hr (by omega) (by omega)) ?_
    rintro _ ⟨w, p, rfl, hw, hw2, hr⟩
    simp only [evt]
    have hsz := T.size_eq t
    have hmut : ∀ {p m : Int} {g : List T}, RdOk l p m → m ≤ 300000000000 → g.length ≤ 10 → (∀ u ∈ g, validB u = true) → Tot ((FF n 102 [.one (.ptr 0 0), tm t] [rdr l p]).bind fun x9 => objC x9.2 fun x10 x11 => bsC x10 fun x12 x13 => intC .i64 x13 fun x14 x15 => nilC x15 (rTerm x9.1 fun x16 x17 => nilV x17 (nilO x11 (some ([.one (.fr (.ts g)), .agg [.int .i64 x16.k, .int .i64 x16.n, .fr (.ts x16.kids)]], [.cells [.fr (.bs x12), .int .i64 x14]]))))) (IsMut l (m + 2)) := by
      intro p m g hr hm hg hgv
      refine tot_call (t_l1Mutate (t := t) (by omega) (by omega) hr (by omega)) ?_
      rintro _ ⟨y, p, rfl, hy, hr⟩
      simp only [evt]
      exact tot_some ⟨g, y, p, rfl, by omega, hgv, hg, hr⟩
    refine tot_cond (fun _ => ?_) (fun _ => ?_)
    · refine tot_cond (fun h0 => ?_) (fun _ => ?_)
      · have h0 : (0 : Int) < v0.length := by simpa using h0
        rw [show Go.Ab.inB 1 (v0.length : Int) v0.length = true from by simp [Go.Ab.inB]; omega, cond_true, Int.toNat_natCast, List.take_length, show (1 : Int).toNat = 1 from rfl]
        refine tot_mono (hmut hr (by omega) (by simp; omega) (fun u hu => hv u (List.mem_of_mem_drop hu))) ?_
        rintro _ ⟨g, y, p, rfl, h1, h2, h3, h4⟩
        exact ⟨g, y, p, rfl, h1, h2, h3, h4.mono (by omega)⟩
      · refine tot_mono (hmut hr (by omega) (by omega) hv) ?_
        rintro _ ⟨g, y, p, rfl, h1, h2, h3, h4⟩
        exact ⟨g, y, p, rfl, h1, h2, h3, h4.mono (by omega)⟩
    refine tot_cond (fun _ => ?_) (fun _ => ?_)
    · refine tot_call (t_l1Any (by omega) hr (by omega)) ?_
      rintro _ ⟨x, p, rfl, hxv, hr⟩
      simp only [evt]
      rw [roomB_ok (by simp; omega), cond_true]
      refine tot_mono (hmut hr (by omega) (g := v0 ++ [x]) (by simp; omega) (fun u hu => ?_)) ?_
      · rcases List.mem_append.1 hu with h | h
        · exact hv u h
        · rw [List.mem_singleton.1 h]; exact hxv
      rintro _ ⟨g, y, p, rfl, h1, h2, h3, h4⟩
      exact ⟨g, y, p, rfl, h1, h2, h3, h4.mono (by omega)⟩
    refine tot_cond (fun _ => ?_) (fun _ => ?_)
    · have := mut_fill n hn l t ht z1 z2 l0 (9 - v0.length) n _ _ v0 (by omega) (by omega) hr (by omega) hv
      refine tot_mono this ?_
      rintro _ ⟨g, y, p, rfl, h1, h2, h3, h4⟩
      exact ⟨g, y, p, rfl, h1, h2, h3, h4.mono (by omega)⟩
    refine tot_cond (fun _ => ?_) (fun _ => ?_)
    · refine tot_call (t_l1Any (by omega) hr (by omega)) ?_
      rintro _ ⟨x, p, rfl, hxv, hr⟩
      simp only [evt]
      have := validB_size hxv
      exact tot_some ⟨v0, x, p, rfl, by omega, hv, by omega, hr.mono (by omega)⟩
    refine tot_cond (fun _ => ?_) (fun _ => ?_)
    · refine tot_cond (fun h0 => ?_) (fun _ => ?_)
      · have h0 : (0 : Int) < t.kids.length := by simpa using h0
        refine tot_call (t_pick (by omega) hr (by omega) (by have := T.sizeL_len t.kids; omega)) ?_
        rintro _ ⟨w, p, rfl, hw, hw2, hr⟩
        simp only [evt]
        refine tot_call (t_l1Any (by omega) hr (by omega)) ?_
        rintro _ ⟨x, p, rfl, hxv, hr⟩
        simp only [evt]
        have hx := validB_size hxv
        obtain ⟨j, rfl⟩ : ∃ j : Nat, w = j := ⟨w.toNat, by omega⟩
        have hs := f_l3With (n := n) (t := t) (u := x) (j := j) (by omega) (by omega)
        simp only [tm] at hs
        rw [hs]
        simp only [evt]
        have hsz2 : T.sizeL (t.kids.set j x) ≤ T.sizeL t.kids + x.size := by
          have : ∀ (ks : List T) (j : Nat), T.sizeL (ks.set j x) ≤ T.sizeL ks + x.size := by
            intro ks
            induction ks with
            | nil => intro j; simp [T.sizeL]
            | cons y ks ih =>
              intro j
              cases j with
              | zero => simp only [List.set_cons_zero, T.sizeL]; omega
              | succ j => have := ih j; simp only [List.set_cons_succ, T.sizeL]; omega
          exact this _ _
        exact tot_some ⟨v0, .mk t.k t.n (t.kids.set j x), p, rfl, by simp only [T.size]; omega, hv, by omega, hr.mono (by omega)⟩
      · refine tot_mono (hmut hr (by omega) (by omega) hv) ?_
        rintro _ ⟨g, y, p, rfl, h1, h2, h3, h4⟩
        exact ⟨g, y, p, rfl, h1, h2, h3, h4.mono (by omega)⟩
    · refine tot_mono (hmut hr (by omega) (by omega) hv) ?_
      rintro _ ⟨g, y, p, rfl, h1, h2, h3, h4⟩
      exact ⟨g, y, p, rfl, h1, h2, h3, h4.mono (by omega)⟩
  | g + 1, c + 1, i, p, m, hg, hi, hr, hm => by
    have hlt : i < v0.length := by omega
    have hsz := validB_size (hv _ (List.getElem_mem hlt))
    have w : IntKind.i64.wrap ((i : Int) + 1) = ((i + 1 : Nat) : Int) := wrap64 (by omega)
    rw [L_spec_l5Mutate_0_ffo_eq, decide_eq_true (show (i : Int) < v0.length by omega), cond_true, decide_eq_true (show 0 ≤ (i : Int) by omega), cond_true, Int.toNat_natCast, List.getElem?_eq_getElem hlt, w]
    simp only [Option.bind_some]
    rw [f_l1Copy v0[i] (by omega) (by omega)]
    simp only [evt]
    rw [roomB_ok (by simp; omega), cond_true]
    have nx := mut_copy n hn l t ht z1 z2 l0 v0 hv hl g c (i + 1) p m (by omega) (by omega) hr hm
    rw [← List.take_append_getElem hlt] at nx
    exact nx
theorem t_l5Mutate {n : Nat} (hn : 20001 ≤ n) {g : List T} {t : T} (ht : validB t = true) (hg : ∀ u ∈ g, validB u = true) (hl : g.length ≤ 9) {l : List UInt8} {p m : Int} (hr : RdOk l p m) (hm : m ≤ 200000000000) : Tot (FF n 80 [.one (.ptr 0 0), tms g, tm t] [rdr l p]) (IsMut l (m + 3000)) := by
  refine tot_step (C := 20000) (by omega) fun n hn e => ?_
  rw [E_spec_l5Mutate]
  have := mut_copy n hn l t (validB_size ht) 0 0 [] g hg hl g.length n 0 p m (by omega) (by omega) hr hm
  rw [List.take_zero] at this
  exact this
/-- Drawn: a context and a term. -/
abbrev IsDrawn (r : List V1 × List AObj) : Prop := ∃ (g : List T) (t : T), r = ([tms g, tm t], []) ∧ t.size ≤ 1000 ∧ (∀ u ∈ g, validB u = true) ∧ g.length ≤ 10
theorem t_DrawInferType {n : Nat} (hn : 3000000 ≤ n) (l : List UInt8) : Tot (FF n 44 [.one (.fr (.bs l))] []) IsDrawn := by
  refine tot_step (C := 2999999) (by omega) fun n hn e => ?_
  rw [E_spec_DrawInferType]
  refine tot_call (t_open (by omega) l) ?_
  rintro _ ⟨l', rfl, hr⟩
  simp only [evt]
  refine tot_call (t_l5Draw (by omega) hr (by omega)) ?_
  rintro _ ⟨gs, t, p, rfl, hv, hg, hgl, hr⟩
  simp only [evt]
  refine tot_call (t_l5Mutate (by omega) hv hg (by omega) hr (by omega)) ?_
  rintro _ ⟨g, y, p, rfl, h1, h2, h3, h4⟩
  simp only [evt]
  exact tot_some ⟨g, y, rfl, h1, h2, h3⟩
theorem t_DrawLamOver {n : Nat} (hn : 3000001 ≤ n) (l : List UInt8) : Tot (FF n 51 [.one (.fr (.bs l))] []) IsDrawn := by
  refine tot_step (C := 3000000) (by omega) fun n hn e => ?_
  rw [E_spec_DrawLamOver]
  refine tot_call (t_DrawInferType (by omega) l) ?_
  rintro _ ⟨g, y, rfl, h1, h2, h3⟩
  simp only [evt]
  exact tot_some ⟨g, y, rfl, h1, h2, h3⟩
end Go.Proofs.YthopkmimhlcjkaaGreat
end
section
/- Functions and types over contexts. No program in sight. -/
set_option linter.unusedVariables false
set_option linter.unusedSimpArgs false
namespace Go.Proofs.YthopkmimhlcjkaaGreat
namespace Tm
variable {O : Orc}
/-- Functions over a context. -/
def lo : List Tm → Tm → Tm
  | [], t => t
  | A :: G, t => lo G (lam A t)
def po : List Tm → Tm → Tm
  | [], t => t
  | A :: G, t => po G (pi A t)
theorem lo_ty : ∀ {G : List Tm} {t A : Tm} {i : Nat}, Wf G → Ty G t A → Ty G A (sort i) → Ty [] (lo G t) (po G A)
  | [], _, _, _, _, h, _ => h
  | A :: G, t, B, i, .cons w h1, h, k => lo_ty (G := G) w (.lam h1 h k) (.pi h1 k)
theorem tI_lam (k : OrcOk O) {G : List Tm} {a b X : Tm} (h : Is (fun n => inI O n G (lam a b)) (.ok X)) : ∃ B, X = pi a B ∧ Is (fun n => inI O n (a :: G) b) (.ok B) := by
  obtain ⟨N, h⟩ := h
  have e := h (N + 1) (by omega)
  obtain ⟨x, e1, e2⟩ := sq_ok (show sq (lvl O (inI O N G a)) (fun _ => sq (ext (inI O N) G a b) fun B => sq (made O (pi a B)) fun P => sq (inI O N G P) fun _ => some (.ok P)) = some (.ok X) from e)
  obtain ⟨B, e3, e4⟩ := sq_ok e2
  obtain ⟨P, e5, e6⟩ := sq_ok e4
  obtain ⟨y, e7, e8⟩ := sq_ok e6
  cases e8
  exact ⟨B, (made_ok e5).1, inI_is (ext_ok e3)⟩
theorem tI_lo (k : OrcOk O) : ∀ {G : List Tm} {t X : Tm}, Is (fun n => inI O n [] (lo G t)) (.ok X) → ∃ B, X = po G B ∧ Is (fun n => inI O n G t) (.ok B)
  | [], t, X, h => ⟨X, rfl, h⟩
  | A :: G, t, X, h => by
    obtain ⟨B, rfl, h2⟩ := tI_lo k (G := G) h
    obtain ⟨C, rfl, h3⟩ := tI_lam k h2
    exact ⟨C, rfl, h3⟩
/-- All variables lie below. -/
def cl : Nat → Tm → Prop
  | d, var n => n < d
  | d, sort _ => True
  | d, nat => True
  | d, zero => True
  | d, succ a => cl d a
  | d, refl a => cl d a
  | d, fst a => cl d a
  | d, snd a => cl d a
  | d, pi a b => cl d a ∧ cl (d + 1) b
  | d, sig a b => cl d a ∧ cl (d + 1) b
  | d, lam a b => cl d a ∧ cl (d + 1) b
  | d, app a b => cl d a ∧ cl d b
  | d, id a b c => cl d a ∧ cl d b ∧ cl d c
  | d, move a b c => cl d a ∧ cl d b ∧ cl d c
  | d, pair a b c => cl d a ∧ cl d b ∧ cl d c
  | d, elim a b c e => cl d a ∧ cl d b ∧ cl d c ∧ cl d e
theorem look_lt' : ∀ {G : List Tm} {n : Nat} {A : Tm}, look G n = some A → n < G.length
  | [], n, A, h => by simp [look] at h
  | B :: G, 0, A, h => by simp
  | B :: G, n + 1, A, h => by
    have : ∃ C, look G n = some C := by
      unfold look at h
      cases e : look G n with
      | none => rw [e] at h; simp at h
      | some C => exact ⟨C, rfl⟩
    obtain ⟨C, e⟩ := this
    have := look_lt' e
    simp only [List.length_cons]; omega
theorem Ty.cl {G : List Tm} {t A : Tm} (h : Ty G t A) : cl G.length t := by
  induction h with
  | var h => exact look_lt' h
  | sort h => trivial
  | pi h k ih ik => exact ⟨ih, ik⟩
  | sig h k ih ik => exact ⟨ih, ik⟩
  | lam h k l ih ik il => exact ⟨ih, ik⟩
  | app h k ih ik => exact ⟨ih, ik⟩
  | nat => trivial
  | zero => trivial
  | succ h ih => exact ih
  | elim h k l m ih ik il im => exact ⟨ih, ik, il, im⟩
  | id h k l ih ik il => exact ⟨ih, ik, il⟩
  | refl h k ih ik => exact ih
  | move h k l m ih ik il im => exact ⟨ik, ih, il⟩
  | pair h r q k l ih iq ik il => exact ⟨ih, ik, il⟩
  | fst h ih => exact ih
  | snd h ih => exact ih
  | conv h c k ih ik => exact ih
end Tm
end Go.Proofs.YthopkmimhlcjkaaGreat
end
section
/- Functions over contexts, free variables: in the abstract run. -/
set_option linter.unusedVariables false
set_option linter.unusedSimpArgs false
namespace Go.Proofs.YthopkmimhlcjkaaGreat
open Go Go.Ab Go.Dk
open Tm (Rs inI inS tI tS lvr ckr cc pt ps pc Wf lo po)
def ovF (k : Int) (ps : List T) (t : T) : T := ps.foldr (fun a u => .mk k 0 [a, u]) t
theorem ov_size (k : Int) : ∀ (ps : List T) (t : T), (ovF k ps t).size = t.size + ps.length + T.sizeL ps
  | [], t => by simp [ovF, T.sizeL]
  | a :: ps, t => by
    have := ov_size k ps t
    unfold ovF at this ⊢
    rw [List.foldr_cons, T.size]
    simp only [T.sizeL, List.length_cons, this]; omega
theorem ov_bound {k : Int} {ps : List T} {t : T} (ht : validB t = true) (hl : okA ps = true) : (ovF k ps t).size ≤ 5000 := by
  obtain ⟨h1, h2⟩ := okA_out hl
  have h3 := sizeL_le (k := 400) fun t ht => validB_size (h2 t ht)
  have h4 : ps.length * 400 ≤ 8 * 400 := Nat.mul_le_mul_right 400 h1
  rw [ov_size]
  have := validB_size ht
  omega
def ovR (k : Int) (ps : List T) (t : T) : T × Bool := if (okA ps && validB t) = true then (okT (ovF k ps t), validB (ovF k ps t)) else (.mk 0 0 [], false)
theorem ov_loop (k : Int) (n : Nat) (hn : 20000 ≤ n) (ps : List T) (hl : ps.length ≤ 8) (z1 z2 : Int) (l0 : List T) (w : T) (hw : w.size ≤ 10000) : ∀ (i m : Nat) (u : T), i < m → i ≤ ps.length → ovF k (ps.take i) u = w →
    L_impl_over_0_of n m k ps ((i : Int) - 1) z1 z2 l0 u.k u.n u.kids = some ([tm (okT w), bl (validB w)], [])
  | i, 0, u, hm, _, _ => by omega
  | 0, m + 1, u, hm, hi, he => by
    have he : u = w := he
    subst he
    have ho := f_ownValid (n := n) (t := u) (by omega) (by omega)
    rw [L_impl_over_0_of_eq, decide_eq_false (show ¬ (0 : Int) ≤ ((0 : Nat) : Int) - 1 by omega)]
    simp only [cond_false]
    rw [ho.1]
    simp only [evt]
    rw [ho.2]
    simp only [evt]
  | i + 1, m + 1, u, hm, hi, he => by
    have hlt : i < ps.length := by omega
    have hx : ps.take (i + 1) = ps.take i ++ [ps[i]] := by rw [List.take_append_getElem hlt]
    have nx := ov_loop k n hn ps hl z1 z2 l0 w hw i m (.mk k 0 [ps[i], u]) (by omega) (by omega) (by rw [← he, hx]; unfold ovF; rw [List.foldr_append]; rfl)
    have w : IntKind.i64.wrap ((i : Int) - 1) = (i : Int) - 1 := wrap64 (by omega)
    rw [show (((i + 1 : Nat) : Int) - 1) = (i : Int) by omega, L_impl_over_0_of_eq, decide_eq_true (show 0 ≤ (i : Int) by omega), Int.toNat_natCast, List.getElem?_eq_getElem hlt, w]
    simp only [cond_true, Option.bind_some, T.eta]
    rw [f_node (show 1 ≤ n by omega)]
    simp only [evt]
    exact nx
theorem f_over {k : Int} {n : Nat} {ps : List T} {t : T} (hn : 4800000 ≤ n) (ht : t.size ≤ 4000000) (hl : ps.length ≤ 4000000) (hz : ∀ u ∈ ps, u.size ≤ 4000000) : FF n 86 [nt k, tms ps, tm t] [] = some ([tm (ovR k ps t).1, bl (ovR k ps t).2], []) := by
  obtain ⟨n, rfl⟩ := pos_succ (show 0 < n by omega)
  rw [E_impl_over, f_areTerms (by omega) hl hz]
  simp only [evt]
  unfold ovR
  cases ho : okA ps with
  | false => rfl
  | true =>
    simp only [Bool.not_true, cond_false]
    rw [f_TermValid (by omega)]
    simp only [evt]
    cases hv : validB t with
    | false => rfl
    | true =>
      simp only [Bool.not_true, cond_false, Bool.and_self, if_true]
      have h8 := (okA_out ho).1
      have := ov_loop k n (by omega) ps h8 0 0 [] (ovF k ps t) (by have := ov_bound (k := k) hv ho; omega) ps.length n t (by omega) (by omega) (by rw [List.take_length])
      rw [wrap64 (show -9223372036854775808 ≤ (ps.length : Int) - 1 ∧ (ps.length : Int) - 1 ≤ 9223372036854775807 by omega), this]
theorem f_LamOver {n : Nat} {ps : List T} {t : T} (hn : 4800001 ≤ n) (ht : t.size ≤ 4000000) (hl : ps.length ≤ 4000000) (hz : ∀ u ∈ ps, u.size ≤ 4000000) : FF n 52 [tms ps, tm t] [] = some ([tm (ovR 4 ps t).1, bl (ovR 4 ps t).2], []) := by
  obtain ⟨n, rfl⟩ := pos_succ (show 0 < n by omega)
  rw [E_impl_LamOver, f_over (by omega) ht hl hz]
  simp only [evt]
theorem f_PiOver4 {n : Nat} {ps : List T} {t : T} (hn : 4800001 ≤ n) (ht : t.size ≤ 4000000) (hl : ps.length ≤ 4000000) (hz : ∀ u ∈ ps, u.size ≤ 4000000) : FF n 56 [tms ps, tm t] [] = some ([tm (ovR 3 ps t).1, bl (ovR 3 ps t).2], []) := by
  obtain ⟨n, rfl⟩ := pos_succ (show 0 < n by omega)
  rw [E_impl_PiOver, f_over (by omega) ht hl hz]
  simp only [evt]
theorem ovS_loop (k : Int) (n : Nat) (hn : 20000 ≤ n) (ps : List T) (hl : ps.length ≤ 8) (hz : ∀ t ∈ ps, t.size ≤ 400) (z1 z2 : Int) (l0 : List T) (w : T) : ∀ (i m : Nat) (u : T), i < m → i ≤ ps.length → ovF k (ps.take i) u = w →
    L_spec_l7Over_0_of n m k ps ((i : Int) - 1) z1 z2 l0 u.k u.n u.kids = some ([tm w], []) ∧ L_spec_l7Over_0_oo n m k ps ((i : Int) - 1) z1 z2 l0 u.k u.n u.kids = some ([tm w], [])
  | i, 0, u, hm, _, _ => by omega
  | 0, m + 1, u, hm, hi, he => by
    have he : u = w := he
    subst he
    rw [L_spec_l7Over_0_of_eq, L_spec_l7Over_0_oo_eq, decide_eq_false (show ¬ (0 : Int) ≤ ((0 : Nat) : Int) - 1 by omega)]
    exact ⟨rfl, rfl⟩
  | i + 1, m + 1, u, hm, hi, he => by
    have hlt : i < ps.length := by omega
    have hx : ps.take (i + 1) = ps.take i ++ [ps[i]] := by rw [List.take_append_getElem hlt]
    have nx := (ovS_loop k n hn ps hl hz z1 z2 l0 w i m (.mk k 0 [ps[i], u]) (by omega) (by omega) (by rw [← he, hx]; unfold ovF; rw [List.foldr_append]; rfl)).1
    have w : IntKind.i64.wrap ((i : Int) - 1) = (i : Int) - 1 := wrap64 (by omega)
    have hsz := hz _ (List.getElem_mem hlt)
    rw [show (((i + 1 : Nat) : Int) - 1) = (i : Int) by omega, L_spec_l7Over_0_of_eq, L_spec_l7Over_0_oo_eq, decide_eq_true (show 0 ≤ (i : Int) by omega), Int.toNat_natCast, List.getElem?_eq_getElem hlt, w]
    simp only [cond_true, Option.bind_some]
    rw [f_l1Copy ps[i] (by omega) (by omega)]
    simp only [evt]
    rw [f_l1Node (show 1 ≤ n by omega) _ _ (by simp)]
    simp only [evt]
    exact ⟨nx, nx⟩
theorem f_LamOverS {n : Nat} {ps : List T} {t : T} (hn : 4800000 ≤ n) (ht : t.size ≤ 4000000) (hl : ps.length ≤ 4000000) (hz : ∀ u ∈ ps, u.size ≤ 4000000) : FF n 53 [tms ps, tm t] [] = some ([tm (ovR 4 ps t).1, bl (ovR 4 ps t).2], []) := by
  obtain ⟨n, rfl⟩ : ∃ m, n = m + 2 := ⟨n - 2, by omega⟩
  rw [E_spec_LamOver, f_l5Fits (by omega) hl hz]
  simp only [evt]
  unfold ovR
  cases ho : okA ps with
  | false => rfl
  | true =>
    simp only [Bool.not_true, cond_false]
    rw [f_TermValidS (by omega) (by omega)]
    simp only [evt]
    cases hv : validB t with
    | false => rfl
    | true =>
      simp only [Bool.not_true, cond_false, Bool.and_self, if_true]
      obtain ⟨h8, h9⟩ := okA_out ho
      have hb := ov_bound (k := 4) hv ho
      have := (ovS_loop 4 n (by omega) ps h8 (fun u hu => validB_size (h9 u hu)) 0 0 [] (ovF 4 ps t) ps.length n t (by omega) (by omega) (by rw [List.take_length])).2
      have hl7 : FF (n + 1) 88 [nt 4, tms ps, tm t] [] = some ([tm (ovF 4 ps t)], []) := by
        rw [E_spec_l7Over, f_l1Copy t (by omega) (by omega)]
        simp only [evt]
        rw [wrap64 (show -9223372036854775808 ≤ (ps.length : Int) - 1 ∧ (ps.length : Int) - 1 ≤ 9223372036854775807 by omega)]
        exact this
      rw [hl7]
      simp only [evt]
      rw [f_l7Made (by omega) (by omega)]
      simp only [evt]
      rfl
theorem ov_lo : ∀ (G : List Tm) (t : Tm), ovF 4 (cx G) (of t) = of (lo G t)
  | [], t => rfl
  | A :: G, t => by
    have := ov_lo G (.lam A t)
    rw [cx_cons, ovF, List.foldr_append]; exact this
theorem ov_po : ∀ (G : List Tm) (t : Tm), ovF 3 (cx G) (of t) = of (po G t)
  | [], t => rfl
  | A :: G, t => by
    have := ov_po G (.pi A t)
    rw [cx_cons, ovF, List.foldr_append]; exact this
/-! Free variables. -/
mutual
def clF : T → Int → Bool
  | .mk k n ks, d => (!(decide (k = 1) && decide (d ≤ n))) && clL ks k 0 d
def clL : List T → Int → Nat → Int → Bool
  | [], _, _, _ => true
  | t :: ts, k, i, d => clF t (d + under k i) && clL ts k (i + 1) d
end
theorem clF_eq (t : T) (d : Int) : clF t d = ((!(decide (t.k = 1) && decide (d ≤ t.n))) && clL t.kids t.k 0 d) := by cases t; simp only [clF]; rfl
theorem cl_of : ∀ (t : Tm) (d : Nat), Tm.cl d t → clF (of t) d = true
  | .var n, d, h => by
    have h : n < d := h
    simp only [of, clF, clL, Bool.and_true, decide_true, Bool.true_and, Bool.not_eq_true', decide_eq_false_iff_not]; omega
  | .sort n, d, h => rfl
  | .nat, d, h => rfl
  | .zero, d, h => rfl
  | .succ a, d, h => by have := cl_of a d h; simp only [of, clF, clL, show under 8 0 = 0 from rfl, Int.add_zero, this]; rfl
  | .refl a, d, h => by have := cl_of a d h; simp only [of, clF, clL, show under 11 0 = 0 from rfl, Int.add_zero, this]; rfl
  | .fst a, d, h => by have := cl_of a d h; simp only [of, clF, clL, show under 15 0 = 0 from rfl, Int.add_zero, this]; rfl
  | .snd a, d, h => by have := cl_of a d h; simp only [of, clF, clL, show under 16 0 = 0 from rfl, Int.add_zero, this]; rfl
  | .pi a b, d, h => by have h1 := cl_of a d h.1; have h2 : clF (of b) ((d : Int) + 1) = true := cl_of b (d + 1) h.2; simp only [of, clF, clL, show under 3 0 = 0 from rfl, show under 3 (0 + 1) = 1 from rfl, Int.add_zero, h1, h2]; rfl
  | .sig a b, d, h => by have h1 := cl_of a d h.1; have h2 : clF (of b) ((d : Int) + 1) = true := cl_of b (d + 1) h.2; simp only [of, clF, clL, show under 13 0 = 0 from rfl, show under 13 (0 + 1) = 1 from rfl, Int.add_zero, h1, h2]; rfl
  | .lam a b, d, h => by have h1 := cl_of a d h.1; have h2 : clF (of b) ((d : Int) + 1) = true := cl_of b (d + 1) h.2; simp only [of, clF, clL, show under 4 0 = 0 from rfl, show under 4 (0 + 1) = 1 from rfl, Int.add_zero, h1, h2]; rfl
  | .app a b, d, h => by have h1 := cl_of a d h.1; have h2 := cl_of b d h.2; simp only [of, clF, clL, show under 5 0 = 0 from rfl, show under 5 (0 + 1) = 0 from rfl, Int.add_zero, h1, h2]; rfl
  | .id a b c, d, h => by have h1 := cl_of a d h.1; have h2 := cl_of b d h.2.1; have h3 := cl_of c d h.2.2; simp only [of, clF, clL, show under 10 0 = 0 from rfl, show under 10 (0 + 1) = 0 from rfl, show under 10 (0 + 1 + 1) = 0 from rfl, Int.add_zero, h1, h2, h3]; rfl
  | .move a b c, d, h => by have h1 := cl_of a d h.1; have h2 := cl_of b d h.2.1; have h3 := cl_of c d h.2.2; simp only [of, clF, clL, show under 12 0 = 0 from rfl, show under 12 (0 + 1) = 0 from rfl, show under 12 (0 + 1 + 1) = 0 from rfl, Int.add_zero, h1, h2, h3]; rfl
  | .pair a b c, d, h => by have h1 := cl_of a d h.1; have h2 := cl_of b d h.2.1; have h3 := cl_of c d h.2.2; simp only [of, clF, clL, show under 14 0 = 0 from rfl, show under 14 (0 + 1) = 0 from rfl, show under 14 (0 + 1 + 1) = 0 from rfl, Int.add_zero, h1, h2, h3]; rfl
  | .elim a b c e, d, h => by have h1 := cl_of a d h.1; have h2 := cl_of b d h.2.1; have h3 := cl_of c d h.2.2.1; have h4 := cl_of e d h.2.2.2; simp only [of, clF, clL, show under 9 0 = 0 from rfl, show under 9 (0 + 1) = 0 from rfl, show under 9 (0 + 1 + 1) = 0 from rfl, show under 9 (0 + 1 + 1 + 1) = 0 from rfl, Int.add_zero, h1, h2, h3, h4]; rfl
theorem und_bd (k : Int) (i : Nat) : 0 ≤ under k i ∧ under k i ≤ 1 := by unfold under; split <;> omega
abbrev FreeTo (h L : Int) (o : OR) : Prop := ∃ h', o = some ([], [.cells [.int .i64 h']]) ∧ h ≤ h' ∧ (h ≤ L → h' ≤ L)
theorem free_loop (n : Nat) (hn : 10 ≤ n) (L d k k1 n1 : Int) (ks0 : List T) (ts : List T) (hl : ts.length ≤ 1000000) (hd : 0 ≤ d ∧ d ≤ 1000000) (hh : ∀ u ∈ ts, ∀ d' h : Int, d ≤ d' → d' ≤ d + 1 → 0 ≤ h → h ≤ L → clF u (d' + L) = true → FreeTo h L (FF n 124 [tm u, nt d', .one (.fn 125 [0])] [.cells [.int .i64 h]])) (hL : 0 ≤ L ∧ L ≤ 1000000) :
    ∀ g m (i : Nat) (h : Int), g < m → i + g = ts.length → 0 ≤ h → h ≤ L → clL (ts.drop i) k i (d + L) = true → FreeTo h L (L_impl_free_impl_maxFree_1_0 n m d ts ts.length i h k n1 ks0)
  | g, 0, i, h, hg, _, _, _, _ => by omega
  | 0, m + 1, i, h, _, hi, h0, h1, hc => by
    rw [L_impl_free_impl_maxFree_1_0_eq, decide_eq_false (show ¬ (i : Int) < ts.length by omega)]
    exact ⟨h, rfl, Int.le_refl _, fun h => h⟩
  | g + 1, m + 1, i, h, hg, hi, h0, h1, hc => by
    have hlt : i < ts.length := by omega
    have hu := und_bd k i
    rw [List.drop_eq_getElem_cons hlt, clL, Bool.and_eq_true] at hc
    obtain ⟨h', e1, e2, e3⟩ := hh _ (List.getElem_mem hlt) (d + under k i) h (by omega) (by omega) h0 h1 (by rw [show d + under k i + L = d + L + under k i by omega]; exact hc.1)
    have h3 := e3 h1
    rw [L_impl_free_impl_maxFree_1_0_eq, decide_eq_true (show (i : Int) < ts.length by omega), cond_true, decide_eq_true (show (0 : Int) ≤ i by omega), cond_true, Int.toNat_natCast, List.getElem?_eq_getElem hlt, f_under (n := n) (by omega), wrap64 (show -9223372036854775808 ≤ (i : Int) + 1 ∧ (i : Int) + 1 ≤ 9223372036854775807 by omega)]
    simp only [evt]
    rw [wrap64 (show -9223372036854775808 ≤ d + under k i ∧ d + under k i ≤ 9223372036854775807 by omega)]
    simp only [tm] at e1
    rw [e1]
    simp only [evt]
    obtain ⟨h2, e4, e5, e6⟩ := free_loop n hn L d k k1 n1 ks0 ts hl hd hh hL g m (i + 1) h' (by omega) (by omega) (by omega) h3 hc.2
    exact ⟨h2, e4, by omega, fun _ => e6 h3⟩
theorem f_free (t : T) : ∀ {n : Nat} {L d h : Int}, 3 * t.size + 20 ≤ n → t.size ≤ 100000 → 0 ≤ L ∧ L ≤ 1000000 → 0 ≤ d ∧ d + t.size ≤ 1000000 → 0 ≤ h → h ≤ L → clF t (d + L) = true → FreeTo h L (FF n 124 [tm t, nt d, .one (.fn 125 [0])] [.cells [.int .i64 h]]) := by
  induction t using T.ind with | h t ih =>
  intro n L d h hn hz hL hd h0 h1 hc
  have hsz := T.size_eq t
  have hl := T.sizeL_len t.kids
  rw [clF_eq, Bool.and_eq_true] at hc
  obtain ⟨n, rfl⟩ := pos_succ (show 0 < n by omega)
  have lp : ∀ h, 0 ≤ h → h ≤ L → FreeTo h L (L_impl_free_impl_maxFree_1_0 n n d t.kids t.kids.length 0 h t.k t.n t.kids) := fun h h0 h1 =>
    free_loop n (by omega) L d t.k t.k t.n t.kids t.kids (by omega) (by omega) (fun u hu d' h' q1 q2 q3 q4 q5 => by
      have := T.sizeL_mem hu
      exact ih u hu (by omega) (by omega) hL (by omega) q3 q4 q5) hL t.kids.length n 0 h (by omega) (by omega) h0 h1 (by simpa using hc.2)
  rw [E_impl_free_impl_maxFree_1]
  by_cases hk : t.k = 1
  · rw [decide_eq_true hk, cond_true]
    by_cases hdn : d ≤ t.n
    · rw [decide_eq_true hdn, cond_true]
      have hb : t.n < d + L := by
        have := hc.1
        rw [hk] at this
        simp only [decide_true, Bool.true_and, Bool.not_eq_true', decide_eq_false_iff_not] at this
        omega
      obtain ⟨n', rfl⟩ := pos_succ (show 0 < n by omega)
      rw [E_impl_maxFree_1, wrap64 (show -9223372036854775808 ≤ t.n - d ∧ t.n - d ≤ 9223372036854775807 by omega), wrap64 (show -9223372036854775808 ≤ t.n - d + 1 ∧ t.n - d + 1 ≤ 9223372036854775807 by omega)]
      simp only [evt]
      obtain ⟨h', e1, e2, e3⟩ := lp (max h (t.n - d + 1)) (by omega) (by omega)
      exact ⟨h', e1, by omega, fun _ => e3 (by omega)⟩
    · rw [decide_eq_false hdn, cond_false]
      exact lp h h0 h1
  · rw [decide_eq_false hk, cond_false]
    exact lp h h0 h1
/-- Terms without variables above L. -/
theorem f_MaxFree {n : Nat} {t : T} {L : Int} (hn : 5000 ≤ n) (hv : validB t = true) (hL : 0 ≤ L ∧ L ≤ 1000000) (hc : clF t L = true) : ∃ v, FF n 49 [tm t] [] = some ([nt v], []) ∧ 0 ≤ v ∧ v ≤ L := by
  obtain ⟨n, rfl⟩ := pos_succ (show 0 < n by omega)
  obtain ⟨n, rfl⟩ := pos_succ (show 0 < n by omega)
  have hz := validB_size hv
  rw [E_impl_MaxFree, f_TermValid (by omega), hv]
  simp only [evt]
  rw [E_impl_maxFree]
  obtain ⟨v, e1, e2, e3⟩ := f_free t (n := n) (L := L) (d := 0) (h := 0) (by omega) (by omega) hL (by omega) (by omega) hL.1 (by simpa using hc)
  simp only [tm] at e1
  rw [e1]
  simp only [evt]
  exact ⟨v, rfl, e2, e3 hL.1⟩
end Go.Proofs.YthopkmimhlcjkaaGreat
end
section
/- What the program's functions come to in the abstract run. -/
set_option linter.unusedVariables false
namespace Go.Proofs.YthopkmimhlcjkaaGreat
open Go Go.Ab Go.Dk
/-! loop.example/depkernel/laws.FnLamOver -/
theorem E_laws_FnLamOver (n : Nat) (v0 : List UInt8) : FF (n + 1) 11 [.one (.fr (.bs v0))] [] =
 (cond ((decide (1048576 < ((v0).length : Int))))
 (some ([.one (.bool true)], []))
 (((FF n 51 [.one (.fr (.bs v0))] []).bind fun x0 =>
 (rTs x0.1 fun x1 x2 =>
 (rTerm x2 fun x3 x4 =>
 (nilV x4 (nilO x0.2
 (((FF n 52 [.one (.fr (.ts x1)), .agg [.int .i64 (x3).k, .int .i64 (x3).n, .fr (.ts (x3).kids)]] []).bind fun x5 =>
 (rTerm x5.1 fun x6 x7 =>
 (rBool x7 fun x8 x9 =>
 (nilV x9 (nilO x5.2
 (((FF n 53 [.one (.fr (.ts x1)), .agg [.int .i64 (x3).k, .int .i64 (x3).n, .fr (.ts (x3).kids)]] []).bind fun x10 =>
 (rTerm x10.1 fun x11 x12 =>
 (rBool x12 fun x13 x14 =>
 (nilV x14 (nilO x10.2
 (((FF n 38 [.one (.fr (.ts x1)), .agg [.int .i64 (x3).k, .int .i64 (x3).n, .fr (.ts (x3).kids)]] []).bind fun x15 =>
 (rTerm x15.1 fun x16 x17 =>
 (rInt .i64 x17 fun x18 x19 =>
 (nilV x19 (nilO x15.2
 ((cond ((!decide (x8 = x13)))
 ((cond ((decide (x8 = x13)))
 (((FF n 45 [.agg [.int .i64 (x6).k, .int .i64 (x6).n, .fr (.ts (x6).kids)], .agg [.int .i64 (x11).k, .int .i64 (x11).n, .fr (.ts (x11).kids)]] []).bind fun x20 =>
 (rBool x20.1 fun x21 x22 =>
 (nilV x22 (nilO x20.2
 (some ([.one (.bool x21)], [])))))))
 (some ([.one (.bool false)], []))))
 (((FF n 45 [.agg [.int .i64 (x6).k, .int .i64 (x6).n, .fr (.ts (x6).kids)], .agg [.int .i64 (x11).k, .int .i64 (x11).n, .fr (.ts (x11).kids)]] []).bind fun x20 =>
 (rBool x20.1 fun x21 x22 =>
 (nilV x22 (nilO x20.2
 ((cond ((!x21))
 ((cond ((decide (x8 = x13)))
 (((FF n 45 [.agg [.int .i64 (x6).k, .int .i64 (x6).n, .fr (.ts (x6).kids)], .agg [.int .i64 (x11).k, .int .i64 (x11).n, .fr (.ts (x11).kids)]] []).bind fun x23 =>
 (rBool x23.1 fun x24 x25 =>
 (nilV x25 (nilO x23.2
 (some ([.one (.bool x24)], [])))))))
 (some ([.one (.bool false)], []))))
 ((cond ((!x8))
 ((cond ((decide (x8 = x13)))
 (((FF n 45 [.agg [.int .i64 (x6).k, .int .i64 (x6).n, .fr (.ts (x6).kids)], .agg [.int .i64 (x11).k, .int .i64 (x11).n, .fr (.ts (x11).kids)]] []).bind fun x23 =>
 (rBool x23.1 fun x24 x25 =>
 (nilV x25 (nilO x23.2
 (some ([.one (.bool x24)], [])))))))
 (some ([.one (.bool false)], []))))
 ((cond ((!decide (x18 = 0)))
 ((cond ((decide (x8 = x13)))
 (((FF n 45 [.agg [.int .i64 (x6).k, .int .i64 (x6).n, .fr (.ts (x6).kids)], .agg [.int .i64 (x11).k, .int .i64 (x11).n, .fr (.ts (x11).kids)]] []).bind fun x23 =>
 (rBool x23.1 fun x24 x25 =>
 (nilV x25 (nilO x23.2
 (some ([.one (.bool x24)], [])))))))
 (some ([.one (.bool false)], []))))
 (((FF n 33 [.one (.fr (.ts x1)), .agg [.int .i64 (x16).k, .int .i64 (x16).n, .fr (.ts (x16).kids)]] []).bind fun x23 =>
 (rInt .i64 x23.1 fun x24 x25 =>
 (rInt .i64 x25 fun x26 x27 =>
 (nilV x27 (nilO x23.2
 (((FF n 56 [.one (.fr (.ts x1)), .agg [.int .i64 (x16).k, .int .i64 (x16).n, .fr (.ts (x16).kids)]] []).bind fun x28 =>
 (rTerm x28.1 fun x29 x30 =>
 (rBool x30 fun x31 x32 =>
 (nilV x32 (nilO x28.2
 (((FF n 38 [.one (.fr (.ts [])), .agg [.int .i64 (x6).k, .int .i64 (x6).n, .fr (.ts (x6).kids)]] []).bind fun x33 =>
 (rTerm x33.1 fun x34 x35 =>
 (rInt .i64 x35 fun x36 x37 =>
 (nilV x37 (nilO x33.2
 ((cond ((!decide (x26 = 0)))
 (some ([.one (.bool true)], []))
 ((cond ((!x31))
 (some ([.one (.bool true)], []))
 ((cond ((decide (x36 = 2)))
 (some ([.one (.bool true)], []))
 ((cond ((decide (x36 = 0)))
 (((FF n 45 [.agg [.int .i64 (x34).k, .int .i64 (x34).n, .fr (.ts (x34).kids)], .agg [.int .i64 (x29).k, .int .i64 (x29).n, .fr (.ts (x29).kids)]] []).bind fun x38 =>
 (rBool x38.1 fun x39 x40 =>
 (nilV x40 (nilO x38.2
 ((cond (x39)
 (((FF n 49 [.agg [.int .i64 (x6).k, .int .i64 (x6).n, .fr (.ts (x6).kids)]] []).bind fun x41 =>
 (rInt .i64 x41.1 fun x42 x43 =>
 (nilV x43 (nilO x41.2
 (some ([.one (.bool (decide (x42 = 0)))], [])))))))
 (some ([.one (.bool false)], [])))))))))
 (some ([.one (.bool false)], [])))))))))))))))))))))))))))))))))))))))))))))))))))))))))))))))))) := by kernel_rfl

end Go.Proofs.YthopkmimhlcjkaaGreat
end
section
/- What every law's step leans on. -/
namespace Go.Proofs.YthopkmimhlcjkaaGreat
open Go.ChangeShapes Go.WideShapes Go.ChangeAt Go.RowKit
open Go.ChangeMaps (open_string shut_string)
set_option linter.unusedVariables false
set_option linter.unusedSimpArgs false
open Go.Dk
theorem own : ownKnob Tryz.prog.godebug = none := by kernel_rfl
theorem laidOut : laidOutB Tryz.prog = true := by kernel_rfl
section
variable {H : Type} {enc : TypeId × Value → H} {P : Program} {W : World} {sp : Nat → Bool} {hd : Bool}
end
end Go.Proofs.YthopkmimhlcjkaaGreat
end
section
/- What a claim's row says of how the program was cut, from the signs of the program's head line; no check walks the whole line. -/
namespace Go.Proofs.YthopkmimhlcjkaaGreat
open Go
def initA : List Char := ([104, 97, 114, 110, 101, 115, 115] : List Nat).map Char.ofNat
def initB : List Char := ([51, 99, 54, 50, 48, 49, 49, 50, 54, 101, 54, 55, 102, 57, 55, 100, 52, 49, 99, 53, 100, 54, 100, 51, 101, 100, 53, 97, 97, 54, 54, 55, 102, 56, 101, 99, 54, 101, 52, 100, 99, 56, 101, 52, 98, 50, 56, 99, 97, 51, 56, 97, 97, 98, 56, 53, 97, 56, 98, 52, 100, 51, 101, 51] : List Nat).map Char.ofNat
def initC : List Char := ([99, 117, 116] : List Nat).map Char.ofNat
def initR : List Char := ([97, 116, 32, 108, 111, 111, 112, 46, 101, 120, 97, 109, 112, 108, 101, 47, 100, 101, 112, 107, 101, 114, 110, 101, 108, 47, 108, 97, 119, 115, 46, 70, 110, 69, 120, 97, 99, 116, 67, 104, 101, 99, 107, 67, 111, 110, 116, 101, 120, 116, 32, 108, 111, 111, 112, 46, 101, 120, 97, 109, 112, 108, 101, 47, 100, 101, 112, 107, 101, 114, 110, 101, 108, 47, 108, 97, 119, 115, 46, 70, 110, 69, 120, 97, 99, 116, 83, 111, 114, 116, 79, 102, 32, 108, 111, 111, 112, 46, 101, 120, 97, 109, 112, 108, 101, 47, 100, 101, 112, 107, 101, 114, 110, 101, 108, 47, 108, 97, 119, 115, 46, 70, 110, 69, 120, 97, 99, 116, 67, 104, 101, 99, 107, 84, 121, 112, 101, 32, 108, 111, 111, 112, 46, 101, 120, 97, 109, 112, 108, 101, 47, 100, 101, 112, 107, 101, 114, 110, 101, 108, 47, 108, 97, 119, 115, 46, 70, 110, 69, 120, 97, 99, 116, 73, 110, 102, 101, 114, 84, 121, 112, 101, 32, 108, 111, 111, 112, 46, 101, 120, 97, 109, 112, 108, 101, 47, 100, 101, 112, 107, 101, 114, 110, 101, 108, 47, 108, 97, 119, 115, 46, 70, 110, 69, 120, 97, 99, 116, 73, 110, 102, 101, 114, 78, 111, 114, 109, 97, 108, 32, 108, 111, 111, 112, 46, 101, 120, 97, 109, 112, 108, 101, 47, 100, 101, 112, 107, 101, 114, 110, 101, 108, 47, 108, 97, 119, 115, 46, 70, 110, 84, 121, 112, 101, 65, 112, 112, 108, 121, 32, 108, 111, 111, 112, 46, 101, 120, 97, 109, 112, 108, 101, 47, 100, 101, 112, 107, 101, 114, 110, 101, 108, 47, 108, 97, 119, 115, 46, 70, 110, 84, 121, 112, 101, 67, 108, 111, 115, 101, 100, 32, 108, 111, 111, 112, 46, 101, 120, 97, 109, 112, 108, 101, 47, 100, 101, 112, 107, 101, 114, 110, 101, 108, 47, 108, 97, 119, 115, 46, 70, 110, 76, 97, 109, 65, 112, 112, 108, 121, 32, 108, 111, 111, 112, 46, 101, 120, 97, 109, 112, 108, 101, 47, 100, 101, 112, 107, 101, 114, 110, 101, 108, 47, 108, 97, 119, 115, 46, 70, 110, 76, 97, 109, 79, 118, 101, 114, 32, 108, 111, 111, 112, 46, 101, 120, 97, 109, 112, 108, 101, 47, 100, 101, 112, 107, 101, 114, 110, 101, 108, 47, 108, 97, 119, 115, 46, 70, 110, 67, 104, 101, 99, 107, 67, 111, 110, 116, 101, 120, 116, 32, 108, 111, 111, 112, 46, 101, 120, 97, 109, 112, 108, 101, 47, 100, 101, 112, 107, 101, 114, 110, 101, 108, 47, 108, 97, 119, 115, 46, 70, 110, 84, 121, 112, 101, 86, 97, 114, 32, 108, 111, 111, 112, 46, 101, 120, 97, 109, 112, 108, 101, 47, 100, 101, 112, 107, 101, 114, 110, 101, 108, 47, 108, 97, 119, 115, 46, 70, 110, 84, 121, 112, 101, 78, 111, 114, 109, 97, 108, 32, 108, 111, 111, 112, 46, 101, 120, 97, 109, 112, 108, 101, 47, 100, 101, 112, 107, 101, 114, 110, 101, 108, 47, 108, 97, 119, 115, 46, 70, 110, 84, 121, 112, 101, 87, 101, 97, 107, 101, 110, 32, 108, 111, 111, 112, 46, 101, 120, 97, 109, 112, 108, 101, 47, 100, 101, 112, 107, 101, 114, 110, 101, 108, 47, 108, 97, 119, 115, 46, 70, 110, 84, 121, 112, 101, 79, 102, 84, 121, 112, 101, 32, 108, 111, 111, 112, 46, 101, 120, 97, 109, 112, 108, 101, 47, 100, 101, 112, 107, 101, 114, 110, 101, 108, 47, 108, 97, 119, 115, 46, 70, 110, 84, 121, 112, 101, 83, 116, 101, 112, 32, 108, 111, 111, 112, 46, 101, 120, 97, 109, 112, 108, 101, 47, 100, 101, 112, 107, 101, 114, 110, 101, 108, 47, 108, 97, 119, 115, 46, 70, 110, 84, 121, 112, 101, 83, 117, 99, 99, 32, 108, 111, 111, 112, 46, 101, 120, 97, 109, 112, 108, 101, 47, 100, 101, 112, 107, 101, 114, 110, 101, 108, 47, 108, 97, 119, 115, 46, 70, 110, 84, 121, 112, 101, 80, 97, 114, 116, 115, 32, 108, 111, 111, 112, 46, 101, 120, 97, 109, 112, 108, 101, 47, 100, 101, 112, 107, 101, 114, 110, 101, 108, 47, 108, 97, 119, 115, 46, 70, 110, 84, 121, 112, 101, 73, 110, 110, 101, 114, 32, 108, 111, 111, 112, 46, 101, 120, 97, 109, 112, 108, 101, 47, 100, 101, 112, 107, 101, 114, 110, 101, 108, 47, 108, 97, 119, 115, 46, 70, 110, 84, 121, 112, 101, 83, 117, 98, 115, 116, 32, 108, 111, 111, 112, 46, 101, 120, 97, 109, 112, 108, 101, 47, 100, 101, 112, 107, 101, 114, 110, 101, 108, 47, 108, 97, 119, 115, 46, 70, 110, 84, 121, 112, 101, 80, 105, 32, 108, 111, 111, 112, 46, 101, 120, 97, 109, 112, 108, 101, 47, 100, 101, 112, 107, 101, 114, 110, 101, 108, 47, 108, 97, 119, 115, 46, 70, 110, 83, 111, 114, 116, 79, 102, 32, 108, 111, 111, 112, 46, 101, 120, 97, 109, 112, 108, 101, 47, 100, 101, 112, 107, 101, 114, 110, 101, 108, 47, 108, 97, 119, 115, 46, 70, 110, 67, 104, 101, 99, 107, 84, 121, 112, 101] : List Nat).map Char.ofNat
theorem init_eq : Tryz.pinned.checked.prog.initOrder = String.ofList (initA ++ Char.ofNat 32 :: (initB ++ Char.ofNat 32 :: (initC ++ Char.ofNat 32 :: initR))) := by kernel_rfl
theorem ws_word : ∀ (w r : List Char), w.all (fun c => c != Char.ofNat 32) = true → wordsSigns (w ++ Char.ofNat 32 :: r) = w :: wordsSigns r
  | [], r, _ => by rw [List.nil_append, wordsSigns]
  | c :: w, r, h => by
    rw [List.all_cons, Bool.and_eq_true] at h
    have hc : c = Char.ofNat 32 → False := fun e => by rw [e] at h; simp at h
    rw [List.cons_append, wordsSigns, ws_word w r h.2]
    exact hc
theorem init_l : ∃ R, behindMainWord (wordsSigns Tryz.pinned.checked.prog.initOrder.toList) = initC :: R :=
  ⟨wordsSigns initR, by rw [init_eq, String.toList_ofList, ws_word _ _ (by decide +kernel), ws_word _ _ (by decide +kernel), ws_word _ _ (by decide +kernel)]; generalize wordsSigns initR = R; kernel_rfl⟩
theorem i1 : (initC == "gc".toList || initC == "spec".toList) = false := by kernel_rfl
theorem i2 : (initC == "cut".toList) = true := by kernel_rfl
theorem i3 : (initC == "carried".toList) = false := by kernel_rfl
theorem i4 (R : List (List Char)) : stripLifts liftWords (initC :: R) = ([], initC :: R) := by kernel_rfl
theorem i5 : (some initC == some "cut".toList) = true := by kernel_rfl
theorem i6 : (some initC == some "carried".toList) = false := by kernel_rfl
theorem make_gen (P : Program) (h : ∃ R, behindMainWord (wordsSigns P.initOrder.toList) = initC :: R) : P.make = some .cut := by
  obtain ⟨R, h⟩ := h
  unfold Program.make
  rw [h]
  simp only [i1, i2, Bool.true_or, if_true, Bool.false_eq_true, if_false]
theorem may_gen (P : Program) (h : ∃ R, behindMainWord (wordsSigns P.initOrder.toList) = initC :: R) (h1 : (!P.laysLater) = true) (h2 : (!P.bearsReflect) = true) (h3 : P.doorFits [] = true) : P.mayEnter = true := by
  obtain ⟨R, h⟩ := h
  unfold Program.mayEnter
  rw [h]
  simp only [i1, i3, i4, List.head?_cons, i5, h1, h2, h3, Bool.false_and, Bool.false_or, Bool.or_true, Bool.true_and, Bool.and_true]
  decide
theorem fin_gen (P : Program) (h : ∃ R, behindMainWord (wordsSigns P.initOrder.toList) = initC :: R) : P.liftsFinal = false := by
  obtain ⟨R, h⟩ := h
  unfold Program.liftsFinal Program.headLifts
  rw [h]
  simp only [i4, List.head?_cons, i5, i6, Bool.false_and, Bool.false_or, if_true]
  decide
theorem may_ok : Tryz.pinned.checked.prog.mayEnter = true := may_gen _ init_l (by kernel_rfl) (by kernel_rfl) (by kernel_rfl)
theorem fin_ok : Tryz.pinned.checked.prog.liftsFinal = false := fin_gen _ init_l
theorem make_ok : Tryz.pinned.checked.prog.make = some .cut := make_gen _ init_l
end Go.Proofs.YthopkmimhlcjkaaGreat
end
section
/- FnLamOver: for every code, the law of functions over contexts answers true. No condition. -/
namespace Go.Proofs.YthopkmimhlcjkaaGreat
open Go.ChangeShapes Go.WideShapes Go.ChangeAt Go.RowKit
open Go.ChangeMaps (open_string shut_string)
set_option linter.unusedVariables false
set_option linter.unusedSimpArgs false
open Go.Ab Go.Dk
open Tm (Rs inI inS tI tS lvr ckr cc pt ps pc Wf lo po)
theorem ovR_true {k : Int} {g : List T} {t : T} (h : (ovR k g t).2 = true) : okA g = true ∧ validB t = true ∧ validB (ovF k g t) = true ∧ (ovR k g t).1 = ovF k g t := by
  unfold ovR at h ⊢
  split at h
  · rename_i hh
    rw [if_pos hh]
    rw [Bool.and_eq_true] at hh
    exact ⟨hh.1, hh.2, h, okT_valid' h⟩
  · cases h
theorem soI_ok {G : List Tm} {A : Tm} (hG : ∀ A ∈ G, vdM A = true) (h8 : G.length ≤ 8) (vA : vdM A = true) (w : Wf G) (h : (soI (cx G) (of A)).2 = 0) : ∃ i, Tm.Ty G A (.sort i) := by
  unfold soI at h
  have hv : (okA (cx G) && validB (of A)) = true := by rw [cx_ok hG h8]; exact vA
  rw [if_pos hv, decL_cx, dec_of] at h
  obtain ⟨k, e⟩ := sts_zero.1 h
  obtain ⟨_, e2, _⟩ := Tm.psI_wf orcOk e
  obtain ⟨s, i, e3, rfl, r⟩ := Tm.lvr_ok orcOk e2
  exact ⟨i, ((Tm.tI_al orcOk w e3).sound w).lvl w r⟩
theorem itI_nil {m : Tm} (hv : vdM m = true) : itI [] (of m) = (zr (tI O [] m), sts (tI O [] m)) := by
  unfold itI
  have : (okA [] && validB (of m)) = true := by rw [show okA [] = true from rfl]; exact hv
  rw [if_pos this, dec_of]
  rfl
theorem lamover_key {g : List T} {t : T} (h0 : (itI g t).2 = 0) (hov : (ovR 4 g t).2 = true) (hs : (soI g (itI g t).1).2 = 0) (hp : (ovR 3 g (itI g t).1).2 = true) :
    validB (ovR 4 g t).1 = true ∧ clF (ovR 4 g t).1 0 = true ∧ ((itI [] (ovR 4 g t).1).2 = 2 ∨ ((itI [] (ovR 4 g t).1).2 = 0 ∧ (itI [] (ovR 4 g t).1).1 = (ovR 3 g (itI g t).1).1)) := by
  obtain ⟨G, m, A, rfl, rfl, hG, h8, hv, w, e, e1, eA, vA, tA⟩ := itI_ok h0
  rw [eA] at hs hp ⊢
  obtain ⟨_, _, v1, q1⟩ := ovR_true hov
  obtain ⟨_, _, v2, q2⟩ := ovR_true hp
  rw [ov_lo] at v1 q1
  rw [ov_po] at v2 q2
  obtain ⟨i, hi⟩ := soI_ok hG h8 vA w hs
  have ty := Tm.lo_ty w tA hi
  have v1' : vdM (lo G m) = true := v1
  obtain ⟨_, nb, _⟩ := Tm.tI_typed orcOk .nil (by simp) v1' ty
  rw [q1, q2, itI_nil v1']
  refine ⟨v1, cl_of _ 0 ty.cl, ?_⟩
  cases hr : tI O [] (lo G m) with
  | ok X =>
    right
    obtain ⟨B, rfl, h2⟩ := Tm.tI_lo orcOk (hr ▸ Tm.tI_get orcOk .nil (lo G m))
    have : tI O G m = .ok B := Tm.tI_is h2
    rw [e1] at this
    cases this
    exact ⟨rfl, rfl⟩
  | bad => exact absurd hr nb
  | opn => left; rfl
theorem e_FnLamOver (l : List UInt8) : Ev 11 [.one (.fr (.bs l))] [] ([.one (.bool true)], []) := by
  have hB := BB_ge
  refine conv_law (C := BB + 10) fun n hn => ?_
  refine tot_step (C := BB + 9) hn fun n hn _ => ?_
  rw [E_laws_FnLamOver]
  refine tot_cond (fun _ => ⟨_, rfl, rfl⟩) (fun _ => ?_)
  refine tot_call (t_DrawLamOver (by omega) l) ?_
  rintro _ ⟨g, t, rfl, ht, hg, hgl⟩
  have hgz : ∀ u ∈ g, u.size ≤ 4000000 := fun u hu => by have := validB_size (hg u hu); omega
  have zi := itI_size (l := g) (t := t)
  simp only [evt]
  rw [f_LamOver (by omega) (by omega) (by omega) hgz]
  simp only [evt]
  rw [f_LamOverS (by omega) (by omega) (by omega) hgz]
  simp only [evt]
  rw [g_InferType (by omega) (by omega) hgz (by omega)]
  have zov : (ovR 4 g t).1.size ≤ 5000 := by
    unfold ovR
    split
    · rename_i hh
      rw [Bool.and_eq_true] at hh
      unfold okT
      split
      · exact ov_bound hh.2 hh.1
      · exact (by decide : (T.mk 0 0 []).size ≤ 5000)
    · exact (by decide : (T.mk 0 0 []).size ≤ 5000)
  have s2 := f_TermSame (ovR 4 g t).1 (n := n) (by omega) (by omega) (ovR 4 g t).1
  rw [T.beq_refl] at s2
  simp only [evt]
  rw [s2]
  simp only [evt]
  refine tot_cond (fun _ => ⟨_, rfl, rfl⟩) (fun hv => ?_)
  refine tot_cond (fun _ => ⟨_, rfl, rfl⟩) (fun h0 => ?_)
  have hov : (ovR 4 g t).2 = true := by simpa using hv
  have h0 : (itI g t).2 = 0 := by simpa using h0
  rw [g_SortOf (by omega) (by omega) hgz (by omega)]
  simp only [evt]
  rw [f_PiOver4 (by omega) (by omega) (by omega) hgz]
  simp only [evt]
  have gi := g_InferType (n := n) (l := []) (t := (ovR 4 g t).1) (by omega) (by simp) (by simp) (by omega)
  rw [gi]
  simp only [evt]
  refine tot_cond (fun _ => ⟨_, rfl, rfl⟩) (fun hs => ?_)
  refine tot_cond (fun _ => ⟨_, rfl, rfl⟩) (fun hp => ?_)
  have hs : (soI g (itI g t).1).2 = 0 := by simpa using hs
  have hp : (ovR 3 g (itI g t).1).2 = true := by simpa using hp
  obtain ⟨k1, k2, k3⟩ := lamover_key h0 hov hs hp
  rcases k3 with k3 | ⟨k3, k4⟩
  · rw [k3]; exact ⟨_, rfl, rfl⟩
  · have zi2 := itI_size (l := []) (t := (ovR 4 g t).1)
    have s3 := f_TermSame (itI [] (ovR 4 g t).1).1 (n := n) (by omega) (by omega) (itI [] (ovR 4 g t).1).1
    rw [T.beq_refl] at s3
    rw [k3, ← k4, s3]
    simp only [evt, show decide ((0 : Int) = 2) = false from rfl]
    obtain ⟨v, e1, e2, e3⟩ := f_MaxFree (n := n) (t := (ovR 4 g t).1) (L := 0) (by omega) k1 (by omega) k2
    rw [e1]
    have : v = 0 := by omega
    subst this
    exact ⟨_, rfl, rfl⟩
set_option maxRecDepth 100000 in
theorem lifted_FnLamOver (os : Os) (started : os.Started) (H : Type) (enc : TypeId × Value → H) :
    ReturnsInHanded {} Tryz.checked os 11 .any (Rows.fnLamOverSpec.pre6 enc Tryz.prog Tryz.f11 Rows.fnLamOverRow.domain false) (Rows.fnLamOverSpec.post enc Tryz.prog Tryz.f11 false true false false) := by
  refine returnsInHanded_of_change (C := Tryz.checked) own started (by kernel_rfl) Tryz.func11
    (ChangeSpec.witness6 (enc := enc) (C := Tryz.checked) false ⟨#[], #[.slice none 0 0], []⟩ 8 (by kernel_rfl) (by kernel_rfl) (by kernel_rfl) (by kernel_rfl)) ?_
  intro W base args ds gs before hval0 hW hcnd _
  have hval : ∀ (j : Nat) t v, Tryz.f11.params[j]? = some t → args[j]? = some v → Value.okWide Tryz.prog W .any base t v := hval0
  have hW' := hW
  obtain ⟨p, q, hA0, hV, rfl, hfz, hnd⟩ := hW
  have hA : DataW.TrodAll enc Tryz.prog W 0 (fun _ => true) true Tryz.f11.params.toList args.toList ds p := hA0
  rw [Tryz.params11] at hA hval
  obtain ⟨v0, vs0, d0, ds0, p0, q0, hargs, rfl, rfl, h0, r0⟩ := trodAll_cons hA
  obtain ⟨rfl, rfl, rfl⟩ := trodAll_nil r0
  obtain rfl : args = #[v0] := by cases args; simp_all
  obtain ⟨rfl, rfl⟩ := trodVars_none hV
  have k0 := h0
  have lt0 : ∀ x ∈ p0, x.block < W.heap.size := by obtain ⟨m, hm⟩ := k0; exact DataW.trod_lt m _ _ _ hm
  obtain ⟨l0, w0⟩ := open_bytes Tryz.underlying45 Tryz.underlying5 (by kernel_rfl) (hval 0 45 v0 rfl rfl) h0
  clear hA0 hval0
  refine (ev_law Tryz.func11 (by kernel_rfl) (args := [.one (.fr (.bs l0))]) (All2.cons (bytes_arg w0) (All2.nil)) (e_FnLamOver l0)).mono fun e W' ⟨he, hg⟩ => ?_
  have bel := hg.below
  subst he
  exact ⟨_, rfl, _, _, _, [], _, [], hW', trodAll_mk1 (shut_bool Tryz.underlying4 _), (trodAll_cons_mk (Below.trod laidOut (by kernel_rfl) (of_decide_eq_true (by kernel_rfl)) k0 bel lt0) trodAll_mk0), rfl, bel.frame _, fun h => by cases h⟩
theorem FnLamOver_holds : Rows.FnLamOverSaid :=
  OpenClaim.holds_of_wide 11 Tryz.f11 rfl rfl rfl rfl rfl rfl rfl ⟨rfl, rfl, rfl, rfl, rfl⟩ rfl rfl rfl rfl rfl (by kernel_rfl) Tryz.func11 (by unfold joinedFacts; rw [may_ok, fin_ok, make_ok]; kernel_rfl)
    (of_decide_eq_true (by kernel_rfl)) (by unfold Func.isWrapper; first | (rw [if_pos (by decide +kernel)]; kernel_rfl) | (rw [if_neg (by decide +kernel)]; exact ⟨rfl, rfl⟩))
    (fun os started H enc _ => lifted_FnLamOver os started H enc)
#print axioms FnLamOver_holds
end Go.Proofs.YthopkmimhlcjkaaGreat
end
