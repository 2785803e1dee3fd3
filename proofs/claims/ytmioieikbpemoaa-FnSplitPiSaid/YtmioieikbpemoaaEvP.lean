/- The reference's reading and writing of terms answers. -/
import Derived.Test.YtmioieikbpemoaaEvX
set_option linter.unusedVariables false
set_option linter.unusedSimpArgs false
namespace Go.Proofs.Ytmioieikbpemoaa
open Go Go.Ab Go.Dk
abbrev st (s : ByteArray) : V1 := .one (.str s)
/-- Any number, any truth value. -/
abbrev IsNB (r : List V1 × List AObj) : Prop := ∃ v b, r = ([nt v, bl b], [])
theorem num_loop (n : Nat) (s : ByteArray) (hs : s.size ≤ 1000000) (neg : Bool) : ∀ g m (i : Nat) (v : Int), g < m → i + g = s.size → Tot (L_spec_l19Num_0 n m s neg v i) IsNB
  | g, 0, i, v, hg, _ => by omega
  | 0, m + 1, i, v, _, hi => by
    rw [L_spec_l19Num_0_eq]
    repeat' (first | (simp (disch := omega) only [wrap64]; done) | (simp (disch := omega) only [wrap64]) | (with_reducible refine tot_cond (fun hq => ?_) (fun hq => ?_) <;> (try simp (disch := omega) only [wrap64] at hq) <;> (try simp only [decide_eq_true_eq, decide_eq_false_iff_not, Bool.not_eq_true', Bool.not_eq_false', Bool.and_eq_true, Bool.and_eq_false_iff, inB, Bool.not_true, Bool.not_false] at hq) <;> try (exfalso; omega; done)) | ((with_reducible refine tot_some ?_); (exact ⟨_, _, rfl⟩)))
  | g + 1, m + 1, i, v, hg, hi => by
    rw [L_spec_l19Num_0_eq]
    have w : IntKind.i64.wrap ((i : Int) + 1) = ((i + 1 : Nat) : Int) := wrap64 (by omega)
    rw [w]
    repeat' (first | (simp (disch := omega) only [wrap64]; done) | (simp (disch := omega) only [wrap64]) | (with_reducible refine tot_cond (fun hq => ?_) (fun hq => ?_) <;> (try simp (disch := omega) only [wrap64] at hq) <;> (try simp only [decide_eq_true_eq, decide_eq_false_iff_not, Bool.not_eq_true', Bool.not_eq_false', Bool.and_eq_true, Bool.and_eq_false_iff, inB, Bool.not_true, Bool.not_false] at hq) <;> try (exfalso; omega; done)) | ((with_reducible refine tot_some ?_); (exact ⟨_, _, rfl⟩)) | (with_reducible exact num_loop n s hs neg g m (i + 1) _ (by omega) (by omega)))
theorem t_l19Num {n : Nat} {s : ByteArray} (hn : s.size + 3 ≤ n) (hs : s.size ≤ 1000000) : Tot (FF n 127 [st s] []) IsNB := by
  refine tot_step (C := s.size + 2) hn fun n hn _ => ?_
  rw [E_spec_l19Num]
  have hx : (s.extract (1 : Int).toNat (s.size : Int).toNat).size ≤ s.size := by rw [ByteArray.size_extract]; omega
  have h1 : ∀ neg, Tot (L_spec_l19Num_0 n n (s.extract (1 : Int).toNat (s.size : Int).toNat) neg 0 0) IsNB := fun neg => num_loop n (s.extract (1 : Int).toNat (s.size : Int).toNat) (by omega) neg (s.extract (1 : Int).toNat (s.size : Int).toNat).size n 0 0 (by omega) (by omega)
  have h2 : ∀ neg, Tot (L_spec_l19Num_0 n n s neg 0 0) IsNB := fun neg => num_loop n s hs neg s.size n 0 0 (by omega) (by omega)
  repeat' (first | (simp (disch := omega) only [wrap64]; done) | (simp (disch := omega) only [wrap64]) | (with_reducible refine tot_cond (fun hq => ?_) (fun hq => ?_) <;> (try simp (disch := omega) only [wrap64] at hq) <;> (try simp only [decide_eq_true_eq, decide_eq_false_iff_not, Bool.not_eq_true', Bool.not_eq_false', Bool.and_eq_true, Bool.and_eq_false_iff, inB, Bool.not_true, Bool.not_false] at hq) <;> try (exfalso; omega; done)) | ((with_reducible refine tot_some ?_); (exact ⟨_, _, rfl⟩)) | (with_reducible exact h1 _) | (with_reducible exact h2 _))
/-- A number and an offset behind it, or none. -/
abbrev IsOff (s : ByteArray) (lo : Int) (r : List V1 × List AObj) : Prop := ∃ v e : Int, r = ([nt v, nt e], []) ∧ -1 ≤ e ∧ e ≤ s.size ∧ (0 ≤ e → lo ≤ e)
theorem numb_loop (n : Nat) (s : ByteArray) (hs : s.size ≤ 1000000) (hn : s.size + 3 ≤ n) (a d : Int) (ha : 0 ≤ a) (hd : 0 ≤ d ∧ d ≤ 10) : ∀ g m (i : Nat), g < m → i + g = s.size → a ≤ i → Tot (L_spec_l1Number_0 n m s a d i) (IsOff s a)
  | g, 0, i, hg, _, _ => by omega
  | g, m + 1, i, hg, hi, hai => by
    have hx : (s.extract a.toNat (i : Int).toNat).size ≤ s.size := by rw [ByteArray.size_extract]; omega
    rw [L_spec_l1Number_0_eq]
    have w : IntKind.i64.wrap ((i : Int) + 1) = ((i + 1 : Nat) : Int) := wrap64 (by omega)
    rw [w]
    cases g with
    | zero =>
      repeat' (first | (simp (disch := omega) only [wrap64]; done) | (simp (disch := omega) only [wrap64]) | (with_reducible refine tot_cond (fun hq => ?_) (fun hq => ?_) <;> (try simp (disch := omega) only [wrap64] at hq) <;> (try simp only [decide_eq_true_eq, decide_eq_false_iff_not, Bool.not_eq_true', Bool.not_eq_false', Bool.and_eq_true, Bool.and_eq_false_iff, inB, Bool.not_true, Bool.not_false] at hq) <;> try (exfalso; omega; done)) | (with_reducible refine tot_call (t_l19Num (by omega) (by omega)) ?_; rintro _ ⟨v, b, rfl⟩; simp only [Option.bind_some, c_rInt, c_rBool, c_rStr, c_rTs, c_rIs, c_rIss, c_rSs, c_rBs, c_rTerm, c_rOwnT, c_rOwn, c_rPtr, c_nilV, c_nilO, c_objC, c_dropC, c_intC, c_boolC, c_strC, c_tsC, c_isC, c_issC, c_ssC, c_bsC, c_anyC, c_nilC, c_arrTs, c_arrIs, c_arrIss, c_arrSs, c_arrBs, ik_self, nb_self, cond_true, cond_false, rTerm_tm, T.eta, mk_k, mk_n, mk_kids, Option.bind_none, Bool.not_true, Bool.not_false, Bool.true_and, Bool.and_true, Bool.and_false, Bool.false_and, Bool.and_self, decide_true, decide_false]) | ((with_reducible refine tot_some ?_); (exact ⟨_, _, rfl, by omega, by omega, by omega⟩)))
    | succ g =>
      repeat' (first | (simp (disch := omega) only [wrap64]; done) | (simp (disch := omega) only [wrap64]) | (with_reducible refine tot_cond (fun hq => ?_) (fun hq => ?_) <;> (try simp (disch := omega) only [wrap64] at hq) <;> (try simp only [decide_eq_true_eq, decide_eq_false_iff_not, Bool.not_eq_true', Bool.not_eq_false', Bool.and_eq_true, Bool.and_eq_false_iff, inB, Bool.not_true, Bool.not_false] at hq) <;> try (exfalso; omega; done)) | (with_reducible refine tot_call (t_l19Num (by omega) (by omega)) ?_; rintro _ ⟨v, b, rfl⟩; simp only [Option.bind_some, c_rInt, c_rBool, c_rStr, c_rTs, c_rIs, c_rIss, c_rSs, c_rBs, c_rTerm, c_rOwnT, c_rOwn, c_rPtr, c_nilV, c_nilO, c_objC, c_dropC, c_intC, c_boolC, c_strC, c_tsC, c_isC, c_issC, c_ssC, c_bsC, c_anyC, c_nilC, c_arrTs, c_arrIs, c_arrIss, c_arrSs, c_arrBs, ik_self, nb_self, cond_true, cond_false, rTerm_tm, T.eta, mk_k, mk_n, mk_kids, Option.bind_none, Bool.not_true, Bool.not_false, Bool.true_and, Bool.and_true, Bool.and_false, Bool.false_and, Bool.and_self, decide_true, decide_false]) | ((with_reducible refine tot_some ?_); (exact ⟨_, _, rfl, by omega, by omega, by omega⟩)) | (with_reducible exact numb_loop n s hs hn a d ha hd g m (i + 1) (by omega) (by omega) (by omega)))
theorem t_l1Number {n : Nat} {s : ByteArray} {a d : Int} (hn : s.size + 5 ≤ n) (hs : s.size ≤ 1000000) (ha : 0 ≤ a ∧ a ≤ s.size) (hd : 0 ≤ d ∧ d ≤ 10) : Tot (FF n 115 [st s, nt a, nt d] []) (IsOff s a) := by
  refine tot_step (C := s.size + 4) hn fun n hn _ => ?_
  rw [E_spec_l1Number]
  obtain ⟨i, rfl⟩ : ∃ i : Nat, a = i := ⟨a.toNat, by omega⟩
  exact numb_loop n s hs (by omega) i d ha.1 hd (s.size - i) n i (by omega) (by omega) (by omega)
/-- A term and an offset behind it, or none. -/
abbrev IsTerm (s : ByteArray) (a : Int) (r : List V1 × List AObj) : Prop := ∃ (t : T) (e : Int), r = ([tm t, nt e], []) ∧ -1 ≤ e ∧ e ≤ s.size ∧ (0 ≤ e → a + t.size ≤ e)
theorem t_leaf {n : Nat} (hn : 1 ≤ n) (k m : Int) : Tot (FF n 81 [nt k, nt m] []) (fun r => r = ([tm (.mk k m [])], [])) := ⟨_, f_l1Leaf hn k m, rfl⟩
theorem t_nodeS {n : Nat} (hn : 1 ≤ n) (k : Int) (l : List T) (hl : l.length ≤ 100) : Tot (FF n 55 [nt k, tms l] []) (fun r => r = ([tm (.mk k 0 l)], [])) := ⟨_, f_l1Node hn k l (by omega), rfl⟩
theorem t_kids {n : Nat} (hn : 1 ≤ n) (k : Int) : Tot (FF n 86 [nt k] []) (fun r => r = ([nt (opsOf k)], [])) := ⟨_, f_l1Kids hn k, rfl⟩
theorem t_most {n : Nat} (hn : 1 ≤ n) (k : Int) : Tot (FF n 85 [nt k] []) (fun r => r = ([nt (mostOf k)], [])) := ⟨_, f_l1Most hn k, rfl⟩
section
variable {s : ByteArray} (hs : s.size ≤ 1000000) {d N : Nat} (hd : d ≤ 30) (ih : ∀ n, N ≤ n → ∀ a : Int, 0 ≤ a → a ≤ s.size + 1 → Tot (FF n 106 [st s, nt a, nt (d : Int)] []) (IsTerm s a))
include hs hd ih
theorem t_l1Prefix {n : Nat} (hn : N + 2 ≤ n) {a : Int} (ha : 0 ≤ a ∧ a < s.size) : Tot (FF n 116 [st s, nt a, nt ((d : Int) + 1)] []) (IsTerm s a) := by
  refine tot_step (C := N + 1) hn fun n hn _ => ?_
  rw [E_spec_l1Prefix]
  have w : IntKind.i64.wrap ((d : Int) + 1 - 1) = (d : Int) := by rw [wrap64 (by omega)]; omega
  rw [w]
  repeat' (first | (simp (disch := omega) only [wrap64]; done) | (simp (disch := omega) only [wrap64]) | (with_reducible refine tot_cond (fun hq => ?_) (fun hq => ?_) <;> (try simp (disch := omega) only [wrap64] at hq) <;> (try simp only [decide_eq_true_eq, decide_eq_false_iff_not, Bool.not_eq_true', Bool.not_eq_false', Bool.and_eq_true, Bool.and_eq_false_iff, inB, Bool.not_true, Bool.not_false] at hq) <;> try (exfalso; omega; done)) | (with_reducible refine tot_call (ih n (by omega) _ (by omega) (by omega)) ?_; rintro _ ⟨t, e, rfl, h1, h2, h3⟩; simp only [Option.bind_some, c_rInt, c_rBool, c_rStr, c_rTs, c_rIs, c_rIss, c_rSs, c_rBs, c_rTerm, c_rOwnT, c_rOwn, c_rPtr, c_nilV, c_nilO, c_objC, c_dropC, c_intC, c_boolC, c_strC, c_tsC, c_isC, c_issC, c_ssC, c_bsC, c_anyC, c_nilC, c_arrTs, c_arrIs, c_arrIss, c_arrSs, c_arrBs, ik_self, nb_self, cond_true, cond_false, rTerm_tm, T.eta, mk_k, mk_n, mk_kids, Option.bind_none, Bool.not_true, Bool.not_false, Bool.true_and, Bool.and_true, Bool.and_false, Bool.false_and, Bool.and_self, decide_true, decide_false]) | (with_reducible refine tot_call (t_nodeS (by omega) _ _ (by simp)) ?_; rintro _ rfl; simp only [Option.bind_some, c_rInt, c_rBool, c_rStr, c_rTs, c_rIs, c_rIss, c_rSs, c_rBs, c_rTerm, c_rOwnT, c_rOwn, c_rPtr, c_nilV, c_nilO, c_objC, c_dropC, c_intC, c_boolC, c_strC, c_tsC, c_isC, c_issC, c_ssC, c_bsC, c_anyC, c_nilC, c_arrTs, c_arrIs, c_arrIss, c_arrSs, c_arrBs, ik_self, nb_self, cond_true, cond_false, rTerm_tm, T.eta, mk_k, mk_n, mk_kids, Option.bind_none, Bool.not_true, Bool.not_false, Bool.true_and, Bool.and_true, Bool.and_false, Bool.false_and, Bool.and_self, decide_true, decide_false]) | ((with_reducible refine tot_some ?_); (exact ⟨.mk _ _ _, _, rfl, by omega, by omega, fun h => by have := h3 h; simp only [T.size, T.sizeL]; omega⟩)))
theorem t_l1Round {n : Nat} (hn : N + 2 ≤ n) {a : Int} (ha : 0 ≤ a ∧ a ≤ s.size) : Tot (FF n 117 [st s, nt a, nt (d : Int)] []) (fun r => ∃ (t : T) (e : Int), r = ([tm t, nt e], []) ∧ -1 ≤ e ∧ e ≤ s.size ∧ (0 ≤ e → a + t.size ≤ e + 1)) := by
  have hs' := hs
  have hd' := hd
  refine tot_step (C := N + 1) hn fun n hn _ => ?_
  rw [E_spec_l1Round]
  refine tot_call (ih n (by omega) a (by omega) (by omega)) ?_
  rintro _ ⟨t, e, rfl, h1, h2, h3⟩
  simp only [Option.bind_some, c_rInt, c_rBool, c_rStr, c_rTs, c_rIs, c_rIss, c_rSs, c_rBs, c_rTerm, c_rOwnT, c_rOwn, c_rPtr, c_nilV, c_nilO, c_objC, c_dropC, c_intC, c_boolC, c_strC, c_tsC, c_isC, c_issC, c_ssC, c_bsC, c_anyC, c_nilC, c_arrTs, c_arrIs, c_arrIss, c_arrSs, c_arrBs, ik_self, nb_self, cond_true, cond_false, rTerm_tm, T.eta, mk_k, mk_n, mk_kids, Option.bind_none, Bool.not_true, Bool.not_false, Bool.true_and, Bool.and_true, Bool.and_false, Bool.false_and, Bool.and_self, decide_true, decide_false]
  repeat' (first | (simp (disch := omega) only [wrap64]; done) | (simp (disch := omega) only [wrap64]) | (with_reducible refine tot_cond (fun hq => ?_) (fun hq => ?_) <;> (try simp (disch := omega) only [wrap64] at hq) <;> (try simp only [decide_eq_true_eq, decide_eq_false_iff_not, Bool.not_eq_true', Bool.not_eq_false', Bool.and_eq_true, Bool.and_eq_false_iff, inB, Bool.not_true, Bool.not_false] at hq) <;> try (exfalso; omega; done)) | (with_reducible refine tot_call (ih n (by omega) _ (by omega) (by omega)) ?_; rintro _ ⟨u, e', rfl, h4, h5, h6⟩; simp only [Option.bind_some, c_rInt, c_rBool, c_rStr, c_rTs, c_rIs, c_rIss, c_rSs, c_rBs, c_rTerm, c_rOwnT, c_rOwn, c_rPtr, c_nilV, c_nilO, c_objC, c_dropC, c_intC, c_boolC, c_strC, c_tsC, c_isC, c_issC, c_ssC, c_bsC, c_anyC, c_nilC, c_arrTs, c_arrIs, c_arrIss, c_arrSs, c_arrBs, ik_self, nb_self, cond_true, cond_false, rTerm_tm, T.eta, mk_k, mk_n, mk_kids, Option.bind_none, Bool.not_true, Bool.not_false, Bool.true_and, Bool.and_true, Bool.and_false, Bool.false_and, Bool.and_self, decide_true, decide_false]) | (with_reducible refine tot_call (t_nodeS (by omega) _ _ (by simp)) ?_; rintro _ rfl; simp only [Option.bind_some, c_rInt, c_rBool, c_rStr, c_rTs, c_rIs, c_rIss, c_rSs, c_rBs, c_rTerm, c_rOwnT, c_rOwn, c_rPtr, c_nilV, c_nilO, c_objC, c_dropC, c_intC, c_boolC, c_strC, c_tsC, c_isC, c_issC, c_ssC, c_bsC, c_anyC, c_nilC, c_arrTs, c_arrIs, c_arrIss, c_arrSs, c_arrBs, ik_self, nb_self, cond_true, cond_false, rTerm_tm, T.eta, mk_k, mk_n, mk_kids, Option.bind_none, Bool.not_true, Bool.not_false, Bool.true_and, Bool.and_true, Bool.and_false, Bool.false_and, Bool.and_self, decide_true, decide_false]) | ((with_reducible refine tot_some ?_); (exact ⟨.mk _ _ _, _, rfl, by omega, by omega, by omega⟩)) | ((with_reducible refine tot_some ?_); (exact ⟨.mk _ _ _, _, rfl, by omega, by omega, fun h => by have := h3 (by omega); have := h6 (by omega); simp only [T.size, T.sizeL]; omega⟩)))
theorem series_loop (n : Nat) (hn : N + 1 ≤ n) (last : Int) (many : Nat) (hmany : many ≤ 4) (a0 : Int) (ha0 : 0 ≤ a0) : ∀ g m (i : Nat) (a : Int) (acc : List T), g < m → i + g = many → 0 ≤ a → a ≤ s.size → acc.length = i → a0 + T.sizeL acc ≤ a →
    Tot (L_spec_l1Series_0 n m s a d many last i acc) (fun r => ∃ (l : List T) (e : Int), r = ([tms l, nt e], []) ∧ -1 ≤ e ∧ e ≤ s.size ∧ (0 ≤ e → a0 + T.sizeL l ≤ e))
  | g, 0, i, a, acc, hg, _, _, _, _, _ => by
    have hs' := hs
    have hd' := hd
    omega
  | 0, m + 1, i, a, acc, _, hi, h0, h1, hl, hz => by
    rw [L_spec_l1Series_0_eq]
    rw [decide_eq_false (show ¬ (i : Int) < many by omega)]
    exact tot_some ⟨_, _, rfl, by omega, by omega, by omega⟩
  | g + 1, m + 1, i, a, acc, hg, hi, h0, h1, hl, hz => by
    have w : IntKind.i64.wrap ((i : Int) + 1) = ((i + 1 : Nat) : Int) := wrap64 (by omega)
    rw [L_spec_l1Series_0_eq, w]
    rw [decide_eq_true (show (i : Int) < many by omega), cond_true]
    refine tot_call (ih n (by omega) a (by omega) (by omega)) ?_
    rintro _ ⟨t, e, rfl, k1, k2, k3⟩
    simp only [Option.bind_some, c_rInt, c_rBool, c_rStr, c_rTs, c_rIs, c_rIss, c_rSs, c_rBs, c_rTerm, c_rOwnT, c_rOwn, c_rPtr, c_nilV, c_nilO, c_objC, c_dropC, c_intC, c_boolC, c_strC, c_tsC, c_isC, c_issC, c_ssC, c_bsC, c_anyC, c_nilC, c_arrTs, c_arrIs, c_arrIss, c_arrSs, c_arrBs, ik_self, nb_self, cond_true, cond_false, rTerm_tm, T.eta, mk_k, mk_n, mk_kids, Option.bind_none, Bool.not_true, Bool.not_false, Bool.true_and, Bool.and_true, Bool.and_false, Bool.false_and, Bool.and_self, decide_true, decide_false, List.length_append, List.length_cons, List.length_nil, hl]
    have hroom : roomB (i + (0 + 1)) = true := roomB_ok (by omega)
    have hsz : T.sizeL (acc ++ [t]) = T.sizeL acc + t.size := by
      clear hl hz
      induction acc with
      | nil => simp [T.sizeL]
      | cons x acc ih2 => simp only [List.cons_append, T.sizeL, ih2]; omega
    rw [hroom]
    simp only [cond_true]
    have nx : 0 ≤ e → e < s.size → Tot (L_spec_l1Series_0 n m s (e + 1) d many last ((i + 1 : Nat) : Int) (acc ++ [t])) (fun r => ∃ (l : List T) (e : Int), r = ([tms l, nt e], []) ∧ -1 ≤ e ∧ e ≤ s.size ∧ (0 ≤ e → a0 + T.sizeL l ≤ e)) := fun h h' =>
      series_loop n hn last many hmany a0 ha0 g m (i + 1) (e + 1) (acc ++ [t]) (by omega) (by omega) (by omega) (by omega) (by simp [hl]) (by have := k3 h; rw [hsz]; omega)
    repeat' (first | (simp (disch := omega) only [wrap64]; done) | (simp (disch := omega) only [wrap64]) | (with_reducible refine tot_cond (fun hq => ?_) (fun hq => ?_) <;> (try simp (disch := omega) only [wrap64] at hq) <;> (try simp only [decide_eq_true_eq, decide_eq_false_iff_not, Bool.not_eq_true', Bool.not_eq_false', Bool.and_eq_true, Bool.and_eq_false_iff, inB, Bool.not_true, Bool.not_false] at hq) <;> try (exfalso; omega; done)) | ((with_reducible refine tot_some ?_); (exact ⟨[], _, rfl, by omega, by omega, by omega⟩)) | (with_reducible exact nx (by omega) (by omega)))
theorem t_l1Series {n : Nat} (hn : N + 7 ≤ n) {a : Int} (ha : 0 ≤ a ∧ a ≤ s.size) (many : Int) (hm : 0 ≤ many ∧ many ≤ 4) (last : Int) : Tot (FF n 128 [st s, nt a, nt (d : Int), nt many, .one (.int .u8 last)] []) (fun r => ∃ (l : List T) (e : Int), r = ([tms l, nt e], []) ∧ -1 ≤ e ∧ e ≤ s.size ∧ (0 ≤ e → a + T.sizeL l ≤ e)) := by
  refine tot_step (C := N + 6) hn fun n hn _ => ?_
  rw [E_spec_l1Series]
  obtain ⟨k, rfl⟩ : ∃ k : Nat, many = k := ⟨many.toNat, by omega⟩
  exact series_loop hs hd ih n (by omega) last k (by omega) a ha.1 k n 0 a [] (by omega) (by omega) ha.1 ha.2 rfl (by simp [T.sizeL])
theorem t_l1Block {n : Nat} (hn : N + 8 ≤ n) {a : Int} (ha : 0 ≤ a ∧ a < s.size) : Tot (FF n 118 [st s, nt a, nt ((d : Int) + 1)] []) (IsTerm s a) := by
  refine tot_step (C := N + 7) hn fun n hn _ => ?_
  rw [E_spec_l1Block]
  have w : IntKind.i64.wrap ((d : Int) + 1 - 1) = (d : Int) := by rw [wrap64 (by omega)]; omega
  rw [w]
  have k9 : opsOf 9 = 4 := rfl
  have k10 : opsOf 10 = 3 := rfl
  have k14 : opsOf 14 = 3 := rfl
  have k12 : opsOf 12 = 3 := rfl
  repeat' (first | (simp (disch := omega) only [wrap64]; done) | (simp (disch := omega) only [wrap64]) | (with_reducible refine tot_cond (fun hq => ?_) (fun hq => ?_) <;> (try simp (disch := omega) only [wrap64] at hq) <;> (try simp only [decide_eq_true_eq, decide_eq_false_iff_not, Bool.not_eq_true', Bool.not_eq_false', Bool.and_eq_true, Bool.and_eq_false_iff, inB, Bool.not_true, Bool.not_false] at hq) <;> try (exfalso; omega; done)) | (with_reducible refine tot_call (t_kids (by omega) _) ?_; rintro _ rfl; simp only [Option.bind_some, c_rInt, c_rBool, c_rStr, c_rTs, c_rIs, c_rIss, c_rSs, c_rBs, c_rTerm, c_rOwnT, c_rOwn, c_rPtr, c_nilV, c_nilO, c_objC, c_dropC, c_intC, c_boolC, c_strC, c_tsC, c_isC, c_issC, c_ssC, c_bsC, c_anyC, c_nilC, c_arrTs, c_arrIs, c_arrIss, c_arrSs, c_arrBs, ik_self, nb_self, cond_true, cond_false, rTerm_tm, T.eta, mk_k, mk_n, mk_kids, Option.bind_none, Bool.not_true, Bool.not_false, Bool.true_and, Bool.and_true, Bool.and_false, Bool.false_and, Bool.and_self, decide_true, decide_false]) | (with_reducible refine tot_call (t_l1Series hs hd ih (by omega) ⟨by omega, by omega⟩ _ (by rw [k9]; omega) _) ?_; rintro _ ⟨l, e, rfl, h1, h2, h3⟩; simp only [Option.bind_some, c_rInt, c_rBool, c_rStr, c_rTs, c_rIs, c_rIss, c_rSs, c_rBs, c_rTerm, c_rOwnT, c_rOwn, c_rPtr, c_nilV, c_nilO, c_objC, c_dropC, c_intC, c_boolC, c_strC, c_tsC, c_isC, c_issC, c_ssC, c_bsC, c_anyC, c_nilC, c_arrTs, c_arrIs, c_arrIss, c_arrSs, c_arrBs, ik_self, nb_self, cond_true, cond_false, rTerm_tm, T.eta, mk_k, mk_n, mk_kids, Option.bind_none, Bool.not_true, Bool.not_false, Bool.true_and, Bool.and_true, Bool.and_false, Bool.false_and, Bool.and_self, decide_true, decide_false]) | (with_reducible refine tot_call (t_l1Series hs hd ih (by omega) ⟨by omega, by omega⟩ _ (by rw [k10]; omega) _) ?_; rintro _ ⟨l, e, rfl, h1, h2, h3⟩; simp only [Option.bind_some, c_rInt, c_rBool, c_rStr, c_rTs, c_rIs, c_rIss, c_rSs, c_rBs, c_rTerm, c_rOwnT, c_rOwn, c_rPtr, c_nilV, c_nilO, c_objC, c_dropC, c_intC, c_boolC, c_strC, c_tsC, c_isC, c_issC, c_ssC, c_bsC, c_anyC, c_nilC, c_arrTs, c_arrIs, c_arrIss, c_arrSs, c_arrBs, ik_self, nb_self, cond_true, cond_false, rTerm_tm, T.eta, mk_k, mk_n, mk_kids, Option.bind_none, Bool.not_true, Bool.not_false, Bool.true_and, Bool.and_true, Bool.and_false, Bool.false_and, Bool.and_self, decide_true, decide_false]) | (with_reducible refine tot_call (t_l1Series hs hd ih (by omega) ⟨by omega, by omega⟩ _ (by rw [k14]; omega) _) ?_; rintro _ ⟨l, e, rfl, h1, h2, h3⟩; simp only [Option.bind_some, c_rInt, c_rBool, c_rStr, c_rTs, c_rIs, c_rIss, c_rSs, c_rBs, c_rTerm, c_rOwnT, c_rOwn, c_rPtr, c_nilV, c_nilO, c_objC, c_dropC, c_intC, c_boolC, c_strC, c_tsC, c_isC, c_issC, c_ssC, c_bsC, c_anyC, c_nilC, c_arrTs, c_arrIs, c_arrIss, c_arrSs, c_arrBs, ik_self, nb_self, cond_true, cond_false, rTerm_tm, T.eta, mk_k, mk_n, mk_kids, Option.bind_none, Bool.not_true, Bool.not_false, Bool.true_and, Bool.and_true, Bool.and_false, Bool.false_and, Bool.and_self, decide_true, decide_false]) | (with_reducible refine tot_call (t_l1Series hs hd ih (by omega) ⟨by omega, by omega⟩ _ (by rw [k12]; omega) _) ?_; rintro _ ⟨l, e, rfl, h1, h2, h3⟩; simp only [Option.bind_some, c_rInt, c_rBool, c_rStr, c_rTs, c_rIs, c_rIss, c_rSs, c_rBs, c_rTerm, c_rOwnT, c_rOwn, c_rPtr, c_nilV, c_nilO, c_objC, c_dropC, c_intC, c_boolC, c_strC, c_tsC, c_isC, c_issC, c_ssC, c_bsC, c_anyC, c_nilC, c_arrTs, c_arrIs, c_arrIss, c_arrSs, c_arrBs, ik_self, nb_self, cond_true, cond_false, rTerm_tm, T.eta, mk_k, mk_n, mk_kids, Option.bind_none, Bool.not_true, Bool.not_false, Bool.true_and, Bool.and_true, Bool.and_false, Bool.false_and, Bool.and_self, decide_true, decide_false]) | ((with_reducible refine tot_some ?_); (exact ⟨.mk _ _ _, _, rfl, by omega, by omega, by omega⟩)) | ((with_reducible refine tot_some ?_); (exact ⟨.mk _ _ _, _, rfl, by omega, by omega, fun h => by have := h3 h; simp only [T.size]; omega⟩)))
end
theorem t_l1Parse {s : ByteArray} (hs : s.size ≤ 1000000) : ∀ (d : Nat), d ≤ 30 → ∀ n, s.size + 20 + 12 * d ≤ n → ∀ a : Int, 0 ≤ a → a ≤ s.size + 1 → Tot (FF n 106 [st s, nt a, nt (d : Int)] []) (IsTerm s a)
  | 0, hd, n, hn, a, h0, h1 => by
    refine tot_step (C := s.size + 19) (by omega) fun n hn _ => ?_
    rw [E_spec_l1Parse]
    repeat' (first | (simp (disch := omega) only [wrap64]; done) | (simp (disch := omega) only [wrap64]) | (with_reducible refine tot_cond (fun hq => ?_) (fun hq => ?_) <;> (try simp (disch := omega) only [wrap64] at hq) <;> (try simp only [decide_eq_true_eq, decide_eq_false_iff_not, Bool.not_eq_true', Bool.not_eq_false', Bool.and_eq_true, Bool.and_eq_false_iff, inB, Bool.not_true, Bool.not_false] at hq) <;> try (exfalso; omega; done)) | ((with_reducible refine tot_some ?_); (exact ⟨.mk _ _ _, _, rfl, by omega, by omega, by omega⟩)))
  | d + 1, hd, n, hn, a, h0, h1 => by
    have ih := fun n hn => t_l1Parse hs d (by omega) n hn
    refine tot_step (C := s.size + 19 + 12 * (d + 1)) (by omega) fun n hn _ => ?_
    rw [E_spec_l1Parse]
    have w : IntKind.i64.wrap (((d + 1 : Nat) : Int) - 1) = (d : Int) := by rw [wrap64 (by omega)]; omega
    have w2 : (((d + 1 : Nat) : Int)) = (d : Int) + 1 := rfl
    rw [w, w2]
    repeat' (first | (simp (disch := omega) only [wrap64]; done) | (simp (disch := omega) only [wrap64]) | (with_reducible refine tot_cond (fun hq => ?_) (fun hq => ?_) <;> (try simp (disch := omega) only [wrap64] at hq) <;> (try simp only [decide_eq_true_eq, decide_eq_false_iff_not, Bool.not_eq_true', Bool.not_eq_false', Bool.and_eq_true, Bool.and_eq_false_iff, inB, Bool.not_true, Bool.not_false] at hq) <;> try (exfalso; omega; done)) | (with_reducible refine tot_call (t_l1Number (by omega) hs ⟨by omega, by omega⟩ ⟨by omega, by omega⟩) ?_; rintro _ ⟨v, e, rfl, k1, k2, k3⟩; simp only [Option.bind_some, c_rInt, c_rBool, c_rStr, c_rTs, c_rIs, c_rIss, c_rSs, c_rBs, c_rTerm, c_rOwnT, c_rOwn, c_rPtr, c_nilV, c_nilO, c_objC, c_dropC, c_intC, c_boolC, c_strC, c_tsC, c_isC, c_issC, c_ssC, c_bsC, c_anyC, c_nilC, c_arrTs, c_arrIs, c_arrIss, c_arrSs, c_arrBs, ik_self, nb_self, cond_true, cond_false, rTerm_tm, T.eta, mk_k, mk_n, mk_kids, Option.bind_none, Bool.not_true, Bool.not_false, Bool.true_and, Bool.and_true, Bool.and_false, Bool.false_and, Bool.and_self, decide_true, decide_false]) | (with_reducible refine tot_call (t_leaf (by omega) _ _) ?_; rintro _ rfl; simp only [Option.bind_some, c_rInt, c_rBool, c_rStr, c_rTs, c_rIs, c_rIss, c_rSs, c_rBs, c_rTerm, c_rOwnT, c_rOwn, c_rPtr, c_nilV, c_nilO, c_objC, c_dropC, c_intC, c_boolC, c_strC, c_tsC, c_isC, c_issC, c_ssC, c_bsC, c_anyC, c_nilC, c_arrTs, c_arrIs, c_arrIss, c_arrSs, c_arrBs, ik_self, nb_self, cond_true, cond_false, rTerm_tm, T.eta, mk_k, mk_n, mk_kids, Option.bind_none, Bool.not_true, Bool.not_false, Bool.true_and, Bool.and_true, Bool.and_false, Bool.false_and, Bool.and_self, decide_true, decide_false]) | (with_reducible refine tot_call (t_l1Prefix hs (by omega) ih (by omega) ⟨by omega, by omega⟩) ?_; rintro _ ⟨t, e, rfl, k1, k2, k3⟩; simp only [Option.bind_some, c_rInt, c_rBool, c_rStr, c_rTs, c_rIs, c_rIss, c_rSs, c_rBs, c_rTerm, c_rOwnT, c_rOwn, c_rPtr, c_nilV, c_nilO, c_objC, c_dropC, c_intC, c_boolC, c_strC, c_tsC, c_isC, c_issC, c_ssC, c_bsC, c_anyC, c_nilC, c_arrTs, c_arrIs, c_arrIss, c_arrSs, c_arrBs, ik_self, nb_self, cond_true, cond_false, rTerm_tm, T.eta, mk_k, mk_n, mk_kids, Option.bind_none, Bool.not_true, Bool.not_false, Bool.true_and, Bool.and_true, Bool.and_false, Bool.false_and, Bool.and_self, decide_true, decide_false]) | (with_reducible refine tot_call (t_l1Round hs (by omega) ih (by omega) ⟨by omega, by omega⟩) ?_; rintro _ ⟨t, e, rfl, k1, k2, k3⟩; simp only [Option.bind_some, c_rInt, c_rBool, c_rStr, c_rTs, c_rIs, c_rIss, c_rSs, c_rBs, c_rTerm, c_rOwnT, c_rOwn, c_rPtr, c_nilV, c_nilO, c_objC, c_dropC, c_intC, c_boolC, c_strC, c_tsC, c_isC, c_issC, c_ssC, c_bsC, c_anyC, c_nilC, c_arrTs, c_arrIs, c_arrIss, c_arrSs, c_arrBs, ik_self, nb_self, cond_true, cond_false, rTerm_tm, T.eta, mk_k, mk_n, mk_kids, Option.bind_none, Bool.not_true, Bool.not_false, Bool.true_and, Bool.and_true, Bool.and_false, Bool.false_and, Bool.and_self, decide_true, decide_false]) | (with_reducible refine tot_call (t_l1Block hs (by omega) ih (by omega) ⟨by omega, by omega⟩) ?_; rintro _ ⟨t, e, rfl, k1, k2, k3⟩; simp only [Option.bind_some, c_rInt, c_rBool, c_rStr, c_rTs, c_rIs, c_rIss, c_rSs, c_rBs, c_rTerm, c_rOwnT, c_rOwn, c_rPtr, c_nilV, c_nilO, c_objC, c_dropC, c_intC, c_boolC, c_strC, c_tsC, c_isC, c_issC, c_ssC, c_bsC, c_anyC, c_nilC, c_arrTs, c_arrIs, c_arrIss, c_arrSs, c_arrBs, ik_self, nb_self, cond_true, cond_false, rTerm_tm, T.eta, mk_k, mk_n, mk_kids, Option.bind_none, Bool.not_true, Bool.not_false, Bool.true_and, Bool.and_true, Bool.and_false, Bool.false_and, Bool.and_self, decide_true, decide_false]) | (with_reducible refine tot_call (ih n (by omega) _ (by omega) (by omega)) ?_; rintro _ ⟨u, e', rfl, k4, k5, k6⟩; simp only [Option.bind_some, c_rInt, c_rBool, c_rStr, c_rTs, c_rIs, c_rIss, c_rSs, c_rBs, c_rTerm, c_rOwnT, c_rOwn, c_rPtr, c_nilV, c_nilO, c_objC, c_dropC, c_intC, c_boolC, c_strC, c_tsC, c_isC, c_issC, c_ssC, c_bsC, c_anyC, c_nilC, c_arrTs, c_arrIs, c_arrIss, c_arrSs, c_arrBs, ik_self, nb_self, cond_true, cond_false, rTerm_tm, T.eta, mk_k, mk_n, mk_kids, Option.bind_none, Bool.not_true, Bool.not_false, Bool.true_and, Bool.and_true, Bool.and_false, Bool.false_and, Bool.and_self, decide_true, decide_false]) | (with_reducible refine tot_call (t_nodeS (by omega) _ _ (by simp)) ?_; rintro _ rfl; simp only [Option.bind_some, c_rInt, c_rBool, c_rStr, c_rTs, c_rIs, c_rIss, c_rSs, c_rBs, c_rTerm, c_rOwnT, c_rOwn, c_rPtr, c_nilV, c_nilO, c_objC, c_dropC, c_intC, c_boolC, c_strC, c_tsC, c_isC, c_issC, c_ssC, c_bsC, c_anyC, c_nilC, c_arrTs, c_arrIs, c_arrIss, c_arrSs, c_arrBs, ik_self, nb_self, cond_true, cond_false, rTerm_tm, T.eta, mk_k, mk_n, mk_kids, Option.bind_none, Bool.not_true, Bool.not_false, Bool.true_and, Bool.and_true, Bool.and_false, Bool.false_and, Bool.and_self, decide_true, decide_false]) | ((with_reducible refine tot_some ?_); (exact ⟨.mk _ _ _, _, rfl, by omega, by omega, by omega⟩)) | ((with_reducible refine tot_some ?_); (exact ⟨.mk _ _ _, _, rfl, by omega, by omega, fun h => by simp only [T.size, T.sizeL]; omega⟩)) | ((with_reducible refine tot_some ?_); (exact ⟨t, _, rfl, by omega, by omega, fun h => by have := k3 h; omega⟩)) | ((with_reducible refine tot_some ?_); (exact ⟨.mk _ _ _, _, rfl, by omega, by omega, fun h => by have := k3 h; simp only [T.size, T.sizeL]; omega⟩)) | ((with_reducible refine tot_some ?_); (exact ⟨.mk _ _ _, _, rfl, by omega, by omega, fun h => by have := k3 (by omega); have := k6 h; simp only [T.size, T.sizeL]; omega⟩)))
/-! The text of a term. -/
/-- A text of at most m bytes. -/
abbrev IsStr (m : Nat) (r : List V1 × List AObj) : Prop := ∃ s : ByteArray, r = ([st s], []) ∧ s.size ≤ m
theorem size_mk1 (c : UInt8) : (ByteArray.mk ([c].toArray)).size = 1 := rfl
theorem dec_byte (v : Int) (h : 0 ≤ v ∧ v ≤ 9) : IntKind.u8.wrap (IntKind.i64.wrap (48 + v)) = 48 + v := by
  rw [wrap64 (by omega)]
  rw [IntKind.wrap]; simp [IntKind.signed, IntKind.bits]; omega
theorem t_l19Dec {n : Nat} (hn : 5 ≤ n) {v : Int} (hv : 0 ≤ v ∧ v ≤ 99) : Tot (FF n 129 [nt v] []) (IsStr 2) := by
  refine tot_step (C := 4) hn fun n hn _ => ?_
  rw [E_spec_l19Dec]
  rw [decide_eq_false (show ¬ v < -9223372036854775807 by omega), decide_eq_false (show ¬ v < 0 by omega)]
  simp only [cond_false]
  have fin : ∀ (m : Nat) (v : Int) (x : ByteArray), 0 ≤ v ∧ v ≤ 9 → x.size ≤ 1 → Tot (L_spec_l19Dec_0 n (m + 1) v x) (IsStr 2) := by
    intro m v x hv hx
    rw [L_spec_l19Dec_0_eq, dec_byte v hv, decide_eq_false (show ¬ 9 < v by omega), decide_eq_true (show 0 ≤ 48 + v by omega), decide_eq_true (show 48 + v ≤ 255 by omega)]
    simp only [Bool.and_self, cond_true, cond_false]
    refine tot_cond (fun _ => tot_some ?_) (fun hq => ?_)
    · exact ⟨_, rfl, by rw [ByteArray.size_append]; show 1 + x.size ≤ 2; omega⟩
    · have hq' := of_decide_eq_false hq
      exact absurd (show 1 + x.size ≤ 9223372036854775807 by omega) hq'
  obtain ⟨m, rfl⟩ : ∃ m, n = m + 2 := ⟨n - 2, by omega⟩
  by_cases h9 : 9 < v
  · have hm := tmod_bd (show 0 ≤ v by omega) (show (0 : Int) < 10 by omega)
    have hd := tdiv_bd (show 0 ≤ v by omega) (show (0 : Int) < 10 by omega)
    have hd2 : v.tdiv 10 ≤ 9 := by rw [Int.tdiv_eq_ediv_of_nonneg (by omega)]; omega
    rw [L_spec_l19Dec_0_eq, dec_byte _ (by omega), decide_eq_true h9, decide_eq_true (show 0 ≤ 48 + v.tmod 10 by omega), decide_eq_true (show 48 + v.tmod 10 ≤ 255 by omega), wrap64 (by omega)]
    simp only [Bool.and_self, cond_true]
    refine tot_cond (fun _ => ?_) (fun hq => ?_)
    · exact fin m _ _ ⟨hd.1, hd2⟩ (by rw [ByteArray.size_append]; exact Nat.le_refl 1)
    · have hq' := of_decide_eq_false hq
      exact absurd (show 1 + 0 ≤ 9223372036854775807 by omega) hq'
  · exact fin (m + 1) v _ ⟨hv.1, by omega⟩ (by decide)
theorem size_bytes (l : List UInt8) : (bytesOf l).size = l.length := by simp [bytesOf, ByteArray.size]
theorem list_loop (n : Nat) (ts : List T) (hl : ts.length ≤ 1000) (hsz : T.sizeL ts ≤ 1000) (h : ∀ u ∈ ts, Tot (FF n 119 [tm u] []) (IsStr (8 * u.size - 1))) :
    ∀ g m (i : Nat) (x : ByteArray), g < m → i + g = ts.length → x.size + 8 * T.sizeL (ts.drop i) ≤ 8 * T.sizeL ts → Tot (L_spec_l1List_0 n m ts x i) (IsStr (8 * T.sizeL ts))
  | g, 0, i, x, hg, _, _ => by omega
  | 0, m + 1, i, x, _, hi, hx => by
    rw [L_spec_l1List_0_eq, decide_eq_false (show ¬ (i : Int) < ts.length by omega)]
    refine tot_some ?_
    exact ⟨_, rfl, by omega⟩
  | g + 1, m + 1, i, x, hg, hi, hx => by
    have hlt : i < ts.length := by omega
    have hm := List.getElem_mem hlt
    rw [List.drop_eq_getElem_cons hlt, T.sizeL] at hx
    have w : IntKind.i64.wrap ((i : Int) + 1) = ((i + 1 : Nat) : Int) := wrap64 (by omega)
    have hp := size_pos ts[i]
    rw [L_spec_l1List_0_eq, w]
    simp only [Int.toNat_natCast, List.getElem?_eq_getElem hlt, Option.bind_some, ByteArray.size_append, size_bytes, List.length_cons, List.length_nil]
    have nx : ∀ y : ByteArray, y.size ≤ x.size + 8 * ts[i].size → Tot (L_spec_l1List_0 n m ts y ((i + 1 : Nat) : Int)) (IsStr (8 * T.sizeL ts)) := fun y hy => list_loop n ts hl hsz h g m (i + 1) y (by omega) (by omega) (by omega)
    repeat' (first | (simp (disch := omega) only [wrap64]; done) | (simp (disch := omega) only [wrap64]) | (with_reducible refine tot_cond (fun hq => ?_) (fun hq => ?_) <;> (try simp (disch := omega) only [wrap64] at hq) <;> (try simp only [decide_eq_true_eq, decide_eq_false_iff_not, Bool.not_eq_true', Bool.not_eq_false', Bool.and_eq_true, Bool.and_eq_false_iff, inB, Bool.not_true, Bool.not_false] at hq) <;> try (exfalso; omega; done)) | (with_reducible refine tot_call (h _ hm) ?_; rintro _ ⟨s, rfl, hs⟩; simp only [Option.bind_some, c_rInt, c_rBool, c_rStr, c_rTs, c_rIs, c_rIss, c_rSs, c_rBs, c_rTerm, c_rOwnT, c_rOwn, c_rPtr, c_nilV, c_nilO, c_objC, c_dropC, c_intC, c_boolC, c_strC, c_tsC, c_isC, c_issC, c_ssC, c_bsC, c_anyC, c_nilC, c_arrTs, c_arrIs, c_arrIss, c_arrSs, c_arrBs, ik_self, nb_self, cond_true, cond_false, rTerm_tm, T.eta, mk_k, mk_n, mk_kids, Option.bind_none, Bool.not_true, Bool.not_false, Bool.true_and, Bool.and_true, Bool.and_false, Bool.false_and, Bool.and_self, decide_true, decide_false]) | (with_reducible exact nx _ (by simp only [ByteArray.size_append, size_bytes, List.length_cons, List.length_nil]; omega)))
theorem tot_kid {t : T} {i : Nat} {k : T → OR} {Q : List V1 × List AObj → Prop} (h : i < t.kids.length) (hk : Tot (k (kd t i)) Q) : Tot (t.kids[i]?.bind k) Q := by
  rw [kid_get h]; exact hk
theorem t_l1Text (t : T) : ∀ {n : Nat}, 2 * t.size + 10 ≤ n → validB t = true → Tot (FF n 119 [tm t] []) (IsStr (8 * t.size - 1)) := by
  induction t using T.ind with | h t ih =>
  intro n hn hv
  have hsz := T.size_eq t
  have hz := validB_size hv
  have hl := T.sizeL_len t.kids
  have ho := validB_ops hv
  refine tot_step (C := 2 * t.size + 9) hn fun n hn _ => ?_
  have hk : ∀ i, i < t.kids.length → Tot (FF n 119 [tm (kd t i)] []) (IsStr (8 * (kd t i).size - 1)) := fun i hi => ih _ (kd_mem hi) (by have := T.sizeL_mem (kd_mem hi); omega) (validB_kid hv (kd_mem hi))
  have hkz : ∀ i, i < t.kids.length → (kd t i).size ≤ T.sizeL t.kids := fun i hi => T.sizeL_mem (kd_mem hi)
  have hlist : Tot (FF n 130 [tms t.kids] []) (IsStr (8 * T.sizeL t.kids)) := by
    refine tot_step (C := 2 * t.size + 8) (by omega) fun n hn e => ?_
    subst e
    rw [E_spec_l1List]
    exact list_loop n t.kids (by omega) (by omega) (fun u hu => ih u hu (by have := T.sizeL_mem hu; omega) (validB_kid hv hu)) t.kids.length n 0 _ (by omega) (by omega) (by simp [size_bytes])
  rw [E_spec_l1Text]
  simp only [Int.toNat_zero, Int.reduceToNat, Int.toNat_one]
  have l8 : t.k = 8 → t.kids.length = 1 := fun h => ops_len hv (c := 1) (by rw [h]; rfl)
  have l11 : t.k = 11 → t.kids.length = 1 := fun h => ops_len hv (c := 1) (by rw [h]; rfl)
  have l15 : t.k = 15 → t.kids.length = 1 := fun h => ops_len hv (c := 1) (by rw [h]; rfl)
  have l16 : t.k = 16 → t.kids.length = 1 := fun h => ops_len hv (c := 1) (by rw [h]; rfl)
  have l3 : t.k = 3 → t.kids.length = 2 := fun h => ops_len hv (c := 2) (by rw [h]; rfl)
  have l13 : t.k = 13 → t.kids.length = 2 := fun h => ops_len hv (c := 2) (by rw [h]; rfl)
  have l5 : t.k = 5 → t.kids.length = 2 := fun h => ops_len hv (c := 2) (by rw [h]; rfl)
  have l4 : t.k = 4 → t.kids.length = 2 := fun h => ops_len hv (c := 2) (by rw [h]; rfl)
  have h01 : t.kids.length = 2 → (kd t 0).size + (kd t 1).size ≤ T.sizeL t.kids := by
    intro h2
    cases t with | mk k n' ts =>
    match ts, h2 with
    | [x, y], _ => simp [kd, T.kids, T.sizeL]
  have h0 := hkz 0
  have z0 := size_pos (kd t 0)
  have z1 := size_pos (kd t 1)
  have hn20 : 0 ≤ t.n ∧ t.n ≤ 20 := ⟨(gd_out (gd_valid hv)).1, (gd_out (gd_valid hv)).2.1⟩
  simp only [ByteArray.size_append, size_bytes, List.length_cons, List.length_nil]
  repeat' (first | (simp (disch := omega) only [wrap64]; done) | (simp (disch := omega) only [wrap64]) | (with_reducible refine tot_cond (fun hq => ?_) (fun hq => ?_) <;> (try simp (disch := omega) only [wrap64] at hq) <;> (try simp only [decide_eq_true_eq, decide_eq_false_iff_not, Bool.not_eq_true', Bool.not_eq_false', Bool.and_eq_true, Bool.and_eq_false_iff, inB, Bool.not_true, Bool.not_false] at hq) <;> try (exfalso; omega; done)) | (with_reducible refine tot_call (t_l19Dec (by omega) (by omega)) ?_; rintro _ ⟨s, rfl, hs⟩; simp only [Option.bind_some, c_rInt, c_rBool, c_rStr, c_rTs, c_rIs, c_rIss, c_rSs, c_rBs, c_rTerm, c_rOwnT, c_rOwn, c_rPtr, c_nilV, c_nilO, c_objC, c_dropC, c_intC, c_boolC, c_strC, c_tsC, c_isC, c_issC, c_ssC, c_bsC, c_anyC, c_nilC, c_arrTs, c_arrIs, c_arrIss, c_arrSs, c_arrBs, ik_self, nb_self, cond_true, cond_false, rTerm_tm, T.eta, mk_k, mk_n, mk_kids, Option.bind_none, Bool.not_true, Bool.not_false, Bool.true_and, Bool.and_true, Bool.and_false, Bool.false_and, Bool.and_self, decide_true, decide_false]) | (with_reducible refine tot_call (hlist) ?_; rintro _ ⟨s, rfl, hs⟩; simp only [Option.bind_some, c_rInt, c_rBool, c_rStr, c_rTs, c_rIs, c_rIss, c_rSs, c_rBs, c_rTerm, c_rOwnT, c_rOwn, c_rPtr, c_nilV, c_nilO, c_objC, c_dropC, c_intC, c_boolC, c_strC, c_tsC, c_isC, c_issC, c_ssC, c_bsC, c_anyC, c_nilC, c_arrTs, c_arrIs, c_arrIss, c_arrSs, c_arrBs, ik_self, nb_self, cond_true, cond_false, rTerm_tm, T.eta, mk_k, mk_n, mk_kids, Option.bind_none, Bool.not_true, Bool.not_false, Bool.true_and, Bool.and_true, Bool.and_false, Bool.false_and, Bool.and_self, decide_true, decide_false]) | ((with_reducible refine tot_kid (t := t) (by omega) ?_)) | (with_reducible refine tot_call (hk 0 (by omega)) ?_; rintro _ ⟨s, rfl, hs⟩; simp only [Option.bind_some, c_rInt, c_rBool, c_rStr, c_rTs, c_rIs, c_rIss, c_rSs, c_rBs, c_rTerm, c_rOwnT, c_rOwn, c_rPtr, c_nilV, c_nilO, c_objC, c_dropC, c_intC, c_boolC, c_strC, c_tsC, c_isC, c_issC, c_ssC, c_bsC, c_anyC, c_nilC, c_arrTs, c_arrIs, c_arrIss, c_arrSs, c_arrBs, ik_self, nb_self, cond_true, cond_false, rTerm_tm, T.eta, mk_k, mk_n, mk_kids, Option.bind_none, Bool.not_true, Bool.not_false, Bool.true_and, Bool.and_true, Bool.and_false, Bool.false_and, Bool.and_self, decide_true, decide_false]) | (with_reducible refine tot_call (hk 1 (by omega)) ?_; rintro _ ⟨s', rfl, hs'⟩; simp only [Option.bind_some, c_rInt, c_rBool, c_rStr, c_rTs, c_rIs, c_rIss, c_rSs, c_rBs, c_rTerm, c_rOwnT, c_rOwn, c_rPtr, c_nilV, c_nilO, c_objC, c_dropC, c_intC, c_boolC, c_strC, c_tsC, c_isC, c_issC, c_ssC, c_bsC, c_anyC, c_nilC, c_arrTs, c_arrIs, c_arrIss, c_arrSs, c_arrBs, ik_self, nb_self, cond_true, cond_false, rTerm_tm, T.eta, mk_k, mk_n, mk_kids, Option.bind_none, Bool.not_true, Bool.not_false, Bool.true_and, Bool.and_true, Bool.and_false, Bool.false_and, Bool.and_self, decide_true, decide_false]) | ((with_reducible refine tot_some ?_); (exact ⟨_, rfl, by simp only [ByteArray.size_append, size_bytes, List.length_cons, List.length_nil]; omega⟩)))
theorem t_FormatTerm {n : Nat} {t : T} (hn : 3 * t.size + 2000 ≤ n) (hz : t.size ≤ 1000000) : Tot (FF n 107 [tm t] []) (fun r => ∃ s : ByteArray, r = ([st s], []) ∧ (validB t = false → s.size = 0)) := by
  refine tot_step (C := 3 * t.size + 1999) hn fun n hn _ => ?_
  rw [E_spec_FormatTerm, f_TermValidS (by omega) hz]
  simp only [Option.bind_some, c_rInt, c_rBool, c_rStr, c_rTs, c_rIs, c_rIss, c_rSs, c_rBs, c_rTerm, c_rOwnT, c_rOwn, c_rPtr, c_nilV, c_nilO, c_objC, c_dropC, c_intC, c_boolC, c_strC, c_tsC, c_isC, c_issC, c_ssC, c_bsC, c_anyC, c_nilC, c_arrTs, c_arrIs, c_arrIss, c_arrSs, c_arrBs, ik_self, nb_self, cond_true, cond_false, rTerm_tm, T.eta, mk_k, mk_n, mk_kids, Option.bind_none, Bool.not_true, Bool.not_false, Bool.true_and, Bool.and_true, Bool.and_false, Bool.false_and, Bool.and_self, decide_true, decide_false]
  cases hv : validB t with
  | false => exact ⟨_, rfl, _, rfl, fun _ => rfl⟩
  | true =>
    simp only [Bool.not_true, cond_false]
    refine tot_call (t_l1Text t (by omega) hv) ?_
    rintro _ ⟨s, rfl, _⟩
    exact ⟨_, rfl, _, rfl, fun h => by cases h⟩
/-- The reference's reading of a text: a valid term, or the zero value. -/
theorem t_ParseTerm {n : Nat} {s : ByteArray} (hn : 5 * s.size + 5000 ≤ n) (hs : s.size ≤ 100000) : Tot (FF n 84 [st s] []) (fun r => ∃ t b, r = ([tm t, bl b], []) ∧ (b = true → validB t = true) ∧ (b = false → t = .mk 0 0 [])) := by
  refine tot_step (C := 5 * s.size + 4999) hn fun n hn _ => ?_
  rw [E_spec_ParseTerm]
  refine tot_call (t_l1Parse (s := s) (by omega) 30 (by omega) n (by omega) 0 (by omega) (by omega)) ?_
  rintro _ ⟨t, e, rfl, h1, h2, h3⟩
  simp only [Option.bind_some, c_rInt, c_rBool, c_rStr, c_rTs, c_rIs, c_rIss, c_rSs, c_rBs, c_rTerm, c_rOwnT, c_rOwn, c_rPtr, c_nilV, c_nilO, c_objC, c_dropC, c_intC, c_boolC, c_strC, c_tsC, c_isC, c_issC, c_ssC, c_bsC, c_anyC, c_nilC, c_arrTs, c_arrIs, c_arrIss, c_arrSs, c_arrBs, ik_self, nb_self, cond_true, cond_false, rTerm_tm, T.eta, mk_k, mk_n, mk_kids, Option.bind_none, Bool.not_true, Bool.not_false, Bool.true_and, Bool.and_true, Bool.and_false, Bool.false_and, Bool.and_self, decide_true, decide_false]
  refine tot_cond (fun hq => ⟨_, rfl, .mk 0 0 [], false, rfl, by simp, fun _ => rfl⟩) (fun hne => ?_)
  refine tot_cond (fun hq => ⟨_, rfl, .mk 0 0 [], false, rfl, by simp, fun _ => rfl⟩) (fun hq => ?_)
  have hq' : e = s.size := by simpa using hq
  have h4 := h3 (by omega)
  refine tot_call (t_FormatTerm (t := t) (by omega) (by omega)) ?_
  rintro _ ⟨x, rfl, hx⟩
  simp only [Option.bind_some, c_rInt, c_rBool, c_rStr, c_rTs, c_rIs, c_rIss, c_rSs, c_rBs, c_rTerm, c_rOwnT, c_rOwn, c_rPtr, c_nilV, c_nilO, c_objC, c_dropC, c_intC, c_boolC, c_strC, c_tsC, c_isC, c_issC, c_ssC, c_bsC, c_anyC, c_nilC, c_arrTs, c_arrIs, c_arrIss, c_arrSs, c_arrBs, ik_self, nb_self, cond_true, cond_false, rTerm_tm, T.eta, mk_k, mk_n, mk_kids, Option.bind_none, Bool.not_true, Bool.not_false, Bool.true_and, Bool.and_true, Bool.and_false, Bool.false_and, Bool.and_self, decide_true, decide_false]
  refine tot_cond (fun hq => ⟨_, rfl, .mk 0 0 [], false, rfl, by simp, fun _ => rfl⟩) (fun hq2 => ⟨_, rfl, t, true, rfl, fun _ => ?_, by simp⟩)
  cases hv : validB t with
  | true => rfl
  | false =>
    exfalso
    have hx0 := hx hv
    have hxs : x.toList = s.toList := by simpa using hq2
    have hx1 : x.data = #[] := by
      apply Array.eq_empty_of_size_eq_zero
      exact hx0
    have hxe : x = ByteArray.mk #[] := by cases x; simp at hx1; rw [hx1]
    rw [hxe] at hxs
    rw [← hxs, show bytesOf [] = ByteArray.mk #[] from rfl] at hne
    simp at hne
end Go.Proofs.Ytmioieikbpemoaa
