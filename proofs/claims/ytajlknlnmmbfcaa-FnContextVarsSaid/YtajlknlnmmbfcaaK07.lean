/- Part 7 of the proof. -/
import Derived.Test.YtajlknlnmmbfcaaK01
import Derived.Test.YtajlknlnmmbfcaaK02
import Derived.Test.YtajlknlnmmbfcaaK03
import Derived.Test.YtajlknlnmmbfcaaK04
import Derived.Test.YtajlknlnmmbfcaaK05
import Derived.Test.YtajlknlnmmbfcaaK06
import Derived.ChangeArms
import Derived.Deep.Slices
import Derived.Deep.Strs
import Derived.WalkKit
import Derived.ProofKit
import Derived.OpenShut
import Derived.ShutString
import Derived.ChangeOld
import Derived.Below
set_option linter.unusedVariables false
set_option linter.unusedSimpArgs false
section
namespace Go.Proofs.Ytajlknlnmmbfcaa
open Go Go.Ab Go.Dk
theorem fP {n : Nat} (hn : 1 ≤ n) {l : List UInt8} {p m k : Int} (h : gM l p m) (hm : m ≤ 1000000000000) (hk : k ≤ 2147483648) :
   Tot (FF n 35 [.one (.ptr 0 0), nt k] [rdr l p]) (fun r => ∃ v p' : Int, r = ([nt v], [rdr l p']) ∧ 0 ≤ v ∧ (0 < k → v < k) ∧ gM l p' (m + 1)) := by
 obtain ⟨v, ⟨h1, h2, _⟩, h3, h4⟩ := DA h (by omega) hk
 exact ⟨_, h4 n hn, v, _, rfl, h1, h2, h3⟩
theorem kC {n : Nat} (hn : 2 ≤ n) {l : List UInt8} {p m : Int} {ss : List Int} (h : gM l p m) (hm : m ≤ 1000000000000) (hs : ss ≠ []) (hl : ss.length ≤ 1000) :
   Tot (FF n 19 [.one (.ptr 0 0), .one (.fr (.is ss))] [rdr l p]) (fun r => ∃ v p' : Int, r = ([nt v], [rdr l p']) ∧ v ∈ ss ∧ gM l p' (m + 1)) := by
 obtain ⟨v, h1, h3, h4⟩ := HM h (by omega) hs (by omega)
 exact ⟨_, h4 n hn, v, _, rfl, h1, h3⟩
theorem DM {n : Nat} (hn : 1 ≤ n) (l : List UInt8) : Tot (FF n 18 [.one (.fr (.bs l))] []) (fun r => ∃ l', r = ([.one (.ptr 0 0)], [rdr l' 0]) ∧ gM l' 0 0) := by
 obtain ⟨l', h1, h2⟩ := Hh l
 exact ⟨_, h2 n hn, l', rfl, h1⟩
abbrev fq (z : Nat) (l : List UInt8) (m : Int) (r : List V1 × List aq) : Prop := ∃ (t : T) (p : Int), r = ([tm t], [rdr l p]) ∧ t.size ≤ z ∧ gM l p m
theorem uh (Q : Int) (hQ : Q ≤ 900000000000) (n : Nat) (hn : 1 ≤ n) (l : List UInt8) (d kind : Int) (K : Nat) (M : Int)
   (ih : ∀ p m, gM l p m → m ≤ Q → Tot (FF n 68 [.one (.ptr 0 0), nt (d - 1)] [rdr l p]) (fq K l (m + M))) (hM : 0 ≤ M ∧ M ≤ 1000000000) (hd : -100 ≤ d ∧ d ≤ 100) (hK : K ≤ 4000000) (z1 z2 : Int) (l0 : List T) (k1 n1 : Int) :
   ∀ (g c i : Nat) (p m : Int) (acc : List T), g < c → (opsOf kind = i + g ∨ (g = 0 ∧ opsOf kind ≤ i)) → i ≤ 4 → g ≤ 4 → gM l p m → m + g * M ≤ Q → acc.length = i →
    Tot (aX n c d kind i l p z1 z2 l0 k1 n1 acc) (fq (1 + T.aA acc + g * K) l (m + g * M))
 | g, 0, i, p, m, acc, hg, _, _, _, _, _, _ => by omega
 | 0, c + 1, i, p, m, acc, _, hi, _, _, hr, _, hl => by
  rw [cE, j9 hn]
  simp only [evt]
  rw [decide_eq_false (show ¬ (i : Int) < opsOf kind by omega)]
  refine ar ?_
  exact ⟨.mk k1 n1 acc, p, rfl, by simp [T.size], by simpa using hr⟩
 | g + 1, c + 1, i, p, m, acc, hg, hi, hi4, hg4, hr, hm, hl => by
  rw [cE, j9 hn]
  simp only [evt]
  have hgM : (((g + 1 : Nat)) : Int) * M = g * M + M := by rw [Int.natCast_add, Int.add_mul]; simp
  have hgK : (g + 1) * K = g * K + K := by rw [Nat.add_mul, Nat.one_mul]
  have ho := wU kind
  have hg0 : 0 ≤ (g : Int) * M := Int.mul_nonneg (by omega) hM.1
  rw [decide_eq_true (show (i : Int) < opsOf kind by omega), cond_true, wrap64 (show -9223372036854775808 ≤ d - 1 ∧ d - 1 ≤ 9223372036854775807 by omega)]
  refine ak (ih p m hr (by rw [hgM] at hm; omega)) ?_
  rintro _ ⟨t, p', rfl, ht, hr'⟩
  have w : IntKind.i64.wrap ((i : Int) + 1) = ((i + 1 : Nat) : Int) := wrap64 (by omega)
  simp only [evt, w, List.length_append, List.length_cons, List.length_nil, hl]
  rw [aK (by omega), cond_true]
  have hsz : T.aA (acc ++ [t]) = T.aA acc + t.size := by
   clear hl
   induction acc with
   | nil => simp [T.aA]
   | cons x acc ih2 => simp only [List.cons_append, T.aA, ih2]; omega
  have := uh Q hQ n hn l d kind K M ih hM hd hK z1 z2 l0 k1 n1 g c (i + 1) p' (m + M) (acc ++ [t]) (by omega) (by omega) (by omega) (by omega) hr' (by rw [hgM] at hm; omega) (by simp [hl])
  refine du this ?_
  rintro _ ⟨u, q, rfl, hu, hq⟩
  exact ⟨u, q, rfl, by rw [hsz] at hu; omega, hq.mono (by rw [hgM]; omega)⟩
theorem gF (Q : Int) (hQ : Q ≤ 900000000000) {n : Nat} (hn : 10 ≤ n) (l : List UInt8) (d : Int) (K : Nat) (M : Int) (hM : 0 ≤ M ∧ M ≤ 1000000000) (hd : -100 ≤ d ∧ d ≤ 100) (hK : K ≤ 4000000) (hK1 : 1 ≤ K)
   (ih : ∀ m, n ≤ m + 1 → ∀ p q, gM l p q → q ≤ Q → Tot (FF m 68 [.one (.ptr 0 0), nt (d - 1)] [rdr l p]) (fq K l (q + M))) {p m : Int} (hr : gM l p m) (hm : m + 3 + 4 * M ≤ Q) :
   Tot (FF n 68 [.one (.ptr 0 0), nt d] [rdr l p]) (fq (1 + 4 * K) l (m + 3 + 4 * M)) := by
 refine a7 (C := 9) (by omega) fun n hn e => ?_
 have fin : ∀ (kind k1 n1 q m' : Int), opsOf kind ≠ -1 → gM l q m' → m' ≤ m + 3 → Tot (aX n n d kind 0 l q 0 0 [] k1 n1 []) (fq (1 + 4 * K) l (m + 3 + 4 * M)) := by
  intro kind k1 n1 q m' hk hq hm'
  have h0 : 0 ≤ opsOf kind := by
   unfold opsOf at hk ⊢; repeat' split
   all_goals first | omega | (exfalso; simp_all)
  have h4 := wU kind
  obtain ⟨g, hg⟩ : ∃ g : Nat, opsOf kind = g := ⟨(opsOf kind).toNat, by omega⟩
  have hgM : (g : Int) * M ≤ 4 * M := Int.mul_le_mul_of_nonneg_right (by omega) hM.1
  have hgK : g * K ≤ 4 * K := Nat.mul_le_mul_right K (by omega)
  have := uh Q hQ n (by omega) l d kind K M (fun p q => ih n (by omega) p q) hM hd hK 0 0 [] k1 n1 g n 0 q m' [] (by omega) (.inl (by omega)) (by omega) (by omega) hq (by omega) rfl
  refine du this ?_
  rintro _ ⟨u, q, rfl, hu, hq⟩
  exact ⟨u, q, rfl, by simp only [T.aA] at hu; omega, hq.mono (by omega)⟩
 have hk1 : ∀ v : Int, v ∈ ([1, 5, 4, 8, 9, 3, 6, 7, 11, 15, 14, 10, 12, 13, 16, 2] : List Int) → opsOf v ≠ -1 := fun v hv => by simpa using List.all_eq_true.1 (show (([1, 5, 4, 8, 9, 3, 6, 7, 11, 15, 14, 10, 12, 13, 16, 2] : List Int).all fun v => decide (opsOf v ≠ -1)) = true by decide +kernel) v hv
 have hk2 : ∀ v : Int, v ∈ ([1, 7, 6, 2, 1] : List Int) → opsOf v ≠ -1 := fun v hv => by simpa using List.all_eq_true.1 (show (([1, 7, 6, 2, 1] : List Int).all fun v => decide (opsOf v ≠ -1)) = true by decide +kernel) v hv
 rw [ke]
 refine ak (kC (by omega) hr (by omega) (by simp) (by simp)) ?_
 rintro _ ⟨v, p1, rfl, hv, hr1⟩
 simp only [evt]
 refine az (fun _ => ?_) (fun _ => ?_)
 ·refine ak (kC (by omega) hr1 (by omega) (by simp) (by simp)) ?_
  rintro _ ⟨v2, p2, rfl, hv2, hr2⟩
  simp only [evt, mC (show 1 ≤ n by omega)]
  refine az (fun _ => ?_) (fun _ => ?_)
  ·refine ak (kC (by omega) hr2 (by omega) (by simp) (by simp)) ?_
   rintro _ ⟨v3, p3, rfl, hv3, hr3⟩
   simp only [evt]
   exact fin _ _ _ _ _ (hk2 _ hv2) hr3 (by omega)
  ·exact fin _ _ _ _ _ (hk2 _ hv2) hr2 (by omega)
 ·simp only [mC (show 1 ≤ n by omega), evt]
  refine az (fun _ => ?_) (fun _ => ?_)
  ·refine ak (kC (by omega) hr1 (by omega) (by simp) (by simp)) ?_
   rintro _ ⟨v3, p3, rfl, hv3, hr3⟩
   simp only [evt]
   exact fin _ _ _ _ _ (hk1 _ hv) hr3 (by omega)
  ·exact fin _ _ _ _ _ (hk1 _ hv) hr1 (by omega)
theorem uE {n : Nat} (hn : 20 ≤ n) {l : List UInt8} {d : Int} (hd : -10 ≤ d ∧ d ≤ 1) {p m : Int} (hr : gM l p m) (hm : m ≤ 900000000000) : Tot (FF n 68 [.one (.ptr 0 0), nt d] [rdr l p]) (fq 1 l (m + 3)) := by
 refine a7 (C := 19) (by omega) fun n hn e => ?_
 have fin : ∀ (kind k1 n1 q m' : Int), opsOf kind = 0 → gM l q m' → m' ≤ m + 3 → Tot (aX n n d kind 0 l q 0 0 [] k1 n1 []) (fq 1 l (m + 3)) := by
  intro kind k1 n1 q m' hk hq hm'
  obtain ⟨c, rfl⟩ : ∃ c, n = c + 1 := ⟨n - 1, by omega⟩
  rw [cE, j9 (by omega), hk]
  simp only [evt]
  refine az (fun h => by simp at h) (fun _ => ar ?_)
  exact ⟨.mk k1 n1 [], q, rfl, by simp [T.size, T.aA], hq.mono (by omega)⟩
 have hk2 : ∀ v : Int, v ∈ ([1, 7, 6, 2, 1] : List Int) → opsOf v = 0 := fun v hv => by simpa using List.all_eq_true.1 (show (([1, 7, 6, 2, 1] : List Int).all fun v => decide (opsOf v = 0)) = true by decide +kernel) v hv
 rw [ke]
 refine ak (kC (by omega) hr (by omega) (by simp) (by simp)) ?_
 rintro _ ⟨v, p1, rfl, hv, hr1⟩
 simp only [evt]
 rw [decide_eq_true (show d < 2 by omega), cond_true]
 refine ak (kC (by omega) hr1 (by omega) (by simp) (by simp)) ?_
 rintro _ ⟨v2, p2, rfl, hv2, hr2⟩
 simp only [evt, mC (show 1 ≤ n by omega)]
 refine az (fun _ => ?_) (fun _ => ?_)
 ·refine ak (kC (by omega) hr2 (by omega) (by simp) (by simp)) ?_
  rintro _ ⟨v3, p3, rfl, hv3, hr3⟩
  simp only [evt]
  exact fin _ _ _ _ _ (hk2 _ hv2) hr3 (by omega)
 ·exact fin _ _ _ _ _ (hk2 _ hv2) hr2 (by omega)
theorem cO {o : OR} {z z' : Nat} {l : List UInt8} {m m' : Int} (h : Tot o (fq z l m)) (hz : z ≤ z') (hm : m ≤ m') : Tot o (fq z' l m') :=
 du h fun r ⟨t, p, e, h1, h2⟩ => ⟨t, p, e, Nat.le_trans h1 hz, h2.mono hm⟩
theorem uD {n : Nat} (hn : 40 ≤ n) {l : List UInt8} {p m : Int} (hr : gM l p m) (hm : m ≤ 800000000000) : Tot (FF n 68 [.one (.ptr 0 0), nt 2] [rdr l p]) (fq 5 l (m + 15)) :=
 cO (gF 900000000000 (by omega) (by omega) l 2 1 3 (by omega) (by omega) (by omega) (by omega) (fun k hk p q hr hq => uE (by omega) (by omega) hr hq) hr (by omega)) (by omega) (by omega)
theorem mP {n : Nat} (hn : 60 ≤ n) {l : List UInt8} {p m : Int} (hr : gM l p m) (hm : m ≤ 700000000000) : Tot (FF n 68 [.one (.ptr 0 0), nt 3] [rdr l p]) (fq 21 l (m + 63)) :=
 cO (gF 800000000000 (by omega) (by omega) l 3 5 15 (by omega) (by omega) (by omega) (by omega) (fun k hk p q hr hq => uD (by omega) hr hq) hr (by omega)) (by omega) (by omega)
theorem zN {n : Nat} (hn : 80 ≤ n) {l : List UInt8} {p m : Int} (hr : gM l p m) (hm : m ≤ 600000000000) : Tot (FF n 68 [.one (.ptr 0 0), nt 4] [rdr l p]) (fq 85 l (m + 255)) :=
 cO (gF 700000000000 (by omega) (by omega) l 4 21 63 (by omega) (by omega) (by omega) (by omega) (fun k hk p q hr hq => mP (by omega) hr hq) hr (by omega)) (by omega) (by omega)
abbrev EG (l : List UInt8) (m : Int) (r : List V1 × List aq) : Prop := ∃ (t : T) (p : Int), r = ([tm t], [rdr l p]) ∧ ah t = true ∧ gM l p m
theorem y5 : ah (.mk 7 0 []) = true := by decide +kernel
theorem mN {n : Nat} (hn : 500 ≤ n) {l : List UInt8} {p m : Int} (hr : gM l p m) (hm : m ≤ 500000000000) : Tot (FF n 44 [.one (.ptr 0 0)] [rdr l p]) (EG l (m + 256)) := by
 refine a7 (C := 499) (by omega) fun n hn e => ?_
 rw [sE]
 refine ak (kC (by omega) hr (by omega) (by simp) (by simp)) ?_
 rintro _ ⟨v, p1, rfl, hv, hr1⟩
 simp only [evt]
 have hd : Tot (FF n 68 [.one (.ptr 0 0), nt v] [rdr l p1]) (fq 85 l (m + 256)) := by
  simp only [List.mem_cons, List.not_mem_nil, or_false] at hv
  rcases hv with rfl | rfl | rfl | rfl | rfl
  ·exact cO (mP (by omega) hr1 (by omega)) (by omega) (by omega)
  ·exact cO (zN (by omega) hr1 (by omega)) (by omega) (by omega)
  ·exact cO (uD (by omega) hr1 (by omega)) (by omega) (by omega)
  ·exact cO (mP (by omega) hr1 (by omega)) (by omega) (by omega)
  ·exact cO (uE (by omega) (by omega) hr1 (by omega)) (by omega) (by omega)
 refine ak hd ?_
 rintro _ ⟨t, p2, rfl, hz, hr2⟩
 simp only [evt, bk (show t.size + 6 ≤ n by omega) (show t.size ≤ 4000000 by omega)]
 refine az (fun h => ar ?_) (fun _ => ?_)
 ·exact ⟨t, p2, rfl, h, hr2⟩
 ·simp only [bo (show 1 ≤ n by omega), evt]
  refine ar ?_
  exact ⟨.mk 7 0 [], p2, rfl, y5, hr2⟩
theorem C7 (ts : List T) (v : T) (h : 0 < ts.length) : T.aA (ts.set 0 v) ≤ T.aA ts + v.size := by
 match ts, h with
 | t :: ts, _ => simp only [List.set_cons_zero, T.aA]; omega
theorem A2 (ts : List T) (v : T) : T.aA (ts ++ [v]) = T.aA ts + v.size := by
 induction ts with
 | nil => simp [T.aA]
 | cons x ts ih => simp only [List.cons_append, T.aA, ih]; omega
theorem lb {n : Nat} {t : T} (hz : t.size ≤ 500000) (hn : t.size + 500 ≤ n) {l : List UInt8} {p m : Int} (hr : gM l p m) (hm : m ≤ 500000000000) : Tot (FF n 48 [.one (.ptr 0 0), tm t] [rdr l p]) (fq (t.size + 2) l (m + 2)) := by
 refine a7 (C := t.size + 499) (by omega) fun n hn e => ?_
 have hsz := T.size_eq t
 have hl := T.bw t.kids
 rw [oi, fk t (by omega) (by omega)]
 simp only [evt]
 refine ak (fP (by omega) hr (by omega) (by omega)) ?_
 rintro _ ⟨v, p1, rfl, hv0, hv1, hr1⟩
 have hap : b8 (t.kids ++ [T.mk 7 0 []]).length = true := aK (by simp; omega)
 have hs1 := A2 t.kids (.mk 7 0 [])
 have hs2 := C7 t.kids (.mk 1 25 [])
 have hz7 : (T.mk 7 0 []).size = 1 := rfl
 have hz1 : (T.mk 1 25 []).size = 1 := rfl
 rw [hz7] at hs1
 rw [hz1] at hs2
 simp (disch := simp) only [evt, bo (show 1 ≤ n by omega), bA (show 1 ≤ n by omega), hap]
 repeat' (first | (simp (disch := omega) only [wrap64]; done) | (simp (disch := omega) only [wrap64]) | (with_reducible refine az (fun hq => ?_) (fun hq => ?_) <;> (try simp (disch := omega) only [wrap64] at hq) <;> (try simp only [decide_eq_true_eq, decide_eq_false_iff_not, Bool.not_eq_true', Bool.not_eq_false', Bool.and_eq_true, Bool.and_eq_false_iff, inB, Bool.not_true, Bool.not_false] at hq) <;> try (exfalso; omega; done)) | (with_reducible refine ak (kC (by omega) hr1 (by omega) (by simp) (by simp)) ?_; rintro _ ⟨w, p2, rfl, hw, hr2⟩; simp only [evt]) | ((with_reducible refine ar ?_); (exact ⟨.mk w t.n t.kids, _, rfl, by simp only [T.size]; omega, hr2.mono (by omega)⟩)) | ((with_reducible refine ar ?_); (exact ⟨.mk t.k w t.kids, _, rfl, by simp only [T.size]; omega, hr2.mono (by omega)⟩)) | ((with_reducible refine ar ?_); (exact ⟨t, _, rfl, by omega, hr1.mono (by omega)⟩)) | ((with_reducible refine ar ?_); (exact ⟨.mk t.k t.n (t.kids ++ [.mk 7 0 []]), _, rfl, by simp only [T.size]; omega, hr1.mono (by omega)⟩)) | ((with_reducible refine ar ?_); (exact ⟨.mk 8 0 [t], _, rfl, by simp only [T.size, T.aA]; omega, hr1.mono (by omega)⟩)) | ((with_reducible refine ar ?_); (exact ⟨.mk t.k t.n (t.kids.set 0 (.mk 1 25 [])), _, rfl, by simp only [T.size]; have := hs2 (by omega); omega, hr1.mono (by omega)⟩)))
theorem eM (l : List ByteArray) (h : (l.all fun s => decide (s.size ≤ 300)) = true) (s : ByteArray) (hs : s ∈ l) : s.size ≤ 300 := by
 simpa using List.all_eq_true.1 h s hs
end Go.Proofs.Ytajlknlnmmbfcaa
end
section
namespace Go.Proofs.Ytajlknlnmmbfcaa
open Go Go.Ab Go.Dk
def okA (l : List T) : Bool := decide (l.length ≤ 8) && l.all ah
theorem g9 {l : List T} (h : okA l = true) : l.length ≤ 8 ∧ ∀ t ∈ l, ah t = true := by
 unfold okA at h
 rw [Bool.and_eq_true, decide_eq_true_eq, List.all_eq_true] at h
 exact h
theorem xL (n : Nat) (l : List T) (hl : l.length ≤ 4000000) (h : ∀ t ∈ l, FF n 71 [tm t] [] = some ([bl (!ah t)], [])) :
   ∀ g m (i : Nat), g < m → i + g = l.length → ∃ v, aH n m l l.length i = some ([nt v], []) ∧ (0 ≤ v ↔ (l.drop i).all ah = false)
 | g, 0, i, hg, _ => by omega
 | 0, m + 1, i, _, hi => by
  rw [bE, List.drop_of_length_le (by omega), decide_eq_false (show ¬ (i : Int) < l.length by omega)]
  exact ⟨-1, rfl, by simp⟩
 | g + 1, m + 1, i, hg, hi => by
  have hlt : i < l.length := by omega
  rw [List.drop_eq_getElem_cons hlt, List.all_cons]
  rw [bE]; simp (disch := omega) only [evt, au, Int.toNat_natCast, fC, wrap64, aK, List.length_append, List.length_cons, List.length_nil, if_pos (show (i : Int) < l.length by omega), if_pos (show 0 ≤ (i : Int) by omega), List.getElem?_eq_getElem hlt, h _ (List.getElem_mem hlt)]
  cases hs : ah l[i] with
  | false => exact ⟨i, rfl, by simp⟩
  | true =>
   simp only [Bool.not_true, cond_false, Bool.true_and]
   exact xL n l hl h g m (i + 1) (by omega) (by omega)
theorem pV {n : Nat} {l : List T} (hn : 4400000 ≤ n) (hl : l.length ≤ 4000000) (hz : ∀ t ∈ l, t.size ≤ 4000000) : FF n 49 [tms l] [] = some ([bl (okA l)], []) := by
 obtain ⟨n, rfl⟩ : ∃ m, n = m + 3 := ⟨n - 3, by omega⟩
 have hc : ∀ t ∈ l, FF n 71 [tm t] [] = some ([bl (!ah t)], []) := by
  intro t ht
  have := hz t ht
  obtain ⟨n, rfl⟩ : ∃ m, n = m + 1 := ⟨n - 1, by omega⟩
  rw [kD, bB (by omega)]
  simp only [evt]
 obtain ⟨v, h1, h2⟩ := xL n l hl hc l.length n 0 (by omega) (by omega)
 rw [od]
 unfold okA
 by_cases h8 : l.length ≤ 8
 ·rw [decide_eq_true (show (l.length : Int) ≤ 8 by omega), decide_eq_true h8, c9, dI]
  rw [show (aH n n l l.length 0) = _ from h1]
  simp only [evt]
  rw [List.drop_zero] at h2
  cases ha : l.all ah with
  | true =>
   rw [ha] at h2
   have : ¬ (0 : Int) ≤ v := fun hh => by have := h2.1 hh; cases this
   rw [decide_eq_false this]; rfl
  | false =>
   rw [ha] at h2
   rw [decide_eq_true (h2.2 rfl)]; rfl
 ·rw [decide_eq_false (show ¬ (l.length : Int) ≤ 8 by omega), decide_eq_false h8]; rfl
theorem uu (n : Nat) (l : List T) (hl : l.length ≤ 4000000) (h : ∀ t ∈ l, FF n 29 [tm t] [] = some ([bl (ah t)], [])) :
   ∀ g m (i : Nat), g < m → i + g = l.length → dP n m l i = some ([bl ((l.drop i).all ah && decide (l.length ≤ 8))], [])
 | g, 0, i, hg, _ => by omega
 | 0, m + 1, i, _, hi => by
  rw [fS, List.drop_of_length_le (by omega), decide_eq_false (show ¬ (i : Int) < l.length by omega)]
  have : decide ((l.length : Int) ≤ 8) = decide (l.length ≤ 8) := decide_eq_decide.2 (by omega)
  simp [this]
 | g + 1, m + 1, i, hg, hi => by
  have hlt : i < l.length := by omega
  rw [List.drop_eq_getElem_cons hlt, List.all_cons]
  rw [fS]; simp (disch := omega) only [evt, au, Int.toNat_natCast, fC, wrap64, aK, List.length_append, List.length_cons, List.length_nil, if_pos (show (i : Int) < l.length by omega), if_pos (show 0 ≤ (i : Int) by omega), List.getElem?_eq_getElem hlt, h _ (List.getElem_mem hlt)]
  cases hs : ah l[i] with
  | false => simp
  | true =>
   simp only [Bool.not_true, cond_false, Bool.true_and]
   exact uu n l hl h g m (i + 1) (by omega) (by omega)
theorem qG {n : Nat} {l : List T} (hn : 4400000 ≤ n) (hl : l.length ≤ 4000000) (hz : ∀ t ∈ l, t.size ≤ 4000000) : FF n 28 [tms l] [] = some ([bl (okA l)], []) := by
 obtain ⟨n, rfl⟩ := af (show 0 < n by omega)
 rw [qN]
 have := uu n l hl (fun t ht => bk (by have := hz t ht; omega) (hz t ht)) l.length n 0 (by omega) (by omega)
 rw [List.drop_zero] at this
 unfold okA
 rw [Bool.and_comm]
 exact this
theorem wX {l : List T} {k : Nat} (h : ∀ t ∈ l, t.size ≤ k) : T.aA l ≤ l.length * k := by
 induction l with
 | nil => simp [T.aA]
 | cons t l ih =>
  rw [T.aA, List.length_cons, Nat.add_mul, Nat.one_mul]
  have h1 := h t (List.mem_cons_self ..)
  have h2 := ih fun u hu => h u (List.mem_cons_of_mem _ hu)
  omega
theorem k8 {t : T} (h : ah t = true) : okT t = t := if_pos h
end Go.Proofs.Ytajlknlnmmbfcaa
end
section
namespace Go.Proofs.Ytajlknlnmmbfcaa
namespace Tm
variable {O : Orc}
section
variable (O : Orc)
open Classical in
noncomputable def tI (G : List Tm) (t : Tm) : Rs := if h : ∃ r, Is (fun n => inI O n G t) r then h.choose else .opn
open Classical in
noncomputable def tS (G : List Tm) (t : Tm) : Rs := if h : ∃ r, Is (fun n => inS O n G t) r then h.choose else .opn
def lvr (x : Rs) : Rs := (lvl O (some x)).getD .opn
def ckr (x : Rs) (w : Tm) : Rs := (chk O (some x) w).getD .opn
def cc (f : List Tm → Tm → Rs) : List Tm → Rs
 | [] => .ok nat
 | A :: G => match cc f G with
  | .ok _ => lvr O (f G A)
  | r => r
def pt (f : List Tm → Tm → Rs) (G : List Tm) (t : Tm) : Rs := match cc O f G with
 | .ok _ => f G t
 | r => r
def ps (f : List Tm → Tm → Rs) (G : List Tm) (t : Tm) : Rs := match cc O f G with
 | .ok _ => lvr O (f G t)
 | r => r
def pc (f : List Tm → Tm → Rs) (G : List Tm) (t A : Tm) : Rs := match ps O f G A with
 | .ok _ => ckr O (f G t) A
 | r => r
end
theorem Ej {G : List Tm} {t : Tm} {r : Rs} (h : Is (fun n => inI O n G t) r) : tI O G t = r := by
 have e : ∃ r, Is (fun n => inI O n G t) r := ⟨r, h⟩
 rw [tI, dif_pos e]; exact e.choose_spec.uniq h
theorem Hw {G : List Tm} {t : Tm} {r : Rs} (h : Is (fun n => inS O n G t) r) : tS O G t = r := by
 have e : ∃ r, Is (fun n => inS O n G t) r := ⟨r, h⟩
 rw [tS, dif_pos e]; exact e.choose_spec.uniq h
theorem zF (k : ew O) {G : List Tm} (w : Wf G) (t : Tm) : Is (fun n => inI O n G t) (tI O G t) := by
 obtain ⟨r, h⟩ := EP k w t
 rw [Ej h]; exact h
theorem z3 (k : ew O) {G : List Tm} (w : Wf G) (t : Tm) : Is (fun n => inS O n G t) (tS O G t) := by
 obtain ⟨r, h⟩ := EA k w t
 rw [Hw h]; exact h
theorem xT (x : Rs) : lvl O (some x) = some (lvr O x) := by
 unfold lvr
 cases h : lvl O (some x) with
 | some r => rfl
 | none =>
  exfalso
  unfold lvl frm sq at h
  cases x with
  | ok s =>
   simp only at h
   cases hs : O.hn s <;> rw [hs] at h <;> simp only at h <;> first | (cases h; done) | (split at h <;> cases h)
  | bad => cases h
  | opn => cases h
theorem FC (k : ew O) {G : List Tm} (w : Wf G) {t A : Tm} (v : O.vd t = true) (h : tI O G t = .ok A) : O.vd A = true := by
 obtain ⟨N, hN⟩ := zF k w t
 exact AU k v ((hN N (Nat.le_refl N)).trans (congrArg some h))
theorem EO (k : ew O) {G : List Tm} (w : Wf G) {t A : Tm} (h : tS O G t = .ok A) : O.vd A = true := (G6 k (h ▸ z3 k w t)).2
theorem Au (k : ew O) : ∀ {G : List Tm} {A : Tm}, cc O (tI O) G = .ok A → Wf G
 | [], _, _ => .nil
 | B :: G, A, h => by
  unfold cc at h
  split at h
  ·rename_i e
   have w := Au k e
   obtain ⟨N, hN⟩ := zF k w B
   have e2 : Is (fun n => lvl O (inI O n G B)) (.ok A) := ⟨N, fun n hn => by show lvl O (inI O n G B) = _; rw [show inI O n G B = _ from hN n hn, xT, h]⟩
   exact qz k w e2
  ·rename_i e; exact absurd h (e A)
theorem xZ (k : ew O) : ∀ {G : List Tm} {A : Tm}, cc O (tS O) G = .ok A → Wf G
 | [], _, _ => .nil
 | B :: G, A, h => by
  unfold cc at h
  split at h
  ·rename_i e
   have w := xZ k e
   obtain ⟨N, hN⟩ := z3 k w B
   have e2 : Is (fun n => lvl O (inS O n G B)) (.ok A) := ⟨N, fun n hn => by show lvl O (inS O n G B) = _; rw [show inS O n G B = _ from hN n hn, xT, h]⟩
   exact sV k w e2
  ·rename_i e; exact absurd h (e A)
end Tm
end Go.Proofs.Ytajlknlnmmbfcaa
end
section
namespace Go.Proofs.Ytajlknlnmmbfcaa
open Go Go.Ab Go.Dk
open Tm (Rs sq frm lvl chk fam made inI inS tI tS lvr ckr cc Wf)
def zr : Rs → T
 | .ok t => of t
 | _ => .mk 0 0 []
def sts : Rs → Int
 | .ok _ => 0
 | .bad => 1
 | .opn => 2
def lvn : Rs → Int
 | .ok t => Tm.lv t
 | _ => 0
theorem E6 {h : List aq} {o : OR} {r : Rs} (k : RSh h o r) : ∃ x, o = some ([tm x, nt (sts r)], h) ∧ ∀ t, r = .ok t → x = of t := by
 obtain ⟨x, c, rfl, h2⟩ := k
 cases r with
 | ok t => obtain ⟨rfl, rfl⟩ := h2; exact ⟨_, rfl, fun t e => by cases e; rfl⟩
 | bad => cases h2; exact ⟨_, rfl, fun t e => by cases e⟩
 | opn => cases h2; exact ⟨_, rfl, fun t e => by cases e⟩
theorem Gw {o : OR} {r : Rs} (k : RS o r) : ∃ x, o = some ([tm x, nt (sts r)], []) ∧ x.size ≤ 1000000 ∧ ∀ t, r = .ok t → x = of t := by
 obtain ⟨x, c, rfl, hz, h2⟩ := k
 cases r with
 | ok t => obtain ⟨rfl, rfl⟩ := h2; exact ⟨_, rfl, hz, fun t e => by cases e; rfl⟩
 | bad => cases h2; exact ⟨_, rfl, hz, fun t e => by cases e⟩
 | opn => cases h2; exact ⟨_, rfl, hz, fun t e => by cases e⟩
theorem zL {h : List aq} {o : OR} {r : Rs} (k : RLh h o r) : ∃ i, o = some ([nt i, nt (sts r)], h) ∧ ∀ t, r = .ok t → i = lvn r := by
 obtain ⟨i, c, rfl, h2⟩ := k
 cases r with
 | ok t => obtain ⟨rfl, j, rfl, rfl⟩ := h2; exact ⟨_, rfl, fun t e => by cases e; rfl⟩
 | bad => cases h2; exact ⟨_, rfl, fun t e => by cases e⟩
 | opn => cases h2; exact ⟨_, rfl, fun t e => by cases e⟩
theorem GS {o : OR} {r : Rs} (k : RC o r) : o = some ([nt (sts r)], []) := by
 obtain ⟨c, rfl, h2⟩ := k
 cases r with
 | ok t => cases h2; rfl
 | bad => cases h2; rfl
 | opn => cases h2; rfl
theorem GU {o : OR} {r : Rs} (k : RL o r) : ∃ i, o = some ([nt i, nt (sts r)], []) ∧ ∀ t, r = .ok t → i = lvn r := by
 obtain ⟨i, c, rfl, h2⟩ := k
 cases r with
 | ok t => obtain ⟨rfl, j, rfl, rfl⟩ := h2; exact ⟨_, rfl, fun t e => by cases e; rfl⟩
 | bad => cases h2; exact ⟨_, rfl, fun t e => by cases e⟩
 | opn => cases h2; exact ⟨_, rfl, fun t e => by cases e⟩
theorem CP {r : Rs} : sts r = 0 ↔ ∃ t, r = .ok t := by cases r <;> simp [sts]
theorem uq {G : List Tm} {t : Tm} (w : Wf G) (hG : ∀ A ∈ G, vdM A = true) (hl : G.length ≤ 20) (hv : vdM t = true) : ∃ B, 7000500 ≤ B ∧ IvI B (cx G) (of t) (some (tI O G t)) := by
 obtain ⟨N, hN⟩ := Tm.zF bm w t
 refine ⟨7000500 + 30 * N, by omega, fun m hm r e => ?_⟩
 cases e
 exact Ag N m G t hm hG hl hv _ (hN N (Nat.le_refl N))
theorem sP {G : List Tm} {t : Tm} (w : Wf G) (hG : ∀ A ∈ G, vdM A = true) (hl : G.length ≤ 20) (hv : vdM t = true) : ∃ B, ∀ n, B ≤ n → RLh [] (FF n 24 [tms (cx G), tm (of t)] []) (lvr O (tI O G t)) := by
 obtain ⟨B, hB, h⟩ := uq w hG hl hv
 exact ⟨B + 2, fun n hn => zk hB hn h (fun s e => Tm.FC bm w hv (Option.some.inj e)) _ (Tm.xT _)⟩
theorem BR {G : List Tm} {t u : Tm} (w : Wf G) (hG : ∀ A ∈ G, vdM A = true) (hl : G.length ≤ 20) (hv : vdM t = true) (hu : vdM u = true) : ∃ B, ∀ n, B ≤ n → FF n 25 [tms (cx G), tm (of t), tm (of u)] [] = some ([nt (sts (ckr O (tI O G t) u))], []) := by
 obtain ⟨B, hB, h⟩ := uq w hG hl hv
 refine ⟨B + 2, fun n hn => ?_⟩
 obtain ⟨n, rfl⟩ := af (show 0 < n by omega)
 have zu := ae hu
 rw [sw]
 obtain ⟨x, eo, hx⟩ := E6 (h n (by omega) _ rfl)
 rw [eo]
 simp only [evt]
 cases hr : tI O G t with
 | ok A =>
  have vA : vdM A = true := Tm.FC bm w hv hr
  have zA := ae vA
  rw [hx A hr]
  simp only [sts, decide_true, Bool.not_true, cond_false]
  have := GS (kN (n := n) (a := A) (b := u) (by omega) (by omega) (by omega))
  rw [this]
  rfl
 | bad => rfl
 | opn => rfl
theorem sx {f : List Tm → Tm → Rs} {H : List Tm} (h : ∀ t, cc O f H ≠ .ok t) : ∀ P : List Tm, cc O f (P ++ H) = cc O f H
 | [] => rfl
 | A :: P => by
  have e := sx h P
  rw [List.cons_append, cc, e]
  cases h2 : cc O f H with
  | ok t => exact absurd h2 (h t)
  | bad => rfl
  | opn => rfl
theorem tL : ∀ (Q H : List Tm), (∀ A ∈ H, vdM A = true) → (∀ A ∈ Q, vdM A = true) → H.length + Q.length ≤ 20 → (∃ t, cc O (tI O) H = .ok t) → ∃ B, ∀ n, B ≤ n → ∀ m, Q.length < m →
   bc n m (cx H ++ Q.map of) (cx H ++ Q.map of) (H.length + Q.length : Nat) (H.length : Nat) = some ([nt (sts (cc O (tI O) (Q.reverse ++ H)))], [])
 | [], H, vH, vQ, hl, ⟨t, ht⟩ => by
  refine ⟨0, fun n hn m hm => ?_⟩
  obtain ⟨m, rfl⟩ := af (show 0 < m by omega)
  rw [dz, decide_eq_false (show ¬ ((H.length : Nat) : Int) < ((H.length + ([] : List Tm).length : Nat) : Int) by simp)]
  rw [List.reverse_nil, List.nil_append, ht]; rfl
 | A :: Q, H, vH, vQ, hl, ⟨t, ht⟩ => by
  have w := Tm.Au bm ht
  have vA := vQ A List.mem_cons_self
  have eG : (A :: Q).reverse ++ H = Q.reverse ++ (A :: H) := by simp
  have ex : cx H ++ (A :: Q).map of = cx (A :: H) ++ Q.map of := by simp [cx]
  have hcA : cc O (tI O) (A :: H) = lvr O (tI O H A) := by rw [cc, ht]
  simp only [List.length_cons] at hl
  obtain ⟨B1, h1⟩ := sP w vH (by omega) vA
  have hget : (cx H ++ (A :: Q).map of)[H.length]? = some (of A) := by
   rw [List.getElem?_append_right (by rw [c8]; omega), c8, Nat.sub_self]; rfl
  have htk : (cx H ++ (A :: Q).map of).take H.length = cx H := by
   have := List.take_left (l₁ := cx H) (l₂ := (A :: Q).map of)
   rw [c8] at this; exact this
  have hlen : (cx H ++ (A :: Q).map of).length = H.length + (Q.length + 1) := by simp [c8]
  have step : ∀ n, B1 ≤ n → ∀ m, bc n (m + 1) (cx H ++ (A :: Q).map of) (cx H ++ (A :: Q).map of) (H.length + (Q.length + 1) : Nat) (H.length : Nat) =
     cond (!decide (sts (lvr O (tI O H A)) = 0)) (some ([nt (sts (lvr O (tI O H A)))], [])) (bc n m (cx H ++ (A :: Q).map of) (cx H ++ (A :: Q).map of) (H.length + (Q.length + 1) : Nat) ((H.length + 1 : Nat) : Int)) := by
   intro n hn m
   obtain ⟨i, eo, _⟩ := zL (h1 n hn)
   rw [dz, decide_eq_true (show ((H.length : Nat) : Int) < ((H.length + (Q.length + 1) : Nat) : Int) by omega), cond_true, decide_eq_true (show (0 : Int) ≤ ((H.length : Nat) : Int) by omega), cond_true, Int.toNat_natCast, hget]
   simp only [Option.bind_some]
   rw [show Go.Ab.inB 0 ((H.length : Nat) : Int) (cx H ++ (A :: Q).map of).length = true from by rw [hlen]; simp [Go.Ab.inB]; omega, cond_true, htk, show (0 : Int).toNat = 0 from rfl, List.drop_zero]
   have eo : FF n 24 [tms (cx H), .agg [.int .i64 (of A).k, .int .i64 (of A).n, .fr (.ts (of A).kids)]] [] = _ := eo
   rw [eo]
   simp only [evt]
   rw [wrap64 (show -9223372036854775808 ≤ ((H.length : Nat) : Int) + 1 ∧ ((H.length : Nat) : Int) + 1 ≤ 9223372036854775807 by omega)]
   rfl
  cases hr : lvr O (tI O H A) with
  | ok s =>
   obtain ⟨B2, h2⟩ := tL Q (A :: H) (fun C hC => by rcases List.mem_cons.1 hC with rfl | hC; exact vA; exact vH C hC) (fun C hC => vQ C (List.mem_cons_of_mem _ hC)) (by simp only [List.length_cons]; omega) ⟨s, hcA.trans hr⟩
   refine ⟨max B1 B2, fun n hn m hm => ?_⟩
   obtain ⟨m, rfl⟩ := af (show 0 < m by omega)
   simp only [List.length_cons] at hm
   have := h2 n (by omega) m (by omega)
   rw [List.length_cons, step n (by omega), hr, eG, ex]
   simp only [sts, decide_true, Bool.not_true, cond_false]
   rw [List.length_cons, show H.length + 1 + Q.length = H.length + (Q.length + 1) by omega] at this
   exact this
  | bad =>
   refine ⟨B1, fun n hn m hm => ?_⟩
   obtain ⟨m, rfl⟩ := af (show 0 < m by omega)
   rw [List.length_cons, step n hn, hr, eG, sx (fun t e => by rw [hcA, hr] at e; cases e), hcA, hr]; rfl
  | opn =>
   refine ⟨B1, fun n hn m hm => ?_⟩
   obtain ⟨m, rfl⟩ := af (show 0 < m by omega)
   rw [List.length_cons, step n hn, hr, eG, sx (fun t e => by rw [hcA, hr] at e; cases e), hcA, hr]; rfl
theorem Fp {l : List T} (h : okA l = true) : ∃ G : List Tm, l = cx G ∧ (∀ A ∈ G, vdM A = true) ∧ G.length ≤ 8 := by
 obtain ⟨hl, hv⟩ := g9 h
 have : ∀ l : List T, (∀ t ∈ l, ah t = true) → ∃ G : List Tm, l = G.map of ∧ ∀ A ∈ G, vdM A = true := by
  intro l
  induction l with
  | nil => exact fun _ => ⟨[], rfl, fun A hA => by cases hA⟩
  | cons t l ih =>
   intro h
   obtain ⟨G, e, hG⟩ := ih fun u hu => h u (List.mem_cons_of_mem _ hu)
   obtain ⟨m, em⟩ := mJ (h t List.mem_cons_self)
   refine ⟨m :: G, by rw [e, em]; rfl, fun A hA => ?_⟩
   rcases List.mem_cons.1 hA with rfl | hA
   ·have := h t List.mem_cons_self
    rw [em] at this; exact this
   ·exact hG A hA
 obtain ⟨G, e, hG⟩ := this l hv
 refine ⟨G.reverse, by rw [e, cx, List.map_reverse, List.reverse_reverse], fun A hA => hG A (List.mem_reverse.1 hA), ?_⟩
 rw [e, List.length_map] at hl
 rw [List.length_reverse]; exact hl
theorem Ey {G : List Tm} (h : ∀ A ∈ G, vdM A = true) (hl : G.length ≤ 8) : okA (cx G) = true := by
 unfold okA
 rw [Bool.and_eq_true, decide_eq_true_eq, c8, List.all_eq_true]
 refine ⟨hl, fun t ht => ?_⟩
 obtain ⟨A, hA, rfl⟩ := List.mem_map.1 (List.mem_reverse.1 (show t ∈ (G.map of).reverse from ht))
 exact h A hA
theorem yd (n : Nat) (l : List T) (hl : l.length ≤ 4000000) (h : ∀ t ∈ l, FF n 33 [tm t] [] = some ([bl (ah t)], [])) :
   ∀ g m (i : Nat), g < m → i + g = l.length → b5 n m l l l.length i = cond ((l.drop i).all ah) (bc n n l l l.length 0) (some ([nt 3], []))
 | g, 0, i, hg, _ => by omega
 | 0, m + 1, i, _, hi => by
  rw [dA, List.drop_of_length_le (by omega), decide_eq_false (show ¬ (i : Int) < l.length by omega)]
  rfl
 | g + 1, m + 1, i, hg, hi => by
  have hlt : i < l.length := by omega
  rw [List.drop_eq_getElem_cons hlt, List.all_cons]
  rw [dA]; simp (disch := omega) only [evt, au, Int.toNat_natCast, fC, wrap64, aK, List.length_append, List.length_cons, List.length_nil, if_pos (show (i : Int) < l.length by omega), if_pos (show 0 ≤ (i : Int) by omega), List.getElem?_eq_getElem hlt, h _ (List.getElem_mem hlt)]
  cases hs : ah l[i] with
  | false => simp
  | true =>
   simp only [Bool.not_true, cond_false, Bool.true_and]
   exact yd n l hl h g m (i + 1) (by omega) (by omega)
theorem oY {G : List Tm} (hG : ∀ A ∈ G, vdM A = true) (hl : G.length ≤ 8) : ∃ B, ∀ n, B ≤ n → FF n 36 [tms (cx G)] [] = some ([nt (sts (cc O (tI O) G))], []) := by
 obtain ⟨B, h⟩ := tL G.reverse [] (fun A hA => by cases hA) (fun A hA => hG A (List.mem_reverse.1 hA)) (by simp; omega) ⟨.nat, rfl⟩
 refine ⟨max B 4400000 + 1, fun n hn => ?_⟩
 obtain ⟨n, rfl⟩ := af (show 0 < n by omega)
 have hz : ∀ t ∈ cx G, t.size ≤ 4000000 := fun t ht => by
  obtain ⟨A, hA, rfl⟩ := List.mem_map.1 (List.mem_reverse.1 (show t ∈ (G.map of).reverse from ht))
  have := ae (hG A hA); omega
 have ho := g9 (Ey hG hl)
 have hl' : (cx G).length ≤ 4000000 := by rw [c8]; omega
 rw [ju, decide_eq_false (show ¬ (8 : Int) < (cx G).length by rw [c8]; omega), cond_false]
 have e1 := yd n (cx G) hl' (fun t ht => bB (by have := hz t ht; omega)) (cx G).length n 0 (by omega) (by omega)
 rw [List.drop_zero, List.all_eq_true.2 ho.2, cond_true] at e1
 have e2 := h n (by omega) n (by rw [List.length_reverse]; omega)
 rw [List.append_nil, List.reverse_reverse] at e2
 have e3 : cx [] ++ G.reverse.map of = cx G := by rw [show cx [] = [] from rfl, List.nil_append, cx, List.map_reverse]
 rw [e3] at e2
 have e4 : ((([] : List Tm).length + G.reverse.length : Nat) : Int) = ((cx G).length : Int) := by rw [c8, List.length_reverse]; simp
 rw [e4] at e2
 exact e1.trans e2
end Go.Proofs.Ytajlknlnmmbfcaa
end
section
namespace Go.Proofs.Ytajlknlnmmbfcaa
open Go Go.Ab Go.Dk
open Tm (Rs sq frm lvl chk fam made inI inS tI tS lvr ckr cc pt ps pc Wf)
theorem Cq {G : List Tm} (hG : ∀ A ∈ G, vdM A = true) : ∀ t ∈ cx G, t.size ≤ 4000000 := fun t ht => by
 obtain ⟨A, hA, rfl⟩ := List.mem_map.1 (List.mem_reverse.1 (show t ∈ (G.map of).reverse from ht))
 have := ae (hG A hA); omega
theorem s4 (n : Nat) (l : List T) (hl : l.length ≤ 4000000) (h : ∀ t ∈ l, FF n 38 [tm t] [] = some ([bl (!ah t)], [])) :
   ∀ g m (i : Nat), g < m → i + g = l.length → ∃ v, aL n m l l.length i = some ([nt v], []) ∧ (0 ≤ v ↔ (l.drop i).all ah = false)
 | g, 0, i, hg, _ => by omega
 | 0, m + 1, i, _, hi => by
  rw [bR, List.drop_of_length_le (by omega), decide_eq_false (show ¬ (i : Int) < l.length by omega)]
  exact ⟨-1, rfl, by simp⟩
 | g + 1, m + 1, i, hg, hi => by
  have hlt : i < l.length := by omega
  rw [List.drop_eq_getElem_cons hlt, List.all_cons]
  rw [bR]; simp (disch := omega) only [evt, au, Int.toNat_natCast, fC, wrap64, aK, List.length_append, List.length_cons, List.length_nil, if_pos (show (i : Int) < l.length by omega), if_pos (show 0 ≤ (i : Int) by omega), List.getElem?_eq_getElem hlt, h _ (List.getElem_mem hlt)]
  cases hs : ah l[i] with
  | false => exact ⟨i, rfl, by simp⟩
  | true =>
   simp only [Bool.not_true, cond_false, Bool.true_and]
   exact s4 n l hl h g m (i + 1) (by omega) (by omega)
theorem Ea {n : Nat} {l ts : List T} {c : Int} (hn : 4400000 ≤ n) (hl : ts.length ≤ 4000000) (hz : ∀ t ∈ ts, t.size ≤ 4000000) (h : FF n 36 [tms l] [] = some ([nt c], [])) : FF (n + 1) 23 [tms l, tms ts] [] = some ([nt (if ts.all ah = true then c else 3)], []) := by
 rw [tG, h]
 simp only [evt]
 obtain ⟨n, rfl⟩ : ∃ m, n = m + 2 := ⟨n - 2, by omega⟩
 have hc : ∀ t ∈ ts, FF n 38 [tm t] [] = some ([bl (!ah t)], []) := by
  intro t ht
  have := hz t ht
  obtain ⟨n, rfl⟩ : ∃ m, n = m + 1 := ⟨n - 1, by omega⟩
  rw [oK, bB (by omega)]
  simp only [evt]
 obtain ⟨v, h1, h2⟩ := s4 n ts hl hc ts.length n 0 (by omega) (by omega)
 rw [dJ, ey]
 rw [show (aL n n ts ts.length 0) = _ from h1]
 simp only [evt]
 rw [List.drop_zero] at h2
 cases ha : ts.all ah with
 | true =>
  rw [ha] at h2
  have : ¬ (0 : Int) ≤ v := fun hh => by have := h2.1 hh; cases this
  rw [decide_eq_false this]; rfl
 | false =>
  rw [ha] at h2
  rw [decide_eq_true (h2.2 rfl)]; rfl
theorem Cy {G : List Tm} {ts : List T} (hG : ∀ A ∈ G, vdM A = true) (h8 : G.length ≤ 8) (hl' : ts.length ≤ 4000000) (hz' : ∀ t ∈ ts, t.size ≤ 4000000) (h : ts.all ah = true) : ∃ B, ∀ n, B ≤ n → FF n 23 [tms (cx G), tms ts] [] = some ([nt (sts (cc O (tI O) G))], []) := by
 obtain ⟨B, hB⟩ := oY hG h8
 refine ⟨max B 4400000 + 1, fun n hn => ?_⟩
 obtain ⟨n, rfl⟩ := af (show 0 < n by omega)
 rw [Ea (by omega) hl' hz' (hB n (by omega)), if_pos h]
theorem wy {G : List Tm} {t u : Tm} (hG : ∀ A ∈ G, vdM A = true) (h8 : G.length ≤ 8) (hv : vdM t = true) (hu : vdM u = true) : ∃ B, ∀ n, B ≤ n → FF n 10 [tms (cx G), tm (of t), tm (of u)] [] = some ([nt (sts (pc O (tI O) G t u))], []) := by
 have zt := ae hv
 have zu := ae hu
 have eu : T.mk (of u).k (of u).n (of u).kids = of u := by cases of u; rfl
 have et : T.mk (of t).k (of t).n (of t).kids = of t := by cases of t; rfl
 obtain ⟨B, hB⟩ := Cy (ts := [of t, of u]) hG h8 (by simp) (by simp; omega) (by have h1 : ah (of t) = true := hv; have h2 : ah (of u) = true := hu; simp [h1, h2])
 unfold pc ps
 cases hc : cc O (tI O) G with
 | ok C =>
  have w := Tm.Au bm hc
  obtain ⟨B', h'⟩ := sP w hG (by omega) hu
  obtain ⟨B2, h2⟩ := BR w hG (by omega) hv hu
  refine ⟨max B (max B' B2) + 1, fun n hn => ?_⟩
  obtain ⟨n, rfl⟩ := af (show 0 < n by omega)
  have e1 := hB n (by omega)
  rw [hc] at e1
  rw [eW, et, eu, e1]
  obtain ⟨x, eo, hx⟩ := zL (h' n (by omega))
  simp only [evt, sts]
  have eo : FF n 24 [tms (cx G), .agg [.int .i64 (of u).k, .int .i64 (of u).n, .fr (.ts (of u).kids)]] [] = _ := eo
  rw [eo]
  simp only [evt]
  cases hr : lvr O (tI O G u) with
  | ok A =>
   simp only [sts, decide_true, Bool.not_true, cond_false]
   have := h2 n (by omega)
   simp only [tms, tm] at this
   rw [this]; rfl
  | bad => rfl
  | opn => rfl
 | bad =>
  refine ⟨B + 1, fun n hn => ?_⟩
  obtain ⟨n, rfl⟩ := af (show 0 < n by omega)
  have e1 := hB n (by omega)
  rw [hc] at e1
  rw [eW, et, eu, e1]; rfl
 | opn =>
  refine ⟨B + 1, fun n hn => ?_⟩
  obtain ⟨n, rfl⟩ := af (show 0 < n by omega)
  have e1 := hB n (by omega)
  rw [hc] at e1
  rw [eW, et, eu, e1]; rfl
end Go.Proofs.Ytajlknlnmmbfcaa
end
section
namespace Go.Proofs.Ytajlknlnmmbfcaa
open Go Go.Dk
def pr2 (l : List Tm) (f : Tm → Tm → Tm) : List Tm := l.flatMap fun a => l.map (f a)
def pr3 (l : List Tm) (f : Tm → Tm → Tm → Tm) : List Tm := l.flatMap fun a => pr2 l (f a)
def pr4 (l : List Tm) (f : Tm → Tm → Tm → Tm → Tm) : List Tm := l.flatMap fun a => pr3 l (f a)
theorem Gr {l : List Tm} {f : Tm → Tm → Tm} {a b : Tm} (ha : a ∈ l) (hb : b ∈ l) : f a b ∈ pr2 l f := List.mem_flatMap.2 ⟨a, ha, List.mem_map.2 ⟨b, hb, rfl⟩⟩
theorem Hn {l : List Tm} {f : Tm → Tm → Tm → Tm} {a b c : Tm} (ha : a ∈ l) (hb : b ∈ l) (hc : c ∈ l) : f a b c ∈ pr3 l f := List.mem_flatMap.2 ⟨a, ha, Gr hb hc⟩
theorem H6 {l : List Tm} {f : Tm → Tm → Tm → Tm → Tm} {a b c d : Tm} (ha : a ∈ l) (hb : b ∈ l) (hc : c ∈ l) (hd : d ∈ l) : f a b c d ∈ pr4 l f := List.mem_flatMap.2 ⟨a, ha, Hn hb hc hd⟩
def enum : Nat → List Tm
 | 0 => []
 | d + 1 => (List.range ((ct 1).toNat + 1)).map .var ++ ((List.range ((ct 2).toNat + 1)).map .sort ++ ([.nat, .zero] ++ ((enum d).map .succ ++ ((enum d).map .refl ++ ((enum d).map .fst ++ ((enum d).map .snd ++
    (pr2 (enum d) .pi ++ (pr2 (enum d) .sig ++ (pr2 (enum d) .lam ++ (pr2 (enum d) .app ++ (pr3 (enum d) .id ++ (pr3 (enum d) .move ++ (pr3 (enum d) .pair ++ pr4 (enum d) .elim)))))))))))))
theorem xV : ∀ (d : Nat) (t : Tm), cH (of t) d = true → t ∈ enum d
 | 0, t, h => by
  rw [gi] at h
  simp at h
 | d + 1, t, h => by
  have ih := xV d
  rw [gi] at h
  simp only [Bool.and_eq_true, decide_eq_true_eq, Nat.add_sub_cancel] at h
  obtain ⟨_, _, hn, hk⟩ := h
  unfold enum
  cases t with
  | var n =>
   simp only [of, Go.Dk.T.n, Go.Dk.T.k] at hn
   exact List.mem_append.2 (.inl (List.mem_map.2 ⟨n, List.mem_range.2 (by omega), rfl⟩))
  | sort n =>
   simp only [of, Go.Dk.T.n, Go.Dk.T.k] at hn
   exact List.mem_append.2 (.inr (List.mem_append.2 (.inl (List.mem_map.2 ⟨n, List.mem_range.2 (by omega), rfl⟩))))
  | _ =>
   simp only [of, Go.Dk.T.kids, c7, Bool.and_true, Bool.and_eq_true] at hk
   simp only [List.mem_append]
   first
    | (simp; done)
    | (have := ih _ hk; simp [this]; done)
    | (have := @Gr _ Tm.pi _ _ (ih _ hk.1) (ih _ hk.2); simp [this]; done)
    | (have := @Gr _ Tm.sig _ _ (ih _ hk.1) (ih _ hk.2); simp [this]; done)
    | (have := @Gr _ Tm.lam _ _ (ih _ hk.1) (ih _ hk.2); simp [this]; done)
    | (have := @Gr _ Tm.app _ _ (ih _ hk.1) (ih _ hk.2); simp [this]; done)
    | (have := @Hn _ Tm.id _ _ _ (ih _ hk.1) (ih _ hk.2.1) (ih _ hk.2.2); simp [this]; done)
    | (have := @Hn _ Tm.move _ _ _ (ih _ hk.1) (ih _ hk.2.1) (ih _ hk.2.2); simp [this]; done)
    | (have := @Hn _ Tm.pair _ _ _ (ih _ hk.1) (ih _ hk.2.1) (ih _ hk.2.2); simp [this]; done)
    | (have := @H6 _ Tm.elim _ _ _ _ (ih _ hk.1) (ih _ hk.2.1) (ih _ hk.2.2.1) (ih _ hk.2.2.2); simp [this]; done)
theorem Dm : ∃ L : List Tm, ∀ t, vdM t = true → t ∈ L := ⟨enum 30, fun t h => xV 30 t (fm.1 h).1⟩
def AB (L : List Tm) : Nat → List (List Tm)
 | 0 => [[]]
 | k + 1 => [] :: L.flatMap fun a => (AB L k).map (a :: ·)
theorem sJ (L : List Tm) : ∀ (k : Nat) (G : List Tm), G.length ≤ k → (∀ A ∈ G, A ∈ L) → G ∈ AB L k
 | 0, [], _, _ => by simp [AB]
 | 0, A :: G, h, _ => by simp at h
 | k + 1, [], _, _ => by simp [AB]
 | k + 1, A :: G, h, hG => List.mem_cons_of_mem _ (List.mem_flatMap.2 ⟨A, hG A List.mem_cons_self, List.mem_map.2 ⟨G, sJ L k G (by simpa using h) (fun B hB => hG B (List.mem_cons_of_mem _ hB)), rfl⟩⟩)
theorem HE {α : Type} (P : α → Nat → Prop) : ∀ (L : List α), (∀ x ∈ L, ∃ B, ∀ n, B ≤ n → P x n) → ∃ B, ∀ x ∈ L, ∀ n, B ≤ n → P x n
 | [], _ => ⟨0, fun x hx => by cases hx⟩
 | a :: L, h => by
  obtain ⟨B, hB⟩ := h a List.mem_cons_self
  obtain ⟨C, hC⟩ := HE P L fun x hx => h x (List.mem_cons_of_mem _ hx)
  refine ⟨max B C, fun x hx n hn => ?_⟩
  rcases List.mem_cons.1 hx with rfl | hx
  ·exact hB n (by omega)
  ·exact hC x hx n (by omega)
theorem Hb (P : List Tm → Nat → Prop) (h : ∀ G : List Tm, (∀ A ∈ G, vdM A = true) → G.length ≤ 8 → ∃ B, ∀ n, B ≤ n → P G n) : ∃ B, ∀ G : List Tm, (∀ A ∈ G, vdM A = true) → G.length ≤ 8 → ∀ n, B ≤ n → P G n := by
 obtain ⟨L, hL⟩ := Dm
 obtain ⟨B, hB⟩ := HE (fun G n => (∀ A ∈ G, vdM A = true) → G.length ≤ 8 → P G n) (AB L 8) fun G _ => by
  by_cases hg : (∀ A ∈ G, vdM A = true) ∧ G.length ≤ 8
  ·obtain ⟨B, hB⟩ := h G hg.1 hg.2
   exact ⟨B, fun n hn _ _ => hB n hn⟩
  ·exact ⟨0, fun n _ h1 h2 => absurd ⟨h1, h2⟩ hg⟩
 exact ⟨B, fun G hG hl n hn => hB G (sJ L 8 G hl fun A hA => hL A (hG A hA)) n hn hG hl⟩
theorem EL (P : Tm → Nat → Prop) (h : ∀ t, vdM t = true → ∃ B, ∀ n, B ≤ n → P t n) : ∃ B, ∀ t, vdM t = true → ∀ n, B ≤ n → P t n := by
 obtain ⟨L, hL⟩ := Dm
 obtain ⟨B, hB⟩ := HE (fun t n => vdM t = true → P t n) L fun t _ => by
  by_cases hv : vdM t = true
  ·obtain ⟨B, hB⟩ := h t hv
   exact ⟨B, fun n hn _ => hB n hn⟩
  ·exact ⟨0, fun n _ h1 => absurd h1 hv⟩
 exact ⟨B, fun t hv n hn => hB t (hL t hv) n hn hv⟩
end Go.Proofs.Ytajlknlnmmbfcaa
end
section
namespace Go.Proofs.Ytajlknlnmmbfcaa
open Go Go.Ab Go.Dk
open Tm (Rs sq frm lvl chk fam made inI inS tI tS lvr ckr cc pt ps pc Wf)
section
variable {n : Nat} {l : List T} {t u : T}
end
end Go.Proofs.Ytajlknlnmmbfcaa
end
section
namespace Go.Proofs.Ytajlknlnmmbfcaa
open Go Go.Ab Go.Dk
open Tm (Rs sq frm lvl chk fam bnd inS kS)
section
variable {M n : Nat} {c : List T} {a b d e' : Tm} {xa xb xd xe : Option Rs}
structure Pt (M : Nat) (c : List T) (t : Tm) (x : Option Rs) : Prop where
 iv : Iv 66 M c (of t) x
 ok : ∀ s, x = some (.ok s) → vdM s = true
theorem nw (hM : 6000500 ≤ M) (hn : M + 2 ≤ n) (ha : Pt M c a xa) (hb : Pt M (c ++ [of a]) b xb) (hl : c.length ≤ 100) (k m : Int) : ∀ r, (sq (lvl O xa) fun i => sq (lvl O xb) fun j => some (.ok (.sort (max (Tm.lv i) (Tm.lv j))))) = some r →
   RK (FF n 113 [tms c, tm (.mk k m [of a, of b])] []) r := by
 intro r e
 obtain ⟨n, rfl⟩ := af (show 0 < n by omega)
 rw [oC]
 simp only [evt, ot, oM]
 rcases y7 (gG hM (n := n) (by omega) ha.iv ha.ok) e with ⟨i, e1, eo, e2⟩ | ⟨i, c', eo, hc⟩
 ·rw [eo]
  simp only [evt]
  rw [xH (n := n) (by omega) c (of a) (by omega)]
  simp only [evt]
  rcases y7 (gG hM (n := n) (by omega) hb.iv hb.ok) e2 with ⟨j, e3, eo, e4⟩ | ⟨j, c', eo, hc⟩
  ·rw [eo]
   simp only [evt]
   rw [yX (n := n) (by omega)]
   simp only [evt]
   rw [bo (n := n) (by omega)]
   cases e4
   exact ⟨of (.sort (max i j)), 0, rfl, by simp [of, T.size, T.aA], rfl, rfl⟩
  ·rw [eo]
   simp only [evt]
   rw [decide_eq_false hc.ne]
   exact bP hc _ j1
 ·rw [eo]
  simp only [evt]
  rw [decide_eq_false hc.ne]
  exact bP hc _ j1
theorem Eh (hM : 6000500 ≤ M) (hn : M + 4 ≤ n) (ha : Pt M c a xa) (hb : Pt M (c ++ [of a]) b xb) (hva : vdM a = true) (hl : c.length ≤ 100) (xB : Tm → Option Rs) (hB : ∀ B, xb = some (.ok B) → Pt M (c ++ [of a]) B (xB B)) : ∀ r,
   (sq (lvl O xa) fun _ => sq xb fun B => sq (sq (lvl O xa) fun i => sq (lvl O (xB B)) fun j => some (.ok (.sort (max (Tm.lv i) (Tm.lv j))))) fun _ => some (.ok (.pi a B))) = some r →
   RK (FF n 114 [tms c, tm (.mk 4 0 [of a, of b])] []) r := by
 intro r e
 obtain ⟨n, rfl⟩ := af (show 0 < n by omega)
 have za := ae hva
 rw [sS]
 simp only [evt, ot, oM]
 rcases y7 (gG hM (n := n) (by omega) ha.iv ha.ok) e with ⟨i, e1, eo, e2⟩ | ⟨i, c', eo, hc⟩
 ·rw [eo]
  simp only [evt]
  rw [xH (n := n) (by omega) c (of a) (by omega)]
  simp only [evt]
  rcases kX (hb.iv n (by omega)) e2 with ⟨B, e3, eo, e4⟩ | ⟨y, c', eo, hc⟩
  ·rw [eo]
   simp only [evt]
   have vB := hb.ok B e3
   have zB := ae vB
   rw [bA (n := n) (by omega) _ _ (by simp)]
   simp only [evt]
   cases hx : (sq (lvl O xa) fun i => sq (lvl O (xB B)) fun j => some (.ok (.sort (max (Tm.lv i) (Tm.lv j)))) : Option Rs) with
   | none => rw [hx] at e4; cases e4
   | some s =>
    rw [hx] at e4
    obtain ⟨y, c', eo, hy, h2⟩ := nw hM (n := n) (by omega) ha (hB B e3) hl 3 0 s hx
    simp only [tm, cT, cQ, ay] at eo
    rw [eo]
    simp only [vm, evt]
    refine ⟨of (.pi a B), c', rfl, by simp only [of, T.size, T.aA]; omega, ?_⟩
    cases s with
    | ok t => cases e4; exact ⟨h2.1, rfl⟩
    | bad => cases e4; exact h2
    | opn => cases e4; exact h2
  ·rw [eo]
   simp only [evt]
   rw [decide_eq_false hc.ne]
   exact bP hc _ j1
 ·rw [eo]
  simp only [evt]
  rw [decide_eq_false hc.ne]
  exact bP hc _ j1
theorem ES (hM : 6000500 ≤ M) (hn : M + 3 ≤ n) (ha : Pt M c a xa) (hb : Pt M c b xb) (hvb : vdM b = true) : ∀ r,
   (sq (frm O xa) fun F => match F with
   | .pi C B => sq (chk O xb C) fun _ => some (.ok (B.inst b))
   | _ => some .bad) = some r →
   RK (FF n 115 [tms c, tm (.mk 5 0 [of a, of b])] []) r := by
 intro r e
 obtain ⟨n, rfl⟩ := af (show 0 < n by omega)
 rw [s3]
 simp only [evt, ot, oM]
 rcases iy hM (n := n) (by omega) ha.iv ha.ok 3 e with ⟨f, eo, hk, vf, ef, e2⟩ | ⟨f, eo, hk, e2⟩ | ⟨y, c', eo, hc⟩
 ·rw [eo]
  cases f <;> try (rw [gf] at hk; simp only [Int.reduceEq] at hk; done)
  rename_i C B
  obtain ⟨vC, vB⟩ := bm.v_pi vf
  have zC := ae vC
  simp only [evt, of, ot, oM]
  rcases ko (dg hM (n := n) (by omega) hb.iv hb.ok (w := C) (by omega)) e2 with ⟨t', e3, eo, e4⟩ | ⟨c', eo, hc⟩
  ·rw [eo]
   simp only [evt]
   rw [BU (n := n) (by omega) vB hvb]
   cases e4
   have := gq vB hvb
   exact ⟨of (B.inst b), 0, rfl, by omega, rfl, rfl⟩
  ·rw [eo]
   simp only [evt]
   rw [decide_eq_false hc.ne]
   exact bP hc _ j1
 ·rw [eo]
  simp only [evt]
  have : r = .bad := by
   cases f <;> first | (exact absurd (gf _) hk) | (cases e2; rfl)
  subst this
  exact bP .bad _ j1
 ·rw [eo]
  simp only [evt]
  rw [decide_eq_false hc.ne]
  exact bP hc _ j1
theorem xI (hM : 6000500 ≤ M) (hn : M + 3 ≤ n) (ha : Pt M c a xa) (hva : vdM (.fst a) = true) :
   (∀ r, (sq (frm O xa) fun Q => match Q with
   | .sig A B => some (.ok A)
   | _ => some .bad) = some r → RK (FF n 136 [tms c, tm (.mk 15 0 [of a])] []) r) ∧
   ∀ r, (sq (frm O xa) fun Q => match Q with
   | .sig A B => some (.ok (B.inst (.fst a)))
   | _ => some .bad) = some r → RK (FF n 136 [tms c, tm (.mk 16 0 [of a])] []) r := by
 obtain ⟨n, rfl⟩ := af (show 0 < n by omega)
 refine ⟨fun r e => ?_, fun r e => ?_⟩
 ·rw [jY]
  simp only [evt, ot, oM]
  rcases iy hM (n := n) (by omega) ha.iv ha.ok 13 e with ⟨f, eo, hk, vf, ef, e2⟩ | ⟨f, eo, hk, e2⟩ | ⟨y, c', eo, hc⟩
  ·rw [eo]
   cases f <;> try (rw [gf] at hk; simp only [Int.reduceEq] at hk; done)
   rename_i C B
   obtain ⟨vC, vB⟩ := bm.v_sig vf
   have zC := ae vC
   simp only [evt, of, ot, oM]
   cases e2
   exact ⟨of C, 0, rfl, by omega, rfl, rfl⟩
  ·rw [eo]
   simp only [evt]
   have : r = .bad := by
    cases f <;> first | (exact absurd (gf _) hk) | (cases e2; rfl)
   subst this
   exact bP .bad _ j1
  ·rw [eo]
   simp only [evt]
   rw [decide_eq_false hc.ne]
   exact bP hc _ j1
 ·rw [jY]
  simp only [evt, ot, oM]
  rcases iy hM (n := n) (by omega) ha.iv ha.ok 13 e with ⟨f, eo, hk, vf, ef, e2⟩ | ⟨f, eo, hk, e2⟩ | ⟨y, c', eo, hc⟩
  ·rw [eo]
   cases f <;> try (rw [gf] at hk; simp only [Int.reduceEq] at hk; done)
   rename_i C B
   obtain ⟨vC, vB⟩ := bm.v_sig vf
   simp only [evt, of, ot, oM, show decide ((16 : Int) = 15) = false from rfl]
   rw [bA (n := n) (by omega) _ _ (by simp)]
   simp only [evt]
   have hi := BU (n := n) (b := B) (u := .fst a) (by omega) vB hva
   simp only [of, tm, cT, cQ, ay] at hi
   rw [hi]
   cases e2
   have := gq vB hva
   exact ⟨of (B.inst (.fst a)), 0, rfl, by omega, rfl, rfl⟩
  ·rw [eo]
   simp only [evt]
   have : r = .bad := by
    cases f <;> first | (exact absurd (gf _) hk) | (cases e2; rfl)
   subst this
   exact bP .bad _ j1
  ·rw [eo]
   simp only [evt]
   rw [decide_eq_false hc.ne]
   exact bP hc _ j1
theorem Gj (hM : 6000500 ≤ M) (hn : M + 3 ≤ n) (ha : Pt M c a xa) (hb : Pt M c b xb) (hd : Pt M c d xd) (hva : vdM a = true) : ∀ r,
   (sq (lvl O xa) fun i => sq (chk O xb a) fun _ => sq (chk O xd a) fun _ => some (.ok i)) = some r →
   RK (FF n 117 [tms c, tm (.mk 10 0 [of a, of b, of d])] []) r := by
 intro r e
 obtain ⟨n, rfl⟩ := af (show 0 < n by omega)
 have za := ae hva
 have sl : ∀ i : Int, (T.mk 2 i []).size ≤ 2000000 := fun i => by simp [T.size, T.aA]
 rw [uJ]
 simp only [evt, ot, oM, En]
 rcases y7 (gG hM (n := n) (by omega) ha.iv ha.ok) e with ⟨i, e1, eo, e2⟩ | ⟨i, c', eo, hc⟩
 ·rw [eo]
  simp only [evt]
  rcases ko (dg hM (n := n) (by omega) hb.iv hb.ok (w := a) (by omega)) e2 with ⟨t', e3, eo, e4⟩ | ⟨c', eo, hc⟩
  ·rw [eo]
   simp only [evt]
   rcases ko (dg hM (n := n) (by omega) hd.iv hd.ok (w := a) (by omega)) e4 with ⟨t', e5, eo, e6⟩ | ⟨c', eo, hc⟩
   ·rw [eo]
    simp only [evt]
    rw [bo (n := n) (by omega)]
    cases e6
    exact ⟨of (.sort i), 0, rfl, sl _, rfl, rfl⟩
   ·rw [eo]
    simp only [evt]
    rw [bo (n := n) (by omega)]
    exact bP hc (.mk 2 i []) (sl _)
  ·rw [eo]
   simp only [evt]
   rw [decide_eq_false hc.ne, bo (n := n) (by omega)]
   exact bP hc (.mk 2 i []) (sl _)
 ·rw [eo]
  simp only [evt]
  rw [decide_eq_false hc.ne]
  simp only [evt]
  rw [bo (n := n) (by omega)]
  exact bP hc (.mk 2 i []) (sl _)
theorem Cm (hM : 6000500 ≤ M) (hn : M + 4 ≤ n) (ha : Pt M c a xa) (hb : Pt M c b xb) (hd : Pt M c d xd) (he : Pt M c e' xe) (hv : vdM (.elim a b d e') = true) : ∀ r,
   (sq (fam O xa .nat) fun _ => sq (chk O xb (.app a .zero)) fun _ => sq (chk O xd (Tm.br a)) fun _ => sq (chk O xe .nat) fun _ => some (.ok (.app a e'))) = some r →
   RK (FF n 116 [tms c, tm (.mk 9 0 [of a, of b, of d, of e'])] []) r := by
 intro r e
 obtain ⟨n, rfl⟩ := af (show 0 < n by omega)
 obtain ⟨va, vb, vd, ve, vz⟩ := bm.v_elim hv
 have za := ae va
 have ze := ae ve
 have zz := ae vz
 have zs := tc va
 have zn : (of .nat).size ≤ 1000000 := by decide
 have sl : (T.mk 5 0 [of a, of e']).size ≤ 2000000 := by simp only [T.size, T.aA]; omega
 have fin : ∀ k, k = n → FF k 45 [nt 5, tms [of a, of e']] [] = some ([tm (.mk 5 0 [of a, of e'])], []) := fun k hk => bA (n := k) (by omega) _ _ (by simp)
 rw [qA]
 simp only [evt, ot, oM, En, H5, bo (show 1 ≤ n by omega)]
 rcases ko (py hM (n := n) (by omega) ha.iv ha.ok (w := .nat) zn) e with ⟨t', e1, eo, e2⟩ | ⟨c', eo, hc⟩
 ·simp only [of, tm, cT, cQ, ay] at eo
  rw [eo]
  simp only [evt]
  rw [bA (n := n) (by omega) _ _ (by simp)]
  simp only [evt]
  rcases ko (dg hM (n := n) (by omega) hb.iv hb.ok (w := .app a .zero) (by omega)) e2 with ⟨t', e3, eo, e4⟩ | ⟨c', eo, hc⟩
  ·simp only [of, tm, cT, cQ, ay] at eo
   rw [eo]
   simp only [evt]
   rw [sZ (n := n) (by omega) va]
   simp only [evt]
   rcases ko (dg hM (n := n) (by omega) hd.iv hd.ok (w := Tm.br a) (by omega)) e4 with ⟨t', e5, eo, e6⟩ | ⟨c', eo, hc⟩
   ·rw [eo]
    simp only [evt]
    rcases ko (dg hM (n := n) (by omega) he.iv he.ok (w := .nat) zn) e6 with ⟨t', e7, eo, e8⟩ | ⟨c', eo, hc⟩
    ·simp only [of, tm, cT, cQ, ay] at eo
     rw [eo]
     simp only [evt]
     rw [fin n rfl]
     cases e8
     exact ⟨of (.app a e'), 0, rfl, sl, rfl, rfl⟩
    ·simp only [of, tm, cT, cQ, ay] at eo
     rw [eo]
     simp only [evt]
     rw [fin n rfl]
     exact bP hc _ sl
   ·rw [eo]
    simp only [evt]
    rw [decide_eq_false hc.ne, fin n rfl]
    exact bP hc _ sl
  ·simp only [of, tm, cT, cQ, ay] at eo
   rw [eo]
   simp only [evt]
   rw [decide_eq_false hc.ne]
   simp only [evt]
   rw [fin n rfl]
   exact bP hc _ sl
 ·simp only [of, tm, cT, cQ, ay] at eo
  rw [eo]
  simp only [evt]
  rw [decide_eq_false hc.ne]
  simp only [evt]
  rw [fin n rfl]
  exact bP hc _ sl
theorem Cs (hM : 6000500 ≤ M) (hn : M + 4 ≤ n) (ha : Pt M c a xa) (hb : Pt M c b xb) (hd : Pt M c d xd) (hv : vdM (.move a b d) = true) : ∀ r,
   (sq (frm O xb) fun E => match E with
   | .id t y z => sq (fam O xa t) fun _ => sq (chk O xd (.app a y)) fun _ => some (.ok (.app a z))
   | _ => some .bad) = some r →
   RK (FF n 118 [tms c, tm (.mk 12 0 [of a, of b, of d])] []) r := by
 intro r e
 obtain ⟨n, rfl⟩ := af (show 0 < n by omega)
 obtain ⟨va, vb, vd⟩ := bm.v_move hv
 have za := ae va
 rw [rG]
 simp only [evt, ot, oM, En]
 rcases iy hM (n := n) (by omega) hb.iv hb.ok 10 e with ⟨f, eo, hk, vf, ef, e2⟩ | ⟨f, eo, hk, e2⟩ | ⟨y, c', eo, hc⟩
 ·rw [eo]
  cases f <;> try (rw [gf] at hk; simp only [Int.reduceEq] at hk; done)
  rename_i t y z
  obtain ⟨vt, vy, vz⟩ := bm.v_id vf
  have zt := ae vt
  have zy := ae vy
  have zz := ae vz
  have sl : (T.mk 5 0 [of a, of z]).size ≤ 2000000 := by simp only [T.size, T.aA]; omega
  have sy : (of (.app a y)).size ≤ 1000000 := by simp only [of, T.size, T.aA]; omega
  simp only [evt, of, ot, oM, En]
  rcases ko (py hM (n := n) (by omega) ha.iv ha.ok (w := t) (by omega)) e2 with ⟨t', e1, eo, e2⟩ | ⟨c', eo, hc⟩
  ·rw [eo]
   simp only [evt]
   rw [bA (n := n) (by omega) _ _ (by simp)]
   simp only [evt]
   rcases ko (dg hM (n := n) (by omega) hd.iv hd.ok (w := .app a y) sy) e2 with ⟨t', e3, eo, e4⟩ | ⟨c', eo, hc⟩
   ·simp only [of, tm, cT, cQ, ay] at eo
    rw [eo]
    simp only [evt]
    rw [bA (n := n) (by omega) _ _ (by simp)]
    cases e4
    exact ⟨of (.app a z), 0, rfl, sl, rfl, rfl⟩
   ·simp only [of, tm, cT, cQ, ay] at eo
    rw [eo]
    simp only [evt]
    rw [bA (n := n) (by omega) _ _ (by simp)]
    exact bP hc _ sl
  ·rw [eo]
   simp only [evt]
   rw [decide_eq_false hc.ne]
   simp only [evt]
   rw [bA (n := n) (by omega) _ _ (by simp)]
   exact bP hc _ sl
 ·rw [eo]
  simp only [evt]
  have : r = .bad := by
   cases f <;> first | (exact absurd (gf _) hk) | (cases e2; rfl)
  subst this
  exact bP .bad _ j1
 ·rw [eo]
  simp only [evt]
  rw [decide_eq_false hc.ne]
  exact bP hc _ j1
theorem CM (hM : 6000500 ≤ M) (hn : M + 4 ≤ n) (ha : Pt M c a xa) (hb : Pt M c b xb) (hd : Pt M c d xd) (hv : vdM (.pair a b d) = true) : ∀ r,
   (sq (lvl O xa) fun _ => sq (some (O.hn a)) fun h => match h with
   | .sig A B => sq (chk O xb A) fun _ => sq (chk O xd (B.inst b)) fun _ => some (.ok a)
   | _ => some .bad) = some r →
   RK (FF n 119 [tms c, tm (.mk 14 0 [of a, of b, of d])] []) r := by
 intro r e
 obtain ⟨n, rfl⟩ := af (show 0 < n by omega)
 obtain ⟨va, vb, vd⟩ := bm.v_pair hv
 have za := ae va
 rw [rp]
 simp only [evt, ot, oM, En]
 rcases y7 (gG hM (n := n) (by omega) ha.iv ha.ok) e with ⟨i, e1, eo, e2⟩ | ⟨i, c', eo, hc⟩
 ·rw [eo]
  simp only [evt]
  rcases kX (yJ (P := RS) (mK (n := n) (m := a) (by omega) (by omega))) e2 with ⟨f, e3, eo, e4⟩ | ⟨y, c', eo, hc⟩
  ·rw [eo]
   simp only [evt]
   have vf := (bm.hn_ok (Option.some.inj e3)).2.2
   by_cases hk : (of f).k = 13
   ·rw [decide_eq_true hk]
    simp only [evt]
    cases f <;> try (rw [gf] at hk; simp only [Int.reduceEq] at hk; done)
    rename_i C B
    obtain ⟨vC, vB⟩ := bm.v_sig vf
    have zC := ae vC
    have zi := gq vB vb
    simp only [evt, of, ot, oM, En]
    rcases ko (dg hM (n := n) (by omega) hb.iv hb.ok (w := C) (by omega)) e4 with ⟨t', e5, eo, e6⟩ | ⟨c', eo, hc⟩
    ·rw [eo]
     simp only [evt]
     rw [BU (n := n) (by omega) vB vb]
     simp only [evt]
     rcases ko (dg hM (n := n) (by omega) hd.iv hd.ok (w := B.inst b) (by omega)) e6 with ⟨t', e7, eo, e8⟩ | ⟨c', eo, hc⟩
     ·rw [eo]
      simp only [evt]
      cases e8
      exact ⟨of a, 0, rfl, by omega, rfl, rfl⟩
     ·rw [eo]
      simp only [evt]
      exact bP hc _ (by omega)
    ·rw [eo]
     simp only [evt]
     rw [decide_eq_false hc.ne]
     exact bP hc _ (by omega)
   ·rw [decide_eq_false hk]
    have : r = .bad := by
     cases f <;> first | (exact absurd (gf _) hk) | (cases e4; rfl)
    subst this
    exact bP .bad _ j1
  ·rw [eo]
   simp only [evt]
   rw [decide_eq_false hc.ne]
   exact bP hc _ j1
 ·rw [eo]
  simp only [evt]
  rw [decide_eq_false hc.ne]
  exact bP hc _ j1
end
theorem cF {o : OR} {r : Rs} (h : RK o r) : RK (o.bind fun x0 => ag x0.1 fun x1 x2 => aB .i64 x2 fun x3 x4 => ai x4 (aj x0.2 (some ([.agg [.int .i64 x1.k, .int .i64 x1.n, .fr (.ts x1.kids)], .one (.int .i64 x3)], [])))) r := by
 obtain ⟨x, c, rfl, hz, h2⟩ := h
 simp only [evt]
 exact ⟨x, c, rfl, hz, h2⟩
theorem EZ {o : OR} {r : Rs} {u : Tm} {xx : Option Rs} (h : ∀ r, xx = some r → RC o r) (hu : (of u).size ≤ 2000000) (e : (sq xx fun _ => some (.ok u)) = some r) : RK (o.bind fun x7 => aB .i64 x7.1 fun x8 x9 => ai x9 (aj x7.2 (some ([tm (of u), .one (.int .i64 x8)], [])))) r := by
 rcases ko h e with ⟨t, e1, eo, e2⟩ | ⟨c, eo, hc⟩
 ·rw [eo]
  simp only [evt]
  cases e2
  exact ⟨of u, 0, rfl, hu, rfl, rfl⟩
 ·rw [eo]
  simp only [evt]
  exact bP hc _ hu
def IhS (g B : Nat) : Prop := ∀ (n : Nat) (G : List Tm) (t : Tm), B ≤ n → (∀ A ∈ G, vdM A = true) → G.length ≤ 21 → vdM t = true → ∀ r, inS O g G t = some r → RS (FF n 66 [tms (cx G), tm (of t)] []) r
theorem IhS.pt {g B : Nat} (ih : IhS g B) {G : List Tm} {t : Tm} (hG : ∀ A ∈ G, vdM A = true) (hl : G.length ≤ 21) (hv : vdM t = true) : Pt B (cx G) t (inS O g G t) :=
 ⟨fun m hm r e => ih m G t hm hG hl hv r e, fun s e => (Tm.cf bm e).2⟩
theorem C3 {g B : Nat} (ih : IhS g B) (hB : 6000500 ≤ B) {n : Nat} {G : List Tm} {t : Tm} (hn : B + 10 ≤ n) (hG : ∀ A ∈ G, vdM A = true) (hl : G.length ≤ 20) (hv : vdM t = true) :
   ∀ r, kS O (inS O g) G t = some r → RK (FF n 97 [tms (cx G), tm (of t)] []) r := by
 intro r e
 obtain ⟨n, rfl⟩ := af (show 0 < n by omega)
 have hcl : (cx G).length ≤ 100 := by rw [c8]; omega
 have pt : ∀ {u}, vdM u = true → Pt B (cx G) u (inS O g G u) := fun h => ih.pt hG (by omega) h
 have pb : ∀ {a u}, vdM a = true → vdM u = true → Pt B (cx G ++ [of a]) u (inS O g (a :: G) u) := fun {a u} ha hu => by
  rw [← AH]
  exact ih.pt (fun A hA => by rcases List.mem_cons.1 hA with rfl | hA; exact ha; exact hG A hA) (by simp only [List.length_cons]; omega) hu
 rw [qC]
 cases t with
 | pi a b =>
  obtain ⟨va, vb⟩ := bm.v_pi hv
  simp only [of, cT, cQ, ay, decide_true, cond_true]
  exact cF (nw hB (n := n) (by omega) (pt va) (pb va vb) hcl 3 0 r e)
 | sig a b =>
  obtain ⟨va, vb⟩ := bm.v_sig hv
  simp only [of, cT, cQ, ay, Int.reduceEq, decide_true, decide_false, cond_true, cond_false]
  exact cF (nw hB (n := n) (by omega) (pt va) (pb va vb) hcl 13 0 r e)
 | lam a b =>
  obtain ⟨va, vb⟩ := bm.v_lam hv
  simp only [of, cT, cQ, ay, Int.reduceEq, decide_true, decide_false, cond_true, cond_false]
  exact cF (Eh hB (n := n) (by omega) (pt va) (pb va vb) va hcl (fun X => inS O g (a :: G) X) (fun X eX => pb va (Tm.cf bm eX).2) r e)
 | app a b =>
  obtain ⟨va, vb⟩ := bm.v_app hv
  simp only [of, cT, cQ, ay, Int.reduceEq, decide_true, decide_false, cond_true, cond_false]
  exact cF (ES hB (n := n) (by omega) (pt va) (pt vb) vb r e)
 | elim p z s m =>
  obtain ⟨va, vb, vd, ve, _⟩ := bm.v_elim hv
  simp only [of, cT, cQ, ay, Int.reduceEq, decide_true, decide_false, cond_true, cond_false]
  exact cF (Cm hB (n := n) (by omega) (pt va) (pt vb) (pt vd) (pt ve) hv r e)
 | id a b d =>
  obtain ⟨va, vb, vd⟩ := bm.v_id hv
  simp only [of, cT, cQ, ay, Int.reduceEq, decide_true, decide_false, cond_true, cond_false]
  exact cF (Gj hB (n := n) (by omega) (pt va) (pt vb) (pt vd) va r e)
 | move a b d =>
  obtain ⟨va, vb, vd⟩ := bm.v_move hv
  simp only [of, cT, cQ, ay, Int.reduceEq, decide_true, decide_false, cond_true, cond_false]
  exact cF (Cs hB (n := n) (by omega) (pt va) (pt vb) (pt vd) hv r e)
 | pair a b d =>
  obtain ⟨va, vb, vd⟩ := bm.v_pair hv
  simp only [of, cT, cQ, ay, Int.reduceEq, decide_true, decide_false, cond_true, cond_false]
  exact cF (CM hB (n := n) (by omega) (pt va) (pt vb) (pt vd) hv r e)
 | var m =>
  simp only [of, cT, cQ, ay, Int.reduceEq, decide_true, decide_false, cond_true, cond_false]
  refine cF ?_
  obtain ⟨n, rfl⟩ := af (show 0 < n by omega)
  rw [bF]
  simp only [decide_true, cond_true, cond_false]
  have e : (match Tm.look G m with | some A => some (Rs.ok A) | none => some Rs.bad) = some r := e
  rw [c8]
  cases hlk : Tm.look G m with
  | none =>
   rw [hlk] at e; cases e
   have := nJ hlk
   rw [decide_eq_true (show (G.length : Int) ≤ m by omega)]
   exact bP .bad _ j1
  | some A =>
   rw [hlk] at e; cases e
   have hlt := z7 hlk
   obtain ⟨C, hC, rfl⟩ := mm hlk
   have vC := hG C (List.mem_of_getElem? hC)
   have zC := ae vC
   have hg := DI G hlt
   rw [hC] at hg
   have w : IntKind.i64.wrap (IntKind.i64.wrap ((G.length : Int) - 1) - m) = ((G.length - 1 - m : Nat) : Int) := by
    rw [wrap64 (a := (G.length : Int) - 1) (by omega), wrap64 (by omega)]; omega
   have w1 : IntKind.i64.wrap ((m : Int) + 1) = ((m + 1 : Nat) : Int) := by rw [wrap64 (by omega)]; rfl
   rw [decide_eq_false (show ¬ (G.length : Int) ≤ m by omega), w, decide_eq_true (show (0 : Int) ≤ ((G.length - 1 - m : Nat) : Int) by omega), Int.toNat_natCast, hg, w1]
   simp only [Option.map_some, evt]
   have hs := mD (n := n) (b := C) (a := m + 1) (by omega) vC (by omega)
   rw [hs]
   simp only [evt]
   refine ⟨of (C.ren (· + (m + 1))), 0, rfl, ?_, rfl, rfl⟩
   have := B3 (m + 1) C 0
   rw [kp] at this
   rw [← this, kE]; omega
 | sort m =>
  simp only [of, cT, cQ, ay, Int.reduceEq, decide_true, decide_false, cond_true, cond_false]
  refine cF ?_
  obtain ⟨n, rfl⟩ := af (show 0 < n by omega)
  rw [bF]
  simp only [decide_true, cond_true, cond_false, show decide ((2 : Int) = 1) = false from rfl]
  have hm := bm.v_sort.1 hv
  have e : some (if m < 3 then Rs.ok (.sort (m + 1)) else Rs.bad) = some r := e
  by_cases h3 : m < 3
  ·rw [if_pos h3] at e; cases e
   rw [decide_eq_false (show ¬ (3 : Int) ≤ m by omega), wrap64 (show -9223372036854775808 ≤ (m : Int) + 1 ∧ (m : Int) + 1 ≤ 9223372036854775807 by omega)]
   simp only [evt]
   rw [bo (n := n) (by omega)]
   simp only [evt]
   exact ⟨of (.sort (m + 1)), 0, rfl, by simp [of, T.size, T.aA], rfl, rfl⟩
  ·rw [if_neg h3] at e; cases e
   rw [decide_eq_true (show (3 : Int) ≤ m by omega)]
   exact bP .bad _ j1
 | nat =>
  simp only [of, cT, cQ, ay, Int.reduceEq, decide_true, decide_false, cond_true, cond_false]
  refine cF ?_
  obtain ⟨n, rfl⟩ := af (show 0 < n by omega)
  rw [bF]
  simp only [decide_true, cond_true, cond_false, show decide ((6 : Int) = 1) = false from rfl, show decide ((6 : Int) = 2) = false from rfl]
  rw [bo (n := n) (by omega)]
  simp only [evt]
  cases e
  exact ⟨of (.sort 0), 0, rfl, by decide, rfl, rfl⟩
 | zero =>
  simp only [of, cT, cQ, ay, Int.reduceEq, decide_true, decide_false, cond_true, cond_false]
  refine cF ?_
  obtain ⟨n, rfl⟩ := af (show 0 < n by omega)
  rw [bF]
  simp only [decide_true, cond_true, cond_false, show decide ((7 : Int) = 1) = false from rfl, show decide ((7 : Int) = 2) = false from rfl, show decide ((7 : Int) = 6) = false from rfl]
  rw [bo (n := n) (by omega)]
  simp only [evt]
  cases e
  exact ⟨of .nat, 0, rfl, by decide, rfl, rfl⟩
 | succ a =>
  simp only [of, cT, cQ, ay, Int.reduceEq, decide_true, decide_false, cond_true, cond_false]
  refine cF ?_
  obtain ⟨n, rfl⟩ := af (show 0 < n by omega)
  rw [bF]
  simp only [decide_true, cond_true, cond_false, show decide ((8 : Int) = 1) = false from rfl, show decide ((8 : Int) = 2) = false from rfl, show decide ((8 : Int) = 6) = false from rfl, show decide ((8 : Int) = 7) = false from rfl]
  have va := bm.v_succ hv
  have zn : (of .nat).size ≤ 1000000 := by decide
  rw [bo (n := n) (by omega)]
  simp only [evt, ot]
  exact EZ (u := .nat) (dg hB (n := n) (by omega) (pt va).iv (pt va).ok (w := .nat) zn) (by decide) e
 | refl a =>
  simp only [of, cT, cQ, ay, Int.reduceEq, decide_true, decide_false, cond_true, cond_false]
  refine cF ?_
  obtain ⟨n, rfl⟩ := af (show 0 < n by omega)
  rw [bF]
  simp only [decide_true, cond_true, cond_false, show decide ((11 : Int) = 1) = false from rfl, show decide ((11 : Int) = 2) = false from rfl, show decide ((11 : Int) = 6) = false from rfl, show decide ((11 : Int) = 7) = false from rfl, show decide ((11 : Int) = 8) = false from rfl]
  have va := bm.v_refl hv
  have za := ae va
  simp only [evt, ot]
  have e : (sq (inS O g G a) fun A => sq (lvl O (inS O g G A)) fun _ => some (.ok (.id A a a))) = some r := e
  rcases Ge ((pt va).iv n (by omega)) e with ⟨A, e1, eo, e2⟩ | ⟨y, c', eo, hy, hc⟩
  ·rw [eo]
   have vA := (pt va).ok A e1
   have zA := ae vA
   have sl : (T.mk 10 0 [of A, of a, of a]).size ≤ 2000000 := by simp only [T.size, T.aA]; omega
   simp only [evt]
   rcases y7 (gG hB (n := n) (by omega) (pt vA).iv (pt vA).ok) e2 with ⟨i, e3, eo, e4⟩ | ⟨i, c', eo, hc⟩
   ·rw [eo]
    simp only [evt]
    rw [bA (n := n) (by omega) _ _ (by simp)]
    simp only [evt]
    cases e4
    exact ⟨of (.id A a a), 0, rfl, sl, rfl, rfl⟩
   ·rw [eo]
    simp only [evt]
    rw [bA (n := n) (by omega) _ _ (by simp)]
    simp only [evt]
    exact bP hc _ sl
  ·have sl : (T.mk 10 0 [y, of a, of a]).size ≤ 2000000 := by simp only [T.size, T.aA]; omega
   rw [eo]
   simp only [evt]
   rw [decide_eq_false hc.ne]
   simp only [evt]
   rw [bA (n := n) (by omega) _ _ (by simp)]
   simp only [evt]
   exact bP hc _ sl
 | fst q =>
  simp only [of, cT, cQ, ay, Int.reduceEq, decide_true, decide_false, cond_true, cond_false]
  refine cF ?_
  obtain ⟨n, rfl⟩ := af (show 0 < n by omega)
  rw [bF]
  simp only [decide_true, cond_true, cond_false, show decide ((15 : Int) = 1) = false from rfl, show decide ((15 : Int) = 2) = false from rfl, show decide ((15 : Int) = 6) = false from rfl, show decide ((15 : Int) = 7) = false from rfl, show decide ((15 : Int) = 8) = false from rfl, show decide ((15 : Int) = 11) = false from rfl]
  have vq := bm.v_fst hv
  exact cF ((xI hB (n := n) (by omega) (pt vq) hv).1 r e)
 | snd q =>
  simp only [of, cT, cQ, ay, Int.reduceEq, decide_true, decide_false, cond_true, cond_false]
  refine cF ?_
  obtain ⟨n, rfl⟩ := af (show 0 < n by omega)
  rw [bF]
  simp only [decide_true, cond_true, cond_false, show decide ((16 : Int) = 1) = false from rfl, show decide ((16 : Int) = 2) = false from rfl, show decide ((16 : Int) = 6) = false from rfl, show decide ((16 : Int) = 7) = false from rfl, show decide ((16 : Int) = 8) = false from rfl, show decide ((16 : Int) = 11) = false from rfl]
  have vq := bm.v_snd hv
  have vf : vdM (.fst q) = true := by
   have h := fm.1 hv
   rw [fm]
   exact h
  exact cF ((xI hB (n := n) (by omega) (pt vq) vf).2 r e)
theorem uj : ∀ g, IhS g (6000500 + 20 * g)
 | 0 => fun n G t hn hG hl hv r e => by cases e
 | g + 1 => fun n G t hn hG hl hv r e => by
  obtain ⟨n, rfl⟩ := af (show 0 < n by omega)
  have hz := ae hv
  have ev : ah (of t) = true := hv
  rw [oX, bk (n := n) (by omega) (by omega), ev, c8]
  simp only [evt]
  rw [inS] at e
  by_cases h20 : 20 < G.length
  ·rw [if_pos (.inr h20)] at e; cases e
   rw [decide_eq_true (show (20 : Int) < G.length by omega)]
   exact nc .opn _ j0
  ·have hn0 : ¬ (O.vd t = false ∨ 20 < G.length) := by
     rintro (h | h)
     ·rw [show O.vd t = vdM t from rfl, hv] at h; cases h
     ·exact h20 h
   rw [if_neg hn0] at e
   rw [decide_eq_false (show ¬ (20 : Int) < G.length by omega)]
   simp only [cond_false]
   cases hk : kS O (inS O g) G t with
   | none => rw [hk] at e; cases e
   | some s =>
    rw [hk] at e
    obtain ⟨x, c, eo, hx, h2⟩ := C3 (uj g) (by omega) (n := n) (by omega) hG (by omega) hv s hk
    rw [eo]
    simp only [evt]
    cases s with
    | ok u =>
     obtain ⟨rfl, rfl⟩ := h2
     have e : Tm.made O u = some r := e
     unfold Tm.made at e
     rw [bk (n := n) (t := of u) (by omega) (by omega)]
     simp only [evt]
     cases hu : vdM u with
     | false =>
      have eu : ah (of u) = false := hu
      rw [if_neg (by rw [show O.vd u = vdM u from rfl, hu]; simp)] at e; cases e
      rw [eu]
      exact nc .opn _ j0
     | true =>
      have eu : ah (of u) = true := hu
      have zu := ae eu
      rw [if_pos (by rw [show O.vd u = vdM u from rfl, hu])] at e; cases e
      rw [eu]
      exact ⟨of u, 0, rfl, by omega, rfl, rfl⟩
    | bad =>
     cases e
     have h2 : c = 1 := h2
     subst h2
     exact nc .bad _ j0
    | opn =>
     cases e
     have h2 : c = 2 := h2
     subst h2
     exact nc .opn _ j0
end Go.Proofs.Ytajlknlnmmbfcaa
end
section
namespace Go.Proofs.Ytajlknlnmmbfcaa
open Go Go.Ab Go.Dk
open Tm (Rs sq frm lvl chk fam made inI inS tI tS lvr ckr cc pt ps pc Wf)
theorem si {G : List Tm} {t : Tm} (w : Wf G) (hG : ∀ A ∈ G, vdM A = true) (hl : G.length ≤ 20) (hv : vdM t = true) : ∃ B, 6000500 ≤ B ∧ Iv 66 B (cx G) (of t) (some (tS O G t)) := by
 obtain ⟨N, hN⟩ := Tm.z3 bm w t
 refine ⟨6000500 + 20 * N, by omega, fun m hm r e => ?_⟩
 cases e
 exact uj N m G t hm hG (by omega) hv _ (hN N (Nat.le_refl N))
theorem AX {G : List Tm} {t : Tm} (w : Wf G) (hG : ∀ A ∈ G, vdM A = true) (hl : G.length ≤ 20) (hv : vdM t = true) : ∃ B, ∀ n, B ≤ n → RL (FF n 96 [tms (cx G), tm (of t)] []) (lvr O (tS O G t)) := by
 obtain ⟨B, hB, h⟩ := si w hG hl hv
 exact ⟨B + 2, fun n hn => gG hB (by omega) h (fun s e => Tm.EO bm w (Option.some.inj e)) _ (Tm.xT _)⟩
theorem te : ∀ (Q H : List Tm), (∀ A ∈ H, vdM A = true) → (∀ A ∈ Q, vdM A = true) → H.length + Q.length ≤ 20 → (∃ t, cc O (tS O) H = .ok t) → ∃ B, ∀ n, B ≤ n → ∀ m, Q.length < m →
   bt n m (cx H ++ Q.map of) (H.length : Nat) = some ([nt (sts (cc O (tS O) (Q.reverse ++ H)))], [])
 | [], H, vH, vQ, hl, ⟨t, ht⟩ => by
  refine ⟨0, fun n hn m hm => ?_⟩
  obtain ⟨m, rfl⟩ := af (show 0 < m by omega)
  rw [dC, decide_eq_false (show ¬ ((H.length : Nat) : Int) < ((cx H ++ ([] : List Tm).map of).length : Int) by simp [c8])]
  rw [List.reverse_nil, List.nil_append, ht]; rfl
 | A :: Q, H, vH, vQ, hl, ⟨t, ht⟩ => by
  have w := Tm.xZ bm ht
  have vA := vQ A List.mem_cons_self
  have eG : (A :: Q).reverse ++ H = Q.reverse ++ (A :: H) := by simp
  have ex : cx H ++ (A :: Q).map of = cx (A :: H) ++ Q.map of := by simp [cx]
  have hcA : cc O (tS O) (A :: H) = lvr O (tS O H A) := by rw [cc, ht]
  simp only [List.length_cons] at hl
  obtain ⟨B1, h1⟩ := AX w vH (by omega) vA
  have hget : (cx H ++ (A :: Q).map of)[H.length]? = some (of A) := by
   rw [List.getElem?_append_right (by rw [c8]; omega), c8, Nat.sub_self]; rfl
  have htk : (cx H ++ (A :: Q).map of).take H.length = cx H := by
   have := List.take_left (l₁ := cx H) (l₂ := (A :: Q).map of)
   rw [c8] at this; exact this
  have hlen : (cx H ++ (A :: Q).map of).length = H.length + (Q.length + 1) := by simp [c8]
  have step : ∀ n, B1 ≤ n → ∀ m, bt n (m + 1) (cx H ++ (A :: Q).map of) (H.length : Nat) =
     cond (!decide (sts (lvr O (tS O H A)) = 0)) (some ([nt (sts (lvr O (tS O H A)))], [])) (bt n m (cx H ++ (A :: Q).map of) ((H.length + 1 : Nat) : Int)) := by
   intro n hn m
   obtain ⟨i, eo, _⟩ := GU (h1 n hn)
   rw [dC, decide_eq_true (show ((H.length : Nat) : Int) < ((cx H ++ (A :: Q).map of).length : Int) by rw [hlen]; omega), cond_true, show Go.Ab.inB 0 ((H.length : Nat) : Int) (cx H ++ (A :: Q).map of).length = true from by rw [hlen]; simp [Go.Ab.inB]; omega, cond_true, decide_eq_true (show (0 : Int) ≤ ((H.length : Nat) : Int) by omega), cond_true, Int.toNat_natCast, hget]
   simp only [Option.bind_some]
   rw [htk, show (0 : Int).toNat = 0 from rfl, List.drop_zero]
   have eo : FF n 96 [tms (cx H), .agg [.int .i64 (of A).k, .int .i64 (of A).n, .fr (.ts (of A).kids)]] [] = _ := eo
   rw [eo]
   simp only [evt]
   rw [wrap64 (show -9223372036854775808 ≤ ((H.length : Nat) : Int) + 1 ∧ ((H.length : Nat) : Int) + 1 ≤ 9223372036854775807 by omega)]
   rfl
  cases hr : lvr O (tS O H A) with
  | ok s =>
   obtain ⟨B2, h2⟩ := te Q (A :: H) (fun C hC => by rcases List.mem_cons.1 hC with rfl | hC; exact vA; exact vH C hC) (fun C hC => vQ C (List.mem_cons_of_mem _ hC)) (by simp only [List.length_cons]; omega) ⟨s, hcA.trans hr⟩
   refine ⟨max B1 B2, fun n hn m hm => ?_⟩
   obtain ⟨m, rfl⟩ := af (show 0 < m by omega)
   simp only [List.length_cons] at hm
   have := h2 n (by omega) m (by omega)
   rw [step n (by omega), hr, eG, ex]
   simp only [sts, decide_true, Bool.not_true, cond_false]
   rw [List.length_cons] at this
   exact this
  | bad =>
   refine ⟨B1, fun n hn m hm => ?_⟩
   obtain ⟨m, rfl⟩ := af (show 0 < m by omega)
   rw [step n hn, hr, eG, sx (fun t e => by rw [hcA, hr] at e; cases e), hcA, hr]; rfl
  | opn =>
   refine ⟨B1, fun n hn m hm => ?_⟩
   obtain ⟨m, rfl⟩ := af (show 0 < m by omega)
   rw [step n hn, hr, eG, sx (fun t e => by rw [hcA, hr] at e; cases e), hcA, hr]; rfl
theorem n6 {G : List Tm} (hG : ∀ A ∈ G, vdM A = true) (hl : G.length ≤ 8) : ∃ B, ∀ n, B ≤ n → FF n 65 [tms (cx G)] [] = some ([nt (sts (cc O (tS O) G))], []) := by
 obtain ⟨B, h⟩ := te G.reverse [] (fun A hA => by cases hA) (fun A hA => hG A (List.mem_reverse.1 hA)) (by simp; omega) ⟨.nat, rfl⟩
 refine ⟨max B 4400000 + 1, fun n hn => ?_⟩
 obtain ⟨n, rfl⟩ := af (show 0 < n by omega)
 have hz : ∀ t ∈ cx G, t.size ≤ 4000000 := fun t ht => by
  obtain ⟨A, hA, rfl⟩ := List.mem_map.1 (List.mem_reverse.1 (show t ∈ (G.map of).reverse from ht))
  have := ae (hG A hA); omega
 have hl' : (cx G).length ≤ 4000000 := by rw [c8]; omega
 rw [jL, qG (by omega) hl' hz, Ey hG hl]
 simp only [evt]
 have e2 := h n (by omega) n (by rw [List.length_reverse]; omega)
 rw [List.append_nil, List.reverse_reverse] at e2
 have e3 : cx [] ++ G.reverse.map of = cx G := by rw [show cx [] = [] from rfl, List.nil_append, cx, List.map_reverse]
 rw [e3] at e2
 exact e2
theorem uo {G : List Tm} {t : Tm} (hG : ∀ A ∈ G, vdM A = true) (h8 : G.length ≤ 8) (hv : vdM t = true) : ∃ B, ∀ n, B ≤ n → FF n 43 [tms (cx G), tm (of t)] [] = some ([tm (zr (pt O (tS O) G t)), nt (sts (pt O (tS O) G t))], []) := by
 have zt := ae hv
 obtain ⟨B, hB⟩ := n6 hG h8
 have hz := Cq hG
 have hl : (cx G).length ≤ 4000000 := by rw [c8]; omega
 have ht : ah (of t) = true := hv
 have pre : ∀ n, 4500000 ≤ n → FF n 28 [tms (cx G)] [] = some ([bl true], []) ∧ FF n 29 [.agg [.int .i64 (of t).k, .int .i64 (of t).n, .fr (.ts (of t).kids)]] [] = some ([bl true], []) := fun n hn =>
  ⟨by rw [qG (by omega) hl hz, Ey hG h8], by have := bk (n := n) (t := of t) (by omega) (by omega); rw [ht] at this; exact this⟩
 unfold pt
 cases hc : cc O (tS O) G with
 | ok C =>
  have w := Tm.xZ bm hc
  obtain ⟨B', hB', h'⟩ := si w hG (by omega) hv
  refine ⟨max (max B 4500000) B' + 1, fun n hn => ?_⟩
  obtain ⟨n, rfl⟩ := af (show 0 < n by omega)
  have e1 := hB n (by omega)
  rw [hc] at e1
  rw [eU, (pre n (by omega)).1]
  simp only [evt]
  rw [(pre n (by omega)).2]
  simp only [evt]
  rw [e1]
  obtain ⟨x, eo, hxz, hx⟩ := Gw (h' n (by omega) _ rfl)
  simp only [evt, sts]
  have eo : FF n 66 [tms (cx G), .agg [.int .i64 (of t).k, .int .i64 (of t).n, .fr (.ts (of t).kids)]] [] = _ := eo
  rw [eo]
  simp only [evt]
  obtain ⟨n, rfl⟩ := af (show 0 < n by omega)
  cases hr : tS O G t with
  | ok A =>
   have vA : vdM A = true := Tm.EO bm w hr
   have zA := ae vA
   rw [hx A hr, gE]
   have := fk (of A) (n := n) (by omega) (by omega)
   simp only [tm] at this
   simp only [sts, decide_true, Bool.not_true, cond_false]
   rw [this, show zr (Rs.ok A) = of A from rfl]
   cases of A; rfl
  | bad => rw [gE]; rfl
  | opn => rw [gE]; rfl
 | bad =>
  refine ⟨max B 4500000 + 1, fun n hn => ?_⟩
  obtain ⟨n, rfl⟩ := af (show 0 < n by omega)
  have e1 := hB n (by omega)
  rw [hc] at e1
  rw [eU, (pre n (by omega)).1]
  simp only [evt]
  rw [(pre n (by omega)).2]
  simp only [evt]
  rw [e1]; rfl
 | opn =>
  refine ⟨max B 4500000 + 1, fun n hn => ?_⟩
  obtain ⟨n, rfl⟩ := af (show 0 < n by omega)
  have e1 := hB n (by omega)
  rw [hc] at e1
  rw [eU, (pre n (by omega)).1]
  simp only [evt]
  rw [(pre n (by omega)).2]
  simp only [evt]
  rw [e1]; rfl
section
variable {n : Nat} {l : List T} {t u : T}
end
end Go.Proofs.Ytajlknlnmmbfcaa
end
section
namespace Go.Proofs.Ytajlknlnmmbfcaa
open Go Go.Ab Go.Dk
def jP : Nat → T → Nat
 | 0, _ => 0
 | g + 1, t => if t.k = 3 then jP g (t.kids.getD 1 t) + 1 else 0
theorem vR {t : T} (h : ah t = true) (hk : t.k = 3) : ∃ a b, t = .mk 3 0 [a, b] ∧ ah a = true ∧ ah b = true ∧ b.size < t.size ∧ a.size < t.size := by
 obtain ⟨h1, h2, h3⟩ := iN h
 cases t with
 | mk k n ts =>
  simp only [cT, cQ, ay] at hk h1 h2 h3
  subst hk
  have h4 : ct 3 = 0 := by decide
  have h5 : opsOf 3 = 2 := by decide
  rw [h4] at h3
  rw [h5] at h1
  obtain rfl : n = 0 := by omega
  match ts, h1 with
  | [a, b], _ => exact ⟨a, b, rfl, uA h (by simp), uA h (by simp), by simp only [T.size, T.aA]; omega, by simp only [T.size, T.aA]; omega⟩
theorem tN (n : Nat) : ∀ g m (t : T) (v : Nat), g < m → t.size ≤ g → ah t = true → v + g ≤ 4000000 → dm n m v t.k t.n t.kids = some ([nt ((v + jP g t : Nat) : Int)], [])
 | 0, m, t, v, _, hz, _, _ => by have := size_pos t; omega
 | g + 1, 0, t, v, hg, _, _, _ => by omega
 | g + 1, m + 1, t, v, hg, hz, hv, hb => by
  rw [jI, jP]
  by_cases h : t.k = 3
  ·rw [decide_eq_true h, if_pos h]
   obtain ⟨a, b, rfl, ha, hb', hs, _⟩ := vR hv h
   have := tN n g m b (v + 1) (by omega) (by omega) hb' (by omega)
   have w : IntKind.i64.wrap ((v : Int) + 1) = ((v + 1 : Nat) : Int) := wrap64 (by omega)
   rw [w]
   rw [show v + (jP g ((T.mk 3 0 [a, b]).kids.getD 1 (T.mk 3 0 [a, b])) + 1) = v + 1 + jP g b from by show v + (jP g b + 1) = v + 1 + jP g b; omega, ← this]
   simp only [cond_true, ay, Int.toNat_one, List.getElem?_cons_zero, List.getElem?_cons_succ, Option.bind_some]
  ·rw [decide_eq_false h, if_neg h]; rfl
def countP (t : T) : Nat := if ah t = true then jP 400 t else 0
theorem A9 : ∀ g (t : T), jP g t ≤ g
 | 0, _ => by simp [jP]
 | g + 1, t => by
  rw [jP]; split
  ·have := A9 g (t.kids.getD 1 t); omega
  ·omega
theorem iB {n : Nat} {t : T} (hn : 8000000 ≤ n) (hz : t.size ≤ 4000000) : FF n 16 [tm t] [] = some ([nt (countP t : Nat)], []) := by
 obtain ⟨n, rfl⟩ := af (show 0 < n by omega)
 rw [oB, bB (by omega)]
 simp only [evt]
 unfold countP
 cases hv : ah t with
 | false => rfl
 | true =>
  have := tN n 400 n t 0 (by omega) (ae hv) hv (by omega)
  simp only [Nat.zero_add] at this
  simp only [Bool.not_true, cond_false, if_true]
  exact this
def Cv : Nat → T → List T → List T × T
 | 0, t, acc => (acc, t)
 | j + 1, t, acc => Cv j (t.kids.getD 1 t) (acc ++ [t.kids.getD 0 t])
def Fl (t : T) (k : Int) : (List T × T) × Bool := if (ah t && decide (0 ≤ k ∧ k ≤ 8 ∧ k ≤ (countP t : Nat))) = true then (Cv k.toNat t [], true) else (([], .mk 0 0 []), false)
theorem uB (n : Nat) (hn : 20000 ≤ n) (z1 z2 : Int) (l0 : List T) (K : Nat) (hK : K ≤ 8) : ∀ j m (t : T) (i g : Nat) (acc : List T), j < m → i + j = K → ah t = true → t.size ≤ g → j ≤ jP g t → acc.length = i →
   cz n m K i t.k t.n t.kids z1 z2 l0 acc = some ([tms (Cv j t acc).1, tm (Cv j t acc).2, bl true], [])
 | j, 0, t, i, g, acc, hj, _, _, _, _, _ => by omega
 | 0, m + 1, t, i, g, acc, hj, hi, hv, hz, hc, ha => by
  have := ae hv
  rw [eh, decide_eq_false (show ¬ (i : Int) < K by omega)]
  simp only [cond_false]
  rw [AA t (by omega) (by omega)]
  simp only [evt]
  rfl
 | j + 1, m + 1, t, i, 0, acc, hj, hi, hv, hz, hc, ha => by have := size_pos t; omega
 | j + 1, m + 1, t, i, g + 1, acc, hj, hi, hv, hz, hc, ha => by
  rw [jP] at hc
  by_cases h : t.k = 3
  ·rw [if_pos h] at hc
   obtain ⟨a, b, rfl, hva, hvb, hs, hsa⟩ := vR hv h
   have hsz := ae hv
   have hc' : j ≤ jP g b := by have : jP g ((T.mk 3 0 [a, b]).kids.getD 1 (T.mk 3 0 [a, b])) = jP g b := rfl; omega
   have nx := uB n hn z1 z2 l0 K hK j m b (i + 1) g (acc ++ [a]) (by omega) (by omega) hvb (by omega) hc' (by simp [ha])
   have w : IntKind.i64.wrap ((i : Int) + 1) = ((i + 1 : Nat) : Int) := wrap64 (by omega)
   rw [eh, decide_eq_true (show (i : Int) < K by omega), w]
   simp only [cond_true, cT, cQ, ay, Int.toNat_zero, Int.toNat_one, List.getElem?_cons_zero, List.getElem?_cons_succ, Option.bind_some]
   rw [AA a (by omega) (by omega)]
   simp only [evt]
   rw [aK (by simp; omega), cond_true, show Cv (j + 1) (T.mk 3 0 [a, b]) acc = Cv j b (acc ++ [a]) from rfl]
   exact nx
  ·rw [if_neg h] at hc; omega
theorem zU {n : Nat} {t : T} {k : Int} (hn : 8800000 ≤ n) (hz : t.size ≤ 4000000) : FF n 17 [tm t, nt k] [] = some ([tms (Fl t k).1.1, tm (Fl t k).1.2, bl (Fl t k).2], []) := by
 obtain ⟨n, rfl⟩ := af (show 0 < n by omega)
 rw [o6, bB (by omega)]
 simp only [evt]
 unfold Fl
 cases hv : ah t with
 | false => rfl
 | true =>
  simp only [Bool.not_true, cond_false, Bool.true_and, decide_eq_true_eq]
  rw [iB (by omega) hz]
  simp only [evt]
  rw [gJ (by omega)]
  simp only [evt]
  by_cases h : 0 ≤ k ∧ k ≤ 8 ∧ k ≤ (countP t : Nat)
  ·rw [if_pos h, decide_eq_true (show 0 ≤ k by omega), decide_eq_true (show k ≤ min 8 ((countP t : Nat) : Int) by omega)]
   simp only [Bool.and_self, Bool.not_true, cond_false]
   have hc : k.toNat ≤ jP 400 t := by have : countP t = jP 400 t := if_pos hv; omega
   have := uB n (by omega) 0 0 [] k.toNat (by omega) k.toNat n t 0 400 [] (by omega) (by omega) hv (ae hv) hc rfl
   rw [show ((k.toNat : Nat) : Int) = k by omega] at this
   exact this
  ·rw [if_neg h, ← Bool.decide_and, decide_eq_false (show ¬ (0 ≤ k ∧ k ≤ min 8 ((countP t : Nat) : Int)) by omega)]
   rfl
def ee (ps : List T) (t : T) : T := ps.foldr (fun a u => .mk 3 0 [a, u]) t
theorem s6 : ∀ (ps : List T) (t : T), (ee ps t).size = t.size + ps.length + T.aA ps
 | [], t => by simp [ee, T.aA]
 | a :: ps, t => by
  have := s6 ps t
  unfold ee at this ⊢
  rw [List.foldr_cons, T.size]
  simp only [T.aA, List.length_cons, this]; omega
theorem kK {ps : List T} {t : T} (ht : ah t = true) (hl : okA ps = true) : (ee ps t).size ≤ 5000 := by
 obtain ⟨h1, h2⟩ := g9 hl
 have h3 := wX (k := 400) fun t ht => ae (h2 t ht)
 have h4 : ps.length * 400 ≤ 8 * 400 := Nat.mul_le_mul_right 400 h1
 rw [s6]
 have := ae ht
 omega
def eg (ps : List T) (t : T) : T × Bool := if (okA ps && ah t) = true then (okT (ee ps t), ah (ee ps t)) else (.mk 0 0 [], false)
theorem ui (n : Nat) (hn : 20000 ≤ n) (ps : List T) (hl : ps.length ≤ 8) (z1 z2 : Int) (l0 : List T) (w : T) (hw : w.size ≤ 10000) : ∀ (i m : Nat) (u : T), i < m → i ≤ ps.length → ee (ps.take i) u = w →
   cD n m 3 ps ((i : Int) - 1) z1 z2 l0 u.k u.n u.kids = some ([tm (okT w), bl (ah w)], [])
 | i, 0, u, hm, _, _ => by omega
 | 0, m + 1, u, hm, hi, he => by
  have he : u = w := he
  subst he
  have ho := cX (n := n) (t := u) (by omega) (by omega)
  rw [cw, decide_eq_false (show ¬ (0 : Int) ≤ ((0 : Nat) : Int) - 1 by omega)]
  simp only [cond_false]
  rw [ho.1]
  simp only [evt]
  rw [ho.2]
  simp only [evt]
 | i + 1, m + 1, u, hm, hi, he => by
  have hlt : i < ps.length := by omega
  have hx : ps.take (i + 1) = ps.take i ++ [ps[i]] := by rw [List.take_append_getElem hlt]
  have nx := ui n hn ps hl z1 z2 l0 w hw i m (.mk 3 0 [ps[i], u]) (by omega) (by omega) (by rw [← he, hx]; unfold ee; rw [List.foldr_append]; rfl)
  have w : IntKind.i64.wrap ((i : Int) - 1) = (i : Int) - 1 := wrap64 (by omega)
  rw [show (((i + 1 : Nat) : Int) - 1) = (i : Int) by omega, cw, decide_eq_true (show 0 ≤ (i : Int) by omega), Int.toNat_natCast, List.getElem?_eq_getElem hlt, w]
  simp only [cond_true, Option.bind_some, T.eta]
  rw [g7 (show 1 ≤ n by omega)]
  simp only [evt]
  exact nx
theorem qX {n : Nat} {ps : List T} {t : T} (hn : 4800000 ≤ n) (ht : t.size ≤ 4000000) (hl : ps.length ≤ 4000000) (hz : ∀ u ∈ ps, u.size ≤ 4000000) : FF n 12 [tms ps, tm t] [] = some ([tm (eg ps t).1, bl (eg ps t).2], []) := by
 obtain ⟨n, rfl⟩ : ∃ m, n = m + 2 := ⟨n - 2, by omega⟩
 rw [rh, og, pV (by omega) hl hz]
 simp only [evt]
 unfold eg
 cases ho : okA ps with
 | false => rfl
 | true =>
  simp only [Bool.not_true, cond_false]
  rw [bB (by omega)]
  simp only [evt]
  cases hv : ah t with
  | false => rfl
  | true =>
   simp only [Bool.not_true, cond_false, Bool.and_self, if_true]
   have h8 := (g9 ho).1
   have := ui n (by omega) ps h8 0 0 [] (ee ps t) (by have := kK hv ho; omega) ps.length n t (by omega) (by omega) (by rw [List.take_length])
   rw [wrap64 (show -9223372036854775808 ≤ (ps.length : Int) - 1 ∧ (ps.length : Int) - 1 ≤ 9223372036854775807 by omega), this]
   simp only [evt]
theorem pe (n : Nat) (hn : 20000 ≤ n) (ps : List T) (hl : ps.length ≤ 8) (hz : ∀ t ∈ ps, t.size ≤ 400) (z1 z2 : Int) (l0 : List T) (w : T) : ∀ (i m : Nat) (u : T), i < m → i ≤ ps.length → ee (ps.take i) u = w →
   cJ n m 3 ps ((i : Int) - 1) z1 z2 l0 u.k u.n u.kids = some ([tm w], []) ∧ dT n m 3 ps ((i : Int) - 1) z1 z2 l0 u.k u.n u.kids = some ([tm w], [])
 | i, 0, u, hm, _, _ => by omega
 | 0, m + 1, u, hm, hi, he => by
  have he : u = w := he
  subst he
  rw [eQ, eN, decide_eq_false (show ¬ (0 : Int) ≤ ((0 : Nat) : Int) - 1 by omega)]
  exact ⟨rfl, rfl⟩
 | i + 1, m + 1, u, hm, hi, he => by
  have hlt : i < ps.length := by omega
  have hx : ps.take (i + 1) = ps.take i ++ [ps[i]] := by rw [List.take_append_getElem hlt]
  have nx := (pe n hn ps hl hz z1 z2 l0 w i m (.mk 3 0 [ps[i], u]) (by omega) (by omega) (by rw [← he, hx]; unfold ee; rw [List.foldr_append]; rfl)).1
  have w : IntKind.i64.wrap ((i : Int) - 1) = (i : Int) - 1 := wrap64 (by omega)
  have hsz := hz _ (List.getElem_mem hlt)
  rw [show (((i + 1 : Nat) : Int) - 1) = (i : Int) by omega, eQ, eN, decide_eq_true (show 0 ≤ (i : Int) by omega), Int.toNat_natCast, List.getElem?_eq_getElem hlt, w]
  simp only [cond_true, Option.bind_some]
  rw [fk ps[i] (by omega) (by omega)]
  simp only [evt]
  rw [bA (show 1 ≤ n by omega) _ _ (by simp)]
  simp only [evt]
  exact ⟨nx, nx⟩
theorem tk {n : Nat} {ps : List T} {t : T} (hn : 4800000 ≤ n) (ht : t.size ≤ 4000000) (hl : ps.length ≤ 4000000) (hz : ∀ u ∈ ps, u.size ≤ 4000000) : FF n 13 [tms ps, tm t] [] = some ([tm (eg ps t).1, bl (eg ps t).2], []) := by
 obtain ⟨n, rfl⟩ : ∃ m, n = m + 2 := ⟨n - 2, by omega⟩
 rw [qZ, qG (by omega) hl hz]
 simp only [evt]
 unfold eg
 cases ho : okA ps with
 | false => rfl
 | true =>
  simp only [Bool.not_true, cond_false]
  rw [bk (by omega) (by omega)]
  simp only [evt]
  cases hv : ah t with
  | false => rfl
  | true =>
   simp only [Bool.not_true, cond_false, Bool.and_self, if_true]
   obtain ⟨h8, h9⟩ := g9 ho
   have hb := kK hv ho
   have := (pe n (by omega) ps h8 (fun u hu => ae (h9 u hu)) 0 0 [] (ee ps t) ps.length n t (by omega) (by omega) (by rw [List.take_length])).2
   have hl7 : FF (n + 1) 31 [nt 3, tms ps, tm t] [] = some ([tm (ee ps t)], []) := by
    rw [rO, fk t (by omega) (by omega)]
    simp only [evt]
    rw [wrap64 (show -9223372036854775808 ≤ (ps.length : Int) - 1 ∧ (ps.length : Int) - 1 ≤ 9223372036854775807 by omega)]
    exact this
   rw [hl7]
   simp only [evt]
   rw [CY (by omega) (by omega)]
   simp only [evt]
   rfl
end Go.Proofs.Ytajlknlnmmbfcaa
end
section
namespace Go.Proofs.Ytajlknlnmmbfcaa
open Go Go.Ab Go.Dk
def nQ (r : OR) : Bool := match r with | some (_ :: .one (.bool b) :: _, _) => b | _ => false
set_option maxRecDepth 100000 in
theorem Hg (n : Nat) : nQ (FF (n + 200) 95 [st (bytesOf [35, 48])] []) = true := by kernel_rfl
set_option maxRecDepth 100000 in
theorem Hc (n : Nat) : nQ (FF (n + 200) 95 [st (bytesOf [33, 35, 49])] []) = true := by kernel_rfl
set_option maxRecDepth 100000 in
theorem FI (n : Nat) : nQ (FF (n + 200) 95 [st (bytesOf [40, 78, 62, 42, 48, 41])] []) = true := by kernel_rfl
set_option maxRecDepth 100000 in
theorem He (n : Nat) : nQ (FF (n + 200) 95 [st (bytesOf [40, 35, 48, 32, 48, 41])] []) = true := by kernel_rfl
end Go.Proofs.Ytajlknlnmmbfcaa
end
section
namespace Go.Proofs.Ytajlknlnmmbfcaa
open Go Go.Ab Go.Dk
def szN : Nat → Nat
 | 0 => 1
 | k + 1 => 8 + 3 * szN k
def rdN : Nat → Int
 | 0 => 2
 | k + 1 => 2 + 3 * rdN k
theorem Es : ∀ k, 1 ≤ szN k
 | 0 => by simp [szN]
 | k + 1 => by simp only [szN]; omega
theorem zR : ∀ k, 2 ≤ rdN k
 | 0 => by simp [rdN]
 | k + 1 => by have := zR k; simp only [rdN]; omega
theorem Cp {n : Nat} (hn : 1 ≤ n) (k : Int) (l : List T) (hl : l.length ≤ 1099511627776) : Tot (FF n 45 [nt k, tms l] []) (fun r => r = ([tm (.mk k 0 l)], [])) := ⟨_, bA hn k l hl, rfl⟩
theorem Aa : ∀ (k : Nat) {n : Nat} {l : List UInt8} {p m v d : Int}, 20 * k + 20 ≤ n → (0 ≤ v ∧ v + 2 * k ≤ 1000) → (-10 ≤ d ∧ d ≤ k) → gM l p m → m + rdN k ≤ 1000000000 → Tot (FF n 62 [.one (.ptr 0 0), nt v, nt d] [rdr l p]) (fq (szN k) l (m + rdN k))
 | 0, n, l, p, m, v, d, hn, hv, hd, hr, hm => by
  refine a7 (C := 19) (by omega) fun n hn e => ?_
  rw [lx]
  simp only [bo (show 1 ≤ n by omega), evt]
  rw [decide_eq_true (show d < 1 by omega), cond_true]
  simp only [szN, rdN] at hm ⊢
  repeat' (first | (simp (disch := omega) only [wrap64]; done) | (simp (disch := omega) only [wrap64]) | (with_reducible refine az (fun hq => ?_) (fun hq => ?_) <;> (try simp (disch := omega) only [wrap64] at hq) <;> (try simp only [decide_eq_true_eq, decide_eq_false_iff_not, Bool.not_eq_true', Bool.not_eq_false', Bool.and_eq_true, Bool.and_eq_false_iff, inB, Bool.not_true, Bool.not_false] at hq) <;> try (exfalso; omega; done)) | (with_reducible refine ak (fP (by omega) hr (by omega) (by omega)) ?_; rintro _ ⟨w, p, rfl, hw, hw2, hr⟩; simp only [evt]) | (with_reducible refine ak (t_l1Leaf (by omega) _ _) ?_; rintro _ rfl; simp only [evt]) | ((with_reducible refine ar ?_); (exact ⟨.mk 7 0 [], _, rfl, by simp [T.size, T.aA], hr.mono (by omega)⟩)) | ((with_reducible refine ar ?_); (exact ⟨.mk 1 _ [], _, rfl, by simp [T.size, T.aA], hr.mono (by omega)⟩)))
 | k + 1, n, l, p, m, v, d, hn, hv, hd, hr, hm => by
  refine a7 (C := 20 * k + 39) (by omega) fun n hn e => ?_
  have ih := @Aa k n l
  have s1 := Es k
  have s2 := zR k
  rw [lx]
  simp only [bo (show 1 ≤ n by omega), evt]
  simp only [szN, rdN] at hm ⊢
  repeat' (first | (simp (disch := omega) only [wrap64]; done) | (simp (disch := omega) only [wrap64]) | (with_reducible refine az (fun hq => ?_) (fun hq => ?_) <;> (try simp (disch := omega) only [wrap64] at hq) <;> (try simp only [decide_eq_true_eq, decide_eq_false_iff_not, Bool.not_eq_true', Bool.not_eq_false', Bool.and_eq_true, Bool.and_eq_false_iff, inB, Bool.not_true, Bool.not_false] at hq) <;> try (exfalso; omega; done)) | (with_reducible refine ak (fP (by omega) hr (by omega) (by omega)) ?_; rintro _ ⟨w, p, rfl, hw, hw2, hr⟩; simp only [evt]) | (with_reducible refine ak (kC (by omega) hr (by omega) (by simp) (by simp)) ?_; rintro _ ⟨w, p, rfl, hw, hr⟩; simp only [evt]) | (with_reducible refine ak (t_l1Leaf (by omega) _ _) ?_; rintro _ rfl; simp only [evt]) | (with_reducible refine ak (Cp (by omega) _ _ (by simp)) ?_; rintro _ rfl; simp only [evt]) | (with_reducible refine ak (ih (by omega) (by omega) (by omega) hr (by omega)) ?_; rintro _ ⟨t, p, rfl, hz, hr⟩; simp only [evt]) | ((with_reducible refine ar ?_); (exact ⟨.mk 7 0 [], _, rfl, by simp only [T.size, T.aA]; omega, hr.mono (by omega)⟩)) | ((with_reducible refine ar ?_); (exact ⟨.mk 1 _ [], _, rfl, by simp only [T.size, T.aA]; omega, hr.mono (by omega)⟩)) | ((with_reducible refine ar ?_); (exact ⟨.mk 5 0 [.mk 4 0 [.mk 6 0 [], _], _], _, rfl, by simp only [T.size, T.aA]; omega, hr.mono (by omega)⟩)) | ((with_reducible refine ar ?_); (exact ⟨.mk 9 0 [.mk 4 0 [.mk 6 0 [], .mk 6 0 []], _, .mk 4 0 [.mk 6 0 [], .mk 4 0 [.mk 6 0 [], _]], _], _, rfl, by simp only [T.size, T.aA]; omega, hr.mono (by omega)⟩)) | ((with_reducible refine ar ?_); (exact ⟨.mk _ 0 [.mk 14 0 [.mk 13 0 [.mk 6 0 [], .mk 6 0 []], _, _]], _, rfl, by simp only [T.size, T.aA]; omega, hr.mono (by omega)⟩)) | ((with_reducible refine ar ?_); (exact ⟨.mk 12 0 [.mk 4 0 [.mk 6 0 [], .mk 6 0 []], .mk 11 0 [_], _], _, rfl, by simp only [T.size, T.aA]; omega, hr.mono (by omega)⟩)) | ((with_reducible refine ar ?_); (exact ⟨.mk 8 0 [_], _, rfl, by simp only [T.size, T.aA]; omega, hr.mono (by omega)⟩)) | ((with_reducible refine ar ?_); (exact ⟨_, _, rfl, by omega, hr.mono (by omega)⟩)))
theorem nu (n : Nat) (hn : 7000 ≤ n) (ss : List ByteArray) (hs : ∀ s ∈ ss, s.size ≤ 300) (hl : ss.length ≤ 1000) : ∀ (g c i : Nat) (acc : List T), g < c → i + g = ss.length → acc.length ≤ i → (∀ t ∈ acc, ah t = true) →
   Tot (cN n c ss i acc) (fun r => ∃ ts, r = ([tms ts], []) ∧ (∀ t ∈ ts, ah t = true) ∧ ts.length ≤ ss.length ∧ acc.length ≤ ts.length ∧ ((∃ s ∈ ss.drop i, ∀ k, nQ (FF (k + 200) 95 [st s] []) = true) → ts ≠ []))
 | g, 0, i, acc, hg, _, _, _ => by omega
 | 0, c + 1, i, acc, _, hi, ha, hz => by
  rw [fT, decide_eq_false (show ¬ (i : Int) < ss.length by omega), List.drop_of_length_le (by omega)]
  exact ⟨_, rfl, acc, rfl, hz, by omega, Nat.le_refl _, fun ⟨s, h, _⟩ => by cases h⟩
 | g + 1, c + 1, i, acc, hg, hi, ha, hz => by
  have hlt : i < ss.length := by omega
  have hsz := hs _ (List.getElem_mem hlt)
  rw [fT, decide_eq_true (show (i : Int) < ss.length by omega), decide_eq_true (show 0 ≤ (i : Int) by omega), Int.toNat_natCast, List.getElem?_eq_getElem hlt]
  simp only [cond_true, Option.bind_some]
  obtain ⟨r, e, t, b, rfl, hb1, hb2⟩ := we (n := n) (s := ss[i]) (by omega) (by omega)
  have w : IntKind.i64.wrap ((i : Int) + 1) = ((i + 1 : Nat) : Int) := wrap64 (by omega)
  rw [e, w]
  simp only [evt]
  rw [List.drop_eq_getElem_cons hlt]
  cases b with
  | true =>
   simp only [cond_true]
   rw [aK (by simp; omega), cond_true]
   refine du (nu n hn ss hs hl g c (i + 1) (acc ++ [t]) (by omega) (by omega) (by simp; omega) (fun u hu => ?_)) ?_
   ·rcases List.mem_append.1 hu with h | h
    ·exact hz u h
    ·rw [List.mem_singleton.1 h]; exact hb1 rfl
   ·rintro _ ⟨ts, rfl, h1, h2, h3, h4⟩
    simp only [List.length_append, List.length_cons, List.length_nil] at h3
    exact ⟨ts, rfl, h1, h2, by omega, fun _ h => by rw [h] at h3; simp at h3⟩
  | false =>
   simp only [cond_false]
   refine du (nu n hn ss hs hl g c (i + 1) acc (by omega) (by omega) (by omega) hz) ?_
   rintro _ ⟨ts, rfl, h1, h2, h3, h4⟩
   refine ⟨ts, rfl, h1, h2, h3, fun ⟨s, hs', hr⟩ => ?_⟩
   rcases List.mem_cons.1 hs' with rfl | h
   ·have := hr (n - 200)
    rw [show n - 200 + 200 = n by omega, e] at this
    cases this
   ·exact h4 ⟨s, h, hr⟩
theorem mL {n : Nat} (hn : 7100 ≤ n) (ss : List ByteArray) (hs : ∀ s ∈ ss, s.size ≤ 300) (hl : ss.length ≤ 1000) :
   Tot (FF n 64 [.one (.fr (.ss ss))] []) (fun r => ∃ ts, r = ([tms ts], []) ∧ (∀ t ∈ ts, ah t = true) ∧ ts.length ≤ ss.length ∧ ((∃ s ∈ ss, ∀ k, nQ (FF (k + 200) 95 [st s] []) = true) → ts ≠ [])) := by
 refine a7 (C := 7099) (by omega) fun n hn e => ?_
 rw [q8]
 refine du (nu n (by omega) ss hs hl ss.length n 0 [] (by omega) (by omega) (by simp) (by simp)) ?_
 rintro _ ⟨ts, rfl, h1, h2, h3, h4⟩
 exact ⟨ts, rfl, h1, h2, by simpa using h4⟩
theorem sN {n : Nat} (hn : 1 ≤ n) (v : Int) : Tot (FF n 63 [nt v] []) (fun r => ∃ a b, r = ([.one (.fr (.ss a)), .one (.fr (.ss b))], []) ∧ (∀ s ∈ a, s.size ≤ 300) ∧ (∀ s ∈ b, s.size ≤ 300) ∧ a.length ≤ 6 ∧ b.length ≤ 100 ∧ ∃ s ∈ b, ∀ k, nQ (FF (k + 200) 95 [st s] []) = true) := by
 refine a7 (C := 0) (by omega) fun n hn e => ?_
 rw [oV]
 refine az (fun _ => ⟨_, rfl, _, _, rfl, eM _ (by decide +kernel), eM _ (by decide +kernel), by simp, by simp, _, ?_, FI⟩) (fun _ => ?_)
 ·simp
 refine az (fun _ => ⟨_, rfl, _, _, rfl, eM _ (by decide +kernel), eM _ (by decide +kernel), by simp, by simp, _, ?_, Hc⟩) (fun _ => ?_)
 ·simp
 refine az (fun _ => ⟨_, rfl, _, _, rfl, eM _ (by decide +kernel), eM _ (by decide +kernel), by simp, by simp, _, ?_, Hg⟩) (fun _ => ⟨_, rfl, _, _, rfl, eM _ (by decide +kernel), eM _ (by decide +kernel), by simp, by simp, _, ?_, He⟩)
 ·simp
 ·simp
abbrev F1 (l : List UInt8) (m : Int) (r : List V1 × List aq) : Prop := ∃ (g : List T) (t : T) (p : Int), r = ([tms g, tm t], [rdr l p]) ∧ ah t = true ∧ (∀ u ∈ g, ah u = true) ∧ g.length ≤ 6 ∧ gM l p m
theorem qd (n : Nat) (hn : 20000 ≤ n) (l : List UInt8) (z1 z2 : Int) (l0 : List T) (v : Nat) (hv : v ≤ 2) : ∀ (g c i : Nat) (p m : Int) (acc : List T), g < c → i + g = v → gM l p m → m ≤ 1000 → acc.length = i → (∀ u ∈ acc, ah u = true) →
   Tot (cK n c v i l p z1 z2 l0 acc) (F1 l 1000000)
 | g, 0, i, p, m, acc, hg, _, _, _, _, _ => by omega
 | 0, c + 1, i, p, m, acc, _, hi, hr, hm, ha, hz => by
  rw [eR, decide_eq_false (show ¬ (i : Int) < v by omega), cond_false]
  refine ak (kC (by omega) hr (by omega) (by simp) (by simp)) ?_
  rintro _ ⟨w, p, rfl, hw, hr⟩
  simp only [evt]
  have hw4 : 0 ≤ w ∧ w ≤ 4 := by
   simp only [List.mem_cons, List.not_mem_nil, or_false] at hw
   omega
  have e0 : szN 4 = 401 := by decide
  have e1 : rdN 4 = 242 := by decide
  refine ak (Aa 4 (by omega) (by omega) (by omega) hr (by omega)) ?_
  rintro _ ⟨t, p, rfl, hz2, hr⟩
  simp only [evt]
  rw [bk (show t.size + 6 ≤ n by omega) (by omega)]
  simp only [evt]
  refine az (fun hq => ar ⟨acc, t, p, rfl, hq, hz, by omega, hr.mono (by omega)⟩) (fun _ => ?_)
  refine ak (fP (by omega) hr (by omega) (by omega)) ?_
  rintro _ ⟨w, p, rfl, hw, hw2, hr⟩
  simp only [evt]
  refine ak (sN (by omega) w) ?_
  rintro _ ⟨a, b, rfl, ha1, hb1, ha2, hb2, hx⟩
  simp only [evt]
  refine ak (mL (by omega) b hb1 (by omega)) ?_
  rintro _ ⟨ts, rfl, ht1, ht2, ht3⟩
  simp only [evt]
  refine ak (mL (by omega) a ha1 (by omega)) ?_
  rintro _ ⟨gs, rfl, hg1, hg2, hg3⟩
  simp only [evt]
  have hpos := List.length_pos_iff.2 (ht3 hx)
  refine ak (fP (by omega) hr (by omega) (by omega)) ?_
  rintro _ ⟨w, p, rfl, hw, hw2, hr⟩
  have hw2 := hw2 (by omega)
  have hlt : w.toNat < ts.length := by omega
  simp only [evt]
  rw [decide_eq_true hw, cond_true, List.getElem?_eq_getElem hlt]
  exact ar ⟨gs, ts[w.toNat], p, rfl, ht1 _ (List.getElem_mem hlt), hg1, by omega, hr.mono (by omega)⟩
 | g + 1, c + 1, i, p, m, acc, hg, hi, hr, hm, ha, hz => by
  rw [eR, decide_eq_true (show (i : Int) < v by omega), cond_true, bo (show 1 ≤ n by omega)]
  simp only [evt]
  have w : IntKind.i64.wrap ((i : Int) + 1) = ((i + 1 : Nat) : Int) := wrap64 (by omega)
  rw [aK (by simp; omega), cond_true, w]
  have six : ah (.mk 6 0 []) = true := by decide +kernel
  have nx := qd n hn l z1 z2 l0 v hv g c (i + 1) p m (acc ++ [.mk 6 0 []]) (by omega) (by omega) hr hm (by simp; omega) (by
   intro u hu
   rcases List.mem_append.1 hu with h | h
   ·exact hz u h
   ·rw [List.mem_singleton.1 h]; exact six)
  with_reducible exact nx
theorem CJ {n : Nat} (hn : 20001 ≤ n) {l : List UInt8} {p m : Int} (hr : gM l p m) (hm : m ≤ 100) : Tot (FF n 42 [.one (.ptr 0 0)] [rdr l p]) (F1 l 1000000) := by
 refine a7 (C := 20000) (by omega) fun n hn e => ?_
 rw [rD]
 refine ak (fP (by omega) hr (by omega) (by omega)) ?_
 rintro _ ⟨w, p, rfl, hw, hw2, hr⟩
 simp only [evt]
 refine az (fun _ => ?_) (fun _ => ?_)
 ·refine ak (kC (by omega) hr (by omega) (by simp) (by simp)) ?_
  rintro _ ⟨w, p, rfl, hw, hr⟩
  simp only [evt]
  obtain ⟨v, rfl, hv⟩ : ∃ v : Nat, w = v ∧ v ≤ 2 := by
   simp only [List.mem_cons, List.not_mem_nil, or_false] at hw
   exact ⟨w.toNat, by omega, by omega⟩
  exact qd n hn l 0 0 [] v hv v n 0 p _ [] (by omega) (by omega) hr (by omega) rfl (by simp)
 ·refine ak (fP (by omega) hr (by omega) (by omega)) ?_
  rintro _ ⟨w, p, rfl, hw, hw2, hr⟩
  simp only [evt]
  refine ak (sN (by omega) w) ?_
  rintro _ ⟨a, b, rfl, ha1, hb1, ha2, hb2, hx⟩
  simp only [evt]
  refine ak (mL (by omega) b hb1 (by omega)) ?_
  rintro _ ⟨ts, rfl, ht1, ht2, ht3⟩
  simp only [evt]
  refine ak (mL (by omega) a ha1 (by omega)) ?_
  rintro _ ⟨gs, rfl, hg1, hg2, hg3⟩
  simp only [evt]
  have hpos := List.length_pos_iff.2 (ht3 hx)
  refine ak (fP (by omega) hr (by omega) (by omega)) ?_
  rintro _ ⟨w, p, rfl, hw, hw2, hr⟩
  have hw2 := hw2 (by omega)
  have hlt : w.toNat < ts.length := by omega
  simp only [evt]
  rw [decide_eq_true hw, cond_true, List.getElem?_eq_getElem hlt]
  exact ar ⟨gs, ts[w.toNat], p, rfl, ht1 _ (List.getElem_mem hlt), hg1, by omega, hr.mono (by omega)⟩
end Go.Proofs.Ytajlknlnmmbfcaa
end
section
namespace Go.Proofs.Ytajlknlnmmbfcaa
open Go Go.Ab Go.Dk
abbrev CF (l : List UInt8) (m : Int) (r : List V1 × List aq) : Prop := ∃ (g : List T) (t : T) (p : Int), r = ([tms g, tm t], [rdr l p]) ∧ t.size ≤ 1000 ∧ (∀ u ∈ g, ah u = true) ∧ g.length ≤ 10 ∧ gM l p m
theorem Gm : ah (.mk 6 0 []) = true := by decide +kernel
theorem wK (n : Nat) (hn : 20000 ≤ n) (l : List UInt8) (t : T) (ht : t.size ≤ 400) (z1 z2 : Int) (l0 : List T) : ∀ (g c : Nat) (p m : Int) (acc : List T), g < c → acc.length + g = 9 → gM l p m → m ≤ 300000000000 → (∀ u ∈ acc, ah u = true) →
   Tot (b6 n c l p t.k t.n t.kids z1 z2 l0 acc) (CF l (m + 1000))
 | g, 0, p, m, acc, hg, _, _, _, _ => by omega
 | 0, c + 1, p, m, acc, _, ha, hr, hm, hz => by
  rw [dB, decide_eq_false (show ¬ ((acc.length : Nat) : Int) ≤ 8 by omega), cond_false]
  refine ak (lb (t := t) (by omega) (by omega) hr (by omega)) ?_
  rintro _ ⟨y, p, rfl, hy, hr⟩
  simp only [evt]
  exact ar ⟨acc, y, p, rfl, by omega, hz, by omega, hr.mono (by omega)⟩
 | g + 1, c + 1, p, m, acc, hg, ha, hr, hm, hz => by
  rw [dB, decide_eq_true (show ((acc.length : Nat) : Int) ≤ 8 by omega), cond_true, bo (show 1 ≤ n by omega)]
  simp only [evt]
  rw [aK (by simp; omega), cond_true]
  have nx := wK n hn l t ht z1 z2 l0 g c p m (acc ++ [.mk 6 0 []]) (by omega) (by simp; omega) hr hm (by
   intro u hu
   rcases List.mem_append.1 hu with h | h
   ·exact hz u h
   ·rw [List.mem_singleton.1 h]; exact Gm)
  with_reducible exact nx
theorem xD (n : Nat) (hn : 20000 ≤ n) (l : List UInt8) (t : T) (ht : t.size ≤ 400) (z1 z2 : Int) (l0 : List T) (v0 : List T) (hv : ∀ u ∈ v0, ah u = true) (hl : v0.length ≤ 9) : ∀ (g c i : Nat) (p m : Int), g < c → i + g = v0.length → gM l p m → m ≤ 200000000000 →
   Tot (b7 n c v0 i l p t.k t.n t.kids z1 z2 l0 (v0.take i)) (CF l (m + 3000))
 | g, 0, i, p, m, hg, _, _, _ => by omega
 | 0, c + 1, i, p, m, _, hi, hr, hm => by
  rw [dD, decide_eq_false (show ¬ (i : Int) < v0.length by omega), cond_false, List.take_of_length_le (show v0.length ≤ i by omega)]
  refine ak (fP (by omega) hr (by omega) (by omega)) ?_
  rintro _ ⟨w, p, rfl, hw, hw2, hr⟩
  simp only [evt]
  have hsz := T.size_eq t
  have hmut : ∀ {p m : Int} {g : List T}, gM l p m → m ≤ 300000000000 → g.length ≤ 10 → (∀ u ∈ g, ah u = true) → Tot ((FF n 48 [.one (.ptr 0 0), tm t] [rdr l p]).bind fun x9 => aP x9.2 fun x10 x11 => bsC x10 fun x12 x13 => aS .i64 x13 fun x14 x15 => aQ x15 (ag x9.1 fun x16 x17 => ai x17 (aj x11 (some ([.one (.fr (.ts g)), .agg [.int .i64 x16.k, .int .i64 x16.n, .fr (.ts x16.kids)]], [.cells [.fr (.bs x12), .int .i64 x14]]))))) (CF l (m + 2)) := by
   intro p m g hr hm hg hgv
   refine ak (lb (t := t) (by omega) (by omega) hr (by omega)) ?_
   rintro _ ⟨y, p, rfl, hy, hr⟩
   simp only [evt]
   exact ar ⟨g, y, p, rfl, by omega, hgv, hg, hr⟩
  refine az (fun _ => ?_) (fun _ => ?_)
  ·refine az (fun h0 => ?_) (fun _ => ?_)
   ·have h0 : (0 : Int) < v0.length := by simpa using h0
    rw [show Go.Ab.inB 1 (v0.length : Int) v0.length = true from by simp [Go.Ab.inB]; omega, cond_true, Int.toNat_natCast, List.take_length, show (1 : Int).toNat = 1 from rfl]
    refine du (hmut hr (by omega) (by simp; omega) (fun u hu => hv u (List.mem_of_mem_drop hu))) ?_
    rintro _ ⟨g, y, p, rfl, h1, h2, h3, h4⟩
    exact ⟨g, y, p, rfl, h1, h2, h3, h4.mono (by omega)⟩
   ·refine du (hmut hr (by omega) (by omega) hv) ?_
    rintro _ ⟨g, y, p, rfl, h1, h2, h3, h4⟩
    exact ⟨g, y, p, rfl, h1, h2, h3, h4.mono (by omega)⟩
  refine az (fun _ => ?_) (fun _ => ?_)
  ·refine ak (mN (by omega) hr (by omega)) ?_
   rintro _ ⟨x, p, rfl, hxv, hr⟩
   simp only [evt]
   rw [aK (by simp; omega), cond_true]
   refine du (hmut hr (by omega) (g := v0 ++ [x]) (by simp; omega) (fun u hu => ?_)) ?_
   ·rcases List.mem_append.1 hu with h | h
    ·exact hv u h
    ·rw [List.mem_singleton.1 h]; exact hxv
   rintro _ ⟨g, y, p, rfl, h1, h2, h3, h4⟩
   exact ⟨g, y, p, rfl, h1, h2, h3, h4.mono (by omega)⟩
  refine az (fun _ => ?_) (fun _ => ?_)
  ·have := wK n hn l t ht z1 z2 l0 (9 - v0.length) n _ _ v0 (by omega) (by omega) hr (by omega) hv
   refine du this ?_
   rintro _ ⟨g, y, p, rfl, h1, h2, h3, h4⟩
   exact ⟨g, y, p, rfl, h1, h2, h3, h4.mono (by omega)⟩
  refine az (fun _ => ?_) (fun _ => ?_)
  ·refine ak (mN (by omega) hr (by omega)) ?_
   rintro _ ⟨x, p, rfl, hxv, hr⟩
   simp only [evt]
   have := ae hxv
   exact ar ⟨v0, x, p, rfl, by omega, hv, by omega, hr.mono (by omega)⟩
  refine az (fun _ => ?_) (fun _ => ?_)
  ·refine az (fun h0 => ?_) (fun _ => ?_)
   ·have h0 : (0 : Int) < t.kids.length := by simpa using h0
    refine ak (fP (by omega) hr (by omega) (by have := T.bw t.kids; omega)) ?_
    rintro _ ⟨w, p, rfl, hw, hw2, hr⟩
    simp only [evt]
    refine ak (mN (by omega) hr (by omega)) ?_
    rintro _ ⟨x, p, rfl, hxv, hr⟩
    simp only [evt]
    have hx := ae hxv
    obtain ⟨j, rfl⟩ : ∃ j : Nat, w = j := ⟨w.toNat, by omega⟩
    have hs := qH (n := n) (t := t) (u := x) (j := j) (by omega) (by omega)
    simp only [tm] at hs
    rw [hs]
    simp only [evt]
    have hsz2 : T.aA (t.kids.set j x) ≤ T.aA t.kids + x.size := by
     have : ∀ (ks : List T) (j : Nat), T.aA (ks.set j x) ≤ T.aA ks + x.size := by
      intro ks
      induction ks with
      | nil => intro j; simp [T.aA]
      | cons y ks ih =>
       intro j
       cases j with
       | zero => simp only [List.set_cons_zero, T.aA]; omega
       | succ j => have := ih j; simp only [List.set_cons_succ, T.aA]; omega
     exact this _ _
    exact ar ⟨v0, .mk t.k t.n (t.kids.set j x), p, rfl, by simp only [T.size]; omega, hv, by omega, hr.mono (by omega)⟩
   ·refine du (hmut hr (by omega) (by omega) hv) ?_
    rintro _ ⟨g, y, p, rfl, h1, h2, h3, h4⟩
    exact ⟨g, y, p, rfl, h1, h2, h3, h4.mono (by omega)⟩
  ·refine du (hmut hr (by omega) (by omega) hv) ?_
   rintro _ ⟨g, y, p, rfl, h1, h2, h3, h4⟩
   exact ⟨g, y, p, rfl, h1, h2, h3, h4.mono (by omega)⟩
 | g + 1, c + 1, i, p, m, hg, hi, hr, hm => by
  have hlt : i < v0.length := by omega
  have hsz := ae (hv _ (List.getElem_mem hlt))
  have w : IntKind.i64.wrap ((i : Int) + 1) = ((i + 1 : Nat) : Int) := wrap64 (by omega)
  rw [dD, decide_eq_true (show (i : Int) < v0.length by omega), cond_true, decide_eq_true (show 0 ≤ (i : Int) by omega), cond_true, Int.toNat_natCast, List.getElem?_eq_getElem hlt, w]
  simp only [Option.bind_some]
  rw [fk v0[i] (by omega) (by omega)]
  simp only [evt]
  rw [aK (by simp; omega), cond_true]
  have nx := xD n hn l t ht z1 z2 l0 v0 hv hl g c (i + 1) p m (by omega) (by omega) hr hm
  rw [← List.take_append_getElem hlt] at nx
  exact nx
theorem yK {n : Nat} (hn : 20001 ≤ n) {g : List T} {t : T} (ht : ah t = true) (hg : ∀ u ∈ g, ah u = true) (hl : g.length ≤ 9) {l : List UInt8} {p m : Int} (hr : gM l p m) (hm : m ≤ 200000000000) : Tot (FF n 47 [.one (.ptr 0 0), tms g, tm t] [rdr l p]) (CF l (m + 3000)) := by
 refine a7 (C := 20000) (by omega) fun n hn e => ?_
 rw [nB]
 have := xD n hn l t (ae ht) 0 0 [] g hg hl g.length n 0 p m (by omega) (by omega) hr hm
 rw [List.take_zero] at this
 exact this
end Go.Proofs.Ytajlknlnmmbfcaa
end
section
namespace Go.Proofs.Ytajlknlnmmbfcaa
namespace Tm
variable {O : Orc}
theorem D8 {G : List Tm} : tI O G nat = .ok (sort 0) := Ej (DB (g := 1) rfl)
theorem FQ {G : List Tm} {n : Nat} {A : Tm} (h : look G n = some A) : tI O G (var n) = if O.vd A = true then .ok A else .opn :=
 Ej (DB (g := 1) (by show kI O _ G (var n) = _; simp only [kI, h, made]))
theorem xX {s : Tm} {i : Nat} (hn : O.hn s = .ok (sort i)) : lvr O (.ok s) = .ok (sort i) := by
 unfold lvr lvl frm sq
 simp only [hn]; rfl
theorem EW {f : List Tm → Tm → Rs} {A B C : Tm} {G : List Tm} (h : cc O f G = .ok C) (h' : lvr O (f G A) = .ok B) : cc O f (A :: G) = .ok B := by
 unfold cc; rw [h]; exact h'
end Tm
end Go.Proofs.Ytajlknlnmmbfcaa
end
section
namespace Go.Proofs.Ytajlknlnmmbfcaa
open Go Go.Ab Go.Dk
open Tm (pt tS tI pc ps cc)
theorem sQ : ∃ B, ∀ G : List Tm, (∀ A ∈ G, vdM A = true) → G.length ≤ 8 → ∀ n, B ≤ n → ∀ t, vdM t = true → FF n 43 [tms (cx G), tm (of t)] [] = some ([tm (zr (pt O (tS O) G t)), nt (sts (pt O (tS O) G t))], []) := by
 refine Hb (fun G n => ∀ t, vdM t = true → FF n 43 [tms (cx G), tm (of t)] [] = some ([tm (zr (pt O (tS O) G t)), nt (sts (pt O (tS O) G t))], [])) fun G hG h8 => ?_
 obtain ⟨B, h⟩ := EL _ fun t hv => uo hG h8 hv
 exact ⟨B, fun n hn t hv => h t hv n hn⟩
noncomputable def BP : Nat := max (Exists.choose sQ) 10000000
theorem Eg : 10000000 ≤ BP := by unfold BP; omega
theorem uT {n : Nat} {G : List Tm} {t : Tm} (hn : BP ≤ n) (hG : ∀ A ∈ G, vdM A = true) (h8 : G.length ≤ 8) (hv : vdM t = true) : FF n 43 [tms (cx G), tm (of t)] [] = some ([tm (zr (pt O (tS O) G t)), nt (sts (pt O (tS O) G t))], []) :=
 (Exists.choose_spec sQ) G hG h8 n (by unfold BP at hn; omega) t hv
theorem An {G : List Tm} {t A : Tm} (e : pt O (tS O) G t = .ok A) : vdM A = true := by
 unfold pt at e
 split at e
 ·rename_i e1; exact Tm.EO bm (Tm.xZ bm e1) e
 ·rename_i e1; exact absurd e (e1 A)
theorem C2 (t : Tm) : ∀ ξ, (of (t.ren ξ)).size = (of t).size := by induction t <;> intro ξ <;> simp_all [of, Tm.ren, T.size, T.aA]
abbrev xC (r : List V1 × List aq) : Prop := ∃ (g : List T) (x y : T), r = ([tms g, tm x, tm y], []) ∧ x.size ≤ 3000 ∧ y.size ≤ 3000 ∧ (∀ u ∈ g, ah u = true) ∧ g.length ≤ 10
set_option maxHeartbeats 2000000 in
theorem oc {n : Nat} (hn : BP + 100 ≤ n) (l : List UInt8) : Tot (FF n 26 [.one (.fr (.bs l))] []) xC := by
 have hS := Eg
 refine a7 (C := BP + 99) (by omega) fun n hn e => ?_
 rw [ja]
 refine ak (DM (by omega) l) ?_
 rintro _ ⟨l', rfl, hr⟩
 simp only [evt]
 refine ak (CJ (by omega) hr (by omega)) ?_
 rintro _ ⟨g, t0, p, rfl, hv, hg, hl, hr⟩
 have ho : okA g = true := by
  unfold okA
  simp only [Bool.and_eq_true, decide_eq_true_eq, List.all_eq_true]
  exact ⟨by omega, hg⟩
 obtain ⟨G, rfl, hG, h8⟩ := Fp ho
 obtain ⟨a, rfl⟩ := mJ hv
 simp only [evt]
 have za := ae hv
 rw [uT (by omega) hG h8 hv]
 simp only [evt]
 have hend : ∀ {t : T} {p m : Int}, gM l' p m → m ≤ 30000000 → t.size ≤ 2000 → Tot ((FF n 47 [.one (.ptr 0 0), tms (cx G), tm (of a)] [rdr l' p]).bind fun x42 => aP x42.2 fun x43 x44 => bsC x43 fun x45 x46 => aS .i64 x46 fun x47 x48 => aQ x48 (rTs x42.1 fun x49 x50 => ag x50 fun x51 x52 => ai x52 (aj x44 ((FF n 48 [.one (.ptr 0 0), tm t] [.cells [.fr (.bs x45), .int .i64 x47]]).bind fun x53 => aP x53.2 fun x54 x55 => bsC x54 fun x56 x57 => aS .i64 x57 fun x58 x59 => aQ x59 (ag x53.1 fun x60 x61 => ai x61 (aj x55 (some ([.one (.fr (.ts x49)), .agg [.int .i64 x51.k, .int .i64 x51.n, .fr (.ts x51.kids)], .agg [.int .i64 x60.k, .int .i64 x60.n, .fr (.ts x60.kids)]], [])))))))) xC := by
  intro t p m hr hm hz
  refine ak (yK (by omega) hv hg (by omega) hr (by omega)) ?_
  rintro _ ⟨g, y, p, rfl, h1, h2, h3, h4⟩
  simp only [evt]
  refine ak (lb (t := t) (by omega) (by omega) h4 (by omega)) ?_
  rintro _ ⟨y', p, rfl, hy, hr⟩
  simp only [evt]
  exact ar ⟨g, y, y', rfl, by omega, by omega, h2, h3⟩
 have hsz : ∀ {q : Tm}, vdM q = true → (T.mk 5 0 [.mk 4 0 [.mk 6 0 [], of q.wk], .mk 7 0 []]).size ≤ 2000 := fun {q} v => by
  have := ae (t := of q) v
  simp only [T.size, T.aA, Tm.wk, C2]; omega
 have hsh : ∀ {q : Tm}, vdM q = true → FF n 46 [tm (of q), nt 1, nt 0] [] = some ([tm (of q.wk)], []) := fun {q} v => mD (b := q) (a := 1) (by omega) v (by omega)
 refine az (fun _ => ?_) (fun hc => ?_)
 ·refine ak (mN (by omega) hr (by omega)) ?_
  rintro _ ⟨x, p, rfl, hxv, hr⟩
  have zx := ae hxv
  obtain ⟨q, rfl⟩ := mJ hxv
  simp only [evt]
  refine ak (fP (by omega) hr (by omega) (by omega)) ?_
  rintro _ ⟨w, p, rfl, hw, hw2, hr⟩
  simp only [evt]
  refine az (fun _ => ?_) (fun _ => ?_)
  ·rw [bo (show 1 ≤ n by omega)]
   simp only [evt]
   rw [hsh (q := q) hxv]
   simp only [evt]
   rw [bA (show 1 ≤ n by omega) _ _ (by simp)]
   simp only [evt]
   rw [bo (show 1 ≤ n by omega)]
   simp only [evt]
   rw [bA (show 1 ≤ n by omega) _ _ (by simp)]
   simp only [evt]
   have hx := hend (t := .mk 5 0 [.mk 4 0 [.mk 6 0 [], of q.wk], .mk 7 0 []]) hr (by omega) (hsz hxv)
   simp only [tm, cT, cQ, ay] at hx ⊢
   with_reducible exact hx
  ·exact hend hr (by omega) (by omega)
 ·obtain ⟨A, e⟩ := CP.1 (show sts (pt O (tS O) G a) = 0 by simpa using hc)
  have vA := An e
  have zA := ae (t := of A) vA
  rw [e, show zr (Tm.Rs.ok A) = of A from rfl]
  refine ak (fP (by omega) hr (by omega) (by omega)) ?_
  rintro _ ⟨w, p, rfl, hw, hw2, hr⟩
  simp only [evt]
  refine az (fun _ => ?_) (fun _ => ?_)
  ·refine ak (mN (by omega) hr (by omega)) ?_
   rintro _ ⟨x, p, rfl, hxv, hr⟩
   have zx := ae hxv
   obtain ⟨q, rfl⟩ := mJ hxv
   simp only [evt]
   refine ak (fP (by omega) hr (by omega) (by omega)) ?_
   rintro _ ⟨w, p, rfl, hw, hw2, hr⟩
   simp only [evt]
   refine az (fun _ => ?_) (fun _ => ?_)
   ·rw [bo (show 1 ≤ n by omega)]
    simp only [evt]
    rw [hsh (q := q) hxv]
    simp only [evt]
    rw [bA (show 1 ≤ n by omega) _ _ (by simp)]
    simp only [evt]
    rw [bo (show 1 ≤ n by omega)]
    simp only [evt]
    rw [bA (show 1 ≤ n by omega) _ _ (by simp)]
    simp only [evt]
    have hx := hend (t := .mk 5 0 [.mk 4 0 [.mk 6 0 [], of q.wk], .mk 7 0 []]) hr (by omega) (hsz hxv)
    simp only [tm, cT, cQ, ay] at hx ⊢
    with_reducible exact hx
   ·exact hend hr (by omega) (by omega)
  ·refine ak (fP (by omega) hr (by omega) (by omega)) ?_
   rintro _ ⟨w, p, rfl, hw, hw2, hr⟩
   simp only [evt]
   refine az (fun _ => ?_) (fun _ => ?_)
   ·rw [bo (show 1 ≤ n by omega)]
    simp only [evt]
    rw [hsh (q := A) vA]
    simp only [evt]
    rw [bA (show 1 ≤ n by omega) _ _ (by simp)]
    simp only [evt]
    rw [bo (show 1 ≤ n by omega)]
    simp only [evt]
    rw [bA (show 1 ≤ n by omega) _ _ (by simp)]
    simp only [evt]
    have hx := hend (t := .mk 5 0 [.mk 4 0 [.mk 6 0 [], of A.wk], .mk 7 0 []]) hr (by omega) (hsz vA)
    simp only [tm, cT, cQ, ay] at hx ⊢
    with_reducible exact hx
   ·exact hend hr (by omega) (by omega)
abbrev GQ (r : List V1 × List aq) : Prop := ∃ (g : List T) (x : T), r = ([tms g, tm x], []) ∧ x.size ≤ 3000 ∧ (∀ u ∈ g, ah u = true) ∧ g.length ≤ 10
theorem lK {n : Nat} (hn : BP + 101 ≤ n) (l : List UInt8) : Tot (FF n 11 [.one (.fr (.bs l))] []) GQ := by
 refine a7 (C := BP + 100) (by omega) fun n hn e => ?_
 rw [la]
 refine ak (oc (by omega) l) ?_
 rintro _ ⟨g, x, y, rfl, h1, h2, h3, h4⟩
 simp only [evt]
 refine az (fun _ => ?_) (fun _ => ?_)
 ·exact ar ⟨g, x, rfl, h1, h3, h4⟩
 ·exact ar ⟨g, y, rfl, h2, h3, h4⟩
theorem xM {n : Nat} {a : T} (hn : 100000 ≤ n) (hz : a.size ≤ 10000) : Tot (FF n 15 [tm a, tm a] []) (fun r => r = ([bl true], [])) := by
 have := iQ a (n := n) (by omega) (by omega) a
 rw [T.beq_refl] at this
 exact ⟨_, this, rfl⟩
theorem Df {f : FuncId} {args : List V1} {n : Nat} {x : List V1 × List aq} (h : FF n f args [] = some x) : Tot (FF n f args []) (fun r => r = x) := ⟨_, h, rfl⟩
end Go.Proofs.Ytajlknlnmmbfcaa
end
section
namespace Go.Proofs.Ytajlknlnmmbfcaa
open Go Go.Ab Go.Dk
theorem DN : ∀ (ps : List T) (t : T) (acc : List T), Cv ps.length (ee ps t) acc = (acc ++ ps, t)
 | [], t, acc => by simp [Cv, ee]
 | a :: ps, t, acc => by
  show Cv ps.length (ee ps t) (acc ++ [a]) = _
  rw [DN ps t (acc ++ [a])]; simp
theorem zZ : ∀ (g h : Nat) (t : T), ah t = true → t.size ≤ g → t.size ≤ h → jP g t = jP h t
 | 0, h, t, _, hg, _ => by have := size_pos t; omega
 | g + 1, 0, t, _, _, hh => by have := size_pos t; omega
 | g + 1, h + 1, t, hv, hg, hh => by
  rw [jP, jP]
  by_cases hk : t.k = 3
  ·obtain ⟨a, b, rfl, ha, hb, h1, h2⟩ := vR hv hk
   rw [if_pos hk, if_pos hk]
   have : jP g b = jP h b := zZ g h b hb (by omega) (by omega)
   exact congrArg (· + 1) this
  ·rw [if_neg hk, if_neg hk]
theorem wT : ∀ (ps : List T) (t : T), ah (ee ps t) = true → jP 400 (ee ps t) = ps.length + jP 400 t
 | [], t, _ => by simp [ee]
 | a :: ps, t, h => by
  have h : ah (.mk 3 0 [a, ee ps t]) = true := h
  have hb : ah (ee ps t) = true := uA h (by simp)
  have hz := ae h
  simp only [T.size, T.aA] at hz
  have ih := wT ps t hb
  have e1 : jP 399 (ee ps t) = jP 400 (ee ps t) := zZ _ _ _ hb (by omega) (by omega)
  have e2 : jP 400 (ee (a :: ps) t) = jP 399 (ee ps t) + 1 := rfl
  rw [e2, e1, ih, List.length_cons]; omega
theorem lg {ps : List T} {t : T} (h : (eg ps t).2 = true) : okA ps = true ∧ ah t = true ∧ (eg ps t).1 = ee ps t ∧ ah (ee ps t) = true := by
 unfold eg at h ⊢
 split at h
 ·rename_i hh
  rw [if_pos hh]
  rw [Bool.and_eq_true] at hh
  exact ⟨hh.1, hh.2, k8 h, h⟩
 ·cases h
theorem pF {ps : List T} {t : T} : (eg ps t).1.size ≤ 5000 := by
 unfold eg
 split
 ·rename_i hh
  rw [Bool.and_eq_true] at hh
  unfold okT
  split
  ·exact kK hh.2 hh.1
  ·exact (by decide : (T.mk 0 0 []).size ≤ 5000)
 ·exact (by decide : (T.mk 0 0 []).size ≤ 5000)
theorem jF {ps : List T} {t : T} (h : (eg ps t).2 = true) : countP (eg ps t).1 = ps.length + countP t := by
 obtain ⟨h1, h2, h3, h4⟩ := lg h
 rw [h3]
 unfold countP
 rw [if_pos h4, if_pos h2, wT ps t h4]
theorem zK {ps : List T} {t : T} (h : (eg ps t).2 = true) : Fl (eg ps t).1 (ps.length : Int) = ((ps, t), true) := by
 have hc := jF h
 obtain ⟨h1, h2, h3, h4⟩ := lg h
 have h8 := (g9 h1).1
 have hcond : (ah (eg ps t).1 && decide ((0 : Int) ≤ (ps.length : Int) ∧ (ps.length : Int) ≤ 8 ∧ (ps.length : Int) ≤ (countP (eg ps t).1 : Nat))) = true := by
  rw [Bool.and_eq_true, decide_eq_true_eq, hc]
  exact ⟨by rw [h3]; exact h4, by omega, by omega, by omega⟩
 unfold Fl
 rw [if_pos hcond, Int.toNat_natCast, h3, DN]; rfl
theorem countP_le (t : T) : countP t ≤ 400 := by
 unfold countP
 split
 ·exact A9 400 t
 ·omega
end Go.Proofs.Ytajlknlnmmbfcaa
end
section
namespace Go.Proofs.Ytajlknlnmmbfcaa
open Go Go.Ab Go.Dk
theorem Aw (n : Nat) (ts us : List T) (hl : ts.length ≤ 1000000) (he : ts.length = us.length) (h : ∀ t ∈ ts, ∀ u, FF n 15 [tm t, tm u] [] = some ([bl (T.beq t u)], [])) :
   ∀ g m (i : Nat), g < m → i + g = ts.length → dt n m ts us i = some ([bl (T.ox (ts.drop i) (us.drop i))], [])
 | g, 0, i, hg, _ => by omega
 | 0, m + 1, i, _, hi => by
  rw [fI, List.drop_of_length_le (by omega), List.drop_of_length_le (by omega)]
  simp only [au, if_neg (show ¬ (i : Int) < ts.length by omega), T.ox]
 | g + 1, m + 1, i, hg, hi => by
  have hlt : i < ts.length := by omega
  have hlt2 : i < us.length := by omega
  rw [List.drop_eq_getElem_cons hlt, List.drop_eq_getElem_cons hlt2, T.ox]
  rw [fI]; simp (disch := omega) only [evt, au, Int.toNat_natCast, fC, wrap64, aK, List.length_append, List.length_cons, List.length_nil, if_pos (show (i : Int) < ts.length by omega), if_pos (show 0 ≤ (i : Int) by omega), List.getElem?_eq_getElem hlt, List.getElem?_eq_getElem hlt2, h _ (List.getElem_mem hlt)]
  cases hs : T.beq ts[i] us[i] with
  | false => simp
  | true =>
   simp only [Bool.not_true, cond_false, Bool.true_and]
   exact Aw n ts us hl he h g m (i + 1) (by omega) (by omega)
theorem tX {n : Nat} {ts us : List T} (hn : 3000000 ≤ n) (hl : ts.length ≤ 1000000) (hz : ∀ t ∈ ts, t.size ≤ 1000000) : FF n 9 [tms ts, tms us] [] = some ([bl (T.ox ts us)], []) := by
 obtain ⟨n, rfl⟩ := af (show 0 < n by omega)
 rw [oT]
 by_cases h : ts.length = us.length
 ·rw [decide_eq_true (show (ts.length : Int) = us.length by omega)]
  have := Aw n ts us hl h (fun t ht u => iQ t (by have := hz t ht; omega) (by have := hz t ht; omega) u) ts.length n 0 (by omega) (by omega)
  simpa using this
 ·rw [decide_eq_false (show ¬ (ts.length : Int) = us.length by omega), mI h]; rfl
end Go.Proofs.Ytajlknlnmmbfcaa
end
section
namespace Go.Proofs.Ytajlknlnmmbfcaa
open Go.ChangeShapes Go.WideShapes Go.ChangeAt Go.RowKit
open Go.ChangeMaps (open_string shut_string)
open Go.Dk
theorem own : ownKnob Try.prog.godebug = none := by kernel_rfl
theorem laidOut : laidOutB Try.prog = true := by kernel_rfl
section
variable {H : Type} {enc : TypeId × Value → H} {P : Program} {W : World} {sp : Nat → Bool} {hd : Bool}
end
end Go.Proofs.Ytajlknlnmmbfcaa
end
section
namespace Go.Proofs.Ytajlknlnmmbfcaa
namespace Tm
variable {O : Orc}
def lo : List Tm → Tm → Tm
 | [], t => t
 | A :: G, t => lo G (lam A t)
def po : List Tm → Tm → Tm
 | [], t => t
 | A :: G, t => po G (pi A t)
end Tm
end Go.Proofs.Ytajlknlnmmbfcaa
end
section
namespace Go.Proofs.Ytajlknlnmmbfcaa
open Go Go.Ab Go.Dk
open Tm (Rs inI inS tI tS lvr ckr cc pt ps pc Wf lo po)
def ovF (k : Int) (ps : List T) (t : T) : T := ps.foldr (fun a u => .mk k 0 [a, u]) t
theorem z4 (k : Int) : ∀ (ps : List T) (t : T), (ovF k ps t).size = t.size + ps.length + T.aA ps
 | [], t => by simp [ovF, T.aA]
 | a :: ps, t => by
  have := z4 k ps t
  unfold ovF at this ⊢
  rw [List.foldr_cons, T.size]
  simp only [T.aA, List.length_cons, this]; omega
theorem CR {k : Int} {ps : List T} {t : T} (ht : ah t = true) (hl : okA ps = true) : (ovF k ps t).size ≤ 5000 := by
 obtain ⟨h1, h2⟩ := g9 hl
 have h3 := wX (k := 400) fun t ht => ae (h2 t ht)
 have h4 : ps.length * 400 ≤ 8 * 400 := Nat.mul_le_mul_right 400 h1
 rw [z4]
 have := ae ht
 omega
def ovR (k : Int) (ps : List T) (t : T) : T × Bool := if (okA ps && ah t) = true then (okT (ovF k ps t), ah (ovF k ps t)) else (.mk 0 0 [], false)
theorem A8 (k : Int) (n : Nat) (hn : 20000 ≤ n) (ps : List T) (hl : ps.length ≤ 8) (z1 z2 : Int) (l0 : List T) (w : T) (hw : w.size ≤ 10000) : ∀ (i m : Nat) (u : T), i < m → i ≤ ps.length → ovF k (ps.take i) u = w →
   cD n m k ps ((i : Int) - 1) z1 z2 l0 u.k u.n u.kids = some ([tm (okT w), bl (ah w)], [])
 | i, 0, u, hm, _, _ => by omega
 | 0, m + 1, u, hm, hi, he => by
  have he : u = w := he
  subst he
  have ho := cX (n := n) (t := u) (by omega) (by omega)
  rw [cw, decide_eq_false (show ¬ (0 : Int) ≤ ((0 : Nat) : Int) - 1 by omega)]
  simp only [cond_false]
  rw [ho.1]
  simp only [evt]
  rw [ho.2]
  simp only [evt]
 | i + 1, m + 1, u, hm, hi, he => by
  have hlt : i < ps.length := by omega
  have hx : ps.take (i + 1) = ps.take i ++ [ps[i]] := by rw [List.take_append_getElem hlt]
  have nx := A8 k n hn ps hl z1 z2 l0 w hw i m (.mk k 0 [ps[i], u]) (by omega) (by omega) (by rw [← he, hx]; unfold ovF; rw [List.foldr_append]; rfl)
  have w : IntKind.i64.wrap ((i : Int) - 1) = (i : Int) - 1 := wrap64 (by omega)
  rw [show (((i + 1 : Nat) : Int) - 1) = (i : Int) by omega, cw, decide_eq_true (show 0 ≤ (i : Int) by omega), Int.toNat_natCast, List.getElem?_eq_getElem hlt, w]
  simp only [cond_true, Option.bind_some, T.eta]
  rw [g7 (show 1 ≤ n by omega)]
  simp only [evt]
  exact nx
theorem Gn {k : Int} {n : Nat} {ps : List T} {t : T} (hn : 4800000 ≤ n) (ht : t.size ≤ 4000000) (hl : ps.length ≤ 4000000) (hz : ∀ u ∈ ps, u.size ≤ 4000000) : FF n 27 [nt k, tms ps, tm t] [] = some ([tm (ovR k ps t).1, bl (ovR k ps t).2], []) := by
 obtain ⟨n, rfl⟩ := af (show 0 < n by omega)
 rw [og, pV (by omega) hl hz]
 simp only [evt]
 unfold ovR
 cases ho : okA ps with
 | false => rfl
 | true =>
  simp only [Bool.not_true, cond_false]
  rw [bB (by omega)]
  simp only [evt]
  cases hv : ah t with
  | false => rfl
  | true =>
   simp only [Bool.not_true, cond_false, Bool.and_self, if_true]
   have h8 := (g9 ho).1
   have := A8 k n (by omega) ps h8 0 0 [] (ovF k ps t) (by have := CR (k := k) hv ho; omega) ps.length n t (by omega) (by omega) (by rw [List.take_length])
   rw [wrap64 (show -9223372036854775808 ≤ (ps.length : Int) - 1 ∧ (ps.length : Int) - 1 ≤ 9223372036854775807 by omega), this]
theorem zH {n : Nat} {ps : List T} {t : T} (hn : 4800001 ≤ n) (ht : t.size ≤ 4000000) (hl : ps.length ≤ 4000000) (hz : ∀ u ∈ ps, u.size ≤ 4000000) : FF n 14 [tms ps, tm t] [] = some ([tm (ovR 4 ps t).1, bl (ovR 4 ps t).2], []) := by
 obtain ⟨n, rfl⟩ := af (show 0 < n by omega)
 rw [o7, Gn (by omega) ht hl hz]
 simp only [evt]
end Go.Proofs.Ytajlknlnmmbfcaa
end
