/- Part 5 of 7 of the proof of FnLamOver_holds. -/
import Derived.Test.YthopkmimhlcjkaaGreatK01
import Derived.Test.YthopkmimhlcjkaaGreatK02
import Derived.Test.YthopkmimhlcjkaaGreatK03
import Derived.Test.YthopkmimhlcjkaaGreatK04
section
/- The reader of drawn arguments, in the abstract run. -/
set_option linter.unusedVariables false
set_option linter.unusedSimpArgs false
namespace Go.Proofs.YthopkmimhlcjkaaGreat
open Go Go.Ab Go.Dk
theorem xor_bd {a b : Int} (ha : 0 ≤ a ∧ a < 4611686018427387904) (hb : 0 ≤ b ∧ b < 4611686018427387904) : 0 ≤ IntKind.i64.wrap (BitVec.ofInt IntKind.i64.bits a ^^^ BitVec.ofInt IntKind.i64.bits b).toNat := by
  obtain ⟨m, rfl⟩ : ∃ m : Nat, a = m := ⟨a.toNat, by omega⟩
  obtain ⟨n, rfl⟩ : ∃ n : Nat, b = n := ⟨b.toNat, by omega⟩
  have hm : m < 2 ^ 62 := by omega
  have hn : n < 2 ^ 62 := by omega
  have hx : m ^^^ n < 2 ^ 62 := Nat.xor_lt_two_pow hm hn
  have e : (BitVec.ofInt 64 (m : Int) ^^^ BitVec.ofInt 64 (n : Int)).toNat = m ^^^ n := by
    rw [BitVec.toNat_xor]
    have h1 : (BitVec.ofInt 64 (m : Int)).toNat = m := by simp; omega
    have h2 : (BitVec.ofInt 64 (n : Int)).toNat = n := by simp; omega
    rw [h1, h2]
  show 0 ≤ IntKind.i64.wrap ((BitVec.ofInt 64 (m : Int) ^^^ BitVec.ofInt 64 (n : Int)).toNat : Int)
  rw [e, IntWalk.i64_in _ (by omega)]
  omega
/-- A reader: its bytes, and how far it has read. -/
abbrev rdr (l : List UInt8) (p : Int) : AObj := .cells [.fr (.bs l), .int .i64 p]
/-- The reader's state is in order. -/
def RdOk (l : List UInt8) (p m : Int) : Prop := l.length ≤ 2000 ∧ 0 ≤ p ∧ p ≤ m
theorem RdOk.mono {l : List UInt8} {p m m' : Int} (h : RdOk l p m) (hm : m ≤ m') : RdOk l p m' := ⟨h.1, h.2.1, by have := h.2.2; omega⟩
theorem tmod_bd {a b : Int} (ha : 0 ≤ a) (hb : 0 < b) : 0 ≤ a.tmod b ∧ a.tmod b < b := by
  rw [Int.tmod_eq_emod_of_nonneg ha]
  exact ⟨Int.emod_nonneg _ (by omega), Int.emod_lt_of_pos _ hb⟩
theorem tdiv_bd {a b : Int} (ha : 0 ≤ a) (hb : 0 < b) : 0 ≤ a.tdiv b ∧ a.tdiv b ≤ a := by
  rw [Int.tdiv_eq_ediv_of_nonneg ha]
  exact ⟨Int.ediv_nonneg ha (by omega), Int.ediv_le_self _ ha⟩
theorem get_lt {l : List UInt8} {i : Int} (h0 : 0 ≤ i) (h1 : i < l.length) : ∃ c, l[i.toNat]? = some c := by
  have : i.toNat < l.length := by omega
  exact ⟨l[i.toNat], List.getElem?_eq_getElem this⟩
/-- From fuel C on, f answers r. -/
def EvA (C : Nat) (f : FuncId) (args : List V1) (h : List AObj) (r : List V1 × List AObj) : Prop := ∀ n, C ≤ n → FF n f args h = some r
theorem EvA.ev {C f args h r} (k : EvA C f args h r) : Ev f args h r := ⟨C, k⟩
theorem EvA.of {f args h r} (C : Nat) (hh : ∀ n, C ≤ n → FF (n + 1) f args h = some r) : EvA (C + 1) f args h r := fun n hn => by obtain ⟨m, rfl⟩ : ∃ m, n = m + 1 := ⟨n - 1, by omega⟩; exact hh m (by omega)
theorem s_pick {l : List UInt8} {p m n : Int} (h : RdOk l p m) (hm : m ≤ 1099511627776) (hn : n ≤ 2147483648) :
    ∃ v, (0 ≤ v ∧ (0 < n → v < n) ∧ (n < 1 → v = 0)) ∧ RdOk l (p + 1) (m + 1) ∧ EvA 1 97 [.one (.ptr 0 0), .one (.int .i64 n)] [rdr l p] ([.one (.int .i64 v)], [rdr l (p + 1)]) := by
  obtain ⟨hl, h0, hp⟩ := h
  have hr : RdOk l (p + 1) (m + 1) := ⟨hl, by omega, by omega⟩
  have w1 : IntKind.i64.wrap (p + 1) = p + 1 := wrap64 (by omega)
  have w2 : IntKind.i64.wrap (p + 1 - 1) = p := by rw [wrap64 (by omega)]; omega
  by_cases hn1 : n < 1
  · refine ⟨0, ⟨by omega, by omega, by omega⟩, hr, EvA.of 0 fun k _ => ?_⟩
    rw [E_spec_l19Rd_pick]
    simp only [cond_dec, if_pos hn1, w1]
  · by_cases hl0 : (l.length : Int) = 0
    · refine ⟨0, ⟨by omega, by omega, by omega⟩, hr, EvA.of 0 fun k _ => ?_⟩
      rw [E_spec_l19Rd_pick]
      simp only [cond_dec, if_neg hn1, if_pos hl0, w1]
    · have hlp : 0 < (l.length : Int) := by omega
      by_cases hk : p < l.length
      · obtain ⟨c, hc⟩ := get_lt h0 hk
        have hb := byte_bd c
        have ht := tmod_bd hb.1 (show 0 < n by omega)
        refine ⟨Int.tmod c.toNat n, ⟨ht.1, fun _ => ht.2, by omega⟩, hr, EvA.of 0 fun k _ => ?_⟩
        rw [E_spec_l19Rd_pick]
        simp only [cond_dec, if_neg hn1, if_neg hl0, w1, w2, if_pos hk, if_pos h0, hc, Option.bind_some, wrapB, if_neg (show ¬ n = 0 by omega)]
      · have t1 := tmod_bd h0 hlp
        obtain ⟨c, hc⟩ := get_lt t1.1 t1.2
        have w3 : IntKind.i64.wrap (p * 7) = p * 7 := wrap64 (by omega)
        have w4 : IntKind.i64.wrap (p * 7 + 3) = p * 7 + 3 := wrap64 (by omega)
        have t2 := tmod_bd (show 0 ≤ p * 7 + 3 by omega) hlp
        obtain ⟨d, hd⟩ := get_lt t2.1 t2.2
        have hb := byte_bd c
        have hb' := byte_bd d
        have t3 := tdiv_bd h0 hlp
        have w5 : IntKind.i64.wrap ((c.toNat : Int) * 131) = c.toNat * 131 := wrap64 (by omega)
        have w6 : IntKind.i64.wrap ((d.toNat : Int) * 1117) = d.toNat * 1117 := wrap64 (by omega)
        have w7 : IntKind.i64.wrap ((c.toNat : Int) * 131 + d.toNat * 1117) = c.toNat * 131 + d.toNat * 1117 := wrap64 (by omega)
        have w8 : IntKind.i64.wrap (p * 29) = p * 29 := wrap64 (by omega)
        have w9 : IntKind.i64.wrap ((c.toNat : Int) * 131 + d.toNat * 1117 + p * 29) = c.toNat * 131 + d.toNat * 1117 + p * 29 := wrap64 (by omega)
        have wa : IntKind.i64.wrap (p.tdiv l.length) = p.tdiv l.length := wrap64 (by omega)
        have wb : IntKind.i64.wrap (p.tdiv l.length * 53) = p.tdiv l.length * 53 := wrap64 (by omega)
        have wc : IntKind.i64.wrap ((c.toNat : Int) * 131 + d.toNat * 1117 + p * 29 + p.tdiv l.length * 53) = c.toNat * 131 + d.toNat * 1117 + p * 29 + p.tdiv l.length * 53 := wrap64 (by omega)
        have t4 := tdiv_bd (show 0 ≤ (c.toNat : Int) * 131 + d.toNat * 1117 + p * 29 + p.tdiv l.length * 53 by omega) (show (0 : Int) < 64 by omega)
        have wd : IntKind.i64.wrap (Int.tdiv ((c.toNat : Int) * 131 + d.toNat * 1117 + p * 29 + p.tdiv l.length * 53) 64) = Int.tdiv ((c.toNat : Int) * 131 + d.toNat * 1117 + p * 29 + p.tdiv l.length * 53) 64 := wrap64 (by omega)
        have hx := xor_bd (a := (c.toNat : Int) * 131 + d.toNat * 1117 + p * 29 + p.tdiv l.length * 53) (b := Int.tdiv ((c.toNat : Int) * 131 + d.toNat * 1117 + p * 29 + p.tdiv l.length * 53) 64) (by omega) (by omega)
        have ht := tmod_bd hx (show 0 < n by omega)
        refine ⟨_, ⟨ht.1, fun _ => ht.2, by omega⟩, hr, EvA.of 0 fun k _ => ?_⟩
        rw [E_spec_l19Rd_pick]
        simp only [cond_dec, if_neg hn1, if_neg hl0, w1, w2, if_neg hk, if_pos t1.1, hc, Option.bind_some, wrapB, w3, w4, if_pos t2.1, hd, if_neg (show ¬ n = 0 by omega), w5, w6, w7, w8, w9, wa, wb, wc, wd]
theorem s_num {l : List UInt8} {p m : Int} (h : RdOk l p m) (hm : m ≤ 1099511627776) {ss : List Int} (hs : ss ≠ []) (hs2 : ss.length ≤ 2147483648) :
    ∃ s ∈ ss, RdOk l (p + 1) (m + 1) ∧ EvA 2 118 [.one (.ptr 0 0), .one (.fr (.is ss))] [rdr l p] ([.one (.int .i64 s)], [rdr l (p + 1)]) := by
  obtain ⟨v, ⟨v0, v1, _⟩, hr, hN⟩ := s_pick h hm (n := (ss.length : Int)) (by omega)
  have hpos := List.length_pos_iff.2 hs
  have hv := v1 (by omega)
  have hlt : v.toNat < ss.length := by omega
  refine ⟨ss[v.toNat], List.getElem_mem hlt, hr, EvA.of 1 fun n hn => ?_⟩
  rw [E_spec_l19Rd_num, hN n hn]
  simp only [evs, cond_dec, if_pos v0, List.getElem?_eq_getElem hlt]
theorem s_open (l : List UInt8) : ∃ l', RdOk l' 0 0 ∧ EvA 1 78 [.one (.fr (.bs l))] [] ([.one (.ptr 0 0)], [rdr l' 0]) := by
  by_cases hl : 2000 < (l.length : Int)
  · refine ⟨(l.take (2000 : Int).toNat).drop (0 : Int).toNat, ⟨by simp; omega, by omega, by omega⟩, EvA.of 0 fun n _ => ?_⟩
    · rw [E_spec_l19Open]
      simp only [cond_dec, if_pos hl, inB, Int.le_refl, decide_true, Bool.true_and, show (0 : Int) ≤ 2000 from by omega, if_pos (show (2000 : Int) ≤ l.length by omega)]
  · refine ⟨l, ⟨by omega, by omega, by omega⟩, EvA.of 0 fun n _ => ?_⟩
    rw [E_spec_l19Open]
    simp only [cond_dec, if_neg hl]
end Go.Proofs.YthopkmimhlcjkaaGreat
end
section
/- Valid terms: what the program and the reference take for valid. No program in sight. -/
set_option linter.unusedVariables false
set_option linter.unusedSimpArgs false
namespace Go.Proofs.YthopkmimhlcjkaaGreat
open Go Go.Dk
def opsOf : Int → Int := fun k => if k = 1 ∨ k = 2 ∨ k = 6 ∨ k = 7 then 0 else if k = 8 ∨ k = 11 ∨ k = 15 ∨ k = 16 then 1 else if k = 3 ∨ k = 4 ∨ k = 5 ∨ k = 13 then 2 else if k = 10 ∨ k = 12 ∨ k = 14 then 3 else if k = 9 then 4 else -1
def mostOf : Int → Int := fun k => if k = 1 then 20 else if k = 2 then 3 else 0
mutual
def scanF : T → Int → Int → Bool × Int
  | .mk k n kids, deep, c => if 400 < c + 1 ∨ 30 < deep ∨ opsOf k ≠ kids.length ∨ ¬ (0 ≤ n ∧ n ≤ mostOf k) then (false, c + 1) else scanL kids (deep + 1) (c + 1)
def scanL : List T → Int → Int → Bool × Int
  | [], _, c => (true, c)
  | t :: ts, d, c => if (scanF t d c).1 then scanL ts d (scanF t d c).2 else (false, (scanF t d c).2)
end
theorem scanF_eq (t : T) (d c : Int) : scanF t d c = if 400 < c + 1 ∨ 30 < d ∨ opsOf t.k ≠ t.kids.length ∨ ¬ (0 ≤ t.n ∧ t.n ≤ mostOf t.k) then (false, c + 1) else scanL t.kids (d + 1) (c + 1) := by
  cases t; simp only [scanF]; rfl
mutual
theorem scanF_bd (t : T) (d c : Int) : (scanF t d c).1 = true → c + 1 ≤ (scanF t d c).2 ∧ (scanF t d c).2 ≤ 400 := by
  cases t with
  | mk k n kids =>
    unfold scanF
    split
    · intro h; cases h
    · rename_i h
      intro h1
      have h2 : c + 1 ≤ 400 := by simp only [not_or] at h; omega
      have := scanL_bd kids (d + 1) (c + 1) h2 h1
      omega
theorem scanL_bd (ts : List T) (d c : Int) (hc : c ≤ 400) : (scanL ts d c).1 = true → c ≤ (scanL ts d c).2 ∧ (scanL ts d c).2 ≤ 400 := by
  cases ts with
  | nil => intro _; simp [scanL, hc]
  | cons t ts =>
    unfold scanL
    split
    · rename_i h
      intro h1
      have a := scanF_bd t d c h
      have b := scanL_bd ts d _ a.2 h1
      omega
    · intro h; cases h
end
mutual
def shapeF : T → Nat → Bool
  | .mk k n kids, d => decide (1 ≤ d) && (decide (opsOf k = kids.length) && (decide (0 ≤ n ∧ n ≤ mostOf k) && shapeL kids (d - 1)))
def shapeL : List T → Nat → Bool
  | [], _ => true
  | t :: ts, d => shapeF t d && shapeL ts d
end
theorem shapeF_eq (t : T) (d : Nat) : shapeF t d = (decide (1 ≤ d) && (decide (opsOf t.k = t.kids.length) && (decide (0 ≤ t.n ∧ t.n ≤ mostOf t.k) && shapeL t.kids (d - 1)))) := by cases t; simp only [shapeF]; rfl
def validB (t : T) : Bool := shapeF t 30 && decide (t.size ≤ 400)
/-- The reference's count of nodes: it stops above a number. -/
def cntF (t : T) (m : Nat) : Nat := min t.size (m + 1)
mutual
theorem scanF_iff (t : T) (d c : Nat) (hc : c ≤ 400) (hd : d ≤ 31) : ((scanF t d c).1 = true ↔ shapeF t (31 - d) = true ∧ c + t.size ≤ 400) ∧ ((scanF t d c).1 = true → (scanF t d c).2 = c + t.size) := by
  cases t with
  | mk k n kids =>
    have hs : T.size (.mk k n kids) = 1 + T.sizeL kids := rfl
    unfold scanF shapeF
    by_cases hcond : 400 < (c : Int) + 1 ∨ 30 < (d : Int) ∨ opsOf k ≠ (kids.length : Int) ∨ ¬ (0 ≤ n ∧ n ≤ mostOf k)
    · rw [if_pos hcond]
      refine ⟨⟨fun h => (by cases h), fun h => ?_⟩, fun h => (by cases h)⟩
      simp only [Bool.and_eq_true, decide_eq_true_eq] at h
      obtain ⟨⟨h1, h2, h3, h4⟩, h5⟩ := h
      exfalso
      rcases hcond with h | h | h | h
      · omega
      · omega
      · exact h h2
      · exact h h3
    · rw [if_neg hcond]
      simp only [not_or, Decidable.not_not] at hcond
      have hk : ((c : Int) + 1) = ((c + 1 : Nat) : Int) := by omega
      have hk2 : ((d : Int) + 1) = ((d + 1 : Nat) : Int) := by omega
      rw [hk, hk2]
      have ih := scanL_iff kids (d + 1) (c + 1) (by omega) (by omega)
      rw [decide_eq_true (by omega : 1 ≤ 31 - d), decide_eq_true hcond.2.2.1, decide_eq_true hcond.2.2.2, Bool.true_and, Bool.true_and, Bool.true_and, show 31 - d - 1 = 31 - (d + 1) by omega, hs]
      refine ⟨⟨fun h => ?_, fun h => ?_⟩, fun h => ?_⟩
      · have := ih.1.1 h; exact ⟨this.1, by omega⟩
      · exact ih.1.2 ⟨h.1, by omega⟩
      · have := ih.2 h; omega
theorem scanL_iff (ts : List T) (d c : Nat) (hc : c ≤ 400) (hd : d ≤ 31) : ((scanL ts d c).1 = true ↔ shapeL ts (31 - d) = true ∧ c + T.sizeL ts ≤ 400) ∧ ((scanL ts d c).1 = true → (scanL ts d c).2 = c + T.sizeL ts) := by
  cases ts with
  | nil => simp [scanL, shapeL, T.sizeL, hc]
  | cons t ts =>
    have ih := scanF_iff t d c hc hd
    have hs : T.sizeL (t :: ts) = t.size + T.sizeL ts := rfl
    unfold scanL shapeL
    by_cases h1 : (scanF t d c).1 = true
    · have h2 := ih.2 h1
      have h3 := ih.1.1 h1
      have ih2 := scanL_iff ts d (c + t.size) h3.2 hd
      have hk : ((c : Int) + (t.size : Int)) = ((c + t.size : Nat) : Int) := by omega
      rw [if_pos h1, h2, hk, h3.1, Bool.true_and, hs]
      refine ⟨⟨fun h => ?_, fun h => ?_⟩, fun h => ?_⟩
      · have := ih2.1.1 h; exact ⟨this.1, by omega⟩
      · exact ih2.1.2 ⟨h.1, by omega⟩
      · have := ih2.2 h; omega
    · rw [if_neg h1, hs]
      refine ⟨⟨fun h => (by cases h), fun h => ?_⟩, fun h => (by cases h)⟩
      exfalso
      rw [Bool.and_eq_true] at h
      exact h1 (ih.1.2 ⟨h.1.1, by omega⟩)
end
theorem scan_valid (t : T) : (scanF t 1 0).1 = validB t := by
  have := (scanF_iff t 1 0 (by omega) (by omega)).1
  unfold validB
  rw [Bool.eq_iff_iff, Bool.and_eq_true, decide_eq_true_eq]
  simpa using this
theorem shapeL_mem {u : T} {d : Nat} : ∀ {ts : List T}, shapeL ts d = true → u ∈ ts → shapeF u d = true
  | t :: ts, h, hu => by
    simp only [shapeL, Bool.and_eq_true] at h
    rcases List.mem_cons.1 hu with rfl | hu
    · exact h.1
    · exact shapeL_mem h.2 hu
mutual
theorem shapeF_up : ∀ (t : T) (d : Nat), shapeF t d = true → shapeF t (d + 1) = true
  | .mk k n kids, d, h => by
    simp only [shapeF, Bool.and_eq_true, decide_eq_true_eq] at h ⊢
    refine ⟨by omega, h.2.1, h.2.2.1, ?_⟩
    have := shapeL_up kids (d - 1) h.2.2.2
    rwa [show d - 1 + 1 = d + 1 - 1 by omega] at this
theorem shapeL_up : ∀ (ts : List T) (d : Nat), shapeL ts d = true → shapeL ts (d + 1) = true
  | [], _, _ => rfl
  | t :: ts, d, h => by
    simp only [shapeL, Bool.and_eq_true] at h ⊢
    exact ⟨shapeF_up t d h.1, shapeL_up ts d h.2⟩
end
/-- The operands of a valid term are valid. -/
theorem validB_kid {t u : T} (h : validB t = true) (hu : u ∈ t.kids) : validB u = true := by
  unfold validB at h ⊢
  rw [Bool.and_eq_true, decide_eq_true_eq] at h ⊢
  rw [shapeF_eq] at h
  simp only [Bool.and_eq_true, decide_eq_true_eq] at h
  have h1 := shapeF_up _ _ (shapeL_mem h.1.2.2.2 hu)
  have h2 := T.sizeL_mem hu
  have h3 := T.size_eq t
  exact ⟨h1, by omega⟩
theorem validB_ops {t : T} (h : validB t = true) : opsOf t.k = t.kids.length ∧ 0 ≤ t.n ∧ t.n ≤ mostOf t.k := by
  unfold validB at h
  rw [Bool.and_eq_true, shapeF_eq] at h
  simp only [Bool.and_eq_true, decide_eq_true_eq] at h
  exact ⟨h.1.2.1, h.1.2.2.1⟩
theorem validB_size {t : T} (h : validB t = true) : t.size ≤ 400 := by
  unfold validB at h
  rw [Bool.and_eq_true, decide_eq_true_eq] at h
  exact h.2
end Go.Proofs.YthopkmimhlcjkaaGreat
end
section
/- Terms: shifts, substitutions, redexes, parallel reduction, confluence. No program in sight. -/
set_option linter.unusedVariables false
set_option linter.unusedSimpArgs false
namespace Go.Proofs.YthopkmimhlcjkaaGreat
open Go Go.Dk
/-- How many binders an operand adds. -/
def under (k : Int) (i : Nat) : Int := if i = 1 ∧ (k = 3 ∨ k = 4 ∨ k = 13) then 1 else 0
theorem under_bd (k : Int) (i : Nat) : 0 ≤ under k i ∧ under k i ≤ 1 := by unfold under; split <;> omega
mutual
def shT (a : Int) : T → Int → T
  | .mk k n ts, c => .mk k (if k = 1 ∧ c ≤ n then n + a else n) (shL a k 0 ts c)
def shL (a k : Int) : Nat → List T → Int → List T
  | _, [], _ => []
  | i, t :: ts, c => shT a t (c + under k i) :: shL a k (i + 1) ts c
end
mutual
def sbT (u : T) : T → Int → Int → T
  | .mk k n ts, x, d => if k = 1 ∧ n = x then shT d u 0 else .mk k (if k = 1 ∧ x < n then n - 1 else n) (sbL u k 0 ts x d)
def sbL (u : T) (k : Int) : Nat → List T → Int → Int → List T
  | _, [], _, _ => []
  | i, t :: ts, x, d => sbT u t (x + under k i) (d + under k i) :: sbL u k (i + 1) ts x d
end
mutual
theorem sh_comm {a b : Int} (ha : 0 ≤ a) (hb : 0 ≤ b) : ∀ (t : T) (c e : Int), c ≤ e → shT a (shT b t c) (e + b) = shT b (shT a t e) c
  | .mk k n ts, c, e, h => by
    simp only [shT]
    rw [sh_commL ha hb k ts 0 c e h]
    congr 1
    by_cases hk : k = 1 <;> simp only [hk, true_and, false_and, if_false]
    repeat' split
    all_goals omega
theorem sh_commL {a b : Int} (ha : 0 ≤ a) (hb : 0 ≤ b) (k : Int) : ∀ (ts : List T) (i : Nat) (c e : Int), c ≤ e → shL a k i (shL b k i ts c) (e + b) = shL b k i (shL a k i ts e) c
  | [], i, c, e, h => rfl
  | t :: ts, i, c, e, h => by
    simp only [shL]
    rw [show e + b + under k i = e + under k i + b by omega, sh_comm ha hb t (c + under k i) (e + under k i) (by omega), sh_commL ha hb k ts (i + 1) c e h]
end
mutual
theorem sh_add {a b : Int} (ha : 0 ≤ a) (hb : 0 ≤ b) : ∀ (t : T) (c e : Int), c ≤ e → e ≤ c + b → shT a (shT b t c) e = shT (a + b) t c
  | .mk k n ts, c, e, h, h2 => by
    simp only [shT]
    rw [sh_addL ha hb k ts 0 c e h h2]
    congr 1
    by_cases hk : k = 1 <;> simp only [hk, true_and, false_and, if_false]
    repeat' split
    all_goals omega
theorem sh_addL {a b : Int} (ha : 0 ≤ a) (hb : 0 ≤ b) (k : Int) : ∀ (ts : List T) (i : Nat) (c e : Int), c ≤ e → e ≤ c + b → shL a k i (shL b k i ts c) e = shL (a + b) k i ts c
  | [], i, c, e, h, h2 => rfl
  | t :: ts, i, c, e, h, h2 => by
    simp only [shL]
    rw [sh_add ha hb t (c + under k i) (e + under k i) (by omega) (by omega), sh_addL ha hb k ts (i + 1) c e h h2]
end
mutual
/-- A substitution for a variable that was made room for by a shift. -/
theorem sb_sh (u : T) {b : Int} (hb : 0 ≤ b) : ∀ (t : T) (c x d : Int), c ≤ x → x ≤ c + b → sbT u (shT (b + 1) t c) x d = shT b t c
  | .mk k n ts, c, x, d, h, h2 => by
    simp only [shT, sbT]
    rw [sb_shL u hb k ts 0 c x d h h2]
    by_cases hk : k = 1 <;> simp only [hk, true_and, false_and, if_false]
    by_cases hn : c ≤ n
    · rw [if_pos hn, if_neg (by omega), if_pos (by omega), if_pos hn]; congr 1; omega
    · rw [if_neg hn, if_neg (by omega), if_neg (by omega), if_neg hn]
theorem sb_shL (u : T) {b : Int} (hb : 0 ≤ b) (k : Int) : ∀ (ts : List T) (i : Nat) (c x d : Int), c ≤ x → x ≤ c + b → sbL u k i (shL (b + 1) k i ts c) x d = shL b k i ts c
  | [], i, c, x, d, h, h2 => rfl
  | t :: ts, i, c, x, d, h, h2 => by
    simp only [shL, sbL]
    rw [sb_sh u hb t (c + under k i) (x + under k i) (d + under k i) (by omega) (by omega), sb_shL u hb k ts (i + 1) c x d h h2]
end
mutual
/-- A shift of variables outside, after a substitution. -/
theorem sh_sb (u : T) {a : Int} (ha : 0 ≤ a) : ∀ (t : T) (c x d : Int), 0 ≤ d → d ≤ x → x ≤ c → shT a (sbT u t x d) c = sbT (shT a u (c - d)) (shT a t (c + 1)) x d
  | .mk k n ts, c, x, d, h0, h1, h2 => by
    simp only [shT, sbT]
    by_cases hk : k = 1
    · subst hk
      simp only [true_and]
      by_cases hn : n = x
      · subst hn
        rw [if_pos rfl, if_neg (show ¬ c + 1 ≤ n by omega), if_pos rfl]
        have := sh_comm ha h0 u 0 (c - d) (by omega)
        rw [show c - d + d = c by omega] at this
        exact this
      · rw [if_neg hn, shT]
        by_cases hn2 : x < n
        · by_cases hn3 : c + 1 ≤ n
          · rw [if_pos hn3, if_neg (show ¬ n + a = x by omega), if_pos hn2, if_pos (show x < n + a by omega)]
            simp only [true_and, if_pos (show c ≤ n - 1 by omega), sh_sbL u ha 1 ts 0 c x d h0 h1 h2]
            congr 1; omega
          · rw [if_neg hn3, if_neg hn, if_pos hn2]
            simp only [true_and, if_neg (show ¬ c ≤ n - 1 by omega), sh_sbL u ha 1 ts 0 c x d h0 h1 h2]
        · rw [if_neg hn2, if_neg (show ¬ c + 1 ≤ n by omega), if_neg hn, if_neg hn2]
          simp only [true_and, if_neg (show ¬ c ≤ n by omega), sh_sbL u ha 1 ts 0 c x d h0 h1 h2]
    · simp only [hk, false_and, if_false, shT]
      rw [sh_sbL u ha k ts 0 c x d h0 h1 h2]
theorem sh_sbL (u : T) {a : Int} (ha : 0 ≤ a) (k : Int) : ∀ (ts : List T) (i : Nat) (c x d : Int), 0 ≤ d → d ≤ x → x ≤ c → shL a k i (sbL u k i ts x d) c = sbL (shT a u (c - d)) k i (shL a k i ts (c + 1)) x d
  | [], i, c, x, d, h0, h1, h2 => rfl
  | t :: ts, i, c, x, d, h0, h1, h2 => by
    have hu := under_bd k i
    simp only [shL, sbL]
    rw [sh_sb u ha t (c + under k i) (x + under k i) (d + under k i) (by omega) (by omega) (by omega), sh_sbL u ha k ts (i + 1) c x d h0 h1 h2,
      show c + under k i - (d + under k i) = c - d by omega, show c + 1 + under k i = c + under k i + 1 by omega]
end
mutual
/-- A shift of variables inside, after a substitution. -/
theorem sb_shift (u : T) {a : Int} (ha : 0 ≤ a) : ∀ (t : T) (c x d : Int), 0 ≤ c → c ≤ d → d ≤ x → shT a (sbT u t x d) c = sbT u (shT a t c) (x + a) (d + a)
  | .mk k n ts, c, x, d, h0, h1, h2 => by
    simp only [shT, sbT]
    by_cases hk : k = 1
    · subst hk
      simp only [true_and]
      by_cases hn : n = x
      · subst hn
        rw [if_pos rfl, if_pos (show c ≤ n by omega), if_pos rfl]
        rw [sh_add ha (by omega) u 0 c h0 (by omega), Int.add_comm]
      · rw [if_neg hn, shT]
        by_cases hn2 : c ≤ n
        · rw [if_pos hn2, if_neg (show ¬ n + a = x + a by omega)]
          by_cases hn3 : x < n
          · rw [if_pos hn3, if_pos (show x + a < n + a by omega)]
            simp only [true_and, if_pos (show c ≤ n - 1 by omega), sb_shiftL u ha 1 ts 0 c x d h0 h1 h2]
            congr 1; omega
          · rw [if_neg hn3, if_neg (show ¬ x + a < n + a by omega)]
            simp only [true_and, if_pos hn2, sb_shiftL u ha 1 ts 0 c x d h0 h1 h2]
        · rw [if_neg (show ¬ x < n by omega), if_neg hn2, if_neg (show ¬ n = x + a by omega), if_neg (show ¬ x + a < n by omega)]
          simp only [true_and, if_neg hn2, sb_shiftL u ha 1 ts 0 c x d h0 h1 h2]
    · simp only [hk, false_and, if_false, shT]
      rw [sb_shiftL u ha k ts 0 c x d h0 h1 h2]
theorem sb_shiftL (u : T) {a : Int} (ha : 0 ≤ a) (k : Int) : ∀ (ts : List T) (i : Nat) (c x d : Int), 0 ≤ c → c ≤ d → d ≤ x → shL a k i (sbL u k i ts x d) c = sbL u k i (shL a k i ts c) (x + a) (d + a)
  | [], i, c, x, d, h0, h1, h2 => rfl
  | t :: ts, i, c, x, d, h0, h1, h2 => by
    have hu := under_bd k i
    simp only [shL, sbL]
    rw [sb_shift u ha t (c + under k i) (x + under k i) (d + under k i) (by omega) (by omega) (by omega), sb_shiftL u ha k ts (i + 1) c x d h0 h1 h2,
      show x + under k i + a = x + a + under k i by omega, show d + under k i + a = d + a + under k i by omega]
end
mutual
/-- Substitutions commute. -/
theorem sb_sb (u v : T) : ∀ (t : T) (x d y e : Int), 0 ≤ d → d ≤ x → x ≤ e → e ≤ y → sbT v (sbT u t x d) y e = sbT (sbT v u (y - d) (e - d)) (sbT v t (y + 1) (e + 1)) x d
  | .mk k n ts, x, d, y, e, h0, h1, h2, h3 => by
    by_cases hk : k = 1
    · subst hk
      by_cases hn : n = x
      · subst hn
        rw [sbT, if_pos ⟨rfl, rfl⟩, sbT, if_neg (show ¬ ((1 : Int) = 1 ∧ n = y + 1) by omega), if_neg (show ¬ ((1 : Int) = 1 ∧ y + 1 < n) by omega), sbT, if_pos ⟨rfl, rfl⟩]
        have := sb_shift v h0 u 0 (y - d) (e - d) (by omega) (by omega) (by omega)
        rw [show y - d + d = y by omega, show e - d + d = e by omega] at this
        exact this.symm
      · rw [sbT, if_neg (show ¬ ((1 : Int) = 1 ∧ n = x) by omega)]
        by_cases hn2 : n = y + 1
        · subst hn2
          rw [if_pos (show (1 : Int) = 1 ∧ x < y + 1 by omega), sbT, if_pos (show (1 : Int) = 1 ∧ y + 1 - 1 = y by omega), sbT, if_pos ⟨rfl, rfl⟩]
          exact (sb_sh _ (by omega) v 0 x d (by omega) (by omega)).symm
        · have e2 : sbT v (.mk 1 n ts) (y + 1) (e + 1) = .mk 1 (if (1 : Int) = 1 ∧ y + 1 < n then n - 1 else n) (sbL v 1 0 ts (y + 1) (e + 1)) := by
            rw [sbT, if_neg (show ¬ ((1 : Int) = 1 ∧ n = y + 1) by omega)]
          rw [e2]
          by_cases hn3 : x < n
          · rw [if_pos (show (1 : Int) = 1 ∧ x < n by omega), sbT, if_neg (show ¬ ((1 : Int) = 1 ∧ n - 1 = y) by omega), sbT]
            by_cases hn4 : y + 1 < n
            · rw [if_pos (show (1 : Int) = 1 ∧ y < n - 1 by omega), if_pos (show (1 : Int) = 1 ∧ y + 1 < n by omega), if_neg (show ¬ ((1 : Int) = 1 ∧ n - 1 = x) by omega), if_pos (show (1 : Int) = 1 ∧ x < n - 1 by omega), sb_sbL u v 1 ts 0 x d y e h0 h1 h2 h3]
            · rw [if_neg (show ¬ ((1 : Int) = 1 ∧ y < n - 1) by omega), if_neg (show ¬ ((1 : Int) = 1 ∧ y + 1 < n) by omega), if_neg (show ¬ ((1 : Int) = 1 ∧ n = x) by omega), if_pos (show (1 : Int) = 1 ∧ x < n by omega), sb_sbL u v 1 ts 0 x d y e h0 h1 h2 h3]
          · rw [if_neg (show ¬ ((1 : Int) = 1 ∧ x < n) by omega), sbT, if_neg (show ¬ ((1 : Int) = 1 ∧ n = y) by omega), if_neg (show ¬ ((1 : Int) = 1 ∧ y < n) by omega), if_neg (show ¬ ((1 : Int) = 1 ∧ y + 1 < n) by omega), sbT, if_neg (show ¬ ((1 : Int) = 1 ∧ n = x) by omega), if_neg (show ¬ ((1 : Int) = 1 ∧ x < n) by omega), sb_sbL u v 1 ts 0 x d y e h0 h1 h2 h3]
    · simp only [sbT, hk, false_and, if_false]
      rw [sb_sbL u v k ts 0 x d y e h0 h1 h2 h3]
theorem sb_sbL (u v : T) (k : Int) : ∀ (ts : List T) (i : Nat) (x d y e : Int), 0 ≤ d → d ≤ x → x ≤ e → e ≤ y → sbL v k i (sbL u k i ts x d) y e = sbL (sbT v u (y - d) (e - d)) k i (sbL v k i ts (y + 1) (e + 1)) x d
  | [], i, x, d, y, e, h0, h1, h2, h3 => rfl
  | t :: ts, i, x, d, y, e, h0, h1, h2, h3 => by
    have hu := under_bd k i
    simp only [sbL]
    rw [sb_sb u v t (x + under k i) (d + under k i) (y + under k i) (e + under k i) (by omega) (by omega) (by omega) (by omega), sb_sbL u v k ts (i + 1) x d y e h0 h1 h2 h3,
      show y + under k i - (d + under k i) = y - d by omega, show e + under k i - (d + under k i) = e - d by omega, show y + 1 + under k i = y + under k i + 1 by omega, show e + 1 + under k i = e + under k i + 1 by omega]
end
/-! Operands. -/
def junk : T := .mk 0 0 []
def kd (t : T) (i : Nat) : T := t.kids.getD i junk
theorem sh_get (a k : Int) : ∀ (ts : List T) (i j : Nat) (c : Int), (shL a k i ts c).getD j junk = shT a (ts.getD j junk) (c + under k (i + j))
  | [], i, j, c => by simp [shL, junk, shT]
  | t :: ts, i, 0, c => by simp [shL]
  | t :: ts, i, j + 1, c => by
    simp only [shL, List.getD_cons_succ]
    rw [sh_get a k ts (i + 1) j c, show i + 1 + j = i + (j + 1) by omega]
theorem sb_get (u : T) (k : Int) : ∀ (ts : List T) (i j : Nat) (x d : Int), (sbL u k i ts x d).getD j junk = sbT u (ts.getD j junk) (x + under k (i + j)) (d + under k (i + j))
  | [], i, j, x, d => by simp [sbL, junk, sbT]
  | t :: ts, i, 0, x, d => by simp [sbL]
  | t :: ts, i, j + 1, x, d => by
    simp only [sbL, List.getD_cons_succ]
    rw [sb_get u k ts (i + 1) j x d, show i + 1 + j = i + (j + 1) by omega]
theorem sh_k (a : Int) (t : T) (c : Int) : (shT a t c).k = t.k := by cases t; rfl
theorem kd_sh (a : Int) (t : T) (c : Int) (j : Nat) : kd (shT a t c) j = shT a (kd t j) (c + under t.k j) := by
  cases t with | mk k n ts =>
  unfold kd
  rw [shT]
  show (shL a k 0 ts c).getD j junk = _
  rw [sh_get, Nat.zero_add]; rfl
theorem sb_k {u t : T} {x d : Int} (h : t.k ≠ 1) : (sbT u t x d).k = t.k := by
  cases t with | mk k n ts =>
  rw [sbT, if_neg (fun hh => h hh.1)]; rfl
theorem kd_sb {u t : T} {x d : Int} (h : t.k ≠ 1) (j : Nat) : kd (sbT u t x d) j = sbT u (kd t j) (x + under t.k j) (d + under t.k j) := by
  cases t with | mk k n ts =>
  have h' : k ≠ 1 := h
  unfold kd
  rw [sbT, if_neg (fun hh => h' hh.1)]
  show (sbL u k 0 ts x d).getD j junk = _
  rw [sb_get, Nat.zero_add]; rfl
/-! Redexes. -/
def redexT (t : T) : Int :=
  if t.k = 5 then (if (kd t 0).k = 4 then 1 else 0)
  else if t.k = 9 then (if (kd t 3).k = 7 then 2 else if (kd t 3).k = 8 then 3 else 0)
  else if t.k = 12 then (if (kd t 1).k = 11 then 4 else 0)
  else if t.k = 15 then (if (kd t 0).k = 14 then 5 else 0)
  else if t.k = 16 then (if (kd t 0).k = 14 then 6 else 0) else 0
def contractT (t : T) : T :=
  if t.k = 5 then sbT (kd t 1) (kd (kd t 0) 1) 0 0
  else if t.k = 9 then (if (kd t 3).k = 7 then kd t 1 else .mk 5 0 [.mk 5 0 [kd t 2, kd (kd t 3) 0], .mk 9 0 [kd t 0, kd t 1, kd t 2, kd (kd t 3) 0]])
  else if t.k = 12 then kd t 2
  else if t.k = 15 then kd (kd t 0) 1
  else kd (kd t 0) 2
/-- The forms of redexes. -/
inductive Rx : T → Prop
  | app {t} (h : t.k = 5) (h' : (kd t 0).k = 4) : Rx t
  | zero {t} (h : t.k = 9) (h' : (kd t 3).k = 7) : Rx t
  | succ {t} (h : t.k = 9) (h' : (kd t 3).k = 8) : Rx t
  | move {t} (h : t.k = 12) (h' : (kd t 1).k = 11) : Rx t
  | fst {t} (h : t.k = 15) (h' : (kd t 0).k = 14) : Rx t
  | snd {t} (h : t.k = 16) (h' : (kd t 0).k = 14) : Rx t
theorem rx_iff (t : T) : redexT t ≠ 0 ↔ Rx t := by
  constructor
  · intro h
    unfold redexT at h
    split at h
    · split at h
      · exact .app ‹_› ‹_›
      · exact absurd rfl h
    · split at h
      · split at h
        · exact .zero ‹_› ‹_›
        · split at h
          · exact .succ ‹_› ‹_›
          · exact absurd rfl h
      · split at h
        · split at h
          · exact .move ‹_› ‹_›
          · exact absurd rfl h
        · split at h
          · split at h
            · exact .fst ‹_› ‹_›
            · exact absurd rfl h
          · split at h
            · split at h
              · exact .snd ‹_› ‹_›
              · exact absurd rfl h
            · exact absurd rfl h
  · intro h
    cases h with
    | app h h' => simp [redexT, h, h']
    | zero h h' => simp [redexT, h, h']
    | succ h h' => simp [redexT, h, h']
    | move h h' => simp [redexT, h, h']
    | fst h h' => simp [redexT, h, h']
    | snd h h' => simp [redexT, h, h']
theorem Rx.k {t : T} (h : Rx t) : t.k = 5 ∨ t.k = 9 ∨ t.k = 12 ∨ t.k = 15 ∨ t.k = 16 := by cases h <;> omega
theorem Rx.sh {t : T} (h : Rx t) (a c : Int) : Rx (shT a t c) := by
  cases h with
  | app h h' => exact .app (by rw [sh_k, h]) (by rw [kd_sh, sh_k, h'])
  | zero h h' => exact .zero (by rw [sh_k, h]) (by rw [kd_sh, sh_k, h'])
  | succ h h' => exact .succ (by rw [sh_k, h]) (by rw [kd_sh, sh_k, h'])
  | move h h' => exact .move (by rw [sh_k, h]) (by rw [kd_sh, sh_k, h'])
  | fst h h' => exact .fst (by rw [sh_k, h]) (by rw [kd_sh, sh_k, h'])
  | snd h h' => exact .snd (by rw [sh_k, h]) (by rw [kd_sh, sh_k, h'])
theorem Rx.sb {t : T} (h : Rx t) (u : T) (x d : Int) : Rx (sbT u t x d) := by
  cases h with
  | app h h' => exact .app (by rw [sb_k (by omega), h]) (by rw [kd_sb (by omega), sb_k (by omega), h'])
  | zero h h' => exact .zero (by rw [sb_k (by omega), h]) (by rw [kd_sb (by omega), sb_k (by omega), h'])
  | succ h h' => exact .succ (by rw [sb_k (by omega), h]) (by rw [kd_sb (by omega), sb_k (by omega), h'])
  | move h h' => exact .move (by rw [sb_k (by omega), h]) (by rw [kd_sb (by omega), sb_k (by omega), h'])
  | fst h h' => exact .fst (by rw [sb_k (by omega), h]) (by rw [kd_sb (by omega), sb_k (by omega), h'])
  | snd h h' => exact .snd (by rw [sb_k (by omega), h]) (by rw [kd_sb (by omega), sb_k (by omega), h'])
theorem con_app {t : T} (h : t.k = 5) : contractT t = sbT (kd t 1) (kd (kd t 0) 1) 0 0 := by simp [contractT, h]
theorem con_zero {t : T} (h : t.k = 9) (h' : (kd t 3).k = 7) : contractT t = kd t 1 := by simp [contractT, h, h']
theorem con_succ {t : T} (h : t.k = 9) (h' : (kd t 3).k = 8) : contractT t = .mk 5 0 [.mk 5 0 [kd t 2, kd (kd t 3) 0], .mk 9 0 [kd t 0, kd t 1, kd t 2, kd (kd t 3) 0]] := by simp [contractT, h, h']
theorem con_move {t : T} (h : t.k = 12) : contractT t = kd t 2 := by simp [contractT, h]
theorem con_fst {t : T} (h : t.k = 15) : contractT t = kd (kd t 0) 1 := by simp [contractT, h]
theorem con_snd {t : T} (h : t.k = 16) : contractT t = kd (kd t 0) 2 := by simp [contractT, h]
theorem und0 {k : Int} {i : Nat} (h : k ≠ 3 ∧ k ≠ 4 ∧ k ≠ 13) : under k i = 0 := by unfold under; rw [if_neg (by omega)]
theorem con_sh {t : T} (h : Rx t) {a : Int} (ha : 0 ≤ a) {c : Int} (hc : 0 ≤ c) : shT a (contractT t) c = contractT (shT a t c) := by
  cases h with
  | app h h' =>
    rw [con_app h, con_app (by rw [sh_k, h]), sh_sb _ ha _ c 0 0 (by omega) (by omega) hc]
    simp only [kd_sh, h, h', und0 (show (5 : Int) ≠ 3 ∧ (5 : Int) ≠ 4 ∧ (5 : Int) ≠ 13 by decide), show under 4 1 = 1 from rfl, Int.add_zero, Int.sub_zero]
  | zero h h' => rw [con_zero h h', con_zero (by rw [sh_k, h]) (by rw [kd_sh, sh_k, h']), kd_sh, und0 (by omega), Int.add_zero]
  | succ h h' =>
    rw [con_succ h h', con_succ (by rw [sh_k, h]) (by rw [kd_sh, sh_k, h'])]
    simp only [kd_sh, h, h', shT, shL, und0 (show (5 : Int) ≠ 3 ∧ (5 : Int) ≠ 4 ∧ (5 : Int) ≠ 13 by decide), und0 (show (9 : Int) ≠ 3 ∧ (9 : Int) ≠ 4 ∧ (9 : Int) ≠ 13 by decide), und0 (show (8 : Int) ≠ 3 ∧ (8 : Int) ≠ 4 ∧ (8 : Int) ≠ 13 by decide), Int.add_zero]
    simp
  | move h h' => rw [con_move h, con_move (by rw [sh_k, h]), kd_sh, und0 (by omega), Int.add_zero]
  | fst h h' => rw [con_fst h, con_fst (by rw [sh_k, h]), kd_sh, kd_sh, und0 (by omega), und0 (by omega), Int.add_zero, Int.add_zero]
  | snd h h' => rw [con_snd h, con_snd (by rw [sh_k, h]), kd_sh, kd_sh, und0 (by omega), und0 (by omega), Int.add_zero, Int.add_zero]
theorem con_sb {t : T} (h : Rx t) (u : T) {x d : Int} (h0 : 0 ≤ d) (h1 : d ≤ x) : sbT u (contractT t) x d = contractT (sbT u t x d) := by
  cases h with
  | app h h' =>
    rw [con_app h, con_app (by rw [sb_k (by omega), h]), sb_sb _ _ _ 0 0 x d (by omega) (by omega) h0 h1]
    simp only [kd_sb (show t.k ≠ 1 by omega), h, kd_sb (show (kd t 0).k ≠ 1 by omega), h', und0 (show (5 : Int) ≠ 3 ∧ (5 : Int) ≠ 4 ∧ (5 : Int) ≠ 13 by decide), show under 4 1 = 1 from rfl, Int.add_zero, Int.sub_zero]
  | zero h h' => rw [con_zero h h', con_zero (by rw [sb_k (by omega), h]) (by rw [kd_sb (by omega), sb_k (by omega), h']), kd_sb (by omega), und0 (by omega), Int.add_zero, Int.add_zero]
  | succ h h' =>
    rw [con_succ h h', con_succ (by rw [sb_k (by omega), h]) (by rw [kd_sb (by omega), sb_k (by omega), h'])]
    simp only [kd_sb (show t.k ≠ 1 by omega), kd_sb (show (kd t 3).k ≠ 1 by omega), h, h', sbT, sbL, und0 (show (5 : Int) ≠ 3 ∧ (5 : Int) ≠ 4 ∧ (5 : Int) ≠ 13 by decide), und0 (show (9 : Int) ≠ 3 ∧ (9 : Int) ≠ 4 ∧ (9 : Int) ≠ 13 by decide), und0 (show (8 : Int) ≠ 3 ∧ (8 : Int) ≠ 4 ∧ (8 : Int) ≠ 13 by decide), Int.add_zero]
    simp
  | move h h' => rw [con_move h, con_move (by rw [sb_k (by omega), h]), kd_sb (by omega), und0 (by omega), Int.add_zero, Int.add_zero]
  | fst h h' => rw [con_fst h, con_fst (by rw [sb_k (by omega), h]), kd_sb (by omega), kd_sb (by omega), und0 (by omega), und0 (by omega)]; simp only [Int.add_zero]
  | snd h h' => rw [con_snd h, con_snd (by rw [sb_k (by omega), h]), kd_sb (by omega), kd_sb (by omega), und0 (by omega), und0 (by omega)]; simp only [Int.add_zero]
/-! Parallel reduction. -/
mutual
inductive Par : T → T → Prop
  | node {k n ts us} (h : ParL ts us) : Par (.mk k n ts) (.mk k n us)
  | red {k n ts us} (h : ParL ts us) (hr : Rx (.mk k n ts)) : Par (.mk k n ts) (contractT (.mk k n us))
inductive ParL : List T → List T → Prop
  | nil : ParL [] []
  | cons {t u ts us} (h : Par t u) (hs : ParL ts us) : ParL (t :: ts) (u :: us)
end
mutual
theorem Par.refl : ∀ t : T, Par t t
  | .mk k n ts => .node (ParL.refl ts)
theorem ParL.refl : ∀ ts : List T, ParL ts ts
  | [] => .nil
  | t :: ts => .cons (Par.refl t) (ParL.refl ts)
end
theorem ParL.get : ∀ {ts us : List T}, ParL ts us → ∀ j, Par (ts.getD j junk) (us.getD j junk)
  | _, _, .nil, j => by simpa using Par.refl junk
  | _, _, .cons h hs, 0 => by simpa using h
  | _, _, .cons h hs, j + 1 => by simpa using hs.get j
theorem ParL.len : ∀ {ts us : List T}, ParL ts us → ts.length = us.length
  | _, _, .nil => rfl
  | _, _, .cons h hs => by simp [hs.len]
theorem ParL.kd {k n : Int} {ts us : List T} (h : ParL ts us) (j : Nat) : Par (kd (.mk k n ts) j) (kd (.mk k n us) j) := h.get j
/-- What is no redex keeps its kind. -/
theorem Par.head {t u : T} (h : Par t u) (hk : t.k ≠ 5 ∧ t.k ≠ 9 ∧ t.k ≠ 12 ∧ t.k ≠ 15 ∧ t.k ≠ 16) : u.k = t.k ∧ ∀ j, Par (kd t j) (kd u j) := by
  cases h with
  | node h => exact ⟨rfl, h.kd⟩
  | red h hr => have := hr.k; simp only [T.k] at this hk; omega
theorem Rx.par {k n : Int} {ts us : List T} (hp : ParL ts us) (h : Rx (.mk k n ts)) : Rx (.mk k n us) := by
  cases h with
  | app h h' => exact .app h (by rw [((hp.kd (k := k) (n := n) 0).head (by omega)).1, h'])
  | zero h h' => exact .zero h (by rw [((hp.kd (k := k) (n := n) 3).head (by omega)).1, h'])
  | succ h h' => exact .succ h (by rw [((hp.kd (k := k) (n := n) 3).head (by omega)).1, h'])
  | move h h' => exact .move h (by rw [((hp.kd (k := k) (n := n) 1).head (by omega)).1, h'])
  | fst h h' => exact .fst h (by rw [((hp.kd (k := k) (n := n) 0).head (by omega)).1, h'])
  | snd h h' => exact .snd h (by rw [((hp.kd (k := k) (n := n) 0).head (by omega)).1, h'])
mutual
theorem Par.sh {a : Int} (ha : 0 ≤ a) : ∀ {t u : T}, Par t u → ∀ c : Int, 0 ≤ c → Par (shT a t c) (shT a u c)
  | _, _, .node h, c, hc => by
    simp only [shT]
    exact .node (ParL.sh ha h _ 0 c hc)
  | _, _, .red (k := k) (n := n) (us := us) h hr, c, hc => by
    rw [con_sh (Rx.par h hr) ha hc]
    simp only [shT]
    exact .red (ParL.sh ha h _ 0 c hc) (by have := hr.sh a c; rwa [shT] at this)
theorem ParL.sh {a : Int} (ha : 0 ≤ a) : ∀ {ts us : List T}, ParL ts us → ∀ (k : Int) (i : Nat) (c : Int), 0 ≤ c → ParL (shL a k i ts c) (shL a k i us c)
  | _, _, .nil, k, i, c, hc => .nil
  | _, _, .cons h hs, k, i, c, hc => by
    have := under_bd k i
    simp only [shL]
    exact .cons (Par.sh ha h _ (by omega)) (ParL.sh ha hs k (i + 1) c hc)
end
mutual
theorem Par.sb {v w : T} (hv : Par v w) : ∀ {t u : T}, Par t u → ∀ x d : Int, 0 ≤ d → d ≤ x → Par (sbT v t x d) (sbT w u x d)
  | _, _, .node (k := k) (n := n) h, x, d, h0, h1 => by
    simp only [sbT]
    split
    · exact hv.sh h0 0 (by omega)
    · exact .node (ParL.sb hv h _ 0 x d h0 h1)
  | _, _, .red (k := k) (n := n) (us := us) h hr, x, d, h0, h1 => by
    have hk : k ≠ 1 := by have := hr.k; simp only [T.k] at this; omega
    rw [con_sb (Rx.par h hr) w h0 h1]
    simp only [sbT, hk, false_and, if_false]
    exact .red (ParL.sb hv h _ 0 x d h0 h1) (by have := hr.sb v x d; rwa [sbT, if_neg (fun hh => hk hh.1), if_neg (fun hh => hk hh.1)] at this)
theorem ParL.sb {v w : T} (hv : Par v w) : ∀ {ts us : List T}, ParL ts us → ∀ (k : Int) (i : Nat) (x d : Int), 0 ≤ d → d ≤ x → ParL (sbL v k i ts x d) (sbL w k i us x d)
  | _, _, .nil, k, i, x, d, h0, h1 => .nil
  | _, _, .cons h hs, k, i, x, d, h0, h1 => by
    have := under_bd k i
    simp only [sbL]
    exact .cons (Par.sb hv h _ _ (by omega) (by omega)) (ParL.sb hv hs k (i + 1) x d h0 h1)
end
theorem Par.con {k n : Int} {ts us : List T} (hp : ParL ts us) (h : Rx (.mk k n ts)) : Par (contractT (.mk k n ts)) (contractT (.mk k n us)) := by
  have hk := fun j => hp.kd (k := k) (n := n) j
  have hr := h.par hp
  cases h with
  | app h h' =>
    rw [con_app h, con_app (t := .mk k n us) h]
    exact Par.sb (hk 1) (((hk 0).head (by omega)).2 1) 0 0 (by omega) (by omega)
  | zero h h' => rw [con_zero h h', con_zero (t := .mk k n us) h (by rw [((hk 3).head (by omega)).1, h'])]; exact hk 1
  | succ h h' =>
    rw [con_succ h h', con_succ (t := .mk k n us) h (by rw [((hk 3).head (by omega)).1, h'])]
    have h0 := ((hk 3).head (by omega)).2 0
    exact .node (.cons (.node (.cons (hk 2) (.cons h0 .nil))) (.cons (.node (.cons (hk 0) (.cons (hk 1) (.cons (hk 2) (.cons h0 .nil))))) .nil))
  | move h h' => rw [con_move h, con_move (t := .mk k n us) h]; exact hk 2
  | fst h h' => rw [con_fst h, con_fst (t := .mk k n us) h]; exact ((hk 0).head (by omega)).2 1
  | snd h h' => rw [con_snd h, con_snd (t := .mk k n us) h]; exact ((hk 0).head (by omega)).2 2
/-! Complete developments. -/
instance (t : T) : Decidable (Rx t) := decidable_of_iff _ (rx_iff t)
mutual
def devT : T → T
  | .mk k n ts => if Rx (.mk k n ts) then contractT (.mk k n (devL ts)) else .mk k n (devL ts)
def devL : List T → List T
  | [] => []
  | t :: ts => devT t :: devL ts
end
mutual
theorem Par.tri : ∀ {t u : T}, Par t u → Par u (devT t)
  | _, _, .node (k := k) (n := n) (ts := ts) h => by
    rw [devT]
    split
    · rename_i hr
      exact .red (ParL.tri h) (hr.par h)
    · exact .node (ParL.tri h)
  | _, _, .red h hr => by
    rw [devT, if_pos hr]
    exact Par.con (ParL.tri h) (hr.par h)
theorem ParL.tri : ∀ {ts us : List T}, ParL ts us → ParL us (devL ts)
  | _, _, .nil => .nil
  | _, _, .cons h hs => .cons (Par.tri h) (ParL.tri hs)
end
/-- Reduction: any number of parallel steps. -/
inductive Red : T → T → Prop
  | refl {t} : Red t t
  | step {t u v} (h : Par t u) (hs : Red u v) : Red t v
theorem Red.one {t u : T} (h : Par t u) : Red t u := .step h .refl
theorem Red.trans {t u v : T} (h : Red t u) (h' : Red u v) : Red t v := by
  induction h with
  | refl => exact h'
  | step h _ ih => exact .step h (ih h')
theorem Red.strip {t u v : T} (h : Par t u) (h' : Red t v) : ∃ w, Red u w ∧ Par v w := by
  induction h' generalizing u with
  | refl => exact ⟨u, .refl, h⟩
  | step h1 _ ih =>
    obtain ⟨w, hw, hv⟩ := ih h1.tri
    exact ⟨w, .step h.tri hw, hv⟩
theorem Red.confl {t u v : T} (h : Red t u) (h' : Red t v) : ∃ w, Red u w ∧ Red v w := by
  induction h generalizing v with
  | refl => exact ⟨v, h', .refl⟩
  | step h1 _ ih =>
    obtain ⟨w, hw, hv⟩ := Red.strip h1 h'
    obtain ⟨z, hz, hz'⟩ := ih hw
    exact ⟨z, hz, .step hv hz'⟩
/-! Normal terms. -/
mutual
def nfB : T → Bool
  | .mk k n ts => !decide (Rx (.mk k n ts)) && nfL ts
def nfL : List T → Bool
  | [] => true
  | t :: ts => nfB t && nfL ts
end
mutual
theorem nf_par : ∀ {t u : T}, Par t u → nfB t = true → u = t
  | _, _, .node h, hn => by
    simp only [nfB, Bool.and_eq_true] at hn
    rw [nf_parL h hn.2]
  | _, _, .red h hr, hn => by
    simp only [nfB, Bool.and_eq_true, Bool.not_eq_true', decide_eq_false_iff_not] at hn
    exact absurd hr hn.1
theorem nf_parL : ∀ {ts us : List T}, ParL ts us → nfL ts = true → us = ts
  | _, _, .nil, _ => rfl
  | _, _, .cons h hs, hn => by
    simp only [nfL, Bool.and_eq_true] at hn
    rw [nf_par h hn.1, nf_parL hs hn.2]
end
theorem nf_red {t u : T} (h : Red t u) (hn : nfB t = true) : u = t := by
  induction h with
  | refl => rfl
  | step h _ ih =>
    have := nf_par h hn
    subst this
    exact ih hn
theorem nf_uniq {t a b : T} (ha : Red t a) (hb : Red t b) (na : nfB a = true) (nb : nfB b = true) : a = b := by
  obtain ⟨w, h1, h2⟩ := Red.confl ha hb
  rw [← nf_red h1 na, ← nf_red h2 nb]
/-! Steps. -/
mutual
/-- A step at the first redex from outside, or from inside. -/
def stT (inn : Bool) : T → Option T
  | .mk k n ts => if inn = false ∧ Rx (.mk k n ts) then some (contractT (.mk k n ts)) else
    match stL inn ts with
    | some us => some (.mk k n us)
    | none => if inn = true ∧ Rx (.mk k n ts) then some (contractT (.mk k n ts)) else none
def stL (inn : Bool) : List T → Option (List T)
  | [] => none
  | t :: ts => match stT inn t with
    | some u => some (u :: ts)
    | none => (stL inn ts).map (t :: ·)
end
mutual
theorem st_par {inn : Bool} : ∀ {t u : T}, stT inn t = some u → Par t u
  | .mk k n ts, u, h => by
    rw [stT] at h
    split at h
    · rename_i hr
      obtain rfl := Option.some.inj h
      exact .red (ParL.refl ts) hr.2
    · split at h
      · rename_i us hs
        obtain rfl := Option.some.inj h
        exact .node (st_parL hs)
      · split at h
        · rename_i hr
          obtain rfl := Option.some.inj h
          exact .red (ParL.refl ts) hr.2
        · cases h
theorem st_parL {inn : Bool} : ∀ {ts us : List T}, stL inn ts = some us → ParL ts us
  | [], us, h => by cases h
  | t :: ts, us, h => by
    rw [stL] at h
    split at h
    · rename_i u hu
      obtain rfl := Option.some.inj h
      exact .cons (st_par hu) (ParL.refl ts)
    · obtain ⟨vs, hv, rfl⟩ := Option.map_eq_some_iff.1 h
      exact .cons (Par.refl t) (st_parL hv)
end
mutual
theorem st_none {inn : Bool} : ∀ {t : T}, stT inn t = none ↔ nfB t = true
  | .mk k n ts => by
    rw [stT, nfB]
    have := st_noneL (inn := inn) (ts := ts)
    by_cases hr : Rx (.mk k n ts)
    · cases inn <;> cases hs : stL _ ts <;> simp [hr]
    · cases hs : stL inn ts <;> rw [hs] at this <;> simp [hr] at this ⊢ <;> exact this
theorem st_noneL {inn : Bool} : ∀ {ts : List T}, stL inn ts = none ↔ nfL ts = true
  | [] => by simp [stL, nfL]
  | t :: ts => by
    rw [stL, nfL]
    have h1 := st_none (inn := inn) (t := t)
    have h2 := st_noneL (inn := inn) (ts := ts)
    cases hs : stT inn t <;> rw [hs] at h1 <;> simp at h1
    · cases ht : stL inn ts <;> rw [ht] at h2 <;> simp at h2 <;> simp [h1, h2]
    · simp [h1]
end

/-! Sizes, and terms whose numbers are small. -/
mutual
theorem sh_size (a : Int) : ∀ (t : T) (c : Int), (shT a t c).size = t.size
  | .mk k n ts, c => by rw [shT, T.size, T.size, sh_sizeL a k ts 0 c]
theorem sh_sizeL (a k : Int) : ∀ (ts : List T) (i : Nat) (c : Int), T.sizeL (shL a k i ts c) = T.sizeL ts
  | [], i, c => rfl
  | t :: ts, i, c => by rw [shL, T.sizeL, T.sizeL, sh_size a t, sh_sizeL a k ts]
end
theorem size_pos (t : T) : 1 ≤ t.size := by have := T.size_eq t; omega
mutual
theorem sb_size (u : T) : ∀ (t : T) (x d : Int), (sbT u t x d).size ≤ t.size * u.size
  | .mk k n ts, x, d => by
    have hu := size_pos u
    rw [sbT]
    split
    · rw [sh_size, T.size]; exact Nat.le_mul_of_pos_left _ (by omega)
    · rw [T.size, T.size, Nat.add_mul, Nat.one_mul]
      have := sb_sizeL u k ts 0 x d
      omega
theorem sb_sizeL (u : T) (k : Int) : ∀ (ts : List T) (i : Nat) (x d : Int), T.sizeL (sbL u k i ts x d) ≤ T.sizeL ts * u.size
  | [], i, x, d => by simp [sbL, T.sizeL]
  | t :: ts, i, x, d => by
    rw [sbL, T.sizeL, T.sizeL, Nat.add_mul]
    have h1 := sb_size u t (x + under k i) (d + under k i)
    have h2 := sb_sizeL u k ts (i + 1) x d
    omega
end
theorem sh_len (a k : Int) : ∀ (ts : List T) (i : Nat) (c : Int), (shL a k i ts c).length = ts.length
  | [], i, c => rfl
  | t :: ts, i, c => by rw [shL, List.length_cons, List.length_cons, sh_len a k ts]
theorem sh_elem (a k : Int) : ∀ (ts : List T) (i j : Nat) (c : Int) (h : j < ts.length), (shL a k i ts c)[j]'(by rw [sh_len]; exact h) = shT a ts[j] (c + under k (i + j))
  | t :: ts, i, 0, c, h => rfl
  | t :: ts, i, j + 1, c, h => by
    have := sh_elem a k ts (i + 1) j c (by simpa using h)
    simp only [shL, List.getElem_cons_succ]
    rw [this, show i + 1 + j = i + (j + 1) by omega]
mutual
/-- Numbers are small, and variables have no operands. -/
def gdB : T → Bool
  | .mk k n ts => decide (0 ≤ n ∧ n ≤ 20 ∧ (k = 1 → ts = [])) && gdL ts
def gdL : List T → Bool
  | [] => true
  | t :: ts => gdB t && gdL ts
end
theorem gdL_mem {u : T} : ∀ {ts : List T}, gdL ts = true → u ∈ ts → gdB u = true
  | t :: ts, h, hu => by
    simp only [gdL, Bool.and_eq_true] at h
    rcases List.mem_cons.1 hu with rfl | hu
    · exact h.1
    · exact gdL_mem h.2 hu
theorem gd_out {t : T} (h : gdB t = true) : 0 ≤ t.n ∧ t.n ≤ 20 ∧ (t.k = 1 → t.kids = []) ∧ ∀ u ∈ t.kids, gdB u = true := by
  cases t with | mk k n ts =>
  simp only [gdB, Bool.and_eq_true, decide_eq_true_eq] at h
  exact ⟨h.1.1, h.1.2.1, h.1.2.2, fun u hu => gdL_mem h.2 hu⟩
mutual
theorem gd_shape : ∀ (t : T) (d : Nat), shapeF t d = true → gdB t = true
  | .mk k n ts, d, h => by
    simp only [shapeF, Bool.and_eq_true, decide_eq_true_eq] at h
    simp only [gdB, Bool.and_eq_true, decide_eq_true_eq]
    refine ⟨⟨h.2.2.1.1, ?_, fun hk => ?_⟩, gd_shapeL ts _ h.2.2.2⟩
    · have := h.2.2.1.2
      unfold mostOf at this
      split at this
      · exact this
      · split at this <;> omega
    · subst hk
      have h0 := h.2.1
      have : (ts.length : Int) = 0 := by rw [← h0]; rfl
      exact List.eq_nil_of_length_eq_zero (by omega)
theorem gd_shapeL : ∀ (ts : List T) (d : Nat), shapeL ts d = true → gdL ts = true
  | [], d, _ => rfl
  | t :: ts, d, h => by
    simp only [shapeL, Bool.and_eq_true] at h
    rw [gdL, gd_shape t d h.1, gd_shapeL ts d h.2]; rfl
end
theorem gd_valid {t : T} (h : validB t = true) : gdB t = true := by
  unfold validB at h
  rw [Bool.and_eq_true] at h
  exact gd_shape t 30 h.1
/-! When a shift, or a substitution, stays within the limits. -/
mutual
def okS (a : Int) : T → Int → Bool
  | .mk k n ts, c => if k = 1 then (if c ≤ n then decide (c ≤ n + a) && decide (n + a ≤ 20) else true) else okSL a k 0 ts c
def okSL (a k : Int) : Nat → List T → Int → Bool
  | _, [], _ => true
  | i, t :: ts, c => okS a t (c + under k i) && okSL a k (i + 1) ts c
end
theorem kid_of {k n : Int} {ts : List T} (h : validB (.mk k n ts) = true) {u : T} (hu : u ∈ ts) : validB u = true := validB_kid h hu
mutual
theorem okS_valid {a : Int} (ha : 0 ≤ a) : ∀ (t : T) (c : Int), validB (shT a t c) = true → okS a t c = true
  | .mk k n ts, c, h => by
    rw [okS]
    rw [shT] at h
    split
    · rename_i hk
      subst hk
      split
      · rename_i hc
        have := (validB_ops h).2.2
        simp only [T.n, T.k, true_and, if_pos hc] at this
        have h3 : mostOf 1 = 20 := rfl
        rw [h3] at this
        simp; omega
      · rfl
    · exact okS_validL ha k ts 0 c fun u hu => kid_of h hu
theorem okS_validL {a : Int} (ha : 0 ≤ a) (k : Int) : ∀ (ts : List T) (i : Nat) (c : Int), (∀ u ∈ shL a k i ts c, validB u = true) → okSL a k i ts c = true
  | [], i, c, _ => rfl
  | t :: ts, i, c, h => by
    rw [shL] at h
    rw [okSL, okS_valid ha t _ (h _ (List.mem_cons_self ..)), okS_validL ha k ts (i + 1) c fun u hu => h u (List.mem_cons_of_mem _ hu)]; rfl
end
mutual
def okB (u : T) : T → Int → Int → Bool
  | .mk k n ts, x, d => if k = 1 then (if n = x then validB (shT d u 0) else true) else okBL u k 0 ts x d
def okBL (u : T) (k : Int) : Nat → List T → Int → Int → Bool
  | _, [], _, _ => true
  | i, t :: ts, x, d => okB u t (x + under k i) (d + under k i) && okBL u k (i + 1) ts x d
end
mutual
theorem okB_valid (u : T) : ∀ (t : T) (x d : Int), validB (sbT u t x d) = true → okB u t x d = true
  | .mk k n ts, x, d, h => by
    rw [okB]
    rw [sbT] at h
    split
    · rename_i hk
      subst hk
      split
      · rename_i hn
        rwa [if_pos ⟨rfl, hn⟩] at h
      · rfl
    · rename_i hk
      rw [if_neg (fun hh => hk hh.1)] at h
      exact okB_validL u k ts 0 x d fun u hu => kid_of h hu
theorem okB_validL (u : T) (k : Int) : ∀ (ts : List T) (i : Nat) (x d : Int), (∀ v ∈ sbL u k i ts x d, validB v = true) → okBL u k i ts x d = true
  | [], i, x, d, _ => rfl
  | t :: ts, i, x, d, h => by
    rw [sbL] at h
    rw [okBL, okB_valid u t _ _ (h _ (List.mem_cons_self ..)), okB_validL u k ts (i + 1) x d fun u hu => h u (List.mem_cons_of_mem _ hu)]; rfl
end
/-! Ways to redexes. -/
mutual
def wyT (inn : Bool) : T → Option (List Nat)
  | .mk k n ts => if inn = false ∧ Rx (.mk k n ts) then some [] else
    match wyL inn 0 ts with
    | some w => some w
    | none => if inn = true ∧ Rx (.mk k n ts) then some [] else none
def wyL (inn : Bool) : Nat → List T → Option (List Nat)
  | _, [] => none
  | i, t :: ts => match wyT inn t with
    | some w => some (i :: w)
    | none => wyL inn (i + 1) ts
end
def atT : T → List Nat → T
  | t, [] => t
  | t, i :: w => atT (kd t i) w
def puT : T → List Nat → T → T
  | _, [], u => u
  | t, i :: w, u => .mk t.k t.n (t.kids.set i (puT (kd t i) w u))
/-- The way leads through operands. -/
def wyOk : T → List Nat → Prop
  | _, [] => True
  | t, i :: w => i < t.kids.length ∧ wyOk (kd t i) w
mutual
theorem wy_some {inn : Bool} : ∀ {t : T} {w : List Nat}, wyT inn t = some w → wyOk t w ∧ Rx (atT t w) ∧ stT inn t = some (puT t w (contractT (atT t w)))
  | .mk k n ts, w, h => by
    rw [wyT] at h
    rw [stT]
    split at h
    · rename_i hr
      obtain rfl := Option.some.inj h
      exact ⟨trivial, hr.2, by rw [if_pos hr]; rfl⟩
    · rename_i hr
      rw [if_neg hr]
      split at h
      · rename_i w' hw
        obtain rfl := Option.some.inj h
        obtain ⟨i, v, rfl, hi, h1, h2, h3⟩ := wy_someL hw
        refine ⟨⟨by simpa [T.kids] using hi, by simpa [kd, T.kids] using h1⟩, by simpa [atT, kd, T.kids] using h2, ?_⟩
        rw [h3]
        simp [puT, T.k, T.n, T.kids, kd, atT]
      · rename_i hw
        split at h
        · rename_i hr2
          obtain rfl := Option.some.inj h
          have hn : stL inn ts = none := wy_noneL hw
          refine ⟨trivial, hr2.2, ?_⟩
          rw [hn]
          simp only
          rw [if_pos hr2]; rfl
        · cases h
theorem wy_someL {inn : Bool} : ∀ {ts : List T} {j : Nat} {w : List Nat}, wyL inn j ts = some w → ∃ i v, w = (j + i) :: v ∧ i < ts.length ∧ wyOk (ts.getD i junk) v ∧ Rx (atT (ts.getD i junk) v) ∧ stL inn ts = some (ts.set i (puT (ts.getD i junk) v (contractT (atT (ts.getD i junk) v))))
  | [], j, w, h => by cases h
  | t :: ts, j, w, h => by
    rw [wyL] at h
    rw [stL]
    split at h
    · rename_i v hv
      obtain rfl := Option.some.inj h
      obtain ⟨h1, h2, h3⟩ := wy_some hv
      exact ⟨0, v, by simp, by simp, by simpa using h1, by simpa using h2, by rw [h3]; simp⟩
    · rename_i hv
      obtain ⟨i, v, rfl, hi, h1, h2, h3⟩ := wy_someL h
      refine ⟨i + 1, v, by simp; omega, by simpa using hi, by simpa using h1, by simpa using h2, ?_⟩
      rw [wy_none hv, h3]; simp
theorem wy_none {inn : Bool} : ∀ {t : T}, wyT inn t = none → stT inn t = none
  | .mk k n ts, h => by
    rw [wyT] at h
    rw [stT]
    split at h
    · cases h
    · rename_i hr
      rw [if_neg hr]
      split at h
      · cases h
      · rename_i hw
        split at h
        · cases h
        · rename_i hr2
          rw [wy_noneL hw]
          simp only
          rw [if_neg hr2]
theorem wy_noneL {inn : Bool} : ∀ {ts : List T} {j : Nat}, wyL inn j ts = none → stL inn ts = none
  | [], j, _ => rfl
  | t :: ts, j, h => by
    rw [wyL] at h
    rw [stL]
    split at h
    · cases h
    · rename_i hv
      rw [wy_none hv, wy_noneL h]; rfl
end
theorem put_valid : ∀ {w : List Nat} {t u : T}, wyOk t w → validB (puT t w u) = true → validB u = true
  | [], t, u, _, h => h
  | i :: w, t, u, hw, h => by
    rw [puT] at h
    refine put_valid hw.2 (validB_kid h (u := puT (kd t i) w u) ?_)
    show _ ∈ t.kids.set i _
    exact List.mem_iff_getElem.2 ⟨i, by simpa using hw.1, by simp⟩
theorem kd_mem {t : T} {i : Nat} (h : i < t.kids.length) : kd t i ∈ t.kids := by
  rw [show kd t i = t.kids[i] by unfold kd; simp [List.getD, h]]
  exact List.getElem_mem h
theorem at_valid : ∀ {w : List Nat} {t : T}, wyOk t w → validB t = true → validB (atT t w) = true
  | [], t, _, h => h
  | i :: w, t, hw, h => at_valid (w := w) hw.2 (validB_kid h (kd_mem hw.1))
theorem put_size : ∀ {w : List Nat} {t u : T}, wyOk t w → (puT t w u).size ≤ t.size + u.size
  | [], t, u, _ => by simp [puT]
  | i :: w, t, u, hw => by
    rw [puT, T.size, T.size_eq t]
    have h1 := put_size (u := u) hw.2
    have h2 : ∀ (ts : List T) (i : Nat) (v : T) (s : Nat), i < ts.length → v.size ≤ (ts.getD i junk).size + s → T.sizeL (ts.set i v) ≤ T.sizeL ts + s := by
      intro ts
      induction ts with
      | nil => intro i v s h; simp at h
      | cons t ts ih =>
        intro i v s hi hv
        cases i with
        | zero => simp only [List.set_cons_zero, T.sizeL, List.getD_cons_zero] at hv ⊢; omega
        | succ i =>
          simp only [List.set_cons_succ, T.sizeL, List.getD_cons_succ] at hv ⊢
          have := ih i v s (by simpa using hi) hv
          omega
    have := h2 t.kids i _ u.size hw.1 h1
    omega
/-- At most g steps: the term, how many steps were taken, and a code. -/
def redF (inn : Bool) : Nat → Nat → T → T × Nat × Int
  | 0, s, t => match stT inn t with
    | none => (t, s, 0)
    | some _ => (junk, s, 1)
  | g + 1, s, t => match stT inn t with
    | none => (t, s, 0)
    | some u => if validB u then redF inn g (s + 1) u else (junk, s, 2)
end Go.Proofs.YthopkmimhlcjkaaGreat
end
section
/- The functions of terms in the abstract run: validity, copies, equality. -/
set_option linter.unusedVariables false
set_option linter.unusedSimpArgs false
namespace Go.Proofs.YthopkmimhlcjkaaGreat
open Go Go.Ab Go.Dk
abbrev tm (t : T) : V1 := .agg [.int .i64 t.k, .int .i64 t.n, .fr (.ts t.kids)]
abbrev tms (l : List T) : V1 := .one (.fr (.ts l))
abbrev nt (n : Int) : V1 := .one (.int .i64 n)
abbrev bl (b : Bool) : V1 := .one (.bool b)
abbrev termT : TypeId := 35
/-- A term whose operands are the call's own. -/
abbrev ow (t : T) : List V1 × List AObj := ([.agg [.int .i64 t.k, .int .i64 t.n, .own 0 0]], [.arr termT (.ts t.kids) 0 false])
theorem T.eta (t : T) : T.mk t.k t.n t.kids = t := by cases t; rfl
theorem mk_k (k n : Int) (l : List T) : (T.mk k n l).k = k := rfl
theorem mk_n (k n : Int) (l : List T) : (T.mk k n l).n = n := rfl
theorem mk_kids (k n : Int) (l : List T) : (T.mk k n l).kids = l := rfl
theorem rTerm_tm (t : T) (l : List V1) (k : T → List V1 → OR) : rTerm (.agg [.int .i64 t.k, .int .i64 t.n, .fr (.ts t.kids)] :: l) k = k t l := by cases t; rfl
theorem evt : type_of% (And.intro @evs <| And.intro @rTerm_tm <| And.intro @T.eta <| And.intro @mk_k <| And.intro @mk_n <| And.intro @mk_kids <| And.intro @Option.bind_none.{0,0} <| And.intro @Bool.not_true <| And.intro @Bool.not_false <| And.intro @Bool.true_and <| And.intro @Bool.and_true <| And.intro @Bool.and_false <| And.intro @Bool.false_and <| And.intro @Bool.and_self <| And.intro @decide_true @decide_false) := And.intro @evs <| And.intro @rTerm_tm <| And.intro @T.eta <| And.intro @mk_k <| And.intro @mk_n <| And.intro @mk_kids <| And.intro @Option.bind_none.{0,0} <| And.intro @Bool.not_true <| And.intro @Bool.not_false <| And.intro @Bool.true_and <| And.intro @Bool.and_true <| And.intro @Bool.and_false <| And.intro @Bool.false_and <| And.intro @Bool.and_self <| And.intro @decide_true @decide_false
theorem pos_succ {n : Nat} (h : 0 < n) : ∃ m, n = m + 1 := ⟨n - 1, by omega⟩
theorem cast1 (i : Nat) : (i : Int) + 1 = ((i + 1 : Nat) : Int) := rfl
theorem roomB_ok {n : Nat} (h : n ≤ 1099511627776) : roomB n = true := decide_eq_true h
theorem take_snoc {α : Type} {l : List α} {i : Nat} (h : i < l.length) : l.take i ++ [l[i]] = l.take (i + 1) := by rw [List.take_add_one, List.getElem?_eq_getElem h]; rfl
theorem f_within {n : Nat} (hn : 1 ≤ n) (a b c : Int) : FF n 83 [nt a, nt b, nt c] [] = some ([bl (decide (b ≤ a) && decide (a ≤ c))], []) := by
  obtain ⟨n, rfl⟩ := pos_succ (show 0 < n by omega)
  rw [E_impl_within]
  by_cases h : b ≤ a <;> simp [h]
theorem f_most {n : Nat} (hn : 1 ≤ n) (k : Int) : FF n 135 [nt k] [] = some ([nt (mostOf k)], []) := by
  obtain ⟨n, rfl⟩ := pos_succ (show 0 < n by omega)
  rw [E_impl_most]
  unfold mostOf
  by_cases h : k = 1 <;> by_cases h2 : k = 2 <;> simp [h, h2]
theorem f_l1Most {n : Nat} (hn : 1 ≤ n) (k : Int) : FF n 138 [nt k] [] = some ([nt (mostOf k)], []) := by
  obtain ⟨n, rfl⟩ := pos_succ (show 0 < n by omega)
  rw [E_spec_l1Most]
  unfold mostOf
  by_cases h : k = 1 <;> by_cases h2 : k = 2 <;> simp [h, h2]
theorem ops_list (k : Int) (h : 1 ≤ k ∧ k ≤ 16) : ([0, 0, 2, 2, 2, 0, 0, 1, 4, 3, 1, 3, 2, 3, 1, 1] : List Int)[(k - 1).toNat]? = some (opsOf k) := by
  have : k = 1 ∨ k = 2 ∨ k = 3 ∨ k = 4 ∨ k = 5 ∨ k = 6 ∨ k = 7 ∨ k = 8 ∨ k = 9 ∨ k = 10 ∨ k = 11 ∨ k = 12 ∨ k = 13 ∨ k = 14 ∨ k = 15 ∨ k = 16 := by omega
  rcases this with rfl | rfl | rfl | rfl | rfl | rfl | rfl | rfl | rfl | rfl | rfl | rfl | rfl | rfl | rfl | rfl <;> rfl
theorem f_operands {n : Nat} (hn : 2 ≤ n) (k : Int) : FF n 134 [nt k] [] = some ([nt (opsOf k)], []) := by
  obtain ⟨n, rfl⟩ := pos_succ (show 0 < n by omega)
  rw [E_impl_operands, f_within (by omega)]
  by_cases h : 1 ≤ k ∧ k ≤ 16
  · simp only [evs, decide_eq_true h.1, decide_eq_true h.2, Bool.and_self, Bool.not_true, wrap64 (show -9223372036854775808 ≤ k - 1 ∧ k - 1 ≤ 9223372036854775807 by omega), decide_eq_true (show 0 ≤ k - 1 by omega),
      show (([0, 0, 2, 2, 2, 0, 0, 1, 4, 3, 1, 3, 2, 3, 1, 1] : List Nat).length : Int) = 16 from rfl, decide_eq_true (show k - 1 < 16 by omega), ops_list k h]
  · have : (decide (1 ≤ k) && decide (k ≤ 16)) = false := by
      rw [Bool.and_eq_false_iff, decide_eq_false_iff_not, decide_eq_false_iff_not]; omega
    simp only [evs, this, Bool.not_false]
    unfold opsOf
    rw [if_neg (by omega), if_neg (by omega), if_neg (by omega), if_neg (by omega), if_neg (by omega)]
theorem f_l1Kids {n : Nat} (hn : 1 ≤ n) (k : Int) : FF n 137 [nt k] [] = some ([nt (opsOf k)], []) := by
  obtain ⟨n, rfl⟩ := pos_succ (show 0 < n by omega)
  rw [E_spec_l1Kids]
  by_cases h : k = 1 ∨ k = 2 ∨ k = 3 ∨ k = 4 ∨ k = 5 ∨ k = 6 ∨ k = 7 ∨ k = 8 ∨ k = 9 ∨ k = 10 ∨ k = 11 ∨ k = 12 ∨ k = 13 ∨ k = 14 ∨ k = 15 ∨ k = 16
  · rcases h with rfl | rfl | rfl | rfl | rfl | rfl | rfl | rfl | rfl | rfl | rfl | rfl | rfl | rfl | rfl | rfl <;> rfl
  · unfold opsOf
    rw [if_neg (by omega), if_neg (by omega), if_neg (by omega), if_neg (by omega), if_neg (by omega)]
    simp (disch := omega) only [cond_dec, if_neg]
theorem f_isBinder {n : Nat} (hn : 1 ≤ n) (k : Int) : FF n 181 [nt k] [] = some ([bl (decide (k = 3 ∨ k = 4 ∨ k = 13))], []) := by
  obtain ⟨n, rfl⟩ := pos_succ (show 0 < n by omega)
  rw [E_impl_isBinder]
  by_cases h : k = 3 <;> by_cases h2 : k = 4 <;> simp [h, h2]
theorem und_cast (k : Int) (i : Nat) : under k i = if (i : Int) = 1 ∧ (k = 3 ∨ k = 4 ∨ k = 13) then 1 else 0 := by
  unfold under
  by_cases h : i = 1
  · subst h; simp
  · rw [if_neg (fun hh => h hh.1), if_neg (fun hh => h (by have := hh.1; omega))]
theorem f_under {n : Nat} (hn : 2 ≤ n) (k : Int) (i : Nat) : FF n 149 [nt k, nt i] [] = some ([nt (under k i)], []) := by
  obtain ⟨n, rfl⟩ := pos_succ (show 0 < n by omega)
  rw [E_impl_under, f_isBinder (by omega), und_cast]
  by_cases h : (i : Int) = 1
  · simp only [evs, h, decide_true]
    by_cases h2 : k = 3 ∨ k = 4 ∨ k = 13 <;> simp [h2]
  · simp [h]
theorem f_l1Leaf {n : Nat} (hn : 1 ≤ n) (k m : Int) : FF n 100 [nt k, nt m] [] = some ([tm (.mk k m [])], []) := by
  obtain ⟨n, rfl⟩ := pos_succ (show 0 < n by omega)
  exact E_spec_l1Leaf n k m
theorem f_variable {n : Nat} (hn : 1 ≤ n) (m : Int) : FF n 89 [nt m] [] = some ([tm (.mk 1 m [])], []) := by
  obtain ⟨n, rfl⟩ := pos_succ (show 0 < n by omega)
  exact E_impl_variable n m
theorem f_node {n : Nat} (hn : 1 ≤ n) (k : Int) (l : List T) : FF n 91 [nt k, tms l] [] = some ([tm (.mk k 0 l)], []) := by
  obtain ⟨n, rfl⟩ := pos_succ (show 0 < n by omega)
  exact E_impl_node n k l
theorem f_l1Node {n : Nat} (hn : 1 ≤ n) (k : Int) (l : List T) (hl : l.length ≤ 1099511627776) : FF n 99 [nt k, tms l] [] = some ([tm (.mk k 0 l)], []) := by
  obtain ⟨n, rfl⟩ := pos_succ (show 0 < n by omega)
  rw [E_spec_l1Node, List.nil_append, roomB_ok hl]; rfl
/-! Is a term valid? -/
theorem ops_le (k : Int) : opsOf k ≤ 4 := by unfold opsOf; repeat' split
                                             all_goals omega
theorem scan_loop (n : Nat) (d : Int) (ts : List T) (hd : 0 ≤ d ∧ d ≤ 31) (hl : ts.length ≤ 1099511627776)
    (h : ∀ u ∈ ts, ∀ c : Int, 0 ≤ c → c ≤ 400 → FF n 104 [tm u, nt (d + 1), .one (.ptr 0 0)] [.cells [.int .i64 c]] = some ([bl (scanF u (d + 1) c).1], [.cells [.int .i64 (scanF u (d + 1) c).2]])) :
    ∀ g m (i : Nat) (c : Int), g < m → i + g = ts.length → 0 ≤ c → c ≤ 400 → L_impl_scan_0 n m d ts ts.length i c = some ([bl (scanL (ts.drop i) (d + 1) c).1], [.cells [.int .i64 (scanL (ts.drop i) (d + 1) c).2]])
  | g, 0, i, c, hg, _, _, _ => by omega
  | 0, m + 1, i, c, _, hi, _, _ => by
    rw [L_impl_scan_0_eq, List.drop_of_length_le (by omega)]
    simp only [cond_dec, if_neg (show ¬ (i : Int) < ts.length by omega), scanL]
  | g + 1, m + 1, i, c, hg, hi, h0, h1 => by
    have hlt : i < ts.length := by omega
    have hb := scanF_bd ts[i] (d + 1) c
    rw [List.drop_eq_getElem_cons hlt, scanL]
    rw [L_impl_scan_0_eq]; simp (disch := omega) only [evt, cond_dec, Int.toNat_natCast, cast1, wrap64, roomB_ok, List.length_append, List.length_cons, List.length_nil, if_pos (show (i : Int) < ts.length by omega), if_pos (show 0 ≤ (i : Int) by omega), List.getElem?_eq_getElem hlt, h _ (List.getElem_mem hlt) c h0 h1]
    cases hs : (scanF ts[i] (d + 1) c).1 with
    | false => simp
    | true =>
      have := hb hs
      simp only [Bool.not_true, cond_false, if_true]
      exact scan_loop n d ts hd hl h g m (i + 1) _ (by omega) (by omega) (by omega) (by omega)
theorem f_scan (t : T) : ∀ {n : Nat}, t.size + 5 ≤ n → ∀ d c : Int, 0 ≤ d → d ≤ 31 → 0 ≤ c → c ≤ 400 →
    FF n 104 [tm t, nt d, .one (.ptr 0 0)] [.cells [.int .i64 c]] = some ([bl (scanF t d c).1], [.cells [.int .i64 (scanF t d c).2]]) := by
  induction t using T.ind with | h t ih =>
  intro n hn d c h0 h1 h2 h3
  have hsz := T.size_eq t
  have hl := T.sizeL_len t.kids
  obtain ⟨n, rfl⟩ := pos_succ (show 0 < n by omega)
  rw [E_impl_scan, scanF_eq]
  simp (disch := omega) only [evt, f_operands, f_most, f_within, wrap64]
  by_cases c1 : 400 < c + 1
  · simp [c1]
  by_cases c2 : 30 < d
  · simp [c1, c2]
  by_cases c3 : opsOf t.k = t.kids.length
  · by_cases c4 : 0 ≤ t.n ∧ t.n ≤ mostOf t.k
    · have e : (decide (0 ≤ t.n) && decide (t.n ≤ mostOf t.k)) = true := by simp [c4]
      rw [if_neg (by intro hh; rcases hh with hh | hh | hh | hh <;> first | omega | exact hh c3 | exact hh c4), e]
      simp only [decide_eq_false c1, decide_eq_false c2, cond_false, decide_eq_true c3, Bool.not_true]
      by_cases hk : t.kids = []
      · rw [hk]
        obtain ⟨n, rfl⟩ := pos_succ (show 0 < n by omega)
        rw [L_impl_scan_0_eq]; simp [scanL]
      · have := scan_loop n d t.kids ⟨h0, h1⟩ (by have := ops_le t.k; omega) (fun u hu c' hc hc' => ih u hu (by have := T.sizeL_mem hu; omega) (d + 1) c' (by omega) (by omega) hc hc') t.kids.length n 0 (c + 1) (by omega) (by omega) (by omega) (by omega)
        simpa using this
    · have e : (decide (0 ≤ t.n) && decide (t.n ≤ mostOf t.k)) = false := by
        rw [← Bool.not_eq_true, Bool.and_eq_true, decide_eq_true_eq, decide_eq_true_eq]; exact c4
      rw [if_pos (.inr (.inr (.inr c4))), e]
      simp [c1, c2, c3]
  · rw [if_pos (.inr (.inr (.inl c3)))]
    simp [c1, c2, c3]
theorem f_TermValid {n : Nat} {t : T} (hn : t.size + 6 ≤ n) : FF n 66 [tm t] [] = some ([bl (validB t)], []) := by
  obtain ⟨n, rfl⟩ := pos_succ (show 0 < n by omega)
  rw [E_impl_TermValid, ← scan_valid]
  simp (disch := omega) only [evt, f_scan]
theorem shape_loop (n : Nat) (d : Nat) (k0 n0 : Int) (ts : List T) (hd : d ≤ 30) (h1d : 1 ≤ d) (hl : ts.length ≤ 1099511627776)
    (h : ∀ u ∈ ts, FF n 106 [tm u, nt ((d - 1 : Nat) : Int)] [] = some ([bl (shapeF u (d - 1))], [])) :
    ∀ g m (i : Nat), g < m → i + g = ts.length → L_spec_l1Shape_0 n m (d : Int) i k0 n0 ts = some ([bl (shapeL (ts.drop i) (d - 1))], [])
  | g, 0, i, hg, _ => by omega
  | 0, m + 1, i, _, hi => by
    rw [L_spec_l1Shape_0_eq, List.drop_of_length_le (by omega)]
    simp only [cond_dec, if_neg (show ¬ (i : Int) < ts.length by omega), shapeL]
  | g + 1, m + 1, i, hg, hi => by
    have hlt : i < ts.length := by omega
    rw [List.drop_eq_getElem_cons hlt, shapeL]
    have w : IntKind.i64.wrap ((d : Int) - 1) = ((d - 1 : Nat) : Int) := by rw [wrap64 (by omega)]; omega
    rw [L_spec_l1Shape_0_eq]; simp (disch := omega) only [evt, cond_dec, Int.toNat_natCast, cast1, wrap64, roomB_ok, List.length_append, List.length_cons, List.length_nil, if_pos (show (i : Int) < ts.length by omega), if_pos (show 0 ≤ (i : Int) by omega), List.getElem?_eq_getElem hlt, w, h _ (List.getElem_mem hlt)]
    cases hs : shapeF ts[i] (d - 1) with
    | false => simp
    | true =>
      simp only [Bool.not_true, cond_false, Bool.true_and]
      exact shape_loop n d k0 n0 ts hd h1d hl h g m (i + 1) (by omega) (by omega)
theorem f_l1Shape (t : T) : ∀ {n : Nat}, t.size + 5 ≤ n → ∀ d : Nat, d ≤ 30 → FF n 106 [tm t, nt (d : Int)] [] = some ([bl (shapeF t d)], []) := by
  induction t using T.ind with | h t ih =>
  intro n hn d hd
  have hsz := T.size_eq t
  have hl := T.sizeL_len t.kids
  obtain ⟨n, rfl⟩ := pos_succ (show 0 < n by omega)
  rw [E_spec_l1Shape, shapeF_eq]
  simp (disch := omega) only [evt, f_l1Kids, f_l1Most]
  by_cases c1 : (d : Int) < 1
  · simp [c1, show ¬ 1 ≤ d by omega]
  by_cases c3 : opsOf t.k = t.kids.length
  · by_cases c4 : 0 ≤ t.n ∧ t.n ≤ mostOf t.k
    · simp only [decide_eq_false c1, cond_false, decide_eq_true c3, Bool.not_true, decide_eq_false (show ¬ t.n < 0 by omega), decide_eq_false (show ¬ mostOf t.k < t.n by omega), decide_eq_true (show 1 ≤ d by omega), decide_eq_true c4, Bool.true_and]
      exact shape_loop n d t.k t.n t.kids hd (by omega) (by have := ops_le t.k; omega) (fun u hu => ih u hu (by have := T.sizeL_mem hu; omega) (d - 1) (by omega)) t.kids.length n 0 (by omega) (by omega)
    · simp only [decide_eq_false c1, cond_false, decide_eq_true c3, Bool.not_true, decide_eq_true (show 1 ≤ d by omega), decide_eq_false c4, Bool.true_and, Bool.false_and]
      by_cases c5 : t.n < 0
      · simp [c5]
      · simp [c5, show mostOf t.k < t.n by omega]
  · simp [c1, c3]
theorem count_loop (n : Nat) (most : Nat) (k0 n0 : Int) (ts : List T) (hm : most ≤ 400) (hl : ts.length ≤ 1099511627776)
    (h : ∀ u ∈ ts, ∀ m : Nat, m ≤ 400 → FF n 107 [tm u, nt (m : Int)] [] = some ([nt (cntF u m : Int)], [])) :
    ∀ g m (i c : Nat), g < m → i + g = ts.length → L_spec_l1Count_0 n m (most : Int) c i k0 n0 ts = some ([nt ((if c ≤ most then min (c + T.sizeL (ts.drop i)) (most + 1) else c : Nat) : Int)], [])
  | g, 0, i, c, hg, _ => by omega
  | 0, m + 1, i, c, _, hi => by
    rw [L_spec_l1Count_0_eq, List.drop_of_length_le (by omega)]
    simp only [cond_dec, if_neg (show ¬ (i : Int) < ts.length by omega), T.sizeL]
    split
    · rw [Nat.min_eq_left (by omega)]; rfl
    · rfl
  | g + 1, m + 1, i, c, hg, hi => by
    have hlt : i < ts.length := by omega
    rw [List.drop_eq_getElem_cons hlt, T.sizeL]
    by_cases hc : c ≤ most
    · have w : IntKind.i64.wrap ((most : Int) - c) = ((most - c : Nat) : Int) := by rw [wrap64 (by omega)]; omega
      have hcn : cntF ts[i] (most - c) ≤ most - c + 1 := by unfold cntF; omega
      have w2 : IntKind.i64.wrap ((c : Int) + (cntF ts[i] (most - c) : Int)) = ((c + cntF ts[i] (most - c) : Nat) : Int) := by rw [wrap64 (by omega)]; rfl
      rw [L_spec_l1Count_0_eq]; simp (disch := omega) only [evt, cond_dec, Int.toNat_natCast, cast1, wrap64, roomB_ok, List.length_append, List.length_cons, List.length_nil, if_pos (show (i : Int) < ts.length by omega), if_pos (show 0 ≤ (i : Int) by omega), if_pos (show (c : Int) ≤ most by omega), List.getElem?_eq_getElem hlt, w, w2, h _ (List.getElem_mem hlt) (most - c) (by omega)]
      rw [count_loop n most k0 n0 ts hm hl h g m (i + 1) _ (by omega) (by omega)]
      have e : (if c + cntF ts[i] (most - c) ≤ most then min (c + cntF ts[i] (most - c) + T.sizeL (ts.drop (i + 1))) (most + 1) else c + cntF ts[i] (most - c)) = min (c + (ts[i].size + T.sizeL (ts.drop (i + 1)))) (most + 1) := by
        unfold cntF
        split <;> omega
      rw [e, if_pos hc]
    · rw [L_spec_l1Count_0_eq]
      simp only [cond_dec, if_pos (show (i : Int) < ts.length by omega), if_neg (show ¬ (c : Int) ≤ most by omega), if_neg hc]
theorem f_l1Count (t : T) : ∀ {n : Nat}, t.size + 5 ≤ n → t.size ≤ 4000000 → ∀ m : Nat, m ≤ 400 → FF n 107 [tm t, nt (m : Int)] [] = some ([nt (cntF t m : Int)], []) := by
  induction t using T.ind with | h t ih =>
  intro n hn hz m hm
  have hsz := T.size_eq t
  have hl := T.sizeL_len t.kids
  obtain ⟨n, rfl⟩ := pos_succ (show 0 < n by omega)
  rw [E_spec_l1Count]
  have := count_loop n m t.k t.n t.kids hm (by omega) (fun u hu m hm => ih u hu (by have := T.sizeL_mem hu; omega) (by have := T.sizeL_mem hu; omega) m hm) t.kids.length n 0 1 (by omega) (by omega)
  have e : (if 1 ≤ m then min (1 + T.sizeL t.kids) (m + 1) else 1) = cntF t m := by unfold cntF; split <;> omega
  rw [List.drop_zero, e] at this
  exact this
theorem f_TermValidS {n : Nat} {t : T} (hn : t.size + 6 ≤ n) (hz : t.size ≤ 4000000) : FF n 68 [tm t] [] = some ([bl (validB t)], []) := by
  obtain ⟨n, rfl⟩ := pos_succ (show 0 < n by omega)
  rw [E_spec_TermValid, validB]
  have h1 := f_l1Shape t (n := n) (by omega) 30 (by omega)
  have h2 := f_l1Count t (n := n) (by omega) hz 400 (by omega)
  rw [show (30 : Int) = ((30 : Nat) : Int) from rfl, show (400 : Int) = ((400 : Nat) : Int) from rfl, h1, h2]
  simp only [evt]
  cases shapeF t 30
  · rfl
  · simp only [cond_true, Bool.true_and]
    have e : decide ((cntF t 400 : Int) ≤ ((400 : Nat) : Int)) = decide (t.size ≤ 400) := by
      unfold cntF
      exact decide_eq_decide.2 (by omega)
    rw [e]
theorem f_valid {n : Nat} {t : T} (hn : t.size + 7 ≤ n) : FF n 92 [tm t] [] = some ([tm (if validB t then t else .mk 0 0 []), bl (validB t)], []) := by
  obtain ⟨n, rfl⟩ := pos_succ (show 0 < n by omega)
  rw [E_impl_valid]
  simp (disch := omega) only [evt, f_TermValid]
  cases validB t <;> rfl
theorem f_l7Made {n : Nat} {t : T} (hn : t.size + 7 ≤ n) (hz : t.size ≤ 4000000) : FF n 87 [tm t] [] = some ([tm (if validB t then t else .mk 0 0 []), bl (validB t)], []) := by
  obtain ⟨n, rfl⟩ := pos_succ (show 0 < n by omega)
  rw [E_spec_l7Made]
  simp (disch := omega) only [evt, f_TermValidS]
  cases validB t <;> rfl
/-! Copies. -/
theorem own_loop (n : Nat) (ts : List T) (k0 n0 : Int) (l0 : List T) (k1 n1 : Int) (hl : ts.length ≤ 4000000) (h : ∀ u ∈ ts, FF n 75 [tm u] [] = some ([tm u], [])) :
    ∀ g m (i : Nat), g < m → i + g = ts.length → L_impl_own_0_oo n m ts ts.length i k0 n0 l0 k1 n1 (ts.take i) = some ([tm (.mk k1 n1 ts)], [])
  | g, 0, i, hg, _ => by omega
  | 0, m + 1, i, _, hi => by
    rw [L_impl_own_0_oo_eq]
    simp only [cond_dec, if_neg (show ¬ (i : Int) < ts.length by omega), List.take_of_length_le (show ts.length ≤ i by omega)]; rfl
  | g + 1, m + 1, i, hg, hi => by
    have hlt : i < ts.length := by omega
    have ht : (ts.take i).length = i := by simp; omega
    rw [L_impl_own_0_oo_eq]; simp (disch := omega) only [evt, cond_dec, Int.toNat_natCast, cast1, wrap64, roomB_ok, List.length_append, List.length_cons, List.length_nil, if_pos (show (i : Int) < ts.length by omega), if_pos (show 0 ≤ (i : Int) by omega), List.getElem?_eq_getElem hlt, h _ (List.getElem_mem hlt), ht]
    rw [take_snoc hlt]
    exact own_loop n ts k0 n0 l0 k1 n1 hl h g m (i + 1) (by omega) (by omega)
theorem f_own (t : T) : ∀ {n : Nat}, t.size + 5 ≤ n → t.size ≤ 4000000 → FF n 75 [tm t] [] = some ([tm t], []) := by
  induction t using T.ind with | h t ih =>
  intro n hn hz
  have hsz := T.size_eq t
  have hl := T.sizeL_len t.kids
  obtain ⟨n, rfl⟩ := pos_succ (show 0 < n by omega)
  rw [E_impl_own]
  have := own_loop n t.kids 0 0 [] t.k t.n (by omega) (fun u hu => ih u hu (by have := T.sizeL_mem hu; omega) (by have := T.sizeL_mem hu; omega)) t.kids.length n 0 (by omega) (by omega)
  simpa [T.eta] using this
theorem copy_loop (n : Nat) (ts : List T) (k2 n2 : Int) (k0 n0 : Int) (l0 : List T) (k1 n1 : Int) (hl : ts.length ≤ 4000000) (h : ∀ u ∈ ts, FF n 113 [tm u] [] = some (ow u)) :
    ∀ g m (i : Nat), g < m → i + g = ts.length → L_spec_l1Copy_0_foo n m i k2 n2 ts k0 n0 l0 k1 n1 (ts.take i) = some (ow (.mk k1 n1 ts))
  | g, 0, i, hg, _ => by omega
  | 0, m + 1, i, _, hi => by
    rw [L_spec_l1Copy_0_foo_eq]
    simp only [cond_dec, if_neg (show ¬ (i : Int) < ts.length by omega), List.take_of_length_le (show ts.length ≤ i by omega)]; rfl
  | g + 1, m + 1, i, hg, hi => by
    have hlt : i < ts.length := by omega
    have ht : (ts.take i).length = i := by simp; omega
    rw [L_spec_l1Copy_0_foo_eq]; simp (disch := omega) only [evt, cond_dec, Int.toNat_natCast, cast1, wrap64, roomB_ok, List.length_append, List.length_cons, List.length_nil, if_pos (show (i : Int) < ts.length by omega), if_pos (show 0 ≤ (i : Int) by omega), List.getElem?_eq_getElem hlt, h _ (List.getElem_mem hlt), ht]
    rw [take_snoc hlt]
    exact copy_loop n ts k2 n2 k0 n0 l0 k1 n1 hl h g m (i + 1) (by omega) (by omega)
theorem f_l1Copy (t : T) : ∀ {n : Nat}, t.size + 5 ≤ n → t.size ≤ 4000000 → FF n 113 [tm t] [] = some (ow t) := by
  induction t using T.ind with | h t ih =>
  intro n hn hz
  have hsz := T.size_eq t
  have hl := T.sizeL_len t.kids
  obtain ⟨n, rfl⟩ := pos_succ (show 0 < n by omega)
  rw [E_spec_l1Copy]
  have := copy_loop n t.kids t.k t.n 0 0 [] t.k t.n (by omega) (fun u hu => ih u hu (by have := T.sizeL_mem hu; omega) (by have := T.sizeL_mem hu; omega)) t.kids.length n 0 (by omega) (by omega)
  simpa [T.eta] using this
/-! Equality. -/
theorem beqL_len : ∀ {ts us : List T}, ts.length ≠ us.length → T.beqL ts us = false
  | [], [], h => absurd rfl h
  | [], _ :: _, _ => rfl
  | _ :: _, [], _ => rfl
  | t :: ts, u :: us, h => by rw [T.beqL, beqL_len (fun e => h (by simp [e])), Bool.and_false]
end Go.Proofs.YthopkmimhlcjkaaGreat
end
section
/- Shifts and substitutions in the abstract run. -/
set_option linter.unusedVariables false
set_option linter.unusedSimpArgs false
namespace Go.Proofs.YthopkmimhlcjkaaGreat
open Go Go.Ab Go.Dk
theorem take_sh {a k : Int} {ts : List T} {c : Int} {i : Nat} (h : i < ts.length) : (shL a k 0 ts c).take i ++ [shT a ts[i] (c + under k i)] = (shL a k 0 ts c).take (i + 1) := by
  rw [← take_snoc (l := shL a k 0 ts c) (i := i) (by rw [sh_len]; exact h), sh_elem a k ts 0 i c h, Nat.zero_add]
/-! The program's. -/
theorem f_shift1 {n : Nat} (hn : 2 ≤ n) (v b c a : Int) (ok : Bool) (hv : 0 ≤ v ∧ v ≤ 20) (hb : 0 ≤ b ∧ b ≤ 1000000) (hc : 0 ≤ c ∧ c ≤ 1000000) (ha : -1000 ≤ a ∧ a ≤ 1000) :
    FF n 129 [nt v, nt b, .one (.ptr 0 0), .one (.ptr 1 0), .one (.ptr 2 0)] [.cells [.int .i64 c], .cells [.int .i64 a], .cells [.bool ok]] =
      some ([tm (.mk 1 (if c + b ≤ v then v + a else v) [])], [.cells [.int .i64 c], .cells [.int .i64 a], .cells [.bool (ok && (if c + b ≤ v then decide (c + b ≤ v + a) && decide (v + a ≤ 20) else true))]]) := by
  obtain ⟨n, rfl⟩ := pos_succ (show 0 < n by omega)
  rw [E_impl_shift_1]
  simp (disch := omega) only [wrap64, f_variable, evt, cond_dec]
  have e1 : (c ≤ v - b) = (c + b ≤ v) := by apply propext; omega
  have e2 : (c ≤ v + a - b) = (c + b ≤ v + a) := by apply propext; omega
  simp only [e1, e2]
  by_cases h1 : c + b ≤ v
  · cases ok
    · simp [h1, mk_k, mk_n, mk_kids]
    · by_cases h2 : c + b ≤ v + a <;> simp [h1, h2, mk_k, mk_n, mk_kids]
  · simp [h1, mk_k, mk_n, mk_kids]
theorem changed_sh_loop (n : Nat) (b c a : Int) (k n0 : Int) (ts : List T) (l0 : List T) (z1 z2 : Int) (l : List T) (k1 n1 : Int) (hl : ts.length ≤ 1000000) (hb : 0 ≤ b ∧ b ≤ 1000000)
    (h : ∀ (j : Nat) (hj : j < ts.length) (ok : Bool), FF n 128 [tm ts[j], nt (b + under k j), .one (.fn 129 [0, 1, 2])] [.cells [.int .i64 c], .cells [.int .i64 a], .cells [.bool ok]] =
      some ([tm (shT a ts[j] (c + b + under k j))], [.cells [.int .i64 c], .cells [.int .i64 a], .cells [.bool (ok && okS a ts[j] (c + b + under k j))]])) (hn : 2 ≤ n) :
    ∀ g m (i : Nat) (ok : Bool), g < m → i + g = ts.length → L_impl_changed_impl_shift_1_0_foo n m b ts ts.length i c a ok k n0 l0 z1 z2 l k1 n1 ((shL a k 0 ts (c + b)).take i) =
      some ([tm (.mk k1 n1 (shL a k 0 ts (c + b)))], [.cells [.int .i64 c], .cells [.int .i64 a], .cells [.bool (ok && okSL a k i (ts.drop i) (c + b))]])
  | g, 0, i, ok, hg, _ => by omega
  | 0, m + 1, i, ok, _, hi => by
    rw [L_impl_changed_impl_shift_1_0_foo_eq, List.drop_of_length_le (by omega)]
    simp only [cond_dec, if_neg (show ¬ (i : Int) < ts.length by omega), List.take_of_length_le (show (shL a k 0 ts (c + b)).length ≤ i by rw [sh_len]; omega), okSL, Bool.and_true]; rfl
  | g + 1, m + 1, i, ok, hg, hi => by
    have hlt : i < ts.length := by omega
    have ub := under_bd k i
    have ht : ((shL a k 0 ts (c + b)).take i).length = i := by rw [List.length_take, sh_len]; omega
    rw [List.drop_eq_getElem_cons hlt, okSL]
    rw [L_impl_changed_impl_shift_1_0_foo_eq]; simp (disch := omega) only [evt, cond_dec, Int.toNat_natCast, cast1, wrap64, roomB_ok, List.length_append, List.length_cons, List.length_nil, if_pos (show (i : Int) < ts.length by omega), if_pos (show 0 ≤ (i : Int) by omega), List.getElem?_eq_getElem hlt, f_under, h i hlt, ht, take_sh hlt]
    rw [changed_sh_loop n b c a k n0 ts l0 z1 z2 l k1 n1 hl hb h hn g m (i + 1) _ (by omega) (by omega), Bool.and_assoc]
theorem f_changed_sh (c a : Int) (hc : 0 ≤ c ∧ c ≤ 1000) (ha : -1000 ≤ a ∧ a ≤ 1000) (t : T) : ∀ {n : Nat}, t.size + 5 ≤ n → gdB t = true → ∀ b : Int, 0 ≤ b → b + t.size ≤ 100000 → ∀ ok : Bool,
    FF n 128 [tm t, nt b, .one (.fn 129 [0, 1, 2])] [.cells [.int .i64 c], .cells [.int .i64 a], .cells [.bool ok]] =
      some ([tm (shT a t (c + b))], [.cells [.int .i64 c], .cells [.int .i64 a], .cells [.bool (ok && okS a t (c + b))]]) := by
  induction t using T.ind with | h t ih =>
  intro n hn hg b h0 h1 ok
  have hsz := T.size_eq t
  have hl := T.sizeL_len t.kids
  obtain ⟨n, rfl⟩ := pos_succ (show 0 < n by omega)
  obtain ⟨g0, g1, g2, g3⟩ := gd_out hg
  rw [E_impl_changed_impl_shift_1]
  have e : shT a t (c + b) = .mk t.k (if t.k = 1 ∧ c + b ≤ t.n then t.n + a else t.n) (shL a t.k 0 t.kids (c + b)) := by cases t; rfl
  have e2 : okS a t (c + b) = if t.k = 1 then (if c + b ≤ t.n then decide (c + b ≤ t.n + a) && decide (t.n + a ≤ 20) else true) else okSL a t.k 0 t.kids (c + b) := by cases t; rfl
  by_cases hk : t.k = 1
  · simp (disch := omega) only [f_shift1, evt, cond_dec, if_pos hk, e, e2]
    rw [g2 hk, hk]; simp [shL, mk_k, mk_n, mk_kids]
  · have := changed_sh_loop n b c a t.k t.n t.kids t.kids 0 0 [] t.k t.n (by omega) ⟨h0, by omega⟩ (fun j hj ok => by
      have hm := List.getElem_mem hj
      have := T.sizeL_mem hm
      have ub := under_bd t.k j
      have := ih _ hm (n := n) (by omega) (g3 _ hm) (b + under t.k j) (by omega) (by omega) ok
      rwa [← Int.add_assoc] at this) (by omega) t.kids.length n 0 ok (by omega) (by omega)
    simp only [cond_dec, if_neg hk, e, e2, hk, false_and, if_false]
    simpa using this
/-- What a shift hands back. -/
def shR (a : Int) (t : T) (c : Int) : T := if validB (shT a t c) then shT a t c else .mk 0 0 []
theorem f_shift {n : Nat} {t : T} {a c : Int} (hn : t.size + 10 ≤ n) (hg : gdB t = true) (hs : t.size ≤ 1000) (ha : 0 ≤ a ∧ a ≤ 1000) (hc : 0 ≤ c ∧ c ≤ 1000) :
    FF n 93 [tm t, nt a, nt c] [] = some ([tm (shR a t c), bl (validB (shT a t c))], []) := by
  obtain ⟨n, rfl⟩ := pos_succ (show 0 < n by omega)
  have h1 := f_changed_sh c a hc (by omega) t (n := n) (by omega) hg 0 (by omega) (by omega) true
  rw [Int.add_zero, Bool.true_and] at h1
  have h2 := f_valid (n := n) (t := shT a t c) (by rw [sh_size]; omega)
  rw [E_impl_shift, h1]
  simp only [evt]
  have hv := okS_valid ha.1 t c
  cases hk : okS a t c with
  | false =>
    have : validB (shT a t c) = false := by
      cases hvv : validB (shT a t c) with
      | false => rfl
      | true => rw [hv hvv] at hk; cases hk
    simp [shR, this, mk_k, mk_n, mk_kids]
  | true =>
    simp only [Bool.not_true, cond_false, h2, evt, shR]
theorem f_subst1 {n : Nat} {u : T} (hn : u.size + 12 ≤ n) (hg : gdB u = true) (hs : u.size ≤ 1000) (v b x : Int) (ok : Bool) (hv : 0 ≤ v ∧ v ≤ 20) (hb : 0 ≤ b ∧ b ≤ 1000) (hx : 0 ≤ x ∧ x ≤ 1000) :
    FF n 166 [nt v, nt b, .one (.ptr 0 0), .one (.ptr 1 0), .one (.ptr 2 0)] [.cells [.int .i64 x], .cells [.int .i64 u.k, .int .i64 u.n, .fr (.ts u.kids)], .cells [.bool ok]] =
      some ([tm (if v = x + b then shR b u 0 else .mk 1 (if x + b < v then v - 1 else v) [])], [.cells [.int .i64 x], .cells [.int .i64 u.k, .int .i64 u.n, .fr (.ts u.kids)], .cells [.bool (ok && (if v = x + b then validB (shT b u 0) else true))]]) := by
  obtain ⟨n, rfl⟩ := pos_succ (show 0 < n by omega)
  rw [E_impl_subst_1]
  have h1 := f_shift (n := n) (t := u) (a := b) (c := 0) (by omega) hg hs hb (by omega)
  simp (disch := omega) only [wrap64, f_variable, h1, evt, cond_dec]
  have e1 : (v - b = x) = (v = x + b) := by apply propext; omega
  have e2 : (x < v - b) = (x + b < v) := by apply propext; omega
  simp only [e1, e2]
  by_cases h1 : v = x + b
  · cases ok <;> simp [h1]
  · by_cases h2 : x + b < v <;> simp [h1, h2, mk_k, mk_n, mk_kids]
mutual
/-- A substitution with what the program puts where a shift fails. -/
def sbX (u : T) : T → Int → Int → T
  | .mk k n ts, x, d => if k = 1 then (if n = x then shR d u 0 else .mk 1 (if x < n then n - 1 else n) []) else .mk k n (sbXL u k 0 ts x d)
def sbXL (u : T) (k : Int) : Nat → List T → Int → Int → List T
  | _, [], _, _ => []
  | i, t :: ts, x, d => sbX u t (x + under k i) (d + under k i) :: sbXL u k (i + 1) ts x d
end
mutual
theorem sbX_eq (u : T) : ∀ (t : T) (x d : Int), gdB t = true → okB u t x d = true → sbX u t x d = sbT u t x d
  | .mk k n ts, x, d, hg, h => by
    rw [okB] at h
    rw [sbX, sbT]
    obtain ⟨_, _, g2, g3⟩ := gd_out hg
    by_cases hk : k = 1
    · subst hk
      rw [if_pos rfl] at h
      rw [if_pos rfl]
      by_cases hn : n = x
      · rw [if_pos hn] at h
        rw [if_pos hn, if_pos ⟨rfl, hn⟩, shR, if_pos h]
      · have : ts = [] := g2 rfl
        subst this
        simp [hn, sbL]
    · rw [if_neg hk] at h
      rw [if_neg hk, if_neg (fun hh => hk hh.1), if_neg (fun hh => hk hh.1), sbX_eqL u k ts 0 x d g3 h]
theorem sbX_eqL (u : T) (k : Int) : ∀ (ts : List T) (i : Nat) (x d : Int), (∀ t ∈ ts, gdB t = true) → okBL u k i ts x d = true → sbXL u k i ts x d = sbL u k i ts x d
  | [], i, x, d, _, _ => rfl
  | t :: ts, i, x, d, hg, h => by
    rw [okBL, Bool.and_eq_true] at h
    rw [sbXL, sbL, sbX_eq u t _ _ (hg t (List.mem_cons_self ..)) h.1, sbX_eqL u k ts (i + 1) x d (fun v hv => hg v (List.mem_cons_of_mem _ hv)) h.2]
end
theorem sbX_len (u : T) (k : Int) : ∀ (ts : List T) (i : Nat) (x d : Int), (sbXL u k i ts x d).length = ts.length
  | [], i, x, d => rfl
  | t :: ts, i, x, d => by rw [sbXL, List.length_cons, List.length_cons, sbX_len u k ts]
theorem sbX_elem (u : T) (k : Int) : ∀ (ts : List T) (i j : Nat) (x d : Int) (h : j < ts.length), (sbXL u k i ts x d)[j]'(by rw [sbX_len]; exact h) = sbX u ts[j] (x + under k (i + j)) (d + under k (i + j))
  | t :: ts, i, 0, x, d, h => rfl
  | t :: ts, i, j + 1, x, d, h => by
    have := sbX_elem u k ts (i + 1) j x d (by simpa using h)
    simp only [sbXL, List.getElem_cons_succ]
    rw [this, show i + 1 + j = i + (j + 1) by omega]
theorem take_sbX {u : T} {k : Int} {ts : List T} {x d : Int} {i : Nat} (h : i < ts.length) : (sbXL u k 0 ts x d).take i ++ [sbX u ts[i] (x + under k i) (d + under k i)] = (sbXL u k 0 ts x d).take (i + 1) := by
  rw [← take_snoc (l := sbXL u k 0 ts x d) (i := i) (by rw [sbX_len]; exact h), sbX_elem u k ts 0 i x d h, Nat.zero_add]
theorem changed_sb_loop (n : Nat) (u : T) (b x : Int) (k n0 : Int) (ts : List T) (l0 : List T) (z1 z2 : Int) (l : List T) (k1 n1 : Int) (hl : ts.length ≤ 1000000) (hb : 0 ≤ b ∧ b ≤ 1000000)
    (h : ∀ (j : Nat) (hj : j < ts.length) (ok : Bool), FF n 128 [tm ts[j], nt (b + under k j), .one (.fn 166 [0, 1, 2])] [.cells [.int .i64 x], .cells [.int .i64 u.k, .int .i64 u.n, .fr (.ts u.kids)], .cells [.bool ok]] =
      some ([tm (sbX u ts[j] (x + b + under k j) (b + under k j))], [.cells [.int .i64 x], .cells [.int .i64 u.k, .int .i64 u.n, .fr (.ts u.kids)], .cells [.bool (ok && okB u ts[j] (x + b + under k j) (b + under k j))]])) (hn : 2 ≤ n) :
    ∀ g m (i : Nat) (ok : Bool), g < m → i + g = ts.length → L_impl_changed_impl_subst_1_0_ffoo n m b ts ts.length i x u.k u.n u.kids ok k n0 l0 z1 z2 l k1 n1 ((sbXL u k 0 ts (x + b) b).take i) =
      some ([tm (.mk k1 n1 (sbXL u k 0 ts (x + b) b))], [.cells [.int .i64 x], .cells [.int .i64 u.k, .int .i64 u.n, .fr (.ts u.kids)], .cells [.bool (ok && okBL u k i (ts.drop i) (x + b) b)]])
  | g, 0, i, ok, hg, _ => by omega
  | 0, m + 1, i, ok, _, hi => by
    rw [L_impl_changed_impl_subst_1_0_ffoo_eq, List.drop_of_length_le (by omega)]
    simp only [cond_dec, if_neg (show ¬ (i : Int) < ts.length by omega), List.take_of_length_le (show (sbXL u k 0 ts (x + b) b).length ≤ i by rw [sbX_len]; omega), okBL, Bool.and_true]; rfl
  | g + 1, m + 1, i, ok, hg, hi => by
    have hlt : i < ts.length := by omega
    have ub := under_bd k i
    have ht : ((sbXL u k 0 ts (x + b) b).take i).length = i := by rw [List.length_take, sbX_len]; omega
    rw [List.drop_eq_getElem_cons hlt, okBL]
    rw [L_impl_changed_impl_subst_1_0_ffoo_eq]; simp (disch := omega) only [evt, cond_dec, Int.toNat_natCast, cast1, wrap64, roomB_ok, List.length_append, List.length_cons, List.length_nil, if_pos (show (i : Int) < ts.length by omega), if_pos (show 0 ≤ (i : Int) by omega), List.getElem?_eq_getElem hlt, f_under, h i hlt, ht, take_sbX hlt]
    rw [changed_sb_loop n u b x k n0 ts l0 z1 z2 l k1 n1 hl hb h hn g m (i + 1) _ (by omega) (by omega), Bool.and_assoc]
theorem f_changed_sb (u : T) (hu : gdB u = true) (hus : u.size ≤ 1000) (x : Int) (hx : 0 ≤ x ∧ x ≤ 1000) (t : T) : ∀ {n : Nat}, t.size + u.size + 15 ≤ n → gdB t = true → ∀ b : Int, 0 ≤ b → b + t.size ≤ 1000 → ∀ ok : Bool,
    FF n 128 [tm t, nt b, .one (.fn 166 [0, 1, 2])] [.cells [.int .i64 x], .cells [.int .i64 u.k, .int .i64 u.n, .fr (.ts u.kids)], .cells [.bool ok]] =
      some ([tm (sbX u t (x + b) b)], [.cells [.int .i64 x], .cells [.int .i64 u.k, .int .i64 u.n, .fr (.ts u.kids)], .cells [.bool (ok && okB u t (x + b) b)]]) := by
  induction t using T.ind with | h t ih =>
  intro n hn hg b h0 h1 ok
  have hsz := T.size_eq t
  have hl := T.sizeL_len t.kids
  obtain ⟨n, rfl⟩ := pos_succ (show 0 < n by omega)
  obtain ⟨g0, g1, g2, g3⟩ := gd_out hg
  rw [E_impl_changed_impl_subst_1]
  have e : sbX u t (x + b) b = if t.k = 1 then (if t.n = x + b then shR b u 0 else .mk 1 (if x + b < t.n then t.n - 1 else t.n) []) else .mk t.k t.n (sbXL u t.k 0 t.kids (x + b) b) := by cases t; rfl
  have e2 : okB u t (x + b) b = if t.k = 1 then (if t.n = x + b then validB (shT b u 0) else true) else okBL u t.k 0 t.kids (x + b) b := by cases t; rfl
  by_cases hk : t.k = 1
  · simp (disch := first | omega | assumption) only [f_subst1, evt, cond_dec, if_pos hk, e, e2]
  · have := changed_sb_loop n u b x t.k t.n t.kids t.kids 0 0 [] t.k t.n (by omega) ⟨h0, by omega⟩ (fun j hj ok => by
      have hm := List.getElem_mem hj
      have := T.sizeL_mem hm
      have ub := under_bd t.k j
      have := ih _ hm (n := n) (by omega) (g3 _ hm) (b + under t.k j) (by omega) (by omega) ok
      rwa [← Int.add_assoc] at this) (by omega) t.kids.length n 0 ok (by omega) (by omega)
    simp only [cond_dec, if_neg hk, e, e2]
    simpa using this
/-- What a substitution hands back. -/
def sbR (u t : T) (x : Int) : T := if validB (sbT u t x 0) then sbT u t x 0 else .mk 0 0 []
theorem f_subst {n : Nat} {t u : T} {x : Int} (hn : 2000000 ≤ n) (hg : gdB t = true) (hs : t.size ≤ 1000) (hu : gdB u = true) (hus : u.size ≤ 1000) (hx : 0 ≤ x ∧ x ≤ 1000) :
    FF n 123 [tm t, nt x, tm u] [] = some ([tm (sbR u t x), bl (validB (sbT u t x 0))], []) := by
  obtain ⟨n, rfl⟩ := pos_succ (show 0 < n by omega)
  have h1 := f_changed_sb u hu hus x hx t (n := n) (by omega) hg 0 (by omega) (by omega) true
  rw [Int.add_zero, Bool.true_and] at h1
  have hz := sb_size u t x 0
  have hz2 : t.size * u.size ≤ 1000 * 1000 := Nat.mul_le_mul hs hus
  rw [E_impl_subst, h1]
  simp only [evt]
  have hv := okB_valid u t x 0
  cases hk : okB u t x 0 with
  | false =>
    have : validB (sbT u t x 0) = false := by
      cases hvv : validB (sbT u t x 0) with
      | false => rfl
      | true => rw [hv hvv] at hk; cases hk
    simp [sbR, this, mk_k, mk_n, mk_kids]
  | true =>
    rw [sbX_eq u t x 0 hg hk]
    have h2 := f_valid (n := n) (t := sbT u t x 0) (by omega)
    simp only [Bool.not_true, cond_false, h2, evt, sbR]
end Go.Proofs.YthopkmimhlcjkaaGreat
end
section
/- Redexes and steps in the abstract run. -/
set_option linter.unusedVariables false
set_option linter.unusedSimpArgs false
namespace Go.Proofs.YthopkmimhlcjkaaGreat
open Go Go.Ab Go.Dk
/-! The program's equality. -/
theorem eqf_loop (n : Nat) (ts us : List T) (hl : ts.length ≤ 4000000) (he : ts.length = us.length) (h : ∀ t ∈ ts, ∀ u, FF n 45 [tm t, tm u] [] = some ([bl (T.beq t u)], [])) :
    ∀ g m (i : Nat), g < m → i + g = ts.length → L_slices_EqualFunc_impl_TermSame_0 n m us ts ts.length i = some ([bl (T.beqL (ts.drop i) (us.drop i))], [])
  | g, 0, i, hg, _ => by omega
  | 0, m + 1, i, _, hi => by
    rw [L_slices_EqualFunc_impl_TermSame_0_eq, List.drop_of_length_le (by omega), List.drop_of_length_le (by omega)]
    simp only [cond_dec, if_neg (show ¬ (i : Int) < ts.length by omega), T.beqL]
  | g + 1, m + 1, i, hg, hi => by
    have hlt : i < ts.length := by omega
    have hlt2 : i < us.length := by omega
    rw [List.drop_eq_getElem_cons hlt, List.drop_eq_getElem_cons hlt2, T.beqL]
    rw [L_slices_EqualFunc_impl_TermSame_0_eq]; simp (disch := omega) only [evt, cond_dec, Int.toNat_natCast, cast1, wrap64, roomB_ok, List.length_append, List.length_cons, List.length_nil, if_pos (show (i : Int) < ts.length by omega), if_pos (show 0 ≤ (i : Int) by omega), List.getElem?_eq_getElem hlt, List.getElem?_eq_getElem hlt2, h _ (List.getElem_mem hlt)]
    cases hs : T.beq ts[i] us[i] with
    | false => simp
    | true =>
      simp only [Bool.not_true, cond_false, Bool.true_and]
      exact eqf_loop n ts us hl he h g m (i + 1) (by omega) (by omega)
theorem f_TermSame (t : T) : ∀ {n : Nat}, 2 * t.size + 5 ≤ n → t.size ≤ 4000000 → ∀ u : T, FF n 45 [tm t, tm u] [] = some ([bl (T.beq t u)], []) := by
  induction t using T.ind with | h t ih =>
  intro n hn hz u
  have hsz := T.size_eq t
  have hl := T.sizeL_len t.kids
  obtain ⟨n, rfl⟩ := pos_succ (show 0 < n by omega)
  rw [E_impl_TermSame, T.beq_eq]
  by_cases c1 : t.k = u.k
  · by_cases c2 : t.n = u.n
    · obtain ⟨n, rfl⟩ := pos_succ (show 0 < n by omega)
      rw [E_slices_EqualFunc_impl_TermSame]
      by_cases c3 : t.kids.length = u.kids.length
      · have := eqf_loop n t.kids u.kids (by omega) c3 (fun v hv w => ih v hv (by have := T.sizeL_mem hv; omega) (by have := T.sizeL_mem hv; omega) w) t.kids.length n 0 (by omega) (by omega)
        rw [List.drop_zero, List.drop_zero] at this
        simp only [decide_eq_true c1, decide_eq_true c2, decide_eq_true (show (t.kids.length : Int) = u.kids.length by omega), Bool.not_true, cond_false, cond_true, Bool.true_and]
        rw [show (0 : Int) = ((0 : Nat) : Int) from rfl, this]
        simp only [evs]
      · simp only [decide_eq_true c1, decide_eq_true c2, decide_eq_false (show ¬ (t.kids.length : Int) = u.kids.length by omega), Bool.not_true, Bool.not_false, cond_false, cond_true, Bool.true_and, beqL_len c3, evs]
    · simp [c1, c2]
  · simp [c1]
/-! Redexes. -/
theorem kid_get {t : T} {i : Nat} (h : i < t.kids.length) : t.kids[i]? = some (kd t i) := by
  unfold kd; simp [List.getD, h]
theorem ops_len {t : T} (hv : validB t = true) {c : Nat} (h : opsOf t.k = c) : t.kids.length = c := by
  have := (validB_ops hv).1
  omega
theorem f_redexes {n : Nat} (hn : 1 ≤ n) {t : T} (hv : validB t = true) : FF n 126 [tm t] [] = some ([nt (redexT t)], []) ∧ FF n 186 [tm t] [] = some ([nt (redexT t)], []) := by
  obtain ⟨n, rfl⟩ := pos_succ (show 0 < n by omega)
  rw [E_impl_redex, E_spec_l3Redex]
  simp only [cond_dec, Int.toNat_zero, Int.reduceToNat]
  unfold redexT
  by_cases k5 : t.k = 5
  · have hl := ops_len hv (c := 2) (by rw [k5]; rfl)
    simp only [k5, if_true, kid_get (show 0 < t.kids.length by omega), Option.bind_some]
    constructor <;> split <;> rfl
  by_cases k9 : t.k = 9
  · have hl := ops_len hv (c := 4) (by rw [k9]; rfl)
    simp only [k9, if_true, kid_get (show 3 < t.kids.length by omega), Option.bind_some, show ¬ (9 : Int) = 5 by decide, if_false]
    constructor <;> (split; rfl; split <;> rfl)
  by_cases k12 : t.k = 12
  · have hl := ops_len hv (c := 3) (by rw [k12]; rfl)
    simp only [k12, if_true, kid_get (show 1 < t.kids.length by omega), Option.bind_some, show ¬ (12 : Int) = 5 by decide, show ¬ (12 : Int) = 9 by decide, if_false]
    constructor <;> split <;> rfl
  by_cases k15 : t.k = 15
  · have hl := ops_len hv (c := 1) (by rw [k15]; rfl)
    simp only [k15, if_true, kid_get (show 0 < t.kids.length by omega), Option.bind_some, show ¬ (15 : Int) = 5 by decide, show ¬ (15 : Int) = 9 by decide, show ¬ (15 : Int) = 12 by decide, if_false]
    constructor <;> split <;> rfl
  by_cases k16 : t.k = 16
  · have hl := ops_len hv (c := 1) (by rw [k16]; rfl)
    simp only [k16, if_true, kid_get (show 0 < t.kids.length by omega), Option.bind_some, show ¬ (16 : Int) = 5 by decide, show ¬ (16 : Int) = 9 by decide, show ¬ (16 : Int) = 12 by decide, show ¬ (16 : Int) = 15 by decide, if_false]
    constructor <;> split <;> rfl
  simp [k5, k9, k12, k15, k16]
theorem f_redex {n : Nat} (hn : 1 ≤ n) {t : T} (hv : validB t = true) : FF n 126 [tm t] [] = some ([nt (redexT t)], []) := (f_redexes hn hv).1
theorem valid_kd {t : T} (hv : validB t = true) {i c : Nat} (h : opsOf t.k = c) (hi : i < c) : validB (kd t i) = true := validB_kid hv (kd_mem (by rw [ops_len hv h]; exact hi))
/-- The size of a contractum. -/
theorem con_size {t : T} (hv : validB t = true) (hr : Rx t) : (contractT t).size ≤ 160000 := by
  have hz := validB_size hv
  have kz : ∀ {i c : Nat}, opsOf t.k = c → i < c → (kd t i).size ≤ 400 := fun h hi => validB_size (valid_kd hv h hi)
  cases hr with
  | app h h' =>
    rw [con_app h]
    have h0 := valid_kd hv (i := 0) (c := 2) (by rw [h]; rfl) (by omega)
    have h1 := validB_size (valid_kd h0 (i := 1) (c := 2) (by rw [h']; rfl) (by omega))
    have h2 := kz (i := 1) (c := 2) (by rw [h]; rfl) (by omega)
    exact Nat.le_trans (sb_size _ _ _ _) (Nat.mul_le_mul h1 h2)
  | zero h h' => rw [con_zero h h']; have := kz (i := 1) (c := 4) (by rw [h]; rfl) (by omega); omega
  | succ h h' =>
    rw [con_succ h h']
    have h0 := kz (i := 0) (c := 4) (by rw [h]; rfl) (by omega)
    have h1 := kz (i := 1) (c := 4) (by rw [h]; rfl) (by omega)
    have h2 := kz (i := 2) (c := 4) (by rw [h]; rfl) (by omega)
    have h3 := validB_size (valid_kd (valid_kd hv (i := 3) (c := 4) (by rw [h]; rfl) (by omega)) (i := 0) (c := 1) (by rw [h']; rfl) (by omega))
    simp only [T.size, T.sizeL]; omega
  | move h h' => rw [con_move h]; have := kz (i := 2) (c := 3) (by rw [h]; rfl) (by omega); omega
  | fst h h' => rw [con_fst h]; have := validB_size (valid_kd (valid_kd hv (i := 0) (c := 1) (by rw [h]; rfl) (by omega)) (i := 1) (c := 3) (by rw [h']; rfl) (by omega)); omega
  | snd h h' => rw [con_snd h]; have := validB_size (valid_kd (valid_kd hv (i := 0) (c := 1) (by rw [h]; rfl) (by omega)) (i := 2) (c := 3) (by rw [h']; rfl) (by omega)); omega
/-- A term, or the zero value if it is not valid. -/
def okT (t : T) : T := if validB t then t else .mk 0 0 []
theorem f_ownValid {n : Nat} {t : T} (hn : t.size + 10 ≤ n) (hz : t.size ≤ 4000000) : FF n 75 [tm t] [] = some ([tm t], []) ∧ FF n 92 [tm t] [] = some ([tm (okT t), bl (validB t)], []) :=
  ⟨f_own t (by omega) hz, f_valid (by omega)⟩
theorem f_contract {n : Nat} (hn : 3000000 ≤ n) {t : T} (hv : validB t = true) (hr : Rx t) : FF n 167 [tm t] [] = some ([tm (okT (contractT t)), bl (validB (contractT t))], []) := by
  have hcz := con_size hv hr
  obtain ⟨n, rfl⟩ := pos_succ (show 0 < n by omega)
  rw [E_impl_contract, f_redex (by omega) hv]
  have hrx := (rx_iff t).2 hr
  have gk : ∀ {i c : Nat}, opsOf t.k = c → i < c → t.kids[i]? = some (kd t i) := fun h hi => kid_get (by rw [ops_len hv h]; exact hi)
  have vk : ∀ {i c : Nat}, opsOf t.k = c → i < c → validB (kd t i) = true := fun h hi => valid_kd hv h hi
  simp only [evt, cond_dec, Int.toNat_zero, Int.reduceToNat, Int.toNat_one]
  cases hr with
  | app h h' =>
    have e : redexT t = 1 := by simp [redexT, h, h']
    have h2 : opsOf t.k = (2 : Nat) := by rw [h]; rfl
    have v0 := vk (i := 0) h2 (by omega)
    have h3 : opsOf (kd t 0).k = (2 : Nat) := by rw [h']; rfl
    have v01 := valid_kd v0 (i := 1) h3 (by omega)
    have v1 := vk (i := 1) h2 (by omega)
    have hs := f_subst (n := n) (t := kd (kd t 0) 1) (u := kd t 1) (x := 0) (by omega) (gd_valid v01) (by have := validB_size v01; omega) (gd_valid v1) (by have := validB_size v1; omega) (by omega)
    simp only [e, if_true, gk (i := 0) h2 (by omega), gk (i := 1) h2 (by omega), kid_get (t := kd t 0) (i := 1) (by rw [ops_len v0 h3]; omega), hs, evt, con_app h, sbR, okT]
  | zero h h' =>
    have e : redexT t = 2 := by simp [redexT, h, h']
    have h2 : opsOf t.k = (4 : Nat) := by rw [h]; rfl
    rw [con_zero h h'] at hcz ⊢
    have ho := f_ownValid (n := n) (t := kd t 1) (by omega) (by omega)
    simp only [e, if_true, gk (i := 1) h2 (by omega), ho, evt, show ¬ (2 : Int) = 1 by decide, if_false]
  | succ h h' =>
    have e : redexT t = 3 := by simp [redexT, h, h']
    have h2 : opsOf t.k = (4 : Nat) := by rw [h]; rfl
    have v3 := vk (i := 3) h2 (by omega)
    have h3 : opsOf (kd t 3).k = (1 : Nat) := by rw [h']; rfl
    rw [con_succ h h'] at hcz ⊢
    have ho := f_ownValid (n := n) (t := T.mk 5 0 [.mk 5 0 [kd t 2, kd (kd t 3) 0], .mk 9 0 [kd t 0, kd t 1, kd t 2, kd (kd t 3) 0]]) (by omega) (by omega)
    simp (disch := omega) only [e, if_true, gk (i := 0) h2 (by omega), gk (i := 1) h2 (by omega), gk (i := 2) h2 (by omega), gk (i := 3) h2 (by omega), kid_get (t := kd t 3) (i := 0) (by rw [ops_len v3 h3]; omega), f_node, evt, show ¬ (3 : Int) = 1 by decide, show ¬ (3 : Int) = 2 by decide, if_false]
    have h1 := ho.1
    have h2 := ho.2
    simp only [tm, mk_k, mk_n, mk_kids] at h1 h2
    simp only [h1, h2, evt]
  | move h h' =>
    have e : redexT t = 4 := by simp [redexT, h, h']
    have h2 : opsOf t.k = (3 : Nat) := by rw [h]; rfl
    rw [con_move h] at hcz ⊢
    have ho := f_ownValid (n := n) (t := kd t 2) (by omega) (by omega)
    simp only [e, if_true, gk (i := 2) h2 (by omega), ho, evt, show ¬ (4 : Int) = 1 by decide, show ¬ (4 : Int) = 2 by decide, show ¬ (4 : Int) = 3 by decide, if_false]
  | fst h h' =>
    have e : redexT t = 5 := by simp [redexT, h, h']
    have h2 : opsOf t.k = (1 : Nat) := by rw [h]; rfl
    have v0 := vk (i := 0) h2 (by omega)
    have h3 : opsOf (kd t 0).k = (3 : Nat) := by rw [h']; rfl
    rw [con_fst h] at hcz ⊢
    have ho := f_ownValid (n := n) (t := kd (kd t 0) 1) (by omega) (by omega)
    simp only [e, if_true, gk (i := 0) h2 (by omega), kid_get (t := kd t 0) (i := 1) (by rw [ops_len v0 h3]; omega), ho, evt, show ¬ (5 : Int) = 1 by decide, show ¬ (5 : Int) = 2 by decide, show ¬ (5 : Int) = 3 by decide, show ¬ (5 : Int) = 4 by decide, if_false]
  | snd h h' =>
    have e : redexT t = 6 := by simp [redexT, h, h']
    have h2 : opsOf t.k = (1 : Nat) := by rw [h]; rfl
    have v0 := vk (i := 0) h2 (by omega)
    have h3 : opsOf (kd t 0).k = (3 : Nat) := by rw [h']; rfl
    rw [con_snd h] at hcz ⊢
    have ho := f_ownValid (n := n) (t := kd (kd t 0) 2) (by omega) (by omega)
    simp only [e, if_true, gk (i := 0) h2 (by omega), kid_get (t := kd t 0) (i := 2) (by rw [ops_len v0 h3]; omega), ho, evt, show ¬ (6 : Int) = 1 by decide, show ¬ (6 : Int) = 2 by decide, show ¬ (6 : Int) = 3 by decide, show ¬ (6 : Int) = 4 by decide, show ¬ (6 : Int) = 5 by decide, if_false]
/-! The reference's contraction. -/
/-! Ways. -/
abbrev ins (w : List Nat) : List Int := w.map fun i : Nat => (i : Int)
theorem redex0 {t : T} : (redexT t = 0) ↔ ¬ Rx t := by rw [← rx_iff]; simp
theorem out_loop (n : Nat) (ts : List T) (hl : ts.length ≤ 4000000) (h : ∀ t ∈ ts, FF n 85 [tm t] [] = some ([.one (.fr (.is (ins ((wyT false t).getD [])))), bl (wyT false t).isSome], []))
    (hz : ∀ t ∈ ts, ∀ w, wyT false t = some w → w.length ≤ 4000000) :
    ∀ g m (i : Nat), g < m → i + g = ts.length → L_impl_outer_0 n m ts ts.length i = some ([.one (.fr (.is (ins ((wyL false i (ts.drop i)).getD [])))), bl (wyL false i (ts.drop i)).isSome], [])
  | g, 0, i, hg, _ => by omega
  | 0, m + 1, i, _, hi => by
    rw [L_impl_outer_0_eq, List.drop_of_length_le (by omega)]
    simp only [cond_dec, if_neg (show ¬ (i : Int) < ts.length by omega), wyL]; rfl
  | g + 1, m + 1, i, hg, hi => by
    have hlt : i < ts.length := by omega
    have hm := List.getElem_mem hlt
    rw [List.drop_eq_getElem_cons hlt, wyL]
    rw [L_impl_outer_0_eq]
    simp (disch := omega) only [cond_dec, Int.toNat_natCast, cast1, wrap64, if_pos (show (i : Int) < ts.length by omega), if_pos (show 0 ≤ (i : Int) by omega), List.getElem?_eq_getElem hlt, Option.bind_some]
    rw [h _ hm]
    simp only [evs]
    cases hs : wyT false ts[i] with
    | none =>
      simp only [Option.isSome_none, cond_false]
      exact out_loop n ts hl h hz g m (i + 1) (by omega) (by omega)
    | some w =>
      have := hz _ hm w hs
      simp only [Option.isSome_some, cond_true, Option.getD_some, roomB_ok (show ([(i : Int)] ++ ins w).length ≤ 1099511627776 by simp [ins]; omega)]
      rfl
mutual
theorem wy_len {inn : Bool} : ∀ {t : T} {w : List Nat}, wyT inn t = some w → w.length ≤ t.size
  | .mk k n ts, w, h => by
    rw [wyT] at h
    rw [T.size]
    split at h
    · obtain rfl := Option.some.inj h; simp
    · split at h
      · rename_i w' hw
        obtain rfl := Option.some.inj h
        have := wy_lenL hw; omega
      · split at h
        · obtain rfl := Option.some.inj h; simp
        · cases h
theorem wy_lenL {inn : Bool} : ∀ {ts : List T} {j : Nat} {w : List Nat}, wyL inn j ts = some w → w.length ≤ 1 + T.sizeL ts
  | [], j, w, h => by cases h
  | t :: ts, j, w, h => by
    rw [wyL] at h
    rw [T.sizeL]
    split at h
    · rename_i v hv
      obtain rfl := Option.some.inj h
      have := wy_len hv
      simp only [List.length_cons]; omega
    · have := wy_lenL h; omega
end
theorem f_outer (t : T) : ∀ {n : Nat}, t.size + 5 ≤ n → validB t = true → FF n 85 [tm t] [] = some ([.one (.fr (.is (ins ((wyT false t).getD [])))), bl (wyT false t).isSome], []) := by
  induction t using T.ind with | h t ih =>
  intro n hn hv
  have hsz := T.size_eq t
  have hz := validB_size hv
  have hl := T.sizeL_len t.kids
  obtain ⟨n, rfl⟩ := pos_succ (show 0 < n by omega)
  have e : wyT false t = if Rx t then some [] else wyL false 0 t.kids := by
    cases t with | mk k n ts =>
    rw [wyT]
    simp only [true_and, T.kids]
    split
    · rfl
    · cases wyL false 0 ts <;> simp
  rw [E_impl_outer, f_redex (by omega) hv, e]
  simp only [evs, cond_ndec, redex0]
  by_cases hr : Rx t
  · simp [hr]
  · simp only [hr, not_false_eq_true, if_true, if_false]
    have := out_loop n t.kids (by omega) (fun u hu => ih u hu (by have := T.sizeL_mem hu; omega) (validB_kid hv hu)) (fun u hu w hw => by have := wy_len hw; have := validB_size (validB_kid hv hu); omega) t.kids.length n 0 (by omega) (by omega)
    simpa using this
end Go.Proofs.YthopkmimhlcjkaaGreat
end
section
/- Steps and normalizations in the abstract run. -/
set_option linter.unusedVariables false
set_option linter.unusedSimpArgs false
namespace Go.Proofs.YthopkmimhlcjkaaGreat
open Go Go.Ab Go.Dk
theorem f_clone {n : Nat} (hn : 1 ≤ n) (l : List T) (hl : l.length ≤ 4000000) : FF n 182 [tms l] [] = some ([.one (.own 0 0)], [.arr termT (.ts l) 0 false]) := by
  obtain ⟨n, rfl⟩ := pos_succ (show 0 < n by omega)
  rw [E_slices_Clone]
  simp (disch := omega) only [List.nil_append, roomB_ok, cond_true]
  cases l with
  | nil => exact same_self _
  | cons a l => rfl
theorem at_loop (n : Nat) (w : List Nat) (l0 : List T) (hw : w.length ≤ 4000000) : ∀ g m (i : Nat) (t : T), g < m → i + g = w.length → wyOk t (w.drop i) → L_impl_at_0_fo n m (ins w) (w.length : Int) i t.k t.n t.kids 0 0 l0 = some ([tm (atT t (w.drop i))], [])
  | g, 0, i, t, hg, _, _ => by omega
  | 0, m + 1, i, t, _, hi, _ => by
    rw [L_impl_at_0_fo_eq, List.drop_of_length_le (by omega)]
    simp only [cond_dec, if_neg (show ¬ (i : Int) < w.length by omega), atT]
  | g + 1, m + 1, i, t, hg, hi, ho => by
    have hlt : i < w.length := by omega
    rw [List.drop_eq_getElem_cons hlt] at ho ⊢
    have hget : (ins w)[i]? = some ((w[i] : Nat) : Int) := by simp [ins, hlt]
    rw [L_impl_at_0_fo_eq]
    simp (disch := omega) only [cond_dec, Int.toNat_natCast, cast1, wrap64, if_pos (show (i : Int) < w.length by omega), if_pos (show 0 ≤ (i : Int) by omega), hget, Option.bind_some, if_pos (show 0 ≤ ((w[i] : Nat) : Int) by omega), kid_get ho.1]
    exact at_loop n w l0 hw g m (i + 1) (kd t w[i]) (by omega) (by omega) ho.2
theorem f_at {n : Nat} {t : T} {w : List Nat} (hn : w.length + 2 ≤ n) (hw : w.length ≤ 4000000) (ho : wyOk t w) : FF n 168 [tm t, .one (.fr (.is (ins w)))] [] = some ([tm (atT t w)], []) := by
  obtain ⟨n, rfl⟩ := pos_succ (show 0 < n by omega)
  rw [E_impl_at]
  have := at_loop n w [] hw w.length n 0 t (by omega) (by omega) ho
  simpa [ins] using this
theorem f_put (u : T) : ∀ (w : List Nat) {n : Nat} {t : T}, w.length + 3 ≤ n → t.size ≤ 4000000 → w.length ≤ 4000000 → wyOk t w → FF n 169 [tm t, .one (.fr (.is (ins w))), tm u] [] = some ([tm (puT t w u)], [])
  | [], n, t, hn, hz, hw, _ => by
    obtain ⟨n, rfl⟩ := pos_succ (show 0 < n by omega)
    rw [E_impl_put]; rfl
  | i :: w, n, t, hn, hz, hw, ho => by
    obtain ⟨n, rfl⟩ := pos_succ (show 0 < n by omega)
    simp only [List.length_cons] at hn hw
    have hsz := T.size_eq t
    have hl := T.sizeL_len t.kids
    have hk := T.sizeL_mem (kd_mem ho.1)
    have h1 := f_put u w (n := n) (t := kd t i) (by omega) (by omega) (by omega) ho.2
    rw [E_impl_put, f_clone (by omega) _ (by omega)]
    have hlen : ((ins (i :: w)).length : Int) = ((w.length + 1 : Nat) : Int) := by simp [ins]
    have hsl : ((ins (i :: w)).take (w.length + 1)).drop (1 : Int).toNat = ins w := by
      show (ins w).take w.length = ins w
      exact List.take_of_length_le (by simp [ins])
    have h0 : (ins (i :: w))[(0 : Int).toNat]? = some (i : Int) := rfl
    simp only [evt, cond_dec, hsl, h0, hlen, if_neg (show ¬ ((w.length + 1 : Nat) : Int) = 0 by omega), if_pos (show 0 ≤ (i : Int) by omega), Int.toNat_natCast, kid_get ho.1, inB, decide_eq_true (show (0 : Int) ≤ 1 by omega), decide_eq_true (show (1 : Int) ≤ ((w.length + 1 : Nat) : Int) by omega), Int.le_refl, h1, if_pos (show (i : Int) < (t.kids.length : Int) by have := ho.1; omega)]
    rfl
theorem okT_valid {t : T} (h : validB t = true) : okT t = t := if_pos h
theorem okT_not {t : T} (h : validB t = false) : okT t = .mk 0 0 [] := if_neg (by simp [h])
theorem f_contracted {n : Nat} (hn : 4000000 ≤ n) {t : T} (hv : validB t = true) {inn : Bool} {w : List Nat} (hw : wyT inn t = some w) {u : T} (hu : stT inn t = some u) :
    FF n 130 [tm t, .one (.fr (.is (ins w)))] [] = some ([tm (okT u), bl (validB u)], []) := by
  obtain ⟨ho, hr, hs⟩ := wy_some hw
  rw [hs] at hu
  obtain rfl := Option.some.inj hu
  have hz := validB_size hv
  have hwl := wy_len hw
  have va := at_valid ho hv
  have hcz := con_size va hr
  obtain ⟨n, rfl⟩ := pos_succ (show 0 < n by omega)
  rw [E_impl_contracted]
  simp only [evt, f_at (n := n) (by omega) (by omega) ho, f_contract (n := n) (by omega) va hr]
  cases hc : validB (contractT (atT t w)) with
  | false =>
    have : validB (puT t w (contractT (atT t w))) = false := by
      cases hp : validB (puT t w (contractT (atT t w))) with
      | false => rfl
      | true => rw [put_valid ho hp] at hc; cases hc
    simp only [Bool.not_false, cond_true, this, okT_not this]; rfl
  | true =>
    have hp := put_size (u := contractT (atT t w)) ho
    have hov := f_ownValid (n := n) (t := puT t w (contractT (atT t w))) (by omega) (by omega)
    simp only [Bool.not_true, cond_false, okT_valid hc, f_put (contractT (atT t w)) w (n := n) (by omega) (by omega) (by omega) ho, evt, hov]
theorem wy_none_iff {inn : Bool} {t : T} : wyT inn t = none ↔ stT inn t = none := by
  constructor
  · exact wy_none
  · intro h
    cases hw : wyT inn t with
    | none => rfl
    | some w => rw [(wy_some hw).2.2] at h; cases h
theorem red_loop (n : Nat) (hn : 5000000 ≤ n) (fuel : Nat) (hf : fuel ≤ 200) (l0 : List T) : ∀ g m (s : Nat) (t : T), g < m → s + g = fuel → validB t = true →
    L_impl_reduce_impl_outer_0_fo n m (fuel : Int) s t.k t.n t.kids 0 0 l0 = some ([tm (redF false g s t).1, nt ((redF false g s t).2.1 : Int), nt (redF false g s t).2.2], [])
  | g, 0, s, t, hg, _, _ => by omega
  | g, m + 1, s, t, hg, hs, hv => by
    have hz := validB_size hv
    rw [L_impl_reduce_impl_outer_0_fo_eq, f_outer t (n := n) (by omega) hv]
    simp only [evs]
    cases hw : wyT false t with
    | none =>
      have h0 := wy_none_iff.1 hw
      have : redF false g s t = (t, s, 0) := by cases g <;> rw [redF, h0]
      rw [this]
      simp only [Option.isSome_none, Bool.not_false, cond_true, f_own t (n := n) (by omega) (by omega), evt]
    | some w =>
      have hst := (wy_some hw).2.2
      simp only [Option.isSome_some, Option.getD_some, Bool.not_true, cond_false, cond_dec]
      cases g with
      | zero =>
        rw [if_pos (by omega), redF, hst]; rfl
      | succ g =>
        rw [if_neg (by omega), f_contracted (n := n) (by omega) hv hw hst, redF, hst]
        simp only [evt]
        cases hc : validB (puT t w (contractT (atT t w))) with
        | false => rfl
        | true =>
          simp (disch := omega) only [okT_valid hc, Bool.not_true, cond_false, if_true, wrap64, cast1]
          exact red_loop n hn fuel hf l0 g m (s + 1) _ (by omega) (by omega) hc
/-- What a normalization hands back: the term, the number of steps, the code. -/
def redR (inn : Bool) (t : T) (fuel : Int) : T × Nat × Int := if validB t = true ∧ 0 ≤ fuel ∧ fuel ≤ 200 then redF inn fuel.toNat 0 t else (.mk 0 0 [], 0, 3)
theorem f_reduce_outer {n : Nat} {t : T} {fuel : Int} (hn : 6000000 + t.size ≤ n) : FF n 94 [tm t, nt fuel, .one (.fn 85 [])] [] = some ([tm (redR false t fuel).1, nt ((redR false t fuel).2.1 : Int), nt (redR false t fuel).2.2], []) := by
  obtain ⟨n, rfl⟩ := pos_succ (show 0 < n by omega)
  rw [E_impl_reduce_impl_outer, f_TermValid (by omega)]
  simp only [evs]
  unfold redR
  cases hv : validB t with
  | false => simp [mk_k, mk_n, mk_kids]
  | true =>
    simp (disch := omega) only [Bool.not_true, cond_false, f_within, evs, true_and]
    by_cases hf : 0 ≤ fuel ∧ fuel ≤ 200
    · obtain ⟨f, rfl⟩ : ∃ f : Nat, fuel = f := ⟨fuel.toNat, by omega⟩
      rw [if_pos hf, decide_eq_true hf.1, decide_eq_true hf.2, Int.toNat_natCast]
      simp only [Bool.and_self, Bool.not_true, cond_false]
      exact red_loop n (by omega) f (by omega) [] f n 0 t (by omega) (by omega) hv
    · rw [if_neg hf]
      have : (decide (0 ≤ fuel) && decide (fuel ≤ 200)) = false := by
        rw [← Bool.not_eq_true, Bool.and_eq_true, decide_eq_true_eq, decide_eq_true_eq]; exact hf
      rw [this]; rfl
theorem f_Normalize {n : Nat} {t : T} {fuel : Int} (hn : 6000001 + t.size ≤ n) : FF n 59 [tm t, nt fuel] [] = some ([tm (redR false t fuel).1, nt (redR false t fuel).2.2], []) := by
  obtain ⟨n, rfl⟩ := pos_succ (show 0 < n by omega)
  rw [E_impl_Normalize, f_reduce_outer (by omega)]
  simp only [evt]
/-! The reference's. -/
theorem with_loop (n : Nat) (ts : List T) (j : Nat) (u : T) (k0 n0 : Int) (z1 z2 : Int) (l : List T) (k1 n1 : Int) (hl : ts.length ≤ 4000000) (h : ∀ t ∈ ts, FF n 113 [tm t] [] = some (ow t)) :
    ∀ g m (i : Nat), g < m → i + g = ts.length → L_spec_l3With_0_ffoo n m (j : Int) i k0 n0 ts u.k u.n u.kids z1 z2 l k1 n1 ((ts.set j u).take i) = some ([tm (.mk k1 n1 (ts.set j u))], [])
  | g, 0, i, hg, _ => by omega
  | 0, m + 1, i, _, hi => by
    rw [L_spec_l3With_0_ffoo_eq]
    simp only [cond_dec, if_neg (show ¬ (i : Int) < ts.length by omega), List.take_of_length_le (show (ts.set j u).length ≤ i by rw [List.length_set]; omega)]; rfl
  | g + 1, m + 1, i, hg, hi => by
    have hlt : i < ts.length := by omega
    have hlt2 : i < (ts.set j u).length := by rw [List.length_set]; exact hlt
    have ht : ((ts.set j u).take i).length = i := by rw [List.length_take]; omega
    have ht1 : ((ts.set j u).take (i + 1)).length = i + 1 := by rw [List.length_take]; omega
    rw [L_spec_l3With_0_ffoo_eq]
    by_cases hj : i = j
    · have he : (ts.set j u)[i]'hlt2 = u := by subst hj; simp
      have := take_snoc hlt2
      rw [he] at this
      simp (disch := omega) only [cond_dec, if_pos (show (i : Int) < ts.length by omega), if_pos (show (i : Int) = j by omega), List.length_append, List.length_cons, List.length_nil, ht, ht1, roomB_ok, cond_true, T.eta, this, wrap64, cast1]
      exact with_loop n ts j u k0 n0 z1 z2 l k1 n1 hl h g m (i + 1) (by omega) (by omega)
    · have he : (ts.set j u)[i]'hlt2 = ts[i] := by rw [List.getElem_set_ne (fun e => hj e.symm)]
      have := take_snoc hlt2
      rw [he] at this
      simp (disch := omega) only [cond_dec, if_pos (show (i : Int) < ts.length by omega), if_neg (show ¬ (i : Int) = j by omega), if_pos (show 0 ≤ (i : Int) by omega), Int.toNat_natCast, List.getElem?_eq_getElem hlt, h _ (List.getElem_mem hlt), evt, List.length_append, List.length_cons, List.length_nil, ht, ht1, roomB_ok, this, wrap64, cast1]
      exact with_loop n ts j u k0 n0 z1 z2 l k1 n1 hl h g m (i + 1) (by omega) (by omega)
theorem f_l3With {n : Nat} {t u : T} {j : Nat} (hn : t.size + 6 ≤ n) (hz : t.size ≤ 4000000) : FF n 122 [tm t, nt (j : Int), tm u] [] = some ([tm (.mk t.k t.n (t.kids.set j u))], []) := by
  obtain ⟨n, rfl⟩ := pos_succ (show 0 < n by omega)
  have hsz := T.size_eq t
  have hl := T.sizeL_len t.kids
  rw [E_spec_l3With]
  have := with_loop n t.kids j u t.k t.n 0 0 [] t.k t.n (by omega) (fun v hv => f_l1Copy v (by have := T.sizeL_mem hv; omega) (by have := T.sizeL_mem hv; omega)) t.kids.length n 0 (by omega) (by omega)
  simpa using this
end Go.Proofs.YthopkmimhlcjkaaGreat
end
section
/- Conversion and traces: what the laws need. No program in sight. -/
set_option linter.unusedVariables false
set_option linter.unusedSimpArgs false
namespace Go.Proofs.YthopkmimhlcjkaaGreat
open Go Go.Dk
/-- What Convertible answers for valid terms. -/
def convC (a b : T) (f : Nat) : Int :=
  if T.beq a b then 1
  else if (redF false f 0 a).2.2 ≠ 0 ∨ (redF false f 0 b).2.2 ≠ 0 then 3
  else if T.beq (redF false f 0 a).1 (redF false f 0 b).1 then 1 else 2
/-- What Convertible answers. -/
def convR (a b : T) (f : Int) : Int := if validB a = true ∧ validB b = true ∧ 0 ≤ f ∧ f ≤ 200 then convC a b f.toNat else 0
theorem convR_pos {a b : T} {f : Int} (h : validB a = true ∧ validB b = true ∧ 0 ≤ f ∧ f ≤ 200) : convR a b f = convC a b f.toNat := if_pos h
theorem redF_red {inn : Bool} : ∀ (g s : Nat) (t : T), (redF inn g s t).2.2 = 0 → Red t (redF inn g s t).1 ∧ nfB (redF inn g s t).1 = true
  | 0, s, t, h => by
    rw [redF] at h ⊢
    cases hs : stT inn t with
    | none => exact ⟨.refl, st_none.1 hs⟩
    | some u => rw [hs] at h; cases h
  | g + 1, s, t, h => by
    rw [redF] at h ⊢
    cases hs : stT inn t with
    | none => exact ⟨.refl, st_none.1 hs⟩
    | some u =>
      rw [hs] at h
      simp only at h ⊢
      cases hu : validB u with
      | false => rw [hu] at h; cases h
      | true =>
        rw [hu] at h
        simp only [if_true] at h ⊢
        obtain ⟨h1, h2⟩ := redF_red g (s + 1) u h
        exact ⟨.step (st_par hs) h1, h2⟩
theorem convC_two {a b : T} {f : Nat} (h : convC a b f = 2) : (redF false f 0 a).2.2 = 0 ∧ (redF false f 0 b).2.2 = 0 ∧ (redF false f 0 a).1 ≠ (redF false f 0 b).1 := by
  unfold convC at h
  split at h
  · cases h
  · split at h
    · cases h
    · rename_i hh
      split at h
      · cases h
      · rename_i hb
        exact ⟨Classical.byContradiction fun h => hh (.inl h), Classical.byContradiction fun h => hh (.inr h), fun e => hb ((T.beq_iff _ _).2 e)⟩
/-! Congruence. -/
theorem Red.kids {k n : Int} {pre post : List T} {a b : T} (h : Red a b) : Red (.mk k n (pre ++ a :: post)) (.mk k n (pre ++ b :: post)) := by
  induction h with
  | refl => exact .refl
  | step h _ ih =>
    refine .step (.node ?_) ih
    clear ih
    induction pre with
    | nil => exact .cons h (ParL.refl _)
    | cons x pre ih => exact .cons (Par.refl x) ih
/-! Traces. -/
end Go.Proofs.YthopkmimhlcjkaaGreat
end
section
/- Conversion and traces in the abstract run. -/
set_option linter.unusedVariables false
set_option linter.unusedSimpArgs false
namespace Go.Proofs.YthopkmimhlcjkaaGreat
open Go Go.Ab Go.Dk
theorem redF_size {inn : Bool} {g s : Nat} {t : T} (hv : validB t = true) : (redF inn g s t).1.size ≤ 400 := by
  induction g generalizing s t with
  | zero =>
    rw [redF]
    cases stT inn t with
    | none => exact validB_size hv
    | some u => simp [junk, T.size, T.sizeL]
  | succ g ih =>
    rw [redF]
    cases stT inn t with
    | none => exact validB_size hv
    | some u =>
      simp only
      cases hu : validB u with
      | false => simp [junk, T.size, T.sizeL]
      | true => exact ih hu
theorem redR_eq {inn : Bool} {t : T} {f : Int} (h : validB t = true ∧ 0 ≤ f ∧ f ≤ 200) : redR inn t f = redF inn f.toNat 0 t := if_pos h
theorem f_Convertible {n : Nat} {a b : T} {f : Int} (hn : 7000000 ≤ n) (ha : a.size ≤ 100000) (hb : b.size ≤ 100000) : FF n 47 [tm a, tm b, nt f] [] = some ([nt (convR a b f)], []) := by
  obtain ⟨n, rfl⟩ := pos_succ (show 0 < n by omega)
  rw [E_impl_Convertible, f_TermValid (by omega), f_TermValid (by omega), f_within (by omega), f_TermSame a (by omega) (by omega), f_Normalize (by omega), f_Normalize (by omega)]
  simp only [evt]
  by_cases h : validB a = true ∧ validB b = true ∧ 0 ≤ f ∧ f ≤ 200
  · have e : (decide (0 ≤ f) && decide (f ≤ 200)) = true := by simp [h.2.2]
    have ra : redR false a f = redF false f.toNat 0 a := redR_eq ⟨h.1, h.2.2⟩
    have rb : redR false b f = redF false f.toNat 0 b := redR_eq ⟨h.2.1, h.2.2⟩
    have hz := redF_size (inn := false) (g := f.toNat) (s := 0) h.1
    rw [convR_pos h]
    simp only [h.1, h.2.1, e, Bool.not_true, cond_false, ra, rb, cond_ndec]
    unfold convC
    cases hs : T.beq a b with
    | true => rfl
    | false =>
      simp only [cond_false]
      rw [f_TermSame _ (by omega) (by omega)]
      simp only [evt]
      by_cases c1 : (redF false f.toNat 0 a).2.2 = 0
      · by_cases c2 : (redF false f.toNat 0 b).2.2 = 0
        · cases hb2 : T.beq (redF false f.toNat 0 a).1 (redF false f.toNat 0 b).1 <;> simp [c1, c2]
        · simp [c1, c2]
      · simp [c1]
  · rw [show convR a b f = 0 from if_neg h]
    cases h1 : validB a with
    | false => simp
    | true =>
      cases h2 : validB b with
      | false => simp
      | true =>
        have e : (decide (0 ≤ f) && decide (f ≤ 200)) = false := by
          rw [← Bool.not_eq_true, Bool.and_eq_true, decide_eq_true_eq, decide_eq_true_eq]; exact fun hh => h ⟨h1, h2, hh⟩
        simp [e]
/-! Laws of conversion. -/
theorem conv_law {f : FuncId} {args : List V1} {C : Nat} (h : ∀ n, C ≤ n → Tot (FF n f args []) (fun r => r = ([bl true], []))) : Ev f args [] ([bl true], []) :=
  ⟨C, fun n hn => by obtain ⟨r, h1, rfl⟩ := h n hn; exact h1⟩
end Go.Proofs.YthopkmimhlcjkaaGreat
end
section
/- Terms with one constructor a kind: renaming, substitution, parallel reduction, confluence, head reduction, standard reductions. No program in sight. -/
set_option linter.unusedVariables false
set_option linter.unusedSimpArgs false
namespace Go.Proofs.YthopkmimhlcjkaaGreat
inductive Tm where
  | var (n : Nat) | sort (n : Nat) | pi (a b : Tm) | lam (a b : Tm) | app (f a : Tm)
  | nat | zero | succ (n : Tm) | elim (p z s n : Tm) | id (t a b : Tm) | refl (a : Tm)
  | move (p e x : Tm) | sig (a b : Tm) | pair (s a b : Tm) | fst (q : Tm) | snd (q : Tm)
namespace Tm
def up (ξ : Nat → Nat) : Nat → Nat
  | 0 => 0
  | n + 1 => ξ n + 1
def ren : Tm → (Nat → Nat) → Tm
  | var n, ξ => var (ξ n)
  | sort n, _ => sort n
  | pi a b, ξ => pi (a.ren ξ) (b.ren (up ξ))
  | lam a b, ξ => lam (a.ren ξ) (b.ren (up ξ))
  | app f a, ξ => app (f.ren ξ) (a.ren ξ)
  | nat, _ => nat
  | zero, _ => zero
  | succ n, ξ => succ (n.ren ξ)
  | elim p z s n, ξ => elim (p.ren ξ) (z.ren ξ) (s.ren ξ) (n.ren ξ)
  | id t a b, ξ => id (t.ren ξ) (a.ren ξ) (b.ren ξ)
  | refl a, ξ => refl (a.ren ξ)
  | move p e x, ξ => move (p.ren ξ) (e.ren ξ) (x.ren ξ)
  | sig a b, ξ => sig (a.ren ξ) (b.ren (up ξ))
  | pair s a b, ξ => pair (s.ren ξ) (a.ren ξ) (b.ren ξ)
  | fst q, ξ => fst (q.ren ξ)
  | snd q, ξ => snd (q.ren ξ)
def wk (t : Tm) : Tm := t.ren (· + 1)
def ups (σ : Nat → Tm) : Nat → Tm
  | 0 => var 0
  | n + 1 => (σ n).wk
def sub : Tm → (Nat → Tm) → Tm
  | var n, σ => σ n
  | sort n, _ => sort n
  | pi a b, σ => pi (a.sub σ) (b.sub (ups σ))
  | lam a b, σ => lam (a.sub σ) (b.sub (ups σ))
  | app f a, σ => app (f.sub σ) (a.sub σ)
  | nat, _ => nat
  | zero, _ => zero
  | succ n, σ => succ (n.sub σ)
  | elim p z s n, σ => elim (p.sub σ) (z.sub σ) (s.sub σ) (n.sub σ)
  | id t a b, σ => id (t.sub σ) (a.sub σ) (b.sub σ)
  | refl a, σ => refl (a.sub σ)
  | move p e x, σ => move (p.sub σ) (e.sub σ) (x.sub σ)
  | sig a b, σ => sig (a.sub σ) (b.sub (ups σ))
  | pair s a b, σ => pair (s.sub σ) (a.sub σ) (b.sub σ)
  | fst q, σ => fst (q.sub σ)
  | snd q, σ => snd (q.sub σ)
def sc (u : Tm) (σ : Nat → Tm) : Nat → Tm
  | 0 => u
  | n + 1 => σ n
def inst (b u : Tm) : Tm := b.sub (sc u var)
theorem up_id : up (fun n => n) = fun n => n := by funext n; cases n <;> rfl
theorem up_comp (ξ ζ : Nat → Nat) : (fun n => up ζ (up ξ n)) = up (fun n => ζ (ξ n)) := by funext n; cases n <;> rfl
theorem ren_ren (t : Tm) : ∀ ξ ζ, (t.ren ξ).ren ζ = t.ren (fun n => ζ (ξ n)) := by
  induction t <;> intro ξ ζ <;> simp_all [ren, up_comp]
theorem ren_id (t : Tm) : t.ren (fun n => n) = t := by
  induction t <;> simp_all [ren, up_id]
theorem ups_var : ups var = var := by funext n; cases n <;> rfl
theorem sub_var (t : Tm) : t.sub var = t := by
  induction t <;> simp_all [sub, ups_var]
theorem up_ups (ξ : Nat → Nat) (σ : Nat → Tm) : (fun n => ups σ (up ξ n)) = ups (fun n => σ (ξ n)) := by funext n; cases n <;> rfl
theorem ren_sub (t : Tm) : ∀ ξ σ, (t.ren ξ).sub σ = t.sub (fun n => σ (ξ n)) := by
  induction t <;> intro ξ σ <;> simp_all [ren, sub, up_ups]
theorem ups_ren (σ : Nat → Tm) (ξ : Nat → Nat) : (fun n => (ups σ n).ren (up ξ)) = ups (fun n => (σ n).ren ξ) := by
  funext n; cases n with
  | zero => rfl
  | succ n => simp only [ups, wk, ren_ren]; rfl
theorem sub_ren (t : Tm) : ∀ σ ξ, (t.sub σ).ren ξ = t.sub (fun n => (σ n).ren ξ) := by
  induction t <;> intro σ ξ <;> simp_all [ren, sub, ups_ren]
theorem ups_sub (σ τ : Nat → Tm) : (fun n => (ups σ n).sub (ups τ)) = ups (fun n => (σ n).sub τ) := by
  funext n; cases n with
  | zero => rfl
  | succ n => simp only [ups, wk, ren_sub, sub_ren]
theorem sub_sub (t : Tm) : ∀ σ τ, (t.sub σ).sub τ = t.sub (fun n => (σ n).sub τ) := by
  induction t <;> intro σ τ <;> simp_all [sub, ups_sub]
theorem ups_of_ren (ξ : Nat → Nat) : ups (fun n => var (ξ n)) = fun n => var (up ξ n) := by funext n; cases n <;> rfl
theorem ren_eq (t : Tm) : ∀ ξ, t.ren ξ = t.sub (fun n => var (ξ n)) := by
  induction t <;> intro ξ <;> simp_all [ren, sub, ups_of_ren]
theorem wk_sub (t u : Tm) (σ : Nat → Tm) : t.wk.sub (sc u σ) = t.sub σ := by rw [wk, ren_sub]; rfl
theorem wk_ups (t : Tm) (σ : Nat → Tm) : t.wk.sub (ups σ) = (t.sub σ).wk := by rw [wk, ren_sub, wk, sub_ren]; rfl
theorem wk_up (t : Tm) (ξ : Nat → Nat) : t.wk.ren (up ξ) = (t.ren ξ).wk := by rw [wk, wk, ren_ren, ren_ren]; rfl
theorem inst_sub (b u : Tm) (σ : Nat → Tm) : (b.inst u).sub σ = (b.sub (ups σ)).inst (u.sub σ) := by
  rw [inst, inst, sub_sub, sub_sub]; congr 1; funext n; cases n with
  | zero => rfl
  | succ n => simp only [ups, wk_sub, sub_var]; rfl
theorem inst_ren (b u : Tm) (ξ : Nat → Nat) : (b.inst u).ren ξ = (b.ren (up ξ)).inst (u.ren ξ) := by
  rw [inst, inst, sub_ren, ren_sub]; congr 1; funext n; cases n <;> rfl
theorem ups_inst (b u : Tm) (σ : Nat → Tm) : (b.sub (ups σ)).inst u = b.sub (sc u σ) := by
  rw [inst, sub_sub]; congr 1; funext n; cases n with
  | zero => rfl
  | succ n => simp only [ups, wk_sub, sub_var]; rfl

/-! Parallel reduction. -/
inductive Par : Tm → Tm → Prop
  | var {n} : Par (var n) (var n)
  | sort {n} : Par (sort n) (sort n)
  | pi {a a' b b'} (h : Par a a') (k : Par b b') : Par (pi a b) (pi a' b')
  | lam {a a' b b'} (h : Par a a') (k : Par b b') : Par (lam a b) (lam a' b')
  | app {a a' b b'} (h : Par a a') (k : Par b b') : Par (app a b) (app a' b')
  | nat : Par nat nat
  | zero : Par zero zero
  | succ {a a'} (h : Par a a') : Par (succ a) (succ a')
  | elim {p p' z z' s s' n n'} (h : Par p p') (k : Par z z') (l : Par s s') (m : Par n n') : Par (elim p z s n) (elim p' z' s' n')
  | id {t t' a a' b b'} (h : Par t t') (k : Par a a') (l : Par b b') : Par (id t a b) (id t' a' b')
  | refl {a a'} (h : Par a a') : Par (refl a) (refl a')
  | move {t t' a a' b b'} (h : Par t t') (k : Par a a') (l : Par b b') : Par (move t a b) (move t' a' b')
  | sig {a a' b b'} (h : Par a a') (k : Par b b') : Par (sig a b) (sig a' b')
  | pair {t t' a a' b b'} (h : Par t t') (k : Par a a') (l : Par b b') : Par (pair t a b) (pair t' a' b')
  | fst {a a'} (h : Par a a') : Par (fst a) (fst a')
  | snd {a a'} (h : Par a a') : Par (snd a) (snd a')
  | beta {a b b' u u'} (h : Par b b') (k : Par u u') : Par (app (lam a b) u) (b'.inst u')
  | ezero {p z z' s} (h : Par z z') : Par (elim p z s zero) z'
  | esucc {p p' z z' s s' n n'} (h : Par p p') (k : Par z z') (l : Par s s') (m : Par n n') : Par (elim p z s (succ n)) (app (app s' n') (elim p' z' s' n'))
  | mrefl {p a x x'} (h : Par x x') : Par (move p (refl a) x) x'
  | fpair {t a a' b} (h : Par a a') : Par (fst (pair t a b)) a'
  | spair {t a b b'} (h : Par b b') : Par (snd (pair t a b)) b'
theorem Par.rfl' (t : Tm) : Par t t := by induction t <;> constructor <;> assumption
theorem Par.ren {t u : Tm} (h : Par t u) : ∀ ξ, Par (t.ren ξ) (u.ren ξ) := by
  induction h <;> intro ξ <;> simp only [Tm.ren, inst_ren] <;> constructor <;> first | assumption | (rename_i a b; first | exact a _ | exact b _) | (rename_i a b c; first | exact a _ | exact b _ | exact c _) | (rename_i a b c d; first | exact a _ | exact b _ | exact c _ | exact d _)
theorem Par.sub {t u : Tm} (h : Par t u) : ∀ σ τ : Nat → Tm, (∀ n, Par (σ n) (τ n)) → Par (t.sub σ) (u.sub τ) := by
  have hu : ∀ σ τ : Nat → Tm, (∀ n, Par (σ n) (τ n)) → ∀ n, Par (ups σ n) (ups τ n) := by
    intro σ τ h n; cases n with
    | zero => exact .var
    | succ n => exact (h n).ren _
  induction h <;> intro σ τ hs <;> simp only [Tm.sub, inst_sub] <;> first
    | exact hs _
    | (constructor <;> first | exact hs _ | (rename_i a b; first | exact a _ _ hs | exact a _ _ (hu _ _ hs) | exact b _ _ hs | exact b _ _ (hu _ _ hs)) | (rename_i a b c d; first | exact a _ _ hs | exact b _ _ hs | exact c _ _ hs | exact d _ _ hs))

/-! Complete developments, confluence. -/
def dev : Tm → Tm
  | var n => var n
  | sort n => sort n
  | pi a b => pi a.dev b.dev
  | lam a b => lam a.dev b.dev
  | app f u => match f with
    | lam _ b => b.dev.inst u.dev
    | f => app f.dev u.dev
  | nat => nat
  | zero => zero
  | succ n => succ n.dev
  | elim p z s n => match n with
    | zero => z.dev
    | succ m => app (app s.dev m.dev) (elim p.dev z.dev s.dev m.dev)
    | n => elim p.dev z.dev s.dev n.dev
  | id t a b => id t.dev a.dev b.dev
  | refl a => refl a.dev
  | move p e x => match e with
    | refl _ => x.dev
    | e => move p.dev e.dev x.dev
  | sig a b => sig a.dev b.dev
  | pair s a b => pair s.dev a.dev b.dev
  | fst q => match q with
    | pair _ a _ => a.dev
    | q => fst q.dev
  | snd q => match q with
    | pair _ _ b => b.dev
    | q => snd q.dev
theorem Par.inst {b b' u u' : Tm} (h : Par b b') (k : Par u u') : Par (b.inst u) (b'.inst u') :=
  h.sub _ _ fun n => by cases n with
    | zero => exact k
    | succ n => exact .var
theorem Par.tri {t u : Tm} (h : Par t u) : Par u t.dev := by
  induction h with
  | var => exact .var
  | sort => exact .sort
  | pi h k ih ik => exact .pi ih ik
  | lam h k ih ik => exact .lam ih ik
  | app h k ih ik =>
    rename_i a a' b b'
    cases a with
    | lam c d =>
      cases h with
      | lam h1 h2 => cases ih with
        | lam i1 i2 => exact .beta i2 ik
    | _ => exact .app ih ik
  | nat => exact .nat
  | zero => exact .zero
  | succ h ih => exact .succ ih
  | elim h k l m ih ik il im =>
    rename_i p p' z z' s s' n n'
    cases n with
    | zero => cases m; exact .ezero ik
    | succ m' => cases m with
      | succ m => cases im with
        | succ im => exact .esucc ih ik il im
    | _ => exact .elim ih ik il im
  | id h k l ih ik il => exact .id ih ik il
  | refl h ih => exact .refl ih
  | move h k l ih ik il =>
    rename_i p p' e e' x x'
    cases e with
    | refl a => cases k with
      | refl k => exact .mrefl il
    | _ => exact .move ih ik il
  | sig h k ih ik => exact .sig ih ik
  | pair h k l ih ik il => exact .pair ih ik il
  | fst h ih =>
    rename_i q q'
    cases q with
    | pair t a b => cases h with
      | pair h k l => cases ih with
        | pair ih ik il => exact .fpair ik
    | _ => exact .fst ih
  | snd h ih =>
    rename_i q q'
    cases q with
    | pair t a b => cases h with
      | pair h k l => cases ih with
        | pair ih ik il => exact .spair il
    | _ => exact .snd ih
  | beta h k ih ik => exact ih.inst ik
  | ezero h ih => exact ih
  | esucc h k l m ih ik il im => exact .app (.app il im) (.elim ih ik il im)
  | mrefl h ih => exact ih
  | fpair h ih => exact ih
  | spair h ih => exact ih
inductive Red : Tm → Tm → Prop
  | nil {t} : Red t t
  | cons {t u v} (h : Par t u) (hs : Red u v) : Red t v
theorem Par.red {t u : Tm} (h : Par t u) : Red t u := .cons h .nil
theorem Red.trans {t u v : Tm} (h : Red t u) (k : Red u v) : Red t v := by
  induction h with
  | nil => exact k
  | cons h _ ih => exact .cons h (ih k)
theorem Red.strip {t u v : Tm} (h : Par t u) (k : Red t v) : ∃ w, Red u w ∧ Par v w := by
  induction k generalizing u with
  | nil => exact ⟨u, .nil, h⟩
  | cons h1 _ ih =>
    obtain ⟨w, hw, hv⟩ := ih h1.tri
    exact ⟨w, .cons h.tri hw, hv⟩
theorem Red.confl {t u v : Tm} (h : Red t u) (k : Red t v) : ∃ w, Red u w ∧ Red v w := by
  induction h generalizing v with
  | nil => exact ⟨v, k, .nil⟩
  | cons h1 _ ih =>
    obtain ⟨w, hw, hv⟩ := Red.strip h1 k
    obtain ⟨z, hz, hz'⟩ := ih hw
    exact ⟨z, hz, .cons hv hz'⟩
theorem Red.ren {t u : Tm} (h : Red t u) (ξ) : Red (t.ren ξ) (u.ren ξ) := by
  induction h with
  | nil => exact .nil
  | cons h _ ih => exact .cons (h.ren ξ) ih
theorem Red.sub {t u : Tm} (h : Red t u) (σ) : Red (t.sub σ) (u.sub σ) := by
  induction h with
  | nil => exact .nil
  | cons h _ ih => exact .cons (h.sub _ _ fun n => Par.rfl' _) ih
/-- A context that keeps parallel steps keeps reductions. -/
theorem Red.ctx {f : Tm → Tm} (hf : ∀ a b, Par a b → Par (f a) (f b)) {t u : Tm} (h : Red t u) : Red (f t) (f u) := by
  induction h with
  | nil => exact .nil
  | cons h _ ih => exact .cons (hf _ _ h) ih
theorem Red.ctx2 {f : Tm → Tm → Tm} (hf : ∀ a b c d, Par a b → Par c d → Par (f a c) (f b d)) {t u v w : Tm} (h : Red t u) (k : Red v w) : Red (f t v) (f u w) :=
  (Red.ctx (f := fun x => f x v) (fun a b h => hf _ _ _ _ h (Par.rfl' _)) h).trans (Red.ctx (f := fun x => f u x) (fun a b h => hf _ _ _ _ (Par.rfl' _) h) k)
theorem Red.pi {a a' b b' : Tm} (h : Red a a') (k : Red b b') : Red (Tm.pi a b) (Tm.pi a' b') := Red.ctx2 (fun _ _ _ _ h k => .pi h k) h k
theorem Red.lam {a a' b b' : Tm} (h : Red a a') (k : Red b b') : Red (Tm.lam a b) (Tm.lam a' b') := Red.ctx2 (fun _ _ _ _ h k => .lam h k) h k
theorem Red.sig {a a' b b' : Tm} (h : Red a a') (k : Red b b') : Red (Tm.sig a b) (Tm.sig a' b') := Red.ctx2 (fun _ _ _ _ h k => .sig h k) h k
theorem Red.app {a a' b b' : Tm} (h : Red a a') (k : Red b b') : Red (Tm.app a b) (Tm.app a' b') := Red.ctx2 (fun _ _ _ _ h k => .app h k) h k
theorem Red.succ {a a' : Tm} (h : Red a a') : Red (Tm.succ a) (Tm.succ a') := Red.ctx (fun _ _ h => .succ h) h
theorem Red.refl {a a' : Tm} (h : Red a a') : Red (Tm.refl a) (Tm.refl a') := Red.ctx (fun _ _ h => .refl h) h
theorem Red.fst {a a' : Tm} (h : Red a a') : Red (Tm.fst a) (Tm.fst a') := Red.ctx (fun _ _ h => .fst h) h
theorem Red.snd {a a' : Tm} (h : Red a a') : Red (Tm.snd a) (Tm.snd a') := Red.ctx (fun _ _ h => .snd h) h
theorem Red.id {t t' a a' b b' : Tm} (h : Red t t') (k : Red a a') (l : Red b b') : Red (Tm.id t a b) (Tm.id t' a' b') :=
  (Red.ctx (f := fun x => Tm.id x a b) (fun _ _ h => .id h (Par.rfl' _) (Par.rfl' _)) h).trans (Red.ctx2 (f := fun x y => Tm.id t' x y) (fun _ _ _ _ h k => .id (Par.rfl' _) h k) k l)
theorem Red.move {t t' a a' b b' : Tm} (h : Red t t') (k : Red a a') (l : Red b b') : Red (Tm.move t a b) (Tm.move t' a' b') :=
  (Red.ctx (f := fun x => Tm.move x a b) (fun _ _ h => .move h (Par.rfl' _) (Par.rfl' _)) h).trans (Red.ctx2 (f := fun x y => Tm.move t' x y) (fun _ _ _ _ h k => .move (Par.rfl' _) h k) k l)
theorem Red.pair {t t' a a' b b' : Tm} (h : Red t t') (k : Red a a') (l : Red b b') : Red (Tm.pair t a b) (Tm.pair t' a' b') :=
  (Red.ctx (f := fun x => Tm.pair x a b) (fun _ _ h => .pair h (Par.rfl' _) (Par.rfl' _)) h).trans (Red.ctx2 (f := fun x y => Tm.pair t' x y) (fun _ _ _ _ h k => .pair (Par.rfl' _) h k) k l)
theorem Red.elim {t t' a a' b b' n n' : Tm} (h : Red t t') (k : Red a a') (l : Red b b') (m : Red n n') : Red (Tm.elim t a b n) (Tm.elim t' a' b' n') :=
  (Red.ctx2 (f := fun x y => Tm.elim x y b n) (fun _ _ _ _ h k => .elim h k (Par.rfl' _) (Par.rfl' _)) h k).trans (Red.ctx2 (f := fun x y => Tm.elim t' a' x y) (fun _ _ _ _ h k => .elim (Par.rfl' _) (Par.rfl' _) h k) l m)
theorem Red.inst {b b' u u' : Tm} (h : Red b b') (k : Red u u') : Red (b.inst u) (b'.inst u') := Red.ctx2 (fun _ _ _ _ h k => h.inst k) h k
/-! What normal forms of types keep. -/
theorem Red.pi_inv {a b t : Tm} (h : Red (Tm.pi a b) t) : ∃ a' b', t = Tm.pi a' b' ∧ Red a a' ∧ Red b b' := by
  generalize e : Tm.pi a b = x at h
  induction h generalizing a b with
  | nil => exact ⟨a, b, e.symm, .nil, .nil⟩
  | cons h _ ih => subst e; cases h with
    | pi h k => obtain ⟨a', b', rfl, h1, h2⟩ := ih rfl; exact ⟨a', b', rfl, .cons h h1, .cons k h2⟩
theorem Red.sig_inv {a b t : Tm} (h : Red (Tm.sig a b) t) : ∃ a' b', t = Tm.sig a' b' ∧ Red a a' ∧ Red b b' := by
  generalize e : Tm.sig a b = x at h
  induction h generalizing a b with
  | nil => exact ⟨a, b, e.symm, .nil, .nil⟩
  | cons h _ ih => subst e; cases h with
    | sig h k => obtain ⟨a', b', rfl, h1, h2⟩ := ih rfl; exact ⟨a', b', rfl, .cons h h1, .cons k h2⟩
theorem Red.id_inv {a b c t : Tm} (h : Red (Tm.id a b c) t) : ∃ a' b' c', t = Tm.id a' b' c' ∧ Red a a' ∧ Red b b' ∧ Red c c' := by
  generalize e : Tm.id a b c = x at h
  induction h generalizing a b c with
  | nil => exact ⟨a, b, c, e.symm, .nil, .nil, .nil⟩
  | cons h _ ih => subst e; cases h with
    | id h k l => obtain ⟨a', b', c', rfl, h1, h2, h3⟩ := ih rfl; exact ⟨a', b', c', rfl, .cons h h1, .cons k h2, .cons l h3⟩
theorem Red.sort_inv {n : Nat} {t : Tm} (h : Red (Tm.sort n) t) : t = Tm.sort n := by
  generalize e : Tm.sort n = x at h
  induction h with
  | nil => rfl
  | cons h _ ih => subst e; cases h with
    | sort => exact ih rfl
theorem Red.nat_inv {t : Tm} (h : Red Tm.nat t) : t = Tm.nat := by
  generalize e : Tm.nat = x at h
  induction h with
  | nil => rfl
  | cons h _ ih => subst e; cases h with
    | nat => exact ih rfl
/-! Conversion. -/
def Conv (a b : Tm) : Prop := ∃ c, Red a c ∧ Red b c
theorem Conv.rfl' {a : Tm} : Conv a a := ⟨a, .nil, .nil⟩
theorem Red.conv {a b : Tm} (h : Red a b) : Conv a b := ⟨b, h, .nil⟩
theorem Par.conv {a b : Tm} (h : Par a b) : Conv a b := h.red.conv
theorem Conv.symm {a b : Tm} (h : Conv a b) : Conv b a := let ⟨c, h, k⟩ := h; ⟨c, k, h⟩
theorem Conv.trans {a b c : Tm} (h : Conv a b) (k : Conv b c) : Conv a c := by
  obtain ⟨x, h1, h2⟩ := h
  obtain ⟨y, k1, k2⟩ := k
  obtain ⟨z, z1, z2⟩ := Red.confl h2 k1
  exact ⟨z, h1.trans z1, k2.trans z2⟩
theorem Conv.sub {a b : Tm} (h : Conv a b) (σ) : Conv (a.sub σ) (b.sub σ) := let ⟨c, h, k⟩ := h; ⟨_, h.sub σ, k.sub σ⟩
theorem Conv.ren {a b : Tm} (h : Conv a b) (σ) : Conv (a.ren σ) (b.ren σ) := let ⟨c, h, k⟩ := h; ⟨_, h.ren σ, k.ren σ⟩
theorem Conv.inst {b b' u u' : Tm} (h : Conv b b') (k : Conv u u') : Conv (b.inst u) (b'.inst u') := by
  obtain ⟨x, h1, h2⟩ := h
  obtain ⟨y, k1, k2⟩ := k
  exact ⟨_, h1.inst k1, h2.inst k2⟩
theorem Conv.pi {a a' b b' : Tm} (h : Conv a a') (k : Conv b b') : Conv (Tm.pi a b) (Tm.pi a' b') := by
  obtain ⟨x, h1, h2⟩ := h
  obtain ⟨y, k1, k2⟩ := k
  exact ⟨_, h1.pi k1, h2.pi k2⟩
theorem Conv.app {a a' b b' : Tm} (h : Conv a a') (k : Conv b b') : Conv (Tm.app a b) (Tm.app a' b') := by
  obtain ⟨x, h1, h2⟩ := h
  obtain ⟨y, k1, k2⟩ := k
  exact ⟨_, h1.app k1, h2.app k2⟩
theorem Conv.id {t t' a a' b b' : Tm} (h : Conv t t') (k : Conv a a') (l : Conv b b') : Conv (Tm.id t a b) (Tm.id t' a' b') := by
  obtain ⟨x, h1, h2⟩ := h
  obtain ⟨y, k1, k2⟩ := k
  obtain ⟨z, l1, l2⟩ := l
  exact ⟨_, h1.id k1 l1, h2.id k2 l2⟩
theorem Conv.fst {a a' : Tm} (h : Conv a a') : Conv (Tm.fst a) (Tm.fst a') := let ⟨x, h1, h2⟩ := h; ⟨_, h1.fst, h2.fst⟩
theorem Conv.succ {a a' : Tm} (h : Conv a a') : Conv (Tm.succ a) (Tm.succ a') := let ⟨x, h1, h2⟩ := h; ⟨_, h1.succ, h2.succ⟩
theorem Conv.pi_inv {a a' b b' : Tm} (h : Conv (Tm.pi a b) (Tm.pi a' b')) : Conv a a' ∧ Conv b b' := by
  obtain ⟨c, h1, h2⟩ := h
  obtain ⟨x, y, rfl, i1, i2⟩ := h1.pi_inv
  obtain ⟨x', y', e, j1, j2⟩ := h2.pi_inv
  cases e
  exact ⟨⟨x, i1, j1⟩, ⟨y, i2, j2⟩⟩
theorem Conv.sig_inv {a a' b b' : Tm} (h : Conv (Tm.sig a b) (Tm.sig a' b')) : Conv a a' ∧ Conv b b' := by
  obtain ⟨c, h1, h2⟩ := h
  obtain ⟨x, y, rfl, i1, i2⟩ := h1.sig_inv
  obtain ⟨x', y', e, j1, j2⟩ := h2.sig_inv
  cases e
  exact ⟨⟨x, i1, j1⟩, ⟨y, i2, j2⟩⟩
theorem Conv.id_inv {t t' a a' b b' : Tm} (h : Conv (Tm.id t a b) (Tm.id t' a' b')) : Conv t t' ∧ Conv a a' ∧ Conv b b' := by
  obtain ⟨c, h1, h2⟩ := h
  obtain ⟨x, y, z, rfl, i1, i2, i3⟩ := h1.id_inv
  obtain ⟨x', y', z', e, j1, j2, j3⟩ := h2.id_inv
  cases e
  exact ⟨⟨x, i1, j1⟩, ⟨y, i2, j2⟩, ⟨z, i3, j3⟩⟩
theorem Conv.sort_inv {m n : Nat} (h : Conv (Tm.sort m) (Tm.sort n)) : m = n := by
  obtain ⟨c, h1, h2⟩ := h
  have := h1.sort_inv; subst this
  have := h2.sort_inv; injection this
/-! Head reduction. -/
inductive Hd : Tm → Tm → Prop
  | beta {a b u} : Hd (app (lam a b) u) (b.inst u)
  | ezero {p z s} : Hd (elim p z s zero) z
  | esucc {p z s n} : Hd (elim p z s (succ n)) (app (app s n) (elim p z s n))
  | mrefl {p a x} : Hd (move p (refl a) x) x
  | fpair {t a b} : Hd (fst (pair t a b)) a
  | spair {t a b} : Hd (snd (pair t a b)) b
  | app {f f' u} (h : Hd f f') : Hd (app f u) (app f' u)
  | elim {p z s n n'} (h : Hd n n') : Hd (elim p z s n) (elim p z s n')
  | move {p e e' x} (h : Hd e e') : Hd (move p e x) (move p e' x)
  | fst {q q'} (h : Hd q q') : Hd (fst q) (fst q')
  | snd {q q'} (h : Hd q q') : Hd (snd q) (snd q')
theorem Hd.par {t u : Tm} (h : Hd t u) : Par t u := by
  induction h with
  | beta => exact .beta (Par.rfl' _) (Par.rfl' _)
  | ezero => exact .ezero (Par.rfl' _)
  | esucc => exact .esucc (Par.rfl' _) (Par.rfl' _) (Par.rfl' _) (Par.rfl' _)
  | mrefl => exact .mrefl (Par.rfl' _)
  | fpair => exact .fpair (Par.rfl' _)
  | spair => exact .spair (Par.rfl' _)
  | app _ ih => exact .app ih (Par.rfl' _)
  | elim _ ih => exact .elim (Par.rfl' _) (Par.rfl' _) (Par.rfl' _) ih
  | move _ ih => exact .move (Par.rfl' _) ih (Par.rfl' _)
  | fst _ ih => exact .fst ih
  | snd _ ih => exact .snd ih
theorem Hd.det {t u v : Tm} (h : Hd t u) (k : Hd t v) : u = v := by
  induction h generalizing v with
  | beta => cases k with | beta => rfl | app k => cases k
  | ezero => cases k with | ezero => rfl | elim k => cases k
  | esucc => cases k with | esucc => rfl | elim k => cases k
  | mrefl => cases k with | mrefl => rfl | move k => cases k
  | fpair => cases k with | fpair => rfl | fst k => cases k
  | spair => cases k with | spair => rfl | snd k => cases k
  | app h ih => cases k with | beta => cases h | app k => rw [ih k]
  | elim h ih => cases k with | ezero => cases h | esucc => cases h | elim k => rw [ih k]
  | move h ih => cases k with | mrefl => cases h | move k => rw [ih k]
  | fst h ih => cases k with | fpair => cases h | fst k => rw [ih k]
  | snd h ih => cases k with | spair => cases h | snd k => rw [ih k]
theorem Hd.sub {t u : Tm} (h : Hd t u) (σ) : Hd (t.sub σ) (u.sub σ) := by
  induction h <;> simp only [Tm.sub, inst_sub] <;> constructor <;> assumption
theorem Hd.ren {t u : Tm} (h : Hd t u) (σ) : Hd (t.ren σ) (u.ren σ) := by
  induction h <;> simp only [Tm.ren, inst_ren] <;> constructor <;> assumption
inductive Wh : Tm → Tm → Prop
  | nil {t} : Wh t t
  | cons {t u v} (h : Hd t u) (hs : Wh u v) : Wh t v
theorem Wh.trans {t u v : Tm} (h : Wh t u) (k : Wh u v) : Wh t v := by
  induction h with
  | nil => exact k
  | cons h _ ih => exact .cons h (ih k)
theorem Wh.red {t u : Tm} (h : Wh t u) : Red t u := by
  induction h with
  | nil => exact .nil
  | cons h _ ih => exact .cons h.par ih
theorem Wh.conv {t u : Tm} (h : Wh t u) : Conv t u := h.red.conv
theorem Wh.sub {t u : Tm} (h : Wh t u) (σ) : Wh (t.sub σ) (u.sub σ) := by
  induction h with
  | nil => exact .nil
  | cons h _ ih => exact .cons (h.sub σ) ih
theorem Wh.ren {t u : Tm} (h : Wh t u) (σ) : Wh (t.ren σ) (u.ren σ) := by
  induction h with
  | nil => exact .nil
  | cons h _ ih => exact .cons (h.ren σ) ih
theorem Wh.ctx {f : Tm → Tm} (hf : ∀ a b, Hd a b → Hd (f a) (f b)) {t u : Tm} (h : Wh t u) : Wh (f t) (f u) := by
  induction h with
  | nil => exact .nil
  | cons h _ ih => exact .cons (hf _ _ h) ih
theorem Wh.app {f f' : Tm} (h : Wh f f') (u : Tm) : Wh (Tm.app f u) (Tm.app f' u) := Wh.ctx (f := fun f => Tm.app f u) (fun _ _ h => .app h) h
theorem Wh.elim {n n' : Tm} (h : Wh n n') (p z s : Tm) : Wh (Tm.elim p z s n) (Tm.elim p z s n') := Wh.ctx (f := fun n => Tm.elim p z s n) (fun _ _ h => .elim h) h
theorem Wh.move {e e' : Tm} (h : Wh e e') (p x : Tm) : Wh (Tm.move p e x) (Tm.move p e' x) := Wh.ctx (f := fun n => Tm.move p n x) (fun _ _ h => .move h) h
theorem Wh.fst {e e' : Tm} (h : Wh e e') : Wh (Tm.fst e) (Tm.fst e') := Wh.ctx (fun _ _ h => .fst h) h
theorem Wh.snd {e e' : Tm} (h : Wh e e') : Wh (Tm.snd e) (Tm.snd e') := Wh.ctx (fun _ _ h => .snd h) h
/-- Two head reductions of a term: one goes on from the other. -/
theorem Wh.two {t u v : Tm} (h : Wh t u) (k : Wh t v) : Wh u v ∨ Wh v u := by
  induction h generalizing v with
  | nil => exact .inl k
  | cons h hs ih => cases k with
    | nil => exact .inr (.cons h hs)
    | cons k ks => have := h.det k; subst this; exact ih ks
/-! Standard reductions. -/
inductive ST : Tm → Tm → Prop
  | var {m n} (w : Wh m (var n)) : ST m (var n)
  | sort {m n} (w : Wh m (sort n)) : ST m (sort n)
  | pi {m a a' b b'} (w : Wh m (pi a b)) (h : ST a a') (k : ST b b') : ST m (pi a' b')
  | lam {m a a' b b'} (w : Wh m (lam a b)) (h : ST a a') (k : ST b b') : ST m (lam a' b')
  | app {m a a' b b'} (w : Wh m (app a b)) (h : ST a a') (k : ST b b') : ST m (app a' b')
  | nat {m} (w : Wh m nat) : ST m nat
  | zero {m} (w : Wh m zero) : ST m zero
  | succ {m a a'} (w : Wh m (succ a)) (h : ST a a') : ST m (succ a')
  | elim {m p p' z z' s s' n n'} (w : Wh m (elim p z s n)) (h : ST p p') (k : ST z z') (l : ST s s') (i : ST n n') : ST m (elim p' z' s' n')
  | id {m t t' a a' b b'} (w : Wh m (id t a b)) (h : ST t t') (k : ST a a') (l : ST b b') : ST m (id t' a' b')
  | refl {m a a'} (w : Wh m (refl a)) (h : ST a a') : ST m (refl a')
  | move {m t t' a a' b b'} (w : Wh m (move t a b)) (h : ST t t') (k : ST a a') (l : ST b b') : ST m (move t' a' b')
  | sig {m a a' b b'} (w : Wh m (sig a b)) (h : ST a a') (k : ST b b') : ST m (sig a' b')
  | pair {m t t' a a' b b'} (w : Wh m (pair t a b)) (h : ST t t') (k : ST a a') (l : ST b b') : ST m (pair t' a' b')
  | fst {m a a'} (w : Wh m (fst a)) (h : ST a a') : ST m (fst a')
  | snd {m a a'} (w : Wh m (snd a)) (h : ST a a') : ST m (snd a')
theorem ST.rfl' (t : Tm) : ST t t := by induction t <;> constructor <;> first | exact .nil | assumption
theorem ST.exp {m m' n : Tm} (w : Wh m m') (h : ST m' n) : ST m n := by
  cases h with
  | var w' => exact .var (w.trans w')
  | sort w' => exact .sort (w.trans w')
  | pi w' h k => exact .pi (w.trans w') h k
  | lam w' h k => exact .lam (w.trans w') h k
  | app w' h k => exact .app (w.trans w') h k
  | nat w' => exact .nat (w.trans w')
  | zero w' => exact .zero (w.trans w')
  | succ w' h => exact .succ (w.trans w') h
  | elim w' h k l i => exact .elim (w.trans w') h k l i
  | id w' h k l => exact .id (w.trans w') h k l
  | refl w' h => exact .refl (w.trans w') h
  | move w' h k l => exact .move (w.trans w') h k l
  | sig w' h k => exact .sig (w.trans w') h k
  | pair w' h k l => exact .pair (w.trans w') h k l
  | fst w' h => exact .fst (w.trans w') h
  | snd w' h => exact .snd (w.trans w') h
theorem ST.ren {m n : Tm} (h : ST m n) : ∀ ξ, ST (m.ren ξ) (n.ren ξ) := by
  induction h <;> intro ξ <;> (first
    | exact .var (Wh.ren ‹_› ξ) | exact .sort (Wh.ren ‹_› ξ) | exact .nat (Wh.ren ‹_› ξ) | exact .zero (Wh.ren ‹_› ξ)
    | (rename_i w _ _ a b; exact .pi (w.ren ξ) (a _) (b _)) | (rename_i w _ _ a b; exact .lam (w.ren ξ) (a _) (b _)) | (rename_i w _ _ a b; exact .app (w.ren ξ) (a _) (b _)) | (rename_i w _ _ a b; exact .sig (w.ren ξ) (a _) (b _))
    | (rename_i w _ a; exact .succ (w.ren ξ) (a _)) | (rename_i w _ a; exact .refl (w.ren ξ) (a _)) | (rename_i w _ a; exact .fst (w.ren ξ) (a _)) | (rename_i w _ a; exact .snd (w.ren ξ) (a _))
    | (rename_i w _ _ _ a b c; exact .id (w.ren ξ) (a _) (b _) (c _)) | (rename_i w _ _ _ a b c; exact .move (w.ren ξ) (a _) (b _) (c _)) | (rename_i w _ _ _ a b c; exact .pair (w.ren ξ) (a _) (b _) (c _))
    | (rename_i w _ _ _ _ a b c d; exact .elim (w.ren ξ) (a _) (b _) (c _) (d _)))
theorem ST.sub {m n : Tm} (h : ST m n) : ∀ σ τ : Nat → Tm, (∀ i, ST (σ i) (τ i)) → ST (m.sub σ) (n.sub τ) := by
  have hu : ∀ σ τ : Nat → Tm, (∀ n, ST (σ n) (τ n)) → ∀ n, ST (ups σ n) (ups τ n) := by
    intro σ τ h n; cases n with
    | zero => exact .var .nil
    | succ n => exact (h n).ren _
  induction h <;> intro σ τ hs <;> (first
    | (rename_i w; exact ST.exp (w.sub σ) (hs _)) | exact .sort (Wh.sub ‹_› σ) | exact .nat (Wh.sub ‹_› σ) | exact .zero (Wh.sub ‹_› σ)
    | (rename_i w _ _ a b; exact .pi (w.sub σ) (a _ _ hs) (b _ _ (hu _ _ hs))) | (rename_i w _ _ a b; exact .lam (w.sub σ) (a _ _ hs) (b _ _ (hu _ _ hs))) | (rename_i w _ _ a b; exact .app (w.sub σ) (a _ _ hs) (b _ _ hs)) | (rename_i w _ _ a b; exact .sig (w.sub σ) (a _ _ hs) (b _ _ (hu _ _ hs)))
    | (rename_i w _ a; exact .succ (w.sub σ) (a _ _ hs)) | (rename_i w _ a; exact .refl (w.sub σ) (a _ _ hs)) | (rename_i w _ a; exact .fst (w.sub σ) (a _ _ hs)) | (rename_i w _ a; exact .snd (w.sub σ) (a _ _ hs))
    | (rename_i w _ _ _ a b c; exact .id (w.sub σ) (a _ _ hs) (b _ _ hs) (c _ _ hs)) | (rename_i w _ _ _ a b c; exact .move (w.sub σ) (a _ _ hs) (b _ _ hs) (c _ _ hs)) | (rename_i w _ _ _ a b c; exact .pair (w.sub σ) (a _ _ hs) (b _ _ hs) (c _ _ hs))
    | (rename_i w _ _ _ _ a b c d; exact .elim (w.sub σ) (a _ _ hs) (b _ _ hs) (c _ _ hs) (d _ _ hs)))
theorem ST.inst {b b' u u' : Tm} (h : ST b b') (k : ST u u') : ST (b.inst u) (b'.inst u') :=
  h.sub _ _ fun n => by cases n with
    | zero => exact k
    | succ n => exact .var .nil
theorem ST.par {n p : Tm} (h : Par n p) : ∀ {m : Tm}, ST m n → ST m p := by
  induction h with
  | var => intro m s; exact s
  | sort => intro m s; exact s
  | pi h k ih ik => intro m s; cases s with | pi w a b => exact .pi w (ih a) (ik b)
  | lam h k ih ik => intro m s; cases s with | lam w a b => exact .lam w (ih a) (ik b)
  | app h k ih ik => intro m s; cases s with | app w a b => exact .app w (ih a) (ik b)
  | nat => intro m s; exact s
  | zero => intro m s; exact s
  | succ h ih => intro m s; cases s with | succ w a => exact .succ w (ih a)
  | elim h k l i ih ik il ii => intro m s; cases s with | elim w a b c d => exact .elim w (ih a) (ik b) (il c) (ii d)
  | id h k l ih ik il => intro m s; cases s with | id w a b c => exact .id w (ih a) (ik b) (il c)
  | refl h ih => intro m s; cases s with | refl w a => exact .refl w (ih a)
  | move h k l ih ik il => intro m s; cases s with | move w a b c => exact .move w (ih a) (ik b) (il c)
  | sig h k ih ik => intro m s; cases s with | sig w a b => exact .sig w (ih a) (ik b)
  | pair h k l ih ik il => intro m s; cases s with | pair w a b c => exact .pair w (ih a) (ik b) (il c)
  | fst h ih => intro m s; cases s with | fst w a => exact .fst w (ih a)
  | snd h ih => intro m s; cases s with | snd w a => exact .snd w (ih a)
  | beta h k ih ik => intro m s; cases s with
    | app w a b => cases a with
      | lam w' c d => exact .exp (w.trans ((w'.app _).trans (.cons .beta .nil))) ((ih d).inst (ik b))
  | ezero h ih => intro m s; cases s with
    | elim w a b c d => cases d with
      | zero w' => exact .exp (w.trans ((w'.elim _ _ _).trans (.cons .ezero .nil))) (ih b)
  | esucc h k l i ih ik il ii => intro m s; cases s with
    | elim w a b c d => cases d with
      | succ w' e => exact .exp (w.trans ((w'.elim _ _ _).trans (.cons .esucc .nil))) (.app .nil (.app .nil (il c) (ii e)) (.elim .nil (ih a) (ik b) (il c) (ii e)))
  | mrefl h ih => intro m s; cases s with
    | move w a b c => cases b with
      | refl w' e => exact .exp (w.trans ((w'.move _ _).trans (.cons .mrefl .nil))) (ih c)
  | fpair h ih => intro m s; cases s with
    | fst w a => cases a with
      | pair w' a b c => exact .exp (w.trans (w'.fst.trans (.cons .fpair .nil))) (ih b)
  | spair h ih => intro m s; cases s with
    | snd w a => cases a with
      | pair w' a b c => exact .exp (w.trans (w'.snd.trans (.cons .spair .nil))) (ih c)
theorem Red.st {m n : Tm} (h : Red m n) : ST m n := by
  have : ∀ {m n p : Tm}, ST m n → Red n p → ST m p := by
    intro m n p s r
    induction r with
    | nil => exact s
    | cons h _ ih => exact ih (ST.par h s)
  exact this (.rfl' m) h
theorem ST.red {m n : Tm} (h : ST m n) : Red m n := by
  induction h with
  | var w => exact w.red
  | sort w => exact w.red
  | pi w _ _ a b => exact w.red.trans (a.pi b)
  | lam w _ _ a b => exact w.red.trans (a.lam b)
  | app w _ _ a b => exact w.red.trans (a.app b)
  | nat w => exact w.red
  | zero w => exact w.red
  | succ w _ a => exact w.red.trans a.succ
  | elim w _ _ _ _ a b c d => exact w.red.trans (a.elim b c d)
  | id w _ _ _ a b c => exact w.red.trans (a.id b c)
  | refl w _ a => exact w.red.trans a.refl
  | move w _ _ _ a b c => exact w.red.trans (a.move b c)
  | sig w _ _ a b => exact w.red.trans (a.sig b)
  | pair w _ _ _ a b c => exact w.red.trans (a.pair b c)
  | fst w _ a => exact w.red.trans a.fst
  | snd w _ a => exact w.red.trans a.snd
end Tm
end Go.Proofs.YthopkmimhlcjkaaGreat
end
section
/- Typing rules: renaming, substitution, generation, validity of types, uniqueness, reduction. No program in sight. -/
set_option linter.unusedVariables false
set_option linter.unusedSimpArgs false
namespace Go.Proofs.YthopkmimhlcjkaaGreat
namespace Tm
/-- The type of a variable: the head of the list is the type of the last variable. -/
def look : List Tm → Nat → Option Tm
  | [], _ => none
  | A :: _, 0 => some A.wk
  | _ :: G, n + 1 => (look G n).map wk
def stepTy (p : Tm) : Tm := pi nat (pi (app p.wk (var 0)) (app p.wk.wk (succ (var 1))))
inductive Ty : List Tm → Tm → Tm → Prop
  | var {G n A} (h : look G n = some A) : Ty G (var n) A
  | sort {G n} (h : n < 3) : Ty G (sort n) (sort (n + 1))
  | pi {G A B i j} (h : Ty G A (sort i)) (k : Ty (A :: G) B (sort j)) : Ty G (pi A B) (sort (max i j))
  | sig {G A B i j} (h : Ty G A (sort i)) (k : Ty (A :: G) B (sort j)) : Ty G (sig A B) (sort (max i j))
  | lam {G A B b i j} (h : Ty G A (sort i)) (k : Ty (A :: G) b B) (l : Ty (A :: G) B (sort j)) : Ty G (lam A b) (pi A B)
  | app {G f u A B} (h : Ty G f (pi A B)) (k : Ty G u A) : Ty G (app f u) (B.inst u)
  | nat {G} : Ty G nat (sort 0)
  | zero {G} : Ty G zero nat
  | succ {G n} (h : Ty G n nat) : Ty G (succ n) nat
  | elim {G p z s n i} (h : Ty G p (pi nat (sort i))) (k : Ty G z (app p zero)) (l : Ty G s (stepTy p)) (m : Ty G n nat) : Ty G (elim p z s n) (app p n)
  | id {G t a b i} (h : Ty G t (sort i)) (k : Ty G a t) (l : Ty G b t) : Ty G (id t a b) (sort i)
  | refl {G a A i} (h : Ty G a A) (k : Ty G A (sort i)) : Ty G (refl a) (id A a a)
  | move {G p e x t y z i} (h : Ty G e (id t y z)) (k : Ty G p (pi t (sort i))) (l : Ty G x (app p y)) (m : Ty G z t) : Ty G (move p e x) (app p z)
  | pair {G s a b A B i j} (h : Ty G s (sort i)) (r : Red s (Tm.sig A B)) (q : Ty G (Tm.sig A B) (Tm.sort j)) (k : Ty G a A) (l : Ty G b (B.inst a)) : Ty G (pair s a b) s
  | fst {G q A B} (h : Ty G q (sig A B)) : Ty G (fst q) A
  | snd {G q A B} (h : Ty G q (sig A B)) : Ty G (snd q) (B.inst (fst q))
  | conv {G t A B i} (h : Ty G t A) (c : Conv A B) (k : Ty G B (sort i)) : Ty G t B
theorem stepTy_ren (p : Tm) (ξ) : (stepTy p).ren ξ = stepTy (p.ren ξ) := by
  simp only [stepTy, ren, wk_up]; rfl
theorem stepTy_sub (p : Tm) (σ) : (stepTy p).sub σ = stepTy (p.sub σ) := by
  simp only [stepTy, sub, wk_ups]; rfl
/-! Renaming. -/
def RenOk (ξ : Nat → Nat) (G D : List Tm) : Prop := ∀ n A, look G n = some A → look D (ξ n) = some (A.ren ξ)
theorem RenOk.up {ξ : Nat → Nat} {G D : List Tm} (h : RenOk ξ G D) (A : Tm) : RenOk (up ξ) (A :: G) (A.ren ξ :: D) := by
  intro n B hB
  cases n with
  | zero =>
    simp only [look, Option.some.injEq] at hB; subst hB
    show some (A.ren ξ).wk = _
    rw [wk_up]
  | succ n =>
    obtain ⟨C, hC, rfl⟩ := Option.map_eq_some_iff.1 hB
    show (look D (ξ n)).map wk = _
    rw [h n C hC, Option.map_some, wk_up]
theorem RenOk.wk (G : List Tm) (A : Tm) : RenOk (· + 1) G (A :: G) := by
  intro n B hB
  show (look G n).map Tm.wk = _
  rw [hB]; rfl
theorem Ty.ren {G : List Tm} {t A : Tm} (h : Ty G t A) : ∀ {ξ D}, RenOk ξ G D → Ty D (t.ren ξ) (A.ren ξ) := by
  induction h with
  | var h => intro ξ D hr; exact .var (hr _ _ h)
  | sort h => intro ξ D hr; exact .sort h
  | pi h k ih ik => intro ξ D hr; exact .pi (ih hr) (ik (hr.up _))
  | sig h k ih ik => intro ξ D hr; exact .sig (ih hr) (ik (hr.up _))
  | lam h k l ih ik il => intro ξ D hr; exact .lam (ih hr) (ik (hr.up _)) (il (hr.up _))
  | app h k ih ik => intro ξ D hr; rw [inst_ren]; exact .app (ih hr) (ik hr)
  | nat => intro ξ D hr; exact .nat
  | zero => intro ξ D hr; exact .zero
  | succ h ih => intro ξ D hr; exact .succ (ih hr)
  | elim h k l m ih ik il im => intro ξ D hr; exact .elim (ih hr) (ik hr) (by have := il hr; rwa [stepTy_ren] at this) (im hr)
  | id h k l ih ik il => intro ξ D hr; exact .id (ih hr) (ik hr) (il hr)
  | refl h k ih ik => intro ξ D hr; exact .refl (ih hr) (ik hr)
  | move h k l m ih ik il im => intro ξ D hr; exact .move (ih hr) (ik hr) (il hr) (im hr)
  | pair h r q k l ih iq ik il => intro ξ D hr; exact .pair (ih hr) (r.ren ξ) (iq hr) (ik hr) (by have := il hr; rwa [inst_ren] at this)
  | fst h ih => intro ξ D hr; exact .fst (ih hr)
  | snd h ih => intro ξ D hr; rw [inst_ren]; exact .snd (ih hr)
  | conv h c k ih ik => intro ξ D hr; exact .conv (ih hr) (c.ren ξ) (ik hr)
theorem Ty.wk {G : List Tm} {t A : Tm} (h : Ty G t A) (B : Tm) : Ty (B :: G) t.wk A.wk := h.ren (RenOk.wk G B)
/-! Substitution. -/
def SubOk (σ : Nat → Tm) (G D : List Tm) : Prop := ∀ n A, look G n = some A → Ty D (σ n) (A.sub σ)
theorem SubOk.ups {σ : Nat → Tm} {G D : List Tm} (h : SubOk σ G D) (A : Tm) : SubOk (ups σ) (A :: G) (A.sub σ :: D) := by
  intro n B hB
  cases n with
  | zero =>
    simp only [look, Option.some.injEq] at hB; subst hB
    rw [wk_ups]
    exact .var rfl
  | succ n =>
    obtain ⟨C, hC, rfl⟩ := Option.map_eq_some_iff.1 hB
    rw [wk_ups]
    exact (h n C hC).wk _
theorem Ty.sub {G : List Tm} {t A : Tm} (h : Ty G t A) : ∀ {σ D}, SubOk σ G D → Ty D (t.sub σ) (A.sub σ) := by
  induction h with
  | var h => intro σ D hr; exact hr _ _ h
  | sort h => intro σ D hr; exact .sort h
  | pi h k ih ik => intro σ D hr; exact .pi (ih hr) (ik (hr.ups _))
  | sig h k ih ik => intro σ D hr; exact .sig (ih hr) (ik (hr.ups _))
  | lam h k l ih ik il => intro σ D hr; exact .lam (ih hr) (ik (hr.ups _)) (il (hr.ups _))
  | app h k ih ik => intro σ D hr; rw [inst_sub]; exact .app (ih hr) (ik hr)
  | nat => intro σ D hr; exact .nat
  | zero => intro σ D hr; exact .zero
  | succ h ih => intro σ D hr; exact .succ (ih hr)
  | elim h k l m ih ik il im => intro σ D hr; exact .elim (ih hr) (ik hr) (by have := il hr; rwa [stepTy_sub] at this) (im hr)
  | id h k l ih ik il => intro σ D hr; exact .id (ih hr) (ik hr) (il hr)
  | refl h k ih ik => intro σ D hr; exact .refl (ih hr) (ik hr)
  | move h k l m ih ik il im => intro σ D hr; exact .move (ih hr) (ik hr) (il hr) (im hr)
  | pair h r q k l ih iq ik il => intro σ D hr; exact .pair (ih hr) (r.sub σ) (iq hr) (ik hr) (by have := il hr; rwa [inst_sub] at this)
  | fst h ih => intro σ D hr; exact .fst (ih hr)
  | snd h ih => intro σ D hr; rw [inst_sub]; exact .snd (ih hr)
  | conv h c k ih ik => intro σ D hr; exact .conv (ih hr) (c.sub σ) (ik hr)
theorem SubOk.one {G : List Tm} {u A : Tm} (h : Ty G u A) : SubOk (sc u var) (A :: G) G := by
  intro n B hB
  cases n with
  | zero =>
    simp only [look, Option.some.injEq] at hB; subst hB
    rw [wk_sub, sub_var]; exact h
  | succ n =>
    obtain ⟨C, hC, rfl⟩ := Option.map_eq_some_iff.1 hB
    rw [wk_sub, sub_var]; exact .var hC
theorem Ty.inst {G : List Tm} {t u A B : Tm} (h : Ty (A :: G) t B) (k : Ty G u A) : Ty G (t.inst u) (B.inst u) := h.sub (SubOk.one k)
/-- The last type of a context in another form. -/
theorem Ty.ctx {G : List Tm} {t A A' B : Tm} {i : Nat} (h : Ty (A :: G) t B) (c : Conv A' A) (k : Ty G A (Tm.sort i)) : Ty (A' :: G) t B := by
  have : SubOk Tm.var (A :: G) (A' :: G) := by
    intro n C hC
    rw [sub_var]
    cases n with
    | zero =>
      simp only [look, Option.some.injEq] at hC; subst hC
      exact .conv (.var rfl) (c.ren _) (k.wk _)
    | succ n => exact .var hC
  have h2 := h.sub this
  rwa [sub_var, sub_var] at h2
/-! Generation. -/
def Gen (G : List Tm) : Tm → Tm → Prop
  | var n, C => ∃ A, look G n = some A ∧ Conv A C
  | sort n, C => n < 3 ∧ Conv (sort (n + 1)) C
  | pi A B, C => ∃ i j, Ty G A (sort i) ∧ Ty (A :: G) B (sort j) ∧ Conv (sort (max i j)) C
  | sig A B, C => ∃ i j, Ty G A (sort i) ∧ Ty (A :: G) B (sort j) ∧ Conv (sort (max i j)) C
  | lam A b, C => ∃ B i j, Ty G A (sort i) ∧ Ty (A :: G) b B ∧ Ty (A :: G) B (sort j) ∧ Conv (pi A B) C
  | app f u, C => ∃ A B, Ty G f (pi A B) ∧ Ty G u A ∧ Conv (B.inst u) C
  | nat, C => Conv (sort 0) C
  | zero, C => Conv nat C
  | succ n, C => Ty G n nat ∧ Conv nat C
  | elim p z s n, C => ∃ i, Ty G p (pi nat (sort i)) ∧ Ty G z (app p zero) ∧ Ty G s (stepTy p) ∧ Ty G n nat ∧ Conv (app p n) C
  | id t a b, C => ∃ i, Ty G t (sort i) ∧ Ty G a t ∧ Ty G b t ∧ Conv (sort i) C
  | refl a, C => ∃ A i, Ty G a A ∧ Ty G A (sort i) ∧ Conv (id A a a) C
  | move p e x, C => ∃ t y z i, Ty G e (id t y z) ∧ Ty G p (pi t (sort i)) ∧ Ty G x (app p y) ∧ Conv (app p z) C
  | pair s a b, C => ∃ A B i j, Ty G s (sort i) ∧ Red s (sig A B) ∧ Ty G (sig A B) (sort j) ∧ Ty G a A ∧ Ty G b (B.inst a) ∧ Conv s C
  | fst q, C => ∃ A B, Ty G q (sig A B) ∧ Conv A C
  | snd q, C => ∃ A B, Ty G q (sig A B) ∧ Conv (B.inst (fst q)) C
theorem Gen.conv {G : List Tm} {t A B : Tm} (h : Gen G t A) (c : Conv A B) : Gen G t B := by
  cases t with
  | var n => obtain ⟨X, h1, h2⟩ := h; exact ⟨X, h1, h2.trans c⟩
  | sort n => exact ⟨h.1, h.2.trans c⟩
  | pi a b => obtain ⟨i, j, h1, h2, h3⟩ := h; exact ⟨i, j, h1, h2, h3.trans c⟩
  | sig a b => obtain ⟨i, j, h1, h2, h3⟩ := h; exact ⟨i, j, h1, h2, h3.trans c⟩
  | lam a b => obtain ⟨X, i, j, h1, h2, h3, h4⟩ := h; exact ⟨X, i, j, h1, h2, h3, h4.trans c⟩
  | app f u => obtain ⟨X, Y, h1, h2, h3⟩ := h; exact ⟨X, Y, h1, h2, h3.trans c⟩
  | nat => exact Conv.trans h c
  | zero => exact Conv.trans h c
  | succ n => exact ⟨h.1, h.2.trans c⟩
  | elim p z s n => obtain ⟨i, h1, h2, h3, h4, h5⟩ := h; exact ⟨i, h1, h2, h3, h4, h5.trans c⟩
  | id t a b => obtain ⟨i, h1, h2, h3, h4⟩ := h; exact ⟨i, h1, h2, h3, h4.trans c⟩
  | refl a => obtain ⟨X, i, h1, h2, h3⟩ := h; exact ⟨X, i, h1, h2, h3.trans c⟩
  | move p e x => obtain ⟨t, y, z, i, h1, h2, h3, h4⟩ := h; exact ⟨t, y, z, i, h1, h2, h3, h4.trans c⟩
  | pair s a b => obtain ⟨X, Y, i, j, h1, h2, h3, h4, h5, h6⟩ := h; exact ⟨X, Y, i, j, h1, h2, h3, h4, h5, h6.trans c⟩
  | fst q => obtain ⟨X, Y, h1, h2⟩ := h; exact ⟨X, Y, h1, h2.trans c⟩
  | snd q => obtain ⟨X, Y, h1, h2⟩ := h; exact ⟨X, Y, h1, h2.trans c⟩
theorem Ty.gen {G : List Tm} {t A : Tm} (h : Ty G t A) : Gen G t A := by
  induction h with
  | var h => exact ⟨_, h, .rfl'⟩
  | sort h => exact ⟨h, .rfl'⟩
  | pi h k => exact ⟨_, _, h, k, .rfl'⟩
  | sig h k => exact ⟨_, _, h, k, .rfl'⟩
  | lam h k l => exact ⟨_, _, _, h, k, l, .rfl'⟩
  | app h k => exact ⟨_, _, h, k, .rfl'⟩
  | nat => exact .rfl'
  | zero => exact .rfl'
  | succ h => exact ⟨h, .rfl'⟩
  | elim h k l m => exact ⟨_, h, k, l, m, .rfl'⟩
  | id h k l => exact ⟨_, h, k, l, .rfl'⟩
  | refl h k => exact ⟨_, _, h, k, .rfl'⟩
  | move h k l m => exact ⟨_, _, _, _, h, k, l, .rfl'⟩
  | pair h r q k l => exact ⟨_, _, _, _, h, r, q, k, l, .rfl'⟩
  | fst h => exact ⟨_, _, h, .rfl'⟩
  | snd h => exact ⟨_, _, h, .rfl'⟩
  | conv h c k ih _ => exact ih.conv c
/-! Contexts that are well-formed; types of types. -/
inductive Wf : List Tm → Prop
  | nil : Wf []
  | cons {A G i} (w : Wf G) (h : Ty G A (sort i)) : Wf (A :: G)
theorem Wf.look {G : List Tm} (w : Wf G) : ∀ {n A}, look G n = some A → ∃ i, Ty G A (Tm.sort i) := by
  induction w with
  | nil => intro n A h; cases h
  | cons w h ih =>
    intro n A hA
    cases n with
    | zero => simp only [Tm.look, Option.some.injEq] at hA; subst hA; exact ⟨_, h.wk _⟩
    | succ n =>
      obtain ⟨C, hC, rfl⟩ := Option.map_eq_some_iff.1 hA
      obtain ⟨i, hi⟩ := ih hC
      exact ⟨i, hi.wk _⟩
/-- A type: the greatest sort, or what has a sort. -/
def IsTy (G : List Tm) (A : Tm) : Prop := A = sort 3 ∨ ∃ i, Ty G A (sort i)
theorem Ty.sort_lt {G : List Tm} {n : Nat} {C : Tm} (h : Ty G (Tm.sort n) C) : n < 3 := h.gen.1
theorem IsTy.le {G : List Tm} {i : Nat} (h : IsTy G (sort i)) : i ≤ 3 := by
  rcases h with h | ⟨j, h⟩
  · cases h; omega
  · have := h.sort_lt; omega
theorem IsTy.of_le {G : List Tm} {i : Nat} (h : i ≤ 3) : IsTy G (sort i) := by
  by_cases h3 : i = 3
  · subst h3; exact .inl rfl
  · exact .inr ⟨_, .sort (by omega)⟩
theorem Ty.valid {G : List Tm} {t A : Tm} (h : Ty G t A) : Wf G → IsTy G A := by
  induction h with
  | var h => intro w; exact .inr (w.look h)
  | sort h => intro w; exact .of_le (by omega)
  | pi h k ih ik => intro w; have := (ih w).le; have := (ik (.cons w h)).le; exact .of_le (by omega)
  | sig h k ih ik => intro w; have := (ih w).le; have := (ik (.cons w h)).le; exact .of_le (by omega)
  | lam h k l ih ik il => intro w; exact .inr ⟨_, .pi h l⟩
  | app h k ih ik =>
    intro w
    rcases ih w with e | ⟨i, hi⟩
    · cases e
    · obtain ⟨i, j, h1, h2, h3⟩ := hi.gen
      exact .inr ⟨j, h2.inst k⟩
  | nat => intro w; exact .of_le (by omega)
  | zero => intro w; exact .inr ⟨_, .nat⟩
  | succ h ih => intro w; exact .inr ⟨_, .nat⟩
  | elim h k l m ih ik il im => intro w; exact .inr ⟨_, .app h m⟩
  | id h k l ih ik il => intro w; exact ih w
  | refl h k ih ik => intro w; exact .inr ⟨_, .id k h h⟩
  | move h k l m ih ik il im => intro w; exact .inr ⟨_, .app k m⟩
  | pair h r q k l ih iq ik il => intro w; exact .inr ⟨_, h⟩
  | fst h ih =>
    intro w
    rcases ih w with e | ⟨i, hi⟩
    · cases e
    · obtain ⟨i, j, h1, h2, h3⟩ := hi.gen
      exact .inr ⟨_, h1⟩
  | snd h ih =>
    intro w
    rcases ih w with e | ⟨i, hi⟩
    · cases e
    · obtain ⟨i, j, h1, h2, h3⟩ := hi.gen
      exact .inr ⟨_, h2.inst (.fst h)⟩
  | conv h c k ih ik => intro w; exact .inr ⟨_, k⟩
/-- A type other than the greatest sort has a sort. -/
theorem Ty.sorted {G : List Tm} {t A : Tm} (h : Ty G t A) (w : Wf G) (hn : A ≠ Tm.sort 3) : ∃ i, Ty G A (Tm.sort i) := (h.valid w).resolve_left hn
/-! Types are unique. -/
theorem Ty.uniq {G : List Tm} {t A : Tm} (h : Ty G t A) : ∀ {B}, Ty G t B → Conv A B := by
  induction h with
  | var h => intro B k; obtain ⟨X, h1, h2⟩ := k.gen; rw [h] at h1; cases h1; exact h2
  | sort h => intro B k; exact k.gen.2
  | pi h k ih ik =>
    intro B g
    obtain ⟨i, j, h1, h2, h3⟩ := g.gen
    have e1 := (ih h1).sort_inv
    have e2 := (ik h2).sort_inv
    subst e1 e2; exact h3
  | sig h k ih ik =>
    intro B g
    obtain ⟨i, j, h1, h2, h3⟩ := g.gen
    have e1 := (ih h1).sort_inv
    have e2 := (ik h2).sort_inv
    subst e1 e2; exact h3
  | lam h k l ih ik il =>
    intro B g
    obtain ⟨X, i, j, h1, h2, h3, h4⟩ := g.gen
    exact (Conv.pi .rfl' (ik h2)).trans h4
  | app h k ih ik =>
    intro B g
    obtain ⟨X, Y, h1, h2, h3⟩ := g.gen
    exact (Conv.inst (ih h1).pi_inv.2 .rfl').trans h3
  | nat => intro B g; exact g.gen
  | zero => intro B g; exact g.gen
  | succ h ih => intro B g; exact g.gen.2
  | elim h k l m ih ik il im => intro B g; obtain ⟨i, h1, h2, h3, h4, h5⟩ := g.gen; exact h5
  | id h k l ih ik il =>
    intro B g
    obtain ⟨i, h1, h2, h3, h4⟩ := g.gen
    have e1 := (ih h1).sort_inv
    subst e1; exact h4
  | refl h k ih ik =>
    intro B g
    obtain ⟨X, i, h1, h2, h3⟩ := g.gen
    exact (Conv.id (ih h1) .rfl' .rfl').trans h3
  | move h k l m ih ik il im =>
    intro B g
    obtain ⟨t, y, z, i, h1, h2, h3, h4⟩ := g.gen
    exact (Conv.app .rfl' (ih h1).id_inv.2.2).trans h4
  | pair h r q k l ih iq ik il => intro B g; obtain ⟨X, Y, i, j, h1, h2, h3, h4, h5, h6⟩ := g.gen; exact h6
  | fst h ih =>
    intro B g
    obtain ⟨X, Y, h1, h2⟩ := g.gen
    exact (ih h1).sig_inv.1.trans h2
  | snd h ih =>
    intro B g
    obtain ⟨X, Y, h1, h2⟩ := g.gen
    exact (Conv.inst (ih h1).sig_inv.2 .rfl').trans h2
  | conv h c k ih ik => intro B g; exact c.symm.trans (ih g)
/-! Reduction keeps types. -/
theorem Ty.app' {G : List Tm} {p u t : Tm} {i : Nat} (h : Ty G p (Tm.pi t (Tm.sort i))) (k : Ty G u t) : Ty G (Tm.app p u) (Tm.sort i) := .app h k
theorem Ty.stepTy {G : List Tm} {p : Tm} {i : Nat} (h : Ty G p (Tm.pi Tm.nat (Tm.sort i))) : Ty G (Tm.stepTy p) (Tm.sort (max 0 (max i i))) := by
  refine .pi .nat (.pi ?_ ?_)
  · exact Ty.app' (t := Tm.nat) (h.wk _) (.var rfl)
  · exact Ty.app' (t := Tm.nat) ((h.wk _).wk _) (.succ (.var rfl))
theorem Conv.stepTy {p q : Tm} (h : Conv p q) : Conv (stepTy p) (Tm.stepTy q) :=
  Conv.pi .rfl' (Conv.pi (Conv.app (h.ren _) .rfl') (Conv.app ((h.ren _).ren _) .rfl'))
theorem stepTy_inst (p n x : Tm) : ((app p.wk.wk (succ (var 1))).sub (ups (sc n var))).inst x = app p (succ n) := by
  rw [ups_inst]
  show app (p.wk.wk.sub _) (succ _) = _
  rw [wk_sub, wk_sub, sub_var]; rfl
theorem stepTy_out {G : List Tm} {p n s x : Tm} (h : Ty G s (stepTy p)) (k : Ty G n nat) (l : Ty G x (app p n)) : Ty G (app (app s n) x) (app p (succ n)) := by
  have h1 : Ty G (app s n) (pi ((app p.wk (var 0)).sub (sc n var)) ((app p.wk.wk (succ (var 1))).sub (ups (sc n var)))) := Ty.app h k
  have e1 : ((app p.wk (var 0)).sub (sc n var)) = app p n := by
    show app (p.wk.sub _) _ = _
    rw [wk_sub, sub_var]; rfl
  rw [e1] at h1
  have h2 := Ty.app h1 l
  rwa [stepTy_inst] at h2
theorem Ty.par {G : List Tm} {t A : Tm} (h : Ty G t A) : Wf G → ∀ {t'}, Par t t' → Ty G t' A := by
  induction h with
  | var h => intro w t' r; cases r; exact .var h
  | sort h => intro w t' r; cases r; exact .sort h
  | pi h k ih ik =>
    intro w t' r
    cases r with
    | pi r q => exact .pi (ih w r) ((ik (.cons w h) q).ctx r.conv.symm h)
  | sig h k ih ik =>
    intro w t' r
    cases r with
    | sig r q => exact .sig (ih w r) ((ik (.cons w h) q).ctx r.conv.symm h)
  | lam h k l ih ik il =>
    intro w t' r
    cases r with
    | lam r q =>
      refine .conv (.lam (ih w r) ((ik (.cons w h) q).ctx r.conv.symm h) (l.ctx r.conv.symm h)) (Conv.pi r.conv.symm .rfl') (.pi h l)
  | app h k ih ik =>
    intro w t' r
    have v := (Ty.app h k).valid w
    have back : ∀ {X}, Ty _ t' X → Conv X _ → Ty _ t' _ := fun {X} g c => by
      rcases v with e | ⟨i, hi⟩
      · exact absurd e (by
          intro e
          rcases h.valid w with e' | ⟨i, hi⟩
          · cases e'
          · obtain ⟨i, j, h1, h2, h3⟩ := hi.gen
            have := (h2.inst k)
            rw [e] at this
            exact absurd this.sort_lt (by omega))
      · exact .conv g c hi
    cases r with
    | app r q => exact back (.app (ih w r) (ik w q)) (Conv.inst .rfl' q.conv.symm)
    | beta r q =>
      rename_i A0 b b' u'
      obtain ⟨X, i, j, h1, h2, h3, h4⟩ := (ih w (.lam (Par.rfl' _) r)).gen
      obtain ⟨c1, c2⟩ := h4.pi_inv
      have hu := Ty.conv (ik w q) c1.symm h1
      exact back (h2.inst hu) (Conv.inst c2 q.conv.symm)
  | nat => intro w t' r; cases r; exact .nat
  | zero => intro w t' r; cases r; exact .zero
  | succ h ih => intro w t' r; cases r with | succ r => exact .succ (ih w r)
  | elim h k l m ih ik il im =>
    intro w t' r
    have kz : ∀ {p'}, Par _ p' → Ty _ (Tm.app p' Tm.zero) (Tm.sort _) := fun r => Ty.app' (ih w r) .zero
    cases r with
    | elim r q o v =>
      exact .conv (.elim (ih w r) (.conv (ik w q) (Conv.app r.conv .rfl') (kz r)) (.conv (il w o) (Conv.stepTy r.conv) (Ty.stepTy (ih w r))) (im w v)) (Conv.app r.conv.symm v.conv.symm) (Ty.app' h m)
    | ezero q => exact ik w q
    | esucc r q o v =>
      have hm := (im w (.succ v)).gen.1
      have he := Ty.elim (ih w r) (.conv (ik w q) (Conv.app r.conv .rfl') (kz r)) (.conv (il w o) (Conv.stepTy r.conv) (Ty.stepTy (ih w r))) hm
      have he' := Ty.conv he (Conv.app r.conv.symm .rfl') (Ty.app' h hm)
      have h3 := stepTy_out (il w o) hm he'
      exact .conv h3 (Conv.app .rfl' (Conv.succ v.conv.symm)) (Ty.app' h m)
  | id h k l ih ik il =>
    intro w t' r
    cases r with
    | id r q o => exact .id (ih w r) (.conv (ik w q) r.conv (ih w r)) (.conv (il w o) r.conv (ih w r))
  | refl h k ih ik =>
    intro w t' r
    cases r with
    | refl r => exact .conv (.refl (ih w r) k) (Conv.id .rfl' r.conv.symm r.conv.symm) (.id k h h)
  | move h k l m ih ik il im =>
    intro w t' r
    obtain ⟨i, g2, g3, g4⟩ : ∃ i, Ty _ _ (Tm.sort i) ∧ Ty _ _ _ ∧ Ty _ _ _ := by
      rcases h.valid w with e | ⟨i, hi⟩
      · cases e
      · obtain ⟨i, h1, h2, h3, h4⟩ := hi.gen
        exact ⟨i, h1, h2, h3⟩
    cases r with
    | move r q o =>
      have hp := ik w r
      exact .conv (.move (ih w q) hp (.conv (il w o) (Conv.app r.conv .rfl') (Ty.app' hp g3)) m) (Conv.app r.conv.symm .rfl') (Ty.app' k g4)
    | mrefl o =>
      obtain ⟨X, i, h1, h2, h3⟩ := h.gen
      obtain ⟨_, c1, c2⟩ := h3.id_inv
      exact .conv (il w o) (Conv.app .rfl' (c1.symm.trans c2)) (Ty.app' k g4)
  | pair h r q k l ih iq ik il =>
    intro w t' z
    cases z with
    | pair z o v =>
      obtain ⟨x, h1, h2⟩ := Red.strip z r
      cases h2 with
      | sig r1 r2 =>
        have hs := ih w z
        have hq := iq w (.sig r1 r2)
        obtain ⟨i', j', g1, g2, g3⟩ := hq.gen
        have ha := Ty.conv (ik w o) r1.conv g1
        have hb := Ty.conv (il w v) (Conv.inst r2.conv o.conv) (g2.inst ha)
        exact .conv (.pair hs h1 hq ha hb) z.conv.symm h
  | fst h ih =>
    intro w t' r
    obtain ⟨i, j, g1, g2, g3⟩ : ∃ i j, Ty _ _ (Tm.sort i) ∧ Ty _ _ (Tm.sort j) ∧ True := by
      rcases h.valid w with e | ⟨i, hi⟩
      · cases e
      · obtain ⟨i, j, h1, h2, h3⟩ := hi.gen
        exact ⟨i, j, h1, h2, trivial⟩
    cases r with
    | fst r => exact .fst (ih w r)
    | fpair r =>
      obtain ⟨X, Y, i, j, h1, h2, h3, h4, h5, h6⟩ := (ih w (.pair (Par.rfl' _) r (Par.rfl' _))).gen
      have c := (h2.conv.symm.trans h6).sig_inv
      exact .conv h4 c.1 g1
  | snd h ih =>
    intro w t' r
    obtain ⟨i, j, g1, g2, g3⟩ : ∃ i j, Ty _ _ (Tm.sort i) ∧ Ty _ _ (Tm.sort j) ∧ True := by
      rcases h.valid w with e | ⟨i, hi⟩
      · cases e
      · obtain ⟨i, j, h1, h2, h3⟩ := hi.gen
        exact ⟨i, j, h1, h2, trivial⟩
    have g4 := g2.inst (.fst h)
    cases r with
    | snd r => exact .conv (.snd (ih w r)) (Conv.inst .rfl' (Conv.fst r.conv.symm)) g4
    | spair r =>
      obtain ⟨X, Y, i, j, h1, h2, h3, h4, h5, h6⟩ := (ih w (.pair (Par.rfl' _) (Par.rfl' _) r)).gen
      have c := (h2.conv.symm.trans h6).sig_inv
      exact .conv h5 (Conv.inst c.2 (Conv.symm (Par.conv (.fpair (Par.rfl' _))))) g4
  | conv h c k ih ik => intro w t' r; exact .conv (ih w r) c k
theorem Ty.red {G : List Tm} {t t' A : Tm} (h : Ty G t A) (w : Wf G) (r : Red t t') : Ty G t' A := by
  induction r with
  | nil => exact h
  | cons r _ ih => exact ih (h.par w r)
end Tm
end Go.Proofs.YthopkmimhlcjkaaGreat
end
section
/- What inference of types yields, without limits; its soundness; what is inferred behind a shift. No program in sight. -/
set_option linter.unusedVariables false
set_option linter.unusedSimpArgs false
namespace Go.Proofs.YthopkmimhlcjkaaGreat
namespace Tm
inductive Al : List Tm → Tm → Tm → Prop
  | var {G n A} (h : look G n = some A) : Al G (var n) A
  | sort {G n} (h : n < 3) : Al G (sort n) (sort (n + 1))
  | nat {G} : Al G nat (sort 0)
  | zero {G} : Al G zero nat
  | succ {G n T} (h : Al G n T) (c : Conv T nat) : Al G (succ n) nat
  | pi {G A B S R i j} (h : Al G A S) (w : Wh S (sort i)) (k : Al (A :: G) B R) (v : Wh R (sort j)) : Al G (pi A B) (sort (max i j))
  | sig {G A B S R i j} (h : Al G A S) (w : Wh S (sort i)) (k : Al (A :: G) B R) (v : Wh R (sort j)) : Al G (sig A B) (sort (max i j))
  | lam {G A b B S R i j} (h : Al G A S) (w : Wh S (sort i)) (k : Al (A :: G) b B) (l : Al (A :: G) B R) (v : Wh R (sort j)) : Al G (lam A b) (pi A B)
  | app {G f u F U C B} (h : Al G f F) (w : Wh F (pi C B)) (k : Al G u U) (c : Conv U C) : Al G (app f u) (B.inst u)
  | elim {G p z s n P C D i Z S N} (h : Al G p P) (w : Wh P (pi C D)) (c : Conv C nat) (v : Wh D (sort i)) (k : Al G z Z) (d : Conv Z (app p zero)) (l : Al G s S) (e : Conv S (stepTy p)) (m : Al G n N) (f : Conv N nat) : Al G (elim p z s n) (app p n)
  | id {G t a b S A B i} (h : Al G t S) (w : Wh S (sort i)) (k : Al G a A) (c : Conv A t) (l : Al G b B) (d : Conv B t) : Al G (id t a b) (sort i)
  | refl {G a A S i} (h : Al G a A) (k : Al G A S) (w : Wh S (sort i)) : Al G (refl a) (id A a a)
  | move {G p e x Q t y z P C D i X} (h : Al G e Q) (w : Wh Q (id t y z)) (k : Al G p P) (v : Wh P (pi C D)) (c : Conv C t) (u : Wh D (sort i)) (l : Al G x X) (d : Conv X (app p y)) : Al G (move p e x) (app p z)
  | pair {G s a b S i A B A' B'} (h : Al G s S) (w : Wh S (sort i)) (v : Wh s (Tm.sig A B)) (k : Al G a A') (c : Conv A' A) (l : Al G b B') (d : Conv B' (B.inst a)) : Al G (pair s a b) s
  | fst {G q Q A B} (h : Al G q Q) (w : Wh Q (sig A B)) : Al G (fst q) A
  | snd {G q Q A B} (h : Al G q Q) (w : Wh Q (sig A B)) : Al G (snd q) (B.inst (fst q))
/-- A type whose head is a sort. -/
theorem Ty.lvl {G : List Tm} {A S : Tm} {i : Nat} (h : Ty G A S) (w : Wf G) (r : Wh S (Tm.sort i)) : Ty G A (Tm.sort i) := by
  rcases h.valid w with e | ⟨j, hj⟩
  · subst e
    cases r with
    | nil => exact h
    | cons r _ => cases r
  · exact .conv h r.conv (hj.red w r.red)
theorem Ty.frm {G : List Tm} {t S F : Tm} (h : Ty G t S) (w : Wf G) (r : Wh S F) : Ty G t F := by
  rcases h.valid w with e | ⟨j, hj⟩
  · subst e
    cases r with
    | nil => exact h
    | cons r _ => cases r
  · exact .conv h r.conv (hj.red w r.red)
theorem Ty.chk {G : List Tm} {t A B : Tm} {i : Nat} (h : Ty G t A) (c : Conv A B) (k : Ty G B (Tm.sort i)) : Ty G t B := .conv h c k
theorem Ty.pi_parts {G : List Tm} {t C B : Tm} (h : Ty G t (Tm.pi C B)) (w : Wf G) : ∃ i j, Ty G C (Tm.sort i) ∧ Ty (C :: G) B (Tm.sort j) := by
  rcases h.valid w with e | ⟨i, hi⟩
  · cases e
  · obtain ⟨i, j, h1, h2, h3⟩ := hi.gen; exact ⟨i, j, h1, h2⟩
theorem Ty.id_parts {G : List Tm} {e t y z : Tm} (h : Ty G e (Tm.id t y z)) (w : Wf G) : ∃ i, Ty G t (Tm.sort i) ∧ Ty G y t ∧ Ty G z t := by
  rcases h.valid w with e | ⟨i, hi⟩
  · cases e
  · obtain ⟨i, h1, h2, h3, h4⟩ := hi.gen; exact ⟨i, h1, h2, h3⟩
/-- A function to sorts, as a family over a type. -/
theorem Ty.fam {G : List Tm} {p C D t : Tm} {i j : Nat} (h : Ty G p (Tm.pi C D)) (w : Wf G) (c : Conv C t) (r : Wh D (Tm.sort i)) (k : Ty G t (Tm.sort j)) : Ty G p (Tm.pi t (Tm.sort i)) := by
  obtain ⟨i1, j1, h1, h2⟩ := h.pi_parts w
  have h3 := h2.red (.cons w h1) r.red
  have h4 : Ty (t :: G) (Tm.sort i) (Tm.sort (i + 1)) := .sort h3.sort_lt
  exact .conv h (Conv.pi c r.conv) (.pi k h4)
theorem Al.sound {G : List Tm} {t A : Tm} (h : Al G t A) : Wf G → Ty G t A := by
  induction h with
  | var h => intro w; exact .var h
  | sort h => intro w; exact .sort h
  | nat => intro w; exact .nat
  | zero => intro w; exact .zero
  | succ h c ih => intro w; exact .succ (.conv (ih w) c .nat)
  | pi h r k v ih ik => intro w; have a := (ih w).lvl w r; exact .pi a ((ik (.cons w a)).lvl (.cons w a) v)
  | sig h r k v ih ik => intro w; have a := (ih w).lvl w r; exact .sig a ((ik (.cons w a)).lvl (.cons w a) v)
  | lam h r k l v ih ik il => intro w; have a := (ih w).lvl w r; exact .lam a (ik (.cons w a)) ((il (.cons w a)).lvl (.cons w a) v)
  | app h r k c ih ik =>
    intro w
    have hf := (ih w).frm w r
    obtain ⟨i, j, h1, h2⟩ := hf.pi_parts w
    exact .app hf (.conv (ik w) c h1)
  | elim h r c v k d l e m f ih ik il im =>
    intro w
    have hp := ((ih w).frm w r).fam w c v .nat
    exact .elim hp (.conv (ik w) d (Ty.app' hp .zero)) (.conv (il w) e (Ty.stepTy hp)) (.conv (im w) f .nat)
  | id h r k c l d ih ik il =>
    intro w
    have a := (ih w).lvl w r
    exact .id a (.conv (ik w) c a) (.conv (il w) d a)
  | refl h k r ih ik => intro w; exact .refl (ih w) ((ik w).lvl w r)
  | move h r k v c u l d ih ik il =>
    intro w
    have he := (ih w).frm w r
    obtain ⟨i, h1, h2, h3⟩ := he.id_parts w
    have hp := ((ik w).frm w v).fam w c u h1
    exact .move he hp (.conv (il w) d (Ty.app' hp h2)) h3
  | pair h r v k c l d ih ik il =>
    intro w
    have hs := (ih w).lvl w r
    have hq := hs.red w v.red
    obtain ⟨i, j, h1, h2, h3⟩ := hq.gen
    have ha := Ty.conv (ik w) c h1
    exact .pair hs v.red hq ha (.conv (il w) d (h2.inst ha))
  | fst h r ih => intro w; exact .fst ((ih w).frm w r)
  | snd h r ih => intro w; exact .snd ((ih w).frm w r)
/-! Behind a shift. -/
theorem Hd.ren_inv {t u : Tm} {ξ : Nat → Nat} (h : Hd (t.ren ξ) u) : ∃ v, u = v.ren ξ ∧ Hd t v := by
  generalize e : t.ren ξ = x at h
  induction h generalizing t with
  | beta =>
    cases t <;> simp only [Tm.ren, reduceCtorEq, Tm.app.injEq] at e
    rename_i f a
    obtain ⟨e1, e2⟩ := e
    cases f <;> simp only [Tm.ren, reduceCtorEq, Tm.lam.injEq] at e1
    obtain ⟨_, e1⟩ := e1; subst e1 e2
    exact ⟨_, (inst_ren _ _ _).symm, .beta⟩
  | ezero =>
    cases t <;> simp only [Tm.ren, reduceCtorEq, Tm.elim.injEq] at e
    rename_i p z s n
    obtain ⟨e1, e2, e3, e4⟩ := e
    cases n <;> simp only [Tm.ren, reduceCtorEq] at e4
    subst e2
    exact ⟨_, rfl, .ezero⟩
  | esucc =>
    cases t <;> simp only [Tm.ren, reduceCtorEq, Tm.elim.injEq] at e
    rename_i p z s n
    obtain ⟨e1, e2, e3, e4⟩ := e
    cases n <;> simp only [Tm.ren, reduceCtorEq, Tm.succ.injEq] at e4
    subst e1 e2 e3 e4
    exact ⟨Tm.app (Tm.app s _) (Tm.elim p z s _), rfl, .esucc⟩
  | mrefl =>
    cases t <;> simp only [Tm.ren, reduceCtorEq, Tm.move.injEq] at e
    rename_i p q x
    obtain ⟨e1, e2, e3⟩ := e
    cases q <;> simp only [Tm.ren, reduceCtorEq, Tm.refl.injEq] at e2
    subst e3
    exact ⟨_, rfl, .mrefl⟩
  | fpair =>
    cases t <;> simp only [Tm.ren, reduceCtorEq, Tm.fst.injEq] at e
    rename_i q
    cases q <;> simp only [Tm.ren, reduceCtorEq, Tm.pair.injEq] at e
    obtain ⟨e1, e2, e3⟩ := e
    subst e2
    exact ⟨_, rfl, .fpair⟩
  | spair =>
    cases t <;> simp only [Tm.ren, reduceCtorEq, Tm.snd.injEq] at e
    rename_i q
    cases q <;> simp only [Tm.ren, reduceCtorEq, Tm.pair.injEq] at e
    obtain ⟨e1, e2, e3⟩ := e
    subst e3
    exact ⟨_, rfl, .spair⟩
  | app h ih =>
    cases t <;> simp only [Tm.ren, reduceCtorEq, Tm.app.injEq] at e
    obtain ⟨e1, e2⟩ := e; subst e2
    obtain ⟨v, rfl, hv⟩ := ih e1
    exact ⟨_, rfl, .app hv⟩
  | elim h ih =>
    cases t <;> simp only [Tm.ren, reduceCtorEq, Tm.elim.injEq] at e
    obtain ⟨e1, e2, e3, e4⟩ := e; subst e1 e2 e3
    obtain ⟨v, rfl, hv⟩ := ih e4
    exact ⟨_, rfl, .elim hv⟩
  | move h ih =>
    cases t <;> simp only [Tm.ren, reduceCtorEq, Tm.move.injEq] at e
    obtain ⟨e1, e2, e3⟩ := e; subst e1 e3
    obtain ⟨v, rfl, hv⟩ := ih e2
    exact ⟨_, rfl, .move hv⟩
  | fst h ih =>
    cases t <;> simp only [Tm.ren, reduceCtorEq, Tm.fst.injEq] at e
    obtain ⟨v, rfl, hv⟩ := ih e
    exact ⟨_, rfl, .fst hv⟩
  | snd h ih =>
    cases t <;> simp only [Tm.ren, reduceCtorEq, Tm.snd.injEq] at e
    obtain ⟨v, rfl, hv⟩ := ih e
    exact ⟨_, rfl, .snd hv⟩
theorem Wh.ren_inv {t u : Tm} {ξ : Nat → Nat} (h : Wh (t.ren ξ) u) : ∃ v, u = v.ren ξ ∧ Wh t v := by
  generalize e : t.ren ξ = x at h
  induction h generalizing t with
  | nil => exact ⟨t, e.symm, .nil⟩
  | cons h _ ih =>
    subst e
    obtain ⟨v, rfl, hv⟩ := h.ren_inv
    obtain ⟨v', rfl, hv'⟩ := ih rfl
    exact ⟨v', rfl, .cons hv hv'⟩
theorem Wh.ren_pi {t a b : Tm} {ξ : Nat → Nat} (h : Wh (t.ren ξ) (Tm.pi a b)) : ∃ a' b', a = a'.ren ξ ∧ b = b'.ren (up ξ) ∧ Wh t (Tm.pi a' b') := by
  obtain ⟨v, e, hv⟩ := h.ren_inv
  cases v <;> simp only [Tm.ren, reduceCtorEq, Tm.pi.injEq] at e
  obtain ⟨rfl, rfl⟩ := e; exact ⟨_, _, rfl, rfl, hv⟩
theorem Wh.ren_sig {t a b : Tm} {ξ : Nat → Nat} (h : Wh (t.ren ξ) (Tm.sig a b)) : ∃ a' b', a = a'.ren ξ ∧ b = b'.ren (up ξ) ∧ Wh t (Tm.sig a' b') := by
  obtain ⟨v, e, hv⟩ := h.ren_inv
  cases v <;> simp only [Tm.ren, reduceCtorEq, Tm.sig.injEq] at e
  obtain ⟨rfl, rfl⟩ := e; exact ⟨_, _, rfl, rfl, hv⟩
theorem Wh.ren_id {t a b c : Tm} {ξ : Nat → Nat} (h : Wh (t.ren ξ) (Tm.id a b c)) : ∃ a' b' c', a = a'.ren ξ ∧ b = b'.ren ξ ∧ c = c'.ren ξ ∧ Wh t (Tm.id a' b' c') := by
  obtain ⟨v, e, hv⟩ := h.ren_inv
  cases v <;> simp only [Tm.ren, reduceCtorEq, Tm.id.injEq] at e
  obtain ⟨rfl, rfl, rfl⟩ := e; exact ⟨_, _, _, rfl, rfl, rfl, hv⟩
theorem Wh.ren_sort {t : Tm} {i : Nat} {ξ : Nat → Nat} (h : Wh (t.ren ξ) (Tm.sort i)) : Wh t (Tm.sort i) := by
  obtain ⟨v, e, hv⟩ := h.ren_inv
  cases v <;> simp only [Tm.ren, reduceCtorEq, Tm.sort.injEq] at e
  subst e; exact hv
theorem Conv.ren_inv {a b : Tm} {ξ η : Nat → Nat} (he : ∀ n, η (ξ n) = n) (h : Conv (a.ren ξ) (b.ren ξ)) : Conv a b := by
  have := h.ren η
  rw [ren_ren, ren_ren, show (fun n => η (ξ n)) = fun n => n from funext he, Tm.ren_id, Tm.ren_id] at this
  exact this
def RenIn (ξ : Nat → Nat) (G D : List Tm) : Prop := ∀ n, look D (ξ n) = (look G n).map (·.ren ξ)
theorem RenIn.up {ξ : Nat → Nat} {G D : List Tm} (h : RenIn ξ G D) (A : Tm) : RenIn (up ξ) (A :: G) (A.ren ξ :: D) := by
  intro n
  cases n with
  | zero => show some (A.ren ξ).wk = some (A.wk.ren (Tm.up ξ)); rw [wk_up]
  | succ n =>
    show (look D (ξ n)).map wk = ((look G n).map wk).map _
    rw [h n]
    cases look G n with
    | none => rfl
    | some C => simp only [Option.map_some, wk_up]
theorem RenIn.wk (G : List Tm) (A : Tm) : RenIn (· + 1) G (A :: G) := fun n => rfl
theorem up_inv {ξ η : Nat → Nat} (he : ∀ n, η (ξ n) = n) : ∀ n, up η (up ξ n) = n := by
  intro n; cases n with
  | zero => rfl
  | succ n => show η (ξ n) + 1 = _; rw [he]
theorem Al.ren_inv {D : List Tm} {x T : Tm} (h : Al D x T) : ∀ {t : Tm} {ξ η : Nat → Nat} {G : List Tm}, x = t.ren ξ → RenIn ξ G D → (∀ n, η (ξ n) = n) → ∃ T', T = T'.ren ξ ∧ Al G t T' := by
  induction h with
  | var h =>
    intro t ξ η G e hr he
    cases t <;> simp only [Tm.ren, reduceCtorEq, Tm.var.injEq] at e
    rename_i n
    subst e
    rw [hr n] at h
    obtain ⟨C, hC, rfl⟩ := Option.map_eq_some_iff.1 h
    exact ⟨C, rfl, .var hC⟩
  | sort h =>
    intro t ξ η G e hr he
    cases t <;> simp only [Tm.ren, reduceCtorEq, Tm.sort.injEq] at e
    subst e
    exact ⟨Tm.sort _, rfl, .sort h⟩
  | nat =>
    intro t ξ η G e hr he
    cases t <;> simp only [Tm.ren, reduceCtorEq] at e
    exact ⟨Tm.sort 0, rfl, .nat⟩
  | zero =>
    intro t ξ η G e hr he
    cases t <;> simp only [Tm.ren, reduceCtorEq] at e
    exact ⟨Tm.nat, rfl, .zero⟩
  | succ h c ih =>
    intro t ξ η G e hr he
    cases t <;> simp only [Tm.ren, reduceCtorEq, Tm.succ.injEq] at e
    obtain ⟨T', rfl, hT⟩ := ih e hr he
    exact ⟨Tm.nat, rfl, .succ hT (Conv.ren_inv (b := Tm.nat) he c)⟩
  | pi h w k v ih ik =>
    intro t ξ η G e hr he
    cases t <;> simp only [Tm.ren, reduceCtorEq, Tm.pi.injEq] at e
    obtain ⟨rfl, e2⟩ := e
    obtain ⟨S, rfl, hS⟩ := ih rfl hr he
    obtain ⟨R, rfl, hR⟩ := ik e2 (hr.up _) (up_inv he)
    exact ⟨Tm.sort _, rfl, .pi hS w.ren_sort hR v.ren_sort⟩
  | sig h w k v ih ik =>
    intro t ξ η G e hr he
    cases t <;> simp only [Tm.ren, reduceCtorEq, Tm.sig.injEq] at e
    obtain ⟨rfl, e2⟩ := e
    obtain ⟨S, rfl, hS⟩ := ih rfl hr he
    obtain ⟨R, rfl, hR⟩ := ik e2 (hr.up _) (up_inv he)
    exact ⟨Tm.sort _, rfl, .sig hS w.ren_sort hR v.ren_sort⟩
  | lam h w k l v ih ik il =>
    intro t ξ η G e hr he
    cases t <;> simp only [Tm.ren, reduceCtorEq, Tm.lam.injEq] at e
    obtain ⟨rfl, e2⟩ := e
    obtain ⟨S, rfl, hS⟩ := ih rfl hr he
    obtain ⟨B, rfl, hB⟩ := ik e2 (hr.up _) (up_inv he)
    obtain ⟨R, rfl, hR⟩ := il rfl (hr.up _) (up_inv he)
    exact ⟨Tm.pi _ _, rfl, .lam hS w.ren_sort hB hR v.ren_sort⟩
  | app h w k c ih ik =>
    intro t ξ η G e hr he
    cases t <;> simp only [Tm.ren, reduceCtorEq, Tm.app.injEq] at e
    obtain ⟨e1, rfl⟩ := e
    obtain ⟨F, rfl, hF⟩ := ih e1 hr he
    obtain ⟨U, rfl, hU⟩ := ik rfl hr he
    obtain ⟨a', b', rfl, rfl, w'⟩ := w.ren_pi
    exact ⟨_, (inst_ren _ _ _).symm, .app hF w' hU (Conv.ren_inv he c)⟩
  | elim h w c v k d l e m f ih ik il im =>
    intro t ξ η G e' hr he
    cases t <;> simp only [Tm.ren, reduceCtorEq, Tm.elim.injEq] at e'
    obtain ⟨rfl, e2, e3, rfl⟩ := e'
    obtain ⟨P, rfl, hP⟩ := ih rfl hr he
    obtain ⟨a', b', rfl, rfl, w'⟩ := w.ren_pi
    obtain ⟨Z, rfl, hZ⟩ := ik e2 hr he
    obtain ⟨S, rfl, hS⟩ := il e3 hr he
    obtain ⟨N, rfl, hN⟩ := im rfl hr he
    rw [← stepTy_ren] at e
    exact ⟨Tm.app _ _, rfl, .elim hP w' (Conv.ren_inv (b := Tm.nat) he c) v.ren_sort hZ (Conv.ren_inv (b := Tm.app _ Tm.zero) he d) hS (Conv.ren_inv he e) hN (Conv.ren_inv (b := Tm.nat) he f)⟩
  | id h w k c l d ih ik il =>
    intro t ξ η G e hr he
    cases t <;> simp only [Tm.ren, reduceCtorEq, Tm.id.injEq] at e
    obtain ⟨rfl, e2, e3⟩ := e
    obtain ⟨S, rfl, hS⟩ := ih rfl hr he
    obtain ⟨A, rfl, hA⟩ := ik e2 hr he
    obtain ⟨B, rfl, hB⟩ := il e3 hr he
    exact ⟨Tm.sort _, rfl, .id hS w.ren_sort hA (Conv.ren_inv he c) hB (Conv.ren_inv he d)⟩
  | refl h k w ih ik =>
    intro t ξ η G e hr he
    cases t <;> simp only [Tm.ren, reduceCtorEq, Tm.refl.injEq] at e
    subst e
    obtain ⟨A, rfl, hA⟩ := ih rfl hr he
    obtain ⟨S, rfl, hS⟩ := ik rfl hr he
    exact ⟨Tm.id _ _ _, rfl, .refl hA hS w.ren_sort⟩
  | move h w k v c u l d ih ik il =>
    intro t ξ η G e hr he
    cases t <;> simp only [Tm.ren, reduceCtorEq, Tm.move.injEq] at e
    obtain ⟨rfl, e2, e3⟩ := e
    obtain ⟨Q, rfl, hQ⟩ := ih e2 hr he
    obtain ⟨a', b', c', rfl, rfl, rfl, w'⟩ := w.ren_id
    obtain ⟨P, rfl, hP⟩ := ik rfl hr he
    obtain ⟨a2, b2, rfl, rfl, v'⟩ := v.ren_pi
    obtain ⟨X, rfl, hX⟩ := il e3 hr he
    exact ⟨Tm.app _ _, rfl, .move hQ w' hP v' (Conv.ren_inv he c) u.ren_sort hX (Conv.ren_inv (b := Tm.app _ _) he d)⟩
  | pair h w v k c l d ih ik il =>
    intro t ξ η G e hr he
    cases t <;> simp only [Tm.ren, reduceCtorEq, Tm.pair.injEq] at e
    obtain ⟨rfl, rfl, e3⟩ := e
    obtain ⟨S, rfl, hS⟩ := ih rfl hr he
    obtain ⟨a', b', rfl, rfl, v'⟩ := v.ren_sig
    obtain ⟨A, rfl, hA⟩ := ik rfl hr he
    obtain ⟨B, rfl, hB⟩ := il e3 hr he
    rw [← inst_ren] at d
    exact ⟨_, rfl, .pair hS w.ren_sort v' hA (Conv.ren_inv he c) hB (Conv.ren_inv he d)⟩
  | fst h w ih =>
    intro t ξ η G e hr he
    cases t <;> simp only [Tm.ren, reduceCtorEq, Tm.fst.injEq] at e
    obtain ⟨Q, rfl, hQ⟩ := ih e hr he
    obtain ⟨a', b', rfl, rfl, w'⟩ := w.ren_sig
    exact ⟨_, rfl, .fst hQ w'⟩
  | snd h w ih =>
    intro t ξ η G e hr he
    cases t <;> simp only [Tm.ren, reduceCtorEq, Tm.snd.injEq] at e
    subst e
    obtain ⟨Q, rfl, hQ⟩ := ih rfl hr he
    obtain ⟨a', b', rfl, rfl, w'⟩ := w.ren_sig
    exact ⟨_, (inst_ren _ (Tm.fst _) _).symm, .snd hQ w'⟩
theorem Al.wk_inv {G : List Tm} {A t T : Tm} (h : Al (A :: G) t.wk T) : ∃ T', T = T'.wk ∧ Al G t T' :=
  h.ren_inv (η := Nat.pred) rfl (RenIn.wk G A) (fun n => rfl)
end Tm
end Go.Proofs.YthopkmimhlcjkaaGreat
end
section
/- That inference of types ends: a logical relation over head reductions, with four universes. No program in sight. -/
set_option linter.unusedVariables false
set_option linter.unusedSimpArgs false
namespace Go.Proofs.YthopkmimhlcjkaaGreat
namespace Tm
/-! Canonical forms, stuck terms. -/
def Canon : Tm → Prop
  | var _ | app _ _ | elim _ _ _ _ | move _ _ _ | fst _ | snd _ => False
  | _ => True
def Stuck (t : Tm) : Prop := ∀ u, Wh t u → ¬ Canon u
theorem Canon.no {t u : Tm} (h : Canon t) (k : Hd t u) : False := by cases k <;> exact h
theorem Canon.wh {t u : Tm} (h : Canon t) (k : Wh t u) : u = t := by
  cases k with
  | nil => rfl
  | cons k _ => exact (h.no k).elim
theorem Wh.same {t u v : Tm} (h : Wh t u) (k : Wh t v) (cu : Canon u) (cv : Canon v) : u = v := by
  rcases h.two k with r | r
  · exact (cu.wh r).symm
  · exact cv.wh r
theorem Canon.par {t u : Tm} (h : Canon t) (k : Par t u) : Canon u := by cases k <;> first | exact h | trivial
theorem Canon.red {t u : Tm} (h : Canon t) (k : Red t u) : Canon u := by
  induction k with
  | nil => exact h
  | cons k _ ih => exact ih (h.par k)
theorem ST.canon {t u : Tm} (h : ST t u) (c : Canon u) : ∃ v, Wh t v ∧ Canon v := by
  cases h with
  | var w => exact (c : False).elim
  | sort w => exact ⟨_, w, trivial⟩
  | pi w => exact ⟨_, w, trivial⟩
  | lam w => exact ⟨_, w, trivial⟩
  | app w => exact (c : False).elim
  | nat w => exact ⟨_, w, trivial⟩
  | zero w => exact ⟨_, w, trivial⟩
  | succ w => exact ⟨_, w, trivial⟩
  | elim w => exact (c : False).elim
  | id w => exact ⟨_, w, trivial⟩
  | refl w => exact ⟨_, w, trivial⟩
  | move w => exact (c : False).elim
  | sig w => exact ⟨_, w, trivial⟩
  | pair w => exact ⟨_, w, trivial⟩
  | fst w => exact (c : False).elim
  | snd w => exact (c : False).elim
theorem Stuck.conv {t u : Tm} (h : Stuck t) (c : Conv t u) : Stuck u := by
  intro v w k
  obtain ⟨x, h1, h2⟩ := c.trans w.conv
  obtain ⟨y, hy, cy⟩ := (h1.st).canon (k.red h2)
  exact h y hy cy
theorem Stuck.exp {t u : Tm} (w : Wh t u) (h : Stuck u) : Stuck t := h.conv w.conv.symm
theorem Stuck.red {t u : Tm} (w : Wh t u) (h : Stuck t) : Stuck u := fun v k c => h v (w.trans k) c
theorem Stuck.var (n : Nat) : Stuck (Tm.var n) := by
  intro u w c
  cases w with
  | nil => exact c
  | cons h _ => cases h
theorem Stuck.no {t u : Tm} (h : Stuck t) (k : Hd t u) : Stuck u := h.red (.cons k .nil)
theorem Stuck.app {f : Tm} (h : Stuck f) (u : Tm) : Stuck (Tm.app f u) := by
  have : ∀ {x y}, Wh x y → ∀ f, x = Tm.app f u → Stuck f → ¬ Canon y := by
    intro x y w
    induction w with
    | nil => intro f e hf; subst e; exact fun h => h
    | cons k _ ih => intro f e hf; subst e; cases k with
      | beta => exact (hf _ .nil trivial).elim
      | app k => exact ih _ rfl (hf.no k)
  exact fun y w => this w f rfl h
theorem Stuck.elim {n : Tm} (h : Stuck n) (p z s : Tm) : Stuck (Tm.elim p z s n) := by
  have : ∀ {x y}, Wh x y → ∀ n, x = Tm.elim p z s n → Stuck n → ¬ Canon y := by
    intro x y w
    induction w with
    | nil => intro f e hf; subst e; exact fun h => h
    | cons k _ ih => intro f e hf; subst e; cases k with
      | ezero => exact (hf _ .nil trivial).elim
      | esucc => exact (hf _ .nil trivial).elim
      | elim k => exact ih _ rfl (hf.no k)
  exact fun y w => this w n rfl h
theorem Stuck.move {e : Tm} (h : Stuck e) (p a : Tm) : Stuck (Tm.move p e a) := by
  have : ∀ {x y}, Wh x y → ∀ e, x = Tm.move p e a → Stuck e → ¬ Canon y := by
    intro x y w
    induction w with
    | nil => intro f e hf; subst e; exact fun h => h
    | cons k _ ih => intro f e hf; subst e; cases k with
      | mrefl => exact (hf _ .nil trivial).elim
      | move k => exact ih _ rfl (hf.no k)
  exact fun y w => this w e rfl h
theorem Stuck.fst {e : Tm} (h : Stuck e) : Stuck (Tm.fst e) := by
  have : ∀ {x y}, Wh x y → ∀ e, x = Tm.fst e → Stuck e → ¬ Canon y := by
    intro x y w
    induction w with
    | nil => intro f e hf; subst e; exact fun h => h
    | cons k _ ih => intro f e hf; subst e; cases k with
      | fpair => exact (hf _ .nil trivial).elim
      | fst k => exact ih _ rfl (hf.no k)
  exact fun y w => this w e rfl h
theorem Stuck.snd {e : Tm} (h : Stuck e) : Stuck (Tm.snd e) := by
  have : ∀ {x y}, Wh x y → ∀ e, x = Tm.snd e → Stuck e → ¬ Canon y := by
    intro x y w
    induction w with
    | nil => intro f e hf; subst e; exact fun h => h
    | cons k _ ih => intro f e hf; subst e; cases k with
      | spair => exact (hf _ .nil trivial).elim
      | snd k => exact ih _ rfl (hf.no k)
  exact fun y w => this w e rfl h
theorem Conv.wh_pi {A C B : Tm} (c : Conv A (Tm.pi C B)) : ∃ C' B', Wh A (Tm.pi C' B') ∧ Conv C' C ∧ Conv B' B := by
  obtain ⟨x, h1, h2⟩ := c
  obtain ⟨a, b, rfl, r1, r2⟩ := h2.pi_inv
  cases h1.st with
  | pi w h k => exact ⟨_, _, w, ⟨a, h.red, r1⟩, ⟨b, k.red, r2⟩⟩
theorem Conv.wh_sig {A C B : Tm} (c : Conv A (Tm.sig C B)) : ∃ C' B', Wh A (Tm.sig C' B') ∧ Conv C' C ∧ Conv B' B := by
  obtain ⟨x, h1, h2⟩ := c
  obtain ⟨a, b, rfl, r1, r2⟩ := h2.sig_inv
  cases h1.st with
  | sig w h k => exact ⟨_, _, w, ⟨a, h.red, r1⟩, ⟨b, k.red, r2⟩⟩
theorem Conv.wh_id {A t y z : Tm} (c : Conv A (Tm.id t y z)) : ∃ t' y' z', Wh A (Tm.id t' y' z') ∧ Conv t' t ∧ Conv y' y ∧ Conv z' z := by
  obtain ⟨x, h1, h2⟩ := c
  obtain ⟨a, b, d, rfl, r1, r2, r3⟩ := h2.id_inv
  cases h1.st with
  | id w h k l => exact ⟨_, _, _, w, ⟨a, h.red, r1⟩, ⟨b, k.red, r2⟩, ⟨d, l.red, r3⟩⟩
theorem Conv.wh_sort {A : Tm} {i : Nat} (c : Conv A (Tm.sort i)) : Wh A (Tm.sort i) := by
  obtain ⟨x, h1, h2⟩ := c
  have := h2.sort_inv; subst this
  cases h1.st with
  | sort w => exact w
theorem Conv.wh_nat {A : Tm} (c : Conv A Tm.nat) : Wh A Tm.nat := by
  obtain ⟨x, h1, h2⟩ := c
  have := h2.nat_inv; subst this
  cases h1.st with
  | nat w => exact w

section LR
/-- What is known of E, the terms whose type is searched to the end in the context G. -/
structure Clo (E : Tm → Prop) (G : List Tm) : Prop where
  var : ∀ n, E (Tm.var n)
  sort : ∀ n, E (Tm.sort n)
  nat : E Tm.nat
  zero : E Tm.zero
  succ : ∀ {n}, E n → E (Tm.succ n)
  pi : ∀ {a b}, E a → E (Tm.pi a b)
  sig : ∀ {a b}, E a → E (Tm.sig a b)
  lam : ∀ {a b}, E a → E (Tm.lam a b)
  app : ∀ {f u}, E f → E u → E (Tm.app f u)
  elim : ∀ {p z s n}, E p → E z → E s → E n → E (Tm.elim p z s n)
  id : ∀ {t a b}, E t → E a → E b → E (Tm.id t a b)
  refl : ∀ {a}, E a → (∀ A, Al G a A → E A) → E (Tm.refl a)
  move : ∀ {p e x}, E p → E e → E x → E (Tm.move p e x)
  pair : ∀ {s a b}, E s → E a → E b → E (Tm.pair s a b)
  fst : ∀ {q}, E q → E (Tm.fst q)
  snd : ∀ {q}, E q → E (Tm.snd q)
variable (E : Tm → Prop) (G : List Tm)
abbrev Pr := Tm → Prop
/-- What is asked of a term apart from its form: its inferred type is among X. -/
def Bs (X : Pr) (t : Tm) : Prop := E t ∧ ∀ T, Al G t T → X T
inductive NatS : Tm → Prop
  | zero {t} (b : Bs E G E t) (w : Wh t zero) : NatS t
  | succ {t m} (b : Bs E G E t) (w : Wh t (succ m)) (h : NatS m) : NatS t
  | stuck {t} (b : Bs E G E t) (s : Stuck t) : NatS t
def PiG (SC GC : Pr) (GB : Tm → Pr) (X : Tm) : Prop := E X ∧ ∀ C B, Wh X (pi C B) → GC C ∧ ∀ u, SC u → GB u (B.inst u)
def SigG (SC GC : Pr) (GB : Tm → Pr) (X : Tm) : Prop := E X ∧ ∀ C B, Wh X (sig C B) → GC C ∧ ∀ u, SC u → GB u (B.inst u)
def IdG (ST GT : Pr) (y z : Tm) (X : Tm) : Prop := E X ∧ ∀ t' y' z', Wh X (id t' y' z') → GT t' ∧ ST y' ∧ ST z' ∧ Conv y' y ∧ Conv z' z
/-- What is asked of a proof of an equality: its sides are like its term, or it is stuck. -/
def IdF (y z e : Tm) : Prop := (∃ a, Wh e (refl a) ∧ Conv a y ∧ Conv a z) ∨ Stuck e
/-- A type, the terms of this type, and the terms that may be inferred as their type. U: the types of a level below l. -/
inductive Sem (l : Nat) (U : Nat → Pr) : Tm → Pr → Pr → Prop
  | nat {A} (w : Wh A nat) : Sem l U A (NatS E G) E
  | sort {A i} (h : i < l) (w : Wh A (sort i)) : Sem l U A (fun t => Bs E G E t ∧ U i t) E
  | stuck {A} (h : Stuck A) : Sem l U A (Bs E G E) E
  | pi {A C B SC GC} {SB GB : Tm → Pr} (w : Wh A (pi C B)) (hC : Sem l U C SC GC) (hB : ∀ u, SC u → Sem l U (B.inst u) (SB u) (GB u)) :
      Sem l U A (fun f => Bs E G (PiG E SC GC GB) f ∧ ∀ u, SC u → SB u (app f u)) (PiG E SC GC GB)
  | sig {A C B SC GC} {SB GB : Tm → Pr} (w : Wh A (sig C B)) (hC : Sem l U C SC GC) (hB : ∀ u, SC u → Sem l U (B.inst u) (SB u) (GB u)) :
      Sem l U A (fun q => Bs E G (SigG E SC GC GB) q ∧ SC (fst q) ∧ SB (fst q) (snd q)) (SigG E SC GC GB)
  | id {A t y z ST GT} (w : Wh A (id t y z)) (hT : Sem l U t ST GT) :
      Sem l U A (fun e => Bs E G (IdG E ST GT y z) e ∧ IdF y z e) (IdG E ST GT y z)
variable {E G}
theorem bs_congr {X Y : Pr} (h : ∀ t, X t ↔ Y t) (t : Tm) : Bs E G X t ↔ Bs E G Y t :=
  ⟨fun b => ⟨b.1, fun T k => (h T).1 (b.2 T k)⟩, fun b => ⟨b.1, fun T k => (h T).2 (b.2 T k)⟩⟩
/-- Only one meaning a type. -/
theorem Sem.det {l : Nat} {U : Nat → Pr} {A : Tm} {S X : Pr} (h : Sem E G l U A S X) : ∀ {S' X'}, Sem E G l U A S' X' → (∀ t, S t ↔ S' t) ∧ ∀ t, X t ↔ X' t := by
  induction h with
  | nat w =>
    intro S' X' k
    cases k with
    | nat w' => exact ⟨fun _ => .rfl, fun _ => .rfl⟩
    | sort h w' => cases w.same w' trivial trivial
    | stuck h => exact (h _ w trivial).elim
    | pi w' => cases w.same w' trivial trivial
    | sig w' => cases w.same w' trivial trivial
    | id w' => cases w.same w' trivial trivial
  | sort h w =>
    intro S' X' k
    cases k with
    | nat w' => cases w.same w' trivial trivial
    | sort h w' => cases w.same w' trivial trivial; exact ⟨fun _ => .rfl, fun _ => .rfl⟩
    | stuck h => exact (h _ w trivial).elim
    | pi w' => cases w.same w' trivial trivial
    | sig w' => cases w.same w' trivial trivial
    | id w' => cases w.same w' trivial trivial
  | stuck h =>
    intro S' X' k
    cases k with
    | nat w' => exact (h _ w' trivial).elim
    | sort h' w' => exact (h _ w' trivial).elim
    | stuck h => exact ⟨fun _ => .rfl, fun _ => .rfl⟩
    | pi w' => exact (h _ w' trivial).elim
    | sig w' => exact (h _ w' trivial).elim
    | id w' => exact (h _ w' trivial).elim
  | pi w hC hB ih ik =>
    intro S' X' k
    cases k with
    | nat w' => cases w.same w' trivial trivial
    | sort h w' => cases w.same w' trivial trivial
    | stuck h => exact (h _ w trivial).elim
    | sig w' => cases w.same w' trivial trivial
    | id w' => cases w.same w' trivial trivial
    | pi w' hC' hB' =>
      cases w.same w' trivial trivial
      obtain ⟨e1, e2⟩ := ih hC'
      have e3 : ∀ t, PiG E _ _ _ t ↔ PiG E _ _ _ t := fun t =>
        ⟨fun b => ⟨b.1, fun C B k => ⟨(e2 C).1 (b.2 C B k).1, fun u hu => ((ik u ((e1 u).2 hu) (hB' u hu)).2 _).1 ((b.2 C B k).2 u ((e1 u).2 hu))⟩⟩,
         fun b => ⟨b.1, fun C B k => ⟨(e2 C).2 (b.2 C B k).1, fun u hu => ((ik u hu (hB' u ((e1 u).1 hu))).2 _).2 ((b.2 C B k).2 u ((e1 u).1 hu))⟩⟩⟩
      exact ⟨fun t => ⟨fun b => ⟨(bs_congr e3 t).1 b.1, fun u hu => ((ik u ((e1 u).2 hu) (hB' u hu)).1 _).1 (b.2 u ((e1 u).2 hu))⟩,
        fun b => ⟨(bs_congr e3 t).2 b.1, fun u hu => ((ik u hu (hB' u ((e1 u).1 hu))).1 _).2 (b.2 u ((e1 u).1 hu))⟩⟩, e3⟩
  | sig w hC hB ih ik =>
    intro S' X' k
    cases k with
    | nat w' => cases w.same w' trivial trivial
    | sort h w' => cases w.same w' trivial trivial
    | stuck h => exact (h _ w trivial).elim
    | pi w' => cases w.same w' trivial trivial
    | id w' => cases w.same w' trivial trivial
    | sig w' hC' hB' =>
      cases w.same w' trivial trivial
      obtain ⟨e1, e2⟩ := ih hC'
      have e3 : ∀ t, SigG E _ _ _ t ↔ SigG E _ _ _ t := fun t =>
        ⟨fun b => ⟨b.1, fun C B k => ⟨(e2 C).1 (b.2 C B k).1, fun u hu => ((ik u ((e1 u).2 hu) (hB' u hu)).2 _).1 ((b.2 C B k).2 u ((e1 u).2 hu))⟩⟩,
         fun b => ⟨b.1, fun C B k => ⟨(e2 C).2 (b.2 C B k).1, fun u hu => ((ik u hu (hB' u ((e1 u).1 hu))).2 _).2 ((b.2 C B k).2 u ((e1 u).1 hu))⟩⟩⟩
      exact ⟨fun t => ⟨fun b => ⟨(bs_congr e3 t).1 b.1, (e1 _).1 b.2.1, ((ik _ b.2.1 (hB' _ ((e1 _).1 b.2.1))).1 _).1 b.2.2⟩,
        fun b => ⟨(bs_congr e3 t).2 b.1, (e1 _).2 b.2.1, ((ik _ ((e1 _).2 b.2.1) (hB' _ b.2.1)).1 _).2 b.2.2⟩⟩, e3⟩
  | @id A t y z ST GT w hT ih =>
    intro S' X' k
    cases k with
    | nat w' => cases w.same w' trivial trivial
    | sort h w' => cases w.same w' trivial trivial
    | stuck h => exact (h _ w trivial).elim
    | pi w' => cases w.same w' trivial trivial
    | sig w' => cases w.same w' trivial trivial
    | @id _ _ _ _ ST' GT' w' hT' =>
      cases w.same w' trivial trivial
      obtain ⟨e1, e2⟩ := ih hT'
      have e3 : ∀ t, IdG E ST GT y z t ↔ IdG E ST' GT' y z t := fun t =>
        ⟨fun b => ⟨b.1, fun x y z k => let g := b.2 x y z k; ⟨(e2 _).1 g.1, (e1 _).1 g.2.1, (e1 _).1 g.2.2.1, g.2.2.2⟩⟩,
         fun b => ⟨b.1, fun x y z k => let g := b.2 x y z k; ⟨(e2 _).2 g.1, (e1 _).2 g.2.1, (e1 _).2 g.2.2.1, g.2.2.2⟩⟩⟩
      exact ⟨fun t => ⟨fun b => ⟨(bs_congr e3 t).1 b.1, b.2⟩, fun b => ⟨(bs_congr e3 t).2 b.1, b.2⟩⟩, e3⟩
/-- Convertible types mean the same. -/
theorem Sem.conv {l : Nat} {U : Nat → Pr} {A : Tm} {S X : Pr} (h : Sem E G l U A S X) : ∀ {A'}, Conv A A' → Sem E G l U A' S X := by
  induction h with
  | nat w => intro A' c; exact .nat (c.symm.trans w.conv).wh_nat
  | sort h w => intro A' c; exact .sort h (c.symm.trans w.conv).wh_sort
  | stuck h => intro A' c; exact .stuck (h.conv c)
  | pi w hC hB ih ik =>
    intro A' c
    obtain ⟨C', B', w', c1, c2⟩ := (c.symm.trans w.conv).wh_pi
    exact .pi w' (ih c1.symm) (fun u hu => ik u hu (Conv.inst c2.symm .rfl'))
  | sig w hC hB ih ik =>
    intro A' c
    obtain ⟨C', B', w', c1, c2⟩ := (c.symm.trans w.conv).wh_sig
    exact .sig w' (ih c1.symm) (fun u hu => ik u hu (Conv.inst c2.symm .rfl'))
  | @id A t y z ST GT w hT ih =>
    intro A' c
    obtain ⟨t', y', z', w', c1, c2, c3⟩ := (c.symm.trans w.conv).wh_id
    have k := Sem.id (E := E) (G := G) (l := l) (U := U) w' (ih c1.symm)
    have e3 : IdG E ST GT y' z' = IdG E ST GT y z := by
      funext t
      exact propext ⟨fun b => ⟨b.1, fun x y z k => let g := b.2 x y z k; ⟨g.1, g.2.1, g.2.2.1, g.2.2.2.1.trans c2, g.2.2.2.2.trans c3⟩⟩,
         fun b => ⟨b.1, fun x y z k => let g := b.2 x y z k; ⟨g.1, g.2.1, g.2.2.1, g.2.2.2.1.trans c2.symm, g.2.2.2.2.trans c3.symm⟩⟩⟩
    rw [e3] at k
    have e4 : (fun e => Bs E G (IdG E ST GT y z) e ∧ IdF y' z' e) = fun e => Bs E G (IdG E ST GT y z) e ∧ IdF y z e := by
      funext e
      exact propext ⟨fun b => ⟨b.1, b.2.imp (fun ⟨a, k⟩ => ⟨a, k.1, k.2.1.trans c2, k.2.2.trans c3⟩) (fun h => h)⟩, fun b => ⟨b.1, b.2.imp (fun ⟨a, k⟩ => ⟨a, k.1, k.2.1.trans c2.symm, k.2.2.trans c3.symm⟩) (fun h => h)⟩⟩
    rw [e4] at k
    exact k
/-- What every meaning says of a term. -/
theorem Sem.bs {l : Nat} {U : Nat → Pr} {A : Tm} {S X : Pr} (h : Sem E G l U A S X) {t : Tm} (k : S t) : Bs E G X t := by
  cases h with
  | nat w => cases k <;> assumption
  | sort h w => exact k.1
  | stuck h => exact k
  | pi w hC hB => exact k.1
  | sig w hC hB => exact k.1
  | id w hT => exact k.1
theorem Sem.ends {l : Nat} {U : Nat → Pr} {A : Tm} {S X : Pr} (h : Sem E G l U A S X) {t : Tm} (k : X t) : E t := by
  cases h with
  | nat w => exact k
  | sort h w => exact k
  | stuck h => exact k
  | pi w hC hB => exact k.1
  | sig w hC hB => exact k.1
  | id w hT => exact k.1
/-! The levels. -/
variable (E G) in
def Vs : Nat → Nat → Pr
  | 0, _, _ => False
  | l + 1, i, t => (i = l ∧ ∃ S X, Sem E G l (Vs l) t S X ∧ X t) ∨ (i < l ∧ Vs l i t)
theorem vs_iff : ∀ {l i : Nat} {t : Tm}, i < l → (Vs E G l i t ↔ ∃ S X, Sem E G i (Vs E G i) t S X ∧ X t)
  | l + 1, i, t, h => by
    by_cases e : i = l
    · subst e
      exact ⟨fun k => by
        rcases k with k | k
        · exact k.2
        · omega, fun k => .inl ⟨rfl, k⟩⟩
    · have h' : i < l := by omega
      rw [← vs_iff h']
      exact ⟨fun k => by
        rcases k with k | k
        · exact absurd k.1 e
        · exact k.2, fun k => .inr ⟨h', k⟩⟩
theorem Sem.up {l m : Nat} (hm : l ≤ m) {A : Tm} {S X : Pr} (h : Sem E G l (Vs E G l) A S X) : Sem E G m (Vs E G m) A S X := by
  induction h with
  | nat w => exact .nat w
  | @sort A i h w =>
    have e : (fun t => Bs E G E t ∧ Vs E G l i t) = fun t => Bs E G E t ∧ Vs E G m i t := by
      funext t; rw [propext (vs_iff (E := E) (G := G) (t := t) h), propext (vs_iff (E := E) (G := G) (t := t) (show i < m by omega))]
    rw [e]
    exact .sort (by omega) w
  | stuck h => exact .stuck h
  | pi w hC hB ih ik => exact .pi w ih ik
  | sig w hC hB ih ik => exact .sig w ih ik
  | id w hT ih => exact .id w ih
end LR
end Tm
end Go.Proofs.YthopkmimhlcjkaaGreat
end
