/- Valid terms: what the program and the reference take for valid. No program in sight. -/
import Derived.Test.YtbkpfjabcohnpaaTree
set_option linter.unusedVariables false
set_option linter.unusedSimpArgs false
namespace Go.Proofs.Ytbkpfjabcohnpaa
open Go Go.Dk
def opsOf : Int → Int := fun k => if k = 1 ∨ k = 2 ∨ k = 6 ∨ k = 7 then 0 else if k = 8 ∨ k = 11 ∨ k = 15 ∨ k = 16 then 1 else if k = 3 ∨ k = 4 ∨ k = 5 ∨ k = 13 then 2 else if k = 10 ∨ k = 12 ∨ k = 14 then 3 else if k = 9 then 4 else -1
def mostOf : Int → Int := fun k => if k = 1 then 20 else if k = 2 then 3 else 0
mutual
def scanF : T → Int → Int → Bool × Int
  | .mk k n kids, deep, c => if 400 < c + 1 ∨ 30 < deep ∨ opsOf k ≠ kids.length ∨ ¬ (0 ≤ n ∧ n ≤ mostOf k) then (false, c + 1) else scanL kids (deep + 1) (c + 1)
def scanL : List T → Int → Int → Bool × Int
  | [], _, c => (true, c)
  | t :: ts, d, c => if (scanF t d c).1 then scanL ts d (scanF t d c).2 else (false, (scanF t d c).2)
end
theorem scanF_eq (t : T) (d c : Int) : scanF t d c = if 400 < c + 1 ∨ 30 < d ∨ opsOf t.k ≠ t.kids.length ∨ ¬ (0 ≤ t.n ∧ t.n ≤ mostOf t.k) then (false, c + 1) else scanL t.kids (d + 1) (c + 1) := by
  cases t; simp only [scanF]; rfl
mutual
theorem scanF_bd (t : T) (d c : Int) : (scanF t d c).1 = true → c + 1 ≤ (scanF t d c).2 ∧ (scanF t d c).2 ≤ 400 := by
  cases t with
  | mk k n kids =>
    unfold scanF
    split
    · intro h; cases h
    · rename_i h
      intro h1
      have h2 : c + 1 ≤ 400 := by simp only [not_or] at h; omega
      have := scanL_bd kids (d + 1) (c + 1) h2 h1
      omega
theorem scanL_bd (ts : List T) (d c : Int) (hc : c ≤ 400) : (scanL ts d c).1 = true → c ≤ (scanL ts d c).2 ∧ (scanL ts d c).2 ≤ 400 := by
  cases ts with
  | nil => intro _; simp [scanL, hc]
  | cons t ts =>
    unfold scanL
    split
    · rename_i h
      intro h1
      have a := scanF_bd t d c h
      have b := scanL_bd ts d _ a.2 h1
      omega
    · intro h; cases h
end
mutual
def shapeF : T → Nat → Bool
  | .mk k n kids, d => decide (1 ≤ d) && (decide (opsOf k = kids.length) && (decide (0 ≤ n ∧ n ≤ mostOf k) && shapeL kids (d - 1)))
def shapeL : List T → Nat → Bool
  | [], _ => true
  | t :: ts, d => shapeF t d && shapeL ts d
end
theorem shapeF_eq (t : T) (d : Nat) : shapeF t d = (decide (1 ≤ d) && (decide (opsOf t.k = t.kids.length) && (decide (0 ≤ t.n ∧ t.n ≤ mostOf t.k) && shapeL t.kids (d - 1)))) := by cases t; simp only [shapeF]; rfl
def validB (t : T) : Bool := shapeF t 30 && decide (t.size ≤ 400)
/-- The reference's count of nodes: it stops above a number. -/
def cntF (t : T) (m : Nat) : Nat := min t.size (m + 1)
mutual
theorem scanF_iff (t : T) (d c : Nat) (hc : c ≤ 400) (hd : d ≤ 31) : ((scanF t d c).1 = true ↔ shapeF t (31 - d) = true ∧ c + t.size ≤ 400) ∧ ((scanF t d c).1 = true → (scanF t d c).2 = c + t.size) := by
  cases t with
  | mk k n kids =>
    have hs : T.size (.mk k n kids) = 1 + T.sizeL kids := rfl
    unfold scanF shapeF
    by_cases hcond : 400 < (c : Int) + 1 ∨ 30 < (d : Int) ∨ opsOf k ≠ (kids.length : Int) ∨ ¬ (0 ≤ n ∧ n ≤ mostOf k)
    · rw [if_pos hcond]
      refine ⟨⟨fun h => (by cases h), fun h => ?_⟩, fun h => (by cases h)⟩
      simp only [Bool.and_eq_true, decide_eq_true_eq] at h
      obtain ⟨⟨h1, h2, h3, h4⟩, h5⟩ := h
      exfalso
      rcases hcond with h | h | h | h
      · omega
      · omega
      · exact h h2
      · exact h h3
    · rw [if_neg hcond]
      simp only [not_or, Decidable.not_not] at hcond
      have hk : ((c : Int) + 1) = ((c + 1 : Nat) : Int) := by omega
      have hk2 : ((d : Int) + 1) = ((d + 1 : Nat) : Int) := by omega
      rw [hk, hk2]
      have ih := scanL_iff kids (d + 1) (c + 1) (by omega) (by omega)
      rw [decide_eq_true (by omega : 1 ≤ 31 - d), decide_eq_true hcond.2.2.1, decide_eq_true hcond.2.2.2, Bool.true_and, Bool.true_and, Bool.true_and, show 31 - d - 1 = 31 - (d + 1) by omega, hs]
      refine ⟨⟨fun h => ?_, fun h => ?_⟩, fun h => ?_⟩
      · have := ih.1.1 h; exact ⟨this.1, by omega⟩
      · exact ih.1.2 ⟨h.1, by omega⟩
      · have := ih.2 h; omega
theorem scanL_iff (ts : List T) (d c : Nat) (hc : c ≤ 400) (hd : d ≤ 31) : ((scanL ts d c).1 = true ↔ shapeL ts (31 - d) = true ∧ c + T.sizeL ts ≤ 400) ∧ ((scanL ts d c).1 = true → (scanL ts d c).2 = c + T.sizeL ts) := by
  cases ts with
  | nil => simp [scanL, shapeL, T.sizeL, hc]
  | cons t ts =>
    have ih := scanF_iff t d c hc hd
    have hs : T.sizeL (t :: ts) = t.size + T.sizeL ts := rfl
    unfold scanL shapeL
    by_cases h1 : (scanF t d c).1 = true
    · have h2 := ih.2 h1
      have h3 := ih.1.1 h1
      have ih2 := scanL_iff ts d (c + t.size) h3.2 hd
      have hk : ((c : Int) + (t.size : Int)) = ((c + t.size : Nat) : Int) := by omega
      rw [if_pos h1, h2, hk, h3.1, Bool.true_and, hs]
      refine ⟨⟨fun h => ?_, fun h => ?_⟩, fun h => ?_⟩
      · have := ih2.1.1 h; exact ⟨this.1, by omega⟩
      · exact ih2.1.2 ⟨h.1, by omega⟩
      · have := ih2.2 h; omega
    · rw [if_neg h1, hs]
      refine ⟨⟨fun h => (by cases h), fun h => ?_⟩, fun h => (by cases h)⟩
      exfalso
      rw [Bool.and_eq_true] at h
      exact h1 (ih.1.2 ⟨h.1.1, by omega⟩)
end
theorem scan_valid (t : T) : (scanF t 1 0).1 = validB t := by
  have := (scanF_iff t 1 0 (by omega) (by omega)).1
  unfold validB
  rw [Bool.eq_iff_iff, Bool.and_eq_true, decide_eq_true_eq]
  simpa using this
theorem shapeL_mem {u : T} {d : Nat} : ∀ {ts : List T}, shapeL ts d = true → u ∈ ts → shapeF u d = true
  | t :: ts, h, hu => by
    simp only [shapeL, Bool.and_eq_true] at h
    rcases List.mem_cons.1 hu with rfl | hu
    · exact h.1
    · exact shapeL_mem h.2 hu
mutual
theorem shapeF_up : ∀ (t : T) (d : Nat), shapeF t d = true → shapeF t (d + 1) = true
  | .mk k n kids, d, h => by
    simp only [shapeF, Bool.and_eq_true, decide_eq_true_eq] at h ⊢
    refine ⟨by omega, h.2.1, h.2.2.1, ?_⟩
    have := shapeL_up kids (d - 1) h.2.2.2
    rwa [show d - 1 + 1 = d + 1 - 1 by omega] at this
theorem shapeL_up : ∀ (ts : List T) (d : Nat), shapeL ts d = true → shapeL ts (d + 1) = true
  | [], _, _ => rfl
  | t :: ts, d, h => by
    simp only [shapeL, Bool.and_eq_true] at h ⊢
    exact ⟨shapeF_up t d h.1, shapeL_up ts d h.2⟩
end
/-- The operands of a valid term are valid. -/
theorem validB_kid {t u : T} (h : validB t = true) (hu : u ∈ t.kids) : validB u = true := by
  unfold validB at h ⊢
  rw [Bool.and_eq_true, decide_eq_true_eq] at h ⊢
  rw [shapeF_eq] at h
  simp only [Bool.and_eq_true, decide_eq_true_eq] at h
  have h1 := shapeF_up _ _ (shapeL_mem h.1.2.2.2 hu)
  have h2 := T.sizeL_mem hu
  have h3 := T.size_eq t
  exact ⟨h1, by omega⟩
theorem validB_ops {t : T} (h : validB t = true) : opsOf t.k = t.kids.length ∧ 0 ≤ t.n ∧ t.n ≤ mostOf t.k := by
  unfold validB at h
  rw [Bool.and_eq_true, shapeF_eq] at h
  simp only [Bool.and_eq_true, decide_eq_true_eq] at h
  exact ⟨h.1.2.1, h.1.2.2.1⟩
/-- The number of TermPi on the way. -/
def cpF : T → Nat
  | .mk k _ [_, b] => if k = 3 then 1 + cpF b else 0
  | _ => 0
theorem cpF_le : ∀ t : T, cpF t ≤ t.size
  | .mk k n [a, b] => by
    have := cpF_le b
    simp only [cpF, T.size, T.sizeL]
    split <;> omega
  | .mk k n [] => by simp [cpF]
  | .mk k n [a] => by simp [cpF]
  | .mk k n (a :: b :: c :: l) => by simp [cpF]
theorem validB_size {t : T} (h : validB t = true) : t.size ≤ 400 := by
  unfold validB at h
  rw [Bool.and_eq_true, decide_eq_true_eq] at h
  exact h.2
def countPi (t : T) : Int := if validB t then (cpF t : Int) else 0
end Go.Proofs.Ytbkpfjabcohnpaa
