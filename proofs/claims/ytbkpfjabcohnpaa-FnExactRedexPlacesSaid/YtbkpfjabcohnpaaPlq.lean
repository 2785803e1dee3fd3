/- The places of nodes. No program in sight. -/
import Derived.Test.YtbkpfjabcohnpaaRed
set_option linter.unusedVariables false
set_option linter.unusedSimpArgs false
namespace Go.Proofs.Ytbkpfjabcohnpaa
open Go Go.Dk
mutual
def plT (f : T → Bool) : T → List Int → List (List Int)
  | .mk k n ts, p => (if f (.mk k n ts) = true then [p] else []) ++ plL f 0 ts p
def plL (f : T → Bool) : Nat → List T → List Int → List (List Int)
  | _, [], _ => []
  | i, t :: ts, p => plT f t (p ++ [(i : Int)]) ++ plL f (i + 1) ts p
end
theorem plT_eq (f : T → Bool) (t : T) (p : List Int) : plT f t p = (if f t = true then [p] else []) ++ plL f 0 t.kids p := by cases t; simp only [plT]; rfl
theorem plL_len (f : T → Bool) (p : List Int) : ∀ (ts : List T) (i : Nat), (∀ t ∈ ts, ∀ p, (plT f t p).length ≤ t.size) → (plL f i ts p).length ≤ T.sizeL ts
  | [], i, h => by simp [plL]
  | t :: ts, i, h => by
    have h1 := h t (by simp) (p ++ [(i : Int)])
    have h2 := plL_len f p ts (i + 1) (fun u hu => h u (by simp [hu]))
    simp only [plL, List.length_append, T.sizeL]; omega
theorem plT_len (f : T → Bool) (t : T) : ∀ p, (plT f t p).length ≤ t.size := by
  induction t using T.ind with | h t ih =>
  intro p
  have := plL_len f p t.kids 0 ih
  rw [plT_eq, List.length_append, T.size_eq]
  split <;> simp <;> omega
/-- All numbers of a row of rows. -/
def sumL (l : List (List Int)) : Nat := (l.map List.length).sum
theorem sumL_append (l m : List (List Int)) : sumL (l ++ m) = sumL l + sumL m := by simp [sumL]
theorem plL_mem (f : T → Bool) (D : Nat) (p : List Int) : ∀ (ts : List T) (i : Nat), (∀ t ∈ ts, ∀ p, ∀ q ∈ plT f t p, q.length ≤ p.length + t.size) → ∀ q ∈ plL f i ts p, q.length ≤ p.length + 1 + T.sizeL ts
  | [], i, h, q, hq => by simp [plL] at hq
  | t :: ts, i, h, q, hq => by
    simp only [plL, List.mem_append] at hq
    rcases hq with hq | hq
    · have := h t (by simp) _ q hq
      simp only [List.length_append, List.length_cons, List.length_nil] at this
      simp only [T.sizeL]; omega
    · have := plL_mem f D p ts (i + 1) (fun u hu => h u (by simp [hu])) q hq
      simp only [T.sizeL]; omega
theorem plT_mem (f : T → Bool) (t : T) : ∀ p, ∀ q ∈ plT f t p, q.length ≤ p.length + t.size := by
  induction t using T.ind with | h t ih =>
  intro p q hq
  rw [plT_eq, List.mem_append] at hq
  have hs := T.size_eq t
  rcases hq with hq | hq
  · split at hq
    · rw [List.mem_singleton.1 hq]; omega
    · cases hq
  · have := plL_mem f 0 p t.kids 0 ih q hq; omega
theorem le_sumL {q : List Int} : ∀ {l : List (List Int)}, q ∈ l → q.length ≤ sumL l
  | x :: l, h => by
    have e : sumL (x :: l) = x.length + sumL l := by simp [sumL]
    rcases List.mem_cons.1 h with rfl | h
    · omega
    · have := le_sumL h; omega
theorem sumL_le (D : Nat) : ∀ l : List (List Int), (∀ q ∈ l, q.length ≤ D) → sumL l ≤ l.length * D
  | [], _ => by simp [sumL]
  | q :: l, h => by
    have h1 := h q (by simp)
    have h2 := sumL_le D l (fun x hx => h x (by simp [hx]))
    have : sumL (q :: l) = q.length + sumL l := by simp [sumL]
    rw [this, List.length_cons, Nat.add_mul]; omega
/-- What PlacesOf (false) and RedexPlaces (true) answer. -/
def askT (r : Bool) (t : T) : Bool := !r || !decide (redexT t = 0)
def pqR (r : Bool) (t : T) : List (List Int) := if validB t = true then plT (askT r) t [] else []
theorem pqR_len (r : Bool) (t : T) : (pqR r t).length ≤ 400 ∧ sumL (pqR r t) ≤ 160000 ∧ ∀ q ∈ pqR r t, q.length ≤ 400 := by
  unfold pqR
  split
  · rename_i h
    have h0 := validB_size h
    have h1 := plT_len (askT r) t []
    have hm : ∀ q ∈ plT (askT r) t [], q.length ≤ 400 := fun q hq => by have := plT_mem (askT r) t [] q hq; simp only [List.length_nil] at this; omega
    have h2 := sumL_le 400 (plT (askT r) t []) hm
    have h3 : (plT (askT r) t []).length * 400 ≤ 400 * 400 := Nat.mul_le_mul_right 400 (by omega)
    exact ⟨by omega, by omega, hm⟩
  · exact ⟨by simp, by simp [sumL], by simp⟩
/-! Marks. -/
def upF (k : Int) : Nat → List Int
  | 0 => []
  | n + 1 => k :: upF (k + 1) n
theorem upF_len : ∀ (n : Nat) (k : Int), (upF k n).length = n
  | 0, _ => rfl
  | n + 1, k => by simp [upF, upF_len n]
theorem upF_get : ∀ (n : Nat) (k : Int) (i : Nat), i < n → (upF k n)[i]? = some (k + i)
  | n + 1, k, 0, _ => by simp [upF]
  | n + 1, k, i + 1, h => by rw [upF, List.getElem?_cons_succ, upF_get n (k + 1) i (by omega)]; congr 1; omega
def mkI : List (List Int) → Int → Prop
  | [], _ => True
  | l :: ls, k => l = upF k l.length ∧ mkI ls (k + l.length)
end Go.Proofs.Ytbkpfjabcohnpaa
