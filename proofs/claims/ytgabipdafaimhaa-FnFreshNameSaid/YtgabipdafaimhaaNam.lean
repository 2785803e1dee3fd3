/- Names: what the functions of names answer. No program in sight. -/
import Derived.Test.YtgabipdafaimhaaTree
set_option linter.unusedVariables false
set_option linter.unusedSimpArgs false
namespace Go.Proofs.Ytgabipdafaimhaa
open Go Go.Dk
def letterB (c : UInt8) : Bool := decide (97 ≤ (c.toNat : Int)) && decide ((c.toNat : Int) ≤ 122)
theorem idxB_neg (s : ByteArray) (c : UInt8) : idxB s c < 0 ↔ c ∉ s.data.toList := by
  unfold idxB
  cases h : s.data.toList.findIdx? (· == c) with
  | none =>
    rw [List.findIdx?_eq_none_iff] at h
    simp only [Int.reduceNeg, Int.neg_neg_iff_pos, Int.zero_lt_one, true_iff]
    intro hc
    simpa using h c hc
  | some k =>
    rw [List.findIdx?_eq_some_iff_getElem] at h
    obtain ⟨hk, hp, _⟩ := h
    simp only [Int.not_lt.2 (Int.natCast_nonneg k), false_iff, Decidable.not_not]
    have : s.data.toList[k] = c := by simpa using hp
    rw [← this]; exact List.getElem_mem hk
theorem extract_take (s : ByteArray) (i : Nat) (h : i ≤ s.size) : (s.extract 0 i).data.toList = s.data.toList.take i := by
  simp
def nvAt (s : ByteArray) (i : Nat) : Bool := letterB (byteAt s i) && !(s.data.toList.take i).contains (byteAt s i)
def nvB (s : ByteArray) : Bool := (List.range s.size).all (nvAt s) && decide (s.size ≤ 20)
theorem nvB_false {s : ByteArray} {i : Nat} (hi : i < s.size) (h : nvAt s i = false) : nvB s = false := by
  unfold nvB
  rw [Bool.and_eq_false_iff]; left
  rw [List.all_eq_false]
  exact ⟨i, by simpa using hi, by simp [h]⟩
theorem nvB_all {s : ByteArray} (h : ∀ j, j < s.size → nvAt s j = true) : nvB s = decide (s.size ≤ 20) := by
  unfold nvB
  rw [List.all_eq_true.2 (fun x hx => h x (by simpa using hx)), Bool.true_and]
/-- The index, from the end, of the last of the first k bytes that is c; or -1. -/
def findFrom (s : ByteArray) (c : UInt8) : Nat → Int
  | 0 => -1
  | k + 1 => if byteAt s k = c then (s.size : Int) - 1 - k else findFrom s c k
def findB (s : ByteArray) (c : UInt8) : Int := findFrom s c s.size
theorem findFrom_neg (s : ByteArray) (c : UInt8) : ∀ k, k ≤ s.size → (findFrom s c k < 0 ↔ ∀ j, j < k → byteAt s j ≠ c)
  | 0, _ => by simp [findFrom]
  | k + 1, hk => by
    unfold findFrom
    split
    · rename_i h
      constructor
      · intro h1; omega
      · intro h1; exact absurd h (h1 k (by omega))
    · rename_i h
      rw [findFrom_neg s c k (by omega)]
      constructor
      · intro h1 j hj
        rcases Nat.lt_succ_iff_lt_or_eq.1 hj with hj | rfl
        · exact h1 j hj
        · exact h
      · intro h1 j hj; exact h1 j (by omega)
theorem mem_bytes (s : ByteArray) (c : UInt8) : c ∈ s.data.toList ↔ ∃ j, j < s.size ∧ byteAt s j = c := by
  rw [List.mem_iff_getElem]
  constructor
  · rintro ⟨j, hj, h⟩
    refine ⟨j, by simpa using hj, ?_⟩
    unfold byteAt; rw [List.getElem?_eq_getElem hj]; exact h
  · rintro ⟨j, hj, h⟩
    have hj' : j < s.data.toList.length := by simpa using hj
    refine ⟨j, hj', ?_⟩
    unfold byteAt at h; rw [List.getElem?_eq_getElem hj'] at h; exact h
theorem findB_neg (s : ByteArray) (c : UInt8) : findB s c < 0 ↔ c ∉ s.data.toList := by
  unfold findB
  rw [findFrom_neg s c s.size (Nat.le_refl _), mem_bytes]
  constructor
  · rintro h ⟨j, hj, e⟩; exact h j hj e
  · intro h j hj e; exact h ⟨j, hj, e⟩
theorem byte_eq {a b : UInt8} : ((a.toNat : Int) = (b.toNat : Int)) ↔ a = b := by
  rw [Int.natCast_inj]
  exact ⟨fun h => UInt8.toNat_inj.1 h, fun h => by rw [h]⟩
/-- The first letter from k on that is not in s, or z. -/
def freshFrom (s : ByteArray) : Nat → Nat → UInt8
  | 0, _ => 122
  | f + 1, k => if (UInt8.ofNat k) ∉ s.data.toList then UInt8.ofNat k else freshFrom s f (k + 1)
def freshB (s : ByteArray) : UInt8 := freshFrom s 25 97
def freshSFrom (s : ByteArray) : Nat → Nat → UInt8
  | 0, _ => 0
  | f + 1, k => if (UInt8.ofNat k) ∉ s.data.toList then UInt8.ofNat k else freshSFrom s f (k + 1)
theorem len_le {α : Type} [DecidableEq α] : ∀ (l m : List α), l.Nodup → (∀ x ∈ l, x ∈ m) → l.length ≤ m.length
  | [], _, _, _ => by simp
  | a :: l, m, hn, hs => by
    have hm := hs a (List.mem_cons_self ..)
    simp only [List.nodup_cons] at hn
    have := len_le l (m.erase a) hn.2 (fun x hx => (List.mem_erase_of_ne (fun e => hn.1 (by rw [← e]; exact hx))).2 (hs x (List.mem_cons_of_mem _ hx)))
    rw [List.length_erase_of_mem hm] at this
    have := List.length_pos_of_mem hm
    simp only [List.length_cons]; omega
theorem fresh_eq_from (s : ByteArray) : ∀ g k, k + g = 122 → (∃ j, k ≤ j ∧ j ≤ 122 ∧ (UInt8.ofNat j) ∉ s.data.toList) → freshSFrom s (g + 1) k = freshFrom s g k
  | 0, k, hk, ⟨j, h1, h2, h3⟩ => by
    have : j = 122 := by omega
    subst this
    have : k = 122 := by omega
    subst this
    rw [freshSFrom, if_pos h3, freshFrom]; rfl
  | g + 1, k, hk, ⟨j, h1, h2, h3⟩ => by
    rw [freshSFrom, freshFrom]
    split
    · rfl
    · rename_i h
      refine fresh_eq_from s g (k + 1) (by omega) ⟨j, ?_, h2, h3⟩
      rcases Nat.eq_or_lt_of_le h1 with rfl | h1
      · exact absurd h3 h
      · omega
theorem fresh_eq (s : ByteArray) (h : s.size ≤ 20) : freshSFrom s 26 97 = freshB s := by
  refine fresh_eq_from s 25 97 rfl ?_
  refine Classical.byContradiction fun hn => ?_
  have hall : ∀ x ∈ (List.range' 97 26).map UInt8.ofNat, x ∈ s.data.toList := by
    intro x hx
    obtain ⟨j, hj, rfl⟩ := List.mem_map.1 hx
    rw [List.mem_range'_1] at hj
    exact Classical.byContradiction fun hm => hn ⟨j, by omega, by omega, hm⟩
  have := len_le _ _ (by decide) hall
  simp at this
  omega
theorem nvB_size {s : ByteArray} (h : nvB s = true) : s.size ≤ 20 := by
  unfold nvB at h
  simp only [Bool.and_eq_true, decide_eq_true_eq] at h
  exact h.2
end Go.Proofs.Ytgabipdafaimhaa
