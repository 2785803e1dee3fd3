/- Shifts and substitutions in the abstract run. -/
import Derived.Test.YtbkpfjabcohnpaaEvT
set_option linter.unusedVariables false
set_option linter.unusedSimpArgs false
namespace Go.Proofs.Ytbkpfjabcohnpaa
open Go Go.Ab Go.Dk
theorem take_sh {a k : Int} {ts : List T} {c : Int} {i : Nat} (h : i < ts.length) : (shL a k 0 ts c).take i ++ [shT a ts[i] (c + under k i)] = (shL a k 0 ts c).take (i + 1) := by
  rw [← take_snoc (l := shL a k 0 ts c) (i := i) (by rw [sh_len]; exact h), sh_elem a k ts 0 i c h, Nat.zero_add]
theorem take_sb {u : T} {k : Int} {ts : List T} {x d : Int} {i : Nat} (h : i < ts.length) : (sbL u k 0 ts x d).take i ++ [sbT u ts[i] (x + under k i) (d + under k i)] = (sbL u k 0 ts x d).take (i + 1) := by
  rw [← take_snoc (l := sbL u k 0 ts x d) (i := i) (by rw [sb_len]; exact h), sb_elem u k ts 0 i x d h, Nat.zero_add]
/-! The program's. -/
/-- What a shift hands back. -/
def shR (a : Int) (t : T) (c : Int) : T := if validB (shT a t c) then shT a t c else .mk 0 0 []
mutual
/-- A substitution with what the program puts where a shift fails. -/
def sbX (u : T) : T → Int → Int → T
  | .mk k n ts, x, d => if k = 1 then (if n = x then shR d u 0 else .mk 1 (if x < n then n - 1 else n) []) else .mk k n (sbXL u k 0 ts x d)
def sbXL (u : T) (k : Int) : Nat → List T → Int → Int → List T
  | _, [], _, _ => []
  | i, t :: ts, x, d => sbX u t (x + under k i) (d + under k i) :: sbXL u k (i + 1) ts x d
end
mutual
theorem sbX_eq (u : T) : ∀ (t : T) (x d : Int), gdB t = true → okB u t x d = true → sbX u t x d = sbT u t x d
  | .mk k n ts, x, d, hg, h => by
    rw [okB] at h
    rw [sbX, sbT]
    obtain ⟨_, _, g2, g3⟩ := gd_out hg
    by_cases hk : k = 1
    · subst hk
      rw [if_pos rfl] at h
      rw [if_pos rfl]
      by_cases hn : n = x
      · rw [if_pos hn] at h
        rw [if_pos hn, if_pos ⟨rfl, hn⟩, shR, if_pos h]
      · have : ts = [] := g2 rfl
        subst this
        simp [hn, sbL]
    · rw [if_neg hk] at h
      rw [if_neg hk, if_neg (fun hh => hk hh.1), if_neg (fun hh => hk hh.1), sbX_eqL u k ts 0 x d g3 h]
theorem sbX_eqL (u : T) (k : Int) : ∀ (ts : List T) (i : Nat) (x d : Int), (∀ t ∈ ts, gdB t = true) → okBL u k i ts x d = true → sbXL u k i ts x d = sbL u k i ts x d
  | [], i, x, d, _, _ => rfl
  | t :: ts, i, x, d, hg, h => by
    rw [okBL, Bool.and_eq_true] at h
    rw [sbXL, sbL, sbX_eq u t _ _ (hg t (List.mem_cons_self ..)) h.1, sbX_eqL u k ts (i + 1) x d (fun v hv => hg v (List.mem_cons_of_mem _ hv)) h.2]
end
theorem sbX_len (u : T) (k : Int) : ∀ (ts : List T) (i : Nat) (x d : Int), (sbXL u k i ts x d).length = ts.length
  | [], i, x, d => rfl
  | t :: ts, i, x, d => by rw [sbXL, List.length_cons, List.length_cons, sbX_len u k ts]
theorem sbX_elem (u : T) (k : Int) : ∀ (ts : List T) (i j : Nat) (x d : Int) (h : j < ts.length), (sbXL u k i ts x d)[j]'(by rw [sbX_len]; exact h) = sbX u ts[j] (x + under k (i + j)) (d + under k (i + j))
  | t :: ts, i, 0, x, d, h => rfl
  | t :: ts, i, j + 1, x, d, h => by
    have := sbX_elem u k ts (i + 1) j x d (by simpa using h)
    simp only [sbXL, List.getElem_cons_succ]
    rw [this, show i + 1 + j = i + (j + 1) by omega]
theorem take_sbX {u : T} {k : Int} {ts : List T} {x d : Int} {i : Nat} (h : i < ts.length) : (sbXL u k 0 ts x d).take i ++ [sbX u ts[i] (x + under k i) (d + under k i)] = (sbXL u k 0 ts x d).take (i + 1) := by
  rw [← take_snoc (l := sbXL u k 0 ts x d) (i := i) (by rw [sbX_len]; exact h), sbX_elem u k ts 0 i x d h, Nat.zero_add]
/-- What a substitution hands back. -/
def sbR (u t : T) (x : Int) : T := if validB (sbT u t x 0) then sbT u t x 0 else .mk 0 0 []
end Go.Proofs.Ytbkpfjabcohnpaa
