/- Terms: shifts, substitutions, redexes, parallel reduction, confluence. No program in sight. -/
import Derived.Test.YtbkpfjabcohnpaaPur
set_option linter.unusedVariables false
set_option linter.unusedSimpArgs false
namespace Go.Proofs.Ytbkpfjabcohnpaa
open Go Go.Dk
/-- How many binders an operand adds. -/
def under (k : Int) (i : Nat) : Int := if i = 1 ∧ (k = 3 ∨ k = 4 ∨ k = 13) then 1 else 0
theorem under_bd (k : Int) (i : Nat) : 0 ≤ under k i ∧ under k i ≤ 1 := by unfold under; split <;> omega
mutual
def shT (a : Int) : T → Int → T
  | .mk k n ts, c => .mk k (if k = 1 ∧ c ≤ n then n + a else n) (shL a k 0 ts c)
def shL (a k : Int) : Nat → List T → Int → List T
  | _, [], _ => []
  | i, t :: ts, c => shT a t (c + under k i) :: shL a k (i + 1) ts c
end
mutual
def sbT (u : T) : T → Int → Int → T
  | .mk k n ts, x, d => if k = 1 ∧ n = x then shT d u 0 else .mk k (if k = 1 ∧ x < n then n - 1 else n) (sbL u k 0 ts x d)
def sbL (u : T) (k : Int) : Nat → List T → Int → Int → List T
  | _, [], _, _ => []
  | i, t :: ts, x, d => sbT u t (x + under k i) (d + under k i) :: sbL u k (i + 1) ts x d
end
mutual
theorem sh_zero : ∀ (t : T) (c : Int), shT 0 t c = t
  | .mk k n ts, c => by rw [shT, sh_zeroL k ts 0 c]; simp
theorem sh_zeroL (k : Int) : ∀ (ts : List T) (i : Nat) (c : Int), shL 0 k i ts c = ts
  | [], i, c => rfl
  | t :: ts, i, c => by rw [shL, sh_zero t, sh_zeroL k ts]
end
mutual
theorem sh_comm {a b : Int} (ha : 0 ≤ a) (hb : 0 ≤ b) : ∀ (t : T) (c e : Int), c ≤ e → shT a (shT b t c) (e + b) = shT b (shT a t e) c
  | .mk k n ts, c, e, h => by
    simp only [shT]
    rw [sh_commL ha hb k ts 0 c e h]
    congr 1
    by_cases hk : k = 1 <;> simp only [hk, true_and, false_and, if_false]
    repeat' split
    all_goals omega
theorem sh_commL {a b : Int} (ha : 0 ≤ a) (hb : 0 ≤ b) (k : Int) : ∀ (ts : List T) (i : Nat) (c e : Int), c ≤ e → shL a k i (shL b k i ts c) (e + b) = shL b k i (shL a k i ts e) c
  | [], i, c, e, h => rfl
  | t :: ts, i, c, e, h => by
    simp only [shL]
    rw [show e + b + under k i = e + under k i + b by omega, sh_comm ha hb t (c + under k i) (e + under k i) (by omega), sh_commL ha hb k ts (i + 1) c e h]
end
mutual
theorem sh_add {a b : Int} (ha : 0 ≤ a) (hb : 0 ≤ b) : ∀ (t : T) (c e : Int), c ≤ e → e ≤ c + b → shT a (shT b t c) e = shT (a + b) t c
  | .mk k n ts, c, e, h, h2 => by
    simp only [shT]
    rw [sh_addL ha hb k ts 0 c e h h2]
    congr 1
    by_cases hk : k = 1 <;> simp only [hk, true_and, false_and, if_false]
    repeat' split
    all_goals omega
theorem sh_addL {a b : Int} (ha : 0 ≤ a) (hb : 0 ≤ b) (k : Int) : ∀ (ts : List T) (i : Nat) (c e : Int), c ≤ e → e ≤ c + b → shL a k i (shL b k i ts c) e = shL (a + b) k i ts c
  | [], i, c, e, h, h2 => rfl
  | t :: ts, i, c, e, h, h2 => by
    simp only [shL]
    rw [sh_add ha hb t (c + under k i) (e + under k i) (by omega) (by omega), sh_addL ha hb k ts (i + 1) c e h h2]
end
mutual
/-- A substitution for a variable that was made room for by a shift. -/
theorem sb_sh (u : T) {b : Int} (hb : 0 ≤ b) : ∀ (t : T) (c x d : Int), c ≤ x → x ≤ c + b → sbT u (shT (b + 1) t c) x d = shT b t c
  | .mk k n ts, c, x, d, h, h2 => by
    simp only [shT, sbT]
    rw [sb_shL u hb k ts 0 c x d h h2]
    by_cases hk : k = 1 <;> simp only [hk, true_and, false_and, if_false]
    by_cases hn : c ≤ n
    · rw [if_pos hn, if_neg (by omega), if_pos (by omega), if_pos hn]; congr 1; omega
    · rw [if_neg hn, if_neg (by omega), if_neg (by omega), if_neg hn]
theorem sb_shL (u : T) {b : Int} (hb : 0 ≤ b) (k : Int) : ∀ (ts : List T) (i : Nat) (c x d : Int), c ≤ x → x ≤ c + b → sbL u k i (shL (b + 1) k i ts c) x d = shL b k i ts c
  | [], i, c, x, d, h, h2 => rfl
  | t :: ts, i, c, x, d, h, h2 => by
    simp only [shL, sbL]
    rw [sb_sh u hb t (c + under k i) (x + under k i) (d + under k i) (by omega) (by omega), sb_shL u hb k ts (i + 1) c x d h h2]
end
mutual
/-- A shift of variables outside, after a substitution. -/
theorem sh_sb (u : T) {a : Int} (ha : 0 ≤ a) : ∀ (t : T) (c x d : Int), 0 ≤ d → d ≤ x → x ≤ c → shT a (sbT u t x d) c = sbT (shT a u (c - d)) (shT a t (c + 1)) x d
  | .mk k n ts, c, x, d, h0, h1, h2 => by
    simp only [shT, sbT]
    by_cases hk : k = 1
    · subst hk
      simp only [true_and]
      by_cases hn : n = x
      · subst hn
        rw [if_pos rfl, if_neg (show ¬ c + 1 ≤ n by omega), if_pos rfl]
        have := sh_comm ha h0 u 0 (c - d) (by omega)
        rw [show c - d + d = c by omega] at this
        exact this
      · rw [if_neg hn, shT]
        by_cases hn2 : x < n
        · by_cases hn3 : c + 1 ≤ n
          · rw [if_pos hn3, if_neg (show ¬ n + a = x by omega), if_pos hn2, if_pos (show x < n + a by omega)]
            simp only [true_and, if_pos (show c ≤ n - 1 by omega), sh_sbL u ha 1 ts 0 c x d h0 h1 h2]
            congr 1; omega
          · rw [if_neg hn3, if_neg hn, if_pos hn2]
            simp only [true_and, if_neg (show ¬ c ≤ n - 1 by omega), sh_sbL u ha 1 ts 0 c x d h0 h1 h2]
        · rw [if_neg hn2, if_neg (show ¬ c + 1 ≤ n by omega), if_neg hn, if_neg hn2]
          simp only [true_and, if_neg (show ¬ c ≤ n by omega), sh_sbL u ha 1 ts 0 c x d h0 h1 h2]
    · simp only [hk, false_and, if_false, shT]
      rw [sh_sbL u ha k ts 0 c x d h0 h1 h2]
theorem sh_sbL (u : T) {a : Int} (ha : 0 ≤ a) (k : Int) : ∀ (ts : List T) (i : Nat) (c x d : Int), 0 ≤ d → d ≤ x → x ≤ c → shL a k i (sbL u k i ts x d) c = sbL (shT a u (c - d)) k i (shL a k i ts (c + 1)) x d
  | [], i, c, x, d, h0, h1, h2 => rfl
  | t :: ts, i, c, x, d, h0, h1, h2 => by
    have hu := under_bd k i
    simp only [shL, sbL]
    rw [sh_sb u ha t (c + under k i) (x + under k i) (d + under k i) (by omega) (by omega) (by omega), sh_sbL u ha k ts (i + 1) c x d h0 h1 h2,
      show c + under k i - (d + under k i) = c - d by omega, show c + 1 + under k i = c + under k i + 1 by omega]
end
mutual
/-- A shift of variables inside, after a substitution. -/
theorem sb_shift (u : T) {a : Int} (ha : 0 ≤ a) : ∀ (t : T) (c x d : Int), 0 ≤ c → c ≤ d → d ≤ x → shT a (sbT u t x d) c = sbT u (shT a t c) (x + a) (d + a)
  | .mk k n ts, c, x, d, h0, h1, h2 => by
    simp only [shT, sbT]
    by_cases hk : k = 1
    · subst hk
      simp only [true_and]
      by_cases hn : n = x
      · subst hn
        rw [if_pos rfl, if_pos (show c ≤ n by omega), if_pos rfl]
        rw [sh_add ha (by omega) u 0 c h0 (by omega), Int.add_comm]
      · rw [if_neg hn, shT]
        by_cases hn2 : c ≤ n
        · rw [if_pos hn2, if_neg (show ¬ n + a = x + a by omega)]
          by_cases hn3 : x < n
          · rw [if_pos hn3, if_pos (show x + a < n + a by omega)]
            simp only [true_and, if_pos (show c ≤ n - 1 by omega), sb_shiftL u ha 1 ts 0 c x d h0 h1 h2]
            congr 1; omega
          · rw [if_neg hn3, if_neg (show ¬ x + a < n + a by omega)]
            simp only [true_and, if_pos hn2, sb_shiftL u ha 1 ts 0 c x d h0 h1 h2]
        · rw [if_neg (show ¬ x < n by omega), if_neg hn2, if_neg (show ¬ n = x + a by omega), if_neg (show ¬ x + a < n by omega)]
          simp only [true_and, if_neg hn2, sb_shiftL u ha 1 ts 0 c x d h0 h1 h2]
    · simp only [hk, false_and, if_false, shT]
      rw [sb_shiftL u ha k ts 0 c x d h0 h1 h2]
theorem sb_shiftL (u : T) {a : Int} (ha : 0 ≤ a) (k : Int) : ∀ (ts : List T) (i : Nat) (c x d : Int), 0 ≤ c → c ≤ d → d ≤ x → shL a k i (sbL u k i ts x d) c = sbL u k i (shL a k i ts c) (x + a) (d + a)
  | [], i, c, x, d, h0, h1, h2 => rfl
  | t :: ts, i, c, x, d, h0, h1, h2 => by
    have hu := under_bd k i
    simp only [shL, sbL]
    rw [sb_shift u ha t (c + under k i) (x + under k i) (d + under k i) (by omega) (by omega) (by omega), sb_shiftL u ha k ts (i + 1) c x d h0 h1 h2,
      show x + under k i + a = x + a + under k i by omega, show d + under k i + a = d + a + under k i by omega]
end
mutual
/-- Substitutions commute. -/
theorem sb_sb (u v : T) : ∀ (t : T) (x d y e : Int), 0 ≤ d → d ≤ x → x ≤ e → e ≤ y → sbT v (sbT u t x d) y e = sbT (sbT v u (y - d) (e - d)) (sbT v t (y + 1) (e + 1)) x d
  | .mk k n ts, x, d, y, e, h0, h1, h2, h3 => by
    by_cases hk : k = 1
    · subst hk
      by_cases hn : n = x
      · subst hn
        rw [sbT, if_pos ⟨rfl, rfl⟩, sbT, if_neg (show ¬ ((1 : Int) = 1 ∧ n = y + 1) by omega), if_neg (show ¬ ((1 : Int) = 1 ∧ y + 1 < n) by omega), sbT, if_pos ⟨rfl, rfl⟩]
        have := sb_shift v h0 u 0 (y - d) (e - d) (by omega) (by omega) (by omega)
        rw [show y - d + d = y by omega, show e - d + d = e by omega] at this
        exact this.symm
      · rw [sbT, if_neg (show ¬ ((1 : Int) = 1 ∧ n = x) by omega)]
        by_cases hn2 : n = y + 1
        · subst hn2
          rw [if_pos (show (1 : Int) = 1 ∧ x < y + 1 by omega), sbT, if_pos (show (1 : Int) = 1 ∧ y + 1 - 1 = y by omega), sbT, if_pos ⟨rfl, rfl⟩]
          exact (sb_sh _ (by omega) v 0 x d (by omega) (by omega)).symm
        · have e2 : sbT v (.mk 1 n ts) (y + 1) (e + 1) = .mk 1 (if (1 : Int) = 1 ∧ y + 1 < n then n - 1 else n) (sbL v 1 0 ts (y + 1) (e + 1)) := by
            rw [sbT, if_neg (show ¬ ((1 : Int) = 1 ∧ n = y + 1) by omega)]
          rw [e2]
          by_cases hn3 : x < n
          · rw [if_pos (show (1 : Int) = 1 ∧ x < n by omega), sbT, if_neg (show ¬ ((1 : Int) = 1 ∧ n - 1 = y) by omega), sbT]
            by_cases hn4 : y + 1 < n
            · rw [if_pos (show (1 : Int) = 1 ∧ y < n - 1 by omega), if_pos (show (1 : Int) = 1 ∧ y + 1 < n by omega), if_neg (show ¬ ((1 : Int) = 1 ∧ n - 1 = x) by omega), if_pos (show (1 : Int) = 1 ∧ x < n - 1 by omega), sb_sbL u v 1 ts 0 x d y e h0 h1 h2 h3]
            · rw [if_neg (show ¬ ((1 : Int) = 1 ∧ y < n - 1) by omega), if_neg (show ¬ ((1 : Int) = 1 ∧ y + 1 < n) by omega), if_neg (show ¬ ((1 : Int) = 1 ∧ n = x) by omega), if_pos (show (1 : Int) = 1 ∧ x < n by omega), sb_sbL u v 1 ts 0 x d y e h0 h1 h2 h3]
          · rw [if_neg (show ¬ ((1 : Int) = 1 ∧ x < n) by omega), sbT, if_neg (show ¬ ((1 : Int) = 1 ∧ n = y) by omega), if_neg (show ¬ ((1 : Int) = 1 ∧ y < n) by omega), if_neg (show ¬ ((1 : Int) = 1 ∧ y + 1 < n) by omega), sbT, if_neg (show ¬ ((1 : Int) = 1 ∧ n = x) by omega), if_neg (show ¬ ((1 : Int) = 1 ∧ x < n) by omega), sb_sbL u v 1 ts 0 x d y e h0 h1 h2 h3]
    · simp only [sbT, hk, false_and, if_false]
      rw [sb_sbL u v k ts 0 x d y e h0 h1 h2 h3]
theorem sb_sbL (u v : T) (k : Int) : ∀ (ts : List T) (i : Nat) (x d y e : Int), 0 ≤ d → d ≤ x → x ≤ e → e ≤ y → sbL v k i (sbL u k i ts x d) y e = sbL (sbT v u (y - d) (e - d)) k i (sbL v k i ts (y + 1) (e + 1)) x d
  | [], i, x, d, y, e, h0, h1, h2, h3 => rfl
  | t :: ts, i, x, d, y, e, h0, h1, h2, h3 => by
    have hu := under_bd k i
    simp only [sbL]
    rw [sb_sb u v t (x + under k i) (d + under k i) (y + under k i) (e + under k i) (by omega) (by omega) (by omega) (by omega), sb_sbL u v k ts (i + 1) x d y e h0 h1 h2 h3,
      show y + under k i - (d + under k i) = y - d by omega, show e + under k i - (d + under k i) = e - d by omega, show y + 1 + under k i = y + under k i + 1 by omega, show e + 1 + under k i = e + under k i + 1 by omega]
end
/-! Operands. -/
def junk : T := .mk 0 0 []
def kd (t : T) (i : Nat) : T := t.kids.getD i junk
theorem sh_get (a k : Int) : ∀ (ts : List T) (i j : Nat) (c : Int), (shL a k i ts c).getD j junk = shT a (ts.getD j junk) (c + under k (i + j))
  | [], i, j, c => by simp [shL, junk, shT]
  | t :: ts, i, 0, c => by simp [shL]
  | t :: ts, i, j + 1, c => by
    simp only [shL, List.getD_cons_succ]
    rw [sh_get a k ts (i + 1) j c, show i + 1 + j = i + (j + 1) by omega]
theorem sb_get (u : T) (k : Int) : ∀ (ts : List T) (i j : Nat) (x d : Int), (sbL u k i ts x d).getD j junk = sbT u (ts.getD j junk) (x + under k (i + j)) (d + under k (i + j))
  | [], i, j, x, d => by simp [sbL, junk, sbT]
  | t :: ts, i, 0, x, d => by simp [sbL]
  | t :: ts, i, j + 1, x, d => by
    simp only [sbL, List.getD_cons_succ]
    rw [sb_get u k ts (i + 1) j x d, show i + 1 + j = i + (j + 1) by omega]
theorem sh_k (a : Int) (t : T) (c : Int) : (shT a t c).k = t.k := by cases t; rfl
theorem kd_sh (a : Int) (t : T) (c : Int) (j : Nat) : kd (shT a t c) j = shT a (kd t j) (c + under t.k j) := by
  cases t with | mk k n ts =>
  unfold kd
  rw [shT]
  show (shL a k 0 ts c).getD j junk = _
  rw [sh_get, Nat.zero_add]; rfl
theorem sb_k {u t : T} {x d : Int} (h : t.k ≠ 1) : (sbT u t x d).k = t.k := by
  cases t with | mk k n ts =>
  rw [sbT, if_neg (fun hh => h hh.1)]; rfl
theorem kd_sb {u t : T} {x d : Int} (h : t.k ≠ 1) (j : Nat) : kd (sbT u t x d) j = sbT u (kd t j) (x + under t.k j) (d + under t.k j) := by
  cases t with | mk k n ts =>
  have h' : k ≠ 1 := h
  unfold kd
  rw [sbT, if_neg (fun hh => h' hh.1)]
  show (sbL u k 0 ts x d).getD j junk = _
  rw [sb_get, Nat.zero_add]; rfl
/-! Redexes. -/
def redexT (t : T) : Int :=
  if t.k = 5 then (if (kd t 0).k = 4 then 1 else 0)
  else if t.k = 9 then (if (kd t 3).k = 7 then 2 else if (kd t 3).k = 8 then 3 else 0)
  else if t.k = 12 then (if (kd t 1).k = 11 then 4 else 0)
  else if t.k = 15 then (if (kd t 0).k = 14 then 5 else 0)
  else if t.k = 16 then (if (kd t 0).k = 14 then 6 else 0) else 0
def contractT (t : T) : T :=
  if t.k = 5 then sbT (kd t 1) (kd (kd t 0) 1) 0 0
  else if t.k = 9 then (if (kd t 3).k = 7 then kd t 1 else .mk 5 0 [.mk 5 0 [kd t 2, kd (kd t 3) 0], .mk 9 0 [kd t 0, kd t 1, kd t 2, kd (kd t 3) 0]])
  else if t.k = 12 then kd t 2
  else if t.k = 15 then kd (kd t 0) 1
  else kd (kd t 0) 2
/-- The forms of redexes. -/
inductive Rx : T → Prop
  | app {t} (h : t.k = 5) (h' : (kd t 0).k = 4) : Rx t
  | zero {t} (h : t.k = 9) (h' : (kd t 3).k = 7) : Rx t
  | succ {t} (h : t.k = 9) (h' : (kd t 3).k = 8) : Rx t
  | move {t} (h : t.k = 12) (h' : (kd t 1).k = 11) : Rx t
  | fst {t} (h : t.k = 15) (h' : (kd t 0).k = 14) : Rx t
  | snd {t} (h : t.k = 16) (h' : (kd t 0).k = 14) : Rx t
theorem rx_iff (t : T) : redexT t ≠ 0 ↔ Rx t := by
  constructor
  · intro h
    unfold redexT at h
    split at h
    · split at h
      · exact .app ‹_› ‹_›
      · exact absurd rfl h
    · split at h
      · split at h
        · exact .zero ‹_› ‹_›
        · split at h
          · exact .succ ‹_› ‹_›
          · exact absurd rfl h
      · split at h
        · split at h
          · exact .move ‹_› ‹_›
          · exact absurd rfl h
        · split at h
          · split at h
            · exact .fst ‹_› ‹_›
            · exact absurd rfl h
          · split at h
            · split at h
              · exact .snd ‹_› ‹_›
              · exact absurd rfl h
            · exact absurd rfl h
  · intro h
    cases h with
    | app h h' => simp [redexT, h, h']
    | zero h h' => simp [redexT, h, h']
    | succ h h' => simp [redexT, h, h']
    | move h h' => simp [redexT, h, h']
    | fst h h' => simp [redexT, h, h']
    | snd h h' => simp [redexT, h, h']
theorem Rx.k {t : T} (h : Rx t) : t.k = 5 ∨ t.k = 9 ∨ t.k = 12 ∨ t.k = 15 ∨ t.k = 16 := by cases h <;> omega
theorem Rx.sh {t : T} (h : Rx t) (a c : Int) : Rx (shT a t c) := by
  cases h with
  | app h h' => exact .app (by rw [sh_k, h]) (by rw [kd_sh, sh_k, h'])
  | zero h h' => exact .zero (by rw [sh_k, h]) (by rw [kd_sh, sh_k, h'])
  | succ h h' => exact .succ (by rw [sh_k, h]) (by rw [kd_sh, sh_k, h'])
  | move h h' => exact .move (by rw [sh_k, h]) (by rw [kd_sh, sh_k, h'])
  | fst h h' => exact .fst (by rw [sh_k, h]) (by rw [kd_sh, sh_k, h'])
  | snd h h' => exact .snd (by rw [sh_k, h]) (by rw [kd_sh, sh_k, h'])
theorem Rx.sb {t : T} (h : Rx t) (u : T) (x d : Int) : Rx (sbT u t x d) := by
  cases h with
  | app h h' => exact .app (by rw [sb_k (by omega), h]) (by rw [kd_sb (by omega), sb_k (by omega), h'])
  | zero h h' => exact .zero (by rw [sb_k (by omega), h]) (by rw [kd_sb (by omega), sb_k (by omega), h'])
  | succ h h' => exact .succ (by rw [sb_k (by omega), h]) (by rw [kd_sb (by omega), sb_k (by omega), h'])
  | move h h' => exact .move (by rw [sb_k (by omega), h]) (by rw [kd_sb (by omega), sb_k (by omega), h'])
  | fst h h' => exact .fst (by rw [sb_k (by omega), h]) (by rw [kd_sb (by omega), sb_k (by omega), h'])
  | snd h h' => exact .snd (by rw [sb_k (by omega), h]) (by rw [kd_sb (by omega), sb_k (by omega), h'])
theorem con_app {t : T} (h : t.k = 5) : contractT t = sbT (kd t 1) (kd (kd t 0) 1) 0 0 := by simp [contractT, h]
theorem con_zero {t : T} (h : t.k = 9) (h' : (kd t 3).k = 7) : contractT t = kd t 1 := by simp [contractT, h, h']
theorem con_succ {t : T} (h : t.k = 9) (h' : (kd t 3).k = 8) : contractT t = .mk 5 0 [.mk 5 0 [kd t 2, kd (kd t 3) 0], .mk 9 0 [kd t 0, kd t 1, kd t 2, kd (kd t 3) 0]] := by simp [contractT, h, h']
theorem con_move {t : T} (h : t.k = 12) : contractT t = kd t 2 := by simp [contractT, h]
theorem con_fst {t : T} (h : t.k = 15) : contractT t = kd (kd t 0) 1 := by simp [contractT, h]
theorem con_snd {t : T} (h : t.k = 16) : contractT t = kd (kd t 0) 2 := by simp [contractT, h]
theorem und0 {k : Int} {i : Nat} (h : k ≠ 3 ∧ k ≠ 4 ∧ k ≠ 13) : under k i = 0 := by unfold under; rw [if_neg (by omega)]
theorem con_sh {t : T} (h : Rx t) {a : Int} (ha : 0 ≤ a) {c : Int} (hc : 0 ≤ c) : shT a (contractT t) c = contractT (shT a t c) := by
  cases h with
  | app h h' =>
    rw [con_app h, con_app (by rw [sh_k, h]), sh_sb _ ha _ c 0 0 (by omega) (by omega) hc]
    simp only [kd_sh, h, h', und0 (show (5 : Int) ≠ 3 ∧ (5 : Int) ≠ 4 ∧ (5 : Int) ≠ 13 by decide), show under 4 1 = 1 from rfl, Int.add_zero, Int.sub_zero]
  | zero h h' => rw [con_zero h h', con_zero (by rw [sh_k, h]) (by rw [kd_sh, sh_k, h']), kd_sh, und0 (by omega), Int.add_zero]
  | succ h h' =>
    rw [con_succ h h', con_succ (by rw [sh_k, h]) (by rw [kd_sh, sh_k, h'])]
    simp only [kd_sh, h, h', shT, shL, und0 (show (5 : Int) ≠ 3 ∧ (5 : Int) ≠ 4 ∧ (5 : Int) ≠ 13 by decide), und0 (show (9 : Int) ≠ 3 ∧ (9 : Int) ≠ 4 ∧ (9 : Int) ≠ 13 by decide), und0 (show (8 : Int) ≠ 3 ∧ (8 : Int) ≠ 4 ∧ (8 : Int) ≠ 13 by decide), Int.add_zero]
    simp
  | move h h' => rw [con_move h, con_move (by rw [sh_k, h]), kd_sh, und0 (by omega), Int.add_zero]
  | fst h h' => rw [con_fst h, con_fst (by rw [sh_k, h]), kd_sh, kd_sh, und0 (by omega), und0 (by omega), Int.add_zero, Int.add_zero]
  | snd h h' => rw [con_snd h, con_snd (by rw [sh_k, h]), kd_sh, kd_sh, und0 (by omega), und0 (by omega), Int.add_zero, Int.add_zero]
theorem con_sb {t : T} (h : Rx t) (u : T) {x d : Int} (h0 : 0 ≤ d) (h1 : d ≤ x) : sbT u (contractT t) x d = contractT (sbT u t x d) := by
  cases h with
  | app h h' =>
    rw [con_app h, con_app (by rw [sb_k (by omega), h]), sb_sb _ _ _ 0 0 x d (by omega) (by omega) h0 h1]
    simp only [kd_sb (show t.k ≠ 1 by omega), h, kd_sb (show (kd t 0).k ≠ 1 by omega), h', und0 (show (5 : Int) ≠ 3 ∧ (5 : Int) ≠ 4 ∧ (5 : Int) ≠ 13 by decide), show under 4 1 = 1 from rfl, Int.add_zero, Int.sub_zero]
  | zero h h' => rw [con_zero h h', con_zero (by rw [sb_k (by omega), h]) (by rw [kd_sb (by omega), sb_k (by omega), h']), kd_sb (by omega), und0 (by omega), Int.add_zero, Int.add_zero]
  | succ h h' =>
    rw [con_succ h h', con_succ (by rw [sb_k (by omega), h]) (by rw [kd_sb (by omega), sb_k (by omega), h'])]
    simp only [kd_sb (show t.k ≠ 1 by omega), kd_sb (show (kd t 3).k ≠ 1 by omega), h, h', sbT, sbL, und0 (show (5 : Int) ≠ 3 ∧ (5 : Int) ≠ 4 ∧ (5 : Int) ≠ 13 by decide), und0 (show (9 : Int) ≠ 3 ∧ (9 : Int) ≠ 4 ∧ (9 : Int) ≠ 13 by decide), und0 (show (8 : Int) ≠ 3 ∧ (8 : Int) ≠ 4 ∧ (8 : Int) ≠ 13 by decide), Int.add_zero]
    simp
  | move h h' => rw [con_move h, con_move (by rw [sb_k (by omega), h]), kd_sb (by omega), und0 (by omega), Int.add_zero, Int.add_zero]
  | fst h h' => rw [con_fst h, con_fst (by rw [sb_k (by omega), h]), kd_sb (by omega), kd_sb (by omega), und0 (by omega), und0 (by omega)]; simp only [Int.add_zero]
  | snd h h' => rw [con_snd h, con_snd (by rw [sb_k (by omega), h]), kd_sb (by omega), kd_sb (by omega), und0 (by omega), und0 (by omega)]; simp only [Int.add_zero]
/-! Parallel reduction. -/
mutual
inductive Par : T → T → Prop
  | node {k n ts us} (h : ParL ts us) : Par (.mk k n ts) (.mk k n us)
  | red {k n ts us} (h : ParL ts us) (hr : Rx (.mk k n ts)) : Par (.mk k n ts) (contractT (.mk k n us))
inductive ParL : List T → List T → Prop
  | nil : ParL [] []
  | cons {t u ts us} (h : Par t u) (hs : ParL ts us) : ParL (t :: ts) (u :: us)
end
mutual
theorem Par.refl : ∀ t : T, Par t t
  | .mk k n ts => .node (ParL.refl ts)
theorem ParL.refl : ∀ ts : List T, ParL ts ts
  | [] => .nil
  | t :: ts => .cons (Par.refl t) (ParL.refl ts)
end
theorem ParL.get : ∀ {ts us : List T}, ParL ts us → ∀ j, Par (ts.getD j junk) (us.getD j junk)
  | _, _, .nil, j => by simpa using Par.refl junk
  | _, _, .cons h hs, 0 => by simpa using h
  | _, _, .cons h hs, j + 1 => by simpa using hs.get j
theorem ParL.len : ∀ {ts us : List T}, ParL ts us → ts.length = us.length
  | _, _, .nil => rfl
  | _, _, .cons h hs => by simp [hs.len]
theorem ParL.kd {k n : Int} {ts us : List T} (h : ParL ts us) (j : Nat) : Par (kd (.mk k n ts) j) (kd (.mk k n us) j) := h.get j
/-- What is no redex keeps its kind. -/
theorem Par.head {t u : T} (h : Par t u) (hk : t.k ≠ 5 ∧ t.k ≠ 9 ∧ t.k ≠ 12 ∧ t.k ≠ 15 ∧ t.k ≠ 16) : u.k = t.k ∧ ∀ j, Par (kd t j) (kd u j) := by
  cases h with
  | node h => exact ⟨rfl, h.kd⟩
  | red h hr => have := hr.k; simp only [T.k] at this hk; omega
theorem Rx.par {k n : Int} {ts us : List T} (hp : ParL ts us) (h : Rx (.mk k n ts)) : Rx (.mk k n us) := by
  cases h with
  | app h h' => exact .app h (by rw [((hp.kd (k := k) (n := n) 0).head (by omega)).1, h'])
  | zero h h' => exact .zero h (by rw [((hp.kd (k := k) (n := n) 3).head (by omega)).1, h'])
  | succ h h' => exact .succ h (by rw [((hp.kd (k := k) (n := n) 3).head (by omega)).1, h'])
  | move h h' => exact .move h (by rw [((hp.kd (k := k) (n := n) 1).head (by omega)).1, h'])
  | fst h h' => exact .fst h (by rw [((hp.kd (k := k) (n := n) 0).head (by omega)).1, h'])
  | snd h h' => exact .snd h (by rw [((hp.kd (k := k) (n := n) 0).head (by omega)).1, h'])
mutual
theorem Par.sh {a : Int} (ha : 0 ≤ a) : ∀ {t u : T}, Par t u → ∀ c : Int, 0 ≤ c → Par (shT a t c) (shT a u c)
  | _, _, .node h, c, hc => by
    simp only [shT]
    exact .node (ParL.sh ha h _ 0 c hc)
  | _, _, .red (k := k) (n := n) (us := us) h hr, c, hc => by
    rw [con_sh (Rx.par h hr) ha hc]
    simp only [shT]
    exact .red (ParL.sh ha h _ 0 c hc) (by have := hr.sh a c; rwa [shT] at this)
theorem ParL.sh {a : Int} (ha : 0 ≤ a) : ∀ {ts us : List T}, ParL ts us → ∀ (k : Int) (i : Nat) (c : Int), 0 ≤ c → ParL (shL a k i ts c) (shL a k i us c)
  | _, _, .nil, k, i, c, hc => .nil
  | _, _, .cons h hs, k, i, c, hc => by
    have := under_bd k i
    simp only [shL]
    exact .cons (Par.sh ha h _ (by omega)) (ParL.sh ha hs k (i + 1) c hc)
end
mutual
theorem Par.sb {v w : T} (hv : Par v w) : ∀ {t u : T}, Par t u → ∀ x d : Int, 0 ≤ d → d ≤ x → Par (sbT v t x d) (sbT w u x d)
  | _, _, .node (k := k) (n := n) h, x, d, h0, h1 => by
    simp only [sbT]
    split
    · exact hv.sh h0 0 (by omega)
    · exact .node (ParL.sb hv h _ 0 x d h0 h1)
  | _, _, .red (k := k) (n := n) (us := us) h hr, x, d, h0, h1 => by
    have hk : k ≠ 1 := by have := hr.k; simp only [T.k] at this; omega
    rw [con_sb (Rx.par h hr) w h0 h1]
    simp only [sbT, hk, false_and, if_false]
    exact .red (ParL.sb hv h _ 0 x d h0 h1) (by have := hr.sb v x d; rwa [sbT, if_neg (fun hh => hk hh.1), if_neg (fun hh => hk hh.1)] at this)
theorem ParL.sb {v w : T} (hv : Par v w) : ∀ {ts us : List T}, ParL ts us → ∀ (k : Int) (i : Nat) (x d : Int), 0 ≤ d → d ≤ x → ParL (sbL v k i ts x d) (sbL w k i us x d)
  | _, _, .nil, k, i, x, d, h0, h1 => .nil
  | _, _, .cons h hs, k, i, x, d, h0, h1 => by
    have := under_bd k i
    simp only [sbL]
    exact .cons (Par.sb hv h _ _ (by omega) (by omega)) (ParL.sb hv hs k (i + 1) x d h0 h1)
end
theorem Par.con {k n : Int} {ts us : List T} (hp : ParL ts us) (h : Rx (.mk k n ts)) : Par (contractT (.mk k n ts)) (contractT (.mk k n us)) := by
  have hk := fun j => hp.kd (k := k) (n := n) j
  have hr := h.par hp
  cases h with
  | app h h' =>
    rw [con_app h, con_app (t := .mk k n us) h]
    exact Par.sb (hk 1) (((hk 0).head (by omega)).2 1) 0 0 (by omega) (by omega)
  | zero h h' => rw [con_zero h h', con_zero (t := .mk k n us) h (by rw [((hk 3).head (by omega)).1, h'])]; exact hk 1
  | succ h h' =>
    rw [con_succ h h', con_succ (t := .mk k n us) h (by rw [((hk 3).head (by omega)).1, h'])]
    have h0 := ((hk 3).head (by omega)).2 0
    exact .node (.cons (.node (.cons (hk 2) (.cons h0 .nil))) (.cons (.node (.cons (hk 0) (.cons (hk 1) (.cons (hk 2) (.cons h0 .nil))))) .nil))
  | move h h' => rw [con_move h, con_move (t := .mk k n us) h]; exact hk 2
  | fst h h' => rw [con_fst h, con_fst (t := .mk k n us) h]; exact ((hk 0).head (by omega)).2 1
  | snd h h' => rw [con_snd h, con_snd (t := .mk k n us) h]; exact ((hk 0).head (by omega)).2 2
/-! Complete developments. -/
instance (t : T) : Decidable (Rx t) := decidable_of_iff _ (rx_iff t)
mutual
def devT : T → T
  | .mk k n ts => if Rx (.mk k n ts) then contractT (.mk k n (devL ts)) else .mk k n (devL ts)
def devL : List T → List T
  | [] => []
  | t :: ts => devT t :: devL ts
end
mutual
theorem Par.tri : ∀ {t u : T}, Par t u → Par u (devT t)
  | _, _, .node (k := k) (n := n) (ts := ts) h => by
    rw [devT]
    split
    · rename_i hr
      exact .red (ParL.tri h) (hr.par h)
    · exact .node (ParL.tri h)
  | _, _, .red h hr => by
    rw [devT, if_pos hr]
    exact Par.con (ParL.tri h) (hr.par h)
theorem ParL.tri : ∀ {ts us : List T}, ParL ts us → ParL us (devL ts)
  | _, _, .nil => .nil
  | _, _, .cons h hs => .cons (Par.tri h) (ParL.tri hs)
end
theorem par_dev (t : T) : Par t (devT t) := (Par.refl t).tri
/-- Reduction: any number of parallel steps. -/
inductive Red : T → T → Prop
  | refl {t} : Red t t
  | step {t u v} (h : Par t u) (hs : Red u v) : Red t v
theorem Red.one {t u : T} (h : Par t u) : Red t u := .step h .refl
theorem Red.trans {t u v : T} (h : Red t u) (h' : Red u v) : Red t v := by
  induction h with
  | refl => exact h'
  | step h _ ih => exact .step h (ih h')
theorem Red.strip {t u v : T} (h : Par t u) (h' : Red t v) : ∃ w, Red u w ∧ Par v w := by
  induction h' generalizing u with
  | refl => exact ⟨u, .refl, h⟩
  | step h1 _ ih =>
    obtain ⟨w, hw, hv⟩ := ih h1.tri
    exact ⟨w, .step h.tri hw, hv⟩
theorem Red.confl {t u v : T} (h : Red t u) (h' : Red t v) : ∃ w, Red u w ∧ Red v w := by
  induction h generalizing v with
  | refl => exact ⟨v, h', .refl⟩
  | step h1 _ ih =>
    obtain ⟨w, hw, hv⟩ := Red.strip h1 h'
    obtain ⟨z, hz, hz'⟩ := ih hw
    exact ⟨z, hz, .step hv hz'⟩
/-! Normal terms. -/
mutual
def nfB : T → Bool
  | .mk k n ts => !decide (Rx (.mk k n ts)) && nfL ts
def nfL : List T → Bool
  | [] => true
  | t :: ts => nfB t && nfL ts
end
mutual
theorem nf_par : ∀ {t u : T}, Par t u → nfB t = true → u = t
  | _, _, .node h, hn => by
    simp only [nfB, Bool.and_eq_true] at hn
    rw [nf_parL h hn.2]
  | _, _, .red h hr, hn => by
    simp only [nfB, Bool.and_eq_true, Bool.not_eq_true', decide_eq_false_iff_not] at hn
    exact absurd hr hn.1
theorem nf_parL : ∀ {ts us : List T}, ParL ts us → nfL ts = true → us = ts
  | _, _, .nil, _ => rfl
  | _, _, .cons h hs, hn => by
    simp only [nfL, Bool.and_eq_true] at hn
    rw [nf_par h hn.1, nf_parL hs hn.2]
end
theorem nf_red {t u : T} (h : Red t u) (hn : nfB t = true) : u = t := by
  induction h with
  | refl => rfl
  | step h _ ih =>
    have := nf_par h hn
    subst this
    exact ih hn
theorem nf_uniq {t a b : T} (ha : Red t a) (hb : Red t b) (na : nfB a = true) (nb : nfB b = true) : a = b := by
  obtain ⟨w, h1, h2⟩ := Red.confl ha hb
  rw [← nf_red h1 na, ← nf_red h2 nb]
mutual
theorem nf_dev : ∀ {t : T}, nfB t = true → devT t = t
  | .mk k n ts, h => by
    simp only [nfB, Bool.and_eq_true, Bool.not_eq_true', decide_eq_false_iff_not] at h
    rw [devT, if_neg h.1, nf_devL h.2]
theorem nf_devL : ∀ {ts : List T}, nfL ts = true → devL ts = ts
  | [], _ => rfl
  | t :: ts, h => by
    simp only [nfL, Bool.and_eq_true] at h
    rw [devL, nf_dev h.1, nf_devL h.2]
end
/-! Steps. -/
mutual
/-- A step at the first redex from outside, or from inside. -/
def stT (inn : Bool) : T → Option T
  | .mk k n ts => if inn = false ∧ Rx (.mk k n ts) then some (contractT (.mk k n ts)) else
    match stL inn ts with
    | some us => some (.mk k n us)
    | none => if inn = true ∧ Rx (.mk k n ts) then some (contractT (.mk k n ts)) else none
def stL (inn : Bool) : List T → Option (List T)
  | [] => none
  | t :: ts => match stT inn t with
    | some u => some (u :: ts)
    | none => (stL inn ts).map (t :: ·)
end
mutual
theorem st_par {inn : Bool} : ∀ {t u : T}, stT inn t = some u → Par t u
  | .mk k n ts, u, h => by
    rw [stT] at h
    split at h
    · rename_i hr
      obtain rfl := Option.some.inj h
      exact .red (ParL.refl ts) hr.2
    · split at h
      · rename_i us hs
        obtain rfl := Option.some.inj h
        exact .node (st_parL hs)
      · split at h
        · rename_i hr
          obtain rfl := Option.some.inj h
          exact .red (ParL.refl ts) hr.2
        · cases h
theorem st_parL {inn : Bool} : ∀ {ts us : List T}, stL inn ts = some us → ParL ts us
  | [], us, h => by cases h
  | t :: ts, us, h => by
    rw [stL] at h
    split at h
    · rename_i u hu
      obtain rfl := Option.some.inj h
      exact .cons (st_par hu) (ParL.refl ts)
    · obtain ⟨vs, hv, rfl⟩ := Option.map_eq_some_iff.1 h
      exact .cons (Par.refl t) (st_parL hv)
end
mutual
theorem st_none {inn : Bool} : ∀ {t : T}, stT inn t = none ↔ nfB t = true
  | .mk k n ts => by
    rw [stT, nfB]
    have := st_noneL (inn := inn) (ts := ts)
    by_cases hr : Rx (.mk k n ts)
    · cases inn <;> cases hs : stL _ ts <;> simp [hr]
    · cases hs : stL inn ts <;> rw [hs] at this <;> simp [hr] at this ⊢ <;> exact this
theorem st_noneL {inn : Bool} : ∀ {ts : List T}, stL inn ts = none ↔ nfL ts = true
  | [] => by simp [stL, nfL]
  | t :: ts => by
    rw [stL, nfL]
    have h1 := st_none (inn := inn) (t := t)
    have h2 := st_noneL (inn := inn) (ts := ts)
    cases hs : stT inn t <;> rw [hs] at h1 <;> simp at h1
    · cases ht : stL inn ts <;> rw [ht] at h2 <;> simp at h2 <;> simp [h1, h2]
    · simp [h1]
end

/-! Sizes, and terms whose numbers are small. -/
mutual
theorem sh_size (a : Int) : ∀ (t : T) (c : Int), (shT a t c).size = t.size
  | .mk k n ts, c => by rw [shT, T.size, T.size, sh_sizeL a k ts 0 c]
theorem sh_sizeL (a k : Int) : ∀ (ts : List T) (i : Nat) (c : Int), T.sizeL (shL a k i ts c) = T.sizeL ts
  | [], i, c => rfl
  | t :: ts, i, c => by rw [shL, T.sizeL, T.sizeL, sh_size a t, sh_sizeL a k ts]
end
theorem size_pos (t : T) : 1 ≤ t.size := by have := T.size_eq t; omega
mutual
theorem sb_size (u : T) : ∀ (t : T) (x d : Int), (sbT u t x d).size ≤ t.size * u.size
  | .mk k n ts, x, d => by
    have hu := size_pos u
    rw [sbT]
    split
    · rw [sh_size, T.size]; exact Nat.le_mul_of_pos_left _ (by omega)
    · rw [T.size, T.size, Nat.add_mul, Nat.one_mul]
      have := sb_sizeL u k ts 0 x d
      omega
theorem sb_sizeL (u : T) (k : Int) : ∀ (ts : List T) (i : Nat) (x d : Int), T.sizeL (sbL u k i ts x d) ≤ T.sizeL ts * u.size
  | [], i, x, d => by simp [sbL, T.sizeL]
  | t :: ts, i, x, d => by
    rw [sbL, T.sizeL, T.sizeL, Nat.add_mul]
    have h1 := sb_size u t (x + under k i) (d + under k i)
    have h2 := sb_sizeL u k ts (i + 1) x d
    omega
end
theorem sh_len (a k : Int) : ∀ (ts : List T) (i : Nat) (c : Int), (shL a k i ts c).length = ts.length
  | [], i, c => rfl
  | t :: ts, i, c => by rw [shL, List.length_cons, List.length_cons, sh_len a k ts]
theorem sb_len (u : T) (k : Int) : ∀ (ts : List T) (i : Nat) (x d : Int), (sbL u k i ts x d).length = ts.length
  | [], i, x, d => rfl
  | t :: ts, i, x, d => by rw [sbL, List.length_cons, List.length_cons, sb_len u k ts]
theorem sh_elem (a k : Int) : ∀ (ts : List T) (i j : Nat) (c : Int) (h : j < ts.length), (shL a k i ts c)[j]'(by rw [sh_len]; exact h) = shT a ts[j] (c + under k (i + j))
  | t :: ts, i, 0, c, h => rfl
  | t :: ts, i, j + 1, c, h => by
    have := sh_elem a k ts (i + 1) j c (by simpa using h)
    simp only [shL, List.getElem_cons_succ]
    rw [this, show i + 1 + j = i + (j + 1) by omega]
theorem sb_elem (u : T) (k : Int) : ∀ (ts : List T) (i j : Nat) (x d : Int) (h : j < ts.length), (sbL u k i ts x d)[j]'(by rw [sb_len]; exact h) = sbT u ts[j] (x + under k (i + j)) (d + under k (i + j))
  | t :: ts, i, 0, x, d, h => rfl
  | t :: ts, i, j + 1, x, d, h => by
    have := sb_elem u k ts (i + 1) j x d (by simpa using h)
    simp only [sbL, List.getElem_cons_succ]
    rw [this, show i + 1 + j = i + (j + 1) by omega]
mutual
/-- Numbers are small, and variables have no operands. -/
def gdB : T → Bool
  | .mk k n ts => decide (0 ≤ n ∧ n ≤ 20 ∧ (k = 1 → ts = [])) && gdL ts
def gdL : List T → Bool
  | [] => true
  | t :: ts => gdB t && gdL ts
end
theorem gdL_mem {u : T} : ∀ {ts : List T}, gdL ts = true → u ∈ ts → gdB u = true
  | t :: ts, h, hu => by
    simp only [gdL, Bool.and_eq_true] at h
    rcases List.mem_cons.1 hu with rfl | hu
    · exact h.1
    · exact gdL_mem h.2 hu
theorem gdL_of : ∀ {ts : List T}, (∀ u ∈ ts, gdB u = true) → gdL ts = true
  | [], _ => rfl
  | t :: ts, h => by
    rw [gdL, h t (List.mem_cons_self ..), gdL_of fun u hu => h u (List.mem_cons_of_mem _ hu)]; rfl
theorem gd_out {t : T} (h : gdB t = true) : 0 ≤ t.n ∧ t.n ≤ 20 ∧ (t.k = 1 → t.kids = []) ∧ ∀ u ∈ t.kids, gdB u = true := by
  cases t with | mk k n ts =>
  simp only [gdB, Bool.and_eq_true, decide_eq_true_eq] at h
  exact ⟨h.1.1, h.1.2.1, h.1.2.2, fun u hu => gdL_mem h.2 hu⟩
mutual
theorem gd_shape : ∀ (t : T) (d : Nat), shapeF t d = true → gdB t = true
  | .mk k n ts, d, h => by
    simp only [shapeF, Bool.and_eq_true, decide_eq_true_eq] at h
    simp only [gdB, Bool.and_eq_true, decide_eq_true_eq]
    refine ⟨⟨h.2.2.1.1, ?_, fun hk => ?_⟩, gd_shapeL ts _ h.2.2.2⟩
    · have := h.2.2.1.2
      unfold mostOf at this
      split at this
      · exact this
      · split at this <;> omega
    · subst hk
      have h0 := h.2.1
      have : (ts.length : Int) = 0 := by rw [← h0]; rfl
      exact List.eq_nil_of_length_eq_zero (by omega)
theorem gd_shapeL : ∀ (ts : List T) (d : Nat), shapeL ts d = true → gdL ts = true
  | [], d, _ => rfl
  | t :: ts, d, h => by
    simp only [shapeL, Bool.and_eq_true] at h
    rw [gdL, gd_shape t d h.1, gd_shapeL ts d h.2]; rfl
end
theorem gd_valid {t : T} (h : validB t = true) : gdB t = true := by
  unfold validB at h
  rw [Bool.and_eq_true] at h
  exact gd_shape t 30 h.1
/-! When a shift, or a substitution, stays within the limits. -/
mutual
def okS (a : Int) : T → Int → Bool
  | .mk k n ts, c => if k = 1 then (if c ≤ n then decide (c ≤ n + a) && decide (n + a ≤ 20) else true) else okSL a k 0 ts c
def okSL (a k : Int) : Nat → List T → Int → Bool
  | _, [], _ => true
  | i, t :: ts, c => okS a t (c + under k i) && okSL a k (i + 1) ts c
end
theorem kid_of {k n : Int} {ts : List T} (h : validB (.mk k n ts) = true) {u : T} (hu : u ∈ ts) : validB u = true := validB_kid h hu
mutual
theorem okS_valid {a : Int} (ha : 0 ≤ a) : ∀ (t : T) (c : Int), validB (shT a t c) = true → okS a t c = true
  | .mk k n ts, c, h => by
    rw [okS]
    rw [shT] at h
    split
    · rename_i hk
      subst hk
      split
      · rename_i hc
        have := (validB_ops h).2.2
        simp only [T.n, T.k, true_and, if_pos hc] at this
        have h3 : mostOf 1 = 20 := rfl
        rw [h3] at this
        simp; omega
      · rfl
    · exact okS_validL ha k ts 0 c fun u hu => kid_of h hu
theorem okS_validL {a : Int} (ha : 0 ≤ a) (k : Int) : ∀ (ts : List T) (i : Nat) (c : Int), (∀ u ∈ shL a k i ts c, validB u = true) → okSL a k i ts c = true
  | [], i, c, _ => rfl
  | t :: ts, i, c, h => by
    rw [shL] at h
    rw [okSL, okS_valid ha t _ (h _ (List.mem_cons_self ..)), okS_validL ha k ts (i + 1) c fun u hu => h u (List.mem_cons_of_mem _ hu)]; rfl
end
mutual
def okB (u : T) : T → Int → Int → Bool
  | .mk k n ts, x, d => if k = 1 then (if n = x then validB (shT d u 0) else true) else okBL u k 0 ts x d
def okBL (u : T) (k : Int) : Nat → List T → Int → Int → Bool
  | _, [], _, _ => true
  | i, t :: ts, x, d => okB u t (x + under k i) (d + under k i) && okBL u k (i + 1) ts x d
end
mutual
theorem okB_valid (u : T) : ∀ (t : T) (x d : Int), validB (sbT u t x d) = true → okB u t x d = true
  | .mk k n ts, x, d, h => by
    rw [okB]
    rw [sbT] at h
    split
    · rename_i hk
      subst hk
      split
      · rename_i hn
        rwa [if_pos ⟨rfl, hn⟩] at h
      · rfl
    · rename_i hk
      rw [if_neg (fun hh => hk hh.1)] at h
      exact okB_validL u k ts 0 x d fun u hu => kid_of h hu
theorem okB_validL (u : T) (k : Int) : ∀ (ts : List T) (i : Nat) (x d : Int), (∀ v ∈ sbL u k i ts x d, validB v = true) → okBL u k i ts x d = true
  | [], i, x, d, _ => rfl
  | t :: ts, i, x, d, h => by
    rw [sbL] at h
    rw [okBL, okB_valid u t _ _ (h _ (List.mem_cons_self ..)), okB_validL u k ts (i + 1) x d fun u hu => h u (List.mem_cons_of_mem _ hu)]; rfl
end
/-! Ways to redexes. -/
mutual
def wyT (inn : Bool) : T → Option (List Nat)
  | .mk k n ts => if inn = false ∧ Rx (.mk k n ts) then some [] else
    match wyL inn 0 ts with
    | some w => some w
    | none => if inn = true ∧ Rx (.mk k n ts) then some [] else none
def wyL (inn : Bool) : Nat → List T → Option (List Nat)
  | _, [] => none
  | i, t :: ts => match wyT inn t with
    | some w => some (i :: w)
    | none => wyL inn (i + 1) ts
end
def atT : T → List Nat → T
  | t, [] => t
  | t, i :: w => atT (kd t i) w
def puT : T → List Nat → T → T
  | _, [], u => u
  | t, i :: w, u => .mk t.k t.n (t.kids.set i (puT (kd t i) w u))
/-- The way leads through operands. -/
def wyOk : T → List Nat → Prop
  | _, [] => True
  | t, i :: w => i < t.kids.length ∧ wyOk (kd t i) w
mutual
theorem wy_some {inn : Bool} : ∀ {t : T} {w : List Nat}, wyT inn t = some w → wyOk t w ∧ Rx (atT t w) ∧ stT inn t = some (puT t w (contractT (atT t w)))
  | .mk k n ts, w, h => by
    rw [wyT] at h
    rw [stT]
    split at h
    · rename_i hr
      obtain rfl := Option.some.inj h
      exact ⟨trivial, hr.2, by rw [if_pos hr]; rfl⟩
    · rename_i hr
      rw [if_neg hr]
      split at h
      · rename_i w' hw
        obtain rfl := Option.some.inj h
        obtain ⟨i, v, rfl, hi, h1, h2, h3⟩ := wy_someL hw
        refine ⟨⟨by simpa [T.kids] using hi, by simpa [kd, T.kids] using h1⟩, by simpa [atT, kd, T.kids] using h2, ?_⟩
        rw [h3]
        simp [puT, T.k, T.n, T.kids, kd, atT]
      · rename_i hw
        split at h
        · rename_i hr2
          obtain rfl := Option.some.inj h
          have hn : stL inn ts = none := wy_noneL hw
          refine ⟨trivial, hr2.2, ?_⟩
          rw [hn]
          simp only
          rw [if_pos hr2]; rfl
        · cases h
theorem wy_someL {inn : Bool} : ∀ {ts : List T} {j : Nat} {w : List Nat}, wyL inn j ts = some w → ∃ i v, w = (j + i) :: v ∧ i < ts.length ∧ wyOk (ts.getD i junk) v ∧ Rx (atT (ts.getD i junk) v) ∧ stL inn ts = some (ts.set i (puT (ts.getD i junk) v (contractT (atT (ts.getD i junk) v))))
  | [], j, w, h => by cases h
  | t :: ts, j, w, h => by
    rw [wyL] at h
    rw [stL]
    split at h
    · rename_i v hv
      obtain rfl := Option.some.inj h
      obtain ⟨h1, h2, h3⟩ := wy_some hv
      exact ⟨0, v, by simp, by simp, by simpa using h1, by simpa using h2, by rw [h3]; simp⟩
    · rename_i hv
      obtain ⟨i, v, rfl, hi, h1, h2, h3⟩ := wy_someL h
      refine ⟨i + 1, v, by simp; omega, by simpa using hi, by simpa using h1, by simpa using h2, ?_⟩
      rw [wy_none hv, h3]; simp
theorem wy_none {inn : Bool} : ∀ {t : T}, wyT inn t = none → stT inn t = none
  | .mk k n ts, h => by
    rw [wyT] at h
    rw [stT]
    split at h
    · cases h
    · rename_i hr
      rw [if_neg hr]
      split at h
      · cases h
      · rename_i hw
        split at h
        · cases h
        · rename_i hr2
          rw [wy_noneL hw]
          simp only
          rw [if_neg hr2]
theorem wy_noneL {inn : Bool} : ∀ {ts : List T} {j : Nat}, wyL inn j ts = none → stL inn ts = none
  | [], j, _ => rfl
  | t :: ts, j, h => by
    rw [wyL] at h
    rw [stL]
    split at h
    · cases h
    · rename_i hv
      rw [wy_none hv, wy_noneL h]; rfl
end
theorem put_valid : ∀ {w : List Nat} {t u : T}, wyOk t w → validB (puT t w u) = true → validB u = true
  | [], t, u, _, h => h
  | i :: w, t, u, hw, h => by
    rw [puT] at h
    refine put_valid hw.2 (validB_kid h (u := puT (kd t i) w u) ?_)
    show _ ∈ t.kids.set i _
    exact List.mem_iff_getElem.2 ⟨i, by simpa using hw.1, by simp⟩
theorem kd_mem {t : T} {i : Nat} (h : i < t.kids.length) : kd t i ∈ t.kids := by
  rw [show kd t i = t.kids[i] by unfold kd; simp [List.getD, h]]
  exact List.getElem_mem h
theorem at_valid : ∀ {w : List Nat} {t : T}, wyOk t w → validB t = true → validB (atT t w) = true
  | [], t, _, h => h
  | i :: w, t, hw, h => at_valid (w := w) hw.2 (validB_kid h (kd_mem hw.1))
theorem put_size : ∀ {w : List Nat} {t u : T}, wyOk t w → (puT t w u).size ≤ t.size + u.size
  | [], t, u, _ => by simp [puT]
  | i :: w, t, u, hw => by
    rw [puT, T.size, T.size_eq t]
    have h1 := put_size (u := u) hw.2
    have h2 : ∀ (ts : List T) (i : Nat) (v : T) (s : Nat), i < ts.length → v.size ≤ (ts.getD i junk).size + s → T.sizeL (ts.set i v) ≤ T.sizeL ts + s := by
      intro ts
      induction ts with
      | nil => intro i v s h; simp at h
      | cons t ts ih =>
        intro i v s hi hv
        cases i with
        | zero => simp only [List.set_cons_zero, T.sizeL, List.getD_cons_zero] at hv ⊢; omega
        | succ i =>
          simp only [List.set_cons_succ, T.sizeL, List.getD_cons_succ] at hv ⊢
          have := ih i v s (by simpa using hi) hv
          omega
    have := h2 t.kids i _ u.size hw.1 h1
    omega
/-- A step that is taken: the term, and its code. -/
def oneR (inn : Bool) (t : T) : T × Int :=
  match stT inn t with
  | none => (t, 0)
  | some u => if validB u then (u, 1) else (junk, 2)
/-- At most g steps: the term, how many steps were taken, and a code. -/
def redF (inn : Bool) : Nat → Nat → T → T × Nat × Int
  | 0, s, t => match stT inn t with
    | none => (t, s, 0)
    | some _ => (junk, s, 1)
  | g + 1, s, t => match stT inn t with
    | none => (t, s, 0)
    | some u => if validB u then redF inn g (s + 1) u else (junk, s, 2)
theorem redF_valid {inn : Bool} : ∀ (g s : Nat) (t : T), validB t = true → (redF inn g s t).2.2 = 0 → validB (redF inn g s t).1 = true
  | 0, s, t, hv, h => by
    rw [redF] at h ⊢
    cases hs : stT inn t with
    | none => exact hv
    | some u => rw [hs] at h; cases h
  | g + 1, s, t, hv, h => by
    rw [redF] at h ⊢
    cases hs : stT inn t with
    | none => exact hv
    | some u =>
      rw [hs] at h
      simp only at h ⊢
      cases hu : validB u with
      | false => rw [hu] at h; cases h
      | true =>
        rw [hu] at h
        exact redF_valid g (s + 1) u hu h
end Go.Proofs.Ytbkpfjabcohnpaa
