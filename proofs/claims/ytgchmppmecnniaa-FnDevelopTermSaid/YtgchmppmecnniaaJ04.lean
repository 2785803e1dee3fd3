/- Part 4 of the proof. -/
import Derived.Test.YtgchmppmecnniaaJ01
import Derived.Test.YtgchmppmecnniaaJ02
import Derived.Test.YtgchmppmecnniaaJ03
import Derived.Test.YtgchmppmecnniaaRows
import Derived.KernelRfl
import Derived.ChangeArms
import Derived.Deep.Slices
import Derived.Deep.Strs
import Derived.WalkKit
import Derived.ProofKit
import Derived.OpenShut
import Derived.ShutString
import Derived.ChangeOld
import Derived.Below
set_option linter.unusedVariables false
set_option linter.unusedSimpArgs false
section
namespace Go.Proofs.Ytgchmppmecnniaa
open Go Go.Dk
def under (k : Int) (i : Nat) : Int := if i = 1 ∧ (k = 3 ∨ k = 4 ∨ k = 13) then 1 else 0
theorem under_bd (k : Int) (i : Nat) : 0 ≤ under k i ∧ under k i ≤ 1 := by unfold under; split <;> omega
mutual
def shT (a : Int) : T → Int → T
 | .mk k n ts, c => .mk k (if k = 1 ∧ c ≤ n then n + a else n) (shL a k 0 ts c)
def shL (a k : Int) : Nat → List T → Int → List T
 | _, [], _ => []
 | i, t :: ts, c => shT a t (c + under k i) :: shL a k (i + 1) ts c
end
mutual
def sbT (u : T) : T → Int → Int → T
 | .mk k n ts, x, d => if k = 1 ∧ n = x then shT d u 0 else .mk k (if k = 1 ∧ x < n then n - 1 else n) (sbL u k 0 ts x d)
def sbL (u : T) (k : Int) : Nat → List T → Int → Int → List T
 | _, [], _, _ => []
 | i, t :: ts, x, d => sbT u t (x + under k i) (d + under k i) :: sbL u k (i + 1) ts x d
end
mutual
theorem sh_comm {a b : Int} (ha : 0 ≤ a) (hb : 0 ≤ b) : ∀ (t : T) (c e : Int), c ≤ e → shT a (shT b t c) (e + b) = shT b (shT a t e) c
 | .mk k n ts, c, e, h => by
  simp only [shT]
  rw [sh_commL ha hb k ts 0 c e h]
  congr 1
  by_cases hk : k = 1 <;> simp only [hk, true_and, false_and, if_false]
  repeat' split
  all_goals omega
theorem sh_commL {a b : Int} (ha : 0 ≤ a) (hb : 0 ≤ b) (k : Int) : ∀ (ts : List T) (i : Nat) (c e : Int), c ≤ e → shL a k i (shL b k i ts c) (e + b) = shL b k i (shL a k i ts e) c
 | [], i, c, e, h => rfl
 | t :: ts, i, c, e, h => by
  simp only [shL]
  rw [show e + b + under k i = e + under k i + b by omega, sh_comm ha hb t (c + under k i) (e + under k i) (by omega), sh_commL ha hb k ts (i + 1) c e h]
end
mutual
theorem sh_add {a b : Int} (ha : 0 ≤ a) (hb : 0 ≤ b) : ∀ (t : T) (c e : Int), c ≤ e → e ≤ c + b → shT a (shT b t c) e = shT (a + b) t c
 | .mk k n ts, c, e, h, h2 => by
  simp only [shT]
  rw [sh_addL ha hb k ts 0 c e h h2]
  congr 1
  by_cases hk : k = 1 <;> simp only [hk, true_and, false_and, if_false]
  repeat' split
  all_goals omega
theorem sh_addL {a b : Int} (ha : 0 ≤ a) (hb : 0 ≤ b) (k : Int) : ∀ (ts : List T) (i : Nat) (c e : Int), c ≤ e → e ≤ c + b → shL a k i (shL b k i ts c) e = shL (a + b) k i ts c
 | [], i, c, e, h, h2 => rfl
 | t :: ts, i, c, e, h, h2 => by
  simp only [shL]
  rw [sh_add ha hb t (c + under k i) (e + under k i) (by omega) (by omega), sh_addL ha hb k ts (i + 1) c e h h2]
end
mutual
theorem sb_sh (u : T) {b : Int} (hb : 0 ≤ b) : ∀ (t : T) (c x d : Int), c ≤ x → x ≤ c + b → sbT u (shT (b + 1) t c) x d = shT b t c
 | .mk k n ts, c, x, d, h, h2 => by
  simp only [shT, sbT]
  rw [sb_shL u hb k ts 0 c x d h h2]
  by_cases hk : k = 1 <;> simp only [hk, true_and, false_and, if_false]
  by_cases hn : c ≤ n
  ·rw [if_pos hn, if_neg (by omega), if_pos (by omega), if_pos hn]; congr 1; omega
  ·rw [if_neg hn, if_neg (by omega), if_neg (by omega), if_neg hn]
theorem sb_shL (u : T) {b : Int} (hb : 0 ≤ b) (k : Int) : ∀ (ts : List T) (i : Nat) (c x d : Int), c ≤ x → x ≤ c + b → sbL u k i (shL (b + 1) k i ts c) x d = shL b k i ts c
 | [], i, c, x, d, h, h2 => rfl
 | t :: ts, i, c, x, d, h, h2 => by
  simp only [shL, sbL]
  rw [sb_sh u hb t (c + under k i) (x + under k i) (d + under k i) (by omega) (by omega), sb_shL u hb k ts (i + 1) c x d h h2]
end
mutual
theorem sh_sb (u : T) {a : Int} (ha : 0 ≤ a) : ∀ (t : T) (c x d : Int), 0 ≤ d → d ≤ x → x ≤ c → shT a (sbT u t x d) c = sbT (shT a u (c - d)) (shT a t (c + 1)) x d
 | .mk k n ts, c, x, d, h0, h1, h2 => by
  simp only [shT, sbT]
  by_cases hk : k = 1
  ·subst hk
   simp only [true_and]
   by_cases hn : n = x
   ·subst hn
    rw [if_pos rfl, if_neg (show ¬ c + 1 ≤ n by omega), if_pos rfl]
    have := sh_comm ha h0 u 0 (c - d) (by omega)
    rw [show c - d + d = c by omega] at this
    exact this
   ·rw [if_neg hn, shT]
    by_cases hn2 : x < n
    ·by_cases hn3 : c + 1 ≤ n
     ·rw [if_pos hn3, if_neg (show ¬ n + a = x by omega), if_pos hn2, if_pos (show x < n + a by omega)]
      simp only [true_and, if_pos (show c ≤ n - 1 by omega), sh_sbL u ha 1 ts 0 c x d h0 h1 h2]
      congr 1; omega
     ·rw [if_neg hn3, if_neg hn, if_pos hn2]
      simp only [true_and, if_neg (show ¬ c ≤ n - 1 by omega), sh_sbL u ha 1 ts 0 c x d h0 h1 h2]
    ·rw [if_neg hn2, if_neg (show ¬ c + 1 ≤ n by omega), if_neg hn, if_neg hn2]
     simp only [true_and, if_neg (show ¬ c ≤ n by omega), sh_sbL u ha 1 ts 0 c x d h0 h1 h2]
  ·simp only [hk, false_and, if_false, shT]
   rw [sh_sbL u ha k ts 0 c x d h0 h1 h2]
theorem sh_sbL (u : T) {a : Int} (ha : 0 ≤ a) (k : Int) : ∀ (ts : List T) (i : Nat) (c x d : Int), 0 ≤ d → d ≤ x → x ≤ c → shL a k i (sbL u k i ts x d) c = sbL (shT a u (c - d)) k i (shL a k i ts (c + 1)) x d
 | [], i, c, x, d, h0, h1, h2 => rfl
 | t :: ts, i, c, x, d, h0, h1, h2 => by
  have hu := under_bd k i
  simp only [shL, sbL]
  rw [sh_sb u ha t (c + under k i) (x + under k i) (d + under k i) (by omega) (by omega) (by omega), sh_sbL u ha k ts (i + 1) c x d h0 h1 h2,
   show c + under k i - (d + under k i) = c - d by omega, show c + 1 + under k i = c + under k i + 1 by omega]
end
mutual
theorem sb_shift (u : T) {a : Int} (ha : 0 ≤ a) : ∀ (t : T) (c x d : Int), 0 ≤ c → c ≤ d → d ≤ x → shT a (sbT u t x d) c = sbT u (shT a t c) (x + a) (d + a)
 | .mk k n ts, c, x, d, h0, h1, h2 => by
  simp only [shT, sbT]
  by_cases hk : k = 1
  ·subst hk
   simp only [true_and]
   by_cases hn : n = x
   ·subst hn
    rw [if_pos rfl, if_pos (show c ≤ n by omega), if_pos rfl]
    rw [sh_add ha (by omega) u 0 c h0 (by omega), Int.add_comm]
   ·rw [if_neg hn, shT]
    by_cases hn2 : c ≤ n
    ·rw [if_pos hn2, if_neg (show ¬ n + a = x + a by omega)]
     by_cases hn3 : x < n
     ·rw [if_pos hn3, if_pos (show x + a < n + a by omega)]
      simp only [true_and, if_pos (show c ≤ n - 1 by omega), sb_shiftL u ha 1 ts 0 c x d h0 h1 h2]
      congr 1; omega
     ·rw [if_neg hn3, if_neg (show ¬ x + a < n + a by omega)]
      simp only [true_and, if_pos hn2, sb_shiftL u ha 1 ts 0 c x d h0 h1 h2]
    ·rw [if_neg (show ¬ x < n by omega), if_neg hn2, if_neg (show ¬ n = x + a by omega), if_neg (show ¬ x + a < n by omega)]
     simp only [true_and, if_neg hn2, sb_shiftL u ha 1 ts 0 c x d h0 h1 h2]
  ·simp only [hk, false_and, if_false, shT]
   rw [sb_shiftL u ha k ts 0 c x d h0 h1 h2]
theorem sb_shiftL (u : T) {a : Int} (ha : 0 ≤ a) (k : Int) : ∀ (ts : List T) (i : Nat) (c x d : Int), 0 ≤ c → c ≤ d → d ≤ x → shL a k i (sbL u k i ts x d) c = sbL u k i (shL a k i ts c) (x + a) (d + a)
 | [], i, c, x, d, h0, h1, h2 => rfl
 | t :: ts, i, c, x, d, h0, h1, h2 => by
  have hu := under_bd k i
  simp only [shL, sbL]
  rw [sb_shift u ha t (c + under k i) (x + under k i) (d + under k i) (by omega) (by omega) (by omega), sb_shiftL u ha k ts (i + 1) c x d h0 h1 h2,
   show x + under k i + a = x + a + under k i by omega, show d + under k i + a = d + a + under k i by omega]
end
mutual
theorem sb_sb (u v : T) : ∀ (t : T) (x d y e : Int), 0 ≤ d → d ≤ x → x ≤ e → e ≤ y → sbT v (sbT u t x d) y e = sbT (sbT v u (y - d) (e - d)) (sbT v t (y + 1) (e + 1)) x d
 | .mk k n ts, x, d, y, e, h0, h1, h2, h3 => by
  by_cases hk : k = 1
  ·subst hk
   by_cases hn : n = x
   ·subst hn
    rw [sbT, if_pos ⟨rfl, rfl⟩, sbT, if_neg (show ¬ ((1 : Int) = 1 ∧ n = y + 1) by omega), if_neg (show ¬ ((1 : Int) = 1 ∧ y + 1 < n) by omega), sbT, if_pos ⟨rfl, rfl⟩]
    have := sb_shift v h0 u 0 (y - d) (e - d) (by omega) (by omega) (by omega)
    rw [show y - d + d = y by omega, show e - d + d = e by omega] at this
    exact this.symm
   ·rw [sbT, if_neg (show ¬ ((1 : Int) = 1 ∧ n = x) by omega)]
    by_cases hn2 : n = y + 1
    ·subst hn2
     rw [if_pos (show (1 : Int) = 1 ∧ x < y + 1 by omega), sbT, if_pos (show (1 : Int) = 1 ∧ y + 1 - 1 = y by omega), sbT, if_pos ⟨rfl, rfl⟩]
     exact (sb_sh _ (by omega) v 0 x d (by omega) (by omega)).symm
    ·have e2 : sbT v (.mk 1 n ts) (y + 1) (e + 1) = .mk 1 (if (1 : Int) = 1 ∧ y + 1 < n then n - 1 else n) (sbL v 1 0 ts (y + 1) (e + 1)) := by
       rw [sbT, if_neg (show ¬ ((1 : Int) = 1 ∧ n = y + 1) by omega)]
     rw [e2]
     by_cases hn3 : x < n
     ·rw [if_pos (show (1 : Int) = 1 ∧ x < n by omega), sbT, if_neg (show ¬ ((1 : Int) = 1 ∧ n - 1 = y) by omega), sbT]
      by_cases hn4 : y + 1 < n
      ·rw [if_pos (show (1 : Int) = 1 ∧ y < n - 1 by omega), if_pos (show (1 : Int) = 1 ∧ y + 1 < n by omega), if_neg (show ¬ ((1 : Int) = 1 ∧ n - 1 = x) by omega), if_pos (show (1 : Int) = 1 ∧ x < n - 1 by omega), sb_sbL u v 1 ts 0 x d y e h0 h1 h2 h3]
      ·rw [if_neg (show ¬ ((1 : Int) = 1 ∧ y < n - 1) by omega), if_neg (show ¬ ((1 : Int) = 1 ∧ y + 1 < n) by omega), if_neg (show ¬ ((1 : Int) = 1 ∧ n = x) by omega), if_pos (show (1 : Int) = 1 ∧ x < n by omega), sb_sbL u v 1 ts 0 x d y e h0 h1 h2 h3]
     ·rw [if_neg (show ¬ ((1 : Int) = 1 ∧ x < n) by omega), sbT, if_neg (show ¬ ((1 : Int) = 1 ∧ n = y) by omega), if_neg (show ¬ ((1 : Int) = 1 ∧ y < n) by omega), if_neg (show ¬ ((1 : Int) = 1 ∧ y + 1 < n) by omega), sbT, if_neg (show ¬ ((1 : Int) = 1 ∧ n = x) by omega), if_neg (show ¬ ((1 : Int) = 1 ∧ x < n) by omega), sb_sbL u v 1 ts 0 x d y e h0 h1 h2 h3]
  ·simp only [sbT, hk, false_and, if_false]
   rw [sb_sbL u v k ts 0 x d y e h0 h1 h2 h3]
theorem sb_sbL (u v : T) (k : Int) : ∀ (ts : List T) (i : Nat) (x d y e : Int), 0 ≤ d → d ≤ x → x ≤ e → e ≤ y → sbL v k i (sbL u k i ts x d) y e = sbL (sbT v u (y - d) (e - d)) k i (sbL v k i ts (y + 1) (e + 1)) x d
 | [], i, x, d, y, e, h0, h1, h2, h3 => rfl
 | t :: ts, i, x, d, y, e, h0, h1, h2, h3 => by
  have hu := under_bd k i
  simp only [sbL]
  rw [sb_sb u v t (x + under k i) (d + under k i) (y + under k i) (e + under k i) (by omega) (by omega) (by omega) (by omega), sb_sbL u v k ts (i + 1) x d y e h0 h1 h2 h3,
   show y + under k i - (d + under k i) = y - d by omega, show e + under k i - (d + under k i) = e - d by omega, show y + 1 + under k i = y + under k i + 1 by omega, show e + 1 + under k i = e + under k i + 1 by omega]
end
def junk : T := .mk 0 0 []
def kd (t : T) (i : Nat) : T := t.kids.getD i junk
theorem sh_get (a k : Int) : ∀ (ts : List T) (i j : Nat) (c : Int), (shL a k i ts c).getD j junk = shT a (ts.getD j junk) (c + under k (i + j))
 | [], i, j, c => by simp [shL, junk, shT]
 | t :: ts, i, 0, c => by simp [shL]
 | t :: ts, i, j + 1, c => by
  simp only [shL, List.getD_cons_succ]
  rw [sh_get a k ts (i + 1) j c, show i + 1 + j = i + (j + 1) by omega]
theorem sb_get (u : T) (k : Int) : ∀ (ts : List T) (i j : Nat) (x d : Int), (sbL u k i ts x d).getD j junk = sbT u (ts.getD j junk) (x + under k (i + j)) (d + under k (i + j))
 | [], i, j, x, d => by simp [sbL, junk, sbT]
 | t :: ts, i, 0, x, d => by simp [sbL]
 | t :: ts, i, j + 1, x, d => by
  simp only [sbL, List.getD_cons_succ]
  rw [sb_get u k ts (i + 1) j x d, show i + 1 + j = i + (j + 1) by omega]
theorem sh_k (a : Int) (t : T) (c : Int) : (shT a t c).k = t.k := by cases t; rfl
theorem kd_sh (a : Int) (t : T) (c : Int) (j : Nat) : kd (shT a t c) j = shT a (kd t j) (c + under t.k j) := by
 cases t with | mk k n ts =>
 unfold kd
 rw [shT]
 show (shL a k 0 ts c).getD j junk = _
 rw [sh_get, Nat.zero_add]; rfl
theorem sb_k {u t : T} {x d : Int} (h : t.k ≠ 1) : (sbT u t x d).k = t.k := by
 cases t with | mk k n ts =>
 rw [sbT, if_neg (fun hh => h hh.1)]; rfl
theorem kd_sb {u t : T} {x d : Int} (h : t.k ≠ 1) (j : Nat) : kd (sbT u t x d) j = sbT u (kd t j) (x + under t.k j) (d + under t.k j) := by
 cases t with | mk k n ts =>
 have h' : k ≠ 1 := h
 unfold kd
 rw [sbT, if_neg (fun hh => h' hh.1)]
 show (sbL u k 0 ts x d).getD j junk = _
 rw [sb_get, Nat.zero_add]; rfl
def redexT (t : T) : Int :=
 if t.k = 5 then (if (kd t 0).k = 4 then 1 else 0)
 else if t.k = 9 then (if (kd t 3).k = 7 then 2 else if (kd t 3).k = 8 then 3 else 0)
 else if t.k = 12 then (if (kd t 1).k = 11 then 4 else 0)
 else if t.k = 15 then (if (kd t 0).k = 14 then 5 else 0)
 else if t.k = 16 then (if (kd t 0).k = 14 then 6 else 0) else 0
def contractT (t : T) : T :=
 if t.k = 5 then sbT (kd t 1) (kd (kd t 0) 1) 0 0
 else if t.k = 9 then (if (kd t 3).k = 7 then kd t 1 else .mk 5 0 [.mk 5 0 [kd t 2, kd (kd t 3) 0], .mk 9 0 [kd t 0, kd t 1, kd t 2, kd (kd t 3) 0]])
 else if t.k = 12 then kd t 2
 else if t.k = 15 then kd (kd t 0) 1
 else kd (kd t 0) 2
inductive Rx : T → Prop
 | app {t} (h : t.k = 5) (h' : (kd t 0).k = 4) : Rx t
 | zero {t} (h : t.k = 9) (h' : (kd t 3).k = 7) : Rx t
 | succ {t} (h : t.k = 9) (h' : (kd t 3).k = 8) : Rx t
 | move {t} (h : t.k = 12) (h' : (kd t 1).k = 11) : Rx t
 | fst {t} (h : t.k = 15) (h' : (kd t 0).k = 14) : Rx t
 | snd {t} (h : t.k = 16) (h' : (kd t 0).k = 14) : Rx t
theorem rx_iff (t : T) : redexT t ≠ 0 ↔ Rx t := by
 constructor
 ·intro h
  unfold redexT at h
  split at h
  ·split at h
   ·exact .app ‹_› ‹_›
   ·exact absurd rfl h
  ·split at h
   ·split at h
    ·exact .zero ‹_› ‹_›
    ·split at h
     ·exact .succ ‹_› ‹_›
     ·exact absurd rfl h
   ·split at h
    ·split at h
     ·exact .move ‹_› ‹_›
     ·exact absurd rfl h
    ·split at h
     ·split at h
      ·exact .fst ‹_› ‹_›
      ·exact absurd rfl h
     ·split at h
      ·split at h
       ·exact .snd ‹_› ‹_›
       ·exact absurd rfl h
      ·exact absurd rfl h
 ·intro h
  cases h with
  | app h h' => simp [redexT, h, h']
  | zero h h' => simp [redexT, h, h']
  | succ h h' => simp [redexT, h, h']
  | move h h' => simp [redexT, h, h']
  | fst h h' => simp [redexT, h, h']
  | snd h h' => simp [redexT, h, h']
theorem Rx.k {t : T} (h : Rx t) : t.k = 5 ∨ t.k = 9 ∨ t.k = 12 ∨ t.k = 15 ∨ t.k = 16 := by cases h <;> omega
theorem Rx.sh {t : T} (h : Rx t) (a c : Int) : Rx (shT a t c) := by
 cases h with
 | app h h' => exact .app (by rw [sh_k, h]) (by rw [kd_sh, sh_k, h'])
 | zero h h' => exact .zero (by rw [sh_k, h]) (by rw [kd_sh, sh_k, h'])
 | succ h h' => exact .succ (by rw [sh_k, h]) (by rw [kd_sh, sh_k, h'])
 | move h h' => exact .move (by rw [sh_k, h]) (by rw [kd_sh, sh_k, h'])
 | fst h h' => exact .fst (by rw [sh_k, h]) (by rw [kd_sh, sh_k, h'])
 | snd h h' => exact .snd (by rw [sh_k, h]) (by rw [kd_sh, sh_k, h'])
theorem Rx.sb {t : T} (h : Rx t) (u : T) (x d : Int) : Rx (sbT u t x d) := by
 cases h with
 | app h h' => exact .app (by rw [sb_k (by omega), h]) (by rw [kd_sb (by omega), sb_k (by omega), h'])
 | zero h h' => exact .zero (by rw [sb_k (by omega), h]) (by rw [kd_sb (by omega), sb_k (by omega), h'])
 | succ h h' => exact .succ (by rw [sb_k (by omega), h]) (by rw [kd_sb (by omega), sb_k (by omega), h'])
 | move h h' => exact .move (by rw [sb_k (by omega), h]) (by rw [kd_sb (by omega), sb_k (by omega), h'])
 | fst h h' => exact .fst (by rw [sb_k (by omega), h]) (by rw [kd_sb (by omega), sb_k (by omega), h'])
 | snd h h' => exact .snd (by rw [sb_k (by omega), h]) (by rw [kd_sb (by omega), sb_k (by omega), h'])
theorem con_app {t : T} (h : t.k = 5) : contractT t = sbT (kd t 1) (kd (kd t 0) 1) 0 0 := by simp [contractT, h]
theorem con_zero {t : T} (h : t.k = 9) (h' : (kd t 3).k = 7) : contractT t = kd t 1 := by simp [contractT, h, h']
theorem con_succ {t : T} (h : t.k = 9) (h' : (kd t 3).k = 8) : contractT t = .mk 5 0 [.mk 5 0 [kd t 2, kd (kd t 3) 0], .mk 9 0 [kd t 0, kd t 1, kd t 2, kd (kd t 3) 0]] := by simp [contractT, h, h']
theorem con_move {t : T} (h : t.k = 12) : contractT t = kd t 2 := by simp [contractT, h]
theorem con_fst {t : T} (h : t.k = 15) : contractT t = kd (kd t 0) 1 := by simp [contractT, h]
theorem con_snd {t : T} (h : t.k = 16) : contractT t = kd (kd t 0) 2 := by simp [contractT, h]
theorem und0 {k : Int} {i : Nat} (h : k ≠ 3 ∧ k ≠ 4 ∧ k ≠ 13) : under k i = 0 := by unfold under; rw [if_neg (by omega)]
theorem con_sh {t : T} (h : Rx t) {a : Int} (ha : 0 ≤ a) {c : Int} (hc : 0 ≤ c) : shT a (contractT t) c = contractT (shT a t c) := by
 cases h with
 | app h h' =>
  rw [con_app h, con_app (by rw [sh_k, h]), sh_sb _ ha _ c 0 0 (by omega) (by omega) hc]
  simp only [kd_sh, h, h', und0 (show (5 : Int) ≠ 3 ∧ (5 : Int) ≠ 4 ∧ (5 : Int) ≠ 13 by decide), show under 4 1 = 1 from rfl, Int.add_zero, Int.sub_zero]
 | zero h h' => rw [con_zero h h', con_zero (by rw [sh_k, h]) (by rw [kd_sh, sh_k, h']), kd_sh, und0 (by omega), Int.add_zero]
 | succ h h' =>
  rw [con_succ h h', con_succ (by rw [sh_k, h]) (by rw [kd_sh, sh_k, h'])]
  simp only [kd_sh, h, h', shT, shL, und0 (show (5 : Int) ≠ 3 ∧ (5 : Int) ≠ 4 ∧ (5 : Int) ≠ 13 by decide), und0 (show (9 : Int) ≠ 3 ∧ (9 : Int) ≠ 4 ∧ (9 : Int) ≠ 13 by decide), und0 (show (8 : Int) ≠ 3 ∧ (8 : Int) ≠ 4 ∧ (8 : Int) ≠ 13 by decide), Int.add_zero]
  simp
 | move h h' => rw [con_move h, con_move (by rw [sh_k, h]), kd_sh, und0 (by omega), Int.add_zero]
 | fst h h' => rw [con_fst h, con_fst (by rw [sh_k, h]), kd_sh, kd_sh, und0 (by omega), und0 (by omega), Int.add_zero, Int.add_zero]
 | snd h h' => rw [con_snd h, con_snd (by rw [sh_k, h]), kd_sh, kd_sh, und0 (by omega), und0 (by omega), Int.add_zero, Int.add_zero]
theorem con_sb {t : T} (h : Rx t) (u : T) {x d : Int} (h0 : 0 ≤ d) (h1 : d ≤ x) : sbT u (contractT t) x d = contractT (sbT u t x d) := by
 cases h with
 | app h h' =>
  rw [con_app h, con_app (by rw [sb_k (by omega), h]), sb_sb _ _ _ 0 0 x d (by omega) (by omega) h0 h1]
  simp only [kd_sb (show t.k ≠ 1 by omega), h, kd_sb (show (kd t 0).k ≠ 1 by omega), h', und0 (show (5 : Int) ≠ 3 ∧ (5 : Int) ≠ 4 ∧ (5 : Int) ≠ 13 by decide), show under 4 1 = 1 from rfl, Int.add_zero, Int.sub_zero]
 | zero h h' => rw [con_zero h h', con_zero (by rw [sb_k (by omega), h]) (by rw [kd_sb (by omega), sb_k (by omega), h']), kd_sb (by omega), und0 (by omega), Int.add_zero, Int.add_zero]
 | succ h h' =>
  rw [con_succ h h', con_succ (by rw [sb_k (by omega), h]) (by rw [kd_sb (by omega), sb_k (by omega), h'])]
  simp only [kd_sb (show t.k ≠ 1 by omega), kd_sb (show (kd t 3).k ≠ 1 by omega), h, h', sbT, sbL, und0 (show (5 : Int) ≠ 3 ∧ (5 : Int) ≠ 4 ∧ (5 : Int) ≠ 13 by decide), und0 (show (9 : Int) ≠ 3 ∧ (9 : Int) ≠ 4 ∧ (9 : Int) ≠ 13 by decide), und0 (show (8 : Int) ≠ 3 ∧ (8 : Int) ≠ 4 ∧ (8 : Int) ≠ 13 by decide), Int.add_zero]
  simp
 | move h h' => rw [con_move h, con_move (by rw [sb_k (by omega), h]), kd_sb (by omega), und0 (by omega), Int.add_zero, Int.add_zero]
 | fst h h' => rw [con_fst h, con_fst (by rw [sb_k (by omega), h]), kd_sb (by omega), kd_sb (by omega), und0 (by omega), und0 (by omega)]; simp only [Int.add_zero]
 | snd h h' => rw [con_snd h, con_snd (by rw [sb_k (by omega), h]), kd_sb (by omega), kd_sb (by omega), und0 (by omega), und0 (by omega)]; simp only [Int.add_zero]
mutual
inductive Par : T → T → Prop
 | node {k n ts us} (h : ParL ts us) : Par (.mk k n ts) (.mk k n us)
 | red {k n ts us} (h : ParL ts us) (hr : Rx (.mk k n ts)) : Par (.mk k n ts) (contractT (.mk k n us))
inductive ParL : List T → List T → Prop
 | nil : ParL [] []
 | cons {t u ts us} (h : Par t u) (hs : ParL ts us) : ParL (t :: ts) (u :: us)
end
mutual
theorem Par.refl : ∀ t : T, Par t t
 | .mk k n ts => .node (ParL.refl ts)
theorem ParL.refl : ∀ ts : List T, ParL ts ts
 | [] => .nil
 | t :: ts => .cons (Par.refl t) (ParL.refl ts)
end
theorem ParL.get : ∀ {ts us : List T}, ParL ts us → ∀ j, Par (ts.getD j junk) (us.getD j junk)
 | _, _, .nil, j => by simpa using Par.refl junk
 | _, _, .cons h hs, 0 => by simpa using h
 | _, _, .cons h hs, j + 1 => by simpa using hs.get j
theorem ParL.len : ∀ {ts us : List T}, ParL ts us → ts.length = us.length
 | _, _, .nil => rfl
 | _, _, .cons h hs => by simp [hs.len]
theorem ParL.kd {k n : Int} {ts us : List T} (h : ParL ts us) (j : Nat) : Par (kd (.mk k n ts) j) (kd (.mk k n us) j) := h.get j
theorem Par.head {t u : T} (h : Par t u) (hk : t.k ≠ 5 ∧ t.k ≠ 9 ∧ t.k ≠ 12 ∧ t.k ≠ 15 ∧ t.k ≠ 16) : u.k = t.k ∧ ∀ j, Par (kd t j) (kd u j) := by
 cases h with
 | node h => exact ⟨rfl, h.kd⟩
 | red h hr => have := hr.k; simp only [T.k] at this hk; omega
theorem Rx.par {k n : Int} {ts us : List T} (hp : ParL ts us) (h : Rx (.mk k n ts)) : Rx (.mk k n us) := by
 cases h with
 | app h h' => exact .app h (by rw [((hp.kd (k := k) (n := n) 0).head (by omega)).1, h'])
 | zero h h' => exact .zero h (by rw [((hp.kd (k := k) (n := n) 3).head (by omega)).1, h'])
 | succ h h' => exact .succ h (by rw [((hp.kd (k := k) (n := n) 3).head (by omega)).1, h'])
 | move h h' => exact .move h (by rw [((hp.kd (k := k) (n := n) 1).head (by omega)).1, h'])
 | fst h h' => exact .fst h (by rw [((hp.kd (k := k) (n := n) 0).head (by omega)).1, h'])
 | snd h h' => exact .snd h (by rw [((hp.kd (k := k) (n := n) 0).head (by omega)).1, h'])
mutual
theorem Par.sh {a : Int} (ha : 0 ≤ a) : ∀ {t u : T}, Par t u → ∀ c : Int, 0 ≤ c → Par (shT a t c) (shT a u c)
 | _, _, .node h, c, hc => by
  simp only [shT]
  exact .node (ParL.sh ha h _ 0 c hc)
 | _, _, .red (k := k) (n := n) (us := us) h hr, c, hc => by
  rw [con_sh (Rx.par h hr) ha hc]
  simp only [shT]
  exact .red (ParL.sh ha h _ 0 c hc) (by have := hr.sh a c; rwa [shT] at this)
theorem ParL.sh {a : Int} (ha : 0 ≤ a) : ∀ {ts us : List T}, ParL ts us → ∀ (k : Int) (i : Nat) (c : Int), 0 ≤ c → ParL (shL a k i ts c) (shL a k i us c)
 | _, _, .nil, k, i, c, hc => .nil
 | _, _, .cons h hs, k, i, c, hc => by
  have := under_bd k i
  simp only [shL]
  exact .cons (Par.sh ha h _ (by omega)) (ParL.sh ha hs k (i + 1) c hc)
end
mutual
theorem Par.sb {v w : T} (hv : Par v w) : ∀ {t u : T}, Par t u → ∀ x d : Int, 0 ≤ d → d ≤ x → Par (sbT v t x d) (sbT w u x d)
 | _, _, .node (k := k) (n := n) h, x, d, h0, h1 => by
  simp only [sbT]
  split
  ·exact hv.sh h0 0 (by omega)
  ·exact .node (ParL.sb hv h _ 0 x d h0 h1)
 | _, _, .red (k := k) (n := n) (us := us) h hr, x, d, h0, h1 => by
  have hk : k ≠ 1 := by have := hr.k; simp only [T.k] at this; omega
  rw [con_sb (Rx.par h hr) w h0 h1]
  simp only [sbT, hk, false_and, if_false]
  exact .red (ParL.sb hv h _ 0 x d h0 h1) (by have := hr.sb v x d; rwa [sbT, if_neg (fun hh => hk hh.1), if_neg (fun hh => hk hh.1)] at this)
theorem ParL.sb {v w : T} (hv : Par v w) : ∀ {ts us : List T}, ParL ts us → ∀ (k : Int) (i : Nat) (x d : Int), 0 ≤ d → d ≤ x → ParL (sbL v k i ts x d) (sbL w k i us x d)
 | _, _, .nil, k, i, x, d, h0, h1 => .nil
 | _, _, .cons h hs, k, i, x, d, h0, h1 => by
  have := under_bd k i
  simp only [sbL]
  exact .cons (Par.sb hv h _ _ (by omega) (by omega)) (ParL.sb hv hs k (i + 1) x d h0 h1)
end
theorem Par.con {k n : Int} {ts us : List T} (hp : ParL ts us) (h : Rx (.mk k n ts)) : Par (contractT (.mk k n ts)) (contractT (.mk k n us)) := by
 have hk := fun j => hp.kd (k := k) (n := n) j
 have hr := h.par hp
 cases h with
 | app h h' =>
  rw [con_app h, con_app (t := .mk k n us) h]
  exact Par.sb (hk 1) (((hk 0).head (by omega)).2 1) 0 0 (by omega) (by omega)
 | zero h h' => rw [con_zero h h', con_zero (t := .mk k n us) h (by rw [((hk 3).head (by omega)).1, h'])]; exact hk 1
 | succ h h' =>
  rw [con_succ h h', con_succ (t := .mk k n us) h (by rw [((hk 3).head (by omega)).1, h'])]
  have h0 := ((hk 3).head (by omega)).2 0
  exact .node (.cons (.node (.cons (hk 2) (.cons h0 .nil))) (.cons (.node (.cons (hk 0) (.cons (hk 1) (.cons (hk 2) (.cons h0 .nil))))) .nil))
 | move h h' => rw [con_move h, con_move (t := .mk k n us) h]; exact hk 2
 | fst h h' => rw [con_fst h, con_fst (t := .mk k n us) h]; exact ((hk 0).head (by omega)).2 1
 | snd h h' => rw [con_snd h, con_snd (t := .mk k n us) h]; exact ((hk 0).head (by omega)).2 2
instance (t : T) : Decidable (Rx t) := decidable_of_iff _ (rx_iff t)
mutual
def devT : T → T
 | .mk k n ts => if Rx (.mk k n ts) then contractT (.mk k n (devL ts)) else .mk k n (devL ts)
def devL : List T → List T
 | [] => []
 | t :: ts => devT t :: devL ts
end
mutual
theorem Par.tri : ∀ {t u : T}, Par t u → Par u (devT t)
 | _, _, .node (k := k) (n := n) (ts := ts) h => by
  rw [devT]
  split
  ·rename_i hr
   exact .red (ParL.tri h) (hr.par h)
  ·exact .node (ParL.tri h)
 | _, _, .red h hr => by
  rw [devT, if_pos hr]
  exact Par.con (ParL.tri h) (hr.par h)
theorem ParL.tri : ∀ {ts us : List T}, ParL ts us → ParL us (devL ts)
 | _, _, .nil => .nil
 | _, _, .cons h hs => .cons (Par.tri h) (ParL.tri hs)
end
theorem par_dev (t : T) : Par t (devT t) := (Par.refl t).tri
inductive Red : T → T → Prop
 | refl {t} : Red t t
 | step {t u v} (h : Par t u) (hs : Red u v) : Red t v
theorem Red.one {t u : T} (h : Par t u) : Red t u := .step h .refl
theorem Red.trans {t u v : T} (h : Red t u) (h' : Red u v) : Red t v := by
 induction h with
 | refl => exact h'
 | step h _ ih => exact .step h (ih h')
theorem Red.strip {t u v : T} (h : Par t u) (h' : Red t v) : ∃ w, Red u w ∧ Par v w := by
 induction h' generalizing u with
 | refl => exact ⟨u, .refl, h⟩
 | step h1 _ ih =>
  obtain ⟨w, hw, hv⟩ := ih h1.tri
  exact ⟨w, .step h.tri hw, hv⟩
theorem Red.confl {t u v : T} (h : Red t u) (h' : Red t v) : ∃ w, Red u w ∧ Red v w := by
 induction h generalizing v with
 | refl => exact ⟨v, h', .refl⟩
 | step h1 _ ih =>
  obtain ⟨w, hw, hv⟩ := Red.strip h1 h'
  obtain ⟨z, hz, hz'⟩ := ih hw
  exact ⟨z, hz, .step hv hz'⟩
mutual
def nfB : T → Bool
 | .mk k n ts => !decide (Rx (.mk k n ts)) && nfL ts
def nfL : List T → Bool
 | [] => true
 | t :: ts => nfB t && nfL ts
end
mutual
theorem nf_par : ∀ {t u : T}, Par t u → nfB t = true → u = t
 | _, _, .node h, hn => by
  simp only [nfB, Bool.and_eq_true] at hn
  rw [nf_parL h hn.2]
 | _, _, .red h hr, hn => by
  simp only [nfB, Bool.and_eq_true, Bool.not_eq_true', decide_eq_false_iff_not] at hn
  exact absurd hr hn.1
theorem nf_parL : ∀ {ts us : List T}, ParL ts us → nfL ts = true → us = ts
 | _, _, .nil, _ => rfl
 | _, _, .cons h hs, hn => by
  simp only [nfL, Bool.and_eq_true] at hn
  rw [nf_par h hn.1, nf_parL hs hn.2]
end
theorem nf_red {t u : T} (h : Red t u) (hn : nfB t = true) : u = t := by
 induction h with
 | refl => rfl
 | step h _ ih =>
  have := nf_par h hn
  subst this
  exact ih hn
theorem nf_uniq {t a b : T} (ha : Red t a) (hb : Red t b) (na : nfB a = true) (nb : nfB b = true) : a = b := by
 obtain ⟨w, h1, h2⟩ := Red.confl ha hb
 rw [← nf_red h1 na, ← nf_red h2 nb]
mutual
theorem nf_dev : ∀ {t : T}, nfB t = true → devT t = t
 | .mk k n ts, h => by
  simp only [nfB, Bool.and_eq_true, Bool.not_eq_true', decide_eq_false_iff_not] at h
  rw [devT, if_neg h.1, nf_devL h.2]
theorem nf_devL : ∀ {ts : List T}, nfL ts = true → devL ts = ts
 | [], _ => rfl
 | t :: ts, h => by
  simp only [nfL, Bool.and_eq_true] at h
  rw [devL, nf_dev h.1, nf_devL h.2]
end
mutual
def stT (inn : Bool) : T → Option T
 | .mk k n ts => if inn = false ∧ Rx (.mk k n ts) then some (contractT (.mk k n ts)) else
  match stL inn ts with
  | some us => some (.mk k n us)
  | none => if inn = true ∧ Rx (.mk k n ts) then some (contractT (.mk k n ts)) else none
def stL (inn : Bool) : List T → Option (List T)
 | [] => none
 | t :: ts => match stT inn t with
  | some u => some (u :: ts)
  | none => (stL inn ts).map (t :: ·)
end
mutual
theorem st_par {inn : Bool} : ∀ {t u : T}, stT inn t = some u → Par t u
 | .mk k n ts, u, h => by
  rw [stT] at h
  split at h
  ·rename_i hr
   obtain rfl := Option.some.inj h
   exact .red (ParL.refl ts) hr.2
  ·split at h
   ·rename_i us hs
    obtain rfl := Option.some.inj h
    exact .node (st_parL hs)
   ·split at h
    ·rename_i hr
     obtain rfl := Option.some.inj h
     exact .red (ParL.refl ts) hr.2
    ·cases h
theorem st_parL {inn : Bool} : ∀ {ts us : List T}, stL inn ts = some us → ParL ts us
 | [], us, h => by cases h
 | t :: ts, us, h => by
  rw [stL] at h
  split at h
  ·rename_i u hu
   obtain rfl := Option.some.inj h
   exact .cons (st_par hu) (ParL.refl ts)
  ·obtain ⟨vs, hv, rfl⟩ := Option.map_eq_some_iff.1 h
   exact .cons (Par.refl t) (st_parL hv)
end
mutual
theorem st_none {inn : Bool} : ∀ {t : T}, stT inn t = none ↔ nfB t = true
 | .mk k n ts => by
  rw [stT, nfB]
  have := st_noneL (inn := inn) (ts := ts)
  by_cases hr : Rx (.mk k n ts)
  ·cases inn <;> cases hs : stL _ ts <;> simp [hr]
  ·cases hs : stL inn ts <;> rw [hs] at this <;> simp [hr] at this ⊢ <;> exact this
theorem st_noneL {inn : Bool} : ∀ {ts : List T}, stL inn ts = none ↔ nfL ts = true
 | [] => by simp [stL, nfL]
 | t :: ts => by
  rw [stL, nfL]
  have h1 := st_none (inn := inn) (t := t)
  have h2 := st_noneL (inn := inn) (ts := ts)
  cases hs : stT inn t <;> rw [hs] at h1 <;> simp at h1
  ·cases ht : stL inn ts <;> rw [ht] at h2 <;> simp at h2 <;> simp [h1, h2]
  ·simp [h1]
end
mutual
theorem sh_size (a : Int) : ∀ (t : T) (c : Int), (shT a t c).size = t.size
 | .mk k n ts, c => by rw [shT, T.size, T.size, sh_sizeL a k ts 0 c]
theorem sh_sizeL (a k : Int) : ∀ (ts : List T) (i : Nat) (c : Int), T.sizeL (shL a k i ts c) = T.sizeL ts
 | [], i, c => rfl
 | t :: ts, i, c => by rw [shL, T.sizeL, T.sizeL, sh_size a t, sh_sizeL a k ts]
end
theorem size_pos (t : T) : 1 ≤ t.size := by have := T.size_eq t; omega
mutual
theorem sb_size (u : T) : ∀ (t : T) (x d : Int), (sbT u t x d).size ≤ t.size * u.size
 | .mk k n ts, x, d => by
  have hu := size_pos u
  rw [sbT]
  split
  ·rw [sh_size, T.size]; exact Nat.le_mul_of_pos_left _ (by omega)
  ·rw [T.size, T.size, Nat.add_mul, Nat.one_mul]
   have := sb_sizeL u k ts 0 x d
   omega
theorem sb_sizeL (u : T) (k : Int) : ∀ (ts : List T) (i : Nat) (x d : Int), T.sizeL (sbL u k i ts x d) ≤ T.sizeL ts * u.size
 | [], i, x, d => by simp [sbL, T.sizeL]
 | t :: ts, i, x, d => by
  rw [sbL, T.sizeL, T.sizeL, Nat.add_mul]
  have h1 := sb_size u t (x + under k i) (d + under k i)
  have h2 := sb_sizeL u k ts (i + 1) x d
  omega
end
theorem sh_len (a k : Int) : ∀ (ts : List T) (i : Nat) (c : Int), (shL a k i ts c).length = ts.length
 | [], i, c => rfl
 | t :: ts, i, c => by rw [shL, List.length_cons, List.length_cons, sh_len a k ts]
theorem sb_len (u : T) (k : Int) : ∀ (ts : List T) (i : Nat) (x d : Int), (sbL u k i ts x d).length = ts.length
 | [], i, x, d => rfl
 | t :: ts, i, x, d => by rw [sbL, List.length_cons, List.length_cons, sb_len u k ts]
theorem sh_elem (a k : Int) : ∀ (ts : List T) (i j : Nat) (c : Int) (h : j < ts.length), (shL a k i ts c)[j]'(by rw [sh_len]; exact h) = shT a ts[j] (c + under k (i + j))
 | t :: ts, i, 0, c, h => rfl
 | t :: ts, i, j + 1, c, h => by
  have := sh_elem a k ts (i + 1) j c (by simpa using h)
  simp only [shL, List.getElem_cons_succ]
  rw [this, show i + 1 + j = i + (j + 1) by omega]
theorem sb_elem (u : T) (k : Int) : ∀ (ts : List T) (i j : Nat) (x d : Int) (h : j < ts.length), (sbL u k i ts x d)[j]'(by rw [sb_len]; exact h) = sbT u ts[j] (x + under k (i + j)) (d + under k (i + j))
 | t :: ts, i, 0, x, d, h => rfl
 | t :: ts, i, j + 1, x, d, h => by
  have := sb_elem u k ts (i + 1) j x d (by simpa using h)
  simp only [sbL, List.getElem_cons_succ]
  rw [this, show i + 1 + j = i + (j + 1) by omega]
mutual
def gdB : T → Bool
 | .mk k n ts => decide (0 ≤ n ∧ n ≤ 20 ∧ (k = 1 → ts = [])) && gdL ts
def gdL : List T → Bool
 | [] => true
 | t :: ts => gdB t && gdL ts
end
theorem gdL_mem {u : T} : ∀ {ts : List T}, gdL ts = true → u ∈ ts → gdB u = true
 | t :: ts, h, hu => by
  simp only [gdL, Bool.and_eq_true] at h
  rcases List.mem_cons.1 hu with rfl | hu
  ·exact h.1
  ·exact gdL_mem h.2 hu
theorem gd_out {t : T} (h : gdB t = true) : 0 ≤ t.n ∧ t.n ≤ 20 ∧ (t.k = 1 → t.kids = []) ∧ ∀ u ∈ t.kids, gdB u = true := by
 cases t with | mk k n ts =>
 simp only [gdB, Bool.and_eq_true, decide_eq_true_eq] at h
 exact ⟨h.1.1, h.1.2.1, h.1.2.2, fun u hu => gdL_mem h.2 hu⟩
mutual
theorem gd_shape : ∀ (t : T) (d : Nat), shapeF t d = true → gdB t = true
 | .mk k n ts, d, h => by
  simp only [shapeF, Bool.and_eq_true, decide_eq_true_eq] at h
  simp only [gdB, Bool.and_eq_true, decide_eq_true_eq]
  refine ⟨⟨h.2.2.1.1, ?_, fun hk => ?_⟩, gd_shapeL ts _ h.2.2.2⟩
  ·have := h.2.2.1.2
   unfold mostOf at this
   split at this
   ·exact this
   ·split at this <;> omega
  ·subst hk
   have h0 := h.2.1
   have : (ts.length : Int) = 0 := by rw [← h0]; rfl
   exact List.eq_nil_of_length_eq_zero (by omega)
theorem gd_shapeL : ∀ (ts : List T) (d : Nat), shapeL ts d = true → gdL ts = true
 | [], d, _ => rfl
 | t :: ts, d, h => by
  simp only [shapeL, Bool.and_eq_true] at h
  rw [gdL, gd_shape t d h.1, gd_shapeL ts d h.2]; rfl
end
theorem gd_valid {t : T} (h : validB t = true) : gdB t = true := by
 unfold validB at h
 rw [Bool.and_eq_true] at h
 exact gd_shape t 30 h.1
mutual
def okS (a : Int) : T → Int → Bool
 | .mk k n ts, c => if k = 1 then (if c ≤ n then decide (c ≤ n + a) && decide (n + a ≤ 20) else true) else okSL a k 0 ts c
def okSL (a k : Int) : Nat → List T → Int → Bool
 | _, [], _ => true
 | i, t :: ts, c => okS a t (c + under k i) && okSL a k (i + 1) ts c
end
theorem kid_of {k n : Int} {ts : List T} (h : validB (.mk k n ts) = true) {u : T} (hu : u ∈ ts) : validB u = true := validB_kid h hu
mutual
theorem okS_valid {a : Int} (ha : 0 ≤ a) : ∀ (t : T) (c : Int), validB (shT a t c) = true → okS a t c = true
 | .mk k n ts, c, h => by
  rw [okS]
  rw [shT] at h
  split
  ·rename_i hk
   subst hk
   split
   ·rename_i hc
    have := (validB_ops h).2.2
    simp only [T.n, T.k, true_and, if_pos hc] at this
    have h3 : mostOf 1 = 20 := rfl
    rw [h3] at this
    simp; omega
   ·rfl
  ·exact okS_validL ha k ts 0 c fun u hu => kid_of h hu
theorem okS_validL {a : Int} (ha : 0 ≤ a) (k : Int) : ∀ (ts : List T) (i : Nat) (c : Int), (∀ u ∈ shL a k i ts c, validB u = true) → okSL a k i ts c = true
 | [], i, c, _ => rfl
 | t :: ts, i, c, h => by
  rw [shL] at h
  rw [okSL, okS_valid ha t _ (h _ (List.mem_cons_self ..)), okS_validL ha k ts (i + 1) c fun u hu => h u (List.mem_cons_of_mem _ hu)]; rfl
end
mutual
def okB (u : T) : T → Int → Int → Bool
 | .mk k n ts, x, d => if k = 1 then (if n = x then validB (shT d u 0) else true) else okBL u k 0 ts x d
def okBL (u : T) (k : Int) : Nat → List T → Int → Int → Bool
 | _, [], _, _ => true
 | i, t :: ts, x, d => okB u t (x + under k i) (d + under k i) && okBL u k (i + 1) ts x d
end
mutual
theorem okB_valid (u : T) : ∀ (t : T) (x d : Int), validB (sbT u t x d) = true → okB u t x d = true
 | .mk k n ts, x, d, h => by
  rw [okB]
  rw [sbT] at h
  split
  ·rename_i hk
   subst hk
   split
   ·rename_i hn
    rwa [if_pos ⟨rfl, hn⟩] at h
   ·rfl
  ·rename_i hk
   rw [if_neg (fun hh => hk hh.1)] at h
   exact okB_validL u k ts 0 x d fun u hu => kid_of h hu
theorem okB_validL (u : T) (k : Int) : ∀ (ts : List T) (i : Nat) (x d : Int), (∀ v ∈ sbL u k i ts x d, validB v = true) → okBL u k i ts x d = true
 | [], i, x, d, _ => rfl
 | t :: ts, i, x, d, h => by
  rw [sbL] at h
  rw [okBL, okB_valid u t _ _ (h _ (List.mem_cons_self ..)), okB_validL u k ts (i + 1) x d fun u hu => h u (List.mem_cons_of_mem _ hu)]; rfl
end
mutual
def wyT (inn : Bool) : T → Option (List Nat)
 | .mk k n ts => if inn = false ∧ Rx (.mk k n ts) then some [] else
  match wyL inn 0 ts with
  | some w => some w
  | none => if inn = true ∧ Rx (.mk k n ts) then some [] else none
def wyL (inn : Bool) : Nat → List T → Option (List Nat)
 | _, [] => none
 | i, t :: ts => match wyT inn t with
  | some w => some (i :: w)
  | none => wyL inn (i + 1) ts
end
def atT : T → List Nat → T
 | t, [] => t
 | t, i :: w => atT (kd t i) w
def puT : T → List Nat → T → T
 | _, [], u => u
 | t, i :: w, u => .mk t.k t.n (t.kids.set i (puT (kd t i) w u))
def wyOk : T → List Nat → Prop
 | _, [] => True
 | t, i :: w => i < t.kids.length ∧ wyOk (kd t i) w
mutual
theorem wy_some {inn : Bool} : ∀ {t : T} {w : List Nat}, wyT inn t = some w → wyOk t w ∧ Rx (atT t w) ∧ stT inn t = some (puT t w (contractT (atT t w)))
 | .mk k n ts, w, h => by
  rw [wyT] at h
  rw [stT]
  split at h
  ·rename_i hr
   obtain rfl := Option.some.inj h
   exact ⟨trivial, hr.2, by rw [if_pos hr]; rfl⟩
  ·rename_i hr
   rw [if_neg hr]
   split at h
   ·rename_i w' hw
    obtain rfl := Option.some.inj h
    obtain ⟨i, v, rfl, hi, h1, h2, h3⟩ := wy_someL hw
    refine ⟨⟨by simpa [T.kids] using hi, by simpa [kd, T.kids] using h1⟩, by simpa [atT, kd, T.kids] using h2, ?_⟩
    rw [h3]
    simp [puT, T.k, T.n, T.kids, kd, atT]
   ·rename_i hw
    split at h
    ·rename_i hr2
     obtain rfl := Option.some.inj h
     have hn : stL inn ts = none := wy_noneL hw
     refine ⟨trivial, hr2.2, ?_⟩
     rw [hn]
     simp only
     rw [if_pos hr2]; rfl
    ·cases h
theorem wy_someL {inn : Bool} : ∀ {ts : List T} {j : Nat} {w : List Nat}, wyL inn j ts = some w → ∃ i v, w = (j + i) :: v ∧ i < ts.length ∧ wyOk (ts.getD i junk) v ∧ Rx (atT (ts.getD i junk) v) ∧ stL inn ts = some (ts.set i (puT (ts.getD i junk) v (contractT (atT (ts.getD i junk) v))))
 | [], j, w, h => by cases h
 | t :: ts, j, w, h => by
  rw [wyL] at h
  rw [stL]
  split at h
  ·rename_i v hv
   obtain rfl := Option.some.inj h
   obtain ⟨h1, h2, h3⟩ := wy_some hv
   exact ⟨0, v, by simp, by simp, by simpa using h1, by simpa using h2, by rw [h3]; simp⟩
  ·rename_i hv
   obtain ⟨i, v, rfl, hi, h1, h2, h3⟩ := wy_someL h
   refine ⟨i + 1, v, by simp; omega, by simpa using hi, by simpa using h1, by simpa using h2, ?_⟩
   rw [wy_none hv, h3]; simp
theorem wy_none {inn : Bool} : ∀ {t : T}, wyT inn t = none → stT inn t = none
 | .mk k n ts, h => by
  rw [wyT] at h
  rw [stT]
  split at h
  ·cases h
  ·rename_i hr
   rw [if_neg hr]
   split at h
   ·cases h
   ·rename_i hw
    split at h
    ·cases h
    ·rename_i hr2
     rw [wy_noneL hw]
     simp only
     rw [if_neg hr2]
theorem wy_noneL {inn : Bool} : ∀ {ts : List T} {j : Nat}, wyL inn j ts = none → stL inn ts = none
 | [], j, _ => rfl
 | t :: ts, j, h => by
  rw [wyL] at h
  rw [stL]
  split at h
  ·cases h
  ·rename_i hv
   rw [wy_none hv, wy_noneL h]; rfl
end
theorem put_valid : ∀ {w : List Nat} {t u : T}, wyOk t w → validB (puT t w u) = true → validB u = true
 | [], t, u, _, h => h
 | i :: w, t, u, hw, h => by
  rw [puT] at h
  refine put_valid hw.2 (validB_kid h (u := puT (kd t i) w u) ?_)
  show _ ∈ t.kids.set i _
  exact List.mem_iff_getElem.2 ⟨i, by simpa using hw.1, by simp⟩
theorem kd_mem {t : T} {i : Nat} (h : i < t.kids.length) : kd t i ∈ t.kids := by
 rw [show kd t i = t.kids[i] by unfold kd; simp [List.getD, h]]
 exact List.getElem_mem h
theorem at_valid : ∀ {w : List Nat} {t : T}, wyOk t w → validB t = true → validB (atT t w) = true
 | [], t, _, h => h
 | i :: w, t, hw, h => at_valid (w := w) hw.2 (validB_kid h (kd_mem hw.1))
theorem put_size : ∀ {w : List Nat} {t u : T}, wyOk t w → (puT t w u).size ≤ t.size + u.size
 | [], t, u, _ => by simp [puT]
 | i :: w, t, u, hw => by
  rw [puT, T.size, T.size_eq t]
  have h1 := put_size (u := u) hw.2
  have h2 : ∀ (ts : List T) (i : Nat) (v : T) (s : Nat), i < ts.length → v.size ≤ (ts.getD i junk).size + s → T.sizeL (ts.set i v) ≤ T.sizeL ts + s := by
   intro ts
   induction ts with
   | nil => intro i v s h; simp at h
   | cons t ts ih =>
    intro i v s hi hv
    cases i with
    | zero => simp only [List.set_cons_zero, T.sizeL, List.getD_cons_zero] at hv ⊢; omega
    | succ i =>
     simp only [List.set_cons_succ, T.sizeL, List.getD_cons_succ] at hv ⊢
     have := ih i v s (by simpa using hi) hv
     omega
  have := h2 t.kids i _ u.size hw.1 h1
  omega
def redF (inn : Bool) : Nat → Nat → T → T × Nat × Int
 | 0, s, t => match stT inn t with
  | none => (t, s, 0)
  | some _ => (junk, s, 1)
 | g + 1, s, t => match stT inn t with
  | none => (t, s, 0)
  | some u => if validB u then redF inn g (s + 1) u else (junk, s, 2)
theorem redF_valid {inn : Bool} : ∀ (g s : Nat) (t : T), validB t = true → (redF inn g s t).2.2 = 0 → validB (redF inn g s t).1 = true
 | 0, s, t, hv, h => by
  rw [redF] at h ⊢
  cases hs : stT inn t with
  | none => exact hv
  | some u => rw [hs] at h; cases h
 | g + 1, s, t, hv, h => by
  rw [redF] at h ⊢
  cases hs : stT inn t with
  | none => exact hv
  | some u =>
   rw [hs] at h
   simp only at h ⊢
   cases hu : validB u with
   | false => rw [hu] at h; cases h
   | true =>
    rw [hu] at h
    exact redF_valid g (s + 1) u hu h
end Go.Proofs.Ytgchmppmecnniaa
end
section
namespace Go.Proofs.Ytgchmppmecnniaa
open Go
open Go.Dk (T)
def saT : Nat → T → List T → T × List T
 | 0, t, acc => (t, acc)
 | g + 1, t, acc => if t.k = 5 then saT g (kd t 0) (kd t 1 :: acc) else (t, acc)
def saR (t : T) : (T × List T) × Bool := if validB t = true then (saT 400 t [], true) else ((.mk 0 0 [], []), false)
theorem app_kids {t : T} (h : validB t = true) (hk : t.k = 5) : t.kids = [kd t 0, kd t 1] ∧ validB (kd t 0) = true ∧ validB (kd t 1) = true ∧ (kd t 0).size + (kd t 1).size < t.size := by
 have h1 := (validB_ops h).1
 rw [hk, show opsOf 5 = 2 from by decide] at h1
 obtain ⟨a, b, hab⟩ : ∃ a b, t.kids = [a, b] := by
  match hh : t.kids, h1 with
  | [a, b], _ => exact ⟨a, b, rfl⟩
 have e0 : kd t 0 = a := by unfold kd; rw [hab]; rfl
 have e1 : kd t 1 = b := by unfold kd; rw [hab]; rfl
 rw [e0, e1]
 refine ⟨hab, validB_kid h (by rw [hab]; simp), validB_kid h (by rw [hab]; simp), ?_⟩
 rw [Go.Dk.T.size_eq t, hab]; simp only [Go.Dk.T.sizeL]; omega
theorem sa_valid : ∀ (g : Nat) (t : T) (acc : List T), validB t = true → (∀ u ∈ acc, validB u = true) → validB (saT g t acc).1 = true ∧ (∀ u ∈ (saT g t acc).2, validB u = true) ∧ Go.Dk.T.sizeL (saT g t acc).2 ≤ t.size + Go.Dk.T.sizeL acc ∧ (saT g t acc).2.length ≤ g + acc.length
 | 0, t, acc, h, ha => ⟨h, ha, by show Go.Dk.T.sizeL acc ≤ _; omega, by show acc.length ≤ _; omega⟩
 | g + 1, t, acc, h, ha => by
  rw [saT]
  by_cases hk : t.k = 5
  ·obtain ⟨h1, h2, h3, h4⟩ := app_kids h hk
   rw [if_pos hk]
   obtain ⟨i1, i2, i3, i4⟩ := sa_valid g (kd t 0) (kd t 1 :: acc) h2 (by intro u hu; rcases List.mem_cons.1 hu with rfl | hu; exact h3; exact ha u hu)
   simp only [Go.Dk.T.sizeL, List.length_cons] at i3 i4
   exact ⟨i1, i2, by omega, by omega⟩
  ·rw [if_neg hk]; exact ⟨h, ha, by show Go.Dk.T.sizeL acc ≤ _; omega, by show acc.length ≤ _; omega⟩
end Go.Proofs.Ytgchmppmecnniaa
end
section
namespace Go.Proofs.Ytgchmppmecnniaa
open Go Go.Ab Go.Dk
def live : FuncId → Nat → Option (List Nat)
 | 26, 0 => some [0, 3, 4]
 | 29, 0 => some [0, 1, 5]
 | 58, 0 => some [0, 1, 5]
 | 61, 0 => some [0, 3, 4]
 | 62, 0 => some [2, 4, 7, 10, 11, 12]
 | 64, 0 => some [0, 1, 5]
 | 99, 0 => some [2, 4, 7, 8, 9]
 | 8, 0 => some [2, 4, 5, 6, 7]
 | 9, 0 => some [4, 6, 19, 20, 21]
 | 10, 0 => some [1, 4, 6, 7]
 | 12, 0 => some [1, 2, 5]
 | 13, 0 => some [0, 1, 5]
 | 15, 0 => some [1, 2, 5]
 | 42, 0 => some [2, 3, 12, 13, 14]
 | 88, 0 => some [1, 2, 4, 6]
 | 45, 0 => some [1, 2, 3, 4]
 | 89, 0 => some [1, 3, 5, 6, 7, 8]
 | 37, 0 => some [0, 1, 4, 5, 6, 7]
 | 44, 0 => some [0, 3]
 | 48, 0 => some [1, 2, 15, 16, 17]
 | 49, 0 => some [0, 2, 3]
 | 51, 0 => some [1, 2, 4, 15, 16, 17]
 | 52, 0 => some [1, 2, 4, 5, 6]
 | 53, 0 => some [1, 2, 3, 6, 9]
 | 54, 0 => some [12, 13, 14]
 | 78, 0 => some [1, 2, 5]
 | 79, 0 => some [1, 2, 5, 6]
 | 75, 0 => some [1, 2, 41, 42, 43]
 | 86, 0 => some [1, 2, 3, 24, 25, 26]
 | 57, 0 => some [1, 9, 10, 11]
 | 96, 0 => some [0, 1, 7, 8]
 | 101, 0 => some [0, 1, 2, 8]
 | 106, 0 => some [1, 2, 3, 6, 7, 24, 25, 26]
 | 110, 0 => some [1, 3, 4, 6, 8, 9, 10]
 | 111, 0 => some [0, 4, 5, 6]
 | 112, 0 => some [0, 1, 2, 3, 4, 12, 13]
 | 113, 0 => some [0, 3]
 | 114, 0 => some [0, 3, 4]
 | 116, 0 => some [1, 2, 3, 6, 7, 8]
 | 52, 1000012 => some []
 | _, _ => none
def ownF (f : FuncId) : Bool := hasN f [45, 91]
def ibF (f : FuncId) : Bool := false
def saP (args : List V1) : OR := match args with
 | [.agg [.int .i64 k, .int .i64 n, .fr (.ts ks)]] => if T.sizeL ks ≤ 1048576 then some ([.agg [.int .i64 (saR (.mk k n ks)).1.1.k, .int .i64 (saR (.mk k n ks)).1.1.n, .fr (.ts (saR (.mk k n ks)).1.1.kids)], .one (.fr (.ts (saR (.mk k n ks)).1.2)), .one (.bool (saR (.mk k n ks)).2)], []) else none
 | _ => none
def primF (f : FuncId) : Option (List V1 → OR) := cond (Nat.beq f 12) (some saP) none
noncomputable def SS : Say := ⟨⟨ownF, ibF⟩, live, primF⟩
noncomputable def FF := evF Try.prog SS
end Go.Proofs.Ytgchmppmecnniaa
end
section
namespace Go.Proofs.Ytgchmppmecnniaa
open Go Go.Ab Go.Dk
theorem E_impl_put (n : Nat) (v0 v1 : Int) (v2 : List T) (v3 : List Int) (v4 v5 : Int) (v6 : List T) : FF (n + 1) 63 [.agg [.int .i64 v0, .int .i64 v1, .fr (.ts v2)], .one (.fr (.is v3)), .agg [.int .i64 v4, .int .i64 v5, .fr (.ts v6)]] [] =
 (cond (decide ((v3.length : Int) = 0))
 (some ([.agg [.int .i64 v4, .int .i64 v5, .fr (.ts v6)]], []))
 ((FF n 91 [.one (.fr (.ts v2))] []).bind fun x0 =>
 (rOwn 0 x0.1 fun x1 =>
 (arrTsC 25 x0.2 fun x2 x3 =>
 (nilV x1 (nilO x3
 (v3[(0 : Int).toNat]?.bind fun x4 =>
 (v3[(0 : Int).toNat]?.bind fun x5 =>
 (cond (decide (0 ≤ x5))
 (v2[(x5 : Int).toNat]?.bind fun x6 =>
 (cond (Go.Ab.inB 1 v3.length v3.length)
 ((FF n 63 [.agg [.int .i64 x6.k, .int .i64 x6.n, .fr (.ts x6.kids)], .one (.fr (.is ((v3.take (v3.length : Int).toNat).drop (1 : Int).toNat))), .agg [.int .i64 v4, .int .i64 v5, .fr (.ts v6)]] []).bind fun x7 =>
 (rTerm x7.1 fun x8 x9 =>
 (nilV x9 (nilO x7.2
 (cond (decide (0 ≤ x4))
 (cond (decide (x4 < (x2.length : Int)))
 (some ([.agg [.int .i64 v0, .int .i64 v1, .fr (.ts (x2.set (x4 : Int).toNat (T.mk x8.k x8.n x8.kids)))]], []))
 none)
 none)))))
 none))
 none))))))))) := by kernel_rfl
noncomputable def L_impl_at_0_fo (n c : Nat) (v0 : List Int) (v1 v2 v3 v4 : Int) (v5 : List T) (v6 v7 : Int) (v8 : List T) : OR := runLoop Try.prog SS n 99 0 [1, 0, 1, 0] [] c ⟨[anyV, anyV, .v (.one (.ptr 0 0)), anyV, .v (.one (.ptr 1 0)), anyV, anyV, .v (.one (.fr (.is v0))), .v (.one (.int .i64 v1)), .v (.one (.int .i64 v2)), anyV, anyV, anyV, anyV, anyV, anyV, anyV, anyV, anyV, anyV],
 [.cells [.int .i64 v3, .int .i64 v4, .fr (.ts v5)], .cells [.int .i64 v6, .int .i64 v7, .own 2 0], .arr 25 (.ts v8) 0 false]⟩
theorem L_impl_at_0_fo_eq (n c : Nat) (v0 : List Int) (v1 v2 v3 v4 : Int) (v5 : List T) (v6 v7 : Int) (v8 : List T) : L_impl_at_0_fo n (c + 1) v0 v1 v2 v3 v4 v5 v6 v7 v8 =
 (cond (decide (v2 < v1))
 (cond (decide (0 ≤ v2))
 (v0[(v2 : Int).toNat]?.bind fun x0 =>
 (cond (decide (0 ≤ x0))
 (v5[(x0 : Int).toNat]?.bind fun x1 =>
 L_impl_at_0_fo n c v0 v1 (IntKind.i64.wrap (v2 + 1)) (x1.k) (x1.n) (x1.kids) v6 v7 v8)
 none))
 none)
 (some ([.agg [.int .i64 v3, .int .i64 v4, .fr (.ts v5)]], []))) := by kernel_rfl
theorem E_impl_at (n : Nat) (v0 v1 : Int) (v2 : List T) (v3 : List Int) : FF (n + 1) 99 [.agg [.int .i64 v0, .int .i64 v1, .fr (.ts v2)], .one (.fr (.is v3))] [] =
 L_impl_at_0_fo n n v3 ((v3.length : Int) : Int) 0 v0 v1 v2 0 0 ([]) := by kernel_rfl
theorem E_impl_TermSame (n : Nat) (v0 v1 : Int) (v2 : List T) (v3 v4 : Int) (v5 : List T) : FF (n + 1) 11 [.agg [.int .i64 v0, .int .i64 v1, .fr (.ts v2)], .agg [.int .i64 v3, .int .i64 v4, .fr (.ts v5)]] [] =
 (cond (decide (v0 = v3))
 (cond (decide (v1 = v4))
 ((FF n 48 [.one (.fr (.ts v2)), .one (.fr (.ts v5)), .one (.fn 11 [])] []).bind fun x0 =>
 (rBool x0.1 fun x1 x2 =>
 (nilV x2 (nilO x0.2
 (some ([.one (.bool x1)], []))))))
 (some ([.one (.bool false)], [])))
 (some ([.one (.bool false)], []))) := by kernel_rfl
theorem E_spec_DrawDevelopTerm (n : Nat) (v0 : List UInt8) : FF (n + 1) 16 [.one (.fr (.bs v0))] [] =
 ((FF n 50 [.one (.fr (.bs v0))] []).bind fun x0 =>
 (rTerm x0.1 fun x1 x2 =>
 (nilV x2 (nilO x0.2
 (some ([.agg [.int .i64 x1.k, .int .i64 x1.n, .fr (.ts x1.kids)]], [])))))) := by kernel_rfl
theorem E_impl_DevelopTerm (n : Nat) (v0 v1 : Int) (v2 : List T) : FF (n + 1) 17 [.agg [.int .i64 v0, .int .i64 v1, .fr (.ts v2)]] [] =
 ((FF n 38 [.agg [.int .i64 v0, .int .i64 v1, .fr (.ts v2)]] []).bind fun x0 =>
 (rBool x0.1 fun x1 x2 =>
 (nilV x2 (nilO x0.2
 (cond (!x1)
 (some ([.agg [.int .i64 0, .int .i64 0, .fr (.ts [])], .one (.bool false)], []))
 ((FF n 51 [.agg [.int .i64 v0, .int .i64 v1, .fr (.ts v2)]] []).bind fun x3 =>
 (rTerm x3.1 fun x4 x5 =>
 (rBool x5 fun x6 x7 =>
 (nilV x7 (nilO x3.2
 (some ([.agg [.int .i64 x4.k, .int .i64 x4.n, .fr (.ts x4.kids)], .one (.bool x6)], [])))))))))))) := by kernel_rfl
theorem E_spec_DevelopTerm (n : Nat) (v0 v1 : Int) (v2 : List T) : FF (n + 1) 18 [.agg [.int .i64 v0, .int .i64 v1, .fr (.ts v2)]] [] =
 ((FF n 43 [.agg [.int .i64 v0, .int .i64 v1, .fr (.ts v2)]] []).bind fun x0 =>
 (rBool x0.1 fun x1 x2 =>
 (nilV x2 (nilO x0.2
 (cond (!x1)
 (some ([.agg [.int .i64 0, .int .i64 0, .fr (.ts [])], .one (.bool false)], []))
 ((FF n 52 [.agg [.int .i64 v0, .int .i64 v1, .fr (.ts v2)]] []).bind fun x3 =>
 (rTerm x3.1 fun x4 x5 =>
 (rBool x5 fun x6 x7 =>
 (nilV x7 (nilO x3.2
 (cond (!x6)
 (some ([.agg [.int .i64 0, .int .i64 0, .fr (.ts [])], .one (.bool false)], []))
 (some ([.agg [.int .i64 x4.k, .int .i64 x4.n, .fr (.ts x4.kids)], .one (.bool true)], []))))))))))))) := by kernel_rfl
theorem E_impl_Normalize (n : Nat) (v0 v1 : Int) (v2 : List T) (v3 : Int) : FF (n + 1) 19 [.agg [.int .i64 v0, .int .i64 v1, .fr (.ts v2)], .one (.int .i64 v3)] [] =
 ((FF n 53 [.agg [.int .i64 v0, .int .i64 v1, .fr (.ts v2)], .one (.int .i64 v3), .one (.fn 54 [])] []).bind fun x0 =>
 (rTerm x0.1 fun x1 x2 =>
 (rInt .i64 x2 fun x3 x4 =>
 (rInt .i64 x4 fun x5 x6 =>
 (nilV x6 (nilO x0.2
 (some ([.agg [.int .i64 x1.k, .int .i64 x1.n, .fr (.ts x1.kids)], .one (.int .i64 x5)], [])))))))) := by kernel_rfl
theorem E_impl_NormalTerm (n : Nat) (v0 v1 : Int) (v2 : List T) : FF (n + 1) 20 [.agg [.int .i64 v0, .int .i64 v1, .fr (.ts v2)]] [] =
 ((FF n 38 [.agg [.int .i64 v0, .int .i64 v1, .fr (.ts v2)]] []).bind fun x0 =>
 (rBool x0.1 fun x1 x2 =>
 (nilV x2 (nilO x0.2
 (cond (!x1)
 (some ([.one (.bool false)], []))
 ((FF n 54 [.agg [.int .i64 v0, .int .i64 v1, .fr (.ts v2)]] []).bind fun x3 =>
 (rIs x3.1 fun x4 x5 =>
 (rBool x5 fun x6 x7 =>
 (nilV x7 (nilO x3.2
 (some ([.one (.bool (!x6))], [])))))))))))) := by kernel_rfl
theorem E_impl_MaxFree (n : Nat) (v0 v1 : Int) (v2 : List T) : FF (n + 1) 21 [.agg [.int .i64 v0, .int .i64 v1, .fr (.ts v2)]] [] =
 ((FF n 38 [.agg [.int .i64 v0, .int .i64 v1, .fr (.ts v2)]] []).bind fun x0 =>
 (rBool x0.1 fun x1 x2 =>
 (nilV x2 (nilO x0.2
 (cond (!x1)
 (some ([.one (.int .i64 (-1))], []))
 ((FF n 55 [.agg [.int .i64 v0, .int .i64 v1, .fr (.ts v2)]] []).bind fun x3 =>
 (rInt .i64 x3.1 fun x4 x5 =>
 (nilV x5 (nilO x3.2
 (some ([.one (.int .i64 x4)], []))))))))))) := by kernel_rfl
theorem E_spec_TermValid (n : Nat) (v0 v1 : Int) (v2 : List T) : FF (n + 1) 43 [.agg [.int .i64 v0, .int .i64 v1, .fr (.ts v2)]] [] =
 ((FF n 78 [.agg [.int .i64 v0, .int .i64 v1, .fr (.ts v2)], .one (.int .i64 30)] []).bind fun x0 =>
 (rBool x0.1 fun x1 x2 =>
 (nilV x2 (nilO x0.2
 (cond x1
 ((FF n 79 [.agg [.int .i64 v0, .int .i64 v1, .fr (.ts v2)], .one (.int .i64 400)] []).bind fun x3 =>
 (rInt .i64 x3.1 fun x4 x5 =>
 (nilV x5 (nilO x3.2
 (some ([.one (.bool (decide (x4 ≤ 400)))], []))))))
 (some ([.one (.bool false)], []))))))) := by kernel_rfl
theorem E_impl_TermValid (n : Nat) (v0 v1 : Int) (v2 : List T) : FF (n + 1) 38 [.agg [.int .i64 v0, .int .i64 v1, .fr (.ts v2)]] [] =
 ((FF n 75 [.agg [.int .i64 v0, .int .i64 v1, .fr (.ts v2)], .one (.int .i64 1), .one (.ptr 0 0)] [.cells [.int .i64 0]]).bind fun x0 =>
 (objC x0.2 fun x1 x2 =>
 (intC .i64 x1 fun x3 x4 =>
 (nilC x4
 (rBool x0.1 fun x5 x6 =>
 (nilV x6 (nilO x2
 (some ([.one (.bool x5)], []))))))))) := by kernel_rfl
noncomputable def L_impl_own_0_oo (n c : Nat) (v0 : List T) (v1 v2 v3 v4 : Int) (v5 : List T) (v6 v7 : Int) (v8 : List T) : OR := runLoop Try.prog SS n 42 0 [1, 1, 0, 1, 0] [] c ⟨[anyV, anyV, .v (.one (.ptr 0 0)), .v (.one (.ptr 2 0)), anyV, anyV, anyV, anyV, anyV, anyV, anyV, anyV, .v (.one (.fr (.ts v0))), .v (.one (.int .i64 v1)), .v (.one (.int .i64 v2)), anyV, anyV, anyV, anyV, anyV, anyV, anyV, anyV, anyV, anyV, anyV, anyV],
 [.cells [.int .i64 v3, .int .i64 v4, .own 1 0], .arr 25 (.ts v5) 0 false, .cells [.int .i64 v6, .int .i64 v7, .own 3 0], .arr 25 (.ts v8) 0 false]⟩
theorem L_impl_own_0_oo_eq (n c : Nat) (v0 : List T) (v1 v2 v3 v4 : Int) (v5 : List T) (v6 v7 : Int) (v8 : List T) : L_impl_own_0_oo n (c + 1) v0 v1 v2 v3 v4 v5 v6 v7 v8 =
 (cond (decide (v2 < v1))
 (cond (decide (0 ≤ v2))
 (v0[(v2 : Int).toNat]?.bind fun x0 =>
 ((FF n 42 [.agg [.int .i64 x0.k, .int .i64 x0.n, .fr (.ts x0.kids)]] []).bind fun x1 =>
 (rTerm x1.1 fun x2 x3 =>
 (nilV x3 (nilO x1.2
 (cond (roomB (v8 ++ [(T.mk x2.k x2.n x2.kids)]).length)
 (L_impl_own_0_oo n c v0 v1 (IntKind.i64.wrap (v2 + 1)) v3 v4 v5 v6 v7 (v8 ++ [(T.mk x2.k x2.n x2.kids)]))
 none))))))
 none)
 (some ([.agg [.int .i64 v6, .int .i64 v7, .fr (.ts v8)]], []))) := by kernel_rfl
theorem E_impl_own (n : Nat) (v0 v1 : Int) (v2 : List T) : FF (n + 1) 42 [.agg [.int .i64 v0, .int .i64 v1, .fr (.ts v2)]] [] =
 L_impl_own_0_oo n n v2 ((v2.length : Int) : Int) 0 0 0 ([]) v0 v1 ([]) := by kernel_rfl
theorem E_impl_valid (n : Nat) (v0 v1 : Int) (v2 : List T) : FF (n + 1) 41 [.agg [.int .i64 v0, .int .i64 v1, .fr (.ts v2)]] [] =
 ((FF n 38 [.agg [.int .i64 v0, .int .i64 v1, .fr (.ts v2)]] []).bind fun x0 =>
 (rBool x0.1 fun x1 x2 =>
 (nilV x2 (nilO x0.2
 (cond (!x1)
 (some ([.agg [.int .i64 0, .int .i64 0, .fr (.ts [])], .one (.bool false)], []))
 (some ([.agg [.int .i64 v0, .int .i64 v1, .fr (.ts v2)], .one (.bool true)], []))))))) := by kernel_rfl
noncomputable def L_spec_l1Copy_0_foo (n c : Nat) (v0 v1 v2 : Int) (v3 : List T) (v4 v5 : Int) (v6 : List T) (v7 v8 : Int) (v9 : List T) : OR := runLoop Try.prog SS n 45 0 [1, 1, 0, 1, 0] [] c ⟨[anyV, .v (.one (.ptr 0 0)), .v (.one (.ptr 1 0)), .v (.one (.ptr 3 0)), .v (.one (.int .i64 v0)), anyV, anyV, anyV, anyV, anyV, anyV, anyV, anyV, anyV, anyV, anyV, anyV, anyV, anyV, anyV, anyV, anyV, anyV, anyV, anyV, anyV, anyV, anyV, anyV],
 [.cells [.int .i64 v1, .int .i64 v2, .fr (.ts v3)], .cells [.int .i64 v4, .int .i64 v5, .own 2 0], .arr 25 (.ts v6) 0 false, .cells [.int .i64 v7, .int .i64 v8, .own 4 0], .arr 25 (.ts v9) 0 false]⟩
theorem L_spec_l1Copy_0_foo_eq (n c : Nat) (v0 v1 v2 : Int) (v3 : List T) (v4 v5 : Int) (v6 : List T) (v7 v8 : Int) (v9 : List T) : L_spec_l1Copy_0_foo n (c + 1) v0 v1 v2 v3 v4 v5 v6 v7 v8 v9 =
 (cond (decide (v0 < (v3.length : Int)))
 (cond (decide (0 ≤ v0))
 (v3[(v0 : Int).toNat]?.bind fun x0 =>
 ((FF n 45 [.agg [.int .i64 x0.k, .int .i64 x0.n, .fr (.ts x0.kids)]] []).bind fun x1 =>
 (rOwnT 0 x1.1 fun x2 x3 x4 =>
 (arrTsC 25 x1.2 fun x5 x6 =>
 (nilV x4 (nilO x6
 (cond (roomB (v9 ++ [(T.mk x2 x3 x5)]).length)
 (L_spec_l1Copy_0_foo n c (IntKind.i64.wrap (v0 + 1)) v1 v2 v3 v4 v5 v6 v7 v8 (v9 ++ [(T.mk x2 x3 x5)]))
 none)))))))
 none)
 (some ([.agg [.int .i64 v7, .int .i64 v8, .own 0 0]], [.arr 25 (.ts v9) 0 false]))) := by kernel_rfl
theorem E_spec_l1Copy (n : Nat) (v0 v1 : Int) (v2 : List T) : FF (n + 1) 45 [.agg [.int .i64 v0, .int .i64 v1, .fr (.ts v2)]] [] =
 L_spec_l1Copy_0_foo n n 0 v0 v1 v2 0 0 ([]) v0 v1 ([]) := by kernel_rfl
theorem E_impl_within (n : Nat) (v0 v1 v2 : Int) : FF (n + 1) 84 [.one (.int .i64 v0), .one (.int .i64 v1), .one (.int .i64 v2)] [] =
 (cond (decide (v1 ≤ v0))
 (some ([.one (.bool (decide (v0 ≤ v2)))], []))
 (some ([.one (.bool false)], []))) := by kernel_rfl
theorem E_impl_under (n : Nat) (v0 v1 : Int) : FF (n + 1) 90 [.one (.int .i64 v0), .one (.int .i64 v1)] [] =
 (cond (decide (v1 = 1))
 ((FF n 100 [.one (.int .i64 v0)] []).bind fun x0 =>
 (rBool x0.1 fun x1 x2 =>
 (nilV x2 (nilO x0.2
 (cond x1
 (some ([.one (.int .i64 1)], []))
 (some ([.one (.int .i64 0)], [])))))))
 (some ([.one (.int .i64 0)], []))) := by kernel_rfl
theorem E_slices_Clone (n : Nat) (v0 : List T) : FF (n + 1) 91 [.one (.fr (.ts v0))] [] =
 (cond (Nat.beq v0.length 0)
 (same (some ([.one (.own 0 0)], [.arr 25 (.ts []) 0 false]))
 (cond (roomB ([] ++ v0).length)
 (some ([.one (.own 0 0)], [.arr 25 (.ts ([] ++ v0)) 0 false]))
 none))
 (cond (roomB ([] ++ v0).length)
 (some ([.one (.own 0 0)], [.arr 25 (.ts ([] ++ v0)) 0 false]))
 none)) := by kernel_rfl
theorem E_spec_l19Open (n : Nat) (v0 : List UInt8) : FF (n + 1) 33 [.one (.fr (.bs v0))] [] =
 (cond (decide (2000 < (v0.length : Int)))
 (cond (Go.Ab.inB 0 2000 v0.length)
 (some ([.one (.ptr 0 0)], [.cells [.fr (.bs ((v0.take (2000 : Int).toNat).drop (0 : Int).toNat)), .int .i64 0]]))
 none)
 (some ([.one (.ptr 0 0)], [.cells [.fr (.bs v0), .int .i64 0]]))) := by kernel_rfl
theorem E_spec_l3Draw (n : Nat) (v0 : List UInt8) (v1 : Int) : FF (n + 1) 35 [.one (.ptr 0 0)] [.cells [.fr (.bs v0), .int .i64 v1]] =
 ((FF n 70 [] []).bind fun x0 =>
 (rStr x0.1 fun x1 x2 =>
 (nilV x2 (nilO x0.2
 (cond (decide ((bytesOf [40]).size + x1.size ≤ 9223372036854775807))
 (cond (decide (((bytesOf [40]) ++ x1).size + (bytesOf [32, 43, 43, 48, 41]).size ≤ 9223372036854775807))
 ((FF n 70 [] []).bind fun x3 =>
 (rStr x3.1 fun x4 x5 =>
 (nilV x5 (nilO x3.2
 (cond (decide ((bytesOf [40, 40]).size + x4.size ≤ 9223372036854775807))
 (cond (decide (((bytesOf [40, 40]) ++ x4).size + (bytesOf [32, 43, 43, 48, 41, 32, 43, 48, 41]).size ≤ 9223372036854775807))
 ((FF n 69 [.one (.ptr 0 0), .one (.fr (.ss [(((bytesOf [40]) ++ x1) ++ (bytesOf [32, 43, 43, 48, 41])), (((bytesOf [40, 40]) ++ x4) ++ (bytesOf [32, 43, 43, 48, 41, 32, 43, 48, 41])), (bytesOf [40, 91, 78, 93, 43, 35, 48, 32, 40, 91, 78, 93, 43, 43, 35, 48, 32, 48, 41, 41]), (bytesOf [94, 124, 40, 78, 42, 78, 41, 44, 40, 91, 78, 93, 35, 48, 32, 48, 41, 44, 43, 48, 124]), (bytesOf [95, 124, 40, 78, 42, 78, 41, 44, 48, 44, 40, 91, 78, 93, 43, 35, 48, 32, 48, 41, 124]), (bytesOf [64, 60, 91, 78, 93, 123, 78, 44, 48, 44, 35, 48, 125, 44, 33, 48, 44, 33, 48, 62]), (bytesOf [40, 91, 42, 48, 93, 91, 35, 48, 93, 35, 48, 32, 78, 41]), (bytesOf [40, 91, 78, 93, 40, 35, 48, 32, 35, 48, 41, 32, 91, 78, 93, 35, 48, 41]), (bytesOf [40, 91, 78, 93, 40, 35, 48, 32, 35, 48, 41, 32, 91, 78, 93, 40, 35, 48, 32, 35, 48, 41, 41]), (bytesOf [60, 91, 78, 93, 42, 48, 44, 78, 44, 91, 78, 93, 91, 42, 48, 93, 40, 78, 62, 35, 49, 41, 44, 43, 43, 43, 48, 62]), (bytesOf [91, 78, 93, 40, 91, 78, 93, 40, 35, 48, 32, 35, 49, 41, 32, 35, 48, 41]), (bytesOf [40, 40, 91, 40, 78, 62, 78, 41, 93, 91, 78, 93, 40, 35, 49, 32, 40, 35, 49, 32, 35, 48, 41, 41, 32, 91, 78, 93, 43, 35, 48, 41, 32, 35, 48, 41]), (bytesOf [60, 91, 78, 93, 78, 44, 48, 44, 91, 78, 93, 91, 78, 93, 35, 49, 44, 40, 91, 78, 93, 43, 35, 48, 32, 35, 50, 41, 62])]))] [.cells [.fr (.bs v0), .int .i64 v1]]).bind fun x6 =>
 (objC x6.2 fun x7 x8 =>
 (bsC x7 fun x9 x10 =>
 (intC .i64 x10 fun x11 x12 =>
 (nilC x12
 (rStr x6.1 fun x13 x14 =>
 (nilV x14 (nilO x8
 ((FF n 71 [.one (.str x13)] []).bind fun x15 =>
 (rTerm x15.1 fun x16 x17 =>
 (rBool x17 fun x18 x19 =>
 (nilV x19 (nilO x15.2
 (cond x18
 ((FF n 67 [.one (.ptr 0 0), .one (.int .i64 3)] [.cells [.fr (.bs x9), .int .i64 x11]]).bind fun x20 =>
 (objC x20.2 fun x21 x22 =>
 (bsC x21 fun x23 x24 =>
 (intC .i64 x24 fun x25 x26 =>
 (nilC x26
 (rInt .i64 x20.1 fun x27 x28 =>
 (nilV x28 (nilO x22
 (cond (decide (0 < x27))
 (some ([.agg [.int .i64 x16.k, .int .i64 x16.n, .fr (.ts x16.kids)]], [.cells [.fr (.bs x23), .int .i64 x25]]))
 ((FF n 72 [.one (.ptr 0 0)] [.cells [.fr (.bs x23), .int .i64 x25]]).bind fun x29 =>
 (objC x29.2 fun x30 x31 =>
 (bsC x30 fun x32 x33 =>
 (intC .i64 x33 fun x34 x35 =>
 (nilC x35
 (rTerm x29.1 fun x36 x37 =>
 (nilV x37 (nilO x31
 (some ([.agg [.int .i64 x36.k, .int .i64 x36.n, .fr (.ts x36.kids)]], [.cells [.fr (.bs x32), .int .i64 x34]])))))))))))))))))))
 ((FF n 72 [.one (.ptr 0 0)] [.cells [.fr (.bs x9), .int .i64 x11]]).bind fun x20 =>
 (objC x20.2 fun x21 x22 =>
 (bsC x21 fun x23 x24 =>
 (intC .i64 x24 fun x25 x26 =>
 (nilC x26
 (rTerm x20.1 fun x27 x28 =>
 (nilV x28 (nilO x22
 (some ([.agg [.int .i64 x27.k, .int .i64 x27.n, .fr (.ts x27.kids)]], [.cells [.fr (.bs x23), .int .i64 x25]]))))))))))))))))))))))))
 none)
 none)))))
 none)
 none))))) := by kernel_rfl
end Go.Proofs.Ytgchmppmecnniaa
end
section
namespace Go.Proofs.Ytgchmppmecnniaa
open Go Go.Ab Go.Dk
theorem E_spec_l1Mutate (n : Nat) (v0 v1 : Int) (v2 : List T) (v3 : List UInt8) (v4 : Int) : FF (n + 1) 34 [.one (.ptr 0 0), .agg [.int .i64 v0, .int .i64 v1, .fr (.ts v2)]] [.cells [.fr (.bs v3), .int .i64 v4]] =
 ((FF n 45 [.agg [.int .i64 v0, .int .i64 v1, .fr (.ts v2)]] []).bind fun x0 =>
 (rOwnT 0 x0.1 fun x1 x2 x3 =>
 (arrTsC 25 x0.2 fun x4 x5 =>
 (nilV x3 (nilO x5
 ((FF n 67 [.one (.ptr 0 0), .one (.int .i64 50)] [.cells [.fr (.bs v3), .int .i64 v4]]).bind fun x6 =>
 (objC x6.2 fun x7 x8 =>
 (bsC x7 fun x9 x10 =>
 (intC .i64 x10 fun x11 x12 =>
 (nilC x12
 (rInt .i64 x6.1 fun x13 x14 =>
 (nilV x14 (nilO x8
 (cond (decide (x13 = 0))
 ((FF n 36 [.one (.ptr 0 0), .one (.fr (.is [0, 17, 1, 5, 6]))] [.cells [.fr (.bs x9), .int .i64 x11]]).bind fun x15 =>
 (objC x15.2 fun x16 x17 =>
 (bsC x16 fun x18 x19 =>
 (intC .i64 x19 fun x20 x21 =>
 (nilC x21
 (rInt .i64 x15.1 fun x22 x23 =>
 (nilV x23 (nilO x17
 (some ([.agg [.int .i64 x22, .int .i64 x2, .fr (.ts x4)]], [.cells [.fr (.bs x18), .int .i64 x20]]))))))))))
 (cond (decide (x13 = 1))
 ((FF n 36 [.one (.ptr 0 0), .one (.fr (.is [21, (-1), 1, 9223372036854775807]))] [.cells [.fr (.bs x9), .int .i64 x11]]).bind fun x15 =>
 (objC x15.2 fun x16 x17 =>
 (bsC x16 fun x18 x19 =>
 (intC .i64 x19 fun x20 x21 =>
 (nilC x21
 (rInt .i64 x15.1 fun x22 x23 =>
 (nilV x23 (nilO x17
 (some ([.agg [.int .i64 x1, .int .i64 x22, .fr (.ts x4)]], [.cells [.fr (.bs x18), .int .i64 x20]]))))))))))
 (cond (decide (x13 = 2))
 ((FF n 68 [.one (.int .i64 7), .one (.int .i64 0)] []).bind fun x15 =>
 (rTerm x15.1 fun x16 x17 =>
 (nilV x17 (nilO x15.2
 (cond (roomB (x4 ++ [(T.mk x16.k x16.n x16.kids)]).length)
 (some ([.agg [.int .i64 x1, .int .i64 x2, .fr (.ts (x4 ++ [(T.mk x16.k x16.n x16.kids)]))]], [.cells [.fr (.bs x9), .int .i64 x11]]))
 none)))))
 (cond (decide (x13 = 3))
 ((FF n 46 [.one (.int .i64 8), .one (.fr (.ts [(T.mk x1 x2 x4)]))] []).bind fun x15 =>
 (rTerm x15.1 fun x16 x17 =>
 (nilV x17 (nilO x15.2
 (some ([.agg [.int .i64 x16.k, .int .i64 x16.n, .fr (.ts x16.kids)]], [.cells [.fr (.bs x9), .int .i64 x11]]))))))
 (cond (decide (x13 = 4))
 (cond (decide (0 < (x4.length : Int)))
 ((FF n 68 [.one (.int .i64 1), .one (.int .i64 25)] []).bind fun x15 =>
 (rTerm x15.1 fun x16 x17 =>
 (nilV x17 (nilO x15.2
 (cond (decide (0 < (x4.length : Int)))
 (some ([.agg [.int .i64 x1, .int .i64 x2, .fr (.ts (x4.set (0 : Int).toNat (T.mk x16.k x16.n x16.kids)))]], [.cells [.fr (.bs x9), .int .i64 x11]]))
 none)))))
 (some ([.agg [.int .i64 x1, .int .i64 x2, .fr (.ts x4)]], [.cells [.fr (.bs x9), .int .i64 x11]])))
 (some ([.agg [.int .i64 x1, .int .i64 x2, .fr (.ts x4)]], [.cells [.fr (.bs x9), .int .i64 x11]])))))))))))))))))))) := by kernel_rfl
theorem E_spec_l19Rd_num (n : Nat) (v0 : List Int) (v1 : List UInt8) (v2 : Int) : FF (n + 1) 36 [.one (.ptr 0 0), .one (.fr (.is v0))] [.cells [.fr (.bs v1), .int .i64 v2]] =
 ((FF n 67 [.one (.ptr 0 0), .one (.int .i64 (v0.length : Int))] [.cells [.fr (.bs v1), .int .i64 v2]]).bind fun x0 =>
 (objC x0.2 fun x1 x2 =>
 (bsC x1 fun x3 x4 =>
 (intC .i64 x4 fun x5 x6 =>
 (nilC x6
 (rInt .i64 x0.1 fun x7 x8 =>
 (nilV x8 (nilO x2
 (cond (decide (0 ≤ x7))
 (v0[(x7 : Int).toNat]?.bind fun x9 =>
 some ([.one (.int .i64 x9)], [.cells [.fr (.bs x3), .int .i64 x5]]))
 none))))))))) := by kernel_rfl
noncomputable def L_spec_l1Draw_0_foo (n c : Nat) (v0 v1 v2 : Int) (v3 : List UInt8) (v4 v5 v6 : Int) (v7 : List T) (v8 v9 : Int) (v10 : List T) : OR := runLoop Try.prog SS n 37 1 [1, 1, 1, 1, 1, 0, 1, 0] [] c ⟨[.v (.one (.ptr 0 0)), .v (.one (.int .i64 v0)), anyV, anyV, .v (.one (.ptr 1 0)), .v (.one (.int .i64 v1)), .v (.one (.ptr 3 0)), .v (.one (.int .i64 v2)), anyV, anyV, anyV, anyV, anyV, anyV, anyV, anyV, anyV, anyV, anyV, anyV, anyV, anyV, anyV, anyV, anyV, anyV, anyV, anyV, anyV, anyV, anyV, anyV, anyV, anyV, anyV, anyV, anyV, anyV, anyV, anyV, anyV],
 [.cells [.fr (.bs v3), .int .i64 v4], .cells [.int .i64 v5, .int .i64 v6, .own 2 0], .arr 25 (.ts v7) 0 false, .cells [.int .i64 v8, .int .i64 v9, .own 4 0], .arr 25 (.ts v10) 0 false]⟩
theorem L_spec_l1Draw_0_foo_eq (n c : Nat) (v0 v1 v2 : Int) (v3 : List UInt8) (v4 v5 v6 : Int) (v7 : List T) (v8 v9 : Int) (v10 : List T) : L_spec_l1Draw_0_foo n (c + 1) v0 v1 v2 v3 v4 v5 v6 v7 v8 v9 v10 =
 ((FF n 74 [.one (.int .i64 v1)] []).bind fun x0 =>
 (rInt .i64 x0.1 fun x1 x2 =>
 (nilV x2 (nilO x0.2
 (cond (decide (v2 < x1))
 ((FF n 37 [.one (.ptr 0 0), .one (.int .i64 (IntKind.i64.wrap (v0 - 1)))] [.cells [.fr (.bs v3), .int .i64 v4]]).bind fun x3 =>
 (objC x3.2 fun x4 x5 =>
 (bsC x4 fun x6 x7 =>
 (intC .i64 x7 fun x8 x9 =>
 (nilC x9
 (rTerm x3.1 fun x10 x11 =>
 (nilV x11 (nilO x5
 (cond (roomB (v10 ++ [(T.mk x10.k x10.n x10.kids)]).length)
 (L_spec_l1Draw_0_foo n c v0 v1 (IntKind.i64.wrap (v2 + 1)) x6 x8 v5 v6 v7 v8 v9 (v10 ++ [(T.mk x10.k x10.n x10.kids)]))
 none)))))))))
 (some ([.agg [.int .i64 v8, .int .i64 v9, .fr (.ts v10)]], [.cells [.fr (.bs v3), .int .i64 v4]]))))))) := by kernel_rfl
theorem E_spec_l1Draw (n : Nat) (v0 : Int) (v1 : List UInt8) (v2 : Int) : FF (n + 1) 37 [.one (.ptr 0 0), .one (.int .i64 v0)] [.cells [.fr (.bs v1), .int .i64 v2]] =
 ((FF n 36 [.one (.ptr 0 0), .one (.fr (.is [1, 5, 4, 8, 9, 3, 6, 7, 11, 15, 14, 10, 12, 13, 16, 2]))] [.cells [.fr (.bs v1), .int .i64 v2]]).bind fun x0 =>
 (objC x0.2 fun x1 x2 =>
 (bsC x1 fun x3 x4 =>
 (intC .i64 x4 fun x5 x6 =>
 (nilC x6
 (rInt .i64 x0.1 fun x7 x8 =>
 (nilV x8 (nilO x2
 (cond (decide (v0 < 2))
 ((FF n 36 [.one (.ptr 0 0), .one (.fr (.is [1, 7, 6, 2, 1]))] [.cells [.fr (.bs x3), .int .i64 x5]]).bind fun x9 =>
 (objC x9.2 fun x10 x11 =>
 (bsC x10 fun x12 x13 =>
 (intC .i64 x13 fun x14 x15 =>
 (nilC x15
 (rInt .i64 x9.1 fun x16 x17 =>
 (nilV x17 (nilO x11
 ((FF n 73 [.one (.int .i64 x16)] []).bind fun x18 =>
 (rInt .i64 x18.1 fun x19 x20 =>
 (nilV x20 (nilO x18.2
 (cond (decide (0 < x19))
 ((FF n 36 [.one (.ptr 0 0), .one (.fr (.is [0, 1, 0, 2, 1, 3]))] [.cells [.fr (.bs x12), .int .i64 x14]]).bind fun x21 =>
 (objC x21.2 fun x22 x23 =>
 (bsC x22 fun x24 x25 =>
 (intC .i64 x25 fun x26 x27 =>
 (nilC x27
 (rInt .i64 x21.1 fun x28 x29 =>
 (nilV x29 (nilO x23
 (L_spec_l1Draw_0_foo n n v0 x16 0 x24 x26 0 0 ([]) x16 x28 ([]))))))))))
 (L_spec_l1Draw_0_foo n n v0 x16 0 x12 x14 0 0 ([]) x16 0 ([])))))))))))))))
 ((FF n 73 [.one (.int .i64 x7)] []).bind fun x9 =>
 (rInt .i64 x9.1 fun x10 x11 =>
 (nilV x11 (nilO x9.2
 (cond (decide (0 < x10))
 ((FF n 36 [.one (.ptr 0 0), .one (.fr (.is [0, 1, 0, 2, 1, 3]))] [.cells [.fr (.bs x3), .int .i64 x5]]).bind fun x12 =>
 (objC x12.2 fun x13 x14 =>
 (bsC x13 fun x15 x16 =>
 (intC .i64 x16 fun x17 x18 =>
 (nilC x18
 (rInt .i64 x12.1 fun x19 x20 =>
 (nilV x20 (nilO x14
 (L_spec_l1Draw_0_foo n n v0 x7 0 x15 x17 0 0 ([]) x7 x19 ([]))))))))))
 (L_spec_l1Draw_0_foo n n v0 x7 0 x3 x5 0 0 ([]) x7 0 ([])))))))))))))))) := by kernel_rfl
theorem E_impl_node (n : Nat) (v0 : Int) (v1 : List T) : FF (n + 1) 40 [.one (.int .i64 v0), .one (.fr (.ts v1))] [] =
 some ([.agg [.int .i64 v0, .int .i64 0, .fr (.ts v1)]], []) := by kernel_rfl
theorem E_spec_l1Node (n : Nat) (v0 : Int) (v1 : List T) : FF (n + 1) 46 [.one (.int .i64 v0), .one (.fr (.ts v1))] [] =
 (cond (roomB ([] ++ v1).length)
 (some ([.agg [.int .i64 v0, .int .i64 0, .fr (.ts ([] ++ v1))]], []))
 none) := by kernel_rfl
noncomputable def L_slices_EqualFunc_impl_TermSame_0 (n c : Nat) (v0 v1 : List T) (v2 v3 : Int) : OR := runLoop Try.prog SS n 48 0 [1, 1, 0, 1, 0] [] c ⟨[anyV, .v (.one (.fr (.ts v0))), .v (.one (.fn 11 [])), anyV, anyV, anyV, anyV, anyV, anyV, anyV, anyV, anyV, anyV, anyV, anyV, .v (.one (.fr (.ts v1))), .v (.one (.int .i64 v2)), .v (.one (.int .i64 v3)), anyV, anyV, anyV, anyV, anyV, anyV, anyV, anyV, anyV, anyV, anyV, anyV, anyV, anyV],
 []⟩
theorem L_slices_EqualFunc_impl_TermSame_0_eq (n c : Nat) (v0 v1 : List T) (v2 v3 : Int) : L_slices_EqualFunc_impl_TermSame_0 n (c + 1) v0 v1 v2 v3 =
 (cond (decide (v3 < v2))
 (cond (decide (0 ≤ v3))
 (v1[(v3 : Int).toNat]?.bind fun x0 =>
 (cond (decide (0 ≤ v3))
 (v0[(v3 : Int).toNat]?.bind fun x1 =>
 ((FF n 11 [.agg [.int .i64 x0.k, .int .i64 x0.n, .fr (.ts x0.kids)], .agg [.int .i64 x1.k, .int .i64 x1.n, .fr (.ts x1.kids)]] []).bind fun x2 =>
 (rBool x2.1 fun x3 x4 =>
 (nilV x4 (nilO x2.2
 (cond (!x3)
 (some ([.one (.bool false)], []))
 (L_slices_EqualFunc_impl_TermSame_0 n c v0 v1 v2 (IntKind.i64.wrap (v3 + 1)))))))))
 none))
 none)
 (some ([.one (.bool true)], []))) := by kernel_rfl
theorem E_slices_EqualFunc_impl_TermSame (n : Nat) (v0 v1 : List T) : FF (n + 1) 48 [.one (.fr (.ts v0)), .one (.fr (.ts v1)), .one (.fn 11 [])] [] =
 (cond (!decide ((v0.length : Int) = (v1.length : Int)))
 (some ([.one (.bool false)], []))
 (L_slices_EqualFunc_impl_TermSame_0 n n v1 v0 ((v0.length : Int) : Int) 0)) := by kernel_rfl
theorem E_spec_DrawRedexOf (n : Nat) (v0 : List UInt8) : FF (n + 1) 50 [.one (.fr (.bs v0))] [] =
 ((FF n 33 [.one (.fr (.bs v0))] []).bind fun x0 =>
 (rPtr 0 x0.1 fun x1 =>
 (objC x0.2 fun x2 x3 =>
 (bsC x2 fun x4 x5 =>
 (intC .i64 x5 fun x6 x7 =>
 (nilC x7
 (nilV x1 (nilO x3
 ((FF n 35 [.one (.ptr 0 0)] [.cells [.fr (.bs x4), .int .i64 x6]]).bind fun x8 =>
 (objC x8.2 fun x9 x10 =>
 (bsC x9 fun x11 x12 =>
 (intC .i64 x12 fun x13 x14 =>
 (nilC x14
 (rTerm x8.1 fun x15 x16 =>
 (nilV x16 (nilO x10
 ((FF n 34 [.one (.ptr 0 0), .agg [.int .i64 x15.k, .int .i64 x15.n, .fr (.ts x15.kids)]] [.cells [.fr (.bs x11), .int .i64 x13]]).bind fun x17 =>
 (objC x17.2 fun x18 x19 =>
 (bsC x18 fun x20 x21 =>
 (intC .i64 x21 fun x22 x23 =>
 (nilC x23
 (rTerm x17.1 fun x24 x25 =>
 (nilV x25 (nilO x19
 (some ([.agg [.int .i64 x24.k, .int .i64 x24.n, .fr (.ts x24.kids)]], [])))))))))))))))))))))))))) := by kernel_rfl
noncomputable def L_impl_develop_0_foo (n c : Nat) (v0 : List T) (v1 v2 v3 v4 : Int) (v5 : List T) (v6 v7 : Int) (v8 : List T) (v9 v10 : Int) (v11 : List T) : OR := runLoop Try.prog SS n 51 0 [1, 1, 0, 1, 0] [] c ⟨[anyV, .v (.one (.ptr 0 0)), .v (.one (.ptr 1 0)), anyV, .v (.one (.ptr 3 0)), anyV, anyV, anyV, anyV, anyV, anyV, anyV, anyV, anyV, anyV, .v (.one (.fr (.ts v0))), .v (.one (.int .i64 v1)), .v (.one (.int .i64 v2)), anyV, anyV, anyV, anyV, anyV, anyV, anyV, anyV, anyV, anyV, anyV, anyV, anyV, anyV, anyV, anyV, anyV, anyV, anyV, anyV, anyV, anyV, anyV, anyV, anyV, anyV, anyV, anyV, anyV, anyV],
 [.cells [.int .i64 v3, .int .i64 v4, .fr (.ts v5)], .cells [.int .i64 v6, .int .i64 v7, .own 2 0], .arr 25 (.ts v8) 0 false, .cells [.int .i64 v9, .int .i64 v10, .own 4 0], .arr 25 (.ts v11) 0 false]⟩
theorem L_impl_develop_0_foo_eq (n c : Nat) (v0 : List T) (v1 v2 v3 v4 : Int) (v5 : List T) (v6 v7 : Int) (v8 : List T) (v9 v10 : Int) (v11 : List T) : L_impl_develop_0_foo n (c + 1) v0 v1 v2 v3 v4 v5 v6 v7 v8 v9 v10 v11 =
 (cond (decide (v2 < v1))
 (cond (decide (0 ≤ v2))
 (v0[(v2 : Int).toNat]?.bind fun x0 =>
 ((FF n 51 [.agg [.int .i64 x0.k, .int .i64 x0.n, .fr (.ts x0.kids)]] []).bind fun x1 =>
 (rTerm x1.1 fun x2 x3 =>
 (rBool x3 fun x4 x5 =>
 (nilV x5 (nilO x1.2
 (cond (!x4)
 (some ([.agg [.int .i64 0, .int .i64 0, .fr (.ts [])], .one (.bool false)], []))
 (cond (roomB (v11 ++ [(T.mk x2.k x2.n x2.kids)]).length)
 (L_impl_develop_0_foo n c v0 v1 (IntKind.i64.wrap (v2 + 1)) v3 v4 v5 v6 v7 v8 v9 v10 (v11 ++ [(T.mk x2.k x2.n x2.kids)]))
 none))))))))
 none)
 ((FF n 38 [.agg [.int .i64 v9, .int .i64 v10, .fr (.ts v11)]] []).bind fun x0 =>
 (rBool x0.1 fun x1 x2 =>
 (nilV x2 (nilO x0.2
 (cond (!x1)
 (some ([.agg [.int .i64 0, .int .i64 0, .fr (.ts [])], .one (.bool false)], []))
 ((FF n 80 [.agg [.int .i64 v3, .int .i64 v4, .fr (.ts v5)]] []).bind fun x3 =>
 (rInt .i64 x3.1 fun x4 x5 =>
 (nilV x5 (nilO x3.2
 (cond (decide (x4 = 0))
 (some ([.agg [.int .i64 v9, .int .i64 v10, .fr (.ts v11)], .one (.bool true)], []))
 ((FF n 81 [.agg [.int .i64 v9, .int .i64 v10, .fr (.ts v11)]] []).bind fun x6 =>
 (rTerm x6.1 fun x7 x8 =>
 (rBool x8 fun x9 x10 =>
 (nilV x10 (nilO x6.2
 (some ([.agg [.int .i64 x7.k, .int .i64 x7.n, .fr (.ts x7.kids)], .one (.bool x9)], [])))))))))))))))))) := by kernel_rfl
theorem E_impl_develop (n : Nat) (v0 v1 : Int) (v2 : List T) : FF (n + 1) 51 [.agg [.int .i64 v0, .int .i64 v1, .fr (.ts v2)]] [] =
 L_impl_develop_0_foo n n v2 ((v2.length : Int) : Int) 0 v0 v1 v2 0 0 ([]) v0 v1 ([]) := by kernel_rfl
noncomputable def L_spec_l4Develop_0_foo (n c : Nat) (v0 : Bool) (v1 v2 v3 : Int) (v4 : List T) (v5 v6 : Int) (v7 : List T) (v8 v9 : Int) (v10 : List T) : OR := runLoop Try.prog SS n 52 0 [1, 1, 1, 0, 1, 0] [] c ⟨[anyV, .v (.one (.ptr 0 0)), .v (.one (.ptr 1 0)), anyV, .v (.one (.bool v0)), .v (.one (.ptr 3 0)), .v (.one (.int .i64 v1)), anyV, anyV, anyV, anyV, anyV, anyV, anyV, anyV, anyV, anyV, anyV, anyV, anyV, anyV, anyV, anyV, anyV, anyV, anyV, anyV, anyV, anyV, anyV, anyV, anyV, anyV, anyV, anyV, anyV, anyV, anyV, anyV, anyV, anyV, anyV, anyV, anyV, anyV, anyV, anyV, anyV],
 [.cells [.int .i64 v2, .int .i64 v3, .fr (.ts v4)], .cells [.int .i64 v5, .int .i64 v6, .own 2 0], .arr 25 (.ts v7) 0 false, .cells [.int .i64 v8, .int .i64 v9, .own 4 0], .arr 25 (.ts v10) 0 false]⟩
theorem L_spec_l4Develop_0_foo_eq (n c : Nat) (v0 : Bool) (v1 v2 v3 : Int) (v4 : List T) (v5 v6 : Int) (v7 : List T) (v8 v9 : Int) (v10 : List T) : L_spec_l4Develop_0_foo n (c + 1) v0 v1 v2 v3 v4 v5 v6 v7 v8 v9 v10 =
 (cond (decide (v1 < (v4.length : Int)))
 (cond (decide (0 ≤ v1))
 (v4[(v1 : Int).toNat]?.bind fun x0 =>
 ((FF n 52 [.agg [.int .i64 x0.k, .int .i64 x0.n, .fr (.ts x0.kids)]] []).bind fun x1 =>
 (rTerm x1.1 fun x2 x3 =>
 (rBool x3 fun x4 x5 =>
 (nilV x5 (nilO x1.2
 (cond (!x4)
 (some ([.agg [.int .i64 0, .int .i64 0, .fr (.ts [])], .one (.bool false)], []))
 (cond (roomB (v10 ++ [(T.mk x2.k x2.n x2.kids)]).length)
 (L_spec_l4Develop_0_foo n c v0 (IntKind.i64.wrap (v1 + 1)) v2 v3 v4 v5 v6 v7 v8 v9 (v10 ++ [(T.mk x2.k x2.n x2.kids)]))
 none))))))))
 none)
 (cond v0
 ((FF n 83 [.agg [.int .i64 v8, .int .i64 v9, .fr (.ts v10)]] []).bind fun x0 =>
 (rTerm x0.1 fun x1 x2 =>
 (nilV x2 (nilO x0.2
 ((FF n 43 [.agg [.int .i64 x1.k, .int .i64 x1.n, .fr (.ts x1.kids)]] []).bind fun x3 =>
 (rBool x3.1 fun x4 x5 =>
 (nilV x5 (nilO x3.2
 (some ([.agg [.int .i64 x1.k, .int .i64 x1.n, .fr (.ts x1.kids)], .one (.bool x4)], []))))))))))
 ((FF n 43 [.agg [.int .i64 v8, .int .i64 v9, .fr (.ts v10)]] []).bind fun x0 =>
 (rBool x0.1 fun x1 x2 =>
 (nilV x2 (nilO x0.2
 (some ([.agg [.int .i64 v8, .int .i64 v9, .fr (.ts v10)], .one (.bool x1)], [])))))))) := by kernel_rfl
theorem E_spec_l4Develop (n : Nat) (v0 v1 : Int) (v2 : List T) : FF (n + 1) 52 [.agg [.int .i64 v0, .int .i64 v1, .fr (.ts v2)]] [] =
 ((FF n 82 [.agg [.int .i64 v0, .int .i64 v1, .fr (.ts v2)]] []).bind fun x0 =>
 (rInt .i64 x0.1 fun x1 x2 =>
 (nilV x2 (nilO x0.2
 (L_spec_l4Develop_0_foo n n (!decide (x1 = 0)) 0 v0 v1 v2 0 0 ([]) v0 v1 ([])))))) := by kernel_rfl
noncomputable def L_impl_reduce_impl_outer_0_fo (n c : Nat) (v0 v1 v2 v3 : Int) (v4 : List T) (v5 v6 : Int) (v7 : List T) : OR := runLoop Try.prog SS n 53 0 [1, 1, 1, 0] [] c ⟨[anyV, .v (.one (.int .i64 v0)), .v (.one (.fn 54 [])), .v (.one (.ptr 0 0)), anyV, anyV, .v (.one (.ptr 1 0)), anyV, anyV, .v (.one (.int .i64 v1)), anyV, anyV, anyV, anyV, anyV, anyV, anyV, anyV, anyV, anyV, anyV, anyV, anyV, anyV, anyV, anyV, anyV, anyV, anyV, anyV, anyV, anyV, anyV, anyV, anyV, anyV, anyV, anyV, anyV, anyV, anyV, anyV, anyV, anyV, anyV, anyV, anyV, anyV, anyV, anyV, anyV],
 [.cells [.int .i64 v2, .int .i64 v3, .fr (.ts v4)], .cells [.int .i64 v5, .int .i64 v6, .own 2 0], .arr 25 (.ts v7) 0 false]⟩
theorem L_impl_reduce_impl_outer_0_fo_eq (n c : Nat) (v0 v1 v2 v3 : Int) (v4 : List T) (v5 v6 : Int) (v7 : List T) : L_impl_reduce_impl_outer_0_fo n (c + 1) v0 v1 v2 v3 v4 v5 v6 v7 =
 ((FF n 54 [.agg [.int .i64 v2, .int .i64 v3, .fr (.ts v4)]] []).bind fun x0 =>
 (rIs x0.1 fun x1 x2 =>
 (rBool x2 fun x3 x4 =>
 (nilV x4 (nilO x0.2
 (cond (!x3)
 ((FF n 42 [.agg [.int .i64 v2, .int .i64 v3, .fr (.ts v4)]] []).bind fun x5 =>
 (rTerm x5.1 fun x6 x7 =>
 (nilV x7 (nilO x5.2
 (some ([.agg [.int .i64 x6.k, .int .i64 x6.n, .fr (.ts x6.kids)], .one (.int .i64 v1), .one (.int .i64 0)], []))))))
 (cond (decide (v1 = v0))
 (some ([.agg [.int .i64 0, .int .i64 0, .fr (.ts [])], .one (.int .i64 v1), .one (.int .i64 1)], []))
 ((FF n 85 [.agg [.int .i64 v2, .int .i64 v3, .fr (.ts v4)], .one (.fr (.is x1))] []).bind fun x5 =>
 (rTerm x5.1 fun x6 x7 =>
 (rBool x7 fun x8 x9 =>
 (nilV x9 (nilO x5.2
 (cond (!x8)
 (some ([.agg [.int .i64 0, .int .i64 0, .fr (.ts [])], .one (.int .i64 v1), .one (.int .i64 2)], []))
 (L_impl_reduce_impl_outer_0_fo n c v0 (IntKind.i64.wrap (v1 + 1)) (x6.k) (x6.n) (x6.kids) v5 v6 v7)))))))))))))) := by kernel_rfl
theorem E_impl_reduce_impl_outer (n : Nat) (v0 v1 : Int) (v2 : List T) (v3 : Int) : FF (n + 1) 53 [.agg [.int .i64 v0, .int .i64 v1, .fr (.ts v2)], .one (.int .i64 v3), .one (.fn 54 [])] [] =
 ((FF n 38 [.agg [.int .i64 v0, .int .i64 v1, .fr (.ts v2)]] []).bind fun x0 =>
 (rBool x0.1 fun x1 x2 =>
 (nilV x2 (nilO x0.2
 (cond (!x1)
 (some ([.agg [.int .i64 0, .int .i64 0, .fr (.ts [])], .one (.int .i64 0), .one (.int .i64 3)], []))
 ((FF n 84 [.one (.int .i64 v3), .one (.int .i64 0), .one (.int .i64 200)] []).bind fun x3 =>
 (rBool x3.1 fun x4 x5 =>
 (nilV x5 (nilO x3.2
 (cond (!x4)
 (some ([.agg [.int .i64 0, .int .i64 0, .fr (.ts [])], .one (.int .i64 0), .one (.int .i64 3)], []))
 (L_impl_reduce_impl_outer_0_fo n n v3 0 v0 v1 v2 0 0 ([])))))))))))) := by kernel_rfl
noncomputable def L_impl_outer_0 (n c : Nat) (v0 : List T) (v1 v2 : Int) : OR := runLoop Try.prog SS n 54 0 [1, 1, 0, 1, 0] [] c ⟨[anyV, anyV, anyV, anyV, anyV, anyV, anyV, anyV, anyV, anyV, anyV, anyV, .v (.one (.fr (.ts v0))), .v (.one (.int .i64 v1)), .v (.one (.int .i64 v2)), anyV, anyV, anyV, anyV, anyV, anyV, anyV, anyV, anyV, anyV, anyV, anyV, anyV, anyV, anyV],
 []⟩
theorem L_impl_outer_0_eq (n c : Nat) (v0 : List T) (v1 v2 : Int) : L_impl_outer_0 n (c + 1) v0 v1 v2 =
 (cond (decide (v2 < v1))
 (cond (decide (0 ≤ v2))
 (v0[(v2 : Int).toNat]?.bind fun x0 =>
 ((FF n 54 [.agg [.int .i64 x0.k, .int .i64 x0.n, .fr (.ts x0.kids)]] []).bind fun x1 =>
 (rIs x1.1 fun x2 x3 =>
 (rBool x3 fun x4 x5 =>
 (nilV x5 (nilO x1.2
 (cond x4
 (cond (roomB ([v2] ++ x2).length)
 (some ([.one (.fr (.is ([v2] ++ x2))), .one (.bool true)], []))
 none)
 (L_impl_outer_0 n c v0 v1 (IntKind.i64.wrap (v2 + 1))))))))))
 none)
 (some ([.one (.fr (.is [])), .one (.bool false)], []))) := by kernel_rfl
theorem E_impl_outer (n : Nat) (v0 v1 : Int) (v2 : List T) : FF (n + 1) 54 [.agg [.int .i64 v0, .int .i64 v1, .fr (.ts v2)]] [] =
 ((FF n 80 [.agg [.int .i64 v0, .int .i64 v1, .fr (.ts v2)]] []).bind fun x0 =>
 (rInt .i64 x0.1 fun x1 x2 =>
 (nilV x2 (nilO x0.2
 (cond (!decide (x1 = 0))
 (some ([.one (.fr (.is [])), .one (.bool true)], []))
 (L_impl_outer_0 n n v2 ((v2.length : Int) : Int) 0)))))) := by kernel_rfl
theorem E_impl_maxFree (n : Nat) (v0 v1 : Int) (v2 : List T) : FF (n + 1) 55 [.agg [.int .i64 v0, .int .i64 v1, .fr (.ts v2)]] [] =
 ((FF n 86 [.agg [.int .i64 v0, .int .i64 v1, .fr (.ts v2)], .one (.int .i64 0), .one (.fn 87 [0])] [.cells [.int .i64 0]]).bind fun x0 =>
 (objC x0.2 fun x1 x2 =>
 (intC .i64 x1 fun x3 x4 =>
 (nilC x4
 (nilV x0.1 (nilO x2
 (some ([.one (.int .i64 x3)], [])))))))) := by kernel_rfl
noncomputable def L_spec_l1Shape_0 (n c : Nat) (v0 v1 v2 v3 : Int) (v4 : List T) : OR := runLoop Try.prog SS n 78 0 [1, 1, 0, 1, 0] [] c ⟨[anyV, .v (.one (.int .i64 v0)), .v (.one (.ptr 0 0)), anyV, anyV, .v (.one (.int .i64 v1)), anyV, anyV, anyV, anyV, anyV, anyV, anyV, anyV, anyV, anyV, anyV, anyV, anyV, anyV, anyV, anyV, anyV, anyV, anyV, anyV, anyV, anyV, anyV, anyV, anyV, anyV, anyV, anyV, anyV, anyV, anyV, anyV, anyV, anyV, anyV, anyV, anyV, anyV, anyV, anyV],
 [.cells [.int .i64 v2, .int .i64 v3, .fr (.ts v4)]]⟩
theorem L_spec_l1Shape_0_eq (n c : Nat) (v0 v1 v2 v3 : Int) (v4 : List T) : L_spec_l1Shape_0 n (c + 1) v0 v1 v2 v3 v4 =
 (cond (decide (v1 < (v4.length : Int)))
 (cond (decide (0 ≤ v1))
 (v4[(v1 : Int).toNat]?.bind fun x0 =>
 ((FF n 78 [.agg [.int .i64 x0.k, .int .i64 x0.n, .fr (.ts x0.kids)], .one (.int .i64 (IntKind.i64.wrap (v0 - 1)))] []).bind fun x1 =>
 (rBool x1.1 fun x2 x3 =>
 (nilV x3 (nilO x1.2
 (cond (!x2)
 (some ([.one (.bool false)], []))
 (L_spec_l1Shape_0 n c v0 (IntKind.i64.wrap (v1 + 1)) v2 v3 v4)))))))
 none)
 (some ([.one (.bool true)], []))) := by kernel_rfl
theorem E_spec_l1Shape (n : Nat) (v0 v1 : Int) (v2 : List T) (v3 : Int) : FF (n + 1) 78 [.agg [.int .i64 v0, .int .i64 v1, .fr (.ts v2)], .one (.int .i64 v3)] [] =
 (cond (decide (v3 < 1))
 (some ([.one (.bool false)], []))
 ((FF n 74 [.one (.int .i64 v0)] []).bind fun x0 =>
 (rInt .i64 x0.1 fun x1 x2 =>
 (nilV x2 (nilO x0.2
 (cond (!decide (x1 = (v2.length : Int)))
 (some ([.one (.bool false)], []))
 (cond (decide (v1 < 0))
 (some ([.one (.bool false)], []))
 ((FF n 73 [.one (.int .i64 v0)] []).bind fun x3 =>
 (rInt .i64 x3.1 fun x4 x5 =>
 (nilV x5 (nilO x3.2
 (cond (decide (x4 < v1))
 (some ([.one (.bool false)], []))
 (L_spec_l1Shape_0 n n v3 0 v0 v1 v2))))))))))))) := by kernel_rfl
noncomputable def L_spec_l1Count_0 (n c : Nat) (v0 v1 v2 v3 v4 : Int) (v5 : List T) : OR := runLoop Try.prog SS n 79 0 [1, 1, 0, 1, 0] [] c ⟨[anyV, .v (.one (.int .i64 v0)), .v (.one (.ptr 0 0)), anyV, anyV, .v (.one (.int .i64 v1)), .v (.one (.int .i64 v2)), anyV, anyV, anyV, anyV, anyV, anyV, anyV, anyV, anyV, anyV, anyV, anyV, anyV, anyV, anyV, anyV, anyV, anyV, anyV, anyV, anyV, anyV, anyV, anyV],
 [.cells [.int .i64 v3, .int .i64 v4, .fr (.ts v5)]]⟩
theorem L_spec_l1Count_0_eq (n c : Nat) (v0 v1 v2 v3 v4 : Int) (v5 : List T) : L_spec_l1Count_0 n (c + 1) v0 v1 v2 v3 v4 v5 =
 (cond (decide (v2 < (v5.length : Int)))
 (cond (decide (v1 ≤ v0))
 (cond (decide (0 ≤ v2))
 (v5[(v2 : Int).toNat]?.bind fun x0 =>
 ((FF n 79 [.agg [.int .i64 x0.k, .int .i64 x0.n, .fr (.ts x0.kids)], .one (.int .i64 (IntKind.i64.wrap (v0 - v1)))] []).bind fun x1 =>
 (rInt .i64 x1.1 fun x2 x3 =>
 (nilV x3 (nilO x1.2
 (L_spec_l1Count_0 n c v0 (IntKind.i64.wrap (v1 + x2)) (IntKind.i64.wrap (v2 + 1)) v3 v4 v5))))))
 none)
 (some ([.one (.int .i64 v1)], [])))
 (some ([.one (.int .i64 v1)], []))) := by kernel_rfl
theorem E_spec_l1Count (n : Nat) (v0 v1 : Int) (v2 : List T) (v3 : Int) : FF (n + 1) 79 [.agg [.int .i64 v0, .int .i64 v1, .fr (.ts v2)], .one (.int .i64 v3)] [] =
 L_spec_l1Count_0 n n v3 1 0 v0 v1 v2 := by kernel_rfl
noncomputable def L_impl_scan_0 (n c : Nat) (v0 : Int) (v1 : List T) (v2 v3 v4 : Int) : OR := runLoop Try.prog SS n 75 1 [1, 1, 1, 0, 1, 0] [] c ⟨[anyV, .v (.one (.int .i64 v0)), .v (.one (.ptr 0 0)), anyV, anyV, anyV, anyV, anyV, anyV, anyV, anyV, anyV, anyV, anyV, anyV, anyV, anyV, anyV, anyV, anyV, anyV, anyV, anyV, anyV, anyV, anyV, anyV, anyV, anyV, anyV, anyV, anyV, anyV, anyV, anyV, anyV, anyV, anyV, anyV, anyV, anyV, .v (.one (.fr (.ts v1))), .v (.one (.int .i64 v2)), .v (.one (.int .i64 v3)), anyV, anyV, anyV, anyV, anyV, anyV, anyV, anyV, anyV, anyV],
 [.cells [.int .i64 v4]]⟩
theorem L_impl_scan_0_eq (n c : Nat) (v0 : Int) (v1 : List T) (v2 v3 v4 : Int) : L_impl_scan_0 n (c + 1) v0 v1 v2 v3 v4 =
 (cond (decide (v3 < v2))
 (cond (decide (0 ≤ v3))
 (v1[(v3 : Int).toNat]?.bind fun x0 =>
 ((FF n 75 [.agg [.int .i64 x0.k, .int .i64 x0.n, .fr (.ts x0.kids)], .one (.int .i64 (IntKind.i64.wrap (v0 + 1))), .one (.ptr 0 0)] [.cells [.int .i64 v4]]).bind fun x1 =>
 (objC x1.2 fun x2 x3 =>
 (intC .i64 x2 fun x4 x5 =>
 (nilC x5
 (rBool x1.1 fun x6 x7 =>
 (nilV x7 (nilO x3
 (cond (!x6)
 (some ([.one (.bool false)], [.cells [.int .i64 x4]]))
 (L_impl_scan_0 n c v0 v1 v2 (IntKind.i64.wrap (v3 + 1)) x4))))))))))
 none)
 (some ([.one (.bool true)], [.cells [.int .i64 v4]]))) := by kernel_rfl
theorem E_impl_scan (n : Nat) (v0 v1 : Int) (v2 : List T) (v3 v4 : Int) : FF (n + 1) 75 [.agg [.int .i64 v0, .int .i64 v1, .fr (.ts v2)], .one (.int .i64 v3), .one (.ptr 0 0)] [.cells [.int .i64 v4]] =
 (cond (decide (400 < (IntKind.i64.wrap (v4 + 1))))
 (some ([.one (.bool false)], [.cells [.int .i64 (IntKind.i64.wrap (v4 + 1))]]))
 (cond (decide (30 < v3))
 (some ([.one (.bool false)], [.cells [.int .i64 (IntKind.i64.wrap (v4 + 1))]]))
 ((FF n 94 [.one (.int .i64 v0)] []).bind fun x0 =>
 (rInt .i64 x0.1 fun x1 x2 =>
 (nilV x2 (nilO x0.2
 (cond (!decide (x1 = (v2.length : Int)))
 (some ([.one (.bool false)], [.cells [.int .i64 (IntKind.i64.wrap (v4 + 1))]]))
 ((FF n 95 [.one (.int .i64 v0)] []).bind fun x3 =>
 (rInt .i64 x3.1 fun x4 x5 =>
 (nilV x5 (nilO x3.2
 ((FF n 84 [.one (.int .i64 v1), .one (.int .i64 0), .one (.int .i64 x4)] []).bind fun x6 =>
 (rBool x6.1 fun x7 x8 =>
 (nilV x8 (nilO x6.2
 (cond (!x7)
 (some ([.one (.bool false)], [.cells [.int .i64 (IntKind.i64.wrap (v4 + 1))]]))
 (L_impl_scan_0 n n v3 v2 ((v2.length : Int) : Int) 0 (IntKind.i64.wrap (v4 + 1))))))))))))))))))) := by kernel_rfl
theorem E_impl_isBinder (n : Nat) (v0 : Int) : FF (n + 1) 100 [.one (.int .i64 v0)] [] =
 (cond (decide (v0 = 3))
 (some ([.one (.bool true)], []))
 (cond (decide (v0 = 4))
 (some ([.one (.bool true)], []))
 (some ([.one (.bool (decide (v0 = 13)))], [])))) := by kernel_rfl
theorem E_spec_l3Plus (n : Nat) : FF (n + 1) 70 [] [] =
 some ([.one (.str (bytesOf [91, 78, 93, 91, 78, 93, 60, 91, 78, 93, 78, 44, 35, 49, 44, 91, 78, 93, 91, 78, 93, 43, 35, 48, 44, 35, 48, 62]))], []) := by kernel_rfl
theorem E_spec_l19Rd_of (n : Nat) (v0 : List ByteArray) (v1 : List UInt8) (v2 : Int) : FF (n + 1) 69 [.one (.ptr 0 0), .one (.fr (.ss v0))] [.cells [.fr (.bs v1), .int .i64 v2]] =
 ((FF n 67 [.one (.ptr 0 0), .one (.int .i64 (v0.length : Int))] [.cells [.fr (.bs v1), .int .i64 v2]]).bind fun x0 =>
 (objC x0.2 fun x1 x2 =>
 (bsC x1 fun x3 x4 =>
 (intC .i64 x4 fun x5 x6 =>
 (nilC x6
 (rInt .i64 x0.1 fun x7 x8 =>
 (nilV x8 (nilO x2
 (cond (decide (0 ≤ x7))
 (v0[(x7 : Int).toNat]?.bind fun x9 =>
 some ([.one (.str x9)], [.cells [.fr (.bs x3), .int .i64 x5]]))
 none))))))))) := by kernel_rfl
theorem E_spec_ParseTerm (n : Nat) (v0 : ByteArray) : FF (n + 1) 71 [.one (.str v0)] [] =
 ((FF n 92 [.one (.str v0), .one (.int .i64 0), .one (.int .i64 30)] []).bind fun x0 =>
 (rTerm x0.1 fun x1 x2 =>
 (rInt .i64 x2 fun x3 x4 =>
 (nilV x4 (nilO x0.2
 (cond (v0.toList == (bytesOf []).toList)
 (some ([.agg [.int .i64 0, .int .i64 0, .fr (.ts [])], .one (.bool false)], []))
 (cond (!decide (x3 = (v0.size : Int)))
 (some ([.agg [.int .i64 0, .int .i64 0, .fr (.ts [])], .one (.bool false)], []))
 ((FF n 93 [.agg [.int .i64 x1.k, .int .i64 x1.n, .fr (.ts x1.kids)]] []).bind fun x5 =>
 (rStr x5.1 fun x6 x7 =>
 (nilV x7 (nilO x5.2
 (cond (!(x6.toList == v0.toList))
 (some ([.agg [.int .i64 0, .int .i64 0, .fr (.ts [])], .one (.bool false)], []))
 (some ([.agg [.int .i64 x1.k, .int .i64 x1.n, .fr (.ts x1.kids)], .one (.bool true)], [])))))))))))))) := by kernel_rfl
theorem E_spec_l19Rd_pick (n : Nat) (v0 : Int) (v1 : List UInt8) (v2 : Int) : FF (n + 1) 67 [.one (.ptr 0 0), .one (.int .i64 v0)] [.cells [.fr (.bs v1), .int .i64 v2]] =
 (cond (decide (v0 < 1))
 (some ([.one (.int .i64 0)], [.cells [.fr (.bs v1), .int .i64 (IntKind.i64.wrap (v2 + 1))]]))
 (cond (decide ((v1.length : Int) = 0))
 (some ([.one (.int .i64 0)], [.cells [.fr (.bs v1), .int .i64 (IntKind.i64.wrap (v2 + 1))]]))
 (cond (decide ((IntKind.i64.wrap ((IntKind.i64.wrap (v2 + 1)) - 1)) < (v1.length : Int)))
 (cond (decide (0 ≤ (IntKind.i64.wrap ((IntKind.i64.wrap (v2 + 1)) - 1))))
 (v1[((IntKind.i64.wrap ((IntKind.i64.wrap (v2 + 1)) - 1)) : Int).toNat]?.bind fun x0 =>
 (cond (decide (v0 = 0))
 none
 (some ([.one (.int .i64 (Int.tmod (IntKind.i64.wrap (x0.toNat : Int)) v0))], [.cells [.fr (.bs v1), .int .i64 (IntKind.i64.wrap (v2 + 1))]]))))
 none)
 (cond (decide ((v1.length : Int) = 0))
 none
 (cond (decide (0 ≤ (Int.tmod (IntKind.i64.wrap ((IntKind.i64.wrap (v2 + 1)) - 1)) (v1.length : Int))))
 (v1[((Int.tmod (IntKind.i64.wrap ((IntKind.i64.wrap (v2 + 1)) - 1)) (v1.length : Int)) : Int).toNat]?.bind fun x0 =>
 (cond (decide ((v1.length : Int) = 0))
 none
 (cond (decide (0 ≤ (Int.tmod (IntKind.i64.wrap ((IntKind.i64.wrap ((IntKind.i64.wrap ((IntKind.i64.wrap (v2 + 1)) - 1)) * 7)) + 3)) (v1.length : Int))))
 (v1[((Int.tmod (IntKind.i64.wrap ((IntKind.i64.wrap ((IntKind.i64.wrap ((IntKind.i64.wrap (v2 + 1)) - 1)) * 7)) + 3)) (v1.length : Int)) : Int).toNat]?.bind fun x1 =>
 (cond (decide ((v1.length : Int) = 0))
 none
 (cond (decide (v0 = 0))
 none
 (some ([.one (.int .i64 (Int.tmod (IntKind.i64.wrap (BitVec.ofInt IntKind.i64.bits (IntKind.i64.wrap ((IntKind.i64.wrap ((IntKind.i64.wrap ((IntKind.i64.wrap ((IntKind.i64.wrap (x0.toNat : Int)) * 131)) + (IntKind.i64.wrap ((IntKind.i64.wrap (x1.toNat : Int)) * 1117)))) + (IntKind.i64.wrap ((IntKind.i64.wrap ((IntKind.i64.wrap (v2 + 1)) - 1)) * 29)))) + (IntKind.i64.wrap ((IntKind.i64.wrap (Int.tdiv (IntKind.i64.wrap ((IntKind.i64.wrap (v2 + 1)) - 1)) (v1.length : Int))) * 53)))) ^^^ BitVec.ofInt IntKind.i64.bits (IntKind.i64.wrap (Int.tdiv (IntKind.i64.wrap ((IntKind.i64.wrap ((IntKind.i64.wrap ((IntKind.i64.wrap ((IntKind.i64.wrap (x0.toNat : Int)) * 131)) + (IntKind.i64.wrap ((IntKind.i64.wrap (x1.toNat : Int)) * 1117)))) + (IntKind.i64.wrap ((IntKind.i64.wrap ((IntKind.i64.wrap (v2 + 1)) - 1)) * 29)))) + (IntKind.i64.wrap ((IntKind.i64.wrap (Int.tdiv (IntKind.i64.wrap ((IntKind.i64.wrap (v2 + 1)) - 1)) (v1.length : Int))) * 53)))) 64))).toNat) v0))], [.cells [.fr (.bs v1), .int .i64 (IntKind.i64.wrap (v2 + 1))]])))))
 none)))
 none))))) := by kernel_rfl
theorem E_spec_l1Any (n : Nat) (v0 : List UInt8) (v1 : Int) : FF (n + 1) 72 [.one (.ptr 0 0)] [.cells [.fr (.bs v0), .int .i64 v1]] =
 ((FF n 36 [.one (.ptr 0 0), .one (.fr (.is [3, 4, 2, 3, 1]))] [.cells [.fr (.bs v0), .int .i64 v1]]).bind fun x0 =>
 (objC x0.2 fun x1 x2 =>
 (bsC x1 fun x3 x4 =>
 (intC .i64 x4 fun x5 x6 =>
 (nilC x6
 (rInt .i64 x0.1 fun x7 x8 =>
 (nilV x8 (nilO x2
 ((FF n 37 [.one (.ptr 0 0), .one (.int .i64 x7)] [.cells [.fr (.bs x3), .int .i64 x5]]).bind fun x9 =>
 (objC x9.2 fun x10 x11 =>
 (bsC x10 fun x12 x13 =>
 (intC .i64 x13 fun x14 x15 =>
 (nilC x15
 (rTerm x9.1 fun x16 x17 =>
 (nilV x17 (nilO x11
 ((FF n 43 [.agg [.int .i64 x16.k, .int .i64 x16.n, .fr (.ts x16.kids)]] []).bind fun x18 =>
 (rBool x18.1 fun x19 x20 =>
 (nilV x20 (nilO x18.2
 (cond x19
 (some ([.agg [.int .i64 x16.k, .int .i64 x16.n, .fr (.ts x16.kids)]], [.cells [.fr (.bs x12), .int .i64 x14]]))
 ((FF n 68 [.one (.int .i64 7), .one (.int .i64 0)] []).bind fun x21 =>
 (rTerm x21.1 fun x22 x23 =>
 (nilV x23 (nilO x21.2
 (some ([.agg [.int .i64 x22.k, .int .i64 x22.n, .fr (.ts x22.kids)]], [.cells [.fr (.bs x12), .int .i64 x14]]))))))))))))))))))))))))))) := by kernel_rfl
theorem E_spec_l1Leaf (n : Nat) (v0 v1 : Int) : FF (n + 1) 68 [.one (.int .i64 v0), .one (.int .i64 v1)] [] =
 some ([.agg [.int .i64 v0, .int .i64 v1, .fr (.ts [])]], []) := by kernel_rfl
theorem E_spec_l1Most (n : Nat) (v0 : Int) : FF (n + 1) 73 [.one (.int .i64 v0)] [] =
 (cond (decide (v0 = 1))
 (some ([.one (.int .i64 20)], []))
 (cond (decide (v0 = 2))
 (some ([.one (.int .i64 3)], []))
 (some ([.one (.int .i64 0)], [])))) := by kernel_rfl
theorem E_spec_l1Kids (n : Nat) (v0 : Int) : FF (n + 1) 74 [.one (.int .i64 v0)] [] =
 (cond (decide (v0 = 1))
 (some ([.one (.int .i64 0)], []))
 (cond (decide (v0 = 2))
 (some ([.one (.int .i64 0)], []))
 (cond (decide (v0 = 6))
 (some ([.one (.int .i64 0)], []))
 (cond (decide (v0 = 7))
 (some ([.one (.int .i64 0)], []))
 (cond (decide (v0 = 8))
 (some ([.one (.int .i64 1)], []))
 (cond (decide (v0 = 11))
 (some ([.one (.int .i64 1)], []))
 (cond (decide (v0 = 15))
 (some ([.one (.int .i64 1)], []))
 (cond (decide (v0 = 16))
 (some ([.one (.int .i64 1)], []))
 (cond (decide (v0 = 3))
 (some ([.one (.int .i64 2)], []))
 (cond (decide (v0 = 4))
 (some ([.one (.int .i64 2)], []))
 (cond (decide (v0 = 5))
 (some ([.one (.int .i64 2)], []))
 (cond (decide (v0 = 13))
 (some ([.one (.int .i64 2)], []))
 (cond (decide (v0 = 10))
 (some ([.one (.int .i64 3)], []))
 (cond (decide (v0 = 12))
 (some ([.one (.int .i64 3)], []))
 (cond (decide (v0 = 14))
 (some ([.one (.int .i64 3)], []))
 (cond (decide (v0 = 9))
 (some ([.one (.int .i64 4)], []))
 (some ([.one (.int .i64 (-1))], [])))))))))))))))))) := by kernel_rfl
theorem E_impl_redex (n : Nat) (v0 v1 : Int) (v2 : List T) : FF (n + 1) 80 [.agg [.int .i64 v0, .int .i64 v1, .fr (.ts v2)]] [] =
 (cond (decide (v0 = 5))
 (v2[(0 : Int).toNat]?.bind fun x0 =>
 (cond (decide (x0.k = 4))
 (some ([.one (.int .i64 1)], []))
 (some ([.one (.int .i64 0)], []))))
 (cond (decide (v0 = 9))
 (v2[(3 : Int).toNat]?.bind fun x0 =>
 (cond (decide (x0.k = 7))
 (some ([.one (.int .i64 2)], []))
 (cond (decide (x0.k = 8))
 (some ([.one (.int .i64 3)], []))
 (some ([.one (.int .i64 0)], [])))))
 (cond (decide (v0 = 12))
 (v2[(1 : Int).toNat]?.bind fun x0 =>
 (cond (decide (x0.k = 11))
 (some ([.one (.int .i64 4)], []))
 (some ([.one (.int .i64 0)], []))))
 (cond (decide (v0 = 15))
 (v2[(0 : Int).toNat]?.bind fun x0 =>
 (cond (decide (x0.k = 14))
 (some ([.one (.int .i64 (IntKind.i64.wrap ((IntKind.i64.wrap (5 + v0)) - 15)))], []))
 (some ([.one (.int .i64 0)], []))))
 (cond (decide (v0 = 16))
 (v2[(0 : Int).toNat]?.bind fun x0 =>
 (cond (decide (x0.k = 14))
 (some ([.one (.int .i64 (IntKind.i64.wrap ((IntKind.i64.wrap (5 + v0)) - 15)))], []))
 (some ([.one (.int .i64 0)], []))))
 (some ([.one (.int .i64 0)], []))))))) := by kernel_rfl
theorem E_impl_contract (n : Nat) (v0 v1 : Int) (v2 : List T) : FF (n + 1) 81 [.agg [.int .i64 v0, .int .i64 v1, .fr (.ts v2)]] [] =
 ((FF n 80 [.agg [.int .i64 v0, .int .i64 v1, .fr (.ts v2)]] []).bind fun x0 =>
 (rInt .i64 x0.1 fun x1 x2 =>
 (nilV x2 (nilO x0.2
 (cond (decide (x1 = 1))
 (v2[(0 : Int).toNat]?.bind fun x3 =>
 ((x3.kids)[(1 : Int).toNat]?.bind fun x4 =>
 (v2[(1 : Int).toNat]?.bind fun x5 =>
 ((FF n 97 [.agg [.int .i64 x4.k, .int .i64 x4.n, .fr (.ts x4.kids)], .one (.int .i64 0), .agg [.int .i64 x5.k, .int .i64 x5.n, .fr (.ts x5.kids)]] []).bind fun x6 =>
 (rTerm x6.1 fun x7 x8 =>
 (rBool x8 fun x9 x10 =>
 (nilV x10 (nilO x6.2
 (some ([.agg [.int .i64 x7.k, .int .i64 x7.n, .fr (.ts x7.kids)], .one (.bool x9)], []))))))))))
 (cond (decide (x1 = 2))
 (v2[(1 : Int).toNat]?.bind fun x3 =>
 ((FF n 42 [.agg [.int .i64 x3.k, .int .i64 x3.n, .fr (.ts x3.kids)]] []).bind fun x4 =>
 (rTerm x4.1 fun x5 x6 =>
 (nilV x6 (nilO x4.2
 ((FF n 41 [.agg [.int .i64 x5.k, .int .i64 x5.n, .fr (.ts x5.kids)]] []).bind fun x7 =>
 (rTerm x7.1 fun x8 x9 =>
 (rBool x9 fun x10 x11 =>
 (nilV x11 (nilO x7.2
 (some ([.agg [.int .i64 x8.k, .int .i64 x8.n, .fr (.ts x8.kids)], .one (.bool x10)], []))))))))))))
 (cond (decide (x1 = 3))
 (v2[(0 : Int).toNat]?.bind fun x3 =>
 (v2[(1 : Int).toNat]?.bind fun x4 =>
 (v2[(2 : Int).toNat]?.bind fun x5 =>
 (v2[(3 : Int).toNat]?.bind fun x6 =>
 ((x6.kids)[(0 : Int).toNat]?.bind fun x7 =>
 ((FF n 40 [.one (.int .i64 5), .one (.fr (.ts [(T.mk x5.k x5.n x5.kids), (T.mk x7.k x7.n x7.kids)]))] []).bind fun x8 =>
 (rTerm x8.1 fun x9 x10 =>
 (nilV x10 (nilO x8.2
 ((FF n 40 [.one (.int .i64 9), .one (.fr (.ts [(T.mk x3.k x3.n x3.kids), (T.mk x4.k x4.n x4.kids), (T.mk x5.k x5.n x5.kids), (T.mk x7.k x7.n x7.kids)]))] []).bind fun x11 =>
 (rTerm x11.1 fun x12 x13 =>
 (nilV x13 (nilO x11.2
 ((FF n 40 [.one (.int .i64 5), .one (.fr (.ts [(T.mk x9.k x9.n x9.kids), (T.mk x12.k x12.n x12.kids)]))] []).bind fun x14 =>
 (rTerm x14.1 fun x15 x16 =>
 (nilV x16 (nilO x14.2
 ((FF n 42 [.agg [.int .i64 x15.k, .int .i64 x15.n, .fr (.ts x15.kids)]] []).bind fun x17 =>
 (rTerm x17.1 fun x18 x19 =>
 (nilV x19 (nilO x17.2
 ((FF n 41 [.agg [.int .i64 x18.k, .int .i64 x18.n, .fr (.ts x18.kids)]] []).bind fun x20 =>
 (rTerm x20.1 fun x21 x22 =>
 (rBool x22 fun x23 x24 =>
 (nilV x24 (nilO x20.2
 (some ([.agg [.int .i64 x21.k, .int .i64 x21.n, .fr (.ts x21.kids)], .one (.bool x23)], []))))))))))))))))))))))))))))
 (cond (decide (x1 = 4))
 (v2[(2 : Int).toNat]?.bind fun x3 =>
 ((FF n 42 [.agg [.int .i64 x3.k, .int .i64 x3.n, .fr (.ts x3.kids)]] []).bind fun x4 =>
 (rTerm x4.1 fun x5 x6 =>
 (nilV x6 (nilO x4.2
 ((FF n 41 [.agg [.int .i64 x5.k, .int .i64 x5.n, .fr (.ts x5.kids)]] []).bind fun x7 =>
 (rTerm x7.1 fun x8 x9 =>
 (rBool x9 fun x10 x11 =>
 (nilV x11 (nilO x7.2
 (some ([.agg [.int .i64 x8.k, .int .i64 x8.n, .fr (.ts x8.kids)], .one (.bool x10)], []))))))))))))
 (cond (decide (x1 = 5))
 (v2[(0 : Int).toNat]?.bind fun x3 =>
 ((x3.kids)[(1 : Int).toNat]?.bind fun x4 =>
 ((FF n 42 [.agg [.int .i64 x4.k, .int .i64 x4.n, .fr (.ts x4.kids)]] []).bind fun x5 =>
 (rTerm x5.1 fun x6 x7 =>
 (nilV x7 (nilO x5.2
 ((FF n 41 [.agg [.int .i64 x6.k, .int .i64 x6.n, .fr (.ts x6.kids)]] []).bind fun x8 =>
 (rTerm x8.1 fun x9 x10 =>
 (rBool x10 fun x11 x12 =>
 (nilV x12 (nilO x8.2
 (some ([.agg [.int .i64 x9.k, .int .i64 x9.n, .fr (.ts x9.kids)], .one (.bool x11)], [])))))))))))))
 (cond (decide (x1 = 6))
 (v2[(0 : Int).toNat]?.bind fun x3 =>
 ((x3.kids)[(2 : Int).toNat]?.bind fun x4 =>
 ((FF n 42 [.agg [.int .i64 x4.k, .int .i64 x4.n, .fr (.ts x4.kids)]] []).bind fun x5 =>
 (rTerm x5.1 fun x6 x7 =>
 (nilV x7 (nilO x5.2
 ((FF n 41 [.agg [.int .i64 x6.k, .int .i64 x6.n, .fr (.ts x6.kids)]] []).bind fun x8 =>
 (rTerm x8.1 fun x9 x10 =>
 (rBool x10 fun x11 x12 =>
 (nilV x12 (nilO x8.2
 (some ([.agg [.int .i64 x9.k, .int .i64 x9.n, .fr (.ts x9.kids)], .one (.bool x11)], [])))))))))))))
 (some ([.agg [.int .i64 0, .int .i64 0, .fr (.ts [])], .one (.bool false)], [])))))))))))) := by kernel_rfl
theorem E_spec_l3Redex (n : Nat) (v0 v1 : Int) (v2 : List T) : FF (n + 1) 82 [.agg [.int .i64 v0, .int .i64 v1, .fr (.ts v2)]] [] =
 (cond (decide (v0 = 5))
 (v2[(0 : Int).toNat]?.bind fun x0 =>
 (cond (decide (x0.k = 4))
 (some ([.one (.int .i64 1)], []))
 (some ([.one (.int .i64 0)], []))))
 (cond (decide (v0 = 9))
 (v2[(3 : Int).toNat]?.bind fun x0 =>
 (cond (decide (x0.k = 7))
 (some ([.one (.int .i64 2)], []))
 (v2[(3 : Int).toNat]?.bind fun x1 =>
 (cond (decide (x1.k = 8))
 (some ([.one (.int .i64 3)], []))
 (some ([.one (.int .i64 0)], []))))))
 (cond (decide (v0 = 12))
 (v2[(1 : Int).toNat]?.bind fun x0 =>
 (cond (decide (x0.k = 11))
 (some ([.one (.int .i64 4)], []))
 (some ([.one (.int .i64 0)], []))))
 (cond (decide (v0 = 15))
 (v2[(0 : Int).toNat]?.bind fun x0 =>
 (cond (decide (x0.k = 14))
 (some ([.one (.int .i64 5)], []))
 (some ([.one (.int .i64 0)], []))))
 (cond (decide (v0 = 16))
 (v2[(0 : Int).toNat]?.bind fun x0 =>
 (cond (decide (x0.k = 14))
 (some ([.one (.int .i64 6)], []))
 (some ([.one (.int .i64 0)], []))))
 (some ([.one (.int .i64 0)], []))))))) := by kernel_rfl
theorem E_spec_l4Whole (n : Nat) (v0 v1 : Int) (v2 : List T) : FF (n + 1) 83 [.agg [.int .i64 v0, .int .i64 v1, .fr (.ts v2)]] [] =
 ((FF n 82 [.agg [.int .i64 v0, .int .i64 v1, .fr (.ts v2)]] []).bind fun x0 =>
 (rInt .i64 x0.1 fun x1 x2 =>
 (nilV x2 (nilO x0.2
 (cond (decide (x1 = 0))
 (some ([.agg [.int .i64 v0, .int .i64 v1, .fr (.ts v2)]], []))
 ((FF n 98 [.agg [.int .i64 v0, .int .i64 v1, .fr (.ts v2)]] []).bind fun x3 =>
 (rTerm x3.1 fun x4 x5 =>
 (nilV x5 (nilO x3.2
 (some ([.agg [.int .i64 x4.k, .int .i64 x4.n, .fr (.ts x4.kids)]], []))))))))))) := by kernel_rfl
theorem E_impl_contracted (n : Nat) (v0 v1 : Int) (v2 : List T) (v3 : List Int) : FF (n + 1) 85 [.agg [.int .i64 v0, .int .i64 v1, .fr (.ts v2)], .one (.fr (.is v3))] [] =
 ((FF n 99 [.agg [.int .i64 v0, .int .i64 v1, .fr (.ts v2)], .one (.fr (.is v3))] []).bind fun x0 =>
 (rTerm x0.1 fun x1 x2 =>
 (nilV x2 (nilO x0.2
 ((FF n 81 [.agg [.int .i64 x1.k, .int .i64 x1.n, .fr (.ts x1.kids)]] []).bind fun x3 =>
 (rTerm x3.1 fun x4 x5 =>
 (rBool x5 fun x6 x7 =>
 (nilV x7 (nilO x3.2
 (cond (!x6)
 (some ([.agg [.int .i64 0, .int .i64 0, .fr (.ts [])], .one (.bool false)], []))
 ((FF n 63 [.agg [.int .i64 v0, .int .i64 v1, .fr (.ts v2)], .one (.fr (.is v3)), .agg [.int .i64 x4.k, .int .i64 x4.n, .fr (.ts x4.kids)]] []).bind fun x8 =>
 (rTerm x8.1 fun x9 x10 =>
 (nilV x10 (nilO x8.2
 ((FF n 42 [.agg [.int .i64 x9.k, .int .i64 x9.n, .fr (.ts x9.kids)]] []).bind fun x11 =>
 (rTerm x11.1 fun x12 x13 =>
 (nilV x13 (nilO x11.2
 ((FF n 41 [.agg [.int .i64 x12.k, .int .i64 x12.n, .fr (.ts x12.kids)]] []).bind fun x14 =>
 (rTerm x14.1 fun x15 x16 =>
 (rBool x16 fun x17 x18 =>
 (nilV x18 (nilO x14.2
 (some ([.agg [.int .i64 x15.k, .int .i64 x15.n, .fr (.ts x15.kids)], .one (.bool x17)], []))))))))))))))))))))))))) := by kernel_rfl
noncomputable def L_impl_free_impl_maxFree_1_0 (n c : Nat) (v0 : Int) (v1 : List T) (v2 v3 v4 v5 v6 : Int) (v7 : List T) : OR := runLoop Try.prog SS n 86 1 [1, 1, 1, 0] [] c ⟨[anyV, .v (.one (.int .i64 v0)), .v (.one (.fn 87 [0])), .v (.one (.ptr 1 0)), anyV, anyV, anyV, anyV, anyV, anyV, anyV, anyV, anyV, anyV, anyV, anyV, anyV, anyV, anyV, anyV, anyV, anyV, anyV, anyV, .v (.one (.fr (.ts v1))), .v (.one (.int .i64 v2)), .v (.one (.int .i64 v3)), anyV, anyV, anyV, anyV, anyV, anyV, anyV, anyV, anyV, anyV, anyV, anyV, anyV, anyV],
 [.cells [.int .i64 v4], .cells [.int .i64 v5, .int .i64 v6, .fr (.ts v7)]]⟩
theorem L_impl_free_impl_maxFree_1_0_eq (n c : Nat) (v0 : Int) (v1 : List T) (v2 v3 v4 v5 v6 : Int) (v7 : List T) : L_impl_free_impl_maxFree_1_0 n (c + 1) v0 v1 v2 v3 v4 v5 v6 v7 =
 (cond (decide (v3 < v2))
 (cond (decide (0 ≤ v3))
 (v1[(v3 : Int).toNat]?.bind fun x0 =>
 ((FF n 90 [.one (.int .i64 v5), .one (.int .i64 v3)] []).bind fun x1 =>
 (rInt .i64 x1.1 fun x2 x3 =>
 (nilV x3 (nilO x1.2
 ((FF n 86 [.agg [.int .i64 x0.k, .int .i64 x0.n, .fr (.ts x0.kids)], .one (.int .i64 (IntKind.i64.wrap (v0 + x2))), .one (.fn 87 [0])] [.cells [.int .i64 v4]]).bind fun x4 =>
 (objC x4.2 fun x5 x6 =>
 (intC .i64 x5 fun x7 x8 =>
 (nilC x8
 (nilV x4.1 (nilO x6
 (L_impl_free_impl_maxFree_1_0 n c v0 v1 v2 (IntKind.i64.wrap (v3 + 1)) x7 v5 v6 v7))))))))))))
 none)
 (some ([], [.cells [.int .i64 v4]]))) := by kernel_rfl
theorem E_impl_free_impl_maxFree_1 (n : Nat) (v0 v1 : Int) (v2 : List T) (v3 v4 : Int) : FF (n + 1) 86 [.agg [.int .i64 v0, .int .i64 v1, .fr (.ts v2)], .one (.int .i64 v3), .one (.fn 87 [0])] [.cells [.int .i64 v4]] =
 (cond (decide (v0 = 1))
 (cond (decide (v3 ≤ v1))
 ((FF n 87 [.one (.int .i64 (IntKind.i64.wrap (v1 - v3))), .one (.ptr 0 0)] [.cells [.int .i64 v4]]).bind fun x0 =>
 (objC x0.2 fun x1 x2 =>
 (intC .i64 x1 fun x3 x4 =>
 (nilC x4
 (nilV x0.1 (nilO x2
 (L_impl_free_impl_maxFree_1_0 n n v3 v2 ((v2.length : Int) : Int) 0 x3 v0 v1 v2)))))))
 (L_impl_free_impl_maxFree_1_0 n n v3 v2 ((v2.length : Int) : Int) 0 v4 v0 v1 v2))
 (L_impl_free_impl_maxFree_1_0 n n v3 v2 ((v2.length : Int) : Int) 0 v4 v0 v1 v2)) := by kernel_rfl
theorem E_impl_operands (n : Nat) (v0 : Int) : FF (n + 1) 94 [.one (.int .i64 v0)] [] =
 ((FF n 84 [.one (.int .i64 v0), .one (.int .i64 1), .one (.int .i64 16)] []).bind fun x0 =>
 (rBool x0.1 fun x1 x2 =>
 (nilV x2 (nilO x0.2
 (cond (!x1)
 (some ([.one (.int .i64 (-1))], []))
 (cond (decide (0 ≤ (IntKind.i64.wrap (v0 - 1))))
 (cond (decide ((IntKind.i64.wrap (v0 - 1)) < (([0, 0, 2, 2, 2, 0, 0, 1, 4, 3, 1, 3, 2, 3, 1, 1]).length : Int)))
 (([0, 0, 2, 2, 2, 0, 0, 1, 4, 3, 1, 3, 2, 3, 1, 1])[((IntKind.i64.wrap (v0 - 1)) : Int).toNat]?.bind fun x3 =>
 some ([.one (.int .i64 x3)], []))
 none)
 none)))))) := by kernel_rfl
theorem E_impl_most (n : Nat) (v0 : Int) : FF (n + 1) 95 [.one (.int .i64 v0)] [] =
 (cond (decide (v0 = 1))
 (some ([.one (.int .i64 20)], []))
 (cond (decide (v0 = 2))
 (some ([.one (.int .i64 3)], []))
 (some ([.one (.int .i64 0)], [])))) := by kernel_rfl
end Go.Proofs.Ytgchmppmecnniaa
end
section
namespace Go.Proofs.Ytgchmppmecnniaa
open Go Go.Ab Go.Dk
theorem E_spec_l1Parse (n : Nat) (v0 : ByteArray) (v1 v2 : Int) : FF (n + 1) 92 [.one (.str v0), .one (.int .i64 v1), .one (.int .i64 v2)] [] =
 (cond (decide (v2 < 1))
 (some ([.agg [.int .i64 0, .int .i64 0, .fr (.ts [])], .one (.int .i64 (-1))], []))
 (cond (decide (v1 < 0))
 (some ([.agg [.int .i64 0, .int .i64 0, .fr (.ts [])], .one (.int .i64 (-1))], []))
 (cond (decide ((v0.size : Int) ≤ v1))
 (some ([.agg [.int .i64 0, .int .i64 0, .fr (.ts [])], .one (.int .i64 (-1))], []))
 (cond (decide (0 ≤ v1) && decide (v1 < ((v0.size : Nat) : Int)))
 (cond (decide (((byteAt v0 (v1 : Int).toNat).toNat : Int) = 35))
 ((FF n 101 [.one (.str v0), .one (.int .i64 (IntKind.i64.wrap (v1 + 1))), .one (.int .i64 2)] []).bind fun x0 =>
 (rInt .i64 x0.1 fun x1 x2 =>
 (rInt .i64 x2 fun x3 x4 =>
 (nilV x4 (nilO x0.2
 ((FF n 68 [.one (.int .i64 1), .one (.int .i64 x1)] []).bind fun x5 =>
 (rTerm x5.1 fun x6 x7 =>
 (nilV x7 (nilO x5.2
 (some ([.agg [.int .i64 x6.k, .int .i64 x6.n, .fr (.ts x6.kids)], .one (.int .i64 x3)], [])))))))))))
 (cond (decide (((byteAt v0 (v1 : Int).toNat).toNat : Int) = 42))
 ((FF n 101 [.one (.str v0), .one (.int .i64 (IntKind.i64.wrap (v1 + 1))), .one (.int .i64 1)] []).bind fun x0 =>
 (rInt .i64 x0.1 fun x1 x2 =>
 (rInt .i64 x2 fun x3 x4 =>
 (nilV x4 (nilO x0.2
 ((FF n 68 [.one (.int .i64 2), .one (.int .i64 x1)] []).bind fun x5 =>
 (rTerm x5.1 fun x6 x7 =>
 (nilV x7 (nilO x5.2
 (some ([.agg [.int .i64 x6.k, .int .i64 x6.n, .fr (.ts x6.kids)], .one (.int .i64 x3)], [])))))))))))
 (cond (decide (((byteAt v0 (v1 : Int).toNat).toNat : Int) = 78))
 ((FF n 68 [.one (.int .i64 6), .one (.int .i64 0)] []).bind fun x0 =>
 (rTerm x0.1 fun x1 x2 =>
 (nilV x2 (nilO x0.2
 (some ([.agg [.int .i64 x1.k, .int .i64 x1.n, .fr (.ts x1.kids)], .one (.int .i64 (IntKind.i64.wrap (v1 + 1)))], []))))))
 (cond (decide (((byteAt v0 (v1 : Int).toNat).toNat : Int) = 48))
 ((FF n 68 [.one (.int .i64 7), .one (.int .i64 0)] []).bind fun x0 =>
 (rTerm x0.1 fun x1 x2 =>
 (nilV x2 (nilO x0.2
 (some ([.agg [.int .i64 x1.k, .int .i64 x1.n, .fr (.ts x1.kids)], .one (.int .i64 (IntKind.i64.wrap (v1 + 1)))], []))))))
 (cond (decide (((byteAt v0 (v1 : Int).toNat).toNat : Int) = 43))
 ((FF n 102 [.one (.str v0), .one (.int .i64 v1), .one (.int .i64 v2)] []).bind fun x0 =>
 (rTerm x0.1 fun x1 x2 =>
 (rInt .i64 x2 fun x3 x4 =>
 (nilV x4 (nilO x0.2
 (some ([.agg [.int .i64 x1.k, .int .i64 x1.n, .fr (.ts x1.kids)], .one (.int .i64 x3)], [])))))))
 (cond (decide (((byteAt v0 (v1 : Int).toNat).toNat : Int) = 33))
 ((FF n 102 [.one (.str v0), .one (.int .i64 v1), .one (.int .i64 v2)] []).bind fun x0 =>
 (rTerm x0.1 fun x1 x2 =>
 (rInt .i64 x2 fun x3 x4 =>
 (nilV x4 (nilO x0.2
 (some ([.agg [.int .i64 x1.k, .int .i64 x1.n, .fr (.ts x1.kids)], .one (.int .i64 x3)], [])))))))
 (cond (decide (((byteAt v0 (v1 : Int).toNat).toNat : Int) = 94))
 ((FF n 102 [.one (.str v0), .one (.int .i64 v1), .one (.int .i64 v2)] []).bind fun x0 =>
 (rTerm x0.1 fun x1 x2 =>
 (rInt .i64 x2 fun x3 x4 =>
 (nilV x4 (nilO x0.2
 (some ([.agg [.int .i64 x1.k, .int .i64 x1.n, .fr (.ts x1.kids)], .one (.int .i64 x3)], [])))))))
 (cond (decide (((byteAt v0 (v1 : Int).toNat).toNat : Int) = 95))
 ((FF n 102 [.one (.str v0), .one (.int .i64 v1), .one (.int .i64 v2)] []).bind fun x0 =>
 (rTerm x0.1 fun x1 x2 =>
 (rInt .i64 x2 fun x3 x4 =>
 (nilV x4 (nilO x0.2
 (some ([.agg [.int .i64 x1.k, .int .i64 x1.n, .fr (.ts x1.kids)], .one (.int .i64 x3)], [])))))))
 (cond (decide (((byteAt v0 (v1 : Int).toNat).toNat : Int) = 40))
 ((FF n 103 [.one (.str v0), .one (.int .i64 (IntKind.i64.wrap (v1 + 1))), .one (.int .i64 (IntKind.i64.wrap (v2 - 1)))] []).bind fun x0 =>
 (rTerm x0.1 fun x1 x2 =>
 (rInt .i64 x2 fun x3 x4 =>
 (nilV x4 (nilO x0.2
 (some ([.agg [.int .i64 x1.k, .int .i64 x1.n, .fr (.ts x1.kids)], .one (.int .i64 x3)], [])))))))
 (cond (decide (((byteAt v0 (v1 : Int).toNat).toNat : Int) = 91))
 ((FF n 92 [.one (.str v0), .one (.int .i64 (IntKind.i64.wrap (v1 + 1))), .one (.int .i64 (IntKind.i64.wrap (v2 - 1)))] []).bind fun x0 =>
 (rTerm x0.1 fun x1 x2 =>
 (rInt .i64 x2 fun x3 x4 =>
 (nilV x4 (nilO x0.2
 (cond (decide (x3 < 0))
 (some ([.agg [.int .i64 0, .int .i64 0, .fr (.ts [])], .one (.int .i64 (-1))], []))
 (cond (decide ((v0.size : Int) ≤ x3))
 (some ([.agg [.int .i64 0, .int .i64 0, .fr (.ts [])], .one (.int .i64 (-1))], []))
 (cond (decide (0 ≤ x3) && decide (x3 < ((v0.size : Nat) : Int)))
 (cond (!decide (((byteAt v0 (x3 : Int).toNat).toNat : Int) = 93))
 (some ([.agg [.int .i64 0, .int .i64 0, .fr (.ts [])], .one (.int .i64 (-1))], []))
 ((FF n 92 [.one (.str v0), .one (.int .i64 (IntKind.i64.wrap (x3 + 1))), .one (.int .i64 (IntKind.i64.wrap (v2 - 1)))] []).bind fun x5 =>
 (rTerm x5.1 fun x6 x7 =>
 (rInt .i64 x7 fun x8 x9 =>
 (nilV x9 (nilO x5.2
 ((FF n 46 [.one (.int .i64 4), .one (.fr (.ts [(T.mk x1.k x1.n x1.kids), (T.mk x6.k x6.n x6.kids)]))] []).bind fun x10 =>
 (rTerm x10.1 fun x11 x12 =>
 (nilV x12 (nilO x10.2
 (some ([.agg [.int .i64 x11.k, .int .i64 x11.n, .fr (.ts x11.kids)], .one (.int .i64 x8)], []))))))))))))
 none))))))))
 ((FF n 104 [.one (.str v0), .one (.int .i64 v1), .one (.int .i64 v2)] []).bind fun x0 =>
 (rTerm x0.1 fun x1 x2 =>
 (rInt .i64 x2 fun x3 x4 =>
 (nilV x4 (nilO x0.2
 (some ([.agg [.int .i64 x1.k, .int .i64 x1.n, .fr (.ts x1.kids)], .one (.int .i64 x3)], [])))))))))))))))))
 none)))) := by kernel_rfl
theorem E_spec_FormatTerm (n : Nat) (v0 v1 : Int) (v2 : List T) : FF (n + 1) 93 [.agg [.int .i64 v0, .int .i64 v1, .fr (.ts v2)]] [] =
 ((FF n 43 [.agg [.int .i64 v0, .int .i64 v1, .fr (.ts v2)]] []).bind fun x0 =>
 (rBool x0.1 fun x1 x2 =>
 (nilV x2 (nilO x0.2
 (cond (!x1)
 (some ([.one (.str (bytesOf []))], []))
 ((FF n 105 [.agg [.int .i64 v0, .int .i64 v1, .fr (.ts v2)]] []).bind fun x3 =>
 (rStr x3.1 fun x4 x5 =>
 (nilV x5 (nilO x3.2
 (some ([.one (.str x4)], []))))))))))) := by kernel_rfl
theorem E_impl_subst (n : Nat) (v0 v1 : Int) (v2 : List T) (v3 v4 v5 : Int) (v6 : List T) : FF (n + 1) 97 [.agg [.int .i64 v0, .int .i64 v1, .fr (.ts v2)], .one (.int .i64 v3), .agg [.int .i64 v4, .int .i64 v5, .fr (.ts v6)]] [] =
 ((FF n 106 [.agg [.int .i64 v0, .int .i64 v1, .fr (.ts v2)], .one (.int .i64 0), .one (.fn 107 [0, 1, 2])] [.cells [.int .i64 v3], .cells [.int .i64 v4, .int .i64 v5, .fr (.ts v6)], .cells [.bool true]]).bind fun x0 =>
 (objC x0.2 fun x1 x2 =>
 (intC .i64 x1 fun x3 x4 =>
 (nilC x4
 (objC x2 fun x5 x6 =>
 (intC .i64 x5 fun x7 x8 =>
 (intC .i64 x8 fun x9 x10 =>
 (tsC x10 fun x11 x12 =>
 (nilC x12
 (objC x6 fun x13 x14 =>
 (boolC x13 fun x15 x16 =>
 (nilC x16
 (rTerm x0.1 fun x17 x18 =>
 (nilV x18 (nilO x14
 (cond (!x15)
 (some ([.agg [.int .i64 0, .int .i64 0, .fr (.ts [])], .one (.bool false)], []))
 ((FF n 41 [.agg [.int .i64 x17.k, .int .i64 x17.n, .fr (.ts x17.kids)]] []).bind fun x19 =>
 (rTerm x19.1 fun x20 x21 =>
 (rBool x21 fun x22 x23 =>
 (nilV x23 (nilO x19.2
 (some ([.agg [.int .i64 x20.k, .int .i64 x20.n, .fr (.ts x20.kids)], .one (.bool x22)], []))))))))))))))))))))))) := by kernel_rfl
theorem E_spec_l3Contract (n : Nat) (v0 v1 : Int) (v2 : List T) : FF (n + 1) 98 [.agg [.int .i64 v0, .int .i64 v1, .fr (.ts v2)]] [] =
 ((FF n 82 [.agg [.int .i64 v0, .int .i64 v1, .fr (.ts v2)]] []).bind fun x0 =>
 (rInt .i64 x0.1 fun x1 x2 =>
 (nilV x2 (nilO x0.2
 (cond (decide (x1 = 1))
 (v2[(0 : Int).toNat]?.bind fun x3 =>
 ((x3.kids)[(1 : Int).toNat]?.bind fun x4 =>
 (v2[(1 : Int).toNat]?.bind fun x5 =>
 ((FF n 110 [.agg [.int .i64 x4.k, .int .i64 x4.n, .fr (.ts x4.kids)], .one (.int .i64 0), .agg [.int .i64 x5.k, .int .i64 x5.n, .fr (.ts x5.kids)], .one (.int .i64 0)] []).bind fun x6 =>
 (rTerm x6.1 fun x7 x8 =>
 (nilV x8 (nilO x6.2
 (some ([.agg [.int .i64 x7.k, .int .i64 x7.n, .fr (.ts x7.kids)]], [])))))))))
 (cond (decide (x1 = 2))
 (v2[(1 : Int).toNat]?.bind fun x3 =>
 ((FF n 45 [.agg [.int .i64 x3.k, .int .i64 x3.n, .fr (.ts x3.kids)]] []).bind fun x4 =>
 (rOwnT 0 x4.1 fun x5 x6 x7 =>
 (arrTsC 25 x4.2 fun x8 x9 =>
 (nilV x7 (nilO x9
 (some ([.agg [.int .i64 x5, .int .i64 x6, .fr (.ts x8)]], []))))))))
 (cond (decide (x1 = 3))
 (v2[(3 : Int).toNat]?.bind fun x3 =>
 ((x3.kids)[(0 : Int).toNat]?.bind fun x4 =>
 (v2[(0 : Int).toNat]?.bind fun x5 =>
 ((FF n 45 [.agg [.int .i64 x5.k, .int .i64 x5.n, .fr (.ts x5.kids)]] []).bind fun x6 =>
 (rOwnT 0 x6.1 fun x7 x8 x9 =>
 (arrTsC 25 x6.2 fun x10 x11 =>
 (nilV x9 (nilO x11
 (v2[(1 : Int).toNat]?.bind fun x12 =>
 ((FF n 45 [.agg [.int .i64 x12.k, .int .i64 x12.n, .fr (.ts x12.kids)]] []).bind fun x13 =>
 (rOwnT 0 x13.1 fun x14 x15 x16 =>
 (arrTsC 25 x13.2 fun x17 x18 =>
 (nilV x16 (nilO x18
 (v2[(2 : Int).toNat]?.bind fun x19 =>
 ((FF n 45 [.agg [.int .i64 x19.k, .int .i64 x19.n, .fr (.ts x19.kids)]] []).bind fun x20 =>
 (rOwnT 0 x20.1 fun x21 x22 x23 =>
 (arrTsC 25 x20.2 fun x24 x25 =>
 (nilV x23 (nilO x25
 ((FF n 45 [.agg [.int .i64 x4.k, .int .i64 x4.n, .fr (.ts x4.kids)]] []).bind fun x26 =>
 (rOwnT 0 x26.1 fun x27 x28 x29 =>
 (arrTsC 25 x26.2 fun x30 x31 =>
 (nilV x29 (nilO x31
 ((FF n 46 [.one (.int .i64 9), .one (.fr (.ts [(T.mk x7 x8 x10), (T.mk x14 x15 x17), (T.mk x21 x22 x24), (T.mk x27 x28 x30)]))] []).bind fun x32 =>
 (rTerm x32.1 fun x33 x34 =>
 (nilV x34 (nilO x32.2
 (v2[(2 : Int).toNat]?.bind fun x35 =>
 ((FF n 45 [.agg [.int .i64 x35.k, .int .i64 x35.n, .fr (.ts x35.kids)]] []).bind fun x36 =>
 (rOwnT 0 x36.1 fun x37 x38 x39 =>
 (arrTsC 25 x36.2 fun x40 x41 =>
 (nilV x39 (nilO x41
 ((FF n 45 [.agg [.int .i64 x4.k, .int .i64 x4.n, .fr (.ts x4.kids)]] []).bind fun x42 =>
 (rOwnT 0 x42.1 fun x43 x44 x45 =>
 (arrTsC 25 x42.2 fun x46 x47 =>
 (nilV x45 (nilO x47
 ((FF n 46 [.one (.int .i64 5), .one (.fr (.ts [(T.mk x37 x38 x40), (T.mk x43 x44 x46)]))] []).bind fun x48 =>
 (rTerm x48.1 fun x49 x50 =>
 (nilV x50 (nilO x48.2
 ((FF n 46 [.one (.int .i64 5), .one (.fr (.ts [(T.mk x49.k x49.n x49.kids), (T.mk x33.k x33.n x33.kids)]))] []).bind fun x51 =>
 (rTerm x51.1 fun x52 x53 =>
 (nilV x53 (nilO x51.2
 (some ([.agg [.int .i64 x52.k, .int .i64 x52.n, .fr (.ts x52.kids)]], []))))))))))))))))))))))))))))))))))))))))))))))))))
 (cond (decide (x1 = 4))
 (v2[(2 : Int).toNat]?.bind fun x3 =>
 ((FF n 45 [.agg [.int .i64 x3.k, .int .i64 x3.n, .fr (.ts x3.kids)]] []).bind fun x4 =>
 (rOwnT 0 x4.1 fun x5 x6 x7 =>
 (arrTsC 25 x4.2 fun x8 x9 =>
 (nilV x7 (nilO x9
 (some ([.agg [.int .i64 x5, .int .i64 x6, .fr (.ts x8)]], []))))))))
 (cond (decide (x1 = 5))
 (v2[(0 : Int).toNat]?.bind fun x3 =>
 ((x3.kids)[(1 : Int).toNat]?.bind fun x4 =>
 ((FF n 45 [.agg [.int .i64 x4.k, .int .i64 x4.n, .fr (.ts x4.kids)]] []).bind fun x5 =>
 (rOwnT 0 x5.1 fun x6 x7 x8 =>
 (arrTsC 25 x5.2 fun x9 x10 =>
 (nilV x8 (nilO x10
 (some ([.agg [.int .i64 x6, .int .i64 x7, .fr (.ts x9)]], [])))))))))
 (v2[(0 : Int).toNat]?.bind fun x3 =>
 ((x3.kids)[(2 : Int).toNat]?.bind fun x4 =>
 ((FF n 45 [.agg [.int .i64 x4.k, .int .i64 x4.n, .fr (.ts x4.kids)]] []).bind fun x5 =>
 (rOwnT 0 x5.1 fun x6 x7 x8 =>
 (arrTsC 25 x5.2 fun x9 x10 =>
 (nilV x8 (nilO x10
 (some ([.agg [.int .i64 x6, .int .i64 x7, .fr (.ts x9)]], [])))))))))))))))))) := by kernel_rfl
theorem E_impl_maxFree_1 (n : Nat) (v0 v1 : Int) : FF (n + 1) 87 [.one (.int .i64 v0), .one (.ptr 0 0)] [.cells [.int .i64 v1]] =
 some ([], [.cells [.int .i64 (max v1 (IntKind.i64.wrap (v0 + 1)))]]) := by kernel_rfl
noncomputable def L_spec_l1Number_0 (n c : Nat) (v0 : ByteArray) (v1 v2 v3 : Int) : OR := runLoop Try.prog SS n 101 0 [1, 1, 0, 0] [] c ⟨[.v (.one (.str v0)), .v (.one (.int .i64 v1)), .v (.one (.int .i64 v2)), anyV, anyV, anyV, anyV, anyV, .v (.one (.int .i64 v3)), anyV, anyV, anyV, anyV, anyV, anyV, anyV, anyV, anyV, anyV, anyV, anyV, anyV, anyV, anyV, anyV, anyV, anyV, anyV, anyV, anyV, anyV, anyV, anyV, anyV, anyV, anyV, anyV, anyV, anyV, anyV, anyV, anyV, anyV, anyV, anyV, anyV, anyV, anyV, anyV],
 []⟩
theorem L_spec_l1Number_0_eq (n c : Nat) (v0 : ByteArray) (v1 v2 v3 : Int) : L_spec_l1Number_0 n (c + 1) v0 v1 v2 v3 =
 (cond (decide (v3 < (v0.size : Int)))
 (cond (decide (v3 < (IntKind.i64.wrap (v1 + v2))))
 (cond (decide (0 ≤ v3) && decide (v3 < ((v0.size : Nat) : Int)))
 (cond (decide (48 ≤ ((byteAt v0 (v3 : Int).toNat).toNat : Int)))
 (cond (decide (0 ≤ v3) && decide (v3 < ((v0.size : Nat) : Int)))
 (cond (decide (((byteAt v0 (v3 : Int).toNat).toNat : Int) ≤ 57))
 (L_spec_l1Number_0 n c v0 v1 v2 (IntKind.i64.wrap (v3 + 1)))
 (cond (Go.Ab.inB v1 v3 v0.size)
 ((FF n 111 [.one (.str (v0.extract (v1 : Int).toNat (v3 : Int).toNat))] []).bind fun x0 =>
 (rInt .i64 x0.1 fun x1 x2 =>
 (rBool x2 fun x3 x4 =>
 (nilV x4 (nilO x0.2
 (cond (!x3)
 (some ([.one (.int .i64 0), .one (.int .i64 (-1))], []))
 (some ([.one (.int .i64 x1), .one (.int .i64 v3)], []))))))))
 none))
 none)
 (cond (Go.Ab.inB v1 v3 v0.size)
 ((FF n 111 [.one (.str (v0.extract (v1 : Int).toNat (v3 : Int).toNat))] []).bind fun x0 =>
 (rInt .i64 x0.1 fun x1 x2 =>
 (rBool x2 fun x3 x4 =>
 (nilV x4 (nilO x0.2
 (cond (!x3)
 (some ([.one (.int .i64 0), .one (.int .i64 (-1))], []))
 (some ([.one (.int .i64 x1), .one (.int .i64 v3)], []))))))))
 none))
 none)
 (cond (Go.Ab.inB v1 v3 v0.size)
 ((FF n 111 [.one (.str (v0.extract (v1 : Int).toNat (v3 : Int).toNat))] []).bind fun x0 =>
 (rInt .i64 x0.1 fun x1 x2 =>
 (rBool x2 fun x3 x4 =>
 (nilV x4 (nilO x0.2
 (cond (!x3)
 (some ([.one (.int .i64 0), .one (.int .i64 (-1))], []))
 (some ([.one (.int .i64 x1), .one (.int .i64 v3)], []))))))))
 none))
 (cond (Go.Ab.inB v1 v3 v0.size)
 ((FF n 111 [.one (.str (v0.extract (v1 : Int).toNat (v3 : Int).toNat))] []).bind fun x0 =>
 (rInt .i64 x0.1 fun x1 x2 =>
 (rBool x2 fun x3 x4 =>
 (nilV x4 (nilO x0.2
 (cond (!x3)
 (some ([.one (.int .i64 0), .one (.int .i64 (-1))], []))
 (some ([.one (.int .i64 x1), .one (.int .i64 v3)], []))))))))
 none)) := by kernel_rfl
theorem E_spec_l1Number (n : Nat) (v0 : ByteArray) (v1 v2 : Int) : FF (n + 1) 101 [.one (.str v0), .one (.int .i64 v1), .one (.int .i64 v2)] [] =
 L_spec_l1Number_0 n n v0 v1 v2 v1 := by kernel_rfl
theorem E_spec_l1Prefix (n : Nat) (v0 : ByteArray) (v1 v2 : Int) : FF (n + 1) 102 [.one (.str v0), .one (.int .i64 v1), .one (.int .i64 v2)] [] =
 (cond (decide (0 ≤ v1) && decide (v1 < ((v0.size : Nat) : Int)))
 (cond (decide (((byteAt v0 (v1 : Int).toNat).toNat : Int) = 33))
 ((FF n 92 [.one (.str v0), .one (.int .i64 (IntKind.i64.wrap (v1 + 1))), .one (.int .i64 (IntKind.i64.wrap (v2 - 1)))] []).bind fun x0 =>
 (rTerm x0.1 fun x1 x2 =>
 (rInt .i64 x2 fun x3 x4 =>
 (nilV x4 (nilO x0.2
 ((FF n 46 [.one (.int .i64 11), .one (.fr (.ts [(T.mk x1.k x1.n x1.kids)]))] []).bind fun x5 =>
 (rTerm x5.1 fun x6 x7 =>
 (nilV x7 (nilO x5.2
 (some ([.agg [.int .i64 x6.k, .int .i64 x6.n, .fr (.ts x6.kids)], .one (.int .i64 x3)], [])))))))))))
 (cond (decide (((byteAt v0 (v1 : Int).toNat).toNat : Int) = 94))
 ((FF n 92 [.one (.str v0), .one (.int .i64 (IntKind.i64.wrap (v1 + 1))), .one (.int .i64 (IntKind.i64.wrap (v2 - 1)))] []).bind fun x0 =>
 (rTerm x0.1 fun x1 x2 =>
 (rInt .i64 x2 fun x3 x4 =>
 (nilV x4 (nilO x0.2
 ((FF n 46 [.one (.int .i64 15), .one (.fr (.ts [(T.mk x1.k x1.n x1.kids)]))] []).bind fun x5 =>
 (rTerm x5.1 fun x6 x7 =>
 (nilV x7 (nilO x5.2
 (some ([.agg [.int .i64 x6.k, .int .i64 x6.n, .fr (.ts x6.kids)], .one (.int .i64 x3)], [])))))))))))
 (cond (decide (((byteAt v0 (v1 : Int).toNat).toNat : Int) = 95))
 ((FF n 92 [.one (.str v0), .one (.int .i64 (IntKind.i64.wrap (v1 + 1))), .one (.int .i64 (IntKind.i64.wrap (v2 - 1)))] []).bind fun x0 =>
 (rTerm x0.1 fun x1 x2 =>
 (rInt .i64 x2 fun x3 x4 =>
 (nilV x4 (nilO x0.2
 ((FF n 46 [.one (.int .i64 16), .one (.fr (.ts [(T.mk x1.k x1.n x1.kids)]))] []).bind fun x5 =>
 (rTerm x5.1 fun x6 x7 =>
 (nilV x7 (nilO x5.2
 (some ([.agg [.int .i64 x6.k, .int .i64 x6.n, .fr (.ts x6.kids)], .one (.int .i64 x3)], [])))))))))))
 ((FF n 92 [.one (.str v0), .one (.int .i64 (IntKind.i64.wrap (v1 + 1))), .one (.int .i64 (IntKind.i64.wrap (v2 - 1)))] []).bind fun x0 =>
 (rTerm x0.1 fun x1 x2 =>
 (rInt .i64 x2 fun x3 x4 =>
 (nilV x4 (nilO x0.2
 ((FF n 46 [.one (.int .i64 8), .one (.fr (.ts [(T.mk x1.k x1.n x1.kids)]))] []).bind fun x5 =>
 (rTerm x5.1 fun x6 x7 =>
 (nilV x7 (nilO x5.2
 (some ([.agg [.int .i64 x6.k, .int .i64 x6.n, .fr (.ts x6.kids)], .one (.int .i64 x3)], []))))))))))))))
 none) := by kernel_rfl
theorem E_spec_l1Round (n : Nat) (v0 : ByteArray) (v1 v2 : Int) : FF (n + 1) 103 [.one (.str v0), .one (.int .i64 v1), .one (.int .i64 v2)] [] =
 ((FF n 92 [.one (.str v0), .one (.int .i64 v1), .one (.int .i64 v2)] []).bind fun x0 =>
 (rTerm x0.1 fun x1 x2 =>
 (rInt .i64 x2 fun x3 x4 =>
 (nilV x4 (nilO x0.2
 (cond (decide (x3 < 0))
 (some ([.agg [.int .i64 0, .int .i64 0, .fr (.ts [])], .one (.int .i64 (-1))], []))
 (cond (decide ((v0.size : Int) ≤ x3))
 (some ([.agg [.int .i64 0, .int .i64 0, .fr (.ts [])], .one (.int .i64 (-1))], []))
 (cond (decide (0 ≤ x3) && decide (x3 < ((v0.size : Nat) : Int)))
 (cond (decide (((byteAt v0 (x3 : Int).toNat).toNat : Int) = 62))
 ((FF n 92 [.one (.str v0), .one (.int .i64 (IntKind.i64.wrap (x3 + 1))), .one (.int .i64 v2)] []).bind fun x5 =>
 (rTerm x5.1 fun x6 x7 =>
 (rInt .i64 x7 fun x8 x9 =>
 (nilV x9 (nilO x5.2
 (cond (decide (x8 < 0))
 (some ([.agg [.int .i64 0, .int .i64 0, .fr (.ts [])], .one (.int .i64 (-1))], []))
 (cond (decide ((v0.size : Int) ≤ x8))
 (some ([.agg [.int .i64 0, .int .i64 0, .fr (.ts [])], .one (.int .i64 (-1))], []))
 (cond (decide (0 ≤ x8) && decide (x8 < ((v0.size : Nat) : Int)))
 (cond (!decide (((byteAt v0 (x8 : Int).toNat).toNat : Int) = 41))
 (some ([.agg [.int .i64 0, .int .i64 0, .fr (.ts [])], .one (.int .i64 (-1))], []))
 ((FF n 46 [.one (.int .i64 3), .one (.fr (.ts [(T.mk x1.k x1.n x1.kids), (T.mk x6.k x6.n x6.kids)]))] []).bind fun x10 =>
 (rTerm x10.1 fun x11 x12 =>
 (nilV x12 (nilO x10.2
 (some ([.agg [.int .i64 x11.k, .int .i64 x11.n, .fr (.ts x11.kids)], .one (.int .i64 (IntKind.i64.wrap (x8 + 1)))], [])))))))
 none))))))))
 (cond (decide (((byteAt v0 (x3 : Int).toNat).toNat : Int) = 42))
 ((FF n 92 [.one (.str v0), .one (.int .i64 (IntKind.i64.wrap (x3 + 1))), .one (.int .i64 v2)] []).bind fun x5 =>
 (rTerm x5.1 fun x6 x7 =>
 (rInt .i64 x7 fun x8 x9 =>
 (nilV x9 (nilO x5.2
 (cond (decide (x8 < 0))
 (some ([.agg [.int .i64 0, .int .i64 0, .fr (.ts [])], .one (.int .i64 (-1))], []))
 (cond (decide ((v0.size : Int) ≤ x8))
 (some ([.agg [.int .i64 0, .int .i64 0, .fr (.ts [])], .one (.int .i64 (-1))], []))
 (cond (decide (0 ≤ x8) && decide (x8 < ((v0.size : Nat) : Int)))
 (cond (!decide (((byteAt v0 (x8 : Int).toNat).toNat : Int) = 41))
 (some ([.agg [.int .i64 0, .int .i64 0, .fr (.ts [])], .one (.int .i64 (-1))], []))
 ((FF n 46 [.one (.int .i64 13), .one (.fr (.ts [(T.mk x1.k x1.n x1.kids), (T.mk x6.k x6.n x6.kids)]))] []).bind fun x10 =>
 (rTerm x10.1 fun x11 x12 =>
 (nilV x12 (nilO x10.2
 (some ([.agg [.int .i64 x11.k, .int .i64 x11.n, .fr (.ts x11.kids)], .one (.int .i64 (IntKind.i64.wrap (x8 + 1)))], [])))))))
 none))))))))
 (cond (decide (((byteAt v0 (x3 : Int).toNat).toNat : Int) = 32))
 ((FF n 92 [.one (.str v0), .one (.int .i64 (IntKind.i64.wrap (x3 + 1))), .one (.int .i64 v2)] []).bind fun x5 =>
 (rTerm x5.1 fun x6 x7 =>
 (rInt .i64 x7 fun x8 x9 =>
 (nilV x9 (nilO x5.2
 (cond (decide (x8 < 0))
 (some ([.agg [.int .i64 0, .int .i64 0, .fr (.ts [])], .one (.int .i64 (-1))], []))
 (cond (decide ((v0.size : Int) ≤ x8))
 (some ([.agg [.int .i64 0, .int .i64 0, .fr (.ts [])], .one (.int .i64 (-1))], []))
 (cond (decide (0 ≤ x8) && decide (x8 < ((v0.size : Nat) : Int)))
 (cond (!decide (((byteAt v0 (x8 : Int).toNat).toNat : Int) = 41))
 (some ([.agg [.int .i64 0, .int .i64 0, .fr (.ts [])], .one (.int .i64 (-1))], []))
 ((FF n 46 [.one (.int .i64 5), .one (.fr (.ts [(T.mk x1.k x1.n x1.kids), (T.mk x6.k x6.n x6.kids)]))] []).bind fun x10 =>
 (rTerm x10.1 fun x11 x12 =>
 (nilV x12 (nilO x10.2
 (some ([.agg [.int .i64 x11.k, .int .i64 x11.n, .fr (.ts x11.kids)], .one (.int .i64 (IntKind.i64.wrap (x8 + 1)))], [])))))))
 none))))))))
 ((FF n 92 [.one (.str v0), .one (.int .i64 (IntKind.i64.wrap (x3 + 1))), .one (.int .i64 v2)] []).bind fun x5 =>
 (rTerm x5.1 fun x6 x7 =>
 (rInt .i64 x7 fun x8 x9 =>
 (nilV x9 (nilO x5.2
 (some ([.agg [.int .i64 0, .int .i64 0, .fr (.ts [])], .one (.int .i64 (-1))], []))))))))))
 none)))))))) := by kernel_rfl
theorem E_spec_l1Block (n : Nat) (v0 : ByteArray) (v1 v2 : Int) : FF (n + 1) 104 [.one (.str v0), .one (.int .i64 v1), .one (.int .i64 v2)] [] =
 (cond (decide (0 ≤ v1) && decide (v1 < ((v0.size : Nat) : Int)))
 (cond (decide (((byteAt v0 (v1 : Int).toNat).toNat : Int) = 60))
 ((FF n 74 [.one (.int .i64 9)] []).bind fun x0 =>
 (rInt .i64 x0.1 fun x1 x2 =>
 (nilV x2 (nilO x0.2
 ((FF n 112 [.one (.str v0), .one (.int .i64 (IntKind.i64.wrap (v1 + 1))), .one (.int .i64 (IntKind.i64.wrap (v2 - 1))), .one (.int .i64 x1), .one (.int .u8 62)] []).bind fun x3 =>
 (rTs x3.1 fun x4 x5 =>
 (rInt .i64 x5 fun x6 x7 =>
 (nilV x7 (nilO x3.2
 (some ([.agg [.int .i64 9, .int .i64 0, .fr (.ts x4)], .one (.int .i64 x6)], [])))))))))))
 (cond (decide (((byteAt v0 (v1 : Int).toNat).toNat : Int) = 123))
 ((FF n 74 [.one (.int .i64 10)] []).bind fun x0 =>
 (rInt .i64 x0.1 fun x1 x2 =>
 (nilV x2 (nilO x0.2
 ((FF n 112 [.one (.str v0), .one (.int .i64 (IntKind.i64.wrap (v1 + 1))), .one (.int .i64 (IntKind.i64.wrap (v2 - 1))), .one (.int .i64 x1), .one (.int .u8 125)] []).bind fun x3 =>
 (rTs x3.1 fun x4 x5 =>
 (rInt .i64 x5 fun x6 x7 =>
 (nilV x7 (nilO x3.2
 (some ([.agg [.int .i64 10, .int .i64 0, .fr (.ts x4)], .one (.int .i64 x6)], [])))))))))))
 (cond (decide (((byteAt v0 (v1 : Int).toNat).toNat : Int) = 124))
 ((FF n 74 [.one (.int .i64 14)] []).bind fun x0 =>
 (rInt .i64 x0.1 fun x1 x2 =>
 (nilV x2 (nilO x0.2
 ((FF n 112 [.one (.str v0), .one (.int .i64 (IntKind.i64.wrap (v1 + 1))), .one (.int .i64 (IntKind.i64.wrap (v2 - 1))), .one (.int .i64 x1), .one (.int .u8 124)] []).bind fun x3 =>
 (rTs x3.1 fun x4 x5 =>
 (rInt .i64 x5 fun x6 x7 =>
 (nilV x7 (nilO x3.2
 (some ([.agg [.int .i64 14, .int .i64 0, .fr (.ts x4)], .one (.int .i64 x6)], [])))))))))))
 (cond (decide (((byteAt v0 (v1 : Int).toNat).toNat : Int) = 64))
 (cond (decide ((v0.size : Int) < (IntKind.i64.wrap (v1 + 2))))
 (some ([.agg [.int .i64 0, .int .i64 0, .fr (.ts [])], .one (.int .i64 (-1))], []))
 (cond (decide (0 ≤ (IntKind.i64.wrap (v1 + 1))) && decide ((IntKind.i64.wrap (v1 + 1)) < ((v0.size : Nat) : Int)))
 (cond (!decide (((byteAt v0 ((IntKind.i64.wrap (v1 + 1)) : Int).toNat).toNat : Int) = 60))
 (some ([.agg [.int .i64 0, .int .i64 0, .fr (.ts [])], .one (.int .i64 (-1))], []))
 ((FF n 74 [.one (.int .i64 12)] []).bind fun x0 =>
 (rInt .i64 x0.1 fun x1 x2 =>
 (nilV x2 (nilO x0.2
 ((FF n 112 [.one (.str v0), .one (.int .i64 (IntKind.i64.wrap (v1 + 2))), .one (.int .i64 (IntKind.i64.wrap (v2 - 1))), .one (.int .i64 x1), .one (.int .u8 62)] []).bind fun x3 =>
 (rTs x3.1 fun x4 x5 =>
 (rInt .i64 x5 fun x6 x7 =>
 (nilV x7 (nilO x3.2
 (some ([.agg [.int .i64 12, .int .i64 0, .fr (.ts x4)], .one (.int .i64 x6)], []))))))))))))
 none))
 (some ([.agg [.int .i64 0, .int .i64 0, .fr (.ts [])], .one (.int .i64 (-1))], []))))))
 none) := by kernel_rfl
theorem E_spec_l1Text (n : Nat) (v0 v1 : Int) (v2 : List T) : FF (n + 1) 105 [.agg [.int .i64 v0, .int .i64 v1, .fr (.ts v2)]] [] =
 (cond (decide (v0 = 1))
 ((FF n 113 [.one (.int .i64 v1)] []).bind fun x0 =>
 (rStr x0.1 fun x1 x2 =>
 (nilV x2 (nilO x0.2
 (cond (decide ((bytesOf [35]).size + x1.size ≤ 9223372036854775807))
 (some ([.one (.str ((bytesOf [35]) ++ x1))], []))
 none)))))
 (cond (decide (v0 = 2))
 ((FF n 113 [.one (.int .i64 v1)] []).bind fun x0 =>
 (rStr x0.1 fun x1 x2 =>
 (nilV x2 (nilO x0.2
 (cond (decide ((bytesOf [42]).size + x1.size ≤ 9223372036854775807))
 (some ([.one (.str ((bytesOf [42]) ++ x1))], []))
 none)))))
 (cond (decide (v0 = 6))
 (some ([.one (.str (bytesOf [78]))], []))
 (cond (decide (v0 = 7))
 (some ([.one (.str (bytesOf [48]))], []))
 (cond (decide (v0 = 8))
 (v2[(0 : Int).toNat]?.bind fun x0 =>
 ((FF n 105 [.agg [.int .i64 x0.k, .int .i64 x0.n, .fr (.ts x0.kids)]] []).bind fun x1 =>
 (rStr x1.1 fun x2 x3 =>
 (nilV x3 (nilO x1.2
 (cond (decide ((bytesOf [43]).size + x2.size ≤ 9223372036854775807))
 (some ([.one (.str ((bytesOf [43]) ++ x2))], []))
 none))))))
 (cond (decide (v0 = 11))
 (v2[(0 : Int).toNat]?.bind fun x0 =>
 ((FF n 105 [.agg [.int .i64 x0.k, .int .i64 x0.n, .fr (.ts x0.kids)]] []).bind fun x1 =>
 (rStr x1.1 fun x2 x3 =>
 (nilV x3 (nilO x1.2
 (cond (decide ((bytesOf [33]).size + x2.size ≤ 9223372036854775807))
 (some ([.one (.str ((bytesOf [33]) ++ x2))], []))
 none))))))
 (cond (decide (v0 = 15))
 (v2[(0 : Int).toNat]?.bind fun x0 =>
 ((FF n 105 [.agg [.int .i64 x0.k, .int .i64 x0.n, .fr (.ts x0.kids)]] []).bind fun x1 =>
 (rStr x1.1 fun x2 x3 =>
 (nilV x3 (nilO x1.2
 (cond (decide ((bytesOf [94]).size + x2.size ≤ 9223372036854775807))
 (some ([.one (.str ((bytesOf [94]) ++ x2))], []))
 none))))))
 (cond (decide (v0 = 16))
 (v2[(0 : Int).toNat]?.bind fun x0 =>
 ((FF n 105 [.agg [.int .i64 x0.k, .int .i64 x0.n, .fr (.ts x0.kids)]] []).bind fun x1 =>
 (rStr x1.1 fun x2 x3 =>
 (nilV x3 (nilO x1.2
 (cond (decide ((bytesOf [95]).size + x2.size ≤ 9223372036854775807))
 (some ([.one (.str ((bytesOf [95]) ++ x2))], []))
 none))))))
 (cond (decide (v0 = 3))
 (v2[(0 : Int).toNat]?.bind fun x0 =>
 ((FF n 105 [.agg [.int .i64 x0.k, .int .i64 x0.n, .fr (.ts x0.kids)]] []).bind fun x1 =>
 (rStr x1.1 fun x2 x3 =>
 (nilV x3 (nilO x1.2
 (cond (decide ((bytesOf [40]).size + x2.size ≤ 9223372036854775807))
 (cond (decide (((bytesOf [40]) ++ x2).size + (bytesOf [62]).size ≤ 9223372036854775807))
 (v2[(1 : Int).toNat]?.bind fun x4 =>
 ((FF n 105 [.agg [.int .i64 x4.k, .int .i64 x4.n, .fr (.ts x4.kids)]] []).bind fun x5 =>
 (rStr x5.1 fun x6 x7 =>
 (nilV x7 (nilO x5.2
 (cond (decide ((((bytesOf [40]) ++ x2) ++ (bytesOf [62])).size + x6.size ≤ 9223372036854775807))
 (cond (decide (((((bytesOf [40]) ++ x2) ++ (bytesOf [62])) ++ x6).size + (bytesOf [41]).size ≤ 9223372036854775807))
 (some ([.one (.str (((((bytesOf [40]) ++ x2) ++ (bytesOf [62])) ++ x6) ++ (bytesOf [41])))], []))
 none)
 none))))))
 none)
 none))))))
 (cond (decide (v0 = 13))
 (v2[(0 : Int).toNat]?.bind fun x0 =>
 ((FF n 105 [.agg [.int .i64 x0.k, .int .i64 x0.n, .fr (.ts x0.kids)]] []).bind fun x1 =>
 (rStr x1.1 fun x2 x3 =>
 (nilV x3 (nilO x1.2
 (cond (decide ((bytesOf [40]).size + x2.size ≤ 9223372036854775807))
 (cond (decide (((bytesOf [40]) ++ x2).size + (bytesOf [42]).size ≤ 9223372036854775807))
 (v2[(1 : Int).toNat]?.bind fun x4 =>
 ((FF n 105 [.agg [.int .i64 x4.k, .int .i64 x4.n, .fr (.ts x4.kids)]] []).bind fun x5 =>
 (rStr x5.1 fun x6 x7 =>
 (nilV x7 (nilO x5.2
 (cond (decide ((((bytesOf [40]) ++ x2) ++ (bytesOf [42])).size + x6.size ≤ 9223372036854775807))
 (cond (decide (((((bytesOf [40]) ++ x2) ++ (bytesOf [42])) ++ x6).size + (bytesOf [41]).size ≤ 9223372036854775807))
 (some ([.one (.str (((((bytesOf [40]) ++ x2) ++ (bytesOf [42])) ++ x6) ++ (bytesOf [41])))], []))
 none)
 none))))))
 none)
 none))))))
 (cond (decide (v0 = 5))
 (v2[(0 : Int).toNat]?.bind fun x0 =>
 ((FF n 105 [.agg [.int .i64 x0.k, .int .i64 x0.n, .fr (.ts x0.kids)]] []).bind fun x1 =>
 (rStr x1.1 fun x2 x3 =>
 (nilV x3 (nilO x1.2
 (cond (decide ((bytesOf [40]).size + x2.size ≤ 9223372036854775807))
 (cond (decide (((bytesOf [40]) ++ x2).size + (bytesOf [32]).size ≤ 9223372036854775807))
 (v2[(1 : Int).toNat]?.bind fun x4 =>
 ((FF n 105 [.agg [.int .i64 x4.k, .int .i64 x4.n, .fr (.ts x4.kids)]] []).bind fun x5 =>
 (rStr x5.1 fun x6 x7 =>
 (nilV x7 (nilO x5.2
 (cond (decide ((((bytesOf [40]) ++ x2) ++ (bytesOf [32])).size + x6.size ≤ 9223372036854775807))
 (cond (decide (((((bytesOf [40]) ++ x2) ++ (bytesOf [32])) ++ x6).size + (bytesOf [41]).size ≤ 9223372036854775807))
 (some ([.one (.str (((((bytesOf [40]) ++ x2) ++ (bytesOf [32])) ++ x6) ++ (bytesOf [41])))], []))
 none)
 none))))))
 none)
 none))))))
 (cond (decide (v0 = 4))
 (v2[(0 : Int).toNat]?.bind fun x0 =>
 ((FF n 105 [.agg [.int .i64 x0.k, .int .i64 x0.n, .fr (.ts x0.kids)]] []).bind fun x1 =>
 (rStr x1.1 fun x2 x3 =>
 (nilV x3 (nilO x1.2
 (cond (decide ((bytesOf [91]).size + x2.size ≤ 9223372036854775807))
 (cond (decide (((bytesOf [91]) ++ x2).size + (bytesOf [93]).size ≤ 9223372036854775807))
 (v2[(1 : Int).toNat]?.bind fun x4 =>
 ((FF n 105 [.agg [.int .i64 x4.k, .int .i64 x4.n, .fr (.ts x4.kids)]] []).bind fun x5 =>
 (rStr x5.1 fun x6 x7 =>
 (nilV x7 (nilO x5.2
 (cond (decide ((((bytesOf [91]) ++ x2) ++ (bytesOf [93])).size + x6.size ≤ 9223372036854775807))
 (some ([.one (.str ((((bytesOf [91]) ++ x2) ++ (bytesOf [93])) ++ x6))], []))
 none))))))
 none)
 none))))))
 (cond (decide (v0 = 10))
 ((FF n 114 [.one (.fr (.ts v2))] []).bind fun x0 =>
 (rStr x0.1 fun x1 x2 =>
 (nilV x2 (nilO x0.2
 (cond (decide ((bytesOf [123]).size + x1.size ≤ 9223372036854775807))
 (cond (decide (((bytesOf [123]) ++ x1).size + (bytesOf [125]).size ≤ 9223372036854775807))
 (some ([.one (.str (((bytesOf [123]) ++ x1) ++ (bytesOf [125])))], []))
 none)
 none)))))
 (cond (decide (v0 = 14))
 ((FF n 114 [.one (.fr (.ts v2))] []).bind fun x0 =>
 (rStr x0.1 fun x1 x2 =>
 (nilV x2 (nilO x0.2
 (cond (decide ((bytesOf [124]).size + x1.size ≤ 9223372036854775807))
 (cond (decide (((bytesOf [124]) ++ x1).size + (bytesOf [124]).size ≤ 9223372036854775807))
 (some ([.one (.str (((bytesOf [124]) ++ x1) ++ (bytesOf [124])))], []))
 none)
 none)))))
 (cond (decide (v0 = 12))
 ((FF n 114 [.one (.fr (.ts v2))] []).bind fun x0 =>
 (rStr x0.1 fun x1 x2 =>
 (nilV x2 (nilO x0.2
 (cond (decide ((bytesOf [64, 60]).size + x1.size ≤ 9223372036854775807))
 (cond (decide (((bytesOf [64, 60]) ++ x1).size + (bytesOf [62]).size ≤ 9223372036854775807))
 (some ([.one (.str (((bytesOf [64, 60]) ++ x1) ++ (bytesOf [62])))], []))
 none)
 none)))))
 ((FF n 114 [.one (.fr (.ts v2))] []).bind fun x0 =>
 (rStr x0.1 fun x1 x2 =>
 (nilV x2 (nilO x0.2
 (cond (decide ((bytesOf [60]).size + x1.size ≤ 9223372036854775807))
 (cond (decide (((bytesOf [60]) ++ x1).size + (bytesOf [62]).size ≤ 9223372036854775807))
 (some ([.one (.str (((bytesOf [60]) ++ x1) ++ (bytesOf [62])))], []))
 none)
 none)))))))))))))))))))) := by kernel_rfl
noncomputable def L_impl_changed_impl_subst_1_0_ffoo (n c : Nat) (v0 : Int) (v1 : List T) (v2 v3 v4 v5 v6 : Int) (v7 : List T) (v8 : Bool) (v9 v10 : Int) (v11 : List T) (v12 v13 : Int) (v14 : List T) (v15 v16 : Int) (v17 : List T) : OR := runLoop Try.prog SS n 106 3 [1, 1, 1, 0, 1, 0] [] c ⟨[anyV, .v (.one (.int .i64 v0)), .v (.one (.fn 107 [0, 1, 2])), .v (.one (.ptr 3 0)), anyV, anyV, .v (.one (.ptr 4 0)), .v (.one (.ptr 6 0)), anyV, anyV, anyV, anyV, anyV, anyV, anyV, anyV, anyV, anyV, anyV, anyV, anyV, anyV, anyV, anyV, .v (.one (.fr (.ts v1))), .v (.one (.int .i64 v2)), .v (.one (.int .i64 v3)), anyV, anyV, anyV, anyV, anyV, anyV, anyV, anyV, anyV, anyV, anyV, anyV, anyV, anyV, anyV, anyV, anyV, anyV, anyV, anyV],
 [.cells [.int .i64 v4], .cells [.int .i64 v5, .int .i64 v6, .fr (.ts v7)], .cells [.bool v8], .cells [.int .i64 v9, .int .i64 v10, .fr (.ts v11)], .cells [.int .i64 v12, .int .i64 v13, .own 5 0], .arr 25 (.ts v14) 0 false, .cells [.int .i64 v15, .int .i64 v16, .own 7 0], .arr 25 (.ts v17) 0 false]⟩
theorem L_impl_changed_impl_subst_1_0_ffoo_eq (n c : Nat) (v0 : Int) (v1 : List T) (v2 v3 v4 v5 v6 : Int) (v7 : List T) (v8 : Bool) (v9 v10 : Int) (v11 : List T) (v12 v13 : Int) (v14 : List T) (v15 v16 : Int) (v17 : List T) : L_impl_changed_impl_subst_1_0_ffoo n (c + 1) v0 v1 v2 v3 v4 v5 v6 v7 v8 v9 v10 v11 v12 v13 v14 v15 v16 v17 =
 (cond (decide (v3 < v2))
 (cond (decide (0 ≤ v3))
 (v1[(v3 : Int).toNat]?.bind fun x0 =>
 ((FF n 90 [.one (.int .i64 v9), .one (.int .i64 v3)] []).bind fun x1 =>
 (rInt .i64 x1.1 fun x2 x3 =>
 (nilV x3 (nilO x1.2
 ((FF n 106 [.agg [.int .i64 x0.k, .int .i64 x0.n, .fr (.ts x0.kids)], .one (.int .i64 (IntKind.i64.wrap (v0 + x2))), .one (.fn 107 [0, 1, 2])] [.cells [.int .i64 v4], .cells [.int .i64 v5, .int .i64 v6, .fr (.ts v7)], .cells [.bool v8]]).bind fun x4 =>
 (objC x4.2 fun x5 x6 =>
 (intC .i64 x5 fun x7 x8 =>
 (nilC x8
 (objC x6 fun x9 x10 =>
 (intC .i64 x9 fun x11 x12 =>
 (intC .i64 x12 fun x13 x14 =>
 (tsC x14 fun x15 x16 =>
 (nilC x16
 (objC x10 fun x17 x18 =>
 (boolC x17 fun x19 x20 =>
 (nilC x20
 (rTerm x4.1 fun x21 x22 =>
 (nilV x22 (nilO x18
 (cond (roomB (v17 ++ [(T.mk x21.k x21.n x21.kids)]).length)
 (L_impl_changed_impl_subst_1_0_ffoo n c v0 v1 v2 (IntKind.i64.wrap (v3 + 1)) x7 x11 x13 x15 x19 v9 v10 v11 v12 v13 v14 v15 v16 (v17 ++ [(T.mk x21.k x21.n x21.kids)]))
 none)))))))))))))))))))))
 none)
 (some ([.agg [.int .i64 v15, .int .i64 v16, .fr (.ts v17)]], [.cells [.int .i64 v4], .cells [.int .i64 v5, .int .i64 v6, .fr (.ts v7)], .cells [.bool v8]]))) := by kernel_rfl
theorem E_impl_changed_impl_subst_1 (n : Nat) (v0 v1 : Int) (v2 : List T) (v3 v4 v5 v6 : Int) (v7 : List T) (v8 : Bool) : FF (n + 1) 106 [.agg [.int .i64 v0, .int .i64 v1, .fr (.ts v2)], .one (.int .i64 v3), .one (.fn 107 [0, 1, 2])] [.cells [.int .i64 v4], .cells [.int .i64 v5, .int .i64 v6, .fr (.ts v7)], .cells [.bool v8]] =
 (cond (decide (v0 = 1))
 ((FF n 107 [.one (.int .i64 v1), .one (.int .i64 v3), .one (.ptr 0 0), .one (.ptr 1 0), .one (.ptr 2 0)] [.cells [.int .i64 v4], .cells [.int .i64 v5, .int .i64 v6, .fr (.ts v7)], .cells [.bool v8]]).bind fun x0 =>
 (objC x0.2 fun x1 x2 =>
 (intC .i64 x1 fun x3 x4 =>
 (nilC x4
 (objC x2 fun x5 x6 =>
 (intC .i64 x5 fun x7 x8 =>
 (intC .i64 x8 fun x9 x10 =>
 (tsC x10 fun x11 x12 =>
 (nilC x12
 (objC x6 fun x13 x14 =>
 (boolC x13 fun x15 x16 =>
 (nilC x16
 (rTerm x0.1 fun x17 x18 =>
 (nilV x18 (nilO x14
 (some ([.agg [.int .i64 x17.k, .int .i64 x17.n, .fr (.ts x17.kids)]], [.cells [.int .i64 x3], .cells [.int .i64 x7, .int .i64 x9, .fr (.ts x11)], .cells [.bool x15]])))))))))))))))))
 (L_impl_changed_impl_subst_1_0_ffoo n n v3 v2 ((v2.length : Int) : Int) 0 v4 v5 v6 v7 v8 v0 v1 v2 0 0 ([]) v0 v1 ([]))) := by kernel_rfl
noncomputable def L_spec_l2Subst_0_ffoo (n c : Nat) (v0 v1 v2 v3 v4 : Int) (v5 : List T) (v6 v7 : Int) (v8 : List T) (v9 v10 : Int) (v11 : List T) (v12 v13 : Int) (v14 : List T) : OR := runLoop Try.prog SS n 110 0 [1, 1, 1, 1, 0, 1, 0] [] c ⟨[anyV, .v (.one (.int .i64 v0)), anyV, .v (.one (.int .i64 v1)), .v (.one (.ptr 0 0)), anyV, .v (.one (.ptr 1 0)), anyV, .v (.one (.ptr 2 0)), .v (.one (.ptr 4 0)), .v (.one (.int .i64 v2)), anyV, anyV, anyV, anyV, anyV, anyV, anyV, anyV, anyV, anyV, anyV, anyV, anyV, anyV, anyV, anyV, anyV, anyV, anyV, anyV, anyV, anyV, anyV, anyV, anyV, anyV, anyV, anyV, anyV, anyV, anyV, anyV, anyV, anyV, anyV, anyV, anyV, anyV, anyV, anyV, anyV, anyV, anyV, anyV, anyV, anyV, anyV, anyV, anyV, anyV, anyV, anyV, anyV, anyV, anyV, anyV, anyV, anyV, anyV, anyV, anyV],
 [.cells [.int .i64 v3, .int .i64 v4, .fr (.ts v5)], .cells [.int .i64 v6, .int .i64 v7, .fr (.ts v8)], .cells [.int .i64 v9, .int .i64 v10, .own 3 0], .arr 25 (.ts v11) 0 false, .cells [.int .i64 v12, .int .i64 v13, .own 5 0], .arr 25 (.ts v14) 0 false]⟩
theorem L_spec_l2Subst_0_ffoo_eq (n c : Nat) (v0 v1 v2 v3 v4 : Int) (v5 : List T) (v6 v7 : Int) (v8 : List T) (v9 v10 : Int) (v11 : List T) (v12 v13 : Int) (v14 : List T) : L_spec_l2Subst_0_ffoo n (c + 1) v0 v1 v2 v3 v4 v5 v6 v7 v8 v9 v10 v11 v12 v13 v14 =
 (cond (decide (v2 < (v5.length : Int)))
 ((FF n 117 [.one (.int .i64 v3), .one (.int .i64 v2)] []).bind fun x0 =>
 (rInt .i64 x0.1 fun x1 x2 =>
 (nilV x2 (nilO x0.2
 (cond (decide (0 ≤ v2))
 (v5[(v2 : Int).toNat]?.bind fun x3 =>
 ((FF n 110 [.agg [.int .i64 x3.k, .int .i64 x3.n, .fr (.ts x3.kids)], .one (.int .i64 (IntKind.i64.wrap (v0 + x1))), .agg [.int .i64 v6, .int .i64 v7, .fr (.ts v8)], .one (.int .i64 (IntKind.i64.wrap (v1 + x1)))] []).bind fun x4 =>
 (rTerm x4.1 fun x5 x6 =>
 (nilV x6 (nilO x4.2
 (cond (roomB (v14 ++ [(T.mk x5.k x5.n x5.kids)]).length)
 (L_spec_l2Subst_0_ffoo n c v0 v1 (IntKind.i64.wrap (v2 + 1)) v3 v4 v5 v6 v7 v8 v9 v10 v11 v12 v13 (v14 ++ [(T.mk x5.k x5.n x5.kids)]))
 none))))))
 none)))))
 (some ([.agg [.int .i64 v12, .int .i64 v13, .fr (.ts v14)]], []))) := by kernel_rfl
theorem E_spec_l2Subst (n : Nat) (v0 v1 : Int) (v2 : List T) (v3 v4 v5 : Int) (v6 : List T) (v7 : Int) : FF (n + 1) 110 [.agg [.int .i64 v0, .int .i64 v1, .fr (.ts v2)], .one (.int .i64 v3), .agg [.int .i64 v4, .int .i64 v5, .fr (.ts v6)], .one (.int .i64 v7)] [] =
 (cond (decide (v0 = 1))
 (cond (decide (v1 = v3))
 ((FF n 116 [.agg [.int .i64 v4, .int .i64 v5, .fr (.ts v6)], .one (.int .i64 v7), .one (.int .i64 0)] []).bind fun x0 =>
 (rTerm x0.1 fun x1 x2 =>
 (nilV x2 (nilO x0.2
 (some ([.agg [.int .i64 x1.k, .int .i64 x1.n, .fr (.ts x1.kids)]], []))))))
 (cond (decide (v0 = 1))
 (cond (decide (v3 < v1))
 (L_spec_l2Subst_0_ffoo n n v3 v7 0 v0 v1 v2 v4 v5 v6 0 0 ([]) v0 (IntKind.i64.wrap (v1 - 1)) ([]))
 (L_spec_l2Subst_0_ffoo n n v3 v7 0 v0 v1 v2 v4 v5 v6 0 0 ([]) v0 v1 ([])))
 (L_spec_l2Subst_0_ffoo n n v3 v7 0 v0 v1 v2 v4 v5 v6 0 0 ([]) v0 v1 ([]))))
 (cond (decide (v0 = 1))
 (cond (decide (v3 < v1))
 (L_spec_l2Subst_0_ffoo n n v3 v7 0 v0 v1 v2 v4 v5 v6 0 0 ([]) v0 (IntKind.i64.wrap (v1 - 1)) ([]))
 (L_spec_l2Subst_0_ffoo n n v3 v7 0 v0 v1 v2 v4 v5 v6 0 0 ([]) v0 v1 ([])))
 (L_spec_l2Subst_0_ffoo n n v3 v7 0 v0 v1 v2 v4 v5 v6 0 0 ([]) v0 v1 ([])))) := by kernel_rfl
noncomputable def L_spec_l19Num_0 (n c : Nat) (v0 : ByteArray) (v1 : Bool) (v2 v3 : Int) : OR := runLoop Try.prog SS n 111 0 [1, 1, 1, 1, 1, 0, 1, 0] [] c ⟨[.v (.one (.str v0)), anyV, anyV, anyV, .v (.one (.bool v1)), .v (.one (.int .i64 v2)), .v (.one (.int .i64 v3)), anyV, anyV, anyV, anyV, anyV, anyV, anyV, anyV, anyV, anyV, anyV, anyV, anyV, anyV, anyV, anyV, anyV, anyV, anyV, anyV, anyV, anyV, anyV, anyV, anyV, anyV, anyV, anyV, anyV, anyV, anyV, anyV, anyV, anyV, anyV, anyV, anyV, anyV, anyV, anyV, anyV, anyV, anyV, anyV, anyV, anyV, anyV, anyV, anyV, anyV, anyV, anyV, anyV, anyV, anyV, anyV, anyV, anyV, anyV, anyV],
 []⟩
theorem L_spec_l19Num_0_eq (n c : Nat) (v0 : ByteArray) (v1 : Bool) (v2 v3 : Int) : L_spec_l19Num_0 n (c + 1) v0 v1 v2 v3 =
 (cond (decide (v3 < (v0.size : Int)))
 (cond (decide (0 ≤ v3) && decide (v3 < ((v0.size : Nat) : Int)))
 (cond (decide (((byteAt v0 (v3 : Int).toNat).toNat : Int) < 48))
 (some ([.one (.int .i64 0), .one (.bool false)], []))
 (cond (decide (0 ≤ v3) && decide (v3 < ((v0.size : Nat) : Int)))
 (cond (decide (57 < ((byteAt v0 (v3 : Int).toNat).toNat : Int)))
 (some ([.one (.int .i64 0), .one (.bool false)], []))
 (cond (decide (0 ≤ v3) && decide (v3 < ((v0.size : Nat) : Int)))
 (L_spec_l19Num_0 n c v0 v1 (IntKind.i64.wrap ((IntKind.i64.wrap (v2 * 10)) + (IntKind.i64.wrap (IntKind.u8.wrap (((byteAt v0 (v3 : Int).toNat).toNat : Int) - 48))))) (IntKind.i64.wrap (v3 + 1)))
 none))
 none))
 none)
 (cond v1
 (some ([.one (.int .i64 (IntKind.i64.wrap (0 - v2))), .one (.bool true)], []))
 (some ([.one (.int .i64 v2), .one (.bool true)], [])))) := by kernel_rfl
theorem E_spec_l19Num (n : Nat) (v0 : ByteArray) : FF (n + 1) 111 [.one (.str v0)] [] =
 (cond (decide (0 < (v0.size : Int)))
 (cond (decide (0 ≤ 0) && decide (0 < ((v0.size : Nat) : Int)))
 (cond (decide (((byteAt v0 (0 : Int).toNat).toNat : Int) = 45))
 (cond (Go.Ab.inB 1 v0.size v0.size)
 (cond (decide (((v0.extract (1 : Int).toNat (v0.size : Int).toNat).size : Int) = 0))
 (some ([.one (.int .i64 0), .one (.bool false)], []))
 (cond (decide (17 < ((v0.extract (1 : Int).toNat (v0.size : Int).toNat).size : Int)))
 (some ([.one (.int .i64 0), .one (.bool false)], []))
 (cond (decide (0 ≤ 0) && decide (0 < (((v0.extract (1 : Int).toNat (v0.size : Int).toNat).size : Nat) : Int)))
 (cond (decide (((byteAt (v0.extract (1 : Int).toNat (v0.size : Int).toNat) (0 : Int).toNat).toNat : Int) = 48))
 (cond (decide (1 < ((v0.extract (1 : Int).toNat (v0.size : Int).toNat).size : Int)))
 (some ([.one (.int .i64 0), .one (.bool false)], []))
 (cond (decide (((byteAt v0 (0 : Int).toNat).toNat : Int) = 45))
 (some ([.one (.int .i64 0), .one (.bool false)], []))
 (L_spec_l19Num_0 n n ((v0.extract (1 : Int).toNat (v0.size : Int).toNat) : ByteArray) ((decide (((byteAt v0 (0 : Int).toNat).toNat : Int) = 45)) : Bool) 0 0)))
 (L_spec_l19Num_0 n n ((v0.extract (1 : Int).toNat (v0.size : Int).toNat) : ByteArray) ((decide (((byteAt v0 (0 : Int).toNat).toNat : Int) = 45)) : Bool) 0 0))
 none)))
 none)
 (cond (decide ((v0.size : Int) = 0))
 (some ([.one (.int .i64 0), .one (.bool false)], []))
 (cond (decide (17 < (v0.size : Int)))
 (some ([.one (.int .i64 0), .one (.bool false)], []))
 (cond (decide (0 ≤ 0) && decide (0 < ((v0.size : Nat) : Int)))
 (cond (decide (((byteAt v0 (0 : Int).toNat).toNat : Int) = 48))
 (cond (decide (1 < (v0.size : Int)))
 (some ([.one (.int .i64 0), .one (.bool false)], []))
 (cond (decide (((byteAt v0 (0 : Int).toNat).toNat : Int) = 45))
 (some ([.one (.int .i64 0), .one (.bool false)], []))
 (L_spec_l19Num_0 n n v0 ((decide (((byteAt v0 (0 : Int).toNat).toNat : Int) = 45)) : Bool) 0 0)))
 (L_spec_l19Num_0 n n v0 ((decide (((byteAt v0 (0 : Int).toNat).toNat : Int) = 45)) : Bool) 0 0))
 none))))
 none)
 (cond (decide ((v0.size : Int) = 0))
 (some ([.one (.int .i64 0), .one (.bool false)], []))
 (cond (decide (17 < (v0.size : Int)))
 (some ([.one (.int .i64 0), .one (.bool false)], []))
 (cond (decide (0 ≤ 0) && decide (0 < ((v0.size : Nat) : Int)))
 (cond (decide (((byteAt v0 (0 : Int).toNat).toNat : Int) = 48))
 (cond (decide (1 < (v0.size : Int)))
 (some ([.one (.int .i64 0), .one (.bool false)], []))
 (L_spec_l19Num_0 n n v0 (false) 0 0))
 (L_spec_l19Num_0 n n v0 (false) 0 0))
 none)))) := by kernel_rfl
noncomputable def L_spec_l1Series_0 (n c : Nat) (v0 : ByteArray) (v1 v2 v3 v4 v5 : Int) (v6 : List T) : OR := runLoop Try.prog SS n 112 0 [1, 1, 0, 1, 0] [] c ⟨[.v (.one (.str v0)), .v (.one (.int .i64 v1)), .v (.one (.int .i64 v2)), .v (.one (.int .i64 v3)), .v (.one (.int .u8 v4)), anyV, anyV, anyV, anyV, anyV, anyV, anyV, .v (.one (.own 0 0)), .v (.one (.int .i64 v5)), anyV, anyV, anyV, anyV, anyV, anyV, anyV, anyV, anyV, anyV, anyV, anyV, anyV, anyV, anyV, anyV, anyV, anyV, anyV, anyV, anyV, anyV, anyV, anyV, anyV, anyV, anyV, anyV, anyV, anyV, anyV, anyV, anyV, anyV, anyV, anyV, anyV, anyV, anyV, anyV, anyV, anyV, anyV, anyV, anyV, anyV, anyV, anyV, anyV, anyV, anyV, anyV, anyV, anyV, anyV, anyV],
 [.arr 25 (.ts v6) 0 false]⟩
theorem L_spec_l1Series_0_eq (n c : Nat) (v0 : ByteArray) (v1 v2 v3 v4 v5 : Int) (v6 : List T) : L_spec_l1Series_0 n (c + 1) v0 v1 v2 v3 v4 v5 v6 =
 (cond (decide (v5 < v3))
 ((FF n 92 [.one (.str v0), .one (.int .i64 v1), .one (.int .i64 v2)] []).bind fun x0 =>
 (rTerm x0.1 fun x1 x2 =>
 (rInt .i64 x2 fun x3 x4 =>
 (nilV x4 (nilO x0.2
 (cond (decide (x3 < 0))
 (some ([.one (.fr (.ts [])), .one (.int .i64 (-1))], []))
 (cond (decide ((v0.size : Int) ≤ x3))
 (some ([.one (.fr (.ts [])), .one (.int .i64 (-1))], []))
 (cond (decide ((IntKind.i64.wrap (v5 + 1)) < v3))
 (cond (decide (0 ≤ x3) && decide (x3 < ((v0.size : Nat) : Int)))
 (cond (!decide (((byteAt v0 (x3 : Int).toNat).toNat : Int) = 44))
 (some ([.one (.fr (.ts [])), .one (.int .i64 (-1))], []))
 (cond (decide ((IntKind.i64.wrap (v5 + 1)) = v3))
 (cond (decide (0 ≤ x3) && decide (x3 < ((v0.size : Nat) : Int)))
 (cond (!decide (((byteAt v0 (x3 : Int).toNat).toNat : Int) = v4))
 (some ([.one (.fr (.ts [])), .one (.int .i64 (-1))], []))
 (cond (roomB (v6 ++ [(T.mk x1.k x1.n x1.kids)]).length)
 (L_spec_l1Series_0 n c v0 (IntKind.i64.wrap (x3 + 1)) v2 v3 v4 (IntKind.i64.wrap (v5 + 1)) (v6 ++ [(T.mk x1.k x1.n x1.kids)]))
 none))
 none)
 (cond (roomB (v6 ++ [(T.mk x1.k x1.n x1.kids)]).length)
 (L_spec_l1Series_0 n c v0 (IntKind.i64.wrap (x3 + 1)) v2 v3 v4 (IntKind.i64.wrap (v5 + 1)) (v6 ++ [(T.mk x1.k x1.n x1.kids)]))
 none)))
 none)
 (cond (decide ((IntKind.i64.wrap (v5 + 1)) = v3))
 (cond (decide (0 ≤ x3) && decide (x3 < ((v0.size : Nat) : Int)))
 (cond (!decide (((byteAt v0 (x3 : Int).toNat).toNat : Int) = v4))
 (some ([.one (.fr (.ts [])), .one (.int .i64 (-1))], []))
 (cond (roomB (v6 ++ [(T.mk x1.k x1.n x1.kids)]).length)
 (L_spec_l1Series_0 n c v0 (IntKind.i64.wrap (x3 + 1)) v2 v3 v4 (IntKind.i64.wrap (v5 + 1)) (v6 ++ [(T.mk x1.k x1.n x1.kids)]))
 none))
 none)
 (cond (roomB (v6 ++ [(T.mk x1.k x1.n x1.kids)]).length)
 (L_spec_l1Series_0 n c v0 (IntKind.i64.wrap (x3 + 1)) v2 v3 v4 (IntKind.i64.wrap (v5 + 1)) (v6 ++ [(T.mk x1.k x1.n x1.kids)]))
 none))))))))))
 (some ([.one (.fr (.ts v6)), .one (.int .i64 v1)], []))) := by kernel_rfl
theorem E_spec_l1Series (n : Nat) (v0 : ByteArray) (v1 v2 v3 v4 : Int) : FF (n + 1) 112 [.one (.str v0), .one (.int .i64 v1), .one (.int .i64 v2), .one (.int .i64 v3), .one (.int .u8 v4)] [] =
 L_spec_l1Series_0 n n v0 v1 v2 v3 v4 0 ([]) := by kernel_rfl
noncomputable def L_spec_l19Dec_0 (n c : Nat) (v0 : Int) (v1 : ByteArray) : OR := runLoop Try.prog SS n 113 0 [1, 1, 1, 1, 0, 0] [] c ⟨[.v (.one (.int .i64 v0)), anyV, anyV, .v (.one (.str v1)), anyV, anyV, anyV, anyV, anyV, anyV, anyV, anyV, anyV, anyV, anyV, anyV, anyV, anyV, anyV, anyV, anyV, anyV, anyV, anyV, anyV, anyV, anyV, anyV, anyV, anyV, anyV],
 []⟩
theorem L_spec_l19Dec_0_eq (n c : Nat) (v0 : Int) (v1 : ByteArray) : L_spec_l19Dec_0 n (c + 1) v0 v1 =
 (cond (decide (9 < v0))
 (cond (decide (0 ≤ (IntKind.u8.wrap (IntKind.i64.wrap (48 + (Int.tmod v0 10))))) && decide ((IntKind.u8.wrap (IntKind.i64.wrap (48 + (Int.tmod v0 10)))) ≤ 255))
 (cond (decide ((ByteArray.mk ([(UInt8.ofNat (IntKind.u8.wrap (IntKind.i64.wrap (48 + (Int.tmod v0 10)))).toNat)]).toArray).size + v1.size ≤ 9223372036854775807))
 (L_spec_l19Dec_0 n c (IntKind.i64.wrap (Int.tdiv v0 10)) (((ByteArray.mk ([(UInt8.ofNat (IntKind.u8.wrap (IntKind.i64.wrap (48 + (Int.tmod v0 10)))).toNat)]).toArray) ++ v1) : ByteArray))
 none)
 none)
 (cond (decide (0 ≤ (IntKind.u8.wrap (IntKind.i64.wrap (48 + v0)))) && decide ((IntKind.u8.wrap (IntKind.i64.wrap (48 + v0))) ≤ 255))
 (cond (decide ((ByteArray.mk ([(UInt8.ofNat (IntKind.u8.wrap (IntKind.i64.wrap (48 + v0))).toNat)]).toArray).size + v1.size ≤ 9223372036854775807))
 (some ([.one (.str ((ByteArray.mk ([(UInt8.ofNat (IntKind.u8.wrap (IntKind.i64.wrap (48 + v0))).toNat)]).toArray) ++ v1))], []))
 none)
 none)) := by kernel_rfl
theorem E_spec_l19Dec (n : Nat) (v0 : Int) : FF (n + 1) 113 [.one (.int .i64 v0)] [] =
 (cond (decide (v0 < (-9223372036854775807)))
 (some ([.one (.str (bytesOf [45, 57, 50, 50, 51, 51, 55, 50, 48, 51, 54, 56, 53, 52, 55, 55, 53, 56, 48, 56]))], []))
 (cond (decide (v0 < 0))
 ((FF n 113 [.one (.int .i64 (IntKind.i64.wrap (0 - v0)))] []).bind fun x0 =>
 (rStr x0.1 fun x1 x2 =>
 (nilV x2 (nilO x0.2
 (cond (decide ((bytesOf [45]).size + x1.size ≤ 9223372036854775807))
 (some ([.one (.str ((bytesOf [45]) ++ x1))], []))
 none)))))
 (L_spec_l19Dec_0 n n v0 (bytesOf [])))) := by kernel_rfl
noncomputable def L_spec_l1List_0 (n c : Nat) (v0 : List T) (v1 : ByteArray) (v2 : Int) : OR := runLoop Try.prog SS n 114 0 [1, 1, 0, 1, 0] [] c ⟨[.v (.one (.fr (.ts v0))), anyV, anyV, .v (.one (.str v1)), .v (.one (.int .i64 v2)), anyV, anyV, anyV, anyV, anyV, anyV, anyV, anyV, anyV, anyV, anyV, anyV, anyV, anyV, anyV, anyV, anyV, anyV],
 []⟩
theorem L_spec_l1List_0_eq (n c : Nat) (v0 : List T) (v1 : ByteArray) (v2 : Int) : L_spec_l1List_0 n (c + 1) v0 v1 v2 =
 (cond (decide (v2 < (v0.length : Int)))
 (cond (decide (0 < v2))
 (cond (decide (v1.size + (bytesOf [44]).size ≤ 9223372036854775807))
 (cond (decide (0 ≤ v2))
 (v0[(v2 : Int).toNat]?.bind fun x0 =>
 ((FF n 105 [.agg [.int .i64 x0.k, .int .i64 x0.n, .fr (.ts x0.kids)]] []).bind fun x1 =>
 (rStr x1.1 fun x2 x3 =>
 (nilV x3 (nilO x1.2
 (cond (decide ((v1 ++ (bytesOf [44])).size + x2.size ≤ 9223372036854775807))
 (L_spec_l1List_0 n c v0 ((v1 ++ (bytesOf [44])) ++ x2) (IntKind.i64.wrap (v2 + 1)))
 none))))))
 none)
 none)
 (cond (decide (0 ≤ v2))
 (v0[(v2 : Int).toNat]?.bind fun x0 =>
 ((FF n 105 [.agg [.int .i64 x0.k, .int .i64 x0.n, .fr (.ts x0.kids)]] []).bind fun x1 =>
 (rStr x1.1 fun x2 x3 =>
 (nilV x3 (nilO x1.2
 (cond (decide (v1.size + x2.size ≤ 9223372036854775807))
 (L_spec_l1List_0 n c v0 (v1 ++ x2) (IntKind.i64.wrap (v2 + 1)))
 none))))))
 none))
 (some ([.one (.str v1)], []))) := by kernel_rfl
theorem E_spec_l1List (n : Nat) (v0 : List T) : FF (n + 1) 114 [.one (.fr (.ts v0))] [] =
 L_spec_l1List_0 n n v0 (bytesOf []) 0 := by kernel_rfl
end Go.Proofs.Ytgchmppmecnniaa
end
section
namespace Go.Proofs.Ytgchmppmecnniaa
open Go Go.Ab Go.Dk
theorem E_impl_subst_1 (n : Nat) (v0 v1 v2 v3 v4 : Int) (v5 : List T) (v6 : Bool) : FF (n + 1) 107 [.one (.int .i64 v0), .one (.int .i64 v1), .one (.ptr 0 0), .one (.ptr 1 0), .one (.ptr 2 0)] [.cells [.int .i64 v2], .cells [.int .i64 v3, .int .i64 v4, .fr (.ts v5)], .cells [.bool v6]] =
 (cond (decide ((IntKind.i64.wrap (v0 - v1)) = v2))
 ((FF n 108 [.agg [.int .i64 v3, .int .i64 v4, .fr (.ts v5)], .one (.int .i64 v1), .one (.int .i64 0)] []).bind fun x0 =>
 (rTerm x0.1 fun x1 x2 =>
 (rBool x2 fun x3 x4 =>
 (nilV x4 (nilO x0.2
 (cond v6
 (some ([.agg [.int .i64 x1.k, .int .i64 x1.n, .fr (.ts x1.kids)]], [.cells [.int .i64 v2], .cells [.int .i64 v3, .int .i64 v4, .fr (.ts v5)], .cells [.bool x3]]))
 (some ([.agg [.int .i64 x1.k, .int .i64 x1.n, .fr (.ts x1.kids)]], [.cells [.int .i64 v2], .cells [.int .i64 v3, .int .i64 v4, .fr (.ts v5)], .cells [.bool false]]))))))))
 (cond (decide (v2 < (IntKind.i64.wrap (v0 - v1))))
 ((FF n 109 [.one (.int .i64 (IntKind.i64.wrap (v0 - 1)))] []).bind fun x0 =>
 (rTerm x0.1 fun x1 x2 =>
 (nilV x2 (nilO x0.2
 (some ([.agg [.int .i64 x1.k, .int .i64 x1.n, .fr (.ts x1.kids)]], [.cells [.int .i64 v2], .cells [.int .i64 v3, .int .i64 v4, .fr (.ts v5)], .cells [.bool v6]]))))))
 ((FF n 109 [.one (.int .i64 v0)] []).bind fun x0 =>
 (rTerm x0.1 fun x1 x2 =>
 (nilV x2 (nilO x0.2
 (some ([.agg [.int .i64 x1.k, .int .i64 x1.n, .fr (.ts x1.kids)]], [.cells [.int .i64 v2], .cells [.int .i64 v3, .int .i64 v4, .fr (.ts v5)], .cells [.bool v6]])))))))) := by kernel_rfl
noncomputable def L_spec_l2Shift_0_foo (n c : Nat) (v0 v1 v2 v3 v4 : Int) (v5 : List T) (v6 v7 : Int) (v8 : List T) (v9 v10 : Int) (v11 : List T) : OR := runLoop Try.prog SS n 116 0 [1, 1, 1, 0, 1, 0] [] c ⟨[anyV, .v (.one (.int .i64 v0)), .v (.one (.int .i64 v1)), .v (.one (.ptr 0 0)), anyV, anyV, .v (.one (.ptr 1 0)), .v (.one (.ptr 3 0)), .v (.one (.int .i64 v2)), anyV, anyV, anyV, anyV, anyV, anyV, anyV, anyV, anyV, anyV, anyV, anyV, anyV, anyV, anyV, anyV, anyV, anyV, anyV, anyV, anyV, anyV, anyV, anyV, anyV, anyV, anyV, anyV, anyV, anyV, anyV, anyV, anyV, anyV, anyV, anyV, anyV, anyV, anyV, anyV, anyV, anyV, anyV, anyV, anyV],
 [.cells [.int .i64 v3, .int .i64 v4, .fr (.ts v5)], .cells [.int .i64 v6, .int .i64 v7, .own 2 0], .arr 25 (.ts v8) 0 false, .cells [.int .i64 v9, .int .i64 v10, .own 4 0], .arr 25 (.ts v11) 0 false]⟩
theorem L_spec_l2Shift_0_foo_eq (n c : Nat) (v0 v1 v2 v3 v4 : Int) (v5 : List T) (v6 v7 : Int) (v8 : List T) (v9 v10 : Int) (v11 : List T) : L_spec_l2Shift_0_foo n (c + 1) v0 v1 v2 v3 v4 v5 v6 v7 v8 v9 v10 v11 =
 (cond (decide (v2 < (v5.length : Int)))
 (cond (decide (0 ≤ v2))
 (v5[(v2 : Int).toNat]?.bind fun x0 =>
 ((FF n 117 [.one (.int .i64 v3), .one (.int .i64 v2)] []).bind fun x1 =>
 (rInt .i64 x1.1 fun x2 x3 =>
 (nilV x3 (nilO x1.2
 ((FF n 116 [.agg [.int .i64 x0.k, .int .i64 x0.n, .fr (.ts x0.kids)], .one (.int .i64 v0), .one (.int .i64 (IntKind.i64.wrap (v1 + x2)))] []).bind fun x4 =>
 (rTerm x4.1 fun x5 x6 =>
 (nilV x6 (nilO x4.2
 (cond (roomB (v11 ++ [(T.mk x5.k x5.n x5.kids)]).length)
 (L_spec_l2Shift_0_foo n c v0 v1 (IntKind.i64.wrap (v2 + 1)) v3 v4 v5 v6 v7 v8 v9 v10 (v11 ++ [(T.mk x5.k x5.n x5.kids)]))
 none))))))))))
 none)
 (some ([.agg [.int .i64 v9, .int .i64 v10, .fr (.ts v11)]], []))) := by kernel_rfl
theorem E_spec_l2Shift (n : Nat) (v0 v1 : Int) (v2 : List T) (v3 v4 : Int) : FF (n + 1) 116 [.agg [.int .i64 v0, .int .i64 v1, .fr (.ts v2)], .one (.int .i64 v3), .one (.int .i64 v4)] [] =
 (cond (decide (v0 = 1))
 (cond (decide (v4 ≤ v1))
 (L_spec_l2Shift_0_foo n n v3 v4 0 v0 v1 v2 0 0 ([]) v0 (IntKind.i64.wrap (v1 + v3)) ([]))
 (L_spec_l2Shift_0_foo n n v3 v4 0 v0 v1 v2 0 0 ([]) v0 v1 ([])))
 (L_spec_l2Shift_0_foo n n v3 v4 0 v0 v1 v2 0 0 ([]) v0 v1 ([]))) := by kernel_rfl
theorem E_spec_l2Under (n : Nat) (v0 v1 : Int) : FF (n + 1) 117 [.one (.int .i64 v0), .one (.int .i64 v1)] [] =
 ((FF n 118 [.one (.int .i64 v0), .one (.int .i64 v1)] []).bind fun x0 =>
 (rBool x0.1 fun x1 x2 =>
 (nilV x2 (nilO x0.2
 (cond x1
 (some ([.one (.int .i64 1)], []))
 (some ([.one (.int .i64 0)], []))))))) := by kernel_rfl
theorem E_impl_shift (n : Nat) (v0 v1 : Int) (v2 : List T) (v3 v4 : Int) : FF (n + 1) 108 [.agg [.int .i64 v0, .int .i64 v1, .fr (.ts v2)], .one (.int .i64 v3), .one (.int .i64 v4)] [] =
 ((FF n 106 [.agg [.int .i64 v0, .int .i64 v1, .fr (.ts v2)], .one (.int .i64 0), .one (.fn 115 [0, 1, 2])] [.cells [.int .i64 v4], .cells [.int .i64 v3], .cells [.bool true]]).bind fun x0 =>
 (objC x0.2 fun x1 x2 =>
 (intC .i64 x1 fun x3 x4 =>
 (nilC x4
 (objC x2 fun x5 x6 =>
 (intC .i64 x5 fun x7 x8 =>
 (nilC x8
 (objC x6 fun x9 x10 =>
 (boolC x9 fun x11 x12 =>
 (nilC x12
 (rTerm x0.1 fun x13 x14 =>
 (nilV x14 (nilO x10
 (cond (!x11)
 (some ([.agg [.int .i64 0, .int .i64 0, .fr (.ts [])], .one (.bool false)], []))
 ((FF n 41 [.agg [.int .i64 x13.k, .int .i64 x13.n, .fr (.ts x13.kids)]] []).bind fun x15 =>
 (rTerm x15.1 fun x16 x17 =>
 (rBool x17 fun x18 x19 =>
 (nilV x19 (nilO x15.2
 (some ([.agg [.int .i64 x16.k, .int .i64 x16.n, .fr (.ts x16.kids)], .one (.bool x18)], []))))))))))))))))))))) := by kernel_rfl
theorem E_impl_variable (n : Nat) (v0 : Int) : FF (n + 1) 109 [.one (.int .i64 v0)] [] =
 some ([.agg [.int .i64 1, .int .i64 v0, .fr (.ts [])]], []) := by kernel_rfl
theorem E_spec_l2Binds (n : Nat) (v0 v1 : Int) : FF (n + 1) 118 [.one (.int .i64 v0), .one (.int .i64 v1)] [] =
 (cond (decide (v1 = 1))
 (cond (decide (v0 = 3))
 (some ([.one (.bool true)], []))
 (cond (decide (v0 = 4))
 (some ([.one (.bool true)], []))
 (some ([.one (.bool (decide (v0 = 13)))], []))))
 (some ([.one (.bool false)], []))) := by kernel_rfl
noncomputable def L_impl_changed_impl_shift_1_0_foo (n c : Nat) (v0 : Int) (v1 : List T) (v2 v3 v4 v5 : Int) (v6 : Bool) (v7 v8 : Int) (v9 : List T) (v10 v11 : Int) (v12 : List T) (v13 v14 : Int) (v15 : List T) : OR := runLoop Try.prog SS n 106 3 [1, 1, 1, 0, 1, 0] [] c ⟨[anyV, .v (.one (.int .i64 v0)), .v (.one (.fn 115 [0, 1, 2])), .v (.one (.ptr 3 0)), anyV, anyV, .v (.one (.ptr 4 0)), .v (.one (.ptr 6 0)), anyV, anyV, anyV, anyV, anyV, anyV, anyV, anyV, anyV, anyV, anyV, anyV, anyV, anyV, anyV, anyV, .v (.one (.fr (.ts v1))), .v (.one (.int .i64 v2)), .v (.one (.int .i64 v3)), anyV, anyV, anyV, anyV, anyV, anyV, anyV, anyV, anyV, anyV, anyV, anyV, anyV, anyV, anyV, anyV, anyV, anyV, anyV, anyV],
 [.cells [.int .i64 v4], .cells [.int .i64 v5], .cells [.bool v6], .cells [.int .i64 v7, .int .i64 v8, .fr (.ts v9)], .cells [.int .i64 v10, .int .i64 v11, .own 5 0], .arr 25 (.ts v12) 0 false, .cells [.int .i64 v13, .int .i64 v14, .own 7 0], .arr 25 (.ts v15) 0 false]⟩
theorem L_impl_changed_impl_shift_1_0_foo_eq (n c : Nat) (v0 : Int) (v1 : List T) (v2 v3 v4 v5 : Int) (v6 : Bool) (v7 v8 : Int) (v9 : List T) (v10 v11 : Int) (v12 : List T) (v13 v14 : Int) (v15 : List T) : L_impl_changed_impl_shift_1_0_foo n (c + 1) v0 v1 v2 v3 v4 v5 v6 v7 v8 v9 v10 v11 v12 v13 v14 v15 =
 (cond (decide (v3 < v2))
 (cond (decide (0 ≤ v3))
 (v1[(v3 : Int).toNat]?.bind fun x0 =>
 ((FF n 90 [.one (.int .i64 v7), .one (.int .i64 v3)] []).bind fun x1 =>
 (rInt .i64 x1.1 fun x2 x3 =>
 (nilV x3 (nilO x1.2
 ((FF n 106 [.agg [.int .i64 x0.k, .int .i64 x0.n, .fr (.ts x0.kids)], .one (.int .i64 (IntKind.i64.wrap (v0 + x2))), .one (.fn 115 [0, 1, 2])] [.cells [.int .i64 v4], .cells [.int .i64 v5], .cells [.bool v6]]).bind fun x4 =>
 (objC x4.2 fun x5 x6 =>
 (intC .i64 x5 fun x7 x8 =>
 (nilC x8
 (objC x6 fun x9 x10 =>
 (intC .i64 x9 fun x11 x12 =>
 (nilC x12
 (objC x10 fun x13 x14 =>
 (boolC x13 fun x15 x16 =>
 (nilC x16
 (rTerm x4.1 fun x17 x18 =>
 (nilV x18 (nilO x14
 (cond (roomB (v15 ++ [(T.mk x17.k x17.n x17.kids)]).length)
 (L_impl_changed_impl_shift_1_0_foo n c v0 v1 v2 (IntKind.i64.wrap (v3 + 1)) x7 x11 x15 v7 v8 v9 v10 v11 v12 v13 v14 (v15 ++ [(T.mk x17.k x17.n x17.kids)]))
 none)))))))))))))))))))
 none)
 (some ([.agg [.int .i64 v13, .int .i64 v14, .fr (.ts v15)]], [.cells [.int .i64 v4], .cells [.int .i64 v5], .cells [.bool v6]]))) := by kernel_rfl
theorem E_impl_changed_impl_shift_1 (n : Nat) (v0 v1 : Int) (v2 : List T) (v3 v4 v5 : Int) (v6 : Bool) : FF (n + 1) 106 [.agg [.int .i64 v0, .int .i64 v1, .fr (.ts v2)], .one (.int .i64 v3), .one (.fn 115 [0, 1, 2])] [.cells [.int .i64 v4], .cells [.int .i64 v5], .cells [.bool v6]] =
 (cond (decide (v0 = 1))
 ((FF n 115 [.one (.int .i64 v1), .one (.int .i64 v3), .one (.ptr 0 0), .one (.ptr 1 0), .one (.ptr 2 0)] [.cells [.int .i64 v4], .cells [.int .i64 v5], .cells [.bool v6]]).bind fun x0 =>
 (objC x0.2 fun x1 x2 =>
 (intC .i64 x1 fun x3 x4 =>
 (nilC x4
 (objC x2 fun x5 x6 =>
 (intC .i64 x5 fun x7 x8 =>
 (nilC x8
 (objC x6 fun x9 x10 =>
 (boolC x9 fun x11 x12 =>
 (nilC x12
 (rTerm x0.1 fun x13 x14 =>
 (nilV x14 (nilO x10
 (some ([.agg [.int .i64 x13.k, .int .i64 x13.n, .fr (.ts x13.kids)]], [.cells [.int .i64 x3], .cells [.int .i64 x7], .cells [.bool x11]])))))))))))))))
 (L_impl_changed_impl_shift_1_0_foo n n v3 v2 ((v2.length : Int) : Int) 0 v4 v5 v6 v0 v1 v2 0 0 ([]) v0 v1 ([]))) := by kernel_rfl
theorem E_impl_shift_1 (n : Nat) (v0 v1 v2 v3 : Int) (v4 : Bool) : FF (n + 1) 115 [.one (.int .i64 v0), .one (.int .i64 v1), .one (.ptr 0 0), .one (.ptr 1 0), .one (.ptr 2 0)] [.cells [.int .i64 v2], .cells [.int .i64 v3], .cells [.bool v4]] =
 (cond (decide (v2 ≤ (IntKind.i64.wrap (v0 - v1))))
 (cond v4
 (cond (decide (v2 ≤ (IntKind.i64.wrap ((IntKind.i64.wrap (v0 + v3)) - v1))))
 ((FF n 109 [.one (.int .i64 (IntKind.i64.wrap (v0 + v3)))] []).bind fun x0 =>
 (rTerm x0.1 fun x1 x2 =>
 (nilV x2 (nilO x0.2
 (some ([.agg [.int .i64 x1.k, .int .i64 x1.n, .fr (.ts x1.kids)]], [.cells [.int .i64 v2], .cells [.int .i64 v3], .cells [.bool (decide ((IntKind.i64.wrap (v0 + v3)) ≤ 20))]]))))))
 ((FF n 109 [.one (.int .i64 (IntKind.i64.wrap (v0 + v3)))] []).bind fun x0 =>
 (rTerm x0.1 fun x1 x2 =>
 (nilV x2 (nilO x0.2
 (some ([.agg [.int .i64 x1.k, .int .i64 x1.n, .fr (.ts x1.kids)]], [.cells [.int .i64 v2], .cells [.int .i64 v3], .cells [.bool false]])))))))
 ((FF n 109 [.one (.int .i64 (IntKind.i64.wrap (v0 + v3)))] []).bind fun x0 =>
 (rTerm x0.1 fun x1 x2 =>
 (nilV x2 (nilO x0.2
 (some ([.agg [.int .i64 x1.k, .int .i64 x1.n, .fr (.ts x1.kids)]], [.cells [.int .i64 v2], .cells [.int .i64 v3], .cells [.bool false]])))))))
 ((FF n 109 [.one (.int .i64 v0)] []).bind fun x0 =>
 (rTerm x0.1 fun x1 x2 =>
 (nilV x2 (nilO x0.2
 (some ([.agg [.int .i64 x1.k, .int .i64 x1.n, .fr (.ts x1.kids)]], [.cells [.int .i64 v2], .cells [.int .i64 v3], .cells [.bool v4]]))))))) := by kernel_rfl
end Go.Proofs.Ytgchmppmecnniaa
end
section

end
section
namespace Go.Ab
open Go Go.Dk
open Go.ChangeShapes Go.WideShapes Go.ChangeAt Go.RowKit
abbrev anyB : Zone := fun _ => True
theorem open_bytes {H : Type} {enc : TypeId × Value → H} {P : Program} {W : World} {base : Nat} {tB tU : TypeId} (hB : P.underlying tB = some (.slice tU)) (hU : P.underlying tU = some (.int .u8)) (hc : P.cellsOf tU = 1)
   {v : Value} {d : DataW H} {p : List MemPlace} (hval : Value.okWide P W .any base tB v) (h : DataW.Trod enc P W 0 (fun _ => true) true tB v d p) : ∃ l : List UInt8, SlR anyB W (.bs l) v := by
 obtain ⟨a1, len, cap, rfl⟩ := okWide_slice hB hval
 obtain ⟨fuel, hf⟩ := h
 rcases open_ints hB hU hc hf with ⟨hcs, hx⟩ | ⟨a, len', cap', zs, hcs, _, hl, hm, hz, hx, hcell, hwz⟩
 ·simp [Value.cells] at hcs
  obtain ⟨rfl, rfl, rfl⟩ := hcs
  exact ⟨[], none, 0, [], rfl, Nat.zero_le _, Nat.zero_le _, rfl, .inl rfl⟩
 ·simp [Value.cells] at hcs
  obtain ⟨rfl, rfl, rfl⟩ := hcs
  simp only [if_true] at hz
  refine ⟨(zs.take len).map (fun n : Int => UInt8.ofNat n.toNat), ?_⟩
  have hlen : ((zs.take len).map fun n => UInt8.ofNat n.toNat).length = len := by simp; omega
  by_cases h0 : len = 0
  ·subst h0
   exact ⟨some a, cap, [], by simp [SD.len], Nat.zero_le _, Nat.zero_le _, by simp [ElemsR], .inl rfl⟩
  ·obtain ⟨ab, ao, spot⟩ := a
   have hspot : spot = none := by simpa [Addr.add] using World.cell?_spot (hcell 0 (by omega))
   subst hspot
   refine ⟨some ⟨ab, ao, none⟩, cap, ((zs.take len).map (fun n : Int => UInt8.ofNat n.toNat)).map (fun c => Value.int .u8 ((UInt8.toNat c : Nat) : Int)), ?_, ?_, ?_, rfl, .inr ⟨ab, ao, rfl, trivial, fun i x hx => ?_⟩⟩
   ·simp only [SD.len, hlen]
   ·simp only [SD.len, hlen]; exact hl
   ·simp only [SD.len, hlen]; exact Nat.le_trans hl hm
   ·rw [List.getElem?_map, List.getElem?_map] at hx
    cases hzi : (zs.take len)[i]? with
    | none => rw [hzi] at hx; simp at hx
    | some n =>
     rw [hzi] at hx
     simp at hx
     subst hx
     have hil : i < len := by
      rcases Nat.lt_or_ge i len with h' | h'
      ·exact h'
      ·rw [List.getElem?_eq_none (by simp; omega)] at hzi; cases hzi
     have hzi' : zs[i]? = some n := by rw [List.getElem?_take_of_lt hil] at hzi; exact hzi
     have hc' := hcell i (by omega)
     rw [addr_add] at hc'
     rw [hc']
     have hn : zs.getD i 0 = n := by simp [List.getD, hzi']
     rw [hn]
     have hw := hwz n (List.mem_of_getElem? hzi')
     have hnn : 0 ≤ n ∧ n ≤ 255 := by
      simp [Lit.wf, IntKind.min, IntKind.max, IntKind.signed, IntKind.bits] at hw
      omega
     have hb : max n 0 % 256 = n := by omega
     rw [hb]
end Go.Ab
end
section
namespace Go.Dk
open Go
section
variable {w0 w w' : World} {M Z0 : Zone} {L : List Res} {φ : Fact} {r r1 r2 : Res}
end
theorem RdL_cells {Z : Zone} {w : World} {b : Nat} : ∀ (ts : List HT) (off : Nat), RdL Z w b off ts → ∀ j u, (flatT ts)[j]? = some u → w.cell? ⟨b, off + j, none⟩ = some u
 | [], off, _, j, u, hj => by simp [flatT_nil] at hj
 | t :: ts, off, h, j, u, hj => by
  simp only [RdL] at h
  rw [flatT_cons] at hj
  match j, hj with
  | 0, hj => simp only [List.getElem?_cons_zero, Option.some.injEq] at hj; subst hj; exact h.1.1
  | 1, hj => simp only [List.getElem?_cons_succ, List.getElem?_cons_zero, Option.some.injEq] at hj; subst hj; exact h.1.2.1
  | 2, hj => simp only [List.getElem?_cons_succ, List.getElem?_cons_zero, Option.some.injEq] at hj; subst hj; exact h.1.2.2
  | j + 3, hj =>
   have := RdL_cells ts (off + 3) h.2.2 j u (by simpa using hj)
   rwa [show off + (j + 3) = off + 3 + j by omega]
section
variable {w0 w w' : World} {M Z0 : Zone} {L : List Res} {φ : Fact}
end
theorem St.plantRow {w0 w : World} {M Z0 : Zone} {L : List Res} {φ : Fact} {e n : Nat} {v : Value} {xs : List Value} {ts : List HT} (h : St w0 M Z0 (rowR e 3 v n xs :: kidsR ts :: L) φ w) (hx : xs = flatT ts) (hn : n = ts.length) (k m : Int) :
   ∃ a cap, v = .slice a ts.length cap ∧ St w0 M Z0 (treeR (.mk k m a cap ts) :: L) φ w := by
 subst hx hn
 have ho : w.ownsRow 0 e 3 v ts.length (flatT ts) := h.own _ (List.mem_cons_self ..)
 obtain ⟨h1, ⟨rfl, h0⟩ | ⟨g, cap, cur, rfl, hg, hc, hle, hmax, hsz, htk⟩⟩ := ho
 ·obtain rfl : ts = [] := List.length_eq_zero_iff.1 h0
  refine ⟨none, 0, rfl, h.merge (treeR_local _) ?_ ?_⟩
  ·intro b hb
   have hb : b ∈ HT.blocks (.mk k m none 0 []) := hb
   simp [HT.blocks, HT.head, HT.blocksL] at hb
  ·intro _ _ _
   refine ⟨Rd_none, by simp [HT.blocks, HT.head, HT.blocksL], fun b hb => ?_⟩
   simp [HT.blocks, HT.head, HT.blocksL] at hb
 ·have H := h.recast (r' := blk g cur.toList e) (blk_local _ _ _) (fun b hb => by
    have hb : b = g := hb
    subst hb; rfl) (fun _ => by show w.heap[g]? = _; rw [hc])
  refine ⟨_, cap, rfl, H.plant k m cap hle (Nat.le_trans hle (Nat.le_trans hmax (by decide))) fun j u hj => ?_⟩
  rw [← htk] at hj
  rw [List.getElem?_take] at hj
  split at hj
  ·exact hj
  ·cases hj
end Go.Dk
end
section
namespace Go.Dk
open Go
def pairR (u v : HT) : Res := ⟨fun b => b ∈ u.blocks ∨ b ∈ v.blocks, fun w => (treeR u).own w ∧ (treeR v).own w ∧ ∀ b ∈ u.blocks, b ∉ v.blocks⟩
structure Own2 (w w' : World) (u v : HT) : Prop where
 own : (pairR u v).own w'
 new : ∀ b, (b ∈ u.blocks ∨ b ∈ v.blocks) → w.heap.size ≤ b
theorem St.outTwo {w0 w : World} {Z0 : Zone} {L : List Res} {φ : Fact} {u v : HT} (h : St w0 noneZ Z0 (treeR u :: treeR v :: L) φ w) : Own2 w0 w u v := by
 have hd := h.dis
 rw [List.pairwise_cons] at hd
 refine ⟨⟨h.own (treeR u) (by simp), h.own (treeR v) (by simp), fun b hb hb' => hd.1 (treeR v) (by simp) b hb hb'⟩, fun b hb => ?_⟩
 rcases hb with hb | hb
 ·exact ((h.key (treeR u) (by simp) b hb).1).resolve_left (fun h => h)
 ·exact ((h.key (treeR v) (by simp) b hb).1).resolve_left (fun h => h)
end Go.Dk
end
section
namespace Go.Proofs.Ytgchmppmecnniaa
open Go Go.Dk
set_option maxRecDepth 100000 in
set_option maxHeartbeats 1000000 in
theorem iw_within (n l h : Int) (w : World) :
   Calls Try.prog 84 #[.int .i64 n, .int .i64 l, .int .i64 h] w fun e w' => e = .returned (.bool (decide (l ≤ n) && decide (n ≤ h))) ∧ Grow w w' := by
 have H := St.init w noneZ noneZ Stable.true trivial
 go_enter Try.func84, Try.ntmps84
 repeat' ((first | (refine T_nil ?_) | ((first | apply U0 | (apply U1; (case hd => decide +kernel)) | (apply U2 (hw := H); (case hd => decide +kernel)) | (apply U3 1; (case hp => rfl); (case hd => decide +kernel)) | (apply U3 2; (case hp => rfl); (case hd => decide +kernel)) | (apply U3 3; (case hp => rfl); (case hd => decide +kernel)) | (apply U3 4; (case hp => rfl); (case hd => decide +kernel)) | (apply U3 5; (case hp => rfl); (case hd => decide +kernel)) | (apply U3 6; (case hp => rfl); (case hd => decide +kernel)) | (apply U3 7; (case hp => rfl); (case hd => decide +kernel)) | (apply U3 8; (case hp => rfl); (case hd => decide +kernel)) | (apply U3 9; (case hp => rfl); (case hd => decide +kernel)) | (apply U3 10; (case hp => rfl); (case hd => decide +kernel)) | (apply U3 11; (case hp => rfl); (case hd => decide +kernel))); (case hg => rfl); (case hy => (first | (apply Yi.a; constructor; all_goals (first | rfl | (constructor <;> omega) | (apply CellIs.own; (case h => repeat constructor); rfl) | (apply Cell3.own; (case h => repeat constructor); all_goals rfl))) | (apply Yi.b; constructor; all_goals (first | rfl | (constructor <;> omega) | (apply CellIs.own; (case h => repeat constructor); rfl) | (apply Cell3.own; (case h => repeat constructor); all_goals rfl))) | (apply Yi.c; constructor; all_goals (first | rfl | (constructor <;> omega) | (apply CellIs.own; (case h => repeat constructor); rfl) | (apply Cell3.own; (case h => repeat constructor); all_goals rfl)))))) | ((first | apply V0 | apply V1 | apply V2 (hw := H)); (case hg => rfl); try decide +kernel) | ((first | refine G0 H ?_ | (refine G1 H (fun _ _ _ _ h => h) (by decide +kernel) ?_; clear H; intro _ H)); simp only [enum, Nat.reduceAdd]) | (apply B0 (hw := H); (case hg => rfl); (case hd => first | exact hd_false | decide +kernel); (case hx => rfl); (case hc => rfl); clear H; intro bx _ H) | (apply B1 (hw := H); (case hg => rfl); (case hd => first | exact hd_false | decide +kernel); clear H; intro ax _ H) | go_step | (apply X0; (case hy => rfl); all_goals (intro hb; simp only [hb]; (try simp only [decide_eq_true_eq, decide_eq_false_iff_not, Bool.not_eq_true', Bool.not_eq_false', Bool.and_eq_true, Bool.or_eq_true, Bool.and_eq_false_iff, Bool.or_eq_false_iff] at hb); try (exfalso; omega)))) <;> try simp only [List.getElem_toArray, List.getElem_cons_zero, List.getElem_cons_succ, Act.put, evalT, evalC, evalF, List.setIfInBounds_toArray, List.set_cons_succ, List.set_cons_zero, List.getD_cons_succ, List.getD_cons_zero, Nat.reduceAdd, Nat.reduceMul, Nat.add_zero, Nat.zero_add, Int.toNat_natCast, Int.reduceToNat, List.eraseIdx_cons_succ, List.eraseIdx_cons_zero, cond_true, cond_false])
 all_goals ((try simp only [Exit.inBlock, Exit.then]); refine ret_post (res1 rfl (R_tmp rfl)) ?_; try simp only [List.getD_cons_succ, List.getD_cons_zero])
 all_goals (refine ⟨?_, H.ext⟩; simp [*])
set_option maxRecDepth 100000 in
set_option maxHeartbeats 1000000 in
theorem iw_most (k : Int) (w : World) :
   Calls Try.prog 95 #[.int .i64 k] w fun e w' => e = .returned (.int .i64 (mostOf k)) ∧ Grow w w' := by
 have H := St.init w noneZ noneZ Stable.true trivial
 go_enter Try.func95, Try.ntmps95
 repeat' ((first | (refine T_nil ?_) | ((first | apply U0 | (apply U1; (case hd => decide +kernel)) | (apply U2 (hw := H); (case hd => decide +kernel)) | (apply U3 1; (case hp => rfl); (case hd => decide +kernel)) | (apply U3 2; (case hp => rfl); (case hd => decide +kernel)) | (apply U3 3; (case hp => rfl); (case hd => decide +kernel)) | (apply U3 4; (case hp => rfl); (case hd => decide +kernel)) | (apply U3 5; (case hp => rfl); (case hd => decide +kernel)) | (apply U3 6; (case hp => rfl); (case hd => decide +kernel)) | (apply U3 7; (case hp => rfl); (case hd => decide +kernel)) | (apply U3 8; (case hp => rfl); (case hd => decide +kernel)) | (apply U3 9; (case hp => rfl); (case hd => decide +kernel)) | (apply U3 10; (case hp => rfl); (case hd => decide +kernel)) | (apply U3 11; (case hp => rfl); (case hd => decide +kernel))); (case hg => rfl); (case hy => (first | (apply Yi.a; constructor; all_goals (first | rfl | (constructor <;> omega) | (apply CellIs.own; (case h => repeat constructor); rfl) | (apply Cell3.own; (case h => repeat constructor); all_goals rfl))) | (apply Yi.b; constructor; all_goals (first | rfl | (constructor <;> omega) | (apply CellIs.own; (case h => repeat constructor); rfl) | (apply Cell3.own; (case h => repeat constructor); all_goals rfl))) | (apply Yi.c; constructor; all_goals (first | rfl | (constructor <;> omega) | (apply CellIs.own; (case h => repeat constructor); rfl) | (apply Cell3.own; (case h => repeat constructor); all_goals rfl)))))) | ((first | apply V0 | apply V1 | apply V2 (hw := H)); (case hg => rfl); try decide +kernel) | ((first | refine G0 H ?_ | (refine G1 H (fun _ _ _ _ h => h) (by decide +kernel) ?_; clear H; intro _ H)); simp only [enum, Nat.reduceAdd]) | (apply B0 (hw := H); (case hg => rfl); (case hd => first | exact hd_false | decide +kernel); (case hx => rfl); (case hc => rfl); clear H; intro bx _ H) | (apply B1 (hw := H); (case hg => rfl); (case hd => first | exact hd_false | decide +kernel); clear H; intro ax _ H) | go_step | (apply X0; (case hy => rfl); all_goals (intro hb; simp only [hb]; (try simp only [decide_eq_true_eq, decide_eq_false_iff_not, Bool.not_eq_true', Bool.not_eq_false', Bool.and_eq_true, Bool.or_eq_true, Bool.and_eq_false_iff, Bool.or_eq_false_iff] at hb); try (exfalso; omega)))) <;> try simp only [List.getElem_toArray, List.getElem_cons_zero, List.getElem_cons_succ, Act.put, evalT, evalC, evalF, List.setIfInBounds_toArray, List.set_cons_succ, List.set_cons_zero, List.getD_cons_succ, List.getD_cons_zero, Nat.reduceAdd, Nat.reduceMul, Nat.add_zero, Nat.zero_add, Int.toNat_natCast, Int.reduceToNat, List.eraseIdx_cons_succ, List.eraseIdx_cons_zero, cond_true, cond_false])
 all_goals ((try simp only [Exit.inBlock, Exit.then]); refine ret_post (res1 rfl (R_tmp rfl)) ?_; try simp only [List.getD_cons_succ, List.getD_cons_zero])
 all_goals (refine ⟨?_, H.ext⟩; unfold mostOf; simp [*])
set_option maxRecDepth 100000 in
set_option maxHeartbeats 1000000 in
theorem iw_operands (k : Int) (w : World) :
   Calls Try.prog 94 #[.int .i64 k] w fun e w' => e = .returned (.int .i64 (opsOf k)) ∧ Grow w w' := by
 have H := St.init w noneZ noneZ Stable.true trivial
 by_cases hk : 1 ≤ k ∧ k ≤ 16
 ·obtain ⟨m, rfl⟩ : ∃ m : Nat, k = (m : Int) + 1 := ⟨(k - 1).toNat, by omega⟩
  have hm : m < 16 := by omega
  have h1 : (decide ((1 : Int) ≤ (m : Int) + 1) && decide ((m : Int) + 1 ≤ 16)) = true := by simp; omega
  have h2 : (m : Int) + 1 - 1 = (m : Int) := by omega
  go_enter Try.func94, Try.ntmps94
  have hcell : [Value.int .i64 0, .int .i64 0, .int .i64 2, .int .i64 2, .int .i64 2, .int .i64 0, .int .i64 0, .int .i64 1, .int .i64 4, .int .i64 3, .int .i64 1, .int .i64 3, .int .i64 2, .int .i64 3, .int .i64 1, .int .i64 1][m * 1]? = some (.int .i64 (opsOf ((m : Int) + 1))) := by
   have : m = 0 ∨ m = 1 ∨ m = 2 ∨ m = 3 ∨ m = 4 ∨ m = 5 ∨ m = 6 ∨ m = 7 ∨ m = 8 ∨ m = 9 ∨ m = 10 ∨ m = 11 ∨ m = 12 ∨ m = 13 ∨ m = 14 ∨ m = 15 := by omega
   rcases this with rfl | rfl | rfl | rfl | rfl | rfl | rfl | rfl | rfl | rfl | rfl | rfl | rfl | rfl | rfl | rfl <;> rfl
  repeat' ((first | (refine T_nil ?_) | ((first | apply U0 | (apply U1; (case hd => decide +kernel)) | (apply U2 (hw := H); (case hd => decide +kernel)) | (apply U3 1; (case hp => rfl); (case hd => decide +kernel)) | (apply U3 2; (case hp => rfl); (case hd => decide +kernel)) | (apply U3 3; (case hp => rfl); (case hd => decide +kernel)) | (apply U3 4; (case hp => rfl); (case hd => decide +kernel)) | (apply U3 5; (case hp => rfl); (case hd => decide +kernel)) | (apply U3 6; (case hp => rfl); (case hd => decide +kernel)) | (apply U3 7; (case hp => rfl); (case hd => decide +kernel)) | (apply U3 8; (case hp => rfl); (case hd => decide +kernel)) | (apply U3 9; (case hp => rfl); (case hd => decide +kernel)) | (apply U3 10; (case hp => rfl); (case hd => decide +kernel)) | (apply U3 11; (case hp => rfl); (case hd => decide +kernel))); (case hg => rfl); (case hy => (first | (apply Yi.a; constructor; all_goals (first | rfl | (constructor <;> omega) | (apply CellIs.own; (case h => repeat constructor); rfl) | (apply Cell3.own; (case h => repeat constructor); all_goals rfl) | exact .own .here hcell)) | (apply Yi.b; constructor; all_goals (first | rfl | (constructor <;> omega) | (apply CellIs.own; (case h => repeat constructor); rfl) | (apply Cell3.own; (case h => repeat constructor); all_goals rfl) | exact .own .here hcell)) | (apply Yi.c; constructor; all_goals (first | rfl | (constructor <;> omega) | (apply CellIs.own; (case h => repeat constructor); rfl) | (apply Cell3.own; (case h => repeat constructor); all_goals rfl) | exact .own .here hcell))))) | ((first | apply V0 | apply V1 | apply V2 (hw := H)); (case hg => rfl); try decide +kernel) | ((first | refine G0 H ?_ | (refine G1 H (fun _ _ _ _ h => h) (by decide +kernel) ?_; clear H; intro _ H)); simp only [enum, Nat.reduceAdd]) | (apply B0 (hw := H); (case hg => rfl); (case hd => first | exact hd_false | decide +kernel); (case hx => rfl); (case hc => rfl); clear H; intro bx _ H) | (apply B1 (hw := H); (case hg => rfl); (case hd => first | exact hd_false | decide +kernel); clear H; intro ax _ H) | ((apply B2 (hw := H); (case hg => rfl); (case hd => first | exact hd_false | decide +kernel); (case hvs => (simp only [List.map_cons, List.map_nil, evalT, evalC, List.getD_cons_succ, List.getD_cons_zero]; rfl)); (case hcs => (simp only [flatC, List.flatMap_cons, List.flatMap_nil, Value.cells, HT.val, List.cons_append, List.nil_append, List.append_nil]; rfl)); (case hix => rfl); (case hn => rfl); (case hsz => rfl); (case hb => rfl); clear H; intro sx _ H)) | ((apply C0 (hw := H); (case hg => rfl); (case hd => first | exact hd_false | decide +kernel); (case hxs => rfl); (case hc => exact iw_within _ _ _ _); clear H; intro _ H)) | ((simp only [h1, Bool.not_true, h2])) | go_step | (apply X0; (case hy => rfl); all_goals (intro hb; simp only [hb]; (try simp only [decide_eq_true_eq, decide_eq_false_iff_not, Bool.not_eq_true', Bool.not_eq_false', Bool.and_eq_true, Bool.or_eq_true, Bool.and_eq_false_iff, Bool.or_eq_false_iff] at hb); try (exfalso; omega)))) <;> try simp only [List.getElem_toArray, List.getElem_cons_zero, List.getElem_cons_succ, Act.put, evalT, evalC, evalF, List.setIfInBounds_toArray, List.set_cons_succ, List.set_cons_zero, List.getD_cons_succ, List.getD_cons_zero, Nat.reduceAdd, Nat.reduceMul, Nat.add_zero, Nat.zero_add, Int.toNat_natCast, Int.reduceToNat, List.eraseIdx_cons_succ, List.eraseIdx_cons_zero, cond_true, cond_false])
  ((try simp only [Exit.inBlock, Exit.then]); refine ret_post (res1 rfl (R_tmp rfl)) ?_; try simp only [List.getD_cons_succ, List.getD_cons_zero])
  exact ⟨trivial, H.ext⟩
 ·have h1 : (decide ((1 : Int) ≤ k) && decide (k ≤ 16)) = false := by simp; omega
  go_enter Try.func94, Try.ntmps94
  repeat' ((first | (refine T_nil ?_) | ((first | apply U0 | (apply U1; (case hd => decide +kernel)) | (apply U2 (hw := H); (case hd => decide +kernel)) | (apply U3 1; (case hp => rfl); (case hd => decide +kernel)) | (apply U3 2; (case hp => rfl); (case hd => decide +kernel)) | (apply U3 3; (case hp => rfl); (case hd => decide +kernel)) | (apply U3 4; (case hp => rfl); (case hd => decide +kernel)) | (apply U3 5; (case hp => rfl); (case hd => decide +kernel)) | (apply U3 6; (case hp => rfl); (case hd => decide +kernel)) | (apply U3 7; (case hp => rfl); (case hd => decide +kernel)) | (apply U3 8; (case hp => rfl); (case hd => decide +kernel)) | (apply U3 9; (case hp => rfl); (case hd => decide +kernel)) | (apply U3 10; (case hp => rfl); (case hd => decide +kernel)) | (apply U3 11; (case hp => rfl); (case hd => decide +kernel))); (case hg => rfl); (case hy => (first | (apply Yi.a; constructor; all_goals (first | rfl | (constructor <;> omega) | (apply CellIs.own; (case h => repeat constructor); rfl) | (apply Cell3.own; (case h => repeat constructor); all_goals rfl))) | (apply Yi.b; constructor; all_goals (first | rfl | (constructor <;> omega) | (apply CellIs.own; (case h => repeat constructor); rfl) | (apply Cell3.own; (case h => repeat constructor); all_goals rfl))) | (apply Yi.c; constructor; all_goals (first | rfl | (constructor <;> omega) | (apply CellIs.own; (case h => repeat constructor); rfl) | (apply Cell3.own; (case h => repeat constructor); all_goals rfl)))))) | ((first | apply V0 | apply V1 | apply V2 (hw := H)); (case hg => rfl); try decide +kernel) | ((first | refine G0 H ?_ | (refine G1 H (fun _ _ _ _ h => h) (by decide +kernel) ?_; clear H; intro _ H)); simp only [enum, Nat.reduceAdd]) | (apply B0 (hw := H); (case hg => rfl); (case hd => first | exact hd_false | decide +kernel); (case hx => rfl); (case hc => rfl); clear H; intro bx _ H) | (apply B1 (hw := H); (case hg => rfl); (case hd => first | exact hd_false | decide +kernel); clear H; intro ax _ H) | ((apply C0 (hw := H); (case hg => rfl); (case hd => first | exact hd_false | decide +kernel); (case hxs => rfl); (case hc => exact iw_within _ _ _ _); clear H; intro _ H)) | ((simp only [h1, Bool.not_false])) | go_step | (apply X0; (case hy => rfl); all_goals (intro hb; simp only [hb]; (try simp only [decide_eq_true_eq, decide_eq_false_iff_not, Bool.not_eq_true', Bool.not_eq_false', Bool.and_eq_true, Bool.or_eq_true, Bool.and_eq_false_iff, Bool.or_eq_false_iff] at hb); try (exfalso; omega)))) <;> try simp only [List.getElem_toArray, List.getElem_cons_zero, List.getElem_cons_succ, Act.put, evalT, evalC, evalF, List.setIfInBounds_toArray, List.set_cons_succ, List.set_cons_zero, List.getD_cons_succ, List.getD_cons_zero, Nat.reduceAdd, Nat.reduceMul, Nat.add_zero, Nat.zero_add, Int.toNat_natCast, Int.reduceToNat, List.eraseIdx_cons_succ, List.eraseIdx_cons_zero, cond_true, cond_false])
  all_goals ((try simp only [Exit.inBlock, Exit.then]); refine ret_post (res1 rfl (R_tmp rfl)) ?_; try simp only [List.getD_cons_succ, List.getD_cons_zero])
  refine ⟨?_, H.ext⟩
  unfold opsOf
  rw [if_neg (by omega), if_neg (by omega), if_neg (by omega), if_neg (by omega), if_neg (by omega)]
set_option maxRecDepth 100000 in
set_option maxHeartbeats 1000000 in
theorem iw_scan (t : HT) : ∀ (deep c : Int) (p : Nat) (Z : Zone) (w : World), Rd Z w t → w.heap[p]? = some (.cells #[.int .i64 c] 3 (0, 0)) → ¬ Z p → 0 ≤ c → c ≤ 400 → 0 ≤ deep → deep ≤ 31 →
   Calls Try.prog 75 #[t.val, .int .i64 deep, .pointer (some ⟨p, 0, none⟩)] w fun e w' =>
    e = .returned (.bool (scanF t.er deep c).1) ∧ Ext (· = p) w w' ∧ w'.heap[p]? = some (.cells #[.int .i64 (scanF t.er deep c).2] 3 (0, 0)) := by
 induction t using HT.ind with | h t ih =>
 intro deep c p Z w hr hp hz hc0 hc1 hd0 hd1
 have H := St.init1 (r := blk p [.int .i64 c] 3) w (· = p) Z (rdF_stable t) hr (blk_local _ _ _) hp (fun b hb => ⟨hb, by cases hb; exact lt_of_get hp⟩) (fun b hb hz' => hz (by cases hb; exact hz'))
 have hlen := hr.len
 clear hp
 go_enter Try.func75, Try.ntmps75
 repeat' ((first | (refine T_nil ?_) | ((first | apply U0 | (apply U1; (case hd => decide +kernel)) | (apply U2 (hw := H); (case hd => decide +kernel)) | (apply U3 1; (case hp => rfl); (case hd => decide +kernel)) | (apply U3 2; (case hp => rfl); (case hd => decide +kernel)) | (apply U3 3; (case hp => rfl); (case hd => decide +kernel)) | (apply U3 4; (case hp => rfl); (case hd => decide +kernel)) | (apply U3 5; (case hp => rfl); (case hd => decide +kernel)) | (apply U3 6; (case hp => rfl); (case hd => decide +kernel)) | (apply U3 7; (case hp => rfl); (case hd => decide +kernel)) | (apply U3 8; (case hp => rfl); (case hd => decide +kernel)) | (apply U3 9; (case hp => rfl); (case hd => decide +kernel)) | (apply U3 10; (case hp => rfl); (case hd => decide +kernel)) | (apply U3 11; (case hp => rfl); (case hd => decide +kernel))); (case hg => rfl); (case hy => (first | (apply Yi.a; constructor; all_goals (first | rfl | (constructor <;> omega) | (apply CellIs.own; (case h => repeat constructor); rfl) | (apply Cell3.own; (case h => repeat constructor); all_goals rfl))) | (apply Yi.b; constructor; all_goals (first | rfl | (constructor <;> omega) | (apply CellIs.own; (case h => repeat constructor); rfl) | (apply Cell3.own; (case h => repeat constructor); all_goals rfl))) | (apply Yi.c; constructor; all_goals (first | rfl | (constructor <;> omega) | (apply CellIs.own; (case h => repeat constructor); rfl) | (apply Cell3.own; (case h => repeat constructor); all_goals rfl)))))) | ((first | apply V0 | apply V1 | apply V2 (hw := H)); (case hg => rfl); try decide +kernel) | ((first | refine G0 H ?_ | (refine G1 H (fun _ _ _ _ h => h) (by decide +kernel) ?_; clear H; intro _ H)); simp only [enum, Nat.reduceAdd]) | (apply B0 (hw := H); (case hg => rfl); (case hd => first | exact hd_false | decide +kernel); (case hx => rfl); (case hc => rfl); clear H; intro bx _ H) | (apply B1 (hw := H); (case hg => rfl); (case hd => first | exact hd_false | decide +kernel); clear H; intro ax _ H) | ((apply W0 (hw := H); (case hg => rfl); (case hd => first | exact hd_false | decide +kernel); (case hx => rfl); (case hy => rfl); (case hc => rfl); (case hn => repeat constructor); (case h1 => rfl); clear H; intro _ H; (try dsimp only at H); try simp only [putL, List.set_cons_succ, List.set_cons_zero, evalT, evalC, List.getD_cons_succ, List.getD_cons_zero, Nat.zero_add, Nat.reduceAdd] at H)) | ((apply C0 (hw := H); (case hg => rfl); (case hd => first | exact hd_false | decide +kernel); (case hxs => rfl); (case hc => exact iw_operands _ _); clear H; intro _ H)) | ((apply C0 (hw := H); (case hg => rfl); (case hd => first | exact hd_false | decide +kernel); (case hxs => rfl); (case hc => exact iw_most _ _); clear H; intro _ H)) | ((apply C0 (hw := H); (case hg => rfl); (case hd => first | exact hd_false | decide +kernel); (case hxs => rfl); (case hc => exact iw_within _ _ _ _); clear H; intro _ H)) | go_step | (apply X0; (case hy => rfl); all_goals (intro hb; simp only [hb]; (try simp only [decide_eq_true_eq, decide_eq_false_iff_not, Bool.not_eq_true', Bool.not_eq_false', Bool.and_eq_true, Bool.or_eq_true, Bool.and_eq_false_iff, Bool.or_eq_false_iff] at hb); try (exfalso; omega)))) <;> try simp only [List.getElem_toArray, List.getElem_cons_zero, List.getElem_cons_succ, Act.put, evalT, evalC, evalF, List.setIfInBounds_toArray, List.set_cons_succ, List.set_cons_zero, List.getD_cons_succ, List.getD_cons_zero, Nat.reduceAdd, Nat.reduceMul, Nat.add_zero, Nat.zero_add, Int.toNat_natCast, Int.reduceToNat, List.eraseIdx_cons_succ, List.eraseIdx_cons_zero, cond_true, cond_false])
 ·((try simp only [Exit.inBlock, Exit.then]); refine ret_post (res1 rfl (R_tmp rfl)) ?_; try simp only [List.getD_cons_succ, List.getD_cons_zero])
  rw [scanF_eq, if_pos (by omega)]
  exact ⟨rfl, H.ext, H.get at1⟩
 ·((try simp only [Exit.inBlock, Exit.then]); refine ret_post (res1 rfl (R_tmp rfl)) ?_; try simp only [List.getD_cons_succ, List.getD_cons_zero])
  rw [scanF_eq, if_pos (by omega)]
  exact ⟨rfl, H.ext, H.get at1⟩
 ·((try simp only [Exit.inBlock, Exit.then]); refine ret_post (res1 rfl (R_tmp rfl)) ?_; try simp only [List.getD_cons_succ, List.getD_cons_zero])
  rw [scanF_eq, if_pos (by rw [HT.er_k, HT.er_kids]; simp; omega)]
  exact ⟨rfl, H.ext, H.get at1⟩
 ·have hc : (!(decide (0 ≤ t.n) && decide (t.n ≤ mostOf t.k))) = true := by assumption
  simp only [Bool.not_eq_true', Bool.and_eq_false_iff, decide_eq_false_iff_not] at hc
  ((try simp only [Exit.inBlock, Exit.then]); refine ret_post (res1 rfl (R_tmp rfl)) ?_; try simp only [List.getD_cons_succ, List.getD_cons_zero])
  rw [scanF_eq, if_pos (by rw [HT.er_k, HT.er_n]; omega)]
  exact ⟨rfl, H.ext, H.get at1⟩
 ·have hc : (!(decide (0 ≤ t.n) && decide (t.n ≤ mostOf t.k))) = false := by assumption
  simp only [Bool.not_eq_false', Bool.and_eq_true, decide_eq_true_eq] at hc
  have hs : scanF t.er deep c = scanL t.er.kids (deep + 1) (c + 1) := by
   rw [scanF_eq, if_neg (by rw [HT.er_k, HT.er_n, HT.er_kids]; simp; omega)]
  go_loopg [43] t.kids.length (fun g v wr => ∃ (i : Nat) (ci : Int), v = .int .i64 i ∧ i + g = t.kids.length ∧ c + 1 ≤ ci ∧ ci ≤ 400 ∧ scanL t.er.kids (deep + 1) (c + 1) = scanL (t.er.kids.drop i) (deep + 1) ci ∧
   St w (· = p) Z [blk bx [.int .i64 t.k, .int .i64 t.n, .slice t.a t.kids.length t.cap] 25, blk p [.int .i64 ci] 3] (rdF t) wr)
  case atStart => exact ⟨0, c + 1, rfl, by omega, by omega, by omega, rfl, H⟩
  case round =>
   clear H
   obtain ⟨i, ci, rfl, hi, hci, hci2, hsc, H⟩ := hrel
   by_cases hlt : i < t.kids.length
   ·have hu : t.kids[i]? = some t.kids[i] := List.getElem?_eq_getElem hlt
    obtain ⟨b, off, ha⟩ := hr.addr hu
    generalize t.kids[i] = u at hu
    have hmem : u ∈ t.kids := List.mem_of_getElem? hu
    have hdrop : t.er.kids.drop i = u.er :: t.er.kids.drop (i + 1) := by
     rw [HT.er_kids, List.drop_eq_getElem_cons (by simpa using hlt)]
     congr 1
     rw [List.getElem_map]
     rw [List.getElem?_eq_getElem hlt] at hu
     rw [Option.some.inj hu]
    have hb := scanF_bd u.er (deep + 1) ci
    rw [hdrop, scanL] at hsc
    repeat' ((first | (refine T_nil ?_) | ((first | apply U0 | (apply U1; (case hd => decide +kernel)) | (apply U2 (hw := H); (case hd => decide +kernel)) | (apply U3 1; (case hp => rfl); (case hd => decide +kernel)) | (apply U3 2; (case hp => rfl); (case hd => decide +kernel)) | (apply U3 3; (case hp => rfl); (case hd => decide +kernel)) | (apply U3 4; (case hp => rfl); (case hd => decide +kernel)) | (apply U3 5; (case hp => rfl); (case hd => decide +kernel)) | (apply U3 6; (case hp => rfl); (case hd => decide +kernel)) | (apply U3 7; (case hp => rfl); (case hd => decide +kernel)) | (apply U3 8; (case hp => rfl); (case hd => decide +kernel)) | (apply U3 9; (case hp => rfl); (case hd => decide +kernel)) | (apply U3 10; (case hp => rfl); (case hd => decide +kernel)) | (apply U3 11; (case hp => rfl); (case hd => decide +kernel))); (case hg => rfl); (case hy => (first | (apply Yi.a; constructor; all_goals (first | rfl | (constructor <;> omega) | (apply CellIs.own; (case h => repeat constructor); rfl) | (apply Cell3.own; (case h => repeat constructor); all_goals rfl) | exact ha | exact .mk fun w h => (Rd.elem h.per ha hu).1)) | (apply Yi.b; constructor; all_goals (first | rfl | (constructor <;> omega) | (apply CellIs.own; (case h => repeat constructor); rfl) | (apply Cell3.own; (case h => repeat constructor); all_goals rfl) | exact ha | exact .mk fun w h => (Rd.elem h.per ha hu).1)) | (apply Yi.c; constructor; all_goals (first | rfl | (constructor <;> omega) | (apply CellIs.own; (case h => repeat constructor); rfl) | (apply Cell3.own; (case h => repeat constructor); all_goals rfl) | exact ha | exact .mk fun w h => (Rd.elem h.per ha hu).1))))) | ((first | apply V0 | apply V1 | apply V2 (hw := H)); (case hg => rfl); try decide +kernel) | ((first | refine G0 H ?_ | (refine G1 H (fun _ _ _ _ h => h) (by decide +kernel) ?_; clear H; intro _ H)); simp only [enum, Nat.reduceAdd]) | (apply B0 (hw := H); (case hg => rfl); (case hd => first | exact hd_false | decide +kernel); (case hx => rfl); (case hc => rfl); clear H; intro bx _ H) | (apply B1 (hw := H); (case hg => rfl); (case hd => first | exact hd_false | decide +kernel); clear H; intro ax _ H) | ((apply W0 (hw := H); (case hg => rfl); (case hd => first | exact hd_false | decide +kernel); (case hx => rfl); (case hy => rfl); (case hc => rfl); (case hn => repeat constructor); (case h1 => rfl); clear H; intro _ H; (try dsimp only at H); try simp only [putL, List.set_cons_succ, List.set_cons_zero, evalT, evalC, List.getD_cons_succ, List.getD_cons_zero, Nat.zero_add, Nat.reduceAdd] at H)) | ((apply C1; (case hg => rfl); (case hd => first | exact hd_false | decide +kernel); (case hxs => rfl); (case hc => exact ih u hmem (deep + 1) ci p _ _ (Rd.elem H.per ha hu).2 (H.get at2) (fun hz => hz.2 _ (List.mem_of_getElem? at2) rfl) (by omega) (by omega) (by omega) (by omega)); rintro _ _ ⟨rfl, hx, hp⟩; replace H := (H.upd at2 hx (blk_local _ _ _) hp (fun b hb => ⟨.inl hb, by cases hb; exact lt_of_get hp⟩)); (try simp only [List.set_cons_succ, List.set_cons_zero] at H); refine ⟨_, rfl, _, (by first | exact fun _ _ h => h | exact fun _ _ h => h.tail | exact fun _ _ h => h.unfact (by repeat' (first | exact Stable.true | exact rdF_stable _ | exact iF_stable _ _ | apply Stable.and)) (fun _ _ h => h.2) | exact nofun), H, ?_⟩)) | go_step | (apply X0; (case hy => rfl); all_goals (intro hb; simp only [hb]; (try simp only [decide_eq_true_eq, decide_eq_false_iff_not, Bool.not_eq_true', Bool.not_eq_false', Bool.and_eq_true, Bool.or_eq_true, Bool.and_eq_false_iff, Bool.or_eq_false_iff] at hb); try (exfalso; omega)))) <;> try simp only [List.getElem_toArray, List.getElem_cons_zero, List.getElem_cons_succ, Act.put, evalT, evalC, evalF, List.setIfInBounds_toArray, List.set_cons_succ, List.set_cons_zero, List.getD_cons_succ, List.getD_cons_zero, Nat.reduceAdd, Nat.reduceMul, Nat.add_zero, Nat.zero_add, Int.toNat_natCast, Int.reduceToNat, List.eraseIdx_cons_succ, List.eraseIdx_cons_zero, cond_true, cond_false])
    ·have hf : (!(scanF u.er (deep + 1) ci).1) = true := by assumption
     ((try simp only [Exit.inBlock, Exit.then]); refine ret_post (res1 rfl (R_tmp rfl)) ?_; try simp only [List.getD_cons_succ, List.getD_cons_zero])
     rw [hs, hsc, if_neg (by simpa using hf)]
     exact ⟨rfl, H.ext, H.get at2⟩
    ·have hf : (!(scanF u.er (deep + 1) ci).1) = false := by assumption
     simp only [Bool.not_eq_false'] at hf
     rw [if_pos hf] at hsc
     have hb2 := hb hf
     go_roundg (gk - 1)
     case measure => omega
     case rel => exact ⟨i + 1, (scanF u.er (deep + 1) ci).2, by simp, by omega, by omega, by omega, hsc, H.tail⟩
   ·have h0 : i = t.kids.length := by omega
    rw [List.drop_of_length_le (by rw [HT.er_kids]; simp; omega), scanL] at hsc
    have hlt' : ¬ ((i : Int) < t.kids.length) := by omega
    repeat' ((first | (refine T_nil ?_) | ((first | apply U0 | (apply U1; (case hd => decide +kernel)) | (apply U2 (hw := H); (case hd => decide +kernel)) | (apply U3 1; (case hp => rfl); (case hd => decide +kernel)) | (apply U3 2; (case hp => rfl); (case hd => decide +kernel)) | (apply U3 3; (case hp => rfl); (case hd => decide +kernel)) | (apply U3 4; (case hp => rfl); (case hd => decide +kernel)) | (apply U3 5; (case hp => rfl); (case hd => decide +kernel)) | (apply U3 6; (case hp => rfl); (case hd => decide +kernel)) | (apply U3 7; (case hp => rfl); (case hd => decide +kernel)) | (apply U3 8; (case hp => rfl); (case hd => decide +kernel)) | (apply U3 9; (case hp => rfl); (case hd => decide +kernel)) | (apply U3 10; (case hp => rfl); (case hd => decide +kernel)) | (apply U3 11; (case hp => rfl); (case hd => decide +kernel))); (case hg => rfl); (case hy => (first | (apply Yi.a; constructor; all_goals (first | rfl | (constructor <;> omega) | (apply CellIs.own; (case h => repeat constructor); rfl) | (apply Cell3.own; (case h => repeat constructor); all_goals rfl))) | (apply Yi.b; constructor; all_goals (first | rfl | (constructor <;> omega) | (apply CellIs.own; (case h => repeat constructor); rfl) | (apply Cell3.own; (case h => repeat constructor); all_goals rfl))) | (apply Yi.c; constructor; all_goals (first | rfl | (constructor <;> omega) | (apply CellIs.own; (case h => repeat constructor); rfl) | (apply Cell3.own; (case h => repeat constructor); all_goals rfl)))))) | ((first | apply V0 | apply V1 | apply V2 (hw := H)); (case hg => rfl); try decide +kernel) | ((first | refine G0 H ?_ | (refine G1 H (fun _ _ _ _ h => h) (by decide +kernel) ?_; clear H; intro _ H)); simp only [enum, Nat.reduceAdd]) | (apply B0 (hw := H); (case hg => rfl); (case hd => first | exact hd_false | decide +kernel); (case hx => rfl); (case hc => rfl); clear H; intro bx _ H) | (apply B1 (hw := H); (case hg => rfl); (case hd => first | exact hd_false | decide +kernel); clear H; intro ax _ H) | go_step | (apply X0; (case hy => rfl); all_goals (intro hb; simp only [hb]; (try simp only [decide_eq_true_eq, decide_eq_false_iff_not, Bool.not_eq_true', Bool.not_eq_false', Bool.and_eq_true, Bool.or_eq_true, Bool.and_eq_false_iff, Bool.or_eq_false_iff] at hb); try (exfalso; omega)))) <;> try simp only [List.getElem_toArray, List.getElem_cons_zero, List.getElem_cons_succ, Act.put, evalT, evalC, evalF, List.setIfInBounds_toArray, List.set_cons_succ, List.set_cons_zero, List.getD_cons_succ, List.getD_cons_zero, Nat.reduceAdd, Nat.reduceMul, Nat.add_zero, Nat.zero_add, Int.toNat_natCast, Int.reduceToNat, List.eraseIdx_cons_succ, List.eraseIdx_cons_zero, cond_true, cond_false])
    ((try simp only [Exit.inBlock, Exit.then]); refine ret_post (res1 rfl (R_tmp rfl)) ?_; try simp only [List.getD_cons_succ, List.getD_cons_zero])
    rw [hs, hsc]
    exact ⟨rfl, H.ext, H.get at1⟩
set_option maxRecDepth 100000 in
set_option maxHeartbeats 1000000 in
theorem iw_TermValid (t : HT) (Z : Zone) (w : World) (hr : Rd Z w t) : Calls Try.prog 38 #[t.val] w fun e w' => e = .returned (.bool (validB t.er)) ∧ Grow w w' := by
 have H := St.init w noneZ Z (rdF_stable t) hr
 go_enter Try.func38, Try.ntmps38
 repeat' ((first | (refine T_nil ?_) | ((first | apply U0 | (apply U1; (case hd => decide +kernel)) | (apply U2 (hw := H); (case hd => decide +kernel)) | (apply U3 1; (case hp => rfl); (case hd => decide +kernel)) | (apply U3 2; (case hp => rfl); (case hd => decide +kernel)) | (apply U3 3; (case hp => rfl); (case hd => decide +kernel)) | (apply U3 4; (case hp => rfl); (case hd => decide +kernel)) | (apply U3 5; (case hp => rfl); (case hd => decide +kernel)) | (apply U3 6; (case hp => rfl); (case hd => decide +kernel)) | (apply U3 7; (case hp => rfl); (case hd => decide +kernel)) | (apply U3 8; (case hp => rfl); (case hd => decide +kernel)) | (apply U3 9; (case hp => rfl); (case hd => decide +kernel)) | (apply U3 10; (case hp => rfl); (case hd => decide +kernel)) | (apply U3 11; (case hp => rfl); (case hd => decide +kernel))); (case hg => rfl); (case hy => (first | (apply Yi.a; constructor; all_goals (first | rfl | (constructor <;> omega) | (apply CellIs.own; (case h => repeat constructor); rfl) | (apply Cell3.own; (case h => repeat constructor); all_goals rfl))) | (apply Yi.b; constructor; all_goals (first | rfl | (constructor <;> omega) | (apply CellIs.own; (case h => repeat constructor); rfl) | (apply Cell3.own; (case h => repeat constructor); all_goals rfl))) | (apply Yi.c; constructor; all_goals (first | rfl | (constructor <;> omega) | (apply CellIs.own; (case h => repeat constructor); rfl) | (apply Cell3.own; (case h => repeat constructor); all_goals rfl)))))) | ((first | apply V0 | apply V1 | apply V2 (hw := H)); (case hg => rfl); try decide +kernel) | ((first | refine G0 H ?_ | (refine G1 H (fun _ _ _ _ h => h) (by decide +kernel) ?_; clear H; intro _ H)); simp only [enum, Nat.reduceAdd]) | (apply B0 (hw := H); (case hg => rfl); (case hd => first | exact hd_false | decide +kernel); (case hx => rfl); (case hc => rfl); clear H; intro bx _ H) | (apply B1 (hw := H); (case hg => rfl); (case hd => first | exact hd_false | decide +kernel); clear H; intro ax _ H) | ((apply W0 (hw := H); (case hg => rfl); (case hd => first | exact hd_false | decide +kernel); (case hx => rfl); (case hy => rfl); (case hc => rfl); (case hn => repeat constructor); (case h1 => rfl); clear H; intro _ H; (try dsimp only at H); try simp only [putL, List.set_cons_succ, List.set_cons_zero, evalT, evalC, List.getD_cons_succ, List.getD_cons_zero, Nat.zero_add, Nat.reduceAdd] at H)) | ((apply C1; (case hg => rfl); (case hd => first | exact hd_false | decide +kernel); (case hxs => rfl); (case hc => exact iw_scan t 1 0 _ _ _ H.per (H.get at0) (fun hz => hz.2 _ (List.mem_of_getElem? at0) rfl) (by omega) (by omega) (by omega) (by omega)); rintro _ _ ⟨rfl, hx, hp⟩; replace H := (H.upd at0 hx (blk_local _ _ _) hp (fun b hb => ⟨.inl hb, by cases hb; exact lt_of_get hp⟩)); (try simp only [List.set_cons_succ, List.set_cons_zero] at H); refine ⟨_, rfl, _, (by first | exact fun _ _ h => h | exact fun _ _ h => h.tail | exact fun _ _ h => h.unfact (by repeat' (first | exact Stable.true | exact rdF_stable _ | exact iF_stable _ _ | apply Stable.and)) (fun _ _ h => h.2) | exact nofun), H, ?_⟩)) | go_step | (apply X0; (case hy => rfl); all_goals (intro hb; simp only [hb]; (try simp only [decide_eq_true_eq, decide_eq_false_iff_not, Bool.not_eq_true', Bool.not_eq_false', Bool.and_eq_true, Bool.or_eq_true, Bool.and_eq_false_iff, Bool.or_eq_false_iff] at hb); try (exfalso; omega)))) <;> try simp only [List.getElem_toArray, List.getElem_cons_zero, List.getElem_cons_succ, Act.put, evalT, evalC, evalF, List.setIfInBounds_toArray, List.set_cons_succ, List.set_cons_zero, List.getD_cons_succ, List.getD_cons_zero, Nat.reduceAdd, Nat.reduceMul, Nat.add_zero, Nat.zero_add, Int.toNat_natCast, Int.reduceToNat, List.eraseIdx_cons_succ, List.eraseIdx_cons_zero, cond_true, cond_false])
 ((try simp only [Exit.inBlock, Exit.then]); refine ret_post (res1 rfl (R_tmp rfl)) ?_; try simp only [List.getD_cons_succ, List.getD_cons_zero])
 rw [scan_valid]
 (first | exact ⟨rfl, H.ext⟩ | exact ⟨trivial, H.ext⟩)
end Go.Proofs.Ytgchmppmecnniaa
end
section
namespace Go.Proofs.Ytgchmppmecnniaa
open Go Go.Dk
def anyZ : Zone := fun _ => True
end Go.Proofs.Ytgchmppmecnniaa
end
section
namespace Go.Proofs.Ytgchmppmecnniaa
open Go Go.Dk
end Go.Proofs.Ytgchmppmecnniaa
end
section
namespace Go.Dk
open Go
section
variable {P : Program} {ops : Array Oper} {Q : Exit → Act → World → Prop} {dr : Bool} {fu k : Nat} {rest : List (Nat × Oper)} {a : Act} {w w0 : World} {M Z0 : Zone} {L : List Res} {φ : Fact}
 {d : Option Tmp} {ty : TypeId} {pos : String} {aft : Array Edge} {gd : Option (Nat × Bool)} {x y : Operand} {t t' : TypeId}
theorem A0 {e sz by_ i n m c : Nat} {v : Value} {ad : Addr} {xs news : List Value} [hp : AP P t e sz by_] (hw : St w0 M Z0 L φ w)
   (hg : Region.wanted ⟨d, .call ⟨.builtin .append, #[x, y], #[t, t]⟩, ty, pos, aft, gd⟩ (yielded ops a.tmps) = true)
   (hd : (!dr || (soleB ops ((k, ⟨d, .call ⟨.builtin .append, #[x, y], #[t, t]⟩, ty, pos, aft, gd⟩) :: rest) k ⟨d, .call ⟨.builtin .append, #[x, y], #[t, t]⟩, ty, pos, aft, gd⟩ && covB ops ((k, ⟨d, .call ⟨.builtin .append, #[x, y], #[t, t]⟩, ty, pos, aft, gd⟩) :: rest) ⟨d, .call ⟨.builtin .append, #[x, y], #[t, t]⟩, ty, pos, aft, gd⟩)) = true)
   (hx : a.eval x = v) (hy : a.eval y = .slice (some ad) m c) (hi : L[i]? = some (rowR e sz v n xs)) (hl : news.length = m * sz)
   (hnews : ∀ j u, news[j]? = some u → w.cell? (ad.add j) = some u) (h1 : news.all (·.oneCell') = true) (hbytes : (n + m) * by_ ≤ 140737488355328) (h63 : n + m ≤ 9223372036854775807)
   (h : ∀ a' c' w', St w0 M Z0 (L.set i (rowR e sz (.slice a' (n + m) c') (n + m) (xs ++ news))) φ w' → wpT P ops Q dr fu (St w0 M Z0 (L.set i (rowR e sz (.slice a' (n + m) c') (n + m) (xs ++ news))) φ) rest (a.put d (.slice a' (n + m) c')) w') :
   wpT P ops Q dr (fu + 1) (St w0 M Z0 L φ) ((k, ⟨d, .call ⟨.builtin .append, #[x, y], #[t, t]⟩, ty, pos, aft, gd⟩) :: rest) a w := by
 have hown : w.ownsRow 0 e sz v n xs := hw.own _ (List.mem_of_getElem? hi)
 obtain ⟨v', w', hr, ho, hgb, hfb⟩ := run_append_row (P := P) w t ty hp.out v n xs hown ad m c news hl hnews (by simpa using h1) hbytes h63
 have hs : St w0 M Z0 (L.set i (rowR e sz v' (n + m) (xs ++ news))) φ w' := hw.upd hi (grownBy_ext hgb) (rowR_local e sz v' _ _) ho (fun b hb => ⟨hfb b hb, (ho.lt b hb).2⟩)
 obtain ⟨a', c', rfl⟩ : ∃ a' c', v' = .slice a' (n + m) c' := by
  rcases ho.2 with ⟨rfl, h0⟩ | ⟨g, cap, cur, rfl, _⟩
  ·exact ⟨_, _, by rw [h0]⟩
  ·exact ⟨_, _, rfl⟩
 refine T_goC (v := .slice a' (n + m) c') (w' := w') hd hg ?_ hs (h _ _ _ hs)
 have hev : (#[x, y] : Array Operand).map a.eval = #[v, .slice (some ad) m c] := by simp [hx, hy]
 unfold execOp
 simp only [resolve, invoke, builtin, Sem.run_bind, Sem.run_pure, Result.andThen_ok, List.map_toArray, List.map_cons, List.map_nil, hx, hy, hr]
theorem A1 {e sz by_ i p sb n m c : Nat} {v : Value} {xs news : List Value} [hp : AP P t e sz by_] (hw : St w0 M Z0 L φ w)
   (hg : Region.wanted ⟨d, .call ⟨.builtin .append, #[x, y], #[t, t]⟩, ty, pos, aft, gd⟩ (yielded ops a.tmps) = true)
   (hd : (!dr || (soleB ops ((k, ⟨d, .call ⟨.builtin .append, #[x, y], #[t, t]⟩, ty, pos, aft, gd⟩) :: rest) k ⟨d, .call ⟨.builtin .append, #[x, y], #[t, t]⟩, ty, pos, aft, gd⟩ && covB ops ((k, ⟨d, .call ⟨.builtin .append, #[x, y], #[t, t]⟩, ty, pos, aft, gd⟩) :: rest) ⟨d, .call ⟨.builtin .append, #[x, y], #[t, t]⟩, ty, pos, aft, gd⟩)) = true)
   (hx : a.eval x = v) (hy : a.eval y = .slice (some ⟨sb, 0, none⟩) m c) (hi : L[i]? = some (rowR e sz v n xs)) (hq : L[p]? = some (blk sb news e)) (hl : news.length = m * sz)
   (h1 : news.all (·.oneCell') = true) (hbytes : (n + m) * by_ ≤ 140737488355328) (h63 : n + m ≤ 9223372036854775807)
   (h : ∀ a' c' w', St w0 M Z0 (L.set i (rowR e sz (.slice a' (n + m) c') (n + m) (xs ++ news))) φ w' → wpT P ops Q dr fu (St w0 M Z0 (L.set i (rowR e sz (.slice a' (n + m) c') (n + m) (xs ++ news))) φ) rest (a.put d (.slice a' (n + m) c')) w') :
   wpT P ops Q dr (fu + 1) (St w0 M Z0 L φ) ((k, ⟨d, .call ⟨.builtin .append, #[x, y], #[t, t]⟩, ty, pos, aft, gd⟩) :: rest) a w :=
 A0 hw hg hd hx hy hi hl (fun j u hj => by rw [addr_add, Nat.zero_add]; exact hw.cell hq hj) h1 hbytes h63 h
theorem C2 {f : FuncId} {xs : List Operand} {ats : Array TypeId} {vs : List Value} {R : Ending → World → Prop} {S : World → Prop} [hf : CB P f]
   (hg : Region.wanted ⟨d, .call ⟨.value (.func f), xs.toArray, ats⟩, ty, pos, aft, gd⟩ (yielded ops a.tmps) = true) (hd : (!dr || (soleB ops ((k, ⟨d, .call ⟨.value (.func f), xs.toArray, ats⟩, ty, pos, aft, gd⟩) :: rest) k ⟨d, .call ⟨.value (.func f), xs.toArray, ats⟩, ty, pos, aft, gd⟩ && covB ops ((k, ⟨d, .call ⟨.value (.func f), xs.toArray, ats⟩, ty, pos, aft, gd⟩) :: rest) ⟨d, .call ⟨.value (.func f), xs.toArray, ats⟩, ty, pos, aft, gd⟩)) = true)
   (hxs : xs.map a.eval = vs) (hc : Calls P f vs.toArray w R)
   (h : ∀ e w', R e w' → ∃ v, e = .returned v ∧ ∃ S' : World → Prop, S' w' ∧ wpT P ops Q dr fu S' rest (a.put d v) w') :
   wpT P ops Q dr (fu + 1) S ((k, ⟨d, .call ⟨.value (.func f), xs.toArray, ats⟩, ty, pos, aft, gd⟩) :: rest) a w := .inr (.inl ⟨by cases dr <;> simp_all, by
 unfold wpO; rw [if_pos hg]; refine .inl ?_
 have hx : (execOp a.eval ⟨d, .call ⟨.value (.func f), xs.toArray, ats⟩, ty, pos, aft, gd⟩).run P w = .ok (.enter f vs.toArray) w := by
  rw [run_call_op (first := #[]) (cap := #[]) rfl hf.out, ← hxs]
  simp
 simp only [Oper.wp, hx, Oper.upon]
 refine hc.mono fun e w' hr => ?_
 obtain ⟨v, rfl, S', h1, h2⟩ := h e w' hr
 exact ⟨S', fun e => .inl (by subst e; simp_all), h1, h2⟩⟩)
end
end Go.Dk
namespace Go.Dk
open Go
end Go.Dk
end
