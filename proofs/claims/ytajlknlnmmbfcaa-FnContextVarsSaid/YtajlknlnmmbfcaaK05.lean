/- Part 5 of the proof. -/
import Derived.Test.YtajlknlnmmbfcaaK01
import Derived.Test.YtajlknlnmmbfcaaK02
import Derived.Test.YtajlknlnmmbfcaaK03
import Derived.Test.YtajlknlnmmbfcaaK04
set_option linter.unusedVariables false
set_option linter.unusedSimpArgs false
section
namespace Go.Proofs.Ytajlknlnmmbfcaa
open Go Go.Dk
def under (k : Int) (i : Nat) : Int := if i = 1 ∧ (k = 3 ∨ k = 4 ∨ k = 13) then 1 else 0
theorem c0 (k : Int) (i : Nat) : 0 ≤ under k i ∧ under k i ≤ 1 := by unfold under; split <;> omega
mutual
def shT (a : Int) : T → Int → T
 | .mk k n ts, c => .mk k (if k = 1 ∧ c ≤ n then n + a else n) (shL a k 0 ts c)
def shL (a k : Int) : Nat → List T → Int → List T
 | _, [], _ => []
 | i, t :: ts, c => shT a t (c + under k i) :: shL a k (i + 1) ts c
end
mutual
def sbT (u : T) : T → Int → Int → T
 | .mk k n ts, x, d => if k = 1 ∧ n = x then shT d u 0 else .mk k (if k = 1 ∧ x < n then n - 1 else n) (sbL u k 0 ts x d)
def sbL (u : T) (k : Int) : Nat → List T → Int → Int → List T
 | _, [], _, _ => []
 | i, t :: ts, x, d => sbT u t (x + under k i) (d + under k i) :: sbL u k (i + 1) ts x d
end
mutual
theorem zX {a b : Int} (ha : 0 ≤ a) (hb : 0 ≤ b) : ∀ (t : T) (c e : Int), c ≤ e → shT a (shT b t c) (e + b) = shT b (shT a t e) c
 | .mk k n ts, c, e, h => by
  simp only [shT]
  rw [xc ha hb k ts 0 c e h]
  congr 1
  by_cases hk : k = 1 <;> simp only [hk, true_and, false_and, if_false]
  repeat' split
  all_goals omega
theorem xc {a b : Int} (ha : 0 ≤ a) (hb : 0 ≤ b) (k : Int) : ∀ (ts : List T) (i : Nat) (c e : Int), c ≤ e → shL a k i (shL b k i ts c) (e + b) = shL b k i (shL a k i ts e) c
 | [], i, c, e, h => rfl
 | t :: ts, i, c, e, h => by
  simp only [shL]
  rw [show e + b + under k i = e + under k i + b by omega, zX ha hb t (c + under k i) (e + under k i) (by omega), xc ha hb k ts (i + 1) c e h]
end
mutual
theorem DO {a b : Int} (ha : 0 ≤ a) (hb : 0 ≤ b) : ∀ (t : T) (c e : Int), c ≤ e → e ≤ c + b → shT a (shT b t c) e = shT (a + b) t c
 | .mk k n ts, c, e, h, h2 => by
  simp only [shT]
  rw [Ap ha hb k ts 0 c e h h2]
  congr 1
  by_cases hk : k = 1 <;> simp only [hk, true_and, false_and, if_false]
  repeat' split
  all_goals omega
theorem Ap {a b : Int} (ha : 0 ≤ a) (hb : 0 ≤ b) (k : Int) : ∀ (ts : List T) (i : Nat) (c e : Int), c ≤ e → e ≤ c + b → shL a k i (shL b k i ts c) e = shL (a + b) k i ts c
 | [], i, c, e, h, h2 => rfl
 | t :: ts, i, c, e, h, h2 => by
  simp only [shL]
  rw [DO ha hb t (c + under k i) (e + under k i) (by omega) (by omega), Ap ha hb k ts (i + 1) c e h h2]
end
mutual
theorem G5 (u : T) {b : Int} (hb : 0 ≤ b) : ∀ (t : T) (c x d : Int), c ≤ x → x ≤ c + b → sbT u (shT (b + 1) t c) x d = shT b t c
 | .mk k n ts, c, x, d, h, h2 => by
  simp only [shT, sbT]
  rw [DR u hb k ts 0 c x d h h2]
  by_cases hk : k = 1 <;> simp only [hk, true_and, false_and, if_false]
  by_cases hn : c ≤ n
  ·rw [if_pos hn, if_neg (by omega), if_pos (by omega), if_pos hn]; congr 1; omega
  ·rw [if_neg hn, if_neg (by omega), if_neg (by omega), if_neg hn]
theorem DR (u : T) {b : Int} (hb : 0 ≤ b) (k : Int) : ∀ (ts : List T) (i : Nat) (c x d : Int), c ≤ x → x ≤ c + b → sbL u k i (shL (b + 1) k i ts c) x d = shL b k i ts c
 | [], i, c, x, d, h, h2 => rfl
 | t :: ts, i, c, x, d, h, h2 => by
  simp only [shL, sbL]
  rw [G5 u hb t (c + under k i) (x + under k i) (d + under k i) (by omega) (by omega), DR u hb k ts (i + 1) c x d h h2]
end
mutual
theorem Fs (u : T) {a : Int} (ha : 0 ≤ a) : ∀ (t : T) (c x d : Int), 0 ≤ d → d ≤ x → x ≤ c → shT a (sbT u t x d) c = sbT (shT a u (c - d)) (shT a t (c + 1)) x d
 | .mk k n ts, c, x, d, h0, h1, h2 => by
  simp only [shT, sbT]
  by_cases hk : k = 1
  ·subst hk
   simp only [true_and]
   by_cases hn : n = x
   ·subst hn
    rw [if_pos rfl, if_neg (show ¬ c + 1 ≤ n by omega), if_pos rfl]
    have := zX ha h0 u 0 (c - d) (by omega)
    rw [show c - d + d = c by omega] at this
    exact this
   ·rw [if_neg hn, shT]
    by_cases hn2 : x < n
    ·by_cases hn3 : c + 1 ≤ n
     ·rw [if_pos hn3, if_neg (show ¬ n + a = x by omega), if_pos hn2, if_pos (show x < n + a by omega)]
      simp only [true_and, if_pos (show c ≤ n - 1 by omega), tQ u ha 1 ts 0 c x d h0 h1 h2]
      congr 1; omega
     ·rw [if_neg hn3, if_neg hn, if_pos hn2]
      simp only [true_and, if_neg (show ¬ c ≤ n - 1 by omega), tQ u ha 1 ts 0 c x d h0 h1 h2]
    ·rw [if_neg hn2, if_neg (show ¬ c + 1 ≤ n by omega), if_neg hn, if_neg hn2]
     simp only [true_and, if_neg (show ¬ c ≤ n by omega), tQ u ha 1 ts 0 c x d h0 h1 h2]
  ·simp only [hk, false_and, if_false, shT]
   rw [tQ u ha k ts 0 c x d h0 h1 h2]
theorem tQ (u : T) {a : Int} (ha : 0 ≤ a) (k : Int) : ∀ (ts : List T) (i : Nat) (c x d : Int), 0 ≤ d → d ≤ x → x ≤ c → shL a k i (sbL u k i ts x d) c = sbL (shT a u (c - d)) k i (shL a k i ts (c + 1)) x d
 | [], i, c, x, d, h0, h1, h2 => rfl
 | t :: ts, i, c, x, d, h0, h1, h2 => by
  have hu := c0 k i
  simp only [shL, sbL]
  rw [Fs u ha t (c + under k i) (x + under k i) (d + under k i) (by omega) (by omega) (by omega), tQ u ha k ts (i + 1) c x d h0 h1 h2,
   show c + under k i - (d + under k i) = c - d by omega, show c + 1 + under k i = c + under k i + 1 by omega]
end
mutual
theorem xS (u : T) {a : Int} (ha : 0 ≤ a) : ∀ (t : T) (c x d : Int), 0 ≤ c → c ≤ d → d ≤ x → shT a (sbT u t x d) c = sbT u (shT a t c) (x + a) (d + a)
 | .mk k n ts, c, x, d, h0, h1, h2 => by
  simp only [shT, sbT]
  by_cases hk : k = 1
  ·subst hk
   simp only [true_and]
   by_cases hn : n = x
   ·subst hn
    rw [if_pos rfl, if_pos (show c ≤ n by omega), if_pos rfl]
    rw [DO ha (by omega) u 0 c h0 (by omega), Int.add_comm]
   ·rw [if_neg hn, shT]
    by_cases hn2 : c ≤ n
    ·rw [if_pos hn2, if_neg (show ¬ n + a = x + a by omega)]
     by_cases hn3 : x < n
     ·rw [if_pos hn3, if_pos (show x + a < n + a by omega)]
      simp only [true_and, if_pos (show c ≤ n - 1 by omega), iI u ha 1 ts 0 c x d h0 h1 h2]
      congr 1; omega
     ·rw [if_neg hn3, if_neg (show ¬ x + a < n + a by omega)]
      simp only [true_and, if_pos hn2, iI u ha 1 ts 0 c x d h0 h1 h2]
    ·rw [if_neg (show ¬ x < n by omega), if_neg hn2, if_neg (show ¬ n = x + a by omega), if_neg (show ¬ x + a < n by omega)]
     simp only [true_and, if_neg hn2, iI u ha 1 ts 0 c x d h0 h1 h2]
  ·simp only [hk, false_and, if_false, shT]
   rw [iI u ha k ts 0 c x d h0 h1 h2]
theorem iI (u : T) {a : Int} (ha : 0 ≤ a) (k : Int) : ∀ (ts : List T) (i : Nat) (c x d : Int), 0 ≤ c → c ≤ d → d ≤ x → shL a k i (sbL u k i ts x d) c = sbL u k i (shL a k i ts c) (x + a) (d + a)
 | [], i, c, x, d, h0, h1, h2 => rfl
 | t :: ts, i, c, x, d, h0, h1, h2 => by
  have hu := c0 k i
  simp only [shL, sbL]
  rw [xS u ha t (c + under k i) (x + under k i) (d + under k i) (by omega) (by omega) (by omega), iI u ha k ts (i + 1) c x d h0 h1 h2,
   show x + under k i + a = x + a + under k i by omega, show d + under k i + a = d + a + under k i by omega]
end
mutual
theorem FY (u v : T) : ∀ (t : T) (x d y e : Int), 0 ≤ d → d ≤ x → x ≤ e → e ≤ y → sbT v (sbT u t x d) y e = sbT (sbT v u (y - d) (e - d)) (sbT v t (y + 1) (e + 1)) x d
 | .mk k n ts, x, d, y, e, h0, h1, h2, h3 => by
  by_cases hk : k = 1
  ·subst hk
   by_cases hn : n = x
   ·subst hn
    rw [sbT, if_pos ⟨rfl, rfl⟩, sbT, if_neg (show ¬ ((1 : Int) = 1 ∧ n = y + 1) by omega), if_neg (show ¬ ((1 : Int) = 1 ∧ y + 1 < n) by omega), sbT, if_pos ⟨rfl, rfl⟩]
    have := xS v h0 u 0 (y - d) (e - d) (by omega) (by omega) (by omega)
    rw [show y - d + d = y by omega, show e - d + d = e by omega] at this
    exact this.symm
   ·rw [sbT, if_neg (show ¬ ((1 : Int) = 1 ∧ n = x) by omega)]
    by_cases hn2 : n = y + 1
    ·subst hn2
     rw [if_pos (show (1 : Int) = 1 ∧ x < y + 1 by omega), sbT, if_pos (show (1 : Int) = 1 ∧ y + 1 - 1 = y by omega), sbT, if_pos ⟨rfl, rfl⟩]
     exact (G5 _ (by omega) v 0 x d (by omega) (by omega)).symm
    ·have e2 : sbT v (.mk 1 n ts) (y + 1) (e + 1) = .mk 1 (if (1 : Int) = 1 ∧ y + 1 < n then n - 1 else n) (sbL v 1 0 ts (y + 1) (e + 1)) := by
       rw [sbT, if_neg (show ¬ ((1 : Int) = 1 ∧ n = y + 1) by omega)]
     rw [e2]
     by_cases hn3 : x < n
     ·rw [if_pos (show (1 : Int) = 1 ∧ x < n by omega), sbT, if_neg (show ¬ ((1 : Int) = 1 ∧ n - 1 = y) by omega), sbT]
      by_cases hn4 : y + 1 < n
      ·rw [if_pos (show (1 : Int) = 1 ∧ y < n - 1 by omega), if_pos (show (1 : Int) = 1 ∧ y + 1 < n by omega), if_neg (show ¬ ((1 : Int) = 1 ∧ n - 1 = x) by omega), if_pos (show (1 : Int) = 1 ∧ x < n - 1 by omega), tz u v 1 ts 0 x d y e h0 h1 h2 h3]
      ·rw [if_neg (show ¬ ((1 : Int) = 1 ∧ y < n - 1) by omega), if_neg (show ¬ ((1 : Int) = 1 ∧ y + 1 < n) by omega), if_neg (show ¬ ((1 : Int) = 1 ∧ n = x) by omega), if_pos (show (1 : Int) = 1 ∧ x < n by omega), tz u v 1 ts 0 x d y e h0 h1 h2 h3]
     ·rw [if_neg (show ¬ ((1 : Int) = 1 ∧ x < n) by omega), sbT, if_neg (show ¬ ((1 : Int) = 1 ∧ n = y) by omega), if_neg (show ¬ ((1 : Int) = 1 ∧ y < n) by omega), if_neg (show ¬ ((1 : Int) = 1 ∧ y + 1 < n) by omega), sbT, if_neg (show ¬ ((1 : Int) = 1 ∧ n = x) by omega), if_neg (show ¬ ((1 : Int) = 1 ∧ x < n) by omega), tz u v 1 ts 0 x d y e h0 h1 h2 h3]
  ·simp only [sbT, hk, false_and, if_false]
   rw [tz u v k ts 0 x d y e h0 h1 h2 h3]
theorem tz (u v : T) (k : Int) : ∀ (ts : List T) (i : Nat) (x d y e : Int), 0 ≤ d → d ≤ x → x ≤ e → e ≤ y → sbL v k i (sbL u k i ts x d) y e = sbL (sbT v u (y - d) (e - d)) k i (sbL v k i ts (y + 1) (e + 1)) x d
 | [], i, x, d, y, e, h0, h1, h2, h3 => rfl
 | t :: ts, i, x, d, y, e, h0, h1, h2, h3 => by
  have hu := c0 k i
  simp only [sbL]
  rw [FY u v t (x + under k i) (d + under k i) (y + under k i) (e + under k i) (by omega) (by omega) (by omega) (by omega), tz u v k ts (i + 1) x d y e h0 h1 h2 h3,
   show y + under k i - (d + under k i) = y - d by omega, show e + under k i - (d + under k i) = e - d by omega, show y + 1 + under k i = y + under k i + 1 by omega, show e + 1 + under k i = e + under k i + 1 by omega]
end
def mG : T := .mk 0 0 []
def kd (t : T) (i : Nat) : T := t.kids.getD i mG
theorem DQ (a k : Int) : ∀ (ts : List T) (i j : Nat) (c : Int), (shL a k i ts c).getD j mG = shT a (ts.getD j mG) (c + under k (i + j))
 | [], i, j, c => by simp [shL, mG, shT]
 | t :: ts, i, 0, c => by simp [shL]
 | t :: ts, i, j + 1, c => by
  simp only [shL, List.getD_cons_succ]
  rw [DQ a k ts (i + 1) j c, show i + 1 + j = i + (j + 1) by omega]
theorem D5 (u : T) (k : Int) : ∀ (ts : List T) (i j : Nat) (x d : Int), (sbL u k i ts x d).getD j mG = sbT u (ts.getD j mG) (x + under k (i + j)) (d + under k (i + j))
 | [], i, j, x, d => by simp [sbL, mG, sbT]
 | t :: ts, i, 0, x, d => by simp [sbL]
 | t :: ts, i, j + 1, x, d => by
  simp only [sbL, List.getD_cons_succ]
  rw [D5 u k ts (i + 1) j x d, show i + 1 + j = i + (j + 1) by omega]
theorem pn (a : Int) (t : T) (c : Int) : (shT a t c).k = t.k := by cases t; rfl
theorem jf (a : Int) (t : T) (c : Int) (j : Nat) : kd (shT a t c) j = shT a (kd t j) (c + under t.k j) := by
 cases t with | mk k n ts =>
 unfold kd
 rw [shT]
 show (shL a k 0 ts c).getD j mG = _
 rw [DQ, Nat.zero_add]; rfl
theorem pJ {u t : T} {x d : Int} (h : t.k ≠ 1) : (sbT u t x d).k = t.k := by
 cases t with | mk k n ts =>
 rw [sbT, if_neg (fun hh => h hh.1)]; rfl
theorem gT {u t : T} {x d : Int} (h : t.k ≠ 1) (j : Nat) : kd (sbT u t x d) j = sbT u (kd t j) (x + under t.k j) (d + under t.k j) := by
 cases t with | mk k n ts =>
 have h' : k ≠ 1 := h
 unfold kd
 rw [sbT, if_neg (fun hh => h' hh.1)]
 show (sbL u k 0 ts x d).getD j mG = _
 rw [D5, Nat.zero_add]; rfl
def bz (t : T) : Int :=
 if t.k = 5 then (if (kd t 0).k = 4 then 1 else 0)
 else if t.k = 9 then (if (kd t 3).k = 7 then 2 else if (kd t 3).k = 8 then 3 else 0)
 else if t.k = 12 then (if (kd t 1).k = 11 then 4 else 0)
 else if t.k = 15 then (if (kd t 0).k = 14 then 5 else 0)
 else if t.k = 16 then (if (kd t 0).k = 14 then 6 else 0) else 0
def ax (t : T) : T :=
 if t.k = 5 then sbT (kd t 1) (kd (kd t 0) 1) 0 0
 else if t.k = 9 then (if (kd t 3).k = 7 then kd t 1 else .mk 5 0 [.mk 5 0 [kd t 2, kd (kd t 3) 0], .mk 9 0 [kd t 0, kd t 1, kd t 2, kd (kd t 3) 0]])
 else if t.k = 12 then kd t 2
 else if t.k = 15 then kd (kd t 0) 1
 else kd (kd t 0) 2
inductive Rx : T → Prop
 | app {t} (h : t.k = 5) (h' : (kd t 0).k = 4) : Rx t
 | zero {t} (h : t.k = 9) (h' : (kd t 3).k = 7) : Rx t
 | succ {t} (h : t.k = 9) (h' : (kd t 3).k = 8) : Rx t
 | move {t} (h : t.k = 12) (h' : (kd t 1).k = 11) : Rx t
 | fst {t} (h : t.k = 15) (h' : (kd t 0).k = 14) : Rx t
 | snd {t} (h : t.k = 16) (h' : (kd t 0).k = 14) : Rx t
theorem mW (t : T) : bz t ≠ 0 ↔ Rx t := by
 constructor
 ·intro h
  unfold bz at h
  split at h
  ·split at h
   ·exact .app ‹_› ‹_›
   ·exact absurd rfl h
  ·split at h
   ·split at h
    ·exact .zero ‹_› ‹_›
    ·split at h
     ·exact .succ ‹_› ‹_›
     ·exact absurd rfl h
   ·split at h
    ·split at h
     ·exact .move ‹_› ‹_›
     ·exact absurd rfl h
    ·split at h
     ·split at h
      ·exact .fst ‹_› ‹_›
      ·exact absurd rfl h
     ·split at h
      ·split at h
       ·exact .snd ‹_› ‹_›
       ·exact absurd rfl h
      ·exact absurd rfl h
 ·intro h
  cases h with
  | app h h' => simp [bz, h, h']
  | zero h h' => simp [bz, h, h']
  | succ h h' => simp [bz, h, h']
  | move h h' => simp [bz, h, h']
  | fst h h' => simp [bz, h, h']
  | snd h h' => simp [bz, h, h']
theorem Rx.k {t : T} (h : Rx t) : t.k = 5 ∨ t.k = 9 ∨ t.k = 12 ∨ t.k = 15 ∨ t.k = 16 := by cases h <;> omega
theorem Rx.sh {t : T} (h : Rx t) (a c : Int) : Rx (shT a t c) := by
 cases h with
 | app h h' => exact .app (by rw [pn, h]) (by rw [jf, pn, h'])
 | zero h h' => exact .zero (by rw [pn, h]) (by rw [jf, pn, h'])
 | succ h h' => exact .succ (by rw [pn, h]) (by rw [jf, pn, h'])
 | move h h' => exact .move (by rw [pn, h]) (by rw [jf, pn, h'])
 | fst h h' => exact .fst (by rw [pn, h]) (by rw [jf, pn, h'])
 | snd h h' => exact .snd (by rw [pn, h]) (by rw [jf, pn, h'])
theorem Rx.sb {t : T} (h : Rx t) (u : T) (x d : Int) : Rx (sbT u t x d) := by
 cases h with
 | app h h' => exact .app (by rw [pJ (by omega), h]) (by rw [gT (by omega), pJ (by omega), h'])
 | zero h h' => exact .zero (by rw [pJ (by omega), h]) (by rw [gT (by omega), pJ (by omega), h'])
 | succ h h' => exact .succ (by rw [pJ (by omega), h]) (by rw [gT (by omega), pJ (by omega), h'])
 | move h h' => exact .move (by rw [pJ (by omega), h]) (by rw [gT (by omega), pJ (by omega), h'])
 | fst h h' => exact .fst (by rw [pJ (by omega), h]) (by rw [gT (by omega), pJ (by omega), h'])
 | snd h h' => exact .snd (by rw [pJ (by omega), h]) (by rw [gT (by omega), pJ (by omega), h'])
theorem fb {t : T} (h : t.k = 5) : ax t = sbT (kd t 1) (kd (kd t 0) 1) 0 0 := by simp [ax, h]
theorem dj {t : T} (h : t.k = 9) (h' : (kd t 3).k = 7) : ax t = kd t 1 := by simp [ax, h, h']
theorem dk {t : T} (h : t.k = 9) (h' : (kd t 3).k = 8) : ax t = .mk 5 0 [.mk 5 0 [kd t 2, kd (kd t 3) 0], .mk 9 0 [kd t 0, kd t 1, kd t 2, kd (kd t 3) 0]] := by simp [ax, h, h']
theorem dq {t : T} (h : t.k = 12) : ax t = kd t 2 := by simp [ax, h]
theorem eV {t : T} (h : t.k = 15) : ax t = kd (kd t 0) 1 := by simp [ax, h]
theorem eT {t : T} (h : t.k = 16) : ax t = kd (kd t 0) 2 := by simp [ax, h]
theorem qi {k : Int} {i : Nat} (h : k ≠ 3 ∧ k ≠ 4 ∧ k ≠ 13) : under k i = 0 := by unfold under; rw [if_neg (by omega)]
theorem G7 {t : T} (h : Rx t) {a : Int} (ha : 0 ≤ a) {c : Int} (hc : 0 ≤ c) : shT a (ax t) c = ax (shT a t c) := by
 cases h with
 | app h h' =>
  rw [fb h, fb (by rw [pn, h]), Fs _ ha _ c 0 0 (by omega) (by omega) hc]
  simp only [jf, h, h', qi (show (5 : Int) ≠ 3 ∧ (5 : Int) ≠ 4 ∧ (5 : Int) ≠ 13 by decide), show under 4 1 = 1 from rfl, Int.add_zero, Int.sub_zero]
 | zero h h' => rw [dj h h', dj (by rw [pn, h]) (by rw [jf, pn, h']), jf, qi (by omega), Int.add_zero]
 | succ h h' =>
  rw [dk h h', dk (by rw [pn, h]) (by rw [jf, pn, h'])]
  simp only [jf, h, h', shT, shL, qi (show (5 : Int) ≠ 3 ∧ (5 : Int) ≠ 4 ∧ (5 : Int) ≠ 13 by decide), qi (show (9 : Int) ≠ 3 ∧ (9 : Int) ≠ 4 ∧ (9 : Int) ≠ 13 by decide), qi (show (8 : Int) ≠ 3 ∧ (8 : Int) ≠ 4 ∧ (8 : Int) ≠ 13 by decide), Int.add_zero]
  simp
 | move h h' => rw [dq h, dq (by rw [pn, h]), jf, qi (by omega), Int.add_zero]
 | fst h h' => rw [eV h, eV (by rw [pn, h]), jf, jf, qi (by omega), qi (by omega), Int.add_zero, Int.add_zero]
 | snd h h' => rw [eT h, eT (by rw [pn, h]), jf, jf, qi (by omega), qi (by omega), Int.add_zero, Int.add_zero]
theorem FH {t : T} (h : Rx t) (u : T) {x d : Int} (h0 : 0 ≤ d) (h1 : d ≤ x) : sbT u (ax t) x d = ax (sbT u t x d) := by
 cases h with
 | app h h' =>
  rw [fb h, fb (by rw [pJ (by omega), h]), FY _ _ _ 0 0 x d (by omega) (by omega) h0 h1]
  simp only [gT (show t.k ≠ 1 by omega), h, gT (show (kd t 0).k ≠ 1 by omega), h', qi (show (5 : Int) ≠ 3 ∧ (5 : Int) ≠ 4 ∧ (5 : Int) ≠ 13 by decide), show under 4 1 = 1 from rfl, Int.add_zero, Int.sub_zero]
 | zero h h' => rw [dj h h', dj (by rw [pJ (by omega), h]) (by rw [gT (by omega), pJ (by omega), h']), gT (by omega), qi (by omega), Int.add_zero, Int.add_zero]
 | succ h h' =>
  rw [dk h h', dk (by rw [pJ (by omega), h]) (by rw [gT (by omega), pJ (by omega), h'])]
  simp only [gT (show t.k ≠ 1 by omega), gT (show (kd t 3).k ≠ 1 by omega), h, h', sbT, sbL, qi (show (5 : Int) ≠ 3 ∧ (5 : Int) ≠ 4 ∧ (5 : Int) ≠ 13 by decide), qi (show (9 : Int) ≠ 3 ∧ (9 : Int) ≠ 4 ∧ (9 : Int) ≠ 13 by decide), qi (show (8 : Int) ≠ 3 ∧ (8 : Int) ≠ 4 ∧ (8 : Int) ≠ 13 by decide), Int.add_zero]
  simp
 | move h h' => rw [dq h, dq (by rw [pJ (by omega), h]), gT (by omega), qi (by omega), Int.add_zero, Int.add_zero]
 | fst h h' => rw [eV h, eV (by rw [pJ (by omega), h]), gT (by omega), gT (by omega), qi (by omega), qi (by omega)]; simp only [Int.add_zero]
 | snd h h' => rw [eT h, eT (by rw [pJ (by omega), h]), gT (by omega), gT (by omega), qi (by omega), qi (by omega)]; simp only [Int.add_zero]
mutual
inductive Par : T → T → Prop
 | node {k n ts us} (h : fx ts us) : Par (.mk k n ts) (.mk k n us)
 | red {k n ts us} (h : fx ts us) (hr : Rx (.mk k n ts)) : Par (.mk k n ts) (ax (.mk k n us))
inductive fx : List T → List T → Prop
 | nil : fx [] []
 | cons {t u ts us} (h : Par t u) (hs : fx ts us) : fx (t :: ts) (u :: us)
end
mutual
theorem Par.refl : ∀ t : T, Par t t
 | .mk k n ts => .node (fx.refl ts)
theorem fx.refl : ∀ ts : List T, fx ts ts
 | [] => .nil
 | t :: ts => .cons (Par.refl t) (fx.refl ts)
end
theorem fx.get : ∀ {ts us : List T}, fx ts us → ∀ j, Par (ts.getD j mG) (us.getD j mG)
 | _, _, .nil, j => by simpa using Par.refl mG
 | _, _, .cons h hs, 0 => by simpa using h
 | _, _, .cons h hs, j + 1 => by simpa using hs.get j
theorem fx.kd {k n : Int} {ts us : List T} (h : fx ts us) (j : Nat) : Par (kd (.mk k n ts) j) (kd (.mk k n us) j) := h.get j
theorem Par.head {t u : T} (h : Par t u) (hk : t.k ≠ 5 ∧ t.k ≠ 9 ∧ t.k ≠ 12 ∧ t.k ≠ 15 ∧ t.k ≠ 16) : u.k = t.k ∧ ∀ j, Par (kd t j) (kd u j) := by
 cases h with
 | node h => exact ⟨rfl, h.kd⟩
 | red h hr => have := hr.k; simp only [T.k] at this hk; omega
theorem Rx.par {k n : Int} {ts us : List T} (hp : fx ts us) (h : Rx (.mk k n ts)) : Rx (.mk k n us) := by
 cases h with
 | app h h' => exact .app h (by rw [((hp.kd (k := k) (n := n) 0).head (by omega)).1, h'])
 | zero h h' => exact .zero h (by rw [((hp.kd (k := k) (n := n) 3).head (by omega)).1, h'])
 | succ h h' => exact .succ h (by rw [((hp.kd (k := k) (n := n) 3).head (by omega)).1, h'])
 | move h h' => exact .move h (by rw [((hp.kd (k := k) (n := n) 1).head (by omega)).1, h'])
 | fst h h' => exact .fst h (by rw [((hp.kd (k := k) (n := n) 0).head (by omega)).1, h'])
 | snd h h' => exact .snd h (by rw [((hp.kd (k := k) (n := n) 0).head (by omega)).1, h'])
mutual
theorem Par.sh {a : Int} (ha : 0 ≤ a) : ∀ {t u : T}, Par t u → ∀ c : Int, 0 ≤ c → Par (shT a t c) (shT a u c)
 | _, _, .node h, c, hc => by
  simp only [shT]
  exact .node (fx.sh ha h _ 0 c hc)
 | _, _, .red (k := k) (n := n) (us := us) h hr, c, hc => by
  rw [G7 (Rx.par h hr) ha hc]
  simp only [shT]
  exact .red (fx.sh ha h _ 0 c hc) (by have := hr.sh a c; rwa [shT] at this)
theorem fx.sh {a : Int} (ha : 0 ≤ a) : ∀ {ts us : List T}, fx ts us → ∀ (k : Int) (i : Nat) (c : Int), 0 ≤ c → fx (shL a k i ts c) (shL a k i us c)
 | _, _, .nil, k, i, c, hc => .nil
 | _, _, .cons h hs, k, i, c, hc => by
  have := c0 k i
  simp only [shL]
  exact .cons (Par.sh ha h _ (by omega)) (fx.sh ha hs k (i + 1) c hc)
end
mutual
theorem Par.sb {v w : T} (hv : Par v w) : ∀ {t u : T}, Par t u → ∀ x d : Int, 0 ≤ d → d ≤ x → Par (sbT v t x d) (sbT w u x d)
 | _, _, .node (k := k) (n := n) h, x, d, h0, h1 => by
  simp only [sbT]
  split
  ·exact hv.sh h0 0 (by omega)
  ·exact .node (fx.sb hv h _ 0 x d h0 h1)
 | _, _, .red (k := k) (n := n) (us := us) h hr, x, d, h0, h1 => by
  have hk : k ≠ 1 := by have := hr.k; simp only [T.k] at this; omega
  rw [FH (Rx.par h hr) w h0 h1]
  simp only [sbT, hk, false_and, if_false]
  exact .red (fx.sb hv h _ 0 x d h0 h1) (by have := hr.sb v x d; rwa [sbT, if_neg (fun hh => hk hh.1), if_neg (fun hh => hk hh.1)] at this)
theorem fx.sb {v w : T} (hv : Par v w) : ∀ {ts us : List T}, fx ts us → ∀ (k : Int) (i : Nat) (x d : Int), 0 ≤ d → d ≤ x → fx (sbL v k i ts x d) (sbL w k i us x d)
 | _, _, .nil, k, i, x, d, h0, h1 => .nil
 | _, _, .cons h hs, k, i, x, d, h0, h1 => by
  have := c0 k i
  simp only [sbL]
  exact .cons (Par.sb hv h _ _ (by omega) (by omega)) (fx.sb hv hs k (i + 1) x d h0 h1)
end
theorem Par.con {k n : Int} {ts us : List T} (hp : fx ts us) (h : Rx (.mk k n ts)) : Par (ax (.mk k n ts)) (ax (.mk k n us)) := by
 have hk := fun j => hp.kd (k := k) (n := n) j
 have hr := h.par hp
 cases h with
 | app h h' =>
  rw [fb h, fb (t := .mk k n us) h]
  exact Par.sb (hk 1) (((hk 0).head (by omega)).2 1) 0 0 (by omega) (by omega)
 | zero h h' => rw [dj h h', dj (t := .mk k n us) h (by rw [((hk 3).head (by omega)).1, h'])]; exact hk 1
 | succ h h' =>
  rw [dk h h', dk (t := .mk k n us) h (by rw [((hk 3).head (by omega)).1, h'])]
  have h0 := ((hk 3).head (by omega)).2 0
  exact .node (.cons (.node (.cons (hk 2) (.cons h0 .nil))) (.cons (.node (.cons (hk 0) (.cons (hk 1) (.cons (hk 2) (.cons h0 .nil))))) .nil))
 | move h h' => rw [dq h, dq (t := .mk k n us) h]; exact hk 2
 | fst h h' => rw [eV h, eV (t := .mk k n us) h]; exact ((hk 0).head (by omega)).2 1
 | snd h h' => rw [eT h, eT (t := .mk k n us) h]; exact ((hk 0).head (by omega)).2 2
instance (t : T) : Decidable (Rx t) := decidable_of_iff _ (mW t)
mutual
def Ht : T → T
 | .mk k n ts => if Rx (.mk k n ts) then ax (.mk k n (Hm ts)) else .mk k n (Hm ts)
def Hm : List T → List T
 | [] => []
 | t :: ts => Ht t :: Hm ts
end
mutual
theorem Par.tri : ∀ {t u : T}, Par t u → Par u (Ht t)
 | _, _, .node (k := k) (n := n) (ts := ts) h => by
  rw [Ht]
  split
  ·rename_i hr
   exact .red (fx.tri h) (hr.par h)
  ·exact .node (fx.tri h)
 | _, _, .red h hr => by
  rw [Ht, if_pos hr]
  exact Par.con (fx.tri h) (hr.par h)
theorem fx.tri : ∀ {ts us : List T}, fx ts us → fx us (Hm ts)
 | _, _, .nil => .nil
 | _, _, .cons h hs => .cons (Par.tri h) (fx.tri hs)
end
inductive Red : T → T → Prop
 | refl {t} : Red t t
 | step {t u v} (h : Par t u) (hs : Red u v) : Red t v
theorem Red.strip {t u v : T} (h : Par t u) (h' : Red t v) : ∃ w, Red u w ∧ Par v w := by
 induction h' generalizing u with
 | refl => exact ⟨u, .refl, h⟩
 | step h1 _ ih =>
  obtain ⟨w, hw, hv⟩ := ih h1.tri
  exact ⟨w, .step h.tri hw, hv⟩
theorem Red.BX {t u v : T} (h : Red t u) (h' : Red t v) : ∃ w, Red u w ∧ Red v w := by
 induction h generalizing v with
 | refl => exact ⟨v, h', .refl⟩
 | step h1 _ ih =>
  obtain ⟨w, hw, hv⟩ := Red.strip h1 h'
  obtain ⟨z, hz, hz'⟩ := ih hw
  exact ⟨z, hz, .step hv hz'⟩
mutual
def nfB : T → Bool
 | .mk k n ts => !decide (Rx (.mk k n ts)) && nfL ts
def nfL : List T → Bool
 | [] => true
 | t :: ts => nfB t && nfL ts
end
mutual
theorem D4 : ∀ {t u : T}, Par t u → nfB t = true → u = t
 | _, _, .node h, hn => by
  simp only [nfB, Bool.and_eq_true] at hn
  rw [AJ h hn.2]
 | _, _, .red h hr, hn => by
  simp only [nfB, Bool.and_eq_true, Bool.not_eq_true', decide_eq_false_iff_not] at hn
  exact absurd hr hn.1
theorem AJ : ∀ {ts us : List T}, fx ts us → nfL ts = true → us = ts
 | _, _, .nil, _ => rfl
 | _, _, .cons h hs, hn => by
  simp only [nfL, Bool.and_eq_true] at hn
  rw [D4 h hn.1, AJ hs hn.2]
end
theorem wB {t u : T} (h : Red t u) (hn : nfB t = true) : u = t := by
 induction h with
 | refl => rfl
 | step h _ ih =>
  have := D4 h hn
  subst this
  exact ih hn
theorem EN {t a b : T} (ha : Red t a) (hb : Red t b) (na : nfB a = true) (nb : nfB b = true) : a = b := by
 obtain ⟨w, h1, h2⟩ := Red.BX ha hb
 rw [← wB h1 na, ← wB h2 nb]
mutual
def stT (inn : Bool) : T → Option T
 | .mk k n ts => if inn = false ∧ Rx (.mk k n ts) then some (ax (.mk k n ts)) else
  match stL inn ts with
  | some us => some (.mk k n us)
  | none => if inn = true ∧ Rx (.mk k n ts) then some (ax (.mk k n ts)) else none
def stL (inn : Bool) : List T → Option (List T)
 | [] => none
 | t :: ts => match stT inn t with
  | some u => some (u :: ts)
  | none => (stL inn ts).map (t :: ·)
end
mutual
theorem D7 {inn : Bool} : ∀ {t u : T}, stT inn t = some u → Par t u
 | .mk k n ts, u, h => by
  rw [stT] at h
  split at h
  ·rename_i hr
   obtain rfl := Option.some.inj h
   exact .red (fx.refl ts) hr.2
  ·split at h
   ·rename_i us hs
    obtain rfl := Option.some.inj h
    exact .node (Bk hs)
   ·split at h
    ·rename_i hr
     obtain rfl := Option.some.inj h
     exact .red (fx.refl ts) hr.2
    ·cases h
theorem Bk {inn : Bool} : ∀ {ts us : List T}, stL inn ts = some us → fx ts us
 | [], us, h => by cases h
 | t :: ts, us, h => by
  rw [stL] at h
  split at h
  ·rename_i u hu
   obtain rfl := Option.some.inj h
   exact .cons (D7 hu) (fx.refl ts)
  ·obtain ⟨vs, hv, rfl⟩ := Option.map_eq_some_iff.1 h
   exact .cons (Par.refl t) (Bk hv)
end
mutual
theorem uX {inn : Bool} : ∀ {t : T}, stT inn t = none ↔ nfB t = true
 | .mk k n ts => by
  rw [stT, nfB]
  have := xn (inn := inn) (ts := ts)
  by_cases hr : Rx (.mk k n ts)
  ·cases inn <;> cases hs : stL _ ts <;> simp [hr]
  ·cases hs : stL inn ts <;> rw [hs] at this <;> simp [hr] at this ⊢ <;> exact this
theorem xn {inn : Bool} : ∀ {ts : List T}, stL inn ts = none ↔ nfL ts = true
 | [] => by simp [stL, nfL]
 | t :: ts => by
  rw [stL, nfL]
  have h1 := uX (inn := inn) (t := t)
  have h2 := xn (inn := inn) (ts := ts)
  cases hs : stT inn t <;> rw [hs] at h1 <;> simp at h1
  ·cases ht : stL inn ts <;> rw [ht] at h2 <;> simp at h2 <;> simp [h1, h2]
  ·simp [h1]
end
mutual
theorem kE (a : Int) : ∀ (t : T) (c : Int), (shT a t c).size = t.size
 | .mk k n ts, c => by rw [shT, T.size, T.size, wI a k ts 0 c]
theorem wI (a k : Int) : ∀ (ts : List T) (i : Nat) (c : Int), T.aA (shL a k i ts c) = T.aA ts
 | [], i, c => rfl
 | t :: ts, i, c => by rw [shL, T.aA, T.aA, kE a t, wI a k ts]
end
theorem size_pos (t : T) : 1 ≤ t.size := by have := T.size_eq t; omega
mutual
theorem qF (u : T) : ∀ (t : T) (x d : Int), (sbT u t x d).size ≤ t.size * u.size
 | .mk k n ts, x, d => by
  have hu := size_pos u
  rw [sbT]
  split
  ·rw [kE, T.size]; exact Nat.le_mul_of_pos_left _ (by omega)
  ·rw [T.size, T.size, Nat.add_mul, Nat.one_mul]
   have := wH u k ts 0 x d
   omega
theorem wH (u : T) (k : Int) : ∀ (ts : List T) (i : Nat) (x d : Int), T.aA (sbL u k i ts x d) ≤ T.aA ts * u.size
 | [], i, x, d => by simp [sbL, T.aA]
 | t :: ts, i, x, d => by
  rw [sbL, T.aA, T.aA, Nat.add_mul]
  have h1 := qF u t (x + under k i) (d + under k i)
  have h2 := wH u k ts (i + 1) x d
  omega
end
theorem nY (a k : Int) : ∀ (ts : List T) (i : Nat) (c : Int), (shL a k i ts c).length = ts.length
 | [], i, c => rfl
 | t :: ts, i, c => by rw [shL, List.length_cons, List.length_cons, nY a k ts]
theorem tV (u : T) (k : Int) : ∀ (ts : List T) (i : Nat) (x d : Int), (sbL u k i ts x d).length = ts.length
 | [], i, x, d => rfl
 | t :: ts, i, x, d => by rw [sbL, List.length_cons, List.length_cons, tV u k ts]
theorem AF (a k : Int) : ∀ (ts : List T) (i j : Nat) (c : Int) (h : j < ts.length), (shL a k i ts c)[j]'(by rw [nY]; exact h) = shT a ts[j] (c + under k (i + j))
 | t :: ts, i, 0, c, h => rfl
 | t :: ts, i, j + 1, c, h => by
  have := AF a k ts (i + 1) j c (by simpa using h)
  simp only [shL, List.getElem_cons_succ]
  rw [this, show i + 1 + j = i + (j + 1) by omega]
theorem BF (u : T) (k : Int) : ∀ (ts : List T) (i j : Nat) (x d : Int) (h : j < ts.length), (sbL u k i ts x d)[j]'(by rw [tV]; exact h) = sbT u ts[j] (x + under k (i + j)) (d + under k (i + j))
 | t :: ts, i, 0, x, d, h => rfl
 | t :: ts, i, j + 1, x, d, h => by
  have := BF u k ts (i + 1) j x d (by simpa using h)
  simp only [sbL, List.getElem_cons_succ]
  rw [this, show i + 1 + j = i + (j + 1) by omega]
mutual
def gdB : T → Bool
 | .mk k n ts => decide (0 ≤ n ∧ n ≤ 20 ∧ (k = 1 → ts = [])) && gdL ts
def gdL : List T → Bool
 | [] => true
 | t :: ts => gdB t && gdL ts
end
theorem Bh {u : T} : ∀ {ts : List T}, gdL ts = true → u ∈ ts → gdB u = true
 | t :: ts, h, hu => by
  simp only [gdL, Bool.and_eq_true] at h
  rcases List.mem_cons.1 hu with rfl | hu
  ·exact h.1
  ·exact Bh h.2 hu
theorem nV {t : T} (h : gdB t = true) : 0 ≤ t.n ∧ t.n ≤ 20 ∧ (t.k = 1 → t.kids = []) ∧ ∀ u ∈ t.kids, gdB u = true := by
 cases t with | mk k n ts =>
 simp only [gdB, Bool.and_eq_true, decide_eq_true_eq] at h
 exact ⟨h.1.1, h.1.2.1, h.1.2.2, fun u hu => Bh h.2 hu⟩
mutual
theorem xl : ∀ (t : T) (d : Nat), cH t d = true → gdB t = true
 | .mk k n ts, d, h => by
  simp only [cH, Bool.and_eq_true, decide_eq_true_eq] at h
  simp only [gdB, Bool.and_eq_true, decide_eq_true_eq]
  refine ⟨⟨h.2.2.1.1, ?_, fun hk => ?_⟩, tg ts _ h.2.2.2⟩
  ·have := h.2.2.1.2
   unfold ct at this
   split at this
   ·exact this
   ·split at this <;> omega
  ·subst hk
   have h0 := h.2.1
   have : (ts.length : Int) = 0 := by rw [← h0]; rfl
   exact List.eq_nil_of_length_eq_zero (by omega)
theorem tg : ∀ (ts : List T) (d : Nat), c7 ts d = true → gdL ts = true
 | [], d, _ => rfl
 | t :: ts, d, h => by
  simp only [c7, Bool.and_eq_true] at h
  rw [gdL, xl t d h.1, tg ts d h.2]; rfl
end
theorem gD {t : T} (h : ah t = true) : gdB t = true := by
 unfold ah at h
 rw [Bool.and_eq_true] at h
 exact xl t 30 h.1
mutual
def okS (a : Int) : T → Int → Bool
 | .mk k n ts, c => if k = 1 then (if c ≤ n then decide (c ≤ n + a) && decide (n + a ≤ 20) else true) else Dx a k 0 ts c
def Dx (a k : Int) : Nat → List T → Int → Bool
 | _, [], _ => true
 | i, t :: ts, c => okS a t (c + under k i) && Dx a k (i + 1) ts c
end
theorem uA {k n : Int} {ts : List T} (h : ah (.mk k n ts) = true) {u : T} (hu : u ∈ ts) : ah u = true := bG h hu
mutual
theorem uz {a : Int} (ha : 0 ≤ a) : ∀ (t : T) (c : Int), ah (shT a t c) = true → okS a t c = true
 | .mk k n ts, c, h => by
  rw [okS]
  rw [shT] at h
  split
  ·rename_i hk
   subst hk
   split
   ·rename_i hc
    have := (iN h).2.2
    simp only [T.n, T.k, true_and, if_pos hc] at this
    have h3 : ct 1 = 20 := rfl
    rw [h3] at this
    simp; omega
   ·rfl
  ·exact p9 ha k ts 0 c fun u hu => uA h hu
theorem p9 {a : Int} (ha : 0 ≤ a) (k : Int) : ∀ (ts : List T) (i : Nat) (c : Int), (∀ u ∈ shL a k i ts c, ah u = true) → Dx a k i ts c = true
 | [], i, c, _ => rfl
 | t :: ts, i, c, h => by
  rw [shL] at h
  rw [Dx, uz ha t _ (h _ (List.mem_cons_self ..)), p9 ha k ts (i + 1) c fun u hu => h u (List.mem_cons_of_mem _ hu)]; rfl
end
mutual
def okB (u : T) : T → Int → Int → Bool
 | .mk k n ts, x, d => if k = 1 then (if n = x then ah (shT d u 0) else true) else Cd u k 0 ts x d
def Cd (u : T) (k : Int) : Nat → List T → Int → Int → Bool
 | _, [], _, _ => true
 | i, t :: ts, x, d => okB u t (x + under k i) (d + under k i) && Cd u k (i + 1) ts x d
end
mutual
theorem ta (u : T) : ∀ (t : T) (x d : Int), ah (sbT u t x d) = true → okB u t x d = true
 | .mk k n ts, x, d, h => by
  rw [okB]
  rw [sbT] at h
  split
  ·rename_i hk
   subst hk
   split
   ·rename_i hn
    rwa [if_pos ⟨rfl, hn⟩] at h
   ·rfl
  ·rename_i hk
   rw [if_neg (fun hh => hk hh.1)] at h
   exact pz u k ts 0 x d fun u hu => uA h hu
theorem pz (u : T) (k : Int) : ∀ (ts : List T) (i : Nat) (x d : Int), (∀ v ∈ sbL u k i ts x d, ah v = true) → Cd u k i ts x d = true
 | [], i, x, d, _ => rfl
 | t :: ts, i, x, d, h => by
  rw [sbL] at h
  rw [Cd, ta u t _ _ (h _ (List.mem_cons_self ..)), pz u k ts (i + 1) x d fun u hu => h u (List.mem_cons_of_mem _ hu)]; rfl
end
mutual
def wyT (inn : Bool) : T → Option (List Nat)
 | .mk k n ts => if inn = false ∧ Rx (.mk k n ts) then some [] else
  match wyL inn 0 ts with
  | some w => some w
  | none => if inn = true ∧ Rx (.mk k n ts) then some [] else none
def wyL (inn : Bool) : Nat → List T → Option (List Nat)
 | _, [] => none
 | i, t :: ts => match wyT inn t with
  | some w => some (i :: w)
  | none => wyL inn (i + 1) ts
end
def atT : T → List Nat → T
 | t, [] => t
 | t, i :: w => atT (kd t i) w
def puT : T → List Nat → T → T
 | _, [], u => u
 | t, i :: w, u => .mk t.k t.n (t.kids.set i (puT (kd t i) w u))
def zd : T → List Nat → Prop
 | _, [] => True
 | t, i :: w => i < t.kids.length ∧ zd (kd t i) w
mutual
theorem nI {inn : Bool} : ∀ {t : T} {w : List Nat}, wyT inn t = some w → zd t w ∧ Rx (atT t w) ∧ stT inn t = some (puT t w (ax (atT t w)))
 | .mk k n ts, w, h => by
  rw [wyT] at h
  rw [stT]
  split at h
  ·rename_i hr
   obtain rfl := Option.some.inj h
   exact ⟨trivial, hr.2, by rw [if_pos hr]; rfl⟩
  ·rename_i hr
   rw [if_neg hr]
   split at h
   ·rename_i w' hw
    obtain rfl := Option.some.inj h
    obtain ⟨i, v, rfl, hi, h1, h2, h3⟩ := xQ hw
    refine ⟨⟨by simpa [T.kids] using hi, by simpa [kd, T.kids] using h1⟩, by simpa [atT, kd, T.kids] using h2, ?_⟩
    rw [h3]
    simp [puT, T.k, T.n, T.kids, kd, atT]
   ·rename_i hw
    split at h
    ·rename_i hr2
     obtain rfl := Option.some.inj h
     have hn : stL inn ts = none := rY hw
     refine ⟨trivial, hr2.2, ?_⟩
     rw [hn]
     simp only
     rw [if_pos hr2]; rfl
    ·cases h
theorem xQ {inn : Bool} : ∀ {ts : List T} {j : Nat} {w : List Nat}, wyL inn j ts = some w → ∃ i v, w = (j + i) :: v ∧ i < ts.length ∧ zd (ts.getD i mG) v ∧ Rx (atT (ts.getD i mG) v) ∧ stL inn ts = some (ts.set i (puT (ts.getD i mG) v (ax (atT (ts.getD i mG) v))))
 | [], j, w, h => by cases h
 | t :: ts, j, w, h => by
  rw [wyL] at h
  rw [stL]
  split at h
  ·rename_i v hv
   obtain rfl := Option.some.inj h
   obtain ⟨h1, h2, h3⟩ := nI hv
   exact ⟨0, v, by simp, by simp, by simpa using h1, by simpa using h2, by rw [h3]; simp⟩
  ·rename_i hv
   obtain ⟨i, v, rfl, hi, h1, h2, h3⟩ := xQ h
   refine ⟨i + 1, v, by simp; omega, by simpa using hi, by simpa using h1, by simpa using h2, ?_⟩
   rw [qx hv, h3]; simp
theorem qx {inn : Bool} : ∀ {t : T}, wyT inn t = none → stT inn t = none
 | .mk k n ts, h => by
  rw [wyT] at h
  rw [stT]
  split at h
  ·cases h
  ·rename_i hr
   rw [if_neg hr]
   split at h
   ·cases h
   ·rename_i hw
    split at h
    ·cases h
    ·rename_i hr2
     rw [rY hw]
     simp only
     rw [if_neg hr2]
theorem rY {inn : Bool} : ∀ {ts : List T} {j : Nat}, wyL inn j ts = none → stL inn ts = none
 | [], j, _ => rfl
 | t :: ts, j, h => by
  rw [wyL] at h
  rw [stL]
  split at h
  ·cases h
  ·rename_i hv
   rw [qx hv, rY h]; rfl
end
theorem n3 : ∀ {w : List Nat} {t u : T}, zd t w → ah (puT t w u) = true → ah u = true
 | [], t, u, _, h => h
 | i :: w, t, u, hw, h => by
  rw [puT] at h
  refine n3 hw.2 (bG h (u := puT (kd t i) w u) ?_)
  show _ ∈ t.kids.set i _
  exact List.mem_iff_getElem.2 ⟨i, by simpa using hw.1, by simp⟩
theorem jh {t : T} {i : Nat} (h : i < t.kids.length) : kd t i ∈ t.kids := by
 rw [show kd t i = t.kids[i] by unfold kd; simp [List.getD, h]]
 exact List.getElem_mem h
theorem mr : ∀ {w : List Nat} {t : T}, zd t w → ah t = true → ah (atT t w) = true
 | [], t, _, h => h
 | i :: w, t, hw, h => mr (w := w) hw.2 (bG h (jh hw.1))
theorem ml : ∀ {w : List Nat} {t u : T}, zd t w → (puT t w u).size ≤ t.size + u.size
 | [], t, u, _ => by simp [puT]
 | i :: w, t, u, hw => by
  rw [puT, T.size, T.size_eq t]
  have h1 := ml (u := u) hw.2
  have h2 : ∀ (ts : List T) (i : Nat) (v : T) (s : Nat), i < ts.length → v.size ≤ (ts.getD i mG).size + s → T.aA (ts.set i v) ≤ T.aA ts + s := by
   intro ts
   induction ts with
   | nil => intro i v s h; simp at h
   | cons t ts ih =>
    intro i v s hi hv
    cases i with
    | zero => simp only [List.set_cons_zero, T.aA, List.getD_cons_zero] at hv ⊢; omega
    | succ i =>
     simp only [List.set_cons_succ, T.aA, List.getD_cons_succ] at hv ⊢
     have := ih i v s (by simpa using hi) hv
     omega
  have := h2 t.kids i _ u.size hw.1 h1
  omega
def Hl (inn : Bool) (t : T) : T × Int :=
 match stT inn t with
 | none => (t, 0)
 | some u => if ah u then (u, 1) else (mG, 2)
def fN (inn : Bool) : Nat → Nat → T → T × Nat × Int
 | 0, s, t => match stT inn t with
  | none => (t, s, 0)
  | some _ => (mG, s, 1)
 | g + 1, s, t => match stT inn t with
  | none => (t, s, 0)
  | some u => if ah u then fN inn g (s + 1) u else (mG, s, 2)
end Go.Proofs.Ytajlknlnmmbfcaa
end
section
namespace Go.Proofs.Ytajlknlnmmbfcaa
open Go Go.Ab Go.Dk
abbrev tm (t : T) : V1 := .agg [.int .i64 t.k, .int .i64 t.n, .fr (.ts t.kids)]
abbrev tms (l : List T) : V1 := .one (.fr (.ts l))
abbrev nt (n : Int) : V1 := .one (.int .i64 n)
abbrev bl (b : Bool) : V1 := .one (.bool b)
abbrev Gt : TypeId := 29
abbrev ow (t : T) : List V1 × List aq := ([.agg [.int .i64 t.k, .int .i64 t.n, .own 0 0]], [.arr Gt (.ts t.kids) 0 false])
theorem T.eta (t : T) : T.mk t.k t.n t.kids = t := by cases t; rfl
theorem cT (k n : Int) (l : List T) : (T.mk k n l).k = k := rfl
theorem cQ (k n : Int) (l : List T) : (T.mk k n l).n = n := rfl
theorem ay (k n : Int) (l : List T) : (T.mk k n l).kids = l := rfl
theorem xj (t : T) (l : List V1) (k : T → List V1 → OR) : ag (.agg [.int .i64 t.k, .int .i64 t.n, .fr (.ts t.kids)] :: l) k = k t l := by cases t; rfl
theorem evt : type_of% (And.intro @evs <| And.intro @xj <| And.intro @T.eta <| And.intro @cT <| And.intro @cQ <| And.intro @ay <| And.intro @Option.bind_none.{0,0} <| And.intro @Bool.not_true <| And.intro @Bool.not_false <| And.intro @Bool.true_and <| And.intro @Bool.and_true <| And.intro @Bool.and_false <| And.intro @Bool.false_and <| And.intro @Bool.and_self <| And.intro @decide_true @decide_false) := And.intro @evs <| And.intro @xj <| And.intro @T.eta <| And.intro @cT <| And.intro @cQ <| And.intro @ay <| And.intro @Option.bind_none.{0,0} <| And.intro @Bool.not_true <| And.intro @Bool.not_false <| And.intro @Bool.true_and <| And.intro @Bool.and_true <| And.intro @Bool.and_false <| And.intro @Bool.false_and <| And.intro @Bool.and_self <| And.intro @decide_true @decide_false
theorem af {n : Nat} (h : 0 < n) : ∃ m, n = m + 1 := ⟨n - 1, by omega⟩
theorem fC (i : Nat) : (i : Int) + 1 = ((i + 1 : Nat) : Int) := rfl
theorem aK {n : Nat} (h : n ≤ 1099511627776) : b8 n = true := decide_eq_true h
theorem eJ {α : Type} {l : List α} {i : Nat} (h : i < l.length) : l.take i ++ [l[i]] = l.take (i + 1) := by rw [List.take_add_one, List.getElem?_eq_getElem h]; rfl
theorem gJ {n : Nat} (hn : 1 ≤ n) (a b c : Int) : FF n 20 [nt a, nt b, nt c] [] = some ([bl (decide (b ≤ a) && decide (a ≤ c))], []) := by
 obtain ⟨n, rfl⟩ := af (show 0 < n by omega)
 rw [qI]
 by_cases h : b ≤ a <;> simp [h]
theorem FP {n : Nat} (hn : 1 ≤ n) (k : Int) : FF n 75 [nt k] [] = some ([nt (ct k)], []) := by
 obtain ⟨n, rfl⟩ := af (show 0 < n by omega)
 rw [uO]
 unfold ct
 by_cases h : k = 1 <;> by_cases h2 : k = 2 <;> simp [h, h2]
theorem mC {n : Nat} (hn : 1 ≤ n) (k : Int) : FF n 73 [nt k] [] = some ([nt (ct k)], []) := by
 obtain ⟨n, rfl⟩ := af (show 0 < n by omega)
 rw [rj]
 unfold ct
 by_cases h : k = 1 <;> by_cases h2 : k = 2 <;> simp [h, h2]
theorem CO (k : Int) (h : 1 ≤ k ∧ k ≤ 16) : ([0, 0, 2, 2, 2, 0, 0, 1, 4, 3, 1, 3, 2, 3, 1, 1] : List Int)[(k - 1).toNat]? = some (opsOf k) := by
 have : k = 1 ∨ k = 2 ∨ k = 3 ∨ k = 4 ∨ k = 5 ∨ k = 6 ∨ k = 7 ∨ k = 8 ∨ k = 9 ∨ k = 10 ∨ k = 11 ∨ k = 12 ∨ k = 13 ∨ k = 14 ∨ k = 15 ∨ k = 16 := by omega
 rcases this with rfl | rfl | rfl | rfl | rfl | rfl | rfl | rfl | rfl | rfl | rfl | rfl | rfl | rfl | rfl | rfl <;> rfl
theorem yp {n : Nat} (hn : 2 ≤ n) (k : Int) : FF n 74 [nt k] [] = some ([nt (opsOf k)], []) := by
 obtain ⟨n, rfl⟩ := af (show 0 < n by omega)
 rw [oj, gJ (by omega)]
 by_cases h : 1 ≤ k ∧ k ≤ 16
 ·simp only [evs, decide_eq_true h.1, decide_eq_true h.2, Bool.and_self, Bool.not_true, wrap64 (show -9223372036854775808 ≤ k - 1 ∧ k - 1 ≤ 9223372036854775807 by omega), decide_eq_true (show 0 ≤ k - 1 by omega),
    show (([0, 0, 2, 2, 2, 0, 0, 1, 4, 3, 1, 3, 2, 3, 1, 1] : List Nat).length : Int) = 16 from rfl, decide_eq_true (show k - 1 < 16 by omega), CO k h]
 ·have : (decide (1 ≤ k) && decide (k ≤ 16)) = false := by
    rw [Bool.and_eq_false_iff, decide_eq_false_iff_not, decide_eq_false_iff_not]; omega
  simp only [evs, this, Bool.not_false]
  unfold opsOf
  rw [if_neg (by omega), if_neg (by omega), if_neg (by omega), if_neg (by omega), if_neg (by omega)]
theorem j9 {n : Nat} (hn : 1 ≤ n) (k : Int) : FF n 72 [nt k] [] = some ([nt (opsOf k)], []) := by
 obtain ⟨n, rfl⟩ := af (show 0 < n by omega)
 rw [qq]
 by_cases h : k = 1 ∨ k = 2 ∨ k = 3 ∨ k = 4 ∨ k = 5 ∨ k = 6 ∨ k = 7 ∨ k = 8 ∨ k = 9 ∨ k = 10 ∨ k = 11 ∨ k = 12 ∨ k = 13 ∨ k = 14 ∨ k = 15 ∨ k = 16
 ·rcases h with rfl | rfl | rfl | rfl | rfl | rfl | rfl | rfl | rfl | rfl | rfl | rfl | rfl | rfl | rfl | rfl <;> rfl
 ·unfold opsOf
  rw [if_neg (by omega), if_neg (by omega), if_neg (by omega), if_neg (by omega), if_neg (by omega)]
  simp (disch := omega) only [au, if_neg]
theorem yZ {n : Nat} (hn : 1 ≤ n) (k : Int) : FF n 101 [nt k] [] = some ([bl (decide (k = 3 ∨ k = 4 ∨ k = 13))], []) := by
 obtain ⟨n, rfl⟩ := af (show 0 < n by omega)
 rw [nd]
 by_cases h : k = 3 <;> by_cases h2 : k = 4 <;> simp [h, h2]
theorem xm (k : Int) (i : Nat) : under k i = if (i : Int) = 1 ∧ (k = 3 ∨ k = 4 ∨ k = 13) then 1 else 0 := by
 unfold under
 by_cases h : i = 1
 ·subst h; simp
 ·rw [if_neg (fun hh => h hh.1), if_neg (fun hh => h (by have := hh.1; omega))]
theorem qQ {n : Nat} (hn : 2 ≤ n) (k : Int) (i : Nat) : FF n 77 [nt k, nt i] [] = some ([nt (under k i)], []) := by
 obtain ⟨n, rfl⟩ := af (show 0 < n by omega)
 rw [sY, yZ (by omega), xm]
 by_cases h : (i : Int) = 1
 ·simp only [evs, h, decide_true]
  by_cases h2 : k = 3 ∨ k = 4 ∨ k = 13 <;> simp [h2]
 ·simp [h]
theorem A5 {n : Nat} (hn : 1 ≤ n) (k : Int) (i : Nat) : FF n 98 [nt k, nt i] [] = some ([bl (decide ((i : Int) = 1 ∧ (k = 3 ∨ k = 4 ∨ k = 13)))], []) := by
 obtain ⟨n, rfl⟩ := af (show 0 < n by omega)
 rw [ov]
 by_cases h : (i : Int) = 1 <;> by_cases h1 : k = 3 <;> by_cases h2 : k = 4 <;> simp [h, h1, h2]
theorem sg {n : Nat} (hn : 2 ≤ n) (k : Int) (i : Nat) : FF n 69 [nt k, nt i] [] = some ([nt (under k i)], []) := by
 obtain ⟨n, rfl⟩ := af (show 0 < n by omega)
 rw [oQ, A5 (by omega), xm]
 by_cases h : (i : Int) = 1 ∧ (k = 3 ∨ k = 4 ∨ k = 13) <;> simp [evs, h]
theorem bo {n : Nat} (hn : 1 ≤ n) (k m : Int) : FF n 22 [nt k, nt m] [] = some ([tm (.mk k m [])], []) := by
 obtain ⟨n, rfl⟩ := af (show 0 < n by omega)
 exact rR n k m
theorem kU {n : Nat} (hn : 1 ≤ n) (m : Int) : FF n 21 [nt m] [] = some ([tm (.mk 1 m [])], []) := by
 obtain ⟨n, rfl⟩ := af (show 0 < n by omega)
 exact iJ n m
theorem g7 {n : Nat} (hn : 1 ≤ n) (k : Int) (l : List T) : FF n 50 [nt k, tms l] [] = some ([tm (.mk k 0 l)], []) := by
 obtain ⟨n, rfl⟩ := af (show 0 < n by omega)
 exact uW n k l
theorem bA {n : Nat} (hn : 1 ≤ n) (k : Int) (l : List T) (hl : l.length ≤ 1099511627776) : FF n 45 [nt k, tms l] [] = some ([tm (.mk k 0 l)], []) := by
 obtain ⟨n, rfl⟩ := af (show 0 < n by omega)
 rw [qR, List.nil_append, aK hl]; rfl
theorem wU (k : Int) : opsOf k ≤ 4 := by
 unfold opsOf
 repeat' split
 all_goals omega
theorem s5 (n : Nat) (d : Int) (ts : List T) (hd : 0 ≤ d ∧ d ≤ 31) (hl : ts.length ≤ 1099511627776)
   (h : ∀ u ∈ ts, ∀ c : Int, 0 ≤ c → c ≤ 400 → FF n 55 [tm u, nt (d + 1), .one (.ptr 0 0)] [.cells [.int .i64 c]] = some ([bl (gh u (d + 1) c).1], [.cells [.int .i64 (gh u (d + 1) c).2]])) :
   ∀ g m (i : Nat) (c : Int), g < m → i + g = ts.length → 0 ≤ c → c ≤ 400 → fj n m d ts ts.length i c = some ([bl (gQ (ts.drop i) (d + 1) c).1], [.cells [.int .i64 (gQ (ts.drop i) (d + 1) c).2]])
 | g, 0, i, c, hg, _, _, _ => by omega
 | 0, m + 1, i, c, _, hi, _, _ => by
  rw [eZ, List.drop_of_length_le (by omega)]
  simp only [au, if_neg (show ¬ (i : Int) < ts.length by omega), gQ]
 | g + 1, m + 1, i, c, hg, hi, h0, h1 => by
  have hlt : i < ts.length := by omega
  have hb := ya ts[i] (d + 1) c
  rw [List.drop_eq_getElem_cons hlt, gQ]
  rw [eZ]; simp (disch := omega) only [evt, au, Int.toNat_natCast, fC, wrap64, aK, List.length_append, List.length_cons, List.length_nil, if_pos (show (i : Int) < ts.length by omega), if_pos (show 0 ≤ (i : Int) by omega), List.getElem?_eq_getElem hlt, h _ (List.getElem_mem hlt) c h0 h1]
  cases hs : (gh ts[i] (d + 1) c).1 with
  | false => simp
  | true =>
   have := hb hs
   simp only [Bool.not_true, cond_false, if_true]
   exact s5 n d ts hd hl h g m (i + 1) _ (by omega) (by omega) (by omega) (by omega)
theorem Gp (t : T) : ∀ {n : Nat}, t.size + 5 ≤ n → ∀ d c : Int, 0 ≤ d → d ≤ 31 → 0 ≤ c → c ≤ 400 →
   FF n 55 [tm t, nt d, .one (.ptr 0 0)] [.cells [.int .i64 c]] = some ([bl (gh t d c).1], [.cells [.int .i64 (gh t d c).2]]) := by
 induction t using T.ind with | h t ih =>
 intro n hn d c h0 h1 h2 h3
 have hsz := T.size_eq t
 have hl := T.bw t.kids
 obtain ⟨n, rfl⟩ := af (show 0 < n by omega)
 rw [u4, Db]
 simp (disch := omega) only [evt, yp, FP, gJ, wrap64]
 by_cases c1 : 400 < c + 1
 ·simp [c1]
 by_cases c2 : 30 < d
 ·simp [c1, c2]
 by_cases c3 : opsOf t.k = t.kids.length
 ·by_cases c4 : 0 ≤ t.n ∧ t.n ≤ ct t.k
  ·have e : (decide (0 ≤ t.n) && decide (t.n ≤ ct t.k)) = true := by simp [c4]
   rw [if_neg (by intro hh; rcases hh with hh | hh | hh | hh <;> first | omega | exact hh c3 | exact hh c4), e]
   simp only [decide_eq_false c1, decide_eq_false c2, cond_false, decide_eq_true c3, Bool.not_true]
   by_cases hk : t.kids = []
   ·rw [hk]
    obtain ⟨n, rfl⟩ := af (show 0 < n by omega)
    rw [eZ]; simp [gQ]
   ·have := s5 n d t.kids ⟨h0, h1⟩ (by have := wU t.k; omega) (fun u hu c' hc hc' => ih u hu (by have := T.aT hu; omega) (d + 1) c' (by omega) (by omega) hc hc') t.kids.length n 0 (c + 1) (by omega) (by omega) (by omega) (by omega)
    simpa using this
  ·have e : (decide (0 ≤ t.n) && decide (t.n ≤ ct t.k)) = false := by
     rw [← Bool.not_eq_true, Bool.and_eq_true, decide_eq_true_eq, decide_eq_true_eq]; exact c4
   rw [if_pos (.inr (.inr (.inr c4))), e]
   simp [c1, c2, c3]
 ·rw [if_pos (.inr (.inr (.inl c3)))]
  simp [c1, c2, c3]
theorem bB {n : Nat} {t : T} (hn : t.size + 6 ≤ n) : FF n 33 [tm t] [] = some ([bl (ah t)], []) := by
 obtain ⟨n, rfl⟩ := af (show 0 < n by omega)
 rw [l9, ← yt]
 simp (disch := omega) only [evt, Gp]
theorem pj (n : Nat) (d : Nat) (k0 n0 : Int) (ts : List T) (hd : d ≤ 30) (h1d : 1 ≤ d) (hl : ts.length ≤ 1099511627776)
   (h : ∀ u ∈ ts, FF n 52 [tm u, nt ((d - 1 : Nat) : Int)] [] = some ([bl (cH u (d - 1))], [])) :
   ∀ g m (i : Nat), g < m → i + g = ts.length → dw n m (d : Int) i k0 n0 ts = some ([bl (c7 (ts.drop i) (d - 1))], [])
 | g, 0, i, hg, _ => by omega
 | 0, m + 1, i, _, hi => by
  rw [fB, List.drop_of_length_le (by omega)]
  simp only [au, if_neg (show ¬ (i : Int) < ts.length by omega), c7]
 | g + 1, m + 1, i, hg, hi => by
  have hlt : i < ts.length := by omega
  rw [List.drop_eq_getElem_cons hlt, c7]
  have w : IntKind.i64.wrap ((d : Int) - 1) = ((d - 1 : Nat) : Int) := by rw [wrap64 (by omega)]; omega
  rw [fB]; simp (disch := omega) only [evt, au, Int.toNat_natCast, fC, wrap64, aK, List.length_append, List.length_cons, List.length_nil, if_pos (show (i : Int) < ts.length by omega), if_pos (show 0 ≤ (i : Int) by omega), List.getElem?_eq_getElem hlt, w, h _ (List.getElem_mem hlt)]
  cases hs : cH ts[i] (d - 1) with
  | false => simp
  | true =>
   simp only [Bool.not_true, cond_false, Bool.true_and]
   exact pj n d k0 n0 ts hd h1d hl h g m (i + 1) (by omega) (by omega)
theorem By (t : T) : ∀ {n : Nat}, t.size + 5 ≤ n → ∀ d : Nat, d ≤ 30 → FF n 52 [tm t, nt (d : Int)] [] = some ([bl (cH t d)], []) := by
 induction t using T.ind with | h t ih =>
 intro n hn d hd
 have hsz := T.size_eq t
 have hl := T.bw t.kids
 obtain ⟨n, rfl⟩ := af (show 0 < n by omega)
 rw [oJ, gi]
 simp (disch := omega) only [evt, j9, mC]
 by_cases c1 : (d : Int) < 1
 ·simp [c1, show ¬ 1 ≤ d by omega]
 by_cases c3 : opsOf t.k = t.kids.length
 ·by_cases c4 : 0 ≤ t.n ∧ t.n ≤ ct t.k
  ·simp only [decide_eq_false c1, cond_false, decide_eq_true c3, Bool.not_true, decide_eq_false (show ¬ t.n < 0 by omega), decide_eq_false (show ¬ ct t.k < t.n by omega), decide_eq_true (show 1 ≤ d by omega), decide_eq_true c4, Bool.true_and]
   exact pj n d t.k t.n t.kids hd (by omega) (by have := wU t.k; omega) (fun u hu => ih u hu (by have := T.aT hu; omega) (d - 1) (by omega)) t.kids.length n 0 (by omega) (by omega)
  ·simp only [decide_eq_false c1, cond_false, decide_eq_true c3, Bool.not_true, decide_eq_true (show 1 ≤ d by omega), decide_eq_false c4, Bool.true_and, Bool.false_and]
   by_cases c5 : t.n < 0
   ·simp [c5]
   ·simp [c5, show ct t.k < t.n by omega]
 ·simp [c1, c3]
theorem pL (n : Nat) (most : Nat) (k0 n0 : Int) (ts : List T) (hm : most ≤ 400) (hl : ts.length ≤ 1099511627776)
   (h : ∀ u ∈ ts, ∀ m : Nat, m ≤ 400 → FF n 53 [tm u, nt (m : Int)] [] = some ([nt (wO u m : Int)], [])) :
   ∀ g m (i c : Nat), g < m → i + g = ts.length → di n m (most : Int) c i k0 n0 ts = some ([nt ((if c ≤ most then min (c + T.aA (ts.drop i)) (most + 1) else c : Nat) : Int)], [])
 | g, 0, i, c, hg, _ => by omega
 | 0, m + 1, i, c, _, hi => by
  rw [dx, List.drop_of_length_le (by omega)]
  simp only [au, if_neg (show ¬ (i : Int) < ts.length by omega), T.aA]
  split
  ·rw [Nat.min_eq_left (by omega)]; rfl
  ·rfl
 | g + 1, m + 1, i, c, hg, hi => by
  have hlt : i < ts.length := by omega
  rw [List.drop_eq_getElem_cons hlt, T.aA]
  by_cases hc : c ≤ most
  ·have w : IntKind.i64.wrap ((most : Int) - c) = ((most - c : Nat) : Int) := by rw [wrap64 (by omega)]; omega
   have hcn : wO ts[i] (most - c) ≤ most - c + 1 := by unfold wO; omega
   have w2 : IntKind.i64.wrap ((c : Int) + (wO ts[i] (most - c) : Int)) = ((c + wO ts[i] (most - c) : Nat) : Int) := by rw [wrap64 (by omega)]; rfl
   rw [dx]; simp (disch := omega) only [evt, au, Int.toNat_natCast, fC, wrap64, aK, List.length_append, List.length_cons, List.length_nil, if_pos (show (i : Int) < ts.length by omega), if_pos (show 0 ≤ (i : Int) by omega), if_pos (show (c : Int) ≤ most by omega), List.getElem?_eq_getElem hlt, w, w2, h _ (List.getElem_mem hlt) (most - c) (by omega)]
   rw [pL n most k0 n0 ts hm hl h g m (i + 1) _ (by omega) (by omega)]
   have e : (if c + wO ts[i] (most - c) ≤ most then min (c + wO ts[i] (most - c) + T.aA (ts.drop (i + 1))) (most + 1) else c + wO ts[i] (most - c)) = min (c + (ts[i].size + T.aA (ts.drop (i + 1)))) (most + 1) := by
    unfold wO
    split <;> omega
   rw [e, if_pos hc]
  ·rw [dx]
   simp only [au, if_pos (show (i : Int) < ts.length by omega), if_neg (show ¬ (c : Int) ≤ most by omega), if_neg hc]
theorem Br (t : T) : ∀ {n : Nat}, t.size + 5 ≤ n → t.size ≤ 4000000 → ∀ m : Nat, m ≤ 400 → FF n 53 [tm t, nt (m : Int)] [] = some ([nt (wO t m : Int)], []) := by
 induction t using T.ind with | h t ih =>
 intro n hn hz m hm
 have hsz := T.size_eq t
 have hl := T.bw t.kids
 obtain ⟨n, rfl⟩ := af (show 0 < n by omega)
 rw [pa]
 have := pL n m t.k t.n t.kids hm (by omega) (fun u hu m hm => ih u hu (by have := T.aT hu; omega) (by have := T.aT hu; omega) m hm) t.kids.length n 0 1 (by omega) (by omega)
 have e : (if 1 ≤ m then min (1 + T.aA t.kids) (m + 1) else 1) = wO t m := by unfold wO; split <;> omega
 rw [List.drop_zero, e] at this
 exact this
theorem bk {n : Nat} {t : T} (hn : t.size + 6 ≤ n) (hz : t.size ≤ 4000000) : FF n 29 [tm t] [] = some ([bl (ah t)], []) := by
 obtain ⟨n, rfl⟩ := af (show 0 < n by omega)
 rw [mi, ah]
 have h1 := By t (n := n) (by omega) 30 (by omega)
 have h2 := Br t (n := n) (by omega) hz 400 (by omega)
 rw [show (30 : Int) = ((30 : Nat) : Int) from rfl, show (400 : Int) = ((400 : Nat) : Int) from rfl, h1, h2]
 simp only [evt]
 cases cH t 30
 ·rfl
 ·simp only [cond_true, Bool.true_and]
  have e : decide ((wO t 400 : Int) ≤ ((400 : Nat) : Int)) = decide (t.size ≤ 400) := by
   unfold wO
   exact decide_eq_decide.2 (by omega)
  rw [e]
theorem wu {n : Nat} {t : T} (hn : t.size + 7 ≤ n) : FF n 51 [tm t] [] = some ([tm (if ah t then t else .mk 0 0 []), bl (ah t)], []) := by
 obtain ⟨n, rfl⟩ := af (show 0 < n by omega)
 rw [tR]
 simp (disch := omega) only [evt, bB]
 cases ah t <;> rfl
theorem CY {n : Nat} {t : T} (hn : t.size + 7 ≤ n) (hz : t.size ≤ 4000000) : FF n 30 [tm t] [] = some ([tm (if ah t then t else .mk 0 0 []), bl (ah t)], []) := by
 obtain ⟨n, rfl⟩ := af (show 0 < n by omega)
 rw [rT]
 simp (disch := omega) only [evt, bk]
 cases ah t <;> rfl
theorem ye (n : Nat) (ts : List T) (k0 n0 : Int) (l0 : List T) (k1 n1 : Int) (hl : ts.length ≤ 4000000) (h : ∀ u ∈ ts, FF n 34 [tm u] [] = some ([tm u], [])) :
   ∀ g m (i : Nat), g < m → i + g = ts.length → dN n m ts ts.length i k0 n0 l0 k1 n1 (ts.take i) = some ([tm (.mk k1 n1 ts)], [])
 | g, 0, i, hg, _ => by omega
 | 0, m + 1, i, _, hi => by
  rw [fR]
  simp only [au, if_neg (show ¬ (i : Int) < ts.length by omega), List.take_of_length_le (show ts.length ≤ i by omega)]; rfl
 | g + 1, m + 1, i, hg, hi => by
  have hlt : i < ts.length := by omega
  have ht : (ts.take i).length = i := by simp; omega
  rw [fR]; simp (disch := omega) only [evt, au, Int.toNat_natCast, fC, wrap64, aK, List.length_append, List.length_cons, List.length_nil, if_pos (show (i : Int) < ts.length by omega), if_pos (show 0 ≤ (i : Int) by omega), List.getElem?_eq_getElem hlt, h _ (List.getElem_mem hlt), ht]
  rw [eJ hlt]
  exact ye n ts k0 n0 l0 k1 n1 hl h g m (i + 1) (by omega) (by omega)
theorem AA (t : T) : ∀ {n : Nat}, t.size + 5 ≤ n → t.size ≤ 4000000 → FF n 34 [tm t] [] = some ([tm t], []) := by
 induction t using T.ind with | h t ih =>
 intro n hn hz
 have hsz := T.size_eq t
 have hl := T.bw t.kids
 obtain ⟨n, rfl⟩ := af (show 0 < n by omega)
 rw [yV]
 have := ye n t.kids 0 0 [] t.k t.n (by omega) (fun u hu => ih u hu (by have := T.aT hu; omega) (by have := T.aT hu; omega)) t.kids.length n 0 (by omega) (by omega)
 simpa [T.eta] using this
theorem uf (n : Nat) (ts : List T) (k2 n2 : Int) (k0 n0 : Int) (l0 : List T) (k1 n1 : Int) (hl : ts.length ≤ 4000000) (h : ∀ u ∈ ts, FF n 54 [tm u] [] = some (ow u)) :
   ∀ g m (i : Nat), g < m → i + g = ts.length → cA n m i k2 n2 ts k0 n0 l0 k1 n1 (ts.take i) = some (ow (.mk k1 n1 ts))
 | g, 0, i, hg, _ => by omega
 | 0, m + 1, i, _, hi => by
  rw [ei]
  simp only [au, if_neg (show ¬ (i : Int) < ts.length by omega), List.take_of_length_le (show ts.length ≤ i by omega)]; rfl
 | g + 1, m + 1, i, hg, hi => by
  have hlt : i < ts.length := by omega
  have ht : (ts.take i).length = i := by simp; omega
  rw [ei]; simp (disch := omega) only [evt, au, Int.toNat_natCast, fC, wrap64, aK, List.length_append, List.length_cons, List.length_nil, if_pos (show (i : Int) < ts.length by omega), if_pos (show 0 ≤ (i : Int) by omega), List.getElem?_eq_getElem hlt, h _ (List.getElem_mem hlt), ht]
  rw [eJ hlt]
  exact uf n ts k2 n2 k0 n0 l0 k1 n1 hl h g m (i + 1) (by omega) (by omega)
theorem fk (t : T) : ∀ {n : Nat}, t.size + 5 ≤ n → t.size ≤ 4000000 → FF n 54 [tm t] [] = some (ow t) := by
 induction t using T.ind with | h t ih =>
 intro n hn hz
 have hsz := T.size_eq t
 have hl := T.bw t.kids
 obtain ⟨n, rfl⟩ := af (show 0 < n by omega)
 rw [qS]
 have := uf n t.kids t.k t.n 0 0 [] t.k t.n (by omega) (fun u hu => ih u hu (by have := T.aT hu; omega) (by have := T.aT hu; omega)) t.kids.length n 0 (by omega) (by omega)
 simpa [T.eta] using this
theorem ue (n : Nat) (ts us : List T) (k0 n0 k1 n1 : Int) (hl : ts.length ≤ 4000000) (he : ts.length = us.length) (h : ∀ t ∈ ts, ∀ u, FF n 150 [tm t, tm u] [] = some ([bl (T.beq t u)], [])) :
   ∀ g m (i : Nat), g < m → i + g = ts.length → cZ n m i k0 n0 ts k1 n1 us = some ([bl (T.ox (ts.drop i) (us.drop i))], [])
 | g, 0, i, hg, _ => by omega
 | 0, m + 1, i, _, hi => by
  rw [fe, List.drop_of_length_le (by omega), List.drop_of_length_le (by omega)]
  simp only [au, if_neg (show ¬ (i : Int) < ts.length by omega), T.ox]
 | g + 1, m + 1, i, hg, hi => by
  have hlt : i < ts.length := by omega
  have hlt2 : i < us.length := by omega
  rw [List.drop_eq_getElem_cons hlt, List.drop_eq_getElem_cons hlt2, T.ox]
  rw [fe]; simp (disch := omega) only [evt, au, Int.toNat_natCast, fC, wrap64, aK, List.length_append, List.length_cons, List.length_nil, if_pos (show (i : Int) < ts.length by omega), if_pos (show 0 ≤ (i : Int) by omega), List.getElem?_eq_getElem hlt, List.getElem?_eq_getElem hlt2, h _ (List.getElem_mem hlt)]
  cases hs : T.beq ts[i] us[i] with
  | false => simp
  | true =>
   simp only [Bool.not_true, cond_false, Bool.true_and]
   exact ue n ts us k0 n0 k1 n1 hl he h g m (i + 1) (by omega) (by omega)
theorem mI : ∀ {ts us : List T}, ts.length ≠ us.length → T.ox ts us = false
 | [], [], h => absurd rfl h
 | [], _ :: _, _ => rfl
 | _ :: _, [], _ => rfl
 | t :: ts, u :: us, h => by rw [T.ox, mI (fun e => h (by simp [e])), Bool.and_false]
theorem nq (t : T) : ∀ {n : Nat}, t.size + 5 ≤ n → t.size ≤ 4000000 → ∀ u : T, FF n 150 [tm t, tm u] [] = some ([bl (T.beq t u)], []) := by
 induction t using T.ind with | h t ih =>
 intro n hn hz u
 have hsz := T.size_eq t
 have hl := T.bw t.kids
 obtain ⟨n, rfl⟩ := af (show 0 < n by omega)
 rw [nC, T.beq_eq]
 by_cases c1 : t.k = u.k
 ·by_cases c2 : t.n = u.n
  ·by_cases c3 : t.kids.length = u.kids.length
   ·have := ue n t.kids u.kids t.k t.n u.k u.n (by omega) c3 (fun v hv w => ih v hv (by have := T.aT hv; omega) (by have := T.aT hv; omega) w) t.kids.length n 0 (by omega) (by omega)
    simp only [decide_eq_true c1, decide_eq_true c2, decide_eq_true (show (t.kids.length : Int) = u.kids.length by omega), Bool.not_true, cond_false, Bool.true_and]
    simpa using this
   ·simp only [decide_eq_true c1, decide_eq_true c2, decide_eq_false (show ¬ (t.kids.length : Int) = u.kids.length by omega), Bool.not_true, Bool.not_false, cond_false, cond_true, Bool.true_and, mI c3]
  ·simp [c1, c2]
 ·simp [c1]
end Go.Proofs.Ytajlknlnmmbfcaa
end
section
namespace Go.Proofs.Ytajlknlnmmbfcaa
open Go Go.Ab Go.Dk
theorem zo {a k : Int} {ts : List T} {c : Int} {i : Nat} (h : i < ts.length) : (shL a k 0 ts c).take i ++ [shT a ts[i] (c + under k i)] = (shL a k 0 ts c).take (i + 1) := by
 rw [← eJ (l := shL a k 0 ts c) (i := i) (by rw [nY]; exact h), AF a k ts 0 i c h, Nat.zero_add]
theorem Ek {u : T} {k : Int} {ts : List T} {x d : Int} {i : Nat} (h : i < ts.length) : (sbL u k 0 ts x d).take i ++ [sbT u ts[i] (x + under k i) (d + under k i)] = (sbL u k 0 ts x d).take (i + 1) := by
 rw [← eJ (l := sbL u k 0 ts x d) (i := i) (by rw [tV]; exact h), BF u k ts 0 i x d h, Nat.zero_add]
theorem lL (n : Nat) (a c : Int) (k n0 : Int) (ts : List T) (z1 z2 : Int) (l : List T) (k1 n1 : Int) (hl : ts.length ≤ 1000000) (hc : 0 ≤ c ∧ c ≤ 1000000)
   (h : ∀ (j : Nat) (hj : j < ts.length), FF n 46 [tm ts[j], nt a, nt (c + under k j)] [] = some ([tm (shT a ts[j] (c + under k j))], [])) (hn : 2 ≤ n) :
   ∀ g m (i : Nat), g < m → i + g = ts.length → bh n m a c i k n0 ts z1 z2 l k1 n1 ((shL a k 0 ts c).take i) = some ([tm (.mk k1 n1 (shL a k 0 ts c))], [])
 | g, 0, i, hg, _ => by omega
 | 0, m + 1, i, _, hi => by
  rw [dR]
  simp only [au, if_neg (show ¬ (i : Int) < ts.length by omega), List.take_of_length_le (show (shL a k 0 ts c).length ≤ i by rw [nY]; omega)]; rfl
 | g + 1, m + 1, i, hg, hi => by
  have hlt : i < ts.length := by omega
  have ub := c0 k i
  have ht : ((shL a k 0 ts c).take i).length = i := by rw [List.length_take, nY]; omega
  rw [dR]; simp (disch := omega) only [evt, au, Int.toNat_natCast, fC, wrap64, aK, List.length_append, List.length_cons, List.length_nil, if_pos (show (i : Int) < ts.length by omega), if_pos (show 0 ≤ (i : Int) by omega), List.getElem?_eq_getElem hlt, sg, h i hlt, ht, zo hlt]
  exact lL n a c k n0 ts z1 z2 l k1 n1 hl hc h hn g m (i + 1) (by omega) (by omega)
theorem sG (a : Int) (ha : -1000 ≤ a ∧ a ≤ 1000) (t : T) : ∀ {n : Nat}, t.size + 5 ≤ n → gdB t = true → ∀ c : Int, 0 ≤ c → c + t.size ≤ 1000000 → FF n 46 [tm t, nt a, nt c] [] = some ([tm (shT a t c)], []) := by
 induction t using T.ind with | h t ih =>
 intro n hn hg c h0 h1
 have hsz := T.size_eq t
 have hl := T.bw t.kids
 obtain ⟨n, rfl⟩ := af (show 0 < n by omega)
 obtain ⟨g0, g1, g2, g3⟩ := nV hg
 rw [oI]
 have key : ∀ k1 n1, bh n n a c 0 t.k t.n t.kids 0 0 [] k1 n1 [] = some ([tm (.mk k1 n1 (shL a t.k 0 t.kids c))], []) := by
  intro k1 n1
  have := lL n a c t.k t.n t.kids 0 0 [] k1 n1 (by omega) ⟨h0, by omega⟩ (fun j hj => by
   have hm := List.getElem_mem hj
   have := T.aT hm
   have ub := c0 t.k j
   exact ih _ hm (by omega) (g3 _ hm) _ (by omega) (by omega)) (by omega) t.kids.length n 0 (by omega) (by omega)
  simpa using this
 have e : shT a t c = .mk t.k (if t.k = 1 ∧ c ≤ t.n then t.n + a else t.n) (shL a t.k 0 t.kids c) := by cases t; rfl
 simp (disch := omega) only [wrap64, key, au, e]
 by_cases hk : t.k = 1 <;> by_cases hc : c ≤ t.n <;> simp [hk, hc]
theorem lO (n : Nat) (u : T) (x d : Int) (k n0 : Int) (ts : List T) (z1 z2 : Int) (l : List T) (k1 n1 : Int) (hl : ts.length ≤ 1000000) (hx : 0 ≤ x ∧ x ≤ 1000000) (hd : 0 ≤ d ∧ d ≤ 1000000)
   (h : ∀ (j : Nat) (hj : j < ts.length), FF n 133 [tm ts[j], nt (x + under k j), tm u, nt (d + under k j)] [] = some ([tm (sbT u ts[j] (x + under k j) (d + under k j))], [])) (hn : 2 ≤ n) :
   ∀ g m (i : Nat), g < m → i + g = ts.length → aI n m x d i k n0 ts u.k u.n u.kids z1 z2 l k1 n1 ((sbL u k 0 ts x d).take i) = some ([tm (.mk k1 n1 (sbL u k 0 ts x d))], [])
 | g, 0, i, hg, _ => by omega
 | 0, m + 1, i, _, hi => by
  rw [dE]
  simp only [au, if_neg (show ¬ (i : Int) < ts.length by omega), List.take_of_length_le (show (sbL u k 0 ts x d).length ≤ i by rw [tV]; omega)]; rfl
 | g + 1, m + 1, i, hg, hi => by
  have hlt : i < ts.length := by omega
  have ub := c0 k i
  have ht : ((sbL u k 0 ts x d).take i).length = i := by rw [List.length_take, tV]; omega
  rw [dE]; simp (disch := omega) only [evt, au, Int.toNat_natCast, fC, wrap64, aK, List.length_append, List.length_cons, List.length_nil, if_pos (show (i : Int) < ts.length by omega), if_pos (show 0 ≤ (i : Int) by omega), List.getElem?_eq_getElem hlt, sg, h i hlt, ht, Ek hlt]
  exact lO n u x d k n0 ts z1 z2 l k1 n1 hl hx hd h hn g m (i + 1) (by omega) (by omega)
theorem sL (u : T) (hu : gdB u = true) (hus : u.size ≤ 1000) (t : T) : ∀ {n : Nat}, t.size + u.size + 10 ≤ n → gdB t = true → ∀ x d : Int, 0 ≤ x → x + t.size ≤ 100000 → 0 ≤ d → d + t.size ≤ 1000 → FF n 133 [tm t, nt x, tm u, nt d] [] = some ([tm (sbT u t x d)], []) := by
 induction t using T.ind with | h t ih =>
 intro n hn hg x d h0 h1 h2 h3
 have hsz := T.size_eq t
 have hl := T.bw t.kids
 obtain ⟨n, rfl⟩ := af (show 0 < n by omega)
 obtain ⟨g0, g1, g2, g3⟩ := nV hg
 rw [oR]
 have key : ∀ k1 n1, aI n n x d 0 t.k t.n t.kids u.k u.n u.kids 0 0 [] k1 n1 [] = some ([tm (.mk k1 n1 (sbL u t.k 0 t.kids x d))], []) := by
  intro k1 n1
  have := lO n u x d t.k t.n t.kids 0 0 [] k1 n1 (by omega) ⟨h0, by omega⟩ ⟨h2, by omega⟩ (fun j hj => by
   have hm := List.getElem_mem hj
   have := T.aT hm
   have ub := c0 t.k j
   exact ih _ hm (by omega) (g3 _ hm) _ _ (by omega) (by omega) (by omega) (by omega)) (by omega) t.kids.length n 0 (by omega) (by omega)
  simpa using this
 have e : sbT u t x d = if t.k = 1 ∧ t.n = x then shT d u 0 else .mk t.k (if t.k = 1 ∧ x < t.n then t.n - 1 else t.n) (sbL u t.k 0 t.kids x d) := by cases t; rfl
 have hs := sG d (by omega) u (n := n) (by omega) hu 0 (by omega) (by omega)
 have w := wrap64 (a := t.n - 1) (by omega)
 simp (disch := omega) only [w, key, au, e, hs, evt]
 by_cases hk : t.k = 1
 ·by_cases hc : t.n = x
  ·simp [hk, hc]
  ·by_cases hc2 : x < t.n <;> simp [hk, hc, hc2]
 ·simp [hk]
theorem Cr {n : Nat} (hn : 2 ≤ n) (v b c a : Int) (ok : Bool) (hv : 0 ≤ v ∧ v ≤ 20) (hb : 0 ≤ b ∧ b ≤ 1000000) (hc : 0 ≤ c ∧ c ≤ 1000000) (ha : -1000 ≤ a ∧ a ≤ 1000) :
   FF n 104 [nt v, nt b, .one (.ptr 0 0), .one (.ptr 1 0), .one (.ptr 2 0)] [.cells [.int .i64 c], .cells [.int .i64 a], .cells [.bool ok]] =
    some ([tm (.mk 1 (if c + b ≤ v then v + a else v) [])], [.cells [.int .i64 c], .cells [.int .i64 a], .cells [.bool (ok && (if c + b ≤ v then decide (c + b ≤ v + a) && decide (v + a ≤ 20) else true))]]) := by
 obtain ⟨n, rfl⟩ := af (show 0 < n by omega)
 rw [pd]
 simp (disch := omega) only [wrap64, kU, evt, au]
 have e1 : (c ≤ v - b) = (c + b ≤ v) := by apply propext; omega
 have e2 : (c ≤ v + a - b) = (c + b ≤ v + a) := by apply propext; omega
 simp only [e1, e2]
 by_cases h1 : c + b ≤ v
 ·cases ok
  ·simp [h1, cT, cQ, ay]
  ·by_cases h2 : c + b ≤ v + a <;> simp [h1, h2, cT, cQ, ay]
 ·simp [h1, cT, cQ, ay]
theorem iz (n : Nat) (b c a : Int) (k n0 : Int) (ts : List T) (l0 : List T) (z1 z2 : Int) (l : List T) (k1 n1 : Int) (hl : ts.length ≤ 1000000) (hb : 0 ≤ b ∧ b ≤ 1000000)
   (h : ∀ (j : Nat) (hj : j < ts.length) (ok : Bool), FF n 103 [tm ts[j], nt (b + under k j), .one (.fn 104 [0, 1, 2])] [.cells [.int .i64 c], .cells [.int .i64 a], .cells [.bool ok]] =
    some ([tm (shT a ts[j] (c + b + under k j))], [.cells [.int .i64 c], .cells [.int .i64 a], .cells [.bool (ok && okS a ts[j] (c + b + under k j))]])) (hn : 2 ≤ n) :
   ∀ g m (i : Nat) (ok : Bool), g < m → i + g = ts.length → a8 n m b ts ts.length i c a ok k n0 l0 z1 z2 l k1 n1 ((shL a k 0 ts (c + b)).take i) =
    some ([tm (.mk k1 n1 (shL a k 0 ts (c + b)))], [.cells [.int .i64 c], .cells [.int .i64 a], .cells [.bool (ok && Dx a k i (ts.drop i) (c + b))]])
 | g, 0, i, ok, hg, _ => by omega
 | 0, m + 1, i, ok, _, hi => by
  rw [bQ, List.drop_of_length_le (by omega)]
  simp only [au, if_neg (show ¬ (i : Int) < ts.length by omega), List.take_of_length_le (show (shL a k 0 ts (c + b)).length ≤ i by rw [nY]; omega), Dx, Bool.and_true]; rfl
 | g + 1, m + 1, i, ok, hg, hi => by
  have hlt : i < ts.length := by omega
  have ub := c0 k i
  have ht : ((shL a k 0 ts (c + b)).take i).length = i := by rw [List.length_take, nY]; omega
  rw [List.drop_eq_getElem_cons hlt, Dx]
  rw [bQ]; simp (disch := omega) only [evt, au, Int.toNat_natCast, fC, wrap64, aK, List.length_append, List.length_cons, List.length_nil, if_pos (show (i : Int) < ts.length by omega), if_pos (show 0 ≤ (i : Int) by omega), List.getElem?_eq_getElem hlt, qQ, h i hlt, ht, zo hlt]
  rw [iz n b c a k n0 ts l0 z1 z2 l k1 n1 hl hb h hn g m (i + 1) _ (by omega) (by omega), Bool.and_assoc]
theorem sM (c a : Int) (hc : 0 ≤ c ∧ c ≤ 1000) (ha : -1000 ≤ a ∧ a ≤ 1000) (t : T) : ∀ {n : Nat}, t.size + 5 ≤ n → gdB t = true → ∀ b : Int, 0 ≤ b → b + t.size ≤ 100000 → ∀ ok : Bool,
   FF n 103 [tm t, nt b, .one (.fn 104 [0, 1, 2])] [.cells [.int .i64 c], .cells [.int .i64 a], .cells [.bool ok]] =
    some ([tm (shT a t (c + b))], [.cells [.int .i64 c], .cells [.int .i64 a], .cells [.bool (ok && okS a t (c + b))]]) := by
 induction t using T.ind with | h t ih =>
 intro n hn hg b h0 h1 ok
 have hsz := T.size_eq t
 have hl := T.bw t.kids
 obtain ⟨n, rfl⟩ := af (show 0 < n by omega)
 obtain ⟨g0, g1, g2, g3⟩ := nV hg
 rw [fL]
 have e : shT a t (c + b) = .mk t.k (if t.k = 1 ∧ c + b ≤ t.n then t.n + a else t.n) (shL a t.k 0 t.kids (c + b)) := by cases t; rfl
 have e2 : okS a t (c + b) = if t.k = 1 then (if c + b ≤ t.n then decide (c + b ≤ t.n + a) && decide (t.n + a ≤ 20) else true) else Dx a t.k 0 t.kids (c + b) := by cases t; rfl
 by_cases hk : t.k = 1
 ·simp (disch := omega) only [Cr, evt, au, if_pos hk, e, e2]
  rw [g2 hk, hk]; simp [shL, cT, cQ, ay]
 ·have := iz n b c a t.k t.n t.kids t.kids 0 0 [] t.k t.n (by omega) ⟨h0, by omega⟩ (fun j hj ok => by
    have hm := List.getElem_mem hj
    have := T.aT hm
    have ub := c0 t.k j
    have := ih _ hm (n := n) (by omega) (g3 _ hm) (b + under t.k j) (by omega) (by omega) ok
    rwa [← Int.add_assoc] at this) (by omega) t.kids.length n 0 ok (by omega) (by omega)
  simp only [au, if_neg hk, e, e2, hk, false_and, if_false]
  simpa using this
def shR (a : Int) (t : T) (c : Int) : T := if ah (shT a t c) then shT a t c else .mk 0 0 []
theorem rL {n : Nat} {t : T} {a c : Int} (hn : t.size + 10 ≤ n) (hg : gdB t = true) (hs : t.size ≤ 1000) (ha : 0 ≤ a ∧ a ≤ 1000) (hc : 0 ≤ c ∧ c ≤ 1000) :
   FF n 80 [tm t, nt a, nt c] [] = some ([tm (shR a t c), bl (ah (shT a t c))], []) := by
 obtain ⟨n, rfl⟩ := af (show 0 < n by omega)
 have h1 := sM c a hc (by omega) t (n := n) (by omega) hg 0 (by omega) (by omega) true
 rw [Int.add_zero, Bool.true_and] at h1
 have h2 := wu (n := n) (t := shT a t c) (by rw [kE]; omega)
 rw [ua, h1]
 simp only [evt]
 have hv := uz ha.1 t c
 cases hk : okS a t c with
 | false =>
  have : ah (shT a t c) = false := by
   cases hvv : ah (shT a t c) with
   | false => rfl
   | true => rw [hv hvv] at hk; cases hk
  simp [shR, this, cT, cQ, ay]
 | true =>
  simp only [Bool.not_true, cond_false, h2, evt, shR]
theorem CN {n : Nat} {u : T} (hn : u.size + 12 ≤ n) (hg : gdB u = true) (hs : u.size ≤ 1000) (v b x : Int) (ok : Bool) (hv : 0 ≤ v ∧ v ≤ 20) (hb : 0 ≤ b ∧ b ≤ 1000) (hx : 0 ≤ x ∧ x ≤ 1000) :
   FF n 106 [nt v, nt b, .one (.ptr 0 0), .one (.ptr 1 0), .one (.ptr 2 0)] [.cells [.int .i64 x], .cells [.int .i64 u.k, .int .i64 u.n, .fr (.ts u.kids)], .cells [.bool ok]] =
    some ([tm (if v = x + b then shR b u 0 else .mk 1 (if x + b < v then v - 1 else v) [])], [.cells [.int .i64 x], .cells [.int .i64 u.k, .int .i64 u.n, .fr (.ts u.kids)], .cells [.bool (ok && (if v = x + b then ah (shT b u 0) else true))]]) := by
 obtain ⟨n, rfl⟩ := af (show 0 < n by omega)
 rw [oW]
 have h1 := rL (n := n) (t := u) (a := b) (c := 0) (by omega) hg hs hb (by omega)
 simp (disch := omega) only [wrap64, kU, h1, evt, au]
 have e1 : (v - b = x) = (v = x + b) := by apply propext; omega
 have e2 : (x < v - b) = (x + b < v) := by apply propext; omega
 simp only [e1, e2]
 by_cases h1 : v = x + b
 ·cases ok <;> simp [h1]
 ·by_cases h2 : x + b < v <;> simp [h1, h2, cT, cQ, ay]
mutual
def sbX (u : T) : T → Int → Int → T
 | .mk k n ts, x, d => if k = 1 then (if n = x then shR d u 0 else .mk 1 (if x < n then n - 1 else n) []) else .mk k n (uH u k 0 ts x d)
def uH (u : T) (k : Int) : Nat → List T → Int → Int → List T
 | _, [], _, _ => []
 | i, t :: ts, x, d => sbX u t (x + under k i) (d + under k i) :: uH u k (i + 1) ts x d
end
mutual
theorem DX (u : T) : ∀ (t : T) (x d : Int), gdB t = true → okB u t x d = true → sbX u t x d = sbT u t x d
 | .mk k n ts, x, d, hg, h => by
  rw [okB] at h
  rw [sbX, sbT]
  obtain ⟨_, _, g2, g3⟩ := nV hg
  by_cases hk : k = 1
  ·subst hk
   rw [if_pos rfl] at h
   rw [if_pos rfl]
   by_cases hn : n = x
   ·rw [if_pos hn] at h
    rw [if_pos hn, if_pos ⟨rfl, hn⟩, shR, if_pos h]
   ·have : ts = [] := g2 rfl
    subst this
    simp [hn, sbL]
  ·rw [if_neg hk] at h
   rw [if_neg hk, if_neg (fun hh => hk hh.1), if_neg (fun hh => hk hh.1), Bx u k ts 0 x d g3 h]
theorem Bx (u : T) (k : Int) : ∀ (ts : List T) (i : Nat) (x d : Int), (∀ t ∈ ts, gdB t = true) → Cd u k i ts x d = true → uH u k i ts x d = sbL u k i ts x d
 | [], i, x, d, _, _ => rfl
 | t :: ts, i, x, d, hg, h => by
  rw [Cd, Bool.and_eq_true] at h
  rw [uH, sbL, DX u t _ _ (hg t (List.mem_cons_self ..)) h.1, Bx u k ts (i + 1) x d (fun v hv => hg v (List.mem_cons_of_mem _ hv)) h.2]
end
theorem nL (u : T) (k : Int) : ∀ (ts : List T) (i : Nat) (x d : Int), (uH u k i ts x d).length = ts.length
 | [], i, x, d => rfl
 | t :: ts, i, x, d => by rw [uH, List.length_cons, List.length_cons, nL u k ts]
theorem wQ (u : T) (k : Int) : ∀ (ts : List T) (i j : Nat) (x d : Int) (h : j < ts.length), (uH u k i ts x d)[j]'(by rw [nL]; exact h) = sbX u ts[j] (x + under k (i + j)) (d + under k (i + j))
 | t :: ts, i, 0, x, d, h => rfl
 | t :: ts, i, j + 1, x, d, h => by
  have := wQ u k ts (i + 1) j x d (by simpa using h)
  simp only [uH, List.getElem_cons_succ]
  rw [this, show i + 1 + j = i + (j + 1) by omega]
theorem CU {u : T} {k : Int} {ts : List T} {x d : Int} {i : Nat} (h : i < ts.length) : (uH u k 0 ts x d).take i ++ [sbX u ts[i] (x + under k i) (d + under k i)] = (uH u k 0 ts x d).take (i + 1) := by
 rw [← eJ (l := uH u k 0 ts x d) (i := i) (by rw [nL]; exact h), wQ u k ts 0 i x d h, Nat.zero_add]
theorem iE (n : Nat) (u : T) (b x : Int) (k n0 : Int) (ts : List T) (l0 : List T) (z1 z2 : Int) (l : List T) (k1 n1 : Int) (hl : ts.length ≤ 1000000) (hb : 0 ≤ b ∧ b ≤ 1000000)
   (h : ∀ (j : Nat) (hj : j < ts.length) (ok : Bool), FF n 103 [tm ts[j], nt (b + under k j), .one (.fn 106 [0, 1, 2])] [.cells [.int .i64 x], .cells [.int .i64 u.k, .int .i64 u.n, .fr (.ts u.kids)], .cells [.bool ok]] =
    some ([tm (sbX u ts[j] (x + b + under k j) (b + under k j))], [.cells [.int .i64 x], .cells [.int .i64 u.k, .int .i64 u.n, .fr (.ts u.kids)], .cells [.bool (ok && okB u ts[j] (x + b + under k j) (b + under k j))]])) (hn : 2 ≤ n) :
   ∀ g m (i : Nat) (ok : Bool), g < m → i + g = ts.length → aZ n m b ts ts.length i x u.k u.n u.kids ok k n0 l0 z1 z2 l k1 n1 ((uH u k 0 ts (x + b) b).take i) =
    some ([tm (.mk k1 n1 (uH u k 0 ts (x + b) b))], [.cells [.int .i64 x], .cells [.int .i64 u.k, .int .i64 u.n, .fr (.ts u.kids)], .cells [.bool (ok && Cd u k i (ts.drop i) (x + b) b)]])
 | g, 0, i, ok, hg, _ => by omega
 | 0, m + 1, i, ok, _, hi => by
  rw [bM, List.drop_of_length_le (by omega)]
  simp only [au, if_neg (show ¬ (i : Int) < ts.length by omega), List.take_of_length_le (show (uH u k 0 ts (x + b) b).length ≤ i by rw [nL]; omega), Cd, Bool.and_true]; rfl
 | g + 1, m + 1, i, ok, hg, hi => by
  have hlt : i < ts.length := by omega
  have ub := c0 k i
  have ht : ((uH u k 0 ts (x + b) b).take i).length = i := by rw [List.length_take, nL]; omega
  rw [List.drop_eq_getElem_cons hlt, Cd]
  rw [bM]; simp (disch := omega) only [evt, au, Int.toNat_natCast, fC, wrap64, aK, List.length_append, List.length_cons, List.length_nil, if_pos (show (i : Int) < ts.length by omega), if_pos (show 0 ≤ (i : Int) by omega), List.getElem?_eq_getElem hlt, qQ, h i hlt, ht, CU hlt]
  rw [iE n u b x k n0 ts l0 z1 z2 l k1 n1 hl hb h hn g m (i + 1) _ (by omega) (by omega), Bool.and_assoc]
theorem r6 (u : T) (hu : gdB u = true) (hus : u.size ≤ 1000) (x : Int) (hx : 0 ≤ x ∧ x ≤ 1000) (t : T) : ∀ {n : Nat}, t.size + u.size + 15 ≤ n → gdB t = true → ∀ b : Int, 0 ≤ b → b + t.size ≤ 1000 → ∀ ok : Bool,
   FF n 103 [tm t, nt b, .one (.fn 106 [0, 1, 2])] [.cells [.int .i64 x], .cells [.int .i64 u.k, .int .i64 u.n, .fr (.ts u.kids)], .cells [.bool ok]] =
    some ([tm (sbX u t (x + b) b)], [.cells [.int .i64 x], .cells [.int .i64 u.k, .int .i64 u.n, .fr (.ts u.kids)], .cells [.bool (ok && okB u t (x + b) b)]]) := by
 induction t using T.ind with | h t ih =>
 intro n hn hg b h0 h1 ok
 have hsz := T.size_eq t
 have hl := T.bw t.kids
 obtain ⟨n, rfl⟩ := af (show 0 < n by omega)
 obtain ⟨g0, g1, g2, g3⟩ := nV hg
 rw [fG]
 have e : sbX u t (x + b) b = if t.k = 1 then (if t.n = x + b then shR b u 0 else .mk 1 (if x + b < t.n then t.n - 1 else t.n) []) else .mk t.k t.n (uH u t.k 0 t.kids (x + b) b) := by cases t; rfl
 have e2 : okB u t (x + b) b = if t.k = 1 then (if t.n = x + b then ah (shT b u 0) else true) else Cd u t.k 0 t.kids (x + b) b := by cases t; rfl
 by_cases hk : t.k = 1
 ·simp (disch := first | omega | assumption) only [CN, evt, au, if_pos hk, e, e2]
 ·have := iE n u b x t.k t.n t.kids t.kids 0 0 [] t.k t.n (by omega) ⟨h0, by omega⟩ (fun j hj ok => by
    have hm := List.getElem_mem hj
    have := T.aT hm
    have ub := c0 t.k j
    have := ih _ hm (n := n) (by omega) (g3 _ hm) (b + under t.k j) (by omega) (by omega) ok
    rwa [← Int.add_assoc] at this) (by omega) t.kids.length n 0 ok (by omega) (by omega)
  simp only [au, if_neg hk, e, e2]
  simpa using this
def sbR (u t : T) (x : Int) : T := if ah (sbT u t x 0) then sbT u t x 0 else .mk 0 0 []
theorem AZ {n : Nat} {t u : T} {x : Int} (hn : 2000000 ≤ n) (hg : gdB t = true) (hs : t.size ≤ 1000) (hu : gdB u = true) (hus : u.size ≤ 1000) (hx : 0 ≤ x ∧ x ≤ 1000) :
   FF n 88 [tm t, nt x, tm u] [] = some ([tm (sbR u t x), bl (ah (sbT u t x 0))], []) := by
 obtain ⟨n, rfl⟩ := af (show 0 < n by omega)
 have h1 := r6 u hu hus x hx t (n := n) (by omega) hg 0 (by omega) (by omega) true
 rw [Int.add_zero, Bool.true_and] at h1
 have hz := qF u t x 0
 have hz2 : t.size * u.size ≤ 1000 * 1000 := Nat.mul_le_mul hs hus
 rw [uv, h1]
 simp only [evt]
 have hv := ta u t x 0
 cases hk : okB u t x 0 with
 | false =>
  have : ah (sbT u t x 0) = false := by
   cases hvv : ah (sbT u t x 0) with
   | false => rfl
   | true => rw [hv hvv] at hk; cases hk
  simp [sbR, this, cT, cQ, ay]
 | true =>
  rw [DX u t x 0 hg hk]
  have h2 := wu (n := n) (t := sbT u t x 0) (by omega)
  simp only [Bool.not_true, cond_false, h2, evt, sbR]
end Go.Proofs.Ytajlknlnmmbfcaa
end
section
namespace Go.Proofs.Ytajlknlnmmbfcaa
open Go Go.Ab Go.Dk
theorem xk (n : Nat) (ts us : List T) (hl : ts.length ≤ 4000000) (he : ts.length = us.length) (h : ∀ t ∈ ts, ∀ u, FF n 15 [tm t, tm u] [] = some ([bl (T.beq t u)], [])) :
   ∀ g m (i : Nat), g < m → i + g = ts.length → aY n m us ts ts.length i = some ([bl (T.ox (ts.drop i) (us.drop i))], [])
 | g, 0, i, hg, _ => by omega
 | 0, m + 1, i, _, hi => by
  rw [bL, List.drop_of_length_le (by omega), List.drop_of_length_le (by omega)]
  simp only [au, if_neg (show ¬ (i : Int) < ts.length by omega), T.ox]
 | g + 1, m + 1, i, hg, hi => by
  have hlt : i < ts.length := by omega
  have hlt2 : i < us.length := by omega
  rw [List.drop_eq_getElem_cons hlt, List.drop_eq_getElem_cons hlt2, T.ox]
  rw [bL]; simp (disch := omega) only [evt, au, Int.toNat_natCast, fC, wrap64, aK, List.length_append, List.length_cons, List.length_nil, if_pos (show (i : Int) < ts.length by omega), if_pos (show 0 ≤ (i : Int) by omega), List.getElem?_eq_getElem hlt, List.getElem?_eq_getElem hlt2, h _ (List.getElem_mem hlt)]
  cases hs : T.beq ts[i] us[i] with
  | false => simp
  | true =>
   simp only [Bool.not_true, cond_false, Bool.true_and]
   exact xk n ts us hl he h g m (i + 1) (by omega) (by omega)
theorem iQ (t : T) : ∀ {n : Nat}, 2 * t.size + 5 ≤ n → t.size ≤ 4000000 → ∀ u : T, FF n 15 [tm t, tm u] [] = some ([bl (T.beq t u)], []) := by
 induction t using T.ind with | h t ih =>
 intro n hn hz u
 have hsz := T.size_eq t
 have hl := T.bw t.kids
 obtain ⟨n, rfl⟩ := af (show 0 < n by omega)
 rw [m4, T.beq_eq]
 by_cases c1 : t.k = u.k
 ·by_cases c2 : t.n = u.n
  ·obtain ⟨n, rfl⟩ := af (show 0 < n by omega)
   rw [dX]
   by_cases c3 : t.kids.length = u.kids.length
   ·have := xk n t.kids u.kids (by omega) c3 (fun v hv w => ih v hv (by have := T.aT hv; omega) (by have := T.aT hv; omega) w) t.kids.length n 0 (by omega) (by omega)
    rw [List.drop_zero, List.drop_zero] at this
    simp only [decide_eq_true c1, decide_eq_true c2, decide_eq_true (show (t.kids.length : Int) = u.kids.length by omega), Bool.not_true, cond_false, cond_true, Bool.true_and]
    rw [show (0 : Int) = ((0 : Nat) : Int) from rfl, this]
    simp only [evs]
   ·simp only [decide_eq_true c1, decide_eq_true c2, decide_eq_false (show ¬ (t.kids.length : Int) = u.kids.length by omega), Bool.not_true, Bool.not_false, cond_false, cond_true, Bool.true_and, mI c3, evs]
  ·simp [c1, c2]
 ·simp [c1]
theorem ch {t : T} {i : Nat} (h : i < t.kids.length) : t.kids[i]? = some (kd t i) := by
 unfold kd; simp [List.getD, h]
theorem bO {t : T} (hv : ah t = true) {c : Nat} (h : opsOf t.k = c) : t.kids.length = c := by
 have := (iN hv).1
 omega
theorem sa {n : Nat} (hn : 1 ≤ n) {t : T} (hv : ah t = true) : FF n 122 [tm t] [] = some ([nt (bz t)], []) ∧ FF n 146 [tm t] [] = some ([nt (bz t)], []) := by
 obtain ⟨n, rfl⟩ := af (show 0 < n by omega)
 rw [uG, o9]
 simp only [au, Int.toNat_zero, Int.reduceToNat]
 unfold bz
 by_cases k5 : t.k = 5
 ·have hl := bO hv (c := 2) (by rw [k5]; rfl)
  simp only [k5, if_true, ch (show 0 < t.kids.length by omega), Option.bind_some]
  constructor <;> split <;> rfl
 by_cases k9 : t.k = 9
 ·have hl := bO hv (c := 4) (by rw [k9]; rfl)
  simp only [k9, if_true, ch (show 3 < t.kids.length by omega), Option.bind_some, show ¬ (9 : Int) = 5 by decide, if_false]
  constructor <;> (split; rfl; split <;> rfl)
 by_cases k12 : t.k = 12
 ·have hl := bO hv (c := 3) (by rw [k12]; rfl)
  simp only [k12, if_true, ch (show 1 < t.kids.length by omega), Option.bind_some, show ¬ (12 : Int) = 5 by decide, show ¬ (12 : Int) = 9 by decide, if_false]
  constructor <;> split <;> rfl
 by_cases k15 : t.k = 15
 ·have hl := bO hv (c := 1) (by rw [k15]; rfl)
  simp only [k15, if_true, ch (show 0 < t.kids.length by omega), Option.bind_some, show ¬ (15 : Int) = 5 by decide, show ¬ (15 : Int) = 9 by decide, show ¬ (15 : Int) = 12 by decide, if_false]
  constructor <;> split <;> rfl
 by_cases k16 : t.k = 16
 ·have hl := bO hv (c := 1) (by rw [k16]; rfl)
  simp only [k16, if_true, ch (show 0 < t.kids.length by omega), Option.bind_some, show ¬ (16 : Int) = 5 by decide, show ¬ (16 : Int) = 9 by decide, show ¬ (16 : Int) = 12 by decide, show ¬ (16 : Int) = 15 by decide, if_false]
  constructor <;> split <;> rfl
 simp [k5, k9, k12, k15, k16]
theorem vW {n : Nat} (hn : 1 ≤ n) {t : T} (hv : ah t = true) : FF n 122 [tm t] [] = some ([nt (bz t)], []) := (sa hn hv).1
theorem ki {n : Nat} (hn : 1 ≤ n) {t : T} (hv : ah t = true) : FF n 146 [tm t] [] = some ([nt (bz t)], []) := (sa hn hv).2
theorem cd {t : T} (hv : ah t = true) {i c : Nat} (h : opsOf t.k = c) (hi : i < c) : ah (kd t i) = true := bG hv (jh (by rw [bO hv h]; exact hi))
theorem iT {t : T} (hv : ah t = true) (hr : Rx t) : (ax t).size ≤ 160000 := by
 have hz := ae hv
 have kz : ∀ {i c : Nat}, opsOf t.k = c → i < c → (kd t i).size ≤ 400 := fun h hi => ae (cd hv h hi)
 cases hr with
 | app h h' =>
  rw [fb h]
  have h0 := cd hv (i := 0) (c := 2) (by rw [h]; rfl) (by omega)
  have h1 := ae (cd h0 (i := 1) (c := 2) (by rw [h']; rfl) (by omega))
  have h2 := kz (i := 1) (c := 2) (by rw [h]; rfl) (by omega)
  exact Nat.le_trans (qF _ _ _ _) (Nat.mul_le_mul h1 h2)
 | zero h h' => rw [dj h h']; have := kz (i := 1) (c := 4) (by rw [h]; rfl) (by omega); omega
 | succ h h' =>
  rw [dk h h']
  have h0 := kz (i := 0) (c := 4) (by rw [h]; rfl) (by omega)
  have h1 := kz (i := 1) (c := 4) (by rw [h]; rfl) (by omega)
  have h2 := kz (i := 2) (c := 4) (by rw [h]; rfl) (by omega)
  have h3 := ae (cd (cd hv (i := 3) (c := 4) (by rw [h]; rfl) (by omega)) (i := 0) (c := 1) (by rw [h']; rfl) (by omega))
  simp only [T.size, T.aA]; omega
 | move h h' => rw [dq h]; have := kz (i := 2) (c := 3) (by rw [h]; rfl) (by omega); omega
 | fst h h' => rw [eV h]; have := ae (cd (cd hv (i := 0) (c := 1) (by rw [h]; rfl) (by omega)) (i := 1) (c := 3) (by rw [h']; rfl) (by omega)); omega
 | snd h h' => rw [eT h]; have := ae (cd (cd hv (i := 0) (c := 1) (by rw [h]; rfl) (by omega)) (i := 2) (c := 3) (by rw [h']; rfl) (by omega)); omega
def okT (t : T) : T := if ah t then t else .mk 0 0 []
theorem cX {n : Nat} {t : T} (hn : t.size + 10 ≤ n) (hz : t.size ≤ 4000000) : FF n 34 [tm t] [] = some ([tm t], []) ∧ FF n 51 [tm t] [] = some ([tm (okT t), bl (ah t)], []) :=
 ⟨AA t (by omega) hz, wu (by omega)⟩
theorem pB {n : Nat} (hn : 3000000 ≤ n) {t : T} (hv : ah t = true) (hr : Rx t) : FF n 137 [tm t] [] = some ([tm (okT (ax t)), bl (ah (ax t))], []) := by
 have hcz := iT hv hr
 obtain ⟨n, rfl⟩ := af (show 0 < n by omega)
 rw [oh, vW (by omega) hv]
 have hrx := (mW t).2 hr
 have gk : ∀ {i c : Nat}, opsOf t.k = c → i < c → t.kids[i]? = some (kd t i) := fun h hi => ch (by rw [bO hv h]; exact hi)
 have vk : ∀ {i c : Nat}, opsOf t.k = c → i < c → ah (kd t i) = true := fun h hi => cd hv h hi
 simp only [evt, au, Int.toNat_zero, Int.reduceToNat, Int.toNat_one]
 cases hr with
 | app h h' =>
  have e : bz t = 1 := by simp [bz, h, h']
  have h2 : opsOf t.k = (2 : Nat) := by rw [h]; rfl
  have v0 := vk (i := 0) h2 (by omega)
  have h3 : opsOf (kd t 0).k = (2 : Nat) := by rw [h']; rfl
  have v01 := cd v0 (i := 1) h3 (by omega)
  have v1 := vk (i := 1) h2 (by omega)
  have hs := AZ (n := n) (t := kd (kd t 0) 1) (u := kd t 1) (x := 0) (by omega) (gD v01) (by have := ae v01; omega) (gD v1) (by have := ae v1; omega) (by omega)
  simp only [e, if_true, gk (i := 0) h2 (by omega), gk (i := 1) h2 (by omega), ch (t := kd t 0) (i := 1) (by rw [bO v0 h3]; omega), hs, evt, fb h, sbR, okT]
 | zero h h' =>
  have e : bz t = 2 := by simp [bz, h, h']
  have h2 : opsOf t.k = (4 : Nat) := by rw [h]; rfl
  rw [dj h h'] at hcz ⊢
  have ho := cX (n := n) (t := kd t 1) (by omega) (by omega)
  simp only [e, if_true, gk (i := 1) h2 (by omega), ho, evt, show ¬ (2 : Int) = 1 by decide, if_false]
 | succ h h' =>
  have e : bz t = 3 := by simp [bz, h, h']
  have h2 : opsOf t.k = (4 : Nat) := by rw [h]; rfl
  have v3 := vk (i := 3) h2 (by omega)
  have h3 : opsOf (kd t 3).k = (1 : Nat) := by rw [h']; rfl
  rw [dk h h'] at hcz ⊢
  have ho := cX (n := n) (t := T.mk 5 0 [.mk 5 0 [kd t 2, kd (kd t 3) 0], .mk 9 0 [kd t 0, kd t 1, kd t 2, kd (kd t 3) 0]]) (by omega) (by omega)
  simp (disch := omega) only [e, if_true, gk (i := 0) h2 (by omega), gk (i := 1) h2 (by omega), gk (i := 2) h2 (by omega), gk (i := 3) h2 (by omega), ch (t := kd t 3) (i := 0) (by rw [bO v3 h3]; omega), g7, evt, show ¬ (3 : Int) = 1 by decide, show ¬ (3 : Int) = 2 by decide, if_false]
  have h1 := ho.1
  have h2 := ho.2
  simp only [tm, cT, cQ, ay] at h1 h2
  simp only [h1, h2, evt]
 | move h h' =>
  have e : bz t = 4 := by simp [bz, h, h']
  have h2 : opsOf t.k = (3 : Nat) := by rw [h]; rfl
  rw [dq h] at hcz ⊢
  have ho := cX (n := n) (t := kd t 2) (by omega) (by omega)
  simp only [e, if_true, gk (i := 2) h2 (by omega), ho, evt, show ¬ (4 : Int) = 1 by decide, show ¬ (4 : Int) = 2 by decide, show ¬ (4 : Int) = 3 by decide, if_false]
 | fst h h' =>
  have e : bz t = 5 := by simp [bz, h, h']
  have h2 : opsOf t.k = (1 : Nat) := by rw [h]; rfl
  have v0 := vk (i := 0) h2 (by omega)
  have h3 : opsOf (kd t 0).k = (3 : Nat) := by rw [h']; rfl
  rw [eV h] at hcz ⊢
  have ho := cX (n := n) (t := kd (kd t 0) 1) (by omega) (by omega)
  simp only [e, if_true, gk (i := 0) h2 (by omega), ch (t := kd t 0) (i := 1) (by rw [bO v0 h3]; omega), ho, evt, show ¬ (5 : Int) = 1 by decide, show ¬ (5 : Int) = 2 by decide, show ¬ (5 : Int) = 3 by decide, show ¬ (5 : Int) = 4 by decide, if_false]
 | snd h h' =>
  have e : bz t = 6 := by simp [bz, h, h']
  have h2 : opsOf t.k = (1 : Nat) := by rw [h]; rfl
  have v0 := vk (i := 0) h2 (by omega)
  have h3 : opsOf (kd t 0).k = (3 : Nat) := by rw [h']; rfl
  rw [eT h] at hcz ⊢
  have ho := cX (n := n) (t := kd (kd t 0) 2) (by omega) (by omega)
  simp only [e, if_true, gk (i := 0) h2 (by omega), ch (t := kd t 0) (i := 2) (by rw [bO v0 h3]; omega), ho, evt, show ¬ (6 : Int) = 1 by decide, show ¬ (6 : Int) = 2 by decide, show ¬ (6 : Int) = 3 by decide, show ¬ (6 : Int) = 4 by decide, show ¬ (6 : Int) = 5 by decide, if_false]
theorem ia {n : Nat} (hn : 3000000 ≤ n) {t : T} (hv : ah t = true) (hr : Rx t) : FF n 147 [tm t] [] = some ([tm (ax t)], []) := by
 obtain ⟨n, rfl⟩ := af (show 0 < n by omega)
 rw [kT, ki (by omega) hv]
 have gk : ∀ {i c : Nat}, opsOf t.k = c → i < c → t.kids[i]? = some (kd t i) := fun h hi => ch (by rw [bO hv h]; exact hi)
 have vk : ∀ {i c : Nat}, opsOf t.k = c → i < c → ah (kd t i) = true := fun h hi => cd hv h hi
 have cp : ∀ {u : T}, ah u = true → FF n 54 [tm u] [] = some (ow u) := fun h => fk _ (by have := ae h; omega) (by have := ae h; omega)
 simp only [evt, au, Int.toNat_zero, Int.reduceToNat, Int.toNat_one]
 cases hr with
 | app h h' =>
  have e : bz t = 1 := by simp [bz, h, h']
  have h2 : opsOf t.k = (2 : Nat) := by rw [h]; rfl
  have v0 := vk (i := 0) h2 (by omega)
  have h3 : opsOf (kd t 0).k = (2 : Nat) := by rw [h']; rfl
  have v01 := cd v0 (i := 1) h3 (by omega)
  have v1 := vk (i := 1) h2 (by omega)
  have z1 := ae v01
  have z2 := ae v1
  have hs := sL (kd t 1) (gD v1) (by omega) (kd (kd t 0) 1) (n := n) (by omega) (gD v01) 0 0 (by omega) (by omega) (by omega) (by omega)
  simp only [e, if_true, gk (i := 0) h2 (by omega), gk (i := 1) h2 (by omega), ch (t := kd t 0) (i := 1) (by rw [bO v0 h3]; omega), hs, evt, fb h]
 | zero h h' =>
  have e : bz t = 2 := by simp [bz, h, h']
  have h2 : opsOf t.k = (4 : Nat) := by rw [h]; rfl
  rw [dj h h']
  simp only [e, if_true, gk (i := 1) h2 (by omega), cp (vk (i := 1) h2 (by omega)), evt, show ¬ (2 : Int) = 1 by decide, if_false]
 | succ h h' =>
  have e : bz t = 3 := by simp [bz, h, h']
  have h2 : opsOf t.k = (4 : Nat) := by rw [h]; rfl
  have v3 := vk (i := 3) h2 (by omega)
  have h3 : opsOf (kd t 3).k = (1 : Nat) := by rw [h']; rfl
  rw [dk h h']
  simp (disch := simp) only [e, if_true, gk (i := 0) h2 (by omega), gk (i := 1) h2 (by omega), gk (i := 2) h2 (by omega), gk (i := 3) h2 (by omega), ch (t := kd t 3) (i := 0) (by rw [bO v3 h3]; omega),
   cp (vk (i := 0) h2 (by omega)), cp (vk (i := 1) h2 (by omega)), cp (vk (i := 2) h2 (by omega)), cp (cd v3 (i := 0) h3 (by omega)), bA (show 1 ≤ n by omega), evt, show ¬ (3 : Int) = 1 by decide, show ¬ (3 : Int) = 2 by decide, if_false]
  rfl
 | move h h' =>
  have e : bz t = 4 := by simp [bz, h, h']
  have h2 : opsOf t.k = (3 : Nat) := by rw [h]; rfl
  rw [dq h]
  simp only [e, if_true, gk (i := 2) h2 (by omega), cp (vk (i := 2) h2 (by omega)), evt, show ¬ (4 : Int) = 1 by decide, show ¬ (4 : Int) = 2 by decide, show ¬ (4 : Int) = 3 by decide, if_false]
 | fst h h' =>
  have e : bz t = 5 := by simp [bz, h, h']
  have h2 : opsOf t.k = (1 : Nat) := by rw [h]; rfl
  have v0 := vk (i := 0) h2 (by omega)
  have h3 : opsOf (kd t 0).k = (3 : Nat) := by rw [h']; rfl
  rw [eV h]
  simp only [e, if_true, gk (i := 0) h2 (by omega), ch (t := kd t 0) (i := 1) (by rw [bO v0 h3]; omega), cp (cd v0 (i := 1) h3 (by omega)), evt, show ¬ (5 : Int) = 1 by decide, show ¬ (5 : Int) = 2 by decide, show ¬ (5 : Int) = 3 by decide, show ¬ (5 : Int) = 4 by decide, if_false]
 | snd h h' =>
  have e : bz t = 6 := by simp [bz, h, h']
  have h2 : opsOf t.k = (1 : Nat) := by rw [h]; rfl
  have v0 := vk (i := 0) h2 (by omega)
  have h3 : opsOf (kd t 0).k = (3 : Nat) := by rw [h']; rfl
  rw [eT h]
  simp only [e, if_true, gk (i := 0) h2 (by omega), ch (t := kd t 0) (i := 2) (by rw [bO v0 h3]; omega), cp (cd v0 (i := 2) h3 (by omega)), evt, show ¬ (6 : Int) = 1 by decide, show ¬ (6 : Int) = 2 by decide, show ¬ (6 : Int) = 3 by decide, show ¬ (6 : Int) = 4 by decide, show ¬ (6 : Int) = 5 by decide, if_false]
abbrev ins (w : List Nat) : List Int := w.map fun i : Nat => (i : Int)
theorem Bi {t : T} : (bz t = 0) ↔ ¬ Rx t := by rw [← mW]; simp
theorem wW (n : Nat) (ts : List T) (hl : ts.length ≤ 4000000) (h : ∀ t ∈ ts, FF n 109 [tm t] [] = some ([.one (.fr (.is (ins ((wyT false t).getD [])))), bl (wyT false t).isSome], []))
   (hz : ∀ t ∈ ts, ∀ w, wyT false t = some w → w.length ≤ 4000000) :
   ∀ g m (i : Nat), g < m → i + g = ts.length → eI n m ts ts.length i = some ([.one (.fr (.is (ins ((wyL false i (ts.drop i)).getD [])))), bl (wyL false i (ts.drop i)).isSome], [])
 | g, 0, i, hg, _ => by omega
 | 0, m + 1, i, _, hi => by
  rw [gr, List.drop_of_length_le (by omega)]
  simp only [au, if_neg (show ¬ (i : Int) < ts.length by omega), wyL]; rfl
 | g + 1, m + 1, i, hg, hi => by
  have hlt : i < ts.length := by omega
  have hm := List.getElem_mem hlt
  rw [List.drop_eq_getElem_cons hlt, wyL]
  rw [gr]
  simp (disch := omega) only [au, Int.toNat_natCast, fC, wrap64, if_pos (show (i : Int) < ts.length by omega), if_pos (show 0 ≤ (i : Int) by omega), List.getElem?_eq_getElem hlt, Option.bind_some]
  rw [h _ hm]
  simp only [evs]
  cases hs : wyT false ts[i] with
  | none =>
   simp only [Option.isSome_none, cond_false]
   exact wW n ts hl h hz g m (i + 1) (by omega) (by omega)
  | some w =>
   have := hz _ hm w hs
   simp only [Option.isSome_some, cond_true, Option.getD_some, aK (show ([(i : Int)] ++ ins w).length ≤ 1099511627776 by simp [ins]; omega)]
   rfl
mutual
theorem Bv {inn : Bool} : ∀ {t : T} {w : List Nat}, wyT inn t = some w → w.length ≤ t.size
 | .mk k n ts, w, h => by
  rw [wyT] at h
  rw [T.size]
  split at h
  ·obtain rfl := Option.some.inj h; simp
  ·split at h
   ·rename_i w' hw
    obtain rfl := Option.some.inj h
    have := BH hw; omega
   ·split at h
    ·obtain rfl := Option.some.inj h; simp
    ·cases h
theorem BH {inn : Bool} : ∀ {ts : List T} {j : Nat} {w : List Nat}, wyL inn j ts = some w → w.length ≤ 1 + T.aA ts
 | [], j, w, h => by cases h
 | t :: ts, j, w, h => by
  rw [wyL] at h
  rw [T.aA]
  split at h
  ·rename_i v hv
   obtain rfl := Option.some.inj h
   have := Bv hv
   simp only [List.length_cons]; omega
  ·have := BH h; omega
end
theorem E3 (t : T) : ∀ {n : Nat}, t.size + 5 ≤ n → ah t = true → FF n 109 [tm t] [] = some ([.one (.fr (.is (ins ((wyT false t).getD [])))), bl (wyT false t).isSome], []) := by
 induction t using T.ind with | h t ih =>
 intro n hn hv
 have hsz := T.size_eq t
 have hz := ae hv
 have hl := T.bw t.kids
 obtain ⟨n, rfl⟩ := af (show 0 < n by omega)
 have e : wyT false t = if Rx t then some [] else wyL false 0 t.kids := by
  cases t with | mk k n ts =>
  rw [wyT]
  simp only [true_and, T.kids]
  split
  ·rfl
  ·cases wyL false 0 ts <;> simp
 rw [sK, vW (by omega) hv, e]
 simp only [evs, iu, Bi]
 by_cases hr : Rx t
 ·simp [hr]
 ·simp only [hr, not_false_eq_true, if_true, if_false]
  have := wW n t.kids (by omega) (fun u hu => ih u hu (by have := T.aT hu; omega) (bG hv hu)) (fun u hu w hw => by have := Bv hw; have := ae (bG hv hu); omega) t.kids.length n 0 (by omega) (by omega)
  simpa using this
end Go.Proofs.Ytajlknlnmmbfcaa
end
section
namespace Go.Proofs.Ytajlknlnmmbfcaa
open Go Go.Ab Go.Dk
theorem BS {n : Nat} (hn : 1 ≤ n) (l : List T) (hl : l.length ≤ 4000000) : FF n 102 [tms l] [] = some ([.one (.own 0 0)], [.arr Gt (.ts l) 0 false]) := by
 obtain ⟨n, rfl⟩ := af (show 0 < n by omega)
 rw [o5]
 simp (disch := omega) only [List.nil_append, aK, cond_true]
 cases l with
 | nil => exact Aj _
 | cons a l => rfl
theorem A4 (n : Nat) (w : List Nat) (l0 : List T) (hw : w.length ≤ 4000000) : ∀ g m (i : Nat) (t : T), g < m → i + g = w.length → zd t (w.drop i) → eE n m (ins w) (w.length : Int) i t.k t.n t.kids 0 0 l0 = some ([tm (atT t (w.drop i))], [])
 | g, 0, i, t, hg, _, _ => by omega
 | 0, m + 1, i, t, _, hi, _ => by
  rw [gg, List.drop_of_length_le (by omega)]
  simp only [au, if_neg (show ¬ (i : Int) < w.length by omega), atT]
 | g + 1, m + 1, i, t, hg, hi, ho => by
  have hlt : i < w.length := by omega
  rw [List.drop_eq_getElem_cons hlt] at ho ⊢
  have hget : (ins w)[i]? = some ((w[i] : Nat) : Int) := by simp [ins, hlt]
  rw [gg]
  simp (disch := omega) only [au, Int.toNat_natCast, fC, wrap64, if_pos (show (i : Int) < w.length by omega), if_pos (show 0 ≤ (i : Int) by omega), hget, Option.bind_some, if_pos (show 0 ≤ ((w[i] : Nat) : Int) by omega), ch ho.1]
  exact A4 n w l0 hw g m (i + 1) (kd t w[i]) (by omega) (by omega) ho.2
theorem HU {n : Nat} {t : T} {w : List Nat} (hn : w.length + 2 ≤ n) (hw : w.length ≤ 4000000) (ho : zd t w) : FF n 138 [tm t, .one (.fr (.is (ins w)))] [] = some ([tm (atT t w)], []) := by
 obtain ⟨n, rfl⟩ := af (show 0 < n by omega)
 rw [z6]
 have := A4 n w [] hw w.length n 0 t (by omega) (by omega) ho
 simpa [ins] using this
theorem Ef (u : T) : ∀ (w : List Nat) {n : Nat} {t : T}, w.length + 3 ≤ n → t.size ≤ 4000000 → w.length ≤ 4000000 → zd t w → FF n 139 [tm t, .one (.fr (.is (ins w))), tm u] [] = some ([tm (puT t w u)], [])
 | [], n, t, hn, hz, hw, _ => by
  obtain ⟨n, rfl⟩ := af (show 0 < n by omega)
  rw [ph]; rfl
 | i :: w, n, t, hn, hz, hw, ho => by
  obtain ⟨n, rfl⟩ := af (show 0 < n by omega)
  simp only [List.length_cons] at hn hw
  have hsz := T.size_eq t
  have hl := T.bw t.kids
  have hk := T.aT (jh ho.1)
  have h1 := Ef u w (n := n) (t := kd t i) (by omega) (by omega) (by omega) ho.2
  rw [ph, BS (by omega) _ (by omega)]
  have hlen : ((ins (i :: w)).length : Int) = ((w.length + 1 : Nat) : Int) := by simp [ins]
  have hsl : ((ins (i :: w)).take (w.length + 1)).drop (1 : Int).toNat = ins w := by
   show (ins w).take w.length = ins w
   exact List.take_of_length_le (by simp [ins])
  have h0 : (ins (i :: w))[(0 : Int).toNat]? = some (i : Int) := rfl
  simp only [evt, au, hsl, h0, hlen, if_neg (show ¬ ((w.length + 1 : Nat) : Int) = 0 by omega), if_pos (show 0 ≤ (i : Int) by omega), Int.toNat_natCast, ch ho.1, inB, decide_eq_true (show (0 : Int) ≤ 1 by omega), decide_eq_true (show (1 : Int) ≤ ((w.length + 1 : Nat) : Int) by omega), Int.le_refl, h1, if_pos (show (i : Int) < (t.kids.length : Int) by have := ho.1; omega)]
  rfl
theorem j7 {t : T} (h : ah t = true) : okT t = t := if_pos h
theorem Bp {t : T} (h : ah t = false) : okT t = .mk 0 0 [] := if_neg (by simp [h])
theorem tj {n : Nat} (hn : 4000000 ≤ n) {t : T} (hv : ah t = true) {inn : Bool} {w : List Nat} (hw : wyT inn t = some w) {u : T} (hu : stT inn t = some u) :
   FF n 121 [tm t, .one (.fr (.is (ins w)))] [] = some ([tm (okT u), bl (ah u)], []) := by
 obtain ⟨ho, hr, hs⟩ := nI hw
 rw [hs] at hu
 obtain rfl := Option.some.inj hu
 have hz := ae hv
 have hwl := Bv hw
 have va := mr ho hv
 have hcz := iT va hr
 obtain ⟨n, rfl⟩ := af (show 0 < n by omega)
 rw [gl]
 simp only [evt, HU (n := n) (by omega) (by omega) ho, pB (n := n) (by omega) va hr]
 cases hc : ah (ax (atT t w)) with
 | false =>
  have : ah (puT t w (ax (atT t w))) = false := by
   cases hp : ah (puT t w (ax (atT t w))) with
   | false => rfl
   | true => rw [n3 ho hp] at hc; cases hc
  simp only [Bool.not_false, cond_true, this, Bp this]; rfl
 | true =>
  have hp := ml (u := ax (atT t w)) ho
  have hov := cX (n := n) (t := puT t w (ax (atT t w))) (by omega) (by omega)
  simp only [Bool.not_true, cond_false, j7 hc, Ef (ax (atT t w)) w (n := n) (by omega) (by omega) (by omega) ho, evt, hov]
theorem uR {inn : Bool} {t : T} : wyT inn t = none ↔ stT inn t = none := by
 constructor
 ·exact qx
 ·intro h
  cases hw : wyT inn t with
  | none => rfl
  | some w => rw [(nI hw).2.2] at h; cases h
theorem xF (n : Nat) (hn : 5000000 ≤ n) (fuel : Nat) (hf : fuel ≤ 200) (l0 : List T) : ∀ g m (s : Nat) (t : T), g < m → s + g = fuel → ah t = true →
   bp n m (fuel : Int) s t.k t.n t.kids 0 0 l0 = some ([tm (fN false g s t).1, nt ((fN false g s t).2.1 : Int), nt (fN false g s t).2.2], [])
 | g, 0, s, t, hg, _, _ => by omega
 | g, m + 1, s, t, hg, hs, hv => by
  have hz := ae hv
  rw [ec, E3 t (n := n) (by omega) hv]
  simp only [evs]
  cases hw : wyT false t with
  | none =>
   have h0 := uR.1 hw
   have : fN false g s t = (t, s, 0) := by cases g <;> rw [fN, h0]
   rw [this]
   simp only [Option.isSome_none, Bool.not_false, cond_true, AA t (n := n) (by omega) (by omega), evt]
  | some w =>
   have hst := (nI hw).2.2
   simp only [Option.isSome_some, Option.getD_some, Bool.not_true, cond_false, au]
   cases g with
   | zero =>
    rw [if_pos (by omega), fN, hst]; rfl
   | succ g =>
    rw [if_neg (by omega), tj (n := n) (by omega) hv hw hst, fN, hst]
    simp only [evt]
    cases hc : ah (puT t w (ax (atT t w))) with
    | false => rfl
    | true =>
     simp (disch := omega) only [j7 hc, Bool.not_true, cond_false, if_true, wrap64, fC]
     exact xF n hn fuel hf l0 g m (s + 1) _ (by omega) (by omega) hc
def Ci (inn : Bool) (t : T) (fuel : Int) : T × Nat × Int := if ah t = true ∧ 0 ≤ fuel ∧ fuel ≤ 200 then fN inn fuel.toNat 0 t else (.mk 0 0 [], 0, 3)
theorem oU {n : Nat} {t : T} {fuel : Int} (hn : 6000000 + t.size ≤ n) : FF n 99 [tm t, nt fuel, .one (.fn 109 [])] [] = some ([tm (Ci false t fuel).1, nt ((Ci false t fuel).2.1 : Int), nt (Ci false t fuel).2.2], []) := by
 obtain ⟨n, rfl⟩ := af (show 0 < n by omega)
 rw [gu, bB (by omega)]
 simp only [evs]
 unfold Ci
 cases hv : ah t with
 | false => simp [cT, cQ, ay]
 | true =>
  simp (disch := omega) only [Bool.not_true, cond_false, gJ, evs, true_and]
  by_cases hf : 0 ≤ fuel ∧ fuel ≤ 200
  ·obtain ⟨f, rfl⟩ : ∃ f : Nat, fuel = f := ⟨fuel.toNat, by omega⟩
   rw [if_pos hf, decide_eq_true hf.1, decide_eq_true hf.2, Int.toNat_natCast]
   simp only [Bool.and_self, Bool.not_true, cond_false]
   exact xF n (by omega) f (by omega) [] f n 0 t (by omega) (by omega) hv
  ·rw [if_neg hf]
   have : (decide (0 ≤ fuel) && decide (fuel ≤ 200)) = false := by
    rw [← Bool.not_eq_true, Bool.and_eq_true, decide_eq_true_eq, decide_eq_true_eq]; exact hf
   rw [this]; rfl
theorem ny {n : Nat} {t : T} {fuel : Int} (hn : 6000001 + t.size ≤ n) : FF n 94 [tm t, nt fuel] [] = some ([tm (Ci false t fuel).1, nt (Ci false t fuel).2.2], []) := by
 obtain ⟨n, rfl⟩ := af (show 0 < n by omega)
 rw [l7, oU (by omega)]
 simp only [evt]
theorem nz (n : Nat) (ts : List T) (j : Nat) (u : T) (k0 n0 : Int) (z1 z2 : Int) (l : List T) (k1 n1 : Int) (hl : ts.length ≤ 4000000) (h : ∀ t ∈ ts, FF n 54 [tm t] [] = some (ow t)) :
   ∀ g m (i : Nat), g < m → i + g = ts.length → bN n m (j : Int) i k0 n0 ts u.k u.n u.kids z1 z2 l k1 n1 ((ts.set j u).take i) = some ([tm (.mk k1 n1 (ts.set j u))], [])
 | g, 0, i, hg, _ => by omega
 | 0, m + 1, i, _, hi => by
  rw [dO]
  simp only [au, if_neg (show ¬ (i : Int) < ts.length by omega), List.take_of_length_le (show (ts.set j u).length ≤ i by rw [List.length_set]; omega)]; rfl
 | g + 1, m + 1, i, hg, hi => by
  have hlt : i < ts.length := by omega
  have hlt2 : i < (ts.set j u).length := by rw [List.length_set]; exact hlt
  have ht : ((ts.set j u).take i).length = i := by rw [List.length_take]; omega
  have ht1 : ((ts.set j u).take (i + 1)).length = i + 1 := by rw [List.length_take]; omega
  rw [dO]
  by_cases hj : i = j
  ·have he : (ts.set j u)[i]'hlt2 = u := by subst hj; simp
   have := eJ hlt2
   rw [he] at this
   simp (disch := omega) only [au, if_pos (show (i : Int) < ts.length by omega), if_pos (show (i : Int) = j by omega), List.length_append, List.length_cons, List.length_nil, ht, ht1, aK, cond_true, T.eta, this, wrap64, fC]
   exact nz n ts j u k0 n0 z1 z2 l k1 n1 hl h g m (i + 1) (by omega) (by omega)
  ·have he : (ts.set j u)[i]'hlt2 = ts[i] := by rw [List.getElem_set_ne (fun e => hj e.symm)]
   have := eJ hlt2
   rw [he] at this
   simp (disch := omega) only [au, if_pos (show (i : Int) < ts.length by omega), if_neg (show ¬ (i : Int) = j by omega), if_pos (show 0 ≤ (i : Int) by omega), Int.toNat_natCast, List.getElem?_eq_getElem hlt, h _ (List.getElem_mem hlt), evt, List.length_append, List.length_cons, List.length_nil, ht, ht1, aK, this, wrap64, fC]
   exact nz n ts j u k0 n0 z1 z2 l k1 n1 hl h g m (i + 1) (by omega) (by omega)
theorem qH {n : Nat} {t u : T} {j : Nat} (hn : t.size + 6 ≤ n) (hz : t.size ≤ 4000000) : FF n 70 [tm t, nt (j : Int), tm u] [] = some ([tm (.mk t.k t.n (t.kids.set j u))], []) := by
 obtain ⟨n, rfl⟩ := af (show 0 < n by omega)
 have hsz := T.size_eq t
 have hl := T.bw t.kids
 rw [qJ]
 have := nz n t.kids j u t.k t.n 0 0 [] t.k t.n (by omega) (fun v hv => fk v (by have := T.aT hv; omega) (by have := T.aT hv; omega)) t.kids.length n 0 (by omega) (by omega)
 simpa using this
theorem Ch {inn : Bool} {t u : T} (hv : ah t = true) (h : stT inn t = some u) : u.size ≤ 400 + 160000 := by
 cases hw : wyT inn t with
 | none => rw [qx hw] at h; cases h
 | some w =>
  obtain ⟨ho, hr, hs⟩ := nI hw
  rw [hs] at h
  obtain rfl := Option.some.inj h
  have h1 := ml (u := ax (atT t w)) ho
  have h2 := iT (mr ho hv) hr
  have h3 := ae hv
  omega
def stR (inn : Bool) (t : T) : T × Bool := match stT inn t with | some u => (u, true) | none => (t, false)
theorem wJ (n : Nat) (hn : 3000000 ≤ n) (inn : Bool) (t : T) (hv : ah t = true) (ts : List T) (hts : t.kids = ts) (hr0 : inn = true ∨ ¬ Rx t) (l0 : List T)
   (h : ∀ u ∈ ts, FF n 153 [tm u, bl inn] [] = some ([tm (stR inn u).1, bl (stR inn u).2], [])) :
   ∀ g m (i : Nat), g < m → i + g = ts.length → stL inn (ts.take i) = none → bI n m inn i t.k t.n ts 0 0 l0 = some ([tm (stR inn t).1, bl (stR inn t).2], [])
 | g, 0, i, hg, _, _ => by omega
 | 0, m + 1, i, _, hi, hno => by
  rw [List.take_of_length_le (by omega)] at hno
  have e : stT inn t = if inn = true ∧ Rx t then some (ax t) else none := by
   cases t with | mk k n ts' =>
   have : ts' = ts := hts
   subst this
   rw [stT, hno]
   rcases hr0 with h1 | h1
   ·rw [if_neg (by simp [h1])]
   ·rw [if_neg (fun hh => h1 hh.2)]
  rw [eL]
  simp only [au, if_neg (show ¬ (i : Int) < ts.length by omega)]
  unfold stR
  rw [e, ← hts]
  cases inn with
  | false => simp
  | true =>
   simp only [cond_true, true_and, ki (show 1 ≤ n by omega) hv, evs, iu, Bi]
   by_cases hr : Rx t
   ·simp only [hr, not_true_eq_false, if_false, if_true, ia hn hv hr, evt]
   ·simp only [hr, not_false_eq_true, if_true, if_false]
 | g + 1, m + 1, i, hg, hi, hno => by
  have hlt : i < ts.length := by omega
  have hm := List.getElem_mem hlt
  have hz := ae hv
  have hsz := T.size_eq t
  have hl := T.bw t.kids
  rw [hts] at hsz hl
  have hap : ∀ (l : List T) (x : T) (r : List T), stL inn l = none → stL inn (l ++ x :: r) = (stL inn (x :: r)).map (l ++ ·) := by
   intro l x r
   induction l with
   | nil => intro _; simp
   | cons a l ih =>
    intro h
    rw [stL] at h
    rw [List.cons_append, stL]
    cases ha : stT inn a with
    | some v => rw [ha] at h; cases h
    | none =>
     rw [ha] at h
     simp only [Option.map_eq_none_iff] at h
     simp only
     rw [ih h, Option.map_map]; rfl
  rw [eL]
  simp (disch := omega) only [au, Int.toNat_natCast, fC, wrap64, if_pos (show (i : Int) < ts.length by omega), if_pos (show 0 ≤ (i : Int) by omega), List.getElem?_eq_getElem hlt, Option.bind_some]
  rw [h _ hm]
  simp only [evt]
  cases hs : stT inn ts[i] with
  | none =>
   simp only [stR, hs, cond_false]
   refine wJ n hn inn t hv ts hts hr0 l0 h g m (i + 1) (by omega) (by omega) ?_
   rw [← eJ hlt, hap _ _ _ hno, stL, hs]; rfl
  | some v =>
   have hst : stT inn t = some (.mk t.k t.n (ts.set i v)) := by
    have hsl : stL inn ts = some (ts.set i v) := by
     conv => lhs; rw [← List.take_append_drop i ts, List.drop_eq_getElem_cons hlt]
     rw [hap _ _ _ hno, stL, hs]
     simp only [Option.map_some, Option.some.injEq]
     rw [List.set_eq_take_append_cons_drop, if_pos hlt]
    cases t with | mk k n ts' =>
    have : ts' = ts := hts
    subst this
    rw [stT, hsl]
    rcases hr0 with h1 | h1
    ·rw [if_neg (by simp [h1])]; rfl
    ·rw [if_neg (fun hh => h1 hh.2)]; rfl
   have hw := qH (n := n) (t := t) (u := v) (j := i) (by omega) (by omega)
   simp only [tm, cT, cQ, ay, hts] at hw
   simp only [stR, hs, hst, cond_true]
   rw [hw]
   simp only [evt]
   rfl
theorem Cx (inn : Bool) (t : T) : ∀ {n : Nat}, 4000000 + t.size ≤ n → ah t = true → FF n 153 [tm t, bl inn] [] = some ([tm (stR inn t).1, bl (stR inn t).2], []) := by
 induction t using T.ind with | h t ih =>
 intro n hn hv
 have hsz := T.size_eq t
 have hl := T.bw t.kids
 obtain ⟨n, rfl⟩ := af (show 0 < n by omega)
 have key : (inn = true ∨ ¬ Rx t) → bI n n inn 0 t.k t.n t.kids 0 0 [] = some ([tm (stR inn t).1, bl (stR inn t).2], []) := fun h0 =>
  wJ n (by omega) inn t hv t.kids rfl h0 [] (fun u hu => ih u hu (by have := T.aT hu; omega) (bG hv hu)) t.kids.length n 0 (by omega) (by omega) (by simp [stL])
 rw [qD]
 cases inn with
 | true => simp only [Bool.not_true, cond_false, key (.inl rfl)]
 | false =>
  simp only [Bool.not_false, cond_true, ki (show 1 ≤ n by omega) hv, evs, iu, Bi]
  by_cases hr : Rx t
  ·have e : stT false t = some (ax t) := by
     cases t with | mk k n ts =>
     rw [stT, if_pos ⟨rfl, hr⟩]
   simp only [hr, not_true_eq_false, if_false, ia (show 3000000 ≤ n by omega) hv hr, evt, stR, e]
  ·simp only [hr, not_false_eq_true, if_true, key (.inr hr)]
theorem Ec {n : Nat} {t : T} {inn : Bool} (hn : 4000500 + t.size ≤ n) (hv : ah t = true) : FF n 152 [tm t, bl inn] [] = some ([tm (Hl inn t).1, nt (Hl inn t).2], []) := by
 obtain ⟨n, rfl⟩ := af (show 0 < n by omega)
 have hz := ae hv
 rw [s8, Cx inn t (by omega) hv]
 simp only [evt]
 unfold Hl stR
 cases hs : stT inn t with
 | none =>
  have hc := fk t (n := n) (by omega) (by omega)
  simp only [Bool.not_false, cond_true, hc, evt]
 | some u =>
  have hu := Ch hv hs
  simp only [Bool.not_true, cond_false, bk (n := n) (t := u) (by omega) (by omega), evt]
  cases ah u <;> rfl
theorem sO (n : Nat) (hn : 5000000 ≤ n) (inn : Bool) (l0 : List T) : ∀ g m (t : T) (s : Nat), g < m → g ≤ 200 → ah t = true →
   cG n m (g : Int) inn t.k t.n t.kids 0 0 l0 = some ([tm (fN inn g s t).1, nt (fN inn g s t).2.2], [])
 | g, 0, t, s, hg, _, _ => by omega
 | g, m + 1, t, s, hg, hf, hv => by
  have hz := ae hv
  rw [g8, Ec (n := n) (by omega) hv]
  simp only [evt, au]
  unfold Hl
  cases hs : stT inn t with
  | none => cases g <;> simp [fN, hs]
  | some u =>
   cases g with
   | zero =>
    rw [fN, hs]
    cases hu : ah u <;> simp [hu, mG, cT, cQ, ay]
   | succ g =>
    rw [fN, hs]
    cases hu : ah u with
    | false => simp [hu, mG, cT, cQ, ay, show ¬ ((g : Int) + 1 < 1) by omega]
    | true =>
     have w : IntKind.i64.wrap (((g + 1 : Nat) : Int) - 1) = (g : Int) := by rw [wrap64 (by omega)]; omega
     simp only [hu, if_true, show ¬ (1 : Int) = 0 by decide, show ¬ (1 : Int) = 2 by decide, if_false, if_neg (show ¬ ((g + 1 : Nat) : Int) < 1 by omega), w]
     exact sO n hn inn l0 g m u (s + 1) (by omega) (by omega) hu
theorem xY {n : Nat} {t : T} {inn : Bool} {g : Nat} (hn : 5000001 ≤ n) (hg : g ≤ 200) (hv : ah t = true) : FF n 151 [tm t, nt (g : Int), bl inn] [] = some ([tm (fN inn g 0 t).1, nt (fN inn g 0 t).2.2], []) := by
 obtain ⟨n, rfl⟩ := af (show 0 < n by omega)
 rw [rU]
 exact sO n (by omega) inn [] g n t 0 (by omega) hg hv
end Go.Proofs.Ytajlknlnmmbfcaa
end
section
namespace Go.Proofs.Ytajlknlnmmbfcaa
open Go Go.Dk
def gH (a b : T) (f : Nat) : Int :=
 if T.beq a b then 1
 else if (fN false f 0 a).2.2 ≠ 0 ∨ (fN false f 0 b).2.2 ≠ 0 then 3
 else if T.beq (fN false f 0 a).1 (fN false f 0 b).1 then 1 else 2
def BV (a b : T) (f : Int) : Int := if ah a = true ∧ ah b = true ∧ 0 ≤ f ∧ f ≤ 200 then gH a b f.toNat else 0
theorem sf {a b : T} {f : Int} (h : ah a = true ∧ ah b = true ∧ 0 ≤ f ∧ f ≤ 200) : BV a b f = gH a b f.toNat := if_pos h
theorem kx {inn : Bool} : ∀ (g s : Nat) (t : T), (fN inn g s t).2.2 = 0 → Red t (fN inn g s t).1 ∧ nfB (fN inn g s t).1 = true
 | 0, s, t, h => by
  rw [fN] at h ⊢
  cases hs : stT inn t with
  | none => exact ⟨.refl, uX.1 hs⟩
  | some u => rw [hs] at h; cases h
 | g + 1, s, t, h => by
  rw [fN] at h ⊢
  cases hs : stT inn t with
  | none => exact ⟨.refl, uX.1 hs⟩
  | some u =>
   rw [hs] at h
   simp only at h ⊢
   cases hu : ah u with
   | false => rw [hu] at h; cases h
   | true =>
    rw [hu] at h
    simp only [if_true] at h ⊢
    obtain ⟨h1, h2⟩ := kx g (s + 1) u h
    exact ⟨.step (D7 hs) h1, h2⟩
theorem Bo {a b : T} {f : Nat} (h : gH a b f = 2) : (fN false f 0 a).2.2 = 0 ∧ (fN false f 0 b).2.2 = 0 ∧ (fN false f 0 a).1 ≠ (fN false f 0 b).1 := by
 unfold gH at h
 split at h
 ·cases h
 ·split at h
  ·cases h
  ·rename_i hh
   split at h
   ·cases h
   ·rename_i hb
    exact ⟨Classical.byContradiction fun h => hh (.inl h), Classical.byContradiction fun h => hh (.inr h), fun e => hb ((T.beq_iff _ _).2 e)⟩
end Go.Proofs.Ytajlknlnmmbfcaa
end
section
namespace Go.Proofs.Ytajlknlnmmbfcaa
open Go Go.Ab Go.Dk
theorem ux {inn : Bool} {g s : Nat} {t : T} (hv : ah t = true) : (fN inn g s t).1.size ≤ 400 := by
 induction g generalizing s t with
 | zero =>
  rw [fN]
  cases stT inn t with
  | none => exact ae hv
  | some u => simp [mG, T.size, T.aA]
 | succ g ih =>
  rw [fN]
  cases stT inn t with
  | none => exact ae hv
  | some u =>
   simp only
   cases hu : ah u with
   | false => simp [mG, T.size, T.aA]
   | true => exact ih hu
theorem zI {inn : Bool} {t : T} {f : Int} (h : ah t = true ∧ 0 ≤ f ∧ f ≤ 200) : Ci inn t f = fN inn f.toNat 0 t := if_pos h
theorem qU {n : Nat} {a b : T} {f : Int} (hn : 7000000 ≤ n) (ha : a.size ≤ 100000) (hb : b.size ≤ 100000) : FF n 61 [tm a, tm b, nt f] [] = some ([nt (BV a b f)], []) := by
 obtain ⟨n, rfl⟩ := af (show 0 < n by omega)
 rw [kv, bB (by omega), bB (by omega), gJ (by omega), iQ a (by omega) (by omega), ny (by omega), ny (by omega)]
 simp only [evt]
 by_cases h : ah a = true ∧ ah b = true ∧ 0 ≤ f ∧ f ≤ 200
 ·have e : (decide (0 ≤ f) && decide (f ≤ 200)) = true := by simp [h.2.2]
  have ra : Ci false a f = fN false f.toNat 0 a := zI ⟨h.1, h.2.2⟩
  have rb : Ci false b f = fN false f.toNat 0 b := zI ⟨h.2.1, h.2.2⟩
  have hz := ux (inn := false) (g := f.toNat) (s := 0) h.1
  rw [sf h]
  simp only [h.1, h.2.1, e, Bool.not_true, cond_false, ra, rb, iu]
  unfold gH
  cases hs : T.beq a b with
  | true => rfl
  | false =>
   simp only [cond_false]
   rw [iQ _ (by omega) (by omega)]
   simp only [evt]
   by_cases c1 : (fN false f.toNat 0 a).2.2 = 0
   ·by_cases c2 : (fN false f.toNat 0 b).2.2 = 0
    ·cases hb2 : T.beq (fN false f.toNat 0 a).1 (fN false f.toNat 0 b).1 <;> simp [c1, c2]
    ·simp [c1, c2]
   ·simp [c1]
 ·rw [show BV a b f = 0 from if_neg h]
  cases h1 : ah a with
  | false => simp
  | true =>
   cases h2 : ah b with
   | false => simp
   | true =>
    have e : (decide (0 ≤ f) && decide (f ≤ 200)) = false := by
     rw [← Bool.not_eq_true, Bool.and_eq_true, decide_eq_true_eq, decide_eq_true_eq]; exact fun hh => h ⟨h1, h2, hh⟩
    simp [e]
theorem Co {n : Nat} {a b : T} {g : Nat} (hn : 6000000 ≤ n) (ha : ah a = true) (hb : ah b = true) (hg : g ≤ 200) : FF n 149 [tm a, tm b, nt (g : Int)] [] = some ([nt (gH a b g)], []) := by
 obtain ⟨n, rfl⟩ := af (show 0 < n by omega)
 have za := ae ha
 have zb := ae hb
 have hz := ux (inn := false) (g := g) (s := 0) ha
 rw [rN, nq a (by omega) (by omega), xY (by omega) hg ha, xY (by omega) hg hb]
 simp only [evt, iu]
 unfold gH
 cases hs : T.beq a b with
 | true => rfl
 | false =>
  simp only [cond_false]
  rw [nq _ (by omega) (by omega)]
  simp only [evt]
  by_cases c1 : (fN false g 0 a).2.2 = 0
  ·by_cases c2 : (fN false g 0 b).2.2 = 0
   ·cases hb2 : T.beq (fN false g 0 a).1 (fN false g 0 b).1 <;> simp [c1, c2]
   ·simp [c1, c2]
  ·simp [c1]
theorem qK {f : FuncId} {args : List V1} {C : Nat} (h : ∀ n, C ≤ n → Tot (FF n f args []) (fun r => r = ([bl true], []))) : Ev f args [] ([bl true], []) :=
 ⟨C, fun n hn => by obtain ⟨r, h1, rfl⟩ := h n hn; exact h1⟩
end Go.Proofs.Ytajlknlnmmbfcaa
end
section
namespace Go.Proofs.Ytajlknlnmmbfcaa
inductive Tm where
 | var (n : Nat) | sort (n : Nat) | pi (a b : Tm) | lam (a b : Tm) | app (f a : Tm)
 | nat | zero | succ (n : Tm) | elim (p z s n : Tm) | id (t a b : Tm) | refl (a : Tm)
 | move (p e x : Tm) | sig (a b : Tm) | pair (s a b : Tm) | fst (q : Tm) | snd (q : Tm)
namespace Tm
def up (ξ : Nat → Nat) : Nat → Nat
 | 0 => 0
 | n + 1 => ξ n + 1
def ren : Tm → (Nat → Nat) → Tm
 | var n, ξ => var (ξ n)
 | sort n, _ => sort n
 | pi a b, ξ => pi (a.ren ξ) (b.ren (up ξ))
 | lam a b, ξ => lam (a.ren ξ) (b.ren (up ξ))
 | app f a, ξ => app (f.ren ξ) (a.ren ξ)
 | nat, _ => nat
 | zero, _ => zero
 | succ n, ξ => succ (n.ren ξ)
 | elim p z s n, ξ => elim (p.ren ξ) (z.ren ξ) (s.ren ξ) (n.ren ξ)
 | id t a b, ξ => id (t.ren ξ) (a.ren ξ) (b.ren ξ)
 | refl a, ξ => refl (a.ren ξ)
 | move p e x, ξ => move (p.ren ξ) (e.ren ξ) (x.ren ξ)
 | sig a b, ξ => sig (a.ren ξ) (b.ren (up ξ))
 | pair s a b, ξ => pair (s.ren ξ) (a.ren ξ) (b.ren ξ)
 | fst q, ξ => fst (q.ren ξ)
 | snd q, ξ => snd (q.ren ξ)
def wk (t : Tm) : Tm := t.ren (· + 1)
def ups (σ : Nat → Tm) : Nat → Tm
 | 0 => var 0
 | n + 1 => (σ n).wk
def sub : Tm → (Nat → Tm) → Tm
 | var n, σ => σ n
 | sort n, _ => sort n
 | pi a b, σ => pi (a.sub σ) (b.sub (ups σ))
 | lam a b, σ => lam (a.sub σ) (b.sub (ups σ))
 | app f a, σ => app (f.sub σ) (a.sub σ)
 | nat, _ => nat
 | zero, _ => zero
 | succ n, σ => succ (n.sub σ)
 | elim p z s n, σ => elim (p.sub σ) (z.sub σ) (s.sub σ) (n.sub σ)
 | id t a b, σ => id (t.sub σ) (a.sub σ) (b.sub σ)
 | refl a, σ => refl (a.sub σ)
 | move p e x, σ => move (p.sub σ) (e.sub σ) (x.sub σ)
 | sig a b, σ => sig (a.sub σ) (b.sub (ups σ))
 | pair s a b, σ => pair (s.sub σ) (a.sub σ) (b.sub σ)
 | fst q, σ => fst (q.sub σ)
 | snd q, σ => snd (q.sub σ)
def sc (u : Tm) (σ : Nat → Tm) : Nat → Tm
 | 0 => u
 | n + 1 => σ n
def inst (b u : Tm) : Tm := b.sub (sc u var)
theorem HD : up (fun n => n) = fun n => n := by funext n; cases n <;> rfl
theorem Ez (ξ ζ : Nat → Nat) : (fun n => up ζ (up ξ n)) = up (fun n => ζ (ξ n)) := by funext n; cases n <;> rfl
theorem fy (t : Tm) : ∀ ξ ζ, (t.ren ξ).ren ζ = t.ren (fun n => ζ (ξ n)) := by
 induction t <;> intro ξ ζ <;> simp_all [ren, Ez]
theorem pP (t : Tm) : t.ren (fun n => n) = t := by
 induction t <;> simp_all [ren, HD]
theorem Bj : ups var = var := by funext n; cases n <;> rfl
theorem bX (t : Tm) : t.sub var = t := by
 induction t <;> simp_all [sub, Bj]
theorem GM (ξ : Nat → Nat) (σ : Nat → Tm) : (fun n => ups σ (up ξ n)) = ups (fun n => σ (ξ n)) := by funext n; cases n <;> rfl
theorem mM (t : Tm) : ∀ ξ σ, (t.ren ξ).sub σ = t.sub (fun n => σ (ξ n)) := by
 induction t <;> intro ξ σ <;> simp_all [ren, sub, GM]
theorem EJ (σ : Nat → Tm) (ξ : Nat → Nat) : (fun n => (ups σ n).ren (up ξ)) = ups (fun n => (σ n).ren ξ) := by
 funext n; cases n with
 | zero => rfl
 | succ n => simp only [ups, wk, fy]; rfl
theorem uY (t : Tm) : ∀ σ ξ, (t.sub σ).ren ξ = t.sub (fun n => (σ n).ren ξ) := by
 induction t <;> intro σ ξ <;> simp_all [ren, sub, EJ]
theorem wm (σ τ : Nat → Tm) : (fun n => (ups σ n).sub (ups τ)) = ups (fun n => (σ n).sub τ) := by
 funext n; cases n with
 | zero => rfl
 | succ n => simp only [ups, wk, mM, uY]
theorem sub_sub (t : Tm) : ∀ σ τ, (t.sub σ).sub τ = t.sub (fun n => (σ n).sub τ) := by
 induction t <;> intro σ τ <;> simp_all [sub, wm]
theorem yO (ξ : Nat → Nat) : ups (fun n => var (ξ n)) = fun n => var (up ξ n) := by funext n; cases n <;> rfl
theorem Fu (t : Tm) : ∀ ξ, t.ren ξ = t.sub (fun n => var (ξ n)) := by
 induction t <;> intro ξ <;> simp_all [ren, sub, yO]
theorem gp (t u : Tm) (σ : Nat → Tm) : t.wk.sub (sc u σ) = t.sub σ := by rw [wk, mM]; rfl
theorem tW (t : Tm) (σ : Nat → Tm) : t.wk.sub (ups σ) = (t.sub σ).wk := by rw [wk, mM, wk, uY]; rfl
theorem AN (t : Tm) (ξ : Nat → Nat) : t.wk.ren (up ξ) = (t.ren ξ).wk := by rw [wk, wk, fy, fy]; rfl
theorem cY (b u : Tm) (σ : Nat → Tm) : (b.inst u).sub σ = (b.sub (ups σ)).inst (u.sub σ) := by
 rw [inst, inst, sub_sub, sub_sub]; congr 1; funext n; cases n with
 | zero => rfl
 | succ n => simp only [ups, gp, bX]; rfl
theorem fi (b u : Tm) (ξ : Nat → Nat) : (b.inst u).ren ξ = (b.ren (up ξ)).inst (u.ren ξ) := by
 rw [inst, inst, uY, mM]; congr 1; funext n; cases n <;> rfl
theorem rV (b u : Tm) (σ : Nat → Tm) : (b.sub (ups σ)).inst u = b.sub (sc u σ) := by
 rw [inst, sub_sub]; congr 1; funext n; cases n with
 | zero => rfl
 | succ n => simp only [ups, gp, bX]; rfl
inductive Par : Tm → Tm → Prop
 | var {n} : Par (var n) (var n)
 | sort {n} : Par (sort n) (sort n)
 | pi {a a' b b'} (h : Par a a') (k : Par b b') : Par (pi a b) (pi a' b')
 | lam {a a' b b'} (h : Par a a') (k : Par b b') : Par (lam a b) (lam a' b')
 | app {a a' b b'} (h : Par a a') (k : Par b b') : Par (app a b) (app a' b')
 | nat : Par nat nat
 | zero : Par zero zero
 | succ {a a'} (h : Par a a') : Par (succ a) (succ a')
 | elim {p p' z z' s s' n n'} (h : Par p p') (k : Par z z') (l : Par s s') (m : Par n n') : Par (elim p z s n) (elim p' z' s' n')
 | id {t t' a a' b b'} (h : Par t t') (k : Par a a') (l : Par b b') : Par (id t a b) (id t' a' b')
 | refl {a a'} (h : Par a a') : Par (refl a) (refl a')
 | move {t t' a a' b b'} (h : Par t t') (k : Par a a') (l : Par b b') : Par (move t a b) (move t' a' b')
 | sig {a a' b b'} (h : Par a a') (k : Par b b') : Par (sig a b) (sig a' b')
 | pair {t t' a a' b b'} (h : Par t t') (k : Par a a') (l : Par b b') : Par (pair t a b) (pair t' a' b')
 | fst {a a'} (h : Par a a') : Par (fst a) (fst a')
 | snd {a a'} (h : Par a a') : Par (snd a) (snd a')
 | beta {a b b' u u'} (h : Par b b') (k : Par u u') : Par (app (lam a b) u) (b'.inst u')
 | ezero {p z z' s} (h : Par z z') : Par (elim p z s zero) z'
 | esucc {p p' z z' s s' n n'} (h : Par p p') (k : Par z z') (l : Par s s') (m : Par n n') : Par (elim p z s (succ n)) (app (app s' n') (elim p' z' s' n'))
 | mrefl {p a x x'} (h : Par x x') : Par (move p (refl a) x) x'
 | fpair {t a a' b} (h : Par a a') : Par (fst (pair t a b)) a'
 | spair {t a b b'} (h : Par b b') : Par (snd (pair t a b)) b'
theorem Par.bg (t : Tm) : Par t t := by induction t <;> constructor <;> assumption
theorem Par.ren {t u : Tm} (h : Par t u) : ∀ ξ, Par (t.ren ξ) (u.ren ξ) := by
 induction h <;> intro ξ <;> simp only [Tm.ren, fi] <;> constructor <;> first | assumption | (rename_i a b; first | exact a _ | exact b _) | (rename_i a b c; first | exact a _ | exact b _ | exact c _) | (rename_i a b c d; first | exact a _ | exact b _ | exact c _ | exact d _)
theorem Par.sub {t u : Tm} (h : Par t u) : ∀ σ τ : Nat → Tm, (∀ n, Par (σ n) (τ n)) → Par (t.sub σ) (u.sub τ) := by
 have hu : ∀ σ τ : Nat → Tm, (∀ n, Par (σ n) (τ n)) → ∀ n, Par (ups σ n) (ups τ n) := by
  intro σ τ h n; cases n with
  | zero => exact .var
  | succ n => exact (h n).ren _
 induction h <;> intro σ τ hs <;> simp only [Tm.sub, cY] <;> first
  | exact hs _
  | (constructor <;> first | exact hs _ | (rename_i a b; first | exact a _ _ hs | exact a _ _ (hu _ _ hs) | exact b _ _ hs | exact b _ _ (hu _ _ hs)) | (rename_i a b c d; first | exact a _ _ hs | exact b _ _ hs | exact c _ _ hs | exact d _ _ hs))
def dev : Tm → Tm
 | var n => var n
 | sort n => sort n
 | pi a b => pi a.dev b.dev
 | lam a b => lam a.dev b.dev
 | app f u => match f with
  | lam _ b => b.dev.inst u.dev
  | f => app f.dev u.dev
 | nat => nat
 | zero => zero
 | succ n => succ n.dev
 | elim p z s n => match n with
  | zero => z.dev
  | succ m => app (app s.dev m.dev) (elim p.dev z.dev s.dev m.dev)
  | n => elim p.dev z.dev s.dev n.dev
 | id t a b => id t.dev a.dev b.dev
 | refl a => refl a.dev
 | move p e x => match e with
  | refl _ => x.dev
  | e => move p.dev e.dev x.dev
 | sig a b => sig a.dev b.dev
 | pair s a b => pair s.dev a.dev b.dev
 | fst q => match q with
  | pair _ a _ => a.dev
  | q => fst q.dev
 | snd q => match q with
  | pair _ _ b => b.dev
  | q => snd q.dev
theorem Par.inst {b b' u u' : Tm} (h : Par b b') (k : Par u u') : Par (b.inst u) (b'.inst u') :=
 h.sub _ _ fun n => by cases n with
  | zero => exact k
  | succ n => exact .var
theorem Par.tri {t u : Tm} (h : Par t u) : Par u t.dev := by
 induction h with
 | var => exact .var
 | sort => exact .sort
 | pi h k ih ik => exact .pi ih ik
 | lam h k ih ik => exact .lam ih ik
 | app h k ih ik =>
  rename_i a a' b b'
  cases a with
  | lam c d =>
   cases h with
   | lam h1 h2 => cases ih with
    | lam i1 i2 => exact .beta i2 ik
  | _ => exact .app ih ik
 | nat => exact .nat
 | zero => exact .zero
 | succ h ih => exact .succ ih
 | elim h k l m ih ik il im =>
  rename_i p p' z z' s s' n n'
  cases n with
  | zero => cases m; exact .ezero ik
  | succ m' => cases m with
   | succ m => cases im with
    | succ im => exact .esucc ih ik il im
  | _ => exact .elim ih ik il im
 | id h k l ih ik il => exact .id ih ik il
 | refl h ih => exact .refl ih
 | move h k l ih ik il =>
  rename_i p p' e e' x x'
  cases e with
  | refl a => cases k with
   | refl k => exact .mrefl il
  | _ => exact .move ih ik il
 | sig h k ih ik => exact .sig ih ik
 | pair h k l ih ik il => exact .pair ih ik il
 | fst h ih =>
  rename_i q q'
  cases q with
  | pair t a b => cases h with
   | pair h k l => cases ih with
    | pair ih ik il => exact .fpair ik
  | _ => exact .fst ih
 | snd h ih =>
  rename_i q q'
  cases q with
  | pair t a b => cases h with
   | pair h k l => cases ih with
    | pair ih ik il => exact .spair il
  | _ => exact .snd ih
 | beta h k ih ik => exact ih.inst ik
 | ezero h ih => exact ih
 | esucc h k l m ih ik il im => exact .app (.app il im) (.elim ih ik il im)
 | mrefl h ih => exact ih
 | fpair h ih => exact ih
 | spair h ih => exact ih
inductive Red : Tm → Tm → Prop
 | nil {t} : Red t t
 | cons {t u v} (h : Par t u) (hs : Red u v) : Red t v
theorem Par.red {t u : Tm} (h : Par t u) : Red t u := .cons h .nil
theorem Red.trans {t u v : Tm} (h : Red t u) (k : Red u v) : Red t v := by
 induction h with
 | nil => exact k
 | cons h _ ih => exact .cons h (ih k)
theorem Red.strip {t u v : Tm} (h : Par t u) (k : Red t v) : ∃ w, Red u w ∧ Par v w := by
 induction k generalizing u with
 | nil => exact ⟨u, .nil, h⟩
 | cons h1 _ ih =>
  obtain ⟨w, hw, hv⟩ := ih h1.tri
  exact ⟨w, .cons h.tri hw, hv⟩
theorem Red.BX {t u v : Tm} (h : Red t u) (k : Red t v) : ∃ w, Red u w ∧ Red v w := by
 induction h generalizing v with
 | nil => exact ⟨v, k, .nil⟩
 | cons h1 _ ih =>
  obtain ⟨w, hw, hv⟩ := Red.strip h1 k
  obtain ⟨z, hz, hz'⟩ := ih hw
  exact ⟨z, hz, .cons hv hz'⟩
theorem Red.ren {t u : Tm} (h : Red t u) (ξ) : Red (t.ren ξ) (u.ren ξ) := by
 induction h with
 | nil => exact .nil
 | cons h _ ih => exact .cons (h.ren ξ) ih
theorem Red.sub {t u : Tm} (h : Red t u) (σ) : Red (t.sub σ) (u.sub σ) := by
 induction h with
 | nil => exact .nil
 | cons h _ ih => exact .cons (h.sub _ _ fun n => Par.bg _) ih
theorem Red.ctx {f : Tm → Tm} (hf : ∀ a b, Par a b → Par (f a) (f b)) {t u : Tm} (h : Red t u) : Red (f t) (f u) := by
 induction h with
 | nil => exact .nil
 | cons h _ ih => exact .cons (hf _ _ h) ih
theorem Red.Ca {f : Tm → Tm → Tm} (hf : ∀ a b c d, Par a b → Par c d → Par (f a c) (f b d)) {t u v w : Tm} (h : Red t u) (k : Red v w) : Red (f t v) (f u w) :=
 (Red.ctx (f := fun x => f x v) (fun a b h => hf _ _ _ _ h (Par.bg _)) h).trans (Red.ctx (f := fun x => f u x) (fun a b h => hf _ _ _ _ (Par.bg _) h) k)
theorem Red.pi {a a' b b' : Tm} (h : Red a a') (k : Red b b') : Red (Tm.pi a b) (Tm.pi a' b') := Red.Ca (fun _ _ _ _ h k => .pi h k) h k
theorem Red.lam {a a' b b' : Tm} (h : Red a a') (k : Red b b') : Red (Tm.lam a b) (Tm.lam a' b') := Red.Ca (fun _ _ _ _ h k => .lam h k) h k
theorem Red.sig {a a' b b' : Tm} (h : Red a a') (k : Red b b') : Red (Tm.sig a b) (Tm.sig a' b') := Red.Ca (fun _ _ _ _ h k => .sig h k) h k
theorem Red.app {a a' b b' : Tm} (h : Red a a') (k : Red b b') : Red (Tm.app a b) (Tm.app a' b') := Red.Ca (fun _ _ _ _ h k => .app h k) h k
theorem Red.succ {a a' : Tm} (h : Red a a') : Red (Tm.succ a) (Tm.succ a') := Red.ctx (fun _ _ h => .succ h) h
theorem Red.refl {a a' : Tm} (h : Red a a') : Red (Tm.refl a) (Tm.refl a') := Red.ctx (fun _ _ h => .refl h) h
theorem Red.fst {a a' : Tm} (h : Red a a') : Red (Tm.fst a) (Tm.fst a') := Red.ctx (fun _ _ h => .fst h) h
theorem Red.snd {a a' : Tm} (h : Red a a') : Red (Tm.snd a) (Tm.snd a') := Red.ctx (fun _ _ h => .snd h) h
theorem Red.id {t t' a a' b b' : Tm} (h : Red t t') (k : Red a a') (l : Red b b') : Red (Tm.id t a b) (Tm.id t' a' b') :=
 (Red.ctx (f := fun x => Tm.id x a b) (fun _ _ h => .id h (Par.bg _) (Par.bg _)) h).trans (Red.Ca (f := fun x y => Tm.id t' x y) (fun _ _ _ _ h k => .id (Par.bg _) h k) k l)
theorem Red.move {t t' a a' b b' : Tm} (h : Red t t') (k : Red a a') (l : Red b b') : Red (Tm.move t a b) (Tm.move t' a' b') :=
 (Red.ctx (f := fun x => Tm.move x a b) (fun _ _ h => .move h (Par.bg _) (Par.bg _)) h).trans (Red.Ca (f := fun x y => Tm.move t' x y) (fun _ _ _ _ h k => .move (Par.bg _) h k) k l)
theorem Red.pair {t t' a a' b b' : Tm} (h : Red t t') (k : Red a a') (l : Red b b') : Red (Tm.pair t a b) (Tm.pair t' a' b') :=
 (Red.ctx (f := fun x => Tm.pair x a b) (fun _ _ h => .pair h (Par.bg _) (Par.bg _)) h).trans (Red.Ca (f := fun x y => Tm.pair t' x y) (fun _ _ _ _ h k => .pair (Par.bg _) h k) k l)
theorem Red.elim {t t' a a' b b' n n' : Tm} (h : Red t t') (k : Red a a') (l : Red b b') (m : Red n n') : Red (Tm.elim t a b n) (Tm.elim t' a' b' n') :=
 (Red.Ca (f := fun x y => Tm.elim x y b n) (fun _ _ _ _ h k => .elim h k (Par.bg _) (Par.bg _)) h k).trans (Red.Ca (f := fun x y => Tm.elim t' a' x y) (fun _ _ _ _ h k => .elim (Par.bg _) (Par.bg _) h k) l m)
theorem Red.inst {b b' u u' : Tm} (h : Red b b') (k : Red u u') : Red (b.inst u) (b'.inst u') := Red.Ca (fun _ _ _ _ h k => h.inst k) h k
theorem Red.gZ {a b t : Tm} (h : Red (Tm.pi a b) t) : ∃ a' b', t = Tm.pi a' b' ∧ Red a a' ∧ Red b b' := by
 generalize e : Tm.pi a b = x at h
 induction h generalizing a b with
 | nil => exact ⟨a, b, e.symm, .nil, .nil⟩
 | cons h _ ih => subst e; cases h with
  | pi h k => obtain ⟨a', b', rfl, h1, h2⟩ := ih rfl; exact ⟨a', b', rfl, .cons h h1, .cons k h2⟩
theorem Red.gb {a b t : Tm} (h : Red (Tm.sig a b) t) : ∃ a' b', t = Tm.sig a' b' ∧ Red a a' ∧ Red b b' := by
 generalize e : Tm.sig a b = x at h
 induction h generalizing a b with
 | nil => exact ⟨a, b, e.symm, .nil, .nil⟩
 | cons h _ ih => subst e; cases h with
  | sig h k => obtain ⟨a', b', rfl, h1, h2⟩ := ih rfl; exact ⟨a', b', rfl, .cons h h1, .cons k h2⟩
theorem Red.jQ {a b c t : Tm} (h : Red (Tm.id a b c) t) : ∃ a' b' c', t = Tm.id a' b' c' ∧ Red a a' ∧ Red b b' ∧ Red c c' := by
 generalize e : Tm.id a b c = x at h
 induction h generalizing a b c with
 | nil => exact ⟨a, b, c, e.symm, .nil, .nil, .nil⟩
 | cons h _ ih => subst e; cases h with
  | id h k l => obtain ⟨a', b', c', rfl, h1, h2, h3⟩ := ih rfl; exact ⟨a', b', c', rfl, .cons h h1, .cons k h2, .cons l h3⟩
theorem Red.mv {n : Nat} {t : Tm} (h : Red (Tm.sort n) t) : t = Tm.sort n := by
 generalize e : Tm.sort n = x at h
 induction h with
 | nil => rfl
 | cons h _ ih => subst e; cases h with
  | sort => exact ih rfl
theorem Red.EK {t : Tm} (h : Red Tm.nat t) : t = Tm.nat := by
 generalize e : Tm.nat = x at h
 induction h with
 | nil => rfl
 | cons h _ ih => subst e; cases h with
  | nat => exact ih rfl
def Conv (a b : Tm) : Prop := ∃ c, Red a c ∧ Red b c
theorem Conv.bg {a : Tm} : Conv a a := ⟨a, .nil, .nil⟩
theorem Red.conv {a b : Tm} (h : Red a b) : Conv a b := ⟨b, h, .nil⟩
theorem Par.conv {a b : Tm} (h : Par a b) : Conv a b := h.red.conv
theorem Conv.symm {a b : Tm} (h : Conv a b) : Conv b a := let ⟨c, h, k⟩ := h; ⟨c, k, h⟩
theorem Conv.trans {a b c : Tm} (h : Conv a b) (k : Conv b c) : Conv a c := by
 obtain ⟨x, h1, h2⟩ := h
 obtain ⟨y, k1, k2⟩ := k
 obtain ⟨z, z1, z2⟩ := Red.BX h2 k1
 exact ⟨z, h1.trans z1, k2.trans z2⟩
theorem Conv.sub {a b : Tm} (h : Conv a b) (σ) : Conv (a.sub σ) (b.sub σ) := let ⟨c, h, k⟩ := h; ⟨_, h.sub σ, k.sub σ⟩
theorem Conv.ren {a b : Tm} (h : Conv a b) (σ) : Conv (a.ren σ) (b.ren σ) := let ⟨c, h, k⟩ := h; ⟨_, h.ren σ, k.ren σ⟩
theorem Conv.inst {b b' u u' : Tm} (h : Conv b b') (k : Conv u u') : Conv (b.inst u) (b'.inst u') := by
 obtain ⟨x, h1, h2⟩ := h
 obtain ⟨y, k1, k2⟩ := k
 exact ⟨_, h1.inst k1, h2.inst k2⟩
theorem Conv.pi {a a' b b' : Tm} (h : Conv a a') (k : Conv b b') : Conv (Tm.pi a b) (Tm.pi a' b') := by
 obtain ⟨x, h1, h2⟩ := h
 obtain ⟨y, k1, k2⟩ := k
 exact ⟨_, h1.pi k1, h2.pi k2⟩
theorem Conv.app {a a' b b' : Tm} (h : Conv a a') (k : Conv b b') : Conv (Tm.app a b) (Tm.app a' b') := by
 obtain ⟨x, h1, h2⟩ := h
 obtain ⟨y, k1, k2⟩ := k
 exact ⟨_, h1.app k1, h2.app k2⟩
theorem Conv.id {t t' a a' b b' : Tm} (h : Conv t t') (k : Conv a a') (l : Conv b b') : Conv (Tm.id t a b) (Tm.id t' a' b') := by
 obtain ⟨x, h1, h2⟩ := h
 obtain ⟨y, k1, k2⟩ := k
 obtain ⟨z, l1, l2⟩ := l
 exact ⟨_, h1.id k1 l1, h2.id k2 l2⟩
theorem Conv.fst {a a' : Tm} (h : Conv a a') : Conv (Tm.fst a) (Tm.fst a') := let ⟨x, h1, h2⟩ := h; ⟨_, h1.fst, h2.fst⟩
theorem Conv.succ {a a' : Tm} (h : Conv a a') : Conv (Tm.succ a) (Tm.succ a') := let ⟨x, h1, h2⟩ := h; ⟨_, h1.succ, h2.succ⟩
theorem Conv.gZ {a a' b b' : Tm} (h : Conv (Tm.pi a b) (Tm.pi a' b')) : Conv a a' ∧ Conv b b' := by
 obtain ⟨c, h1, h2⟩ := h
 obtain ⟨x, y, rfl, i1, i2⟩ := h1.gZ
 obtain ⟨x', y', e, j1, j2⟩ := h2.gZ
 cases e
 exact ⟨⟨x, i1, j1⟩, ⟨y, i2, j2⟩⟩
theorem Conv.gb {a a' b b' : Tm} (h : Conv (Tm.sig a b) (Tm.sig a' b')) : Conv a a' ∧ Conv b b' := by
 obtain ⟨c, h1, h2⟩ := h
 obtain ⟨x, y, rfl, i1, i2⟩ := h1.gb
 obtain ⟨x', y', e, j1, j2⟩ := h2.gb
 cases e
 exact ⟨⟨x, i1, j1⟩, ⟨y, i2, j2⟩⟩
theorem Conv.jQ {t t' a a' b b' : Tm} (h : Conv (Tm.id t a b) (Tm.id t' a' b')) : Conv t t' ∧ Conv a a' ∧ Conv b b' := by
 obtain ⟨c, h1, h2⟩ := h
 obtain ⟨x, y, z, rfl, i1, i2, i3⟩ := h1.jQ
 obtain ⟨x', y', z', e, j1, j2, j3⟩ := h2.jQ
 cases e
 exact ⟨⟨x, i1, j1⟩, ⟨y, i2, j2⟩, ⟨z, i3, j3⟩⟩
theorem Conv.mv {m n : Nat} (h : Conv (Tm.sort m) (Tm.sort n)) : m = n := by
 obtain ⟨c, h1, h2⟩ := h
 have := h1.mv; subst this
 have := h2.mv; injection this
inductive Hd : Tm → Tm → Prop
 | beta {a b u} : Hd (app (lam a b) u) (b.inst u)
 | ezero {p z s} : Hd (elim p z s zero) z
 | esucc {p z s n} : Hd (elim p z s (succ n)) (app (app s n) (elim p z s n))
 | mrefl {p a x} : Hd (move p (refl a) x) x
 | fpair {t a b} : Hd (fst (pair t a b)) a
 | spair {t a b} : Hd (snd (pair t a b)) b
 | app {f f' u} (h : Hd f f') : Hd (app f u) (app f' u)
 | elim {p z s n n'} (h : Hd n n') : Hd (elim p z s n) (elim p z s n')
 | move {p e e' x} (h : Hd e e') : Hd (move p e x) (move p e' x)
 | fst {q q'} (h : Hd q q') : Hd (fst q) (fst q')
 | snd {q q'} (h : Hd q q') : Hd (snd q) (snd q')
theorem Hd.par {t u : Tm} (h : Hd t u) : Par t u := by
 induction h with
 | beta => exact .beta (Par.bg _) (Par.bg _)
 | ezero => exact .ezero (Par.bg _)
 | esucc => exact .esucc (Par.bg _) (Par.bg _) (Par.bg _) (Par.bg _)
 | mrefl => exact .mrefl (Par.bg _)
 | fpair => exact .fpair (Par.bg _)
 | spair => exact .spair (Par.bg _)
 | app _ ih => exact .app ih (Par.bg _)
 | elim _ ih => exact .elim (Par.bg _) (Par.bg _) (Par.bg _) ih
 | move _ ih => exact .move (Par.bg _) ih (Par.bg _)
 | fst _ ih => exact .fst ih
 | snd _ ih => exact .snd ih
theorem Hd.det {t u v : Tm} (h : Hd t u) (k : Hd t v) : u = v := by
 induction h generalizing v with
 | beta => cases k with | beta => rfl | app k => cases k
 | ezero => cases k with | ezero => rfl | elim k => cases k
 | esucc => cases k with | esucc => rfl | elim k => cases k
 | mrefl => cases k with | mrefl => rfl | move k => cases k
 | fpair => cases k with | fpair => rfl | fst k => cases k
 | spair => cases k with | spair => rfl | snd k => cases k
 | app h ih => cases k with | beta => cases h | app k => rw [ih k]
 | elim h ih => cases k with | ezero => cases h | esucc => cases h | elim k => rw [ih k]
 | move h ih => cases k with | mrefl => cases h | move k => rw [ih k]
 | fst h ih => cases k with | fpair => cases h | fst k => rw [ih k]
 | snd h ih => cases k with | spair => cases h | snd k => rw [ih k]
theorem Hd.sub {t u : Tm} (h : Hd t u) (σ) : Hd (t.sub σ) (u.sub σ) := by
 induction h <;> simp only [Tm.sub, cY] <;> constructor <;> assumption
theorem Hd.ren {t u : Tm} (h : Hd t u) (σ) : Hd (t.ren σ) (u.ren σ) := by
 induction h <;> simp only [Tm.ren, fi] <;> constructor <;> assumption
inductive Wh : Tm → Tm → Prop
 | nil {t} : Wh t t
 | cons {t u v} (h : Hd t u) (hs : Wh u v) : Wh t v
theorem Wh.trans {t u v : Tm} (h : Wh t u) (k : Wh u v) : Wh t v := by
 induction h with
 | nil => exact k
 | cons h _ ih => exact .cons h (ih k)
theorem Wh.red {t u : Tm} (h : Wh t u) : Red t u := by
 induction h with
 | nil => exact .nil
 | cons h _ ih => exact .cons h.par ih
theorem Wh.conv {t u : Tm} (h : Wh t u) : Conv t u := h.red.conv
theorem Wh.sub {t u : Tm} (h : Wh t u) (σ) : Wh (t.sub σ) (u.sub σ) := by
 induction h with
 | nil => exact .nil
 | cons h _ ih => exact .cons (h.sub σ) ih
theorem Wh.ren {t u : Tm} (h : Wh t u) (σ) : Wh (t.ren σ) (u.ren σ) := by
 induction h with
 | nil => exact .nil
 | cons h _ ih => exact .cons (h.ren σ) ih
theorem Wh.ctx {f : Tm → Tm} (hf : ∀ a b, Hd a b → Hd (f a) (f b)) {t u : Tm} (h : Wh t u) : Wh (f t) (f u) := by
 induction h with
 | nil => exact .nil
 | cons h _ ih => exact .cons (hf _ _ h) ih
theorem Wh.app {f f' : Tm} (h : Wh f f') (u : Tm) : Wh (Tm.app f u) (Tm.app f' u) := Wh.ctx (f := fun f => Tm.app f u) (fun _ _ h => .app h) h
theorem Wh.elim {n n' : Tm} (h : Wh n n') (p z s : Tm) : Wh (Tm.elim p z s n) (Tm.elim p z s n') := Wh.ctx (f := fun n => Tm.elim p z s n) (fun _ _ h => .elim h) h
theorem Wh.move {e e' : Tm} (h : Wh e e') (p x : Tm) : Wh (Tm.move p e x) (Tm.move p e' x) := Wh.ctx (f := fun n => Tm.move p n x) (fun _ _ h => .move h) h
theorem Wh.fst {e e' : Tm} (h : Wh e e') : Wh (Tm.fst e) (Tm.fst e') := Wh.ctx (fun _ _ h => .fst h) h
theorem Wh.snd {e e' : Tm} (h : Wh e e') : Wh (Tm.snd e) (Tm.snd e') := Wh.ctx (fun _ _ h => .snd h) h
theorem Wh.two {t u v : Tm} (h : Wh t u) (k : Wh t v) : Wh u v ∨ Wh v u := by
 induction h generalizing v with
 | nil => exact .inl k
 | cons h hs ih => cases k with
  | nil => exact .inr (.cons h hs)
  | cons k ks => have := h.det k; subst this; exact ih ks
inductive ST : Tm → Tm → Prop
 | var {m n} (w : Wh m (var n)) : ST m (var n)
 | sort {m n} (w : Wh m (sort n)) : ST m (sort n)
 | pi {m a a' b b'} (w : Wh m (pi a b)) (h : ST a a') (k : ST b b') : ST m (pi a' b')
 | lam {m a a' b b'} (w : Wh m (lam a b)) (h : ST a a') (k : ST b b') : ST m (lam a' b')
 | app {m a a' b b'} (w : Wh m (app a b)) (h : ST a a') (k : ST b b') : ST m (app a' b')
 | nat {m} (w : Wh m nat) : ST m nat
 | zero {m} (w : Wh m zero) : ST m zero
 | succ {m a a'} (w : Wh m (succ a)) (h : ST a a') : ST m (succ a')
 | elim {m p p' z z' s s' n n'} (w : Wh m (elim p z s n)) (h : ST p p') (k : ST z z') (l : ST s s') (i : ST n n') : ST m (elim p' z' s' n')
 | id {m t t' a a' b b'} (w : Wh m (id t a b)) (h : ST t t') (k : ST a a') (l : ST b b') : ST m (id t' a' b')
 | refl {m a a'} (w : Wh m (refl a)) (h : ST a a') : ST m (refl a')
 | move {m t t' a a' b b'} (w : Wh m (move t a b)) (h : ST t t') (k : ST a a') (l : ST b b') : ST m (move t' a' b')
 | sig {m a a' b b'} (w : Wh m (sig a b)) (h : ST a a') (k : ST b b') : ST m (sig a' b')
 | pair {m t t' a a' b b'} (w : Wh m (pair t a b)) (h : ST t t') (k : ST a a') (l : ST b b') : ST m (pair t' a' b')
 | fst {m a a'} (w : Wh m (fst a)) (h : ST a a') : ST m (fst a')
 | snd {m a a'} (w : Wh m (snd a)) (h : ST a a') : ST m (snd a')
theorem ST.bg (t : Tm) : ST t t := by induction t <;> constructor <;> first | exact .nil | assumption
theorem ST.exp {m m' n : Tm} (w : Wh m m') (h : ST m' n) : ST m n := by
 cases h with
 | var w' => exact .var (w.trans w')
 | sort w' => exact .sort (w.trans w')
 | pi w' h k => exact .pi (w.trans w') h k
 | lam w' h k => exact .lam (w.trans w') h k
 | app w' h k => exact .app (w.trans w') h k
 | nat w' => exact .nat (w.trans w')
 | zero w' => exact .zero (w.trans w')
 | succ w' h => exact .succ (w.trans w') h
 | elim w' h k l i => exact .elim (w.trans w') h k l i
 | id w' h k l => exact .id (w.trans w') h k l
 | refl w' h => exact .refl (w.trans w') h
 | move w' h k l => exact .move (w.trans w') h k l
 | sig w' h k => exact .sig (w.trans w') h k
 | pair w' h k l => exact .pair (w.trans w') h k l
 | fst w' h => exact .fst (w.trans w') h
 | snd w' h => exact .snd (w.trans w') h
theorem ST.ren {m n : Tm} (h : ST m n) : ∀ ξ, ST (m.ren ξ) (n.ren ξ) := by
 induction h <;> intro ξ <;> (first
  | exact .var (Wh.ren ‹_› ξ) | exact .sort (Wh.ren ‹_› ξ) | exact .nat (Wh.ren ‹_› ξ) | exact .zero (Wh.ren ‹_› ξ)
  | (rename_i w _ _ a b; exact .pi (w.ren ξ) (a _) (b _)) | (rename_i w _ _ a b; exact .lam (w.ren ξ) (a _) (b _)) | (rename_i w _ _ a b; exact .app (w.ren ξ) (a _) (b _)) | (rename_i w _ _ a b; exact .sig (w.ren ξ) (a _) (b _))
  | (rename_i w _ a; exact .succ (w.ren ξ) (a _)) | (rename_i w _ a; exact .refl (w.ren ξ) (a _)) | (rename_i w _ a; exact .fst (w.ren ξ) (a _)) | (rename_i w _ a; exact .snd (w.ren ξ) (a _))
  | (rename_i w _ _ _ a b c; exact .id (w.ren ξ) (a _) (b _) (c _)) | (rename_i w _ _ _ a b c; exact .move (w.ren ξ) (a _) (b _) (c _)) | (rename_i w _ _ _ a b c; exact .pair (w.ren ξ) (a _) (b _) (c _))
  | (rename_i w _ _ _ _ a b c d; exact .elim (w.ren ξ) (a _) (b _) (c _) (d _)))
theorem ST.sub {m n : Tm} (h : ST m n) : ∀ σ τ : Nat → Tm, (∀ i, ST (σ i) (τ i)) → ST (m.sub σ) (n.sub τ) := by
 have hu : ∀ σ τ : Nat → Tm, (∀ n, ST (σ n) (τ n)) → ∀ n, ST (ups σ n) (ups τ n) := by
  intro σ τ h n; cases n with
  | zero => exact .var .nil
  | succ n => exact (h n).ren _
 induction h <;> intro σ τ hs <;> (first
  | (rename_i w; exact ST.exp (w.sub σ) (hs _)) | exact .sort (Wh.sub ‹_› σ) | exact .nat (Wh.sub ‹_› σ) | exact .zero (Wh.sub ‹_› σ)
  | (rename_i w _ _ a b; exact .pi (w.sub σ) (a _ _ hs) (b _ _ (hu _ _ hs))) | (rename_i w _ _ a b; exact .lam (w.sub σ) (a _ _ hs) (b _ _ (hu _ _ hs))) | (rename_i w _ _ a b; exact .app (w.sub σ) (a _ _ hs) (b _ _ hs)) | (rename_i w _ _ a b; exact .sig (w.sub σ) (a _ _ hs) (b _ _ (hu _ _ hs)))
  | (rename_i w _ a; exact .succ (w.sub σ) (a _ _ hs)) | (rename_i w _ a; exact .refl (w.sub σ) (a _ _ hs)) | (rename_i w _ a; exact .fst (w.sub σ) (a _ _ hs)) | (rename_i w _ a; exact .snd (w.sub σ) (a _ _ hs))
  | (rename_i w _ _ _ a b c; exact .id (w.sub σ) (a _ _ hs) (b _ _ hs) (c _ _ hs)) | (rename_i w _ _ _ a b c; exact .move (w.sub σ) (a _ _ hs) (b _ _ hs) (c _ _ hs)) | (rename_i w _ _ _ a b c; exact .pair (w.sub σ) (a _ _ hs) (b _ _ hs) (c _ _ hs))
  | (rename_i w _ _ _ _ a b c d; exact .elim (w.sub σ) (a _ _ hs) (b _ _ hs) (c _ _ hs) (d _ _ hs)))
theorem ST.inst {b b' u u' : Tm} (h : ST b b') (k : ST u u') : ST (b.inst u) (b'.inst u') :=
 h.sub _ _ fun n => by cases n with
  | zero => exact k
  | succ n => exact .var .nil
theorem ST.par {n p : Tm} (h : Par n p) : ∀ {m : Tm}, ST m n → ST m p := by
 induction h with
 | var => intro m s; exact s
 | sort => intro m s; exact s
 | pi h k ih ik => intro m s; cases s with | pi w a b => exact .pi w (ih a) (ik b)
 | lam h k ih ik => intro m s; cases s with | lam w a b => exact .lam w (ih a) (ik b)
 | app h k ih ik => intro m s; cases s with | app w a b => exact .app w (ih a) (ik b)
 | nat => intro m s; exact s
 | zero => intro m s; exact s
 | succ h ih => intro m s; cases s with | succ w a => exact .succ w (ih a)
 | elim h k l i ih ik il ii => intro m s; cases s with | elim w a b c d => exact .elim w (ih a) (ik b) (il c) (ii d)
 | id h k l ih ik il => intro m s; cases s with | id w a b c => exact .id w (ih a) (ik b) (il c)
 | refl h ih => intro m s; cases s with | refl w a => exact .refl w (ih a)
 | move h k l ih ik il => intro m s; cases s with | move w a b c => exact .move w (ih a) (ik b) (il c)
 | sig h k ih ik => intro m s; cases s with | sig w a b => exact .sig w (ih a) (ik b)
 | pair h k l ih ik il => intro m s; cases s with | pair w a b c => exact .pair w (ih a) (ik b) (il c)
 | fst h ih => intro m s; cases s with | fst w a => exact .fst w (ih a)
 | snd h ih => intro m s; cases s with | snd w a => exact .snd w (ih a)
 | beta h k ih ik => intro m s; cases s with
  | app w a b => cases a with
   | lam w' c d => exact .exp (w.trans ((w'.app _).trans (.cons .beta .nil))) ((ih d).inst (ik b))
 | ezero h ih => intro m s; cases s with
  | elim w a b c d => cases d with
   | zero w' => exact .exp (w.trans ((w'.elim _ _ _).trans (.cons .ezero .nil))) (ih b)
 | esucc h k l i ih ik il ii => intro m s; cases s with
  | elim w a b c d => cases d with
   | succ w' e => exact .exp (w.trans ((w'.elim _ _ _).trans (.cons .esucc .nil))) (.app .nil (.app .nil (il c) (ii e)) (.elim .nil (ih a) (ik b) (il c) (ii e)))
 | mrefl h ih => intro m s; cases s with
  | move w a b c => cases b with
   | refl w' e => exact .exp (w.trans ((w'.move _ _).trans (.cons .mrefl .nil))) (ih c)
 | fpair h ih => intro m s; cases s with
  | fst w a => cases a with
   | pair w' a b c => exact .exp (w.trans (w'.fst.trans (.cons .fpair .nil))) (ih b)
 | spair h ih => intro m s; cases s with
  | snd w a => cases a with
   | pair w' a b c => exact .exp (w.trans (w'.snd.trans (.cons .spair .nil))) (ih c)
theorem Red.st {m n : Tm} (h : Red m n) : ST m n := by
 have : ∀ {m n p : Tm}, ST m n → Red n p → ST m p := by
  intro m n p s r
  induction r with
  | nil => exact s
  | cons h _ ih => exact ih (ST.par h s)
 exact this (.bg m) h
theorem ST.red {m n : Tm} (h : ST m n) : Red m n := by
 induction h with
 | var w => exact w.red
 | sort w => exact w.red
 | pi w _ _ a b => exact w.red.trans (a.pi b)
 | lam w _ _ a b => exact w.red.trans (a.lam b)
 | app w _ _ a b => exact w.red.trans (a.app b)
 | nat w => exact w.red
 | zero w => exact w.red
 | succ w _ a => exact w.red.trans a.succ
 | elim w _ _ _ _ a b c d => exact w.red.trans (a.elim b c d)
 | id w _ _ _ a b c => exact w.red.trans (a.id b c)
 | refl w _ a => exact w.red.trans a.refl
 | move w _ _ _ a b c => exact w.red.trans (a.move b c)
 | sig w _ _ a b => exact w.red.trans (a.sig b)
 | pair w _ _ _ a b c => exact w.red.trans (a.pair b c)
 | fst w _ a => exact w.red.trans a.fst
 | snd w _ a => exact w.red.trans a.snd
end Tm
end Go.Proofs.Ytajlknlnmmbfcaa
end
section
namespace Go.Proofs.Ytajlknlnmmbfcaa
namespace Tm
def look : List Tm → Nat → Option Tm
 | [], _ => none
 | A :: _, 0 => some A.wk
 | _ :: G, n + 1 => (look G n).map wk
def br (p : Tm) : Tm := pi nat (pi (app p.wk (var 0)) (app p.wk.wk (succ (var 1))))
inductive Ty : List Tm → Tm → Tm → Prop
 | var {G n A} (h : look G n = some A) : Ty G (var n) A
 | sort {G n} (h : n < 3) : Ty G (sort n) (sort (n + 1))
 | pi {G A B i j} (h : Ty G A (sort i)) (k : Ty (A :: G) B (sort j)) : Ty G (pi A B) (sort (max i j))
 | sig {G A B i j} (h : Ty G A (sort i)) (k : Ty (A :: G) B (sort j)) : Ty G (sig A B) (sort (max i j))
 | lam {G A B b i j} (h : Ty G A (sort i)) (k : Ty (A :: G) b B) (l : Ty (A :: G) B (sort j)) : Ty G (lam A b) (pi A B)
 | app {G f u A B} (h : Ty G f (pi A B)) (k : Ty G u A) : Ty G (app f u) (B.inst u)
 | nat {G} : Ty G nat (sort 0)
 | zero {G} : Ty G zero nat
 | succ {G n} (h : Ty G n nat) : Ty G (succ n) nat
 | elim {G p z s n i} (h : Ty G p (pi nat (sort i))) (k : Ty G z (app p zero)) (l : Ty G s (br p)) (m : Ty G n nat) : Ty G (elim p z s n) (app p n)
 | id {G t a b i} (h : Ty G t (sort i)) (k : Ty G a t) (l : Ty G b t) : Ty G (id t a b) (sort i)
 | refl {G a A i} (h : Ty G a A) (k : Ty G A (sort i)) : Ty G (refl a) (id A a a)
 | move {G p e x t y z i} (h : Ty G e (id t y z)) (k : Ty G p (pi t (sort i))) (l : Ty G x (app p y)) (m : Ty G z t) : Ty G (move p e x) (app p z)
 | pair {G s a b A B i j} (h : Ty G s (sort i)) (r : Red s (Tm.sig A B)) (q : Ty G (Tm.sig A B) (Tm.sort j)) (k : Ty G a A) (l : Ty G b (B.inst a)) : Ty G (pair s a b) s
 | fst {G q A B} (h : Ty G q (sig A B)) : Ty G (fst q) A
 | snd {G q A B} (h : Ty G q (sig A B)) : Ty G (snd q) (B.inst (fst q))
 | conv {G t A B i} (h : Ty G t A) (c : Conv A B) (k : Ty G B (sort i)) : Ty G t B
theorem qa (p : Tm) (ξ) : (br p).ren ξ = br (p.ren ξ) := by
 simp only [br, ren, AN]; rfl
theorem ln (p : Tm) (σ) : (br p).sub σ = br (p.sub σ) := by
 simp only [br, sub, tW]; rfl
def vN (ξ : Nat → Nat) (G D : List Tm) : Prop := ∀ n A, look G n = some A → look D (ξ n) = some (A.ren ξ)
theorem vN.up {ξ : Nat → Nat} {G D : List Tm} (h : vN ξ G D) (A : Tm) : vN (up ξ) (A :: G) (A.ren ξ :: D) := by
 intro n B hB
 cases n with
 | zero =>
  simp only [look, Option.some.injEq] at hB; subst hB
  show some (A.ren ξ).wk = _
  rw [AN]
 | succ n =>
  obtain ⟨C, hC, rfl⟩ := Option.map_eq_some_iff.1 hB
  show (look D (ξ n)).map wk = _
  rw [h n C hC, Option.map_some, AN]
theorem vN.wk (G : List Tm) (A : Tm) : vN (· + 1) G (A :: G) := by
 intro n B hB
 show (look G n).map Tm.wk = _
 rw [hB]; rfl
theorem Ty.ren {G : List Tm} {t A : Tm} (h : Ty G t A) : ∀ {ξ D}, vN ξ G D → Ty D (t.ren ξ) (A.ren ξ) := by
 induction h with
 | var h => intro ξ D hr; exact .var (hr _ _ h)
 | sort h => intro ξ D hr; exact .sort h
 | pi h k ih ik => intro ξ D hr; exact .pi (ih hr) (ik (hr.up _))
 | sig h k ih ik => intro ξ D hr; exact .sig (ih hr) (ik (hr.up _))
 | lam h k l ih ik il => intro ξ D hr; exact .lam (ih hr) (ik (hr.up _)) (il (hr.up _))
 | app h k ih ik => intro ξ D hr; rw [fi]; exact .app (ih hr) (ik hr)
 | nat => intro ξ D hr; exact .nat
 | zero => intro ξ D hr; exact .zero
 | succ h ih => intro ξ D hr; exact .succ (ih hr)
 | elim h k l m ih ik il im => intro ξ D hr; exact .elim (ih hr) (ik hr) (by have := il hr; rwa [qa] at this) (im hr)
 | id h k l ih ik il => intro ξ D hr; exact .id (ih hr) (ik hr) (il hr)
 | refl h k ih ik => intro ξ D hr; exact .refl (ih hr) (ik hr)
 | move h k l m ih ik il im => intro ξ D hr; exact .move (ih hr) (ik hr) (il hr) (im hr)
 | pair h r q k l ih iq ik il => intro ξ D hr; exact .pair (ih hr) (r.ren ξ) (iq hr) (ik hr) (by have := il hr; rwa [fi] at this)
 | fst h ih => intro ξ D hr; exact .fst (ih hr)
 | snd h ih => intro ξ D hr; rw [fi]; exact .snd (ih hr)
 | conv h c k ih ik => intro ξ D hr; exact .conv (ih hr) (c.ren ξ) (ik hr)
theorem Ty.wk {G : List Tm} {t A : Tm} (h : Ty G t A) (B : Tm) : Ty (B :: G) t.wk A.wk := h.ren (vN.wk G B)
def tr (σ : Nat → Tm) (G D : List Tm) : Prop := ∀ n A, look G n = some A → Ty D (σ n) (A.sub σ)
theorem tr.ups {σ : Nat → Tm} {G D : List Tm} (h : tr σ G D) (A : Tm) : tr (ups σ) (A :: G) (A.sub σ :: D) := by
 intro n B hB
 cases n with
 | zero =>
  simp only [look, Option.some.injEq] at hB; subst hB
  rw [tW]
  exact .var rfl
 | succ n =>
  obtain ⟨C, hC, rfl⟩ := Option.map_eq_some_iff.1 hB
  rw [tW]
  exact (h n C hC).wk _
theorem Ty.sub {G : List Tm} {t A : Tm} (h : Ty G t A) : ∀ {σ D}, tr σ G D → Ty D (t.sub σ) (A.sub σ) := by
 induction h with
 | var h => intro σ D hr; exact hr _ _ h
 | sort h => intro σ D hr; exact .sort h
 | pi h k ih ik => intro σ D hr; exact .pi (ih hr) (ik (hr.ups _))
 | sig h k ih ik => intro σ D hr; exact .sig (ih hr) (ik (hr.ups _))
 | lam h k l ih ik il => intro σ D hr; exact .lam (ih hr) (ik (hr.ups _)) (il (hr.ups _))
 | app h k ih ik => intro σ D hr; rw [cY]; exact .app (ih hr) (ik hr)
 | nat => intro σ D hr; exact .nat
 | zero => intro σ D hr; exact .zero
 | succ h ih => intro σ D hr; exact .succ (ih hr)
 | elim h k l m ih ik il im => intro σ D hr; exact .elim (ih hr) (ik hr) (by have := il hr; rwa [ln] at this) (im hr)
 | id h k l ih ik il => intro σ D hr; exact .id (ih hr) (ik hr) (il hr)
 | refl h k ih ik => intro σ D hr; exact .refl (ih hr) (ik hr)
 | move h k l m ih ik il im => intro σ D hr; exact .move (ih hr) (ik hr) (il hr) (im hr)
 | pair h r q k l ih iq ik il => intro σ D hr; exact .pair (ih hr) (r.sub σ) (iq hr) (ik hr) (by have := il hr; rwa [cY] at this)
 | fst h ih => intro σ D hr; exact .fst (ih hr)
 | snd h ih => intro σ D hr; rw [cY]; exact .snd (ih hr)
 | conv h c k ih ik => intro σ D hr; exact .conv (ih hr) (c.sub σ) (ik hr)
theorem tr.one {G : List Tm} {u A : Tm} (h : Ty G u A) : tr (sc u var) (A :: G) G := by
 intro n B hB
 cases n with
 | zero =>
  simp only [look, Option.some.injEq] at hB; subst hB
  rw [gp, bX]; exact h
 | succ n =>
  obtain ⟨C, hC, rfl⟩ := Option.map_eq_some_iff.1 hB
  rw [gp, bX]; exact .var hC
theorem Ty.inst {G : List Tm} {t u A B : Tm} (h : Ty (A :: G) t B) (k : Ty G u A) : Ty G (t.inst u) (B.inst u) := h.sub (tr.one k)
theorem Ty.ctx {G : List Tm} {t A A' B : Tm} {i : Nat} (h : Ty (A :: G) t B) (c : Conv A' A) (k : Ty G A (Tm.sort i)) : Ty (A' :: G) t B := by
 have : tr Tm.var (A :: G) (A' :: G) := by
  intro n C hC
  rw [bX]
  cases n with
  | zero =>
   simp only [look, Option.some.injEq] at hC; subst hC
   exact .conv (.var rfl) (c.ren _) (k.wk _)
  | succ n => exact .var hC
 have h2 := h.sub this
 rwa [bX, bX] at h2
def Gen (G : List Tm) : Tm → Tm → Prop
 | var n, C => ∃ A, look G n = some A ∧ Conv A C
 | sort n, C => n < 3 ∧ Conv (sort (n + 1)) C
 | pi A B, C => ∃ i j, Ty G A (sort i) ∧ Ty (A :: G) B (sort j) ∧ Conv (sort (max i j)) C
 | sig A B, C => ∃ i j, Ty G A (sort i) ∧ Ty (A :: G) B (sort j) ∧ Conv (sort (max i j)) C
 | lam A b, C => ∃ B i j, Ty G A (sort i) ∧ Ty (A :: G) b B ∧ Ty (A :: G) B (sort j) ∧ Conv (pi A B) C
 | app f u, C => ∃ A B, Ty G f (pi A B) ∧ Ty G u A ∧ Conv (B.inst u) C
 | nat, C => Conv (sort 0) C
 | zero, C => Conv nat C
 | succ n, C => Ty G n nat ∧ Conv nat C
 | elim p z s n, C => ∃ i, Ty G p (pi nat (sort i)) ∧ Ty G z (app p zero) ∧ Ty G s (br p) ∧ Ty G n nat ∧ Conv (app p n) C
 | id t a b, C => ∃ i, Ty G t (sort i) ∧ Ty G a t ∧ Ty G b t ∧ Conv (sort i) C
 | refl a, C => ∃ A i, Ty G a A ∧ Ty G A (sort i) ∧ Conv (id A a a) C
 | move p e x, C => ∃ t y z i, Ty G e (id t y z) ∧ Ty G p (pi t (sort i)) ∧ Ty G x (app p y) ∧ Conv (app p z) C
 | pair s a b, C => ∃ A B i j, Ty G s (sort i) ∧ Red s (sig A B) ∧ Ty G (sig A B) (sort j) ∧ Ty G a A ∧ Ty G b (B.inst a) ∧ Conv s C
 | fst q, C => ∃ A B, Ty G q (sig A B) ∧ Conv A C
 | snd q, C => ∃ A B, Ty G q (sig A B) ∧ Conv (B.inst (fst q)) C
theorem Gen.conv {G : List Tm} {t A B : Tm} (h : Gen G t A) (c : Conv A B) : Gen G t B := by
 cases t with
 | var n => obtain ⟨X, h1, h2⟩ := h; exact ⟨X, h1, h2.trans c⟩
 | sort n => exact ⟨h.1, h.2.trans c⟩
 | pi a b => obtain ⟨i, j, h1, h2, h3⟩ := h; exact ⟨i, j, h1, h2, h3.trans c⟩
 | sig a b => obtain ⟨i, j, h1, h2, h3⟩ := h; exact ⟨i, j, h1, h2, h3.trans c⟩
 | lam a b => obtain ⟨X, i, j, h1, h2, h3, h4⟩ := h; exact ⟨X, i, j, h1, h2, h3, h4.trans c⟩
 | app f u => obtain ⟨X, Y, h1, h2, h3⟩ := h; exact ⟨X, Y, h1, h2, h3.trans c⟩
 | nat => exact Conv.trans h c
 | zero => exact Conv.trans h c
 | succ n => exact ⟨h.1, h.2.trans c⟩
 | elim p z s n => obtain ⟨i, h1, h2, h3, h4, h5⟩ := h; exact ⟨i, h1, h2, h3, h4, h5.trans c⟩
 | id t a b => obtain ⟨i, h1, h2, h3, h4⟩ := h; exact ⟨i, h1, h2, h3, h4.trans c⟩
 | refl a => obtain ⟨X, i, h1, h2, h3⟩ := h; exact ⟨X, i, h1, h2, h3.trans c⟩
 | move p e x => obtain ⟨t, y, z, i, h1, h2, h3, h4⟩ := h; exact ⟨t, y, z, i, h1, h2, h3, h4.trans c⟩
 | pair s a b => obtain ⟨X, Y, i, j, h1, h2, h3, h4, h5, h6⟩ := h; exact ⟨X, Y, i, j, h1, h2, h3, h4, h5, h6.trans c⟩
 | fst q => obtain ⟨X, Y, h1, h2⟩ := h; exact ⟨X, Y, h1, h2.trans c⟩
 | snd q => obtain ⟨X, Y, h1, h2⟩ := h; exact ⟨X, Y, h1, h2.trans c⟩
theorem Ty.gen {G : List Tm} {t A : Tm} (h : Ty G t A) : Gen G t A := by
 induction h with
 | var h => exact ⟨_, h, .bg⟩
 | sort h => exact ⟨h, .bg⟩
 | pi h k => exact ⟨_, _, h, k, .bg⟩
 | sig h k => exact ⟨_, _, h, k, .bg⟩
 | lam h k l => exact ⟨_, _, _, h, k, l, .bg⟩
 | app h k => exact ⟨_, _, h, k, .bg⟩
 | nat => exact .bg
 | zero => exact .bg
 | succ h => exact ⟨h, .bg⟩
 | elim h k l m => exact ⟨_, h, k, l, m, .bg⟩
 | id h k l => exact ⟨_, h, k, l, .bg⟩
 | refl h k => exact ⟨_, _, h, k, .bg⟩
 | move h k l m => exact ⟨_, _, _, _, h, k, l, .bg⟩
 | pair h r q k l => exact ⟨_, _, _, _, h, r, q, k, l, .bg⟩
 | fst h => exact ⟨_, _, h, .bg⟩
 | snd h => exact ⟨_, _, h, .bg⟩
 | conv h c k ih _ => exact ih.conv c
inductive Wf : List Tm → Prop
 | nil : Wf []
 | cons {A G i} (w : Wf G) (h : Ty G A (sort i)) : Wf (A :: G)
theorem Wf.look {G : List Tm} (w : Wf G) : ∀ {n A}, look G n = some A → ∃ i, Ty G A (Tm.sort i) := by
 induction w with
 | nil => intro n A h; cases h
 | cons w h ih =>
  intro n A hA
  cases n with
  | zero => simp only [Tm.look, Option.some.injEq] at hA; subst hA; exact ⟨_, h.wk _⟩
  | succ n =>
   obtain ⟨C, hC, rfl⟩ := Option.map_eq_some_iff.1 hA
   obtain ⟨i, hi⟩ := ih hC
   exact ⟨i, hi.wk _⟩
def Fy (G : List Tm) (A : Tm) : Prop := A = sort 3 ∨ ∃ i, Ty G A (sort i)
theorem Ty.u7 {G : List Tm} {n : Nat} {C : Tm} (h : Ty G (Tm.sort n) C) : n < 3 := h.gen.1
theorem Fy.le {G : List Tm} {i : Nat} (h : Fy G (sort i)) : i ≤ 3 := by
 rcases h with h | ⟨j, h⟩
 ·cases h; omega
 ·have := h.u7; omega
theorem Fy.of_le {G : List Tm} {i : Nat} (h : i ≤ 3) : Fy G (sort i) := by
 by_cases h3 : i = 3
 ·subst h3; exact .inl rfl
 ·exact .inr ⟨_, .sort (by omega)⟩
theorem Ty.valid {G : List Tm} {t A : Tm} (h : Ty G t A) : Wf G → Fy G A := by
 induction h with
 | var h => intro w; exact .inr (w.look h)
 | sort h => intro w; exact .of_le (by omega)
 | pi h k ih ik => intro w; have := (ih w).le; have := (ik (.cons w h)).le; exact .of_le (by omega)
 | sig h k ih ik => intro w; have := (ih w).le; have := (ik (.cons w h)).le; exact .of_le (by omega)
 | lam h k l ih ik il => intro w; exact .inr ⟨_, .pi h l⟩
 | app h k ih ik =>
  intro w
  rcases ih w with e | ⟨i, hi⟩
  ·cases e
  ·obtain ⟨i, j, h1, h2, h3⟩ := hi.gen
   exact .inr ⟨j, h2.inst k⟩
 | nat => intro w; exact .of_le (by omega)
 | zero => intro w; exact .inr ⟨_, .nat⟩
 | succ h ih => intro w; exact .inr ⟨_, .nat⟩
 | elim h k l m ih ik il im => intro w; exact .inr ⟨_, .app h m⟩
 | id h k l ih ik il => intro w; exact ih w
 | refl h k ih ik => intro w; exact .inr ⟨_, .id k h h⟩
 | move h k l m ih ik il im => intro w; exact .inr ⟨_, .app k m⟩
 | pair h r q k l ih iq ik il => intro w; exact .inr ⟨_, h⟩
 | fst h ih =>
  intro w
  rcases ih w with e | ⟨i, hi⟩
  ·cases e
  ·obtain ⟨i, j, h1, h2, h3⟩ := hi.gen
   exact .inr ⟨_, h1⟩
 | snd h ih =>
  intro w
  rcases ih w with e | ⟨i, hi⟩
  ·cases e
  ·obtain ⟨i, j, h1, h2, h3⟩ := hi.gen
   exact .inr ⟨_, h2.inst (.fst h)⟩
 | conv h c k ih ik => intro w; exact .inr ⟨_, k⟩
theorem Ty.Ac {G : List Tm} {p u t : Tm} {i : Nat} (h : Ty G p (Tm.pi t (Tm.sort i))) (k : Ty G u t) : Ty G (Tm.app p u) (Tm.sort i) := .app h k
theorem Ty.br {G : List Tm} {p : Tm} {i : Nat} (h : Ty G p (Tm.pi Tm.nat (Tm.sort i))) : Ty G (Tm.br p) (Tm.sort (max 0 (max i i))) := by
 refine .pi .nat (.pi ?_ ?_)
 ·exact Ty.Ac (t := Tm.nat) (h.wk _) (.var rfl)
 ·exact Ty.Ac (t := Tm.nat) ((h.wk _).wk _) (.succ (.var rfl))
theorem Conv.br {p q : Tm} (h : Conv p q) : Conv (br p) (Tm.br q) :=
 Conv.pi .bg (Conv.pi (Conv.app (h.ren _) .bg) (Conv.app ((h.ren _).ren _) .bg))
theorem mZ (p n x : Tm) : ((app p.wk.wk (succ (var 1))).sub (ups (sc n var))).inst x = app p (succ n) := by
 rw [rV]
 show app (p.wk.wk.sub _) (succ _) = _
 rw [gp, gp, bX]; rfl
theorem yC {G : List Tm} {p n s x : Tm} (h : Ty G s (br p)) (k : Ty G n nat) (l : Ty G x (app p n)) : Ty G (app (app s n) x) (app p (succ n)) := by
 have h1 : Ty G (app s n) (pi ((app p.wk (var 0)).sub (sc n var)) ((app p.wk.wk (succ (var 1))).sub (ups (sc n var)))) := Ty.app h k
 have e1 : ((app p.wk (var 0)).sub (sc n var)) = app p n := by
  show app (p.wk.sub _) _ = _
  rw [gp, bX]; rfl
 rw [e1] at h1
 have h2 := Ty.app h1 l
 rwa [mZ] at h2
theorem Ty.par {G : List Tm} {t A : Tm} (h : Ty G t A) : Wf G → ∀ {t'}, Par t t' → Ty G t' A := by
 induction h with
 | var h => intro w t' r; cases r; exact .var h
 | sort h => intro w t' r; cases r; exact .sort h
 | pi h k ih ik =>
  intro w t' r
  cases r with
  | pi r q => exact .pi (ih w r) ((ik (.cons w h) q).ctx r.conv.symm h)
 | sig h k ih ik =>
  intro w t' r
  cases r with
  | sig r q => exact .sig (ih w r) ((ik (.cons w h) q).ctx r.conv.symm h)
 | lam h k l ih ik il =>
  intro w t' r
  cases r with
  | lam r q =>
   refine .conv (.lam (ih w r) ((ik (.cons w h) q).ctx r.conv.symm h) (l.ctx r.conv.symm h)) (Conv.pi r.conv.symm .bg) (.pi h l)
 | app h k ih ik =>
  intro w t' r
  have v := (Ty.app h k).valid w
  have back : ∀ {X}, Ty _ t' X → Conv X _ → Ty _ t' _ := fun {X} g c => by
   rcases v with e | ⟨i, hi⟩
   ·exact absurd e (by
      intro e
      rcases h.valid w with e' | ⟨i, hi⟩
      ·cases e'
      ·obtain ⟨i, j, h1, h2, h3⟩ := hi.gen
       have := (h2.inst k)
       rw [e] at this
       exact absurd this.u7 (by omega))
   ·exact .conv g c hi
  cases r with
  | app r q => exact back (.app (ih w r) (ik w q)) (Conv.inst .bg q.conv.symm)
  | beta r q =>
   rename_i A0 b b' u'
   obtain ⟨X, i, j, h1, h2, h3, h4⟩ := (ih w (.lam (Par.bg _) r)).gen
   obtain ⟨c1, c2⟩ := h4.gZ
   have hu := Ty.conv (ik w q) c1.symm h1
   exact back (h2.inst hu) (Conv.inst c2 q.conv.symm)
 | nat => intro w t' r; cases r; exact .nat
 | zero => intro w t' r; cases r; exact .zero
 | succ h ih => intro w t' r; cases r with | succ r => exact .succ (ih w r)
 | elim h k l m ih ik il im =>
  intro w t' r
  have kz : ∀ {p'}, Par _ p' → Ty _ (Tm.app p' Tm.zero) (Tm.sort _) := fun r => Ty.Ac (ih w r) .zero
  cases r with
  | elim r q o v =>
   exact .conv (.elim (ih w r) (.conv (ik w q) (Conv.app r.conv .bg) (kz r)) (.conv (il w o) (Conv.br r.conv) (Ty.br (ih w r))) (im w v)) (Conv.app r.conv.symm v.conv.symm) (Ty.Ac h m)
  | ezero q => exact ik w q
  | esucc r q o v =>
   have hm := (im w (.succ v)).gen.1
   have he := Ty.elim (ih w r) (.conv (ik w q) (Conv.app r.conv .bg) (kz r)) (.conv (il w o) (Conv.br r.conv) (Ty.br (ih w r))) hm
   have he' := Ty.conv he (Conv.app r.conv.symm .bg) (Ty.Ac h hm)
   have h3 := yC (il w o) hm he'
   exact .conv h3 (Conv.app .bg (Conv.succ v.conv.symm)) (Ty.Ac h m)
 | id h k l ih ik il =>
  intro w t' r
  cases r with
  | id r q o => exact .id (ih w r) (.conv (ik w q) r.conv (ih w r)) (.conv (il w o) r.conv (ih w r))
 | refl h k ih ik =>
  intro w t' r
  cases r with
  | refl r => exact .conv (.refl (ih w r) k) (Conv.id .bg r.conv.symm r.conv.symm) (.id k h h)
 | move h k l m ih ik il im =>
  intro w t' r
  obtain ⟨i, g2, g3, g4⟩ : ∃ i, Ty _ _ (Tm.sort i) ∧ Ty _ _ _ ∧ Ty _ _ _ := by
   rcases h.valid w with e | ⟨i, hi⟩
   ·cases e
   ·obtain ⟨i, h1, h2, h3, h4⟩ := hi.gen
    exact ⟨i, h1, h2, h3⟩
  cases r with
  | move r q o =>
   have hp := ik w r
   exact .conv (.move (ih w q) hp (.conv (il w o) (Conv.app r.conv .bg) (Ty.Ac hp g3)) m) (Conv.app r.conv.symm .bg) (Ty.Ac k g4)
  | mrefl o =>
   obtain ⟨X, i, h1, h2, h3⟩ := h.gen
   obtain ⟨_, c1, c2⟩ := h3.jQ
   exact .conv (il w o) (Conv.app .bg (c1.symm.trans c2)) (Ty.Ac k g4)
 | pair h r q k l ih iq ik il =>
  intro w t' z
  cases z with
  | pair z o v =>
   obtain ⟨x, h1, h2⟩ := Red.strip z r
   cases h2 with
   | sig r1 r2 =>
    have hs := ih w z
    have hq := iq w (.sig r1 r2)
    obtain ⟨i', j', g1, g2, g3⟩ := hq.gen
    have ha := Ty.conv (ik w o) r1.conv g1
    have hb := Ty.conv (il w v) (Conv.inst r2.conv o.conv) (g2.inst ha)
    exact .conv (.pair hs h1 hq ha hb) z.conv.symm h
 | fst h ih =>
  intro w t' r
  obtain ⟨i, j, g1, g2, g3⟩ : ∃ i j, Ty _ _ (Tm.sort i) ∧ Ty _ _ (Tm.sort j) ∧ True := by
   rcases h.valid w with e | ⟨i, hi⟩
   ·cases e
   ·obtain ⟨i, j, h1, h2, h3⟩ := hi.gen
    exact ⟨i, j, h1, h2, trivial⟩
  cases r with
  | fst r => exact .fst (ih w r)
  | fpair r =>
   obtain ⟨X, Y, i, j, h1, h2, h3, h4, h5, h6⟩ := (ih w (.pair (Par.bg _) r (Par.bg _))).gen
   have c := (h2.conv.symm.trans h6).gb
   exact .conv h4 c.1 g1
 | snd h ih =>
  intro w t' r
  obtain ⟨i, j, g1, g2, g3⟩ : ∃ i j, Ty _ _ (Tm.sort i) ∧ Ty _ _ (Tm.sort j) ∧ True := by
   rcases h.valid w with e | ⟨i, hi⟩
   ·cases e
   ·obtain ⟨i, j, h1, h2, h3⟩ := hi.gen
    exact ⟨i, j, h1, h2, trivial⟩
  have g4 := g2.inst (.fst h)
  cases r with
  | snd r => exact .conv (.snd (ih w r)) (Conv.inst .bg (Conv.fst r.conv.symm)) g4
  | spair r =>
   obtain ⟨X, Y, i, j, h1, h2, h3, h4, h5, h6⟩ := (ih w (.pair (Par.bg _) (Par.bg _) r)).gen
   have c := (h2.conv.symm.trans h6).gb
   exact .conv h5 (Conv.inst c.2 (Conv.symm (Par.conv (.fpair (Par.bg _))))) g4
 | conv h c k ih ik => intro w t' r; exact .conv (ih w r) c k
theorem Ty.red {G : List Tm} {t t' A : Tm} (h : Ty G t A) (w : Wf G) (r : Red t t') : Ty G t' A := by
 induction r with
 | nil => exact h
 | cons r _ ih => exact ih (h.par w r)
end Tm
end Go.Proofs.Ytajlknlnmmbfcaa
end
section
namespace Go.Proofs.Ytajlknlnmmbfcaa
namespace Tm
inductive Al : List Tm → Tm → Tm → Prop
 | var {G n A} (h : look G n = some A) : Al G (var n) A
 | sort {G n} (h : n < 3) : Al G (sort n) (sort (n + 1))
 | nat {G} : Al G nat (sort 0)
 | zero {G} : Al G zero nat
 | succ {G n T} (h : Al G n T) (c : Conv T nat) : Al G (succ n) nat
 | pi {G A B S R i j} (h : Al G A S) (w : Wh S (sort i)) (k : Al (A :: G) B R) (v : Wh R (sort j)) : Al G (pi A B) (sort (max i j))
 | sig {G A B S R i j} (h : Al G A S) (w : Wh S (sort i)) (k : Al (A :: G) B R) (v : Wh R (sort j)) : Al G (sig A B) (sort (max i j))
 | lam {G A b B S R i j} (h : Al G A S) (w : Wh S (sort i)) (k : Al (A :: G) b B) (l : Al (A :: G) B R) (v : Wh R (sort j)) : Al G (lam A b) (pi A B)
 | app {G f u F U C B} (h : Al G f F) (w : Wh F (pi C B)) (k : Al G u U) (c : Conv U C) : Al G (app f u) (B.inst u)
 | elim {G p z s n P C D i Z S N} (h : Al G p P) (w : Wh P (pi C D)) (c : Conv C nat) (v : Wh D (sort i)) (k : Al G z Z) (d : Conv Z (app p zero)) (l : Al G s S) (e : Conv S (br p)) (m : Al G n N) (f : Conv N nat) : Al G (elim p z s n) (app p n)
 | id {G t a b S A B i} (h : Al G t S) (w : Wh S (sort i)) (k : Al G a A) (c : Conv A t) (l : Al G b B) (d : Conv B t) : Al G (id t a b) (sort i)
 | refl {G a A S i} (h : Al G a A) (k : Al G A S) (w : Wh S (sort i)) : Al G (refl a) (id A a a)
 | move {G p e x Q t y z P C D i X} (h : Al G e Q) (w : Wh Q (id t y z)) (k : Al G p P) (v : Wh P (pi C D)) (c : Conv C t) (u : Wh D (sort i)) (l : Al G x X) (d : Conv X (app p y)) : Al G (move p e x) (app p z)
 | pair {G s a b S i A B A' B'} (h : Al G s S) (w : Wh S (sort i)) (v : Wh s (Tm.sig A B)) (k : Al G a A') (c : Conv A' A) (l : Al G b B') (d : Conv B' (B.inst a)) : Al G (pair s a b) s
 | fst {G q Q A B} (h : Al G q Q) (w : Wh Q (sig A B)) : Al G (fst q) A
 | snd {G q Q A B} (h : Al G q Q) (w : Wh Q (sig A B)) : Al G (snd q) (B.inst (fst q))
theorem Ty.lvl {G : List Tm} {A S : Tm} {i : Nat} (h : Ty G A S) (w : Wf G) (r : Wh S (Tm.sort i)) : Ty G A (Tm.sort i) := by
 rcases h.valid w with e | ⟨j, hj⟩
 ·subst e
  cases r with
  | nil => exact h
  | cons r _ => cases r
 ·exact .conv h r.conv (hj.red w r.red)
theorem Ty.frm {G : List Tm} {t S F : Tm} (h : Ty G t S) (w : Wf G) (r : Wh S F) : Ty G t F := by
 rcases h.valid w with e | ⟨j, hj⟩
 ·subst e
  cases r with
  | nil => exact h
  | cons r _ => cases r
 ·exact .conv h r.conv (hj.red w r.red)
theorem Ty.wA {G : List Tm} {t C B : Tm} (h : Ty G t (Tm.pi C B)) (w : Wf G) : ∃ i j, Ty G C (Tm.sort i) ∧ Ty (C :: G) B (Tm.sort j) := by
 rcases h.valid w with e | ⟨i, hi⟩
 ·cases e
 ·obtain ⟨i, j, h1, h2, h3⟩ := hi.gen; exact ⟨i, j, h1, h2⟩
theorem Ty.CS {G : List Tm} {e t y z : Tm} (h : Ty G e (Tm.id t y z)) (w : Wf G) : ∃ i, Ty G t (Tm.sort i) ∧ Ty G y t ∧ Ty G z t := by
 rcases h.valid w with e | ⟨i, hi⟩
 ·cases e
 ·obtain ⟨i, h1, h2, h3, h4⟩ := hi.gen; exact ⟨i, h1, h2, h3⟩
theorem Ty.fam {G : List Tm} {p C D t : Tm} {i j : Nat} (h : Ty G p (Tm.pi C D)) (w : Wf G) (c : Conv C t) (r : Wh D (Tm.sort i)) (k : Ty G t (Tm.sort j)) : Ty G p (Tm.pi t (Tm.sort i)) := by
 obtain ⟨i1, j1, h1, h2⟩ := h.wA w
 have h3 := h2.red (.cons w h1) r.red
 have h4 : Ty (t :: G) (Tm.sort i) (Tm.sort (i + 1)) := .sort h3.u7
 exact .conv h (Conv.pi c r.conv) (.pi k h4)
theorem Al.sound {G : List Tm} {t A : Tm} (h : Al G t A) : Wf G → Ty G t A := by
 induction h with
 | var h => intro w; exact .var h
 | sort h => intro w; exact .sort h
 | nat => intro w; exact .nat
 | zero => intro w; exact .zero
 | succ h c ih => intro w; exact .succ (.conv (ih w) c .nat)
 | pi h r k v ih ik => intro w; have a := (ih w).lvl w r; exact .pi a ((ik (.cons w a)).lvl (.cons w a) v)
 | sig h r k v ih ik => intro w; have a := (ih w).lvl w r; exact .sig a ((ik (.cons w a)).lvl (.cons w a) v)
 | lam h r k l v ih ik il => intro w; have a := (ih w).lvl w r; exact .lam a (ik (.cons w a)) ((il (.cons w a)).lvl (.cons w a) v)
 | app h r k c ih ik =>
  intro w
  have hf := (ih w).frm w r
  obtain ⟨i, j, h1, h2⟩ := hf.wA w
  exact .app hf (.conv (ik w) c h1)
 | elim h r c v k d l e m f ih ik il im =>
  intro w
  have hp := ((ih w).frm w r).fam w c v .nat
  exact .elim hp (.conv (ik w) d (Ty.Ac hp .zero)) (.conv (il w) e (Ty.br hp)) (.conv (im w) f .nat)
 | id h r k c l d ih ik il =>
  intro w
  have a := (ih w).lvl w r
  exact .id a (.conv (ik w) c a) (.conv (il w) d a)
 | refl h k r ih ik => intro w; exact .refl (ih w) ((ik w).lvl w r)
 | move h r k v c u l d ih ik il =>
  intro w
  have he := (ih w).frm w r
  obtain ⟨i, h1, h2, h3⟩ := he.CS w
  have hp := ((ik w).frm w v).fam w c u h1
  exact .move he hp (.conv (il w) d (Ty.Ac hp h2)) h3
 | pair h r v k c l d ih ik il =>
  intro w
  have hs := (ih w).lvl w r
  have hq := hs.red w v.red
  obtain ⟨i, j, h1, h2, h3⟩ := hq.gen
  have ha := Ty.conv (ik w) c h1
  exact .pair hs v.red hq ha (.conv (il w) d (h2.inst ha))
 | fst h r ih => intro w; exact .fst ((ih w).frm w r)
 | snd h r ih => intro w; exact .snd ((ih w).frm w r)
theorem Hd.b9 {t u : Tm} {ξ : Nat → Nat} (h : Hd (t.ren ξ) u) : ∃ v, u = v.ren ξ ∧ Hd t v := by
 generalize e : t.ren ξ = x at h
 induction h generalizing t with
 | beta =>
  cases t <;> simp only [Tm.ren, reduceCtorEq, Tm.app.injEq] at e
  rename_i f a
  obtain ⟨e1, e2⟩ := e
  cases f <;> simp only [Tm.ren, reduceCtorEq, Tm.lam.injEq] at e1
  obtain ⟨_, e1⟩ := e1; subst e1 e2
  exact ⟨_, (fi _ _ _).symm, .beta⟩
 | ezero =>
  cases t <;> simp only [Tm.ren, reduceCtorEq, Tm.elim.injEq] at e
  rename_i p z s n
  obtain ⟨e1, e2, e3, e4⟩ := e
  cases n <;> simp only [Tm.ren, reduceCtorEq] at e4
  subst e2
  exact ⟨_, rfl, .ezero⟩
 | esucc =>
  cases t <;> simp only [Tm.ren, reduceCtorEq, Tm.elim.injEq] at e
  rename_i p z s n
  obtain ⟨e1, e2, e3, e4⟩ := e
  cases n <;> simp only [Tm.ren, reduceCtorEq, Tm.succ.injEq] at e4
  subst e1 e2 e3 e4
  exact ⟨Tm.app (Tm.app s _) (Tm.elim p z s _), rfl, .esucc⟩
 | mrefl =>
  cases t <;> simp only [Tm.ren, reduceCtorEq, Tm.move.injEq] at e
  rename_i p q x
  obtain ⟨e1, e2, e3⟩ := e
  cases q <;> simp only [Tm.ren, reduceCtorEq, Tm.refl.injEq] at e2
  subst e3
  exact ⟨_, rfl, .mrefl⟩
 | fpair =>
  cases t <;> simp only [Tm.ren, reduceCtorEq, Tm.fst.injEq] at e
  rename_i q
  cases q <;> simp only [Tm.ren, reduceCtorEq, Tm.pair.injEq] at e
  obtain ⟨e1, e2, e3⟩ := e
  subst e2
  exact ⟨_, rfl, .fpair⟩
 | spair =>
  cases t <;> simp only [Tm.ren, reduceCtorEq, Tm.snd.injEq] at e
  rename_i q
  cases q <;> simp only [Tm.ren, reduceCtorEq, Tm.pair.injEq] at e
  obtain ⟨e1, e2, e3⟩ := e
  subst e3
  exact ⟨_, rfl, .spair⟩
 | app h ih =>
  cases t <;> simp only [Tm.ren, reduceCtorEq, Tm.app.injEq] at e
  obtain ⟨e1, e2⟩ := e; subst e2
  obtain ⟨v, rfl, hv⟩ := ih e1
  exact ⟨_, rfl, .app hv⟩
 | elim h ih =>
  cases t <;> simp only [Tm.ren, reduceCtorEq, Tm.elim.injEq] at e
  obtain ⟨e1, e2, e3, e4⟩ := e; subst e1 e2 e3
  obtain ⟨v, rfl, hv⟩ := ih e4
  exact ⟨_, rfl, .elim hv⟩
 | move h ih =>
  cases t <;> simp only [Tm.ren, reduceCtorEq, Tm.move.injEq] at e
  obtain ⟨e1, e2, e3⟩ := e; subst e1 e3
  obtain ⟨v, rfl, hv⟩ := ih e2
  exact ⟨_, rfl, .move hv⟩
 | fst h ih =>
  cases t <;> simp only [Tm.ren, reduceCtorEq, Tm.fst.injEq] at e
  obtain ⟨v, rfl, hv⟩ := ih e
  exact ⟨_, rfl, .fst hv⟩
 | snd h ih =>
  cases t <;> simp only [Tm.ren, reduceCtorEq, Tm.snd.injEq] at e
  obtain ⟨v, rfl, hv⟩ := ih e
  exact ⟨_, rfl, .snd hv⟩
theorem Wh.b9 {t u : Tm} {ξ : Nat → Nat} (h : Wh (t.ren ξ) u) : ∃ v, u = v.ren ξ ∧ Wh t v := by
 generalize e : t.ren ξ = x at h
 induction h generalizing t with
 | nil => exact ⟨t, e.symm, .nil⟩
 | cons h _ ih =>
  subst e
  obtain ⟨v, rfl, hv⟩ := h.b9
  obtain ⟨v', rfl, hv'⟩ := ih rfl
  exact ⟨v', rfl, .cons hv hv'⟩
theorem Wh.Aq {t a b : Tm} {ξ : Nat → Nat} (h : Wh (t.ren ξ) (Tm.pi a b)) : ∃ a' b', a = a'.ren ξ ∧ b = b'.ren (up ξ) ∧ Wh t (Tm.pi a' b') := by
 obtain ⟨v, e, hv⟩ := h.b9
 cases v <;> simp only [Tm.ren, reduceCtorEq, Tm.pi.injEq] at e
 obtain ⟨rfl, rfl⟩ := e; exact ⟨_, _, rfl, rfl, hv⟩
theorem Wh.vT {t a b : Tm} {ξ : Nat → Nat} (h : Wh (t.ren ξ) (Tm.sig a b)) : ∃ a' b', a = a'.ren ξ ∧ b = b'.ren (up ξ) ∧ Wh t (Tm.sig a' b') := by
 obtain ⟨v, e, hv⟩ := h.b9
 cases v <;> simp only [Tm.ren, reduceCtorEq, Tm.sig.injEq] at e
 obtain ⟨rfl, rfl⟩ := e; exact ⟨_, _, rfl, rfl, hv⟩
theorem Wh.pP {t a b c : Tm} {ξ : Nat → Nat} (h : Wh (t.ren ξ) (Tm.id a b c)) : ∃ a' b' c', a = a'.ren ξ ∧ b = b'.ren ξ ∧ c = c'.ren ξ ∧ Wh t (Tm.id a' b' c') := by
 obtain ⟨v, e, hv⟩ := h.b9
 cases v <;> simp only [Tm.ren, reduceCtorEq, Tm.id.injEq] at e
 obtain ⟨rfl, rfl, rfl⟩ := e; exact ⟨_, _, _, rfl, rfl, rfl, hv⟩
theorem Wh.dK {t : Tm} {i : Nat} {ξ : Nat → Nat} (h : Wh (t.ren ξ) (Tm.sort i)) : Wh t (Tm.sort i) := by
 obtain ⟨v, e, hv⟩ := h.b9
 cases v <;> simp only [Tm.ren, reduceCtorEq, Tm.sort.injEq] at e
 subst e; exact hv
theorem Conv.b9 {a b : Tm} {ξ η : Nat → Nat} (he : ∀ n, η (ξ n) = n) (h : Conv (a.ren ξ) (b.ren ξ)) : Conv a b := by
 have := h.ren η
 rw [fy, fy, show (fun n => η (ξ n)) = fun n => n from funext he, Tm.pP, Tm.pP] at this
 exact this
def uM (ξ : Nat → Nat) (G D : List Tm) : Prop := ∀ n, look D (ξ n) = (look G n).map (·.ren ξ)
theorem uM.up {ξ : Nat → Nat} {G D : List Tm} (h : uM ξ G D) (A : Tm) : uM (up ξ) (A :: G) (A.ren ξ :: D) := by
 intro n
 cases n with
 | zero => show some (A.ren ξ).wk = some (A.wk.ren (Tm.up ξ)); rw [AN]
 | succ n =>
  show (look D (ξ n)).map wk = ((look G n).map wk).map _
  rw [h n]
  cases look G n with
  | none => rfl
  | some C => simp only [Option.map_some, AN]
theorem uM.wk (G : List Tm) (A : Tm) : uM (· + 1) G (A :: G) := fun n => rfl
theorem xp {ξ η : Nat → Nat} (he : ∀ n, η (ξ n) = n) : ∀ n, up η (up ξ n) = n := by
 intro n; cases n with
 | zero => rfl
 | succ n => show η (ξ n) + 1 = _; rw [he]
theorem Al.b9 {D : List Tm} {x T : Tm} (h : Al D x T) : ∀ {t : Tm} {ξ η : Nat → Nat} {G : List Tm}, x = t.ren ξ → uM ξ G D → (∀ n, η (ξ n) = n) → ∃ T', T = T'.ren ξ ∧ Al G t T' := by
 induction h with
 | var h =>
  intro t ξ η G e hr he
  cases t <;> simp only [Tm.ren, reduceCtorEq, Tm.var.injEq] at e
  rename_i n
  subst e
  rw [hr n] at h
  obtain ⟨C, hC, rfl⟩ := Option.map_eq_some_iff.1 h
  exact ⟨C, rfl, .var hC⟩
 | sort h =>
  intro t ξ η G e hr he
  cases t <;> simp only [Tm.ren, reduceCtorEq, Tm.sort.injEq] at e
  subst e
  exact ⟨Tm.sort _, rfl, .sort h⟩
 | nat =>
  intro t ξ η G e hr he
  cases t <;> simp only [Tm.ren, reduceCtorEq] at e
  exact ⟨Tm.sort 0, rfl, .nat⟩
 | zero =>
  intro t ξ η G e hr he
  cases t <;> simp only [Tm.ren, reduceCtorEq] at e
  exact ⟨Tm.nat, rfl, .zero⟩
 | succ h c ih =>
  intro t ξ η G e hr he
  cases t <;> simp only [Tm.ren, reduceCtorEq, Tm.succ.injEq] at e
  obtain ⟨T', rfl, hT⟩ := ih e hr he
  exact ⟨Tm.nat, rfl, .succ hT (Conv.b9 (b := Tm.nat) he c)⟩
 | pi h w k v ih ik =>
  intro t ξ η G e hr he
  cases t <;> simp only [Tm.ren, reduceCtorEq, Tm.pi.injEq] at e
  obtain ⟨rfl, e2⟩ := e
  obtain ⟨S, rfl, hS⟩ := ih rfl hr he
  obtain ⟨R, rfl, hR⟩ := ik e2 (hr.up _) (xp he)
  exact ⟨Tm.sort _, rfl, .pi hS w.dK hR v.dK⟩
 | sig h w k v ih ik =>
  intro t ξ η G e hr he
  cases t <;> simp only [Tm.ren, reduceCtorEq, Tm.sig.injEq] at e
  obtain ⟨rfl, e2⟩ := e
  obtain ⟨S, rfl, hS⟩ := ih rfl hr he
  obtain ⟨R, rfl, hR⟩ := ik e2 (hr.up _) (xp he)
  exact ⟨Tm.sort _, rfl, .sig hS w.dK hR v.dK⟩
 | lam h w k l v ih ik il =>
  intro t ξ η G e hr he
  cases t <;> simp only [Tm.ren, reduceCtorEq, Tm.lam.injEq] at e
  obtain ⟨rfl, e2⟩ := e
  obtain ⟨S, rfl, hS⟩ := ih rfl hr he
  obtain ⟨B, rfl, hB⟩ := ik e2 (hr.up _) (xp he)
  obtain ⟨R, rfl, hR⟩ := il rfl (hr.up _) (xp he)
  exact ⟨Tm.pi _ _, rfl, .lam hS w.dK hB hR v.dK⟩
 | app h w k c ih ik =>
  intro t ξ η G e hr he
  cases t <;> simp only [Tm.ren, reduceCtorEq, Tm.app.injEq] at e
  obtain ⟨e1, rfl⟩ := e
  obtain ⟨F, rfl, hF⟩ := ih e1 hr he
  obtain ⟨U, rfl, hU⟩ := ik rfl hr he
  obtain ⟨a', b', rfl, rfl, w'⟩ := w.Aq
  exact ⟨_, (fi _ _ _).symm, .app hF w' hU (Conv.b9 he c)⟩
 | elim h w c v k d l e m f ih ik il im =>
  intro t ξ η G e' hr he
  cases t <;> simp only [Tm.ren, reduceCtorEq, Tm.elim.injEq] at e'
  obtain ⟨rfl, e2, e3, rfl⟩ := e'
  obtain ⟨P, rfl, hP⟩ := ih rfl hr he
  obtain ⟨a', b', rfl, rfl, w'⟩ := w.Aq
  obtain ⟨Z, rfl, hZ⟩ := ik e2 hr he
  obtain ⟨S, rfl, hS⟩ := il e3 hr he
  obtain ⟨N, rfl, hN⟩ := im rfl hr he
  rw [← qa] at e
  exact ⟨Tm.app _ _, rfl, .elim hP w' (Conv.b9 (b := Tm.nat) he c) v.dK hZ (Conv.b9 (b := Tm.app _ Tm.zero) he d) hS (Conv.b9 he e) hN (Conv.b9 (b := Tm.nat) he f)⟩
 | id h w k c l d ih ik il =>
  intro t ξ η G e hr he
  cases t <;> simp only [Tm.ren, reduceCtorEq, Tm.id.injEq] at e
  obtain ⟨rfl, e2, e3⟩ := e
  obtain ⟨S, rfl, hS⟩ := ih rfl hr he
  obtain ⟨A, rfl, hA⟩ := ik e2 hr he
  obtain ⟨B, rfl, hB⟩ := il e3 hr he
  exact ⟨Tm.sort _, rfl, .id hS w.dK hA (Conv.b9 he c) hB (Conv.b9 he d)⟩
 | refl h k w ih ik =>
  intro t ξ η G e hr he
  cases t <;> simp only [Tm.ren, reduceCtorEq, Tm.refl.injEq] at e
  subst e
  obtain ⟨A, rfl, hA⟩ := ih rfl hr he
  obtain ⟨S, rfl, hS⟩ := ik rfl hr he
  exact ⟨Tm.id _ _ _, rfl, .refl hA hS w.dK⟩
 | move h w k v c u l d ih ik il =>
  intro t ξ η G e hr he
  cases t <;> simp only [Tm.ren, reduceCtorEq, Tm.move.injEq] at e
  obtain ⟨rfl, e2, e3⟩ := e
  obtain ⟨Q, rfl, hQ⟩ := ih e2 hr he
  obtain ⟨a', b', c', rfl, rfl, rfl, w'⟩ := w.pP
  obtain ⟨P, rfl, hP⟩ := ik rfl hr he
  obtain ⟨a2, b2, rfl, rfl, v'⟩ := v.Aq
  obtain ⟨X, rfl, hX⟩ := il e3 hr he
  exact ⟨Tm.app _ _, rfl, .move hQ w' hP v' (Conv.b9 he c) u.dK hX (Conv.b9 (b := Tm.app _ _) he d)⟩
 | pair h w v k c l d ih ik il =>
  intro t ξ η G e hr he
  cases t <;> simp only [Tm.ren, reduceCtorEq, Tm.pair.injEq] at e
  obtain ⟨rfl, rfl, e3⟩ := e
  obtain ⟨S, rfl, hS⟩ := ih rfl hr he
  obtain ⟨a', b', rfl, rfl, v'⟩ := v.vT
  obtain ⟨A, rfl, hA⟩ := ik rfl hr he
  obtain ⟨B, rfl, hB⟩ := il e3 hr he
  rw [← fi] at d
  exact ⟨_, rfl, .pair hS w.dK v' hA (Conv.b9 he c) hB (Conv.b9 he d)⟩
 | fst h w ih =>
  intro t ξ η G e hr he
  cases t <;> simp only [Tm.ren, reduceCtorEq, Tm.fst.injEq] at e
  obtain ⟨Q, rfl, hQ⟩ := ih e hr he
  obtain ⟨a', b', rfl, rfl, w'⟩ := w.vT
  exact ⟨_, rfl, .fst hQ w'⟩
 | snd h w ih =>
  intro t ξ η G e hr he
  cases t <;> simp only [Tm.ren, reduceCtorEq, Tm.snd.injEq] at e
  subst e
  obtain ⟨Q, rfl, hQ⟩ := ih rfl hr he
  obtain ⟨a', b', rfl, rfl, w'⟩ := w.vT
  exact ⟨_, (fi _ (Tm.fst _) _).symm, .snd hQ w'⟩
theorem Al.FJ {G : List Tm} {A t T : Tm} (h : Al (A :: G) t.wk T) : ∃ T', T = T'.wk ∧ Al G t T' :=
 h.b9 (η := Nat.pred) rfl (uM.wk G A) (fun n => rfl)
end Tm
end Go.Proofs.Ytajlknlnmmbfcaa
end
section
namespace Go.Proofs.Ytajlknlnmmbfcaa
namespace Tm
def Canon : Tm → Prop
 | var _ | app _ _ | elim _ _ _ _ | move _ _ _ | fst _ | snd _ => False
 | _ => True
def ck (t : Tm) : Prop := ∀ u, Wh t u → ¬ Canon u
theorem Canon.no {t u : Tm} (h : Canon t) (k : Hd t u) : False := by cases k <;> exact h
theorem Canon.wh {t u : Tm} (h : Canon t) (k : Wh t u) : u = t := by
 cases k with
 | nil => rfl
 | cons k _ => exact (h.no k).elim
theorem Wh.same {t u v : Tm} (h : Wh t u) (k : Wh t v) (cu : Canon u) (cv : Canon v) : u = v := by
 rcases h.two k with r | r
 ·exact (cu.wh r).symm
 ·exact cv.wh r
theorem Canon.par {t u : Tm} (h : Canon t) (k : Par t u) : Canon u := by cases k <;> first | exact h | trivial
theorem Canon.red {t u : Tm} (h : Canon t) (k : Red t u) : Canon u := by
 induction k with
 | nil => exact h
 | cons k _ ih => exact ih (h.par k)
theorem ST.canon {t u : Tm} (h : ST t u) (c : Canon u) : ∃ v, Wh t v ∧ Canon v := by
 cases h with
 | var w => exact (c : False).elim
 | sort w => exact ⟨_, w, trivial⟩
 | pi w => exact ⟨_, w, trivial⟩
 | lam w => exact ⟨_, w, trivial⟩
 | app w => exact (c : False).elim
 | nat w => exact ⟨_, w, trivial⟩
 | zero w => exact ⟨_, w, trivial⟩
 | succ w => exact ⟨_, w, trivial⟩
 | elim w => exact (c : False).elim
 | id w => exact ⟨_, w, trivial⟩
 | refl w => exact ⟨_, w, trivial⟩
 | move w => exact (c : False).elim
 | sig w => exact ⟨_, w, trivial⟩
 | pair w => exact ⟨_, w, trivial⟩
 | fst w => exact (c : False).elim
 | snd w => exact (c : False).elim
theorem ck.conv {t u : Tm} (h : ck t) (c : Conv t u) : ck u := by
 intro v w k
 obtain ⟨x, h1, h2⟩ := c.trans w.conv
 obtain ⟨y, hy, cy⟩ := (h1.st).canon (k.red h2)
 exact h y hy cy
theorem ck.exp {t u : Tm} (w : Wh t u) (h : ck u) : ck t := h.conv w.conv.symm
theorem ck.red {t u : Tm} (w : Wh t u) (h : ck t) : ck u := fun v k c => h v (w.trans k) c
theorem ck.var (n : Nat) : ck (Tm.var n) := by
 intro u w c
 cases w with
 | nil => exact c
 | cons h _ => cases h
theorem ck.no {t u : Tm} (h : ck t) (k : Hd t u) : ck u := h.red (.cons k .nil)
theorem ck.app {f : Tm} (h : ck f) (u : Tm) : ck (Tm.app f u) := by
 have : ∀ {x y}, Wh x y → ∀ f, x = Tm.app f u → ck f → ¬ Canon y := by
  intro x y w
  induction w with
  | nil => intro f e hf; subst e; exact fun h => h
  | cons k _ ih => intro f e hf; subst e; cases k with
   | beta => exact (hf _ .nil trivial).elim
   | app k => exact ih _ rfl (hf.no k)
 exact fun y w => this w f rfl h
theorem ck.elim {n : Tm} (h : ck n) (p z s : Tm) : ck (Tm.elim p z s n) := by
 have : ∀ {x y}, Wh x y → ∀ n, x = Tm.elim p z s n → ck n → ¬ Canon y := by
  intro x y w
  induction w with
  | nil => intro f e hf; subst e; exact fun h => h
  | cons k _ ih => intro f e hf; subst e; cases k with
   | ezero => exact (hf _ .nil trivial).elim
   | esucc => exact (hf _ .nil trivial).elim
   | elim k => exact ih _ rfl (hf.no k)
 exact fun y w => this w n rfl h
theorem ck.move {e : Tm} (h : ck e) (p a : Tm) : ck (Tm.move p e a) := by
 have : ∀ {x y}, Wh x y → ∀ e, x = Tm.move p e a → ck e → ¬ Canon y := by
  intro x y w
  induction w with
  | nil => intro f e hf; subst e; exact fun h => h
  | cons k _ ih => intro f e hf; subst e; cases k with
   | mrefl => exact (hf _ .nil trivial).elim
   | move k => exact ih _ rfl (hf.no k)
 exact fun y w => this w e rfl h
theorem ck.fst {e : Tm} (h : ck e) : ck (Tm.fst e) := by
 have : ∀ {x y}, Wh x y → ∀ e, x = Tm.fst e → ck e → ¬ Canon y := by
  intro x y w
  induction w with
  | nil => intro f e hf; subst e; exact fun h => h
  | cons k _ ih => intro f e hf; subst e; cases k with
   | fpair => exact (hf _ .nil trivial).elim
   | fst k => exact ih _ rfl (hf.no k)
 exact fun y w => this w e rfl h
theorem ck.snd {e : Tm} (h : ck e) : ck (Tm.snd e) := by
 have : ∀ {x y}, Wh x y → ∀ e, x = Tm.snd e → ck e → ¬ Canon y := by
  intro x y w
  induction w with
  | nil => intro f e hf; subst e; exact fun h => h
  | cons k _ ih => intro f e hf; subst e; cases k with
   | spair => exact (hf _ .nil trivial).elim
   | snd k => exact ih _ rfl (hf.no k)
 exact fun y w => this w e rfl h
theorem Conv.HJ {A C B : Tm} (c : Conv A (Tm.pi C B)) : ∃ C' B', Wh A (Tm.pi C' B') ∧ Conv C' C ∧ Conv B' B := by
 obtain ⟨x, h1, h2⟩ := c
 obtain ⟨a, b, rfl, r1, r2⟩ := h2.gZ
 cases h1.st with
 | pi w h k => exact ⟨_, _, w, ⟨a, h.red, r1⟩, ⟨b, k.red, r2⟩⟩
theorem Conv.Dq {A C B : Tm} (c : Conv A (Tm.sig C B)) : ∃ C' B', Wh A (Tm.sig C' B') ∧ Conv C' C ∧ Conv B' B := by
 obtain ⟨x, h1, h2⟩ := c
 obtain ⟨a, b, rfl, r1, r2⟩ := h2.gb
 cases h1.st with
 | sig w h k => exact ⟨_, _, w, ⟨a, h.red, r1⟩, ⟨b, k.red, r2⟩⟩
theorem Conv.HQ {A t y z : Tm} (c : Conv A (Tm.id t y z)) : ∃ t' y' z', Wh A (Tm.id t' y' z') ∧ Conv t' t ∧ Conv y' y ∧ Conv z' z := by
 obtain ⟨x, h1, h2⟩ := c
 obtain ⟨a, b, d, rfl, r1, r2, r3⟩ := h2.jQ
 cases h1.st with
 | id w h k l => exact ⟨_, _, _, w, ⟨a, h.red, r1⟩, ⟨b, k.red, r2⟩, ⟨d, l.red, r3⟩⟩
theorem Conv.EY {A : Tm} {i : Nat} (c : Conv A (Tm.sort i)) : Wh A (Tm.sort i) := by
 obtain ⟨x, h1, h2⟩ := c
 have := h2.mv; subst this
 cases h1.st with
 | sort w => exact w
theorem Conv.Gg {A : Tm} (c : Conv A Tm.nat) : Wh A Tm.nat := by
 obtain ⟨x, h1, h2⟩ := c
 have := h2.EK; subst this
 cases h1.st with
 | nat w => exact w
section LR
structure Clo (E : Tm → Prop) (G : List Tm) : Prop where
 var : ∀ n, E (Tm.var n)
 sort : ∀ n, E (Tm.sort n)
 nat : E Tm.nat
 zero : E Tm.zero
 succ : ∀ {n}, E n → E (Tm.succ n)
 pi : ∀ {a b}, E a → E (Tm.pi a b)
 sig : ∀ {a b}, E a → E (Tm.sig a b)
 lam : ∀ {a b}, E a → E (Tm.lam a b)
 app : ∀ {f u}, E f → E u → E (Tm.app f u)
 elim : ∀ {p z s n}, E p → E z → E s → E n → E (Tm.elim p z s n)
 id : ∀ {t a b}, E t → E a → E b → E (Tm.id t a b)
 refl : ∀ {a}, E a → (∀ A, Al G a A → E A) → E (Tm.refl a)
 move : ∀ {p e x}, E p → E e → E x → E (Tm.move p e x)
 pair : ∀ {s a b}, E s → E a → E b → E (Tm.pair s a b)
 fst : ∀ {q}, E q → E (Tm.fst q)
 snd : ∀ {q}, E q → E (Tm.snd q)
variable (E : Tm → Prop) (G : List Tm)
abbrev Pr := Tm → Prop
def Bs (X : Pr) (t : Tm) : Prop := E t ∧ ∀ T, Al G t T → X T
inductive E8 : Tm → Prop
 | zero {t} (b : Bs E G E t) (w : Wh t zero) : E8 t
 | succ {t m} (b : Bs E G E t) (w : Wh t (succ m)) (h : E8 m) : E8 t
 | stuck {t} (b : Bs E G E t) (s : ck t) : E8 t
def PiG (SC GC : Pr) (GB : Tm → Pr) (X : Tm) : Prop := E X ∧ ∀ C B, Wh X (pi C B) → GC C ∧ ∀ u, SC u → GB u (B.inst u)
def Hq (SC GC : Pr) (GB : Tm → Pr) (X : Tm) : Prop := E X ∧ ∀ C B, Wh X (sig C B) → GC C ∧ ∀ u, SC u → GB u (B.inst u)
def IdG (ST GT : Pr) (y z : Tm) (X : Tm) : Prop := E X ∧ ∀ t' y' z', Wh X (id t' y' z') → GT t' ∧ ST y' ∧ ST z' ∧ Conv y' y ∧ Conv z' z
def IdF (y z e : Tm) : Prop := (∃ a, Wh e (refl a) ∧ Conv a y ∧ Conv a z) ∨ ck e
inductive Sem (l : Nat) (U : Nat → Pr) : Tm → Pr → Pr → Prop
 | nat {A} (w : Wh A nat) : Sem l U A (E8 E G) E
 | sort {A i} (h : i < l) (w : Wh A (sort i)) : Sem l U A (fun t => Bs E G E t ∧ U i t) E
 | stuck {A} (h : ck A) : Sem l U A (Bs E G E) E
 | pi {A C B SC GC} {SB GB : Tm → Pr} (w : Wh A (pi C B)) (hC : Sem l U C SC GC) (hB : ∀ u, SC u → Sem l U (B.inst u) (SB u) (GB u)) :
    Sem l U A (fun f => Bs E G (PiG E SC GC GB) f ∧ ∀ u, SC u → SB u (app f u)) (PiG E SC GC GB)
 | sig {A C B SC GC} {SB GB : Tm → Pr} (w : Wh A (sig C B)) (hC : Sem l U C SC GC) (hB : ∀ u, SC u → Sem l U (B.inst u) (SB u) (GB u)) :
    Sem l U A (fun q => Bs E G (Hq E SC GC GB) q ∧ SC (fst q) ∧ SB (fst q) (snd q)) (Hq E SC GC GB)
 | id {A t y z ST GT} (w : Wh A (id t y z)) (hT : Sem l U t ST GT) :
    Sem l U A (fun e => Bs E G (IdG E ST GT y z) e ∧ IdF y z e) (IdG E ST GT y z)
variable {E G}
theorem dv {X Y : Pr} (h : ∀ t, X t ↔ Y t) (t : Tm) : Bs E G X t ↔ Bs E G Y t :=
 ⟨fun b => ⟨b.1, fun T k => (h T).1 (b.2 T k)⟩, fun b => ⟨b.1, fun T k => (h T).2 (b.2 T k)⟩⟩
theorem Sem.det {l : Nat} {U : Nat → Pr} {A : Tm} {S X : Pr} (h : Sem E G l U A S X) : ∀ {S' X'}, Sem E G l U A S' X' → (∀ t, S t ↔ S' t) ∧ ∀ t, X t ↔ X' t := by
 induction h with
 | nat w =>
  intro S' X' k
  cases k with
  | nat w' => exact ⟨fun _ => .rfl, fun _ => .rfl⟩
  | sort h w' => cases w.same w' trivial trivial
  | stuck h => exact (h _ w trivial).elim
  | pi w' => cases w.same w' trivial trivial
  | sig w' => cases w.same w' trivial trivial
  | id w' => cases w.same w' trivial trivial
 | sort h w =>
  intro S' X' k
  cases k with
  | nat w' => cases w.same w' trivial trivial
  | sort h w' => cases w.same w' trivial trivial; exact ⟨fun _ => .rfl, fun _ => .rfl⟩
  | stuck h => exact (h _ w trivial).elim
  | pi w' => cases w.same w' trivial trivial
  | sig w' => cases w.same w' trivial trivial
  | id w' => cases w.same w' trivial trivial
 | stuck h =>
  intro S' X' k
  cases k with
  | nat w' => exact (h _ w' trivial).elim
  | sort h' w' => exact (h _ w' trivial).elim
  | stuck h => exact ⟨fun _ => .rfl, fun _ => .rfl⟩
  | pi w' => exact (h _ w' trivial).elim
  | sig w' => exact (h _ w' trivial).elim
  | id w' => exact (h _ w' trivial).elim
 | pi w hC hB ih ik =>
  intro S' X' k
  cases k with
  | nat w' => cases w.same w' trivial trivial
  | sort h w' => cases w.same w' trivial trivial
  | stuck h => exact (h _ w trivial).elim
  | sig w' => cases w.same w' trivial trivial
  | id w' => cases w.same w' trivial trivial
  | pi w' hC' hB' =>
   cases w.same w' trivial trivial
   obtain ⟨e1, e2⟩ := ih hC'
   have e3 : ∀ t, PiG E _ _ _ t ↔ PiG E _ _ _ t := fun t =>
    ⟨fun b => ⟨b.1, fun C B k => ⟨(e2 C).1 (b.2 C B k).1, fun u hu => ((ik u ((e1 u).2 hu) (hB' u hu)).2 _).1 ((b.2 C B k).2 u ((e1 u).2 hu))⟩⟩,
     fun b => ⟨b.1, fun C B k => ⟨(e2 C).2 (b.2 C B k).1, fun u hu => ((ik u hu (hB' u ((e1 u).1 hu))).2 _).2 ((b.2 C B k).2 u ((e1 u).1 hu))⟩⟩⟩
   exact ⟨fun t => ⟨fun b => ⟨(dv e3 t).1 b.1, fun u hu => ((ik u ((e1 u).2 hu) (hB' u hu)).1 _).1 (b.2 u ((e1 u).2 hu))⟩,
    fun b => ⟨(dv e3 t).2 b.1, fun u hu => ((ik u hu (hB' u ((e1 u).1 hu))).1 _).2 (b.2 u ((e1 u).1 hu))⟩⟩, e3⟩
 | sig w hC hB ih ik =>
  intro S' X' k
  cases k with
  | nat w' => cases w.same w' trivial trivial
  | sort h w' => cases w.same w' trivial trivial
  | stuck h => exact (h _ w trivial).elim
  | pi w' => cases w.same w' trivial trivial
  | id w' => cases w.same w' trivial trivial
  | sig w' hC' hB' =>
   cases w.same w' trivial trivial
   obtain ⟨e1, e2⟩ := ih hC'
   have e3 : ∀ t, Hq E _ _ _ t ↔ Hq E _ _ _ t := fun t =>
    ⟨fun b => ⟨b.1, fun C B k => ⟨(e2 C).1 (b.2 C B k).1, fun u hu => ((ik u ((e1 u).2 hu) (hB' u hu)).2 _).1 ((b.2 C B k).2 u ((e1 u).2 hu))⟩⟩,
     fun b => ⟨b.1, fun C B k => ⟨(e2 C).2 (b.2 C B k).1, fun u hu => ((ik u hu (hB' u ((e1 u).1 hu))).2 _).2 ((b.2 C B k).2 u ((e1 u).1 hu))⟩⟩⟩
   exact ⟨fun t => ⟨fun b => ⟨(dv e3 t).1 b.1, (e1 _).1 b.2.1, ((ik _ b.2.1 (hB' _ ((e1 _).1 b.2.1))).1 _).1 b.2.2⟩,
    fun b => ⟨(dv e3 t).2 b.1, (e1 _).2 b.2.1, ((ik _ ((e1 _).2 b.2.1) (hB' _ b.2.1)).1 _).2 b.2.2⟩⟩, e3⟩
 | @id A t y z ST GT w hT ih =>
  intro S' X' k
  cases k with
  | nat w' => cases w.same w' trivial trivial
  | sort h w' => cases w.same w' trivial trivial
  | stuck h => exact (h _ w trivial).elim
  | pi w' => cases w.same w' trivial trivial
  | sig w' => cases w.same w' trivial trivial
  | @id _ _ _ _ ST' GT' w' hT' =>
   cases w.same w' trivial trivial
   obtain ⟨e1, e2⟩ := ih hT'
   have e3 : ∀ t, IdG E ST GT y z t ↔ IdG E ST' GT' y z t := fun t =>
    ⟨fun b => ⟨b.1, fun x y z k => let g := b.2 x y z k; ⟨(e2 _).1 g.1, (e1 _).1 g.2.1, (e1 _).1 g.2.2.1, g.2.2.2⟩⟩,
     fun b => ⟨b.1, fun x y z k => let g := b.2 x y z k; ⟨(e2 _).2 g.1, (e1 _).2 g.2.1, (e1 _).2 g.2.2.1, g.2.2.2⟩⟩⟩
   exact ⟨fun t => ⟨fun b => ⟨(dv e3 t).1 b.1, b.2⟩, fun b => ⟨(dv e3 t).2 b.1, b.2⟩⟩, e3⟩
theorem Sem.conv {l : Nat} {U : Nat → Pr} {A : Tm} {S X : Pr} (h : Sem E G l U A S X) : ∀ {A'}, Conv A A' → Sem E G l U A' S X := by
 induction h with
 | nat w => intro A' c; exact .nat (c.symm.trans w.conv).Gg
 | sort h w => intro A' c; exact .sort h (c.symm.trans w.conv).EY
 | stuck h => intro A' c; exact .stuck (h.conv c)
 | pi w hC hB ih ik =>
  intro A' c
  obtain ⟨C', B', w', c1, c2⟩ := (c.symm.trans w.conv).HJ
  exact .pi w' (ih c1.symm) (fun u hu => ik u hu (Conv.inst c2.symm .bg))
 | sig w hC hB ih ik =>
  intro A' c
  obtain ⟨C', B', w', c1, c2⟩ := (c.symm.trans w.conv).Dq
  exact .sig w' (ih c1.symm) (fun u hu => ik u hu (Conv.inst c2.symm .bg))
 | @id A t y z ST GT w hT ih =>
  intro A' c
  obtain ⟨t', y', z', w', c1, c2, c3⟩ := (c.symm.trans w.conv).HQ
  have k := Sem.id (E := E) (G := G) (l := l) (U := U) w' (ih c1.symm)
  have e3 : IdG E ST GT y' z' = IdG E ST GT y z := by
   funext t
   exact propext ⟨fun b => ⟨b.1, fun x y z k => let g := b.2 x y z k; ⟨g.1, g.2.1, g.2.2.1, g.2.2.2.1.trans c2, g.2.2.2.2.trans c3⟩⟩,
     fun b => ⟨b.1, fun x y z k => let g := b.2 x y z k; ⟨g.1, g.2.1, g.2.2.1, g.2.2.2.1.trans c2.symm, g.2.2.2.2.trans c3.symm⟩⟩⟩
  rw [e3] at k
  have e4 : (fun e => Bs E G (IdG E ST GT y z) e ∧ IdF y' z' e) = fun e => Bs E G (IdG E ST GT y z) e ∧ IdF y z e := by
   funext e
   exact propext ⟨fun b => ⟨b.1, b.2.imp (fun ⟨a, k⟩ => ⟨a, k.1, k.2.1.trans c2, k.2.2.trans c3⟩) (fun h => h)⟩, fun b => ⟨b.1, b.2.imp (fun ⟨a, k⟩ => ⟨a, k.1, k.2.1.trans c2.symm, k.2.2.trans c3.symm⟩) (fun h => h)⟩⟩
  rw [e4] at k
  exact k
theorem Sem.bs {l : Nat} {U : Nat → Pr} {A : Tm} {S X : Pr} (h : Sem E G l U A S X) {t : Tm} (k : S t) : Bs E G X t := by
 cases h with
 | nat w => cases k <;> assumption
 | sort h w => exact k.1
 | stuck h => exact k
 | pi w hC hB => exact k.1
 | sig w hC hB => exact k.1
 | id w hT => exact k.1
theorem Sem.ends {l : Nat} {U : Nat → Pr} {A : Tm} {S X : Pr} (h : Sem E G l U A S X) {t : Tm} (k : X t) : E t := by
 cases h with
 | nat w => exact k
 | sort h w => exact k
 | stuck h => exact k
 | pi w hC hB => exact k.1
 | sig w hC hB => exact k.1
 | id w hT => exact k.1
variable (E G) in
def Vs : Nat → Nat → Pr
 | 0, _, _ => False
 | l + 1, i, t => (i = l ∧ ∃ S X, Sem E G l (Vs l) t S X ∧ X t) ∨ (i < l ∧ Vs l i t)
theorem kj : ∀ {l i : Nat} {t : Tm}, i < l → (Vs E G l i t ↔ ∃ S X, Sem E G i (Vs E G i) t S X ∧ X t)
 | l + 1, i, t, h => by
  by_cases e : i = l
  ·subst e
   exact ⟨fun k => by
    rcases k with k | k
    ·exact k.2
    ·omega, fun k => .inl ⟨rfl, k⟩⟩
  ·have h' : i < l := by omega
   rw [← kj h']
   exact ⟨fun k => by
    rcases k with k | k
    ·exact absurd k.1 e
    ·exact k.2, fun k => .inr ⟨h', k⟩⟩
theorem Sem.up {l m : Nat} (hm : l ≤ m) {A : Tm} {S X : Pr} (h : Sem E G l (Vs E G l) A S X) : Sem E G m (Vs E G m) A S X := by
 induction h with
 | nat w => exact .nat w
 | @sort A i h w =>
  have e : (fun t => Bs E G E t ∧ Vs E G l i t) = fun t => Bs E G E t ∧ Vs E G m i t := by
   funext t; rw [propext (kj (E := E) (G := G) (t := t) h), propext (kj (E := E) (G := G) (t := t) (show i < m by omega))]
  rw [e]
  exact .sort (by omega) w
 | stuck h => exact .stuck h
 | pi w hC hB ih ik => exact .pi w ih ik
 | sig w hC hB ih ik => exact .sig w ih ik
 | id w hT ih => exact .id w ih
end LR
end Tm
end Go.Proofs.Ytajlknlnmmbfcaa
end
