/- Part 8 of the proof. -/
import Derived.Test.YtajlknlnmmbfcaaGreatJ01
import Derived.Test.YtajlknlnmmbfcaaGreatJ02
import Derived.Test.YtajlknlnmmbfcaaGreatJ03
import Derived.Test.YtajlknlnmmbfcaaGreatJ04
import Derived.Test.YtajlknlnmmbfcaaGreatJ05
import Derived.Test.YtajlknlnmmbfcaaGreatJ06
import Derived.Test.YtajlknlnmmbfcaaGreatJ07
import Derived.ChangeArms
import Derived.Deep.Slices
import Derived.Deep.Strs
import Derived.WalkKit
import Derived.ProofKit
import Derived.OpenShut
import Derived.ShutString
import Derived.ChangeOld
import Derived.Below
set_option linter.unusedVariables false
set_option linter.unusedSimpArgs false
section
namespace Go.Proofs.YtajlknlnmmbfcaaGreat
open Go Go.Dk
namespace Tm
def ly : Tm → Prop
 | var n => n ≤ 4
 | sort n => n ≤ 3
 | succ a => ly a
 | refl a => ly a
 | fst a => ly a
 | snd a => ly a
 | pi a b => ly a ∧ ly b
 | sig a b => ly a ∧ ly b
 | lam a b => ly a ∧ ly b
 | app a b => ly a ∧ ly b
 | id a b c => ly a ∧ ly b ∧ ly c
 | move a b c => ly a ∧ ly b ∧ ly c
 | pair a b c => ly a ∧ ly b ∧ ly c
 | elim a b c d => ly a ∧ ly b ∧ ly c ∧ ly d
 | _ => True
theorem E7 {t : Tm} (h : ly t) : srt t := by
 induction t <;> simp_all [ly, srt]
theorem Ft {t : Tm} : ∀ {ξ : Nat → Nat}, lw t → (∀ n, ξ n ≤ n + 1) → ly (t.ren ξ) := by
 have hu : ∀ {ξ : Nat → Nat}, (∀ n, ξ n ≤ n + 1) → ∀ n, Tm.up ξ n ≤ n + 1 := by
  intro ξ h n
  cases n with
  | zero => exact Nat.zero_le _
  | succ n => exact Nat.succ_le_succ (h n)
 induction t with
 | var n => intro ξ h k; exact Nat.le_trans (k n) (Nat.succ_le_succ h)
 | sort n => exact fun h _ => h
 | nat => intros; trivial
 | zero => intros; trivial
 | succ a ha => exact fun h k => ha h k
 | refl a ha => exact fun h k => ha h k
 | fst a ha => exact fun h k => ha h k
 | snd a ha => exact fun h k => ha h k
 | pi a b ha hb => exact fun h k => ⟨ha h.1 k, hb h.2 (hu k)⟩
 | sig a b ha hb => exact fun h k => ⟨ha h.1 k, hb h.2 (hu k)⟩
 | lam a b ha hb => exact fun h k => ⟨ha h.1 k, hb h.2 (hu k)⟩
 | app a b ha hb => exact fun h k => ⟨ha h.1 k, hb h.2 k⟩
 | id a b c ha hb hc => exact fun h k => ⟨ha h.1 k, hb h.2.1 k, hc h.2.2 k⟩
 | move a b c ha hb hc => exact fun h k => ⟨ha h.1 k, hb h.2.1 k, hc h.2.2 k⟩
 | pair a b c ha hb hc => exact fun h k => ⟨ha h.1 k, hb h.2.1 k, hc h.2.2 k⟩
 | elim a b c e ha hb hc he => exact fun h k => ⟨ha h.1 k, hb h.2.1 k, hc h.2.2.1 k, he h.2.2.2 k⟩
theorem lw.wk {t : Tm} (h : lw t) : ly t.wk := Ft h fun n => Nat.le_refl _
theorem lw.ly {t : Tm} (h : lw t) : ly t := by
 have := Ft (ξ := fun n => n) h fun n => Nat.le_succ n
 rwa [me] at this
theorem H3 {t : Tm} : ∀ {d}, ly t → 5 ≤ d → cl d t := by
 induction t with
 | var n => intro d h hd; exact Nat.lt_of_lt_of_le (show n < 5 from Nat.lt_succ_of_le h) hd
 | sort n => intros; trivial
 | nat => intros; trivial
 | zero => intros; trivial
 | succ a ha => exact fun h hd => ha h hd
 | refl a ha => exact fun h hd => ha h hd
 | fst a ha => exact fun h hd => ha h hd
 | snd a ha => exact fun h hd => ha h hd
 | pi a b ha hb => exact fun h hd => ⟨ha h.1 hd, hb h.2 (by omega)⟩
 | sig a b ha hb => exact fun h hd => ⟨ha h.1 hd, hb h.2 (by omega)⟩
 | lam a b ha hb => exact fun h hd => ⟨ha h.1 hd, hb h.2 (by omega)⟩
 | app a b ha hb => exact fun h hd => ⟨ha h.1 hd, hb h.2 hd⟩
 | id a b c ha hb hc => exact fun h hd => ⟨ha h.1 hd, hb h.2.1 hd, hc h.2.2 hd⟩
 | move a b c ha hb hc => exact fun h hd => ⟨ha h.1 hd, hb h.2.1 hd, hc h.2.2 hd⟩
 | pair a b c ha hb hc => exact fun h hd => ⟨ha h.1 hd, hb h.2.1 hd, hc h.2.2 hd⟩
 | elim a b c e ha hb hc he => exact fun h hd => ⟨ha h.1 hd, hb h.2.1 hd, hc h.2.2.1 hd, he h.2.2.2 hd⟩
theorem sz3 {t : Tm} (h : ht t ≤ 3) : (of t).size ≤ 21 := by
 have h1 := Ju t
 have h2 : 4 ^ ht t ≤ 4 ^ 3 := Nat.pow_le_pow_right (by omega) h
 have e : (4 : Nat) ^ 3 = 64 := by decide
 omega
theorem Ee {p : Tm} (h : ht p ≤ 4) (l : ly p) : vdM (aW p) = true := by
 have h1 := sz4 h
 have c1 : cl 5 p := H3 l (by omega)
 have c2 : cl 6 p.wk := vr c1 fun n hn => by omega
 have c3 : cl 7 p.wk.wk := vr c2 fun n hn => by omega
 have s1 := E7 l
 have s2 : Tm.srt p.wk := sL s1
 have s3 : Tm.srt p.wk.wk := sL s2
 refine DT (d := 5) ⟨trivial, ⟨c2, show 0 < 6 by omega⟩, c3, show 1 < 7 by omega⟩ ⟨trivial, ⟨s2, trivial⟩, s3, trivial⟩ ?_ (by omega) ?_
 ·simp only [aW, ht, tZ]; omega
 ·simp only [aW, of, T.size, T.aE, wk, sA]; omega
inductive SX : Tm → Prop
 | ex {X} (h : EX X) : SX X
 | app {X Y} (h : SX X) : SX (app X Y)
theorem SX.yQ {a b : Tm} (h : SX (lam a b)) : False := by
 cases h with | ex h =>
 rcases h with h | ⟨_, _, e, _⟩
 ·have := cM a; simp only [ht] at h; omega
 ·cases e
theorem hdS {X : Tm} (k : SX X) : ∀ {X'}, Hd X X' → SX X' := by
 induction k with
 | ex e => exact fun h => .ex (hdE h e)
 | app k ih =>
  intro X' h
  cases h with
  | beta => exact k.yQ.elim
  | app h => exact .app (ih h)
def GX : Tm → Prop
 | lam _ d => ∀ Y, ht Y ≤ 4 → ht (d.inst Y) ≤ 4
 | app s k => (ht s ≤ 3 ∧ ht k ≤ 2) ∨ SX s
 | fst q => ht q ≤ 2
 | snd q => ht q ≤ 2
 | move _ e x => ht e ≤ 2 ∧ ht x ≤ 2
 | elim _ z s n => ht z ≤ 2 ∧ ht s ≤ 2 ∧ ht n ≤ 2
 | _ => True
theorem gx2 {X : Tm} (h : ht X ≤ 2) : GX X := by
 cases X with
 | lam a d => intro Y hY; have := cV d Y; simp only [ht] at h; omega
 | app s k => left; simp only [ht] at h; omega
 | fst q => show ht q ≤ 2; simp only [ht] at h; omega
 | snd q => show ht q ≤ 2; simp only [ht] at h; omega
 | move p e x => show ht e ≤ 2 ∧ ht x ≤ 2; simp only [ht] at h; omega
 | elim p z s n => show ht z ≤ 2 ∧ ht s ≤ 2 ∧ ht n ≤ 2; simp only [ht] at h; omega
 | _ => trivial
theorem Hn {c k : Tm} (hc : ht c ≤ 2) (hk : ht k ≤ 2) : GX (c.inst k) := by
 have l1 : ∀ {x : Tm}, ht x ≤ 1 → ht (x.inst k) ≤ 2 := fun {x} h => by have := cV x k; omega
 cases c with
 | var n => exact gx2 (l1 (Nat.le_refl 1))
 | lam a b =>
  simp only [ht] at hc
  intro Y hY
  show ht ((b.sub (ups (sc k Tm.var))).inst Y) ≤ 4
  rw [mT]
  have := EU b (sc Y (sc k Tm.var)) 4 fun n => by
   rcases n with _ | _ | n
   ·exact hY
   ·show ht k ≤ 4; omega
   ·show 1 ≤ 4; omega
  omega
 | app s n => simp only [ht] at hc; exact .inl ⟨by have := l1 (x := s) (by omega); show ht (s.inst k) ≤ 3; omega, l1 (by omega)⟩
 | fst q => simp only [ht] at hc; exact l1 (x := q) (by omega)
 | snd q => simp only [ht] at hc; exact l1 (x := q) (by omega)
 | move p e x => simp only [ht] at hc; exact ⟨l1 (x := e) (by omega), l1 (x := x) (by omega)⟩
 | elim p z s n => simp only [ht] at hc; exact ⟨l1 (x := z) (by omega), l1 (x := s) (by omega), l1 (x := n) (by omega)⟩
 | _ => trivial
theorem D3.fun {f v : Tm} (h : D3 f) (hv : ht v ≤ 2) : GX (app f v) := by
 rcases h with h | ⟨X, Y, rfl, e⟩
 ·exact .inl ⟨h, hv⟩
 ·exact .inr (.app (.ex e))
theorem hdG {X X' : Tm} (h : Hd X X') (k : GX X) : GX X' := by
 cases h with
 | @beta a c v =>
  rcases k with ⟨k1, k2⟩ | k
  ·exact Hn (by simp only [ht] at k1; omega) k2
  ·exact k.yQ.elim
 | @ezero p z s => exact gx2 k.1
 | @esucc p z s n => have k3 := k.2.2; simp only [ht] at k3; exact .inr (.ex (.inr ⟨s, n, rfl, k.2.1, by omega⟩))
 | @mrefl p a x => exact gx2 k.2
 | @fpair t a b => have k : ht (pair _ _ _) ≤ 2 := k; simp only [ht] at k; exact gx2 (by omega)
 | @spair t a b => have k : ht (pair _ _ _) ≤ 2 := k; simp only [ht] at k; exact gx2 (by omega)
 | @app f f' v h =>
  rcases k with ⟨k1, k2⟩ | k
  ·exact (hd3 h k1).fun k2
  ·exact .inr (hdS k h)
 | @elim p z s n n' h => exact ⟨k.1, k.2.1, by have := hd2 h k.2.2; omega⟩
 | @move p e e' x h => exact ⟨by have := hd2 h k.1; omega, k.2⟩
 | @fst q q' h => have := hd2 h k; show ht q' ≤ 2; omega
 | @snd q q' h => have := hd2 h k; show ht q' ≤ 2; omega
def P5 : Tm → Prop
 | app X Y => GX X ∧ ht Y ≤ 4
 | fst q => D3 q
 | snd q => D3 q
 | move _ e x => D3 e ∧ ht x ≤ 3
 | elim p z s n => (ht p ≤ 3 ∧ ht z ≤ 3 ∧ ht s ≤ 3) ∧ D3 n
 | _ => False
def D5 (t : Tm) : Prop := ht t ≤ 4 ∨ P5 t
theorem D3.ht' {t : Tm} (h : D3 t) (hu : ∀ X Y, t ≠ app X Y) : ht t ≤ 3 := by
 rcases h with h | ⟨X, Y, e, _⟩
 ·exact h
 ·exact absurd e (hu X Y)
theorem Bt {p z s n : Tm} (h1 : ht p ≤ 3 ∧ ht z ≤ 3 ∧ ht s ≤ 3) (h2 : ht n ≤ 2) : P5 (app (app s n) (elim p z s n)) :=
 ⟨.inl ⟨h1.2.2, h2⟩, by simp only [ht]; omega⟩
theorem hd5 {t u : Tm} (h : Hd t u) (k : D5 t) : D5 u := by
 rcases k with k | k
 ·cases h with
  | @beta a b v => left; have := cV b v; simp only [ht] at k; omega
  | @ezero p z s => left; simp only [ht] at k; omega
  | @esucc p z s n => right; simp only [ht] at k; exact Bt (by omega) (by omega)
  | @mrefl p a x => left; simp only [ht] at k; omega
  | @fpair t a b => left; simp only [ht] at k; omega
  | @spair t a b => left; simp only [ht] at k; omega
  | @app f f' v h =>
   simp only [ht] at k
   rcases hd3 h (by omega) with h3 | ⟨X, Y, rfl, e⟩
   ·left; simp only [ht]; omega
   ·exact .inr ⟨.inr (.ex e), by omega⟩
  | @elim p z s n n' h => right; simp only [ht] at k; exact ⟨by omega, hd3 h (by omega)⟩
  | @move p e e' x h => right; simp only [ht] at k; exact ⟨hd3 h (by omega), by omega⟩
  | @fst q q' h => right; simp only [ht] at k; exact hd3 h (by omega)
  | @snd q q' h => right; simp only [ht] at k; exact hd3 h (by omega)
 ·cases h with
  | @beta a b v => exact .inl (k.1 v k.2)
  | @ezero p z s => left; have := k.1.2.1; omega
  | @esucc p z s n => right; have h2 := k.2.ht' (by simp); simp only [ht] at h2; exact Bt k.1 (by omega)
  | @mrefl p a x => left; have := k.2; omega
  | @fpair t a b => left; have h2 := D3.ht' (t := pair _ _ _) k (by simp); simp only [ht] at h2; omega
  | @spair t a b => left; have h2 := D3.ht' (t := pair _ _ _) k (by simp); simp only [ht] at h2; omega
  | @app f f' v h => exact .inr ⟨hdG h k.1, k.2⟩
  | @elim p z s n n' h => exact .inr ⟨k.1, hdD h k.2⟩
  | @move p e e' x h => exact .inr ⟨hdD h k.1, k.2⟩
  | @fst q q' h => exact .inr (hdD h k)
  | @snd q q' h => exact .inr (hdD h k)
theorem wh5 {t u : Tm} (h : Wh t u) (k : D5 t) : D5 u := by
 induction h with
 | nil => exact k
 | cons h _ ih => exact ih (hd5 h k)
theorem wh4 {t u : Tm} (h : Wh t u) (k : ht t ≤ 4) (hu : ¬ P5 u) : ht u ≤ 4 := by
 rcases wh5 h (.inl k) with h | h
 ·exact h
 ·exact absurd h hu
inductive NN : Tm → Prop
 | leaf {X} (h : ht X ≤ 1) : NN X
 | fq {q} (h : ht q ≤ 2) : NN (fst q)
 | app {X Y} (h : NN X) : NN (app X Y)
 | fst {q} (h : NN q) : NN (fst q)
 | snd {q} (h : NN q) : NN (snd q)
 | move {p e x} (h : NN e) : NN (move p e x)
 | elim {p z s n} (h : NN n) (k : NN z) : NN (elim p z s n)
theorem NN.yQ {a b : Tm} (h : NN (lam a b)) : False := by cases h with | leaf h => have := cM a; simp only [ht] at h; omega
theorem NN.Dr {a b c : Tm} (h : NN (pair a b c)) : False := by cases h with | leaf h => have := cM a; simp only [ht] at h; omega
theorem NN.Hf {a : Tm} (h : NN (refl a)) : False := by cases h with | leaf h => have := cM a; simp only [ht] at h; omega
theorem NN.CW {a : Tm} (h : NN (succ a)) : False := by cases h with | leaf h => have := cM a; simp only [ht] at h; omega
theorem NN.JY {a b c : Tm} (h : NN (id a b c)) : False := by cases h with | leaf h => have := cM a; simp only [ht] at h; omega
theorem Ku {X : Tm} (k : NN X) : ∀ {X'}, Hd X X' → NN X' := by
 induction k with
 | leaf k => exact fun h => (h.leaf k).elim
 | fq k =>
  intro X' h
  cases h with
  | fpair => simp only [ht] at k; exact .leaf (by omega)
  | fst h => exact .fq (by have := hd2 h k; omega)
 | app k ih =>
  intro X' h
  cases h with
  | beta => exact k.yQ.elim
  | app h => exact .app (ih h)
 | fst k ih =>
  intro X' h
  cases h with
  | fpair => exact k.Dr.elim
  | fst h => exact .fst (ih h)
 | snd k ih =>
  intro X' h
  cases h with
  | spair => exact k.Dr.elim
  | snd h => exact .snd (ih h)
 | move k ih =>
  intro X' h
  cases h with
  | mrefl => exact k.Hf.elim
  | move h => exact .move (ih h)
 | elim k k2 ih ih2 =>
  intro X' h
  cases h with
  | ezero => exact k2
  | esucc => exact k.CW.elim
  | elim h => exact .elim (ih h) k2
def R0 (t : Tm) : Prop := D4 t ∨ NN t ∨ ∃ p z s n, t = elim p z s n ∧ NN n ∧ D4 z
def R1 (t : Tm) : Prop := (∀ a y b, t ≠ id a y b) ∧ ∀ u, Hd t u → R0 u
def R2 (t : Tm) : Prop := (∀ a y b, t ≠ id a y b) ∧ ∀ u, Hd t u → R0 u ∨ R1 u
theorem Ky {t u : Tm} (h : Hd t u) (k : R0 t) : R0 u := by
 rcases k with k | k | ⟨p, z, s, n, rfl, k1, k2⟩
 ·exact .inl (Kx h k)
 ·exact .inr (.inl (Ku k h))
 ·cases h with
  | ezero => exact .inl k2
  | esucc => exact k1.CW.elim
  | elim h => exact .inr (.inr ⟨_, _, _, _, rfl, Ku k1 h, k2⟩)
theorem By {t a y b : Tm} (h : Wh t (id a y b)) (k : R0 t) : ht y ≤ 3 := by
 generalize e : id a y b = u at h
 induction h with
 | nil =>
  subst e
  rcases k with k | k | ⟨p, z, s, n, e, _⟩
  ·exact Je k
  ·exact k.JY.elim
  ·cases e
 | cons h _ ih => exact ih (Ky h k) e
theorem HA {t a y b : Tm} (h : Wh t (id a y b)) (k : R1 t) : ht y ≤ 3 := by
 cases h with
 | nil => exact absurd rfl (k.1 _ _ _)
 | cons h hs => exact By hs (k.2 _ h)
theorem KB {t a y b : Tm} (h : Wh t (id a y b)) (k : R2 t) : ht y ≤ 3 := by
 cases h with
 | nil => exact absurd rfl (k.1 _ _ _)
 | cons h hs =>
  rcases k.2 _ h with k | k
  ·exact By hs k
  ·exact HA hs k
def cons : Tm → Prop
 | pi _ _ => True
 | sig _ _ => True
 | lam _ _ => True
 | id _ _ _ => True
 | pair _ _ _ => True
 | refl _ => True
 | succ _ => True
 | _ => False
theorem cW {f q : Tm} (hf : ht f ≤ 1) (hq : ht q ≤ 2) : NN (f.inst (.fst q)) := by
 rcases mh hf with ⟨n, rfl⟩ | ⟨n, rfl⟩ | rfl | rfl
 ·cases n with
  | zero => exact .fq hq
  | succ n => exact .leaf (Nat.le_refl 1)
 ·exact .leaf (Nat.le_refl 1)
 ·exact .leaf (Nat.le_refl 1)
 ·exact .leaf (Nat.le_refl 1)
theorem jv {f q : Tm} (hf : ht f ≤ 2) (hq : ht q ≤ 2) : NN (f.inst (.fst q)) ∨ cons f := by
 cases f with
 | var n => exact .inl (cW (Nat.le_refl 1) hq)
 | sort n => exact .inl (cW (Nat.le_refl 1) hq)
 | nat => exact .inl (cW (Nat.le_refl 1) hq)
 | zero => exact .inl (cW (Nat.le_refl 1) hq)
 | app f x => simp only [ht] at hf; exact .inl (.app (cW (f := f) (by omega) hq))
 | fst x => simp only [ht] at hf; exact .inl (.fst (cW (f := x) (by omega) hq))
 | snd x => simp only [ht] at hf; exact .inl (.snd (cW (f := x) (by omega) hq))
 | move p e x => simp only [ht] at hf; exact .inl (.move (cW (f := e) (by omega) hq))
 | elim p z s n => simp only [ht] at hf; exact .inl (.elim (cW (f := n) (by omega) hq) (cW (f := z) (by omega) hq))
 | _ => exact .inr trivial
theorem Gk {B q a y b : Tm} (hB : ht B ≤ 3) (hq : ht q ≤ 2) (h : Wh (B.inst (.fst q)) (id a y b)) : ht y ≤ 4 := by
 have le : ht y ≤ 3 → ht y ≤ 4 := fun h => by omega
 cases B with
 | var n => exact le (By h (.inr (.inl (cW (Nat.le_refl 1) hq))))
 | sort n => exact le (By h (.inr (.inl (cW (Nat.le_refl 1) hq))))
 | nat => exact le (By h (.inr (.inl (cW (Nat.le_refl 1) hq))))
 | zero => exact le (By h (.inr (.inl (cW (Nat.le_refl 1) hq))))
 | id a' y' b' =>
  cases gf h
  have := cV y' (.fst q)
  simp only [ht] at hB this
  show ht (y'.inst (.fst q)) ≤ 4
  omega
 | app f u =>
  simp only [ht] at hB
  rcases jv (f := f) (by omega) hq with k | k
  ·exact le (By h (.inr (.inl (.app k))))
  ·refine le (HA h ⟨fun _ _ _ e => (by cases e), fun v hv => ?_⟩)
   cases f <;> first | exact k.elim | skip
   case lam A c =>
    simp only [ht] at hB
    have e : ((c.sub (ups (sc (.fst q) Tm.var))).inst (u.inst (.fst q))) = (c.inst u).inst (.fst q) := (cB c u _).symm
    have hv : Hd (Tm.app (Tm.lam (A.inst (.fst q)) (c.sub (ups (sc (.fst q) Tm.var)))) (u.inst (.fst q))) v := hv
    cases hv with
    | beta =>
     rw [e]
     have := cV c u
     exact .inl (qU (by omega) hq)
    | app h => cases h
   all_goals
    cases hv with
    | app h => cases h
 | fst r =>
  simp only [ht] at hB
  rcases jv (f := r) (by omega) hq with k | k
  ·exact le (By h (.inr (.inl (.fst k))))
  ·refine le (HA h ⟨fun _ _ _ e => (by cases e), fun v hv => ?_⟩)
   cases r <;> first | exact k.elim | skip
   case pair s a b =>
    simp only [ht] at hB
    have hv : Hd (Tm.fst (Tm.pair (s.inst (.fst q)) (a.inst (.fst q)) (b.inst (.fst q)))) v := hv
    cases hv with
    | fpair => exact .inr (.inl (cW (by omega) hq))
    | fst h => cases h
   all_goals
    cases hv with
    | fst h => cases h
 | snd r =>
  simp only [ht] at hB
  rcases jv (f := r) (by omega) hq with k | k
  ·exact le (By h (.inr (.inl (.snd k))))
  ·refine le (HA h ⟨fun _ _ _ e => (by cases e), fun v hv => ?_⟩)
   cases r <;> first | exact k.elim | skip
   case pair s a b =>
    simp only [ht] at hB
    have hv : Hd (Tm.snd (Tm.pair (s.inst (.fst q)) (a.inst (.fst q)) (b.inst (.fst q)))) v := hv
    cases hv with
    | spair => exact .inr (.inl (cW (by omega) hq))
    | snd h => cases h
   all_goals
    cases hv with
    | snd h => cases h
 | move p e x =>
  simp only [ht] at hB
  rcases jv (f := e) (by omega) hq with k | k
  ·exact le (By h (.inr (.inl (.move k))))
  ·refine le (HA h ⟨fun _ _ _ e => (by cases e), fun v hv => ?_⟩)
   cases e <;> first | exact k.elim | skip
   case refl a =>
    have hv : Hd (Tm.move (p.inst (.fst q)) (Tm.refl (a.inst (.fst q))) (x.inst (.fst q))) v := hv
    cases hv with
    | mrefl => exact .inl (qU (by omega) hq)
    | move h => cases h
   all_goals
    cases hv with
    | move h => cases h
 | elim p z s n =>
  simp only [ht] at hB
  rcases jv (f := n) (by omega) hq with k | k
  ·exact le (By h (.inr (.inr ⟨_, _, _, _, rfl, k, qU (by omega) hq⟩)))
  ·refine le (KB h ⟨fun _ _ _ e => (by cases e), fun v hv => ?_⟩)
   cases n <;> first | exact k.elim | skip
   case succ l =>
    simp only [ht] at hB
    have hv : Hd (Tm.elim (p.inst (.fst q)) (z.inst (.fst q)) (s.inst (.fst q)) (Tm.succ (l.inst (.fst q)))) v := hv
    cases hv with
    | elim h => cases h
    | esucc =>
     rcases jv (f := s) (by omega) hq with k | k
     ·exact .inl (.inr (.inl (.app (.app k))))
     ·refine .inr ⟨fun _ _ _ e => (by cases e), fun v hv => ?_⟩
      cases s <;> first | exact k.elim | skip
      case lam A c _ =>
       simp only [ht] at hB
       have e : ((c.sub (ups (sc (.fst q) Tm.var))).inst (l.inst (.fst q))) = (c.inst l).inst (.fst q) := (cB c l _).symm
       have hv : Hd (Tm.app (Tm.app (Tm.lam (A.inst (.fst q)) (c.sub (ups (sc (.fst q) Tm.var)))) (l.inst (.fst q))) (Tm.elim (p.inst (.fst q)) (z.inst (.fst q)) (Tm.lam (A.inst (.fst q)) (c.sub (ups (sc (.fst q) Tm.var)))) (l.inst (.fst q)))) v := hv
       cases hv with
       | app h =>
        cases h with
        | beta =>
         rw [e]
         have := cV c l
         exact .inr (.inl (.app (cW (by omega) hq)))
        | app h => cases h
      all_goals
       cases hv with
       | app h => cases h with | app h => cases h
   all_goals
    cases hv with
    | elim h => cases h
 | _ => exact le (HA h ⟨fun _ _ _ e => (by cases e), fun v hv => by cases hv⟩)
theorem Kq {G : List Tm} {e Q : Tm} (hg : hts 4 G) (h : Al G e Q) (he : ht e ≤ 1) : ∃ C, Q = C.wk ∧ ht C ≤ 4 := by
 rcases mh he with ⟨n, rfl⟩ | ⟨n, rfl⟩ | rfl | rfl
 ·cases h with | var h => exact rK hg h
 ·cases h with | sort h => exact ⟨.sort (n + 1), rfl, by simp [ht]⟩
 ·cases h with | nat => exact ⟨.sort 0, rfl, by simp [ht]⟩
 ·cases h with | zero => exact ⟨.nat, rfl, by simp [ht]⟩
theorem zG {G : List Tm} {e Q : Tm} (hg : hts 4 G) (h : Al G e Q) (he : ht e ≤ 1) : ht Q ≤ 4 := by
 obtain ⟨C, rfl, hc⟩ := Kq hg h he
 rw [tZ]; exact hc
def T24 (Q : Tm) : Prop := ht Q ≤ 4 ∨ (∃ a C, Q = pi a (wk C) ∧ ht C ≤ 4) ∨ ∃ A a, Q = id A a a ∧ ht a ≤ 1
theorem JG {G : List Tm} {e Q : Tm} (hg : hts 4 G) (h : Al G e Q) (he : ht e ≤ 2) : T24 Q := by
 cases h with
 | var h => exact .inl (zG hg (.var h) (Nat.le_refl 1))
 | sort h => exact .inl (by simp [ht])
 | nat => exact .inl (by simp [ht])
 | zero => exact .inl (by simp [ht])
 | succ h c => exact .inl (by simp [ht])
 | pi h w k v => exact .inl (by simp [ht])
 | sig h w k v => exact .inl (by simp [ht])
 | @lam _ A b B S R i j h w k l v =>
  simp only [ht] at he
  obtain ⟨C, rfl, hc⟩ := Kq (hg.cons (by omega)) k (by omega)
  exact .inr (.inl ⟨A, C, rfl, hc⟩)
 | @app _ f u F U C B h w k c =>
  simp only [ht] at he
  have h1 := wh4 w (zG hg h (by omega)) (fun h => h)
  have h2 := cV B u
  simp only [ht] at h1
  exact .inl (by omega)
 | elim h w c v k d l e m f => exact .inl (by simp only [ht] at he ⊢; omega)
 | id h w k c l d => exact .inl (by simp [ht])
 | @refl _ a A S i h k w => exact .inr (.inr ⟨A, a, rfl, by simp only [ht] at he; omega⟩)
 | @move _ p e x Q t y z P C D i X h w k v c u l d =>
  simp only [ht] at he
  have h1 := wh4 w (zG hg h (by omega)) (fun h => h)
  simp only [ht] at h1
  exact .inl (by simp only [ht]; omega)
 | pair h w v k c l d => exact .inl (by simp only [ht] at he; omega)
 | @fst _ q Q A B h w =>
  simp only [ht] at he
  have h1 := wh4 w (zG hg h (by omega)) (fun h => h)
  simp only [ht] at h1
  exact .inl (by omega)
 | @snd _ q Q A B h w =>
  simp only [ht] at he
  have h1 := wh4 w (zG hg h (by omega)) (fun h => h)
  have h2 := cV B (.fst q)
  simp only [ht] at h1 h2
  exact .inl (by omega)
theorem KA {G : List Tm} {e Q t y z : Tm} (hg : hts 4 G) (h : Al G e Q) (he : ht e ≤ 3) (w : Wh Q (id t y z)) : ht y ≤ 4 := by
 have fin : ht Q ≤ 4 → ht y ≤ 4 := fun h => by have h1 := wh4 w h (fun h => h); simp only [ht] at h1; omega
 cases h with
 | var h => exact fin (zG hg (.var h) (Nat.le_refl 1))
 | sort h => exact fin (by simp [ht])
 | nat => exact fin (by simp [ht])
 | zero => exact fin (by simp [ht])
 | succ h c => exact fin (by simp [ht])
 | pi h w k v => exact fin (by simp [ht])
 | sig h w k v => exact fin (by simp [ht])
 | lam h v k l u => cases jL w
 | @app _ f u F U C B h v k c =>
  simp only [ht] at he
  rcases JG hg h (by omega) with hF | ⟨a, C', rfl, hc⟩ | ⟨A, a, rfl, ha⟩
  ·have h1 := wh4 v hF (fun h => h)
   have h2 := cV B u
   simp only [ht] at h1
   exact fin (by omega)
  ·cases jL v
   exact fin (by rw [C9]; exact hc)
  ·cases gf v
 | elim h v c r k d l e m f => exact fin (by simp only [ht] at he ⊢; omega)
 | id h v k c l d => exact fin (by simp [ht])
 | @refl _ a A S i h k v => cases gf w; simp only [ht] at he; omega
 | @move _ p e x Q t' y' z' P C D i X h v k r c u l d =>
  simp only [ht] at he
  rcases JG hg h (by omega) with hF | ⟨a, C', rfl, hc⟩ | ⟨A, a, rfl, ha⟩
  ·have h1 := wh4 v hF (fun h => h)
   simp only [ht] at h1
   exact fin (by simp only [ht]; omega)
  ·cases jL v
  ·cases gf v
   exact fin (by simp only [ht]; omega)
 | pair h v r k c l d => exact fin (by simp only [ht] at he; omega)
 | @fst _ q Q A B h v =>
  simp only [ht] at he
  rcases JG hg h (by omega) with hF | ⟨a, C', rfl, hc⟩ | ⟨A, a, rfl, ha⟩
  ·have h1 := wh4 v hF (fun h => h)
   simp only [ht] at h1
   exact fin (by omega)
  ·cases jL v
  ·cases gf v
 | @snd _ q Q A B h v =>
  simp only [ht] at he
  rcases JG hg h (by omega) with hF | ⟨a, C', rfl, hc⟩ | ⟨A, a, rfl, ha⟩
  ·have h1 := wh4 v hF (fun h => h)
   simp only [ht] at h1
   exact Gk (by omega) (by omega) w
  ·cases jL v
  ·cases gf v
theorem nZ {t : Tm} : ∀ {G : List Tm}, ht t ≤ 4 → ly t → Wf G → hts 4 G → G.length + ht t ≤ 12 → di O G t := by
 induction t with
 | var n => intros; trivial
 | sort n => intros; trivial
 | nat => intros; trivial
 | zero => intros; trivial
 | succ a ha => intro G h l w hg hl; simp only [ht] at h hl; exact ha (by omega) l w hg (by omega)
 | refl a ha => intro G h l w hg hl; simp only [ht] at h hl; exact ha (by omega) l w hg (by omega)
 | fst a ha => intro G h l w hg hl; simp only [ht] at h hl; exact ha (by omega) l w hg (by omega)
 | snd a ha => intro G h l w hg hl; simp only [ht] at h hl; exact ha (by omega) l w hg (by omega)
 | pi a b ha hb => intro G h l w hg hl; simp only [ht] at h hl; exact ⟨ha (by omega) l.1 w hg (by omega), fun v => hb (by omega) l.2 (v.wf w) (hg.cons (by omega)) (by simp only [List.length_cons]; omega)⟩
 | sig a b ha hb => intro G h l w hg hl; simp only [ht] at h hl; exact ⟨ha (by omega) l.1 w hg (by omega), fun v => hb (by omega) l.2 (v.wf w) (hg.cons (by omega)) (by simp only [List.length_cons]; omega)⟩
 | lam a b ha hb => intro G h l w hg hl; simp only [ht] at h hl; exact ⟨ha (by omega) l.1 w hg (by omega), fun v => hb (by omega) l.2 (v.wf w) (hg.cons (by omega)) (by simp only [List.length_cons]; omega)⟩
 | app a b ha hb => intro G h l w hg hl; simp only [ht] at h hl; exact ⟨ha (by omega) l.1 w hg (by omega), fun _ => hb (by omega) l.2 w hg (by omega)⟩
 | id a b c ha hb hc => intro G h l w hg hl; simp only [ht] at h hl; exact ⟨ha (by omega) l.1 w hg (by omega), hb (by omega) l.2.1 w hg (by omega), hc (by omega) l.2.2 w hg (by omega)⟩
 | elim a b c d ha hb hc hd =>
  intro G h l w hg hl
  simp only [ht] at h hl
  exact ⟨ha (by omega) l.1 w hg (by omega), hb (by omega) l.2.1 w hg (by omega), hc (by omega) l.2.2.1 w hg (by omega), hd (by omega) l.2.2.2 w hg (by omega), .inl (Ee (by omega) l.1)⟩
 | move p e x hp he hx =>
  intro G h l w hg hl
  simp only [ht] at h hl
  refine ⟨he (by omega) l.2.1 w hg (by omega), hp (by omega) l.1 w hg (by omega), hx (by omega) l.2.2 w hg (by omega), fun Q t y z q r _ => .inl ?_⟩
  have hy := KA hg q (by omega) r
  obtain ⟨i, _, ty, _⟩ := ((q.sound w).frm w r).rI w
  have zp := sz3 (t := p) (by omega)
  have zy := sz4 (t := y) hy
  exact DT (d := 12) ⟨H3 l.1 (by omega), rS ty.cl (by omega)⟩ ⟨E7 l.1, ty.srt⟩ (by simp only [ht]; omega) (by omega) (by simp only [of, T.size, T.aE]; omega)
 | pair s a b hs ha hb =>
  intro G h l w hg hl
  simp only [ht] at h hl
  refine ⟨hs (by omega) l.1 w hg (by omega), ha (by omega) l.2.1 w hg (by omega), hb (by omega) l.2.2 w hg (by omega), fun v A B r q => .inl ?_⟩
  have h1 := wh3 r (by omega) (by simp)
  have h2 := cV B a
  simp only [ht] at h1
  obtain ⟨S, i, v1, v2⟩ := v
  have ts := (v1.sound w).lvl w v2
  have tq := ts.red w r.red
  obtain ⟨i', j', g1, g2, _⟩ := tq.gen
  obtain ⟨U, u1, u2⟩ := q
  have ta := (u1.sound w).chk u2 g1
  have tb := g2.inst ta
  exact F5 (d := 12) (rS tb.cl (by omega)) tb.srt (by omega) (by omega)
end Tm
end Go.Proofs.YtajlknlnmmbfcaaGreat
end
section
namespace Go.Proofs.YtajlknlnmmbfcaaGreat
open Go Go.Dk
namespace Tm
def tyF : List Tm → Tm → Option Tm
 | G, var n => look G n
 | _, zero => some nat
 | _, succ _ => some nat
 | G, lam a b => (tyF (a :: G) b).map (pi a)
 | G, app f u => (match tyF G f with
  | some (pi _ B) => some (B.inst u)
  | _ => none)
 | _, elim p _ _ n => some (app p n)
 | G, move p e _ => (match tyF G e with
  | some (id _ _ z) => some (app p z)
  | _ => none)
 | G, refl a => (tyF G a).map fun A => id A a a
 | _, pair s _ _ => some s
 | G, fst q => (match tyF G q with
  | some (sig A _) => some A
  | _ => none)
 | G, snd q => (match tyF G q with
  | some (sig _ B) => some (B.inst (fst q))
  | _ => none)
 | _, _ => none
theorem Jx {t : Tm} : ∀ {G : List Tm} {A A' : Tm}, tyF G t = some A' → Al G t A → A = A' := by
 induction t with
 | var n => intro G A A' e h; cases h with | var h => rw [tyF, h] at e; exact Option.some.inj e
 | zero => intro G A A' e h; cases h; exact Option.some.inj e
 | succ a ha => intro G A A' e h; cases h; exact Option.some.inj e
 | elim p z s n hp hz hs hn => intro G A A' e h; cases h; exact Option.some.inj e
 | pair s a b hs ha hb => intro G A A' e h; cases h; exact Option.some.inj e
 | lam a b ha hb =>
  intro G A A' e h
  cases h with
  | lam h w k l v =>
   simp only [tyF, Option.map_eq_some_iff] at e
   obtain ⟨B', e1, rfl⟩ := e
   rw [hb e1 k]
 | refl a ha =>
  intro G A A' e h
  cases h with
  | refl h k w =>
   simp only [tyF, Option.map_eq_some_iff] at e
   obtain ⟨B', e1, rfl⟩ := e
   rw [ha e1 h]
 | app f u hf hu =>
  intro G A A' e h
  cases h with
  | app h w k c =>
   simp only [tyF] at e
   split at e
   ·rename_i e1
    have := hf e1 h
    subst this
    cases jL w
    exact Option.some.inj e
   ·cases e
 | move p q x hp hq hx =>
  intro G A A' e h
  cases h with
  | move h w k v c u l d =>
   simp only [tyF] at e
   split at e
   ·rename_i e1
    have := hq e1 h
    subst this
    cases gf w
    exact Option.some.inj e
   ·cases e
 | fst q hq =>
  intro G A A' e h
  cases h with
  | fst h w =>
   simp only [tyF] at e
   split at e
   ·rename_i e1
    have := hq e1 h
    subst this
    cases iy w
    exact Option.some.inj e
   ·cases e
 | snd q hq =>
  intro G A A' e h
  cases h with
  | snd h w =>
   simp only [tyF] at e
   split at e
   ·rename_i e1
    have := hq e1 h
    subst this
    cases iy w
    exact Option.some.inj e
   ·cases e
 | _ => intro G A A' e; cases e
def mc (A : Tm) : Bool := bC 0 [] A && (AG A && bC 0 [] A.wk)
def wtB (G : List Tm) (t : Tm) : Bool := match t with
 | pi _ _ => true
 | sig _ _ => true
 | id _ _ _ => true
 | sort _ => true
 | nat => true
 | _ => (match tyF G t with
  | some A => mc A
  | none => false)
theorem J2 {G : List Tm} {t A : Tm} (h : wtB G t = true) (q : Al G t A) : mc A = true := by
 have go : (match tyF G t with | some A => mc A | none => false) = true → mc A = true := fun h => by
  split at h
  ·rename_i e; rw [Jx e q]; exact h
  ·cases h
 cases t with
 | pi a b => cases q; rfl
 | sig a b => cases q; rfl
 | id a b c => cases q; rfl
 | sort n => cases q; rfl
 | nat => cases q; rfl
 | _ => exact go h
theorem DN : (iP.all fun p => p.2.all (wtB p.1)) = true := by decide +kernel
theorem NT.ren {n : Nat} {t : Tm} (h : NT n t) : ∀ {m : Nat} {ξ : Nat → Nat}, (∀ i, i < n → ξ i < m) → NT m (t.ren ξ) := by
 have hu : ∀ {n m : Nat} {ξ : Nat → Nat}, (∀ i, i < n → ξ i < m) → ∀ i, i < n + 1 → Tm.up ξ i < m + 1 := by
  intro n m ξ h i hi
  cases i with
  | zero => exact Nat.succ_pos _
  | succ i => exact Nat.succ_lt_succ (h i (by omega))
 induction h with
 | zero => exact fun _ => .zero
 | var h => exact fun k => .var (k _ h)
 | app h k ih ik => exact fun q => .app (ih (hu q)) (ik q)
 | elim h k l ih ik il => exact fun q => .elim (ih q) (ik (hu (hu q))) (il q)
 | fst h k ih ik => exact fun q => .fst (ih q) (ik q)
 | snd h k ih ik => exact fun q => .snd (ih q) (ik q)
 | move h k ih ik => exact fun q => .move (ih q) (ik q)
 | succ h ih => exact fun q => .succ (ih q)
theorem NT.wk {n : Nat} {t : Tm} (h : NT n t) : NT (n + 1) t.wk := h.ren fun i hi => by omega
theorem NT.sub {n : Nat} {t : Tm} (h : NT n t) : ∀ {m : Nat} {σ : Nat → Tm}, (∀ i, i < n → NT m (σ i)) → NT m (t.sub σ) := by
 have hu : ∀ {n m : Nat} {σ : Nat → Tm}, (∀ i, i < n → NT m (σ i)) → ∀ i, i < n + 1 → NT (m + 1) (ups σ i) := by
  intro n m σ h i hi
  cases i with
  | zero => exact .var (Nat.succ_pos _)
  | succ i => exact (h i (by omega)).wk
 induction h with
 | zero => exact fun _ => .zero
 | var h => exact fun k => k _ h
 | app h k ih ik => exact fun q => .app (ih (hu q)) (ik q)
 | elim h k l ih ik il => exact fun q => .elim (ih q) (ik (hu (hu q))) (il q)
 | fst h k ih ik => exact fun q => .fst (ih q) (ik q)
 | snd h k ih ik => exact fun q => .snd (ih q) (ik q)
 | move h k ih ik => exact fun q => .move (ih q) (ik q)
 | succ h ih => exact fun q => .succ (ih q)
inductive NTy (n : Nat) : Tm → Prop
 | nat : NTy n nat
 | app {u} (h : NT n u) : NTy n (app (lam nat nat) u)
theorem NT.tyS {n : Nat} {t : Tm} (h : NT n t) : ∀ {A : Tm}, Al (Ao n) t A → NTy n A := by
 induction h with
 | zero => intro A q; cases q; exact .nat
 | var h => intro A q; cases q with | var q => rw [n8 h] at q; cases q; exact .nat
 | @app n x y h k ih ik =>
  intro A q
  cases q with
  | app q w k' c =>
   cases q with
   | lam q1 q2 q3 q4 q5 =>
    cases jL w
    cases ih q3 with
    | nat => exact .nat
    | app h' => exact .app (h'.sub fun i hi => by
       cases i with
       | zero => exact k
       | succ i => exact .var (by omega))
 | elim h k l ih ik il => intro A q; cases q; exact .app l
 | fst h k ih ik =>
  intro A q
  cases q with | fst q w => cases q; cases iy w; exact .nat
 | snd h k ih ik =>
  intro A q
  cases q with | snd q w => cases q; cases iy w; exact .nat
 | move h k ih ik =>
  intro A q
  cases q with | move q w r v c u l d => cases q with | refl q1 q2 q3 => cases gf w; exact .app h
 | succ h ih => intro A q; cases q; exact .nat
def Wq (s : Tm) : Prop := (∃ n, NTy n s) ∨ mc s = true ∨ (ht s ≤ 4 ∧ lw s)
def Ws (s : Tm) : Prop := Wq s ∨ ∃ q, Wq q ∧ s = app (lam nat q.wk) zero
theorem Bse.want {G : List Tm} {m A : Tm} (h : Bse G m) (q : Al G m A) : Wq A := by
 rcases h with ⟨n, _, rfl, h, _⟩ | ⟨p, hp, rfl, h⟩
 ·exact .inl ⟨n, h.tyS q⟩
 ·exact .inr (.inl (J2 (List.all_eq_true.1 (List.all_eq_true.1 DN p hp) m h) q))
section
variable {G : List Tm} (w : Wf G) (g : hts 4 G) (l : G.length ≤ 4)
include w g l
theorem Wq.oZ {s : Tm} (h : Wq s) (v : vdM s = true) : di O G s := by
 rcases h with ⟨n, h⟩ | h | ⟨h, k⟩
 ·cases h with
  | nat => trivial
  | app h => exact ⟨⟨trivial, fun _ => trivial⟩, fun _ => h.oZ (aF.v_app v).2 _⟩
 ·simp only [mc, Bool.and_eq_true] at h
  exact dk h.1 (Nat.zero_le _)
 ·exact nZ h k.ly w g (by omega)
theorem Wq.Ht {s : Tm} (h : Wq s) (v : vdM s.wk = true) : di O (nat :: G) s.wk := by
 rcases h with ⟨n, h⟩ | h | ⟨h, k⟩
 ·cases h with
  | nat => trivial
  | app h => exact ⟨⟨trivial, fun _ => trivial⟩, fun _ => h.wk.oZ (aF.v_app (show vdM (Tm.app (Tm.lam Tm.nat Tm.nat) _) = true from v)).2 _⟩
 ·simp only [mc, Bool.and_eq_true] at h
  exact dk h.2.2 (Nat.zero_le _)
 ·exact nZ (by rw [tZ]; exact h) k.wk (.cons w (i := 0) .nat) (g.cons (by simp [ht])) (by rw [tZ]; simp only [List.length_cons]; omega)
theorem Ws.oZ {s t : Tm} (h : Ws s) (m : Mt s t) (v : vdM t = true) : di O G t := by
 rcases h with h | ⟨q, h, rfl⟩
 ·rcases m with rfl | rfl | h1 | ⟨a, b, e, rfl⟩
  ·exact h.oZ w g l v
  ·exact h.oZ w g l (aF.v_succ v)
  ·rcases mh h1 with ⟨n, rfl⟩ | ⟨n, rfl⟩ | rfl | rfl <;> trivial
  ·rcases h with ⟨n, h⟩ | h | ⟨h, k⟩
   ·cases h <;> rcases e with e | e | e <;> cases e
   ·simp only [mc, Bool.and_eq_true] at h
    exact si (dk h.1 (Nat.zero_le _)) h.2.1 (.inr (.inr (.inr ⟨a, b, e, rfl⟩)))
   ·have : ht (app a b) ≤ 4 ∧ lw (app a b) := by rcases e with rfl | rfl | rfl <;> exact ⟨h, k⟩
    exact nZ this.1 this.2.ly w g (by omega)
 ·have f : vdM (app (lam nat q.wk) zero) = true → di O G (app (lam nat q.wk) zero) := fun v =>
    ⟨⟨trivial, fun _ => h.Ht w g l (aF.v_lam (aF.v_app v).1).2⟩, fun _ => trivial⟩
  rcases m with rfl | rfl | h1 | ⟨a, b, e, rfl⟩
  ·exact f v
  ·exact f (aF.v_succ v)
  ·rcases mh h1 with ⟨n, rfl⟩ | ⟨n, rfl⟩ | rfl | rfl <;> trivial
  ·rcases e with e | e | e <;> cases e
end
end Tm
end Go.Proofs.YtajlknlnmmbfcaaGreat
end
section
namespace Go.Proofs.YtajlknlnmmbfcaaGreat
open Go Go.Ab Go.Dk
open Tm (tI tS cc pt ps pc Bse)
def Dv (g : List T) (y : T) : Prop := g.length ≤ 8 → ah y = true → ∃ (G : List Tm) (m : Tm), g = cx G ∧ y = of m ∧ Tm.qN O G ∧ (Tm.Wf G → Tm.di O G m)
theorem Dw.dv {g : List T} {y : T} (h : Dw g y) : Dv g y := fun h8 hv => by
 obtain ⟨G, m, e1, e2, hd⟩ := h h8 hv
 exact ⟨G, m, e1, e2, hd.oZ⟩
theorem J6 {G : List Tm} {a s : Tm} {g : List T} {y y' : T} (hb : Bse G a) (h : DwT (cx G) (of a) g y) (hs : Tm.Ws s) (hm : Hy (of s) y') : Dv g y' := by
 intro h8 hv
 obtain ⟨m, rfl, hm'⟩ := xR hm hv
 obtain ⟨G', rfl, fc, hg, hl⟩ := H0 hb h h8
 exact ⟨G', m, rfl, rfl, fc, fun w => hs.oZ w hg hl hm' hv⟩
theorem BU {g : List T} {y : T} (h : Dv g y) : soS g y = soI g y := by
 unfold soS soI
 cases hv : okA g && ah y with
 | false => rfl
 | true =>
  have hv' := hv
  rw [Bool.and_eq_true] at hv
  obtain ⟨G, m, rfl, rfl, f1, f2⟩ := h (yM hv.1) hv.2
  obtain ⟨G', e, hG, h8⟩ := gp hv.1
  have e' : G = G' := by rw [← bK G, e, bK]
  subst e'
  simp only [if_true]
  rw [bK, dm, Tm.Dq aF (by omega) hG f1 hv.2 f2]
theorem Gz {g : List T} {x y : T} (h : Dv g x) (h' : Dv g y) : ctS g x y = ctI g x y := by
 unfold ctS ctI
 cases hv : okA g && (ah x && ah y) with
 | false => rfl
 | true =>
  rw [Bool.and_eq_true, Bool.and_eq_true] at hv
  obtain ⟨G, m, rfl, rfl, f1, f2⟩ := h (yM hv.1) hv.2.1
  obtain ⟨G2, m2, e2, rfl, f3, f4⟩ := h' (yM hv.1) hv.2.2
  obtain ⟨G', e, hG, h8⟩ := gp hv.1
  have e' : G = G' := by rw [← bK G, e, bK]
  have e'' : G = G2 := by rw [← bK G, e2, bK]
  subst e'
  subst e''
  simp only [if_true]
  rw [bK, dm, dm, Tm.G7 aF (by omega) hG f1 hv.2.1 f2 hv.2.2 f4]
abbrev yb (r : List V1 × List au) : Prop := ∃ (g : List T) (x y : T), r = ([tms g, tm x, tm y], []) ∧ (x.size ≤ 1000 ∧ Dv g x) ∧ (y.size ≤ 3000 ∧ Dv g y) ∧ (∀ u ∈ g, ah u = true) ∧ g.length ≤ 10
theorem B9 {G : List Tm} {a : Tm} (hb : Bse G a) (h : (itS (cx G) (of a)).2 = 0) : ∃ A, (itS (cx G) (of a)).1 = of A ∧ vdM A = true ∧ Tm.Wq A := by
 have hd : Dw (cx G) (of a) := fun _ _ => ⟨G, a, rfl, rfl, .base hb (.inl rfl)⟩
 rw [GF hd] at h ⊢
 obtain ⟨G', m, A, e1, e2, hG, h8, v, w, _, e, eA, vA, _⟩ := FC h
 have e1' : G = G' := by rw [← bK G, e1, bK]
 have e2' : a = m := mo e2
 subst e1' e2'
 exact ⟨A, eA, vA, hb.want (Tm.An aF w e)⟩
set_option maxHeartbeats 2000000 in
theorem jf {n : Nat} (hn : BS + 100 ≤ n) (l : List UInt8) : Tot (FF n 46 [.one (.fr (.bs l))] []) yb := by
 have hS := wL
 refine bf (C := BS + 99) (by omega) fun n hn e => ?_
 rw [jx]
 refine ak (H7 (by omega) l) ?_
 rintro _ ⟨l', rfl, hr⟩
 simp only [evt]
 refine ak (Et (by omega) hr (by omega)) ?_
 rintro _ ⟨G, a, p, rfl, hb, hv, hr⟩
 simp only [evt]
 have zg : ∀ u ∈ cx G, u.size ≤ 4000000 := fun u hu => by have := ae ((sO hb).1 u hu); omega
 have za := ae (t := of a) hv
 have lg := (sO hb).2
 rw [tY (by omega) (by omega) zg (by omega)]
 simp only [evt]
 have hend : ∀ {s : Tm} {t : T} {p m : Int}, g6 l' p m → m ≤ 30000000 → t = of s → t.size ≤ 2000 → Tm.Ws s → Tot ((FF n 50 [.one (.ptr 0 0), tms (cx G), tm (of a)] [rdr l' p]).bind fun x42 => aR x42.2 fun x43 x44 => bsC x43 fun x45 x46 => aV .i64 x46 fun x47 x48 => aT x48 (rTs x42.1 fun x49 x50 => ag x50 fun x51 x52 => ai x52 (aj x44 ((FF n 84 [.one (.ptr 0 0), tm t] [.cells [.fr (.bs x45), .int .i64 x47]]).bind fun x53 => aR x53.2 fun x54 x55 => bsC x54 fun x56 x57 => aV .i64 x57 fun x58 x59 => aT x59 (ag x53.1 fun x60 x61 => ai x61 (aj x55 (some ([.one (.fr (.ts x49)), .agg [.int .i64 x51.k, .int .i64 x51.n, .fr (.ts x51.kids)], .agg [.int .i64 x60.k, .int .i64 x60.n, .fr (.ts x60.kids)]], [])))))))) yb := by
  intro s t p m hr hm ht hz hs
  subst ht
  refine ak (z8 (by omega) hv (sO hb).1 (sO hb).2 hr (by omega)) ?_
  rintro _ ⟨g, y, p, rfl, ⟨h1, hd⟩, h2, h3, h4⟩
  simp only [evt]
  refine ak (lz (t := of s) (by omega) (by omega) h4 (by omega)) ?_
  rintro _ ⟨y', p, rfl, hy, hr⟩
  have hys := hy.size
  simp only [evt]
  exact aq ⟨g, y, y', rfl, ⟨h1, (JW hb hd).dv⟩, ⟨by omega, J6 hb hd hs hy⟩, h2, h3⟩
 have hsz : ∀ {q : Tm}, vdM q = true → (of (Tm.app (Tm.lam .nat q.wk) .zero)).size ≤ 2000 := fun {q} v => by
  have := ae (t := of q) v
  simp only [of, T.size, T.aE, Tm.wk, Tm.sA]; omega
 have hsh : ∀ {q : Tm}, vdM q = true → FF n 83 [tm (of q), nt 1, nt 0] [] = some ([tm (of q.wk)], []) := fun {q} v => mU (b := q) (a := 1) (by omega) v (by omega)
 refine al (fun _ => ?_) (fun hc => ?_)
 ·refine ak (nB (by omega) hr (by omega)) ?_
  rintro _ ⟨x, p, rfl, hxv, ⟨q, rfl, hq, lq⟩, hr⟩
  have zx := ae hxv
  simp only [evt]
  refine ak (gu (by omega) hr (by omega) (by omega)) ?_
  rintro _ ⟨w, p, rfl, hw, hw2, hr⟩
  simp only [evt]
  refine al (fun _ => ?_) (fun _ => ?_)
  ·rw [bx (show 1 ≤ n by omega)]
   simp only [evt]
   rw [hsh (q := q) hxv]
   simp only [evt]
   rw [bE (show 1 ≤ n by omega) _ _ (by simp)]
   simp only [evt]
   rw [bx (show 1 ≤ n by omega)]
   simp only [evt]
   rw [bE (show 1 ≤ n by omega) _ _ (by simp)]
   simp only [evt]
   have hx := hend (s := .app (.lam .nat q.wk) .zero) (t := .mk 5 0 [.mk 4 0 [.mk 6 0 [], of q.wk], .mk 7 0 []]) hr (by omega) rfl (hsz hxv) (.inr ⟨q, (.inr (.inr ⟨hq, lq⟩)), rfl⟩)
   simp only [tm, cP, cQ, az] at hx ⊢
   with_reducible exact hx
  ·exact hend hr (by omega) rfl (by omega) (.inl (.inr (.inr ⟨hq, lq⟩)))
 ·obtain ⟨A, eA, vA, wA⟩ := B9 hb (by simpa using hc)
  have zA := ae (t := of A) vA
  rw [eA]
  refine ak (gu (by omega) hr (by omega) (by omega)) ?_
  rintro _ ⟨w, p, rfl, hw, hw2, hr⟩
  simp only [evt]
  refine al (fun _ => ?_) (fun _ => ?_)
  ·refine ak (nB (by omega) hr (by omega)) ?_
   rintro _ ⟨x, p, rfl, hxv, ⟨q, rfl, hq, lq⟩, hr⟩
   have zx := ae hxv
   simp only [evt]
   refine ak (gu (by omega) hr (by omega) (by omega)) ?_
   rintro _ ⟨w, p, rfl, hw, hw2, hr⟩
   simp only [evt]
   refine al (fun _ => ?_) (fun _ => ?_)
   ·rw [bx (show 1 ≤ n by omega)]
    simp only [evt]
    rw [hsh (q := q) hxv]
    simp only [evt]
    rw [bE (show 1 ≤ n by omega) _ _ (by simp)]
    simp only [evt]
    rw [bx (show 1 ≤ n by omega)]
    simp only [evt]
    rw [bE (show 1 ≤ n by omega) _ _ (by simp)]
    simp only [evt]
    have hx := hend (s := .app (.lam .nat q.wk) .zero) (t := .mk 5 0 [.mk 4 0 [.mk 6 0 [], of q.wk], .mk 7 0 []]) hr (by omega) rfl (hsz hxv) (.inr ⟨q, (.inr (.inr ⟨hq, lq⟩)), rfl⟩)
    simp only [tm, cP, cQ, az] at hx ⊢
    with_reducible exact hx
   ·exact hend hr (by omega) rfl (by omega) (.inl (.inr (.inr ⟨hq, lq⟩)))
  ·refine ak (gu (by omega) hr (by omega) (by omega)) ?_
   rintro _ ⟨w, p, rfl, hw, hw2, hr⟩
   simp only [evt]
   refine al (fun _ => ?_) (fun _ => ?_)
   ·rw [bx (show 1 ≤ n by omega)]
    simp only [evt]
    rw [hsh (q := A) vA]
    simp only [evt]
    rw [bE (show 1 ≤ n by omega) _ _ (by simp)]
    simp only [evt]
    rw [bx (show 1 ≤ n by omega)]
    simp only [evt]
    rw [bE (show 1 ≤ n by omega) _ _ (by simp)]
    simp only [evt]
    have hx := hend (s := .app (.lam .nat A.wk) .zero) (t := .mk 5 0 [.mk 4 0 [.mk 6 0 [], of A.wk], .mk 7 0 []]) hr (by omega) rfl (hsz vA) (.inr ⟨A, wA, rfl⟩)
    simp only [tm, cP, cQ, az] at hx ⊢
    with_reducible exact hx
   ·exact hend hr (by omega) rfl (by omega) (.inl wA)
abbrev EC (r : List V1 × List au) : Prop := ∃ (g : List T) (y : T), r = ([tms g, tm y], []) ∧ (y.size ≤ 3000 ∧ Dv g y) ∧ (∀ u ∈ g, ah u = true) ∧ g.length ≤ 10
theorem lX {n : Nat} (hn : BS + 101 ≤ n) (l : List UInt8) : Tot (FF n 44 [.one (.fr (.bs l))] []) EC := by
 refine bf (C := BS + 100) (by omega) fun n hn e => ?_
 rw [lx]
 refine ak (jf (by omega) l) ?_
 rintro _ ⟨g, x, y, rfl, ⟨h1, h2⟩, ⟨h3, h4⟩, h5, h6⟩
 simp only [evt]
 refine al (fun _ => ?_) (fun _ => ?_)
 ·exact aq ⟨g, x, rfl, ⟨by omega, h2⟩, h5, h6⟩
 ·exact aq ⟨g, y, rfl, ⟨h3, h4⟩, h5, h6⟩
theorem Gl {g : List T} {y : T} (h : (soI g y).2 ≠ 0) : (soI g y).1 = 0 := by
 unfold soI at h ⊢
 split
 ·rename_i hv
  rw [if_pos hv] at h
  cases e : ps O (tI O) (xf g) (dec y) with
  | ok A => rw [e] at h; exact absurd rfl h
  | bad => rfl
  | opn => rfl
 ·rfl
theorem Jn {s h : Tm} (e : Tm.lvr O (.ok s) = .ok h) : ∃ i, h = .sort i ∧ O.hn s = .ok (.sort i) := by
 unfold Tm.lvr Tm.lvl Tm.frm Tm.sq at e
 cases e2 : O.hn s with
 | ok x =>
  simp only [e2] at e
  cases x <;> first | (cases e; exact ⟨_, rfl, rfl⟩) | cases e
 | bad => simp only [e2] at e; cases e
 | opn => simp only [e2] at e; cases e
theorem IA {g : List T} {y : T} (h : (soI g y).2 = 0) : ∃ (G : List Tm) (m S : Tm) (i : Nat), g = cx G ∧ y = of m ∧ soI g y = ((i : Int), 0) ∧ itI g y = (of S, 0) ∧ i ≤ 3 ∧ Tm.Conv S (.sort i) ∧ vdM S = true ∧ Tm.Ty G m (.sort i) ∧ vdM m = true ∧ OkC G := by
 have h' := h
 unfold soI at h
 split at h
 ·rename_i hv
  rw [Bool.and_eq_true] at hv
  obtain ⟨G, rfl, hG, h8⟩ := gp hv.1
  obtain ⟨m, rfl⟩ := cJ hv.2
  rw [bK, dm] at h
  obtain ⟨B, e⟩ := rn.1 h
  obtain ⟨w, e1, c⟩ := Tm.Bw aF e
  obtain ⟨S, i, e2, rfl, r⟩ := Tm.Fh aF e1
  have e3 : Tm.lvr O (.ok S) = .ok (.sort i) := by rw [← e2]; exact e1
  obtain ⟨j, ej, hh⟩ := Jn e3
  cases ej
  refine ⟨G, m, S, i, rfl, rfl, ?_, ?_, CA.1 (aF.hn_ok hh).2.2, r.conv, Tm.As aF w hv.2 e2, ((Tm.An aF w e2).sound w).lvl w r, hv.2, hG, h8, w, c⟩
  ·rw [Jf hG h8 c hv.2, e1]; rfl
  ·rw [I9 hG h8 c hv.2, e2]; rfl
 ·cases h
theorem Ib {g : List T} {x y : T} (h : ctI g x y = 0) : ∃ (G : List Tm) (m u : Tm), g = cx G ∧ x = of m ∧ y = of u ∧ vdM m = true ∧ vdM u = true ∧ OkC G := by
 unfold ctI at h
 split at h
 ·rename_i hv
  rw [Bool.and_eq_true, Bool.and_eq_true] at hv
  obtain ⟨G, rfl, hG, h8⟩ := gp hv.1
  obtain ⟨m, rfl⟩ := cJ hv.2.1
  obtain ⟨u, rfl⟩ := cJ hv.2.2
  rw [bK, dm, dm] at h
  obtain ⟨B, e⟩ := rn.1 h
  unfold pc at e
  split at e
  ·rename_i e1
   obtain ⟨w, _, c⟩ := Tm.Bw aF e1
   exact ⟨G, m, u, rfl, rfl, rfl, hv.2.1, hv.2.2, hG, h8, w, c⟩
  ·rename_i e1; exact absurd e (e1 B)
 ·cases h
theorem JB {G : List Tm} {u : Tm} {i : Nat} (w : Tm.Wf G) (h : Tm.Ty G u (.sort i)) (c : Tm.Conv (.sort 3) u) : False := by
 have r := c.symm.xp
 have := (h.red w r.red).gen
 exact absurd this.1 (by omega)
end Go.Proofs.YtajlknlnmmbfcaaGreat
end
section
namespace Go.Proofs.YtajlknlnmmbfcaaGreat
open Go.ChangeShapes Go.WideShapes Go.ChangeAt Go.RowKit
open Go.ChangeMaps (open_string shut_string)
open Go.Dk
theorem own : ownKnob Tryz.prog.godebug = none := by kernel_rfl
theorem laidOut : laidOutB Tryz.prog = true := by kernel_rfl
section
variable {H : Type} {enc : TypeId × Value → H} {P : Program} {W : World} {sp : Nat → Bool} {hd : Bool}
end
end Go.Proofs.YtajlknlnmmbfcaaGreat
end
section
namespace Go.Proofs.YtajlknlnmmbfcaaGreat
open Go
def JT : List Char := ([104, 97, 114, 110, 101, 115, 115] : List Nat).map Char.ofNat
def JX : List Char := ([49, 56, 48, 49, 56, 97, 56, 56, 102, 50, 97, 51, 55, 52, 56, 51, 101, 48, 99, 48, 102, 98, 52, 51, 52, 52, 55, 51, 98, 57, 50, 52, 102, 57, 55, 51, 53, 50, 57, 51, 99, 53, 54, 54, 57, 52, 48, 102, 49, 54, 56, 48, 50, 102, 54, 57, 54, 97, 101, 98, 98, 99, 100, 100] : List Nat).map Char.ofNat
def lH : List Char := ([99, 117, 116] : List Nat).map Char.ofNat
def F7 : List Char := ([97, 116, 32, 108, 111, 111, 112, 46, 101, 120, 97, 109, 112, 108, 101, 47, 100, 101, 112, 107, 101, 114, 110, 101, 108, 47, 108, 97, 119, 115, 46, 70, 110, 84, 121, 112, 101, 65, 112, 112, 108, 121, 32, 108, 111, 111, 112, 46, 101, 120, 97, 109, 112, 108, 101, 47, 100, 101, 112, 107, 101, 114, 110, 101, 108, 47, 108, 97, 119, 115, 46, 70, 110, 84, 121, 112, 101, 67, 108, 111, 115, 101, 100, 32, 108, 111, 111, 112, 46, 101, 120, 97, 109, 112, 108, 101, 47, 100, 101, 112, 107, 101, 114, 110, 101, 108, 47, 108, 97, 119, 115, 46, 70, 110, 76, 97, 109, 65, 112, 112, 108, 121, 32, 108, 111, 111, 112, 46, 101, 120, 97, 109, 112, 108, 101, 47, 100, 101, 112, 107, 101, 114, 110, 101, 108, 47, 108, 97, 119, 115, 46, 70, 110, 67, 104, 101, 99, 107, 67, 111, 110, 116, 101, 120, 116, 32, 108, 111, 111, 112, 46, 101, 120, 97, 109, 112, 108, 101, 47, 100, 101, 112, 107, 101, 114, 110, 101, 108, 47, 108, 97, 119, 115, 46, 70, 110, 84, 121, 112, 101, 86, 97, 114, 32, 108, 111, 111, 112, 46, 101, 120, 97, 109, 112, 108, 101, 47, 100, 101, 112, 107, 101, 114, 110, 101, 108, 47, 108, 97, 119, 115, 46, 70, 110, 84, 121, 112, 101, 78, 111, 114, 109, 97, 108, 32, 108, 111, 111, 112, 46, 101, 120, 97, 109, 112, 108, 101, 47, 100, 101, 112, 107, 101, 114, 110, 101, 108, 47, 108, 97, 119, 115, 46, 70, 110, 84, 121, 112, 101, 87, 101, 97, 107, 101, 110, 32, 108, 111, 111, 112, 46, 101, 120, 97, 109, 112, 108, 101, 47, 100, 101, 112, 107, 101, 114, 110, 101, 108, 47, 108, 97, 119, 115, 46, 70, 110, 84, 121, 112, 101, 79, 102, 84, 121, 112, 101, 32, 108, 111, 111, 112, 46, 101, 120, 97, 109, 112, 108, 101, 47, 100, 101, 112, 107, 101, 114, 110, 101, 108, 47, 108, 97, 119, 115, 46, 70, 110, 84, 121, 112, 101, 83, 116, 101, 112, 32, 108, 111, 111, 112, 46, 101, 120, 97, 109, 112, 108, 101, 47, 100, 101, 112, 107, 101, 114, 110, 101, 108, 47, 108, 97, 119, 115, 46, 70, 110, 84, 121, 112, 101, 83, 117, 99, 99, 32, 108, 111, 111, 112, 46, 101, 120, 97, 109, 112, 108, 101, 47, 100, 101, 112, 107, 101, 114, 110, 101, 108, 47, 108, 97, 119, 115, 46, 70, 110, 84, 121, 112, 101, 80, 97, 114, 116, 115, 32, 108, 111, 111, 112, 46, 101, 120, 97, 109, 112, 108, 101, 47, 100, 101, 112, 107, 101, 114, 110, 101, 108, 47, 108, 97, 119, 115, 46, 70, 110, 84, 121, 112, 101, 73, 110, 110, 101, 114, 32, 108, 111, 111, 112, 46, 101, 120, 97, 109, 112, 108, 101, 47, 100, 101, 112, 107, 101, 114, 110, 101, 108, 47, 108, 97, 119, 115, 46, 70, 110, 84, 121, 112, 101, 83, 117, 98, 115, 116, 32, 108, 111, 111, 112, 46, 101, 120, 97, 109, 112, 108, 101, 47, 100, 101, 112, 107, 101, 114, 110, 101, 108, 47, 108, 97, 119, 115, 46, 70, 110, 84, 121, 112, 101, 80, 105, 32, 108, 111, 111, 112, 46, 101, 120, 97, 109, 112, 108, 101, 47, 100, 101, 112, 107, 101, 114, 110, 101, 108, 47, 108, 97, 119, 115, 46, 70, 110, 83, 111, 114, 116, 79, 102, 32, 108, 111, 111, 112, 46, 101, 120, 97, 109, 112, 108, 101, 47, 100, 101, 112, 107, 101, 114, 110, 101, 108, 47, 108, 97, 119, 115, 46, 70, 110, 67, 104, 101, 99, 107, 84, 121, 112, 101] : List Nat).map Char.ofNat
theorem Ga : Tryz.pinned.checked.prog.initOrder = String.ofList (JT ++ Char.ofNat 32 :: (JX ++ Char.ofNat 32 :: (lH ++ Char.ofNat 32 :: F7))) := by kernel_rfl
theorem re : ∀ (w r : List Char), w.all (fun c => c != Char.ofNat 32) = true → wordsSigns (w ++ Char.ofNat 32 :: r) = w :: wordsSigns r
 | [], r, _ => by rw [List.nil_append, wordsSigns]
 | c :: w, r, h => by
  rw [List.all_cons, Bool.and_eq_true] at h
  have hc : c = Char.ofNat 32 → False := fun e => by rw [e] at h; simp at h
  rw [List.cons_append, wordsSigns, re w r h.2]
  exact hc
theorem CZ : ∃ R, behindMainWord (wordsSigns Tryz.pinned.checked.prog.initOrder.toList) = lH :: R :=
 ⟨wordsSigns F7, by rw [Ga, String.toList_ofList, re _ _ (by decide +kernel), re _ _ (by decide +kernel), re _ _ (by decide +kernel)]; generalize wordsSigns F7 = R; kernel_rfl⟩
theorem i1 : (lH == "gc".toList || lH == "spec".toList) = false := by kernel_rfl
theorem i2 : (lH == "cut".toList) = true := by kernel_rfl
theorem i3 : (lH == "carried".toList) = false := by kernel_rfl
theorem i4 (R : List (List Char)) : stripLifts liftWords (lH :: R) = ([], lH :: R) := by kernel_rfl
theorem i5 : (some lH == some "cut".toList) = true := by kernel_rfl
theorem i6 : (some lH == some "carried".toList) = false := by kernel_rfl
theorem EN (P : Program) (h : ∃ R, behindMainWord (wordsSigns P.initOrder.toList) = lH :: R) : P.make = some .cut := by
 obtain ⟨R, h⟩ := h
 unfold Program.make
 rw [h]
 simp only [i1, i2, Bool.true_or, if_true, Bool.false_eq_true, if_false]
theorem GK (P : Program) (h : ∃ R, behindMainWord (wordsSigns P.initOrder.toList) = lH :: R) (h1 : (!P.laysLater) = true) (h2 : (!P.bearsReflect) = true) (h3 : P.doorFits [] = true) : P.mayEnter = true := by
 obtain ⟨R, h⟩ := h
 unfold Program.mayEnter
 rw [h]
 simp only [i1, i3, i4, List.head?_cons, i5, h1, h2, h3, Bool.false_and, Bool.false_or, Bool.or_true, Bool.true_and, Bool.and_true]
 decide
theorem F1 (P : Program) (h : ∃ R, behindMainWord (wordsSigns P.initOrder.toList) = lH :: R) : P.liftsFinal = false := by
 obtain ⟨R, h⟩ := h
 unfold Program.liftsFinal Program.headLifts
 rw [h]
 simp only [i4, List.head?_cons, i5, i6, Bool.false_and, Bool.false_or, if_true]
 decide
theorem Cd : Tryz.pinned.checked.prog.mayEnter = true := GK _ CZ (by kernel_rfl) (by kernel_rfl) (by kernel_rfl)
theorem CE : Tryz.pinned.checked.prog.liftsFinal = false := F1 _ CZ
theorem xq : Tryz.pinned.checked.prog.make = some .cut := EN _ CZ
end Go.Proofs.YtajlknlnmmbfcaaGreat
end
