/- Part 6 of the proof. -/
import Derived.Test.YtajlknlnmmbfcaaK01
import Derived.Test.YtajlknlnmmbfcaaK02
import Derived.Test.YtajlknlnmmbfcaaK03
import Derived.Test.YtajlknlnmmbfcaaK04
import Derived.Test.YtajlknlnmmbfcaaK05
set_option linter.unusedVariables false
set_option linter.unusedSimpArgs false
section
namespace Go.Proofs.Ytajlknlnmmbfcaa
namespace Tm
variable {E : Tm → Prop} {G : List Tm}
theorem Sem.stk (cl : Clo E G) {l : Nat} {U : Nat → Pr} (hU : ∀ i, i < l → ∀ t, E t → ck t → U i t) {A : Tm} {S X : Pr} (h : Sem E G l U A S X) : ∀ {t}, ck t → Bs E G X t → S t := by
 induction h with
 | nat w => intro t s b; exact .stuck b s
 | sort h w => intro t s b; exact ⟨b, hU _ h t b.1 s⟩
 | stuck h => intro t s b; exact b
 | pi w hC hB ih ik =>
  intro t s b
  refine ⟨b, fun u hu => ik u hu (s.app u) ⟨cl.app b.1 (hC.bs hu).1, fun T a => ?_⟩⟩
  cases a with
  | app h w k c => exact ((b.2 _ h).2 _ _ w).2 u hu
 | sig w hC hB ih ik =>
  intro t s b
  have h1 := ih s.fst ⟨cl.fst b.1, fun T a => by
   cases a with
   | fst h w => exact ((b.2 _ h).2 _ _ w).1⟩
  refine ⟨b, h1, ik _ h1 s.snd ⟨cl.snd b.1, fun T a => ?_⟩⟩
  cases a with
  | snd h w => exact ((b.2 _ h).2 _ _ w).2 _ h1
 | id w hT ih => intro t s b; exact ⟨b, .inr s⟩
theorem Sem.exp (cl : Clo E G) {l : Nat} {U : Nat → Pr} (hU : ∀ i, i < l → ∀ t t', E t → Wh t t' → U i t' → U i t) {A : Tm} {S X : Pr} (h : Sem E G l U A S X) : ∀ {t t'}, Wh t t' → S t' → Bs E G X t → S t := by
 induction h with
 | nat w =>
  intro t t' r s b
  cases s with
  | zero _ w => exact .zero b (r.trans w)
  | succ _ w h => exact .succ b (r.trans w) h
  | stuck _ s => exact .stuck b (s.exp r)
 | sort h w => intro t t' r s b; exact ⟨b, hU _ h t t' b.1 r s.2⟩
 | stuck h => intro t t' r s b; exact b
 | pi w hC hB ih ik =>
  intro t t' r s b
  refine ⟨b, fun u hu => ik u hu (r.app u) (s.2 u hu) ⟨cl.app b.1 (hC.bs hu).1, fun T a => ?_⟩⟩
  cases a with
  | app h w k c => exact ((b.2 _ h).2 _ _ w).2 u hu
 | @sig A C B SC GC SB GB w hC hB ih ik =>
  intro t t' r s b
  have h1 := ih r.fst s.2.1 ⟨cl.fst b.1, fun T a => by
   cases a with
   | fst h w => exact ((b.2 _ h).2 _ _ w).1⟩
  have e := (hB _ h1).det ((hB _ s.2.1).conv (Conv.inst .bg r.fst.conv.symm))
  refine ⟨b, h1, ik _ h1 r.snd ((e.1 _).2 s.2.2) ⟨cl.snd b.1, fun T a => ?_⟩⟩
  cases a with
  | snd h w => exact ((b.2 _ h).2 _ _ w).2 _ h1
 | id w hT ih => intro t t' r s b; exact ⟨b, s.2.imp (fun ⟨a, k⟩ => ⟨a, r.trans k.1, k.2⟩) (fun h => h.exp r)⟩
variable (E G) in
abbrev M (A : Tm) (S X : Pr) : Prop := Sem E G 4 (Vs E G 4) A S X
variable (E G) in
def Ok (A : Tm) : Prop := ∃ S X, M E G A S X
variable (E G) in
def el (A t : Tm) : Prop := ∃ S X, M E G A S X ∧ S t
variable (E G) in
def gd (A t : Tm) : Prop := ∃ S X, M E G A S X ∧ X t
theorem M.el {A : Tm} {S X : Pr} (h : M E G A S X) (t : Tm) : S t ↔ el E G A t :=
 ⟨fun k => ⟨S, X, h, k⟩, fun ⟨S', X', h', k⟩ => ((h.det h').1 t).2 k⟩
theorem M.gd {A : Tm} {S X : Pr} (h : M E G A S X) (t : Tm) : X t ↔ gd E G A t :=
 ⟨fun k => ⟨S, X, h, k⟩, fun ⟨S', X', h', k⟩ => ((h.det h').2 t).2 k⟩
theorem Ok.m {A : Tm} (h : Ok E G A) : M E G A (el E G A) (gd E G A) := by
 obtain ⟨S, X, h⟩ := h
 have e1 : S = Tm.el E G A := funext fun t => propext (M.el h t)
 have e2 : X = Tm.gd E G A := funext fun t => propext (M.gd h t)
 rw [← e1, ← e2]; exact h
theorem el.ok {A t : Tm} (h : el E G A t) : Ok E G A := let ⟨S, X, h, _⟩ := h; ⟨S, X, h⟩
theorem gd.ok {A t : Tm} (h : gd E G A t) : Ok E G A := let ⟨S, X, h, _⟩ := h; ⟨S, X, h⟩
theorem el.bs {A t : Tm} (h : el E G A t) : Bs E G (gd E G A) t := (h.ok.m).bs h
theorem gd.ends {A t : Tm} (h : gd E G A t) : E t := (h.ok.m).ends h
theorem Ok.conv {A B : Tm} (h : Ok E G A) (c : Conv A B) : Ok E G B := ⟨_, _, h.m.conv c⟩
theorem el.conv {A B t : Tm} (h : el E G A t) (c : Conv A B) : el E G B t := ⟨_, _, h.ok.m.conv c, h⟩
theorem gd.conv {A B t : Tm} (h : gd E G A t) (c : Conv A B) : gd E G B t := ⟨_, _, h.ok.m.conv c, h⟩
theorem vs4 {i : Nat} {t : Tm} (h : i < 4) (k : Vs E G 4 i t) : Ok E G t ∧ gd E G t t := by
 obtain ⟨S, X, h1, h2⟩ := (kj h).1 k
 have := h1.up (show i ≤ 4 by omega)
 exact ⟨⟨S, X, this⟩, ⟨S, X, this, h2⟩⟩
theorem CX {l i : Nat} (h : i < l) {t : Tm} (e : E t) (s : ck t) : Vs E G l i t := (kj h).2 ⟨_, _, .stuck s, e⟩
theorem Sem.CA {l : Nat} {U : Nat → Pr} {A : Tm} {S X : Pr} (h : Sem E G l U A S X) {t t' : Tm} (e : E t) (w : Wh t t') (k : X t') : X t := by
 cases h with
 | nat _ => exact e
 | sort _ _ => exact e
 | stuck _ => exact e
 | pi _ hC hB =>
  refine ⟨e, fun C B r => ?_⟩
  rcases w.two r with q | q
  ·exact k.2 C B q
  ·have := (show Canon (Tm.pi C B) from trivial).wh q; subst this
   exact k.2 C B .nil
 | sig _ hC hB =>
  refine ⟨e, fun C B r => ?_⟩
  rcases w.two r with q | q
  ·exact k.2 C B q
  ·have := (show Canon (Tm.sig C B) from trivial).wh q; subst this
   exact k.2 C B .nil
 | id _ hT =>
  refine ⟨e, fun x y z r => ?_⟩
  rcases w.two r with q | q
  ·exact k.2 x y z q
  ·have := (show Canon (Tm.id x y z) from trivial).wh q; subst this
   exact k.2 x y z .nil
theorem GF {l i : Nat} (h : i < l) {t t' : Tm} (e : E t) (w : Wh t t') (k : Vs E G l i t') : Vs E G l i t := by
 obtain ⟨S, X, h1, h2⟩ := (kj h).1 k
 exact (kj h).2 ⟨S, X, h1.conv w.conv.symm, h1.CA e w h2⟩
theorem qE (cl : Clo E G) {A t : Tm} (h : Ok E G A) (s : ck t) (b : Bs E G (gd E G A) t) : el E G A t :=
 h.m.stk cl (fun i hi t e s => CX hi e s) s b
theorem pS (cl : Clo E G) {A t t' : Tm} (w : Wh t t') (k : el E G A t') (b : Bs E G (gd E G A) t) : el E G A t :=
 k.ok.m.exp cl (fun i hi t t' e w k => GF hi e w k) w k b
theorem Dl {t : Tm} : gd E G nat t ↔ E t := (M.gd (.nat .nil) t).symm
theorem mQ {i : Nat} (h : i ≤ 3) {t : Tm} : gd E G (sort i) t ↔ E t := (M.gd (.sort (by omega) .nil) t).symm
theorem jT {t : Tm} : el E G nat t ↔ E8 E G t := (M.el (.nat .nil) t).symm
theorem uL {i : Nat} (h : i ≤ 3) {t : Tm} : el E G (sort i) t ↔ Bs E G E t ∧ Vs E G 4 i t := (M.el (.sort (by omega) .nil) t).symm
theorem cm {i : Nat} {t : Tm} (k : el E G (sort i) t) : i ≤ 3 := by
 obtain ⟨S, X, h, _⟩ := k
 cases h with
 | nat w => cases w with | cons h _ => cases h
 | sort h w => cases (show Canon (sort i) from trivial).wh w; omega
 | stuck h => exact (h _ .nil trivial).elim
 | pi w => cases w with | cons h _ => cases h
 | sig w => cases w with | cons h _ => cases h
 | id w => cases w with | cons h _ => cases h
theorem bj {i : Nat} {t : Tm} (k : el E G (sort i) t) : Ok E G t ∧ gd E G t t :=
 vs4 (by have := cm k; omega) ((uL (cm k)).1 k).2
theorem gZ {C B : Tm} (h : Ok E G (pi C B)) : Ok E G C ∧ (∀ u, el E G C u → Ok E G (B.inst u)) ∧
   (∀ f, el E G (pi C B) f ↔ Bs E G (gd E G (pi C B)) f ∧ ∀ u, el E G C u → el E G (B.inst u) (app f u)) ∧
   (∀ X, gd E G (pi C B) X ↔ E X ∧ ∀ C' B', Wh X (pi C' B') → gd E G C C' ∧ ∀ u, el E G C u → gd E G (B.inst u) (B'.inst u)) := by
 obtain ⟨S, X, h⟩ := h
 have h0 := h
 cases h with
 | nat w => cases w with | cons h _ => cases h
 | sort _ w => cases w with | cons h _ => cases h
 | stuck h => exact (h _ .nil trivial).elim
 | sig w => cases w with | cons h _ => cases h
 | id w => cases w with | cons h _ => cases h
 | pi w hC hB =>
  cases (show Canon (pi C B) from trivial).wh w
  have g : ∀ X, gd E G (pi C B) X ↔ E X ∧ ∀ C' B', Wh X (pi C' B') → gd E G C C' ∧ ∀ u, el E G C u → gd E G (B.inst u) (B'.inst u) := fun X => by
   rw [← M.gd h0 X]
   exact ⟨fun k => ⟨k.1, fun C' B' r => ⟨(M.gd hC _).1 (k.2 C' B' r).1, fun u hu => (M.gd (hB u ((M.el hC u).2 hu)) _).1 ((k.2 C' B' r).2 u ((M.el hC u).2 hu))⟩⟩,
    fun k => ⟨k.1, fun C' B' r => ⟨(M.gd hC _).2 (k.2 C' B' r).1, fun u hu => (M.gd (hB u hu) _).2 ((k.2 C' B' r).2 u ((M.el hC u).1 hu))⟩⟩⟩
  refine ⟨⟨_, _, hC⟩, fun u hu => ⟨_, _, hB u ((M.el hC u).2 hu)⟩, fun f => ?_, g⟩
  rw [← M.el h0 f]
  exact ⟨fun k => ⟨(dv (M.gd h0) f).1 k.1, fun u hu => (M.el (hB u ((M.el hC u).2 hu)) _).1 (k.2 u ((M.el hC u).2 hu))⟩,
   fun k => ⟨(dv (M.gd h0) f).2 k.1, fun u hu => (M.el (hB u hu) _).2 (k.2 u ((M.el hC u).1 hu))⟩⟩
theorem gb {C B : Tm} (h : Ok E G (sig C B)) : Ok E G C ∧ (∀ u, el E G C u → Ok E G (B.inst u)) ∧
   (∀ f, el E G (sig C B) f ↔ Bs E G (gd E G (sig C B)) f ∧ el E G C (fst f) ∧ el E G (B.inst (fst f)) (snd f)) ∧
   (∀ X, gd E G (sig C B) X ↔ E X ∧ ∀ C' B', Wh X (sig C' B') → gd E G C C' ∧ ∀ u, el E G C u → gd E G (B.inst u) (B'.inst u)) := by
 obtain ⟨S, X, h⟩ := h
 have h0 := h
 cases h with
 | nat w => cases w with | cons h _ => cases h
 | sort _ w => cases w with | cons h _ => cases h
 | stuck h => exact (h _ .nil trivial).elim
 | pi w => cases w with | cons h _ => cases h
 | id w => cases w with | cons h _ => cases h
 | sig w hC hB =>
  cases (show Canon (sig C B) from trivial).wh w
  have g : ∀ X, gd E G (sig C B) X ↔ E X ∧ ∀ C' B', Wh X (sig C' B') → gd E G C C' ∧ ∀ u, el E G C u → gd E G (B.inst u) (B'.inst u) := fun X => by
   rw [← M.gd h0 X]
   exact ⟨fun k => ⟨k.1, fun C' B' r => ⟨(M.gd hC _).1 (k.2 C' B' r).1, fun u hu => (M.gd (hB u ((M.el hC u).2 hu)) _).1 ((k.2 C' B' r).2 u ((M.el hC u).2 hu))⟩⟩,
    fun k => ⟨k.1, fun C' B' r => ⟨(M.gd hC _).2 (k.2 C' B' r).1, fun u hu => (M.gd (hB u hu) _).2 ((k.2 C' B' r).2 u ((M.el hC u).1 hu))⟩⟩⟩
  refine ⟨⟨_, _, hC⟩, fun u hu => ⟨_, _, hB u ((M.el hC u).2 hu)⟩, fun f => ?_, g⟩
  rw [← M.el h0 f]
  exact ⟨fun k => ⟨(dv (M.gd h0) f).1 k.1, (M.el hC _).1 k.2.1, (M.el (hB _ k.2.1) _).1 k.2.2⟩,
   fun k => ⟨(dv (M.gd h0) f).2 k.1, (M.el hC _).2 k.2.1, (M.el (hB _ ((M.el hC _).2 k.2.1)) _).2 k.2.2⟩⟩
theorem jQ {t y z : Tm} (h : Ok E G (id t y z)) : Ok E G t ∧
   (∀ e, el E G (id t y z) e ↔ Bs E G (gd E G (id t y z)) e ∧ IdF y z e) ∧
   (∀ X, gd E G (id t y z) X ↔ E X ∧ ∀ t' y' z', Wh X (id t' y' z') → gd E G t t' ∧ el E G t y' ∧ el E G t z' ∧ Conv y' y ∧ Conv z' z) := by
 obtain ⟨S, X, h⟩ := h
 have h0 := h
 cases h with
 | nat w => cases w with | cons h _ => cases h
 | sort _ w => cases w with | cons h _ => cases h
 | stuck h => exact (h _ .nil trivial).elim
 | pi w => cases w with | cons h _ => cases h
 | sig w => cases w with | cons h _ => cases h
 | id w hT =>
  cases (show Canon (id t y z) from trivial).wh w
  have g : ∀ X, gd E G (id t y z) X ↔ E X ∧ ∀ t' y' z', Wh X (id t' y' z') → gd E G t t' ∧ el E G t y' ∧ el E G t z' ∧ Conv y' y ∧ Conv z' z := fun X => by
   rw [← M.gd h0 X]
   exact ⟨fun k => ⟨k.1, fun a b c r => let q := k.2 a b c r; ⟨(M.gd hT _).1 q.1, (M.el hT _).1 q.2.1, (M.el hT _).1 q.2.2.1, q.2.2.2⟩⟩,
    fun k => ⟨k.1, fun a b c r => let q := k.2 a b c r; ⟨(M.gd hT _).2 q.1, (M.el hT _).2 q.2.1, (M.el hT _).2 q.2.2.1, q.2.2.2⟩⟩⟩
  refine ⟨⟨_, _, hT⟩, fun f => ?_, g⟩
  rw [← M.el h0 f]
  exact ⟨fun k => ⟨(dv (M.gd h0) f).1 k.1, k.2⟩, fun k => ⟨(dv (M.gd h0) f).2 k.1, k.2⟩⟩
theorem Hy {C B : Tm} (h : Ok E G C) (k : ∀ u, el E G C u → Ok E G (B.inst u)) : Ok E G (pi C B) :=
 ⟨_, _, .pi (SB := fun u => el E G (B.inst u)) (GB := fun u => gd E G (B.inst u)) .nil h.m (fun u hu => (k u hu).m)⟩
theorem HH {t y z : Tm} (h : Ok E G t) : Ok E G (id t y z) := ⟨_, _, .id .nil h.m⟩
theorem lev {i m : Nat} {t : Tm} (k : el E G (sort i) t) (hm : i ≤ m) : Sem E G m (Vs E G m) t (el E G t) (gd E G t) := by
 obtain ⟨S, X, h1, h2⟩ := (kj (by have := cm k; omega)).1 ((uL (cm k)).1 k).2
 have h4 : M E G t S X := h1.up (by have := cm k; omega)
 have e1 : S = Tm.el E G t := funext fun t => propext (M.el h4 t)
 have e2 : X = Tm.gd E G t := funext fun t => propext (M.gd h4 t)
 rw [← e1, ← e2]; exact h1.up hm
theorem ur {m : Nat} (hm : m ≤ 3) {t : Tm} {S X : Pr} (h : Sem E G m (Vs E G m) t S X) (b : Bs E G E t) (g : X t) : el E G (sort m) t :=
 (uL hm).2 ⟨b, (kj (by omega)).2 ⟨S, X, h, g⟩⟩
theorem yu {C B : Tm} {i j : Nat} (h : el E G (sort i) C) (hj : j ≤ 3) (k : ∀ u, el E G C u → el E G (sort j) (B.inst u)) (b : Bs E G E (pi C B)) : el E G (sort (max i j)) (pi C B) := by
 refine ur (by have := cm h; omega) (.pi (SB := fun u => el E G (B.inst u)) (GB := fun u => gd E G (B.inst u)) .nil (lev h (by omega)) (fun u hu => lev (k u hu) (by omega))) b ⟨b.1, fun C' B' r => ?_⟩
 cases (show Canon (pi C B) from trivial).wh r
 exact ⟨(bj h).2, fun u hu => (bj (k u hu)).2⟩
theorem u5 {C B : Tm} {i j : Nat} (h : el E G (sort i) C) (hj : j ≤ 3) (k : ∀ u, el E G C u → el E G (sort j) (B.inst u)) (b : Bs E G E (sig C B)) : el E G (sort (max i j)) (sig C B) := by
 refine ur (by have := cm h; omega) (.sig (SB := fun u => el E G (B.inst u)) (GB := fun u => gd E G (B.inst u)) .nil (lev h (by omega)) (fun u hu => lev (k u hu) (by omega))) b ⟨b.1, fun C' B' r => ?_⟩
 cases (show Canon (sig C B) from trivial).wh r
 exact ⟨(bj h).2, fun u hu => (bj (k u hu)).2⟩
theorem yo {t y z : Tm} {i : Nat} (h : el E G (sort i) t) (hy : el E G t y) (hz : el E G t z) (b : Bs E G E (id t y z)) : el E G (sort i) (id t y z) := by
 refine ur (cm h) (.id .nil (lev h (Nat.le_refl _))) b ⟨b.1, fun x y' z' r => ?_⟩
 cases (show Canon (id t y z) from trivial).wh r
 exact ⟨(bj h).2, hy, hz, .bg, .bg⟩
theorem pr {f u C B : Tm} (h : el E G (pi C B) f) (k : el E G C u) : el E G (B.inst u) (app f u) := (((gZ h.ok).2.2.1 f).1 h).2 u k
theorem Ai {p n : Tm} {i : Nat} (hp : el E G (pi nat (sort i)) p) (hn : el E G nat n) : el E G (sort i) (app p n) := pr (B := sort i) hp hn
theorem EE (cl : Clo E G) {p z s : Tm} {i : Nat} (hp : el E G (pi nat (sort i)) p) (hz : el E G (app p zero) z) (hs : el E G (br p) s) {n : Tm} (hn : el E G nat n) : el E G (app p n) (elim p z s n) := by
 have hn' := jT.1 hn
 have bs : ∀ {n}, el E G nat n → Bs E G (gd E G (app p n)) (elim p z s n) := fun {n} hn => ⟨cl.elim hp.bs.1 hz.bs.1 hs.bs.1 hn.bs.1, fun T a => by
  cases a with
  | elim => exact (bj (Ai hp hn)).2⟩
 clear hn
 induction hn' with
 | @zero n b w => exact pS cl ((w.elim _ _ _).trans (.cons .ezero .nil)) (hz.conv (Conv.app .bg w.conv.symm)) (bs (jT.2 (.zero b w)))
 | @succ n m b w h ih =>
  have hm := jT.2 h
  have h1 : el E G (pi ((app p.wk (var 0)).sub (sc m var)) ((app p.wk.wk (succ (var 1))).sub (ups (sc m var)))) (app s m) := pr hs hm
  have e1 : ((app p.wk (var 0)).sub (sc m var)) = app p m := by
   show app (p.wk.sub _) _ = _
   rw [gp, bX]; rfl
  rw [e1] at h1
  have h2 := pr h1 ih
  rw [mZ] at h2
  exact pS cl ((w.elim _ _ _).trans (.cons .esucc .nil)) (h2.conv (Conv.app .bg w.conv.symm)) (bs (jT.2 (.succ b w h)))
 | @stuck n b st => exact qE cl (bj (Ai hp (jT.2 (.stuck b st)))).1 (st.elim _ _ _) (bs (jT.2 (.stuck b st)))
theorem lj (b u : Tm) (σ τ : Nat → Tm) : (b.sub (ups σ)).sub (sc u τ) = ((b.sub (ups σ)).sub (ups τ)).inst u := (rV _ _ _).symm
variable (E G) in
def Good (D H : List Tm) (σ τ : Nat → Tm) : Prop := ∀ n A, look D n = some A → el E G ((A.sub σ).sub τ) ((σ n).sub τ) ∧ ∀ T, Al H (σ n) T → gd E G ((A.sub σ).sub τ) (T.sub τ)
theorem Good.cons {D H : List Tm} {σ τ : Nat → Tm} (g : Good E G D H σ τ) {A u : Tm} (hu : el E G ((A.sub σ).sub τ) u) (hA : gd E G ((A.sub σ).sub τ) ((A.sub σ).sub τ)) : Good E G (A :: D) (A.sub σ :: H) (ups σ) (sc u τ) := by
 intro n B hB
 cases n with
 | zero =>
  simp only [look, Option.some.injEq] at hB; subst hB
  rw [tW, gp]
  refine ⟨hu, fun T a => ?_⟩
  cases a with
  | var h =>
   simp only [look, Option.some.injEq] at h; subst h
   rw [gp]; exact hA
 | succ n =>
  obtain ⟨C, hC, rfl⟩ := Option.map_eq_some_iff.1 hB
  rw [tW, gp]
  obtain ⟨g1, g2⟩ := g n C hC
  refine ⟨by show el E G _ ((σ n).wk.sub (sc u τ)); rw [gp]; exact g1, fun T a => ?_⟩
  obtain ⟨T', rfl, a'⟩ := Al.FJ (A := A.sub σ) a
  rw [gp]; exact g2 _ a'
theorem Ty.sem (cl : Clo E G) {D : List Tm} {t A : Tm} (h : Ty D t A) : Wf D → ∀ {H σ τ}, Good E G D H σ τ →
   el E G ((A.sub σ).sub τ) ((t.sub σ).sub τ) ∧ ∀ T, Al H (t.sub σ) T → gd E G ((A.sub σ).sub τ) (T.sub τ) := by
 induction h with
 | var h => intro w H σ τ g; exact g _ _ h
 | @sort D n h =>
  intro w H σ τ g
  have b : Bs E G E (Tm.sort n) := ⟨cl.sort n, fun T a => by cases a; exact cl.sort _⟩
  refine ⟨ur (m := n + 1) (by omega) (.sort (i := n) (by omega) .nil) b b.1, fun T a => ?_⟩
  cases a with
  | sort h => exact (mQ (by omega)).2 (cl.sort _)
 | @pi D A B i j h k ih ik =>
  intro w H σ τ g
  obtain ⟨a1, a2⟩ := ih w g
  have a1 : el E G (Tm.sort i) ((A.sub σ).sub τ) := a1
  have hi := cm a1
  have hj : j ≤ 3 := (k.valid (.cons w h)).le
  have b : Bs E G E (Tm.pi ((A.sub σ).sub τ) ((B.sub (ups σ)).sub (ups τ))) := ⟨cl.pi a1.bs.1, fun T a => by cases a; exact cl.sort _⟩
  refine ⟨yu a1 hj (fun u hu => ?_) b, fun T a => ?_⟩
  ·rw [← lj]
   exact (ik (.cons w h) (g.cons hu (bj a1).2)).1
  ·cases a with
   | pi h' w' k' v => exact (mQ (i := max i j) (by omega)).2 (cl.sort _)
 | @sig D A B i j h k ih ik =>
  intro w H σ τ g
  obtain ⟨a1, a2⟩ := ih w g
  have a1 : el E G (Tm.sort i) ((A.sub σ).sub τ) := a1
  have hi := cm a1
  have hj : j ≤ 3 := (k.valid (.cons w h)).le
  have b : Bs E G E (Tm.sig ((A.sub σ).sub τ) ((B.sub (ups σ)).sub (ups τ))) := ⟨cl.sig a1.bs.1, fun T a => by cases a; exact cl.sort _⟩
  refine ⟨u5 a1 hj (fun u hu => ?_) b, fun T a => ?_⟩
  ·rw [← lj]
   exact (ik (.cons w h) (g.cons hu (bj a1).2)).1
  ·cases a with
   | sig h' w' k' v => exact (mQ (i := max i j) (by omega)).2 (cl.sort _)
 | @lam D A B b i j h k l ih ik il =>
  intro w H σ τ g
  obtain ⟨a1, a2⟩ := ih w g
  have a1 : el E G (Tm.sort i) ((A.sub σ).sub τ) := a1
  have oA := bj a1
  have ww := Wf.cons w h
  have oP : Ok E G (Tm.pi ((A.sub σ).sub τ) ((B.sub (ups σ)).sub (ups τ))) := Hy oA.1 fun u hu => by
   rw [← lj]; exact (ik ww (g.cons hu oA.2)).1.ok
  have gP : ∀ {H σ τ}, Good E G D H σ τ → ∀ T, Al H ((Tm.lam A b).sub σ) T → gd E G ((A.sub σ).sub τ) ((A.sub σ).sub τ) → Ok E G (Tm.pi ((A.sub σ).sub τ) ((B.sub (ups σ)).sub (ups τ))) → gd E G (Tm.pi ((A.sub σ).sub τ) ((B.sub (ups σ)).sub (ups τ))) (T.sub τ) := by
   intro H σ τ g T a oA oP
   cases a with
   | @lam _ _ _ B' S R i j h' w' k' l' v =>
    refine ((gZ oP).2.2.2 _).2 ⟨cl.pi oA.ends, fun X Y r => ?_⟩
    cases (show Canon (Tm.sub (Tm.pi (A.sub σ) B') τ) from trivial).wh r
    refine ⟨oA, fun u hu => ?_⟩
    rw [← lj, rV]
    exact (ik ww (g.cons hu oA)).2 _ k'
  have bs : Bs E G (gd E G (Tm.pi ((A.sub σ).sub τ) ((B.sub (ups σ)).sub (ups τ)))) (Tm.lam ((A.sub σ).sub τ) ((b.sub (ups σ)).sub (ups τ))) :=
   ⟨cl.lam a1.bs.1, fun T a => by
    have g' : Good E G D G (fun n => (σ n).sub τ) Tm.var := fun n C hC => by
     obtain ⟨g1, g2⟩ := g n C hC
     rw [sub_sub] at g1 g2
     rw [bX, bX]
     exact ⟨g1, fun T a => by rw [bX]; exact g1.bs.2 T a⟩
    have eA : ∀ C : Tm, (C.sub fun n => (σ n).sub τ).sub Tm.var = (C.sub σ).sub τ := fun C => by rw [bX, sub_sub]
    have eB : ∀ C : Tm, (C.sub (ups fun n => (σ n).sub τ)).sub (ups Tm.var) = (C.sub (ups σ)).sub (ups τ) := fun C => by rw [Bj, bX, sub_sub, wm]
    have := gP g' T (by
     show Al G (Tm.lam (A.sub fun n => (σ n).sub τ) (b.sub (ups fun n => (σ n).sub τ))) T
     rw [sub_sub, sub_sub, wm] at a; exact a)
    rw [eA, eB, bX] at this
    exact this oA.2 oP⟩
  refine ⟨((gZ oP).2.2.1 _).2 ⟨bs, fun u hu => ?_⟩, fun T a => gP g T a oA.2 oP⟩
  have hb := (ik ww (g.cons hu oA.2)).1
  rw [lj, lj] at hb
  refine pS cl (.cons .beta .nil) hb ⟨cl.app bs.1 hu.bs.1, fun T a => ?_⟩
  cases a with
  | app h' w' k' c => exact ((((gZ oP).2.2.2 _).1 (bs.2 _ h')).2 _ _ w').2 u hu
 | @app D f u A B h k ih ik =>
  intro w H σ τ g
  obtain ⟨f1, f2⟩ := ih w g
  obtain ⟨u1, u2⟩ := ik w g
  have f1 : el E G (Tm.pi ((A.sub σ).sub τ) ((B.sub (ups σ)).sub (ups τ))) _ := f1
  rw [cY, cY]
  refine ⟨pr f1 u1, fun T a => ?_⟩
  cases a with
  | app h' w' k' c =>
   have := ((((gZ f1.ok).2.2.2 _).1 (f2 _ h')).2 _ _ (w'.sub τ)).2 _ u1
   rw [cY]; exact this
 | nat =>
  intro w H σ τ g
  have b : Bs E G E Tm.nat := ⟨cl.nat, fun T a => by cases a; exact cl.sort _⟩
  refine ⟨ur (by omega) (.nat .nil) b b.1, fun T a => ?_⟩
  cases a with
  | nat => exact (mQ (by omega)).2 (cl.sort _)
 | zero =>
  intro w H σ τ g
  have b : Bs E G E Tm.zero := ⟨cl.zero, fun T a => by cases a; exact cl.nat⟩
  refine ⟨jT.2 (.zero b .nil), fun T a => ?_⟩
  cases a with
  | zero => exact Dl.2 cl.nat
 | @succ D n h ih =>
  intro w H σ τ g
  obtain ⟨a1, a2⟩ := ih w g
  have a1 : el E G Tm.nat _ := a1
  have b : Bs E G E (Tm.succ ((n.sub σ).sub τ)) := ⟨cl.succ a1.bs.1, fun T a => by cases a; exact cl.nat⟩
  refine ⟨jT.2 (.succ b .nil (jT.1 a1)), fun T a => ?_⟩
  cases a with
  | succ => exact Dl.2 cl.nat
 | @elim D p z s n i h k l m ih ik il im =>
  intro w H σ τ g
  have p1 : el E G (Tm.pi Tm.nat (Tm.sort i)) ((p.sub σ).sub τ) := (ih w g).1
  have z1 : el E G (Tm.app ((p.sub σ).sub τ) Tm.zero) ((z.sub σ).sub τ) := (ik w g).1
  have s1 := (il w g).1
  rw [ln, ln] at s1
  have n1 : el E G Tm.nat ((n.sub σ).sub τ) := (im w g).1
  refine ⟨EE cl p1 z1 s1 n1, fun T a => ?_⟩
  cases a with
  | elim => exact (bj (Ai p1 n1)).2
 | @id D t a b i h k l ih ik il =>
  intro w H σ τ g
  have t1 : el E G (Tm.sort i) ((t.sub σ).sub τ) := (ih w g).1
  have a1 := (ik w g).1
  have b1 := (il w g).1
  have b : Bs E G E (Tm.id ((t.sub σ).sub τ) ((a.sub σ).sub τ) ((b.sub σ).sub τ)) := ⟨cl.id t1.bs.1 a1.bs.1 b1.bs.1, fun T a => by cases a; exact cl.sort _⟩
  refine ⟨yo t1 a1 b1 b, fun T a => ?_⟩
  cases a with
  | id => exact (mQ (i := i) (cm t1)).2 (cl.sort _)
 | @refl D a A i h k ih ik =>
  intro w H σ τ g
  obtain ⟨a1, a2⟩ := ih w g
  have A1 : el E G (Tm.sort i) ((A.sub σ).sub τ) := (ik w g).1
  have o : Ok E G (Tm.id ((A.sub σ).sub τ) ((a.sub σ).sub τ) ((a.sub σ).sub τ)) := HH (bj A1).1
  have gI : ∀ X, gd E G ((A.sub σ).sub τ) X → gd E G (Tm.id ((A.sub σ).sub τ) ((a.sub σ).sub τ) ((a.sub σ).sub τ)) (Tm.id X ((a.sub σ).sub τ) ((a.sub σ).sub τ)) := fun X hX =>
   ((jQ o).2.2 _).2 ⟨cl.id hX.ends a1.bs.1 a1.bs.1, fun t' y' z' r => by
     cases (show Canon (Tm.id X ((a.sub σ).sub τ) ((a.sub σ).sub τ)) from trivial).wh r
     exact ⟨hX, a1, a1, .bg, .bg⟩⟩
  refine ⟨((jQ o).2.1 _).2 ⟨⟨cl.refl a1.bs.1 fun X hX => (a1.bs.2 X hX).ends, fun T q => ?_⟩, .inl ⟨_, .nil, .bg, .bg⟩⟩, fun T q => ?_⟩
  ·cases q with
   | refl h' k' w' => exact gI _ (a1.bs.2 _ h')
  ·cases q with
   | refl h' k' w' => exact gI _ (a2 _ h')
 | @move D p e x t y z i h k l m ih ik il im =>
  intro w H σ τ g
  obtain ⟨e1, e2⟩ := ih w g
  have e1 : el E G (Tm.id ((t.sub σ).sub τ) ((y.sub σ).sub τ) ((z.sub σ).sub τ)) _ := e1
  have p1 : el E G (Tm.pi ((t.sub σ).sub τ) (Tm.sort i)) ((p.sub σ).sub τ) := (ik w g).1
  have x1 : el E G (Tm.app ((p.sub σ).sub τ) ((y.sub σ).sub τ)) ((x.sub σ).sub τ) := (il w g).1
  have z1 := (im w g).1
  obtain ⟨io, ie, ig⟩ := jQ e1.ok
  have zT : ∀ q, gd E G (Tm.id ((t.sub σ).sub τ) ((y.sub σ).sub τ) ((z.sub σ).sub τ)) q → ∀ t' y' z', Wh q (Tm.id t' y' z') → el E G ((t.sub σ).sub τ) z' ∧ Conv z' ((z.sub σ).sub τ) := fun q hq t' y' z' r => let k := ((ig q).1 hq).2 t' y' z' r; ⟨k.2.2.1, k.2.2.2.2⟩
  have oz : Ok E G (Tm.app ((p.sub σ).sub τ) ((z.sub σ).sub τ)) := (bj (pr (B := Tm.sort i) p1 z1)).1
  have gz : ∀ z', el E G ((t.sub σ).sub τ) z' → Conv z' ((z.sub σ).sub τ) → gd E G (Tm.app ((p.sub σ).sub τ) ((z.sub σ).sub τ)) (Tm.app ((p.sub σ).sub τ) z') := fun z' hz c =>
   (bj (pr (B := Tm.sort i) p1 hz)).2.conv (Conv.app .bg c)
  have bs : Bs E G (gd E G (Tm.app ((p.sub σ).sub τ) ((z.sub σ).sub τ))) (Tm.move ((p.sub σ).sub τ) ((e.sub σ).sub τ) ((x.sub σ).sub τ)) :=
   ⟨cl.move p1.bs.1 e1.bs.1 x1.bs.1, fun T a => by
    cases a with
    | move h' w' k' v c u l' d => let q := zT _ (e1.bs.2 _ h') _ _ _ w'; exact gz _ q.1 q.2⟩
  refine ⟨?_, fun T a => ?_⟩
  ·rcases ((ie _).1 e1).2 with ⟨a, r, c1, c2⟩ | hs
   ·exact pS cl ((r.move _ _).trans (.cons .mrefl .nil)) (x1.conv (Conv.app .bg (c1.symm.trans c2))) bs
   ·exact qE cl oz (hs.move _ _) bs
  ·cases a with
   | move h' w' k' v c u l' d => let q := zT _ (e2 _ h') _ _ _ (w'.sub τ); exact gz _ q.1 q.2
 | @pair D s a b A B i j h r q k l ih iq ik il =>
  intro w H σ τ g
  obtain ⟨s1, s2⟩ := ih w g
  have s1 : el E G (Tm.sort i) ((s.sub σ).sub τ) := s1
  have so := bj s1
  have a1 := (ik w g).1
  have b1 := (il w g).1
  rw [cY, cY] at b1
  have cS : Conv ((s.sub σ).sub τ) (Tm.sig ((A.sub σ).sub τ) ((B.sub (ups σ)).sub (ups τ))) := (r.conv.sub σ).sub τ
  have oS := so.1.conv cS
  obtain ⟨o1, o2, o3, o4⟩ := gb oS
  have gS := ((o4 _).1 (so.2.conv cS)).2
  obtain ⟨X, Y, wS, c1, c2⟩ := cS.Dq
  obtain ⟨gX, gY⟩ := gS X Y wS
  have bs : Bs E G (gd E G ((s.sub σ).sub τ)) (Tm.pair ((s.sub σ).sub τ) ((a.sub σ).sub τ) ((b.sub σ).sub τ)) :=
   ⟨cl.pair s1.bs.1 a1.bs.1 b1.bs.1, fun T a => by
    cases a with
    | pair => exact so.2⟩
  refine ⟨el.conv ?_ cS.symm, fun T a => ?_⟩
  ·have f1 : el E G ((A.sub σ).sub τ) (Tm.fst (Tm.pair ((s.sub σ).sub τ) ((a.sub σ).sub τ) ((b.sub σ).sub τ))) :=
     pS cl (.cons .fpair .nil) a1 ⟨cl.fst bs.1, fun T q => by
      cases q with
      | fst h' w' => cases h' with
       | pair => cases wS.same w' trivial trivial; exact gX⟩
   refine (o3 _).2 ⟨⟨bs.1, fun T q => (bs.2 T q).conv cS⟩, f1, ?_⟩
   refine pS cl (.cons .spair .nil) (b1.conv (Conv.inst .bg (Par.conv (.fpair (Par.bg _))).symm)) ⟨cl.snd bs.1, fun T q => ?_⟩
   cases q with
   | snd h' w' => cases h' with
    | pair => cases wS.same w' trivial trivial; exact gY _ f1
  ·cases a with
   | pair => exact so.2
 | @fst D q A B h ih =>
  intro w H σ τ g
  obtain ⟨q1, q2⟩ := ih w g
  have q1 : el E G (Tm.sig ((A.sub σ).sub τ) ((B.sub (ups σ)).sub (ups τ))) _ := q1
  obtain ⟨o1, o2, o3, o4⟩ := gb q1.ok
  refine ⟨((o3 _).1 q1).2.1, fun T a => ?_⟩
  cases a with
  | fst h' w' => exact (((o4 _).1 (q2 _ h')).2 _ _ (w'.sub τ)).1
 | @snd D q A B h ih =>
  intro w H σ τ g
  obtain ⟨q1, q2⟩ := ih w g
  have q1 : el E G (Tm.sig ((A.sub σ).sub τ) ((B.sub (ups σ)).sub (ups τ))) _ := q1
  obtain ⟨o1, o2, o3, o4⟩ := gb q1.ok
  have f1 := ((o3 _).1 q1).2
  rw [cY, cY]
  refine ⟨f1.2, fun T a => ?_⟩
  cases a with
  | snd h' w' => rw [cY]; exact (((o4 _).1 (q2 _ h')).2 _ _ (w'.sub τ)).2 _ f1.1
 | conv h c k ih ik =>
  intro w H σ τ g
  obtain ⟨a1, a2⟩ := ih w g
  have c' := (c.sub σ).sub τ
  exact ⟨a1.conv c', fun T a => (a2 T a).conv c'⟩
theorem wZ : ∀ (X D : List Tm) (n : Nat), look (X ++ D) (n + X.length) = (look D n).map (·.ren (· + X.length))
 | [], D, n => by
  show look D n = _
  cases look D n with
  | none => rfl
  | some A => show some A = some (A.ren fun n => n); rw [pP]
 | A :: X, D, n => by
  show look (A :: (X ++ D)) (n + X.length + 1) = _
  show (look (X ++ D) (n + X.length)).map wk = _
  rw [wZ X D n]
  cases look D n with
  | none => rfl
  | some B => simp only [Option.map_some, wk, fy, List.length_cons]; rfl
theorem zP (cl : Clo E G) : ∀ (D X : List Tm), G = X ++ D → Wf D → Good E G D G (fun n => Tm.var (n + X.length)) Tm.var
 | [], X, e, w => fun n A h => by cases h
 | A :: D, X, e, w => by
  cases w with
  | cons w h =>
   have g := zP cl D (X ++ [A]) (by rw [e]; simp) w
   have len : (X ++ [A]).length = X.length + 1 := by simp
   rw [len] at g
   have s1 := (h.sem cl w g).1
   have so := bj (i := _) s1
   have eA : (A.sub fun n => Tm.var (n + (X.length + 1))).sub Tm.var = A.ren (· + (X.length + 1)) := by rw [bX, ← Fu]
   rw [eA] at so
   have shift : ∀ C : Tm, (C.wk.sub fun n => Tm.var (n + X.length)).sub Tm.var = (C.sub fun n => Tm.var (n + (X.length + 1))).sub Tm.var := fun C => by
    rw [bX, bX, wk, mM]
    congr 1; funext n; simp only [Nat.add_assoc, Nat.add_comm 1]
   have lk := wZ X (A :: D) 0
   rw [← e] at lk
   intro n B hB
   cases n with
   | zero =>
    simp only [look, Option.some.injEq] at hB; subst hB
    rw [shift, eA]
    show el E G _ (Tm.var (0 + X.length)) ∧ _
    have lk' : look G (0 + X.length) = some (A.ren (· + (X.length + 1))) := by
     rw [lk]
     show some (A.wk.ren _) = _
     rw [wk, fy]
     congr 2; funext n; simp only [Nat.add_assoc, Nat.add_comm 1]
    have bs : Bs E G (gd E G (A.ren (· + (X.length + 1)))) (Tm.var (0 + X.length)) := ⟨cl.var _, fun T a => by
     cases a with
     | var h => rw [lk'] at h; cases h; exact so.2⟩
    exact ⟨qE cl so.1 (.var _) bs, fun T a => by rw [bX]; exact bs.2 T a⟩
   | succ n =>
    obtain ⟨C, hC, rfl⟩ := Option.map_eq_some_iff.1 hB
    obtain ⟨g1, g2⟩ := g n C hC
    rw [shift]
    have ev : Tm.var (n + 1 + X.length) = Tm.var (n + (X.length + 1)) := by rw [Nat.add_assoc, Nat.add_comm 1]
    exact ⟨by show el E G _ (Tm.var (n + 1 + X.length)); rw [ev]; exact g1, fun T a => g2 T (by show Al G (Tm.var (n + (X.length + 1))) T; rw [← ev]; exact a)⟩
theorem Clo.typ (cl : Clo E G) (w : Wf G) {t A : Tm} (a : Al G t A) : E A := by
 have g := zP cl G [] rfl w
 have := ((a.sound w).sem cl w g).2 A (by
  have e : t.sub (fun n => Tm.var (n + ([] : List Tm).length)) = t := bX t
  rw [e]; exact a)
 have e2 := this.ends
 rwa [bX] at e2
theorem Clo.all (cl : Clo E G) (w : Wf G) (t : Tm) : E t := by
 induction t with
 | var n => exact cl.var n
 | sort n => exact cl.sort n
 | pi a b ha hb => exact cl.pi ha
 | lam a b ha hb => exact cl.lam ha
 | app f a hf ha => exact cl.app hf ha
 | nat => exact cl.nat
 | zero => exact cl.zero
 | succ n h => exact cl.succ h
 | elim p z s n h k l m => exact cl.elim h k l m
 | id t a b h k l => exact cl.id h k l
 | refl a h => exact cl.refl h fun A q => cl.typ w q
 | move p e x h k l => exact cl.move h k l
 | sig a b ha hb => exact cl.sig ha
 | pair s a b h k l => exact cl.pair h k l
 | fst q h => exact cl.fst h
 | snd q h => exact cl.snd h
end Tm
end Go.Proofs.Ytajlknlnmmbfcaa
end
section
namespace Go.Proofs.Ytajlknlnmmbfcaa
namespace Tm
inductive Rs where
 | ok (t : Tm) | bad | opn
structure Orc where
 vd : Tm → Bool
 hn : Tm → Rs
 sm : Tm → Tm → Rs
structure ew (O : Orc) : Prop where
 hn_ok : ∀ {t h}, O.hn t = .ok h → Wh t h ∧ (∀ u, ¬ Hd h u) ∧ O.vd h = true
 hn_nb : ∀ t, O.hn t ≠ .bad
 sm_ok : ∀ {a b x}, O.sm a b = .ok x → Conv a b
 sm_nb : ∀ {a b}, O.sm a b = .bad → ¬ Conv a b
 sm_inv : ∀ {a b}, O.vd b = false → O.sm a b = .opn
 v_pi : ∀ {a b}, O.vd (pi a b) = true → O.vd a = true ∧ O.vd b = true
 v_sig : ∀ {a b}, O.vd (sig a b) = true → O.vd a = true ∧ O.vd b = true
 v_lam : ∀ {a b}, O.vd (lam a b) = true → O.vd a = true ∧ O.vd b = true
 v_app : ∀ {a b}, O.vd (app a b) = true → O.vd a = true ∧ O.vd b = true
 v_succ : ∀ {a}, O.vd (succ a) = true → O.vd a = true
 v_elim : ∀ {p z s n}, O.vd (elim p z s n) = true → O.vd p = true ∧ O.vd z = true ∧ O.vd s = true ∧ O.vd n = true ∧ O.vd (app p zero) = true
 v_id : ∀ {t a b}, O.vd (id t a b) = true → O.vd t = true ∧ O.vd a = true ∧ O.vd b = true
 v_refl : ∀ {a}, O.vd (refl a) = true → O.vd a = true
 v_move : ∀ {t a b}, O.vd (move t a b) = true → O.vd t = true ∧ O.vd a = true ∧ O.vd b = true
 v_pair : ∀ {t a b}, O.vd (pair t a b) = true → O.vd t = true ∧ O.vd a = true ∧ O.vd b = true
 v_fst : ∀ {a}, O.vd (fst a) = true → O.vd a = true
 v_snd : ∀ {a}, O.vd (snd a) = true → O.vd a = true
 v_lam3 : ∀ {a b}, O.vd (lam a b) = true → O.vd (pi a (sort 3)) = true
 v_sort : ∀ {n}, O.vd (sort n) = true ↔ n ≤ 3
 v_nat : O.vd nat = true
def sq (x : Option Rs) (k : Tm → Option Rs) : Option Rs := match x with
 | some (.ok t) => k t
 | x => x
def lv : Tm → Nat
 | sort n => n
 | _ => 0
section
variable (O : Orc)
def frm (x : Option Rs) : Option Rs := sq x fun s => some (O.hn s)
def lvl (x : Option Rs) : Option Rs := sq (frm O x) fun h => match h with
 | sort n => some (.ok (sort n))
 | _ => some .bad
def chk (x : Option Rs) (want : Tm) : Option Rs := sq x fun s => some (O.sm s want)
def made (t : Tm) : Option Rs := some (if O.vd t = true then .ok t else .opn)
def fam (x : Option Rs) (t : Tm) : Option Rs := sq (frm O x) fun f => match f with
 | pi C D => sq (some (O.sm C t)) fun _ => sq (some (O.hn D)) fun h => match h with
  | sort _ => some (.ok h)
  | _ => some .bad
 | _ => some .bad
variable (I : List Tm → Tm → Option Rs)
def bnd (G : List Tm) (a b : Tm) : Option Rs := sq (lvl O (I G a)) fun i => sq (lvl O (I (a :: G) b)) fun j => some (.ok (sort (max (lv i) (lv j))))
def kS (G : List Tm) : Tm → Option Rs
 | var n => match look G n with
  | some A => some (.ok A)
  | none => some .bad
 | sort n => some (if n < 3 then .ok (sort (n + 1)) else .bad)
 | pi a b => bnd O I G a b
 | sig a b => bnd O I G a b
 | lam a b => sq (lvl O (I G a)) fun _ => sq (I (a :: G) b) fun B => sq (bnd O I G a B) fun _ => some (.ok (pi a B))
 | app f u => sq (frm O (I G f)) fun F => match F with
  | pi C B => sq (chk O (I G u) C) fun _ => some (.ok (B.inst u))
  | _ => some .bad
 | nat => some (.ok (sort 0))
 | zero => some (.ok nat)
 | succ n => sq (chk O (I G n) nat) fun _ => some (.ok nat)
 | elim p z s n => sq (fam O (I G p) nat) fun _ => sq (chk O (I G z) (app p zero)) fun _ => sq (chk O (I G s) (br p)) fun _ => sq (chk O (I G n) nat) fun _ => some (.ok (app p n))
 | id t a b => sq (lvl O (I G t)) fun i => sq (chk O (I G a) t) fun _ => sq (chk O (I G b) t) fun _ => some (.ok i)
 | refl a => sq (I G a) fun A => sq (lvl O (I G A)) fun _ => some (.ok (id A a a))
 | move p e x => sq (frm O (I G e)) fun E => match E with
  | id t y z => sq (fam O (I G p) t) fun _ => sq (chk O (I G x) (app p y)) fun _ => some (.ok (app p z))
  | _ => some .bad
 | pair s a b => sq (lvl O (I G s)) fun _ => sq (some (O.hn s)) fun h => match h with
  | sig A B => sq (chk O (I G a) A) fun _ => sq (chk O (I G b) (B.inst a)) fun _ => some (.ok s)
  | _ => some .bad
 | fst q => sq (frm O (I G q)) fun Q => match Q with
  | sig A B => some (.ok A)
  | _ => some .bad
 | snd q => sq (frm O (I G q)) fun Q => match Q with
  | sig A B => some (.ok (B.inst (fst q)))
  | _ => some .bad
def inS : Nat → List Tm → Tm → Option Rs
 | 0, _, _ => none
 | g + 1, G, t => if O.vd t = false ∨ 20 < G.length then some .opn else sq (kS O (inS g) G t) (made O)
def ext (G : List Tm) (a b : Tm) : Option Rs := if 20 ≤ G.length then some .opn else I (a :: G) b
def kI (G : List Tm) : Tm → Option Rs
 | var n => match look G n with
  | some A => made O A
  | none => some .bad
 | sort n => some (if n < 3 then .ok (sort (n + 1)) else .bad)
 | pi a b => sq (lvl O (I G a)) fun i => sq (lvl O (ext I G a b)) fun j => some (.ok (sort (max (lv i) (lv j))))
 | sig a b => sq (lvl O (I G a)) fun i => sq (lvl O (ext I G a b)) fun j => some (.ok (sort (max (lv i) (lv j))))
 | lam a b => sq (lvl O (I G a)) fun _ => sq (ext I G a b) fun B => sq (made O (pi a B)) fun P => sq (I G P) fun _ => some (.ok P)
 | app f u => sq (frm O (I G f)) fun F => match F with
  | pi C B => sq (chk O (I G u) C) fun _ => made O (B.inst u)
  | _ => some .bad
 | nat => some (.ok (sort 0))
 | zero => some (.ok nat)
 | succ n => sq (chk O (I G n) nat) fun _ => some (.ok nat)
 | elim p z s n => sq (fam O (I G p) nat) fun _ => sq (made O (app p zero)) fun w => sq (chk O (I G z) w) fun _ => sq (made O (br p)) fun w => sq (chk O (I G s) w) fun _ => sq (chk O (I G n) nat) fun _ => made O (app p n)
 | id t a b => sq (lvl O (I G t)) fun i => sq (chk O (I G a) t) fun _ => sq (chk O (I G b) t) fun _ => some (.ok i)
 | refl a => sq (I G a) fun A => sq (lvl O (I G A)) fun _ => made O (id A a a)
 | move p e x => sq (frm O (I G e)) fun E => match E with
  | id t y z => sq (fam O (I G p) t) fun _ => sq (made O (app p y)) fun w => sq (chk O (I G x) w) fun _ => made O (app p z)
  | _ => some .bad
 | pair s a b => sq (lvl O (I G s)) fun _ => sq (some (O.hn s)) fun h => match h with
  | sig A B => sq (chk O (I G a) A) fun _ => sq (made O (B.inst a)) fun w => sq (chk O (I G b) w) fun _ => some (.ok s)
  | _ => some .bad
 | fst q => sq (frm O (I G q)) fun Q => match Q with
  | sig A B => some (.ok A)
  | _ => some .bad
 | snd q => sq (frm O (I G q)) fun Q => match Q with
  | sig A B => made O (B.inst (fst q))
  | _ => some .bad
def inI : Nat → List Tm → Tm → Option Rs
 | 0, _, _ => none
 | g + 1, G, t => kI O (inI g) G t
end
variable {O : Orc}
theorem aG {x : Option Rs} {k : Tm → Option Rs} {A : Tm} (h : sq x k = some (.ok A)) : ∃ t, x = some (.ok t) ∧ k t = some (.ok A) := by
 unfold sq at h
 split at h
 ·exact ⟨_, rfl, h⟩
 ·rename_i h2; exact absurd h (h2 A)
theorem jm (k : ew O) {x : Option Rs} {h : Tm} (e : frm O x = some (.ok h)) : ∃ s, x = some (.ok s) ∧ Wh s h := by
 obtain ⟨s, e1, e2⟩ := aG e
 exact ⟨s, e1, (k.hn_ok (Option.some.inj e2)).1⟩
theorem gO (k : ew O) {x : Option Rs} {h : Tm} (e : lvl O x = some (.ok h)) : ∃ s i, x = some (.ok s) ∧ h = sort i ∧ Wh s (sort i) := by
 obtain ⟨s, e1, e2⟩ := aG e
 obtain ⟨u, e3, w⟩ := jm k e1
 split at e2
 ·cases e2; exact ⟨u, _, e3, rfl, w⟩
 ·cases e2
theorem dF (k : ew O) {x : Option Rs} {t h : Tm} (e : chk O x t = some (.ok h)) : ∃ s, x = some (.ok s) ∧ Conv s t := by
 obtain ⟨s, e1, e2⟩ := aG e
 exact ⟨s, e1, k.sm_ok (Option.some.inj e2)⟩
theorem bK {t h : Tm} (e : made O t = some (.ok h)) : h = t ∧ O.vd t = true := by
 unfold made at e
 split at e
 ·cases e; exact ⟨rfl, ‹_›⟩
 ·cases e
theorem xU (k : ew O) {x : Option Rs} {t h : Tm} (e : fam O x t = some (.ok h)) : ∃ P C D i, x = some (.ok P) ∧ Wh P (pi C D) ∧ Conv C t ∧ Wh D (sort i) := by
 obtain ⟨s, e1, e2⟩ := aG e
 obtain ⟨u, e3, w⟩ := jm k e1
 split at e2
 ·obtain ⟨s1, e4, e5⟩ := aG e2
  obtain ⟨s2, e6, e7⟩ := aG e5
  split at e7
  ·exact ⟨u, _, _, _, e3, w, k.sm_ok (Option.some.inj e4), (k.hn_ok (Option.some.inj e6)).1⟩
  ·cases e7
 ·cases e2
theorem cf (k : ew O) : ∀ {g : Nat} {G : List Tm} {t A : Tm}, inS O g G t = some (.ok A) → Al G t A ∧ O.vd A = true
 | 0, _, _, _, h => by cases h
 | g + 1, G, t, A, h => by
  rw [inS] at h
  split at h
  ·cases h
  ·obtain ⟨X, h, e⟩ := aG h
   obtain ⟨rfl, hv⟩ := bK e
   refine ⟨?_, hv⟩
   have bd : ∀ {a b h}, bnd O (inS O g) G a b = some (.ok h) → ∃ S R i j, Al G a S ∧ Wh S (sort i) ∧ Al (a :: G) b R ∧ Wh R (sort j) ∧ h = sort (max i j) := by
    intro a b h e
    obtain ⟨x, e1, e2⟩ := aG e
    obtain ⟨y, e3, e4⟩ := aG e2
    obtain ⟨S, i, f1, rfl, w1⟩ := gO k e1
    obtain ⟨R, j, f2, rfl, w2⟩ := gO k e3
    cases e4
    exact ⟨S, R, i, j, (cf k f1).1, w1, (cf k f2).1, w2, rfl⟩
   cases t with
   | var n =>
    simp only [kS] at h
    split at h
    ·cases h; exact .var ‹_›
    ·cases h
   | sort n =>
    simp only [kS, Option.some.injEq] at h
    split at h
    ·cases h; exact .sort ‹_›
    ·cases h
   | pi a b => obtain ⟨S, R, i, j, h1, w1, h2, w2, rfl⟩ := bd h; exact .pi h1 w1 h2 w2
   | sig a b => obtain ⟨S, R, i, j, h1, w1, h2, w2, rfl⟩ := bd h; exact .sig h1 w1 h2 w2
   | lam a b =>
    obtain ⟨x, e1, e2⟩ := aG h
    obtain ⟨B, e3, e4⟩ := aG e2
    obtain ⟨y, e5, e6⟩ := aG e4
    obtain ⟨S, R, i, j, h1, w1, h2, w2, rfl⟩ := bd e5
    cases e6
    exact .lam h1 w1 (cf k e3).1 h2 w2
   | app f u =>
    obtain ⟨F, e1, e2⟩ := aG h
    obtain ⟨S, e3, w⟩ := jm k e1
    split at e2
    ·obtain ⟨x, e4, e5⟩ := aG e2
     obtain ⟨U, e6, c⟩ := dF k e4
     cases e5
     exact .app (cf k e3).1 w (cf k e6).1 c
    ·cases e2
   | nat => cases h; exact .nat
   | zero => cases h; exact .zero
   | succ n =>
    obtain ⟨x, e1, e2⟩ := aG h
    obtain ⟨U, e6, c⟩ := dF k e1
    cases e2
    exact .succ (cf k e6).1 c
   | elim p z s n =>
    obtain ⟨x, e1, e2⟩ := aG h
    obtain ⟨P, C, D, i, f1, w, c, v⟩ := xU k e1
    obtain ⟨x, e3, e4⟩ := aG e2
    obtain ⟨Z, f2, c2⟩ := dF k e3
    obtain ⟨x, e5, e6⟩ := aG e4
    obtain ⟨S, f3, c3⟩ := dF k e5
    obtain ⟨x, e7, e8⟩ := aG e6
    obtain ⟨N, f4, c4⟩ := dF k e7
    cases e8
    exact .elim (cf k f1).1 w c v (cf k f2).1 c2 (cf k f3).1 c3 (cf k f4).1 c4
   | id t a b =>
    obtain ⟨x, e1, e2⟩ := aG h
    obtain ⟨S, i, f1, rfl, w⟩ := gO k e1
    obtain ⟨x, e3, e4⟩ := aG e2
    obtain ⟨Z, f2, c2⟩ := dF k e3
    obtain ⟨x, e5, e6⟩ := aG e4
    obtain ⟨S, f3, c3⟩ := dF k e5
    cases e6
    exact .id (cf k f1).1 w (cf k f2).1 c2 (cf k f3).1 c3
   | refl a =>
    obtain ⟨B, e1, e2⟩ := aG h
    obtain ⟨x, e3, e4⟩ := aG e2
    obtain ⟨S, i, f1, rfl, w⟩ := gO k e3
    cases e4
    exact .refl (cf k e1).1 (cf k f1).1 w
   | move p e x =>
    obtain ⟨F, e1, e2⟩ := aG h
    obtain ⟨S, e3, w⟩ := jm k e1
    split at e2
    ·obtain ⟨x, e4, e5⟩ := aG e2
     obtain ⟨P, C, D, i, f1, w2, c, v⟩ := xU k e4
     obtain ⟨x, e6, e7⟩ := aG e5
     obtain ⟨U, e8, c2⟩ := dF k e6
     cases e7
     exact .move (cf k e3).1 w (cf k f1).1 w2 c v (cf k e8).1 c2
    ·cases e2
   | pair s a b =>
    obtain ⟨x, e1, e2⟩ := aG h
    obtain ⟨S, i, f1, rfl, w⟩ := gO k e1
    obtain ⟨H, e3, e4⟩ := aG e2
    have w2 := (k.hn_ok (Option.some.inj e3)).1
    split at e4
    ·obtain ⟨x, e5, e6⟩ := aG e4
     obtain ⟨Z, f2, c2⟩ := dF k e5
     obtain ⟨x, e7, e8⟩ := aG e6
     obtain ⟨S, f3, c3⟩ := dF k e7
     cases e8
     exact .pair (cf k f1).1 w w2 (cf k f2).1 c2 (cf k f3).1 c3
    ·cases e4
   | fst q =>
    obtain ⟨F, e1, e2⟩ := aG h
    obtain ⟨S, e3, w⟩ := jm k e1
    split at e2
    ·cases e2; exact .fst (cf k e3).1 w
    ·cases e2
   | snd q =>
    obtain ⟨F, e1, e2⟩ := aG h
    obtain ⟨S, e3, w⟩ := jm k e1
    split at e2
    ·cases e2; exact .snd (cf k e3).1 w
    ·cases e2
end Tm
end Go.Proofs.Ytajlknlnmmbfcaa
end
section
namespace Go.Proofs.Ytajlknlnmmbfcaa
namespace Tm
variable {O : Orc}
def Is (f : Nat → Option Rs) (r : Rs) : Prop := ∃ N, ∀ n, N ≤ n → f n = some r
def Ends (f : Nat → Option Rs) : Prop := ∃ r, Is f r
theorem Is.uniq {f : Nat → Option Rs} {r r' : Rs} (h : Is f r) (k : Is f r') : r = r' := by
 obtain ⟨N, h⟩ := h
 obtain ⟨M, k⟩ := k
 have := (h (N + M) (by omega)).symm.trans (k (N + M) (by omega))
 exact Option.some.inj this
theorem Is.const (r : Rs) : Is (fun _ => some r) r := ⟨0, fun _ _ => rfl⟩
theorem Is.bind {f : Nat → Option Rs} {t : Tm} {k : Nat → Tm → Option Rs} {r : Rs} (h : Is f (.ok t)) (hk : Is (fun n => k n t) r) : Is (fun n => sq (f n) (k n)) r := by
 obtain ⟨N, h⟩ := h
 obtain ⟨M, hk⟩ := hk
 exact ⟨N + M, fun n hn => by show sq (f n) (k n) = some r; rw [h n (by omega)]; exact hk n (by omega)⟩
theorem Is.bad {f : Nat → Option Rs} {k : Nat → Tm → Option Rs} (h : Is f .bad) : Is (fun n => sq (f n) (k n)) .bad := by
 obtain ⟨N, h⟩ := h
 exact ⟨N, fun n hn => by show sq (f n) (k n) = _; rw [h n hn]; rfl⟩
theorem Is.opn {f : Nat → Option Rs} {k : Nat → Tm → Option Rs} (h : Is f .opn) : Is (fun n => sq (f n) (k n)) .opn := by
 obtain ⟨N, h⟩ := h
 exact ⟨N, fun n hn => by show sq (f n) (k n) = _; rw [h n hn]; rfl⟩
theorem Ends.bind {f : Nat → Option Rs} {k : Nat → Tm → Option Rs} (h : Ends f) (hk : ∀ t, Is f (.ok t) → Ends (fun n => k n t)) : Ends (fun n => sq (f n) (k n)) := by
 obtain ⟨r, h⟩ := h
 cases r with
 | ok t => obtain ⟨r, hr⟩ := hk t h; exact ⟨r, h.bind hr⟩
 | bad => exact ⟨_, h.bad⟩
 | opn => exact ⟨_, h.opn⟩
theorem Ends.const (r : Option Rs) (h : r ≠ none) : Ends (fun _ => r) := by
 cases r with
 | none => exact absurd rfl h
 | some r => exact ⟨r, .const r⟩
theorem Ends.of {r : Rs} : Ends (fun _ => some r) := ⟨r, .const r⟩
theorem Ends.frm {f : Nat → Option Rs} (h : Ends f) : Ends (fun n => frm O (f n)) := h.bind fun _ _ => .of
theorem Ends.lvl {f : Nat → Option Rs} (h : Ends f) : Ends (fun n => lvl O (f n)) := h.frm.bind fun t _ => .const _ (by split <;> simp)
theorem Ends.chk {f : Nat → Option Rs} (h : Ends f) (w : Tm) : Ends (fun n => chk O (f n) w) := h.bind fun _ _ => .of
theorem Ends.fam {f : Nat → Option Rs} (h : Ends f) (w : Tm) : Ends (fun n => fam O (f n) w) := h.frm.bind fun t _ => by
 split
 ·exact Ends.bind .of fun _ _ => Ends.bind .of fun _ _ => .const _ (by split <;> simp)
 ·exact .of
def Le (x y : Option Rs) : Prop := ∀ r, x = some r → y = some r
theorem Le.bg (x : Option Rs) : Le x x := fun _ h => h
theorem Le.sq {x y : Option Rs} {k l : Tm → Option Rs} (h : Le x y) (hk : ∀ t, Le (k t) (l t)) : Le (sq x k) (sq y l) := by
 intro r e
 cases x with
 | none => cases e
 | some x =>
  rw [h _ rfl]
  cases x with
  | ok t => exact hk t r e
  | bad => exact e
  | opn => exact e
theorem Le.frm {x y : Option Rs} (h : Le x y) : Le (frm O x) (frm O y) := h.sq fun _ => .bg _
theorem Le.lvl {x y : Option Rs} (h : Le x y) : Le (lvl O x) (lvl O y) := h.frm.sq fun _ => .bg _
theorem Le.chk {x y : Option Rs} (h : Le x y) (w : Tm) : Le (chk O x w) (chk O y w) := h.sq fun _ => .bg _
theorem Le.fam {x y : Option Rs} (h : Le x y) (w : Tm) : Le (fam O x w) (fam O y w) := h.frm.sq fun _ => .bg _
theorem Le.bnd {I J : List Tm → Tm → Option Rs} (h : ∀ G t, Le (I G t) (J G t)) (G : List Tm) (a b : Tm) : Le (bnd O I G a b) (bnd O J G a b) :=
 (h _ _).lvl.sq fun _ => (h _ _).lvl.sq fun _ => .bg _
theorem Le.kS {I J : List Tm → Tm → Option Rs} (h : ∀ G t, Le (I G t) (J G t)) (G : List Tm) (t : Tm) : Le (kS O I G t) (kS O J G t) := by
 cases t with
 | var n => exact .bg _
 | sort n => exact .bg _
 | pi a b => exact .bnd h _ _ _
 | sig a b => exact .bnd h _ _ _
 | lam a b => exact (h _ _).lvl.sq fun _ => (h _ _).sq fun _ => (Le.bnd h _ _ _).sq fun _ => .bg _
 | app f u => exact (h _ _).frm.sq fun F => by cases F <;> first | exact (h _ _).chk _ |>.sq fun _ => .bg _ | exact .bg _
 | nat => exact .bg _
 | zero => exact .bg _
 | succ n => exact ((h _ _).chk _).sq fun _ => .bg _
 | elim p z s n => exact ((h _ _).fam _).sq fun _ => ((h _ _).chk _).sq fun _ => ((h _ _).chk _).sq fun _ => ((h _ _).chk _).sq fun _ => .bg _
 | id t a b => exact (h _ _).lvl.sq fun _ => ((h _ _).chk _).sq fun _ => ((h _ _).chk _).sq fun _ => .bg _
 | refl a => exact (h _ _).sq fun _ => (h _ _).lvl.sq fun _ => .bg _
 | move p e x => exact (h _ _).frm.sq fun F => by cases F <;> first | exact ((h _ _).fam _).sq fun _ => ((h _ _).chk _).sq fun _ => .bg _ | exact .bg _
 | pair s a b => exact (h _ _).lvl.sq fun _ => (Le.bg _).sq fun F => by cases F <;> first | exact ((h _ _).chk _).sq fun _ => ((h _ _).chk _).sq fun _ => .bg _ | exact .bg _
 | fst q => exact (h _ _).frm.sq fun _ => .bg _
 | snd q => exact (h _ _).frm.sq fun _ => .bg _
theorem fh {G : List Tm} {t : Tm} (h : Ends fun n => kS O (inS O n) G t) : Ends fun n => inS O n G t := by
 have : Ends fun n => inS O (n + 1) G t := by
  by_cases c : O.vd t = false ∨ 20 < G.length
  ·exact ⟨.opn, 0, fun n _ => by show inS O (n + 1) G t = _; rw [inS, if_pos c]⟩
  ·obtain ⟨r, N, hr⟩ := Ends.bind (k := fun _ => made O) h fun t _ => .const _ (by unfold made; simp)
   exact ⟨r, N, fun n hn => by show inS O (n + 1) G t = _; rw [inS, if_neg c]; exact hr n hn⟩
 obtain ⟨r, N, hr⟩ := this
 exact ⟨r, N + 1, fun n hn => by obtain ⟨m, rfl⟩ : ∃ m, n = m + 1 := ⟨n - 1, by omega⟩; exact hr m (by omega)⟩
theorem G6 (k : ew O) {G : List Tm} {t A : Tm} (h : Is (fun n => inS O n G t) (.ok A)) : Al G t A ∧ O.vd A = true := by
 obtain ⟨N, h⟩ := h
 exact cf k (h N (Nat.le_refl N))
theorem sV (k : ew O) {G : List Tm} {t A : Tm} (w : Wf G) (h : Is (fun n => lvl O (inS O n G t)) (.ok A)) : Wf (t :: G) := by
 obtain ⟨N, h⟩ := h
 obtain ⟨s, i, e, rfl, r⟩ := gO k (h N (Nat.le_refl N))
 exact .cons w (((cf k e).1.sound w).lvl w r)
theorem Gy (k : ew O) {G : List Tm} (w : Wf G) (hl : ∀ A, Wf (A :: G) → ∀ t, Ends fun n => inS O n (A :: G) t) : Clo (fun t => Ends fun n => inS O n G t) G where
 var n := fh (by show Ends fun _ => match look G n with | some A => some (Rs.ok A) | none => some Rs.bad; exact .const _ (by split <;> simp))
 sort n := fh .of
 nat := fh .of
 zero := fh .of
 succ h := fh ((h.chk _).bind fun _ _ => .of)
 pi h := fh (h.lvl.bind fun _ q => (hl _ (sV k w q) _).lvl.bind fun _ _ => .of)
 sig h := fh (h.lvl.bind fun _ q => (hl _ (sV k w q) _).lvl.bind fun _ _ => .of)
 lam h := fh (h.lvl.bind fun _ q => (hl _ (sV k w q) _).bind fun _ _ => Ends.bind (h.lvl.bind fun _ q => (hl _ (sV k w q) _).lvl.bind fun _ _ => .of) fun _ _ => .of)
 app h l := fh (h.frm.bind fun F _ => by cases F <;> first | exact (l.chk _).bind fun _ _ => .of | exact .of)
 elim h l m o := fh ((h.fam _).bind fun _ _ => (l.chk _).bind fun _ _ => (m.chk _).bind fun _ _ => (o.chk _).bind fun _ _ => .of)
 id h l m := fh (h.lvl.bind fun _ _ => (l.chk _).bind fun _ _ => (m.chk _).bind fun _ _ => .of)
 refl h l := fh (h.bind fun A q => (l A (G6 k q).1).lvl.bind fun _ _ => .of)
 move h l m := fh (l.frm.bind fun F _ => by cases F <;> first | exact (h.fam _).bind fun _ _ => (m.chk _).bind fun _ _ => .of | exact .of)
 pair h l m := fh (h.lvl.bind fun _ _ => Ends.bind .of fun F _ => by cases F <;> first | exact (l.chk _).bind fun _ _ => (m.chk _).bind fun _ _ => .of | exact .of)
 fst h := fh (h.frm.bind fun F _ => .const _ (by split <;> simp))
 snd h := fh (h.frm.bind fun F _ => .const _ (by split <;> simp))
theorem xG (k : ew O) : ∀ (m : Nat) (G : List Tm), 21 ≤ G.length + m → Wf G → ∀ t, Ends fun n => inS O n G t
 | 0, G, h, w, t => ⟨.opn, 1, fun n hn => by obtain ⟨m, rfl⟩ : ∃ m, n = m + 1 := ⟨n - 1, by omega⟩; show inS O (m + 1) G t = _; rw [inS, if_pos (.inr (by omega))]⟩
 | m + 1, G, h, w, t => (Gy k w fun A w' => xG k m (A :: G) (by simp only [List.length_cons]; omega) w').all w t
theorem EA (k : ew O) {G : List Tm} (w : Wf G) (t : Tm) : ∃ r, Is (fun n => inS O n G t) r := xG k 21 G (by omega) w t
theorem Ia (k : ew O) {s h : Tm} {i : Nat} (e : O.hn s = .ok h) (c : Conv s (sort i)) : h = sort i := by
 obtain ⟨w, nh, _⟩ := k.hn_ok e
 have := (w.conv.symm.trans c).EY
 cases this with
 | nil => rfl
 | cons r _ => exact (nh _ r).elim
theorem Ic (k : ew O) {s h A B : Tm} (e : O.hn s = .ok h) (c : Conv s (pi A B)) : ∃ A' B', h = pi A' B' ∧ Conv A' A ∧ Conv B' B := by
 obtain ⟨w, nh, _⟩ := k.hn_ok e
 obtain ⟨A', B', r, c1, c2⟩ := (w.conv.symm.trans c).HJ
 cases r with
 | nil => exact ⟨_, _, rfl, c1, c2⟩
 | cons r _ => exact (nh _ r).elim
def Nb (x : Option Rs) : Prop := x ≠ some .bad
theorem Nb.sq {x : Option Rs} {k : Tm → Option Rs} (h : Nb x) (hk : ∀ t, x = some (.ok t) → Nb (k t)) : Nb (sq x k) := by
 intro e
 cases x with
 | none => cases e
 | some r => cases r with
  | ok t => exact hk t rfl e
  | bad => exact h rfl
  | opn => cases e
theorem Ie (t : Tm) : Nb (some (.ok t)) := fun h => by cases h
theorem Ib (k : ew O) (t : Tm) : Nb (some (O.hn t)) := fun h => k.hn_nb t (Option.some.inj h)
structure Part (O : Orc) (G : List Tm) (A : Tm) (x : Option Rs) : Prop where
 nb : Nb x
 ty : ∀ {B}, x = some (.ok B) → Conv B A
theorem Part.lvl (k : ew O) {G : List Tm} {i : Nat} {x : Option Rs} (p : Part O G (sort i) x) : Nb (lvl O x) := by
 refine (p.nb.sq fun _ _ => Ib k _).sq fun h e => ?_
 obtain ⟨s, e1, e2⟩ := aG e
 have := Ia k (Option.some.inj e2) (p.ty e1); subst this
 exact Ie _
theorem Part.chk (k : ew O) {G : List Tm} {A B : Tm} {x : Option Rs} (p : Part O G A x) (c : Conv A B) : Nb (chk O x B) :=
 p.nb.sq fun s e => fun h => k.sm_nb (Option.some.inj h) ((p.ty e).trans c)
theorem Part.fam (k : ew O) {G : List Tm} {t t' : Tm} {i : Nat} {x : Option Rs} (p : Part O G (pi t (sort i)) x) (c : Conv t t') : Nb (fam O x t') := by
 refine (p.nb.sq fun _ _ => Ib k _).sq fun h e => ?_
 obtain ⟨s, e1, e2⟩ := aG e
 obtain ⟨C, D, rfl, c1, c2⟩ := Ic k (Option.some.inj e2) (p.ty e1)
 refine Nb.sq (fun h => k.sm_nb (Option.some.inj h) (c1.trans c)) fun _ _ => Nb.sq (Ib k _) fun h e => ?_
 have := Ia k (Option.some.inj e) c2; subst this
 exact Ie _
end Tm
end Go.Proofs.Ytajlknlnmmbfcaa
end
section
namespace Go.Proofs.Ytajlknlnmmbfcaa
namespace Tm
variable {O : Orc}
theorem mo (x : Option Rs) (k l : Tm → Option Rs) : sq (sq x k) l = sq x fun t => sq (k t) l := by
 cases x with
 | none => rfl
 | some r => cases r <;> rfl
theorem H7 {G : List Tm} {t : Tm} {r : Rs} (h : Is (fun n => kI O (inI O n) G t) r) : Is (fun n => inI O n G t) r := by
 obtain ⟨N, hr⟩ := h
 exact ⟨N + 1, fun n hn => by obtain ⟨m, rfl⟩ : ∃ m, n = m + 1 := ⟨n - 1, by omega⟩; exact hr m (by omega)⟩
end Tm
end Go.Proofs.Ytajlknlnmmbfcaa
end
section
namespace Go.Proofs.Ytajlknlnmmbfcaa
namespace Tm
variable {O : Orc}
theorem Am {I : List Tm → Tm → Option Rs} {G : List Tm} {a b A : Tm} (h : ext I G a b = some (.ok A)) : I (a :: G) b = some (.ok A) := by
 unfold ext at h
 split at h
 ·cases h
 ·exact h
theorem cq (k : ew O) : ∀ {g : Nat} {G : List Tm} {t A : Tm}, inI O g G t = some (.ok A) → Al G t A
 | 0, _, _, _, h => by cases h
 | g + 1, G, t, A, h => by
  rw [inI] at h
  have bd : ∀ {a b h}, (sq (lvl O (inI O g G a)) fun i => sq (lvl O (ext (inI O g) G a b)) fun j => some (.ok (sort (max (lv i) (lv j))))) = some (.ok h) → ∃ S R i j, Al G a S ∧ Wh S (sort i) ∧ Al (a :: G) b R ∧ Wh R (sort j) ∧ h = sort (max i j) := by
   intro a b h e
   obtain ⟨x, e1, e2⟩ := aG e
   obtain ⟨y, e3, e4⟩ := aG e2
   obtain ⟨S, i, f1, rfl, w1⟩ := gO k e1
   obtain ⟨R, j, f2, rfl, w2⟩ := gO k e3
   cases e4
   exact ⟨S, R, i, j, cq k f1, w1, cq k (Am f2), w2, rfl⟩
  cases t with
  | var n =>
   simp only [kI] at h
   split at h
   ·obtain ⟨rfl, _⟩ := bK h; exact .var ‹_›
   ·cases h
  | sort n =>
   simp only [kI, Option.some.injEq] at h
   split at h
   ·cases h; exact .sort ‹_›
   ·cases h
  | pi a b => obtain ⟨S, R, i, j, h1, w1, h2, w2, rfl⟩ := bd h; exact .pi h1 w1 h2 w2
  | sig a b => obtain ⟨S, R, i, j, h1, w1, h2, w2, rfl⟩ := bd h; exact .sig h1 w1 h2 w2
  | lam a b =>
   obtain ⟨x, e1, e2⟩ := aG h
   obtain ⟨B, e3, e4⟩ := aG e2
   obtain ⟨y, e5, e6⟩ := aG e4
   obtain ⟨rfl, v⟩ := bK e5
   obtain ⟨z, e7, e8⟩ := aG e6
   cases e8
   cases cq k e7 with
   | pi h1 w1 h2 w2 => exact .lam h1 w1 (cq k (Am e3)) h2 w2
  | app f u =>
   obtain ⟨F, e1, e2⟩ := aG h
   obtain ⟨S, e3, w⟩ := jm k e1
   split at e2
   ·obtain ⟨x, e4, e5⟩ := aG e2
    obtain ⟨U, e6, c⟩ := dF k e4
    obtain ⟨rfl, _⟩ := bK e5
    exact .app (cq k e3) w (cq k e6) c
   ·cases e2
  | nat => cases h; exact .nat
  | zero => cases h; exact .zero
  | succ n =>
   obtain ⟨x, e1, e2⟩ := aG h
   obtain ⟨U, e6, c⟩ := dF k e1
   cases e2
   exact .succ (cq k e6) c
  | elim p z s n =>
   obtain ⟨x, e1, e2⟩ := aG h
   obtain ⟨P, C, D, i, f1, w, c, v⟩ := xU k e1
   obtain ⟨x, m1, e2⟩ := aG e2
   obtain ⟨rfl, _⟩ := bK m1
   obtain ⟨x, e3, e4⟩ := aG e2
   obtain ⟨Z, f2, c2⟩ := dF k e3
   obtain ⟨x, m2, e4⟩ := aG e4
   obtain ⟨rfl, _⟩ := bK m2
   obtain ⟨x, e5, e6⟩ := aG e4
   obtain ⟨S, f3, c3⟩ := dF k e5
   obtain ⟨x, e7, e8⟩ := aG e6
   obtain ⟨N, f4, c4⟩ := dF k e7
   obtain ⟨rfl, _⟩ := bK e8
   exact .elim (cq k f1) w c v (cq k f2) c2 (cq k f3) c3 (cq k f4) c4
  | id t a b =>
   obtain ⟨x, e1, e2⟩ := aG h
   obtain ⟨S, i, f1, rfl, w⟩ := gO k e1
   obtain ⟨x, e3, e4⟩ := aG e2
   obtain ⟨Z, f2, c2⟩ := dF k e3
   obtain ⟨x, e5, e6⟩ := aG e4
   obtain ⟨S, f3, c3⟩ := dF k e5
   cases e6
   exact .id (cq k f1) w (cq k f2) c2 (cq k f3) c3
  | refl a =>
   obtain ⟨B, e1, e2⟩ := aG h
   obtain ⟨x, e3, e4⟩ := aG e2
   obtain ⟨S, i, f1, rfl, w⟩ := gO k e3
   obtain ⟨rfl, _⟩ := bK e4
   exact .refl (cq k e1) (cq k f1) w
  | move p e x =>
   obtain ⟨F, e1, e2⟩ := aG h
   obtain ⟨S, e3, w⟩ := jm k e1
   split at e2
   ·obtain ⟨x, e4, e5⟩ := aG e2
    obtain ⟨P, C, D, i, f1, w2, c, v⟩ := xU k e4
    obtain ⟨x, m1, e5⟩ := aG e5
    obtain ⟨rfl, _⟩ := bK m1
    obtain ⟨x, e6, e7⟩ := aG e5
    obtain ⟨U, e8, c2⟩ := dF k e6
    obtain ⟨rfl, _⟩ := bK e7
    exact .move (cq k e3) w (cq k f1) w2 c v (cq k e8) c2
   ·cases e2
  | pair s a b =>
   obtain ⟨x, e1, e2⟩ := aG h
   obtain ⟨S, i, f1, rfl, w⟩ := gO k e1
   obtain ⟨H, e3, e4⟩ := aG e2
   have w2 := (k.hn_ok (Option.some.inj e3)).1
   split at e4
   ·obtain ⟨x, e5, e6⟩ := aG e4
    obtain ⟨Z, f2, c2⟩ := dF k e5
    obtain ⟨x, m1, e6⟩ := aG e6
    obtain ⟨rfl, _⟩ := bK m1
    obtain ⟨x, e7, e8⟩ := aG e6
    obtain ⟨S, f3, c3⟩ := dF k e7
    cases e8
    exact .pair (cq k f1) w w2 (cq k f2) c2 (cq k f3) c3
   ·cases e4
  | fst q =>
   obtain ⟨F, e1, e2⟩ := aG h
   obtain ⟨S, e3, w⟩ := jm k e1
   split at e2
   ·cases e2; exact .fst (cq k e3) w
   ·cases e2
  | snd q =>
   obtain ⟨F, e1, e2⟩ := aG h
   obtain ⟨S, e3, w⟩ := jm k e1
   split at e2
   ·obtain ⟨rfl, _⟩ := bK e2; exact .snd (cq k e3) w
   ·cases e2
theorem AU (k : ew O) : ∀ {g : Nat} {G : List Tm} {t A : Tm}, O.vd t = true → inI O g G t = some (.ok A) → O.vd A = true
 | 0, _, _, _, _, h => by cases h
 | g + 1, G, t, A, v, h => by
  rw [inI] at h
  have ls : ∀ {x h}, lvl O x = some (.ok h) → ∃ i, h = sort i ∧ i ≤ 3 := fun {x h} e => by
   obtain ⟨s, e1, e2⟩ := aG e
   obtain ⟨u, e3, e4⟩ := aG e1
   have := (k.hn_ok (Option.some.inj e4)).2.2
   split at e2
   ·cases e2; exact ⟨_, rfl, k.v_sort.1 this⟩
   ·cases e2
  have bd : ∀ {a b h}, (sq (lvl O (inI O g G a)) fun i => sq (lvl O (ext (inI O g) G a b)) fun j => some (.ok (sort (max (lv i) (lv j))))) = some (.ok h) → O.vd h = true := by
   intro a b h e
   obtain ⟨x, e1, e2⟩ := aG e
   obtain ⟨y, e3, e4⟩ := aG e2
   obtain ⟨i, rfl, hi⟩ := ls e1
   obtain ⟨j, rfl, hj⟩ := ls e3
   cases e4
   exact k.v_sort.2 (by show max i j ≤ 3; omega)
  cases t with
  | var n =>
   simp only [kI] at h
   split at h
   ·obtain ⟨rfl, w⟩ := bK h; exact w
   ·cases h
  | sort n =>
   simp only [kI, Option.some.injEq] at h
   split at h
   ·cases h; exact k.v_sort.2 (by omega)
   ·cases h
  | pi a b => exact bd h
  | sig a b => exact bd h
  | lam a b =>
   obtain ⟨x, e1, e2⟩ := aG h
   obtain ⟨B, e3, e4⟩ := aG e2
   obtain ⟨y, e5, e6⟩ := aG e4
   obtain ⟨rfl, w⟩ := bK e5
   obtain ⟨z, e7, e8⟩ := aG e6
   cases e8; exact w
  | app f u =>
   obtain ⟨F, e1, e2⟩ := aG h
   split at e2
   ·obtain ⟨x, e4, e5⟩ := aG e2
    obtain ⟨rfl, w⟩ := bK e5; exact w
   ·cases e2
  | nat => cases h; exact k.v_sort.2 (by omega)
  | zero => cases h; exact k.v_nat
  | succ n =>
   obtain ⟨x, e1, e2⟩ := aG h
   cases e2; exact k.v_nat
  | elim p z s n =>
   obtain ⟨x, e1, e2⟩ := aG h
   obtain ⟨x, m1, e2⟩ := aG e2
   obtain ⟨x, e3, e4⟩ := aG e2
   obtain ⟨x, m2, e4⟩ := aG e4
   obtain ⟨x, e5, e6⟩ := aG e4
   obtain ⟨x, e7, e8⟩ := aG e6
   obtain ⟨rfl, w⟩ := bK e8; exact w
  | id t a b =>
   obtain ⟨x, e1, e2⟩ := aG h
   obtain ⟨i, rfl, hi⟩ := ls e1
   obtain ⟨x, e3, e4⟩ := aG e2
   obtain ⟨x, e5, e6⟩ := aG e4
   cases e6; exact k.v_sort.2 hi
  | refl a =>
   obtain ⟨B, e1, e2⟩ := aG h
   obtain ⟨x, e3, e4⟩ := aG e2
   obtain ⟨rfl, w⟩ := bK e4; exact w
  | move p e x =>
   obtain ⟨F, e1, e2⟩ := aG h
   split at e2
   ·obtain ⟨x, e4, e5⟩ := aG e2
    obtain ⟨x, m1, e5⟩ := aG e5
    obtain ⟨x, e6, e7⟩ := aG e5
    obtain ⟨rfl, w⟩ := bK e7; exact w
   ·cases e2
  | pair s a b =>
   obtain ⟨x, e1, e2⟩ := aG h
   obtain ⟨H, e3, e4⟩ := aG e2
   split at e4
   ·obtain ⟨x, e5, e6⟩ := aG e4
    obtain ⟨x, m1, e6⟩ := aG e6
    obtain ⟨x, e7, e8⟩ := aG e6
    cases e8; exact (k.v_pair v).1
   ·cases e4
  | fst q =>
   obtain ⟨F, e1, e2⟩ := aG h
   obtain ⟨u, e3, e4⟩ := aG e1
   have := (k.hn_ok (Option.some.inj e4)).2.2
   split at e2
   ·cases e2; exact (k.v_sig this).1
   ·cases e2
  | snd q =>
   obtain ⟨F, e1, e2⟩ := aG h
   split at e2
   ·obtain ⟨rfl, w⟩ := bK e2; exact w
   ·cases e2
theorem Le.ext {I J : List Tm → Tm → Option Rs} (h : ∀ G t, Le (I G t) (J G t)) (G : List Tm) (a b : Tm) : Le (ext I G a b) (ext J G a b) := by
 unfold Tm.ext
 split
 ·exact .bg _
 ·exact h _ _
theorem Le.kI {I J : List Tm → Tm → Option Rs} (h : ∀ G t, Le (I G t) (J G t)) (G : List Tm) (t : Tm) : Le (kI O I G t) (kI O J G t) := by
 cases t with
 | var n => exact .bg _
 | sort n => exact .bg _
 | pi a b => exact (h _ _).lvl.sq fun _ => (Le.ext h _ _ _).lvl.sq fun _ => .bg _
 | sig a b => exact (h _ _).lvl.sq fun _ => (Le.ext h _ _ _).lvl.sq fun _ => .bg _
 | lam a b => exact (h _ _).lvl.sq fun _ => (Le.ext h _ _ _).sq fun _ => (Le.bg _).sq fun _ => (h _ _).sq fun _ => .bg _
 | app f u => exact (h _ _).frm.sq fun F => by cases F <;> first | exact ((h _ _).chk _).sq fun _ => .bg _ | exact .bg _
 | nat => exact .bg _
 | zero => exact .bg _
 | succ n => exact ((h _ _).chk _).sq fun _ => .bg _
 | elim p z s n => exact ((h _ _).fam _).sq fun _ => (Le.bg _).sq fun _ => ((h _ _).chk _).sq fun _ => (Le.bg _).sq fun _ => ((h _ _).chk _).sq fun _ => ((h _ _).chk _).sq fun _ => .bg _
 | id t a b => exact (h _ _).lvl.sq fun _ => ((h _ _).chk _).sq fun _ => ((h _ _).chk _).sq fun _ => .bg _
 | refl a => exact (h _ _).sq fun _ => (h _ _).lvl.sq fun _ => .bg _
 | move p e x => exact (h _ _).frm.sq fun F => by cases F <;> first | exact ((h _ _).fam _).sq fun _ => (Le.bg _).sq fun _ => ((h _ _).chk _).sq fun _ => .bg _ | exact .bg _
 | pair s a b => exact (h _ _).lvl.sq fun _ => (Le.bg _).sq fun F => by cases F <;> first | exact ((h _ _).chk _).sq fun _ => (Le.bg _).sq fun _ => ((h _ _).chk _).sq fun _ => .bg _ | exact .bg _
 | fst q => exact (h _ _).frm.sq fun _ => .bg _
 | snd q => exact (h _ _).frm.sq fun _ => .bg _
theorem Dn : ∀ (g : Nat) (G : List Tm) (t : Tm), Le (inI O g G t) (inI O (g + 1) G t)
 | 0, _, _ => fun _ h => by cases h
 | g + 1, G, t => by
  rw [inI, inI]
  exact Le.kI (Dn g) G t
theorem GD {g h : Nat} (k : g ≤ h) {G : List Tm} {t : Tm} : Le (inI O g G t) (inI O h G t) := by
 induction k with
 | refl => exact .bg _
 | step _ ih => exact fun r e => Dn _ _ _ r (ih r e)
theorem DB {g : Nat} {G : List Tm} {t : Tm} {r : Rs} (h : inI O g G t = some r) : Is (fun n => inI O n G t) r := ⟨g, fun n hn => GD hn r h⟩
theorem fg {G : List Tm} {t : Tm} (h : Ends fun n => kI O (inI O n) G t) : Ends fun n => inI O n G t :=
 let ⟨r, h⟩ := h
 ⟨r, H7 h⟩
theorem GN (k : ew O) {G : List Tm} {t A : Tm} (h : Is (fun n => inI O n G t) (.ok A)) : Al G t A := by
 obtain ⟨N, h⟩ := h
 exact cq k (h N (Nat.le_refl N))
theorem qz (k : ew O) {G : List Tm} {t A : Tm} (w : Wf G) (h : Is (fun n => lvl O (inI O n G t)) (.ok A)) : Wf (t :: G) := by
 obtain ⟨N, h⟩ := h
 obtain ⟨s, i, e, rfl, r⟩ := gO k (h N (Nat.le_refl N))
 exact .cons w (((cq k e).sound w).lvl w r)
theorem Ends.made (t : Tm) : Ends fun _ => made O t := .of
theorem zW (k : ew O) {G : List Tm} (w : Wf G) (hl : G.length < 20 → ∀ A, Wf (A :: G) → ∀ t, Ends fun n => inI O n (A :: G) t) : Clo (fun t => Ends fun n => inI O n G t) G := by
 have hx : ∀ a b, Wf (a :: G) → Ends fun n => ext (inI O n) G a b := fun a b w' => by
  by_cases c : 20 ≤ G.length
  ·exact ⟨.opn, 0, fun n _ => by show ext _ _ _ _ = _; rw [Tm.ext, if_pos c]⟩
  ·obtain ⟨r, N, h⟩ := hl (by omega) a w' b
   exact ⟨r, N, fun n hn => by show ext _ _ _ _ = _; rw [Tm.ext, if_neg c]; exact h n hn⟩
 have hp : ∀ {a b}, (Ends fun n => inI O n G a) → Ends fun n => inI O n G (pi a b) := fun h => fg (h.lvl.bind fun _ q => (hx _ _ (qz k w q)).lvl.bind fun _ _ => .of)
 exact {
  var := fun n => fg (by show Ends fun _ => match look G n with | some A => Tm.made O A | none => some Rs.bad; exact .const _ (by split <;> simp [Tm.made]))
  sort := fun n => fg .of
  nat := fg .of
  zero := fg .of
  succ := fun h => fg ((h.chk _).bind fun _ _ => .of)
  pi := hp
  sig := fun h => fg (h.lvl.bind fun _ q => (hx _ _ (qz k w q)).lvl.bind fun _ _ => .of)
  lam := fun {a b} h => fg (h.lvl.bind fun _ q => (hx _ _ (qz k w q)).bind fun B _ => (Ends.made _).bind fun P eP => by
   obtain ⟨N, eP⟩ := eP
   obtain ⟨rfl, _⟩ := bK (eP N (Nat.le_refl N))
   exact (hp h).bind fun _ _ => .of)
  app := fun h l => fg (h.frm.bind fun F _ => by cases F <;> first | exact (l.chk _).bind fun _ _ => .made _ | exact .of)
  elim := fun h l m o => fg ((h.fam _).bind fun _ _ => (Ends.made _).bind fun _ _ => (l.chk _).bind fun _ _ => (Ends.made _).bind fun _ _ => (m.chk _).bind fun _ _ => (o.chk _).bind fun _ _ => .made _)
  id := fun h l m => fg (h.lvl.bind fun _ _ => (l.chk _).bind fun _ _ => (m.chk _).bind fun _ _ => .of)
  refl := fun h l => fg (h.bind fun A q => (l A (GN k q)).lvl.bind fun _ _ => .made _)
  move := fun h l m => fg (l.frm.bind fun F _ => by cases F <;> first | exact (h.fam _).bind fun _ _ => (Ends.made _).bind fun _ _ => (m.chk _).bind fun _ _ => .made _ | exact .of)
  pair := fun h l m => fg (h.lvl.bind fun _ _ => Ends.bind .of fun F _ => by cases F <;> first | exact (l.chk _).bind fun _ _ => (Ends.made _).bind fun _ _ => (m.chk _).bind fun _ _ => .of | exact .of)
  fst := fun h => fg (h.frm.bind fun F _ => .const _ (by split <;> simp))
  snd := fun h => fg (h.frm.bind fun F _ => .const _ (by split <;> simp [Tm.made])) }
theorem wN (k : ew O) : ∀ (m : Nat) (G : List Tm), 20 ≤ G.length + m → Wf G → ∀ t, Ends fun n => inI O n G t
 | 0, G, h, w, t => (zW k w fun hl => absurd hl (by omega)).all w t
 | m + 1, G, h, w, t => (zW k w fun _ A w' => wN k m (A :: G) (by simp only [List.length_cons]; omega) w').all w t
theorem EP (k : ew O) {G : List Tm} (w : Wf G) (t : Tm) : ∃ r, Is (fun n => inI O n G t) r := wN k 20 G (by omega) w t
end Tm
end Go.Proofs.Ytajlknlnmmbfcaa
end
section
namespace Go.Proofs.Ytajlknlnmmbfcaa
open Go Go.Dk
def of : Tm → T
 | .var n => .mk 1 n []
 | .sort n => .mk 2 n []
 | .pi a b => .mk 3 0 [of a, of b]
 | .lam a b => .mk 4 0 [of a, of b]
 | .app a b => .mk 5 0 [of a, of b]
 | .nat => .mk 6 0 []
 | .zero => .mk 7 0 []
 | .succ a => .mk 8 0 [of a]
 | .elim p z s n => .mk 9 0 [of p, of z, of s, of n]
 | .id t a b => .mk 10 0 [of t, of a, of b]
 | .refl a => .mk 11 0 [of a]
 | .move p e x => .mk 12 0 [of p, of e, of x]
 | .sig a b => .mk 13 0 [of a, of b]
 | .pair s a b => .mk 14 0 [of s, of a, of b]
 | .fst a => .mk 15 0 [of a]
 | .snd a => .mk 16 0 [of a]
theorem Di : ∀ {a b : Tm}, of a = of b → a = b := by
 intro a
 induction a <;> intro b h <;> cases b <;> simp_all [of] <;> grind
def shn (a c n : Nat) : Nat := if c ≤ n then n + a else n
theorem zS (a c : Nat) : Tm.up (shn a c) = shn a (c + 1) := by
 funext n; cases n with
 | zero => simp [Tm.up, shn]
 | succ n => simp only [Tm.up, shn]; split <;> split <;> omega
theorem B3 (a : Nat) : ∀ (t : Tm) (c : Nat), shT (a : Int) (of t) (c : Int) = of (t.ren (shn a c)) := by
 intro t
 induction t with
 | var n =>
  intro c
  simp only [of, Tm.ren, shT, shL, shn, true_and]
  by_cases h : c ≤ n
  ·rw [if_pos h, if_pos (by omega)]; rfl
  ·rw [if_neg h, if_neg (by omega)]
 | pi a b ha hb => intro c; simp only [of, Tm.ren, shT, shL, under, zS, ← ha, ← hb]; simp
 | lam a b ha hb => intro c; simp only [of, Tm.ren, shT, shL, under, zS, ← ha, ← hb]; simp
 | sig a b ha hb => intro c; simp only [of, Tm.ren, shT, shL, under, zS, ← ha, ← hb]; simp
 | _ => intro c; simp_all [of, Tm.ren, shT, shL, under]
theorem kp (a : Nat) : shn a 0 = (· + a) := by funext n; simp [shn]
theorem FL (t : Tm) : shT 1 (of t) 0 = of t.wk := by
 have := B3 1 t 0
 rw [kp] at this; exact this
def sbn (u : Tm) (c n : Nat) : Tm := if n < c then .var n else if n = c then u.ren (· + c) else .var (n - 1)
theorem vL (u : Tm) (c : Nat) : Tm.ups (sbn u c) = sbn u (c + 1) := by
 funext n; cases n with
 | zero => simp [Tm.ups, sbn]
 | succ n =>
  simp only [Tm.ups, sbn]
  by_cases h : n < c
  ·rw [if_pos h, if_pos (show n + 1 < c + 1 by omega)]; rfl
  ·rw [if_neg h, if_neg (show ¬ n + 1 < c + 1 by omega)]
   by_cases h2 : n = c
   ·rw [if_pos h2, if_pos (show n + 1 = c + 1 by omega), Tm.wk, Tm.fy]; rfl
   ·rw [if_neg h2, if_neg (show ¬ n + 1 = c + 1 by omega)]
    show Tm.var (n - 1 + 1) = Tm.var (n + 1 - 1)
    congr 1; omega
theorem HR (u : Tm) : ∀ (t : Tm) (c : Nat), sbT (of u) (of t) (c : Int) (c : Int) = of (t.sub (sbn u c)) := by
 intro t
 induction t with
 | var n =>
  intro c
  simp only [of, Tm.sub, sbT, sbL, sbn, true_and]
  by_cases h : n < c
  ·rw [if_pos h, if_neg (by omega), if_neg (by omega)]; rfl
  ·rw [if_neg h]
   by_cases h2 : n = c
   ·subst h2
    rw [if_pos rfl, if_pos rfl]
    have := B3 n u 0
    rw [kp] at this; exact this
   ·rw [if_neg h2, if_neg (by omega), if_pos (by omega)]
    simp only [of]; congr 1; omega
 | pi a b ha hb =>
  intro c
  have hb' := hb (c + 1)
  simp only [of, Tm.sub, sbT, sbL, under, vL, ← ha, ← hb']; simp
 | lam a b ha hb =>
  intro c
  have hb' := hb (c + 1)
  simp only [of, Tm.sub, sbT, sbL, under, vL, ← ha, ← hb']; simp
 | sig a b ha hb =>
  intro c
  have hb' := hb (c + 1)
  simp only [of, Tm.sub, sbT, sbL, under, vL, ← ha, ← hb']; simp
 | _ => intro c; simp_all [of, Tm.sub, sbT, sbL, under]
theorem Cf (u : Tm) : sbn u 0 = Tm.sc u Tm.var := by
 funext n; cases n with
 | zero => exact Tm.pP u
 | succ n => simp [sbn, Tm.sc]
theorem kP (b u : Tm) : sbT (of u) (of b) 0 0 = of (b.inst u) := by
 have := HR u b 0
 rw [Cf] at this; exact this
theorem GW {t u : Tm} (h : Tm.Par t u) : Par (of t) (of u) := by
 have c1 : ∀ {k n : Int} {a a' : T}, Par a a' → Par (.mk k n [a]) (.mk k n [a']) := fun h => .node (.cons h .nil)
 have c2 : ∀ {k n : Int} {a a' b b' : T}, Par a a' → Par b b' → Par (.mk k n [a, b]) (.mk k n [a', b']) := fun h k => .node (.cons h (.cons k .nil))
 have c3 : ∀ {k n : Int} {a a' b b' c c' : T}, Par a a' → Par b b' → Par c c' → Par (.mk k n [a, b, c]) (.mk k n [a', b', c']) := fun h k l => .node (.cons h (.cons k (.cons l .nil)))
 have c4 : ∀ {k n : Int} {a a' b b' c c' d d' : T}, Par a a' → Par b b' → Par c c' → Par d d' → Par (.mk k n [a, b, c, d]) (.mk k n [a', b', c', d']) := fun h k l m => .node (.cons h (.cons k (.cons l (.cons m .nil))))
 induction h with
 | var => exact Par.refl _
 | sort => exact Par.refl _
 | nat => exact Par.refl _
 | zero => exact Par.refl _
 | pi h k ih ik => exact c2 ih ik
 | lam h k ih ik => exact c2 ih ik
 | app h k ih ik => exact c2 ih ik
 | sig h k ih ik => exact c2 ih ik
 | succ h ih => exact c1 ih
 | refl h ih => exact c1 ih
 | fst h ih => exact c1 ih
 | snd h ih => exact c1 ih
 | id h k l ih ik il => exact c3 ih ik il
 | move h k l ih ik il => exact c3 ih ik il
 | pair h k l ih ik il => exact c3 ih ik il
 | elim h k l m ih ik il im => exact c4 ih ik il im
 | @beta a b b' u u' h k ih ik =>
  have := Par.red (k := 5) (n := 0) (.cons (c2 (k := 4) (n := 0) (Par.refl (of a)) ih) (.cons ik .nil)) (.app rfl rfl)
  rwa [fb rfl, show kd (kd (.mk 5 0 [.mk 4 0 [of a, of b'], of u']) 0) 1 = of b' from rfl, show kd (.mk 5 0 [.mk 4 0 [of a, of b'], of u']) 1 = of u' from rfl, kP] at this
 | @ezero p z z' s h ih =>
  have := Par.red (k := 9) (n := 0) (.cons (Par.refl (of p)) (.cons ih (.cons (Par.refl (of s)) (.cons (Par.refl (.mk 7 0 [])) .nil)))) (.zero rfl rfl)
  rwa [dj rfl rfl] at this
 | @esucc p p' z z' s s' n n' h k l m ih ik il im =>
  have := Par.red (k := 9) (n := 0) (.cons ih (.cons ik (.cons il (.cons (c1 (k := 8) (n := 0) im) .nil)))) (.succ rfl rfl)
  rwa [dk rfl rfl] at this
 | @mrefl p a x x' h ih =>
  have := Par.red (k := 12) (n := 0) (.cons (Par.refl (of p)) (.cons (Par.refl (.mk 11 0 [of a])) (.cons ih .nil))) (.move rfl rfl)
  rwa [dq rfl] at this
 | @fpair t a a' b h ih =>
  have := Par.red (k := 15) (n := 0) (.cons (c3 (k := 14) (n := 0) (Par.refl (of t)) ih (Par.refl (of b))) .nil) (.fst rfl rfl)
  rwa [eV rfl] at this
 | @spair t a b b' h ih =>
  have := Par.red (k := 16) (n := 0) (.cons (c3 (k := 14) (n := 0) (Par.refl (of t)) (Par.refl (of a)) ih) .nil) (.snd rfl rfl)
  rwa [eT rfl] at this
theorem DZ {t u : Tm} (h : Tm.Red t u) : Red (of t) (of u) := by
 induction h with
 | nil => exact .refl
 | cons h _ ih => exact .step (GW h) ih
theorem fx.one {a : T} {us : List T} (h : fx [a] us) : ∃ a', us = [a'] ∧ Par a a' := by
 cases h with | cons h hs => cases hs; exact ⟨_, rfl, h⟩
theorem fx.two {a b : T} {us : List T} (h : fx [a, b] us) : ∃ a' b', us = [a', b'] ∧ Par a a' ∧ Par b b' := by
 cases h with | cons h hs => obtain ⟨b', rfl, h2⟩ := hs.one; exact ⟨_, _, rfl, h, h2⟩
theorem fx.three {a b c : T} {us : List T} (h : fx [a, b, c] us) : ∃ a' b' c', us = [a', b', c'] ∧ Par a a' ∧ Par b b' ∧ Par c c' := by
 cases h with | cons h hs => obtain ⟨b', c', rfl, h2⟩ := hs.two; exact ⟨_, _, _, rfl, h, h2⟩
theorem fx.four {a b c d : T} {us : List T} (h : fx [a, b, c, d] us) : ∃ a' b' c' d', us = [a', b', c', d'] ∧ Par a a' ∧ Par b b' ∧ Par c c' ∧ Par d d' := by
 cases h with | cons h hs => obtain ⟨b', c', d', rfl, h2⟩ := hs.three; exact ⟨_, _, _, _, rfl, h, h2⟩
theorem gf (t : Tm) : (of t).k = match t with
   | .var _ => 1 | .sort _ => 2 | .pi .. => 3 | .lam .. => 4 | .app .. => 5 | .nat => 6 | .zero => 7 | .succ _ => 8 | .elim .. => 9 | .id .. => 10 | .refl _ => 11 | .move .. => 12 | .sig .. => 13 | .pair .. => 14 | .fst _ => 15 | .snd _ => 16 := by
 cases t <;> rfl
theorem F4 : ∀ {t : Tm} {x : T}, Par (of t) x → ∃ u, x = of u ∧ Tm.Par t u := by
 intro t
 have no : ∀ {k n : Int} {ts : List T}, Rx (.mk k n ts) → k ≠ 5 → k ≠ 9 → k ≠ 12 → k ≠ 15 → k ≠ 16 → False := fun h h1 h2 h3 h4 h5 => by
  have := h.k; simp only [T.k] at this; omega
 induction t with
 | var n => intro x h; cases h with
  | node h => cases h; exact ⟨.var n, rfl, .var⟩
  | red h r => exact (no r (by decide) (by decide) (by decide) (by decide) (by decide)).elim
 | sort n => intro x h; cases h with
  | node h => cases h; exact ⟨.sort n, rfl, .sort⟩
  | red h r => exact (no r (by decide) (by decide) (by decide) (by decide) (by decide)).elim
 | nat => intro x h; cases h with
  | node h => cases h; exact ⟨.nat, rfl, .nat⟩
  | red h r => exact (no r (by decide) (by decide) (by decide) (by decide) (by decide)).elim
 | zero => intro x h; cases h with
  | node h => cases h; exact ⟨.zero, rfl, .zero⟩
  | red h r => exact (no r (by decide) (by decide) (by decide) (by decide) (by decide)).elim
 | pi a b ha hb => intro x h; cases h with
  | node h => obtain ⟨a', b', rfl, p, q⟩ := h.two; obtain ⟨u, rfl, hu⟩ := ha p; obtain ⟨v, rfl, hv⟩ := hb q; exact ⟨.pi u v, rfl, .pi hu hv⟩
  | red h r => exact (no r (by decide) (by decide) (by decide) (by decide) (by decide)).elim
 | lam a b ha hb => intro x h; cases h with
  | node h => obtain ⟨a', b', rfl, p, q⟩ := h.two; obtain ⟨u, rfl, hu⟩ := ha p; obtain ⟨v, rfl, hv⟩ := hb q; exact ⟨.lam u v, rfl, .lam hu hv⟩
  | red h r => exact (no r (by decide) (by decide) (by decide) (by decide) (by decide)).elim
 | sig a b ha hb => intro x h; cases h with
  | node h => obtain ⟨a', b', rfl, p, q⟩ := h.two; obtain ⟨u, rfl, hu⟩ := ha p; obtain ⟨v, rfl, hv⟩ := hb q; exact ⟨.sig u v, rfl, .sig hu hv⟩
  | red h r => exact (no r (by decide) (by decide) (by decide) (by decide) (by decide)).elim
 | succ a ha => intro x h; cases h with
  | node h => obtain ⟨a', rfl, p⟩ := h.one; obtain ⟨u, rfl, hu⟩ := ha p; exact ⟨.succ u, rfl, .succ hu⟩
  | red h r => exact (no r (by decide) (by decide) (by decide) (by decide) (by decide)).elim
 | refl a ha => intro x h; cases h with
  | node h => obtain ⟨a', rfl, p⟩ := h.one; obtain ⟨u, rfl, hu⟩ := ha p; exact ⟨.refl u, rfl, .refl hu⟩
  | red h r => exact (no r (by decide) (by decide) (by decide) (by decide) (by decide)).elim
 | id t a b ht ha hb => intro x h; cases h with
  | node h => obtain ⟨t', a', b', rfl, p, q, r⟩ := h.three; obtain ⟨s, rfl, hs⟩ := ht p; obtain ⟨u, rfl, hu⟩ := ha q; obtain ⟨v, rfl, hv⟩ := hb r; exact ⟨.id s u v, rfl, .id hs hu hv⟩
  | red h r => exact (no r (by decide) (by decide) (by decide) (by decide) (by decide)).elim
 | pair t a b ht ha hb => intro x h; cases h with
  | node h => obtain ⟨t', a', b', rfl, p, q, r⟩ := h.three; obtain ⟨s, rfl, hs⟩ := ht p; obtain ⟨u, rfl, hu⟩ := ha q; obtain ⟨v, rfl, hv⟩ := hb r; exact ⟨.pair s u v, rfl, .pair hs hu hv⟩
  | red h r => exact (no r (by decide) (by decide) (by decide) (by decide) (by decide)).elim
 | app f a hf ha => intro x h; cases h with
  | node h => obtain ⟨a', b', rfl, p, q⟩ := h.two; obtain ⟨u, rfl, hu⟩ := hf p; obtain ⟨v, rfl, hv⟩ := ha q; exact ⟨.app u v, rfl, .app hu hv⟩
  | red h r =>
   obtain ⟨a', b', rfl, p, q⟩ := h.two
   obtain ⟨u, rfl, hu⟩ := hf p
   obtain ⟨v, rfl, hv⟩ := ha q
   cases r with
   | app _ hk =>
    have hk : (of f).k = 4 := hk
    rw [gf] at hk
    cases f <;> simp only [reduceCtorEq, Int.reduceEq] at hk
    cases hu with
    | lam h1 h2 =>
     rw [fb rfl]
     show ∃ w, sbT (of v) (of _) 0 0 = of w ∧ _
     rw [kP]; exact ⟨_, rfl, .beta h2 hv⟩
   | zero h => cases h
   | succ h => cases h
   | move h => cases h
   | fst h => cases h
   | snd h => cases h
 | elim a b c d ha hb hc hd => intro x h; cases h with
  | node h =>
   obtain ⟨a', b', c', d', rfl, p, q, r, s⟩ := h.four
   obtain ⟨u, rfl, hu⟩ := ha p; obtain ⟨v, rfl, hv⟩ := hb q; obtain ⟨w, rfl, hw⟩ := hc r; obtain ⟨y, rfl, hy⟩ := hd s
   exact ⟨.elim u v w y, rfl, .elim hu hv hw hy⟩
  | red h r =>
   obtain ⟨a', b', c', d', rfl, p, q, r', s⟩ := h.four
   obtain ⟨u, rfl, hu⟩ := ha p; obtain ⟨v, rfl, hv⟩ := hb q; obtain ⟨w, rfl, hw⟩ := hc r'; obtain ⟨y, rfl, hy⟩ := hd s
   cases r with
   | app h => cases h
   | zero _ hk =>
    have hk : (of d).k = 7 := hk
    rw [gf] at hk
    cases d <;> simp only [reduceCtorEq, Int.reduceEq] at hk
    cases hy
    rw [dj rfl rfl]
    exact ⟨v, rfl, .ezero hv⟩
   | succ _ hk =>
    have hk : (of d).k = 8 := hk
    rw [gf] at hk
    cases d <;> simp only [reduceCtorEq, Int.reduceEq] at hk
    cases hy with
    | succ hy =>
     rw [dk rfl rfl]
     exact ⟨.app (.app w _) (.elim u v w _), rfl, .esucc hu hv hw hy⟩
   | move h => cases h
   | fst h => cases h
   | snd h => cases h
 | move t a b ht ha hb => intro x h; cases h with
  | node h => obtain ⟨t', a', b', rfl, p, q, r⟩ := h.three; obtain ⟨s, rfl, hs⟩ := ht p; obtain ⟨u, rfl, hu⟩ := ha q; obtain ⟨v, rfl, hv⟩ := hb r; exact ⟨.move s u v, rfl, .move hs hu hv⟩
  | red h r =>
   obtain ⟨t', a', b', rfl, p, q, r'⟩ := h.three; obtain ⟨s, rfl, hs⟩ := ht p; obtain ⟨u, rfl, hu⟩ := ha q; obtain ⟨v, rfl, hv⟩ := hb r'
   cases r with
   | app h => cases h
   | zero h => cases h
   | succ h => cases h
   | move _ hk =>
    have hk : (of a).k = 11 := hk
    rw [gf] at hk
    cases a <;> simp only [reduceCtorEq, Int.reduceEq] at hk
    rw [dq rfl]
    exact ⟨v, rfl, .mrefl hv⟩
   | fst h => cases h
   | snd h => cases h
 | fst a ha => intro x h; cases h with
  | node h => obtain ⟨a', rfl, p⟩ := h.one; obtain ⟨u, rfl, hu⟩ := ha p; exact ⟨.fst u, rfl, .fst hu⟩
  | red h r =>
   obtain ⟨a', rfl, p⟩ := h.one; obtain ⟨u, rfl, hu⟩ := ha p
   cases r with
   | app h => cases h
   | zero h => cases h
   | succ h => cases h
   | move h => cases h
   | fst _ hk =>
    have hk : (of a).k = 14 := hk
    rw [gf] at hk
    cases a <;> simp only [reduceCtorEq, Int.reduceEq] at hk
    cases hu with
    | pair h1 h2 h3 => rw [eV rfl]; exact ⟨_, rfl, .fpair h2⟩
   | snd h => cases h
 | snd a ha => intro x h; cases h with
  | node h => obtain ⟨a', rfl, p⟩ := h.one; obtain ⟨u, rfl, hu⟩ := ha p; exact ⟨.snd u, rfl, .snd hu⟩
  | red h r =>
   obtain ⟨a', rfl, p⟩ := h.one; obtain ⟨u, rfl, hu⟩ := ha p
   cases r with
   | app h => cases h
   | zero h => cases h
   | succ h => cases h
   | move h => cases h
   | fst h => cases h
   | snd _ hk =>
    have hk : (of a).k = 14 := hk
    rw [gf] at hk
    cases a <;> simp only [reduceCtorEq, Int.reduceEq] at hk
    cases hu with
    | pair h1 h2 h3 => rw [eT rfl]; exact ⟨_, rfl, .spair h3⟩
theorem DC {t : Tm} {x : T} (h : Red (of t) x) : ∃ u, x = of u ∧ Tm.Red t u := by
 generalize e : of t = y at h
 induction h generalizing t with
 | refl => exact ⟨t, e.symm, .nil⟩
 | step h _ ih =>
  subst e
  obtain ⟨u, rfl, hu⟩ := F4 h
  obtain ⟨v, rfl, hv⟩ := ih rfl
  exact ⟨v, rfl, .cons hu hv⟩
end Go.Proofs.Ytajlknlnmmbfcaa
end
section
namespace Go.Proofs.Ytajlknlnmmbfcaa
open Go Go.Dk
theorem CT (t : T) : ∀ d, cH t d = true → ∃ m, t = of m := by
 induction t using T.ind with | h t ih =>
 intro d h
 cases t with | mk k n ts =>
 rw [gi] at h
 simp only [Bool.and_eq_true, decide_eq_true_eq] at h
 obtain ⟨_, h1, h2, h3⟩ := h
 have h1 : opsOf k = ts.length := h1
 have h2 : 0 ≤ n ∧ n ≤ ct k := h2
 have h3 : c7 ts (d - 1) = true := h3
 have kid : ∀ u ∈ ts, ∃ m, u = of m := fun u hu => ih u hu (d - 1) (ld h3 hu)
 have hk : k = 1 ∨ k = 2 ∨ k = 3 ∨ k = 4 ∨ k = 5 ∨ k = 6 ∨ k = 7 ∨ k = 8 ∨ k = 9 ∨ k = 10 ∨ k = 11 ∨ k = 12 ∨ k = 13 ∨ k = 14 ∨ k = 15 ∨ k = 16 := by
  unfold opsOf at h1
  repeat' split at h1
  all_goals omega
 have l0 : opsOf k = 0 → ts = [] := fun e => by
  rw [e] at h1
  exact List.eq_nil_of_length_eq_zero (by omega)
 have l1 : opsOf k = 1 → ∃ a, ts = [of a] := fun e => by
  rw [e] at h1
  match ts, h1, kid with
  | [a], _, kid => obtain ⟨m, rfl⟩ := kid a (by simp); exact ⟨m, rfl⟩
  | [], h1, _ => simp at h1
  | _ :: _ :: _, h1, _ => simp at h1; omega
 have l2 : opsOf k = 2 → ∃ a b, ts = [of a, of b] := fun e => by
  rw [e] at h1
  match ts, h1, kid with
  | [a, b], _, kid => obtain ⟨m, rfl⟩ := kid a (by simp); obtain ⟨m', rfl⟩ := kid b (by simp); exact ⟨m, m', rfl⟩
  | [], h1, _ => simp at h1
  | [_], h1, _ => simp at h1
  | _ :: _ :: _ :: _, h1, _ => simp at h1; omega
 have l3 : opsOf k = 3 → ∃ a b c, ts = [of a, of b, of c] := fun e => by
  rw [e] at h1
  match ts, h1, kid with
  | [a, b, c], _, kid => obtain ⟨m, rfl⟩ := kid a (by simp); obtain ⟨m', rfl⟩ := kid b (by simp); obtain ⟨m'', rfl⟩ := kid c (by simp); exact ⟨m, m', m'', rfl⟩
  | [], h1, _ => simp at h1
  | [_], h1, _ => simp at h1
  | [_, _], h1, _ => simp at h1
  | _ :: _ :: _ :: _ :: _, h1, _ => simp at h1; omega
 have l4 : opsOf k = 4 → ∃ a b c e, ts = [of a, of b, of c, of e] := fun e => by
  rw [e] at h1
  match ts, h1, kid with
  | [a, b, c, x], _, kid => obtain ⟨m, rfl⟩ := kid a (by simp); obtain ⟨m', rfl⟩ := kid b (by simp); obtain ⟨m'', rfl⟩ := kid c (by simp); obtain ⟨m3, rfl⟩ := kid x (by simp); exact ⟨m, m', m'', m3, rfl⟩
  | [], h1, _ => simp at h1
  | [_], h1, _ => simp at h1
  | [_, _], h1, _ => simp at h1
  | [_, _, _], h1, _ => simp at h1
  | _ :: _ :: _ :: _ :: _ :: _, h1, _ => simp at h1; omega
 have n0 : ct k = 0 → n = 0 := fun e => by omega
 rcases hk with rfl | rfl | rfl | rfl | rfl | rfl | rfl | rfl | rfl | rfl | rfl | rfl | rfl | rfl | rfl | rfl
 ·rw [l0 rfl]; exact ⟨.var n.toNat, by show T.mk 1 n [] = T.mk 1 (n.toNat : Int) []; rw [Int.toNat_of_nonneg h2.1]⟩
 ·rw [l0 rfl]; exact ⟨.sort n.toNat, by show T.mk 2 n [] = T.mk 2 (n.toNat : Int) []; rw [Int.toNat_of_nonneg h2.1]⟩
 ·obtain ⟨a, b, rfl⟩ := l2 rfl; rw [n0 rfl]; exact ⟨.pi a b, rfl⟩
 ·obtain ⟨a, b, rfl⟩ := l2 rfl; rw [n0 rfl]; exact ⟨.lam a b, rfl⟩
 ·obtain ⟨a, b, rfl⟩ := l2 rfl; rw [n0 rfl]; exact ⟨.app a b, rfl⟩
 ·rw [l0 rfl, n0 rfl]; exact ⟨.nat, rfl⟩
 ·rw [l0 rfl, n0 rfl]; exact ⟨.zero, rfl⟩
 ·obtain ⟨a, rfl⟩ := l1 rfl; rw [n0 rfl]; exact ⟨.succ a, rfl⟩
 ·obtain ⟨a, b, c, e, rfl⟩ := l4 rfl; rw [n0 rfl]; exact ⟨.elim a b c e, rfl⟩
 ·obtain ⟨a, b, c, rfl⟩ := l3 rfl; rw [n0 rfl]; exact ⟨.id a b c, rfl⟩
 ·obtain ⟨a, rfl⟩ := l1 rfl; rw [n0 rfl]; exact ⟨.refl a, rfl⟩
 ·obtain ⟨a, b, c, rfl⟩ := l3 rfl; rw [n0 rfl]; exact ⟨.move a b c, rfl⟩
 ·obtain ⟨a, b, rfl⟩ := l2 rfl; rw [n0 rfl]; exact ⟨.sig a b, rfl⟩
 ·obtain ⟨a, b, c, rfl⟩ := l3 rfl; rw [n0 rfl]; exact ⟨.pair a b c, rfl⟩
 ·obtain ⟨a, rfl⟩ := l1 rfl; rw [n0 rfl]; exact ⟨.fst a, rfl⟩
 ·obtain ⟨a, rfl⟩ := l1 rfl; rw [n0 rfl]; exact ⟨.snd a, rfl⟩
theorem mJ {t : T} (h : ah t = true) : ∃ m, t = of m := by
 unfold ah at h
 rw [Bool.and_eq_true] at h
 exact CT t 30 h.1
def vdM (t : Tm) : Bool := ah (of t)
theorem fm {t : Tm} : vdM t = true ↔ cH (of t) 30 = true ∧ (of t).size ≤ 400 := by
 unfold vdM ah
 rw [Bool.and_eq_true, decide_eq_true_eq]
theorem BK {n : Nat} : vdM (.sort n) = true ↔ n ≤ 3 := by
 rw [fm]
 have e : ct 2 = 3 := rfl
 show cH (.mk 2 n []) 30 = true ∧ 1 ≤ 400 ↔ _
 simp only [cH, c7, Bool.and_eq_true, decide_eq_true_eq, Bool.and_true, e]
 constructor
 ·intro h; omega
 ·intro h; exact ⟨⟨by omega, rfl, by omega⟩, by omega⟩
def hdM : Tm → Option Tm
 | .app f u => match f with
  | .lam _ b => some (b.inst u)
  | f => (hdM f).map fun f => .app f u
 | .elim p z s n => match n with
  | .zero => some z
  | .succ m => some (.app (.app s m) (.elim p z s m))
  | n => (hdM n).map fun n => .elim p z s n
 | .move p e x => match e with
  | .refl _ => some x
  | e => (hdM e).map fun e => .move p e x
 | .fst q => match q with
  | .pair _ a _ => some a
  | q => (hdM q).map fun q => .fst q
 | .snd q => match q with
  | .pair _ _ b => some b
  | q => (hdM q).map fun q => .snd q
 | _ => none
theorem FZ : ∀ {t u : Tm}, hdM t = some u → Tm.Hd t u := by
 intro t
 induction t with
 | app f a hf ha =>
  intro u h
  cases f <;> first
   | (simp only [hdM] at h; cases h; exact .beta)
   | (simp only [hdM] at h
      obtain ⟨v, hv, rfl⟩ := Option.map_eq_some_iff.1 h
      exact .app (hf hv))
 | elim p z s n hp hz hs hn =>
  intro u h
  cases n <;> first
   | (simp only [hdM] at h; cases h; first | exact .ezero | exact .esucc)
   | (simp only [hdM] at h
      obtain ⟨v, hv, rfl⟩ := Option.map_eq_some_iff.1 h
      exact .elim (hn hv))
 | move p e x hp he hx =>
  intro u h
  cases e <;> first
   | (simp only [hdM] at h; cases h; exact .mrefl)
   | (simp only [hdM] at h
      obtain ⟨v, hv, rfl⟩ := Option.map_eq_some_iff.1 h
      exact .move (he hv))
 | fst q hq =>
  intro u h
  cases q <;> first
   | (simp only [hdM] at h; cases h; exact .fpair)
   | (simp only [hdM] at h
      obtain ⟨v, hv, rfl⟩ := Option.map_eq_some_iff.1 h
      exact .fst (hq hv))
 | snd q hq =>
  intro u h
  cases q <;> first
   | (simp only [hdM] at h; cases h; exact .spair)
   | (simp only [hdM] at h
      obtain ⟨v, hv, rfl⟩ := Option.map_eq_some_iff.1 h
      exact .snd (hq hv))
 | _ => intro u h; cases h
theorem F9 {t u : Tm} (h : Tm.Hd t u) : hdM t = some u := by
 induction h with
 | beta => rfl
 | ezero => rfl
 | esucc => rfl
 | mrefl => rfl
 | fpair => rfl
 | spair => rfl
 | @app f f' u h ih => cases f <;> first | (cases h; done) | (simp only [hdM] at ih ⊢; first | rw [ih]; rfl | (cases ih))
 | @elim p z s n n' h ih => cases n <;> first | (cases h; done) | (simp only [hdM] at ih ⊢; first | rw [ih]; rfl | (cases ih))
 | @move p e e' x h ih => cases e <;> first | (cases h; done) | (simp only [hdM] at ih ⊢; first | rw [ih]; rfl | (cases ih))
 | @fst q q' h ih => cases q <;> first | (cases h; done) | (simp only [hdM] at ih ⊢; first | rw [ih]; rfl | (cases ih))
 | @snd q q' h ih => cases q <;> first | (cases h; done) | (simp only [hdM] at ih ⊢; first | rw [ih]; rfl | (cases ih))
def hrM : Nat → Tm → Option Tm
 | 0, t => match hdM t with
  | none => some t
  | some _ => none
 | g + 1, t => match hdM t with
  | none => some t
  | some u => if vdM u = true then hrM g u else none
theorem Bm : ∀ {g : Nat} {t h : Tm}, hrM g t = some h → vdM t = true → Tm.Wh t h ∧ hdM h = none ∧ vdM h = true
 | 0, t, h, e, v => by
  simp only [hrM] at e
  cases hd : hdM t with
  | none => rw [hd] at e; cases e; exact ⟨.nil, hd, v⟩
  | some u => rw [hd] at e; cases e
 | g + 1, t, h, e, v => by
  simp only [hrM] at e
  cases hd : hdM t with
  | none => rw [hd] at e; cases e; exact ⟨.nil, hd, v⟩
  | some u =>
   rw [hd] at e
   simp only at e
   split at e
   ·obtain ⟨w, h1, h2⟩ := Bm e ‹_›
    exact ⟨.cons (FZ hd) w, h1, h2⟩
   ·cases e
open Tm in
def O : Orc where
 vd := vdM
 hn t := if vdM t = true then (match hrM 200 t with
  | some h => .ok h
  | none => .opn) else .opn
 sm a b := if vdM a = true ∧ vdM b = true then (if gH (of a) (of b) 200 = 1 then .ok .nat else if gH (of a) (of b) 200 = 2 then .bad else .opn) else .opn
theorem Ah {a b : Tm} {g : Nat} (h : gH (of a) (of b) g = 1) : Tm.Conv a b := by
 unfold gH at h
 split at h
 ·rename_i e
  have := Di ((T.beq_iff _ _).1 e)
  subst this; exact .bg
 ·split at h
  ·cases h
  ·rename_i hh
   split at h
   ·rename_i e
    have e := (T.beq_iff _ _).1 e
    have ha0 : (fN false g 0 (of a)).2.2 = 0 := Classical.byContradiction fun h => hh (.inl h)
    have hb0 : (fN false g 0 (of b)).2.2 = 0 := Classical.byContradiction fun h => hh (.inr h)
    obtain ⟨u, eu, ru⟩ := DC (kx _ _ _ ha0).1
    obtain ⟨v, ev, rv⟩ := DC (kx _ _ _ hb0).1
    have : u = v := Di (by rw [← eu, ← ev]; exact e)
    subst this
    exact ⟨u, ru, rv⟩
   ·cases h
theorem y6 {a b : Tm} {g : Nat} (h : gH (of a) (of b) g = 2) : ¬ Tm.Conv a b := by
 rintro ⟨c, r1, r2⟩
 obtain ⟨ha0, hb0, hne⟩ := Bo h
 obtain ⟨x1, n1⟩ := kx _ _ _ ha0
 obtain ⟨x2, n2⟩ := kx _ _ _ hb0
 obtain ⟨z, z1, z2⟩ := Red.BX x1 (DZ r1)
 obtain ⟨y, y1, y2⟩ := Red.BX x2 (DZ r2)
 rw [wB z1 n1] at z2
 rw [wB y1 n2] at y2
 exact hne (EN z2 y2 n1 n2)
theorem bm : Tm.ew O := by
 have kd : ∀ {t : Tm} {u : T}, vdM t = true → u ∈ (of t).kids → ∀ m, u = of m → vdM m = true := fun h hu m e => by
  unfold vdM; rw [← e]; exact bG h hu
 constructor
 case hn_ok =>
  intro t h e
  simp only [O] at e
  split at e
  ·split at e
   ·cases e
    obtain ⟨w, h1, h2⟩ := Bm ‹_› ‹_›
    exact ⟨w, (fun u k => by rw [F9 k] at h1; cases h1), h2⟩
   ·cases e
  ·cases e
 case hn_nb =>
  intro t e
  simp only [O] at e
  split at e
  ·split at e <;> cases e
  ·cases e
 case sm_ok =>
  intro a b x e
  simp only [O] at e
  split at e
  ·split at e
   ·exact Ah ‹_›
   ·split at e <;> cases e
  ·cases e
 case sm_nb =>
  intro a b e
  simp only [O] at e
  split at e
  ·split at e
   ·cases e
   ·split at e
    ·exact y6 ‹_›
    ·cases e
  ·cases e
 case sm_inv =>
  intro a b h
  simp only [O]
  rw [if_neg (fun hh => by rw [show O.vd b = vdM b from rfl] at h; rw [hh.2] at h; cases h)]
 case v_pi => exact fun h => ⟨kd h (by simp [of, T.kids]) _ rfl, kd h (by simp [of, T.kids]) _ rfl⟩
 case v_sig => exact fun h => ⟨kd h (by simp [of, T.kids]) _ rfl, kd h (by simp [of, T.kids]) _ rfl⟩
 case v_lam => exact fun h => ⟨kd h (by simp [of, T.kids]) _ rfl, kd h (by simp [of, T.kids]) _ rfl⟩
 case v_app => exact fun h => ⟨kd h (by simp [of, T.kids]) _ rfl, kd h (by simp [of, T.kids]) _ rfl⟩
 case v_succ => exact fun h => kd h (by simp [of, T.kids]) _ rfl
 case v_refl => exact fun h => kd h (by simp [of, T.kids]) _ rfl
 case v_fst => exact fun h => kd h (by simp [of, T.kids]) _ rfl
 case v_snd => exact fun h => kd h (by simp [of, T.kids]) _ rfl
 case v_id => exact fun h => ⟨kd h (by simp [of, T.kids]) _ rfl, kd h (by simp [of, T.kids]) _ rfl, kd h (by simp [of, T.kids]) _ rfl⟩
 case v_move => exact fun h => ⟨kd h (by simp [of, T.kids]) _ rfl, kd h (by simp [of, T.kids]) _ rfl, kd h (by simp [of, T.kids]) _ rfl⟩
 case v_pair => exact fun h => ⟨kd h (by simp [of, T.kids]) _ rfl, kd h (by simp [of, T.kids]) _ rfl, kd h (by simp [of, T.kids]) _ rfl⟩
 case v_elim =>
  intro p z s n h
  refine ⟨kd h (by simp [of, T.kids]) _ rfl, kd h (by simp [of, T.kids]) _ rfl, kd h (by simp [of, T.kids]) _ rfl, kd h (by simp [of, T.kids]) _ rfl, ?_⟩
  have h := fm.1 h
  show vdM _ = true
  rw [fm]
  have := size_pos (of z); have := size_pos (of s); have := size_pos (of n)
  simp only [of, cH, c7, T.size, T.aA, Bool.and_eq_true, decide_eq_true_eq, Bool.and_true] at h ⊢
  exact ⟨⟨by omega, rfl, by decide, h.1.2.2.2.1, by omega, rfl, by decide⟩, by omega⟩
 case v_lam3 =>
  intro a b h
  have h := fm.1 h
  show vdM _ = true
  rw [fm]
  have := size_pos (of b)
  simp only [of, cH, c7, T.size, T.aA, Bool.and_eq_true, decide_eq_true_eq, Bool.and_true] at h ⊢
  exact ⟨⟨by omega, rfl, by decide, h.1.2.2.2.1, by omega, rfl, by decide⟩, by omega⟩
 case v_sort => exact BK
 case v_nat => rfl
end Go.Proofs.Ytajlknlnmmbfcaa
end
section
namespace Go.Proofs.Ytajlknlnmmbfcaa
open Go Go.Ab Go.Dk
def mnT (k : Int) : Int := if k = 5 ∨ k = 15 ∨ k = 16 then 0 else if k = 12 then 1 else if k = 9 then 3 else -1
theorem BL {m : Tm} (h : Rx (of m)) : ∃ u, hdM m = some u ∧ ax (of m) = of u := by
 cases m with
 | app f a =>
  cases h with
  | app _ hk =>
   have hk : (of f).k = 4 := hk
   rw [gf] at hk
   cases f <;> simp only [reduceCtorEq, Int.reduceEq] at hk
   exact ⟨_, rfl, by rw [fb rfl]; exact kP _ _⟩
  | zero h => cases h
  | succ h => cases h
  | move h => cases h
  | fst h => cases h
  | snd h => cases h
 | elim p z s n =>
  cases h with
  | app h => cases h
  | zero _ hk =>
   have hk : (of n).k = 7 := hk
   rw [gf] at hk
   cases n <;> simp only [reduceCtorEq, Int.reduceEq] at hk
   exact ⟨z, rfl, dj rfl rfl⟩
  | succ _ hk =>
   have hk : (of n).k = 8 := hk
   rw [gf] at hk
   cases n <;> simp only [reduceCtorEq, Int.reduceEq] at hk
   exact ⟨_, rfl, dk rfl rfl⟩
  | move h => cases h
  | fst h => cases h
  | snd h => cases h
 | move p e x =>
  cases h with
  | app h => cases h
  | zero h => cases h
  | succ h => cases h
  | move _ hk =>
   have hk : (of e).k = 11 := hk
   rw [gf] at hk
   cases e <;> simp only [reduceCtorEq, Int.reduceEq] at hk
   exact ⟨x, rfl, dq rfl⟩
  | fst h => cases h
  | snd h => cases h
 | fst q =>
  cases h with
  | app h => cases h
  | zero h => cases h
  | succ h => cases h
  | move h => cases h
  | fst _ hk =>
   have hk : (of q).k = 14 := hk
   rw [gf] at hk
   cases q <;> simp only [reduceCtorEq, Int.reduceEq] at hk
   exact ⟨_, rfl, eV rfl⟩
  | snd h => cases h
 | snd q =>
  cases h with
  | app h => cases h
  | zero h => cases h
  | succ h => cases h
  | move h => cases h
  | fst h => cases h
  | snd _ hk =>
   have hk : (of q).k = 14 := hk
   rw [gf] at hk
   cases q <;> simp only [reduceCtorEq, Int.reduceEq] at hk
   exact ⟨_, rfl, eT rfl⟩
 | _ => exact absurd h.k (by simp only [of, T.k]; omega)
theorem Bu {m : Tm} (h : ¬ Rx (of m)) : (mnT (of m).k = -1 ∧ hdM m = none) ∨ ∃ (i : Nat) (q : Tm), mnT (of m).k = i ∧ i < (of m).kids.length ∧ kd (of m) i = of q ∧ (of q).size < (of m).size ∧ (hdM q = none → hdM m = none) ∧
   ∀ v, hdM q = some v → ∃ u, hdM m = some u ∧ of u = .mk (of m).k (of m).n ((of m).kids.set i (of v)) := by
 cases m with
 | app f a =>
  refine .inr ⟨0, f, rfl, by simp [of, T.kids], rfl, by simp only [of, T.size, T.aA]; omega, ?_⟩
  cases f <;> first
   | (exact absurd (Rx.app rfl rfl) h)
   | (refine ⟨fun e => ?_, fun v e => ⟨.app v a, ?_, rfl⟩⟩ <;> (first | (simp only [hdM] at e ⊢ <;> first | (rw [e]; rfl) | rfl | cases e) | (cases e)))
 | elim p z s n =>
  refine .inr ⟨3, n, rfl, by simp [of, T.kids], rfl, by simp only [of, T.size, T.aA]; omega, ?_⟩
  cases n <;> first
   | (exact absurd (Rx.zero rfl rfl) h)
   | (exact absurd (Rx.succ rfl rfl) h)
   | (refine ⟨fun e => ?_, fun v e => ⟨.elim p z s v, ?_, rfl⟩⟩ <;> (first | (simp only [hdM] at e ⊢ <;> first | (rw [e]; rfl) | rfl | cases e) | (cases e)))
 | move p e x =>
  refine .inr ⟨1, e, rfl, by simp [of, T.kids], rfl, by simp only [of, T.size, T.aA]; omega, ?_⟩
  cases e <;> first
   | (exact absurd (Rx.move rfl rfl) h)
   | (refine ⟨fun e => ?_, fun v e => ⟨.move p v x, ?_, rfl⟩⟩ <;> (first | (simp only [hdM] at e ⊢ <;> first | (rw [e]; rfl) | rfl | cases e) | (cases e)))
 | fst q =>
  refine .inr ⟨0, q, rfl, by simp [of, T.kids], rfl, by simp only [of, T.size, T.aA]; omega, ?_⟩
  cases q <;> first
   | (exact absurd (Rx.fst rfl rfl) h)
   | (refine ⟨fun e => ?_, fun v e => ⟨.fst v, ?_, rfl⟩⟩ <;> (first | (simp only [hdM] at e ⊢ <;> first | (rw [e]; rfl) | rfl | cases e) | (cases e)))
 | snd q =>
  refine .inr ⟨0, q, rfl, by simp [of, T.kids], rfl, by simp only [of, T.size, T.aA]; omega, ?_⟩
  cases q <;> first
   | (exact absurd (Rx.snd rfl rfl) h)
   | (refine ⟨fun e => ?_, fun v e => ⟨.snd v, ?_, rfl⟩⟩ <;> (first | (simp only [hdM] at e ⊢ <;> first | (rw [e]; rfl) | rfl | cases e) | (cases e)))
 | _ => exact .inl ⟨rfl, rfl⟩
theorem D2 : ∀ (ts : List T) (i : Nat) (v : T), i < ts.length → T.aA (ts.set i v) ≤ T.aA ts + v.size
 | [], i, v, h => by simp at h
 | t :: ts, 0, v, h => by simp only [List.set_cons_zero, T.aA]; omega
 | t :: ts, i + 1, v, h => by
  have := D2 ts i v (by simpa using h)
  simp only [List.set_cons_succ, T.aA]; omega
theorem BJ (B : Nat) (hB : B = 160000) (z : Nat) : ∀ {m u : Tm}, (of m).size ≤ z → vdM m = true → hdM m = some u → (of u).size ≤ B + z * 400 := by
 induction z with
 | zero => intro m u hz; exact absurd (size_pos (of m)) (by exact Nat.not_le_of_lt (Nat.lt_succ_of_le hz))
 | succ z ih =>
  intro m u hz hv e
  rw [Nat.add_mul]
  by_cases hr : Rx (of m)
  ·obtain ⟨w, e1, e2⟩ := BL hr
   rw [e] at e1; cases e1
   have := iT hv hr
   rw [e2, ← hB] at this
   exact Nat.le_trans this (Nat.le_add_right _ _)
  ·rcases Bu hr with ⟨e1, e2⟩ | ⟨i, q, e1, hi, e2, hq, e3, e4⟩
   ·rw [e] at e2; cases e2
   ·have vq : vdM q = true := by
      unfold vdM; rw [← e2]; exact bG hv (jh hi)
    cases hh : hdM q with
    | none => rw [e3 hh] at e; cases e
    | some v =>
     obtain ⟨w, e5, e6⟩ := e4 v hh
     rw [e] at e5; cases e5
     have h1 := ih (m := q) (by omega) vq hh
     have h2 := D2 (of m).kids i (of v) hi
     have h3 := T.size_eq (of m)
     have h4 := ae hv
     rw [e6, T.size]; omega
theorem CH {n : Nat} (hn : 1 ≤ n) (k : Int) : FF n 148 [nt k] [] = some ([nt (mnT k)], []) := by
 obtain ⟨n, rfl⟩ := af (show 0 < n by omega)
 rw [rK]
 unfold mnT
 by_cases h1 : k = 5 <;> by_cases h2 : k = 15 <;> by_cases h3 : k = 16 <;> by_cases h4 : k = 12 <;> by_cases h5 : k = 9 <;> simp [h1, h2, h3, h4, h5] <;> omega
theorem lG : ∀ (z : Nat) (m : Tm), (of m).size ≤ z → ∀ {n : Nat}, 3000500 + z ≤ n → vdM m = true →
   ∃ x b, FF n 144 [tm (of m)] [] = some ([tm x, bl b], []) ∧ x.size ≤ 320000 ∧ (match hdM m with | some u => b = true ∧ x = of u | none => b = false)
 | 0, m, hz, n, hn, hv => by have := size_pos (of m); omega
 | z + 1, m, hz, n, hn, hv => by
  obtain ⟨n, rfl⟩ := af (show 0 < n by omega)
  have hs := ae hv
  rw [kY, ki (n := n) (by omega) hv]
  simp only [evt]
  by_cases hr : Rx (of m)
  ·obtain ⟨u, e1, e2⟩ := BL hr
   have := (mW (of m)).2 hr
   have hc := iT hv hr
   rw [decide_eq_false this, ia (n := n) (by omega) hv hr]
   simp only [evt]
   refine ⟨_, _, rfl, by omega, ?_⟩
   rw [e1]; exact ⟨rfl, e2⟩
  ·have : bz (of m) = 0 := Classical.byContradiction fun h => hr ((mW (of m)).1 h)
   rw [this, CH (n := n) (by omega)]
   simp only [evt]
   rcases Bu hr with ⟨e1, e2⟩ | ⟨i, q, e1, hi, e2, hq, e3, e4⟩
   ·rw [e1]
    refine ⟨of m, false, rfl, by omega, ?_⟩
    rw [e2]
   ·have vq : vdM q = true := by
      unfold vdM; rw [← e2]; exact bG hv (jh hi)
    have ek : (of m).kids[(i : Int).toNat]? = some (of q) := by
     rw [Int.toNat_natCast, ch hi, e2]
    obtain ⟨x, b, h1, h2, h3⟩ := lG z q (by omega) (n := n) (by omega) vq
    rw [e1, decide_eq_false (show ¬ (i : Int) < 0 by omega), decide_eq_true (show 0 ≤ (i : Int) by omega), ek]
    simp only [evt]
    rw [h1]
    simp only [evt]
    cases hh : hdM q with
    | none =>
     rw [hh] at h3
     have h3 : b = false := h3
     subst h3
     refine ⟨of m, false, rfl, by omega, ?_⟩
     rw [e3 hh]
    | some v =>
     rw [hh] at h3
     obtain ⟨rfl, rfl⟩ := h3
     obtain ⟨u, e5, e6⟩ := e4 v hh
     have hw := qH (n := n) (t := of m) (u := of v) (j := i) (by omega) (by omega)
     simp only [Bool.not_true, cond_false]
     rw [hw]
     simp only [evt]
     refine ⟨.mk (of m).k (of m).n ((of m).kids.set i (of v)), true, rfl, ?_, ?_⟩
     ·rw [← e6]
      have := BJ _ rfl 400 (m := m) (by omega) hv e5
      omega
     ·rw [e5]; exact ⟨rfl, e6.symm⟩
theorem Cl {m u : Tm} (hv : vdM m = true) (e : hdM m = some u) : (of u).size ≤ 320000 := by
 have := BJ _ rfl 400 (m := m) (ae hv) hv e
 omega
theorem tP (n : Nat) (hn : 4000000 ≤ n) (k0 n0 : Int) (l0 : List T) : ∀ g c (m : Tm), g < c → g ≤ 200 → vdM m = true →
   ∃ x e, b4 n c (g : Int) (of m).k (of m).n (of m).kids k0 n0 l0 = some ([tm x, nt e], []) ∧ (match hrM g m with | some h => e = 0 ∧ x = of h | none => e ≠ 0)
 | g, 0, m, hg, _, _ => by omega
 | g, c + 1, m, hg, hf, hv => by
  have hz := ae hv
  obtain ⟨x, b, h1, h2, h3⟩ := lG 400 m hz (n := n) (by omega) hv
  have hc := fk (of m) (n := n) (by omega) (by omega)
  rw [iD, h1]
  simp only [evt]
  cases hh : hdM m with
  | none =>
   rw [hh] at h3
   have h3 : b = false := h3
   subst h3
   have e1 : hrM g m = some m := by cases g <;> simp only [hrM, hh]
   rw [e1, hc]
   exact ⟨of m, 0, rfl, rfl, rfl⟩
  | some u =>
   rw [hh] at h3
   obtain ⟨rfl, rfl⟩ := h3
   have hu := Cl hv hh
   simp only [Bool.not_true, cond_false]
   cases g with
   | zero =>
    refine ⟨.mk 0 0 [], 1, rfl, ?_⟩
    simp only [hrM, hh]; decide
   | succ g =>
    rw [decide_eq_false (show ¬ ((g + 1 : Nat) : Int) < 1 by omega), bk (n := n) (t := of u) (by omega) (by omega)]
    simp only [evt, hrM, hh]
    cases hvu : vdM u with
    | false =>
     have : ah (of u) = false := hvu
     rw [this]
     refine ⟨.mk 0 0 [], 2, rfl, ?_⟩
     simp
    | true =>
     have e2 : ah (of u) = true := hvu
     have w : IntKind.i64.wrap (((g + 1 : Nat) : Int) - 1) = (g : Int) := by rw [wrap64 (by omega)]; omega
     rw [e2, w]
     simp only [Bool.not_true, cond_false, if_true]
     exact tP n hn k0 n0 l0 g c u (by omega) (by omega) hvu
theorem j0 : (T.mk 0 0 []).size ≤ 1000000 := by decide
def RS (o : OR) (r : Tm.Rs) : Prop := ∃ x c, o = some ([tm x, nt c], []) ∧ x.size ≤ 1000000 ∧ (match r with | .ok t => c = 0 ∧ x = of t | .bad => c = 1 | .opn => c = 2)
theorem mK {n : Nat} {m : Tm} (hn : 5000000 ≤ n) (hz : (of m).size ≤ 1000000) : RS (FF n 112 [tm (of m)] []) (O.hn m) := by
 obtain ⟨n, rfl⟩ := af (show 0 < n by omega)
 rw [rX, bk (n := n) (by omega) (by omega)]
 simp only [evt, O]
 cases hv : vdM m with
 | false =>
  have : ah (of m) = false := hv
  rw [this]
  exact ⟨.mk 0 0 [], 2, rfl, j0, rfl⟩
 | true =>
  have e : ah (of m) = true := hv
  rw [e]
  simp only [Bool.not_true, cond_false, if_true]
  obtain ⟨n, rfl⟩ := af (show 0 < n by omega)
  rw [rB]
  obtain ⟨x, c, h1, h2⟩ := tP n (by omega) 0 0 [] 200 n m (by omega) (by omega) hv
  have h1 : b4 n n 200 (of m).k (of m).n (of m).kids 0 0 [] = some ([tm x, nt c], []) := h1
  rw [h1]
  simp only [evt]
  cases hr : hrM 200 m with
  | none =>
   rw [hr] at h2
   rw [decide_eq_false h2]
   exact ⟨.mk 0 0 [], 2, rfl, j0, rfl⟩
  | some h =>
   rw [hr] at h2
   obtain ⟨rfl, rfl⟩ := h2
   have := ae (Bm hr hv).2.2
   exact ⟨of h, 0, rfl, by omega, rfl, rfl⟩
theorem ri {n : Nat} (hn : 4000000 ≤ n) {t : T} (hv : ah t = true) {w : List Nat} (ho : zd t w) (hr : Rx (atT t w)) (hwl : w.length ≤ t.size) {u : T} (hu : puT t w (ax (atT t w)) = u) :
   FF n 121 [tm t, .one (.fr (.is (ins w)))] [] = some ([tm (okT u), bl (ah u)], []) := by
 subst hu
 have hz := ae hv
 have va := mr ho hv
 have hcz := iT va hr
 obtain ⟨n, rfl⟩ := af (show 0 < n by omega)
 rw [gl]
 simp only [evt, HU (n := n) (by omega) (by omega) ho, pB (n := n) (by omega) va hr]
 cases hc : ah (ax (atT t w)) with
 | false =>
  have : ah (puT t w (ax (atT t w))) = false := by
   cases hp : ah (puT t w (ax (atT t w))) with
   | false => rfl
   | true => rw [n3 ho hp] at hc; cases hc
  simp only [Bool.not_false, cond_true, this, Bp this]; rfl
 | true =>
  have hp := ml (u := ax (atT t w)) ho
  have hov := cX (n := n) (t := puT t w (ax (atT t w))) (by omega) (by omega)
  simp only [Bool.not_true, cond_false, j7 hc, Ef (ax (atT t w)) w (n := n) (by omega) (by omega) (by omega) ho, evt, hov]
theorem Bn {m : Tm} : (of m).k = 5 ∨ (of m).k = 15 ∨ (of m).k = 16 ∨ (of m).k = 9 ∨ (of m).k = 12 ∨ mnT (of m).k = -1 := by
 unfold mnT
 by_cases h1 : (of m).k = 5
 ·exact .inl h1
 by_cases h2 : (of m).k = 15
 ·exact .inr (.inl h2)
 by_cases h3 : (of m).k = 16
 ·exact .inr (.inr (.inl h3))
 by_cases h4 : (of m).k = 9
 ·exact .inr (.inr (.inr (.inl h4)))
 by_cases h5 : (of m).k = 12
 ·exact .inr (.inr (.inr (.inr (.inl h5))))
 ·rw [if_neg (by omega), if_neg h5, if_neg h4]; exact .inr (.inr (.inr (.inr (.inr rfl))))
theorem DK : ∀ (z : Nat) (m : Tm), (of m).size ≤ z → ∀ {n : Nat}, 500 + z ≤ n → vdM m = true →
   ∃ w b, FF n 100 [tm (of m)] [] = some ([.one (.fr (.is (ins w))), bl b], []) ∧ w.length ≤ (of m).size ∧ (match hdM m with | some u => b = true ∧ zd (of m) w ∧ Rx (atT (of m) w) ∧ puT (of m) w (ax (atT (of m) w)) = of u | none => b = false)
 | 0, m, hz, n, hn, hv => by have := size_pos (of m); omega
 | z + 1, m, hz, n, hn, hv => by
  obtain ⟨n, rfl⟩ := af (show 0 < n by omega)
  have hs := ae hv
  rw [wx, vW (n := n) (by omega) hv]
  simp only [evt]
  by_cases hr : Rx (of m)
  ·obtain ⟨u, e1, e2⟩ := BL hr
   have := (mW (of m)).2 hr
   rw [decide_eq_false this]
   refine ⟨[], true, rfl, by simp, ?_⟩
   rw [e1]; exact ⟨rfl, trivial, hr, e2⟩
  ·have : bz (of m) = 0 := Classical.byContradiction fun h => hr ((mW (of m)).1 h)
   rw [this]
   simp only [evt]
   rcases Bu hr with ⟨e1, e2⟩ | ⟨i, q, e1, hi, e2, hq, e3, e4⟩
   ·have hk : (of m).k ≠ 5 ∧ (of m).k ≠ 15 ∧ (of m).k ≠ 16 ∧ (of m).k ≠ 9 ∧ (of m).k ≠ 12 := by
      refine ⟨?_, ?_, ?_, ?_, ?_⟩ <;> intro hk <;> rw [hk] at e1 <;> exact absurd e1 (by decide)
    rw [decide_eq_false hk.1, decide_eq_false hk.2.1, decide_eq_false hk.2.2.1, decide_eq_false hk.2.2.2.1, decide_eq_false hk.2.2.2.2]
    refine ⟨[], false, rfl, by simp, ?_⟩
    rw [e2]
   ·have vq : vdM q = true := by
      unfold vdM; rw [← e2]; exact bG hv (jh hi)
    have ek : (of m).kids[i]? = some (of q) := by rw [ch hi, e2]
    obtain ⟨w, b, h1, hw, h3⟩ := DK z q (by omega) (n := n) (by omega) vq
    have wl : b8 ([(i : Int)] ++ ins w).length = true := aK (by simp [ins]; omega)
    have go : ∃ w' b', some ([.one (.fr (.is ([(i : Int)] ++ ins w))), bl b], []) = (some ([.one (.fr (.is (ins w'))), bl b'], []) : OR) ∧ w'.length ≤ (of m).size ∧ (match hdM m with | some u => b' = true ∧ zd (of m) w' ∧ Rx (atT (of m) w') ∧ puT (of m) w' (ax (atT (of m) w')) = of u | none => b' = false) := by
     refine ⟨i :: w, b, rfl, by simp only [List.length_cons]; omega, ?_⟩
     cases hh : hdM q with
     | none =>
      rw [hh] at h3
      rw [e3 hh]; exact h3
     | some v =>
      rw [hh] at h3
      obtain ⟨u, e5, e6⟩ := e4 v hh
      rw [e5]
      obtain ⟨g1, g2, g3, g4⟩ := h3
      refine ⟨g1, ⟨hi, by rw [e2]; exact g2⟩, by show Rx (atT (kd (of m) i) w); rw [e2]; exact g3, ?_⟩
      show T.mk (of m).k (of m).n ((of m).kids.set i (puT (kd (of m) i) w (ax (atT (kd (of m) i) w)))) = of u
      rw [e2, g4, e6]
    rcases Bn (m := m) with hk | hk | hk | hk | hk | hk
    ·rw [hk] at e1 ⊢
     obtain rfl : i = 0 := by have : (0 : Int) = i := e1; omega
     simp only [decide_true, cond_true, show (0 : Int).toNat = 0 from rfl, ek, evt, h1]
     rw [show ([0] ++ ins w : List Int) = [((0 : Nat) : Int)] ++ ins w from rfl, wl]
     exact go
    ·rw [hk] at e1 ⊢
     obtain rfl : i = 0 := by have : (0 : Int) = i := e1; omega
     simp only [show decide ((15 : Int) = 5) = false from rfl, cond_false, decide_true, cond_true, show (0 : Int).toNat = 0 from rfl, ek, evt, h1]
     rw [show ([0] ++ ins w : List Int) = [((0 : Nat) : Int)] ++ ins w from rfl, wl]
     exact go
    ·rw [hk] at e1 ⊢
     obtain rfl : i = 0 := by have : (0 : Int) = i := e1; omega
     simp only [show decide ((16 : Int) = 5) = false from rfl, show decide ((16 : Int) = 15) = false from rfl, cond_false, decide_true, cond_true, show (0 : Int).toNat = 0 from rfl, ek, evt, h1]
     rw [show ([0] ++ ins w : List Int) = [((0 : Nat) : Int)] ++ ins w from rfl, wl]
     exact go
    ·rw [hk] at e1 ⊢
     obtain rfl : i = 3 := by have : (3 : Int) = i := e1; omega
     simp only [show decide ((9 : Int) = 5) = false from rfl, show decide ((9 : Int) = 15) = false from rfl, show decide ((9 : Int) = 16) = false from rfl, cond_false, decide_true, cond_true, show (3 : Int).toNat = 3 from rfl, ek, evt, h1]
     rw [show ([3] ++ ins w : List Int) = [((3 : Nat) : Int)] ++ ins w from rfl, wl]
     exact go
    ·rw [hk] at e1 ⊢
     obtain rfl : i = 1 := by have : (1 : Int) = i := e1; omega
     simp only [show decide ((12 : Int) = 5) = false from rfl, show decide ((12 : Int) = 15) = false from rfl, show decide ((12 : Int) = 16) = false from rfl, show decide ((12 : Int) = 9) = false from rfl, cond_false, decide_true, cond_true, show (1 : Int).toNat = 1 from rfl, ek, evt, h1]
     rw [show ([1] ++ ins w : List Int) = [((1 : Nat) : Int)] ++ ins w from rfl, wl]
     exact go
    ·rw [hk] at e1; omega
theorem uy (n : Nat) (hn : 5000000 ≤ n) (fuel : Nat) (hf : fuel ≤ 200) (k0 n0 : Int) (l0 : List T) : ∀ g c (s : Nat) (m : Tm), g < c → s + g = fuel → vdM m = true →
   ∃ x k e, a6 n c (fuel : Int) s (of m).k (of m).n (of m).kids k0 n0 l0 = some ([tm x, nt k, nt e], []) ∧ (match hrM g m with | some h => e = 0 ∧ x = of h | none => e ≠ 0)
 | g, 0, s, m, hg, _, _ => by omega
 | g, c + 1, s, m, hg, hs, hv => by
  have hz := ae hv
  obtain ⟨w, b, h1, hw, h3⟩ := DK 400 m hz (n := n) (by omega) hv
  rw [eD, h1]
  simp only [evs]
  cases hh : hdM m with
  | none =>
   rw [hh] at h3
   have h3 : b = false := h3
   subst h3
   have e1 : hrM g m = some m := by cases g <;> simp only [hrM, hh]
   rw [e1]
   simp only [Bool.not_false, cond_true, AA (of m) (n := n) (by omega) (by omega), evt]
   exact ⟨of m, s, 0, rfl, rfl, rfl⟩
  | some u =>
   rw [hh] at h3
   obtain ⟨rfl, ho, hr, hp⟩ := h3
   simp only [Bool.not_true, cond_false]
   cases g with
   | zero =>
    rw [decide_eq_true (show (s : Int) = fuel by omega)]
    refine ⟨.mk 0 0 [], s, 1, rfl, ?_⟩
    simp only [hrM, hh]; decide
   | succ g =>
    rw [decide_eq_false (show ¬ (s : Int) = fuel by omega), ri (n := n) (by omega) hv ho hr hw hp]
    simp only [evt, hrM, hh]
    cases hvu : vdM u with
    | false =>
     have : ah (of u) = false := hvu
     rw [this]
     refine ⟨.mk 0 0 [], s, 2, rfl, ?_⟩
     simp
    | true =>
     have e2 : ah (of u) = true := hvu
     simp (disch := omega) only [e2, j7 e2, Bool.not_true, cond_false, if_true, wrap64, fC]
     exact uy n hn fuel hf k0 n0 l0 g c (s + 1) u (by omega) (by omega) hvu
theorem uw {n : Nat} {m : Tm} (hn : 6000000 ≤ n) (hz : (of m).size ≤ 400) : ∃ x e, FF n 76 [tm (of m), nt 200] [] = some ([tm x, nt e], []) ∧ (match O.hn m with | .ok h => e = 0 ∧ x = of h | _ => e ≠ 0) := by
 obtain ⟨n, rfl⟩ := af (show 0 < n by omega)
 obtain ⟨n, rfl⟩ := af (show 0 < n by omega)
 rw [lp, gB, bB (n := n) (by omega)]
 simp only [evt, O]
 cases hv : vdM m with
 | false =>
  have : ah (of m) = false := hv
  rw [this]
  exact ⟨.mk 0 0 [], 3, rfl, by show (3 : Int) ≠ 0; decide⟩
 | true =>
  have e : ah (of m) = true := hv
  rw [e, gJ (n := n) (by omega)]
  simp only [evt, show (decide ((0 : Int) ≤ 200) && decide ((200 : Int) ≤ 200)) = true from rfl, if_true]
  obtain ⟨x, k, c, h1, h2⟩ := uy n (by omega) 200 (by omega) 0 0 [] 200 n 0 m (by omega) (by omega) hv
  have h1 : a6 n n 200 0 (of m).k (of m).n (of m).kids 0 0 [] = some ([tm x, nt k, nt c], []) := h1
  rw [h1]
  simp only [evt]
  cases hr : hrM 200 m with
  | none => rw [hr] at h2; exact ⟨x, c, rfl, h2⟩
  | some h => rw [hr] at h2; exact ⟨x, c, rfl, h2⟩
end Go.Proofs.Ytajlknlnmmbfcaa
end
section
namespace Go.Proofs.Ytajlknlnmmbfcaa
open Go Go.Ab Go.Dk
open Tm (Rs sq frm lvl chk fam bnd)
def cx (G : List Tm) : List T := (G.map of).reverse
theorem c8 (G : List Tm) : (cx G).length = G.length := by simp [cx]
theorem AH (G : List Tm) (a : Tm) : cx (a :: G) = cx G ++ [of a] := by simp [cx]
theorem DI : ∀ (G : List Tm) {n : Nat}, n < G.length → (cx G)[G.length - 1 - n]? = (G[n]?).map of := by
 intro G n h
 unfold cx
 rw [List.getElem?_reverse (by simp; omega), List.length_map, List.getElem?_map]
 congr 2; omega
theorem mm : ∀ {G : List Tm} {n : Nat} {A : Tm}, Tm.look G n = some A → ∃ B, G[n]? = some B ∧ A = B.ren (· + (n + 1))
 | B :: G, 0, A, h => by
  simp only [Tm.look, Option.some.injEq] at h; subst h
  exact ⟨B, rfl, rfl⟩
 | _ :: G, n + 1, A, h => by
  obtain ⟨C, hC, rfl⟩ := Option.map_eq_some_iff.1 h
  obtain ⟨B, h1, rfl⟩ := mm hC
  refine ⟨B, h1, ?_⟩
  rw [Tm.wk, Tm.fy]; rfl
theorem nJ : ∀ {G : List Tm} {n : Nat}, Tm.look G n = none → G.length ≤ n
 | [], n, h => by simp
 | B :: G, 0, h => by cases h
 | _ :: G, n + 1, h => by
  have : Tm.look G n = none := by
   cases hl : Tm.look G n with
   | none => rfl
   | some A => simp [Tm.look, hl] at h
  have := nJ this
  simp only [List.length_cons]; omega
theorem z7 {G : List Tm} {n : Nat} {A : Tm} (h : Tm.look G n = some A) : n < G.length := by
 obtain ⟨B, h, _⟩ := mm h
 exact (List.getElem?_eq_some_iff.1 h).1
def Er (c : Int) (r : Rs) : Prop := (c = 1 ∧ r = .bad) ∨ (c = 2 ∧ r = .opn)
theorem Er.ne {c : Int} {r : Rs} (h : Er c r) : c ≠ 0 := by rcases h with ⟨h, _⟩ | ⟨h, _⟩ <;> omega
theorem Er.bad : Er 1 .bad := .inl ⟨rfl, rfl⟩
theorem Er.opn : Er 2 .opn := .inr ⟨rfl, rfl⟩
def RL (o : OR) (r : Rs) : Prop := ∃ i c, o = some ([nt i, nt c], []) ∧ (match r with | .ok t => c = 0 ∧ ∃ k : Nat, t = .sort k ∧ i = k | .bad => c = 1 | .opn => c = 2)
def RC (o : OR) (r : Rs) : Prop := ∃ c, o = some ([nt c], []) ∧ (match r with | .ok t => c = 0 | .bad => c = 1 | .opn => c = 2)
def RK (o : OR) (r : Rs) : Prop := ∃ x c, o = some ([tm x, nt c], []) ∧ x.size ≤ 2000000 ∧ (match r with | .ok t => c = 0 ∧ x = of t | .bad => c = 1 | .opn => c = 2)
theorem bP {c : Int} {r : Rs} (h : Er c r) (y : T) (hy : y.size ≤ 2000000) : RK (some ([tm y, nt c], [])) r := by
 refine ⟨y, c, rfl, hy, ?_⟩
 rcases h with ⟨h, rfl⟩ | ⟨h, rfl⟩ <;> exact h
theorem nc {c : Int} {r : Rs} (h : Er c r) (y : T) (hy : y.size ≤ 1000000) : RS (some ([tm y, nt c], [])) r := by
 refine ⟨y, c, rfl, hy, ?_⟩
 rcases h with ⟨h, rfl⟩ | ⟨h, rfl⟩ <;> exact h
theorem sI {c : Int} {r : Rs} (h : Er c r) : RC (some ([nt c], [])) r := by
 refine ⟨c, rfl, ?_⟩
 rcases h with ⟨h, rfl⟩ | ⟨h, rfl⟩ <;> exact h
theorem Dp {c : Int} {r : Rs} (h : Er c r) (i : Int) : RL (some ([nt i, nt c], [])) r := by
 refine ⟨i, c, rfl, ?_⟩
 rcases h with ⟨h, rfl⟩ | ⟨h, rfl⟩ <;> exact h
theorem j1 : (T.mk 0 0 []).size ≤ 2000000 := by decide
theorem kX {x : Option Rs} {o : OR} {k : Tm → Option Rs} {r : Rs} (h : ∀ r, x = some r → RS o r) (e : sq x k = some r) : (∃ t, x = some (.ok t) ∧ o = some ([tm (of t), nt 0], []) ∧ k t = some r) ∨ ∃ y c, o = some ([tm y, nt c], []) ∧ Er c r := by
 cases x with
 | none => cases e
 | some s =>
  obtain ⟨y, c, h1, hy, h2⟩ := h s rfl
  cases s with
  | ok t => obtain ⟨rfl, rfl⟩ := h2; exact .inl ⟨t, rfl, h1, e⟩
  | bad => cases e; exact .inr ⟨y, c, h1, .inl ⟨h2, rfl⟩⟩
  | opn => cases e; exact .inr ⟨y, c, h1, .inr ⟨h2, rfl⟩⟩
theorem Ge {x : Option Rs} {o : OR} {k : Tm → Option Rs} {r : Rs} (h : ∀ r, x = some r → RS o r) (e : sq x k = some r) : (∃ t, x = some (.ok t) ∧ o = some ([tm (of t), nt 0], []) ∧ k t = some r) ∨ ∃ y c, o = some ([tm y, nt c], []) ∧ y.size ≤ 1000000 ∧ Er c r := by
 cases x with
 | none => cases e
 | some s =>
  obtain ⟨y, c, h1, hy, h2⟩ := h s rfl
  cases s with
  | ok t => obtain ⟨rfl, rfl⟩ := h2; exact .inl ⟨t, rfl, h1, e⟩
  | bad => cases e; exact .inr ⟨y, c, h1, hy, .inl ⟨h2, rfl⟩⟩
  | opn => cases e; exact .inr ⟨y, c, h1, hy, .inr ⟨h2, rfl⟩⟩
theorem y7 {x : Option Rs} {o : OR} {k : Tm → Option Rs} {r : Rs} (h : ∀ r, x = some r → RL o r) (e : sq x k = some r) : (∃ i : Nat, x = some (.ok (.sort i)) ∧ o = some ([nt i, nt 0], []) ∧ k (.sort i) = some r) ∨ ∃ i c, o = some ([nt i, nt c], []) ∧ Er c r := by
 cases x with
 | none => cases e
 | some s =>
  obtain ⟨y, c, h1, h2⟩ := h s rfl
  cases s with
  | ok t => obtain ⟨rfl, k, rfl, rfl⟩ := h2; exact .inl ⟨k, rfl, h1, e⟩
  | bad => cases e; exact .inr ⟨y, c, h1, .inl ⟨h2, rfl⟩⟩
  | opn => cases e; exact .inr ⟨y, c, h1, .inr ⟨h2, rfl⟩⟩
theorem ko {x : Option Rs} {o : OR} {k : Tm → Option Rs} {r : Rs} (h : ∀ r, x = some r → RC o r) (e : sq x k = some r) : (∃ t, x = some (.ok t) ∧ o = some ([nt 0], []) ∧ k t = some r) ∨ ∃ c, o = some ([nt c], []) ∧ Er c r := by
 cases x with
 | none => cases e
 | some s =>
  obtain ⟨c, h1, h2⟩ := h s rfl
  cases s with
  | ok t => have h2 : c = 0 := h2; subst h2; exact .inl ⟨t, rfl, h1, e⟩
  | bad => cases e; exact .inr ⟨c, h1, .inl ⟨h2, rfl⟩⟩
  | opn => cases e; exact .inr ⟨c, h1, .inr ⟨h2, rfl⟩⟩
theorem yJ {o : OR} {P : OR → Rs → Prop} {s : Rs} (h : P o s) : ∀ r, some s = some r → P o r := fun r e => by cases e; exact h
def Iv (f : FuncId) (M : Nat) (c : List T) (t : T) (x : Option Rs) : Prop := ∀ m, M ≤ m → ∀ r, x = some r → RS (FF m f [tms c, tm t] []) r
theorem wR {n : Nat} {a b : Tm} (hn : 6000500 ≤ n) (ha : (of a).size ≤ 1000000) (hb : (of b).size ≤ 1000000) : RC (FF n 145 [tm (of a), tm (of b)] []) (O.sm a b) := by
 obtain ⟨n, rfl⟩ := af (show 0 < n by omega)
 rw [qm, bk (n := n) (t := of a) (by omega) (by omega)]
 simp only [evt, O]
 cases va : vdM a with
 | false =>
  have : ah (of a) = false := va
  rw [this]; exact ⟨2, rfl, rfl⟩
 | true =>
  have ea : ah (of a) = true := va
  rw [ea, bk (n := n) (t := of b) (by omega) (by omega)]
  simp only [evt]
  cases vb : vdM b with
  | false =>
   have : ah (of b) = false := vb
   rw [this]; exact ⟨2, rfl, rfl⟩
  | true =>
   have eb : ah (of b) = true := vb
   have hc := Co (n := n) (a := of a) (b := of b) (g := 200) (by omega) ea eb (by omega)
   have hc : FF n 149 [tm (of a), tm (of b), nt 200] [] = some ([nt (gH (of a) (of b) 200)], []) := hc
   rw [eb]
   simp only [Bool.not_true, cond_false]
   rw [hc]
   simp only [evt, and_self, if_true, au]
   by_cases h1 : gH (of a) (of b) 200 = 1
   ·rw [if_pos h1, if_pos h1]; exact ⟨0, rfl, rfl⟩
   ·rw [if_neg h1, if_neg h1]
    by_cases h2 : gH (of a) (of b) 200 = 2
    ·rw [if_pos h2, if_pos h2]; exact ⟨1, rfl, rfl⟩
    ·rw [if_neg h2, if_neg h2]; exact ⟨2, rfl, rfl⟩
section
variable {M n : Nat} {c : List T} {t : T} {x : Option Rs}
theorem iy (hM : 6000500 ≤ M) (hn : M + 1 ≤ n) (h : Iv 66 M c t x) (hv : ∀ s, x = some (.ok s) → vdM s = true) (k : Int) {g : Tm → Option Rs} {r : Rs} (e : sq (frm O x) g = some r) :
   (∃ f, FF n 131 [tms c, tm t, nt k] [] = some ([tm (of f), nt 0], []) ∧ (of f).k = k ∧ vdM f = true ∧ frm O x = some (.ok f) ∧ g f = some r) ∨ (∃ f, FF n 131 [tms c, tm t, nt k] [] = some ([tm (.mk 0 0 []), nt 1], []) ∧ (of f).k ≠ k ∧ g f = some r) ∨
    ∃ y c', FF n 131 [tms c, tm t, nt k] [] = some ([tm y, nt c'], []) ∧ Er c' r := by
 obtain ⟨n, rfl⟩ := af (show 0 < n by omega)
 unfold frm at e ⊢
 rw [Tm.mo] at e
 rw [oF]
 rcases kX (h n (by omega)) e with ⟨s, e1, eo, e2⟩ | ⟨y, c', eo, hc⟩
 ·rw [eo]
  simp only [evt]
  have hs := ae (hv s e1)
  rcases kX (yJ (P := RS) (mK (n := n) (m := s) (by omega) (by omega))) e2 with ⟨f, e3, eo, e4⟩ | ⟨y, c', eo, hc⟩
  ·rw [eo]
   simp only [evt]
   have vf := (bm.hn_ok (Option.some.inj e3)).2.2
   by_cases hk : (of f).k = k
   ·rw [decide_eq_true hk]
    refine .inl ⟨f, rfl, hk, vf, ?_, e4⟩
    rw [e1]; exact e3
   ·rw [decide_eq_false hk]
    exact .inr (.inl ⟨f, rfl, hk, e4⟩)
  ·rw [eo]
   simp only [evt]
   rw [decide_eq_false hc.ne]
   exact .inr (.inr ⟨.mk 0 0 [], c', rfl, hc⟩)
 ·rw [eo]
  simp only [evt]
  rw [decide_eq_false hc.ne]
  exact .inr (.inr ⟨.mk 0 0 [], c', rfl, hc⟩)
theorem gG (hM : 6000500 ≤ M) (hn : M + 1 ≤ n) (h : Iv 66 M c t x) (hv : ∀ s, x = some (.ok s) → vdM s = true) : ∀ r, lvl O x = some r → RL (FF n 96 [tms c, tm t] []) r := by
 intro r e
 obtain ⟨n, rfl⟩ := af (show 0 < n by omega)
 unfold lvl frm at e
 rw [Tm.mo] at e
 rw [rq]
 rcases kX (h n (by omega)) e with ⟨s, e1, eo, e2⟩ | ⟨y, c', eo, hc⟩
 ·rw [eo]
  simp only [evt]
  have hs := ae (hv s e1)
  rcases kX (yJ (P := RS) (mK (n := n) (m := s) (by omega) (by omega))) e2 with ⟨f, e3, eo, e4⟩ | ⟨y, c', eo, hc⟩
  ·rw [eo]
   simp only [evt]
   cases f with
   | sort i => cases e4; exact ⟨i, 0, rfl, rfl, i, rfl, rfl⟩
   | _ => cases e4; exact ⟨0, 1, rfl, rfl⟩
  ·rw [eo]
   simp only [evt]
   rw [decide_eq_false hc.ne]
   exact Dp hc 0
 ·rw [eo]
  simp only [evt]
  rw [decide_eq_false hc.ne]
  exact Dp hc 0
theorem dg (hM : 6000500 ≤ M) (hn : M + 1 ≤ n) (h : Iv 66 M c t x) (hv : ∀ s, x = some (.ok s) → vdM s = true) {w : Tm} (hw : (of w).size ≤ 1000000) : ∀ r, chk O x w = some r → RC (FF n 132 [tms c, tm t, tm (of w)] []) r := by
 intro r e
 obtain ⟨n, rfl⟩ := af (show 0 < n by omega)
 rw [oN]
 rcases kX (h n (by omega)) e with ⟨s, e1, eo, e2⟩ | ⟨y, c', eo, hc⟩
 ·rw [eo]
  simp only [evt]
  have hs := ae (hv s e1)
  cases e2
  obtain ⟨c', h1, h2⟩ := wR (n := n) (a := s) (b := w) (by omega) (by omega) hw
  rw [h1]
  exact ⟨c', rfl, h2⟩
 ·rw [eo]
  simp only [evt]
  rw [decide_eq_false hc.ne]
  exact sI hc
theorem py (hM : 6000500 ≤ M) (hn : M + 2 ≤ n) (h : Iv 66 M c t x) (hv : ∀ s, x = some (.ok s) → vdM s = true) {w : Tm} (hw : (of w).size ≤ 1000000) : ∀ r, fam O x w = some r → RC (FF n 134 [tms c, tm t, tm (of w)] []) r := by
 intro r e
 obtain ⟨n, rfl⟩ := af (show 0 < n by omega)
 rw [H9]
 rcases iy hM (n := n) (by omega) h hv 3 e with ⟨f, eo, hk, vf, ef, e2⟩ | ⟨f, eo, hk, e2⟩ | ⟨y, c', eo, hc⟩
 ·rw [eo]
  cases f <;> try (rw [gf] at hk; simp only [Int.reduceEq] at hk; done)
  rename_i C D
  have sz := ae vf
  simp only [of, T.size, T.aA] at sz
  simp only [evt, of, show (0 : Int).toNat = 0 from rfl, show (1 : Int).toNat = 1 from rfl, List.getElem?_cons_zero, List.getElem?_cons_succ]
  rcases ko (yJ (P := RC) (wR (n := n) (a := C) (b := w) (by omega) (by omega) hw)) e2 with ⟨t', e3, eo, e4⟩ | ⟨c', eo, hc⟩
  ·rw [eo]
   simp only [evt]
   rcases kX (yJ (P := RS) (mK (n := n) (m := D) (by omega) (by omega))) e4 with ⟨f, e5, eo, e6⟩ | ⟨y, c', eo, hc⟩
   ·rw [eo]
    simp only [evt]
    cases f with
    | sort i => cases e6; exact ⟨0, rfl, rfl⟩
    | _ => cases e6; exact ⟨1, rfl, rfl⟩
   ·rw [eo]
    simp only [evt]
    rw [decide_eq_false hc.ne]
    exact sI hc
  ·rw [eo]
   simp only [evt]
   rw [decide_eq_false hc.ne]
   exact sI hc
 ·rw [eo]
  simp only [evt]
  have : r = .bad := by
   cases f <;> first | (exact absurd (gf _) hk) | (cases e2; rfl)
  subst this
  exact sI .bad
 ·rw [eo]
  simp only [evt]
  rw [decide_eq_false hc.ne]
  exact sI hc
end
theorem yX {n : Nat} (hn : 1 ≤ n) (a b : Nat) : FF n 130 [nt a, nt b] [] = some ([nt ((max a b : Nat) : Int)], []) := by
 obtain ⟨n, rfl⟩ := af (show 0 < n by omega)
 rw [nS]
 by_cases h : (b : Int) < a
 ·rw [decide_eq_true h, Nat.max_eq_left (by omega)]; rfl
 ·rw [decide_eq_false h, Nat.max_eq_right (by omega)]; rfl
theorem xH {n : Nat} (hn : 1 ≤ n) (c : List T) (t : T) (hl : c.length ≤ 1000) : FF n 129 [tms c, tm t] [] = some ([tms (c ++ [t])], []) := by
 obtain ⟨n, rfl⟩ := af (show 0 < n by omega)
 rw [rl, aK (by simp; omega), aK (by simp; omega), T.eta]; rfl
theorem tf {m : Tm} (h : vdM m = true) : gdB (of m) = true := gD h
theorem BU {n : Nat} {b u : Tm} (hn : 5000 ≤ n) (hb : vdM b = true) (hu : vdM u = true) : FF n 133 [tm (of b), nt 0, tm (of u), nt 0] [] = some ([tm (of (b.inst u))], []) := by
 have h1 := ae hb
 have h2 := ae hu
 rw [sL (of u) (tf hu) (by omega) (of b) (by omega) (tf hb) 0 0 (by omega) (by omega) (by omega) (by omega), kP]
theorem gq {b u : Tm} (hb : vdM b = true) (hu : vdM u = true) : (of (b.inst u)).size ≤ 160000 := by
 have h1 := ae hb
 have h2 := ae hu
 rw [← kP]
 exact Nat.le_trans (qF (of u) (of b) 0 0) (Nat.mul_le_mul h1 h2)
theorem mD {n : Nat} {b : Tm} {a : Nat} (hn : 5000 ≤ n) (hb : vdM b = true) (ha : a ≤ 100) : FF n 46 [tm (of b), nt (a : Int), nt 0] [] = some ([tm (of (b.ren (· + a)))], []) := by
 have h1 := ae hb
 rw [sG (a : Int) (by omega) (of b) (by omega) (tf hb) 0 (by omega) (by omega)]
 have := B3 a b 0
 rw [kp] at this
 rw [← this]; rfl
theorem tc {p : Tm} (hp : vdM p = true) : (of (Tm.br p)).size ≤ 1000 := by
 have h1 := ae hp
 have e : ∀ t : Tm, (of t.wk).size = (of t).size := fun t => by rw [← FL, kE]
 simp only [Tm.br, of, T.size, T.aA, e]; omega
theorem sZ {n : Nat} {p : Tm} (hn : 6000 ≤ n) (hp : vdM p = true) : FF n 135 [tm (of p)] [] = some ([tm (of (Tm.br p))], []) := by
 obtain ⟨n, rfl⟩ := af (show 0 < n by omega)
 have s1 := mD (n := n) (a := 1) (by omega) hp (by omega)
 have s2 := mD (n := n) (a := 2) (by omega) hp (by omega)
 have s1 : FF n 46 [tm (of p), nt 1, nt 0] [] = some ([tm (of (p.ren (· + 1)))], []) := s1
 have s2 : FF n 46 [tm (of p), nt 2, nt 0] [] = some ([tm (of (p.ren (· + 2)))], []) := s2
 have e2 : p.wk.wk = p.ren (· + 2) := by rw [Tm.wk, Tm.wk, Tm.fy]
 rw [ll, s1, s2]
 simp (disch := first | omega | simp) only [evt, bo, bA, Tm.br, of, e2]
 rfl
theorem ot (a : T) (l : List T) : (a :: l)[(0 : Int).toNat]? = some a := rfl
theorem oM (a b : T) (l : List T) : (a :: b :: l)[(1 : Int).toNat]? = some b := rfl
theorem En (a b d : T) (l : List T) : (a :: b :: d :: l)[(2 : Int).toNat]? = some d := rfl
theorem H5 (a b d e : T) (l : List T) : (a :: b :: d :: e :: l)[(3 : Int).toNat]? = some e := rfl
end Go.Proofs.Ytajlknlnmmbfcaa
end
section
namespace Go.Proofs.Ytajlknlnmmbfcaa
open Go Go.Ab Go.Dk
open Tm (Rs sq frm lvl chk fam made ext inI kI)
abbrev hp (c : List T) (t : T) : List aq := [.cells [.fr (.ts c)], .cells [.int .i64 t.k, .int .i64 t.n, .fr (.ts t.kids)]]
abbrev jd (c : List T) (t : T) : V1 := .agg [.fr (.ts c), .int .i64 t.k, .int .i64 t.n, .fr (.ts t.kids), .fn 58 [0, 1]]
def RSh (h : List aq) (o : OR) (r : Rs) : Prop := ∃ x c, o = some ([tm x, nt c], h) ∧ (match r with | .ok t => c = 0 ∧ x = of t | .bad => c = 1 | .opn => c = 2)
def RLh (h : List aq) (o : OR) (r : Rs) : Prop := ∃ i c, o = some ([nt i, nt c], h) ∧ (match r with | .ok t => c = 0 ∧ ∃ k : Nat, t = .sort k ∧ i = k | .bad => c = 1 | .opn => c = 2)
def RCh (h : List aq) (o : OR) (r : Rs) : Prop := ∃ c, o = some ([nt c], h) ∧ (match r with | .ok t => c = 0 | .bad => c = 1 | .opn => c = 2)
section
variable {h : List aq} {c : Int} {r : Rs} {x : Option Rs} {o : OR} {k : Tm → Option Rs}
theorem aW (e : Er c r) (y : T) : RSh h (some ([tm y, nt c], h)) r := by
 refine ⟨y, c, rfl, ?_⟩
 rcases e with ⟨h, rfl⟩ | ⟨h, rfl⟩ <;> exact h
theorem rM (e : Er c r) : RCh h (some ([nt c], h)) r := by
 refine ⟨c, rfl, ?_⟩
 rcases e with ⟨h, rfl⟩ | ⟨h, rfl⟩ <;> exact h
theorem rA (e : Er c r) (i : Int) : RLh h (some ([nt i, nt c], h)) r := by
 refine ⟨i, c, rfl, ?_⟩
 rcases e with ⟨h, rfl⟩ | ⟨h, rfl⟩ <;> exact h
theorem pT (hh : ∀ r, x = some r → RSh h o r) (e : sq x k = some r) : (∃ t, x = some (.ok t) ∧ o = some ([tm (of t), nt 0], h) ∧ k t = some r) ∨ ∃ y c, o = some ([tm y, nt c], h) ∧ Er c r := by
 cases x with
 | none => cases e
 | some s =>
  obtain ⟨y, c, h1, h2⟩ := hh s rfl
  cases s with
  | ok t => obtain ⟨rfl, rfl⟩ := h2; exact .inl ⟨t, rfl, h1, e⟩
  | bad => cases e; exact .inr ⟨y, c, h1, .inl ⟨h2, rfl⟩⟩
  | opn => cases e; exact .inr ⟨y, c, h1, .inr ⟨h2, rfl⟩⟩
theorem p7 (hh : ∀ r, x = some r → RLh h o r) (e : sq x k = some r) : (∃ i : Nat, x = some (.ok (.sort i)) ∧ o = some ([nt i, nt 0], h) ∧ k (.sort i) = some r) ∨ ∃ i c, o = some ([nt i, nt c], h) ∧ Er c r := by
 cases x with
 | none => cases e
 | some s =>
  obtain ⟨y, c, h1, h2⟩ := hh s rfl
  cases s with
  | ok t => obtain ⟨rfl, k, rfl, rfl⟩ := h2; exact .inl ⟨k, rfl, h1, e⟩
  | bad => cases e; exact .inr ⟨y, c, h1, .inl ⟨h2, rfl⟩⟩
  | opn => cases e; exact .inr ⟨y, c, h1, .inr ⟨h2, rfl⟩⟩
theorem gN (hh : ∀ r, x = some r → RCh h o r) (e : sq x k = some r) : (∃ t, x = some (.ok t) ∧ o = some ([nt 0], h) ∧ k t = some r) ∨ ∃ c, o = some ([nt c], h) ∧ Er c r := by
 cases x with
 | none => cases e
 | some s =>
  obtain ⟨c, h1, h2⟩ := hh s rfl
  cases s with
  | ok t => have h2 : c = 0 := h2; subst h2; exact .inl ⟨t, rfl, h1, e⟩
  | bad => cases e; exact .inr ⟨c, h1, .inl ⟨h2, rfl⟩⟩
  | opn => cases e; exact .inr ⟨c, h1, .inr ⟨h2, rfl⟩⟩
end
theorem wC {n : Nat} (hn : 1 ≤ n) (i : Int) : FF n 81 [nt i] [] = some ([tm (.mk 2 i [])], []) := by
 obtain ⟨n, rfl⟩ := af (show 0 < n by omega)
 exact uV n i
theorem rS {n : Nat} (hn : 1 ≤ n) (k : Int) : FF n 50 [nt k, .one (.emp none)] [] = some ([tm (.mk k 0 [])], []) := by
 obtain ⟨n, rfl⟩ := af (show 0 < n by omega)
 exact n5 n k
theorem kN {n : Nat} {a b : Tm} (hn : 7000500 ≤ n) (ha : (of a).size ≤ 100000) (hb : (of b).size ≤ 100000) : RC (FF n 41 [tm (of a), tm (of b)] []) (O.sm a b) := by
 obtain ⟨n, rfl⟩ := af (show 0 < n by omega)
 rw [om, qU (n := n) (by omega) ha hb]
 simp only [evt, O, au]
 by_cases hv : vdM a = true ∧ vdM b = true
 ·have e : BV (of a) (of b) 200 = gH (of a) (of b) 200 := sf ⟨hv.1, hv.2, by decide, by decide⟩
  rw [e, if_pos hv]
  by_cases h1 : gH (of a) (of b) 200 = 1
  ·rw [if_pos h1, if_pos h1]; exact ⟨0, rfl, rfl⟩
  ·rw [if_neg h1, if_neg h1]
   by_cases h2 : gH (of a) (of b) 200 = 2
   ·rw [if_pos h2, if_pos h2]; exact ⟨1, rfl, rfl⟩
   ·rw [if_neg h2, if_neg h2]; exact ⟨2, rfl, rfl⟩
 ·have e : BV (of a) (of b) 200 = 0 := if_neg (fun hh => hv ⟨hh.1, hh.2.1⟩)
  rw [e, if_neg hv]
  exact ⟨2, rfl, rfl⟩
theorem mu {n : Nat} {m : Tm} (hn : 6000500 ≤ n) (hz : (of m).size ≤ 400) (k : Int) {g : Tm → Option Rs} {r : Rs} (e : sq (some (O.hn m)) g = some r) :
   (∃ f, FF n 57 [tm (of m), nt k] [] = some ([tm (of f), nt 0], []) ∧ (of f).k = k ∧ vdM f = true ∧ O.hn m = .ok f ∧ g f = some r) ∨ (∃ f, FF n 57 [tm (of m), nt k] [] = some ([tm (.mk 0 0 []), nt 1], []) ∧ (of f).k ≠ k ∧ g f = some r) ∨
    (FF n 57 [tm (of m), nt k] [] = some ([tm (.mk 0 0 []), nt 2], []) ∧ r = .opn) := by
 obtain ⟨n, rfl⟩ := af (show 0 < n by omega)
 obtain ⟨x, c, h1, h2⟩ := uw (n := n) (m := m) (by omega) hz
 rw [rE, h1]
 simp only [evt]
 cases hh : O.hn m with
 | ok f =>
  rw [hh] at h2 e
  obtain ⟨rfl, rfl⟩ := h2
  have vf := (bm.hn_ok hh).2.2
  simp only [evt]
  by_cases hk : (of f).k = k
  ·rw [decide_eq_true hk]
   exact .inl ⟨f, rfl, hk, vf, rfl, e⟩
  ·rw [decide_eq_false hk]
   exact .inr (.inl ⟨f, rfl, hk, e⟩)
 | bad => exact absurd hh (bm.hn_nb m)
 | opn =>
  rw [hh] at h2 e
  have h2 : c ≠ 0 := h2
  rw [decide_eq_false h2]
  cases e
  exact .inr (.inr ⟨rfl, rfl⟩)
theorem pZ {n : Nat} (hn : 1 ≤ n) (t : T) : FF n 79 [tm t, bl false] [] = some ([tm (.mk 0 0 []), nt 2], []) := by
 obtain ⟨n, rfl⟩ := af (show 0 < n by omega)
 exact jG n t.k t.n t.kids false
theorem lM {n : Nat} {m : Tm} (hn : (of m).size + 10 ≤ n) : ∀ r, made O m = some r → RS (FF n 79 [tm (of m), bl true] []) r := by
 intro r e
 obtain ⟨n, rfl⟩ := af (show 0 < n by omega)
 unfold made at e
 rw [jG, bB (n := n) (by omega)]
 simp only [evt]
 cases hv : vdM m with
 | false =>
  have ev : ah (of m) = false := hv
  rw [if_neg (by rw [show O.vd m = vdM m from rfl, hv]; simp)] at e; cases e
  rw [ev]
  exact nc .opn _ j0
 | true =>
  have ev : ah (of m) = true := hv
  have zv := ae ev
  rw [if_pos (by rw [show O.vd m = vdM m from rfl, hv])] at e; cases e
  rw [ev]
  exact ⟨of m, 0, rfl, by omega, rfl, rfl⟩
theorem qy {n : Nat} {m : Tm} (hn : (of m).size + 500 ≤ n) : ∀ r, made O m = some r → RS (FF n 79 [tm (if ah (of m) then of m else .mk 0 0 []), bl (ah (of m))] []) r := by
 intro r e
 cases hv : vdM m with
 | false =>
  have ev : ah (of m) = false := hv
  unfold made at e
  rw [if_neg (by rw [show O.vd m = vdM m from rfl, hv]; simp)] at e; cases e
  rw [ev]
  rw [pZ (by omega)]
  exact nc .opn _ j0
 | true =>
  have ev : ah (of m) = true := hv
  rw [ev, if_pos rfl]
  exact lM (by omega) r e
theorem xN {n : Nat} (hn : 1 ≤ n) (a : T) (l : List T) (k m : Int) : FF n 87 [tm (.mk k m (a :: l))] [] = some ([tm a], []) := by
 obtain ⟨n, rfl⟩ := af (show 0 < n by omega)
 have := kf n k m (a :: l)
 rw [decide_eq_false (show ¬ ((a :: l).length : Int) = 0 by simp only [List.length_cons]; omega), ot] at this
 exact this
theorem km {n : Nat} (hn : 1 ≤ n) : FF n 87 [tm (.mk 0 0 [])] [] = some ([tm (.mk 0 0 [])], []) := by
 obtain ⟨n, rfl⟩ := af (show 0 < n by omega)
 rw [kf]; rfl
theorem qW {p : Tm} (a : Nat) : shT (a : Int) (of p) 0 = of (p.ren (· + a)) := by
 have := B3 a p 0
 rw [kp] at this
 exact this
theorem CI {p : Tm} (a : Nat) (h : ah (of (Tm.br p)) = true) : ah (of p.wk) = true ∧ ah (of p.wk.wk) = true := by
 have k : ∀ {t u : T}, ah t = true → u ∈ t.kids → ah u = true := fun h hu => bG h hu
 have h1 := k (u := .mk 3 0 [.mk 5 0 [of p.wk, .mk 1 0 []], .mk 5 0 [of p.wk.wk, .mk 8 0 [.mk 1 1 []]]]) h (by simp [Tm.br, of, T.kids])
 have h2 := k (u := .mk 5 0 [of p.wk, .mk 1 0 []]) h1 (by simp [T.kids])
 have h3 := k (u := .mk 5 0 [of p.wk.wk, .mk 8 0 [.mk 1 1 []]]) h1 (by simp [T.kids])
 exact ⟨k h2 (by simp [T.kids]), k h3 (by simp [T.kids])⟩
theorem yP {n : Nat} {p : Tm} (hn : 6000 ≤ n) (hp : vdM p = true) : ∀ r, made O (Tm.br p) = some r → RS (FF n 108 [tm (of p)] []) r := by
 intro r e
 obtain ⟨n, rfl⟩ := af (show 0 < n by omega)
 have zp := ae hp
 have zs := tc hp
 have s1 := rL (n := n) (t := of p) (a := 1) (c := 0) (by omega) (tf hp) (by omega) (by omega) (by omega)
 have s2 := rL (n := n) (t := of p) (a := 2) (c := 0) (by omega) (tf hp) (by omega) (by omega) (by omega)
 have e1 : shT 1 (of p) 0 = of p.wk := FL p
 have e2 : shT 2 (of p) 0 = of p.wk.wk := by rw [Tm.wk, Tm.wk, Tm.fy]; exact qW 2
 rw [e1, shR, e1] at s1
 rw [e2, shR, e2] at s2
 rw [nW, s1, s2]
 simp (disch := first | omega | simp) only [evt, rS, g7, kU]
 by_cases hv : ah (of (Tm.br p)) = true
 ·obtain ⟨h1, h2⟩ := CI 0 hv
  rw [h1, h2, if_pos rfl, if_pos rfl]
  obtain ⟨x, c, eo, hx, h3⟩ := lM (n := n) (m := Tm.br p) (by omega) r e
  simp only [Tm.br, of, tm, cT, cQ, ay] at eo
  simp only [evt]
  have eo' : FF n 79 [V1.agg [SV.int IntKind.i64 3, SV.int IntKind.i64 0, SV.fr (SD.ts [T.mk 6 0 [], T.mk 3 0 [T.mk 5 0 [of p.wk, T.mk 1 0 []], T.mk 5 0 [of p.wk.wk, T.mk 8 0 [T.mk 1 1 []]]]])], V1.one (SV.bool true)] [] = some ([tm x, nt c], []) := eo
  rw [eo']
  exact ⟨x, c, rfl, hx, h3⟩
 ·have ev : ah (of (Tm.br p)) = false := by simpa using hv
  have er : r = .opn := by
   unfold made at e
   rw [if_neg (by rw [show O.vd (Tm.br p) = ah (of (Tm.br p)) from rfl, ev]; simp)] at e
   cases e; rfl
  subst er
  have fin : ∀ a b l c, FF n 79 [.agg [.int .i64 a, .int .i64 b, .fr (.ts l)], bl c] [] = some ([tm (.mk 0 0 []), nt 2], []) → RS ((FF n 79 [.agg [.int .i64 a, .int .i64 b, .fr (.ts l)], bl c] []).bind fun x34 => ag x34.1 fun x35 x36 => aB .i64 x36 fun x37 x38 => ai x38 (aj x34.2 (some ([.agg [.int .i64 (x35).k, .int .i64 (x35).n, .fr (.ts (x35).kids)], .one (.int .i64 x37)], [])))) .opn := fun a b l c h => by
   rw [h]
   exact nc .opn (.mk 0 0 []) j0
  have nf : ∀ a b l, FF n 79 [.agg [.int .i64 a, .int .i64 b, .fr (.ts l)], bl false] [] = some ([tm (.mk 0 0 []), nt 2], []) := fun a b l => pZ (by omega) (.mk a b l)
  cases h1 : ah (of p.wk) with
  | false =>
   simp only [cond_false]
   exact fin _ _ _ _ (nf _ _ _)
  | true =>
   simp only [cond_true]
   cases h2 : ah (of p.wk.wk) with
   | false => exact fin _ _ _ _ (nf _ _ _)
   | true =>
    simp only [if_true]
    refine fin _ _ _ _ ?_
    have hm : FF n 79 [tm (of (Tm.br p)), bl true] [] = some ([tm (.mk 0 0 []), nt 2], []) := by
     obtain ⟨n, rfl⟩ := af (show 0 < n by omega)
     rw [jG, bB (n := n) (by omega), ev]; rfl
    exact hm
end Go.Proofs.Ytajlknlnmmbfcaa
end
section
namespace Go.Proofs.Ytajlknlnmmbfcaa
open Go Go.Ab Go.Dk
open Tm (Rs sq frm lvl chk fam made ext inI kI)
structure Op (M : Nat) (c : List T) (t : T) (i : Int) (x : Option Rs) : Prop where
 iv : ∀ m, M ≤ m → ∀ r, x = some r → RSh (hp c t) (FF m 58 [nt i, .one (.ptr 0 0), .one (.ptr 1 0)] (hp c t)) r
 ok : ∀ s, x = some (.ok s) → vdM s = true
section
variable {M n : Nat} {c : List T} {t : T} {i : Int} {x : Option Rs}
theorem qf (hM : 7000500 ≤ M) (hn : M + 1 ≤ n) (h : Op M c t i x) (k : Int) {g : Tm → Option Rs} {r : Rs} (e : sq (frm O x) g = some r) :
   (∃ f, FF n 85 [jd c t, nt i, nt k] (hp c t) = some ([tm (of f), nt 0], hp c t) ∧ (of f).k = k ∧ vdM f = true ∧ g f = some r) ∨ (∃ f, FF n 85 [jd c t, nt i, nt k] (hp c t) = some ([tm (.mk 0 0 []), nt 1], hp c t) ∧ (of f).k ≠ k ∧ g f = some r) ∨
    ∃ c', FF n 85 [jd c t, nt i, nt k] (hp c t) = some ([tm (.mk 0 0 []), nt c'], hp c t) ∧ Er c' r := by
 obtain ⟨n, rfl⟩ := af (show 0 < n by omega)
 unfold frm at e
 rw [Tm.mo] at e
 rw [eO]
 rcases pT (h.iv n (by omega)) e with ⟨s, e1, eo, e2⟩ | ⟨y, c', eo, hc⟩
 ·rw [eo]
  simp only [evt]
  have hs := ae (h.ok s e1)
  rcases mu (n := n) (m := s) (by omega) hs k e2 with ⟨f, eo, hk, vf, _, e3⟩ | ⟨f, eo, hk, e3⟩ | ⟨eo, rfl⟩
  ·rw [eo]; exact .inl ⟨f, rfl, hk, vf, e3⟩
  ·rw [eo]; exact .inr (.inl ⟨f, rfl, hk, e3⟩)
  ·rw [eo]; exact .inr (.inr ⟨2, rfl, .opn⟩)
 ·rw [eo]
  simp only [evt]
  rw [decide_eq_false hc.ne]
  exact .inr (.inr ⟨c', rfl, hc⟩)
theorem ku (hM : 7000500 ≤ M) (hn : M + 2 ≤ n) (h : Op M c t i x) : ∀ r, lvl O x = some r → RLh (hp c t) (FF n 105 [jd c t, nt i] (hp c t)) r := by
 intro r e
 obtain ⟨n, rfl⟩ := af (show 0 < n by omega)
 rw [ej]
 rcases qf hM (n := n) (by omega) h 2 e with ⟨f, eo, hk, vf, e2⟩ | ⟨f, eo, hk, e2⟩ | ⟨c', eo, hc⟩
 ·rw [eo]
  cases f <;> try (rw [gf] at hk; simp only [Int.reduceEq] at hk; done)
  rename_i j
  cases e2
  simp only [evt]
  exact ⟨j, 0, rfl, rfl, j, rfl, rfl⟩
 ·rw [eo]
  simp only [evt]
  have : r = .bad := by
   cases f <;> first | (exact absurd (gf _) hk) | (cases e2; rfl)
  subst this
  exact rA .bad 0
 ·rw [eo]
  simp only [evt]
  exact rA hc 0
theorem kl (hM : 7000500 ≤ M) (hn : M + 1 ≤ n) (h : Op M c t i x) {w : Tm} (hw : (of w).size ≤ 100000) : ∀ r, chk O x w = some r → RCh (hp c t) (FF n 82 [jd c t, nt i, tm (of w)] (hp c t)) r := by
 intro r e
 obtain ⟨n, rfl⟩ := af (show 0 < n by omega)
 rw [ez]
 rcases pT (h.iv n (by omega)) e with ⟨s, e1, eo, e2⟩ | ⟨y, c', eo, hc⟩
 ·rw [eo]
  simp only [evt]
  have hs := ae (h.ok s e1)
  cases e2
  obtain ⟨c', h1, h2⟩ := kN (n := n) (a := s) (b := w) (by omega) (by omega) hw
  rw [h1]
  exact ⟨c', rfl, h2⟩
 ·rw [eo]
  simp only [evt]
  rw [decide_eq_false hc.ne]
  exact rM hc
theorem yH (hM : 7000500 ≤ M) (hn : M + 2 ≤ n) (h : Op M c t i x) {w : Tm} (hw : (of w).size ≤ 100000) : ∀ r, chk O x w = some r → RCh (hp c t) (FF n 86 [jd c t, nt i, tm (of w), nt 0] (hp c t)) r := by
 intro r e
 obtain ⟨n, rfl⟩ := af (show 0 < n by omega)
 rw [cB]
 simp only [evt]
 obtain ⟨c', h1, h2⟩ := kl hM (n := n) (by omega) h hw r e
 rw [h1]
 exact ⟨c', rfl, h2⟩
theorem lU (hn : 1 ≤ n) (w : T) {c' : Int} (hc : c' ≠ 0) : FF n 86 [jd c t, nt i, tm w, nt c'] (hp c t) = some ([nt c'], hp c t) := by
 obtain ⟨n, rfl⟩ := af (show 0 < n by omega)
 rw [cB, decide_eq_false hc]; rfl
theorem tl (hM : 7000500 ≤ M) (hn : M + 2 ≤ n) (h : Op M c t i x) {w : Tm} (hw : (of w).size ≤ 100000) : ∀ r, fam O x w = some r → RCh (hp c t) (FF n 107 [jd c t, nt i, tm (of w)] (hp c t)) r := by
 intro r e
 obtain ⟨n, rfl⟩ := af (show 0 < n by omega)
 rw [dW]
 rcases qf hM (n := n) (by omega) h 3 e with ⟨f, eo, hk, vf, e2⟩ | ⟨f, eo, hk, e2⟩ | ⟨c', eo, hc⟩
 ·rw [eo]
  cases f <;> try (rw [gf] at hk; simp only [Int.reduceEq] at hk; done)
  rename_i C D
  obtain ⟨vC, vD⟩ := bm.v_pi vf
  have zC := ae vC
  have zD := ae vD
  simp only [evt, of, ot, oM]
  rcases ko (yJ (P := RC) (kN (n := n) (a := C) (b := w) (by omega) (by omega) hw)) e2 with ⟨t', e3, eo, e4⟩ | ⟨c', eo, hc⟩
  ·rw [eo]
   simp only [evt]
   rcases mu (n := n) (m := D) (by omega) zD 2 e4 with ⟨f, eo, hk, vf, _, e5⟩ | ⟨f, eo, hk, e5⟩ | ⟨eo, rfl⟩
   ·rw [eo]
    cases f <;> try (rw [gf] at hk; simp only [Int.reduceEq] at hk; done)
    cases e5
    exact ⟨0, rfl, rfl⟩
   ·rw [eo]
    have : r = .bad := by
     cases f <;> first | (exact absurd (gf _) hk) | (cases e5; rfl)
    subst this
    exact ⟨1, rfl, rfl⟩
   ·rw [eo]; exact ⟨2, rfl, rfl⟩
  ·rw [eo]
   simp only [evt]
   rw [decide_eq_false hc.ne]
   exact rM hc
 ·rw [eo]
  simp only [evt]
  have : r = .bad := by
   cases f <;> first | (exact absurd (gf _) hk) | (cases e2; rfl)
  subst this
  exact rM .bad
 ·rw [eo]
  simp only [evt]
  rw [decide_eq_false hc.ne]
  exact rM hc
end
section
variable {M n : Nat} {c : List T} {t : T} {a b d e' : Tm} {xa xb xd xe : Option Rs}
theorem Be (hM : 7000500 ≤ M) (hn : M + 4 ≤ n) (ha : Op M c t 0 xa) (hb : Op M c t 1 xb) : ∀ r, (sq (lvl O xa) fun i => sq (lvl O xb) fun j => some (.ok (.sort (max (Tm.lv i) (Tm.lv j))))) = some r →
   RSh (hp c t) (FF n 83 [jd c t] (hp c t)) r := by
 intro r e
 obtain ⟨n, rfl⟩ := af (show 0 < n by omega)
 rw [eC]
 rcases p7 (ku hM (n := n) (by omega) ha) e with ⟨i, e1, eo, e2⟩ | ⟨i, c', eo, hc⟩
 ·rw [eo]
  simp only [evt]
  rcases p7 (ku hM (n := n) (by omega) hb) e2 with ⟨j, e3, eo, e4⟩ | ⟨j, c', eo, hc⟩
  ·rw [eo]
   simp only [evt]
   rw [wC (n := n) (by omega)]
   simp only [evt]
   cases e4
   refine ⟨of (.sort (max i j)), 0, ?_, rfl, rfl⟩
   have : max (i : Int) j = ((max i j : Nat) : Int) := by omega
   rw [this]; rfl
  ·rw [eo]
   simp only [evt]
   rw [decide_eq_false hc.ne]
   exact aW hc (.mk 0 0 [])
 ·rw [eo]
  simp only [evt]
  rw [decide_eq_false hc.ne]
  exact aW hc (.mk 0 0 [])
theorem iV {h : List aq} {o : OR} {m : Tm} (hh : ∀ r, made O m = some r → RS o r) : ∀ r, made O m = some r → RSh h (o.bind fun x => ag x.1 fun x1 x2 => aB .i64 x2 fun x3 x4 => ai x4 (aj x.2 (some ([.agg [.int .i64 x1.k, .int .i64 x1.n, .fr (.ts x1.kids)], .one (.int .i64 x3)], h)))) r := by
 intro r e
 obtain ⟨x, c, rfl, _, h2⟩ := hh r e
 simp only [evt]
 exact ⟨x, c, rfl, h2⟩
def IvI (M : Nat) (c : List T) (t : T) (x : Option Rs) : Prop := ∀ m, M ≤ m → ∀ r, x = some r → RSh [] (FF m 40 [tms c, tm t] []) r
theorem y8 (hM : 7000500 ≤ M) (hn : M + 4 ≤ n) (g0 : t.kids[(0 : Int).toNat]? = some (of a)) (ha : Op M c t 0 xa) (hb : Op M c t 1 xb) (hva : vdM a = true) (xP : Tm → Option Rs)
   (hP : ∀ B, xb = some (.ok B) → vdM (.pi a B) = true → IvI M c (of (.pi a B)) (xP (.pi a B))) : ∀ r,
   (sq (lvl O xa) fun _ => sq xb fun B => sq (made O (.pi a B)) fun P => sq (xP P) fun _ => some (.ok P)) = some r →
   RSh (hp c t) (FF n 84 [jd c t] (hp c t)) r := by
 intro r e
 obtain ⟨n, rfl⟩ := af (show 0 < n by omega)
 have za := ae hva
 rw [dH]
 rcases p7 (ku hM (n := n) (by omega) ha) e with ⟨i, e1, eo, e2⟩ | ⟨i, c', eo, hc⟩
 ·rw [eo]
  simp only [evt]
  rcases pT (hb.iv n (by omega)) e2 with ⟨B, e3, eo, e4⟩ | ⟨y, c', eo, hc⟩
  ·rw [eo]
   have zB := ae (hb.ok B e3)
   simp only [evt, g0]
   rw [g7 (n := n) (by omega)]
   simp only [evt]
   rcases kX (lM (n := n) (m := .pi a B) (by simp only [of, T.size, T.aA]; omega)) e4 with ⟨P, e5, eo, e6⟩ | ⟨y, c', eo, hc⟩
   ·obtain ⟨rfl, vP⟩ := Tm.bK e5
    simp only [of, tm, cT, cQ, ay] at eo
    rw [eo]
    simp only [evt]
    rcases pT (hP B e3 vP n (by omega)) e6 with ⟨S, e7, eo, e8⟩ | ⟨y, c', eo, hc⟩
    ·simp only [of, tm, cT, cQ, ay] at eo
     rw [eo]
     simp only [evt]
     cases e8
     exact ⟨of (.pi a B), 0, rfl, rfl, rfl⟩
    ·simp only [of, tm, cT, cQ, ay] at eo
     rw [eo]
     simp only [evt]
     rw [decide_eq_false hc.ne]
     exact aW hc (.mk 0 0 [])
   ·simp only [of, tm, cT, cQ, ay] at eo
    rw [eo]
    simp only [evt]
    rw [decide_eq_false hc.ne]
    exact aW hc (.mk 0 0 [])
  ·rw [eo]
   simp only [evt]
   rw [decide_eq_false hc.ne]
   exact aW hc (.mk 0 0 [])
 ·rw [eo]
  simp only [evt]
  rw [decide_eq_false hc.ne]
  exact aW hc (.mk 0 0 [])
theorem wr1 : IntKind.i64.wrap (1 + 1) = 2 := wrap64 (by omega)
theorem wr2 : IntKind.i64.wrap (2 + 1) = 3 := wrap64 (by omega)
theorem u6 (hM : 7000500 ≤ M) (hn : M + 6 ≤ n) (g0 : t.kids[(0 : Int).toNat]? = some (of a)) (g3 : t.kids[(3 : Int).toNat]? = some (of e')) (hv : vdM (.elim a b d e') = true) (ha : Op M c t 0 xa) (hb : Op M c t 1 xb) (hd : Op M c t 2 xd) (he : Op M c t 3 xe) : ∀ r,
   (sq (fam O xa .nat) fun _ => sq (made O (.app a .zero)) fun w => sq (chk O xb w) fun _ => sq (made O (Tm.br a)) fun w => sq (chk O xd w) fun _ => sq (chk O xe .nat) fun _ => made O (.app a e')) = some r →
   RSh (hp c t) (FF n 89 [jd c t] (hp c t)) r := by
 intro r e
 obtain ⟨n, rfl⟩ := af (show 0 < n by omega)
 obtain ⟨va, vb, vd, ve, vz⟩ := bm.v_elim hv
 have za := ae va
 have ze := ae ve
 have zz := ae vz
 have zn : (of .nat).size ≤ 100000 := by decide
 rw [dy]
 simp only [evt, g0, rS (show 1 ≤ n by omega)]
 rcases gN (tl hM (n := n) (by omega) ha (w := .nat) zn) e with ⟨t', e1, eo, e2⟩ | ⟨c', eo, hc⟩
 ·simp only [of, tm, cT, cQ, ay] at eo
  rw [eo]
  simp only [evt]
  rw [g7 (n := n) (by omega)]
  simp only [evt]
  rcases kX (lM (n := n) (m := .app a .zero) (by omega)) e2 with ⟨w, e3, eo, e4⟩ | ⟨y, c', eo, hc⟩
  ·obtain ⟨rfl, _⟩ := Tm.bK e3
   simp only [of, tm, cT, cQ, ay] at eo
   rw [eo]
   simp only [evt]
   rcases gN (yH hM (n := n) (by omega) hb (w := .app a .zero) (by omega)) e4 with ⟨t', e5, eo, e6⟩ | ⟨c', eo, hc⟩
   ·simp only [of, tm, cT, cQ, ay] at eo
    rw [eo]
    simp only [evt]
    rcases kX (yP (n := n) (by omega) va) e6 with ⟨w, e7, eo, e8⟩ | ⟨y, c', eo, hc⟩
    ·obtain ⟨rfl, vs⟩ := Tm.bK e7
     have zs := ae vs
     rw [eo]
     simp only [evt]
     rcases gN (yH hM (n := n) (by omega) hd (w := Tm.br a) (by omega)) e8 with ⟨t', e9, eo, e10⟩ | ⟨c', eo, hc⟩
     ·rw [eo]
      simp only [evt]
      rcases gN (kl hM (n := n) (by omega) he (w := .nat) zn) e10 with ⟨t', e11, eo, e12⟩ | ⟨c', eo, hc⟩
      ·simp only [of, tm, cT, cQ, ay] at eo
       rw [eo]
       simp only [evt, g3]
       rw [g7 (n := n) (by omega)]
       simp only [evt]
       exact iV (lM (n := n) (m := .app a e') (by simp only [of, T.size, T.aA]; omega)) r e12
      ·simp only [of, tm, cT, cQ, ay] at eo
       rw [eo]
       simp only [evt]
       rw [decide_eq_false hc.ne]
       exact aW hc (.mk 0 0 [])
     ·rw [eo]
      simp only [evt]
      rw [decide_eq_false hc.ne]
      exact aW hc (.mk 0 0 [])
    ·rw [eo]
     simp only [evt]
     rw [lU (by omega) _ hc.ne]
     simp only [evt]
     rw [decide_eq_false hc.ne]
     exact aW hc (.mk 0 0 [])
   ·simp only [of, tm, cT, cQ, ay] at eo
    rw [eo]
    simp only [evt]
    rw [decide_eq_false hc.ne]
    exact aW hc (.mk 0 0 [])
  ·simp only [of, tm, cT, cQ, ay] at eo
   rw [eo]
   simp only [evt]
   rw [lU (by omega) _ hc.ne]
   simp only [evt]
   rw [decide_eq_false hc.ne]
   exact aW hc (.mk 0 0 [])
 ·simp only [of, tm, cT, cQ, ay] at eo
  rw [eo]
  simp only [evt]
  rw [decide_eq_false hc.ne]
  exact aW hc (.mk 0 0 [])
end
end Go.Proofs.Ytajlknlnmmbfcaa
end
section
namespace Go.Proofs.Ytajlknlnmmbfcaa
open Go Go.Ab Go.Dk
open Tm (Rs sq frm lvl chk fam made ext inI kI)
section
variable {M n : Nat} {c : List T} {t : T} {a b d e' : Tm} {xa xb xd xe : Option Rs}
theorem BW {m : Nat} {i z1 z2 : Int} {l0 : List T} {s : Int} {c' : Int} (hs : s = 1 ∨ s = 2 ∨ s = 3) {r : Rs} (hc : Er c' r) :
   RSh (hp c t) (av n (m + 1) i c' s c t.k t.n t.kids c t.k t.n t.kids z1 z2 l0) r := by
 rw [aF]
 simp only [evt, decide_eq_false hc.ne]
 rcases hs with rfl | rfl | rfl
 ·rw [decide_eq_true (show (1 : Int) ≤ 2 by omega)]; exact aW hc (.mk 0 0 [])
 ·rw [decide_eq_true (show (2 : Int) ≤ 2 by omega)]; exact aW hc (.mk 0 0 [])
 ·rw [decide_eq_false (show ¬ (3 : Int) ≤ 2 by omega)]; exact aW hc (.mk 0 0 [])
theorem FT {m : Nat} (hn : 1 ≤ n) {k : Nat} {z1 z2 : Int} {l0 : List T} :
   RSh (hp c t) (av n (m + 1) (k : Int) 0 3 c t.k t.n t.kids c t.k t.n t.kids z1 z2 l0) (.ok (.sort k)) := by
 rw [aF]
 simp only [evt]
 rw [decide_eq_false (show ¬ (3 : Int) ≤ 2 by omega), wC (n := n) (by omega)]
 exact ⟨of (.sort k), 0, rfl, rfl, rfl⟩
theorem Gs (hM : 7000500 ≤ M) (hn : M + 1 ≤ n) (g0 : t.kids[(0 : Int).toNat]? = some (of a)) (za : (of a).size ≤ 100000) (hd : Op M c t 2 xd) {m : Nat} {k : Nat} {z1 z2 : Int} {l0 : List T} : ∀ r,
   (sq (chk O xd a) fun _ => some (.ok (.sort k))) = some r →
   RSh (hp c t) (av n (m + 1 + 1) (k : Int) 0 2 c t.k t.n t.kids c t.k t.n t.kids z1 z2 l0) r := by
 intro r e
 rw [aF]
 simp only [evt, g0]
 rw [decide_eq_true (show (2 : Int) ≤ 2 by omega)]
 rcases gN (kl hM (n := n) (by omega) hd (w := a) za) e with ⟨t', e3, eo, e4⟩ | ⟨c', eo, hc⟩
 ·rw [eo, wr2]
  simp -implicitDefEqProofs only [evt]
  cases e4
  with_reducible exact FT (by omega)
 ·rw [eo, wr2]
  simp -implicitDefEqProofs only [evt]
  with_reducible exact BW (.inr (.inr rfl)) hc
theorem EH (hM : 7000500 ≤ M) (hn : M + 1 ≤ n) (g0 : t.kids[(0 : Int).toNat]? = some (of a)) (za : (of a).size ≤ 100000) (hb : Op M c t 1 xb) (hd : Op M c t 2 xd) {m : Nat} {k : Nat} {z1 z2 : Int} {l0 : List T} : ∀ r,
   (sq (chk O xb a) fun _ => sq (chk O xd a) fun _ => some (.ok (.sort k))) = some r →
   RSh (hp c t) (av n (m + 1 + 1 + 1) (k : Int) 0 1 c t.k t.n t.kids c t.k t.n t.kids z1 z2 l0) r := by
 intro r e
 rw [aF]
 simp only [evt, g0]
 rw [decide_eq_true (show (1 : Int) ≤ 2 by omega)]
 rcases gN (kl hM (n := n) (by omega) hb (w := a) za) e with ⟨t', e1, eo, e2⟩ | ⟨c', eo, hc⟩
 ·rw [eo, wr1]
  simp -implicitDefEqProofs only [evt]
  with_reducible exact Gs hM hn g0 za hd r e2
 ·rw [eo, wr1]
  simp -implicitDefEqProofs only [evt]
  with_reducible exact BW (.inr (.inl rfl)) hc
theorem yF (hM : 7000500 ≤ M) (hn : M + 4 ≤ n) (g0 : t.kids[(0 : Int).toNat]? = some (of a)) (hva : vdM a = true) (ha : Op M c t 0 xa) (hb : Op M c t 1 xb) (hd : Op M c t 2 xd) : ∀ r,
   (sq (lvl O xa) fun i => sq (chk O xb a) fun _ => sq (chk O xd a) fun _ => some (.ok i)) = some r →
   RSh (hp c t) (FF n 90 [jd c t] (hp c t)) r := by
 intro r e
 obtain ⟨n, rfl⟩ := af (show 0 < n by omega)
 have za := ae hva
 rw [dG]
 rcases p7 (ku hM (n := n) (by omega) ha) e with ⟨i, e1, eo, e2⟩ | ⟨i, c', eo, hc⟩
 ·rw [eo]
  simp only [evt]
  obtain ⟨m, hm⟩ : ∃ m, n = m + 1 + 1 + 1 := ⟨n - 3, by omega⟩
  have h := EH (n := n) (m := m) (z1 := 0) (z2 := 0) (l0 := []) hM (by omega) g0 (by omega) hb hd r e2
  rw [← hm] at h
  with_reducible exact h
 ·rw [eo]
  simp only [evt]
  obtain ⟨m, hm⟩ := af (show 0 < n by omega)
  have h := BW (n := n) (t := t) (c := c) (m := m) (i := i) (z1 := 0) (z2 := 0) (l0 := []) (s := 1) (.inl rfl) hc
  rw [← hm] at h
  with_reducible exact h
end
end Go.Proofs.Ytajlknlnmmbfcaa
end
section
namespace Go.Proofs.Ytajlknlnmmbfcaa
open Go Go.Ab Go.Dk
open Tm (Rs sq frm lvl chk fam made ext inI kI)
section
variable {M n : Nat} {c : List T} {t : T} {a b d e' : Tm} {xa xb xd xe : Option Rs}
theorem uS {n : Nat} {b u : Tm} (hn : 2000000 ≤ n) (hb : vdM b = true) (hu : vdM u = true) : FF n 88 [tm (of b), nt 0, tm (of u)] [] = some ([tm (if ah (of (b.inst u)) then of (b.inst u) else .mk 0 0 []), bl (ah (of (b.inst u)))], []) := by
 have h1 := ae hb
 have h2 := ae hu
 rw [AZ (n := n) hn (tf hb) (by omega) (tf hu) (by omega) (by omega), sbR, kP]
theorem Ed (hM : 7000500 ≤ M) (hn : M + 6 ≤ n) (g0 : t.kids[(0 : Int).toNat]? = some (of a)) (hv : vdM (.move a b d) = true) (ha : Op M c t 0 xa) (hb : Op M c t 1 xb) (hd : Op M c t 2 xd) : ∀ r,
   (sq (frm O xb) fun E => match E with
   | .id t y z => sq (fam O xa t) fun _ => sq (made O (.app a y)) fun w => sq (chk O xd w) fun _ => made O (.app a z)
   | _ => some .bad) = some r →
   RSh (hp c t) (FF n 91 [jd c t] (hp c t)) r := by
 intro r e
 obtain ⟨n, rfl⟩ := af (show 0 < n by omega)
 obtain ⟨va, vb, vd⟩ := bm.v_move hv
 have za := ae va
 rw [en]
 rcases qf hM (n := n) (by omega) hb 10 e with ⟨f, eo, hk, vf, e2⟩ | ⟨f, eo, hk, e2⟩ | ⟨c', eo, hc⟩
 ·rw [eo]
  cases f <;> try (rw [gf] at hk; simp only [Int.reduceEq] at hk; done)
  rename_i q y z
  obtain ⟨vt, vy, vz⟩ := bm.v_id vf
  have zt := ae vt
  have zy := ae vy
  have zz := ae vz
  simp only [evt, of, ot, oM, En]
  rcases gN (tl hM (n := n) (by omega) ha (w := q) (by omega)) e2 with ⟨t', e1, eo, e2⟩ | ⟨c', eo, hc⟩
  ·rw [eo]
   simp only [evt, g0]
   rw [g7 (n := n) (by omega)]
   simp only [evt]
   rcases kX (lM (n := n) (m := .app a y) (by simp only [of, T.size, T.aA]; omega)) e2 with ⟨w, e3, eo, e4⟩ | ⟨y', c', eo, hc⟩
   ·obtain ⟨rfl, vw⟩ := Tm.bK e3
    have zw := ae vw
    simp only [of, tm, cT, cQ, ay] at eo
    rw [eo]
    simp only [evt]
    rcases gN (yH hM (n := n) (by omega) hd (w := .app a y) (by omega)) e4 with ⟨t', e5, eo, e6⟩ | ⟨c', eo, hc⟩
    ·simp only [of, tm, cT, cQ, ay] at eo
     rw [eo]
     simp only [evt]
     rw [g7 (n := n) (by omega)]
     simp only [evt]
     exact iV (lM (n := n) (m := .app a z) (by simp only [of, T.size, T.aA]; omega)) r e6
    ·simp only [of, tm, cT, cQ, ay] at eo
     rw [eo]
     simp only [evt]
     rw [decide_eq_false hc.ne]
     exact aW hc (.mk 0 0 [])
   ·simp only [of, tm, cT, cQ, ay] at eo
    rw [eo]
    simp only [evt]
    rw [lU (by omega) _ hc.ne]
    simp only [evt]
    rw [decide_eq_false hc.ne]
    exact aW hc (.mk 0 0 [])
  ·rw [eo]
   simp only [evt]
   rw [decide_eq_false hc.ne]
   exact aW hc (.mk 0 0 [])
 ·rw [eo]
  simp only [evt]
  have : r = .bad := by
   cases f <;> first | (exact absurd (gf _) hk) | (cases e2; rfl)
  subst this
  exact aW .bad (.mk 0 0 [])
 ·rw [eo]
  simp only [evt]
  rw [decide_eq_false hc.ne]
  exact aW hc (.mk 0 0 [])
theorem Cz (hM : 7000500 ≤ M) (hn : M + 6 ≤ n) (g0 : t.kids[(0 : Int).toNat]? = some (of a)) (g1 : t.kids[(1 : Int).toNat]? = some (of b)) (hv : vdM (.pair a b d) = true) (ha : Op M c t 0 xa) (hb : Op M c t 1 xb) (hd : Op M c t 2 xd) : ∀ r,
   (sq (lvl O xa) fun _ => sq (some (O.hn a)) fun h => match h with
   | .sig A B => sq (chk O xb A) fun _ => sq (made O (B.inst b)) fun w => sq (chk O xd w) fun _ => some (.ok a)
   | _ => some .bad) = some r →
   RSh (hp c t) (FF n 92 [jd c t] (hp c t)) r := by
 intro r e
 obtain ⟨n, rfl⟩ := af (show 0 < n by omega)
 obtain ⟨va, vb, vd⟩ := bm.v_pair hv
 have za := ae va
 rw [dY]
 rcases p7 (ku hM (n := n) (by omega) ha) e with ⟨i, e1, eo, e2⟩ | ⟨i, c', eo, hc⟩
 ·rw [eo]
  simp only [evt, g0]
  rcases mu (n := n) (m := a) (by omega) za 13 e2 with ⟨f, eo, hk, vf, _, e3⟩ | ⟨f, eo, hk, e3⟩ | ⟨eo, rfl⟩
  ·rw [eo]
   cases f <;> try (rw [gf] at hk; simp only [Int.reduceEq] at hk; done)
   rename_i C B _
   obtain ⟨vC, vB⟩ := bm.v_sig vf
   have zC := ae vC
   have zi := gq vB vb
   have hs := xN (n := n) (by omega) (of C) [of B] 13 0
   simp only [tm, cT, cQ, ay] at hs
   simp only [evt, of, oM]
   rw [hs]
   simp only [evt]
   rcases gN (yH hM (n := n) (by omega) hb (w := C) (by omega)) e3 with ⟨t', e4, eo, e5⟩ | ⟨c', eo, hc⟩
   ·rw [eo]
    simp only [evt, g1]
    rw [uS (n := n) (by omega) vB vb]
    simp only [evt]
    rcases kX (qy (n := n) (m := B.inst b) (by omega)) e5 with ⟨w, e6, eo, e7⟩ | ⟨y', c', eo, hc⟩
    ·obtain ⟨rfl, vw⟩ := Tm.bK e6
     have zw := ae vw
     rw [eo]
     simp only [evt]
     rcases gN (yH hM (n := n) (by omega) hd (w := B.inst b) (by omega)) e7 with ⟨t', e8, eo, e9⟩ | ⟨c', eo, hc⟩
     ·rw [eo]
      simp only [evt, g0]
      cases e9
      exact ⟨of a, 0, rfl, rfl, rfl⟩
     ·rw [eo]
      simp only [evt]
      rw [decide_eq_false hc.ne]
      exact aW hc (.mk 0 0 [])
    ·rw [eo]
     simp only [evt]
     rw [lU (by omega) _ hc.ne]
     simp only [evt]
     rw [decide_eq_false hc.ne]
     exact aW hc (.mk 0 0 [])
   ·rw [eo]
    simp only [evt]
    rw [decide_eq_false hc.ne]
    exact aW hc (.mk 0 0 [])
  ·rw [eo]
   have hs := km (n := n) (by omega)
   have hq := lU (n := n) (c := c) (t := t) (i := 1) (by omega) (.mk 0 0 []) (c' := 1) (by decide)
   simp only [tm, cT, cQ, ay] at hs hq
   simp only [evt]
   rw [hs]
   simp only [evt]
   rw [hq]
   have : r = .bad := by
    cases f <;> first | (exact absurd (gf _) hk) | (cases e3; rfl)
   subst this
   exact aW .bad (.mk 0 0 [])
  ·rw [eo]
   have hs := km (n := n) (by omega)
   have hq := lU (n := n) (c := c) (t := t) (i := 1) (by omega) (.mk 0 0 []) (c' := 2) (by decide)
   simp only [tm, cT, cQ, ay] at hs hq
   simp only [evt]
   rw [hs]
   simp only [evt]
   rw [hq]
   exact aW .opn (.mk 0 0 [])
 ·rw [eo]
  simp only [evt]
  rw [decide_eq_false hc.ne]
  exact aW hc (.mk 0 0 [])
theorem DT (hM : 7000500 ≤ M) (hn : M + 6 ≤ n) (g0 : t.kids[(0 : Int).toNat]? = some (of a)) (hva : vdM (.fst a) = true) (ha : Op M c t 0 xa) :
   (t.k = 15 → ∀ r, (sq (frm O xa) fun Q => match Q with
   | .sig A B => some (.ok A)
   | _ => some .bad) = some r → RSh (hp c t) (FF n 93 [jd c t] (hp c t)) r) ∧
   (t.k = 16 → ∀ r, (sq (frm O xa) fun Q => match Q with
   | .sig A B => made O (B.inst (.fst a))
   | _ => some .bad) = some r → RSh (hp c t) (FF n 93 [jd c t] (hp c t)) r) := by
 obtain ⟨n, rfl⟩ := af (show 0 < n by omega)
 refine ⟨fun ht r e => ?_, fun ht r e => ?_⟩
 ·rw [cr]
  rcases qf hM (n := n) (by omega) ha 13 e with ⟨f, eo, hk, vf, e2⟩ | ⟨f, eo, hk, e2⟩ | ⟨c', eo, hc⟩
  ·rw [eo]
   cases f <;> try (rw [gf] at hk; simp only [Int.reduceEq] at hk; done)
   rename_i C B
   simp only [evt, of, ot, oM]
   rw [decide_eq_true ht]
   cases e2
   exact ⟨of C, 0, rfl, rfl, rfl⟩
  ·rw [eo]
   simp only [evt]
   have : r = .bad := by
    cases f <;> first | (exact absurd (gf _) hk) | (cases e2; rfl)
   subst this
   exact aW .bad (.mk 0 0 [])
  ·rw [eo]
   simp only [evt]
   rw [decide_eq_false hc.ne]
   exact aW hc (.mk 0 0 [])
 ·rw [cr]
  rcases qf hM (n := n) (by omega) ha 13 e with ⟨f, eo, hk, vf, e2⟩ | ⟨f, eo, hk, e2⟩ | ⟨c', eo, hc⟩
  ·rw [eo]
   cases f <;> try (rw [gf] at hk; simp only [Int.reduceEq] at hk; done)
   rename_i C B
   obtain ⟨vC, vB⟩ := bm.v_sig vf
   have zi := gq vB hva
   simp only [evt, of, ot, oM, g0]
   rw [decide_eq_false (show ¬ t.k = 15 by omega), g7 (n := n) (by omega)]
   simp only [evt]
   have hi := uS (n := n) (b := B) (u := .fst a) (by omega) vB hva
   simp only [of, tm, cT, cQ, ay] at hi
   rw [hi]
   simp only [evt]
   exact iV (qy (n := n) (m := B.inst (.fst a)) (by omega)) r e2
  ·rw [eo]
   simp only [evt]
   have : r = .bad := by
    cases f <;> first | (exact absurd (gf _) hk) | (cases e2; rfl)
   subst this
   exact aW .bad (.mk 0 0 [])
  ·rw [eo]
   simp only [evt]
   rw [decide_eq_false hc.ne]
   exact aW hc (.mk 0 0 [])
end
theorem Ct {M : Nat} {c : List T} {t : T} {i : Nat} {u : Tm} {x : Option Rs} (hM : 10 ≤ M) (hu : under t.k i = 0) (hk : t.kids[i]? = some (of u)) (h : IvI M c (of u) x) (hv : ∀ s, x = some (.ok s) → vdM s = true) : Op (M + 1) c t (i : Int) x := by
 refine ⟨fun n hn r e => ?_, hv⟩
 obtain ⟨n, rfl⟩ := af (show 0 < n by omega)
 obtain ⟨y, c', eo, h2⟩ := h n (by omega) r e
 rw [jg]
 have ho : FF n 59 [tms c, tm t, nt (i : Int)] [] = some ([tms c, nt 0], []) := by
  obtain ⟨n, rfl⟩ := af (show 0 < n by omega)
  rw [cP, qQ (n := n) (by omega), hu]; rfl
 rw [ho]
 simp only [evt]
 rw [decide_eq_true (show (0 : Int) ≤ i by omega), Int.toNat_natCast, hk]
 simp only [evt]
 rw [eo]
 exact ⟨y, c', rfl, h2⟩
theorem zE {M : Nat} {G : List Tm} {t : T} {a u : Tm} {I : List Tm → Tm → Option Rs} (hM : 10 ≤ M) (hu : under t.k 1 = 1) (h0 : t.kids[(0 : Int).toNat]? = some (of a)) (hk : t.kids[(1 : Int).toNat]? = some (of u)) (hG : G.length ≤ 20)
   (h : G.length < 20 → IvI M (cx (a :: G)) (of u) (I (a :: G) u)) (hv : ∀ s, I (a :: G) u = some (.ok s) → vdM s = true) : Op (M + 1) (cx G) t 1 (ext I G a u) := by
 refine ⟨fun n hn r e => ?_, fun s e => hv s (Tm.Am e)⟩
 obtain ⟨n, rfl⟩ := af (show 0 < n by omega)
 rw [jg]
 have hf : ∀ n, 3 ≤ n → FF n 77 [nt t.k, nt 1] [] = some ([nt 1], []) := fun n hn => by
  have := qQ (n := n) (by omega) t.k 1
  rw [hu] at this; exact this
 by_cases h20 : 20 ≤ G.length
 ·rw [Tm.ext, if_pos h20] at e; cases e
  have ho : FF n 59 [tms (cx G), tm t, nt 1] [] = some ([tms [], nt 2], []) := by
   obtain ⟨n, rfl⟩ := af (show 0 < n by omega)
   obtain ⟨n, rfl⟩ := af (show 0 < n by omega)
   rw [cP, hf (n + 1) (by omega)]
   simp only [evt, h0, show decide ((1 : Int) = 0) = false from rfl]
   rw [g6, c8, decide_eq_true (show (20 : Int) ≤ G.length by omega)]; rfl
  rw [ho]
  exact aW .opn (.mk 0 0 [])
 ·rw [Tm.ext, if_neg h20] at e
  obtain ⟨y, c', eo, h2⟩ := h (by omega) n (by omega) r e
  have ho : FF n 59 [tms (cx G), tm t, nt 1] [] = some ([tms (cx (a :: G)), nt 0], []) := by
   obtain ⟨n, rfl⟩ := af (show 0 < n by omega)
   obtain ⟨n, rfl⟩ := af (show 0 < n by omega)
   rw [cP, hf (n + 1) (by omega)]
   simp only [evt, h0, show decide ((1 : Int) = 0) = false from rfl]
   rw [g6, c8, decide_eq_false (show ¬ (20 : Int) ≤ G.length by omega), BS (n := n) (by omega) _ (by rw [c8]; omega)]
   simp only [evt]
   rw [aK (by simp [cx]; omega), AH]; rfl
  rw [ho]
  simp only [evt, show decide ((0 : Int) ≤ 1) = true from rfl, hk]
  rw [eo]
  exact ⟨y, c', rfl, h2⟩
def IhI (g B : Nat) : Prop := ∀ (n : Nat) (G : List Tm) (t : Tm), B ≤ n → (∀ A ∈ G, vdM A = true) → G.length ≤ 20 → vdM t = true → ∀ r, inI O g G t = some r → RSh [] (FF n 40 [tms (cx G), tm (of t)] []) r
theorem vM {M n : Nat} {c : List T} {u : Tm} {x : Option Rs} (hM : 7000500 ≤ M) (hn : M + 1 ≤ n) (h : IvI M c (of u) x) (ok : ∀ s, x = some (.ok s) → vdM s = true) (k : Int) {g : Tm → Option Rs} {r : Rs} (e : sq (frm O x) g = some r) :
   (∃ f, FF n 39 [tms c, tm (of u), nt k] [] = some ([tm (of f), nt 0], []) ∧ (of f).k = k ∧ vdM f = true ∧ g f = some r) ∨ (∃ f, FF n 39 [tms c, tm (of u), nt k] [] = some ([tm (.mk 0 0 []), nt 1], []) ∧ (of f).k ≠ k ∧ g f = some r) ∨
    ∃ c', FF n 39 [tms c, tm (of u), nt k] [] = some ([tm (.mk 0 0 []), nt c'], []) ∧ Er c' r := by
 obtain ⟨n, rfl⟩ := af (show 0 < n by omega)
 unfold frm at e
 rw [Tm.mo] at e
 rw [mh]
 rcases pT (h n (by omega)) e with ⟨s, e1, eo, e2⟩ | ⟨y, c', eo, hc⟩
 ·rw [eo]
  simp only [evt]
  have hs := ae (ok s e1)
  rcases mu (n := n) (m := s) (by omega) hs k e2 with ⟨f, eo, hk, vf, _, e3⟩ | ⟨f, eo, hk, e3⟩ | ⟨eo, rfl⟩
  ·rw [eo]; exact .inl ⟨f, rfl, hk, vf, e3⟩
  ·rw [eo]; exact .inr (.inl ⟨f, rfl, hk, e3⟩)
  ·rw [eo]; exact .inr (.inr ⟨2, rfl, .opn⟩)
 ·rw [eo]
  simp only [evt]
  rw [decide_eq_false hc.ne]
  exact .inr (.inr ⟨c', rfl, hc⟩)
theorem zk {M n : Nat} {c : List T} {u : Tm} {x : Option Rs} (hM : 7000500 ≤ M) (hn : M + 2 ≤ n) (h : IvI M c (of u) x) (ok : ∀ s, x = some (.ok s) → vdM s = true) : ∀ r, lvl O x = some r → RLh [] (FF n 24 [tms c, tm (of u)] []) r := by
 intro r e
 obtain ⟨n, rfl⟩ := af (show 0 < n by omega)
 rw [sC]
 rcases vM hM (n := n) (by omega) h ok 2 e with ⟨f, eo, hk, vf, e2⟩ | ⟨f, eo, hk, e2⟩ | ⟨c', eo, hc⟩
 ·rw [eo]
  cases f <;> try (rw [gf] at hk; simp only [Int.reduceEq] at hk; done)
  rename_i j
  cases e2
  simp only [evt]
  exact ⟨j, 0, rfl, rfl, j, rfl, rfl⟩
 ·rw [eo]
  simp only [evt]
  have : r = .bad := by
   cases f <;> first | (exact absurd (gf _) hk) | (cases e2; rfl)
  subst this
  exact rA .bad 0
 ·rw [eo]
  simp only [evt]
  exact rA hc 0
theorem fl {c : List T} {t : T} {o : OR} {r : Rs} (hh : RSh (hp c t) o r) : RSh (hp c t) (o.bind fun x0 => aP x0.2 fun x1 x2 => tsC x1 fun x3 x4 => aQ x4 (aP x2 fun x5 x6 => aS .i64 x5 fun x7 x8 => aS .i64 x8 fun x9 x10 => tsC x10 fun x11 x12 => aQ x12 (ag x0.1 fun x13 x14 => aB .i64 x14 fun x15 x16 => ai x16 (aj x6 (some ([.agg [.int .i64 x13.k, .int .i64 x13.n, .fr (.ts x13.kids)], .one (.int .i64 x15)], [.cells [.fr (.ts x3)], .cells [.int .i64 x7, .int .i64 x9, .fr (.ts x11)]])))))) r := by
 obtain ⟨x, c', rfl, h2⟩ := hh
 simp only [evt]
 exact ⟨x, c', rfl, h2⟩
theorem C1 {g B : Nat} (ih : IhI g B) (hB : 7000500 ≤ B) {n : Nat} {G : List Tm} {m : Tm} (hn : B + 20 ≤ n) (hG : ∀ A ∈ G, vdM A = true) (hl : G.length ≤ 20) (hv : vdM m = true) :
   ∀ r, kI O (inI O g) G m = some r → RSh (hp (cx G) (of m)) (FF n 60 [jd (cx G) (of m)] (hp (cx G) (of m))) r := by
 intro r e
 obtain ⟨n, rfl⟩ := af (show 0 < n by omega)
 have iv : ∀ {u}, vdM u = true → IvI B (cx G) (of u) (inI O g G u) := fun h m hm r e => ih m G _ hm hG hl h r e
 have ok : ∀ {u}, vdM u = true → ∀ s, inI O g G u = some (.ok s) → vdM s = true := fun h s e => Tm.AU bm h e
 have op : ∀ {i : Nat} {u : Tm}, under (of m).k i = 0 → (of m).kids[i]? = some (of u) → vdM u = true → Op (B + 1) (cx G) (of m) (i : Int) (inI O g G u) := fun h1 h2 h3 => Ct (by omega) h1 h2 (iv h3) (ok h3)
 have ob : ∀ {a u : Tm}, under (of m).k 1 = 1 → (of m).kids[(0 : Int).toNat]? = some (of a) → (of m).kids[(1 : Int).toNat]? = some (of u) → vdM a = true → vdM u = true → Op (B + 1) (cx G) (of m) 1 (ext (inI O g) G a u) := fun {a u} h1 h2 h3 ha hu =>
  zE (by omega) h1 h2 h3 hl (fun h20 m hm r e => ih m (a :: G) u hm (fun A hA => by rcases List.mem_cons.1 hA with rfl | hA; exact ha; exact hG A hA) (by simp only [List.length_cons]; omega) hu r e) (fun s e => Tm.AU bm hu e)
 rw [dZ]
 cases m with
 | pi a b =>
  simp only [show ∀ c : Int, decide ((of (Tm.pi a b)).k = c) = decide ((3 : Int) = c) from fun _ => rfl, Int.reduceEq, decide_true, decide_false, cond_true, cond_false]
  obtain ⟨va, vb⟩ := bm.v_pi hv
  exact fl (Be (M := B + 1) (by omega) (n := n) (by omega) (op (i := 0) rfl rfl va) (ob rfl rfl rfl va vb) r e)
 | sig a b =>
  simp only [show ∀ c : Int, decide ((of (Tm.sig a b)).k = c) = decide ((13 : Int) = c) from fun _ => rfl, Int.reduceEq, decide_true, decide_false, cond_true, cond_false]
  obtain ⟨va, vb⟩ := bm.v_sig hv
  exact fl (Be (M := B + 1) (by omega) (n := n) (by omega) (op (i := 0) rfl rfl va) (ob rfl rfl rfl va vb) r e)
 | lam a b =>
  simp only [show ∀ c : Int, decide ((of (Tm.lam a b)).k = c) = decide ((4 : Int) = c) from fun _ => rfl, Int.reduceEq, decide_true, decide_false, cond_true, cond_false]
  obtain ⟨va, vb⟩ := bm.v_lam hv
  exact fl (y8 (M := B + 1) (by omega) (n := n) (by omega) rfl (op (i := 0) rfl rfl va) (ob rfl rfl rfl va vb) va (fun P => inI O g G P) (fun X _ vP m hm r e => ih m G _ (by omega) hG hl vP r e) r e)
 | elim p z s q =>
  simp only [show ∀ c : Int, decide ((of (Tm.elim p z s q)).k = c) = decide ((9 : Int) = c) from fun _ => rfl, Int.reduceEq, decide_true, decide_false, cond_true, cond_false]
  obtain ⟨va, vb, vd, ve, _⟩ := bm.v_elim hv
  exact fl (u6 (M := B + 1) (by omega) (n := n) (by omega) rfl rfl hv (op (i := 0) rfl rfl va) (op (i := 1) rfl rfl vb) (op (i := 2) rfl rfl vd) (op (i := 3) rfl rfl ve) r e)
 | id a b d =>
  simp only [show ∀ c : Int, decide ((of (Tm.id a b d)).k = c) = decide ((10 : Int) = c) from fun _ => rfl, Int.reduceEq, decide_true, decide_false, cond_true, cond_false]
  obtain ⟨va, vb, vd⟩ := bm.v_id hv
  exact fl (yF (M := B + 1) (by omega) (n := n) (by omega) rfl va (op (i := 0) rfl rfl va) (op (i := 1) rfl rfl vb) (op (i := 2) rfl rfl vd) r e)
 | move a b d =>
  simp only [show ∀ c : Int, decide ((of (Tm.move a b d)).k = c) = decide ((12 : Int) = c) from fun _ => rfl, Int.reduceEq, decide_true, decide_false, cond_true, cond_false]
  obtain ⟨va, vb, vd⟩ := bm.v_move hv
  exact fl (Ed (M := B + 1) (by omega) (n := n) (by omega) rfl hv (op (i := 0) rfl rfl va) (op (i := 1) rfl rfl vb) (op (i := 2) rfl rfl vd) r e)
 | pair a b d =>
  simp only [show ∀ c : Int, decide ((of (Tm.pair a b d)).k = c) = decide ((14 : Int) = c) from fun _ => rfl, Int.reduceEq, decide_true, decide_false, cond_true, cond_false]
  obtain ⟨va, vb, vd⟩ := bm.v_pair hv
  exact fl (Cz (M := B + 1) (by omega) (n := n) (by omega) rfl rfl hv (op (i := 0) rfl rfl va) (op (i := 1) rfl rfl vb) (op (i := 2) rfl rfl vd) r e)
 | fst a =>
  simp only [show ∀ c : Int, decide ((of (Tm.fst a)).k = c) = decide ((15 : Int) = c) from fun _ => rfl, Int.reduceEq, decide_true, decide_false, cond_true, cond_false]
  have va := bm.v_fst hv
  exact fl ((DT (M := B + 1) (by omega) (n := n) (by omega) rfl hv (op (i := 0) rfl rfl va)).1 rfl r e)
 | snd a =>
  simp only [show ∀ c : Int, decide ((of (Tm.snd a)).k = c) = decide ((16 : Int) = c) from fun _ => rfl, Int.reduceEq, decide_true, decide_false, cond_true, cond_false]
  have va := bm.v_snd hv
  have vf : vdM (.fst a) = true := by
   have h := fm.1 hv
   rw [fm]
   exact h
  exact fl ((DT (M := B + 1) (by omega) (n := n) (by omega) rfl vf (op (i := 0) rfl rfl va)).2 rfl r e)
 | var m =>
  simp only [show ∀ c : Int, decide ((of (Tm.var m)).k = c) = decide ((1 : Int) = c) from fun _ => rfl, Int.reduceEq, decide_true, decide_false, cond_true, cond_false]
  have e : (match Tm.look G m with | some A => made O A | none => some Rs.bad) = some r := e
  rw [c8, show (of (Tm.var m)).n = (m : Int) from rfl]
  cases hlk : Tm.look G m with
  | none =>
   rw [hlk] at e; cases e
   have := nJ hlk
   rw [decide_eq_true (show (G.length : Int) ≤ m by omega)]
   exact aW .bad (.mk 0 0 [])
  | some A =>
   rw [hlk] at e
   have hlt := z7 hlk
   obtain ⟨C, hC, rfl⟩ := mm hlk
   have vC := hG C (List.mem_of_getElem? hC)
   have zC := ae vC
   have hg := DI G hlt
   rw [hC] at hg
   have w : IntKind.i64.wrap (IntKind.i64.wrap ((G.length : Int) - 1) - m) = ((G.length - 1 - m : Nat) : Int) := by
    rw [wrap64 (a := (G.length : Int) - 1) (by omega), wrap64 (by omega)]; omega
   have w1 : IntKind.i64.wrap ((m : Int) + 1) = ((m + 1 : Nat) : Int) := by rw [wrap64 (by omega)]; rfl
   rw [decide_eq_false (show ¬ (G.length : Int) ≤ m by omega), w, decide_eq_true (show (0 : Int) ≤ ((G.length - 1 - m : Nat) : Int) by omega), Int.toNat_natCast, hg, w1]
   simp only [Option.map_some, evt]
   have hs := rL (n := n) (t := of C) (a := ((m + 1 : Nat) : Int)) (c := 0) (by omega) (tf vC) (by omega) (by omega) (by omega)
   rw [shR, qW] at hs
   rw [hs]
   simp only [evt]
   refine iV (qy (n := n) (m := C.ren (· + (m + 1))) ?_) r e
   rw [← qW, kE]; omega
 | sort m =>
  simp only [show ∀ c : Int, decide ((of (Tm.sort m)).k = c) = decide ((2 : Int) = c) from fun _ => rfl, Int.reduceEq, decide_true, decide_false, cond_true, cond_false]
  have hm := bm.v_sort.1 hv
  have e : some (if m < 3 then Rs.ok (.sort (m + 1)) else Rs.bad) = some r := e
  rw [show (of (Tm.sort m)).n = (m : Int) from rfl]
  by_cases h3 : m < 3
  ·rw [if_pos h3] at e; cases e
   rw [decide_eq_false (show ¬ (m : Int) = 3 by omega), wrap64 (show -9223372036854775808 ≤ (m : Int) + 1 ∧ (m : Int) + 1 ≤ 9223372036854775807 by omega)]
   simp only [evt]
   rw [wC (n := n) (by omega)]
   simp only [evt]
   exact ⟨of (.sort (m + 1)), 0, rfl, rfl, rfl⟩
  ·rw [if_neg h3] at e; cases e
   rw [decide_eq_true (show (m : Int) = 3 by omega)]
   exact aW .bad (.mk 0 0 [])
 | nat =>
  simp only [show ∀ c : Int, decide ((of (Tm.nat)).k = c) = decide ((6 : Int) = c) from fun _ => rfl, Int.reduceEq, decide_true, decide_false, cond_true, cond_false]
  cases e
  rw [wC (n := n) (by omega)]
  simp only [evt]
  exact ⟨of (.sort 0), 0, rfl, rfl, rfl⟩
 | zero =>
  simp only [show ∀ c : Int, decide ((of (Tm.zero)).k = c) = decide ((7 : Int) = c) from fun _ => rfl, Int.reduceEq, decide_true, decide_false, cond_true, cond_false]
  cases e
  rw [rS (n := n) (by omega)]
  simp only [evt]
  exact ⟨of .nat, 0, rfl, rfl, rfl⟩
 | succ a =>
  simp only [show ∀ c : Int, decide ((of (Tm.succ a)).k = c) = decide ((8 : Int) = c) from fun _ => rfl, Int.reduceEq, decide_true, decide_false, cond_true, cond_false]
  have va := bm.v_succ hv
  have zn : (of .nat).size ≤ 100000 := by decide
  rw [rS (n := n) (by omega)]
  simp only [evt]
  rcases gN (kl (M := B + 1) (by omega) (n := n) (by omega) (show Op (B + 1) _ _ 0 _ from op (i := 0) rfl rfl va) (w := .nat) zn) e with ⟨t', e1, eo, e2⟩ | ⟨c', eo, hc⟩
  ·have eo : FF n 82 [jd (cx G) (of (.succ a)), nt 0, .agg [.int .i64 6, .int .i64 0, .fr (.ts [])]] (hp (cx G) (of (.succ a))) = _ := eo
   cases e2
   rw [eo]
   simp only [evt]
   exact ⟨of .nat, 0, rfl, rfl, rfl⟩
  ·have eo : FF n 82 [jd (cx G) (of (.succ a)), nt 0, .agg [.int .i64 6, .int .i64 0, .fr (.ts [])]] (hp (cx G) (of (.succ a))) = _ := eo
   rw [eo]
   simp only [evt]
   rw [decide_eq_false hc.ne]
   exact aW hc (.mk 0 0 [])
 | app f u =>
  simp only [show ∀ c : Int, decide ((of (Tm.app f u)).k = c) = decide ((5 : Int) = c) from fun _ => rfl, Int.reduceEq, decide_true, decide_false, cond_true, cond_false]
  obtain ⟨va, vb⟩ := bm.v_app hv
  have zb := ae vb
  have e : (sq (frm O (inI O g G f)) fun F => match F with
   | .pi C B => sq (chk O (inI O g G u) C) fun _ => made O (B.inst u)
   | _ => some .bad) = some r := e
  rcases qf (M := B + 1) (by omega) (n := n) (by omega) (show Op (B + 1) _ _ 0 _ from op (i := 0) rfl rfl va) 3 e with ⟨F, eo, hk, vf, e2⟩ | ⟨F, eo, hk, e2⟩ | ⟨c', eo, hc⟩
  ·rw [eo]
   cases F <;> try (rw [gf] at hk; simp only [Int.reduceEq] at hk; done)
   rename_i C D
   obtain ⟨vC, vD⟩ := bm.v_pi vf
   have zC := ae vC
   have zi := gq vD vb
   have hs := xN (n := n) (by omega) (of C) [of D] 3 0
   simp only [tm, cT, cQ, ay] at hs
   simp only [evt, of, oM]
   rw [hs]
   simp only [evt]
   rcases gN (yH (M := B + 1) (by omega) (n := n) (by omega) (show Op (B + 1) _ _ 1 _ from op (i := 1) rfl rfl vb) (w := C) (by omega)) e2 with ⟨t', e3, eo, e4⟩ | ⟨c', eo, hc⟩
   ·simp only [of, tm, jd, hp, cT, cQ, ay] at eo
    rw [eo]
    simp only [evt, oM]
    rw [uS (n := n) (by omega) vD vb]
    simp only [evt]
    exact iV (qy (n := n) (m := D.inst u) (by omega)) r e4
   ·simp only [of, tm, jd, hp, cT, cQ, ay] at eo
    rw [eo]
    simp only [evt]
    rw [decide_eq_false hc.ne]
    exact aW hc (.mk 0 0 [])
  ·rw [eo]
   have hs := km (n := n) (by omega)
   have hq := lU (n := n) (c := cx G) (t := of (.app f u)) (i := 1) (by omega) (.mk 0 0 []) (c' := 1) (by decide)
   simp only [tm, cT, cQ, ay] at hs hq
   simp only [evt]
   rw [hs]
   simp only [evt]
   rw [hq]
   have : r = .bad := by
    cases F <;> first | (exact absurd (gf _) hk) | (cases e2; rfl)
   subst this
   exact aW .bad (.mk 0 0 [])
  ·rw [eo]
   have hs := km (n := n) (by omega)
   have hq := lU (n := n) (c := cx G) (t := of (.app f u)) (i := 1) (by omega) (.mk 0 0 []) (c' := c') hc.ne
   simp only [tm, cT, cQ, ay] at hs hq
   simp only [evt]
   rw [hs]
   simp only [evt]
   rw [hq]
   simp only [evt]
   rw [decide_eq_false hc.ne]
   exact aW hc (.mk 0 0 [])
 | refl a =>
  simp only [show ∀ c : Int, decide ((of (Tm.refl a)).k = c) = decide ((11 : Int) = c) from fun _ => rfl, Int.reduceEq, decide_true, decide_false, cond_true, cond_false]
  have va := bm.v_refl hv
  have za := ae va
  have e : (sq (inI O g G a) fun A => sq (lvl O (inI O g G A)) fun _ => made O (.id A a a)) = some r := e
  rcases pT ((op (i := 0) rfl rfl va).iv n (by omega)) e with ⟨A, e1, eo, e2⟩ | ⟨y, c', eo, hc⟩
  ·have vA := ok va A e1
   have zA := ae vA
   rw [show ((0 : Nat) : Int) = 0 from rfl] at eo
   rw [eo]
   simp only [evt]
   rcases p7 (zk (M := B) (by omega) (n := n) (by omega) (iv vA) (ok vA)) e2 with ⟨i, e3, eo, e4⟩ | ⟨i, c', eo, hc⟩
   ·simp only [tms, tm] at eo
    rw [eo]
    simp only [evt, of, ot]
    rw [g7 (n := n) (by omega)]
    simp only [evt]
    exact iV (lM (n := n) (m := .id A a a) (by simp only [of, T.size, T.aA]; omega)) r e4
   ·simp only [tms, tm] at eo
    rw [eo]
    simp only [evt]
    rw [decide_eq_false hc.ne]
    exact aW hc (.mk 0 0 [])
  ·rw [show ((0 : Nat) : Int) = 0 from rfl] at eo
   rw [eo]
   simp only [evt]
   rw [decide_eq_false hc.ne]
   exact aW hc (.mk 0 0 [])
theorem Ag : ∀ g, IhI g (7000500 + 30 * g)
 | 0 => fun n G t _ _ _ _ r e => by cases e
 | g + 1 => fun n G t hn hG hl hv r e => by
  obtain ⟨n, rfl⟩ := af (show 0 < n by omega)
  rw [tt]
  obtain ⟨x, c', h1, h2⟩ := C1 (Ag g) (by omega) (n := n) (by omega) hG hl hv r e
  rw [h1]
  simp only [evt]
  exact ⟨x, c', rfl, h2⟩
end Go.Proofs.Ytajlknlnmmbfcaa
end
section
namespace Go.Proofs.Ytajlknlnmmbfcaa
open Go Go.Ab Go.Dk
abbrev st (s : ByteArray) : V1 := .one (.str s)
abbrev Hk (r : List V1 × List aq) : Prop := ∃ v b, r = ([nt v, bl b], [])
theorem rI (n : Nat) (s : ByteArray) (hs : s.size ≤ 1000000) (neg : Bool) : ∀ g m (i : Nat) (v : Int), g < m → i + g = s.size → Tot (bf n m s neg v i) Hk
 | g, 0, i, v, hg, _ => by omega
 | 0, m + 1, i, v, _, hi => by
  rw [fQ]
  repeat' (first | (simp (disch := omega) only [wrap64]; done) | (simp (disch := omega) only [wrap64]) | (with_reducible refine az (fun hq => ?_) (fun hq => ?_) <;> (try simp (disch := omega) only [wrap64] at hq) <;> (try simp only [decide_eq_true_eq, decide_eq_false_iff_not, Bool.not_eq_true', Bool.not_eq_false', Bool.and_eq_true, Bool.and_eq_false_iff, inB, Bool.not_true, Bool.not_false] at hq) <;> try (exfalso; omega; done)) | ((with_reducible refine ar ?_); (exact ⟨_, _, rfl⟩)))
 | g + 1, m + 1, i, v, hg, hi => by
  rw [fQ]
  have w : IntKind.i64.wrap ((i : Int) + 1) = ((i + 1 : Nat) : Int) := wrap64 (by omega)
  rw [w]
  repeat' (first | (simp (disch := omega) only [wrap64]; done) | (simp (disch := omega) only [wrap64]) | (with_reducible refine az (fun hq => ?_) (fun hq => ?_) <;> (try simp (disch := omega) only [wrap64] at hq) <;> (try simp only [decide_eq_true_eq, decide_eq_false_iff_not, Bool.not_eq_true', Bool.not_eq_false', Bool.and_eq_true, Bool.and_eq_false_iff, inB, Bool.not_true, Bool.not_false] at hq) <;> try (exfalso; omega; done)) | ((with_reducible refine ar ?_); (exact ⟨_, _, rfl⟩)) | (with_reducible exact rI n s hs neg g m (i + 1) _ (by omega) (by omega)))
theorem xv {n : Nat} {s : ByteArray} (hn : s.size + 3 ≤ n) (hs : s.size ≤ 1000000) : Tot (FF n 140 [st s] []) Hk := by
 refine a7 (C := s.size + 2) hn fun n hn _ => ?_
 rw [rF]
 have hx : (s.extract (1 : Int).toNat (s.size : Int).toNat).size ≤ s.size := by rw [ByteArray.size_extract]; omega
 have h1 : ∀ neg, Tot (bf n n (s.extract (1 : Int).toNat (s.size : Int).toNat) neg 0 0) Hk := fun neg => rI n (s.extract (1 : Int).toNat (s.size : Int).toNat) (by omega) neg (s.extract (1 : Int).toNat (s.size : Int).toNat).size n 0 0 (by omega) (by omega)
 have h2 : ∀ neg, Tot (bf n n s neg 0 0) Hk := fun neg => rI n s hs neg s.size n 0 0 (by omega) (by omega)
 repeat' (first | (simp (disch := omega) only [wrap64]; done) | (simp (disch := omega) only [wrap64]) | (with_reducible refine az (fun hq => ?_) (fun hq => ?_) <;> (try simp (disch := omega) only [wrap64] at hq) <;> (try simp only [decide_eq_true_eq, decide_eq_false_iff_not, Bool.not_eq_true', Bool.not_eq_false', Bool.and_eq_true, Bool.and_eq_false_iff, inB, Bool.not_true, Bool.not_false] at hq) <;> try (exfalso; omega; done)) | ((with_reducible refine ar ?_); (exact ⟨_, _, rfl⟩)) | (with_reducible exact h1 _) | (with_reducible exact h2 _))
abbrev FM (s : ByteArray) (lo : Int) (r : List V1 × List aq) : Prop := ∃ v e : Int, r = ([nt v, nt e], []) ∧ -1 ≤ e ∧ e ≤ s.size ∧ (0 ≤ e → lo ≤ e)
theorem sB (n : Nat) (s : ByteArray) (hs : s.size ≤ 1000000) (hn : s.size + 3 ≤ n) (a d : Int) (ha : 0 ≤ a) (hd : 0 ≤ d ∧ d ≤ 10) : ∀ g m (i : Nat), g < m → i + g = s.size → a ≤ i → Tot (cW n m s a d i) (FM s a)
 | g, 0, i, hg, _, _ => by omega
 | g, m + 1, i, hg, hi, hai => by
  have hx : (s.extract a.toNat (i : Int).toNat).size ≤ s.size := by rw [ByteArray.size_extract]; omega
  rw [iY]
  have w : IntKind.i64.wrap ((i : Int) + 1) = ((i + 1 : Nat) : Int) := wrap64 (by omega)
  rw [w]
  cases g with
  | zero =>
   repeat' (first | (simp (disch := omega) only [wrap64]; done) | (simp (disch := omega) only [wrap64]) | (with_reducible refine az (fun hq => ?_) (fun hq => ?_) <;> (try simp (disch := omega) only [wrap64] at hq) <;> (try simp only [decide_eq_true_eq, decide_eq_false_iff_not, Bool.not_eq_true', Bool.not_eq_false', Bool.and_eq_true, Bool.and_eq_false_iff, inB, Bool.not_true, Bool.not_false] at hq) <;> try (exfalso; omega; done)) | (with_reducible refine ak (xv (by omega) (by omega)) ?_; rintro _ ⟨v, b, rfl⟩; simp only [evt]) | ((with_reducible refine ar ?_); (exact ⟨_, _, rfl, by omega, by omega, by omega⟩)))
  | succ g =>
   repeat' (first | (simp (disch := omega) only [wrap64]; done) | (simp (disch := omega) only [wrap64]) | (with_reducible refine az (fun hq => ?_) (fun hq => ?_) <;> (try simp (disch := omega) only [wrap64] at hq) <;> (try simp only [decide_eq_true_eq, decide_eq_false_iff_not, Bool.not_eq_true', Bool.not_eq_false', Bool.and_eq_true, Bool.and_eq_false_iff, inB, Bool.not_true, Bool.not_false] at hq) <;> try (exfalso; omega; done)) | (with_reducible refine ak (xv (by omega) (by omega)) ?_; rintro _ ⟨v, b, rfl⟩; simp only [evt]) | ((with_reducible refine ar ?_); (exact ⟨_, _, rfl, by omega, by omega, by omega⟩)) | (with_reducible exact sB n s hs hn a d ha hd g m (i + 1) (by omega) (by omega) (by omega)))
theorem yx {n : Nat} {s : ByteArray} {a d : Int} (hn : s.size + 5 ≤ n) (hs : s.size ≤ 1000000) (ha : 0 ≤ a ∧ a ≤ s.size) (hd : 0 ≤ d ∧ d ≤ 10) : Tot (FF n 123 [st s, nt a, nt d] []) (FM s a) := by
 refine a7 (C := s.size + 4) hn fun n hn _ => ?_
 rw [mV]
 obtain ⟨i, rfl⟩ : ∃ i : Nat, a = i := ⟨a.toNat, by omega⟩
 exact sB n s hs (by omega) i d ha.1 hd (s.size - i) n i (by omega) (by omega) (by omega)
abbrev xW (s : ByteArray) (a : Int) (r : List V1 × List aq) : Prop := ∃ (t : T) (e : Int), r = ([tm t, nt e], []) ∧ -1 ≤ e ∧ e ≤ s.size ∧ (0 ≤ e → a + t.size ≤ e)
theorem FB {n : Nat} (hn : 1 ≤ n) (k m : Int) : Tot (FF n 22 [nt k, nt m] []) (fun r => r = ([tm (.mk k m [])], [])) := ⟨_, bo hn k m, rfl⟩
theorem vI {n : Nat} (hn : 1 ≤ n) (k : Int) (l : List T) (hl : l.length ≤ 100) : Tot (FF n 45 [nt k, tms l] []) (fun r => r = ([tm (.mk k 0 l)], [])) := ⟨_, bA hn k l (by omega), rfl⟩
theorem GZ {n : Nat} (hn : 1 ≤ n) (k : Int) : Tot (FF n 72 [nt k] []) (fun r => r = ([nt (opsOf k)], [])) := ⟨_, j9 hn k, rfl⟩
section
variable {s : ByteArray} (hs : s.size ≤ 1000000) {d N : Nat} (hd : d ≤ 30) (ih : ∀ n, N ≤ n → ∀ a : Int, 0 ≤ a → a ≤ s.size + 1 → Tot (FF n 110 [st s, nt a, nt (d : Int)] []) (xW s a))
include hs hd ih
theorem yk {n : Nat} (hn : N + 2 ≤ n) {a : Int} (ha : 0 ≤ a ∧ a < s.size) : Tot (FF n 124 [st s, nt a, nt ((d : Int) + 1)] []) (xW s a) := by
 refine a7 (C := N + 1) hn fun n hn _ => ?_
 rw [nK]
 have w : IntKind.i64.wrap ((d : Int) + 1 - 1) = (d : Int) := by rw [wrap64 (by omega)]; omega
 rw [w]
 repeat' (first | (simp (disch := omega) only [wrap64]; done) | (simp (disch := omega) only [wrap64]) | (with_reducible refine az (fun hq => ?_) (fun hq => ?_) <;> (try simp (disch := omega) only [wrap64] at hq) <;> (try simp only [decide_eq_true_eq, decide_eq_false_iff_not, Bool.not_eq_true', Bool.not_eq_false', Bool.and_eq_true, Bool.and_eq_false_iff, inB, Bool.not_true, Bool.not_false] at hq) <;> try (exfalso; omega; done)) | (with_reducible refine ak (ih n (by omega) _ (by omega) (by omega)) ?_; rintro _ ⟨t, e, rfl, h1, h2, h3⟩; simp only [evt]) | (with_reducible refine ak (vI (by omega) _ _ (by simp)) ?_; rintro _ rfl; simp only [evt]) | ((with_reducible refine ar ?_); (exact ⟨.mk _ _ _, _, rfl, by omega, by omega, fun h => by have := h3 h; simp only [T.size, T.aA]; omega⟩)))
theorem AO {n : Nat} (hn : N + 2 ≤ n) {a : Int} (ha : 0 ≤ a ∧ a ≤ s.size) : Tot (FF n 125 [st s, nt a, nt (d : Int)] []) (fun r => ∃ (t : T) (e : Int), r = ([tm t, nt e], []) ∧ -1 ≤ e ∧ e ≤ s.size ∧ (0 ≤ e → a + t.size ≤ e + 1)) := by
 have hs' := hs
 have hd' := hd
 refine a7 (C := N + 1) hn fun n hn _ => ?_
 rw [oy]
 refine ak (ih n (by omega) a (by omega) (by omega)) ?_
 rintro _ ⟨t, e, rfl, h1, h2, h3⟩
 simp only [evt]
 repeat' (first | (simp (disch := omega) only [wrap64]; done) | (simp (disch := omega) only [wrap64]) | (with_reducible refine az (fun hq => ?_) (fun hq => ?_) <;> (try simp (disch := omega) only [wrap64] at hq) <;> (try simp only [decide_eq_true_eq, decide_eq_false_iff_not, Bool.not_eq_true', Bool.not_eq_false', Bool.and_eq_true, Bool.and_eq_false_iff, inB, Bool.not_true, Bool.not_false] at hq) <;> try (exfalso; omega; done)) | (with_reducible refine ak (ih n (by omega) _ (by omega) (by omega)) ?_; rintro _ ⟨u, e', rfl, h4, h5, h6⟩; simp only [evt]) | (with_reducible refine ak (vI (by omega) _ _ (by simp)) ?_; rintro _ rfl; simp only [evt]) | ((with_reducible refine ar ?_); (exact ⟨.mk _ _ _, _, rfl, by omega, by omega, by omega⟩)) | ((with_reducible refine ar ?_); (exact ⟨.mk _ _ _, _, rfl, by omega, by omega, fun h => by have := h3 (by omega); have := h6 (by omega); simp only [T.size, T.aA]; omega⟩)))
theorem nZ (n : Nat) (hn : N + 1 ≤ n) (last : Int) (many : Nat) (hmany : many ≤ 4) (a0 : Int) (ha0 : 0 ≤ a0) : ∀ g m (i : Nat) (a : Int) (acc : List T), g < m → i + g = many → 0 ≤ a → a ≤ s.size → acc.length = i → a0 + T.aA acc ≤ a →
   Tot (bx n m s a d many last i acc) (fun r => ∃ (l : List T) (e : Int), r = ([tms l, nt e], []) ∧ -1 ≤ e ∧ e ≤ s.size ∧ (0 ≤ e → a0 + T.aA l ≤ e))
 | g, 0, i, a, acc, hg, _, _, _, _, _ => by
  have hs' := hs
  have hd' := hd
  omega
 | 0, m + 1, i, a, acc, _, hi, h0, h1, hl, hz => by
  rw [ff]
  rw [decide_eq_false (show ¬ (i : Int) < many by omega)]
  exact ar ⟨_, _, rfl, by omega, by omega, by omega⟩
 | g + 1, m + 1, i, a, acc, hg, hi, h0, h1, hl, hz => by
  have w : IntKind.i64.wrap ((i : Int) + 1) = ((i + 1 : Nat) : Int) := wrap64 (by omega)
  rw [ff, w]
  rw [decide_eq_true (show (i : Int) < many by omega), cond_true]
  refine ak (ih n (by omega) a (by omega) (by omega)) ?_
  rintro _ ⟨t, e, rfl, k1, k2, k3⟩
  simp only [evt, List.length_append, List.length_cons, List.length_nil, hl]
  have hroom : b8 (i + (0 + 1)) = true := aK (by omega)
  have hsz : T.aA (acc ++ [t]) = T.aA acc + t.size := by
   clear hl hz
   induction acc with
   | nil => simp [T.aA]
   | cons x acc ih2 => simp only [List.cons_append, T.aA, ih2]; omega
  rw [hroom]
  simp only [cond_true]
  have nx : 0 ≤ e → e < s.size → Tot (bx n m s (e + 1) d many last ((i + 1 : Nat) : Int) (acc ++ [t])) (fun r => ∃ (l : List T) (e : Int), r = ([tms l, nt e], []) ∧ -1 ≤ e ∧ e ≤ s.size ∧ (0 ≤ e → a0 + T.aA l ≤ e)) := fun h h' =>
   nZ n hn last many hmany a0 ha0 g m (i + 1) (e + 1) (acc ++ [t]) (by omega) (by omega) (by omega) (by omega) (by simp [hl]) (by have := k3 h; rw [hsz]; omega)
  repeat' (first | (simp (disch := omega) only [wrap64]; done) | (simp (disch := omega) only [wrap64]) | (with_reducible refine az (fun hq => ?_) (fun hq => ?_) <;> (try simp (disch := omega) only [wrap64] at hq) <;> (try simp only [decide_eq_true_eq, decide_eq_false_iff_not, Bool.not_eq_true', Bool.not_eq_false', Bool.and_eq_true, Bool.and_eq_false_iff, inB, Bool.not_true, Bool.not_false] at hq) <;> try (exfalso; omega; done)) | ((with_reducible refine ar ?_); (exact ⟨[], _, rfl, by omega, by omega, by omega⟩)) | (with_reducible exact nx (by omega) (by omega)))
theorem iU {n : Nat} (hn : N + 7 ≤ n) {a : Int} (ha : 0 ≤ a ∧ a ≤ s.size) (many : Int) (hm : 0 ≤ many ∧ many ≤ 4) (last : Int) : Tot (FF n 141 [st s, nt a, nt (d : Int), nt many, .one (.int .u8 last)] []) (fun r => ∃ (l : List T) (e : Int), r = ([tms l, nt e], []) ∧ -1 ≤ e ∧ e ≤ s.size ∧ (0 ≤ e → a + T.aA l ≤ e)) := by
 refine a7 (C := N + 6) hn fun n hn _ => ?_
 rw [m5]
 obtain ⟨k, rfl⟩ : ∃ k : Nat, many = k := ⟨many.toNat, by omega⟩
 exact nZ hs hd ih n (by omega) last k (by omega) a ha.1 k n 0 a [] (by omega) (by omega) ha.1 ha.2 rfl (by simp [T.aA])
theorem Ar {n : Nat} (hn : N + 8 ≤ n) {a : Int} (ha : 0 ≤ a ∧ a < s.size) : Tot (FF n 126 [st s, nt a, nt ((d : Int) + 1)] []) (xW s a) := by
 refine a7 (C := N + 7) hn fun n hn _ => ?_
 rw [oH]
 have w : IntKind.i64.wrap ((d : Int) + 1 - 1) = (d : Int) := by rw [wrap64 (by omega)]; omega
 rw [w]
 have k9 : opsOf 9 = 4 := rfl
 have k10 : opsOf 10 = 3 := rfl
 have k14 : opsOf 14 = 3 := rfl
 have k12 : opsOf 12 = 3 := rfl
 repeat' (first | (simp (disch := omega) only [wrap64]; done) | (simp (disch := omega) only [wrap64]) | (with_reducible refine az (fun hq => ?_) (fun hq => ?_) <;> (try simp (disch := omega) only [wrap64] at hq) <;> (try simp only [decide_eq_true_eq, decide_eq_false_iff_not, Bool.not_eq_true', Bool.not_eq_false', Bool.and_eq_true, Bool.and_eq_false_iff, inB, Bool.not_true, Bool.not_false] at hq) <;> try (exfalso; omega; done)) | (with_reducible refine ak (GZ (by omega) _) ?_; rintro _ rfl; simp only [evt]) | (with_reducible refine ak (iU hs hd ih (by omega) ⟨by omega, by omega⟩ _ (by rw [k9]; omega) _) ?_; rintro _ ⟨l, e, rfl, h1, h2, h3⟩; simp only [evt]) | (with_reducible refine ak (iU hs hd ih (by omega) ⟨by omega, by omega⟩ _ (by rw [k10]; omega) _) ?_; rintro _ ⟨l, e, rfl, h1, h2, h3⟩; simp only [evt]) | (with_reducible refine ak (iU hs hd ih (by omega) ⟨by omega, by omega⟩ _ (by rw [k14]; omega) _) ?_; rintro _ ⟨l, e, rfl, h1, h2, h3⟩; simp only [evt]) | (with_reducible refine ak (iU hs hd ih (by omega) ⟨by omega, by omega⟩ _ (by rw [k12]; omega) _) ?_; rintro _ ⟨l, e, rfl, h1, h2, h3⟩; simp only [evt]) | ((with_reducible refine ar ?_); (exact ⟨.mk _ _ _, _, rfl, by omega, by omega, by omega⟩)) | ((with_reducible refine ar ?_); (exact ⟨.mk _ _ _, _, rfl, by omega, by omega, fun h => by have := h3 h; simp only [T.size]; omega⟩)))
end
theorem tx {s : ByteArray} (hs : s.size ≤ 1000000) : ∀ (d : Nat), d ≤ 30 → ∀ n, s.size + 20 + 12 * d ≤ n → ∀ a : Int, 0 ≤ a → a ≤ s.size + 1 → Tot (FF n 110 [st s, nt a, nt (d : Int)] []) (xW s a)
 | 0, hd, n, hn, a, h0, h1 => by
  refine a7 (C := s.size + 19) (by omega) fun n hn _ => ?_
  rw [jj]
  repeat' (first | (simp (disch := omega) only [wrap64]; done) | (simp (disch := omega) only [wrap64]) | (with_reducible refine az (fun hq => ?_) (fun hq => ?_) <;> (try simp (disch := omega) only [wrap64] at hq) <;> (try simp only [decide_eq_true_eq, decide_eq_false_iff_not, Bool.not_eq_true', Bool.not_eq_false', Bool.and_eq_true, Bool.and_eq_false_iff, inB, Bool.not_true, Bool.not_false] at hq) <;> try (exfalso; omega; done)) | ((with_reducible refine ar ?_); (exact ⟨.mk _ _ _, _, rfl, by omega, by omega, by omega⟩)))
 | d + 1, hd, n, hn, a, h0, h1 => by
  have ih := fun n hn => tx hs d (by omega) n hn
  refine a7 (C := s.size + 19 + 12 * (d + 1)) (by omega) fun n hn _ => ?_
  rw [jj]
  have w : IntKind.i64.wrap (((d + 1 : Nat) : Int) - 1) = (d : Int) := by rw [wrap64 (by omega)]; omega
  have w2 : (((d + 1 : Nat) : Int)) = (d : Int) + 1 := rfl
  rw [w, w2]
  repeat' (first | (simp (disch := omega) only [wrap64]; done) | (simp (disch := omega) only [wrap64]) | (with_reducible refine az (fun hq => ?_) (fun hq => ?_) <;> (try simp (disch := omega) only [wrap64] at hq) <;> (try simp only [decide_eq_true_eq, decide_eq_false_iff_not, Bool.not_eq_true', Bool.not_eq_false', Bool.and_eq_true, Bool.and_eq_false_iff, inB, Bool.not_true, Bool.not_false] at hq) <;> try (exfalso; omega; done)) | (with_reducible refine ak (yx (by omega) hs ⟨by omega, by omega⟩ ⟨by omega, by omega⟩) ?_; rintro _ ⟨v, e, rfl, k1, k2, k3⟩; simp only [evt]) | (with_reducible refine ak (FB (by omega) _ _) ?_; rintro _ rfl; simp only [evt]) | (with_reducible refine ak (yk hs (by omega) ih (by omega) ⟨by omega, by omega⟩) ?_; rintro _ ⟨t, e, rfl, k1, k2, k3⟩; simp only [evt]) | (with_reducible refine ak (AO hs (by omega) ih (by omega) ⟨by omega, by omega⟩) ?_; rintro _ ⟨t, e, rfl, k1, k2, k3⟩; simp only [evt]) | (with_reducible refine ak (Ar hs (by omega) ih (by omega) ⟨by omega, by omega⟩) ?_; rintro _ ⟨t, e, rfl, k1, k2, k3⟩; simp only [evt]) | (with_reducible refine ak (ih n (by omega) _ (by omega) (by omega)) ?_; rintro _ ⟨u, e', rfl, k4, k5, k6⟩; simp only [evt]) | (with_reducible refine ak (vI (by omega) _ _ (by simp)) ?_; rintro _ rfl; simp only [evt]) | ((with_reducible refine ar ?_); (exact ⟨.mk _ _ _, _, rfl, by omega, by omega, by omega⟩)) | ((with_reducible refine ar ?_); (exact ⟨.mk _ _ _, _, rfl, by omega, by omega, fun h => by simp only [T.size, T.aA]; omega⟩)) | ((with_reducible refine ar ?_); (exact ⟨t, _, rfl, by omega, by omega, fun h => by have := k3 h; omega⟩)) | ((with_reducible refine ar ?_); (exact ⟨.mk _ _ _, _, rfl, by omega, by omega, fun h => by have := k3 h; simp only [T.size, T.aA]; omega⟩)) | ((with_reducible refine ar ?_); (exact ⟨.mk _ _ _, _, rfl, by omega, by omega, fun h => by have := k3 (by omega); have := k6 h; simp only [T.size, T.aA]; omega⟩)))
abbrev oZ (m : Nat) (r : List V1 × List aq) : Prop := ∃ s : ByteArray, r = ([st s], []) ∧ s.size ≤ m
theorem wG (v : Int) (h : 0 ≤ v ∧ v ≤ 9) : IntKind.u8.wrap (IntKind.i64.wrap (48 + v)) = 48 + v := by
 rw [wrap64 (by omega)]
 rw [IntKind.wrap]; simp [IntKind.signed, IntKind.bits]; omega
theorem C9 {n : Nat} (hn : 5 ≤ n) {v : Int} (hv : 0 ≤ v ∧ v ≤ 99) : Tot (FF n 142 [nt v] []) (oZ 2) := by
 refine a7 (C := 4) hn fun n hn _ => ?_
 rw [qB]
 rw [decide_eq_false (show ¬ v < -9223372036854775807 by omega), decide_eq_false (show ¬ v < 0 by omega)]
 simp only [cond_false]
 have fin : ∀ (m : Nat) (v : Int) (x : ByteArray), 0 ≤ v ∧ v ≤ 9 → x.size ≤ 1 → Tot (dS n (m + 1) v x) (oZ 2) := by
  intro m v x hv hx
  rw [fW, wG v hv, decide_eq_false (show ¬ 9 < v by omega), decide_eq_true (show 0 ≤ 48 + v by omega), decide_eq_true (show 48 + v ≤ 255 by omega)]
  simp only [Bool.and_self, cond_true, cond_false]
  refine az (fun _ => ar ?_) (fun hq => ?_)
  ·exact ⟨_, rfl, by rw [ByteArray.size_append]; show 1 + x.size ≤ 2; omega⟩
  ·have hq' := of_decide_eq_false hq
   exact absurd (show 1 + x.size ≤ 9223372036854775807 by omega) hq'
 obtain ⟨m, rfl⟩ : ∃ m, n = m + 2 := ⟨n - 2, by omega⟩
 by_cases h9 : 9 < v
 ·have hm := nv (show 0 ≤ v by omega) (show (0 : Int) < 10 by omega)
  have hd := vl (show 0 ≤ v by omega) (show (0 : Int) < 10 by omega)
  have hd2 : v.tdiv 10 ≤ 9 := by rw [Int.tdiv_eq_ediv_of_nonneg (by omega)]; omega
  rw [fW, wG _ (by omega), decide_eq_true h9, decide_eq_true (show 0 ≤ 48 + v.tmod 10 by omega), decide_eq_true (show 48 + v.tmod 10 ≤ 255 by omega), wrap64 (by omega)]
  simp only [Bool.and_self, cond_true]
  refine az (fun _ => ?_) (fun hq => ?_)
  ·exact fin m _ _ ⟨hd.1, hd2⟩ (by rw [ByteArray.size_append]; exact Nat.le_refl 1)
  ·have hq' := of_decide_eq_false hq
   exact absurd (show 1 + 0 ≤ 9223372036854775807 by omega) hq'
 ·exact fin (m + 1) v _ ⟨hv.1, by omega⟩ (by decide)
theorem size_bytes (l : List UInt8) : (bytesOf l).size = l.length := by simp [bytesOf, ByteArray.size]
theorem sH (n : Nat) (ts : List T) (hl : ts.length ≤ 1000) (hsz : T.aA ts ≤ 1000) (h : ∀ u ∈ ts, Tot (FF n 127 [tm u] []) (oZ (8 * u.size - 1))) :
   ∀ g m (i : Nat) (x : ByteArray), g < m → i + g = ts.length → x.size + 8 * T.aA (ts.drop i) ≤ 8 * T.aA ts → Tot (cj n m ts x i) (oZ (8 * T.aA ts))
 | g, 0, i, x, hg, _, _ => by omega
 | 0, m + 1, i, x, _, hi, hx => by
  rw [fU, decide_eq_false (show ¬ (i : Int) < ts.length by omega)]
  refine ar ?_
  exact ⟨_, rfl, by omega⟩
 | g + 1, m + 1, i, x, hg, hi, hx => by
  have hlt : i < ts.length := by omega
  have hm := List.getElem_mem hlt
  rw [List.drop_eq_getElem_cons hlt, T.aA] at hx
  have w : IntKind.i64.wrap ((i : Int) + 1) = ((i + 1 : Nat) : Int) := wrap64 (by omega)
  have hp := size_pos ts[i]
  rw [fU, w]
  simp only [Int.toNat_natCast, List.getElem?_eq_getElem hlt, Option.bind_some, ByteArray.size_append, size_bytes, List.length_cons, List.length_nil]
  have nx : ∀ y : ByteArray, y.size ≤ x.size + 8 * ts[i].size → Tot (cj n m ts y ((i + 1 : Nat) : Int)) (oZ (8 * T.aA ts)) := fun y hy => sH n ts hl hsz h g m (i + 1) y (by omega) (by omega) (by omega)
  repeat' (first | (simp (disch := omega) only [wrap64]; done) | (simp (disch := omega) only [wrap64]) | (with_reducible refine az (fun hq => ?_) (fun hq => ?_) <;> (try simp (disch := omega) only [wrap64] at hq) <;> (try simp only [decide_eq_true_eq, decide_eq_false_iff_not, Bool.not_eq_true', Bool.not_eq_false', Bool.and_eq_true, Bool.and_eq_false_iff, inB, Bool.not_true, Bool.not_false] at hq) <;> try (exfalso; omega; done)) | (with_reducible refine ak (h _ hm) ?_; rintro _ ⟨s, rfl, hs⟩; simp only [evt]) | (with_reducible exact nx _ (by simp only [ByteArray.size_append, size_bytes, List.length_cons, List.length_nil]; omega)))
theorem Em {t : T} {i : Nat} {k : T → OR} {Q : List V1 × List aq → Prop} (h : i < t.kids.length) (hk : Tot (k (kd t i)) Q) : Tot (t.kids[i]?.bind k) Q := by
 rw [ch h]; exact hk
theorem Cw (t : T) : ∀ {n : Nat}, 2 * t.size + 10 ≤ n → ah t = true → Tot (FF n 127 [tm t] []) (oZ (8 * t.size - 1)) := by
 induction t using T.ind with | h t ih =>
 intro n hn hv
 have hsz := T.size_eq t
 have hz := ae hv
 have hl := T.bw t.kids
 have ho := iN hv
 refine a7 (C := 2 * t.size + 9) hn fun n hn _ => ?_
 have hk : ∀ i, i < t.kids.length → Tot (FF n 127 [tm (kd t i)] []) (oZ (8 * (kd t i).size - 1)) := fun i hi => ih _ (jh hi) (by have := T.aT (jh hi); omega) (bG hv (jh hi))
 have hkz : ∀ i, i < t.kids.length → (kd t i).size ≤ T.aA t.kids := fun i hi => T.aT (jh hi)
 have hlist : Tot (FF n 143 [tms t.kids] []) (oZ (8 * T.aA t.kids)) := by
  refine a7 (C := 2 * t.size + 8) (by omega) fun n hn e => ?_
  subst e
  rw [qn]
  exact sH n t.kids (by omega) (by omega) (fun u hu => ih u hu (by have := T.aT hu; omega) (bG hv hu)) t.kids.length n 0 _ (by omega) (by omega) (by simp [size_bytes])
 rw [q7]
 simp only [Int.toNat_zero, Int.reduceToNat, Int.toNat_one]
 have l8 : t.k = 8 → t.kids.length = 1 := fun h => bO hv (c := 1) (by rw [h]; rfl)
 have l11 : t.k = 11 → t.kids.length = 1 := fun h => bO hv (c := 1) (by rw [h]; rfl)
 have l15 : t.k = 15 → t.kids.length = 1 := fun h => bO hv (c := 1) (by rw [h]; rfl)
 have l16 : t.k = 16 → t.kids.length = 1 := fun h => bO hv (c := 1) (by rw [h]; rfl)
 have l3 : t.k = 3 → t.kids.length = 2 := fun h => bO hv (c := 2) (by rw [h]; rfl)
 have l13 : t.k = 13 → t.kids.length = 2 := fun h => bO hv (c := 2) (by rw [h]; rfl)
 have l5 : t.k = 5 → t.kids.length = 2 := fun h => bO hv (c := 2) (by rw [h]; rfl)
 have l4 : t.k = 4 → t.kids.length = 2 := fun h => bO hv (c := 2) (by rw [h]; rfl)
 have h01 : t.kids.length = 2 → (kd t 0).size + (kd t 1).size ≤ T.aA t.kids := by
  intro h2
  cases t with | mk k n' ts =>
  match ts, h2 with
  | [x, y], _ => simp [kd, T.kids, T.aA]
 have h0 := hkz 0
 have z0 := size_pos (kd t 0)
 have z1 := size_pos (kd t 1)
 have hn20 : 0 ≤ t.n ∧ t.n ≤ 20 := ⟨(nV (gD hv)).1, (nV (gD hv)).2.1⟩
 simp only [ByteArray.size_append, size_bytes, List.length_cons, List.length_nil]
 repeat' (first | (simp (disch := omega) only [wrap64]; done) | (simp (disch := omega) only [wrap64]) | (with_reducible refine az (fun hq => ?_) (fun hq => ?_) <;> (try simp (disch := omega) only [wrap64] at hq) <;> (try simp only [decide_eq_true_eq, decide_eq_false_iff_not, Bool.not_eq_true', Bool.not_eq_false', Bool.and_eq_true, Bool.and_eq_false_iff, inB, Bool.not_true, Bool.not_false] at hq) <;> try (exfalso; omega; done)) | (with_reducible refine ak (C9 (by omega) (by omega)) ?_; rintro _ ⟨s, rfl, hs⟩; simp only [evt]) | (with_reducible refine ak (hlist) ?_; rintro _ ⟨s, rfl, hs⟩; simp only [evt]) | ((with_reducible refine Em (t := t) (by omega) ?_)) | (with_reducible refine ak (hk 0 (by omega)) ?_; rintro _ ⟨s, rfl, hs⟩; simp only [evt]) | (with_reducible refine ak (hk 1 (by omega)) ?_; rintro _ ⟨s', rfl, hs'⟩; simp only [evt]) | ((with_reducible refine ar ?_); (exact ⟨_, rfl, by simp only [ByteArray.size_append, size_bytes, List.length_cons, List.length_nil]; omega⟩)))
theorem ud {n : Nat} {t : T} (hn : 3 * t.size + 2000 ≤ n) (hz : t.size ≤ 1000000) : Tot (FF n 111 [tm t] []) (fun r => ∃ s : ByteArray, r = ([st s], []) ∧ (ah t = false → s.size = 0)) := by
 refine a7 (C := 3 * t.size + 1999) hn fun n hn _ => ?_
 rw [kL, bk (by omega) (by omega)]
 simp only [evt]
 cases hv : ah t with
 | false => exact ⟨_, rfl, _, rfl, fun _ => rfl⟩
 | true =>
  simp only [Bool.not_true, cond_false]
  refine ak (Cw t (by omega) hv) ?_
  rintro _ ⟨s, rfl, _⟩
  exact ⟨_, rfl, _, rfl, fun h => by cases h⟩
theorem we {n : Nat} {s : ByteArray} (hn : 5 * s.size + 5000 ≤ n) (hs : s.size ≤ 100000) : Tot (FF n 95 [st s] []) (fun r => ∃ t b, r = ([tm t, bl b], []) ∧ (b = true → ah t = true) ∧ (b = false → t = .mk 0 0 [])) := by
 refine a7 (C := 5 * s.size + 4999) hn fun n hn _ => ?_
 rw [mc]
 refine ak (tx (s := s) (by omega) 30 (by omega) n (by omega) 0 (by omega) (by omega)) ?_
 rintro _ ⟨t, e, rfl, h1, h2, h3⟩
 simp only [evt]
 refine az (fun hq => ⟨_, rfl, .mk 0 0 [], false, rfl, by simp, fun _ => rfl⟩) (fun hne => ?_)
 refine az (fun hq => ⟨_, rfl, .mk 0 0 [], false, rfl, by simp, fun _ => rfl⟩) (fun hq => ?_)
 have hq' : e = s.size := by simpa using hq
 have h4 := h3 (by omega)
 refine ak (ud (t := t) (by omega) (by omega)) ?_
 rintro _ ⟨x, rfl, hx⟩
 simp only [evt]
 refine az (fun hq => ⟨_, rfl, .mk 0 0 [], false, rfl, by simp, fun _ => rfl⟩) (fun hq2 => ⟨_, rfl, t, true, rfl, fun _ => ?_, by simp⟩)
 cases hv : ah t with
 | true => rfl
 | false =>
  exfalso
  have hx0 := hx hv
  have hxs : x.toList = s.toList := by simpa using hq2
  have hx1 : x.data = #[] := by
   apply Array.eq_empty_of_size_eq_zero
   exact hx0
  have hxe : x = ByteArray.mk #[] := by cases x; simp at hx1; rw [hx1]
  rw [hxe] at hxs
  rw [← hxs, show bytesOf [] = ByteArray.mk #[] from rfl] at hne
  simp at hne
end Go.Proofs.Ytajlknlnmmbfcaa
end
