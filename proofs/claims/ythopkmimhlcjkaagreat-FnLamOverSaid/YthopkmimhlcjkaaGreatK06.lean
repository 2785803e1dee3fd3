/- Part 6 of 7 of the proof of FnLamOver_holds. -/
import Derived.Test.YthopkmimhlcjkaaGreatK01
import Derived.Test.YthopkmimhlcjkaaGreatK02
import Derived.Test.YthopkmimhlcjkaaGreatK03
import Derived.Test.YthopkmimhlcjkaaGreatK04
import Derived.Test.YthopkmimhlcjkaaGreatK05
section
/- That inference of types ends: all typed terms are in the logical relation. No program in sight. -/
set_option linter.unusedVariables false
set_option linter.unusedSimpArgs false
namespace Go.Proofs.YthopkmimhlcjkaaGreat
namespace Tm
variable {E : Tm → Prop} {G : List Tm}
/-- A stuck term is of each type, as far as its inferred type is good. -/
theorem Sem.stk (cl : Clo E G) {l : Nat} {U : Nat → Pr} (hU : ∀ i, i < l → ∀ t, E t → Stuck t → U i t) {A : Tm} {S X : Pr} (h : Sem E G l U A S X) : ∀ {t}, Stuck t → Bs E G X t → S t := by
  induction h with
  | nat w => intro t s b; exact .stuck b s
  | sort h w => intro t s b; exact ⟨b, hU _ h t b.1 s⟩
  | stuck h => intro t s b; exact b
  | pi w hC hB ih ik =>
    intro t s b
    refine ⟨b, fun u hu => ik u hu (s.app u) ⟨cl.app b.1 (hC.bs hu).1, fun T a => ?_⟩⟩
    cases a with
    | app h w k c => exact ((b.2 _ h).2 _ _ w).2 u hu
  | sig w hC hB ih ik =>
    intro t s b
    have h1 := ih s.fst ⟨cl.fst b.1, fun T a => by
      cases a with
      | fst h w => exact ((b.2 _ h).2 _ _ w).1⟩
    refine ⟨b, h1, ik _ h1 s.snd ⟨cl.snd b.1, fun T a => ?_⟩⟩
    cases a with
    | snd h w => exact ((b.2 _ h).2 _ _ w).2 _ h1
  | id w hT ih => intro t s b; exact ⟨b, .inr s⟩
/-- What reduces to a term of a type is of this type. -/
theorem Sem.exp (cl : Clo E G) {l : Nat} {U : Nat → Pr} (hU : ∀ i, i < l → ∀ t t', E t → Wh t t' → U i t' → U i t) {A : Tm} {S X : Pr} (h : Sem E G l U A S X) : ∀ {t t'}, Wh t t' → S t' → Bs E G X t → S t := by
  induction h with
  | nat w =>
    intro t t' r s b
    cases s with
    | zero _ w => exact .zero b (r.trans w)
    | succ _ w h => exact .succ b (r.trans w) h
    | stuck _ s => exact .stuck b (s.exp r)
  | sort h w => intro t t' r s b; exact ⟨b, hU _ h t t' b.1 r s.2⟩
  | stuck h => intro t t' r s b; exact b
  | pi w hC hB ih ik =>
    intro t t' r s b
    refine ⟨b, fun u hu => ik u hu (r.app u) (s.2 u hu) ⟨cl.app b.1 (hC.bs hu).1, fun T a => ?_⟩⟩
    cases a with
    | app h w k c => exact ((b.2 _ h).2 _ _ w).2 u hu
  | @sig A C B SC GC SB GB w hC hB ih ik =>
    intro t t' r s b
    have h1 := ih r.fst s.2.1 ⟨cl.fst b.1, fun T a => by
      cases a with
      | fst h w => exact ((b.2 _ h).2 _ _ w).1⟩
    have e := (hB _ h1).det ((hB _ s.2.1).conv (Conv.inst .rfl' r.fst.conv.symm))
    refine ⟨b, h1, ik _ h1 r.snd ((e.1 _).2 s.2.2) ⟨cl.snd b.1, fun T a => ?_⟩⟩
    cases a with
    | snd h w => exact ((b.2 _ h).2 _ _ w).2 _ h1
  | id w hT ih => intro t t' r s b; exact ⟨b, s.2.imp (fun ⟨a, k⟩ => ⟨a, r.trans k.1, k.2⟩) (fun h => h.exp r)⟩
/-! The meaning of types, all levels at once. -/
variable (E G) in
abbrev M (A : Tm) (S X : Pr) : Prop := Sem E G 4 (Vs E G 4) A S X
variable (E G) in
def Ok (A : Tm) : Prop := ∃ S X, M E G A S X
variable (E G) in
def el (A t : Tm) : Prop := ∃ S X, M E G A S X ∧ S t
variable (E G) in
def gd (A t : Tm) : Prop := ∃ S X, M E G A S X ∧ X t
theorem M.el {A : Tm} {S X : Pr} (h : M E G A S X) (t : Tm) : S t ↔ el E G A t :=
  ⟨fun k => ⟨S, X, h, k⟩, fun ⟨S', X', h', k⟩ => ((h.det h').1 t).2 k⟩
theorem M.gd {A : Tm} {S X : Pr} (h : M E G A S X) (t : Tm) : X t ↔ gd E G A t :=
  ⟨fun k => ⟨S, X, h, k⟩, fun ⟨S', X', h', k⟩ => ((h.det h').2 t).2 k⟩
theorem Ok.m {A : Tm} (h : Ok E G A) : M E G A (el E G A) (gd E G A) := by
  obtain ⟨S, X, h⟩ := h
  have e1 : S = Tm.el E G A := funext fun t => propext (M.el h t)
  have e2 : X = Tm.gd E G A := funext fun t => propext (M.gd h t)
  rw [← e1, ← e2]; exact h
theorem el.ok {A t : Tm} (h : el E G A t) : Ok E G A := let ⟨S, X, h, _⟩ := h; ⟨S, X, h⟩
theorem gd.ok {A t : Tm} (h : gd E G A t) : Ok E G A := let ⟨S, X, h, _⟩ := h; ⟨S, X, h⟩
theorem el.bs {A t : Tm} (h : el E G A t) : Bs E G (gd E G A) t := (h.ok.m).bs h
theorem gd.ends {A t : Tm} (h : gd E G A t) : E t := (h.ok.m).ends h
theorem Ok.conv {A B : Tm} (h : Ok E G A) (c : Conv A B) : Ok E G B := ⟨_, _, h.m.conv c⟩
theorem el.conv {A B t : Tm} (h : el E G A t) (c : Conv A B) : el E G B t := ⟨_, _, h.ok.m.conv c, h⟩
theorem gd.conv {A B t : Tm} (h : gd E G A t) (c : Conv A B) : gd E G B t := ⟨_, _, h.ok.m.conv c, h⟩
/-- A level that is taken from all. -/
theorem vs4 {i : Nat} {t : Tm} (h : i < 4) (k : Vs E G 4 i t) : Ok E G t ∧ gd E G t t := by
  obtain ⟨S, X, h1, h2⟩ := (vs_iff h).1 k
  have := h1.up (show i ≤ 4 by omega)
  exact ⟨⟨S, X, this⟩, ⟨S, X, this, h2⟩⟩
theorem vs_stuck {l i : Nat} (h : i < l) {t : Tm} (e : E t) (s : Stuck t) : Vs E G l i t := (vs_iff h).2 ⟨_, _, .stuck s, e⟩
/-- What head reduction leaves of goodness. -/
theorem Sem.good_exp {l : Nat} {U : Nat → Pr} {A : Tm} {S X : Pr} (h : Sem E G l U A S X) {t t' : Tm} (e : E t) (w : Wh t t') (k : X t') : X t := by
  cases h with
  | nat _ => exact e
  | sort _ _ => exact e
  | stuck _ => exact e
  | pi _ hC hB =>
    refine ⟨e, fun C B r => ?_⟩
    rcases w.two r with q | q
    · exact k.2 C B q
    · have := (show Canon (Tm.pi C B) from trivial).wh q; subst this
      exact k.2 C B .nil
  | sig _ hC hB =>
    refine ⟨e, fun C B r => ?_⟩
    rcases w.two r with q | q
    · exact k.2 C B q
    · have := (show Canon (Tm.sig C B) from trivial).wh q; subst this
      exact k.2 C B .nil
  | id _ hT =>
    refine ⟨e, fun x y z r => ?_⟩
    rcases w.two r with q | q
    · exact k.2 x y z q
    · have := (show Canon (Tm.id x y z) from trivial).wh q; subst this
      exact k.2 x y z .nil
theorem vs_exp {l i : Nat} (h : i < l) {t t' : Tm} (e : E t) (w : Wh t t') (k : Vs E G l i t') : Vs E G l i t := by
  obtain ⟨S, X, h1, h2⟩ := (vs_iff h).1 k
  exact (vs_iff h).2 ⟨S, X, h1.conv w.conv.symm, h1.good_exp e w h2⟩
theorem el_stuck (cl : Clo E G) {A t : Tm} (h : Ok E G A) (s : Stuck t) (b : Bs E G (gd E G A) t) : el E G A t :=
  h.m.stk cl (fun i hi t e s => vs_stuck hi e s) s b
theorem el_exp (cl : Clo E G) {A t t' : Tm} (w : Wh t t') (k : el E G A t') (b : Bs E G (gd E G A) t) : el E G A t :=
  k.ok.m.exp cl (fun i hi t t' e w k => vs_exp hi e w k) w k b
/-! The types, one kind after the other. -/
theorem gd_nat {t : Tm} : gd E G nat t ↔ E t := (M.gd (.nat .nil) t).symm
theorem gd_sort {i : Nat} (h : i ≤ 3) {t : Tm} : gd E G (sort i) t ↔ E t := (M.gd (.sort (by omega) .nil) t).symm
theorem el_nat {t : Tm} : el E G nat t ↔ NatS E G t := (M.el (.nat .nil) t).symm
theorem el_sort {i : Nat} (h : i ≤ 3) {t : Tm} : el E G (sort i) t ↔ Bs E G E t ∧ Vs E G 4 i t := (M.el (.sort (by omega) .nil) t).symm
theorem el_sort_le {i : Nat} {t : Tm} (k : el E G (sort i) t) : i ≤ 3 := by
  obtain ⟨S, X, h, _⟩ := k
  cases h with
  | nat w => cases w with | cons h _ => cases h
  | sort h w => cases (show Canon (sort i) from trivial).wh w; omega
  | stuck h => exact (h _ .nil trivial).elim
  | pi w => cases w with | cons h _ => cases h
  | sig w => cases w with | cons h _ => cases h
  | id w => cases w with | cons h _ => cases h
theorem el_sort_out {i : Nat} {t : Tm} (k : el E G (sort i) t) : Ok E G t ∧ gd E G t t :=
  vs4 (by have := el_sort_le k; omega) ((el_sort (el_sort_le k)).1 k).2
theorem pi_inv {C B : Tm} (h : Ok E G (pi C B)) : Ok E G C ∧ (∀ u, el E G C u → Ok E G (B.inst u)) ∧
    (∀ f, el E G (pi C B) f ↔ Bs E G (gd E G (pi C B)) f ∧ ∀ u, el E G C u → el E G (B.inst u) (app f u)) ∧
    (∀ X, gd E G (pi C B) X ↔ E X ∧ ∀ C' B', Wh X (pi C' B') → gd E G C C' ∧ ∀ u, el E G C u → gd E G (B.inst u) (B'.inst u)) := by
  obtain ⟨S, X, h⟩ := h
  have h0 := h
  cases h with
  | nat w => cases w with | cons h _ => cases h
  | sort _ w => cases w with | cons h _ => cases h
  | stuck h => exact (h _ .nil trivial).elim
  | sig w => cases w with | cons h _ => cases h
  | id w => cases w with | cons h _ => cases h
  | pi w hC hB =>
    cases (show Canon (pi C B) from trivial).wh w
    have g : ∀ X, gd E G (pi C B) X ↔ E X ∧ ∀ C' B', Wh X (pi C' B') → gd E G C C' ∧ ∀ u, el E G C u → gd E G (B.inst u) (B'.inst u) := fun X => by
      rw [← M.gd h0 X]
      exact ⟨fun k => ⟨k.1, fun C' B' r => ⟨(M.gd hC _).1 (k.2 C' B' r).1, fun u hu => (M.gd (hB u ((M.el hC u).2 hu)) _).1 ((k.2 C' B' r).2 u ((M.el hC u).2 hu))⟩⟩,
        fun k => ⟨k.1, fun C' B' r => ⟨(M.gd hC _).2 (k.2 C' B' r).1, fun u hu => (M.gd (hB u hu) _).2 ((k.2 C' B' r).2 u ((M.el hC u).1 hu))⟩⟩⟩
    refine ⟨⟨_, _, hC⟩, fun u hu => ⟨_, _, hB u ((M.el hC u).2 hu)⟩, fun f => ?_, g⟩
    rw [← M.el h0 f]
    exact ⟨fun k => ⟨(bs_congr (M.gd h0) f).1 k.1, fun u hu => (M.el (hB u ((M.el hC u).2 hu)) _).1 (k.2 u ((M.el hC u).2 hu))⟩,
      fun k => ⟨(bs_congr (M.gd h0) f).2 k.1, fun u hu => (M.el (hB u hu) _).2 (k.2 u ((M.el hC u).1 hu))⟩⟩
theorem sig_inv {C B : Tm} (h : Ok E G (sig C B)) : Ok E G C ∧ (∀ u, el E G C u → Ok E G (B.inst u)) ∧
    (∀ f, el E G (sig C B) f ↔ Bs E G (gd E G (sig C B)) f ∧ el E G C (fst f) ∧ el E G (B.inst (fst f)) (snd f)) ∧
    (∀ X, gd E G (sig C B) X ↔ E X ∧ ∀ C' B', Wh X (sig C' B') → gd E G C C' ∧ ∀ u, el E G C u → gd E G (B.inst u) (B'.inst u)) := by
  obtain ⟨S, X, h⟩ := h
  have h0 := h
  cases h with
  | nat w => cases w with | cons h _ => cases h
  | sort _ w => cases w with | cons h _ => cases h
  | stuck h => exact (h _ .nil trivial).elim
  | pi w => cases w with | cons h _ => cases h
  | id w => cases w with | cons h _ => cases h
  | sig w hC hB =>
    cases (show Canon (sig C B) from trivial).wh w
    have g : ∀ X, gd E G (sig C B) X ↔ E X ∧ ∀ C' B', Wh X (sig C' B') → gd E G C C' ∧ ∀ u, el E G C u → gd E G (B.inst u) (B'.inst u) := fun X => by
      rw [← M.gd h0 X]
      exact ⟨fun k => ⟨k.1, fun C' B' r => ⟨(M.gd hC _).1 (k.2 C' B' r).1, fun u hu => (M.gd (hB u ((M.el hC u).2 hu)) _).1 ((k.2 C' B' r).2 u ((M.el hC u).2 hu))⟩⟩,
        fun k => ⟨k.1, fun C' B' r => ⟨(M.gd hC _).2 (k.2 C' B' r).1, fun u hu => (M.gd (hB u hu) _).2 ((k.2 C' B' r).2 u ((M.el hC u).1 hu))⟩⟩⟩
    refine ⟨⟨_, _, hC⟩, fun u hu => ⟨_, _, hB u ((M.el hC u).2 hu)⟩, fun f => ?_, g⟩
    rw [← M.el h0 f]
    exact ⟨fun k => ⟨(bs_congr (M.gd h0) f).1 k.1, (M.el hC _).1 k.2.1, (M.el (hB _ k.2.1) _).1 k.2.2⟩,
      fun k => ⟨(bs_congr (M.gd h0) f).2 k.1, (M.el hC _).2 k.2.1, (M.el (hB _ ((M.el hC _).2 k.2.1)) _).2 k.2.2⟩⟩
theorem id_inv {t y z : Tm} (h : Ok E G (id t y z)) : Ok E G t ∧
    (∀ e, el E G (id t y z) e ↔ Bs E G (gd E G (id t y z)) e ∧ IdF y z e) ∧
    (∀ X, gd E G (id t y z) X ↔ E X ∧ ∀ t' y' z', Wh X (id t' y' z') → gd E G t t' ∧ el E G t y' ∧ el E G t z' ∧ Conv y' y ∧ Conv z' z) := by
  obtain ⟨S, X, h⟩ := h
  have h0 := h
  cases h with
  | nat w => cases w with | cons h _ => cases h
  | sort _ w => cases w with | cons h _ => cases h
  | stuck h => exact (h _ .nil trivial).elim
  | pi w => cases w with | cons h _ => cases h
  | sig w => cases w with | cons h _ => cases h
  | id w hT =>
    cases (show Canon (id t y z) from trivial).wh w
    have g : ∀ X, gd E G (id t y z) X ↔ E X ∧ ∀ t' y' z', Wh X (id t' y' z') → gd E G t t' ∧ el E G t y' ∧ el E G t z' ∧ Conv y' y ∧ Conv z' z := fun X => by
      rw [← M.gd h0 X]
      exact ⟨fun k => ⟨k.1, fun a b c r => let q := k.2 a b c r; ⟨(M.gd hT _).1 q.1, (M.el hT _).1 q.2.1, (M.el hT _).1 q.2.2.1, q.2.2.2⟩⟩,
        fun k => ⟨k.1, fun a b c r => let q := k.2 a b c r; ⟨(M.gd hT _).2 q.1, (M.el hT _).2 q.2.1, (M.el hT _).2 q.2.2.1, q.2.2.2⟩⟩⟩
    refine ⟨⟨_, _, hT⟩, fun f => ?_, g⟩
    rw [← M.el h0 f]
    exact ⟨fun k => ⟨(bs_congr (M.gd h0) f).1 k.1, k.2⟩, fun k => ⟨(bs_congr (M.gd h0) f).2 k.1, k.2⟩⟩
theorem ok_pi {C B : Tm} (h : Ok E G C) (k : ∀ u, el E G C u → Ok E G (B.inst u)) : Ok E G (pi C B) :=
  ⟨_, _, .pi (SB := fun u => el E G (B.inst u)) (GB := fun u => gd E G (B.inst u)) .nil h.m (fun u hu => (k u hu).m)⟩
theorem ok_id {t y z : Tm} (h : Ok E G t) : Ok E G (id t y z) := ⟨_, _, .id .nil h.m⟩
/-- A type of a level, its meaning there. -/
theorem lev {i m : Nat} {t : Tm} (k : el E G (sort i) t) (hm : i ≤ m) : Sem E G m (Vs E G m) t (el E G t) (gd E G t) := by
  obtain ⟨S, X, h1, h2⟩ := (vs_iff (by have := el_sort_le k; omega)).1 ((el_sort (el_sort_le k)).1 k).2
  have h4 : M E G t S X := h1.up (by have := el_sort_le k; omega)
  have e1 : S = Tm.el E G t := funext fun t => propext (M.el h4 t)
  have e2 : X = Tm.gd E G t := funext fun t => propext (M.gd h4 t)
  rw [← e1, ← e2]; exact h1.up hm
/-- Of a level, by its meaning there. -/
theorem lev_in {m : Nat} (hm : m ≤ 3) {t : Tm} {S X : Pr} (h : Sem E G m (Vs E G m) t S X) (b : Bs E G E t) (g : X t) : el E G (sort m) t :=
  (el_sort hm).2 ⟨b, (vs_iff (by omega)).2 ⟨S, X, h, g⟩⟩
theorem el_sort_pi {C B : Tm} {i j : Nat} (h : el E G (sort i) C) (hj : j ≤ 3) (k : ∀ u, el E G C u → el E G (sort j) (B.inst u)) (b : Bs E G E (pi C B)) : el E G (sort (max i j)) (pi C B) := by
  refine lev_in (by have := el_sort_le h; omega) (.pi (SB := fun u => el E G (B.inst u)) (GB := fun u => gd E G (B.inst u)) .nil (lev h (by omega)) (fun u hu => lev (k u hu) (by omega))) b ⟨b.1, fun C' B' r => ?_⟩
  cases (show Canon (pi C B) from trivial).wh r
  exact ⟨(el_sort_out h).2, fun u hu => (el_sort_out (k u hu)).2⟩
theorem el_sort_sig {C B : Tm} {i j : Nat} (h : el E G (sort i) C) (hj : j ≤ 3) (k : ∀ u, el E G C u → el E G (sort j) (B.inst u)) (b : Bs E G E (sig C B)) : el E G (sort (max i j)) (sig C B) := by
  refine lev_in (by have := el_sort_le h; omega) (.sig (SB := fun u => el E G (B.inst u)) (GB := fun u => gd E G (B.inst u)) .nil (lev h (by omega)) (fun u hu => lev (k u hu) (by omega))) b ⟨b.1, fun C' B' r => ?_⟩
  cases (show Canon (sig C B) from trivial).wh r
  exact ⟨(el_sort_out h).2, fun u hu => (el_sort_out (k u hu)).2⟩
theorem el_sort_id {t y z : Tm} {i : Nat} (h : el E G (sort i) t) (hy : el E G t y) (hz : el E G t z) (b : Bs E G E (id t y z)) : el E G (sort i) (id t y z) := by
  refine lev_in (el_sort_le h) (.id .nil (lev h (Nat.le_refl _))) b ⟨b.1, fun x y' z' r => ?_⟩
  cases (show Canon (id t y z) from trivial).wh r
  exact ⟨(el_sort_out h).2, hy, hz, .rfl', .rfl'⟩
theorem el_app {f u C B : Tm} (h : el E G (pi C B) f) (k : el E G C u) : el E G (B.inst u) (app f u) := (((pi_inv h.ok).2.2.1 f).1 h).2 u k
/-! Recursion. -/
theorem fam_in {p n : Tm} {i : Nat} (hp : el E G (pi nat (sort i)) p) (hn : el E G nat n) : el E G (sort i) (app p n) := el_app (B := sort i) hp hn
theorem el_elim (cl : Clo E G) {p z s : Tm} {i : Nat} (hp : el E G (pi nat (sort i)) p) (hz : el E G (app p zero) z) (hs : el E G (stepTy p) s) {n : Tm} (hn : el E G nat n) : el E G (app p n) (elim p z s n) := by
  have hn' := el_nat.1 hn
  have bs : ∀ {n}, el E G nat n → Bs E G (gd E G (app p n)) (elim p z s n) := fun {n} hn => ⟨cl.elim hp.bs.1 hz.bs.1 hs.bs.1 hn.bs.1, fun T a => by
    cases a with
    | elim => exact (el_sort_out (fam_in hp hn)).2⟩
  clear hn
  induction hn' with
  | @zero n b w => exact el_exp cl ((w.elim _ _ _).trans (.cons .ezero .nil)) (hz.conv (Conv.app .rfl' w.conv.symm)) (bs (el_nat.2 (.zero b w)))
  | @succ n m b w h ih =>
    have hm := el_nat.2 h
    have h1 : el E G (pi ((app p.wk (var 0)).sub (sc m var)) ((app p.wk.wk (succ (var 1))).sub (ups (sc m var)))) (app s m) := el_app hs hm
    have e1 : ((app p.wk (var 0)).sub (sc m var)) = app p m := by
      show app (p.wk.sub _) _ = _
      rw [wk_sub, sub_var]; rfl
    rw [e1] at h1
    have h2 := el_app h1 ih
    rw [stepTy_inst] at h2
    exact el_exp cl ((w.elim _ _ _).trans (.cons .esucc .nil)) (h2.conv (Conv.app .rfl' w.conv.symm)) (bs (el_nat.2 (.succ b w h)))
  | @stuck n b st => exact el_stuck cl (el_sort_out (fam_in hp (el_nat.2 (.stuck b st)))).1 (st.elim _ _ _) (bs (el_nat.2 (.stuck b st)))
/-! All typed terms. -/
theorem sub2_up (b u : Tm) (σ τ : Nat → Tm) : (b.sub (ups σ)).sub (sc u τ) = ((b.sub (ups σ)).sub (ups τ)).inst u := (ups_inst _ _ _).symm
variable (E G) in
def Good (D H : List Tm) (σ τ : Nat → Tm) : Prop := ∀ n A, look D n = some A → el E G ((A.sub σ).sub τ) ((σ n).sub τ) ∧ ∀ T, Al H (σ n) T → gd E G ((A.sub σ).sub τ) (T.sub τ)
theorem Good.cons {D H : List Tm} {σ τ : Nat → Tm} (g : Good E G D H σ τ) {A u : Tm} (hu : el E G ((A.sub σ).sub τ) u) (hA : gd E G ((A.sub σ).sub τ) ((A.sub σ).sub τ)) : Good E G (A :: D) (A.sub σ :: H) (ups σ) (sc u τ) := by
  intro n B hB
  cases n with
  | zero =>
    simp only [look, Option.some.injEq] at hB; subst hB
    rw [wk_ups, wk_sub]
    refine ⟨hu, fun T a => ?_⟩
    cases a with
    | var h =>
      simp only [look, Option.some.injEq] at h; subst h
      rw [wk_sub]; exact hA
  | succ n =>
    obtain ⟨C, hC, rfl⟩ := Option.map_eq_some_iff.1 hB
    rw [wk_ups, wk_sub]
    obtain ⟨g1, g2⟩ := g n C hC
    refine ⟨by show el E G _ ((σ n).wk.sub (sc u τ)); rw [wk_sub]; exact g1, fun T a => ?_⟩
    obtain ⟨T', rfl, a'⟩ := Al.wk_inv (A := A.sub σ) a
    rw [wk_sub]; exact g2 _ a'
theorem Ty.sem (cl : Clo E G) {D : List Tm} {t A : Tm} (h : Ty D t A) : Wf D → ∀ {H σ τ}, Good E G D H σ τ →
    el E G ((A.sub σ).sub τ) ((t.sub σ).sub τ) ∧ ∀ T, Al H (t.sub σ) T → gd E G ((A.sub σ).sub τ) (T.sub τ) := by
  induction h with
  | var h => intro w H σ τ g; exact g _ _ h
  | @sort D n h =>
    intro w H σ τ g
    have b : Bs E G E (Tm.sort n) := ⟨cl.sort n, fun T a => by cases a; exact cl.sort _⟩
    refine ⟨lev_in (m := n + 1) (by omega) (.sort (i := n) (by omega) .nil) b b.1, fun T a => ?_⟩
    cases a with
    | sort h => exact (gd_sort (by omega)).2 (cl.sort _)
  | @pi D A B i j h k ih ik =>
    intro w H σ τ g
    obtain ⟨a1, a2⟩ := ih w g
    have a1 : el E G (Tm.sort i) ((A.sub σ).sub τ) := a1
    have hi := el_sort_le a1
    have hj : j ≤ 3 := (k.valid (.cons w h)).le
    have b : Bs E G E (Tm.pi ((A.sub σ).sub τ) ((B.sub (ups σ)).sub (ups τ))) := ⟨cl.pi a1.bs.1, fun T a => by cases a; exact cl.sort _⟩
    refine ⟨el_sort_pi a1 hj (fun u hu => ?_) b, fun T a => ?_⟩
    · rw [← sub2_up]
      exact (ik (.cons w h) (g.cons hu (el_sort_out a1).2)).1
    · cases a with
      | pi h' w' k' v => exact (gd_sort (i := max i j) (by omega)).2 (cl.sort _)
  | @sig D A B i j h k ih ik =>
    intro w H σ τ g
    obtain ⟨a1, a2⟩ := ih w g
    have a1 : el E G (Tm.sort i) ((A.sub σ).sub τ) := a1
    have hi := el_sort_le a1
    have hj : j ≤ 3 := (k.valid (.cons w h)).le
    have b : Bs E G E (Tm.sig ((A.sub σ).sub τ) ((B.sub (ups σ)).sub (ups τ))) := ⟨cl.sig a1.bs.1, fun T a => by cases a; exact cl.sort _⟩
    refine ⟨el_sort_sig a1 hj (fun u hu => ?_) b, fun T a => ?_⟩
    · rw [← sub2_up]
      exact (ik (.cons w h) (g.cons hu (el_sort_out a1).2)).1
    · cases a with
      | sig h' w' k' v => exact (gd_sort (i := max i j) (by omega)).2 (cl.sort _)
  | @lam D A B b i j h k l ih ik il =>
    intro w H σ τ g
    obtain ⟨a1, a2⟩ := ih w g
    have a1 : el E G (Tm.sort i) ((A.sub σ).sub τ) := a1
    have oA := el_sort_out a1
    have ww := Wf.cons w h
    have oP : Ok E G (Tm.pi ((A.sub σ).sub τ) ((B.sub (ups σ)).sub (ups τ))) := ok_pi oA.1 fun u hu => by
      rw [← sub2_up]; exact (ik ww (g.cons hu oA.2)).1.ok
    have gP : ∀ {H σ τ}, Good E G D H σ τ → ∀ T, Al H ((Tm.lam A b).sub σ) T → gd E G ((A.sub σ).sub τ) ((A.sub σ).sub τ) → Ok E G (Tm.pi ((A.sub σ).sub τ) ((B.sub (ups σ)).sub (ups τ))) → gd E G (Tm.pi ((A.sub σ).sub τ) ((B.sub (ups σ)).sub (ups τ))) (T.sub τ) := by
      intro H σ τ g T a oA oP
      cases a with
      | @lam _ _ _ B' S R i j h' w' k' l' v =>
        refine ((pi_inv oP).2.2.2 _).2 ⟨cl.pi oA.ends, fun X Y r => ?_⟩
        cases (show Canon (Tm.sub (Tm.pi (A.sub σ) B') τ) from trivial).wh r
        refine ⟨oA, fun u hu => ?_⟩
        rw [← sub2_up, ups_inst]
        exact (ik ww (g.cons hu oA)).2 _ k'
    have bs : Bs E G (gd E G (Tm.pi ((A.sub σ).sub τ) ((B.sub (ups σ)).sub (ups τ)))) (Tm.lam ((A.sub σ).sub τ) ((b.sub (ups σ)).sub (ups τ))) :=
      ⟨cl.lam a1.bs.1, fun T a => by
        have g' : Good E G D G (fun n => (σ n).sub τ) Tm.var := fun n C hC => by
          obtain ⟨g1, g2⟩ := g n C hC
          rw [sub_sub] at g1 g2
          rw [sub_var, sub_var]
          exact ⟨g1, fun T a => by rw [sub_var]; exact g1.bs.2 T a⟩
        have eA : ∀ C : Tm, (C.sub fun n => (σ n).sub τ).sub Tm.var = (C.sub σ).sub τ := fun C => by rw [sub_var, sub_sub]
        have eB : ∀ C : Tm, (C.sub (ups fun n => (σ n).sub τ)).sub (ups Tm.var) = (C.sub (ups σ)).sub (ups τ) := fun C => by rw [ups_var, sub_var, sub_sub, ups_sub]
        have := gP g' T (by
          show Al G (Tm.lam (A.sub fun n => (σ n).sub τ) (b.sub (ups fun n => (σ n).sub τ))) T
          rw [sub_sub, sub_sub, ups_sub] at a; exact a)
        rw [eA, eB, sub_var] at this
        exact this oA.2 oP⟩
    refine ⟨((pi_inv oP).2.2.1 _).2 ⟨bs, fun u hu => ?_⟩, fun T a => gP g T a oA.2 oP⟩
    have hb := (ik ww (g.cons hu oA.2)).1
    rw [sub2_up, sub2_up] at hb
    refine el_exp cl (.cons .beta .nil) hb ⟨cl.app bs.1 hu.bs.1, fun T a => ?_⟩
    cases a with
    | app h' w' k' c => exact ((((pi_inv oP).2.2.2 _).1 (bs.2 _ h')).2 _ _ w').2 u hu
  | @app D f u A B h k ih ik =>
    intro w H σ τ g
    obtain ⟨f1, f2⟩ := ih w g
    obtain ⟨u1, u2⟩ := ik w g
    have f1 : el E G (Tm.pi ((A.sub σ).sub τ) ((B.sub (ups σ)).sub (ups τ))) _ := f1
    rw [inst_sub, inst_sub]
    refine ⟨el_app f1 u1, fun T a => ?_⟩
    cases a with
    | app h' w' k' c =>
      have := ((((pi_inv f1.ok).2.2.2 _).1 (f2 _ h')).2 _ _ (w'.sub τ)).2 _ u1
      rw [inst_sub]; exact this
  | nat =>
    intro w H σ τ g
    have b : Bs E G E Tm.nat := ⟨cl.nat, fun T a => by cases a; exact cl.sort _⟩
    refine ⟨lev_in (by omega) (.nat .nil) b b.1, fun T a => ?_⟩
    cases a with
    | nat => exact (gd_sort (by omega)).2 (cl.sort _)
  | zero =>
    intro w H σ τ g
    have b : Bs E G E Tm.zero := ⟨cl.zero, fun T a => by cases a; exact cl.nat⟩
    refine ⟨el_nat.2 (.zero b .nil), fun T a => ?_⟩
    cases a with
    | zero => exact gd_nat.2 cl.nat
  | @succ D n h ih =>
    intro w H σ τ g
    obtain ⟨a1, a2⟩ := ih w g
    have a1 : el E G Tm.nat _ := a1
    have b : Bs E G E (Tm.succ ((n.sub σ).sub τ)) := ⟨cl.succ a1.bs.1, fun T a => by cases a; exact cl.nat⟩
    refine ⟨el_nat.2 (.succ b .nil (el_nat.1 a1)), fun T a => ?_⟩
    cases a with
    | succ => exact gd_nat.2 cl.nat
  | @elim D p z s n i h k l m ih ik il im =>
    intro w H σ τ g
    have p1 : el E G (Tm.pi Tm.nat (Tm.sort i)) ((p.sub σ).sub τ) := (ih w g).1
    have z1 : el E G (Tm.app ((p.sub σ).sub τ) Tm.zero) ((z.sub σ).sub τ) := (ik w g).1
    have s1 := (il w g).1
    rw [stepTy_sub, stepTy_sub] at s1
    have n1 : el E G Tm.nat ((n.sub σ).sub τ) := (im w g).1
    refine ⟨el_elim cl p1 z1 s1 n1, fun T a => ?_⟩
    cases a with
    | elim => exact (el_sort_out (fam_in p1 n1)).2
  | @id D t a b i h k l ih ik il =>
    intro w H σ τ g
    have t1 : el E G (Tm.sort i) ((t.sub σ).sub τ) := (ih w g).1
    have a1 := (ik w g).1
    have b1 := (il w g).1
    have b : Bs E G E (Tm.id ((t.sub σ).sub τ) ((a.sub σ).sub τ) ((b.sub σ).sub τ)) := ⟨cl.id t1.bs.1 a1.bs.1 b1.bs.1, fun T a => by cases a; exact cl.sort _⟩
    refine ⟨el_sort_id t1 a1 b1 b, fun T a => ?_⟩
    cases a with
    | id => exact (gd_sort (i := i) (el_sort_le t1)).2 (cl.sort _)
  | @refl D a A i h k ih ik =>
    intro w H σ τ g
    obtain ⟨a1, a2⟩ := ih w g
    have A1 : el E G (Tm.sort i) ((A.sub σ).sub τ) := (ik w g).1
    have o : Ok E G (Tm.id ((A.sub σ).sub τ) ((a.sub σ).sub τ) ((a.sub σ).sub τ)) := ok_id (el_sort_out A1).1
    have gI : ∀ X, gd E G ((A.sub σ).sub τ) X → gd E G (Tm.id ((A.sub σ).sub τ) ((a.sub σ).sub τ) ((a.sub σ).sub τ)) (Tm.id X ((a.sub σ).sub τ) ((a.sub σ).sub τ)) := fun X hX =>
      ((id_inv o).2.2 _).2 ⟨cl.id hX.ends a1.bs.1 a1.bs.1, fun t' y' z' r => by
        cases (show Canon (Tm.id X ((a.sub σ).sub τ) ((a.sub σ).sub τ)) from trivial).wh r
        exact ⟨hX, a1, a1, .rfl', .rfl'⟩⟩
    refine ⟨((id_inv o).2.1 _).2 ⟨⟨cl.refl a1.bs.1 fun X hX => (a1.bs.2 X hX).ends, fun T q => ?_⟩, .inl ⟨_, .nil, .rfl', .rfl'⟩⟩, fun T q => ?_⟩
    · cases q with
      | refl h' k' w' => exact gI _ (a1.bs.2 _ h')
    · cases q with
      | refl h' k' w' => exact gI _ (a2 _ h')
  | @move D p e x t y z i h k l m ih ik il im =>
    intro w H σ τ g
    obtain ⟨e1, e2⟩ := ih w g
    have e1 : el E G (Tm.id ((t.sub σ).sub τ) ((y.sub σ).sub τ) ((z.sub σ).sub τ)) _ := e1
    have p1 : el E G (Tm.pi ((t.sub σ).sub τ) (Tm.sort i)) ((p.sub σ).sub τ) := (ik w g).1
    have x1 : el E G (Tm.app ((p.sub σ).sub τ) ((y.sub σ).sub τ)) ((x.sub σ).sub τ) := (il w g).1
    have z1 := (im w g).1
    obtain ⟨io, ie, ig⟩ := id_inv e1.ok
    have zT : ∀ q, gd E G (Tm.id ((t.sub σ).sub τ) ((y.sub σ).sub τ) ((z.sub σ).sub τ)) q → ∀ t' y' z', Wh q (Tm.id t' y' z') → el E G ((t.sub σ).sub τ) z' ∧ Conv z' ((z.sub σ).sub τ) := fun q hq t' y' z' r => let k := ((ig q).1 hq).2 t' y' z' r; ⟨k.2.2.1, k.2.2.2.2⟩
    have oz : Ok E G (Tm.app ((p.sub σ).sub τ) ((z.sub σ).sub τ)) := (el_sort_out (el_app (B := Tm.sort i) p1 z1)).1
    have gz : ∀ z', el E G ((t.sub σ).sub τ) z' → Conv z' ((z.sub σ).sub τ) → gd E G (Tm.app ((p.sub σ).sub τ) ((z.sub σ).sub τ)) (Tm.app ((p.sub σ).sub τ) z') := fun z' hz c =>
      (el_sort_out (el_app (B := Tm.sort i) p1 hz)).2.conv (Conv.app .rfl' c)
    have bs : Bs E G (gd E G (Tm.app ((p.sub σ).sub τ) ((z.sub σ).sub τ))) (Tm.move ((p.sub σ).sub τ) ((e.sub σ).sub τ) ((x.sub σ).sub τ)) :=
      ⟨cl.move p1.bs.1 e1.bs.1 x1.bs.1, fun T a => by
        cases a with
        | move h' w' k' v c u l' d => let q := zT _ (e1.bs.2 _ h') _ _ _ w'; exact gz _ q.1 q.2⟩
    refine ⟨?_, fun T a => ?_⟩
    · rcases ((ie _).1 e1).2 with ⟨a, r, c1, c2⟩ | hs
      · exact el_exp cl ((r.move _ _).trans (.cons .mrefl .nil)) (x1.conv (Conv.app .rfl' (c1.symm.trans c2))) bs
      · exact el_stuck cl oz (hs.move _ _) bs
    · cases a with
      | move h' w' k' v c u l' d => let q := zT _ (e2 _ h') _ _ _ (w'.sub τ); exact gz _ q.1 q.2
  | @pair D s a b A B i j h r q k l ih iq ik il =>
    intro w H σ τ g
    obtain ⟨s1, s2⟩ := ih w g
    have s1 : el E G (Tm.sort i) ((s.sub σ).sub τ) := s1
    have so := el_sort_out s1
    have a1 := (ik w g).1
    have b1 := (il w g).1
    rw [inst_sub, inst_sub] at b1
    have cS : Conv ((s.sub σ).sub τ) (Tm.sig ((A.sub σ).sub τ) ((B.sub (ups σ)).sub (ups τ))) := (r.conv.sub σ).sub τ
    have oS := so.1.conv cS
    obtain ⟨o1, o2, o3, o4⟩ := sig_inv oS
    have gS := ((o4 _).1 (so.2.conv cS)).2
    obtain ⟨X, Y, wS, c1, c2⟩ := cS.wh_sig
    obtain ⟨gX, gY⟩ := gS X Y wS
    have bs : Bs E G (gd E G ((s.sub σ).sub τ)) (Tm.pair ((s.sub σ).sub τ) ((a.sub σ).sub τ) ((b.sub σ).sub τ)) :=
      ⟨cl.pair s1.bs.1 a1.bs.1 b1.bs.1, fun T a => by
        cases a with
        | pair => exact so.2⟩
    refine ⟨el.conv ?_ cS.symm, fun T a => ?_⟩
    · have f1 : el E G ((A.sub σ).sub τ) (Tm.fst (Tm.pair ((s.sub σ).sub τ) ((a.sub σ).sub τ) ((b.sub σ).sub τ))) :=
        el_exp cl (.cons .fpair .nil) a1 ⟨cl.fst bs.1, fun T q => by
          cases q with
          | fst h' w' => cases h' with
            | pair => cases wS.same w' trivial trivial; exact gX⟩
      refine (o3 _).2 ⟨⟨bs.1, fun T q => (bs.2 T q).conv cS⟩, f1, ?_⟩
      refine el_exp cl (.cons .spair .nil) (b1.conv (Conv.inst .rfl' (Par.conv (.fpair (Par.rfl' _))).symm)) ⟨cl.snd bs.1, fun T q => ?_⟩
      cases q with
      | snd h' w' => cases h' with
        | pair => cases wS.same w' trivial trivial; exact gY _ f1
    · cases a with
      | pair => exact so.2
  | @fst D q A B h ih =>
    intro w H σ τ g
    obtain ⟨q1, q2⟩ := ih w g
    have q1 : el E G (Tm.sig ((A.sub σ).sub τ) ((B.sub (ups σ)).sub (ups τ))) _ := q1
    obtain ⟨o1, o2, o3, o4⟩ := sig_inv q1.ok
    refine ⟨((o3 _).1 q1).2.1, fun T a => ?_⟩
    cases a with
    | fst h' w' => exact (((o4 _).1 (q2 _ h')).2 _ _ (w'.sub τ)).1
  | @snd D q A B h ih =>
    intro w H σ τ g
    obtain ⟨q1, q2⟩ := ih w g
    have q1 : el E G (Tm.sig ((A.sub σ).sub τ) ((B.sub (ups σ)).sub (ups τ))) _ := q1
    obtain ⟨o1, o2, o3, o4⟩ := sig_inv q1.ok
    have f1 := ((o3 _).1 q1).2
    rw [inst_sub, inst_sub]
    refine ⟨f1.2, fun T a => ?_⟩
    cases a with
    | snd h' w' => rw [inst_sub]; exact (((o4 _).1 (q2 _ h')).2 _ _ (w'.sub τ)).2 _ f1.1
  | conv h c k ih ik =>
    intro w H σ τ g
    obtain ⟨a1, a2⟩ := ih w g
    have c' := (c.sub σ).sub τ
    exact ⟨a1.conv c', fun T a => (a2 T a).conv c'⟩
/-! In a well-formed context all terms are searched to the end. -/
theorem look_app : ∀ (X D : List Tm) (n : Nat), look (X ++ D) (n + X.length) = (look D n).map (·.ren (· + X.length))
  | [], D, n => by
    show look D n = _
    cases look D n with
    | none => rfl
    | some A => show some A = some (A.ren fun n => n); rw [ren_id]
  | A :: X, D, n => by
    show look (A :: (X ++ D)) (n + X.length + 1) = _
    show (look (X ++ D) (n + X.length)).map wk = _
    rw [look_app X D n]
    cases look D n with
    | none => rfl
    | some B => simp only [Option.map_some, wk, ren_ren, List.length_cons]; rfl
theorem good_id (cl : Clo E G) : ∀ (D X : List Tm), G = X ++ D → Wf D → Good E G D G (fun n => Tm.var (n + X.length)) Tm.var
  | [], X, e, w => fun n A h => by cases h
  | A :: D, X, e, w => by
    cases w with
    | cons w h =>
      have g := good_id cl D (X ++ [A]) (by rw [e]; simp) w
      have len : (X ++ [A]).length = X.length + 1 := by simp
      rw [len] at g
      have s1 := (h.sem cl w g).1
      have so := el_sort_out (i := _) s1
      have eA : (A.sub fun n => Tm.var (n + (X.length + 1))).sub Tm.var = A.ren (· + (X.length + 1)) := by rw [sub_var, ← ren_eq]
      rw [eA] at so
      have shift : ∀ C : Tm, (C.wk.sub fun n => Tm.var (n + X.length)).sub Tm.var = (C.sub fun n => Tm.var (n + (X.length + 1))).sub Tm.var := fun C => by
        rw [sub_var, sub_var, wk, ren_sub]
        congr 1; funext n; simp only [Nat.add_assoc, Nat.add_comm 1]
      have lk := look_app X (A :: D) 0
      rw [← e] at lk
      intro n B hB
      cases n with
      | zero =>
        simp only [look, Option.some.injEq] at hB; subst hB
        rw [shift, eA]
        show el E G _ (Tm.var (0 + X.length)) ∧ _
        have lk' : look G (0 + X.length) = some (A.ren (· + (X.length + 1))) := by
          rw [lk]
          show some (A.wk.ren _) = _
          rw [wk, ren_ren]
          congr 2; funext n; simp only [Nat.add_assoc, Nat.add_comm 1]
        have bs : Bs E G (gd E G (A.ren (· + (X.length + 1)))) (Tm.var (0 + X.length)) := ⟨cl.var _, fun T a => by
          cases a with
          | var h => rw [lk'] at h; cases h; exact so.2⟩
        exact ⟨el_stuck cl so.1 (.var _) bs, fun T a => by rw [sub_var]; exact bs.2 T a⟩
      | succ n =>
        obtain ⟨C, hC, rfl⟩ := Option.map_eq_some_iff.1 hB
        obtain ⟨g1, g2⟩ := g n C hC
        rw [shift]
        have ev : Tm.var (n + 1 + X.length) = Tm.var (n + (X.length + 1)) := by rw [Nat.add_assoc, Nat.add_comm 1]
        exact ⟨by show el E G _ (Tm.var (n + 1 + X.length)); rw [ev]; exact g1, fun T a => g2 T (by show Al G (Tm.var (n + (X.length + 1))) T; rw [← ev]; exact a)⟩
theorem Clo.typ (cl : Clo E G) (w : Wf G) {t A : Tm} (a : Al G t A) : E A := by
  have g := good_id cl G [] rfl w
  have := ((a.sound w).sem cl w g).2 A (by
    have e : t.sub (fun n => Tm.var (n + ([] : List Tm).length)) = t := sub_var t
    rw [e]; exact a)
  have e2 := this.ends
  rwa [sub_var] at e2
theorem Clo.all (cl : Clo E G) (w : Wf G) (t : Tm) : E t := by
  induction t with
  | var n => exact cl.var n
  | sort n => exact cl.sort n
  | pi a b ha hb => exact cl.pi ha
  | lam a b ha hb => exact cl.lam ha
  | app f a hf ha => exact cl.app hf ha
  | nat => exact cl.nat
  | zero => exact cl.zero
  | succ n h => exact cl.succ h
  | elim p z s n h k l m => exact cl.elim h k l m
  | id t a b h k l => exact cl.id h k l
  | refl a h => exact cl.refl h fun A q => cl.typ w q
  | move p e x h k l => exact cl.move h k l
  | sig a b ha hb => exact cl.sig ha
  | pair s a b h k l => exact cl.pair h k l
  | fst q h => exact cl.fst h
  | snd q h => exact cl.snd h
end Tm
end Go.Proofs.YthopkmimhlcjkaaGreat
end
section
/- Inference of types with limits, as the reference does it (inS) and as the program does it (inI): both end, are sound, and agree. No program in sight. -/
set_option linter.unusedVariables false
set_option linter.unusedSimpArgs false
namespace Go.Proofs.YthopkmimhlcjkaaGreat
namespace Tm
inductive Rs where
  | ok (t : Tm) | bad | opn
structure Orc where
  vd : Tm → Bool
  hn : Tm → Rs
  sm : Tm → Tm → Rs
structure OrcOk (O : Orc) : Prop where
  hn_ok : ∀ {t h}, O.hn t = .ok h → Wh t h ∧ (∀ u, ¬ Hd h u) ∧ O.vd h = true
  hn_nb : ∀ t, O.hn t ≠ .bad
  sm_ok : ∀ {a b x}, O.sm a b = .ok x → Conv a b
  sm_nb : ∀ {a b}, O.sm a b = .bad → ¬ Conv a b
  sm_inv : ∀ {a b}, O.vd b = false → O.sm a b = .opn
  v_pi : ∀ {a b}, O.vd (pi a b) = true → O.vd a = true ∧ O.vd b = true
  v_sig : ∀ {a b}, O.vd (sig a b) = true → O.vd a = true ∧ O.vd b = true
  v_lam : ∀ {a b}, O.vd (lam a b) = true → O.vd a = true ∧ O.vd b = true
  v_app : ∀ {a b}, O.vd (app a b) = true → O.vd a = true ∧ O.vd b = true
  v_succ : ∀ {a}, O.vd (succ a) = true → O.vd a = true
  v_elim : ∀ {p z s n}, O.vd (elim p z s n) = true → O.vd p = true ∧ O.vd z = true ∧ O.vd s = true ∧ O.vd n = true ∧ O.vd (app p zero) = true
  v_id : ∀ {t a b}, O.vd (id t a b) = true → O.vd t = true ∧ O.vd a = true ∧ O.vd b = true
  v_refl : ∀ {a}, O.vd (refl a) = true → O.vd a = true
  v_move : ∀ {t a b}, O.vd (move t a b) = true → O.vd t = true ∧ O.vd a = true ∧ O.vd b = true
  v_pair : ∀ {t a b}, O.vd (pair t a b) = true → O.vd t = true ∧ O.vd a = true ∧ O.vd b = true
  v_fst : ∀ {a}, O.vd (fst a) = true → O.vd a = true
  v_snd : ∀ {a}, O.vd (snd a) = true → O.vd a = true
  v_lam3 : ∀ {a b}, O.vd (lam a b) = true → O.vd (pi a (sort 3)) = true
  v_sort : ∀ {n}, O.vd (sort n) = true ↔ n ≤ 3
  v_nat : O.vd nat = true
def sq (x : Option Rs) (k : Tm → Option Rs) : Option Rs := match x with
  | some (.ok t) => k t
  | x => x
def lv : Tm → Nat
  | sort n => n
  | _ => 0
section
variable (O : Orc)
def frm (x : Option Rs) : Option Rs := sq x fun s => some (O.hn s)
def lvl (x : Option Rs) : Option Rs := sq (frm O x) fun h => match h with
  | sort n => some (.ok (sort n))
  | _ => some .bad
def chk (x : Option Rs) (want : Tm) : Option Rs := sq x fun s => some (O.sm s want)
def made (t : Tm) : Option Rs := some (if O.vd t = true then .ok t else .opn)
def fam (x : Option Rs) (t : Tm) : Option Rs := sq (frm O x) fun f => match f with
  | pi C D => sq (some (O.sm C t)) fun _ => sq (some (O.hn D)) fun h => match h with
    | sort _ => some (.ok h)
    | _ => some .bad
  | _ => some .bad
variable (I : List Tm → Tm → Option Rs)
def bnd (G : List Tm) (a b : Tm) : Option Rs := sq (lvl O (I G a)) fun i => sq (lvl O (I (a :: G) b)) fun j => some (.ok (sort (max (lv i) (lv j))))
def kS (G : List Tm) : Tm → Option Rs
  | var n => match look G n with
    | some A => some (.ok A)
    | none => some .bad
  | sort n => some (if n < 3 then .ok (sort (n + 1)) else .bad)
  | pi a b => bnd O I G a b
  | sig a b => bnd O I G a b
  | lam a b => sq (lvl O (I G a)) fun _ => sq (I (a :: G) b) fun B => sq (bnd O I G a B) fun _ => some (.ok (pi a B))
  | app f u => sq (frm O (I G f)) fun F => match F with
    | pi C B => sq (chk O (I G u) C) fun _ => some (.ok (B.inst u))
    | _ => some .bad
  | nat => some (.ok (sort 0))
  | zero => some (.ok nat)
  | succ n => sq (chk O (I G n) nat) fun _ => some (.ok nat)
  | elim p z s n => sq (fam O (I G p) nat) fun _ => sq (chk O (I G z) (app p zero)) fun _ => sq (chk O (I G s) (stepTy p)) fun _ => sq (chk O (I G n) nat) fun _ => some (.ok (app p n))
  | id t a b => sq (lvl O (I G t)) fun i => sq (chk O (I G a) t) fun _ => sq (chk O (I G b) t) fun _ => some (.ok i)
  | refl a => sq (I G a) fun A => sq (lvl O (I G A)) fun _ => some (.ok (id A a a))
  | move p e x => sq (frm O (I G e)) fun E => match E with
    | id t y z => sq (fam O (I G p) t) fun _ => sq (chk O (I G x) (app p y)) fun _ => some (.ok (app p z))
    | _ => some .bad
  | pair s a b => sq (lvl O (I G s)) fun _ => sq (some (O.hn s)) fun h => match h with
    | sig A B => sq (chk O (I G a) A) fun _ => sq (chk O (I G b) (B.inst a)) fun _ => some (.ok s)
    | _ => some .bad
  | fst q => sq (frm O (I G q)) fun Q => match Q with
    | sig A B => some (.ok A)
    | _ => some .bad
  | snd q => sq (frm O (I G q)) fun Q => match Q with
    | sig A B => some (.ok (B.inst (fst q)))
    | _ => some .bad
def inS : Nat → List Tm → Tm → Option Rs
  | 0, _, _ => none
  | g + 1, G, t => if O.vd t = false ∨ 20 < G.length then some .opn else sq (kS O (inS g) G t) (made O)
/-- The program's inference in a longer context. -/
def ext (G : List Tm) (a b : Tm) : Option Rs := if 20 ≤ G.length then some .opn else I (a :: G) b
def kI (G : List Tm) : Tm → Option Rs
  | var n => match look G n with
    | some A => made O A
    | none => some .bad
  | sort n => some (if n < 3 then .ok (sort (n + 1)) else .bad)
  | pi a b => sq (lvl O (I G a)) fun i => sq (lvl O (ext I G a b)) fun j => some (.ok (sort (max (lv i) (lv j))))
  | sig a b => sq (lvl O (I G a)) fun i => sq (lvl O (ext I G a b)) fun j => some (.ok (sort (max (lv i) (lv j))))
  | lam a b => sq (lvl O (I G a)) fun _ => sq (ext I G a b) fun B => sq (made O (pi a B)) fun P => sq (I G P) fun _ => some (.ok P)
  | app f u => sq (frm O (I G f)) fun F => match F with
    | pi C B => sq (chk O (I G u) C) fun _ => made O (B.inst u)
    | _ => some .bad
  | nat => some (.ok (sort 0))
  | zero => some (.ok nat)
  | succ n => sq (chk O (I G n) nat) fun _ => some (.ok nat)
  | elim p z s n => sq (fam O (I G p) nat) fun _ => sq (made O (app p zero)) fun w => sq (chk O (I G z) w) fun _ => sq (made O (stepTy p)) fun w => sq (chk O (I G s) w) fun _ => sq (chk O (I G n) nat) fun _ => made O (app p n)
  | id t a b => sq (lvl O (I G t)) fun i => sq (chk O (I G a) t) fun _ => sq (chk O (I G b) t) fun _ => some (.ok i)
  | refl a => sq (I G a) fun A => sq (lvl O (I G A)) fun _ => made O (id A a a)
  | move p e x => sq (frm O (I G e)) fun E => match E with
    | id t y z => sq (fam O (I G p) t) fun _ => sq (made O (app p y)) fun w => sq (chk O (I G x) w) fun _ => made O (app p z)
    | _ => some .bad
  | pair s a b => sq (lvl O (I G s)) fun _ => sq (some (O.hn s)) fun h => match h with
    | sig A B => sq (chk O (I G a) A) fun _ => sq (made O (B.inst a)) fun w => sq (chk O (I G b) w) fun _ => some (.ok s)
    | _ => some .bad
  | fst q => sq (frm O (I G q)) fun Q => match Q with
    | sig A B => some (.ok A)
    | _ => some .bad
  | snd q => sq (frm O (I G q)) fun Q => match Q with
    | sig A B => made O (B.inst (fst q))
    | _ => some .bad
def inI : Nat → List Tm → Tm → Option Rs
  | 0, _, _ => none
  | g + 1, G, t => kI O (inI g) G t
end
variable {O : Orc}
theorem sq_ok {x : Option Rs} {k : Tm → Option Rs} {A : Tm} (h : sq x k = some (.ok A)) : ∃ t, x = some (.ok t) ∧ k t = some (.ok A) := by
  unfold sq at h
  split at h
  · exact ⟨_, rfl, h⟩
  · rename_i h2; exact absurd h (h2 A)
theorem frm_ok (k : OrcOk O) {x : Option Rs} {h : Tm} (e : frm O x = some (.ok h)) : ∃ s, x = some (.ok s) ∧ Wh s h := by
  obtain ⟨s, e1, e2⟩ := sq_ok e
  exact ⟨s, e1, (k.hn_ok (Option.some.inj e2)).1⟩
theorem lvl_ok (k : OrcOk O) {x : Option Rs} {h : Tm} (e : lvl O x = some (.ok h)) : ∃ s i, x = some (.ok s) ∧ h = sort i ∧ Wh s (sort i) := by
  obtain ⟨s, e1, e2⟩ := sq_ok e
  obtain ⟨u, e3, w⟩ := frm_ok k e1
  split at e2
  · cases e2; exact ⟨u, _, e3, rfl, w⟩
  · cases e2
theorem chk_ok (k : OrcOk O) {x : Option Rs} {t h : Tm} (e : chk O x t = some (.ok h)) : ∃ s, x = some (.ok s) ∧ Conv s t := by
  obtain ⟨s, e1, e2⟩ := sq_ok e
  exact ⟨s, e1, k.sm_ok (Option.some.inj e2)⟩
theorem made_ok {t h : Tm} (e : made O t = some (.ok h)) : h = t ∧ O.vd t = true := by
  unfold made at e
  split at e
  · cases e; exact ⟨rfl, ‹_›⟩
  · cases e
theorem fam_ok (k : OrcOk O) {x : Option Rs} {t h : Tm} (e : fam O x t = some (.ok h)) : ∃ P C D i, x = some (.ok P) ∧ Wh P (pi C D) ∧ Conv C t ∧ Wh D (sort i) := by
  obtain ⟨s, e1, e2⟩ := sq_ok e
  obtain ⟨u, e3, w⟩ := frm_ok k e1
  split at e2
  · obtain ⟨s1, e4, e5⟩ := sq_ok e2
    obtain ⟨s2, e6, e7⟩ := sq_ok e5
    split at e7
    · exact ⟨u, _, _, _, e3, w, k.sm_ok (Option.some.inj e4), (k.hn_ok (Option.some.inj e6)).1⟩
    · cases e7
  · cases e2
/-- What is inferred within the limits is inferred without limits. -/
theorem inS_al (k : OrcOk O) : ∀ {g : Nat} {G : List Tm} {t A : Tm}, inS O g G t = some (.ok A) → Al G t A ∧ O.vd A = true
  | 0, _, _, _, h => by cases h
  | g + 1, G, t, A, h => by
    rw [inS] at h
    split at h
    · cases h
    · obtain ⟨X, h, e⟩ := sq_ok h
      obtain ⟨rfl, hv⟩ := made_ok e
      refine ⟨?_, hv⟩
      have bd : ∀ {a b h}, bnd O (inS O g) G a b = some (.ok h) → ∃ S R i j, Al G a S ∧ Wh S (sort i) ∧ Al (a :: G) b R ∧ Wh R (sort j) ∧ h = sort (max i j) := by
        intro a b h e
        obtain ⟨x, e1, e2⟩ := sq_ok e
        obtain ⟨y, e3, e4⟩ := sq_ok e2
        obtain ⟨S, i, f1, rfl, w1⟩ := lvl_ok k e1
        obtain ⟨R, j, f2, rfl, w2⟩ := lvl_ok k e3
        cases e4
        exact ⟨S, R, i, j, (inS_al k f1).1, w1, (inS_al k f2).1, w2, rfl⟩
      cases t with
      | var n =>
        simp only [kS] at h
        split at h
        · cases h; exact .var ‹_›
        · cases h
      | sort n =>
        simp only [kS, Option.some.injEq] at h
        split at h
        · cases h; exact .sort ‹_›
        · cases h
      | pi a b => obtain ⟨S, R, i, j, h1, w1, h2, w2, rfl⟩ := bd h; exact .pi h1 w1 h2 w2
      | sig a b => obtain ⟨S, R, i, j, h1, w1, h2, w2, rfl⟩ := bd h; exact .sig h1 w1 h2 w2
      | lam a b =>
        obtain ⟨x, e1, e2⟩ := sq_ok h
        obtain ⟨B, e3, e4⟩ := sq_ok e2
        obtain ⟨y, e5, e6⟩ := sq_ok e4
        obtain ⟨S, R, i, j, h1, w1, h2, w2, rfl⟩ := bd e5
        cases e6
        exact .lam h1 w1 (inS_al k e3).1 h2 w2
      | app f u =>
        obtain ⟨F, e1, e2⟩ := sq_ok h
        obtain ⟨S, e3, w⟩ := frm_ok k e1
        split at e2
        · obtain ⟨x, e4, e5⟩ := sq_ok e2
          obtain ⟨U, e6, c⟩ := chk_ok k e4
          cases e5
          exact .app (inS_al k e3).1 w (inS_al k e6).1 c
        · cases e2
      | nat => cases h; exact .nat
      | zero => cases h; exact .zero
      | succ n =>
        obtain ⟨x, e1, e2⟩ := sq_ok h
        obtain ⟨U, e6, c⟩ := chk_ok k e1
        cases e2
        exact .succ (inS_al k e6).1 c
      | elim p z s n =>
        obtain ⟨x, e1, e2⟩ := sq_ok h
        obtain ⟨P, C, D, i, f1, w, c, v⟩ := fam_ok k e1
        obtain ⟨x, e3, e4⟩ := sq_ok e2
        obtain ⟨Z, f2, c2⟩ := chk_ok k e3
        obtain ⟨x, e5, e6⟩ := sq_ok e4
        obtain ⟨S, f3, c3⟩ := chk_ok k e5
        obtain ⟨x, e7, e8⟩ := sq_ok e6
        obtain ⟨N, f4, c4⟩ := chk_ok k e7
        cases e8
        exact .elim (inS_al k f1).1 w c v (inS_al k f2).1 c2 (inS_al k f3).1 c3 (inS_al k f4).1 c4
      | id t a b =>
        obtain ⟨x, e1, e2⟩ := sq_ok h
        obtain ⟨S, i, f1, rfl, w⟩ := lvl_ok k e1
        obtain ⟨x, e3, e4⟩ := sq_ok e2
        obtain ⟨Z, f2, c2⟩ := chk_ok k e3
        obtain ⟨x, e5, e6⟩ := sq_ok e4
        obtain ⟨S, f3, c3⟩ := chk_ok k e5
        cases e6
        exact .id (inS_al k f1).1 w (inS_al k f2).1 c2 (inS_al k f3).1 c3
      | refl a =>
        obtain ⟨B, e1, e2⟩ := sq_ok h
        obtain ⟨x, e3, e4⟩ := sq_ok e2
        obtain ⟨S, i, f1, rfl, w⟩ := lvl_ok k e3
        cases e4
        exact .refl (inS_al k e1).1 (inS_al k f1).1 w
      | move p e x =>
        obtain ⟨F, e1, e2⟩ := sq_ok h
        obtain ⟨S, e3, w⟩ := frm_ok k e1
        split at e2
        · obtain ⟨x, e4, e5⟩ := sq_ok e2
          obtain ⟨P, C, D, i, f1, w2, c, v⟩ := fam_ok k e4
          obtain ⟨x, e6, e7⟩ := sq_ok e5
          obtain ⟨U, e8, c2⟩ := chk_ok k e6
          cases e7
          exact .move (inS_al k e3).1 w (inS_al k f1).1 w2 c v (inS_al k e8).1 c2
        · cases e2
      | pair s a b =>
        obtain ⟨x, e1, e2⟩ := sq_ok h
        obtain ⟨S, i, f1, rfl, w⟩ := lvl_ok k e1
        obtain ⟨H, e3, e4⟩ := sq_ok e2
        have w2 := (k.hn_ok (Option.some.inj e3)).1
        split at e4
        · obtain ⟨x, e5, e6⟩ := sq_ok e4
          obtain ⟨Z, f2, c2⟩ := chk_ok k e5
          obtain ⟨x, e7, e8⟩ := sq_ok e6
          obtain ⟨S, f3, c3⟩ := chk_ok k e7
          cases e8
          exact .pair (inS_al k f1).1 w w2 (inS_al k f2).1 c2 (inS_al k f3).1 c3
        · cases e4
      | fst q =>
        obtain ⟨F, e1, e2⟩ := sq_ok h
        obtain ⟨S, e3, w⟩ := frm_ok k e1
        split at e2
        · cases e2; exact .fst (inS_al k e3).1 w
        · cases e2
      | snd q =>
        obtain ⟨F, e1, e2⟩ := sq_ok h
        obtain ⟨S, e3, w⟩ := frm_ok k e1
        split at e2
        · cases e2; exact .snd (inS_al k e3).1 w
        · cases e2
end Tm
end Go.Proofs.YthopkmimhlcjkaaGreat
end
section
/- Inference of types with limits: it ends in contexts that are well-formed. No program in sight. -/
set_option linter.unusedVariables false
set_option linter.unusedSimpArgs false
namespace Go.Proofs.YthopkmimhlcjkaaGreat
namespace Tm
variable {O : Orc}
/-- With fuel enough, r. -/
def Is (f : Nat → Option Rs) (r : Rs) : Prop := ∃ N, ∀ n, N ≤ n → f n = some r
def Ends (f : Nat → Option Rs) : Prop := ∃ r, Is f r
theorem Is.uniq {f : Nat → Option Rs} {r r' : Rs} (h : Is f r) (k : Is f r') : r = r' := by
  obtain ⟨N, h⟩ := h
  obtain ⟨M, k⟩ := k
  have := (h (N + M) (by omega)).symm.trans (k (N + M) (by omega))
  exact Option.some.inj this
theorem Is.const (r : Rs) : Is (fun _ => some r) r := ⟨0, fun _ _ => rfl⟩
theorem Is.bind {f : Nat → Option Rs} {t : Tm} {k : Nat → Tm → Option Rs} {r : Rs} (h : Is f (.ok t)) (hk : Is (fun n => k n t) r) : Is (fun n => sq (f n) (k n)) r := by
  obtain ⟨N, h⟩ := h
  obtain ⟨M, hk⟩ := hk
  exact ⟨N + M, fun n hn => by show sq (f n) (k n) = some r; rw [h n (by omega)]; exact hk n (by omega)⟩
theorem Is.bad {f : Nat → Option Rs} {k : Nat → Tm → Option Rs} (h : Is f .bad) : Is (fun n => sq (f n) (k n)) .bad := by
  obtain ⟨N, h⟩ := h
  exact ⟨N, fun n hn => by show sq (f n) (k n) = _; rw [h n hn]; rfl⟩
theorem Is.opn {f : Nat → Option Rs} {k : Nat → Tm → Option Rs} (h : Is f .opn) : Is (fun n => sq (f n) (k n)) .opn := by
  obtain ⟨N, h⟩ := h
  exact ⟨N, fun n hn => by show sq (f n) (k n) = _; rw [h n hn]; rfl⟩
theorem Ends.bind {f : Nat → Option Rs} {k : Nat → Tm → Option Rs} (h : Ends f) (hk : ∀ t, Is f (.ok t) → Ends (fun n => k n t)) : Ends (fun n => sq (f n) (k n)) := by
  obtain ⟨r, h⟩ := h
  cases r with
  | ok t => obtain ⟨r, hr⟩ := hk t h; exact ⟨r, h.bind hr⟩
  | bad => exact ⟨_, h.bad⟩
  | opn => exact ⟨_, h.opn⟩
theorem Ends.const (r : Option Rs) (h : r ≠ none) : Ends (fun _ => r) := by
  cases r with
  | none => exact absurd rfl h
  | some r => exact ⟨r, .const r⟩
theorem Ends.of {r : Rs} : Ends (fun _ => some r) := ⟨r, .const r⟩
theorem Ends.frm {f : Nat → Option Rs} (h : Ends f) : Ends (fun n => frm O (f n)) := h.bind fun _ _ => .of
theorem Ends.lvl {f : Nat → Option Rs} (h : Ends f) : Ends (fun n => lvl O (f n)) := h.frm.bind fun t _ => .const _ (by split <;> simp)
theorem Ends.chk {f : Nat → Option Rs} (h : Ends f) (w : Tm) : Ends (fun n => chk O (f n) w) := h.bind fun _ _ => .of
theorem Ends.fam {f : Nat → Option Rs} (h : Ends f) (w : Tm) : Ends (fun n => fam O (f n) w) := h.frm.bind fun t _ => by
  split
  · exact Ends.bind .of fun _ _ => Ends.bind .of fun _ _ => .const _ (by split <;> simp)
  · exact .of
/-! More fuel changes nothing. -/
def Le (x y : Option Rs) : Prop := ∀ r, x = some r → y = some r
theorem Le.rfl' (x : Option Rs) : Le x x := fun _ h => h
theorem Le.sq {x y : Option Rs} {k l : Tm → Option Rs} (h : Le x y) (hk : ∀ t, Le (k t) (l t)) : Le (sq x k) (sq y l) := by
  intro r e
  cases x with
  | none => cases e
  | some x =>
    rw [h _ rfl]
    cases x with
    | ok t => exact hk t r e
    | bad => exact e
    | opn => exact e
theorem Le.frm {x y : Option Rs} (h : Le x y) : Le (frm O x) (frm O y) := h.sq fun _ => .rfl' _
theorem Le.lvl {x y : Option Rs} (h : Le x y) : Le (lvl O x) (lvl O y) := h.frm.sq fun _ => .rfl' _
theorem Le.chk {x y : Option Rs} (h : Le x y) (w : Tm) : Le (chk O x w) (chk O y w) := h.sq fun _ => .rfl' _
theorem Le.fam {x y : Option Rs} (h : Le x y) (w : Tm) : Le (fam O x w) (fam O y w) := h.frm.sq fun _ => .rfl' _
theorem Le.bnd {I J : List Tm → Tm → Option Rs} (h : ∀ G t, Le (I G t) (J G t)) (G : List Tm) (a b : Tm) : Le (bnd O I G a b) (bnd O J G a b) :=
  (h _ _).lvl.sq fun _ => (h _ _).lvl.sq fun _ => .rfl' _
theorem Le.kS {I J : List Tm → Tm → Option Rs} (h : ∀ G t, Le (I G t) (J G t)) (G : List Tm) (t : Tm) : Le (kS O I G t) (kS O J G t) := by
  cases t with
  | var n => exact .rfl' _
  | sort n => exact .rfl' _
  | pi a b => exact .bnd h _ _ _
  | sig a b => exact .bnd h _ _ _
  | lam a b => exact (h _ _).lvl.sq fun _ => (h _ _).sq fun _ => (Le.bnd h _ _ _).sq fun _ => .rfl' _
  | app f u => exact (h _ _).frm.sq fun F => by cases F <;> first | exact (h _ _).chk _ |>.sq fun _ => .rfl' _ | exact .rfl' _
  | nat => exact .rfl' _
  | zero => exact .rfl' _
  | succ n => exact ((h _ _).chk _).sq fun _ => .rfl' _
  | elim p z s n => exact ((h _ _).fam _).sq fun _ => ((h _ _).chk _).sq fun _ => ((h _ _).chk _).sq fun _ => ((h _ _).chk _).sq fun _ => .rfl' _
  | id t a b => exact (h _ _).lvl.sq fun _ => ((h _ _).chk _).sq fun _ => ((h _ _).chk _).sq fun _ => .rfl' _
  | refl a => exact (h _ _).sq fun _ => (h _ _).lvl.sq fun _ => .rfl' _
  | move p e x => exact (h _ _).frm.sq fun F => by cases F <;> first | exact ((h _ _).fam _).sq fun _ => ((h _ _).chk _).sq fun _ => .rfl' _ | exact .rfl' _
  | pair s a b => exact (h _ _).lvl.sq fun _ => (Le.rfl' _).sq fun F => by cases F <;> first | exact ((h _ _).chk _).sq fun _ => ((h _ _).chk _).sq fun _ => .rfl' _ | exact .rfl' _
  | fst q => exact (h _ _).frm.sq fun _ => .rfl' _
  | snd q => exact (h _ _).frm.sq fun _ => .rfl' _
theorem ends_S {G : List Tm} {t : Tm} (h : Ends fun n => kS O (inS O n) G t) : Ends fun n => inS O n G t := by
  have : Ends fun n => inS O (n + 1) G t := by
    by_cases c : O.vd t = false ∨ 20 < G.length
    · exact ⟨.opn, 0, fun n _ => by show inS O (n + 1) G t = _; rw [inS, if_pos c]⟩
    · obtain ⟨r, N, hr⟩ := Ends.bind (k := fun _ => made O) h fun t _ => .const _ (by unfold made; simp)
      exact ⟨r, N, fun n hn => by show inS O (n + 1) G t = _; rw [inS, if_neg c]; exact hr n hn⟩
  obtain ⟨r, N, hr⟩ := this
  exact ⟨r, N + 1, fun n hn => by obtain ⟨m, rfl⟩ : ∃ m, n = m + 1 := ⟨n - 1, by omega⟩; exact hr m (by omega)⟩
theorem is_al (k : OrcOk O) {G : List Tm} {t A : Tm} (h : Is (fun n => inS O n G t) (.ok A)) : Al G t A ∧ O.vd A = true := by
  obtain ⟨N, h⟩ := h
  exact inS_al k (h N (Nat.le_refl N))
theorem is_lvl (k : OrcOk O) {G : List Tm} {t A : Tm} (w : Wf G) (h : Is (fun n => lvl O (inS O n G t)) (.ok A)) : Wf (t :: G) := by
  obtain ⟨N, h⟩ := h
  obtain ⟨s, i, e, rfl, r⟩ := lvl_ok k (h N (Nat.le_refl N))
  exact .cons w (((inS_al k e).1.sound w).lvl w r)
/-- What ends, in a context behind which all ends. -/
theorem clo_of (k : OrcOk O) {G : List Tm} (w : Wf G) (hl : ∀ A, Wf (A :: G) → ∀ t, Ends fun n => inS O n (A :: G) t) : Clo (fun t => Ends fun n => inS O n G t) G where
  var n := ends_S (by show Ends fun _ => match look G n with | some A => some (Rs.ok A) | none => some Rs.bad; exact .const _ (by split <;> simp))
  sort n := ends_S .of
  nat := ends_S .of
  zero := ends_S .of
  succ h := ends_S ((h.chk _).bind fun _ _ => .of)
  pi h := ends_S (h.lvl.bind fun _ q => (hl _ (is_lvl k w q) _).lvl.bind fun _ _ => .of)
  sig h := ends_S (h.lvl.bind fun _ q => (hl _ (is_lvl k w q) _).lvl.bind fun _ _ => .of)
  lam h := ends_S (h.lvl.bind fun _ q => (hl _ (is_lvl k w q) _).bind fun _ _ => Ends.bind (h.lvl.bind fun _ q => (hl _ (is_lvl k w q) _).lvl.bind fun _ _ => .of) fun _ _ => .of)
  app h l := ends_S (h.frm.bind fun F _ => by cases F <;> first | exact (l.chk _).bind fun _ _ => .of | exact .of)
  elim h l m o := ends_S ((h.fam _).bind fun _ _ => (l.chk _).bind fun _ _ => (m.chk _).bind fun _ _ => (o.chk _).bind fun _ _ => .of)
  id h l m := ends_S (h.lvl.bind fun _ _ => (l.chk _).bind fun _ _ => (m.chk _).bind fun _ _ => .of)
  refl h l := ends_S (h.bind fun A q => (l A (is_al k q).1).lvl.bind fun _ _ => .of)
  move h l m := ends_S (l.frm.bind fun F _ => by cases F <;> first | exact (h.fam _).bind fun _ _ => (m.chk _).bind fun _ _ => .of | exact .of)
  pair h l m := ends_S (h.lvl.bind fun _ _ => Ends.bind .of fun F _ => by cases F <;> first | exact (l.chk _).bind fun _ _ => (m.chk _).bind fun _ _ => .of | exact .of)
  fst h := ends_S (h.frm.bind fun F _ => .const _ (by split <;> simp))
  snd h := ends_S (h.frm.bind fun F _ => .const _ (by split <;> simp))
/-- The reference's inference ends. -/
theorem inS_ends (k : OrcOk O) : ∀ (m : Nat) (G : List Tm), 21 ≤ G.length + m → Wf G → ∀ t, Ends fun n => inS O n G t
  | 0, G, h, w, t => ⟨.opn, 1, fun n hn => by obtain ⟨m, rfl⟩ : ∃ m, n = m + 1 := ⟨n - 1, by omega⟩; show inS O (m + 1) G t = _; rw [inS, if_pos (.inr (by omega))]⟩
  | m + 1, G, h, w, t => (clo_of k w fun A w' => inS_ends k m (A :: G) (by simp only [List.length_cons]; omega) w').all w t
theorem inS_end (k : OrcOk O) {G : List Tm} (w : Wf G) (t : Tm) : ∃ r, Is (fun n => inS O n G t) r := inS_ends k 21 G (by omega) w t
/-! A term that has a type is not bad. -/
theorem hn_sort (k : OrcOk O) {s h : Tm} {i : Nat} (e : O.hn s = .ok h) (c : Conv s (sort i)) : h = sort i := by
  obtain ⟨w, nh, _⟩ := k.hn_ok e
  have := (w.conv.symm.trans c).wh_sort
  cases this with
  | nil => rfl
  | cons r _ => exact (nh _ r).elim
theorem hn_pi (k : OrcOk O) {s h A B : Tm} (e : O.hn s = .ok h) (c : Conv s (pi A B)) : ∃ A' B', h = pi A' B' ∧ Conv A' A ∧ Conv B' B := by
  obtain ⟨w, nh, _⟩ := k.hn_ok e
  obtain ⟨A', B', r, c1, c2⟩ := (w.conv.symm.trans c).wh_pi
  cases r with
  | nil => exact ⟨_, _, rfl, c1, c2⟩
  | cons r _ => exact (nh _ r).elim
theorem hn_sig (k : OrcOk O) {s h A B : Tm} (e : O.hn s = .ok h) (c : Conv s (sig A B)) : ∃ A' B', h = sig A' B' ∧ Conv A' A ∧ Conv B' B := by
  obtain ⟨w, nh, _⟩ := k.hn_ok e
  obtain ⟨A', B', r, c1, c2⟩ := (w.conv.symm.trans c).wh_sig
  cases r with
  | nil => exact ⟨_, _, rfl, c1, c2⟩
  | cons r _ => exact (nh _ r).elim
theorem hn_id (k : OrcOk O) {s h t y z : Tm} (e : O.hn s = .ok h) (c : Conv s (id t y z)) : ∃ t' y' z', h = id t' y' z' ∧ Conv t' t ∧ Conv y' y ∧ Conv z' z := by
  obtain ⟨w, nh, _⟩ := k.hn_ok e
  obtain ⟨t', y', z', r, c1, c2, c3⟩ := (w.conv.symm.trans c).wh_id
  cases r with
  | nil => exact ⟨_, _, _, rfl, c1, c2, c3⟩
  | cons r _ => exact (nh _ r).elim
def Nb (x : Option Rs) : Prop := x ≠ some .bad
theorem Nb.sq {x : Option Rs} {k : Tm → Option Rs} (h : Nb x) (hk : ∀ t, x = some (.ok t) → Nb (k t)) : Nb (sq x k) := by
  intro e
  cases x with
  | none => cases e
  | some r => cases r with
    | ok t => exact hk t rfl e
    | bad => exact h rfl
    | opn => cases e
theorem nb_ok (t : Tm) : Nb (some (.ok t)) := fun h => by cases h
theorem nb_hn (k : OrcOk O) (t : Tm) : Nb (some (O.hn t)) := fun h => k.hn_nb t (Option.some.inj h)
theorem nb_made (t : Tm) : Nb (made O t) := fun h => by
  unfold made at h
  split at h <;> cases h
/-- What is known of the inference of a part that has a type. -/
structure Part (O : Orc) (G : List Tm) (A : Tm) (x : Option Rs) : Prop where
  nb : Nb x
  ty : ∀ {B}, x = some (.ok B) → Conv B A
theorem Part.lvl (k : OrcOk O) {G : List Tm} {i : Nat} {x : Option Rs} (p : Part O G (sort i) x) : Nb (lvl O x) := by
  refine (p.nb.sq fun _ _ => nb_hn k _).sq fun h e => ?_
  obtain ⟨s, e1, e2⟩ := sq_ok e
  have := hn_sort k (Option.some.inj e2) (p.ty e1); subst this
  exact nb_ok _
theorem Part.chk (k : OrcOk O) {G : List Tm} {A B : Tm} {x : Option Rs} (p : Part O G A x) (c : Conv A B) : Nb (chk O x B) :=
  p.nb.sq fun s e => fun h => k.sm_nb (Option.some.inj h) ((p.ty e).trans c)
theorem Part.fam (k : OrcOk O) {G : List Tm} {t t' : Tm} {i : Nat} {x : Option Rs} (p : Part O G (pi t (sort i)) x) (c : Conv t t') : Nb (fam O x t') := by
  refine (p.nb.sq fun _ _ => nb_hn k _).sq fun h e => ?_
  obtain ⟨s, e1, e2⟩ := sq_ok e
  obtain ⟨C, D, rfl, c1, c2⟩ := hn_pi k (Option.some.inj e2) (p.ty e1)
  refine Nb.sq (fun h => k.sm_nb (Option.some.inj h) (c1.trans c)) fun _ _ => Nb.sq (nb_hn k _) fun h e => ?_
  have := hn_sort k (Option.some.inj e) c2; subst this
  exact nb_ok _
theorem inS_nb (k : OrcOk O) : ∀ {g : Nat} {G : List Tm} {t A : Tm}, Wf G → Ty G t A → Nb (inS O g G t)
  | 0, _, _, _, _, _ => fun h => by cases h
  | g + 1, G, t, A, w, h => by
    have pt : ∀ {G t A}, Wf G → Ty G t A → Part O G A (inS O g G t) := fun w h => ⟨inS_nb k w h, fun e => ((inS_al k e).1.sound w).uniq h⟩
    have bd : ∀ {G a b i j}, Wf G → Ty G a (sort i) → Ty (a :: G) b (sort j) → Nb (bnd O (inS O g) G a b) := fun w h l =>
      ((pt w h).lvl k).sq fun _ _ => ((pt (.cons w h) l).lvl k).sq fun _ _ => nb_ok _
    rw [inS]
    split
    · exact fun h => by cases h
    · refine Nb.sq ?_ fun _ _ => nb_made _
      have gn := h.gen
      cases t with
      | var n =>
        obtain ⟨B, h1, c⟩ := gn
        simp only [kS, h1]; exact nb_ok _
      | sort n => simp only [kS, if_pos gn.1]; exact nb_ok _
      | pi a b => obtain ⟨i, j, h1, h2, c⟩ := gn; exact bd w h1 h2
      | sig a b => obtain ⟨i, j, h1, h2, c⟩ := gn; exact bd w h1 h2
      | lam a b =>
        obtain ⟨B, i, j, h1, h2, h3, c⟩ := gn
        refine ((pt w h1).lvl k).sq fun _ _ => (pt (.cons w h1) h2).nb.sq fun B' e => ?_
        have tb := (inS_al k e).1.sound (.cons w h1)
        have cb := tb.uniq h2
        obtain ⟨j', hj⟩ := tb.sorted (.cons w h1) (fun e => by
          subst e
          have := h3.red (.cons w h1) (by obtain ⟨x, r1, r2⟩ := cb; rw [r1.sort_inv] at r2; exact r2)
          exact absurd this.sort_lt (by omega))
        exact (bd w h1 hj).sq fun _ _ => nb_ok _
      | app f u =>
        obtain ⟨X, Y, h1, h2, c⟩ := gn
        refine ((pt w h1).nb.sq fun _ _ => nb_hn k _).sq fun F e => ?_
        obtain ⟨s, e1, e2⟩ := sq_ok e
        obtain ⟨C, D, rfl, c1, c2⟩ := hn_pi k (Option.some.inj e2) ((pt w h1).ty e1)
        exact ((pt w h2).chk k c1.symm).sq fun _ _ => nb_ok _
      | nat => exact nb_ok _
      | zero => exact nb_ok _
      | succ n => exact ((pt w gn.1).chk k .rfl').sq fun _ _ => nb_ok _
      | elim p z s n =>
        obtain ⟨i, h1, h2, h3, h4, c⟩ := gn
        exact ((pt w h1).fam k .rfl').sq fun _ _ => ((pt w h2).chk k .rfl').sq fun _ _ => ((pt w h3).chk k .rfl').sq fun _ _ => ((pt w h4).chk k .rfl').sq fun _ _ => nb_ok _
      | id t a b =>
        obtain ⟨i, h1, h2, h3, c⟩ := gn
        exact ((pt w h1).lvl k).sq fun _ _ => ((pt w h2).chk k .rfl').sq fun _ _ => ((pt w h3).chk k .rfl').sq fun _ _ => nb_ok _
      | refl a =>
        obtain ⟨B, i, h1, h2, c⟩ := gn
        refine (pt w h1).nb.sq fun B' e => ?_
        have tb := (inS_al k e).1.sound w
        have cb := tb.uniq h1
        obtain ⟨j', hj⟩ := tb.sorted w (fun e => by
          subst e
          have := h2.red w (by obtain ⟨x, r1, r2⟩ := cb; rw [r1.sort_inv] at r2; exact r2)
          exact absurd this.sort_lt (by omega))
        exact ((pt w hj).lvl k).sq fun _ _ => nb_ok _
      | move p e x =>
        obtain ⟨t, y, z, i, h1, h2, h3, c⟩ := gn
        refine ((pt w h1).nb.sq fun _ _ => nb_hn k _).sq fun F e => ?_
        obtain ⟨s, e1, e2⟩ := sq_ok e
        obtain ⟨t', y', z', rfl, c1, c2, c3⟩ := hn_id k (Option.some.inj e2) ((pt w h1).ty e1)
        exact ((pt w h2).fam k c1.symm).sq fun _ _ => ((pt w h3).chk k (Conv.app .rfl' c2.symm)).sq fun _ _ => nb_ok _
      | pair s a b =>
        obtain ⟨X, Y, i, j, h1, r, hq, h2, h3, c⟩ := gn
        refine ((pt w h1).lvl k).sq fun _ _ => (nb_hn k _).sq fun F e => ?_
        obtain ⟨C, D, rfl, c1, c2⟩ := hn_sig k (Option.some.inj e) r.conv
        exact ((pt w h2).chk k c1.symm).sq fun _ _ => ((pt w h3).chk k (Conv.inst c2.symm .rfl')).sq fun _ _ => nb_ok _
      | fst q =>
        obtain ⟨X, Y, h1, c⟩ := gn
        refine ((pt w h1).nb.sq fun _ _ => nb_hn k _).sq fun F e => ?_
        obtain ⟨s, e1, e2⟩ := sq_ok e
        obtain ⟨C, D, rfl, c1, c2⟩ := hn_sig k (Option.some.inj e2) ((pt w h1).ty e1)
        exact nb_ok _
      | snd q =>
        obtain ⟨X, Y, h1, c⟩ := gn
        refine ((pt w h1).nb.sq fun _ _ => nb_hn k _).sq fun F e => ?_
        obtain ⟨s, e1, e2⟩ := sq_ok e
        obtain ⟨C, D, rfl, c1, c2⟩ := hn_sig k (Option.some.inj e2) ((pt w h1).ty e1)
        exact nb_ok _
end Tm
end Go.Proofs.YthopkmimhlcjkaaGreat
end
section
/- The program's inference of types answers what the reference's does, where no part is bad whose wanted type is too large. No program in sight. -/
set_option linter.unusedVariables false
set_option linter.unusedSimpArgs false
namespace Go.Proofs.YthopkmimhlcjkaaGreat
namespace Tm
variable {O : Orc}
def Lv (G : List Tm) (a : Tm) : Prop := ∃ S i, Al G a S ∧ Wh S (sort i)
def Fm (G : List Tm) (p t : Tm) : Prop := ∃ P C D i, Al G p P ∧ Wh P (pi C D) ∧ Conv C t ∧ Wh D (sort i)
variable (O) in
def NBad (G : List Tm) (t : Tm) : Prop := ∀ g, Nb (inS O g G t)
variable (O) in
def Fine : List Tm → Tm → Prop
  | G, pi a b => Fine G a ∧ (Lv G a → Fine (a :: G) b)
  | G, sig a b => Fine G a ∧ (Lv G a → Fine (a :: G) b)
  | G, lam a b => Fine G a ∧ (Lv G a → Fine (a :: G) b)
  | G, app f u => Fine G f ∧ ((∃ F C B, Al G f F ∧ Wh F (pi C B)) → Fine G u)
  | G, succ n => Fine G n
  | G, elim p z s n => Fine G p ∧ Fine G z ∧ Fine G s ∧ Fine G n ∧ (O.vd (stepTy p) = true ∨ NBad O G s)
  | G, id t a b => Fine G t ∧ Fine G a ∧ Fine G b
  | G, refl a => Fine G a
  | G, move p e x => Fine G e ∧ Fine G p ∧ Fine G x ∧ ∀ Q t y z, Al G e Q → Wh Q (id t y z) → Fm G p t → O.vd (app p y) = true ∨ NBad O G x
  | G, pair s a b => Fine G s ∧ Fine G a ∧ Fine G b ∧ (Lv G s → ∀ A B, Wh s (sig A B) → (∃ U, Al G a U ∧ Conv U A) → O.vd (B.inst a) = true ∨ NBad O G b)
  | G, fst q => Fine G q
  | G, snd q => Fine G q
  | _, _ => True
/-- A term that has a type is fine. -/
theorem Ty.fine (k : OrcOk O) : ∀ {t : Tm} {G : List Tm} {A : Tm}, Wf G → Ty G t A → Fine O G t := by
  intro t
  induction t with
  | var n => intros; trivial
  | sort n => intros; trivial
  | nat => intros; trivial
  | zero => intros; trivial
  | pi a b ha hb => intro G A w h; obtain ⟨i, j, h1, h2, c⟩ := h.gen; exact ⟨ha w h1, fun _ => hb (.cons w h1) h2⟩
  | sig a b ha hb => intro G A w h; obtain ⟨i, j, h1, h2, c⟩ := h.gen; exact ⟨ha w h1, fun _ => hb (.cons w h1) h2⟩
  | lam a b ha hb => intro G A w h; obtain ⟨B, i, j, h1, h2, h3, c⟩ := h.gen; exact ⟨ha w h1, fun _ => hb (.cons w h1) h2⟩
  | app f u hf hu => intro G A w h; obtain ⟨X, Y, h1, h2, c⟩ := h.gen; exact ⟨hf w h1, fun _ => hu w h2⟩
  | succ n hn => intro G A w h; exact hn w h.gen.1
  | elim p z s n hp hz hs hn => intro G A w h; obtain ⟨i, h1, h2, h3, h4, c⟩ := h.gen; exact ⟨hp w h1, hz w h2, hs w h3, hn w h4, .inr fun g => inS_nb k w h3⟩
  | id t a b ht ha hb => intro G A w h; obtain ⟨i, h1, h2, h3, c⟩ := h.gen; exact ⟨ht w h1, ha w h2, hb w h3⟩
  | refl a ha => intro G A w h; obtain ⟨X, i, h1, h2, c⟩ := h.gen; exact ha w h1
  | move p e x hp he hx => intro G A w h; obtain ⟨t, y, z, i, h1, h2, h3, c⟩ := h.gen; exact ⟨he w h1, hp w h2, hx w h3, fun _ _ _ _ _ _ _ => .inr fun g => inS_nb k w h3⟩
  | pair s a b hs ha hb => intro G A w h; obtain ⟨X, Y, i, j, h1, r, hq, h2, h3, c⟩ := h.gen; exact ⟨hs w h1, ha w h2, hb w h3, fun _ _ _ _ _ => .inr fun g => inS_nb k w h3⟩
  | fst q hq => intro G A w h; obtain ⟨X, Y, h1, c⟩ := h.gen; exact hq w h1
  | snd q hq => intro G A w h; obtain ⟨X, Y, h1, c⟩ := h.gen; exact hq w h1
/-- What x answers f answers. -/
def Tr (x : Option Rs) (f : Nat → Option Rs) : Prop := ∀ r, x = some r → Is f r
theorem Tr.const (r : Option Rs) : Tr r (fun _ => r) := fun s h => ⟨0, fun _ _ => h⟩
theorem Tr.sq {x : Option Rs} {f : Nat → Option Rs} {k : Tm → Option Rs} {l : Nat → Tm → Option Rs} (h : Tr x f) (hk : ∀ t, x = some (.ok t) → Tr (k t) (fun n => l n t)) : Tr (sq x k) (fun n => sq (f n) (l n)) := by
  intro r e
  cases x with
  | none => cases e
  | some s =>
    have hs := h s rfl
    cases s with
    | ok t => exact hs.bind (hk t rfl r e)
    | bad => cases e; exact hs.bad
    | opn => cases e; exact hs.opn
theorem Tr.frm {x : Option Rs} {f : Nat → Option Rs} (h : Tr x f) : Tr (frm O x) (fun n => frm O (f n)) := h.sq fun _ _ => .const _
theorem Tr.lvl {x : Option Rs} {f : Nat → Option Rs} (h : Tr x f) : Tr (lvl O x) (fun n => lvl O (f n)) := h.frm.sq fun _ _ => .const _
theorem Tr.chk {x : Option Rs} {f : Nat → Option Rs} (h : Tr x f) (w : Tm) : Tr (chk O x w) (fun n => chk O (f n) w) := h.sq fun _ _ => .const _
theorem Tr.fam {x : Option Rs} {f : Nat → Option Rs} (h : Tr x f) (w : Tm) : Tr (fam O x w) (fun n => fam O (f n) w) := h.frm.sq fun _ _ => .const _
theorem sq_assoc (x : Option Rs) (k l : Tm → Option Rs) : sq (sq x k) l = sq x fun t => sq (k t) l := by
  cases x with
  | none => rfl
  | some r => cases r <;> rfl
/-- A part whose wanted type is made ahead. -/
theorem Tr.gate (k : OrcOk O) {x : Option Rs} {f : Nat → Option Rs} {kk : Tm → Option Rs} {l : Nat → Tm → Option Rs} (w : Tm) (h : Tr x f) (hb : O.vd w = true ∨ Nb x) (hk : ∀ t, Tr (kk t) (fun n => l n t)) :
    Tr (Tm.sq (Tm.chk O x w) kk) (fun n => Tm.sq (made O w) fun w' => Tm.sq (Tm.chk O (f n) w') (l n)) := by
  by_cases v : O.vd w = true
  · have e : made O w = some (.ok w) := by unfold made; rw [if_pos v]
    intro r q
    obtain ⟨N, hr⟩ := ((h.chk w).sq fun t _ => hk t) r q
    exact ⟨N, fun n hn => by show Tm.sq (made O w) _ = _; rw [e]; exact hr n hn⟩
  · have v' : O.vd w = false := by simpa using v
    have e : made O w = some .opn := by unfold made; rw [if_neg v]
    intro r q
    have nb := hb.resolve_left v
    have : r = .opn := by
      cases x with
      | none => cases q
      | some s => cases s with
        | ok t =>
          have e2 : Tm.chk O (some (.ok t)) w = some .opn := by show some (O.sm t w) = _; rw [k.sm_inv v']
          rw [e2] at q; cases q; rfl
        | bad => exact absurd rfl nb
        | opn => cases q; rfl
    subst this
    exact ⟨0, fun n _ => by show Tm.sq (made O w) _ = _; rw [e]; rfl⟩
theorem is_I {G : List Tm} {t : Tm} {r : Rs} (h : Is (fun n => kI O (inI O n) G t) r) : Is (fun n => inI O n G t) r := by
  obtain ⟨N, hr⟩ := h
  exact ⟨N + 1, fun n hn => by obtain ⟨m, rfl⟩ : ∃ m, n = m + 1 := ⟨n - 1, by omega⟩; exact hr m (by omega)⟩
theorem agree (k : OrcOk O) : ∀ (g : Nat) {G : List Tm} {t : Tm}, Wf G → G.length ≤ 20 → O.vd t = true → Fine O G t → Tr (inS O g G t) (fun n => inI O n G t)
  | 0, G, t, w, hl, v, fi => fun r h => by cases h
  | g + 1, G, t, w, hl, v, fi => by
    intro r h
    apply is_I
    revert r
    show Tr (inS O (g + 1) G t) _
    rw [inS, if_neg (by rw [v]; simp; omega)]
    have ih : ∀ {t}, O.vd t = true → Fine O G t → Tr (inS O g G t) (fun n => inI O n G t) := fun v f => agree k g w hl v f
    have lw : ∀ {a h}, lvl O (inS O g G a) = some (.ok h) → Wf (a :: G) ∧ Lv G a := fun e => by
      obtain ⟨s, i, e', rfl, r⟩ := lvl_ok k e
      exact ⟨.cons w (((inS_al k e').1.sound w).lvl w r), _, _, (inS_al k e').1, r⟩
    have ex : ∀ {a b}, Wf (a :: G) → O.vd b = true → Fine O (a :: G) b → Tr (inS O g (a :: G) b) (fun n => ext (inI O n) G a b) := fun {a b} w' v f => by
      intro r h
      by_cases c : 20 ≤ G.length
      · have : r = .opn := by
          cases g with
          | zero => cases h
          | succ g =>
            rw [inS, if_pos (.inr (by simp only [List.length_cons]; omega))] at h
            cases h; rfl
        subst this
        exact ⟨0, fun n _ => by show ext (inI O n) G a b = _; rw [ext, if_pos c]⟩
      · obtain ⟨N, hr⟩ := agree k g (G := a :: G) w' (by simp only [List.length_cons]; omega) v f r h
        exact ⟨N, fun n hn => by show ext (inI O n) G a b = _; rw [ext, if_neg c]; exact hr n hn⟩
    have ls : ∀ {x h}, lvl O x = some (.ok h) → ∃ i, h = sort i ∧ i ≤ 3 := fun {x h} e => by
      obtain ⟨s, e1, e2⟩ := sq_ok e
      obtain ⟨u, e3, e4⟩ := sq_ok e1
      have := (k.hn_ok (Option.some.inj e4)).2.2
      split at e2
      · cases e2; exact ⟨_, rfl, k.v_sort.1 this⟩
      · cases e2
    have ms : ∀ {i}, i ≤ 3 → made O (sort i) = some (.ok (sort i)) := fun h => by unfold made; rw [if_pos (k.v_sort.2 h)]
    have bd : ∀ {a b}, O.vd a = true → O.vd b = true → Fine O G a → (Lv G a → Wf (a :: G) → Fine O (a :: G) b) →
        Tr (sq (bnd O (inS O g) G a b) (made O)) (fun n => sq (lvl O (inI O n G a)) fun i => sq (lvl O (ext (inI O n) G a b)) fun j => some (.ok (sort (max (lv i) (lv j))))) := by
      intro a b va vb fa fb
      unfold bnd
      rw [sq_assoc]
      refine (ih va fa).lvl.sq fun i ei => ?_
      rw [sq_assoc]
      obtain ⟨w', l'⟩ := lw ei
      refine (ex w' vb (fb l' w')).lvl.sq fun j ej => ?_
      obtain ⟨i', rfl, hi⟩ := ls ei
      obtain ⟨j', rfl, hj⟩ := ls ej
      show Tr (made O (sort (max i' j'))) _
      rw [ms (by omega)]
      exact .const _
    have bd0 : ∀ {a b}, O.vd a = true → O.vd b = true → Fine O G a → (Lv G a → Wf (a :: G) → Fine O (a :: G) b) →
        Tr (bnd O (inS O g) G a b) (fun n => inI O n G (pi a b)) := by
      intro a b va vb fa fb r h
      apply is_I
      have h2 : sq (bnd O (inS O g) G a b) (made O) = some r := by
        rw [h]
        cases r with
        | ok x =>
          obtain ⟨i, e1, e2⟩ := sq_ok h
          obtain ⟨j, e3, e4⟩ := sq_ok e2
          obtain ⟨i', rfl, hi⟩ := ls e1
          obtain ⟨j', rfl, hj⟩ := ls e3
          cases e4
          exact ms (by show max i' j' ≤ 3; omega)
        | bad => rfl
        | opn => rfl
      exact bd va vb fa fb r h2
    cases t with
    | var n =>
      show Tr (sq (match look G n with | some A => some (Rs.ok A) | none => some Rs.bad) (made O)) (fun _ => match look G n with | some A => made O A | none => some Rs.bad)
      cases look G n with
      | none => exact .const _
      | some A => exact .const (made O A)
    | sort n =>
      have hn := k.v_sort.1 v
      show Tr (sq (some (if n < 3 then Rs.ok (sort (n + 1)) else Rs.bad)) (made O)) (fun _ => some (if n < 3 then Rs.ok (sort (n + 1)) else Rs.bad))
      by_cases c : n < 3
      · rw [if_pos c]
        show Tr (made O (sort (n + 1))) _
        rw [ms (by omega)]; exact .const _
      · rw [if_neg c]; exact .const _
    | pi a b => exact bd (k.v_pi v).1 (k.v_pi v).2 fi.1 fun l _ => fi.2 l
    | sig a b => exact bd (k.v_sig v).1 (k.v_sig v).2 fi.1 fun l _ => fi.2 l
    | lam a b =>
      show Tr (sq (sq (lvl O (inS O g G a)) fun _ => sq (inS O g (a :: G) b) fun B => sq (bnd O (inS O g) G a B) fun _ => some (.ok (pi a B))) (made O)) _
      rw [sq_assoc]
      refine (ih (k.v_lam v).1 fi.1).lvl.sq fun i ei => ?_
      obtain ⟨w', l'⟩ := lw ei
      rw [sq_assoc]
      refine (ex w' (k.v_lam v).2 (fi.2 l')).sq fun B eB => ?_
      obtain ⟨aB, vB⟩ := inS_al k eB
      have tB := aB.sound w'
      have sB : B = sort 3 ∨ ∃ j, Ty (a :: G) B (sort j) := tB.valid w'
      have fB : Fine O (a :: G) B := by
        rcases sB with rfl | ⟨j, hj⟩
        · trivial
        · exact hj.fine k w'
      rw [sq_assoc]
      by_cases c : O.vd (pi a B) = true
      · have e : made O (pi a B) = some (.ok (pi a B)) := by unfold made; rw [if_pos c]
        show Tr (sq (bnd O (inS O g) G a B) fun _ => made O (pi a B)) (fun n => sq (made O (pi a B)) fun P => sq (inI O n G P) fun _ => some (.ok P))
        rw [e]
        exact (bd0 (k.v_lam v).1 vB fi.1 fun _ _ => fB).sq fun _ _ => .const _
      · have e : made O (pi a B) = some .opn := by unfold made; rw [if_neg c]
        show Tr (sq (bnd O (inS O g) G a B) fun _ => made O (pi a B)) (fun n => sq (made O (pi a B)) fun P => sq (inI O n G P) fun _ => some (.ok P))
        rw [e]
        intro r h
        have nb : Nb (bnd O (inS O g) G a B) := by
          refine Nb.sq (fun h => by rw [ei] at h; cases h) fun _ _ => ?_
          rcases sB with rfl | ⟨j, hj⟩
          · exact absurd (k.v_lam3 v) c
          · have p : Part O (a :: G) (sort j) (inS O g (a :: G) B) := ⟨inS_nb k w' hj, fun e => ((inS_al k e).1.sound w').uniq hj⟩
            exact (p.lvl k).sq fun _ _ => nb_ok _
        have : r = .opn := by
          cases hx : bnd O (inS O g) G a B with
          | none => rw [hx] at h; cases h
          | some s => cases s with
            | ok t => rw [hx] at h; cases h; rfl
            | bad => exact absurd hx nb
            | opn => rw [hx] at h; cases h; rfl
        subst this
        exact .const _
    | app f u =>
      show Tr (sq (sq (frm O (inS O g G f)) fun F => match F with
        | pi C B => sq (chk O (inS O g G u) C) fun _ => some (.ok (B.inst u))
        | _ => some .bad) (made O)) _
      rw [sq_assoc]
      refine (ih (k.v_app v).1 fi.1).frm.sq fun F eF => ?_
      cases F <;> first
        | exact .const _
        | (rename_i C B
           obtain ⟨S, e3, w'⟩ := frm_ok k eF
           show Tr (sq (sq (chk O (inS O g G u) C) fun _ => some (.ok (B.inst u))) (made O)) _
           rw [sq_assoc]
           exact ((ih (k.v_app v).2 (fi.2 ⟨_, _, _, (inS_al k e3).1, w'⟩)).chk C).sq fun _ _ => .const (made O (B.inst u)))
    | nat =>
      intro r h
      · have : made O (sort 0) = some r := h
        rw [ms (by omega)] at this
        exact (Tr.const (some (.ok (sort 0)))) r this
    | zero =>
      intro r h
      · have : made O nat = some r := h
        unfold made at this
        rw [if_pos k.v_nat] at this
        exact (Tr.const (some (.ok nat))) r this
    | succ n =>
      show Tr (sq (sq (chk O (inS O g G n) nat) fun _ => some (.ok nat)) (made O)) _
      rw [sq_assoc]
      refine ((ih (k.v_succ v) fi).chk nat).sq fun _ _ => ?_
      show Tr (made O nat) _
      unfold made
      rw [if_pos k.v_nat]
      exact .const _
    | elim p z s n =>
      obtain ⟨v1, v2, v3, v4, v5⟩ := k.v_elim v
      obtain ⟨f1, f2, f3, f4, f5⟩ := fi
      show Tr (sq (sq (fam O (inS O g G p) nat) fun _ => sq (chk O (inS O g G z) (app p zero)) fun _ => sq (chk O (inS O g G s) (stepTy p)) fun _ => sq (chk O (inS O g G n) nat) fun _ => some (.ok (app p n))) (made O)) _
      rw [sq_assoc]
      refine ((ih v1 f1).fam nat).sq fun _ _ => ?_
      rw [sq_assoc]
      refine (ih v2 f2).gate k _ (.inl v5) fun _ => ?_
      rw [sq_assoc]
      refine (ih v3 f3).gate k _ (f5.imp (fun h => h) (fun h => h g)) fun _ => ?_
      rw [sq_assoc]
      exact ((ih v4 f4).chk nat).sq fun _ _ => .const (made O (app p n))
    | id t a b =>
      obtain ⟨v1, v2, v3⟩ := k.v_id v
      obtain ⟨f1, f2, f3⟩ := fi
      show Tr (sq (sq (lvl O (inS O g G t)) fun i => sq (chk O (inS O g G a) t) fun _ => sq (chk O (inS O g G b) t) fun _ => some (.ok i)) (made O)) _
      rw [sq_assoc]
      refine (ih v1 f1).lvl.sq fun i ei => ?_
      rw [sq_assoc]
      refine ((ih v2 f2).chk t).sq fun _ _ => ?_
      rw [sq_assoc]
      refine ((ih v3 f3).chk t).sq fun _ _ => ?_
      obtain ⟨i', rfl, hi⟩ := ls ei
      show Tr (made O (sort i')) _
      rw [ms hi]
      exact .const _
    | refl a =>
      show Tr (sq (sq (inS O g G a) fun A => sq (lvl O (inS O g G A)) fun _ => some (.ok (id A a a))) (made O)) _
      rw [sq_assoc]
      refine (ih (k.v_refl v) fi).sq fun A eA => ?_
      obtain ⟨aA, vA⟩ := inS_al k eA
      have tA := aA.sound w
      have fA : Fine O G A := by
        rcases tA.valid w with rfl | ⟨j, hj⟩
        · trivial
        · exact hj.fine k w
      rw [sq_assoc]
      exact (ih vA fA).lvl.sq fun _ _ => .const (made O (id A a a))
    | move p e x =>
      obtain ⟨v1, v2, v3⟩ := k.v_move v
      obtain ⟨f1, f2, f3, f4⟩ := fi
      show Tr (sq (sq (frm O (inS O g G e)) fun E => match E with
        | id t y z => sq (fam O (inS O g G p) t) fun _ => sq (chk O (inS O g G x) (app p y)) fun _ => some (.ok (app p z))
        | _ => some .bad) (made O)) _
      rw [sq_assoc]
      refine (ih v2 f1).frm.sq fun F eF => ?_
      cases F <;> first
        | exact .const _
        | (rename_i t y z
           obtain ⟨S, e3, w'⟩ := frm_ok k eF
           show Tr (sq (sq (fam O (inS O g G p) t) fun _ => sq (chk O (inS O g G x) (app p y)) fun _ => some (.ok (app p z))) (made O)) _
           rw [sq_assoc]
           refine ((ih v1 f2).fam t).sq fun q eq => ?_
           obtain ⟨P, C, D, i, e4, w2, c, w3⟩ := fam_ok k eq
           rw [sq_assoc]
           refine (ih v3 f3).gate k _ ((f4 _ _ _ _ (inS_al k e3).1 w' ⟨P, C, D, i, (inS_al k e4).1, w2, c, w3⟩).imp (fun h => h) (fun h => h g)) fun _ => ?_
           exact .const (made O (app p z)))
    | pair s a b =>
      obtain ⟨v1, v2, v3⟩ := k.v_pair v
      obtain ⟨f1, f2, f3, f4⟩ := fi
      show Tr (sq (sq (lvl O (inS O g G s)) fun _ => sq (some (O.hn s)) fun h => match h with
        | sig A B => sq (chk O (inS O g G a) A) fun _ => sq (chk O (inS O g G b) (B.inst a)) fun _ => some (.ok s)
        | _ => some .bad) (made O)) _
      rw [sq_assoc]
      refine (ih v1 f1).lvl.sq fun _ es => ?_
      rw [sq_assoc]
      refine (Tr.const (some (O.hn s))).sq fun F eF => ?_
      have wF := (k.hn_ok (Option.some.inj eF)).1
      cases F <;> first
        | exact .const _
        | (rename_i A B
           show Tr (sq (sq (chk O (inS O g G a) A) fun _ => sq (chk O (inS O g G b) (B.inst a)) fun _ => some (.ok s)) (made O)) (fun n => sq (chk O (inI O n G a) A) fun _ => sq (made O (B.inst a)) fun w => sq (chk O (inI O n G b) w) fun _ => some (.ok s))
           rw [sq_assoc]
           refine ((ih v2 f2).chk A).sq fun q eq => ?_
           obtain ⟨U, e4, c⟩ := chk_ok k eq
           rw [sq_assoc]
           refine (ih v3 f3).gate k _ ((f4 (lw es).2 _ _ wF ⟨U, (inS_al k e4).1, c⟩).imp (fun h => h) (fun h => h g)) fun _ => ?_
           have e : made O s = some (.ok s) := by unfold made; rw [if_pos v1]
           show Tr (made O s) _
           rw [e]; exact .const _)
    | fst q =>
      show Tr (sq (sq (frm O (inS O g G q)) fun Q => match Q with
        | sig A B => some (.ok A)
        | _ => some .bad) (made O)) _
      rw [sq_assoc]
      refine (ih (k.v_fst v) fi).frm.sq fun F eF => ?_
      obtain ⟨S, e3, e4⟩ := sq_ok eF
      have vF := (k.hn_ok (Option.some.inj e4)).2.2
      cases F <;> first
        | exact .const _
        | (rename_i A B
           have e : made O A = some (.ok A) := by unfold made; rw [if_pos (k.v_sig vF).1]
           show Tr (made O A) _
           rw [e]; exact .const _)
    | snd q =>
      show Tr (sq (sq (frm O (inS O g G q)) fun Q => match Q with
        | sig A B => some (.ok (B.inst (fst q)))
        | _ => some .bad) (made O)) _
      rw [sq_assoc]
      refine (ih (k.v_snd v) fi).frm.sq fun F eF => ?_
      cases F <;> first
        | exact .const _
        | (rename_i A B; exact .const (made O (B.inst (fst q))))
/-- In a well-formed context both answer the same. -/
theorem agree_end (k : OrcOk O) {G : List Tm} {t : Tm} (w : Wf G) (hl : G.length ≤ 20) (v : O.vd t = true) (f : Fine O G t) : ∃ r, Is (fun n => inS O n G t) r ∧ Is (fun n => inI O n G t) r := by
  obtain ⟨r, N, h⟩ := inS_end k w t
  exact ⟨r, ⟨N, h⟩, agree k N w hl v f r (h N (Nat.le_refl N))⟩
end Tm
end Go.Proofs.YthopkmimhlcjkaaGreat
end
section
/- The program's inference of types: it is sound, and it ends in well-formed contexts. No program in sight. -/
set_option linter.unusedVariables false
set_option linter.unusedSimpArgs false
namespace Go.Proofs.YthopkmimhlcjkaaGreat
namespace Tm
variable {O : Orc}
theorem ext_ok {I : List Tm → Tm → Option Rs} {G : List Tm} {a b A : Tm} (h : ext I G a b = some (.ok A)) : I (a :: G) b = some (.ok A) := by
  unfold ext at h
  split at h
  · cases h
  · exact h
theorem inI_al (k : OrcOk O) : ∀ {g : Nat} {G : List Tm} {t A : Tm}, inI O g G t = some (.ok A) → Al G t A
  | 0, _, _, _, h => by cases h
  | g + 1, G, t, A, h => by
    rw [inI] at h
    have bd : ∀ {a b h}, (sq (lvl O (inI O g G a)) fun i => sq (lvl O (ext (inI O g) G a b)) fun j => some (.ok (sort (max (lv i) (lv j))))) = some (.ok h) → ∃ S R i j, Al G a S ∧ Wh S (sort i) ∧ Al (a :: G) b R ∧ Wh R (sort j) ∧ h = sort (max i j) := by
      intro a b h e
      obtain ⟨x, e1, e2⟩ := sq_ok e
      obtain ⟨y, e3, e4⟩ := sq_ok e2
      obtain ⟨S, i, f1, rfl, w1⟩ := lvl_ok k e1
      obtain ⟨R, j, f2, rfl, w2⟩ := lvl_ok k e3
      cases e4
      exact ⟨S, R, i, j, inI_al k f1, w1, inI_al k (ext_ok f2), w2, rfl⟩
    cases t with
    | var n =>
      simp only [kI] at h
      split at h
      · obtain ⟨rfl, _⟩ := made_ok h; exact .var ‹_›
      · cases h
    | sort n =>
      simp only [kI, Option.some.injEq] at h
      split at h
      · cases h; exact .sort ‹_›
      · cases h
    | pi a b => obtain ⟨S, R, i, j, h1, w1, h2, w2, rfl⟩ := bd h; exact .pi h1 w1 h2 w2
    | sig a b => obtain ⟨S, R, i, j, h1, w1, h2, w2, rfl⟩ := bd h; exact .sig h1 w1 h2 w2
    | lam a b =>
      obtain ⟨x, e1, e2⟩ := sq_ok h
      obtain ⟨B, e3, e4⟩ := sq_ok e2
      obtain ⟨y, e5, e6⟩ := sq_ok e4
      obtain ⟨rfl, v⟩ := made_ok e5
      obtain ⟨z, e7, e8⟩ := sq_ok e6
      cases e8
      cases inI_al k e7 with
      | pi h1 w1 h2 w2 => exact .lam h1 w1 (inI_al k (ext_ok e3)) h2 w2
    | app f u =>
      obtain ⟨F, e1, e2⟩ := sq_ok h
      obtain ⟨S, e3, w⟩ := frm_ok k e1
      split at e2
      · obtain ⟨x, e4, e5⟩ := sq_ok e2
        obtain ⟨U, e6, c⟩ := chk_ok k e4
        obtain ⟨rfl, _⟩ := made_ok e5
        exact .app (inI_al k e3) w (inI_al k e6) c
      · cases e2
    | nat => cases h; exact .nat
    | zero => cases h; exact .zero
    | succ n =>
      obtain ⟨x, e1, e2⟩ := sq_ok h
      obtain ⟨U, e6, c⟩ := chk_ok k e1
      cases e2
      exact .succ (inI_al k e6) c
    | elim p z s n =>
      obtain ⟨x, e1, e2⟩ := sq_ok h
      obtain ⟨P, C, D, i, f1, w, c, v⟩ := fam_ok k e1
      obtain ⟨x, m1, e2⟩ := sq_ok e2
      obtain ⟨rfl, _⟩ := made_ok m1
      obtain ⟨x, e3, e4⟩ := sq_ok e2
      obtain ⟨Z, f2, c2⟩ := chk_ok k e3
      obtain ⟨x, m2, e4⟩ := sq_ok e4
      obtain ⟨rfl, _⟩ := made_ok m2
      obtain ⟨x, e5, e6⟩ := sq_ok e4
      obtain ⟨S, f3, c3⟩ := chk_ok k e5
      obtain ⟨x, e7, e8⟩ := sq_ok e6
      obtain ⟨N, f4, c4⟩ := chk_ok k e7
      obtain ⟨rfl, _⟩ := made_ok e8
      exact .elim (inI_al k f1) w c v (inI_al k f2) c2 (inI_al k f3) c3 (inI_al k f4) c4
    | id t a b =>
      obtain ⟨x, e1, e2⟩ := sq_ok h
      obtain ⟨S, i, f1, rfl, w⟩ := lvl_ok k e1
      obtain ⟨x, e3, e4⟩ := sq_ok e2
      obtain ⟨Z, f2, c2⟩ := chk_ok k e3
      obtain ⟨x, e5, e6⟩ := sq_ok e4
      obtain ⟨S, f3, c3⟩ := chk_ok k e5
      cases e6
      exact .id (inI_al k f1) w (inI_al k f2) c2 (inI_al k f3) c3
    | refl a =>
      obtain ⟨B, e1, e2⟩ := sq_ok h
      obtain ⟨x, e3, e4⟩ := sq_ok e2
      obtain ⟨S, i, f1, rfl, w⟩ := lvl_ok k e3
      obtain ⟨rfl, _⟩ := made_ok e4
      exact .refl (inI_al k e1) (inI_al k f1) w
    | move p e x =>
      obtain ⟨F, e1, e2⟩ := sq_ok h
      obtain ⟨S, e3, w⟩ := frm_ok k e1
      split at e2
      · obtain ⟨x, e4, e5⟩ := sq_ok e2
        obtain ⟨P, C, D, i, f1, w2, c, v⟩ := fam_ok k e4
        obtain ⟨x, m1, e5⟩ := sq_ok e5
        obtain ⟨rfl, _⟩ := made_ok m1
        obtain ⟨x, e6, e7⟩ := sq_ok e5
        obtain ⟨U, e8, c2⟩ := chk_ok k e6
        obtain ⟨rfl, _⟩ := made_ok e7
        exact .move (inI_al k e3) w (inI_al k f1) w2 c v (inI_al k e8) c2
      · cases e2
    | pair s a b =>
      obtain ⟨x, e1, e2⟩ := sq_ok h
      obtain ⟨S, i, f1, rfl, w⟩ := lvl_ok k e1
      obtain ⟨H, e3, e4⟩ := sq_ok e2
      have w2 := (k.hn_ok (Option.some.inj e3)).1
      split at e4
      · obtain ⟨x, e5, e6⟩ := sq_ok e4
        obtain ⟨Z, f2, c2⟩ := chk_ok k e5
        obtain ⟨x, m1, e6⟩ := sq_ok e6
        obtain ⟨rfl, _⟩ := made_ok m1
        obtain ⟨x, e7, e8⟩ := sq_ok e6
        obtain ⟨S, f3, c3⟩ := chk_ok k e7
        cases e8
        exact .pair (inI_al k f1) w w2 (inI_al k f2) c2 (inI_al k f3) c3
      · cases e4
    | fst q =>
      obtain ⟨F, e1, e2⟩ := sq_ok h
      obtain ⟨S, e3, w⟩ := frm_ok k e1
      split at e2
      · cases e2; exact .fst (inI_al k e3) w
      · cases e2
    | snd q =>
      obtain ⟨F, e1, e2⟩ := sq_ok h
      obtain ⟨S, e3, w⟩ := frm_ok k e1
      split at e2
      · obtain ⟨rfl, _⟩ := made_ok e2; exact .snd (inI_al k e3) w
      · cases e2
/-- What the program infers is valid. -/
theorem inI_vd (k : OrcOk O) : ∀ {g : Nat} {G : List Tm} {t A : Tm}, O.vd t = true → inI O g G t = some (.ok A) → O.vd A = true
  | 0, _, _, _, _, h => by cases h
  | g + 1, G, t, A, v, h => by
    rw [inI] at h
    have ls : ∀ {x h}, lvl O x = some (.ok h) → ∃ i, h = sort i ∧ i ≤ 3 := fun {x h} e => by
      obtain ⟨s, e1, e2⟩ := sq_ok e
      obtain ⟨u, e3, e4⟩ := sq_ok e1
      have := (k.hn_ok (Option.some.inj e4)).2.2
      split at e2
      · cases e2; exact ⟨_, rfl, k.v_sort.1 this⟩
      · cases e2
    have bd : ∀ {a b h}, (sq (lvl O (inI O g G a)) fun i => sq (lvl O (ext (inI O g) G a b)) fun j => some (.ok (sort (max (lv i) (lv j))))) = some (.ok h) → O.vd h = true := by
      intro a b h e
      obtain ⟨x, e1, e2⟩ := sq_ok e
      obtain ⟨y, e3, e4⟩ := sq_ok e2
      obtain ⟨i, rfl, hi⟩ := ls e1
      obtain ⟨j, rfl, hj⟩ := ls e3
      cases e4
      exact k.v_sort.2 (by show max i j ≤ 3; omega)
    cases t with
    | var n =>
      simp only [kI] at h
      split at h
      · obtain ⟨rfl, w⟩ := made_ok h; exact w
      · cases h
    | sort n =>
      simp only [kI, Option.some.injEq] at h
      split at h
      · cases h; exact k.v_sort.2 (by omega)
      · cases h
    | pi a b => exact bd h
    | sig a b => exact bd h
    | lam a b =>
      obtain ⟨x, e1, e2⟩ := sq_ok h
      obtain ⟨B, e3, e4⟩ := sq_ok e2
      obtain ⟨y, e5, e6⟩ := sq_ok e4
      obtain ⟨rfl, w⟩ := made_ok e5
      obtain ⟨z, e7, e8⟩ := sq_ok e6
      cases e8; exact w
    | app f u =>
      obtain ⟨F, e1, e2⟩ := sq_ok h
      split at e2
      · obtain ⟨x, e4, e5⟩ := sq_ok e2
        obtain ⟨rfl, w⟩ := made_ok e5; exact w
      · cases e2
    | nat => cases h; exact k.v_sort.2 (by omega)
    | zero => cases h; exact k.v_nat
    | succ n =>
      obtain ⟨x, e1, e2⟩ := sq_ok h
      cases e2; exact k.v_nat
    | elim p z s n =>
      obtain ⟨x, e1, e2⟩ := sq_ok h
      obtain ⟨x, m1, e2⟩ := sq_ok e2
      obtain ⟨x, e3, e4⟩ := sq_ok e2
      obtain ⟨x, m2, e4⟩ := sq_ok e4
      obtain ⟨x, e5, e6⟩ := sq_ok e4
      obtain ⟨x, e7, e8⟩ := sq_ok e6
      obtain ⟨rfl, w⟩ := made_ok e8; exact w
    | id t a b =>
      obtain ⟨x, e1, e2⟩ := sq_ok h
      obtain ⟨i, rfl, hi⟩ := ls e1
      obtain ⟨x, e3, e4⟩ := sq_ok e2
      obtain ⟨x, e5, e6⟩ := sq_ok e4
      cases e6; exact k.v_sort.2 hi
    | refl a =>
      obtain ⟨B, e1, e2⟩ := sq_ok h
      obtain ⟨x, e3, e4⟩ := sq_ok e2
      obtain ⟨rfl, w⟩ := made_ok e4; exact w
    | move p e x =>
      obtain ⟨F, e1, e2⟩ := sq_ok h
      split at e2
      · obtain ⟨x, e4, e5⟩ := sq_ok e2
        obtain ⟨x, m1, e5⟩ := sq_ok e5
        obtain ⟨x, e6, e7⟩ := sq_ok e5
        obtain ⟨rfl, w⟩ := made_ok e7; exact w
      · cases e2
    | pair s a b =>
      obtain ⟨x, e1, e2⟩ := sq_ok h
      obtain ⟨H, e3, e4⟩ := sq_ok e2
      split at e4
      · obtain ⟨x, e5, e6⟩ := sq_ok e4
        obtain ⟨x, m1, e6⟩ := sq_ok e6
        obtain ⟨x, e7, e8⟩ := sq_ok e6
        cases e8; exact (k.v_pair v).1
      · cases e4
    | fst q =>
      obtain ⟨F, e1, e2⟩ := sq_ok h
      obtain ⟨u, e3, e4⟩ := sq_ok e1
      have := (k.hn_ok (Option.some.inj e4)).2.2
      split at e2
      · cases e2; exact (k.v_sig this).1
      · cases e2
    | snd q =>
      obtain ⟨F, e1, e2⟩ := sq_ok h
      split at e2
      · obtain ⟨rfl, w⟩ := made_ok e2; exact w
      · cases e2
theorem Le.ext {I J : List Tm → Tm → Option Rs} (h : ∀ G t, Le (I G t) (J G t)) (G : List Tm) (a b : Tm) : Le (ext I G a b) (ext J G a b) := by
  unfold Tm.ext
  split
  · exact .rfl' _
  · exact h _ _
theorem Le.kI {I J : List Tm → Tm → Option Rs} (h : ∀ G t, Le (I G t) (J G t)) (G : List Tm) (t : Tm) : Le (kI O I G t) (kI O J G t) := by
  cases t with
  | var n => exact .rfl' _
  | sort n => exact .rfl' _
  | pi a b => exact (h _ _).lvl.sq fun _ => (Le.ext h _ _ _).lvl.sq fun _ => .rfl' _
  | sig a b => exact (h _ _).lvl.sq fun _ => (Le.ext h _ _ _).lvl.sq fun _ => .rfl' _
  | lam a b => exact (h _ _).lvl.sq fun _ => (Le.ext h _ _ _).sq fun _ => (Le.rfl' _).sq fun _ => (h _ _).sq fun _ => .rfl' _
  | app f u => exact (h _ _).frm.sq fun F => by cases F <;> first | exact ((h _ _).chk _).sq fun _ => .rfl' _ | exact .rfl' _
  | nat => exact .rfl' _
  | zero => exact .rfl' _
  | succ n => exact ((h _ _).chk _).sq fun _ => .rfl' _
  | elim p z s n => exact ((h _ _).fam _).sq fun _ => (Le.rfl' _).sq fun _ => ((h _ _).chk _).sq fun _ => (Le.rfl' _).sq fun _ => ((h _ _).chk _).sq fun _ => ((h _ _).chk _).sq fun _ => .rfl' _
  | id t a b => exact (h _ _).lvl.sq fun _ => ((h _ _).chk _).sq fun _ => ((h _ _).chk _).sq fun _ => .rfl' _
  | refl a => exact (h _ _).sq fun _ => (h _ _).lvl.sq fun _ => .rfl' _
  | move p e x => exact (h _ _).frm.sq fun F => by cases F <;> first | exact ((h _ _).fam _).sq fun _ => (Le.rfl' _).sq fun _ => ((h _ _).chk _).sq fun _ => .rfl' _ | exact .rfl' _
  | pair s a b => exact (h _ _).lvl.sq fun _ => (Le.rfl' _).sq fun F => by cases F <;> first | exact ((h _ _).chk _).sq fun _ => (Le.rfl' _).sq fun _ => ((h _ _).chk _).sq fun _ => .rfl' _ | exact .rfl' _
  | fst q => exact (h _ _).frm.sq fun _ => .rfl' _
  | snd q => exact (h _ _).frm.sq fun _ => .rfl' _
theorem inI_up : ∀ (g : Nat) (G : List Tm) (t : Tm), Le (inI O g G t) (inI O (g + 1) G t)
  | 0, _, _ => fun _ h => by cases h
  | g + 1, G, t => by
    rw [inI, inI]
    exact Le.kI (inI_up g) G t
theorem inI_le {g h : Nat} (k : g ≤ h) {G : List Tm} {t : Tm} : Le (inI O g G t) (inI O h G t) := by
  induction k with
  | refl => exact .rfl' _
  | step _ ih => exact fun r e => inI_up _ _ _ r (ih r e)
theorem inI_is {g : Nat} {G : List Tm} {t : Tm} {r : Rs} (h : inI O g G t = some r) : Is (fun n => inI O n G t) r := ⟨g, fun n hn => inI_le hn r h⟩
theorem ends_I {G : List Tm} {t : Tm} (h : Ends fun n => kI O (inI O n) G t) : Ends fun n => inI O n G t :=
  let ⟨r, h⟩ := h
  ⟨r, is_I h⟩
theorem isI_al (k : OrcOk O) {G : List Tm} {t A : Tm} (h : Is (fun n => inI O n G t) (.ok A)) : Al G t A := by
  obtain ⟨N, h⟩ := h
  exact inI_al k (h N (Nat.le_refl N))
theorem isI_lvl (k : OrcOk O) {G : List Tm} {t A : Tm} (w : Wf G) (h : Is (fun n => lvl O (inI O n G t)) (.ok A)) : Wf (t :: G) := by
  obtain ⟨N, h⟩ := h
  obtain ⟨s, i, e, rfl, r⟩ := lvl_ok k (h N (Nat.le_refl N))
  exact .cons w (((inI_al k e).sound w).lvl w r)
theorem Ends.made (t : Tm) : Ends fun _ => made O t := .of
theorem cloI_of (k : OrcOk O) {G : List Tm} (w : Wf G) (hl : G.length < 20 → ∀ A, Wf (A :: G) → ∀ t, Ends fun n => inI O n (A :: G) t) : Clo (fun t => Ends fun n => inI O n G t) G := by
  have hx : ∀ a b, Wf (a :: G) → Ends fun n => ext (inI O n) G a b := fun a b w' => by
    by_cases c : 20 ≤ G.length
    · exact ⟨.opn, 0, fun n _ => by show ext _ _ _ _ = _; rw [Tm.ext, if_pos c]⟩
    · obtain ⟨r, N, h⟩ := hl (by omega) a w' b
      exact ⟨r, N, fun n hn => by show ext _ _ _ _ = _; rw [Tm.ext, if_neg c]; exact h n hn⟩
  have hp : ∀ {a b}, (Ends fun n => inI O n G a) → Ends fun n => inI O n G (pi a b) := fun h => ends_I (h.lvl.bind fun _ q => (hx _ _ (isI_lvl k w q)).lvl.bind fun _ _ => .of)
  exact {
    var := fun n => ends_I (by show Ends fun _ => match look G n with | some A => Tm.made O A | none => some Rs.bad; exact .const _ (by split <;> simp [Tm.made]))
    sort := fun n => ends_I .of
    nat := ends_I .of
    zero := ends_I .of
    succ := fun h => ends_I ((h.chk _).bind fun _ _ => .of)
    pi := hp
    sig := fun h => ends_I (h.lvl.bind fun _ q => (hx _ _ (isI_lvl k w q)).lvl.bind fun _ _ => .of)
    lam := fun {a b} h => ends_I (h.lvl.bind fun _ q => (hx _ _ (isI_lvl k w q)).bind fun B _ => (Ends.made _).bind fun P eP => by
      obtain ⟨N, eP⟩ := eP
      obtain ⟨rfl, _⟩ := made_ok (eP N (Nat.le_refl N))
      exact (hp h).bind fun _ _ => .of)
    app := fun h l => ends_I (h.frm.bind fun F _ => by cases F <;> first | exact (l.chk _).bind fun _ _ => .made _ | exact .of)
    elim := fun h l m o => ends_I ((h.fam _).bind fun _ _ => (Ends.made _).bind fun _ _ => (l.chk _).bind fun _ _ => (Ends.made _).bind fun _ _ => (m.chk _).bind fun _ _ => (o.chk _).bind fun _ _ => .made _)
    id := fun h l m => ends_I (h.lvl.bind fun _ _ => (l.chk _).bind fun _ _ => (m.chk _).bind fun _ _ => .of)
    refl := fun h l => ends_I (h.bind fun A q => (l A (isI_al k q)).lvl.bind fun _ _ => .made _)
    move := fun h l m => ends_I (l.frm.bind fun F _ => by cases F <;> first | exact (h.fam _).bind fun _ _ => (Ends.made _).bind fun _ _ => (m.chk _).bind fun _ _ => .made _ | exact .of)
    pair := fun h l m => ends_I (h.lvl.bind fun _ _ => Ends.bind .of fun F _ => by cases F <;> first | exact (l.chk _).bind fun _ _ => (Ends.made _).bind fun _ _ => (m.chk _).bind fun _ _ => .of | exact .of)
    fst := fun h => ends_I (h.frm.bind fun F _ => .const _ (by split <;> simp))
    snd := fun h => ends_I (h.frm.bind fun F _ => .const _ (by split <;> simp [Tm.made])) }
/-- The program's inference ends. -/
theorem inI_ends (k : OrcOk O) : ∀ (m : Nat) (G : List Tm), 20 ≤ G.length + m → Wf G → ∀ t, Ends fun n => inI O n G t
  | 0, G, h, w, t => (cloI_of k w fun hl => absurd hl (by omega)).all w t
  | m + 1, G, h, w, t => (cloI_of k w fun _ A w' => inI_ends k m (A :: G) (by simp only [List.length_cons]; omega) w').all w t
theorem inI_end (k : OrcOk O) {G : List Tm} (w : Wf G) (t : Tm) : ∃ r, Is (fun n => inI O n G t) r := inI_ends k 20 G (by omega) w t
/-- The program on a term that has a type: its type, or a limit is reached. -/
theorem inI_typed (k : OrcOk O) {G : List Tm} {t A : Tm} (w : Wf G) (hl : G.length ≤ 20) (v : O.vd t = true) (h : Ty G t A) : ∃ r, Is (fun n => inI O n G t) r ∧ Is (fun n => inS O n G t) r ∧ r ≠ .bad ∧ ∀ B, r = .ok B → Ty G t B ∧ Conv B A := by
  obtain ⟨r, h1, h2⟩ := agree_end k w hl v (h.fine k w)
  refine ⟨r, h2, h1, ?_, ?_⟩
  · obtain ⟨N, h1⟩ := h1
    have := h1 N (Nat.le_refl N)
    intro e; subst e
    exact inS_nb k w h this
  · intro B e; subst e
    have := (isI_al k h2).sound w
    exact ⟨this, this.uniq h⟩
end Tm
end Go.Proofs.YthopkmimhlcjkaaGreat
end
section
/- Terms with one constructor a kind, as terms of the program: shifts, substitutions, steps, validity. No program in sight. -/
set_option linter.unusedVariables false
set_option linter.unusedSimpArgs false
namespace Go.Proofs.YthopkmimhlcjkaaGreat
open Go Go.Dk
/-- The program's term. -/
def of : Tm → T
  | .var n => .mk 1 n []
  | .sort n => .mk 2 n []
  | .pi a b => .mk 3 0 [of a, of b]
  | .lam a b => .mk 4 0 [of a, of b]
  | .app a b => .mk 5 0 [of a, of b]
  | .nat => .mk 6 0 []
  | .zero => .mk 7 0 []
  | .succ a => .mk 8 0 [of a]
  | .elim p z s n => .mk 9 0 [of p, of z, of s, of n]
  | .id t a b => .mk 10 0 [of t, of a, of b]
  | .refl a => .mk 11 0 [of a]
  | .move p e x => .mk 12 0 [of p, of e, of x]
  | .sig a b => .mk 13 0 [of a, of b]
  | .pair s a b => .mk 14 0 [of s, of a, of b]
  | .fst a => .mk 15 0 [of a]
  | .snd a => .mk 16 0 [of a]
theorem of_inj : ∀ {a b : Tm}, of a = of b → a = b := by
  intro a
  induction a <;> intro b h <;> cases b <;> simp_all [of] <;> grind
/-! Shifts and substitutions. -/
def shn (a c n : Nat) : Nat := if c ≤ n then n + a else n
theorem up_shn (a c : Nat) : Tm.up (shn a c) = shn a (c + 1) := by
  funext n; cases n with
  | zero => simp [Tm.up, shn]
  | succ n => simp only [Tm.up, shn]; split <;> split <;> omega
theorem of_sh (a : Nat) : ∀ (t : Tm) (c : Nat), shT (a : Int) (of t) (c : Int) = of (t.ren (shn a c)) := by
  intro t
  induction t with
  | var n =>
    intro c
    simp only [of, Tm.ren, shT, shL, shn, true_and]
    by_cases h : c ≤ n
    · rw [if_pos h, if_pos (by omega)]; rfl
    · rw [if_neg h, if_neg (by omega)]
  | pi a b ha hb => intro c; simp only [of, Tm.ren, shT, shL, under, up_shn, ← ha, ← hb]; simp
  | lam a b ha hb => intro c; simp only [of, Tm.ren, shT, shL, under, up_shn, ← ha, ← hb]; simp
  | sig a b ha hb => intro c; simp only [of, Tm.ren, shT, shL, under, up_shn, ← ha, ← hb]; simp
  | _ => intro c; simp_all [of, Tm.ren, shT, shL, under]
theorem shn_zero (a : Nat) : shn a 0 = (· + a) := by funext n; simp [shn]
theorem of_wk (t : Tm) : shT 1 (of t) 0 = of t.wk := by
  have := of_sh 1 t 0
  rw [shn_zero] at this; exact this
def sbn (u : Tm) (c n : Nat) : Tm := if n < c then .var n else if n = c then u.ren (· + c) else .var (n - 1)
theorem ups_sbn (u : Tm) (c : Nat) : Tm.ups (sbn u c) = sbn u (c + 1) := by
  funext n; cases n with
  | zero => simp [Tm.ups, sbn]
  | succ n =>
    simp only [Tm.ups, sbn]
    by_cases h : n < c
    · rw [if_pos h, if_pos (show n + 1 < c + 1 by omega)]; rfl
    · rw [if_neg h, if_neg (show ¬ n + 1 < c + 1 by omega)]
      by_cases h2 : n = c
      · rw [if_pos h2, if_pos (show n + 1 = c + 1 by omega), Tm.wk, Tm.ren_ren]; rfl
      · rw [if_neg h2, if_neg (show ¬ n + 1 = c + 1 by omega)]
        show Tm.var (n - 1 + 1) = Tm.var (n + 1 - 1)
        congr 1; omega
theorem of_sb (u : Tm) : ∀ (t : Tm) (c : Nat), sbT (of u) (of t) (c : Int) (c : Int) = of (t.sub (sbn u c)) := by
  intro t
  induction t with
  | var n =>
    intro c
    simp only [of, Tm.sub, sbT, sbL, sbn, true_and]
    by_cases h : n < c
    · rw [if_pos h, if_neg (by omega), if_neg (by omega)]; rfl
    · rw [if_neg h]
      by_cases h2 : n = c
      · subst h2
        rw [if_pos rfl, if_pos rfl]
        have := of_sh n u 0
        rw [shn_zero] at this; exact this
      · rw [if_neg h2, if_neg (by omega), if_pos (by omega)]
        simp only [of]; congr 1; omega
  | pi a b ha hb =>
    intro c
    have hb' := hb (c + 1)
    simp only [of, Tm.sub, sbT, sbL, under, ups_sbn, ← ha, ← hb']; simp
  | lam a b ha hb =>
    intro c
    have hb' := hb (c + 1)
    simp only [of, Tm.sub, sbT, sbL, under, ups_sbn, ← ha, ← hb']; simp
  | sig a b ha hb =>
    intro c
    have hb' := hb (c + 1)
    simp only [of, Tm.sub, sbT, sbL, under, ups_sbn, ← ha, ← hb']; simp
  | _ => intro c; simp_all [of, Tm.sub, sbT, sbL, under]
theorem sbn_zero (u : Tm) : sbn u 0 = Tm.sc u Tm.var := by
  funext n; cases n with
  | zero => exact Tm.ren_id u
  | succ n => simp [sbn, Tm.sc]
theorem of_inst (b u : Tm) : sbT (of u) (of b) 0 0 = of (b.inst u) := by
  have := of_sb u b 0
  rw [sbn_zero] at this; exact this
/-! Steps. -/
theorem of_par {t u : Tm} (h : Tm.Par t u) : Par (of t) (of u) := by
  have c1 : ∀ {k n : Int} {a a' : T}, Par a a' → Par (.mk k n [a]) (.mk k n [a']) := fun h => .node (.cons h .nil)
  have c2 : ∀ {k n : Int} {a a' b b' : T}, Par a a' → Par b b' → Par (.mk k n [a, b]) (.mk k n [a', b']) := fun h k => .node (.cons h (.cons k .nil))
  have c3 : ∀ {k n : Int} {a a' b b' c c' : T}, Par a a' → Par b b' → Par c c' → Par (.mk k n [a, b, c]) (.mk k n [a', b', c']) := fun h k l => .node (.cons h (.cons k (.cons l .nil)))
  have c4 : ∀ {k n : Int} {a a' b b' c c' d d' : T}, Par a a' → Par b b' → Par c c' → Par d d' → Par (.mk k n [a, b, c, d]) (.mk k n [a', b', c', d']) := fun h k l m => .node (.cons h (.cons k (.cons l (.cons m .nil))))
  induction h with
  | var => exact Par.refl _
  | sort => exact Par.refl _
  | nat => exact Par.refl _
  | zero => exact Par.refl _
  | pi h k ih ik => exact c2 ih ik
  | lam h k ih ik => exact c2 ih ik
  | app h k ih ik => exact c2 ih ik
  | sig h k ih ik => exact c2 ih ik
  | succ h ih => exact c1 ih
  | refl h ih => exact c1 ih
  | fst h ih => exact c1 ih
  | snd h ih => exact c1 ih
  | id h k l ih ik il => exact c3 ih ik il
  | move h k l ih ik il => exact c3 ih ik il
  | pair h k l ih ik il => exact c3 ih ik il
  | elim h k l m ih ik il im => exact c4 ih ik il im
  | @beta a b b' u u' h k ih ik =>
    have := Par.red (k := 5) (n := 0) (.cons (c2 (k := 4) (n := 0) (Par.refl (of a)) ih) (.cons ik .nil)) (.app rfl rfl)
    rwa [con_app rfl, show kd (kd (.mk 5 0 [.mk 4 0 [of a, of b'], of u']) 0) 1 = of b' from rfl, show kd (.mk 5 0 [.mk 4 0 [of a, of b'], of u']) 1 = of u' from rfl, of_inst] at this
  | @ezero p z z' s h ih =>
    have := Par.red (k := 9) (n := 0) (.cons (Par.refl (of p)) (.cons ih (.cons (Par.refl (of s)) (.cons (Par.refl (.mk 7 0 [])) .nil)))) (.zero rfl rfl)
    rwa [con_zero rfl rfl] at this
  | @esucc p p' z z' s s' n n' h k l m ih ik il im =>
    have := Par.red (k := 9) (n := 0) (.cons ih (.cons ik (.cons il (.cons (c1 (k := 8) (n := 0) im) .nil)))) (.succ rfl rfl)
    rwa [con_succ rfl rfl] at this
  | @mrefl p a x x' h ih =>
    have := Par.red (k := 12) (n := 0) (.cons (Par.refl (of p)) (.cons (Par.refl (.mk 11 0 [of a])) (.cons ih .nil))) (.move rfl rfl)
    rwa [con_move rfl] at this
  | @fpair t a a' b h ih =>
    have := Par.red (k := 15) (n := 0) (.cons (c3 (k := 14) (n := 0) (Par.refl (of t)) ih (Par.refl (of b))) .nil) (.fst rfl rfl)
    rwa [con_fst rfl] at this
  | @spair t a b b' h ih =>
    have := Par.red (k := 16) (n := 0) (.cons (c3 (k := 14) (n := 0) (Par.refl (of t)) (Par.refl (of a)) ih) .nil) (.snd rfl rfl)
    rwa [con_snd rfl] at this
theorem of_red {t u : Tm} (h : Tm.Red t u) : Red (of t) (of u) := by
  induction h with
  | nil => exact .refl
  | cons h _ ih => exact .step (of_par h) ih
theorem ParL.one {a : T} {us : List T} (h : ParL [a] us) : ∃ a', us = [a'] ∧ Par a a' := by
  cases h with | cons h hs => cases hs; exact ⟨_, rfl, h⟩
theorem ParL.two {a b : T} {us : List T} (h : ParL [a, b] us) : ∃ a' b', us = [a', b'] ∧ Par a a' ∧ Par b b' := by
  cases h with | cons h hs => obtain ⟨b', rfl, h2⟩ := hs.one; exact ⟨_, _, rfl, h, h2⟩
theorem ParL.three {a b c : T} {us : List T} (h : ParL [a, b, c] us) : ∃ a' b' c', us = [a', b', c'] ∧ Par a a' ∧ Par b b' ∧ Par c c' := by
  cases h with | cons h hs => obtain ⟨b', c', rfl, h2⟩ := hs.two; exact ⟨_, _, _, rfl, h, h2⟩
theorem ParL.four {a b c d : T} {us : List T} (h : ParL [a, b, c, d] us) : ∃ a' b' c' d', us = [a', b', c', d'] ∧ Par a a' ∧ Par b b' ∧ Par c c' ∧ Par d d' := by
  cases h with | cons h hs => obtain ⟨b', c', d', rfl, h2⟩ := hs.three; exact ⟨_, _, _, _, rfl, h, h2⟩
theorem of_k (t : Tm) : (of t).k = match t with
    | .var _ => 1 | .sort _ => 2 | .pi .. => 3 | .lam .. => 4 | .app .. => 5 | .nat => 6 | .zero => 7 | .succ _ => 8 | .elim .. => 9 | .id .. => 10 | .refl _ => 11 | .move .. => 12 | .sig .. => 13 | .pair .. => 14 | .fst _ => 15 | .snd _ => 16 := by
  cases t <;> rfl
/-- What a term steps to in the program's form is the form of what it steps to. -/
theorem par_of : ∀ {t : Tm} {x : T}, Par (of t) x → ∃ u, x = of u ∧ Tm.Par t u := by
  intro t
  have no : ∀ {k n : Int} {ts : List T}, Rx (.mk k n ts) → k ≠ 5 → k ≠ 9 → k ≠ 12 → k ≠ 15 → k ≠ 16 → False := fun h h1 h2 h3 h4 h5 => by
    have := h.k; simp only [T.k] at this; omega
  induction t with
  | var n => intro x h; cases h with
    | node h => cases h; exact ⟨.var n, rfl, .var⟩
    | red h r => exact (no r (by decide) (by decide) (by decide) (by decide) (by decide)).elim
  | sort n => intro x h; cases h with
    | node h => cases h; exact ⟨.sort n, rfl, .sort⟩
    | red h r => exact (no r (by decide) (by decide) (by decide) (by decide) (by decide)).elim
  | nat => intro x h; cases h with
    | node h => cases h; exact ⟨.nat, rfl, .nat⟩
    | red h r => exact (no r (by decide) (by decide) (by decide) (by decide) (by decide)).elim
  | zero => intro x h; cases h with
    | node h => cases h; exact ⟨.zero, rfl, .zero⟩
    | red h r => exact (no r (by decide) (by decide) (by decide) (by decide) (by decide)).elim
  | pi a b ha hb => intro x h; cases h with
    | node h => obtain ⟨a', b', rfl, p, q⟩ := h.two; obtain ⟨u, rfl, hu⟩ := ha p; obtain ⟨v, rfl, hv⟩ := hb q; exact ⟨.pi u v, rfl, .pi hu hv⟩
    | red h r => exact (no r (by decide) (by decide) (by decide) (by decide) (by decide)).elim
  | lam a b ha hb => intro x h; cases h with
    | node h => obtain ⟨a', b', rfl, p, q⟩ := h.two; obtain ⟨u, rfl, hu⟩ := ha p; obtain ⟨v, rfl, hv⟩ := hb q; exact ⟨.lam u v, rfl, .lam hu hv⟩
    | red h r => exact (no r (by decide) (by decide) (by decide) (by decide) (by decide)).elim
  | sig a b ha hb => intro x h; cases h with
    | node h => obtain ⟨a', b', rfl, p, q⟩ := h.two; obtain ⟨u, rfl, hu⟩ := ha p; obtain ⟨v, rfl, hv⟩ := hb q; exact ⟨.sig u v, rfl, .sig hu hv⟩
    | red h r => exact (no r (by decide) (by decide) (by decide) (by decide) (by decide)).elim
  | succ a ha => intro x h; cases h with
    | node h => obtain ⟨a', rfl, p⟩ := h.one; obtain ⟨u, rfl, hu⟩ := ha p; exact ⟨.succ u, rfl, .succ hu⟩
    | red h r => exact (no r (by decide) (by decide) (by decide) (by decide) (by decide)).elim
  | refl a ha => intro x h; cases h with
    | node h => obtain ⟨a', rfl, p⟩ := h.one; obtain ⟨u, rfl, hu⟩ := ha p; exact ⟨.refl u, rfl, .refl hu⟩
    | red h r => exact (no r (by decide) (by decide) (by decide) (by decide) (by decide)).elim
  | id t a b ht ha hb => intro x h; cases h with
    | node h => obtain ⟨t', a', b', rfl, p, q, r⟩ := h.three; obtain ⟨s, rfl, hs⟩ := ht p; obtain ⟨u, rfl, hu⟩ := ha q; obtain ⟨v, rfl, hv⟩ := hb r; exact ⟨.id s u v, rfl, .id hs hu hv⟩
    | red h r => exact (no r (by decide) (by decide) (by decide) (by decide) (by decide)).elim
  | pair t a b ht ha hb => intro x h; cases h with
    | node h => obtain ⟨t', a', b', rfl, p, q, r⟩ := h.three; obtain ⟨s, rfl, hs⟩ := ht p; obtain ⟨u, rfl, hu⟩ := ha q; obtain ⟨v, rfl, hv⟩ := hb r; exact ⟨.pair s u v, rfl, .pair hs hu hv⟩
    | red h r => exact (no r (by decide) (by decide) (by decide) (by decide) (by decide)).elim
  | app f a hf ha => intro x h; cases h with
    | node h => obtain ⟨a', b', rfl, p, q⟩ := h.two; obtain ⟨u, rfl, hu⟩ := hf p; obtain ⟨v, rfl, hv⟩ := ha q; exact ⟨.app u v, rfl, .app hu hv⟩
    | red h r =>
      obtain ⟨a', b', rfl, p, q⟩ := h.two
      obtain ⟨u, rfl, hu⟩ := hf p
      obtain ⟨v, rfl, hv⟩ := ha q
      cases r with
      | app _ hk =>
        have hk : (of f).k = 4 := hk
        rw [of_k] at hk
        cases f <;> simp only [reduceCtorEq, Int.reduceEq] at hk
        cases hu with
        | lam h1 h2 =>
          rw [con_app rfl]
          show ∃ w, sbT (of v) (of _) 0 0 = of w ∧ _
          rw [of_inst]; exact ⟨_, rfl, .beta h2 hv⟩
      | zero h => cases h
      | succ h => cases h
      | move h => cases h
      | fst h => cases h
      | snd h => cases h
  | elim a b c d ha hb hc hd => intro x h; cases h with
    | node h =>
      obtain ⟨a', b', c', d', rfl, p, q, r, s⟩ := h.four
      obtain ⟨u, rfl, hu⟩ := ha p; obtain ⟨v, rfl, hv⟩ := hb q; obtain ⟨w, rfl, hw⟩ := hc r; obtain ⟨y, rfl, hy⟩ := hd s
      exact ⟨.elim u v w y, rfl, .elim hu hv hw hy⟩
    | red h r =>
      obtain ⟨a', b', c', d', rfl, p, q, r', s⟩ := h.four
      obtain ⟨u, rfl, hu⟩ := ha p; obtain ⟨v, rfl, hv⟩ := hb q; obtain ⟨w, rfl, hw⟩ := hc r'; obtain ⟨y, rfl, hy⟩ := hd s
      cases r with
      | app h => cases h
      | zero _ hk =>
        have hk : (of d).k = 7 := hk
        rw [of_k] at hk
        cases d <;> simp only [reduceCtorEq, Int.reduceEq] at hk
        cases hy
        rw [con_zero rfl rfl]
        exact ⟨v, rfl, .ezero hv⟩
      | succ _ hk =>
        have hk : (of d).k = 8 := hk
        rw [of_k] at hk
        cases d <;> simp only [reduceCtorEq, Int.reduceEq] at hk
        cases hy with
        | succ hy =>
          rw [con_succ rfl rfl]
          exact ⟨.app (.app w _) (.elim u v w _), rfl, .esucc hu hv hw hy⟩
      | move h => cases h
      | fst h => cases h
      | snd h => cases h
  | move t a b ht ha hb => intro x h; cases h with
    | node h => obtain ⟨t', a', b', rfl, p, q, r⟩ := h.three; obtain ⟨s, rfl, hs⟩ := ht p; obtain ⟨u, rfl, hu⟩ := ha q; obtain ⟨v, rfl, hv⟩ := hb r; exact ⟨.move s u v, rfl, .move hs hu hv⟩
    | red h r =>
      obtain ⟨t', a', b', rfl, p, q, r'⟩ := h.three; obtain ⟨s, rfl, hs⟩ := ht p; obtain ⟨u, rfl, hu⟩ := ha q; obtain ⟨v, rfl, hv⟩ := hb r'
      cases r with
      | app h => cases h
      | zero h => cases h
      | succ h => cases h
      | move _ hk =>
        have hk : (of a).k = 11 := hk
        rw [of_k] at hk
        cases a <;> simp only [reduceCtorEq, Int.reduceEq] at hk
        rw [con_move rfl]
        exact ⟨v, rfl, .mrefl hv⟩
      | fst h => cases h
      | snd h => cases h
  | fst a ha => intro x h; cases h with
    | node h => obtain ⟨a', rfl, p⟩ := h.one; obtain ⟨u, rfl, hu⟩ := ha p; exact ⟨.fst u, rfl, .fst hu⟩
    | red h r =>
      obtain ⟨a', rfl, p⟩ := h.one; obtain ⟨u, rfl, hu⟩ := ha p
      cases r with
      | app h => cases h
      | zero h => cases h
      | succ h => cases h
      | move h => cases h
      | fst _ hk =>
        have hk : (of a).k = 14 := hk
        rw [of_k] at hk
        cases a <;> simp only [reduceCtorEq, Int.reduceEq] at hk
        cases hu with
        | pair h1 h2 h3 => rw [con_fst rfl]; exact ⟨_, rfl, .fpair h2⟩
      | snd h => cases h
  | snd a ha => intro x h; cases h with
    | node h => obtain ⟨a', rfl, p⟩ := h.one; obtain ⟨u, rfl, hu⟩ := ha p; exact ⟨.snd u, rfl, .snd hu⟩
    | red h r =>
      obtain ⟨a', rfl, p⟩ := h.one; obtain ⟨u, rfl, hu⟩ := ha p
      cases r with
      | app h => cases h
      | zero h => cases h
      | succ h => cases h
      | move h => cases h
      | fst h => cases h
      | snd _ hk =>
        have hk : (of a).k = 14 := hk
        rw [of_k] at hk
        cases a <;> simp only [reduceCtorEq, Int.reduceEq] at hk
        cases hu with
        | pair h1 h2 h3 => rw [con_snd rfl]; exact ⟨_, rfl, .spair h3⟩
theorem red_of {t : Tm} {x : T} (h : Red (of t) x) : ∃ u, x = of u ∧ Tm.Red t u := by
  generalize e : of t = y at h
  induction h generalizing t with
  | refl => exact ⟨t, e.symm, .nil⟩
  | step h _ ih =>
    subst e
    obtain ⟨u, rfl, hu⟩ := par_of h
    obtain ⟨v, rfl, hv⟩ := ih rfl
    exact ⟨v, rfl, .cons hu hv⟩
end Go.Proofs.YthopkmimhlcjkaaGreat
end
section
/- The limits of the program, as inference of types meets them. No program in sight. -/
set_option linter.unusedVariables false
set_option linter.unusedSimpArgs false
namespace Go.Proofs.YthopkmimhlcjkaaGreat
open Go Go.Dk
/-! Each valid term has a form. -/
theorem of_shape (t : T) : ∀ d, shapeF t d = true → ∃ m, t = of m := by
  induction t using T.ind with | h t ih =>
  intro d h
  cases t with | mk k n ts =>
  rw [shapeF_eq] at h
  simp only [Bool.and_eq_true, decide_eq_true_eq] at h
  obtain ⟨_, h1, h2, h3⟩ := h
  have h1 : opsOf k = ts.length := h1
  have h2 : 0 ≤ n ∧ n ≤ mostOf k := h2
  have h3 : shapeL ts (d - 1) = true := h3
  have kid : ∀ u ∈ ts, ∃ m, u = of m := fun u hu => ih u hu (d - 1) (shapeL_mem h3 hu)
  have hk : k = 1 ∨ k = 2 ∨ k = 3 ∨ k = 4 ∨ k = 5 ∨ k = 6 ∨ k = 7 ∨ k = 8 ∨ k = 9 ∨ k = 10 ∨ k = 11 ∨ k = 12 ∨ k = 13 ∨ k = 14 ∨ k = 15 ∨ k = 16 := by
    unfold opsOf at h1
    repeat' split at h1
    all_goals omega
  have l0 : opsOf k = 0 → ts = [] := fun e => by
    rw [e] at h1
    exact List.eq_nil_of_length_eq_zero (by omega)
  have l1 : opsOf k = 1 → ∃ a, ts = [of a] := fun e => by
    rw [e] at h1
    match ts, h1, kid with
    | [a], _, kid => obtain ⟨m, rfl⟩ := kid a (by simp); exact ⟨m, rfl⟩
    | [], h1, _ => simp at h1
    | _ :: _ :: _, h1, _ => simp at h1; omega
  have l2 : opsOf k = 2 → ∃ a b, ts = [of a, of b] := fun e => by
    rw [e] at h1
    match ts, h1, kid with
    | [a, b], _, kid => obtain ⟨m, rfl⟩ := kid a (by simp); obtain ⟨m', rfl⟩ := kid b (by simp); exact ⟨m, m', rfl⟩
    | [], h1, _ => simp at h1
    | [_], h1, _ => simp at h1
    | _ :: _ :: _ :: _, h1, _ => simp at h1; omega
  have l3 : opsOf k = 3 → ∃ a b c, ts = [of a, of b, of c] := fun e => by
    rw [e] at h1
    match ts, h1, kid with
    | [a, b, c], _, kid => obtain ⟨m, rfl⟩ := kid a (by simp); obtain ⟨m', rfl⟩ := kid b (by simp); obtain ⟨m'', rfl⟩ := kid c (by simp); exact ⟨m, m', m'', rfl⟩
    | [], h1, _ => simp at h1
    | [_], h1, _ => simp at h1
    | [_, _], h1, _ => simp at h1
    | _ :: _ :: _ :: _ :: _, h1, _ => simp at h1; omega
  have l4 : opsOf k = 4 → ∃ a b c e, ts = [of a, of b, of c, of e] := fun e => by
    rw [e] at h1
    match ts, h1, kid with
    | [a, b, c, x], _, kid => obtain ⟨m, rfl⟩ := kid a (by simp); obtain ⟨m', rfl⟩ := kid b (by simp); obtain ⟨m'', rfl⟩ := kid c (by simp); obtain ⟨m3, rfl⟩ := kid x (by simp); exact ⟨m, m', m'', m3, rfl⟩
    | [], h1, _ => simp at h1
    | [_], h1, _ => simp at h1
    | [_, _], h1, _ => simp at h1
    | [_, _, _], h1, _ => simp at h1
    | _ :: _ :: _ :: _ :: _ :: _, h1, _ => simp at h1; omega
  have n0 : mostOf k = 0 → n = 0 := fun e => by omega
  rcases hk with rfl | rfl | rfl | rfl | rfl | rfl | rfl | rfl | rfl | rfl | rfl | rfl | rfl | rfl | rfl | rfl
  · rw [l0 rfl]; exact ⟨.var n.toNat, by show T.mk 1 n [] = T.mk 1 (n.toNat : Int) []; rw [Int.toNat_of_nonneg h2.1]⟩
  · rw [l0 rfl]; exact ⟨.sort n.toNat, by show T.mk 2 n [] = T.mk 2 (n.toNat : Int) []; rw [Int.toNat_of_nonneg h2.1]⟩
  · obtain ⟨a, b, rfl⟩ := l2 rfl; rw [n0 rfl]; exact ⟨.pi a b, rfl⟩
  · obtain ⟨a, b, rfl⟩ := l2 rfl; rw [n0 rfl]; exact ⟨.lam a b, rfl⟩
  · obtain ⟨a, b, rfl⟩ := l2 rfl; rw [n0 rfl]; exact ⟨.app a b, rfl⟩
  · rw [l0 rfl, n0 rfl]; exact ⟨.nat, rfl⟩
  · rw [l0 rfl, n0 rfl]; exact ⟨.zero, rfl⟩
  · obtain ⟨a, rfl⟩ := l1 rfl; rw [n0 rfl]; exact ⟨.succ a, rfl⟩
  · obtain ⟨a, b, c, e, rfl⟩ := l4 rfl; rw [n0 rfl]; exact ⟨.elim a b c e, rfl⟩
  · obtain ⟨a, b, c, rfl⟩ := l3 rfl; rw [n0 rfl]; exact ⟨.id a b c, rfl⟩
  · obtain ⟨a, rfl⟩ := l1 rfl; rw [n0 rfl]; exact ⟨.refl a, rfl⟩
  · obtain ⟨a, b, c, rfl⟩ := l3 rfl; rw [n0 rfl]; exact ⟨.move a b c, rfl⟩
  · obtain ⟨a, b, rfl⟩ := l2 rfl; rw [n0 rfl]; exact ⟨.sig a b, rfl⟩
  · obtain ⟨a, b, c, rfl⟩ := l3 rfl; rw [n0 rfl]; exact ⟨.pair a b c, rfl⟩
  · obtain ⟨a, rfl⟩ := l1 rfl; rw [n0 rfl]; exact ⟨.fst a, rfl⟩
  · obtain ⟨a, rfl⟩ := l1 rfl; rw [n0 rfl]; exact ⟨.snd a, rfl⟩
theorem of_valid {t : T} (h : validB t = true) : ∃ m, t = of m := by
  unfold validB at h
  rw [Bool.and_eq_true] at h
  exact of_shape t 30 h.1
/-! Validity of the forms. -/
def vdM (t : Tm) : Bool := validB (of t)
theorem vdM_iff {t : Tm} : vdM t = true ↔ shapeF (of t) 30 = true ∧ (of t).size ≤ 400 := by
  unfold vdM validB
  rw [Bool.and_eq_true, decide_eq_true_eq]
theorem vd_sort {n : Nat} : vdM (.sort n) = true ↔ n ≤ 3 := by
  rw [vdM_iff]
  have e : mostOf 2 = 3 := rfl
  show shapeF (.mk 2 n []) 30 = true ∧ 1 ≤ 400 ↔ _
  simp only [shapeF, shapeL, Bool.and_eq_true, decide_eq_true_eq, Bool.and_true, e]
  constructor
  · intro h; omega
  · intro h; exact ⟨⟨by omega, rfl, by omega⟩, by omega⟩
/-! Head reduction as a function. -/
def hdM : Tm → Option Tm
  | .app f u => match f with
    | .lam _ b => some (b.inst u)
    | f => (hdM f).map fun f => .app f u
  | .elim p z s n => match n with
    | .zero => some z
    | .succ m => some (.app (.app s m) (.elim p z s m))
    | n => (hdM n).map fun n => .elim p z s n
  | .move p e x => match e with
    | .refl _ => some x
    | e => (hdM e).map fun e => .move p e x
  | .fst q => match q with
    | .pair _ a _ => some a
    | q => (hdM q).map fun q => .fst q
  | .snd q => match q with
    | .pair _ _ b => some b
    | q => (hdM q).map fun q => .snd q
  | _ => none
theorem hdM_hd : ∀ {t u : Tm}, hdM t = some u → Tm.Hd t u := by
  intro t
  induction t with
  | app f a hf ha =>
    intro u h
    cases f <;> first
      | (simp only [hdM] at h; cases h; exact .beta)
      | (simp only [hdM] at h
         obtain ⟨v, hv, rfl⟩ := Option.map_eq_some_iff.1 h
         exact .app (hf hv))
  | elim p z s n hp hz hs hn =>
    intro u h
    cases n <;> first
      | (simp only [hdM] at h; cases h; first | exact .ezero | exact .esucc)
      | (simp only [hdM] at h
         obtain ⟨v, hv, rfl⟩ := Option.map_eq_some_iff.1 h
         exact .elim (hn hv))
  | move p e x hp he hx =>
    intro u h
    cases e <;> first
      | (simp only [hdM] at h; cases h; exact .mrefl)
      | (simp only [hdM] at h
         obtain ⟨v, hv, rfl⟩ := Option.map_eq_some_iff.1 h
         exact .move (he hv))
  | fst q hq =>
    intro u h
    cases q <;> first
      | (simp only [hdM] at h; cases h; exact .fpair)
      | (simp only [hdM] at h
         obtain ⟨v, hv, rfl⟩ := Option.map_eq_some_iff.1 h
         exact .fst (hq hv))
  | snd q hq =>
    intro u h
    cases q <;> first
      | (simp only [hdM] at h; cases h; exact .spair)
      | (simp only [hdM] at h
         obtain ⟨v, hv, rfl⟩ := Option.map_eq_some_iff.1 h
         exact .snd (hq hv))
  | _ => intro u h; cases h
theorem hd_hdM {t u : Tm} (h : Tm.Hd t u) : hdM t = some u := by
  induction h with
  | beta => rfl
  | ezero => rfl
  | esucc => rfl
  | mrefl => rfl
  | fpair => rfl
  | spair => rfl
  | @app f f' u h ih => cases f <;> first | (cases h; done) | (simp only [hdM] at ih ⊢; first | rw [ih]; rfl | (cases ih))
  | @elim p z s n n' h ih => cases n <;> first | (cases h; done) | (simp only [hdM] at ih ⊢; first | rw [ih]; rfl | (cases ih))
  | @move p e e' x h ih => cases e <;> first | (cases h; done) | (simp only [hdM] at ih ⊢; first | rw [ih]; rfl | (cases ih))
  | @fst q q' h ih => cases q <;> first | (cases h; done) | (simp only [hdM] at ih ⊢; first | rw [ih]; rfl | (cases ih))
  | @snd q q' h ih => cases q <;> first | (cases h; done) | (simp only [hdM] at ih ⊢; first | rw [ih]; rfl | (cases ih))
/-- At most g head steps; all terms on the way are valid. -/
def hrM : Nat → Tm → Option Tm
  | 0, t => match hdM t with
    | none => some t
    | some _ => none
  | g + 1, t => match hdM t with
    | none => some t
    | some u => if vdM u = true then hrM g u else none
theorem hrM_ok : ∀ {g : Nat} {t h : Tm}, hrM g t = some h → vdM t = true → Tm.Wh t h ∧ hdM h = none ∧ vdM h = true
  | 0, t, h, e, v => by
    simp only [hrM] at e
    cases hd : hdM t with
    | none => rw [hd] at e; cases e; exact ⟨.nil, hd, v⟩
    | some u => rw [hd] at e; cases e
  | g + 1, t, h, e, v => by
    simp only [hrM] at e
    cases hd : hdM t with
    | none => rw [hd] at e; cases e; exact ⟨.nil, hd, v⟩
    | some u =>
      rw [hd] at e
      simp only at e
      split at e
      · obtain ⟨w, h1, h2⟩ := hrM_ok e ‹_›
        exact ⟨.cons (hdM_hd hd) w, h1, h2⟩
      · cases e
open Tm in
def O : Orc where
  vd := vdM
  hn t := if vdM t = true then (match hrM 200 t with
    | some h => .ok h
    | none => .opn) else .opn
  sm a b := if vdM a = true ∧ vdM b = true then (if convC (of a) (of b) 200 = 1 then .ok .nat else if convC (of a) (of b) 200 = 2 then .bad else .opn) else .opn
theorem convC_one {a b : Tm} {g : Nat} (h : convC (of a) (of b) g = 1) : Tm.Conv a b := by
  unfold convC at h
  split at h
  · rename_i e
    have := of_inj ((T.beq_iff _ _).1 e)
    subst this; exact .rfl'
  · split at h
    · cases h
    · rename_i hh
      split at h
      · rename_i e
        have e := (T.beq_iff _ _).1 e
        have ha0 : (redF false g 0 (of a)).2.2 = 0 := Classical.byContradiction fun h => hh (.inl h)
        have hb0 : (redF false g 0 (of b)).2.2 = 0 := Classical.byContradiction fun h => hh (.inr h)
        obtain ⟨u, eu, ru⟩ := red_of (redF_red _ _ _ ha0).1
        obtain ⟨v, ev, rv⟩ := red_of (redF_red _ _ _ hb0).1
        have : u = v := of_inj (by rw [← eu, ← ev]; exact e)
        subst this
        exact ⟨u, ru, rv⟩
      · cases h
theorem convC_two' {a b : Tm} {g : Nat} (h : convC (of a) (of b) g = 2) : ¬ Tm.Conv a b := by
  rintro ⟨c, r1, r2⟩
  obtain ⟨ha0, hb0, hne⟩ := convC_two h
  obtain ⟨x1, n1⟩ := redF_red _ _ _ ha0
  obtain ⟨x2, n2⟩ := redF_red _ _ _ hb0
  obtain ⟨z, z1, z2⟩ := Red.confl x1 (of_red r1)
  obtain ⟨y, y1, y2⟩ := Red.confl x2 (of_red r2)
  rw [nf_red z1 n1] at z2
  rw [nf_red y1 n2] at y2
  exact hne (nf_uniq z2 y2 n1 n2)
theorem orcOk : Tm.OrcOk O := by
  have kd : ∀ {t : Tm} {u : T}, vdM t = true → u ∈ (of t).kids → ∀ m, u = of m → vdM m = true := fun h hu m e => by
    unfold vdM; rw [← e]; exact validB_kid h hu
  constructor
  case hn_ok =>
    intro t h e
    simp only [O] at e
    split at e
    · split at e
      · cases e
        obtain ⟨w, h1, h2⟩ := hrM_ok ‹_› ‹_›
        exact ⟨w, (fun u k => by rw [hd_hdM k] at h1; cases h1), h2⟩
      · cases e
    · cases e
  case hn_nb =>
    intro t e
    simp only [O] at e
    split at e
    · split at e <;> cases e
    · cases e
  case sm_ok =>
    intro a b x e
    simp only [O] at e
    split at e
    · split at e
      · exact convC_one ‹_›
      · split at e <;> cases e
    · cases e
  case sm_nb =>
    intro a b e
    simp only [O] at e
    split at e
    · split at e
      · cases e
      · split at e
        · exact convC_two' ‹_›
        · cases e
    · cases e
  case sm_inv =>
    intro a b h
    simp only [O]
    rw [if_neg (fun hh => by rw [show O.vd b = vdM b from rfl] at h; rw [hh.2] at h; cases h)]
  case v_pi => exact fun h => ⟨kd h (by simp [of, T.kids]) _ rfl, kd h (by simp [of, T.kids]) _ rfl⟩
  case v_sig => exact fun h => ⟨kd h (by simp [of, T.kids]) _ rfl, kd h (by simp [of, T.kids]) _ rfl⟩
  case v_lam => exact fun h => ⟨kd h (by simp [of, T.kids]) _ rfl, kd h (by simp [of, T.kids]) _ rfl⟩
  case v_app => exact fun h => ⟨kd h (by simp [of, T.kids]) _ rfl, kd h (by simp [of, T.kids]) _ rfl⟩
  case v_succ => exact fun h => kd h (by simp [of, T.kids]) _ rfl
  case v_refl => exact fun h => kd h (by simp [of, T.kids]) _ rfl
  case v_fst => exact fun h => kd h (by simp [of, T.kids]) _ rfl
  case v_snd => exact fun h => kd h (by simp [of, T.kids]) _ rfl
  case v_id => exact fun h => ⟨kd h (by simp [of, T.kids]) _ rfl, kd h (by simp [of, T.kids]) _ rfl, kd h (by simp [of, T.kids]) _ rfl⟩
  case v_move => exact fun h => ⟨kd h (by simp [of, T.kids]) _ rfl, kd h (by simp [of, T.kids]) _ rfl, kd h (by simp [of, T.kids]) _ rfl⟩
  case v_pair => exact fun h => ⟨kd h (by simp [of, T.kids]) _ rfl, kd h (by simp [of, T.kids]) _ rfl, kd h (by simp [of, T.kids]) _ rfl⟩
  case v_elim =>
    intro p z s n h
    refine ⟨kd h (by simp [of, T.kids]) _ rfl, kd h (by simp [of, T.kids]) _ rfl, kd h (by simp [of, T.kids]) _ rfl, kd h (by simp [of, T.kids]) _ rfl, ?_⟩
    have h := vdM_iff.1 h
    show vdM _ = true
    rw [vdM_iff]
    have := size_pos (of z); have := size_pos (of s); have := size_pos (of n)
    simp only [of, shapeF, shapeL, T.size, T.sizeL, Bool.and_eq_true, decide_eq_true_eq, Bool.and_true] at h ⊢
    exact ⟨⟨by omega, rfl, by decide, h.1.2.2.2.1, by omega, rfl, by decide⟩, by omega⟩
  case v_lam3 =>
    intro a b h
    have h := vdM_iff.1 h
    show vdM _ = true
    rw [vdM_iff]
    have := size_pos (of b)
    simp only [of, shapeF, shapeL, T.size, T.sizeL, Bool.and_eq_true, decide_eq_true_eq, Bool.and_true] at h ⊢
    exact ⟨⟨by omega, rfl, by decide, h.1.2.2.2.1, by omega, rfl, by decide⟩, by omega⟩
  case v_sort => exact vd_sort
  case v_nat => rfl
end Go.Proofs.YthopkmimhlcjkaaGreat
end
section
/- Head reduction in the abstract run. -/
set_option linter.unusedVariables false
set_option linter.unusedSimpArgs false
namespace Go.Proofs.YthopkmimhlcjkaaGreat
open Go Go.Ab Go.Dk
/-- The operand that decides whether a term is a redex. -/
def mnT (k : Int) : Int := if k = 5 ∨ k = 15 ∨ k = 16 then 0 else if k = 12 then 1 else if k = 9 then 3 else -1
theorem hd_red {m : Tm} (h : Rx (of m)) : ∃ u, hdM m = some u ∧ contractT (of m) = of u := by
  cases m with
  | app f a =>
    cases h with
    | app _ hk =>
      have hk : (of f).k = 4 := hk
      rw [of_k] at hk
      cases f <;> simp only [reduceCtorEq, Int.reduceEq] at hk
      exact ⟨_, rfl, by rw [con_app rfl]; exact of_inst _ _⟩
    | zero h => cases h
    | succ h => cases h
    | move h => cases h
    | fst h => cases h
    | snd h => cases h
  | elim p z s n =>
    cases h with
    | app h => cases h
    | zero _ hk =>
      have hk : (of n).k = 7 := hk
      rw [of_k] at hk
      cases n <;> simp only [reduceCtorEq, Int.reduceEq] at hk
      exact ⟨z, rfl, con_zero rfl rfl⟩
    | succ _ hk =>
      have hk : (of n).k = 8 := hk
      rw [of_k] at hk
      cases n <;> simp only [reduceCtorEq, Int.reduceEq] at hk
      exact ⟨_, rfl, con_succ rfl rfl⟩
    | move h => cases h
    | fst h => cases h
    | snd h => cases h
  | move p e x =>
    cases h with
    | app h => cases h
    | zero h => cases h
    | succ h => cases h
    | move _ hk =>
      have hk : (of e).k = 11 := hk
      rw [of_k] at hk
      cases e <;> simp only [reduceCtorEq, Int.reduceEq] at hk
      exact ⟨x, rfl, con_move rfl⟩
    | fst h => cases h
    | snd h => cases h
  | fst q =>
    cases h with
    | app h => cases h
    | zero h => cases h
    | succ h => cases h
    | move h => cases h
    | fst _ hk =>
      have hk : (of q).k = 14 := hk
      rw [of_k] at hk
      cases q <;> simp only [reduceCtorEq, Int.reduceEq] at hk
      exact ⟨_, rfl, con_fst rfl⟩
    | snd h => cases h
  | snd q =>
    cases h with
    | app h => cases h
    | zero h => cases h
    | succ h => cases h
    | move h => cases h
    | fst h => cases h
    | snd _ hk =>
      have hk : (of q).k = 14 := hk
      rw [of_k] at hk
      cases q <;> simp only [reduceCtorEq, Int.reduceEq] at hk
      exact ⟨_, rfl, con_snd rfl⟩
  | _ => exact absurd h.k (by simp only [of, T.k]; omega)
/-- What is no redex steps where its deciding operand does. -/
theorem hd_kid {m : Tm} (h : ¬ Rx (of m)) : (mnT (of m).k = -1 ∧ hdM m = none) ∨ ∃ (i : Nat) (q : Tm), mnT (of m).k = i ∧ i < (of m).kids.length ∧ kd (of m) i = of q ∧ (of q).size < (of m).size ∧ (hdM q = none → hdM m = none) ∧
    ∀ v, hdM q = some v → ∃ u, hdM m = some u ∧ of u = .mk (of m).k (of m).n ((of m).kids.set i (of v)) := by
  cases m with
  | app f a =>
    refine .inr ⟨0, f, rfl, by simp [of, T.kids], rfl, by simp only [of, T.size, T.sizeL]; omega, ?_⟩
    cases f <;> first
      | (exact absurd (Rx.app rfl rfl) h)
      | (refine ⟨fun e => ?_, fun v e => ⟨.app v a, ?_, rfl⟩⟩ <;> (first | (simp only [hdM] at e ⊢ <;> first | (rw [e]; rfl) | rfl | cases e) | (cases e)))
  | elim p z s n =>
    refine .inr ⟨3, n, rfl, by simp [of, T.kids], rfl, by simp only [of, T.size, T.sizeL]; omega, ?_⟩
    cases n <;> first
      | (exact absurd (Rx.zero rfl rfl) h)
      | (exact absurd (Rx.succ rfl rfl) h)
      | (refine ⟨fun e => ?_, fun v e => ⟨.elim p z s v, ?_, rfl⟩⟩ <;> (first | (simp only [hdM] at e ⊢ <;> first | (rw [e]; rfl) | rfl | cases e) | (cases e)))
  | move p e x =>
    refine .inr ⟨1, e, rfl, by simp [of, T.kids], rfl, by simp only [of, T.size, T.sizeL]; omega, ?_⟩
    cases e <;> first
      | (exact absurd (Rx.move rfl rfl) h)
      | (refine ⟨fun e => ?_, fun v e => ⟨.move p v x, ?_, rfl⟩⟩ <;> (first | (simp only [hdM] at e ⊢ <;> first | (rw [e]; rfl) | rfl | cases e) | (cases e)))
  | fst q =>
    refine .inr ⟨0, q, rfl, by simp [of, T.kids], rfl, by simp only [of, T.size, T.sizeL]; omega, ?_⟩
    cases q <;> first
      | (exact absurd (Rx.fst rfl rfl) h)
      | (refine ⟨fun e => ?_, fun v e => ⟨.fst v, ?_, rfl⟩⟩ <;> (first | (simp only [hdM] at e ⊢ <;> first | (rw [e]; rfl) | rfl | cases e) | (cases e)))
  | snd q =>
    refine .inr ⟨0, q, rfl, by simp [of, T.kids], rfl, by simp only [of, T.size, T.sizeL]; omega, ?_⟩
    cases q <;> first
      | (exact absurd (Rx.snd rfl rfl) h)
      | (refine ⟨fun e => ?_, fun v e => ⟨.snd v, ?_, rfl⟩⟩ <;> (first | (simp only [hdM] at e ⊢ <;> first | (rw [e]; rfl) | rfl | cases e) | (cases e)))
  | _ => exact .inl ⟨rfl, rfl⟩
/-- What an inference hands back. -/
theorem j0 : (T.mk 0 0 []).size ≤ 1000000 := by decide
def RS (o : OR) (r : Tm.Rs) : Prop := ∃ x c, o = some ([tm x, nt c], []) ∧ x.size ≤ 1000000 ∧ (match r with | .ok t => c = 0 ∧ x = of t | .bad => c = 1 | .opn => c = 2)
/-! The program's head reduction. -/
/-- A way to a redex that is there. -/
theorem f_contractedW {n : Nat} (hn : 4000000 ≤ n) {t : T} (hv : validB t = true) {w : List Nat} (ho : wyOk t w) (hr : Rx (atT t w)) (hwl : w.length ≤ t.size) {u : T} (hu : puT t w (contractT (atT t w)) = u) :
    FF n 130 [tm t, .one (.fr (.is (ins w)))] [] = some ([tm (okT u), bl (validB u)], []) := by
  subst hu
  have hz := validB_size hv
  have va := at_valid ho hv
  have hcz := con_size va hr
  obtain ⟨n, rfl⟩ := pos_succ (show 0 < n by omega)
  rw [E_impl_contracted]
  simp only [evt, f_at (n := n) (by omega) (by omega) ho, f_contract (n := n) (by omega) va hr]
  cases hc : validB (contractT (atT t w)) with
  | false =>
    have : validB (puT t w (contractT (atT t w))) = false := by
      cases hp : validB (puT t w (contractT (atT t w))) with
      | false => rfl
      | true => rw [put_valid ho hp] at hc; cases hc
    simp only [Bool.not_false, cond_true, this, okT_not this]; rfl
  | true =>
    have hp := put_size (u := contractT (atT t w)) ho
    have hov := f_ownValid (n := n) (t := puT t w (contractT (atT t w))) (by omega) (by omega)
    simp only [Bool.not_true, cond_false, okT_valid hc, f_put (contractT (atT t w)) w (n := n) (by omega) (by omega) (by omega) ho, evt, hov]
theorem kids_five {m : Tm} : (of m).k = 5 ∨ (of m).k = 15 ∨ (of m).k = 16 ∨ (of m).k = 9 ∨ (of m).k = 12 ∨ mnT (of m).k = -1 := by
  unfold mnT
  by_cases h1 : (of m).k = 5
  · exact .inl h1
  by_cases h2 : (of m).k = 15
  · exact .inr (.inl h2)
  by_cases h3 : (of m).k = 16
  · exact .inr (.inr (.inl h3))
  by_cases h4 : (of m).k = 9
  · exact .inr (.inr (.inr (.inl h4)))
  by_cases h5 : (of m).k = 12
  · exact .inr (.inr (.inr (.inr (.inl h5))))
  · rw [if_neg (by omega), if_neg h5, if_neg h4]; exact .inr (.inr (.inr (.inr (.inr rfl))))
theorem f_head : ∀ (z : Nat) (m : Tm), (of m).size ≤ z → ∀ {n : Nat}, 500 + z ≤ n → vdM m = true →
    ∃ w b, FF n 191 [tm (of m)] [] = some ([.one (.fr (.is (ins w))), bl b], []) ∧ w.length ≤ (of m).size ∧ (match hdM m with | some u => b = true ∧ wyOk (of m) w ∧ Rx (atT (of m) w) ∧ puT (of m) w (contractT (atT (of m) w)) = of u | none => b = false)
  | 0, m, hz, n, hn, hv => by have := size_pos (of m); omega
  | z + 1, m, hz, n, hn, hv => by
    obtain ⟨n, rfl⟩ := pos_succ (show 0 < n by omega)
    have hs := validB_size hv
    rw [E_impl_head, f_redex (n := n) (by omega) hv]
    simp only [evt]
    by_cases hr : Rx (of m)
    · obtain ⟨u, e1, e2⟩ := hd_red hr
      have := (rx_iff (of m)).2 hr
      rw [decide_eq_false this]
      refine ⟨[], true, rfl, by simp, ?_⟩
      rw [e1]; exact ⟨rfl, trivial, hr, e2⟩
    · have : redexT (of m) = 0 := Classical.byContradiction fun h => hr ((rx_iff (of m)).1 h)
      rw [this]
      simp only [evt]
      rcases hd_kid hr with ⟨e1, e2⟩ | ⟨i, q, e1, hi, e2, hq, e3, e4⟩
      · have hk : (of m).k ≠ 5 ∧ (of m).k ≠ 15 ∧ (of m).k ≠ 16 ∧ (of m).k ≠ 9 ∧ (of m).k ≠ 12 := by
          refine ⟨?_, ?_, ?_, ?_, ?_⟩ <;> intro hk <;> rw [hk] at e1 <;> exact absurd e1 (by decide)
        rw [decide_eq_false hk.1, decide_eq_false hk.2.1, decide_eq_false hk.2.2.1, decide_eq_false hk.2.2.2.1, decide_eq_false hk.2.2.2.2]
        refine ⟨[], false, rfl, by simp, ?_⟩
        rw [e2]
      · have vq : vdM q = true := by
          unfold vdM; rw [← e2]; exact validB_kid hv (kd_mem hi)
        have ek : (of m).kids[i]? = some (of q) := by rw [kid_get hi, e2]
        obtain ⟨w, b, h1, hw, h3⟩ := f_head z q (by omega) (n := n) (by omega) vq
        have wl : roomB ([(i : Int)] ++ ins w).length = true := roomB_ok (by simp [ins]; omega)
        have go : ∃ w' b', some ([.one (.fr (.is ([(i : Int)] ++ ins w))), bl b], []) = (some ([.one (.fr (.is (ins w'))), bl b'], []) : OR) ∧ w'.length ≤ (of m).size ∧ (match hdM m with | some u => b' = true ∧ wyOk (of m) w' ∧ Rx (atT (of m) w') ∧ puT (of m) w' (contractT (atT (of m) w')) = of u | none => b' = false) := by
          refine ⟨i :: w, b, rfl, by simp only [List.length_cons]; omega, ?_⟩
          cases hh : hdM q with
          | none =>
            rw [hh] at h3
            rw [e3 hh]; exact h3
          | some v =>
            rw [hh] at h3
            obtain ⟨u, e5, e6⟩ := e4 v hh
            rw [e5]
            obtain ⟨g1, g2, g3, g4⟩ := h3
            refine ⟨g1, ⟨hi, by rw [e2]; exact g2⟩, by show Rx (atT (kd (of m) i) w); rw [e2]; exact g3, ?_⟩
            show T.mk (of m).k (of m).n ((of m).kids.set i (puT (kd (of m) i) w (contractT (atT (kd (of m) i) w)))) = of u
            rw [e2, g4, e6]
        rcases kids_five (m := m) with hk | hk | hk | hk | hk | hk
        · rw [hk] at e1 ⊢
          obtain rfl : i = 0 := by have : (0 : Int) = i := e1; omega
          simp only [decide_true, cond_true, show (0 : Int).toNat = 0 from rfl, ek, evt, h1]
          rw [show ([0] ++ ins w : List Int) = [((0 : Nat) : Int)] ++ ins w from rfl, wl]
          exact go
        · rw [hk] at e1 ⊢
          obtain rfl : i = 0 := by have : (0 : Int) = i := e1; omega
          simp only [show decide ((15 : Int) = 5) = false from rfl, cond_false, decide_true, cond_true, show (0 : Int).toNat = 0 from rfl, ek, evt, h1]
          rw [show ([0] ++ ins w : List Int) = [((0 : Nat) : Int)] ++ ins w from rfl, wl]
          exact go
        · rw [hk] at e1 ⊢
          obtain rfl : i = 0 := by have : (0 : Int) = i := e1; omega
          simp only [show decide ((16 : Int) = 5) = false from rfl, show decide ((16 : Int) = 15) = false from rfl, cond_false, decide_true, cond_true, show (0 : Int).toNat = 0 from rfl, ek, evt, h1]
          rw [show ([0] ++ ins w : List Int) = [((0 : Nat) : Int)] ++ ins w from rfl, wl]
          exact go
        · rw [hk] at e1 ⊢
          obtain rfl : i = 3 := by have : (3 : Int) = i := e1; omega
          simp only [show decide ((9 : Int) = 5) = false from rfl, show decide ((9 : Int) = 15) = false from rfl, show decide ((9 : Int) = 16) = false from rfl, cond_false, decide_true, cond_true, show (3 : Int).toNat = 3 from rfl, ek, evt, h1]
          rw [show ([3] ++ ins w : List Int) = [((3 : Nat) : Int)] ++ ins w from rfl, wl]
          exact go
        · rw [hk] at e1 ⊢
          obtain rfl : i = 1 := by have : (1 : Int) = i := e1; omega
          simp only [show decide ((12 : Int) = 5) = false from rfl, show decide ((12 : Int) = 15) = false from rfl, show decide ((12 : Int) = 16) = false from rfl, show decide ((12 : Int) = 9) = false from rfl, cond_false, decide_true, cond_true, show (1 : Int).toNat = 1 from rfl, ek, evt, h1]
          rw [show ([1] ++ ins w : List Int) = [((1 : Nat) : Int)] ++ ins w from rfl, wl]
          exact go
        · rw [hk] at e1; omega
theorem redh_loop (n : Nat) (hn : 5000000 ≤ n) (fuel : Nat) (hf : fuel ≤ 200) (k0 n0 : Int) (l0 : List T) : ∀ g c (s : Nat) (m : Tm), g < c → s + g = fuel → vdM m = true →
    ∃ x k e, L_impl_reduce_impl_head_0_fo n c (fuel : Int) s (of m).k (of m).n (of m).kids k0 n0 l0 = some ([tm x, nt k, nt e], []) ∧ (match hrM g m with | some h => e = 0 ∧ x = of h | none => e ≠ 0)
  | g, 0, s, m, hg, _, _ => by omega
  | g, c + 1, s, m, hg, hs, hv => by
    have hz := validB_size hv
    obtain ⟨w, b, h1, hw, h3⟩ := f_head 400 m hz (n := n) (by omega) hv
    rw [L_impl_reduce_impl_head_0_fo_eq, h1]
    simp only [evs]
    cases hh : hdM m with
    | none =>
      rw [hh] at h3
      have h3 : b = false := h3
      subst h3
      have e1 : hrM g m = some m := by cases g <;> simp only [hrM, hh]
      rw [e1]
      simp only [Bool.not_false, cond_true, f_own (of m) (n := n) (by omega) (by omega), evt]
      exact ⟨of m, s, 0, rfl, rfl, rfl⟩
    | some u =>
      rw [hh] at h3
      obtain ⟨rfl, ho, hr, hp⟩ := h3
      simp only [Bool.not_true, cond_false]
      cases g with
      | zero =>
        rw [decide_eq_true (show (s : Int) = fuel by omega)]
        refine ⟨.mk 0 0 [], s, 1, rfl, ?_⟩
        simp only [hrM, hh]; decide
      | succ g =>
        rw [decide_eq_false (show ¬ (s : Int) = fuel by omega), f_contractedW (n := n) (by omega) hv ho hr hw hp]
        simp only [evt, hrM, hh]
        cases hvu : vdM u with
        | false =>
          have : validB (of u) = false := hvu
          rw [this]
          refine ⟨.mk 0 0 [], s, 2, rfl, ?_⟩
          simp
        | true =>
          have e2 : validB (of u) = true := hvu
          simp (disch := omega) only [e2, okT_valid e2, Bool.not_true, cond_false, if_true, wrap64, cast1]
          exact redh_loop n hn fuel hf k0 n0 l0 g c (s + 1) u (by omega) (by omega) hvu
theorem f_HeadNormal {n : Nat} {m : Tm} (hn : 6000000 ≤ n) (hz : (of m).size ≤ 400) : ∃ x e, FF n 172 [tm (of m), nt 200] [] = some ([tm x, nt e], []) ∧ (match O.hn m with | .ok h => e = 0 ∧ x = of h | _ => e ≠ 0) := by
  obtain ⟨n, rfl⟩ := pos_succ (show 0 < n by omega)
  obtain ⟨n, rfl⟩ := pos_succ (show 0 < n by omega)
  rw [E_impl_HeadNormal, E_impl_reduce_impl_head, f_TermValid (n := n) (by omega)]
  simp only [evt, O]
  cases hv : vdM m with
  | false =>
    have : validB (of m) = false := hv
    rw [this]
    exact ⟨.mk 0 0 [], 3, rfl, by show (3 : Int) ≠ 0; decide⟩
  | true =>
    have e : validB (of m) = true := hv
    rw [e, f_within (n := n) (by omega)]
    simp only [evt, show (decide ((0 : Int) ≤ 200) && decide ((200 : Int) ≤ 200)) = true from rfl, if_true]
    obtain ⟨x, k, c, h1, h2⟩ := redh_loop n (by omega) 200 (by omega) 0 0 [] 200 n 0 m (by omega) (by omega) hv
    have h1 : L_impl_reduce_impl_head_0_fo n n 200 0 (of m).k (of m).n (of m).kids 0 0 [] = some ([tm x, nt k, nt c], []) := h1
    rw [h1]
    simp only [evt]
    cases hr : hrM 200 m with
    | none => rw [hr] at h2; exact ⟨x, c, rfl, h2⟩
    | some h => rw [hr] at h2; exact ⟨x, c, rfl, h2⟩
end Go.Proofs.YthopkmimhlcjkaaGreat
end
section
/- Inference of types by the reference, in the abstract run. -/
set_option linter.unusedVariables false
set_option linter.unusedSimpArgs false
namespace Go.Proofs.YthopkmimhlcjkaaGreat
open Go Go.Ab Go.Dk
open Tm (Rs sq frm lvl chk fam bnd)
/-- The program's context. -/
def cx (G : List Tm) : List T := (G.map of).reverse
theorem cx_len (G : List Tm) : (cx G).length = G.length := by simp [cx]
theorem cx_cons (G : List Tm) (a : Tm) : cx (a :: G) = cx G ++ [of a] := by simp [cx]
theorem cx_get : ∀ (G : List Tm) {n : Nat}, n < G.length → (cx G)[G.length - 1 - n]? = (G[n]?).map of := by
  intro G n h
  unfold cx
  rw [List.getElem?_reverse (by simp; omega), List.length_map, List.getElem?_map]
  congr 2; omega
theorem look_get : ∀ {G : List Tm} {n : Nat} {A : Tm}, Tm.look G n = some A → ∃ B, G[n]? = some B ∧ A = B.ren (· + (n + 1))
  | B :: G, 0, A, h => by
    simp only [Tm.look, Option.some.injEq] at h; subst h
    exact ⟨B, rfl, rfl⟩
  | _ :: G, n + 1, A, h => by
    obtain ⟨C, hC, rfl⟩ := Option.map_eq_some_iff.1 h
    obtain ⟨B, h1, rfl⟩ := look_get hC
    refine ⟨B, h1, ?_⟩
    rw [Tm.wk, Tm.ren_ren]; rfl
theorem look_none : ∀ {G : List Tm} {n : Nat}, Tm.look G n = none → G.length ≤ n
  | [], n, h => by simp
  | B :: G, 0, h => by cases h
  | _ :: G, n + 1, h => by
    have : Tm.look G n = none := by
      cases hl : Tm.look G n with
      | none => rfl
      | some A => simp [Tm.look, hl] at h
    have := look_none this
    simp only [List.length_cons]; omega
theorem look_lt {G : List Tm} {n : Nat} {A : Tm} (h : Tm.look G n = some A) : n < G.length := by
  obtain ⟨B, h, _⟩ := look_get h
  exact (List.getElem?_eq_some_iff.1 h).1
/-! What is handed back. -/
def Er (c : Int) (r : Rs) : Prop := (c = 1 ∧ r = .bad) ∨ (c = 2 ∧ r = .opn)
theorem Er.ne {c : Int} {r : Rs} (h : Er c r) : c ≠ 0 := by rcases h with ⟨h, _⟩ | ⟨h, _⟩ <;> omega
theorem Er.bad : Er 1 .bad := .inl ⟨rfl, rfl⟩
theorem Er.opn : Er 2 .opn := .inr ⟨rfl, rfl⟩
def RC (o : OR) (r : Rs) : Prop := ∃ c, o = some ([nt c], []) ∧ (match r with | .ok t => c = 0 | .bad => c = 1 | .opn => c = 2)
theorem rs_err {c : Int} {r : Rs} (h : Er c r) (y : T) (hy : y.size ≤ 1000000) : RS (some ([tm y, nt c], [])) r := by
  refine ⟨y, c, rfl, hy, ?_⟩
  rcases h with ⟨h, rfl⟩ | ⟨h, rfl⟩ <;> exact h
theorem j1 : (T.mk 0 0 []).size ≤ 2000000 := by decide
theorem rs_sq {x : Option Rs} {o : OR} {k : Tm → Option Rs} {r : Rs} (h : ∀ r, x = some r → RS o r) (e : sq x k = some r) : (∃ t, x = some (.ok t) ∧ o = some ([tm (of t), nt 0], []) ∧ k t = some r) ∨ ∃ y c, o = some ([tm y, nt c], []) ∧ Er c r := by
  cases x with
  | none => cases e
  | some s =>
    obtain ⟨y, c, h1, hy, h2⟩ := h s rfl
    cases s with
    | ok t => obtain ⟨rfl, rfl⟩ := h2; exact .inl ⟨t, rfl, h1, e⟩
    | bad => cases e; exact .inr ⟨y, c, h1, .inl ⟨h2, rfl⟩⟩
    | opn => cases e; exact .inr ⟨y, c, h1, .inr ⟨h2, rfl⟩⟩
theorem rc_sq {x : Option Rs} {o : OR} {k : Tm → Option Rs} {r : Rs} (h : ∀ r, x = some r → RC o r) (e : sq x k = some r) : (∃ t, x = some (.ok t) ∧ o = some ([nt 0], []) ∧ k t = some r) ∨ ∃ c, o = some ([nt c], []) ∧ Er c r := by
  cases x with
  | none => cases e
  | some s =>
    obtain ⟨c, h1, h2⟩ := h s rfl
    cases s with
    | ok t => have h2 : c = 0 := h2; subst h2; exact .inl ⟨t, rfl, h1, e⟩
    | bad => cases e; exact .inr ⟨c, h1, .inl ⟨h2, rfl⟩⟩
    | opn => cases e; exact .inr ⟨c, h1, .inr ⟨h2, rfl⟩⟩
theorem one_r {o : OR} {P : OR → Rs → Prop} {s : Rs} (h : P o s) : ∀ r, some s = some r → P o r := fun r e => by cases e; exact h
section
variable {M n : Nat} {c : List T} {t : T} {x : Option Rs}
end
/-! Parts of terms. -/
theorem gd_of {m : Tm} (h : vdM m = true) : gdB (of m) = true := gd_valid h
theorem inst_size {b u : Tm} (hb : vdM b = true) (hu : vdM u = true) : (of (b.inst u)).size ≤ 160000 := by
  have h1 := validB_size hb
  have h2 := validB_size hu
  rw [← of_inst]
  exact Nat.le_trans (sb_size (of u) (of b) 0 0) (Nat.mul_le_mul h1 h2)
theorem step_size {p : Tm} (hp : vdM p = true) : (of (Tm.stepTy p)).size ≤ 1000 := by
  have h1 := validB_size hp
  have e : ∀ t : Tm, (of t.wk).size = (of t).size := fun t => by rw [← of_wk, sh_size]
  simp only [Tm.stepTy, of, T.size, T.sizeL, e]; omega
theorem get0 (a : T) (l : List T) : (a :: l)[(0 : Int).toNat]? = some a := rfl
theorem get1 (a b : T) (l : List T) : (a :: b :: l)[(1 : Int).toNat]? = some b := rfl
theorem get2 (a b d : T) (l : List T) : (a :: b :: d :: l)[(2 : Int).toNat]? = some d := rfl
end Go.Proofs.YthopkmimhlcjkaaGreat
end
section
/- Inference of types by the program, in the abstract run: the parts. -/
set_option linter.unusedVariables false
set_option linter.unusedSimpArgs false
namespace Go.Proofs.YthopkmimhlcjkaaGreat
open Go Go.Ab Go.Dk
open Tm (Rs sq frm lvl chk fam made ext inI kI)
/-- The local variables that the closure stands on. -/
abbrev hp (c : List T) (t : T) : List AObj := [.cells [.fr (.ts c)], .cells [.int .i64 t.k, .int .i64 t.n, .fr (.ts t.kids)]]
abbrev jd (c : List T) (t : T) : V1 := .agg [.fr (.ts c), .int .i64 t.k, .int .i64 t.n, .fr (.ts t.kids), .fn 114 [0, 1]]
def RSh (h : List AObj) (o : OR) (r : Rs) : Prop := ∃ x c, o = some ([tm x, nt c], h) ∧ (match r with | .ok t => c = 0 ∧ x = of t | .bad => c = 1 | .opn => c = 2)
def RLh (h : List AObj) (o : OR) (r : Rs) : Prop := ∃ i c, o = some ([nt i, nt c], h) ∧ (match r with | .ok t => c = 0 ∧ ∃ k : Nat, t = .sort k ∧ i = k | .bad => c = 1 | .opn => c = 2)
def RCh (h : List AObj) (o : OR) (r : Rs) : Prop := ∃ c, o = some ([nt c], h) ∧ (match r with | .ok t => c = 0 | .bad => c = 1 | .opn => c = 2)
section
variable {h : List AObj} {c : Int} {r : Rs} {x : Option Rs} {o : OR} {k : Tm → Option Rs}
theorem rsh_err (e : Er c r) (y : T) : RSh h (some ([tm y, nt c], h)) r := by
  refine ⟨y, c, rfl, ?_⟩
  rcases e with ⟨h, rfl⟩ | ⟨h, rfl⟩ <;> exact h
theorem rch_err (e : Er c r) : RCh h (some ([nt c], h)) r := by
  refine ⟨c, rfl, ?_⟩
  rcases e with ⟨h, rfl⟩ | ⟨h, rfl⟩ <;> exact h
theorem rlh_err (e : Er c r) (i : Int) : RLh h (some ([nt i, nt c], h)) r := by
  refine ⟨i, c, rfl, ?_⟩
  rcases e with ⟨h, rfl⟩ | ⟨h, rfl⟩ <;> exact h
theorem rsh_sq (hh : ∀ r, x = some r → RSh h o r) (e : sq x k = some r) : (∃ t, x = some (.ok t) ∧ o = some ([tm (of t), nt 0], h) ∧ k t = some r) ∨ ∃ y c, o = some ([tm y, nt c], h) ∧ Er c r := by
  cases x with
  | none => cases e
  | some s =>
    obtain ⟨y, c, h1, h2⟩ := hh s rfl
    cases s with
    | ok t => obtain ⟨rfl, rfl⟩ := h2; exact .inl ⟨t, rfl, h1, e⟩
    | bad => cases e; exact .inr ⟨y, c, h1, .inl ⟨h2, rfl⟩⟩
    | opn => cases e; exact .inr ⟨y, c, h1, .inr ⟨h2, rfl⟩⟩
theorem rlh_sq (hh : ∀ r, x = some r → RLh h o r) (e : sq x k = some r) : (∃ i : Nat, x = some (.ok (.sort i)) ∧ o = some ([nt i, nt 0], h) ∧ k (.sort i) = some r) ∨ ∃ i c, o = some ([nt i, nt c], h) ∧ Er c r := by
  cases x with
  | none => cases e
  | some s =>
    obtain ⟨y, c, h1, h2⟩ := hh s rfl
    cases s with
    | ok t => obtain ⟨rfl, k, rfl, rfl⟩ := h2; exact .inl ⟨k, rfl, h1, e⟩
    | bad => cases e; exact .inr ⟨y, c, h1, .inl ⟨h2, rfl⟩⟩
    | opn => cases e; exact .inr ⟨y, c, h1, .inr ⟨h2, rfl⟩⟩
theorem rch_sq (hh : ∀ r, x = some r → RCh h o r) (e : sq x k = some r) : (∃ t, x = some (.ok t) ∧ o = some ([nt 0], h) ∧ k t = some r) ∨ ∃ c, o = some ([nt c], h) ∧ Er c r := by
  cases x with
  | none => cases e
  | some s =>
    obtain ⟨c, h1, h2⟩ := hh s rfl
    cases s with
    | ok t => have h2 : c = 0 := h2; subst h2; exact .inl ⟨t, rfl, h1, e⟩
    | bad => cases e; exact .inr ⟨c, h1, .inl ⟨h2, rfl⟩⟩
    | opn => cases e; exact .inr ⟨c, h1, .inr ⟨h2, rfl⟩⟩
end
theorem f_sort {n : Nat} (hn : 1 ≤ n) (i : Int) : FF n 152 [nt i] [] = some ([tm (.mk 2 i [])], []) := by
  obtain ⟨n, rfl⟩ := pos_succ (show 0 < n by omega)
  exact E_impl_sort n i
theorem f_nodeE {n : Nat} (hn : 1 ≤ n) (k : Int) : FF n 91 [nt k, .one (.emp none)] [] = some ([tm (.mk k 0 [])], []) := by
  obtain ⟨n, rfl⟩ := pos_succ (show 0 < n by omega)
  exact E_impl_node_emp n k
theorem f_converts {n : Nat} {a b : Tm} (hn : 7000500 ≤ n) (ha : (of a).size ≤ 100000) (hb : (of b).size ≤ 100000) : RC (FF n 111 [tm (of a), tm (of b)] []) (O.sm a b) := by
  obtain ⟨n, rfl⟩ := pos_succ (show 0 < n by omega)
  rw [E_impl_converts, f_Convertible (n := n) (by omega) ha hb]
  simp only [evt, O, cond_dec]
  by_cases hv : vdM a = true ∧ vdM b = true
  · have e : convR (of a) (of b) 200 = convC (of a) (of b) 200 := convR_pos ⟨hv.1, hv.2, by decide, by decide⟩
    rw [e, if_pos hv]
    by_cases h1 : convC (of a) (of b) 200 = 1
    · rw [if_pos h1, if_pos h1]; exact ⟨0, rfl, rfl⟩
    · rw [if_neg h1, if_neg h1]
      by_cases h2 : convC (of a) (of b) 200 = 2
      · rw [if_pos h2, if_pos h2]; exact ⟨1, rfl, rfl⟩
      · rw [if_neg h2, if_neg h2]; exact ⟨2, rfl, rfl⟩
  · have e : convR (of a) (of b) 200 = 0 := if_neg (fun hh => hv ⟨hh.1, hh.2.1⟩)
    rw [e, if_neg hv]
    exact ⟨2, rfl, rfl⟩
theorem f_shaped {n : Nat} {m : Tm} (hn : 6000500 ≤ n) (hz : (of m).size ≤ 400) (k : Int) {g : Tm → Option Rs} {r : Rs} (e : sq (some (O.hn m)) g = some r) :
    (∃ f, FF n 136 [tm (of m), nt k] [] = some ([tm (of f), nt 0], []) ∧ (of f).k = k ∧ vdM f = true ∧ O.hn m = .ok f ∧ g f = some r) ∨ (∃ f, FF n 136 [tm (of m), nt k] [] = some ([tm (.mk 0 0 []), nt 1], []) ∧ (of f).k ≠ k ∧ g f = some r) ∨
      (FF n 136 [tm (of m), nt k] [] = some ([tm (.mk 0 0 []), nt 2], []) ∧ r = .opn) := by
  obtain ⟨n, rfl⟩ := pos_succ (show 0 < n by omega)
  obtain ⟨x, c, h1, h2⟩ := f_HeadNormal (n := n) (m := m) (by omega) hz
  rw [E_impl_shaped, h1]
  simp only [evt]
  cases hh : O.hn m with
  | ok f =>
    rw [hh] at h2 e
    obtain ⟨rfl, rfl⟩ := h2
    have vf := (orcOk.hn_ok hh).2.2
    simp only [evt]
    by_cases hk : (of f).k = k
    · rw [decide_eq_true hk]
      exact .inl ⟨f, rfl, hk, vf, rfl, e⟩
    · rw [decide_eq_false hk]
      exact .inr (.inl ⟨f, rfl, hk, e⟩)
  | bad => exact absurd hh (orcOk.hn_nb m)
  | opn =>
    rw [hh] at h2 e
    have h2 : c ≠ 0 := h2
    rw [decide_eq_false h2]
    cases e
    exact .inr (.inr ⟨rfl, rfl⟩)
theorem made_false {n : Nat} (hn : 1 ≤ n) (t : T) : FF n 151 [tm t, bl false] [] = some ([tm (.mk 0 0 []), nt 2], []) := by
  obtain ⟨n, rfl⟩ := pos_succ (show 0 < n by omega)
  exact E_impl_made n t.k t.n t.kids false
/-- A term that is used, if it is valid. -/
theorem f_made {n : Nat} {m : Tm} (hn : (of m).size + 10 ≤ n) : ∀ r, made O m = some r → RS (FF n 151 [tm (of m), bl true] []) r := by
  intro r e
  obtain ⟨n, rfl⟩ := pos_succ (show 0 < n by omega)
  unfold made at e
  rw [E_impl_made, f_TermValid (n := n) (by omega)]
  simp only [evt]
  cases hv : vdM m with
  | false =>
    have ev : validB (of m) = false := hv
    rw [if_neg (by rw [show O.vd m = vdM m from rfl, hv]; simp)] at e; cases e
    rw [ev]
    exact rs_err .opn _ j0
  | true =>
    have ev : validB (of m) = true := hv
    have zv := validB_size ev
    rw [if_pos (by rw [show O.vd m = vdM m from rfl, hv])] at e; cases e
    rw [ev]
    exact ⟨of m, 0, rfl, by omega, rfl, rfl⟩
theorem f_madeV {n : Nat} {m : Tm} (hn : (of m).size + 500 ≤ n) : ∀ r, made O m = some r → RS (FF n 151 [tm (if validB (of m) then of m else .mk 0 0 []), bl (validB (of m))] []) r := by
  intro r e
  cases hv : vdM m with
  | false =>
    have ev : validB (of m) = false := hv
    unfold made at e
    rw [if_neg (by rw [show O.vd m = vdM m from rfl, hv]; simp)] at e; cases e
    rw [ev]
    rw [made_false (by omega)]
    exact rs_err .opn _ j0
  | true =>
    have ev : validB (of m) = true := hv
    rw [ev, if_pos rfl]
    exact f_made (by omega) r e
theorem f_sideOf {n : Nat} (hn : 1 ≤ n) (a : T) (l : List T) (k m : Int) : FF n 158 [tm (.mk k m (a :: l))] [] = some ([tm a], []) := by
  obtain ⟨n, rfl⟩ := pos_succ (show 0 < n by omega)
  have := E_impl_sideOf n k m (a :: l)
  rw [decide_eq_false (show ¬ ((a :: l).length : Int) = 0 by simp only [List.length_cons]; omega), get0] at this
  exact this
theorem f_sideOf0 {n : Nat} (hn : 1 ≤ n) : FF n 158 [tm (.mk 0 0 [])] [] = some ([tm (.mk 0 0 [])], []) := by
  obtain ⟨n, rfl⟩ := pos_succ (show 0 < n by omega)
  rw [E_impl_sideOf]; rfl
theorem shift_of {p : Tm} (a : Nat) : shT (a : Int) (of p) 0 = of (p.ren (· + a)) := by
  have := of_sh a p 0
  rw [shn_zero] at this
  exact this
theorem wk_valid {p : Tm} (a : Nat) (h : validB (of (Tm.stepTy p)) = true) : validB (of p.wk) = true ∧ validB (of p.wk.wk) = true := by
  have k : ∀ {t u : T}, validB t = true → u ∈ t.kids → validB u = true := fun h hu => validB_kid h hu
  have h1 := k (u := .mk 3 0 [.mk 5 0 [of p.wk, .mk 1 0 []], .mk 5 0 [of p.wk.wk, .mk 8 0 [.mk 1 1 []]]]) h (by simp [Tm.stepTy, of, T.kids])
  have h2 := k (u := .mk 5 0 [of p.wk, .mk 1 0 []]) h1 (by simp [T.kids])
  have h3 := k (u := .mk 5 0 [of p.wk.wk, .mk 8 0 [.mk 1 1 []]]) h1 (by simp [T.kids])
  exact ⟨k h2 (by simp [T.kids]), k h3 (by simp [T.kids])⟩
theorem f_stepType {n : Nat} {p : Tm} (hn : 6000 ≤ n) (hp : vdM p = true) : ∀ r, made O (Tm.stepTy p) = some r → RS (FF n 185 [tm (of p)] []) r := by
  intro r e
  obtain ⟨n, rfl⟩ := pos_succ (show 0 < n by omega)
  have zp := validB_size hp
  have zs := step_size hp
  have s1 := f_shift (n := n) (t := of p) (a := 1) (c := 0) (by omega) (gd_of hp) (by omega) (by omega) (by omega)
  have s2 := f_shift (n := n) (t := of p) (a := 2) (c := 0) (by omega) (gd_of hp) (by omega) (by omega) (by omega)
  have e1 : shT 1 (of p) 0 = of p.wk := of_wk p
  have e2 : shT 2 (of p) 0 = of p.wk.wk := by rw [Tm.wk, Tm.wk, Tm.ren_ren]; exact shift_of 2
  rw [e1, shR, e1] at s1
  rw [e2, shR, e2] at s2
  rw [E_impl_stepType, s1, s2]
  simp (disch := first | omega | simp) only [evt, f_nodeE, f_node, f_variable]
  by_cases hv : validB (of (Tm.stepTy p)) = true
  · obtain ⟨h1, h2⟩ := wk_valid 0 hv
    rw [h1, h2, if_pos rfl, if_pos rfl]
    obtain ⟨x, c, eo, hx, h3⟩ := f_made (n := n) (m := Tm.stepTy p) (by omega) r e
    simp only [Tm.stepTy, of, tm, mk_k, mk_n, mk_kids] at eo
    simp only [evt]
    have eo' : FF n 151 [V1.agg [SV.int IntKind.i64 3, SV.int IntKind.i64 0, SV.fr (SD.ts [T.mk 6 0 [], T.mk 3 0 [T.mk 5 0 [of p.wk, T.mk 1 0 []], T.mk 5 0 [of p.wk.wk, T.mk 8 0 [T.mk 1 1 []]]]])], V1.one (SV.bool true)] [] = some ([tm x, nt c], []) := eo
    rw [eo']
    exact ⟨x, c, rfl, hx, h3⟩
  · have ev : validB (of (Tm.stepTy p)) = false := by simpa using hv
    have er : r = .opn := by
      unfold made at e
      rw [if_neg (by rw [show O.vd (Tm.stepTy p) = validB (of (Tm.stepTy p)) from rfl, ev]; simp)] at e
      cases e; rfl
    subst er
    have fin : ∀ a b l c, FF n 151 [.agg [.int .i64 a, .int .i64 b, .fr (.ts l)], bl c] [] = some ([tm (.mk 0 0 []), nt 2], []) → RS ((FF n 151 [.agg [.int .i64 a, .int .i64 b, .fr (.ts l)], bl c] []).bind fun x34 => rTerm x34.1 fun x35 x36 => rInt .i64 x36 fun x37 x38 => nilV x38 (nilO x34.2 (some ([.agg [.int .i64 (x35).k, .int .i64 (x35).n, .fr (.ts (x35).kids)], .one (.int .i64 x37)], [])))) .opn := fun a b l c h => by
      rw [h]
      exact rs_err .opn (.mk 0 0 []) j0
    have nf : ∀ a b l, FF n 151 [.agg [.int .i64 a, .int .i64 b, .fr (.ts l)], bl false] [] = some ([tm (.mk 0 0 []), nt 2], []) := fun a b l => made_false (by omega) (.mk a b l)
    cases h1 : validB (of p.wk) with
    | false =>
      simp only [cond_false]
      exact fin _ _ _ _ (nf _ _ _)
    | true =>
      simp only [cond_true]
      cases h2 : validB (of p.wk.wk) with
      | false => exact fin _ _ _ _ (nf _ _ _)
      | true =>
        simp only [if_true]
        refine fin _ _ _ _ ?_
        have hm : FF n 151 [tm (of (Tm.stepTy p)), bl true] [] = some ([tm (.mk 0 0 []), nt 2], []) := by
          obtain ⟨n, rfl⟩ := pos_succ (show 0 < n by omega)
          rw [E_impl_made, f_TermValid (n := n) (by omega), ev]; rfl
        exact hm
end Go.Proofs.YthopkmimhlcjkaaGreat
end
section
/- Inference of types by the program, in the abstract run: judging. -/
set_option linter.unusedVariables false
set_option linter.unusedSimpArgs false
namespace Go.Proofs.YthopkmimhlcjkaaGreat
open Go Go.Ab Go.Dk
open Tm (Rs sq frm lvl chk fam made ext inI kI)
/-- An operand whose type is known. -/
structure Op (M : Nat) (c : List T) (t : T) (i : Int) (x : Option Rs) : Prop where
  iv : ∀ m, M ≤ m → ∀ r, x = some r → RSh (hp c t) (FF m 114 [nt i, .one (.ptr 0 0), .one (.ptr 1 0)] (hp c t)) r
  ok : ∀ s, x = some (.ok s) → vdM s = true
section
variable {M n : Nat} {c : List T} {t : T} {i : Int} {x : Option Rs}
theorem f_form (hM : 7000500 ≤ M) (hn : M + 1 ≤ n) (h : Op M c t i x) (k : Int) {g : Tm → Option Rs} {r : Rs} (e : sq (frm O x) g = some r) :
    (∃ f, FF n 156 [jd c t, nt i, nt k] (hp c t) = some ([tm (of f), nt 0], hp c t) ∧ (of f).k = k ∧ vdM f = true ∧ g f = some r) ∨ (∃ f, FF n 156 [jd c t, nt i, nt k] (hp c t) = some ([tm (.mk 0 0 []), nt 1], hp c t) ∧ (of f).k ≠ k ∧ g f = some r) ∨
      ∃ c', FF n 156 [jd c t, nt i, nt k] (hp c t) = some ([tm (.mk 0 0 []), nt c'], hp c t) ∧ Er c' r := by
  obtain ⟨n, rfl⟩ := pos_succ (show 0 < n by omega)
  unfold frm at e
  rw [Tm.sq_assoc] at e
  rw [E_impl_judge_form_impl_infer_1]
  rcases rsh_sq (h.iv n (by omega)) e with ⟨s, e1, eo, e2⟩ | ⟨y, c', eo, hc⟩
  · rw [eo]
    simp only [evt]
    have hs := validB_size (h.ok s e1)
    rcases f_shaped (n := n) (m := s) (by omega) hs k e2 with ⟨f, eo, hk, vf, _, e3⟩ | ⟨f, eo, hk, e3⟩ | ⟨eo, rfl⟩
    · rw [eo]; exact .inl ⟨f, rfl, hk, vf, e3⟩
    · rw [eo]; exact .inr (.inl ⟨f, rfl, hk, e3⟩)
    · rw [eo]; exact .inr (.inr ⟨2, rfl, .opn⟩)
  · rw [eo]
    simp only [evt]
    rw [decide_eq_false hc.ne]
    exact .inr (.inr ⟨c', rfl, hc⟩)
theorem f_jlevel (hM : 7000500 ≤ M) (hn : M + 2 ≤ n) (h : Op M c t i x) : ∀ r, lvl O x = some r → RLh (hp c t) (FF n 183 [jd c t, nt i] (hp c t)) r := by
  intro r e
  obtain ⟨n, rfl⟩ := pos_succ (show 0 < n by omega)
  rw [E_impl_judge_level_impl_infer_1]
  rcases f_form hM (n := n) (by omega) h 2 e with ⟨f, eo, hk, vf, e2⟩ | ⟨f, eo, hk, e2⟩ | ⟨c', eo, hc⟩
  · rw [eo]
    cases f <;> try (rw [of_k] at hk; simp only [Int.reduceEq] at hk; done)
    rename_i j
    cases e2
    simp only [evt]
    exact ⟨j, 0, rfl, rfl, j, rfl, rfl⟩
  · rw [eo]
    simp only [evt]
    have : r = .bad := by
      cases f <;> first | (exact absurd (of_k _) hk) | (cases e2; rfl)
    subst this
    exact rlh_err .bad 0
  · rw [eo]
    simp only [evt]
    exact rlh_err hc 0
theorem f_jcheck (hM : 7000500 ≤ M) (hn : M + 1 ≤ n) (h : Op M c t i x) {w : Tm} (hw : (of w).size ≤ 100000) : ∀ r, chk O x w = some r → RCh (hp c t) (FF n 153 [jd c t, nt i, tm (of w)] (hp c t)) r := by
  intro r e
  obtain ⟨n, rfl⟩ := pos_succ (show 0 < n by omega)
  rw [E_impl_judge_check_impl_infer_1]
  rcases rsh_sq (h.iv n (by omega)) e with ⟨s, e1, eo, e2⟩ | ⟨y, c', eo, hc⟩
  · rw [eo]
    simp only [evt]
    have hs := validB_size (h.ok s e1)
    cases e2
    obtain ⟨c', h1, h2⟩ := f_converts (n := n) (a := s) (b := w) (by omega) (by omega) hw
    rw [h1]
    exact ⟨c', rfl, h2⟩
  · rw [eo]
    simp only [evt]
    rw [decide_eq_false hc.ne]
    exact rch_err hc
theorem f_has (hM : 7000500 ≤ M) (hn : M + 2 ≤ n) (h : Op M c t i x) {w : Tm} (hw : (of w).size ≤ 100000) : ∀ r, chk O x w = some r → RCh (hp c t) (FF n 157 [jd c t, nt i, tm (of w), nt 0] (hp c t)) r := by
  intro r e
  obtain ⟨n, rfl⟩ := pos_succ (show 0 < n by omega)
  rw [E_impl_judge_has_impl_infer_1]
  simp only [evt]
  obtain ⟨c', h1, h2⟩ := f_jcheck hM (n := n) (by omega) h hw r e
  rw [h1]
  exact ⟨c', rfl, h2⟩
theorem f_has0 (hn : 1 ≤ n) (w : T) {c' : Int} (hc : c' ≠ 0) : FF n 157 [jd c t, nt i, tm w, nt c'] (hp c t) = some ([nt c'], hp c t) := by
  obtain ⟨n, rfl⟩ := pos_succ (show 0 < n by omega)
  rw [E_impl_judge_has_impl_infer_1, decide_eq_false hc]; rfl
theorem f_jfamily (hM : 7000500 ≤ M) (hn : M + 2 ≤ n) (h : Op M c t i x) {w : Tm} (hw : (of w).size ≤ 100000) : ∀ r, fam O x w = some r → RCh (hp c t) (FF n 184 [jd c t, nt i, tm (of w)] (hp c t)) r := by
  intro r e
  obtain ⟨n, rfl⟩ := pos_succ (show 0 < n by omega)
  rw [E_impl_judge_family_impl_infer_1]
  rcases f_form hM (n := n) (by omega) h 3 e with ⟨f, eo, hk, vf, e2⟩ | ⟨f, eo, hk, e2⟩ | ⟨c', eo, hc⟩
  · rw [eo]
    cases f <;> try (rw [of_k] at hk; simp only [Int.reduceEq] at hk; done)
    rename_i C D
    obtain ⟨vC, vD⟩ := orcOk.v_pi vf
    have zC := validB_size vC
    have zD := validB_size vD
    simp only [evt, of, get0, get1]
    rcases rc_sq (one_r (P := RC) (f_converts (n := n) (a := C) (b := w) (by omega) (by omega) hw)) e2 with ⟨t', e3, eo, e4⟩ | ⟨c', eo, hc⟩
    · rw [eo]
      simp only [evt]
      rcases f_shaped (n := n) (m := D) (by omega) zD 2 e4 with ⟨f, eo, hk, vf, _, e5⟩ | ⟨f, eo, hk, e5⟩ | ⟨eo, rfl⟩
      · rw [eo]
        cases f <;> try (rw [of_k] at hk; simp only [Int.reduceEq] at hk; done)
        cases e5
        exact ⟨0, rfl, rfl⟩
      · rw [eo]
        have : r = .bad := by
          cases f <;> first | (exact absurd (of_k _) hk) | (cases e5; rfl)
        subst this
        exact ⟨1, rfl, rfl⟩
      · rw [eo]; exact ⟨2, rfl, rfl⟩
    · rw [eo]
      simp only [evt]
      rw [decide_eq_false hc.ne]
      exact rch_err hc
  · rw [eo]
    simp only [evt]
    have : r = .bad := by
      cases f <;> first | (exact absurd (of_k _) hk) | (cases e2; rfl)
    subst this
    exact rch_err .bad
  · rw [eo]
    simp only [evt]
    rw [decide_eq_false hc.ne]
    exact rch_err hc
end
section
variable {M n : Nat} {c : List T} {t : T} {a b d e' : Tm} {xa xb xd xe : Option Rs}
theorem f_arrow (hM : 7000500 ≤ M) (hn : M + 4 ≤ n) (ha : Op M c t 0 xa) (hb : Op M c t 1 xb) : ∀ r, (sq (lvl O xa) fun i => sq (lvl O xb) fun j => some (.ok (.sort (max (Tm.lv i) (Tm.lv j))))) = some r →
    RSh (hp c t) (FF n 154 [jd c t] (hp c t)) r := by
  intro r e
  obtain ⟨n, rfl⟩ := pos_succ (show 0 < n by omega)
  rw [E_impl_judge_arrow_impl_infer_1]
  rcases rlh_sq (f_jlevel hM (n := n) (by omega) ha) e with ⟨i, e1, eo, e2⟩ | ⟨i, c', eo, hc⟩
  · rw [eo]
    simp only [evt]
    rcases rlh_sq (f_jlevel hM (n := n) (by omega) hb) e2 with ⟨j, e3, eo, e4⟩ | ⟨j, c', eo, hc⟩
    · rw [eo]
      simp only [evt]
      rw [f_sort (n := n) (by omega)]
      simp only [evt]
      cases e4
      refine ⟨of (.sort (max i j)), 0, ?_, rfl, rfl⟩
      have : max (i : Int) j = ((max i j : Nat) : Int) := by omega
      rw [this]; rfl
    · rw [eo]
      simp only [evt]
      rw [decide_eq_false hc.ne]
      exact rsh_err hc (.mk 0 0 [])
  · rw [eo]
    simp only [evt]
    rw [decide_eq_false hc.ne]
    exact rsh_err hc (.mk 0 0 [])
/-- What is made ends a judgement. -/
theorem made_end {h : List AObj} {o : OR} {m : Tm} (hh : ∀ r, made O m = some r → RS o r) : ∀ r, made O m = some r → RSh h (o.bind fun x => rTerm x.1 fun x1 x2 => rInt .i64 x2 fun x3 x4 => nilV x4 (nilO x.2 (some ([.agg [.int .i64 x1.k, .int .i64 x1.n, .fr (.ts x1.kids)], .one (.int .i64 x3)], h)))) r := by
  intro r e
  obtain ⟨x, c, rfl, _, h2⟩ := hh r e
  simp only [evt]
  exact ⟨x, c, rfl, h2⟩
/-- The program's inference from a fuel on. -/
def IvI (M : Nat) (c : List T) (t : T) (x : Option Rs) : Prop := ∀ m, M ≤ m → ∀ r, x = some r → RSh [] (FF m 74 [tms c, tm t] []) r
theorem f_function (hM : 7000500 ≤ M) (hn : M + 4 ≤ n) (g0 : t.kids[(0 : Int).toNat]? = some (of a)) (ha : Op M c t 0 xa) (hb : Op M c t 1 xb) (hva : vdM a = true) (xP : Tm → Option Rs)
    (hP : ∀ B, xb = some (.ok B) → vdM (.pi a B) = true → IvI M c (of (.pi a B)) (xP (.pi a B))) : ∀ r,
    (sq (lvl O xa) fun _ => sq xb fun B => sq (made O (.pi a B)) fun P => sq (xP P) fun _ => some (.ok P)) = some r →
    RSh (hp c t) (FF n 155 [jd c t] (hp c t)) r := by
  intro r e
  obtain ⟨n, rfl⟩ := pos_succ (show 0 < n by omega)
  have za := validB_size hva
  rw [E_impl_judge_function_impl_infer_1]
  rcases rlh_sq (f_jlevel hM (n := n) (by omega) ha) e with ⟨i, e1, eo, e2⟩ | ⟨i, c', eo, hc⟩
  · rw [eo]
    simp only [evt]
    rcases rsh_sq (hb.iv n (by omega)) e2 with ⟨B, e3, eo, e4⟩ | ⟨y, c', eo, hc⟩
    · rw [eo]
      have zB := validB_size (hb.ok B e3)
      simp only [evt, g0]
      rw [f_node (n := n) (by omega)]
      simp only [evt]
      rcases rs_sq (f_made (n := n) (m := .pi a B) (by simp only [of, T.size, T.sizeL]; omega)) e4 with ⟨P, e5, eo, e6⟩ | ⟨y, c', eo, hc⟩
      · obtain ⟨rfl, vP⟩ := Tm.made_ok e5
        simp only [of, tm, mk_k, mk_n, mk_kids] at eo
        rw [eo]
        simp only [evt]
        rcases rsh_sq (hP B e3 vP n (by omega)) e6 with ⟨S, e7, eo, e8⟩ | ⟨y, c', eo, hc⟩
        · simp only [of, tm, mk_k, mk_n, mk_kids] at eo
          rw [eo]
          simp only [evt]
          cases e8
          exact ⟨of (.pi a B), 0, rfl, rfl, rfl⟩
        · simp only [of, tm, mk_k, mk_n, mk_kids] at eo
          rw [eo]
          simp only [evt]
          rw [decide_eq_false hc.ne]
          exact rsh_err hc (.mk 0 0 [])
      · simp only [of, tm, mk_k, mk_n, mk_kids] at eo
        rw [eo]
        simp only [evt]
        rw [decide_eq_false hc.ne]
        exact rsh_err hc (.mk 0 0 [])
    · rw [eo]
      simp only [evt]
      rw [decide_eq_false hc.ne]
      exact rsh_err hc (.mk 0 0 [])
  · rw [eo]
    simp only [evt]
    rw [decide_eq_false hc.ne]
    exact rsh_err hc (.mk 0 0 [])
theorem wr1 : IntKind.i64.wrap (1 + 1) = 2 := wrap64 (by omega)
theorem wr2 : IntKind.i64.wrap (2 + 1) = 3 := wrap64 (by omega)
theorem f_recursion (hM : 7000500 ≤ M) (hn : M + 6 ≤ n) (g0 : t.kids[(0 : Int).toNat]? = some (of a)) (g3 : t.kids[(3 : Int).toNat]? = some (of e')) (hv : vdM (.elim a b d e') = true) (ha : Op M c t 0 xa) (hb : Op M c t 1 xb) (hd : Op M c t 2 xd) (he : Op M c t 3 xe) : ∀ r,
    (sq (fam O xa .nat) fun _ => sq (made O (.app a .zero)) fun w => sq (chk O xb w) fun _ => sq (made O (Tm.stepTy a)) fun w => sq (chk O xd w) fun _ => sq (chk O xe .nat) fun _ => made O (.app a e')) = some r →
    RSh (hp c t) (FF n 159 [jd c t] (hp c t)) r := by
  intro r e
  obtain ⟨n, rfl⟩ := pos_succ (show 0 < n by omega)
  obtain ⟨va, vb, vd, ve, vz⟩ := orcOk.v_elim hv
  have za := validB_size va
  have ze := validB_size ve
  have zz := validB_size vz
  have zn : (of .nat).size ≤ 100000 := by decide
  rw [E_impl_judge_recursion_impl_infer_1]
  simp only [evt, g0, f_nodeE (show 1 ≤ n by omega)]
  rcases rch_sq (f_jfamily hM (n := n) (by omega) ha (w := .nat) zn) e with ⟨t', e1, eo, e2⟩ | ⟨c', eo, hc⟩
  · simp only [of, tm, mk_k, mk_n, mk_kids] at eo
    rw [eo]
    simp only [evt]
    rw [f_node (n := n) (by omega)]
    simp only [evt]
    rcases rs_sq (f_made (n := n) (m := .app a .zero) (by omega)) e2 with ⟨w, e3, eo, e4⟩ | ⟨y, c', eo, hc⟩
    · obtain ⟨rfl, _⟩ := Tm.made_ok e3
      simp only [of, tm, mk_k, mk_n, mk_kids] at eo
      rw [eo]
      simp only [evt]
      rcases rch_sq (f_has hM (n := n) (by omega) hb (w := .app a .zero) (by omega)) e4 with ⟨t', e5, eo, e6⟩ | ⟨c', eo, hc⟩
      · simp only [of, tm, mk_k, mk_n, mk_kids] at eo
        rw [eo]
        simp only [evt]
        rcases rs_sq (f_stepType (n := n) (by omega) va) e6 with ⟨w, e7, eo, e8⟩ | ⟨y, c', eo, hc⟩
        · obtain ⟨rfl, vs⟩ := Tm.made_ok e7
          have zs := validB_size vs
          rw [eo]
          simp only [evt]
          rcases rch_sq (f_has hM (n := n) (by omega) hd (w := Tm.stepTy a) (by omega)) e8 with ⟨t', e9, eo, e10⟩ | ⟨c', eo, hc⟩
          · rw [eo]
            simp only [evt]
            rcases rch_sq (f_jcheck hM (n := n) (by omega) he (w := .nat) zn) e10 with ⟨t', e11, eo, e12⟩ | ⟨c', eo, hc⟩
            · simp only [of, tm, mk_k, mk_n, mk_kids] at eo
              rw [eo]
              simp only [evt, g3]
              rw [f_node (n := n) (by omega)]
              simp only [evt]
              exact made_end (f_made (n := n) (m := .app a e') (by simp only [of, T.size, T.sizeL]; omega)) r e12
            · simp only [of, tm, mk_k, mk_n, mk_kids] at eo
              rw [eo]
              simp only [evt]
              rw [decide_eq_false hc.ne]
              exact rsh_err hc (.mk 0 0 [])
          · rw [eo]
            simp only [evt]
            rw [decide_eq_false hc.ne]
            exact rsh_err hc (.mk 0 0 [])
        · rw [eo]
          simp only [evt]
          rw [f_has0 (by omega) _ hc.ne]
          simp only [evt]
          rw [decide_eq_false hc.ne]
          exact rsh_err hc (.mk 0 0 [])
      · simp only [of, tm, mk_k, mk_n, mk_kids] at eo
        rw [eo]
        simp only [evt]
        rw [decide_eq_false hc.ne]
        exact rsh_err hc (.mk 0 0 [])
    · simp only [of, tm, mk_k, mk_n, mk_kids] at eo
      rw [eo]
      simp only [evt]
      rw [f_has0 (by omega) _ hc.ne]
      simp only [evt]
      rw [decide_eq_false hc.ne]
      exact rsh_err hc (.mk 0 0 [])
  · simp only [of, tm, mk_k, mk_n, mk_kids] at eo
    rw [eo]
    simp only [evt]
    rw [decide_eq_false hc.ne]
    exact rsh_err hc (.mk 0 0 [])
end
end Go.Proofs.YthopkmimhlcjkaaGreat
end
section
/- The loop over the sides of an equality. -/
set_option linter.unusedVariables false
set_option linter.unusedSimpArgs false
namespace Go.Proofs.YthopkmimhlcjkaaGreat
open Go Go.Ab Go.Dk
open Tm (Rs sq frm lvl chk fam made ext inI kI)
section
variable {M n : Nat} {c : List T} {t : T} {a b d e' : Tm} {xa xb xd xe : Option Rs}
/-- One round of the loop over the sides, at its end, with a code that is not 0. -/
theorem eq_bad {m : Nat} {i z1 z2 : Int} {l0 : List T} {s : Int} {c' : Int} (hs : s = 1 ∨ s = 2 ∨ s = 3) {r : Rs} (hc : Er c' r) :
    RSh (hp c t) (L_impl_judge_equality_impl_infer_1_0_ffffo n (m + 1) i c' s c t.k t.n t.kids c t.k t.n t.kids z1 z2 l0) r := by
  rw [L_impl_judge_equality_impl_infer_1_0_ffffo_eq]
  simp only [evt, decide_eq_false hc.ne]
  rcases hs with rfl | rfl | rfl
  · rw [decide_eq_true (show (1 : Int) ≤ 2 by omega)]; exact rsh_err hc (.mk 0 0 [])
  · rw [decide_eq_true (show (2 : Int) ≤ 2 by omega)]; exact rsh_err hc (.mk 0 0 [])
  · rw [decide_eq_false (show ¬ (3 : Int) ≤ 2 by omega)]; exact rsh_err hc (.mk 0 0 [])
theorem eq_end {m : Nat} (hn : 1 ≤ n) {k : Nat} {z1 z2 : Int} {l0 : List T} :
    RSh (hp c t) (L_impl_judge_equality_impl_infer_1_0_ffffo n (m + 1) (k : Int) 0 3 c t.k t.n t.kids c t.k t.n t.kids z1 z2 l0) (.ok (.sort k)) := by
  rw [L_impl_judge_equality_impl_infer_1_0_ffffo_eq]
  simp only [evt]
  rw [decide_eq_false (show ¬ (3 : Int) ≤ 2 by omega), f_sort (n := n) (by omega)]
  exact ⟨of (.sort k), 0, rfl, rfl, rfl⟩
theorem eq_two (hM : 7000500 ≤ M) (hn : M + 1 ≤ n) (g0 : t.kids[(0 : Int).toNat]? = some (of a)) (za : (of a).size ≤ 100000) (hd : Op M c t 2 xd) {m : Nat} {k : Nat} {z1 z2 : Int} {l0 : List T} : ∀ r,
    (sq (chk O xd a) fun _ => some (.ok (.sort k))) = some r →
    RSh (hp c t) (L_impl_judge_equality_impl_infer_1_0_ffffo n (m + 1 + 1) (k : Int) 0 2 c t.k t.n t.kids c t.k t.n t.kids z1 z2 l0) r := by
  intro r e
  rw [L_impl_judge_equality_impl_infer_1_0_ffffo_eq]
  simp only [evt, g0]
  rw [decide_eq_true (show (2 : Int) ≤ 2 by omega)]
  rcases rch_sq (f_jcheck hM (n := n) (by omega) hd (w := a) za) e with ⟨t', e3, eo, e4⟩ | ⟨c', eo, hc⟩
  · rw [eo, wr2]
    simp -implicitDefEqProofs only [evt]
    cases e4
    with_reducible exact eq_end (by omega)
  · rw [eo, wr2]
    simp -implicitDefEqProofs only [evt]
    with_reducible exact eq_bad (.inr (.inr rfl)) hc
theorem eq_loop (hM : 7000500 ≤ M) (hn : M + 1 ≤ n) (g0 : t.kids[(0 : Int).toNat]? = some (of a)) (za : (of a).size ≤ 100000) (hb : Op M c t 1 xb) (hd : Op M c t 2 xd) {m : Nat} {k : Nat} {z1 z2 : Int} {l0 : List T} : ∀ r,
    (sq (chk O xb a) fun _ => sq (chk O xd a) fun _ => some (.ok (.sort k))) = some r →
    RSh (hp c t) (L_impl_judge_equality_impl_infer_1_0_ffffo n (m + 1 + 1 + 1) (k : Int) 0 1 c t.k t.n t.kids c t.k t.n t.kids z1 z2 l0) r := by
  intro r e
  rw [L_impl_judge_equality_impl_infer_1_0_ffffo_eq]
  simp only [evt, g0]
  rw [decide_eq_true (show (1 : Int) ≤ 2 by omega)]
  rcases rch_sq (f_jcheck hM (n := n) (by omega) hb (w := a) za) e with ⟨t', e1, eo, e2⟩ | ⟨c', eo, hc⟩
  · rw [eo, wr1]
    simp -implicitDefEqProofs only [evt]
    with_reducible exact eq_two hM hn g0 za hd r e2
  · rw [eo, wr1]
    simp -implicitDefEqProofs only [evt]
    with_reducible exact eq_bad (.inr (.inl rfl)) hc
theorem f_equality (hM : 7000500 ≤ M) (hn : M + 4 ≤ n) (g0 : t.kids[(0 : Int).toNat]? = some (of a)) (hva : vdM a = true) (ha : Op M c t 0 xa) (hb : Op M c t 1 xb) (hd : Op M c t 2 xd) : ∀ r,
    (sq (lvl O xa) fun i => sq (chk O xb a) fun _ => sq (chk O xd a) fun _ => some (.ok i)) = some r →
    RSh (hp c t) (FF n 160 [jd c t] (hp c t)) r := by
  intro r e
  obtain ⟨n, rfl⟩ := pos_succ (show 0 < n by omega)
  have za := validB_size hva
  rw [E_impl_judge_equality_impl_infer_1]
  rcases rlh_sq (f_jlevel hM (n := n) (by omega) ha) e with ⟨i, e1, eo, e2⟩ | ⟨i, c', eo, hc⟩
  · rw [eo]
    simp only [evt]
    obtain ⟨m, hm⟩ : ∃ m, n = m + 1 + 1 + 1 := ⟨n - 3, by omega⟩
    have h := eq_loop (n := n) (m := m) (z1 := 0) (z2 := 0) (l0 := []) hM (by omega) g0 (by omega) hb hd r e2
    rw [← hm] at h
    with_reducible exact h
  · rw [eo]
    simp only [evt]
    obtain ⟨m, hm⟩ := pos_succ (show 0 < n by omega)
    have h := eq_bad (n := n) (t := t) (c := c) (m := m) (i := i) (z1 := 0) (z2 := 0) (l0 := []) (s := 1) (.inl rfl) hc
    rw [← hm] at h
    with_reducible exact h
end
end Go.Proofs.YthopkmimhlcjkaaGreat
end
section
/- Inference of types by the program, in the abstract run: all terms. -/
set_option linter.unusedVariables false
set_option linter.unusedSimpArgs false
namespace Go.Proofs.YthopkmimhlcjkaaGreat
open Go Go.Ab Go.Dk
open Tm (Rs sq frm lvl chk fam made ext inI kI)
section
variable {M n : Nat} {c : List T} {t : T} {a b d e' : Tm} {xa xb xd xe : Option Rs}
theorem f_instI {n : Nat} {b u : Tm} (hn : 2000000 ≤ n) (hb : vdM b = true) (hu : vdM u = true) : FF n 123 [tm (of b), nt 0, tm (of u)] [] = some ([tm (if validB (of (b.inst u)) then of (b.inst u) else .mk 0 0 []), bl (validB (of (b.inst u)))], []) := by
  have h1 := validB_size hb
  have h2 := validB_size hu
  rw [f_subst (n := n) hn (gd_of hb) (by omega) (gd_of hu) (by omega) (by omega), sbR, of_inst]
theorem f_moved (hM : 7000500 ≤ M) (hn : M + 6 ≤ n) (g0 : t.kids[(0 : Int).toNat]? = some (of a)) (hv : vdM (.move a b d) = true) (ha : Op M c t 0 xa) (hb : Op M c t 1 xb) (hd : Op M c t 2 xd) : ∀ r,
    (sq (frm O xb) fun E => match E with
    | .id t y z => sq (fam O xa t) fun _ => sq (made O (.app a y)) fun w => sq (chk O xd w) fun _ => made O (.app a z)
    | _ => some .bad) = some r →
    RSh (hp c t) (FF n 161 [jd c t] (hp c t)) r := by
  intro r e
  obtain ⟨n, rfl⟩ := pos_succ (show 0 < n by omega)
  obtain ⟨va, vb, vd⟩ := orcOk.v_move hv
  have za := validB_size va
  rw [E_impl_judge_moved_impl_infer_1]
  rcases f_form hM (n := n) (by omega) hb 10 e with ⟨f, eo, hk, vf, e2⟩ | ⟨f, eo, hk, e2⟩ | ⟨c', eo, hc⟩
  · rw [eo]
    cases f <;> try (rw [of_k] at hk; simp only [Int.reduceEq] at hk; done)
    rename_i q y z
    obtain ⟨vt, vy, vz⟩ := orcOk.v_id vf
    have zt := validB_size vt
    have zy := validB_size vy
    have zz := validB_size vz
    simp only [evt, of, get0, get1, get2]
    rcases rch_sq (f_jfamily hM (n := n) (by omega) ha (w := q) (by omega)) e2 with ⟨t', e1, eo, e2⟩ | ⟨c', eo, hc⟩
    · rw [eo]
      simp only [evt, g0]
      rw [f_node (n := n) (by omega)]
      simp only [evt]
      rcases rs_sq (f_made (n := n) (m := .app a y) (by simp only [of, T.size, T.sizeL]; omega)) e2 with ⟨w, e3, eo, e4⟩ | ⟨y', c', eo, hc⟩
      · obtain ⟨rfl, vw⟩ := Tm.made_ok e3
        have zw := validB_size vw
        simp only [of, tm, mk_k, mk_n, mk_kids] at eo
        rw [eo]
        simp only [evt]
        rcases rch_sq (f_has hM (n := n) (by omega) hd (w := .app a y) (by omega)) e4 with ⟨t', e5, eo, e6⟩ | ⟨c', eo, hc⟩
        · simp only [of, tm, mk_k, mk_n, mk_kids] at eo
          rw [eo]
          simp only [evt]
          rw [f_node (n := n) (by omega)]
          simp only [evt]
          exact made_end (f_made (n := n) (m := .app a z) (by simp only [of, T.size, T.sizeL]; omega)) r e6
        · simp only [of, tm, mk_k, mk_n, mk_kids] at eo
          rw [eo]
          simp only [evt]
          rw [decide_eq_false hc.ne]
          exact rsh_err hc (.mk 0 0 [])
      · simp only [of, tm, mk_k, mk_n, mk_kids] at eo
        rw [eo]
        simp only [evt]
        rw [f_has0 (by omega) _ hc.ne]
        simp only [evt]
        rw [decide_eq_false hc.ne]
        exact rsh_err hc (.mk 0 0 [])
    · rw [eo]
      simp only [evt]
      rw [decide_eq_false hc.ne]
      exact rsh_err hc (.mk 0 0 [])
  · rw [eo]
    simp only [evt]
    have : r = .bad := by
      cases f <;> first | (exact absurd (of_k _) hk) | (cases e2; rfl)
    subst this
    exact rsh_err .bad (.mk 0 0 [])
  · rw [eo]
    simp only [evt]
    rw [decide_eq_false hc.ne]
    exact rsh_err hc (.mk 0 0 [])
theorem f_paired (hM : 7000500 ≤ M) (hn : M + 6 ≤ n) (g0 : t.kids[(0 : Int).toNat]? = some (of a)) (g1 : t.kids[(1 : Int).toNat]? = some (of b)) (hv : vdM (.pair a b d) = true) (ha : Op M c t 0 xa) (hb : Op M c t 1 xb) (hd : Op M c t 2 xd) : ∀ r,
    (sq (lvl O xa) fun _ => sq (some (O.hn a)) fun h => match h with
    | .sig A B => sq (chk O xb A) fun _ => sq (made O (B.inst b)) fun w => sq (chk O xd w) fun _ => some (.ok a)
    | _ => some .bad) = some r →
    RSh (hp c t) (FF n 162 [jd c t] (hp c t)) r := by
  intro r e
  obtain ⟨n, rfl⟩ := pos_succ (show 0 < n by omega)
  obtain ⟨va, vb, vd⟩ := orcOk.v_pair hv
  have za := validB_size va
  rw [E_impl_judge_paired_impl_infer_1]
  rcases rlh_sq (f_jlevel hM (n := n) (by omega) ha) e with ⟨i, e1, eo, e2⟩ | ⟨i, c', eo, hc⟩
  · rw [eo]
    simp only [evt, g0]
    rcases f_shaped (n := n) (m := a) (by omega) za 13 e2 with ⟨f, eo, hk, vf, _, e3⟩ | ⟨f, eo, hk, e3⟩ | ⟨eo, rfl⟩
    · rw [eo]
      cases f <;> try (rw [of_k] at hk; simp only [Int.reduceEq] at hk; done)
      rename_i C B _
      obtain ⟨vC, vB⟩ := orcOk.v_sig vf
      have zC := validB_size vC
      have zi := inst_size vB vb
      have hs := f_sideOf (n := n) (by omega) (of C) [of B] 13 0
      simp only [tm, mk_k, mk_n, mk_kids] at hs
      simp only [evt, of, get1]
      rw [hs]
      simp only [evt]
      rcases rch_sq (f_has hM (n := n) (by omega) hb (w := C) (by omega)) e3 with ⟨t', e4, eo, e5⟩ | ⟨c', eo, hc⟩
      · rw [eo]
        simp only [evt, g1]
        rw [f_instI (n := n) (by omega) vB vb]
        simp only [evt]
        rcases rs_sq (f_madeV (n := n) (m := B.inst b) (by omega)) e5 with ⟨w, e6, eo, e7⟩ | ⟨y', c', eo, hc⟩
        · obtain ⟨rfl, vw⟩ := Tm.made_ok e6
          have zw := validB_size vw
          rw [eo]
          simp only [evt]
          rcases rch_sq (f_has hM (n := n) (by omega) hd (w := B.inst b) (by omega)) e7 with ⟨t', e8, eo, e9⟩ | ⟨c', eo, hc⟩
          · rw [eo]
            simp only [evt, g0]
            cases e9
            exact ⟨of a, 0, rfl, rfl, rfl⟩
          · rw [eo]
            simp only [evt]
            rw [decide_eq_false hc.ne]
            exact rsh_err hc (.mk 0 0 [])
        · rw [eo]
          simp only [evt]
          rw [f_has0 (by omega) _ hc.ne]
          simp only [evt]
          rw [decide_eq_false hc.ne]
          exact rsh_err hc (.mk 0 0 [])
      · rw [eo]
        simp only [evt]
        rw [decide_eq_false hc.ne]
        exact rsh_err hc (.mk 0 0 [])
    · rw [eo]
      have hs := f_sideOf0 (n := n) (by omega)
      have hq := f_has0 (n := n) (c := c) (t := t) (i := 1) (by omega) (.mk 0 0 []) (c' := 1) (by decide)
      simp only [tm, mk_k, mk_n, mk_kids] at hs hq
      simp only [evt]
      rw [hs]
      simp only [evt]
      rw [hq]
      have : r = .bad := by
        cases f <;> first | (exact absurd (of_k _) hk) | (cases e3; rfl)
      subst this
      exact rsh_err .bad (.mk 0 0 [])
    · rw [eo]
      have hs := f_sideOf0 (n := n) (by omega)
      have hq := f_has0 (n := n) (c := c) (t := t) (i := 1) (by omega) (.mk 0 0 []) (c' := 2) (by decide)
      simp only [tm, mk_k, mk_n, mk_kids] at hs hq
      simp only [evt]
      rw [hs]
      simp only [evt]
      rw [hq]
      exact rsh_err .opn (.mk 0 0 [])
  · rw [eo]
    simp only [evt]
    rw [decide_eq_false hc.ne]
    exact rsh_err hc (.mk 0 0 [])
theorem f_part (hM : 7000500 ≤ M) (hn : M + 6 ≤ n) (g0 : t.kids[(0 : Int).toNat]? = some (of a)) (hva : vdM (.fst a) = true) (ha : Op M c t 0 xa) :
    (t.k = 15 → ∀ r, (sq (frm O xa) fun Q => match Q with
    | .sig A B => some (.ok A)
    | _ => some .bad) = some r → RSh (hp c t) (FF n 163 [jd c t] (hp c t)) r) ∧
    (t.k = 16 → ∀ r, (sq (frm O xa) fun Q => match Q with
    | .sig A B => made O (B.inst (.fst a))
    | _ => some .bad) = some r → RSh (hp c t) (FF n 163 [jd c t] (hp c t)) r) := by
  obtain ⟨n, rfl⟩ := pos_succ (show 0 < n by omega)
  refine ⟨fun ht r e => ?_, fun ht r e => ?_⟩
  · rw [E_impl_judge_part_impl_infer_1]
    rcases f_form hM (n := n) (by omega) ha 13 e with ⟨f, eo, hk, vf, e2⟩ | ⟨f, eo, hk, e2⟩ | ⟨c', eo, hc⟩
    · rw [eo]
      cases f <;> try (rw [of_k] at hk; simp only [Int.reduceEq] at hk; done)
      rename_i C B
      simp only [evt, of, get0, get1]
      rw [decide_eq_true ht]
      cases e2
      exact ⟨of C, 0, rfl, rfl, rfl⟩
    · rw [eo]
      simp only [evt]
      have : r = .bad := by
        cases f <;> first | (exact absurd (of_k _) hk) | (cases e2; rfl)
      subst this
      exact rsh_err .bad (.mk 0 0 [])
    · rw [eo]
      simp only [evt]
      rw [decide_eq_false hc.ne]
      exact rsh_err hc (.mk 0 0 [])
  · rw [E_impl_judge_part_impl_infer_1]
    rcases f_form hM (n := n) (by omega) ha 13 e with ⟨f, eo, hk, vf, e2⟩ | ⟨f, eo, hk, e2⟩ | ⟨c', eo, hc⟩
    · rw [eo]
      cases f <;> try (rw [of_k] at hk; simp only [Int.reduceEq] at hk; done)
      rename_i C B
      obtain ⟨vC, vB⟩ := orcOk.v_sig vf
      have zi := inst_size vB hva
      simp only [evt, of, get0, get1, g0]
      rw [decide_eq_false (show ¬ t.k = 15 by omega), f_node (n := n) (by omega)]
      simp only [evt]
      have hi := f_instI (n := n) (b := B) (u := .fst a) (by omega) vB hva
      simp only [of, tm, mk_k, mk_n, mk_kids] at hi
      rw [hi]
      simp only [evt]
      exact made_end (f_madeV (n := n) (m := B.inst (.fst a)) (by omega)) r e2
    · rw [eo]
      simp only [evt]
      have : r = .bad := by
        cases f <;> first | (exact absurd (of_k _) hk) | (cases e2; rfl)
      subst this
      exact rsh_err .bad (.mk 0 0 [])
    · rw [eo]
      simp only [evt]
      rw [decide_eq_false hc.ne]
      exact rsh_err hc (.mk 0 0 [])
end
/-! The types of operands. -/
theorem f_typeOf {M : Nat} {c : List T} {t : T} {i : Nat} {u : Tm} {x : Option Rs} (hM : 10 ≤ M) (hu : under t.k i = 0) (hk : t.kids[i]? = some (of u)) (h : IvI M c (of u) x) (hv : ∀ s, x = some (.ok s) → vdM s = true) : Op (M + 1) c t (i : Int) x := by
  refine ⟨fun n hn r e => ?_, hv⟩
  obtain ⟨n, rfl⟩ := pos_succ (show 0 < n by omega)
  obtain ⟨y, c', eo, h2⟩ := h n (by omega) r e
  rw [E_impl_infer_1]
  have ho : FF n 115 [tms c, tm t, nt (i : Int)] [] = some ([tms c, nt 0], []) := by
    obtain ⟨n, rfl⟩ := pos_succ (show 0 < n by omega)
    rw [E_impl_operandContext, f_under (n := n) (by omega), hu]; rfl
  rw [ho]
  simp only [evt]
  rw [decide_eq_true (show (0 : Int) ≤ i by omega), Int.toNat_natCast, hk]
  simp only [evt]
  rw [eo]
  exact ⟨y, c', rfl, h2⟩
theorem f_typeOfB {M : Nat} {G : List Tm} {t : T} {a u : Tm} {I : List Tm → Tm → Option Rs} (hM : 10 ≤ M) (hu : under t.k 1 = 1) (h0 : t.kids[(0 : Int).toNat]? = some (of a)) (hk : t.kids[(1 : Int).toNat]? = some (of u)) (hG : G.length ≤ 20)
    (h : G.length < 20 → IvI M (cx (a :: G)) (of u) (I (a :: G) u)) (hv : ∀ s, I (a :: G) u = some (.ok s) → vdM s = true) : Op (M + 1) (cx G) t 1 (ext I G a u) := by
  refine ⟨fun n hn r e => ?_, fun s e => hv s (Tm.ext_ok e)⟩
  obtain ⟨n, rfl⟩ := pos_succ (show 0 < n by omega)
  rw [E_impl_infer_1]
  have hf : ∀ n, 3 ≤ n → FF n 149 [nt t.k, nt 1] [] = some ([nt 1], []) := fun n hn => by
    have := f_under (n := n) (by omega) t.k 1
    rw [hu] at this; exact this
  by_cases h20 : 20 ≤ G.length
  · rw [Tm.ext, if_pos h20] at e; cases e
    have ho : FF n 115 [tms (cx G), tm t, nt 1] [] = some ([tms [], nt 2], []) := by
      obtain ⟨n, rfl⟩ := pos_succ (show 0 < n by omega)
      obtain ⟨n, rfl⟩ := pos_succ (show 0 < n by omega)
      rw [E_impl_operandContext, hf (n + 1) (by omega)]
      simp only [evt, h0, show decide ((1 : Int) = 0) = false from rfl]
      rw [E_impl_extended, cx_len, decide_eq_true (show (20 : Int) ≤ G.length by omega)]; rfl
    rw [ho]
    exact rsh_err .opn (.mk 0 0 [])
  · rw [Tm.ext, if_neg h20] at e
    obtain ⟨y, c', eo, h2⟩ := h (by omega) n (by omega) r e
    have ho : FF n 115 [tms (cx G), tm t, nt 1] [] = some ([tms (cx (a :: G)), nt 0], []) := by
      obtain ⟨n, rfl⟩ := pos_succ (show 0 < n by omega)
      obtain ⟨n, rfl⟩ := pos_succ (show 0 < n by omega)
      rw [E_impl_operandContext, hf (n + 1) (by omega)]
      simp only [evt, h0, show decide ((1 : Int) = 0) = false from rfl]
      rw [E_impl_extended, cx_len, decide_eq_false (show ¬ (20 : Int) ≤ G.length by omega), f_clone (n := n) (by omega) _ (by rw [cx_len]; omega)]
      simp only [evt]
      rw [roomB_ok (by simp [cx]; omega), cx_cons]; rfl
    rw [ho]
    simp only [evt, show decide ((0 : Int) ≤ 1) = true from rfl, hk]
    rw [eo]
    exact ⟨y, c', rfl, h2⟩
/-- The program's inference at all terms with g steps of fuel. -/
def IhI (g B : Nat) : Prop := ∀ (n : Nat) (G : List Tm) (t : Tm), B ≤ n → (∀ A ∈ G, vdM A = true) → G.length ≤ 20 → vdM t = true → ∀ r, inI O g G t = some r → RSh [] (FF n 74 [tms (cx G), tm (of t)] []) r
theorem f_inferForm {M n : Nat} {c : List T} {u : Tm} {x : Option Rs} (hM : 7000500 ≤ M) (hn : M + 1 ≤ n) (h : IvI M c (of u) x) (ok : ∀ s, x = some (.ok s) → vdM s = true) (k : Int) {g : Tm → Option Rs} {r : Rs} (e : sq (frm O x) g = some r) :
    (∃ f, FF n 105 [tms c, tm (of u), nt k] [] = some ([tm (of f), nt 0], []) ∧ (of f).k = k ∧ vdM f = true ∧ g f = some r) ∨ (∃ f, FF n 105 [tms c, tm (of u), nt k] [] = some ([tm (.mk 0 0 []), nt 1], []) ∧ (of f).k ≠ k ∧ g f = some r) ∨
      ∃ c', FF n 105 [tms c, tm (of u), nt k] [] = some ([tm (.mk 0 0 []), nt c'], []) ∧ Er c' r := by
  obtain ⟨n, rfl⟩ := pos_succ (show 0 < n by omega)
  unfold frm at e
  rw [Tm.sq_assoc] at e
  rw [E_impl_inferForm]
  rcases rsh_sq (h n (by omega)) e with ⟨s, e1, eo, e2⟩ | ⟨y, c', eo, hc⟩
  · rw [eo]
    simp only [evt]
    have hs := validB_size (ok s e1)
    rcases f_shaped (n := n) (m := s) (by omega) hs k e2 with ⟨f, eo, hk, vf, _, e3⟩ | ⟨f, eo, hk, e3⟩ | ⟨eo, rfl⟩
    · rw [eo]; exact .inl ⟨f, rfl, hk, vf, e3⟩
    · rw [eo]; exact .inr (.inl ⟨f, rfl, hk, e3⟩)
    · rw [eo]; exact .inr (.inr ⟨2, rfl, .opn⟩)
  · rw [eo]
    simp only [evt]
    rw [decide_eq_false hc.ne]
    exact .inr (.inr ⟨c', rfl, hc⟩)
theorem f_level {M n : Nat} {c : List T} {u : Tm} {x : Option Rs} (hM : 7000500 ≤ M) (hn : M + 2 ≤ n) (h : IvI M c (of u) x) (ok : ∀ s, x = some (.ok s) → vdM s = true) : ∀ r, lvl O x = some r → RLh [] (FF n 67 [tms c, tm (of u)] []) r := by
  intro r e
  obtain ⟨n, rfl⟩ := pos_succ (show 0 < n by omega)
  rw [E_impl_level]
  rcases f_inferForm hM (n := n) (by omega) h ok 2 e with ⟨f, eo, hk, vf, e2⟩ | ⟨f, eo, hk, e2⟩ | ⟨c', eo, hc⟩
  · rw [eo]
    cases f <;> try (rw [of_k] at hk; simp only [Int.reduceEq] at hk; done)
    rename_i j
    cases e2
    simp only [evt]
    exact ⟨j, 0, rfl, rfl, j, rfl, rfl⟩
  · rw [eo]
    simp only [evt]
    have : r = .bad := by
      cases f <;> first | (exact absurd (of_k _) hk) | (cases e2; rfl)
    subst this
    exact rlh_err .bad 0
  · rw [eo]
    simp only [evt]
    exact rlh_err hc 0
theorem rsh_pass {c : List T} {t : T} {o : OR} {r : Rs} (hh : RSh (hp c t) o r) : RSh (hp c t) (o.bind fun x0 => objC x0.2 fun x1 x2 => tsC x1 fun x3 x4 => nilC x4 (objC x2 fun x5 x6 => intC .i64 x5 fun x7 x8 => intC .i64 x8 fun x9 x10 => tsC x10 fun x11 x12 => nilC x12 (rTerm x0.1 fun x13 x14 => rInt .i64 x14 fun x15 x16 => nilV x16 (nilO x6 (some ([.agg [.int .i64 x13.k, .int .i64 x13.n, .fr (.ts x13.kids)], .one (.int .i64 x15)], [.cells [.fr (.ts x3)], .cells [.int .i64 x7, .int .i64 x9, .fr (.ts x11)]])))))) r := by
  obtain ⟨x, c', rfl, h2⟩ := hh
  simp only [evt]
  exact ⟨x, c', rfl, h2⟩
theorem f_judged {g B : Nat} (ih : IhI g B) (hB : 7000500 ≤ B) {n : Nat} {G : List Tm} {m : Tm} (hn : B + 20 ≤ n) (hG : ∀ A ∈ G, vdM A = true) (hl : G.length ≤ 20) (hv : vdM m = true) :
    ∀ r, kI O (inI O g) G m = some r → RSh (hp (cx G) (of m)) (FF n 116 [jd (cx G) (of m)] (hp (cx G) (of m))) r := by
  intro r e
  obtain ⟨n, rfl⟩ := pos_succ (show 0 < n by omega)
  have iv : ∀ {u}, vdM u = true → IvI B (cx G) (of u) (inI O g G u) := fun h m hm r e => ih m G _ hm hG hl h r e
  have ok : ∀ {u}, vdM u = true → ∀ s, inI O g G u = some (.ok s) → vdM s = true := fun h s e => Tm.inI_vd orcOk h e
  have op : ∀ {i : Nat} {u : Tm}, under (of m).k i = 0 → (of m).kids[i]? = some (of u) → vdM u = true → Op (B + 1) (cx G) (of m) (i : Int) (inI O g G u) := fun h1 h2 h3 => f_typeOf (by omega) h1 h2 (iv h3) (ok h3)
  have ob : ∀ {a u : Tm}, under (of m).k 1 = 1 → (of m).kids[(0 : Int).toNat]? = some (of a) → (of m).kids[(1 : Int).toNat]? = some (of u) → vdM a = true → vdM u = true → Op (B + 1) (cx G) (of m) 1 (ext (inI O g) G a u) := fun {a u} h1 h2 h3 ha hu =>
    f_typeOfB (by omega) h1 h2 h3 hl (fun h20 m hm r e => ih m (a :: G) u hm (fun A hA => by rcases List.mem_cons.1 hA with rfl | hA; exact ha; exact hG A hA) (by simp only [List.length_cons]; omega) hu r e) (fun s e => Tm.inI_vd orcOk hu e)
  rw [E_impl_judge_judged_impl_infer_1]
  cases m with
  | pi a b =>
    simp only [show ∀ c : Int, decide ((of (Tm.pi a b)).k = c) = decide ((3 : Int) = c) from fun _ => rfl, Int.reduceEq, decide_true, decide_false, cond_true, cond_false]
    obtain ⟨va, vb⟩ := orcOk.v_pi hv
    exact rsh_pass (f_arrow (M := B + 1) (by omega) (n := n) (by omega) (op (i := 0) rfl rfl va) (ob rfl rfl rfl va vb) r e)
  | sig a b =>
    simp only [show ∀ c : Int, decide ((of (Tm.sig a b)).k = c) = decide ((13 : Int) = c) from fun _ => rfl, Int.reduceEq, decide_true, decide_false, cond_true, cond_false]
    obtain ⟨va, vb⟩ := orcOk.v_sig hv
    exact rsh_pass (f_arrow (M := B + 1) (by omega) (n := n) (by omega) (op (i := 0) rfl rfl va) (ob rfl rfl rfl va vb) r e)
  | lam a b =>
    simp only [show ∀ c : Int, decide ((of (Tm.lam a b)).k = c) = decide ((4 : Int) = c) from fun _ => rfl, Int.reduceEq, decide_true, decide_false, cond_true, cond_false]
    obtain ⟨va, vb⟩ := orcOk.v_lam hv
    exact rsh_pass (f_function (M := B + 1) (by omega) (n := n) (by omega) rfl (op (i := 0) rfl rfl va) (ob rfl rfl rfl va vb) va (fun P => inI O g G P) (fun X _ vP m hm r e => ih m G _ (by omega) hG hl vP r e) r e)
  | elim p z s q =>
    simp only [show ∀ c : Int, decide ((of (Tm.elim p z s q)).k = c) = decide ((9 : Int) = c) from fun _ => rfl, Int.reduceEq, decide_true, decide_false, cond_true, cond_false]
    obtain ⟨va, vb, vd, ve, _⟩ := orcOk.v_elim hv
    exact rsh_pass (f_recursion (M := B + 1) (by omega) (n := n) (by omega) rfl rfl hv (op (i := 0) rfl rfl va) (op (i := 1) rfl rfl vb) (op (i := 2) rfl rfl vd) (op (i := 3) rfl rfl ve) r e)
  | id a b d =>
    simp only [show ∀ c : Int, decide ((of (Tm.id a b d)).k = c) = decide ((10 : Int) = c) from fun _ => rfl, Int.reduceEq, decide_true, decide_false, cond_true, cond_false]
    obtain ⟨va, vb, vd⟩ := orcOk.v_id hv
    exact rsh_pass (f_equality (M := B + 1) (by omega) (n := n) (by omega) rfl va (op (i := 0) rfl rfl va) (op (i := 1) rfl rfl vb) (op (i := 2) rfl rfl vd) r e)
  | move a b d =>
    simp only [show ∀ c : Int, decide ((of (Tm.move a b d)).k = c) = decide ((12 : Int) = c) from fun _ => rfl, Int.reduceEq, decide_true, decide_false, cond_true, cond_false]
    obtain ⟨va, vb, vd⟩ := orcOk.v_move hv
    exact rsh_pass (f_moved (M := B + 1) (by omega) (n := n) (by omega) rfl hv (op (i := 0) rfl rfl va) (op (i := 1) rfl rfl vb) (op (i := 2) rfl rfl vd) r e)
  | pair a b d =>
    simp only [show ∀ c : Int, decide ((of (Tm.pair a b d)).k = c) = decide ((14 : Int) = c) from fun _ => rfl, Int.reduceEq, decide_true, decide_false, cond_true, cond_false]
    obtain ⟨va, vb, vd⟩ := orcOk.v_pair hv
    exact rsh_pass (f_paired (M := B + 1) (by omega) (n := n) (by omega) rfl rfl hv (op (i := 0) rfl rfl va) (op (i := 1) rfl rfl vb) (op (i := 2) rfl rfl vd) r e)
  | fst a =>
    simp only [show ∀ c : Int, decide ((of (Tm.fst a)).k = c) = decide ((15 : Int) = c) from fun _ => rfl, Int.reduceEq, decide_true, decide_false, cond_true, cond_false]
    have va := orcOk.v_fst hv
    exact rsh_pass ((f_part (M := B + 1) (by omega) (n := n) (by omega) rfl hv (op (i := 0) rfl rfl va)).1 rfl r e)
  | snd a =>
    simp only [show ∀ c : Int, decide ((of (Tm.snd a)).k = c) = decide ((16 : Int) = c) from fun _ => rfl, Int.reduceEq, decide_true, decide_false, cond_true, cond_false]
    have va := orcOk.v_snd hv
    have vf : vdM (.fst a) = true := by
      have h := vdM_iff.1 hv
      rw [vdM_iff]
      exact h
    exact rsh_pass ((f_part (M := B + 1) (by omega) (n := n) (by omega) rfl vf (op (i := 0) rfl rfl va)).2 rfl r e)
  | var m =>
    simp only [show ∀ c : Int, decide ((of (Tm.var m)).k = c) = decide ((1 : Int) = c) from fun _ => rfl, Int.reduceEq, decide_true, decide_false, cond_true, cond_false]
    have e : (match Tm.look G m with | some A => made O A | none => some Rs.bad) = some r := e
    rw [cx_len, show (of (Tm.var m)).n = (m : Int) from rfl]
    cases hlk : Tm.look G m with
    | none =>
      rw [hlk] at e; cases e
      have := look_none hlk
      rw [decide_eq_true (show (G.length : Int) ≤ m by omega)]
      exact rsh_err .bad (.mk 0 0 [])
    | some A =>
      rw [hlk] at e
      have hlt := look_lt hlk
      obtain ⟨C, hC, rfl⟩ := look_get hlk
      have vC := hG C (List.mem_of_getElem? hC)
      have zC := validB_size vC
      have hg := cx_get G hlt
      rw [hC] at hg
      have w : IntKind.i64.wrap (IntKind.i64.wrap ((G.length : Int) - 1) - m) = ((G.length - 1 - m : Nat) : Int) := by
        rw [wrap64 (a := (G.length : Int) - 1) (by omega), wrap64 (by omega)]; omega
      have w1 : IntKind.i64.wrap ((m : Int) + 1) = ((m + 1 : Nat) : Int) := by rw [wrap64 (by omega)]; rfl
      rw [decide_eq_false (show ¬ (G.length : Int) ≤ m by omega), w, decide_eq_true (show (0 : Int) ≤ ((G.length - 1 - m : Nat) : Int) by omega), Int.toNat_natCast, hg, w1]
      simp only [Option.map_some, evt]
      have hs := f_shift (n := n) (t := of C) (a := ((m + 1 : Nat) : Int)) (c := 0) (by omega) (gd_of vC) (by omega) (by omega) (by omega)
      rw [shR, shift_of] at hs
      rw [hs]
      simp only [evt]
      refine made_end (f_madeV (n := n) (m := C.ren (· + (m + 1))) ?_) r e
      rw [← shift_of, sh_size]; omega
  | sort m =>
    simp only [show ∀ c : Int, decide ((of (Tm.sort m)).k = c) = decide ((2 : Int) = c) from fun _ => rfl, Int.reduceEq, decide_true, decide_false, cond_true, cond_false]
    have hm := orcOk.v_sort.1 hv
    have e : some (if m < 3 then Rs.ok (.sort (m + 1)) else Rs.bad) = some r := e
    rw [show (of (Tm.sort m)).n = (m : Int) from rfl]
    by_cases h3 : m < 3
    · rw [if_pos h3] at e; cases e
      rw [decide_eq_false (show ¬ (m : Int) = 3 by omega), wrap64 (show -9223372036854775808 ≤ (m : Int) + 1 ∧ (m : Int) + 1 ≤ 9223372036854775807 by omega)]
      simp only [evt]
      rw [f_sort (n := n) (by omega)]
      simp only [evt]
      exact ⟨of (.sort (m + 1)), 0, rfl, rfl, rfl⟩
    · rw [if_neg h3] at e; cases e
      rw [decide_eq_true (show (m : Int) = 3 by omega)]
      exact rsh_err .bad (.mk 0 0 [])
  | nat =>
    simp only [show ∀ c : Int, decide ((of (Tm.nat)).k = c) = decide ((6 : Int) = c) from fun _ => rfl, Int.reduceEq, decide_true, decide_false, cond_true, cond_false]
    cases e
    rw [f_sort (n := n) (by omega)]
    simp only [evt]
    exact ⟨of (.sort 0), 0, rfl, rfl, rfl⟩
  | zero =>
    simp only [show ∀ c : Int, decide ((of (Tm.zero)).k = c) = decide ((7 : Int) = c) from fun _ => rfl, Int.reduceEq, decide_true, decide_false, cond_true, cond_false]
    cases e
    rw [f_nodeE (n := n) (by omega)]
    simp only [evt]
    exact ⟨of .nat, 0, rfl, rfl, rfl⟩
  | succ a =>
    simp only [show ∀ c : Int, decide ((of (Tm.succ a)).k = c) = decide ((8 : Int) = c) from fun _ => rfl, Int.reduceEq, decide_true, decide_false, cond_true, cond_false]
    have va := orcOk.v_succ hv
    have zn : (of .nat).size ≤ 100000 := by decide
    rw [f_nodeE (n := n) (by omega)]
    simp only [evt]
    rcases rch_sq (f_jcheck (M := B + 1) (by omega) (n := n) (by omega) (show Op (B + 1) _ _ 0 _ from op (i := 0) rfl rfl va) (w := .nat) zn) e with ⟨t', e1, eo, e2⟩ | ⟨c', eo, hc⟩
    · have eo : FF n 153 [jd (cx G) (of (.succ a)), nt 0, .agg [.int .i64 6, .int .i64 0, .fr (.ts [])]] (hp (cx G) (of (.succ a))) = _ := eo
      cases e2
      rw [eo]
      simp only [evt]
      exact ⟨of .nat, 0, rfl, rfl, rfl⟩
    · have eo : FF n 153 [jd (cx G) (of (.succ a)), nt 0, .agg [.int .i64 6, .int .i64 0, .fr (.ts [])]] (hp (cx G) (of (.succ a))) = _ := eo
      rw [eo]
      simp only [evt]
      rw [decide_eq_false hc.ne]
      exact rsh_err hc (.mk 0 0 [])
  | app f u =>
    simp only [show ∀ c : Int, decide ((of (Tm.app f u)).k = c) = decide ((5 : Int) = c) from fun _ => rfl, Int.reduceEq, decide_true, decide_false, cond_true, cond_false]
    obtain ⟨va, vb⟩ := orcOk.v_app hv
    have zb := validB_size vb
    have e : (sq (frm O (inI O g G f)) fun F => match F with
      | .pi C B => sq (chk O (inI O g G u) C) fun _ => made O (B.inst u)
      | _ => some .bad) = some r := e
    rcases f_form (M := B + 1) (by omega) (n := n) (by omega) (show Op (B + 1) _ _ 0 _ from op (i := 0) rfl rfl va) 3 e with ⟨F, eo, hk, vf, e2⟩ | ⟨F, eo, hk, e2⟩ | ⟨c', eo, hc⟩
    · rw [eo]
      cases F <;> try (rw [of_k] at hk; simp only [Int.reduceEq] at hk; done)
      rename_i C D
      obtain ⟨vC, vD⟩ := orcOk.v_pi vf
      have zC := validB_size vC
      have zi := inst_size vD vb
      have hs := f_sideOf (n := n) (by omega) (of C) [of D] 3 0
      simp only [tm, mk_k, mk_n, mk_kids] at hs
      simp only [evt, of, get1]
      rw [hs]
      simp only [evt]
      rcases rch_sq (f_has (M := B + 1) (by omega) (n := n) (by omega) (show Op (B + 1) _ _ 1 _ from op (i := 1) rfl rfl vb) (w := C) (by omega)) e2 with ⟨t', e3, eo, e4⟩ | ⟨c', eo, hc⟩
      · simp only [of, tm, jd, hp, mk_k, mk_n, mk_kids] at eo
        rw [eo]
        simp only [evt, get1]
        rw [f_instI (n := n) (by omega) vD vb]
        simp only [evt]
        exact made_end (f_madeV (n := n) (m := D.inst u) (by omega)) r e4
      · simp only [of, tm, jd, hp, mk_k, mk_n, mk_kids] at eo
        rw [eo]
        simp only [evt]
        rw [decide_eq_false hc.ne]
        exact rsh_err hc (.mk 0 0 [])
    · rw [eo]
      have hs := f_sideOf0 (n := n) (by omega)
      have hq := f_has0 (n := n) (c := cx G) (t := of (.app f u)) (i := 1) (by omega) (.mk 0 0 []) (c' := 1) (by decide)
      simp only [tm, mk_k, mk_n, mk_kids] at hs hq
      simp only [evt]
      rw [hs]
      simp only [evt]
      rw [hq]
      have : r = .bad := by
        cases F <;> first | (exact absurd (of_k _) hk) | (cases e2; rfl)
      subst this
      exact rsh_err .bad (.mk 0 0 [])
    · rw [eo]
      have hs := f_sideOf0 (n := n) (by omega)
      have hq := f_has0 (n := n) (c := cx G) (t := of (.app f u)) (i := 1) (by omega) (.mk 0 0 []) (c' := c') hc.ne
      simp only [tm, mk_k, mk_n, mk_kids] at hs hq
      simp only [evt]
      rw [hs]
      simp only [evt]
      rw [hq]
      simp only [evt]
      rw [decide_eq_false hc.ne]
      exact rsh_err hc (.mk 0 0 [])
  | refl a =>
    simp only [show ∀ c : Int, decide ((of (Tm.refl a)).k = c) = decide ((11 : Int) = c) from fun _ => rfl, Int.reduceEq, decide_true, decide_false, cond_true, cond_false]
    have va := orcOk.v_refl hv
    have za := validB_size va
    have e : (sq (inI O g G a) fun A => sq (lvl O (inI O g G A)) fun _ => made O (.id A a a)) = some r := e
    rcases rsh_sq ((op (i := 0) rfl rfl va).iv n (by omega)) e with ⟨A, e1, eo, e2⟩ | ⟨y, c', eo, hc⟩
    · have vA := ok va A e1
      have zA := validB_size vA
      rw [show ((0 : Nat) : Int) = 0 from rfl] at eo
      rw [eo]
      simp only [evt]
      rcases rlh_sq (f_level (M := B) (by omega) (n := n) (by omega) (iv vA) (ok vA)) e2 with ⟨i, e3, eo, e4⟩ | ⟨i, c', eo, hc⟩
      · simp only [tms, tm] at eo
        rw [eo]
        simp only [evt, of, get0]
        rw [f_node (n := n) (by omega)]
        simp only [evt]
        exact made_end (f_made (n := n) (m := .id A a a) (by simp only [of, T.size, T.sizeL]; omega)) r e4
      · simp only [tms, tm] at eo
        rw [eo]
        simp only [evt]
        rw [decide_eq_false hc.ne]
        exact rsh_err hc (.mk 0 0 [])
    · rw [show ((0 : Nat) : Int) = 0 from rfl] at eo
      rw [eo]
      simp only [evt]
      rw [decide_eq_false hc.ne]
      exact rsh_err hc (.mk 0 0 [])
theorem f_infer : ∀ g, IhI g (7000500 + 30 * g)
  | 0 => fun n G t _ _ _ _ r e => by cases e
  | g + 1 => fun n G t hn hG hl hv r e => by
    obtain ⟨n, rfl⟩ := pos_succ (show 0 < n by omega)
    rw [E_impl_infer]
    obtain ⟨x, c', h1, h2⟩ := f_judged (f_infer g) (by omega) (n := n) (by omega) hG hl hv r e
    rw [h1]
    simp only [evt]
    exact ⟨x, c', rfl, h2⟩
end Go.Proofs.YthopkmimhlcjkaaGreat
end
