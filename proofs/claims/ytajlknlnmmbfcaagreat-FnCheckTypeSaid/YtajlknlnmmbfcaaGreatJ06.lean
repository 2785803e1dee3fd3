/- Part 6 of the proof. -/
import Derived.Test.YtajlknlnmmbfcaaGreatJ01
import Derived.Test.YtajlknlnmmbfcaaGreatJ02
import Derived.Test.YtajlknlnmmbfcaaGreatJ03
import Derived.Test.YtajlknlnmmbfcaaGreatJ04
import Derived.Test.YtajlknlnmmbfcaaGreatJ05
set_option linter.unusedVariables false
set_option linter.unusedSimpArgs false
section
namespace Go.Proofs.YtajlknlnmmbfcaaGreat
namespace Tm
variable {O : Orc}
def Is (f : Nat → Option Rs) (r : Rs) : Prop := ∃ N, ∀ n, N ≤ n → f n = some r
def Ends (f : Nat → Option Rs) : Prop := ∃ r, Is f r
theorem Is.uniq {f : Nat → Option Rs} {r r' : Rs} (h : Is f r) (k : Is f r') : r = r' := by
 obtain ⟨N, h⟩ := h
 obtain ⟨M, k⟩ := k
 have := (h (N + M) (by omega)).symm.trans (k (N + M) (by omega))
 exact Option.some.inj this
theorem Is.const (r : Rs) : Is (fun _ => some r) r := ⟨0, fun _ _ => rfl⟩
theorem Is.bind {f : Nat → Option Rs} {t : Tm} {k : Nat → Tm → Option Rs} {r : Rs} (h : Is f (.ok t)) (hk : Is (fun n => k n t) r) : Is (fun n => sq (f n) (k n)) r := by
 obtain ⟨N, h⟩ := h
 obtain ⟨M, hk⟩ := hk
 exact ⟨N + M, fun n hn => by show sq (f n) (k n) = some r; rw [h n (by omega)]; exact hk n (by omega)⟩
theorem Is.bad {f : Nat → Option Rs} {k : Nat → Tm → Option Rs} (h : Is f .bad) : Is (fun n => sq (f n) (k n)) .bad := by
 obtain ⟨N, h⟩ := h
 exact ⟨N, fun n hn => by show sq (f n) (k n) = _; rw [h n hn]; rfl⟩
theorem Is.opn {f : Nat → Option Rs} {k : Nat → Tm → Option Rs} (h : Is f .opn) : Is (fun n => sq (f n) (k n)) .opn := by
 obtain ⟨N, h⟩ := h
 exact ⟨N, fun n hn => by show sq (f n) (k n) = _; rw [h n hn]; rfl⟩
theorem Ends.bind {f : Nat → Option Rs} {k : Nat → Tm → Option Rs} (h : Ends f) (hk : ∀ t, Is f (.ok t) → Ends (fun n => k n t)) : Ends (fun n => sq (f n) (k n)) := by
 obtain ⟨r, h⟩ := h
 cases r with
 | ok t => obtain ⟨r, hr⟩ := hk t h; exact ⟨r, h.bind hr⟩
 | bad => exact ⟨_, h.bad⟩
 | opn => exact ⟨_, h.opn⟩
theorem Ends.const (r : Option Rs) (h : r ≠ none) : Ends (fun _ => r) := by
 cases r with
 | none => exact absurd rfl h
 | some r => exact ⟨r, .const r⟩
theorem Ends.of {r : Rs} : Ends (fun _ => some r) := ⟨r, .const r⟩
theorem Ends.frm {f : Nat → Option Rs} (h : Ends f) : Ends (fun n => frm O (f n)) := h.bind fun _ _ => .of
theorem Ends.lvl {f : Nat → Option Rs} (h : Ends f) : Ends (fun n => lvl O (f n)) := h.frm.bind fun t _ => .const _ (by split <;> simp)
theorem Ends.chk {f : Nat → Option Rs} (h : Ends f) (w : Tm) : Ends (fun n => chk O (f n) w) := h.bind fun _ _ => .of
theorem Ends.fam {f : Nat → Option Rs} (h : Ends f) (w : Tm) : Ends (fun n => fam O (f n) w) := h.frm.bind fun t _ => by
 split
 ·exact Ends.bind .of fun _ _ => Ends.bind .of fun _ _ => .const _ (by split <;> simp)
 ·exact .of
def Le (x y : Option Rs) : Prop := ∀ r, x = some r → y = some r
theorem Le.bq (x : Option Rs) : Le x x := fun _ h => h
theorem Le.sq {x y : Option Rs} {k l : Tm → Option Rs} (h : Le x y) (hk : ∀ t, Le (k t) (l t)) : Le (sq x k) (sq y l) := by
 intro r e
 cases x with
 | none => cases e
 | some x =>
  rw [h _ rfl]
  cases x with
  | ok t => exact hk t r e
  | bad => exact e
  | opn => exact e
theorem Le.frm {x y : Option Rs} (h : Le x y) : Le (frm O x) (frm O y) := h.sq fun _ => .bq _
theorem Le.lvl {x y : Option Rs} (h : Le x y) : Le (lvl O x) (lvl O y) := h.frm.sq fun _ => .bq _
theorem Le.chk {x y : Option Rs} (h : Le x y) (w : Tm) : Le (chk O x w) (chk O y w) := h.sq fun _ => .bq _
theorem Le.fam {x y : Option Rs} (h : Le x y) (w : Tm) : Le (fam O x w) (fam O y w) := h.frm.sq fun _ => .bq _
theorem Le.bnd {I J : List Tm → Tm → Option Rs} (h : ∀ G t, Le (I G t) (J G t)) (G : List Tm) (a b : Tm) : Le (bnd O I G a b) (bnd O J G a b) :=
 (h _ _).lvl.sq fun _ => (h _ _).lvl.sq fun _ => .bq _
theorem Le.kS {I J : List Tm → Tm → Option Rs} (h : ∀ G t, Le (I G t) (J G t)) (G : List Tm) (t : Tm) : Le (kS O I G t) (kS O J G t) := by
 cases t with
 | var n => exact .bq _
 | sort n => exact .bq _
 | pi a b => exact .bnd h _ _ _
 | sig a b => exact .bnd h _ _ _
 | lam a b => exact (h _ _).lvl.sq fun _ => (h _ _).sq fun _ => (Le.bnd h _ _ _).sq fun _ => .bq _
 | app f u => exact (h _ _).frm.sq fun F => by cases F <;> first | exact (h _ _).chk _ |>.sq fun _ => .bq _ | exact .bq _
 | nat => exact .bq _
 | zero => exact .bq _
 | succ n => exact ((h _ _).chk _).sq fun _ => .bq _
 | elim p z s n => exact ((h _ _).fam _).sq fun _ => ((h _ _).chk _).sq fun _ => ((h _ _).chk _).sq fun _ => ((h _ _).chk _).sq fun _ => .bq _
 | id t a b => exact (h _ _).lvl.sq fun _ => ((h _ _).chk _).sq fun _ => ((h _ _).chk _).sq fun _ => .bq _
 | refl a => exact (h _ _).sq fun _ => (h _ _).lvl.sq fun _ => .bq _
 | move p e x => exact (h _ _).frm.sq fun F => by cases F <;> first | exact ((h _ _).fam _).sq fun _ => ((h _ _).chk _).sq fun _ => .bq _ | exact .bq _
 | pair s a b => exact (h _ _).lvl.sq fun _ => (Le.bq _).sq fun F => by cases F <;> first | exact ((h _ _).chk _).sq fun _ => ((h _ _).chk _).sq fun _ => .bq _ | exact .bq _
 | fst q => exact (h _ _).frm.sq fun _ => .bq _
 | snd q => exact (h _ _).frm.sq fun _ => .bq _
theorem ft {G : List Tm} {t : Tm} (h : Ends fun n => kS O (inS O n) G t) : Ends fun n => inS O n G t := by
 have : Ends fun n => inS O (n + 1) G t := by
  by_cases c : O.vd t = false ∨ 20 < G.length
  ·exact ⟨.opn, 0, fun n _ => by show inS O (n + 1) G t = _; rw [inS, if_pos c]⟩
  ·obtain ⟨r, N, hr⟩ := Ends.bind (k := fun _ => made O) h fun t _ => .const _ (by unfold made; simp)
   exact ⟨r, N, fun n hn => by show inS O (n + 1) G t = _; rw [inS, if_neg c]; exact hr n hn⟩
 obtain ⟨r, N, hr⟩ := this
 exact ⟨r, N + 1, fun n hn => by obtain ⟨m, rfl⟩ : ∃ m, n = m + 1 := ⟨n - 1, by omega⟩; exact hr m (by omega)⟩
theorem Jz (k : bR O) {G : List Tm} {t A : Tm} (h : Is (fun n => inS O n G t) (.ok A)) : Al G t A ∧ O.vd A = true := by
 obtain ⟨N, h⟩ := h
 exact bB k (h N (Nat.le_refl N))
theorem sU (k : bR O) {G : List Tm} {t A : Tm} (w : Wf G) (h : Is (fun n => lvl O (inS O n G t)) (.ok A)) : Wf (t :: G) := by
 obtain ⟨N, h⟩ := h
 obtain ⟨s, i, e, rfl, r⟩ := gm k (h N (Nat.le_refl N))
 exact .cons w (((bB k e).1.sound w).lvl w r)
theorem IF (k : bR O) {G : List Tm} (w : Wf G) (hl : ∀ A, Wf (A :: G) → ∀ t, Ends fun n => inS O n (A :: G) t) : Clo (fun t => Ends fun n => inS O n G t) G where
 var n := ft (by show Ends fun _ => match look G n with | some A => some (Rs.ok A) | none => some Rs.bad; exact .const _ (by split <;> simp))
 sort n := ft .of
 nat := ft .of
 zero := ft .of
 succ h := ft ((h.chk _).bind fun _ _ => .of)
 pi h := ft (h.lvl.bind fun _ q => (hl _ (sU k w q) _).lvl.bind fun _ _ => .of)
 sig h := ft (h.lvl.bind fun _ q => (hl _ (sU k w q) _).lvl.bind fun _ _ => .of)
 lam h := ft (h.lvl.bind fun _ q => (hl _ (sU k w q) _).bind fun _ _ => Ends.bind (h.lvl.bind fun _ q => (hl _ (sU k w q) _).lvl.bind fun _ _ => .of) fun _ _ => .of)
 app h l := ft (h.frm.bind fun F _ => by cases F <;> first | exact (l.chk _).bind fun _ _ => .of | exact .of)
 elim h l m o := ft ((h.fam _).bind fun _ _ => (l.chk _).bind fun _ _ => (m.chk _).bind fun _ _ => (o.chk _).bind fun _ _ => .of)
 id h l m := ft (h.lvl.bind fun _ _ => (l.chk _).bind fun _ _ => (m.chk _).bind fun _ _ => .of)
 refl h l := ft (h.bind fun A q => (l A (Jz k q).1).lvl.bind fun _ _ => .of)
 move h l m := ft (l.frm.bind fun F _ => by cases F <;> first | exact (h.fam _).bind fun _ _ => (m.chk _).bind fun _ _ => .of | exact .of)
 pair h l m := ft (h.lvl.bind fun _ _ => Ends.bind .of fun F _ => by cases F <;> first | exact (l.chk _).bind fun _ _ => (m.chk _).bind fun _ _ => .of | exact .of)
 fst h := ft (h.frm.bind fun F _ => .const _ (by split <;> simp))
 snd h := ft (h.frm.bind fun F _ => .const _ (by split <;> simp))
theorem zf (k : bR O) : ∀ (m : Nat) (G : List Tm), 21 ≤ G.length + m → Wf G → ∀ t, Ends fun n => inS O n G t
 | 0, G, h, w, t => ⟨.opn, 1, fun n hn => by obtain ⟨m, rfl⟩ : ∃ m, n = m + 1 := ⟨n - 1, by omega⟩; show inS O (m + 1) G t = _; rw [inS, if_pos (.inr (by omega))]⟩
 | m + 1, G, h, w, t => (IF k w fun A w' => zf k m (A :: G) (by simp only [List.length_cons]; omega) w').all w t
theorem CC (k : bR O) {G : List Tm} (w : Wf G) (t : Tm) : ∃ r, Is (fun n => inS O n G t) r := zf k 21 G (by omega) w t
theorem xk (k : bR O) {s h : Tm} {i : Nat} (e : O.hn s = .ok h) (c : Conv s (sort i)) : h = sort i := by
 obtain ⟨w, nh, _⟩ := k.hn_ok e
 have := (w.conv.symm.trans c).xp
 cases this with
 | nil => rfl
 | cons r _ => exact (nh _ r).elim
theorem Jm (k : bR O) {s h A B : Tm} (e : O.hn s = .ok h) (c : Conv s (pi A B)) : ∃ A' B', h = pi A' B' ∧ Conv A' A ∧ Conv B' B := by
 obtain ⟨w, nh, _⟩ := k.hn_ok e
 obtain ⟨A', B', r, c1, c2⟩ := (w.conv.symm.trans c).jL
 cases r with
 | nil => exact ⟨_, _, rfl, c1, c2⟩
 | cons r _ => exact (nh _ r).elim
theorem BL (k : bR O) {s h A B : Tm} (e : O.hn s = .ok h) (c : Conv s (sig A B)) : ∃ A' B', h = sig A' B' ∧ Conv A' A ∧ Conv B' B := by
 obtain ⟨w, nh, _⟩ := k.hn_ok e
 obtain ⟨A', B', r, c1, c2⟩ := (w.conv.symm.trans c).iy
 cases r with
 | nil => exact ⟨_, _, rfl, c1, c2⟩
 | cons r _ => exact (nh _ r).elim
theorem Kg (k : bR O) {s h t y z : Tm} (e : O.hn s = .ok h) (c : Conv s (id t y z)) : ∃ t' y' z', h = id t' y' z' ∧ Conv t' t ∧ Conv y' y ∧ Conv z' z := by
 obtain ⟨w, nh, _⟩ := k.hn_ok e
 obtain ⟨t', y', z', r, c1, c2, c3⟩ := (w.conv.symm.trans c).gf
 cases r with
 | nil => exact ⟨_, _, _, rfl, c1, c2, c3⟩
 | cons r _ => exact (nh _ r).elim
def Nb (x : Option Rs) : Prop := x ≠ some .bad
theorem Nb.sq {x : Option Rs} {k : Tm → Option Rs} (h : Nb x) (hk : ∀ t, x = some (.ok t) → Nb (k t)) : Nb (sq x k) := by
 intro e
 cases x with
 | none => cases e
 | some r => cases r with
  | ok t => exact hk t rfl e
  | bad => exact h rfl
  | opn => cases e
theorem ij (t : Tm) : Nb (some (.ok t)) := fun h => by cases h
theorem tx (k : bR O) (t : Tm) : Nb (some (O.hn t)) := fun h => k.hn_nb t (Option.some.inj h)
theorem Df (t : Tm) : Nb (made O t) := fun h => by
 unfold made at h
 split at h <;> cases h
structure Part (O : Orc) (G : List Tm) (A : Tm) (x : Option Rs) : Prop where
 nb : Nb x
 ty : ∀ {B}, x = some (.ok B) → Conv B A
theorem Part.lvl (k : bR O) {G : List Tm} {i : Nat} {x : Option Rs} (p : Part O G (sort i) x) : Nb (lvl O x) := by
 refine (p.nb.sq fun _ _ => tx k _).sq fun h e => ?_
 obtain ⟨s, e1, e2⟩ := aG e
 have := xk k (Option.some.inj e2) (p.ty e1); subst this
 exact ij _
theorem Part.chk (k : bR O) {G : List Tm} {A B : Tm} {x : Option Rs} (p : Part O G A x) (c : Conv A B) : Nb (chk O x B) :=
 p.nb.sq fun s e => fun h => k.sm_nb (Option.some.inj h) ((p.ty e).trans c)
theorem Part.fam (k : bR O) {G : List Tm} {t t' : Tm} {i : Nat} {x : Option Rs} (p : Part O G (pi t (sort i)) x) (c : Conv t t') : Nb (fam O x t') := by
 refine (p.nb.sq fun _ _ => tx k _).sq fun h e => ?_
 obtain ⟨s, e1, e2⟩ := aG e
 obtain ⟨C, D, rfl, c1, c2⟩ := Jm k (Option.some.inj e2) (p.ty e1)
 refine Nb.sq (fun h => k.sm_nb (Option.some.inj h) (c1.trans c)) fun _ _ => Nb.sq (tx k _) fun h e => ?_
 have := xk k (Option.some.inj e) c2; subst this
 exact ij _
theorem kR (k : bR O) : ∀ {g : Nat} {G : List Tm} {t A : Tm}, Wf G → Ty G t A → Nb (inS O g G t)
 | 0, _, _, _, _, _ => fun h => by cases h
 | g + 1, G, t, A, w, h => by
  have pt : ∀ {G t A}, Wf G → Ty G t A → Part O G A (inS O g G t) := fun w h => ⟨kR k w h, fun e => ((bB k e).1.sound w).uniq h⟩
  have bd : ∀ {G a b i j}, Wf G → Ty G a (sort i) → Ty (a :: G) b (sort j) → Nb (bnd O (inS O g) G a b) := fun w h l =>
   ((pt w h).lvl k).sq fun _ _ => ((pt (.cons w h) l).lvl k).sq fun _ _ => ij _
  rw [inS]
  split
  ·exact fun h => by cases h
  ·refine Nb.sq ?_ fun _ _ => Df _
   have gn := h.gen
   cases t with
   | var n =>
    obtain ⟨B, h1, c⟩ := gn
    simp only [kS, h1]; exact ij _
   | sort n => simp only [kS, if_pos gn.1]; exact ij _
   | pi a b => obtain ⟨i, j, h1, h2, c⟩ := gn; exact bd w h1 h2
   | sig a b => obtain ⟨i, j, h1, h2, c⟩ := gn; exact bd w h1 h2
   | lam a b =>
    obtain ⟨B, i, j, h1, h2, h3, c⟩ := gn
    refine ((pt w h1).lvl k).sq fun _ _ => (pt (.cons w h1) h2).nb.sq fun B' e => ?_
    have tb := (bB k e).1.sound (.cons w h1)
    have cb := tb.uniq h2
    obtain ⟨j', hj⟩ := tb.sorted (.cons w h1) (fun e => by
     subst e
     have := h3.red (.cons w h1) (by obtain ⟨x, r1, r2⟩ := cb; rw [r1.dR] at r2; exact r2)
     exact absurd this.nC (by omega))
    exact (bd w h1 hj).sq fun _ _ => ij _
   | app f u =>
    obtain ⟨X, Y, h1, h2, c⟩ := gn
    refine ((pt w h1).nb.sq fun _ _ => tx k _).sq fun F e => ?_
    obtain ⟨s, e1, e2⟩ := aG e
    obtain ⟨C, D, rfl, c1, c2⟩ := Jm k (Option.some.inj e2) ((pt w h1).ty e1)
    exact ((pt w h2).chk k c1.symm).sq fun _ _ => ij _
   | nat => exact ij _
   | zero => exact ij _
   | succ n => exact ((pt w gn.1).chk k .bq).sq fun _ _ => ij _
   | elim p z s n =>
    obtain ⟨i, h1, h2, h3, h4, c⟩ := gn
    exact ((pt w h1).fam k .bq).sq fun _ _ => ((pt w h2).chk k .bq).sq fun _ _ => ((pt w h3).chk k .bq).sq fun _ _ => ((pt w h4).chk k .bq).sq fun _ _ => ij _
   | id t a b =>
    obtain ⟨i, h1, h2, h3, c⟩ := gn
    exact ((pt w h1).lvl k).sq fun _ _ => ((pt w h2).chk k .bq).sq fun _ _ => ((pt w h3).chk k .bq).sq fun _ _ => ij _
   | refl a =>
    obtain ⟨B, i, h1, h2, c⟩ := gn
    refine (pt w h1).nb.sq fun B' e => ?_
    have tb := (bB k e).1.sound w
    have cb := tb.uniq h1
    obtain ⟨j', hj⟩ := tb.sorted w (fun e => by
     subst e
     have := h2.red w (by obtain ⟨x, r1, r2⟩ := cb; rw [r1.dR] at r2; exact r2)
     exact absurd this.nC (by omega))
    exact ((pt w hj).lvl k).sq fun _ _ => ij _
   | move p e x =>
    obtain ⟨t, y, z, i, h1, h2, h3, c⟩ := gn
    refine ((pt w h1).nb.sq fun _ _ => tx k _).sq fun F e => ?_
    obtain ⟨s, e1, e2⟩ := aG e
    obtain ⟨t', y', z', rfl, c1, c2, c3⟩ := Kg k (Option.some.inj e2) ((pt w h1).ty e1)
    exact ((pt w h2).fam k c1.symm).sq fun _ _ => ((pt w h3).chk k (Conv.app .bq c2.symm)).sq fun _ _ => ij _
   | pair s a b =>
    obtain ⟨X, Y, i, j, h1, r, hq, h2, h3, c⟩ := gn
    refine ((pt w h1).lvl k).sq fun _ _ => (tx k _).sq fun F e => ?_
    obtain ⟨C, D, rfl, c1, c2⟩ := BL k (Option.some.inj e) r.conv
    exact ((pt w h2).chk k c1.symm).sq fun _ _ => ((pt w h3).chk k (Conv.inst c2.symm .bq)).sq fun _ _ => ij _
   | fst q =>
    obtain ⟨X, Y, h1, c⟩ := gn
    refine ((pt w h1).nb.sq fun _ _ => tx k _).sq fun F e => ?_
    obtain ⟨s, e1, e2⟩ := aG e
    obtain ⟨C, D, rfl, c1, c2⟩ := BL k (Option.some.inj e2) ((pt w h1).ty e1)
    exact ij _
   | snd q =>
    obtain ⟨X, Y, h1, c⟩ := gn
    refine ((pt w h1).nb.sq fun _ _ => tx k _).sq fun F e => ?_
    obtain ⟨s, e1, e2⟩ := aG e
    obtain ⟨C, D, rfl, c1, c2⟩ := BL k (Option.some.inj e2) ((pt w h1).ty e1)
    exact ij _
end Tm
end Go.Proofs.YtajlknlnmmbfcaaGreat
end
section
namespace Go.Proofs.YtajlknlnmmbfcaaGreat
namespace Tm
variable {O : Orc}
def Lv (G : List Tm) (a : Tm) : Prop := ∃ S i, Al G a S ∧ Wh S (sort i)
def Fm (G : List Tm) (p t : Tm) : Prop := ∃ P C D i, Al G p P ∧ Wh P (pi C D) ∧ Conv C t ∧ Wh D (sort i)
variable (O) in
def Gr (G : List Tm) (t : Tm) : Prop := ∀ g, Nb (inS O g G t)
variable (O) in
def di : List Tm → Tm → Prop
 | G, pi a b => di G a ∧ (Lv G a → di (a :: G) b)
 | G, sig a b => di G a ∧ (Lv G a → di (a :: G) b)
 | G, lam a b => di G a ∧ (Lv G a → di (a :: G) b)
 | G, app f u => di G f ∧ ((∃ F C B, Al G f F ∧ Wh F (pi C B)) → di G u)
 | G, succ n => di G n
 | G, elim p z s n => di G p ∧ di G z ∧ di G s ∧ di G n ∧ (O.vd (aW p) = true ∨ Gr O G s)
 | G, id t a b => di G t ∧ di G a ∧ di G b
 | G, refl a => di G a
 | G, move p e x => di G e ∧ di G p ∧ di G x ∧ ∀ Q t y z, Al G e Q → Wh Q (id t y z) → Fm G p t → O.vd (app p y) = true ∨ Gr O G x
 | G, pair s a b => di G s ∧ di G a ∧ di G b ∧ (Lv G s → ∀ A B, Wh s (sig A B) → (∃ U, Al G a U ∧ Conv U A) → O.vd (B.inst a) = true ∨ Gr O G b)
 | G, fst q => di G q
 | G, snd q => di G q
 | _, _ => True
theorem Ty.oZ (k : bR O) : ∀ {t : Tm} {G : List Tm} {A : Tm}, Wf G → Ty G t A → di O G t := by
 intro t
 induction t with
 | var n => intros; trivial
 | sort n => intros; trivial
 | nat => intros; trivial
 | zero => intros; trivial
 | pi a b ha hb => intro G A w h; obtain ⟨i, j, h1, h2, c⟩ := h.gen; exact ⟨ha w h1, fun _ => hb (.cons w h1) h2⟩
 | sig a b ha hb => intro G A w h; obtain ⟨i, j, h1, h2, c⟩ := h.gen; exact ⟨ha w h1, fun _ => hb (.cons w h1) h2⟩
 | lam a b ha hb => intro G A w h; obtain ⟨B, i, j, h1, h2, h3, c⟩ := h.gen; exact ⟨ha w h1, fun _ => hb (.cons w h1) h2⟩
 | app f u hf hu => intro G A w h; obtain ⟨X, Y, h1, h2, c⟩ := h.gen; exact ⟨hf w h1, fun _ => hu w h2⟩
 | succ n hn => intro G A w h; exact hn w h.gen.1
 | elim p z s n hp hz hs hn => intro G A w h; obtain ⟨i, h1, h2, h3, h4, c⟩ := h.gen; exact ⟨hp w h1, hz w h2, hs w h3, hn w h4, .inr fun g => kR k w h3⟩
 | id t a b ht ha hb => intro G A w h; obtain ⟨i, h1, h2, h3, c⟩ := h.gen; exact ⟨ht w h1, ha w h2, hb w h3⟩
 | refl a ha => intro G A w h; obtain ⟨X, i, h1, h2, c⟩ := h.gen; exact ha w h1
 | move p e x hp he hx => intro G A w h; obtain ⟨t, y, z, i, h1, h2, h3, c⟩ := h.gen; exact ⟨he w h1, hp w h2, hx w h3, fun _ _ _ _ _ _ _ => .inr fun g => kR k w h3⟩
 | pair s a b hs ha hb => intro G A w h; obtain ⟨X, Y, i, j, h1, r, hq, h2, h3, c⟩ := h.gen; exact ⟨hs w h1, ha w h2, hb w h3, fun _ _ _ _ _ => .inr fun g => kR k w h3⟩
 | fst q hq => intro G A w h; obtain ⟨X, Y, h1, c⟩ := h.gen; exact hq w h1
 | snd q hq => intro G A w h; obtain ⟨X, Y, h1, c⟩ := h.gen; exact hq w h1
def Tr (x : Option Rs) (f : Nat → Option Rs) : Prop := ∀ r, x = some r → Is f r
theorem Tr.const (r : Option Rs) : Tr r (fun _ => r) := fun s h => ⟨0, fun _ _ => h⟩
theorem Tr.sq {x : Option Rs} {f : Nat → Option Rs} {k : Tm → Option Rs} {l : Nat → Tm → Option Rs} (h : Tr x f) (hk : ∀ t, x = some (.ok t) → Tr (k t) (fun n => l n t)) : Tr (sq x k) (fun n => sq (f n) (l n)) := by
 intro r e
 cases x with
 | none => cases e
 | some s =>
  have hs := h s rfl
  cases s with
  | ok t => exact hs.bind (hk t rfl r e)
  | bad => cases e; exact hs.bad
  | opn => cases e; exact hs.opn
theorem Tr.frm {x : Option Rs} {f : Nat → Option Rs} (h : Tr x f) : Tr (frm O x) (fun n => frm O (f n)) := h.sq fun _ _ => .const _
theorem Tr.lvl {x : Option Rs} {f : Nat → Option Rs} (h : Tr x f) : Tr (lvl O x) (fun n => lvl O (f n)) := h.frm.sq fun _ _ => .const _
theorem Tr.chk {x : Option Rs} {f : Nat → Option Rs} (h : Tr x f) (w : Tm) : Tr (chk O x w) (fun n => chk O (f n) w) := h.sq fun _ _ => .const _
theorem Tr.fam {x : Option Rs} {f : Nat → Option Rs} (h : Tr x f) (w : Tm) : Tr (fam O x w) (fun n => fam O (f n) w) := h.frm.sq fun _ _ => .const _
theorem aZ (x : Option Rs) (k l : Tm → Option Rs) : sq (sq x k) l = sq x fun t => sq (k t) l := by
 cases x with
 | none => rfl
 | some r => cases r <;> rfl
theorem Tr.gate (k : bR O) {x : Option Rs} {f : Nat → Option Rs} {kk : Tm → Option Rs} {l : Nat → Tm → Option Rs} (w : Tm) (h : Tr x f) (hb : O.vd w = true ∨ Nb x) (hk : ∀ t, Tr (kk t) (fun n => l n t)) :
   Tr (Tm.sq (Tm.chk O x w) kk) (fun n => Tm.sq (made O w) fun w' => Tm.sq (Tm.chk O (f n) w') (l n)) := by
 by_cases v : O.vd w = true
 ·have e : made O w = some (.ok w) := by unfold made; rw [if_pos v]
  intro r q
  obtain ⟨N, hr⟩ := ((h.chk w).sq fun t _ => hk t) r q
  exact ⟨N, fun n hn => by show Tm.sq (made O w) _ = _; rw [e]; exact hr n hn⟩
 ·have v' : O.vd w = false := by simpa using v
  have e : made O w = some .opn := by unfold made; rw [if_neg v]
  intro r q
  have nb := hb.resolve_left v
  have : r = .opn := by
   cases x with
   | none => cases q
   | some s => cases s with
    | ok t =>
     have e2 : Tm.chk O (some (.ok t)) w = some .opn := by show some (O.sm t w) = _; rw [k.sm_inv v']
     rw [e2] at q; cases q; rfl
    | bad => exact absurd rfl nb
    | opn => cases q; rfl
  subst this
  exact ⟨0, fun n _ => by show Tm.sq (made O w) _ = _; rw [e]; rfl⟩
theorem Kc {G : List Tm} {t : Tm} {r : Rs} (h : Is (fun n => kI O (inI O n) G t) r) : Is (fun n => inI O n G t) r := by
 obtain ⟨N, hr⟩ := h
 exact ⟨N + 1, fun n hn => by obtain ⟨m, rfl⟩ : ∃ m, n = m + 1 := ⟨n - 1, by omega⟩; exact hr m (by omega)⟩
theorem Gn (k : bR O) : ∀ (g : Nat) {G : List Tm} {t : Tm}, Wf G → G.length ≤ 20 → O.vd t = true → di O G t → Tr (inS O g G t) (fun n => inI O n G t)
 | 0, G, t, w, hl, v, fi => fun r h => by cases h
 | g + 1, G, t, w, hl, v, fi => by
  intro r h
  apply Kc
  revert r
  show Tr (inS O (g + 1) G t) _
  rw [inS, if_neg (by rw [v]; simp; omega)]
  have ih : ∀ {t}, O.vd t = true → di O G t → Tr (inS O g G t) (fun n => inI O n G t) := fun v f => Gn k g w hl v f
  have lw : ∀ {a h}, lvl O (inS O g G a) = some (.ok h) → Wf (a :: G) ∧ Lv G a := fun e => by
   obtain ⟨s, i, e', rfl, r⟩ := gm k e
   exact ⟨.cons w (((bB k e').1.sound w).lvl w r), _, _, (bB k e').1, r⟩
  have ex : ∀ {a b}, Wf (a :: G) → O.vd b = true → di O (a :: G) b → Tr (inS O g (a :: G) b) (fun n => ext (inI O n) G a b) := fun {a b} w' v f => by
   intro r h
   by_cases c : 20 ≤ G.length
   ·have : r = .opn := by
      cases g with
      | zero => cases h
      | succ g =>
       rw [inS, if_pos (.inr (by simp only [List.length_cons]; omega))] at h
       cases h; rfl
    subst this
    exact ⟨0, fun n _ => by show ext (inI O n) G a b = _; rw [ext, if_pos c]⟩
   ·obtain ⟨N, hr⟩ := Gn k g (G := a :: G) w' (by simp only [List.length_cons]; omega) v f r h
    exact ⟨N, fun n hn => by show ext (inI O n) G a b = _; rw [ext, if_neg c]; exact hr n hn⟩
  have ls : ∀ {x h}, lvl O x = some (.ok h) → ∃ i, h = sort i ∧ i ≤ 3 := fun {x h} e => by
   obtain ⟨s, e1, e2⟩ := aG e
   obtain ⟨u, e3, e4⟩ := aG e1
   have := (k.hn_ok (Option.some.inj e4)).2.2
   split at e2
   ·cases e2; exact ⟨_, rfl, k.v_sort.1 this⟩
   ·cases e2
  have ms : ∀ {i}, i ≤ 3 → made O (sort i) = some (.ok (sort i)) := fun h => by unfold made; rw [if_pos (k.v_sort.2 h)]
  have bd : ∀ {a b}, O.vd a = true → O.vd b = true → di O G a → (Lv G a → Wf (a :: G) → di O (a :: G) b) →
     Tr (sq (bnd O (inS O g) G a b) (made O)) (fun n => sq (lvl O (inI O n G a)) fun i => sq (lvl O (ext (inI O n) G a b)) fun j => some (.ok (sort (max (lv i) (lv j))))) := by
   intro a b va vb fa fb
   unfold bnd
   rw [aZ]
   refine (ih va fa).lvl.sq fun i ei => ?_
   rw [aZ]
   obtain ⟨w', l'⟩ := lw ei
   refine (ex w' vb (fb l' w')).lvl.sq fun j ej => ?_
   obtain ⟨i', rfl, hi⟩ := ls ei
   obtain ⟨j', rfl, hj⟩ := ls ej
   show Tr (made O (sort (max i' j'))) _
   rw [ms (by omega)]
   exact .const _
  have bd0 : ∀ {a b}, O.vd a = true → O.vd b = true → di O G a → (Lv G a → Wf (a :: G) → di O (a :: G) b) →
     Tr (bnd O (inS O g) G a b) (fun n => inI O n G (pi a b)) := by
   intro a b va vb fa fb r h
   apply Kc
   have h2 : sq (bnd O (inS O g) G a b) (made O) = some r := by
    rw [h]
    cases r with
    | ok x =>
     obtain ⟨i, e1, e2⟩ := aG h
     obtain ⟨j, e3, e4⟩ := aG e2
     obtain ⟨i', rfl, hi⟩ := ls e1
     obtain ⟨j', rfl, hj⟩ := ls e3
     cases e4
     exact ms (by show max i' j' ≤ 3; omega)
    | bad => rfl
    | opn => rfl
   exact bd va vb fa fb r h2
  cases t with
  | var n =>
   show Tr (sq (match look G n with | some A => some (Rs.ok A) | none => some Rs.bad) (made O)) (fun _ => match look G n with | some A => made O A | none => some Rs.bad)
   cases look G n with
   | none => exact .const _
   | some A => exact .const (made O A)
  | sort n =>
   have hn := k.v_sort.1 v
   show Tr (sq (some (if n < 3 then Rs.ok (sort (n + 1)) else Rs.bad)) (made O)) (fun _ => some (if n < 3 then Rs.ok (sort (n + 1)) else Rs.bad))
   by_cases c : n < 3
   ·rw [if_pos c]
    show Tr (made O (sort (n + 1))) _
    rw [ms (by omega)]; exact .const _
   ·rw [if_neg c]; exact .const _
  | pi a b => exact bd (k.v_pi v).1 (k.v_pi v).2 fi.1 fun l _ => fi.2 l
  | sig a b => exact bd (k.v_sig v).1 (k.v_sig v).2 fi.1 fun l _ => fi.2 l
  | lam a b =>
   show Tr (sq (sq (lvl O (inS O g G a)) fun _ => sq (inS O g (a :: G) b) fun B => sq (bnd O (inS O g) G a B) fun _ => some (.ok (pi a B))) (made O)) _
   rw [aZ]
   refine (ih (k.v_lam v).1 fi.1).lvl.sq fun i ei => ?_
   obtain ⟨w', l'⟩ := lw ei
   rw [aZ]
   refine (ex w' (k.v_lam v).2 (fi.2 l')).sq fun B eB => ?_
   obtain ⟨aB, vB⟩ := bB k eB
   have tB := aB.sound w'
   have sB : B = sort 3 ∨ ∃ j, Ty (a :: G) B (sort j) := tB.valid w'
   have fB : di O (a :: G) B := by
    rcases sB with rfl | ⟨j, hj⟩
    ·trivial
    ·exact hj.oZ k w'
   rw [aZ]
   by_cases c : O.vd (pi a B) = true
   ·have e : made O (pi a B) = some (.ok (pi a B)) := by unfold made; rw [if_pos c]
    show Tr (sq (bnd O (inS O g) G a B) fun _ => made O (pi a B)) (fun n => sq (made O (pi a B)) fun P => sq (inI O n G P) fun _ => some (.ok P))
    rw [e]
    exact (bd0 (k.v_lam v).1 vB fi.1 fun _ _ => fB).sq fun _ _ => .const _
   ·have e : made O (pi a B) = some .opn := by unfold made; rw [if_neg c]
    show Tr (sq (bnd O (inS O g) G a B) fun _ => made O (pi a B)) (fun n => sq (made O (pi a B)) fun P => sq (inI O n G P) fun _ => some (.ok P))
    rw [e]
    intro r h
    have nb : Nb (bnd O (inS O g) G a B) := by
     refine Nb.sq (fun h => by rw [ei] at h; cases h) fun _ _ => ?_
     rcases sB with rfl | ⟨j, hj⟩
     ·exact absurd (k.v_lam3 v) c
     ·have p : Part O (a :: G) (sort j) (inS O g (a :: G) B) := ⟨kR k w' hj, fun e => ((bB k e).1.sound w').uniq hj⟩
      exact (p.lvl k).sq fun _ _ => ij _
    have : r = .opn := by
     cases hx : bnd O (inS O g) G a B with
     | none => rw [hx] at h; cases h
     | some s => cases s with
      | ok t => rw [hx] at h; cases h; rfl
      | bad => exact absurd hx nb
      | opn => rw [hx] at h; cases h; rfl
    subst this
    exact .const _
  | app f u =>
   show Tr (sq (sq (frm O (inS O g G f)) fun F => match F with
    | pi C B => sq (chk O (inS O g G u) C) fun _ => some (.ok (B.inst u))
    | _ => some .bad) (made O)) _
   rw [aZ]
   refine (ih (k.v_app v).1 fi.1).frm.sq fun F eF => ?_
   cases F <;> first
    | exact .const _
    | (rename_i C B
       obtain ⟨S, e3, w'⟩ := ix k eF
       show Tr (sq (sq (chk O (inS O g G u) C) fun _ => some (.ok (B.inst u))) (made O)) _
       rw [aZ]
       exact ((ih (k.v_app v).2 (fi.2 ⟨_, _, _, (bB k e3).1, w'⟩)).chk C).sq fun _ _ => .const (made O (B.inst u)))
  | nat =>
   intro r h
   ·have : made O (sort 0) = some r := h
    rw [ms (by omega)] at this
    exact (Tr.const (some (.ok (sort 0)))) r this
  | zero =>
   intro r h
   ·have : made O nat = some r := h
    unfold made at this
    rw [if_pos k.v_nat] at this
    exact (Tr.const (some (.ok nat))) r this
  | succ n =>
   show Tr (sq (sq (chk O (inS O g G n) nat) fun _ => some (.ok nat)) (made O)) _
   rw [aZ]
   refine ((ih (k.v_succ v) fi).chk nat).sq fun _ _ => ?_
   show Tr (made O nat) _
   unfold made
   rw [if_pos k.v_nat]
   exact .const _
  | elim p z s n =>
   obtain ⟨v1, v2, v3, v4, v5⟩ := k.v_elim v
   obtain ⟨f1, f2, f3, f4, f5⟩ := fi
   show Tr (sq (sq (fam O (inS O g G p) nat) fun _ => sq (chk O (inS O g G z) (app p zero)) fun _ => sq (chk O (inS O g G s) (aW p)) fun _ => sq (chk O (inS O g G n) nat) fun _ => some (.ok (app p n))) (made O)) _
   rw [aZ]
   refine ((ih v1 f1).fam nat).sq fun _ _ => ?_
   rw [aZ]
   refine (ih v2 f2).gate k _ (.inl v5) fun _ => ?_
   rw [aZ]
   refine (ih v3 f3).gate k _ (f5.imp (fun h => h) (fun h => h g)) fun _ => ?_
   rw [aZ]
   exact ((ih v4 f4).chk nat).sq fun _ _ => .const (made O (app p n))
  | id t a b =>
   obtain ⟨v1, v2, v3⟩ := k.v_id v
   obtain ⟨f1, f2, f3⟩ := fi
   show Tr (sq (sq (lvl O (inS O g G t)) fun i => sq (chk O (inS O g G a) t) fun _ => sq (chk O (inS O g G b) t) fun _ => some (.ok i)) (made O)) _
   rw [aZ]
   refine (ih v1 f1).lvl.sq fun i ei => ?_
   rw [aZ]
   refine ((ih v2 f2).chk t).sq fun _ _ => ?_
   rw [aZ]
   refine ((ih v3 f3).chk t).sq fun _ _ => ?_
   obtain ⟨i', rfl, hi⟩ := ls ei
   show Tr (made O (sort i')) _
   rw [ms hi]
   exact .const _
  | refl a =>
   show Tr (sq (sq (inS O g G a) fun A => sq (lvl O (inS O g G A)) fun _ => some (.ok (id A a a))) (made O)) _
   rw [aZ]
   refine (ih (k.v_refl v) fi).sq fun A eA => ?_
   obtain ⟨aA, vA⟩ := bB k eA
   have tA := aA.sound w
   have fA : di O G A := by
    rcases tA.valid w with rfl | ⟨j, hj⟩
    ·trivial
    ·exact hj.oZ k w
   rw [aZ]
   exact (ih vA fA).lvl.sq fun _ _ => .const (made O (id A a a))
  | move p e x =>
   obtain ⟨v1, v2, v3⟩ := k.v_move v
   obtain ⟨f1, f2, f3, f4⟩ := fi
   show Tr (sq (sq (frm O (inS O g G e)) fun E => match E with
    | id t y z => sq (fam O (inS O g G p) t) fun _ => sq (chk O (inS O g G x) (app p y)) fun _ => some (.ok (app p z))
    | _ => some .bad) (made O)) _
   rw [aZ]
   refine (ih v2 f1).frm.sq fun F eF => ?_
   cases F <;> first
    | exact .const _
    | (rename_i t y z
       obtain ⟨S, e3, w'⟩ := ix k eF
       show Tr (sq (sq (fam O (inS O g G p) t) fun _ => sq (chk O (inS O g G x) (app p y)) fun _ => some (.ok (app p z))) (made O)) _
       rw [aZ]
       refine ((ih v1 f2).fam t).sq fun q eq => ?_
       obtain ⟨P, C, D, i, e4, w2, c, w3⟩ := uz k eq
       rw [aZ]
       refine (ih v3 f3).gate k _ ((f4 _ _ _ _ (bB k e3).1 w' ⟨P, C, D, i, (bB k e4).1, w2, c, w3⟩).imp (fun h => h) (fun h => h g)) fun _ => ?_
       exact .const (made O (app p z)))
  | pair s a b =>
   obtain ⟨v1, v2, v3⟩ := k.v_pair v
   obtain ⟨f1, f2, f3, f4⟩ := fi
   show Tr (sq (sq (lvl O (inS O g G s)) fun _ => sq (some (O.hn s)) fun h => match h with
    | sig A B => sq (chk O (inS O g G a) A) fun _ => sq (chk O (inS O g G b) (B.inst a)) fun _ => some (.ok s)
    | _ => some .bad) (made O)) _
   rw [aZ]
   refine (ih v1 f1).lvl.sq fun _ es => ?_
   rw [aZ]
   refine (Tr.const (some (O.hn s))).sq fun F eF => ?_
   have wF := (k.hn_ok (Option.some.inj eF)).1
   cases F <;> first
    | exact .const _
    | (rename_i A B
       show Tr (sq (sq (chk O (inS O g G a) A) fun _ => sq (chk O (inS O g G b) (B.inst a)) fun _ => some (.ok s)) (made O)) (fun n => sq (chk O (inI O n G a) A) fun _ => sq (made O (B.inst a)) fun w => sq (chk O (inI O n G b) w) fun _ => some (.ok s))
       rw [aZ]
       refine ((ih v2 f2).chk A).sq fun q eq => ?_
       obtain ⟨U, e4, c⟩ := df k eq
       rw [aZ]
       refine (ih v3 f3).gate k _ ((f4 (lw es).2 _ _ wF ⟨U, (bB k e4).1, c⟩).imp (fun h => h) (fun h => h g)) fun _ => ?_
       have e : made O s = some (.ok s) := by unfold made; rw [if_pos v1]
       show Tr (made O s) _
       rw [e]; exact .const _)
  | fst q =>
   show Tr (sq (sq (frm O (inS O g G q)) fun Q => match Q with
    | sig A B => some (.ok A)
    | _ => some .bad) (made O)) _
   rw [aZ]
   refine (ih (k.v_fst v) fi).frm.sq fun F eF => ?_
   obtain ⟨S, e3, e4⟩ := aG eF
   have vF := (k.hn_ok (Option.some.inj e4)).2.2
   cases F <;> first
    | exact .const _
    | (rename_i A B
       have e : made O A = some (.ok A) := by unfold made; rw [if_pos (k.v_sig vF).1]
       show Tr (made O A) _
       rw [e]; exact .const _)
  | snd q =>
   show Tr (sq (sq (frm O (inS O g G q)) fun Q => match Q with
    | sig A B => some (.ok (B.inst (fst q)))
    | _ => some .bad) (made O)) _
   rw [aZ]
   refine (ih (k.v_snd v) fi).frm.sq fun F eF => ?_
   cases F <;> first
    | exact .const _
    | (rename_i A B; exact .const (made O (B.inst (fst q))))
theorem u7 (k : bR O) {G : List Tm} {t : Tm} (w : Wf G) (hl : G.length ≤ 20) (v : O.vd t = true) (f : di O G t) : ∃ r, Is (fun n => inS O n G t) r ∧ Is (fun n => inI O n G t) r := by
 obtain ⟨r, N, h⟩ := CC k w t
 exact ⟨r, ⟨N, h⟩, Gn k N w hl v f r (h N (Nat.le_refl N))⟩
end Tm
end Go.Proofs.YtajlknlnmmbfcaaGreat
end
section
namespace Go.Proofs.YtajlknlnmmbfcaaGreat
namespace Tm
variable {O : Orc}
theorem CP {I : List Tm → Tm → Option Rs} {G : List Tm} {a b A : Tm} (h : ext I G a b = some (.ok A)) : I (a :: G) b = some (.ok A) := by
 unfold ext at h
 split at h
 ·cases h
 ·exact h
theorem cw (k : bR O) : ∀ {g : Nat} {G : List Tm} {t A : Tm}, inI O g G t = some (.ok A) → Al G t A
 | 0, _, _, _, h => by cases h
 | g + 1, G, t, A, h => by
  rw [inI] at h
  have bd : ∀ {a b h}, (sq (lvl O (inI O g G a)) fun i => sq (lvl O (ext (inI O g) G a b)) fun j => some (.ok (sort (max (lv i) (lv j))))) = some (.ok h) → ∃ S R i j, Al G a S ∧ Wh S (sort i) ∧ Al (a :: G) b R ∧ Wh R (sort j) ∧ h = sort (max i j) := by
   intro a b h e
   obtain ⟨x, e1, e2⟩ := aG e
   obtain ⟨y, e3, e4⟩ := aG e2
   obtain ⟨S, i, f1, rfl, w1⟩ := gm k e1
   obtain ⟨R, j, f2, rfl, w2⟩ := gm k e3
   cases e4
   exact ⟨S, R, i, j, cw k f1, w1, cw k (CP f2), w2, rfl⟩
  cases t with
  | var n =>
   simp only [kI] at h
   split at h
   ·obtain ⟨rfl, _⟩ := bO h; exact .var ‹_›
   ·cases h
  | sort n =>
   simp only [kI, Option.some.injEq] at h
   split at h
   ·cases h; exact .sort ‹_›
   ·cases h
  | pi a b => obtain ⟨S, R, i, j, h1, w1, h2, w2, rfl⟩ := bd h; exact .pi h1 w1 h2 w2
  | sig a b => obtain ⟨S, R, i, j, h1, w1, h2, w2, rfl⟩ := bd h; exact .sig h1 w1 h2 w2
  | lam a b =>
   obtain ⟨x, e1, e2⟩ := aG h
   obtain ⟨B, e3, e4⟩ := aG e2
   obtain ⟨y, e5, e6⟩ := aG e4
   obtain ⟨rfl, v⟩ := bO e5
   obtain ⟨z, e7, e8⟩ := aG e6
   cases e8
   cases cw k e7 with
   | pi h1 w1 h2 w2 => exact .lam h1 w1 (cw k (CP e3)) h2 w2
  | app f u =>
   obtain ⟨F, e1, e2⟩ := aG h
   obtain ⟨S, e3, w⟩ := ix k e1
   split at e2
   ·obtain ⟨x, e4, e5⟩ := aG e2
    obtain ⟨U, e6, c⟩ := df k e4
    obtain ⟨rfl, _⟩ := bO e5
    exact .app (cw k e3) w (cw k e6) c
   ·cases e2
  | nat => cases h; exact .nat
  | zero => cases h; exact .zero
  | succ n =>
   obtain ⟨x, e1, e2⟩ := aG h
   obtain ⟨U, e6, c⟩ := df k e1
   cases e2
   exact .succ (cw k e6) c
  | elim p z s n =>
   obtain ⟨x, e1, e2⟩ := aG h
   obtain ⟨P, C, D, i, f1, w, c, v⟩ := uz k e1
   obtain ⟨x, m1, e2⟩ := aG e2
   obtain ⟨rfl, _⟩ := bO m1
   obtain ⟨x, e3, e4⟩ := aG e2
   obtain ⟨Z, f2, c2⟩ := df k e3
   obtain ⟨x, m2, e4⟩ := aG e4
   obtain ⟨rfl, _⟩ := bO m2
   obtain ⟨x, e5, e6⟩ := aG e4
   obtain ⟨S, f3, c3⟩ := df k e5
   obtain ⟨x, e7, e8⟩ := aG e6
   obtain ⟨N, f4, c4⟩ := df k e7
   obtain ⟨rfl, _⟩ := bO e8
   exact .elim (cw k f1) w c v (cw k f2) c2 (cw k f3) c3 (cw k f4) c4
  | id t a b =>
   obtain ⟨x, e1, e2⟩ := aG h
   obtain ⟨S, i, f1, rfl, w⟩ := gm k e1
   obtain ⟨x, e3, e4⟩ := aG e2
   obtain ⟨Z, f2, c2⟩ := df k e3
   obtain ⟨x, e5, e6⟩ := aG e4
   obtain ⟨S, f3, c3⟩ := df k e5
   cases e6
   exact .id (cw k f1) w (cw k f2) c2 (cw k f3) c3
  | refl a =>
   obtain ⟨B, e1, e2⟩ := aG h
   obtain ⟨x, e3, e4⟩ := aG e2
   obtain ⟨S, i, f1, rfl, w⟩ := gm k e3
   obtain ⟨rfl, _⟩ := bO e4
   exact .refl (cw k e1) (cw k f1) w
  | move p e x =>
   obtain ⟨F, e1, e2⟩ := aG h
   obtain ⟨S, e3, w⟩ := ix k e1
   split at e2
   ·obtain ⟨x, e4, e5⟩ := aG e2
    obtain ⟨P, C, D, i, f1, w2, c, v⟩ := uz k e4
    obtain ⟨x, m1, e5⟩ := aG e5
    obtain ⟨rfl, _⟩ := bO m1
    obtain ⟨x, e6, e7⟩ := aG e5
    obtain ⟨U, e8, c2⟩ := df k e6
    obtain ⟨rfl, _⟩ := bO e7
    exact .move (cw k e3) w (cw k f1) w2 c v (cw k e8) c2
   ·cases e2
  | pair s a b =>
   obtain ⟨x, e1, e2⟩ := aG h
   obtain ⟨S, i, f1, rfl, w⟩ := gm k e1
   obtain ⟨H, e3, e4⟩ := aG e2
   have w2 := (k.hn_ok (Option.some.inj e3)).1
   split at e4
   ·obtain ⟨x, e5, e6⟩ := aG e4
    obtain ⟨Z, f2, c2⟩ := df k e5
    obtain ⟨x, m1, e6⟩ := aG e6
    obtain ⟨rfl, _⟩ := bO m1
    obtain ⟨x, e7, e8⟩ := aG e6
    obtain ⟨S, f3, c3⟩ := df k e7
    cases e8
    exact .pair (cw k f1) w w2 (cw k f2) c2 (cw k f3) c3
   ·cases e4
  | fst q =>
   obtain ⟨F, e1, e2⟩ := aG h
   obtain ⟨S, e3, w⟩ := ix k e1
   split at e2
   ·cases e2; exact .fst (cw k e3) w
   ·cases e2
  | snd q =>
   obtain ⟨F, e1, e2⟩ := aG h
   obtain ⟨S, e3, w⟩ := ix k e1
   split at e2
   ·obtain ⟨rfl, _⟩ := bO e2; exact .snd (cw k e3) w
   ·cases e2
theorem CT (k : bR O) : ∀ {g : Nat} {G : List Tm} {t A : Tm}, O.vd t = true → inI O g G t = some (.ok A) → O.vd A = true
 | 0, _, _, _, _, h => by cases h
 | g + 1, G, t, A, v, h => by
  rw [inI] at h
  have ls : ∀ {x h}, lvl O x = some (.ok h) → ∃ i, h = sort i ∧ i ≤ 3 := fun {x h} e => by
   obtain ⟨s, e1, e2⟩ := aG e
   obtain ⟨u, e3, e4⟩ := aG e1
   have := (k.hn_ok (Option.some.inj e4)).2.2
   split at e2
   ·cases e2; exact ⟨_, rfl, k.v_sort.1 this⟩
   ·cases e2
  have bd : ∀ {a b h}, (sq (lvl O (inI O g G a)) fun i => sq (lvl O (ext (inI O g) G a b)) fun j => some (.ok (sort (max (lv i) (lv j))))) = some (.ok h) → O.vd h = true := by
   intro a b h e
   obtain ⟨x, e1, e2⟩ := aG e
   obtain ⟨y, e3, e4⟩ := aG e2
   obtain ⟨i, rfl, hi⟩ := ls e1
   obtain ⟨j, rfl, hj⟩ := ls e3
   cases e4
   exact k.v_sort.2 (by show max i j ≤ 3; omega)
  cases t with
  | var n =>
   simp only [kI] at h
   split at h
   ·obtain ⟨rfl, w⟩ := bO h; exact w
   ·cases h
  | sort n =>
   simp only [kI, Option.some.injEq] at h
   split at h
   ·cases h; exact k.v_sort.2 (by omega)
   ·cases h
  | pi a b => exact bd h
  | sig a b => exact bd h
  | lam a b =>
   obtain ⟨x, e1, e2⟩ := aG h
   obtain ⟨B, e3, e4⟩ := aG e2
   obtain ⟨y, e5, e6⟩ := aG e4
   obtain ⟨rfl, w⟩ := bO e5
   obtain ⟨z, e7, e8⟩ := aG e6
   cases e8; exact w
  | app f u =>
   obtain ⟨F, e1, e2⟩ := aG h
   split at e2
   ·obtain ⟨x, e4, e5⟩ := aG e2
    obtain ⟨rfl, w⟩ := bO e5; exact w
   ·cases e2
  | nat => cases h; exact k.v_sort.2 (by omega)
  | zero => cases h; exact k.v_nat
  | succ n =>
   obtain ⟨x, e1, e2⟩ := aG h
   cases e2; exact k.v_nat
  | elim p z s n =>
   obtain ⟨x, e1, e2⟩ := aG h
   obtain ⟨x, m1, e2⟩ := aG e2
   obtain ⟨x, e3, e4⟩ := aG e2
   obtain ⟨x, m2, e4⟩ := aG e4
   obtain ⟨x, e5, e6⟩ := aG e4
   obtain ⟨x, e7, e8⟩ := aG e6
   obtain ⟨rfl, w⟩ := bO e8; exact w
  | id t a b =>
   obtain ⟨x, e1, e2⟩ := aG h
   obtain ⟨i, rfl, hi⟩ := ls e1
   obtain ⟨x, e3, e4⟩ := aG e2
   obtain ⟨x, e5, e6⟩ := aG e4
   cases e6; exact k.v_sort.2 hi
  | refl a =>
   obtain ⟨B, e1, e2⟩ := aG h
   obtain ⟨x, e3, e4⟩ := aG e2
   obtain ⟨rfl, w⟩ := bO e4; exact w
  | move p e x =>
   obtain ⟨F, e1, e2⟩ := aG h
   split at e2
   ·obtain ⟨x, e4, e5⟩ := aG e2
    obtain ⟨x, m1, e5⟩ := aG e5
    obtain ⟨x, e6, e7⟩ := aG e5
    obtain ⟨rfl, w⟩ := bO e7; exact w
   ·cases e2
  | pair s a b =>
   obtain ⟨x, e1, e2⟩ := aG h
   obtain ⟨H, e3, e4⟩ := aG e2
   split at e4
   ·obtain ⟨x, e5, e6⟩ := aG e4
    obtain ⟨x, m1, e6⟩ := aG e6
    obtain ⟨x, e7, e8⟩ := aG e6
    cases e8; exact (k.v_pair v).1
   ·cases e4
  | fst q =>
   obtain ⟨F, e1, e2⟩ := aG h
   obtain ⟨u, e3, e4⟩ := aG e1
   have := (k.hn_ok (Option.some.inj e4)).2.2
   split at e2
   ·cases e2; exact (k.v_sig this).1
   ·cases e2
  | snd q =>
   obtain ⟨F, e1, e2⟩ := aG h
   split at e2
   ·obtain ⟨rfl, w⟩ := bO e2; exact w
   ·cases e2
theorem fw {G : List Tm} {t : Tm} (h : Ends fun n => kI O (inI O n) G t) : Ends fun n => inI O n G t :=
 let ⟨r, h⟩ := h
 ⟨r, Kc h⟩
theorem Da (k : bR O) {G : List Tm} {t A : Tm} (h : Is (fun n => inI O n G t) (.ok A)) : Al G t A := by
 obtain ⟨N, h⟩ := h
 exact cw k (h N (Nat.le_refl N))
theorem qI (k : bR O) {G : List Tm} {t A : Tm} (w : Wf G) (h : Is (fun n => lvl O (inI O n G t)) (.ok A)) : Wf (t :: G) := by
 obtain ⟨N, h⟩ := h
 obtain ⟨s, i, e, rfl, r⟩ := gm k (h N (Nat.le_refl N))
 exact .cons w (((cw k e).sound w).lvl w r)
theorem Ends.made (t : Tm) : Ends fun _ => made O t := .of
theorem CU (k : bR O) {G : List Tm} (w : Wf G) (hl : G.length < 20 → ∀ A, Wf (A :: G) → ∀ t, Ends fun n => inI O n (A :: G) t) : Clo (fun t => Ends fun n => inI O n G t) G := by
 have hx : ∀ a b, Wf (a :: G) → Ends fun n => ext (inI O n) G a b := fun a b w' => by
  by_cases c : 20 ≤ G.length
  ·exact ⟨.opn, 0, fun n _ => by show ext _ _ _ _ = _; rw [Tm.ext, if_pos c]⟩
  ·obtain ⟨r, N, h⟩ := hl (by omega) a w' b
   exact ⟨r, N, fun n hn => by show ext _ _ _ _ = _; rw [Tm.ext, if_neg c]; exact h n hn⟩
 have hp : ∀ {a b}, (Ends fun n => inI O n G a) → Ends fun n => inI O n G (pi a b) := fun h => fw (h.lvl.bind fun _ q => (hx _ _ (qI k w q)).lvl.bind fun _ _ => .of)
 exact {
  var := fun n => fw (by show Ends fun _ => match look G n with | some A => Tm.made O A | none => some Rs.bad; exact .const _ (by split <;> simp [Tm.made]))
  sort := fun n => fw .of
  nat := fw .of
  zero := fw .of
  succ := fun h => fw ((h.chk _).bind fun _ _ => .of)
  pi := hp
  sig := fun h => fw (h.lvl.bind fun _ q => (hx _ _ (qI k w q)).lvl.bind fun _ _ => .of)
  lam := fun {a b} h => fw (h.lvl.bind fun _ q => (hx _ _ (qI k w q)).bind fun B _ => (Ends.made _).bind fun P eP => by
   obtain ⟨N, eP⟩ := eP
   obtain ⟨rfl, _⟩ := bO (eP N (Nat.le_refl N))
   exact (hp h).bind fun _ _ => .of)
  app := fun h l => fw (h.frm.bind fun F _ => by cases F <;> first | exact (l.chk _).bind fun _ _ => .made _ | exact .of)
  elim := fun h l m o => fw ((h.fam _).bind fun _ _ => (Ends.made _).bind fun _ _ => (l.chk _).bind fun _ _ => (Ends.made _).bind fun _ _ => (m.chk _).bind fun _ _ => (o.chk _).bind fun _ _ => .made _)
  id := fun h l m => fw (h.lvl.bind fun _ _ => (l.chk _).bind fun _ _ => (m.chk _).bind fun _ _ => .of)
  refl := fun h l => fw (h.bind fun A q => (l A (Da k q)).lvl.bind fun _ _ => .made _)
  move := fun h l m => fw (l.frm.bind fun F _ => by cases F <;> first | exact (h.fam _).bind fun _ _ => (Ends.made _).bind fun _ _ => (m.chk _).bind fun _ _ => .made _ | exact .of)
  pair := fun h l m => fw (h.lvl.bind fun _ _ => Ends.bind .of fun F _ => by cases F <;> first | exact (l.chk _).bind fun _ _ => (Ends.made _).bind fun _ _ => (m.chk _).bind fun _ _ => .of | exact .of)
  fst := fun h => fw (h.frm.bind fun F _ => .const _ (by split <;> simp))
  snd := fun h => fw (h.frm.bind fun F _ => .const _ (by split <;> simp [Tm.made])) }
theorem yX (k : bR O) : ∀ (m : Nat) (G : List Tm), 20 ≤ G.length + m → Wf G → ∀ t, Ends fun n => inI O n G t
 | 0, G, h, w, t => (CU k w fun hl => absurd hl (by omega)).all w t
 | m + 1, G, h, w, t => (CU k w fun _ A w' => yX k m (A :: G) (by simp only [List.length_cons]; omega) w').all w t
theorem Hj (k : bR O) {G : List Tm} (w : Wf G) (t : Tm) : ∃ r, Is (fun n => inI O n G t) r := yX k 20 G (by omega) w t
theorem BM (k : bR O) {G : List Tm} {t A : Tm} (w : Wf G) (hl : G.length ≤ 20) (v : O.vd t = true) (h : Ty G t A) : ∃ r, Is (fun n => inI O n G t) r ∧ Is (fun n => inS O n G t) r ∧ r ≠ .bad ∧ ∀ B, r = .ok B → Ty G t B ∧ Conv B A := by
 obtain ⟨r, h1, h2⟩ := u7 k w hl v (h.oZ k w)
 refine ⟨r, h2, h1, ?_, ?_⟩
 ·obtain ⟨N, h1⟩ := h1
  have := h1 N (Nat.le_refl N)
  intro e; subst e
  exact kR k w h this
 ·intro B e; subst e
  have := (Da k h2).sound w
  exact ⟨this, this.uniq h⟩
end Tm
end Go.Proofs.YtajlknlnmmbfcaaGreat
end
section
namespace Go.Proofs.YtajlknlnmmbfcaaGreat
open Go Go.Dk
def of : Tm → T
 | .var n => .mk 1 n []
 | .sort n => .mk 2 n []
 | .pi a b => .mk 3 0 [of a, of b]
 | .lam a b => .mk 4 0 [of a, of b]
 | .app a b => .mk 5 0 [of a, of b]
 | .nat => .mk 6 0 []
 | .zero => .mk 7 0 []
 | .succ a => .mk 8 0 [of a]
 | .elim p z s n => .mk 9 0 [of p, of z, of s, of n]
 | .id t a b => .mk 10 0 [of t, of a, of b]
 | .refl a => .mk 11 0 [of a]
 | .move p e x => .mk 12 0 [of p, of e, of x]
 | .sig a b => .mk 13 0 [of a, of b]
 | .pair s a b => .mk 14 0 [of s, of a, of b]
 | .fst a => .mk 15 0 [of a]
 | .snd a => .mk 16 0 [of a]
theorem mo : ∀ {a b : Tm}, of a = of b → a = b := by
 intro a
 induction a <;> intro b h <;> cases b <;> simp_all [of] <;> grind
def shn (a c n : Nat) : Nat := if c ≤ n then n + a else n
theorem AR (a c : Nat) : Tm.up (shn a c) = shn a (c + 1) := by
 funext n; cases n with
 | zero => simp [Tm.up, shn]
 | succ n => simp only [Tm.up, shn]; split <;> split <;> omega
theorem Ah (a : Nat) : ∀ (t : Tm) (c : Nat), shT (a : Int) (of t) (c : Int) = of (t.ren (shn a c)) := by
 intro t
 induction t with
 | var n =>
  intro c
  simp only [of, Tm.ren, shT, shL, shn, true_and]
  by_cases h : c ≤ n
  ·rw [if_pos h, if_pos (by omega)]; rfl
  ·rw [if_neg h, if_neg (by omega)]
 | pi a b ha hb => intro c; simp only [of, Tm.ren, shT, shL, under, AR, ← ha, ← hb]; simp
 | lam a b ha hb => intro c; simp only [of, Tm.ren, shT, shL, under, AR, ← ha, ← hb]; simp
 | sig a b ha hb => intro c; simp only [of, Tm.ren, shT, shL, under, AR, ← ha, ← hb]; simp
 | _ => intro c; simp_all [of, Tm.ren, shT, shL, under]
theorem jn (a : Nat) : shn a 0 = (· + a) := by funext n; simp [shn]
theorem Jp (t : Tm) : shT 1 (of t) 0 = of t.wk := by
 have := Ah 1 t 0
 rw [jn] at this; exact this
def sbn (u : Tm) (c n : Nat) : Tm := if n < c then .var n else if n = c then u.ren (· + c) else .var (n - 1)
theorem wP (u : Tm) (c : Nat) : Tm.ups (sbn u c) = sbn u (c + 1) := by
 funext n; cases n with
 | zero => simp [Tm.ups, sbn]
 | succ n =>
  simp only [Tm.ups, sbn]
  by_cases h : n < c
  ·rw [if_pos h, if_pos (show n + 1 < c + 1 by omega)]; rfl
  ·rw [if_neg h, if_neg (show ¬ n + 1 < c + 1 by omega)]
   by_cases h2 : n = c
   ·rw [if_pos h2, if_pos (show n + 1 = c + 1 by omega), Tm.wk, Tm.ga]; rfl
   ·rw [if_neg h2, if_neg (show ¬ n + 1 = c + 1 by omega)]
    show Tm.var (n - 1 + 1) = Tm.var (n + 1 - 1)
    congr 1; omega
theorem Km (u : Tm) : ∀ (t : Tm) (c : Nat), sbT (of u) (of t) (c : Int) (c : Int) = of (t.sub (sbn u c)) := by
 intro t
 induction t with
 | var n =>
  intro c
  simp only [of, Tm.sub, sbT, sbL, sbn, true_and]
  by_cases h : n < c
  ·rw [if_pos h, if_neg (by omega), if_neg (by omega)]; rfl
  ·rw [if_neg h]
   by_cases h2 : n = c
   ·subst h2
    rw [if_pos rfl, if_pos rfl]
    have := Ah n u 0
    rw [jn] at this; exact this
   ·rw [if_neg h2, if_neg (by omega), if_pos (by omega)]
    simp only [of]; congr 1; omega
 | pi a b ha hb =>
  intro c
  have hb' := hb (c + 1)
  simp only [of, Tm.sub, sbT, sbL, under, wP, ← ha, ← hb']; simp
 | lam a b ha hb =>
  intro c
  have hb' := hb (c + 1)
  simp only [of, Tm.sub, sbT, sbL, under, wP, ← ha, ← hb']; simp
 | sig a b ha hb =>
  intro c
  have hb' := hb (c + 1)
  simp only [of, Tm.sub, sbT, sbL, under, wP, ← ha, ← hb']; simp
 | _ => intro c; simp_all [of, Tm.sub, sbT, sbL, under]
theorem DI (u : Tm) : sbn u 0 = Tm.sc u Tm.var := by
 funext n; cases n with
 | zero => exact Tm.me u
 | succ n => simp [sbn, Tm.sc]
theorem lL (b u : Tm) : sbT (of u) (of b) 0 0 = of (b.inst u) := by
 have := Km u b 0
 rw [DI] at this; exact this
theorem HZ {t u : Tm} (h : Tm.Par t u) : Par (of t) (of u) := by
 have c1 : ∀ {k n : Int} {a a' : T}, Par a a' → Par (.mk k n [a]) (.mk k n [a']) := fun h => .node (.cons h .nil)
 have c2 : ∀ {k n : Int} {a a' b b' : T}, Par a a' → Par b b' → Par (.mk k n [a, b]) (.mk k n [a', b']) := fun h k => .node (.cons h (.cons k .nil))
 have c3 : ∀ {k n : Int} {a a' b b' c c' : T}, Par a a' → Par b b' → Par c c' → Par (.mk k n [a, b, c]) (.mk k n [a', b', c']) := fun h k l => .node (.cons h (.cons k (.cons l .nil)))
 have c4 : ∀ {k n : Int} {a a' b b' c c' d d' : T}, Par a a' → Par b b' → Par c c' → Par d d' → Par (.mk k n [a, b, c, d]) (.mk k n [a', b', c', d']) := fun h k l m => .node (.cons h (.cons k (.cons l (.cons m .nil))))
 induction h with
 | var => exact Par.refl _
 | sort => exact Par.refl _
 | nat => exact Par.refl _
 | zero => exact Par.refl _
 | pi h k ih ik => exact c2 ih ik
 | lam h k ih ik => exact c2 ih ik
 | app h k ih ik => exact c2 ih ik
 | sig h k ih ik => exact c2 ih ik
 | succ h ih => exact c1 ih
 | refl h ih => exact c1 ih
 | fst h ih => exact c1 ih
 | snd h ih => exact c1 ih
 | id h k l ih ik il => exact c3 ih ik il
 | move h k l ih ik il => exact c3 ih ik il
 | pair h k l ih ik il => exact c3 ih ik il
 | elim h k l m ih ik il im => exact c4 ih ik il im
 | @beta a b b' u u' h k ih ik =>
  have := Par.red (k := 5) (n := 0) (.cons (c2 (k := 4) (n := 0) (Par.refl (of a)) ih) (.cons ik .nil)) (.app rfl rfl)
  rwa [fe rfl, show kd (kd (.mk 5 0 [.mk 4 0 [of a, of b'], of u']) 0) 1 = of b' from rfl, show kd (.mk 5 0 [.mk 4 0 [of a, of b'], of u']) 1 = of u' from rfl, lL] at this
 | @ezero p z z' s h ih =>
  have := Par.red (k := 9) (n := 0) (.cons (Par.refl (of p)) (.cons ih (.cons (Par.refl (of s)) (.cons (Par.refl (.mk 7 0 [])) .nil)))) (.zero rfl rfl)
  rwa [dE rfl rfl] at this
 | @esucc p p' z z' s s' n n' h k l m ih ik il im =>
  have := Par.red (k := 9) (n := 0) (.cons ih (.cons ik (.cons il (.cons (c1 (k := 8) (n := 0) im) .nil)))) (.succ rfl rfl)
  rwa [dD rfl rfl] at this
 | @mrefl p a x x' h ih =>
  have := Par.red (k := 12) (n := 0) (.cons (Par.refl (of p)) (.cons (Par.refl (.mk 11 0 [of a])) (.cons ih .nil))) (.move rfl rfl)
  rwa [dp rfl] at this
 | @fpair t a a' b h ih =>
  have := Par.red (k := 15) (n := 0) (.cons (c3 (k := 14) (n := 0) (Par.refl (of t)) ih (Par.refl (of b))) .nil) (.fst rfl rfl)
  rwa [fg rfl] at this
 | @spair t a b b' h ih =>
  have := Par.red (k := 16) (n := 0) (.cons (c3 (k := 14) (n := 0) (Par.refl (of t)) (Par.refl (of a)) ih) .nil) (.snd rfl rfl)
  rwa [fj rfl] at this
theorem FZ {t u : Tm} (h : Tm.Red t u) : Red (of t) (of u) := by
 induction h with
 | nil => exact .refl
 | cons h _ ih => exact .step (HZ h) ih
theorem fY.one {a : T} {us : List T} (h : fY [a] us) : ∃ a', us = [a'] ∧ Par a a' := by
 cases h with | cons h hs => cases hs; exact ⟨_, rfl, h⟩
theorem fY.two {a b : T} {us : List T} (h : fY [a, b] us) : ∃ a' b', us = [a', b'] ∧ Par a a' ∧ Par b b' := by
 cases h with | cons h hs => obtain ⟨b', rfl, h2⟩ := hs.one; exact ⟨_, _, rfl, h, h2⟩
theorem fY.three {a b c : T} {us : List T} (h : fY [a, b, c] us) : ∃ a' b' c', us = [a', b', c'] ∧ Par a a' ∧ Par b b' ∧ Par c c' := by
 cases h with | cons h hs => obtain ⟨b', c', rfl, h2⟩ := hs.two; exact ⟨_, _, _, rfl, h, h2⟩
theorem fY.four {a b c d : T} {us : List T} (h : fY [a, b, c, d] us) : ∃ a' b' c' d', us = [a', b', c', d'] ∧ Par a a' ∧ Par b b' ∧ Par c c' ∧ Par d d' := by
 cases h with | cons h hs => obtain ⟨b', c', d', rfl, h2⟩ := hs.three; exact ⟨_, _, _, _, rfl, h, h2⟩
theorem gE (t : Tm) : (of t).k = match t with
   | .var _ => 1 | .sort _ => 2 | .pi .. => 3 | .lam .. => 4 | .app .. => 5 | .nat => 6 | .zero => 7 | .succ _ => 8 | .elim .. => 9 | .id .. => 10 | .refl _ => 11 | .move .. => 12 | .sig .. => 13 | .pair .. => 14 | .fst _ => 15 | .snd _ => 16 := by
 cases t <;> rfl
theorem Jl : ∀ {t : Tm} {x : T}, Par (of t) x → ∃ u, x = of u ∧ Tm.Par t u := by
 intro t
 have no : ∀ {k n : Int} {ts : List T}, Rx (.mk k n ts) → k ≠ 5 → k ≠ 9 → k ≠ 12 → k ≠ 15 → k ≠ 16 → False := fun h h1 h2 h3 h4 h5 => by
  have := h.k; simp only [T.k] at this; omega
 induction t with
 | var n => intro x h; cases h with
  | node h => cases h; exact ⟨.var n, rfl, .var⟩
  | red h r => exact (no r (by decide) (by decide) (by decide) (by decide) (by decide)).elim
 | sort n => intro x h; cases h with
  | node h => cases h; exact ⟨.sort n, rfl, .sort⟩
  | red h r => exact (no r (by decide) (by decide) (by decide) (by decide) (by decide)).elim
 | nat => intro x h; cases h with
  | node h => cases h; exact ⟨.nat, rfl, .nat⟩
  | red h r => exact (no r (by decide) (by decide) (by decide) (by decide) (by decide)).elim
 | zero => intro x h; cases h with
  | node h => cases h; exact ⟨.zero, rfl, .zero⟩
  | red h r => exact (no r (by decide) (by decide) (by decide) (by decide) (by decide)).elim
 | pi a b ha hb => intro x h; cases h with
  | node h => obtain ⟨a', b', rfl, p, q⟩ := h.two; obtain ⟨u, rfl, hu⟩ := ha p; obtain ⟨v, rfl, hv⟩ := hb q; exact ⟨.pi u v, rfl, .pi hu hv⟩
  | red h r => exact (no r (by decide) (by decide) (by decide) (by decide) (by decide)).elim
 | lam a b ha hb => intro x h; cases h with
  | node h => obtain ⟨a', b', rfl, p, q⟩ := h.two; obtain ⟨u, rfl, hu⟩ := ha p; obtain ⟨v, rfl, hv⟩ := hb q; exact ⟨.lam u v, rfl, .lam hu hv⟩
  | red h r => exact (no r (by decide) (by decide) (by decide) (by decide) (by decide)).elim
 | sig a b ha hb => intro x h; cases h with
  | node h => obtain ⟨a', b', rfl, p, q⟩ := h.two; obtain ⟨u, rfl, hu⟩ := ha p; obtain ⟨v, rfl, hv⟩ := hb q; exact ⟨.sig u v, rfl, .sig hu hv⟩
  | red h r => exact (no r (by decide) (by decide) (by decide) (by decide) (by decide)).elim
 | succ a ha => intro x h; cases h with
  | node h => obtain ⟨a', rfl, p⟩ := h.one; obtain ⟨u, rfl, hu⟩ := ha p; exact ⟨.succ u, rfl, .succ hu⟩
  | red h r => exact (no r (by decide) (by decide) (by decide) (by decide) (by decide)).elim
 | refl a ha => intro x h; cases h with
  | node h => obtain ⟨a', rfl, p⟩ := h.one; obtain ⟨u, rfl, hu⟩ := ha p; exact ⟨.refl u, rfl, .refl hu⟩
  | red h r => exact (no r (by decide) (by decide) (by decide) (by decide) (by decide)).elim
 | id t a b ht ha hb => intro x h; cases h with
  | node h => obtain ⟨t', a', b', rfl, p, q, r⟩ := h.three; obtain ⟨s, rfl, hs⟩ := ht p; obtain ⟨u, rfl, hu⟩ := ha q; obtain ⟨v, rfl, hv⟩ := hb r; exact ⟨.id s u v, rfl, .id hs hu hv⟩
  | red h r => exact (no r (by decide) (by decide) (by decide) (by decide) (by decide)).elim
 | pair t a b ht ha hb => intro x h; cases h with
  | node h => obtain ⟨t', a', b', rfl, p, q, r⟩ := h.three; obtain ⟨s, rfl, hs⟩ := ht p; obtain ⟨u, rfl, hu⟩ := ha q; obtain ⟨v, rfl, hv⟩ := hb r; exact ⟨.pair s u v, rfl, .pair hs hu hv⟩
  | red h r => exact (no r (by decide) (by decide) (by decide) (by decide) (by decide)).elim
 | app f a hf ha => intro x h; cases h with
  | node h => obtain ⟨a', b', rfl, p, q⟩ := h.two; obtain ⟨u, rfl, hu⟩ := hf p; obtain ⟨v, rfl, hv⟩ := ha q; exact ⟨.app u v, rfl, .app hu hv⟩
  | red h r =>
   obtain ⟨a', b', rfl, p, q⟩ := h.two
   obtain ⟨u, rfl, hu⟩ := hf p
   obtain ⟨v, rfl, hv⟩ := ha q
   cases r with
   | app _ hk =>
    have hk : (of f).k = 4 := hk
    rw [gE] at hk
    cases f <;> simp only [reduceCtorEq, Int.reduceEq] at hk
    cases hu with
    | lam h1 h2 =>
     rw [fe rfl]
     show ∃ w, sbT (of v) (of _) 0 0 = of w ∧ _
     rw [lL]; exact ⟨_, rfl, .beta h2 hv⟩
   | zero h => cases h
   | succ h => cases h
   | move h => cases h
   | fst h => cases h
   | snd h => cases h
 | elim a b c d ha hb hc hd => intro x h; cases h with
  | node h =>
   obtain ⟨a', b', c', d', rfl, p, q, r, s⟩ := h.four
   obtain ⟨u, rfl, hu⟩ := ha p; obtain ⟨v, rfl, hv⟩ := hb q; obtain ⟨w, rfl, hw⟩ := hc r; obtain ⟨y, rfl, hy⟩ := hd s
   exact ⟨.elim u v w y, rfl, .elim hu hv hw hy⟩
  | red h r =>
   obtain ⟨a', b', c', d', rfl, p, q, r', s⟩ := h.four
   obtain ⟨u, rfl, hu⟩ := ha p; obtain ⟨v, rfl, hv⟩ := hb q; obtain ⟨w, rfl, hw⟩ := hc r'; obtain ⟨y, rfl, hy⟩ := hd s
   cases r with
   | app h => cases h
   | zero _ hk =>
    have hk : (of d).k = 7 := hk
    rw [gE] at hk
    cases d <;> simp only [reduceCtorEq, Int.reduceEq] at hk
    cases hy
    rw [dE rfl rfl]
    exact ⟨v, rfl, .ezero hv⟩
   | succ _ hk =>
    have hk : (of d).k = 8 := hk
    rw [gE] at hk
    cases d <;> simp only [reduceCtorEq, Int.reduceEq] at hk
    cases hy with
    | succ hy =>
     rw [dD rfl rfl]
     exact ⟨.app (.app w _) (.elim u v w _), rfl, .esucc hu hv hw hy⟩
   | move h => cases h
   | fst h => cases h
   | snd h => cases h
 | move t a b ht ha hb => intro x h; cases h with
  | node h => obtain ⟨t', a', b', rfl, p, q, r⟩ := h.three; obtain ⟨s, rfl, hs⟩ := ht p; obtain ⟨u, rfl, hu⟩ := ha q; obtain ⟨v, rfl, hv⟩ := hb r; exact ⟨.move s u v, rfl, .move hs hu hv⟩
  | red h r =>
   obtain ⟨t', a', b', rfl, p, q, r'⟩ := h.three; obtain ⟨s, rfl, hs⟩ := ht p; obtain ⟨u, rfl, hu⟩ := ha q; obtain ⟨v, rfl, hv⟩ := hb r'
   cases r with
   | app h => cases h
   | zero h => cases h
   | succ h => cases h
   | move _ hk =>
    have hk : (of a).k = 11 := hk
    rw [gE] at hk
    cases a <;> simp only [reduceCtorEq, Int.reduceEq] at hk
    rw [dp rfl]
    exact ⟨v, rfl, .mrefl hv⟩
   | fst h => cases h
   | snd h => cases h
 | fst a ha => intro x h; cases h with
  | node h => obtain ⟨a', rfl, p⟩ := h.one; obtain ⟨u, rfl, hu⟩ := ha p; exact ⟨.fst u, rfl, .fst hu⟩
  | red h r =>
   obtain ⟨a', rfl, p⟩ := h.one; obtain ⟨u, rfl, hu⟩ := ha p
   cases r with
   | app h => cases h
   | zero h => cases h
   | succ h => cases h
   | move h => cases h
   | fst _ hk =>
    have hk : (of a).k = 14 := hk
    rw [gE] at hk
    cases a <;> simp only [reduceCtorEq, Int.reduceEq] at hk
    cases hu with
    | pair h1 h2 h3 => rw [fg rfl]; exact ⟨_, rfl, .fpair h2⟩
   | snd h => cases h
 | snd a ha => intro x h; cases h with
  | node h => obtain ⟨a', rfl, p⟩ := h.one; obtain ⟨u, rfl, hu⟩ := ha p; exact ⟨.snd u, rfl, .snd hu⟩
  | red h r =>
   obtain ⟨a', rfl, p⟩ := h.one; obtain ⟨u, rfl, hu⟩ := ha p
   cases r with
   | app h => cases h
   | zero h => cases h
   | succ h => cases h
   | move h => cases h
   | fst h => cases h
   | snd _ hk =>
    have hk : (of a).k = 14 := hk
    rw [gE] at hk
    cases a <;> simp only [reduceCtorEq, Int.reduceEq] at hk
    cases hu with
    | pair h1 h2 h3 => rw [fj rfl]; exact ⟨_, rfl, .spair h3⟩
theorem Fc {t : Tm} {x : T} (h : Red (of t) x) : ∃ u, x = of u ∧ Tm.Red t u := by
 generalize e : of t = y at h
 induction h generalizing t with
 | refl => exact ⟨t, e.symm, .nil⟩
 | step h _ ih =>
  subst e
  obtain ⟨u, rfl, hu⟩ := Jl h
  obtain ⟨v, rfl, hv⟩ := ih rfl
  exact ⟨v, rfl, .cons hu hv⟩
end Go.Proofs.YtajlknlnmmbfcaaGreat
end
section
namespace Go.Proofs.YtajlknlnmmbfcaaGreat
open Go Go.Dk
theorem EP (t : T) : ∀ d, bu t d = true → ∃ m, t = of m := by
 induction t using T.ind with | h t ih =>
 intro d h
 cases t with | mk k n ts =>
 rw [gM] at h
 simp only [Bool.and_eq_true, decide_eq_true_eq] at h
 obtain ⟨_, h1, h2, h3⟩ := h
 have h1 : opsOf k = ts.length := h1
 have h2 : 0 ≤ n ∧ n ≤ cd k := h2
 have h3 : bD ts (d - 1) = true := h3
 have kid : ∀ u ∈ ts, ∃ m, u = of m := fun u hu => ih u hu (d - 1) (lF h3 hu)
 have hk : k = 1 ∨ k = 2 ∨ k = 3 ∨ k = 4 ∨ k = 5 ∨ k = 6 ∨ k = 7 ∨ k = 8 ∨ k = 9 ∨ k = 10 ∨ k = 11 ∨ k = 12 ∨ k = 13 ∨ k = 14 ∨ k = 15 ∨ k = 16 := by
  unfold opsOf at h1
  repeat' split at h1
  all_goals omega
 have l0 : opsOf k = 0 → ts = [] := fun e => by
  rw [e] at h1
  exact List.eq_nil_of_length_eq_zero (by omega)
 have l1 : opsOf k = 1 → ∃ a, ts = [of a] := fun e => by
  rw [e] at h1
  match ts, h1, kid with
  | [a], _, kid => obtain ⟨m, rfl⟩ := kid a (by simp); exact ⟨m, rfl⟩
  | [], h1, _ => simp at h1
  | _ :: _ :: _, h1, _ => simp at h1; omega
 have l2 : opsOf k = 2 → ∃ a b, ts = [of a, of b] := fun e => by
  rw [e] at h1
  match ts, h1, kid with
  | [a, b], _, kid => obtain ⟨m, rfl⟩ := kid a (by simp); obtain ⟨m', rfl⟩ := kid b (by simp); exact ⟨m, m', rfl⟩
  | [], h1, _ => simp at h1
  | [_], h1, _ => simp at h1
  | _ :: _ :: _ :: _, h1, _ => simp at h1; omega
 have l3 : opsOf k = 3 → ∃ a b c, ts = [of a, of b, of c] := fun e => by
  rw [e] at h1
  match ts, h1, kid with
  | [a, b, c], _, kid => obtain ⟨m, rfl⟩ := kid a (by simp); obtain ⟨m', rfl⟩ := kid b (by simp); obtain ⟨m'', rfl⟩ := kid c (by simp); exact ⟨m, m', m'', rfl⟩
  | [], h1, _ => simp at h1
  | [_], h1, _ => simp at h1
  | [_, _], h1, _ => simp at h1
  | _ :: _ :: _ :: _ :: _, h1, _ => simp at h1; omega
 have l4 : opsOf k = 4 → ∃ a b c e, ts = [of a, of b, of c, of e] := fun e => by
  rw [e] at h1
  match ts, h1, kid with
  | [a, b, c, x], _, kid => obtain ⟨m, rfl⟩ := kid a (by simp); obtain ⟨m', rfl⟩ := kid b (by simp); obtain ⟨m'', rfl⟩ := kid c (by simp); obtain ⟨m3, rfl⟩ := kid x (by simp); exact ⟨m, m', m'', m3, rfl⟩
  | [], h1, _ => simp at h1
  | [_], h1, _ => simp at h1
  | [_, _], h1, _ => simp at h1
  | [_, _, _], h1, _ => simp at h1
  | _ :: _ :: _ :: _ :: _ :: _, h1, _ => simp at h1; omega
 have n0 : cd k = 0 → n = 0 := fun e => by omega
 rcases hk with rfl | rfl | rfl | rfl | rfl | rfl | rfl | rfl | rfl | rfl | rfl | rfl | rfl | rfl | rfl | rfl
 ·rw [l0 rfl]; exact ⟨.var n.toNat, by show T.mk 1 n [] = T.mk 1 (n.toNat : Int) []; rw [Int.toNat_of_nonneg h2.1]⟩
 ·rw [l0 rfl]; exact ⟨.sort n.toNat, by show T.mk 2 n [] = T.mk 2 (n.toNat : Int) []; rw [Int.toNat_of_nonneg h2.1]⟩
 ·obtain ⟨a, b, rfl⟩ := l2 rfl; rw [n0 rfl]; exact ⟨.pi a b, rfl⟩
 ·obtain ⟨a, b, rfl⟩ := l2 rfl; rw [n0 rfl]; exact ⟨.lam a b, rfl⟩
 ·obtain ⟨a, b, rfl⟩ := l2 rfl; rw [n0 rfl]; exact ⟨.app a b, rfl⟩
 ·rw [l0 rfl, n0 rfl]; exact ⟨.nat, rfl⟩
 ·rw [l0 rfl, n0 rfl]; exact ⟨.zero, rfl⟩
 ·obtain ⟨a, rfl⟩ := l1 rfl; rw [n0 rfl]; exact ⟨.succ a, rfl⟩
 ·obtain ⟨a, b, c, e, rfl⟩ := l4 rfl; rw [n0 rfl]; exact ⟨.elim a b c e, rfl⟩
 ·obtain ⟨a, b, c, rfl⟩ := l3 rfl; rw [n0 rfl]; exact ⟨.id a b c, rfl⟩
 ·obtain ⟨a, rfl⟩ := l1 rfl; rw [n0 rfl]; exact ⟨.refl a, rfl⟩
 ·obtain ⟨a, b, c, rfl⟩ := l3 rfl; rw [n0 rfl]; exact ⟨.move a b c, rfl⟩
 ·obtain ⟨a, b, rfl⟩ := l2 rfl; rw [n0 rfl]; exact ⟨.sig a b, rfl⟩
 ·obtain ⟨a, b, c, rfl⟩ := l3 rfl; rw [n0 rfl]; exact ⟨.pair a b c, rfl⟩
 ·obtain ⟨a, rfl⟩ := l1 rfl; rw [n0 rfl]; exact ⟨.fst a, rfl⟩
 ·obtain ⟨a, rfl⟩ := l1 rfl; rw [n0 rfl]; exact ⟨.snd a, rfl⟩
theorem cJ {t : T} (h : ah t = true) : ∃ m, t = of m := by
 unfold ah at h
 rw [Bool.and_eq_true] at h
 exact EP t 30 h.1
def vdM (t : Tm) : Bool := ah (of t)
theorem eK {t : Tm} : vdM t = true ↔ bu (of t) 30 = true ∧ (of t).size ≤ 400 := by
 unfold vdM ah
 rw [Bool.and_eq_true, decide_eq_true_eq]
theorem CA {n : Nat} : vdM (.sort n) = true ↔ n ≤ 3 := by
 rw [eK]
 have e : cd 2 = 3 := rfl
 show bu (.mk 2 n []) 30 = true ∧ 1 ≤ 400 ↔ _
 simp only [bu, bD, Bool.and_eq_true, decide_eq_true_eq, Bool.and_true, e]
 constructor
 ·intro h; omega
 ·intro h; exact ⟨⟨by omega, rfl, by omega⟩, by omega⟩
def hdM : Tm → Option Tm
 | .app f u => match f with
  | .lam _ b => some (b.inst u)
  | f => (hdM f).map fun f => .app f u
 | .elim p z s n => match n with
  | .zero => some z
  | .succ m => some (.app (.app s m) (.elim p z s m))
  | n => (hdM n).map fun n => .elim p z s n
 | .move p e x => match e with
  | .refl _ => some x
  | e => (hdM e).map fun e => .move p e x
 | .fst q => match q with
  | .pair _ a _ => some a
  | q => (hdM q).map fun q => .fst q
 | .snd q => match q with
  | .pair _ _ b => some b
  | q => (hdM q).map fun q => .snd q
 | _ => none
theorem HM : ∀ {t u : Tm}, hdM t = some u → Tm.Hd t u := by
 intro t
 induction t with
 | app f a hf ha =>
  intro u h
  cases f <;> first
   | (simp only [hdM] at h; cases h; exact .beta)
   | (simp only [hdM] at h
      obtain ⟨v, hv, rfl⟩ := Option.map_eq_some_iff.1 h
      exact .app (hf hv))
 | elim p z s n hp hz hs hn =>
  intro u h
  cases n <;> first
   | (simp only [hdM] at h; cases h; first | exact .ezero | exact .esucc)
   | (simp only [hdM] at h
      obtain ⟨v, hv, rfl⟩ := Option.map_eq_some_iff.1 h
      exact .elim (hn hv))
 | move p e x hp he hx =>
  intro u h
  cases e <;> first
   | (simp only [hdM] at h; cases h; exact .mrefl)
   | (simp only [hdM] at h
      obtain ⟨v, hv, rfl⟩ := Option.map_eq_some_iff.1 h
      exact .move (he hv))
 | fst q hq =>
  intro u h
  cases q <;> first
   | (simp only [hdM] at h; cases h; exact .fpair)
   | (simp only [hdM] at h
      obtain ⟨v, hv, rfl⟩ := Option.map_eq_some_iff.1 h
      exact .fst (hq hv))
 | snd q hq =>
  intro u h
  cases q <;> first
   | (simp only [hdM] at h; cases h; exact .spair)
   | (simp only [hdM] at h
      obtain ⟨v, hv, rfl⟩ := Option.map_eq_some_iff.1 h
      exact .snd (hq hv))
 | _ => intro u h; cases h
theorem Ir {t u : Tm} (h : Tm.Hd t u) : hdM t = some u := by
 induction h with
 | beta => rfl
 | ezero => rfl
 | esucc => rfl
 | mrefl => rfl
 | fpair => rfl
 | spair => rfl
 | @app f f' u h ih => cases f <;> first | (cases h; done) | (simp only [hdM] at ih ⊢; first | rw [ih]; rfl | (cases ih))
 | @elim p z s n n' h ih => cases n <;> first | (cases h; done) | (simp only [hdM] at ih ⊢; first | rw [ih]; rfl | (cases ih))
 | @move p e e' x h ih => cases e <;> first | (cases h; done) | (simp only [hdM] at ih ⊢; first | rw [ih]; rfl | (cases ih))
 | @fst q q' h ih => cases q <;> first | (cases h; done) | (simp only [hdM] at ih ⊢; first | rw [ih]; rfl | (cases ih))
 | @snd q q' h ih => cases q <;> first | (cases h; done) | (simp only [hdM] at ih ⊢; first | rw [ih]; rfl | (cases ih))
def hrM : Nat → Tm → Option Tm
 | 0, t => match hdM t with
  | none => some t
  | some _ => none
 | g + 1, t => match hdM t with
  | none => some t
  | some u => if vdM u = true then hrM g u else none
theorem AZ : ∀ {g : Nat} {t h : Tm}, hrM g t = some h → vdM t = true → Tm.Wh t h ∧ hdM h = none ∧ vdM h = true
 | 0, t, h, e, v => by
  simp only [hrM] at e
  cases hd : hdM t with
  | none => rw [hd] at e; cases e; exact ⟨.nil, hd, v⟩
  | some u => rw [hd] at e; cases e
 | g + 1, t, h, e, v => by
  simp only [hrM] at e
  cases hd : hdM t with
  | none => rw [hd] at e; cases e; exact ⟨.nil, hd, v⟩
  | some u =>
   rw [hd] at e
   simp only at e
   split at e
   ·obtain ⟨w, h1, h2⟩ := AZ e ‹_›
    exact ⟨.cons (HM hd) w, h1, h2⟩
   ·cases e
open Tm in
def O : Orc where
 vd := vdM
 hn t := if vdM t = true then (match hrM 200 t with
  | some h => .ok h
  | none => .opn) else .opn
 sm a b := if vdM a = true ∧ vdM b = true then (if g7 (of a) (of b) 200 = 1 then .ok .nat else if g7 (of a) (of b) 200 = 2 then .bad else .opn) else .opn
theorem Du {a b : Tm} {g : Nat} (h : g7 (of a) (of b) g = 1) : Tm.Conv a b := by
 unfold g7 at h
 split at h
 ·rename_i e
  have := mo ((T.beq_iff _ _).1 e)
  subst this; exact .bq
 ·split at h
  ·cases h
  ·rename_i hh
   split at h
   ·rename_i e
    have e := (T.beq_iff _ _).1 e
    have ha0 : (gg false g 0 (of a)).2.2 = 0 := Classical.byContradiction fun h => hh (.inl h)
    have hb0 : (gg false g 0 (of b)).2.2 = 0 := Classical.byContradiction fun h => hh (.inr h)
    obtain ⟨u, eu, ru⟩ := Fc (kC _ _ _ ha0).1
    obtain ⟨v, ev, rv⟩ := Fc (kC _ _ _ hb0).1
    have : u = v := mo (by rw [← eu, ← ev]; exact e)
    subst this
    exact ⟨u, ru, rv⟩
   ·cases h
theorem qu {a b : Tm} {g : Nat} (h : g7 (of a) (of b) g = 2) : ¬ Tm.Conv a b := by
 rintro ⟨c, r1, r2⟩
 obtain ⟨ha0, hb0, hne⟩ := BP h
 obtain ⟨x1, n1⟩ := kC _ _ _ ha0
 obtain ⟨x2, n2⟩ := kC _ _ _ hb0
 obtain ⟨z, z1, z2⟩ := Red.A7 x1 (FZ r1)
 obtain ⟨y, y1, y2⟩ := Red.A7 x2 (FZ r2)
 rw [yv z1 n1] at z2
 rw [yv y1 n2] at y2
 exact hne (Gi z2 y2 n1 n2)
theorem aF : Tm.bR O := by
 have kd : ∀ {t : Tm} {u : T}, vdM t = true → u ∈ (of t).kids → ∀ m, u = of m → vdM m = true := fun h hu m e => by
  unfold vdM; rw [← e]; exact bF h hu
 constructor
 case hn_ok =>
  intro t h e
  simp only [O] at e
  split at e
  ·split at e
   ·cases e
    obtain ⟨w, h1, h2⟩ := AZ ‹_› ‹_›
    exact ⟨w, (fun u k => by rw [Ir k] at h1; cases h1), h2⟩
   ·cases e
  ·cases e
 case hn_nb =>
  intro t e
  simp only [O] at e
  split at e
  ·split at e <;> cases e
  ·cases e
 case sm_ok =>
  intro a b x e
  simp only [O] at e
  split at e
  ·split at e
   ·exact Du ‹_›
   ·split at e <;> cases e
  ·cases e
 case sm_nb =>
  intro a b e
  simp only [O] at e
  split at e
  ·split at e
   ·cases e
   ·split at e
    ·exact qu ‹_›
    ·cases e
  ·cases e
 case sm_inv =>
  intro a b h
  simp only [O]
  rw [if_neg (fun hh => by rw [show O.vd b = vdM b from rfl] at h; rw [hh.2] at h; cases h)]
 case v_pi => exact fun h => ⟨kd h (by simp [of, T.kids]) _ rfl, kd h (by simp [of, T.kids]) _ rfl⟩
 case v_sig => exact fun h => ⟨kd h (by simp [of, T.kids]) _ rfl, kd h (by simp [of, T.kids]) _ rfl⟩
 case v_lam => exact fun h => ⟨kd h (by simp [of, T.kids]) _ rfl, kd h (by simp [of, T.kids]) _ rfl⟩
 case v_app => exact fun h => ⟨kd h (by simp [of, T.kids]) _ rfl, kd h (by simp [of, T.kids]) _ rfl⟩
 case v_succ => exact fun h => kd h (by simp [of, T.kids]) _ rfl
 case v_refl => exact fun h => kd h (by simp [of, T.kids]) _ rfl
 case v_fst => exact fun h => kd h (by simp [of, T.kids]) _ rfl
 case v_snd => exact fun h => kd h (by simp [of, T.kids]) _ rfl
 case v_id => exact fun h => ⟨kd h (by simp [of, T.kids]) _ rfl, kd h (by simp [of, T.kids]) _ rfl, kd h (by simp [of, T.kids]) _ rfl⟩
 case v_move => exact fun h => ⟨kd h (by simp [of, T.kids]) _ rfl, kd h (by simp [of, T.kids]) _ rfl, kd h (by simp [of, T.kids]) _ rfl⟩
 case v_pair => exact fun h => ⟨kd h (by simp [of, T.kids]) _ rfl, kd h (by simp [of, T.kids]) _ rfl, kd h (by simp [of, T.kids]) _ rfl⟩
 case v_elim =>
  intro p z s n h
  refine ⟨kd h (by simp [of, T.kids]) _ rfl, kd h (by simp [of, T.kids]) _ rfl, kd h (by simp [of, T.kids]) _ rfl, kd h (by simp [of, T.kids]) _ rfl, ?_⟩
  have h := eK.1 h
  show vdM _ = true
  rw [eK]
  have := size_pos (of z); have := size_pos (of s); have := size_pos (of n)
  simp only [of, bu, bD, T.size, T.aE, Bool.and_eq_true, decide_eq_true_eq, Bool.and_true] at h ⊢
  exact ⟨⟨by omega, rfl, by decide, h.1.2.2.2.1, by omega, rfl, by decide⟩, by omega⟩
 case v_lam3 =>
  intro a b h
  have h := eK.1 h
  show vdM _ = true
  rw [eK]
  have := size_pos (of b)
  simp only [of, bu, bD, T.size, T.aE, Bool.and_eq_true, decide_eq_true_eq, Bool.and_true] at h ⊢
  exact ⟨⟨by omega, rfl, by decide, h.1.2.2.2.1, by omega, rfl, by decide⟩, by omega⟩
 case v_sort => exact CA
 case v_nat => rfl
end Go.Proofs.YtajlknlnmmbfcaaGreat
end
section
namespace Go.Proofs.YtajlknlnmmbfcaaGreat
open Go Go.Ab Go.Dk
def mnT (k : Int) : Int := if k = 5 ∨ k = 15 ∨ k = 16 then 0 else if k = 12 then 1 else if k = 9 then 3 else -1
theorem C7 {m : Tm} (h : Rx (of m)) : ∃ u, hdM m = some u ∧ ay (of m) = of u := by
 cases m with
 | app f a =>
  cases h with
  | app _ hk =>
   have hk : (of f).k = 4 := hk
   rw [gE] at hk
   cases f <;> simp only [reduceCtorEq, Int.reduceEq] at hk
   exact ⟨_, rfl, by rw [fe rfl]; exact lL _ _⟩
  | zero h => cases h
  | succ h => cases h
  | move h => cases h
  | fst h => cases h
  | snd h => cases h
 | elim p z s n =>
  cases h with
  | app h => cases h
  | zero _ hk =>
   have hk : (of n).k = 7 := hk
   rw [gE] at hk
   cases n <;> simp only [reduceCtorEq, Int.reduceEq] at hk
   exact ⟨z, rfl, dE rfl rfl⟩
  | succ _ hk =>
   have hk : (of n).k = 8 := hk
   rw [gE] at hk
   cases n <;> simp only [reduceCtorEq, Int.reduceEq] at hk
   exact ⟨_, rfl, dD rfl rfl⟩
  | move h => cases h
  | fst h => cases h
  | snd h => cases h
 | move p e x =>
  cases h with
  | app h => cases h
  | zero h => cases h
  | succ h => cases h
  | move _ hk =>
   have hk : (of e).k = 11 := hk
   rw [gE] at hk
   cases e <;> simp only [reduceCtorEq, Int.reduceEq] at hk
   exact ⟨x, rfl, dp rfl⟩
  | fst h => cases h
  | snd h => cases h
 | fst q =>
  cases h with
  | app h => cases h
  | zero h => cases h
  | succ h => cases h
  | move h => cases h
  | fst _ hk =>
   have hk : (of q).k = 14 := hk
   rw [gE] at hk
   cases q <;> simp only [reduceCtorEq, Int.reduceEq] at hk
   exact ⟨_, rfl, fg rfl⟩
  | snd h => cases h
 | snd q =>
  cases h with
  | app h => cases h
  | zero h => cases h
  | succ h => cases h
  | move h => cases h
  | fst h => cases h
  | snd _ hk =>
   have hk : (of q).k = 14 := hk
   rw [gE] at hk
   cases q <;> simp only [reduceCtorEq, Int.reduceEq] at hk
   exact ⟨_, rfl, fj rfl⟩
 | _ => exact absurd h.k (by simp only [of, T.k]; omega)
theorem Dd {m : Tm} (h : ¬ Rx (of m)) : (mnT (of m).k = -1 ∧ hdM m = none) ∨ ∃ (i : Nat) (q : Tm), mnT (of m).k = i ∧ i < (of m).kids.length ∧ kd (of m) i = of q ∧ (of q).size < (of m).size ∧ (hdM q = none → hdM m = none) ∧
   ∀ v, hdM q = some v → ∃ u, hdM m = some u ∧ of u = .mk (of m).k (of m).n ((of m).kids.set i (of v)) := by
 cases m with
 | app f a =>
  refine .inr ⟨0, f, rfl, by simp [of, T.kids], rfl, by simp only [of, T.size, T.aE]; omega, ?_⟩
  cases f <;> first
   | (exact absurd (Rx.app rfl rfl) h)
   | (refine ⟨fun e => ?_, fun v e => ⟨.app v a, ?_, rfl⟩⟩ <;> (first | (simp only [hdM] at e ⊢ <;> first | (rw [e]; rfl) | rfl | cases e) | (cases e)))
 | elim p z s n =>
  refine .inr ⟨3, n, rfl, by simp [of, T.kids], rfl, by simp only [of, T.size, T.aE]; omega, ?_⟩
  cases n <;> first
   | (exact absurd (Rx.zero rfl rfl) h)
   | (exact absurd (Rx.succ rfl rfl) h)
   | (refine ⟨fun e => ?_, fun v e => ⟨.elim p z s v, ?_, rfl⟩⟩ <;> (first | (simp only [hdM] at e ⊢ <;> first | (rw [e]; rfl) | rfl | cases e) | (cases e)))
 | move p e x =>
  refine .inr ⟨1, e, rfl, by simp [of, T.kids], rfl, by simp only [of, T.size, T.aE]; omega, ?_⟩
  cases e <;> first
   | (exact absurd (Rx.move rfl rfl) h)
   | (refine ⟨fun e => ?_, fun v e => ⟨.move p v x, ?_, rfl⟩⟩ <;> (first | (simp only [hdM] at e ⊢ <;> first | (rw [e]; rfl) | rfl | cases e) | (cases e)))
 | fst q =>
  refine .inr ⟨0, q, rfl, by simp [of, T.kids], rfl, by simp only [of, T.size, T.aE]; omega, ?_⟩
  cases q <;> first
   | (exact absurd (Rx.fst rfl rfl) h)
   | (refine ⟨fun e => ?_, fun v e => ⟨.fst v, ?_, rfl⟩⟩ <;> (first | (simp only [hdM] at e ⊢ <;> first | (rw [e]; rfl) | rfl | cases e) | (cases e)))
 | snd q =>
  refine .inr ⟨0, q, rfl, by simp [of, T.kids], rfl, by simp only [of, T.size, T.aE]; omega, ?_⟩
  cases q <;> first
   | (exact absurd (Rx.snd rfl rfl) h)
   | (refine ⟨fun e => ?_, fun v e => ⟨.snd v, ?_, rfl⟩⟩ <;> (first | (simp only [hdM] at e ⊢ <;> first | (rw [e]; rfl) | rfl | cases e) | (cases e)))
 | _ => exact .inl ⟨rfl, rfl⟩
theorem E6 : ∀ (ts : List T) (i : Nat) (v : T), i < ts.length → T.aE (ts.set i v) ≤ T.aE ts + v.size
 | [], i, v, h => by simp at h
 | t :: ts, 0, v, h => by simp only [List.set_cons_zero, T.aE]; omega
 | t :: ts, i + 1, v, h => by
  have := E6 ts i v (by simpa using h)
  simp only [List.set_cons_succ, T.aE]; omega
theorem Bb (B : Nat) (hB : B = 160000) (z : Nat) : ∀ {m u : Tm}, (of m).size ≤ z → vdM m = true → hdM m = some u → (of u).size ≤ B + z * 400 := by
 induction z with
 | zero => intro m u hz; exact absurd (size_pos (of m)) (by exact Nat.not_le_of_lt (Nat.lt_succ_of_le hz))
 | succ z ih =>
  intro m u hz hv e
  rw [Nat.add_mul]
  by_cases hr : Rx (of m)
  ·obtain ⟨w, e1, e2⟩ := C7 hr
   rw [e] at e1; cases e1
   have := jq hv hr
   rw [e2, ← hB] at this
   exact Nat.le_trans this (Nat.le_add_right _ _)
  ·rcases Dd hr with ⟨e1, e2⟩ | ⟨i, q, e1, hi, e2, hq, e3, e4⟩
   ·rw [e] at e2; cases e2
   ·have vq : vdM q = true := by
      unfold vdM; rw [← e2]; exact bF hv (jG hi)
    cases hh : hdM q with
    | none => rw [e3 hh] at e; cases e
    | some v =>
     obtain ⟨w, e5, e6⟩ := e4 v hh
     rw [e] at e5; cases e5
     have h1 := ih (m := q) (by omega) vq hh
     have h2 := E6 (of m).kids i (of v) hi
     have h3 := T.size_eq (of m)
     have h4 := ae hv
     rw [e6, T.size]; omega
theorem DO {n : Nat} (hn : 1 ≤ n) (k : Int) : FF n 179 [nt k] [] = some ([nt (mnT k)], []) := by
 obtain ⟨n, rfl⟩ := af (show 0 < n by omega)
 rw [q6]
 unfold mnT
 by_cases h1 : k = 5 <;> by_cases h2 : k = 15 <;> by_cases h3 : k = 16 <;> by_cases h4 : k = 12 <;> by_cases h5 : k = 9 <;> simp [h1, h2, h3, h4, h5] <;> omega
theorem mj : ∀ (z : Nat) (m : Tm), (of m).size ≤ z → ∀ {n : Nat}, 3000500 + z ≤ n → vdM m = true →
   ∃ x b, FF n 164 [tm (of m)] [] = some ([tm x, bl b], []) ∧ x.size ≤ 320000 ∧ (match hdM m with | some u => b = true ∧ x = of u | none => b = false)
 | 0, m, hz, n, hn, hv => by have := size_pos (of m); omega
 | z + 1, m, hz, n, hn, hv => by
  obtain ⟨n, rfl⟩ := af (show 0 < n by omega)
  have hs := ae hv
  rw [ld, kr (n := n) (by omega) hv]
  simp only [evt]
  by_cases hr : Rx (of m)
  ·obtain ⟨u, e1, e2⟩ := C7 hr
   have := (nG (of m)).2 hr
   have hc := jq hv hr
   rw [decide_eq_false this, iM (n := n) (by omega) hv hr]
   simp only [evt]
   refine ⟨_, _, rfl, by omega, ?_⟩
   rw [e1]; exact ⟨rfl, e2⟩
  ·have : bz (of m) = 0 := Classical.byContradiction fun h => hr ((nG (of m)).1 h)
   rw [this, DO (n := n) (by omega)]
   simp only [evt]
   rcases Dd hr with ⟨e1, e2⟩ | ⟨i, q, e1, hi, e2, hq, e3, e4⟩
   ·rw [e1]
    refine ⟨of m, false, rfl, by omega, ?_⟩
    rw [e2]
   ·have vq : vdM q = true := by
      unfold vdM; rw [← e2]; exact bF hv (jG hi)
    have ek : (of m).kids[(i : Int).toNat]? = some (of q) := by
     rw [Int.toNat_natCast, cj hi, e2]
    obtain ⟨x, b, h1, h2, h3⟩ := mj z q (by omega) (n := n) (by omega) vq
    rw [e1, decide_eq_false (show ¬ (i : Int) < 0 by omega), decide_eq_true (show 0 ≤ (i : Int) by omega), ek]
    simp only [evt]
    rw [h1]
    simp only [evt]
    cases hh : hdM q with
    | none =>
     rw [hh] at h3
     have h3 : b = false := h3
     subst h3
     refine ⟨of m, false, rfl, by omega, ?_⟩
     rw [e3 hh]
    | some v =>
     rw [hh] at h3
     obtain ⟨rfl, rfl⟩ := h3
     obtain ⟨u, e5, e6⟩ := e4 v hh
     have hw := sr (n := n) (t := of m) (u := of v) (j := i) (by omega) (by omega)
     simp only [Bool.not_true, cond_false]
     rw [hw]
     simp only [evt]
     refine ⟨.mk (of m).k (of m).n ((of m).kids.set i (of v)), true, rfl, ?_, ?_⟩
     ·rw [← e6]
      have := Bb _ rfl 400 (m := m) (by omega) hv e5
      omega
     ·rw [e5]; exact ⟨rfl, e6.symm⟩
theorem Ei {m u : Tm} (hv : vdM m = true) (e : hdM m = some u) : (of u).size ≤ 320000 := by
 have := Bb _ rfl 400 (m := m) (ae hv) hv e
 omega
theorem tj (n : Nat) (hn : 4000000 ≤ n) (k0 n0 : Int) (l0 : List T) : ∀ g c (m : Tm), g < c → g ≤ 200 → vdM m = true →
   ∃ x e, b9 n c (g : Int) (of m).k (of m).n (of m).kids k0 n0 l0 = some ([tm x, nt e], []) ∧ (match hrM g m with | some h => e = 0 ∧ x = of h | none => e ≠ 0)
 | g, 0, m, hg, _, _ => by omega
 | g, c + 1, m, hg, hf, hv => by
  have hz := ae hv
  obtain ⟨x, b, h1, h2, h3⟩ := mj 400 m hz (n := n) (by omega) hv
  have hc := hJ (of m) (n := n) (by omega) (by omega)
  rw [iW, h1]
  simp only [evt]
  cases hh : hdM m with
  | none =>
   rw [hh] at h3
   have h3 : b = false := h3
   subst h3
   have e1 : hrM g m = some m := by cases g <;> simp only [hrM, hh]
   rw [e1, hc]
   exact ⟨of m, 0, rfl, rfl, rfl⟩
  | some u =>
   rw [hh] at h3
   obtain ⟨rfl, rfl⟩ := h3
   have hu := Ei hv hh
   simp only [Bool.not_true, cond_false]
   cases g with
   | zero =>
    refine ⟨.mk 0 0 [], 1, rfl, ?_⟩
    simp only [hrM, hh]; decide
   | succ g =>
    rw [decide_eq_false (show ¬ ((g + 1 : Nat) : Int) < 1 by omega), aL (n := n) (t := of u) (by omega) (by omega)]
    simp only [evt, hrM, hh]
    cases hvu : vdM u with
    | false =>
     have : ah (of u) = false := hvu
     rw [this]
     refine ⟨.mk 0 0 [], 2, rfl, ?_⟩
     simp
    | true =>
     have e2 : ah (of u) = true := hvu
     have w : IntKind.i64.wrap (((g + 1 : Nat) : Int) - 1) = (g : Int) := by rw [wrap64 (by omega)]; omega
     rw [e2, w]
     simp only [Bool.not_true, cond_false, if_true]
     exact tj n hn k0 n0 l0 g c u (by omega) (by omega) hvu
theorem j0 : (T.mk 0 0 []).size ≤ 1000000 := by decide
def RS (o : OR) (r : Tm.Rs) : Prop := ∃ x c, o = some ([tm x, nt c], []) ∧ x.size ≤ 1000000 ∧ (match r with | .ok t => c = 0 ∧ x = of t | .bad => c = 1 | .opn => c = 2)
theorem kE {n : Nat} {m : Tm} (hn : 5000000 ≤ n) (hz : (of m).size ≤ 1000000) : RS (FF n 108 [tm (of m)] []) (O.hn m) := by
 obtain ⟨n, rfl⟩ := af (show 0 < n by omega)
 rw [rJ, aL (n := n) (by omega) (by omega)]
 simp only [evt, O]
 cases hv : vdM m with
 | false =>
  have : ah (of m) = false := hv
  rw [this]
  exact ⟨.mk 0 0 [], 2, rfl, j0, rfl⟩
 | true =>
  have e : ah (of m) = true := hv
  rw [e]
  simp only [Bool.not_true, cond_false, if_true]
  obtain ⟨n, rfl⟩ := af (show 0 < n by omega)
  rw [qG]
  obtain ⟨x, c, h1, h2⟩ := tj n (by omega) 0 0 [] 200 n m (by omega) (by omega) hv
  have h1 : b9 n n 200 (of m).k (of m).n (of m).kids 0 0 [] = some ([tm x, nt c], []) := h1
  rw [h1]
  simp only [evt]
  cases hr : hrM 200 m with
  | none =>
   rw [hr] at h2
   rw [decide_eq_false h2]
   exact ⟨.mk 0 0 [], 2, rfl, j0, rfl⟩
  | some h =>
   rw [hr] at h2
   obtain ⟨rfl, rfl⟩ := h2
   have := ae (AZ hr hv).2.2
   exact ⟨of h, 0, rfl, by omega, rfl, rfl⟩
theorem rH {n : Nat} (hn : 4000000 ≤ n) {t : T} (hv : ah t = true) {w : List Nat} (ho : AI t w) (hr : Rx (atT t w)) (hwl : w.length ≤ t.size) {u : T} (hu : puT t w (ay (atT t w)) = u) :
   FF n 112 [tm t, .one (.fr (.is (ins w)))] [] = some ([tm (okT u), bl (ah u)], []) := by
 subst hu
 have hz := ae hv
 have va := mR ho hv
 have hcz := jq va hr
 obtain ⟨n, rfl⟩ := af (show 0 < n by omega)
 rw [gJ]
 simp only [evt, Kw (n := n) (by omega) (by omega) ho, qm (n := n) (by omega) va hr]
 cases hc : ah (ay (atT t w)) with
 | false =>
  have : ah (puT t w (ay (atT t w))) = false := by
   cases hp : ah (puT t w (ay (atT t w))) with
   | false => rfl
   | true => rw [oL ho hp] at hc; cases hc
  simp only [Bool.not_false, cond_true, this, Cx this]; rfl
 | true =>
  have hp := mY (u := ay (atT t w)) ho
  have hov := eM (n := n) (t := puT t w (ay (atT t w))) (by omega) (by omega)
  simp only [Bool.not_true, cond_false, jb hc, GH (ay (atT t w)) w (n := n) (by omega) (by omega) (by omega) ho, evt, hov]
theorem BX {m : Tm} : (of m).k = 5 ∨ (of m).k = 15 ∨ (of m).k = 16 ∨ (of m).k = 9 ∨ (of m).k = 12 ∨ mnT (of m).k = -1 := by
 unfold mnT
 by_cases h1 : (of m).k = 5
 ·exact .inl h1
 by_cases h2 : (of m).k = 15
 ·exact .inr (.inl h2)
 by_cases h3 : (of m).k = 16
 ·exact .inr (.inr (.inl h3))
 by_cases h4 : (of m).k = 9
 ·exact .inr (.inr (.inr (.inl h4)))
 by_cases h5 : (of m).k = 12
 ·exact .inr (.inr (.inr (.inr (.inl h5))))
 ·rw [if_neg (by omega), if_neg h5, if_neg h4]; exact .inr (.inr (.inr (.inr (.inr rfl))))
theorem E4 : ∀ (z : Nat) (m : Tm), (of m).size ≤ z → ∀ {n : Nat}, 500 + z ≤ n → vdM m = true →
   ∃ w b, FF n 178 [tm (of m)] [] = some ([.one (.fr (.is (ins w))), bl b], []) ∧ w.length ≤ (of m).size ∧ (match hdM m with | some u => b = true ∧ AI (of m) w ∧ Rx (atT (of m) w) ∧ puT (of m) w (ay (atT (of m) w)) = of u | none => b = false)
 | 0, m, hz, n, hn, hv => by have := size_pos (of m); omega
 | z + 1, m, hz, n, hn, hv => by
  obtain ⟨n, rfl⟩ := af (show 0 < n by omega)
  have hs := ae hv
  rw [wQ, xy (n := n) (by omega) hv]
  simp only [evt]
  by_cases hr : Rx (of m)
  ·obtain ⟨u, e1, e2⟩ := C7 hr
   have := (nG (of m)).2 hr
   rw [decide_eq_false this]
   refine ⟨[], true, rfl, by simp, ?_⟩
   rw [e1]; exact ⟨rfl, trivial, hr, e2⟩
  ·have : bz (of m) = 0 := Classical.byContradiction fun h => hr ((nG (of m)).1 h)
   rw [this]
   simp only [evt]
   rcases Dd hr with ⟨e1, e2⟩ | ⟨i, q, e1, hi, e2, hq, e3, e4⟩
   ·have hk : (of m).k ≠ 5 ∧ (of m).k ≠ 15 ∧ (of m).k ≠ 16 ∧ (of m).k ≠ 9 ∧ (of m).k ≠ 12 := by
      refine ⟨?_, ?_, ?_, ?_, ?_⟩ <;> intro hk <;> rw [hk] at e1 <;> exact absurd e1 (by decide)
    rw [decide_eq_false hk.1, decide_eq_false hk.2.1, decide_eq_false hk.2.2.1, decide_eq_false hk.2.2.2.1, decide_eq_false hk.2.2.2.2]
    refine ⟨[], false, rfl, by simp, ?_⟩
    rw [e2]
   ·have vq : vdM q = true := by
      unfold vdM; rw [← e2]; exact bF hv (jG hi)
    have ek : (of m).kids[i]? = some (of q) := by rw [cj hi, e2]
    obtain ⟨w, b, h1, hw, h3⟩ := E4 z q (by omega) (n := n) (by omega) vq
    have wl : cr ([(i : Int)] ++ ins w).length = true := aU (by simp [ins]; omega)
    have go : ∃ w' b', some ([.one (.fr (.is ([(i : Int)] ++ ins w))), bl b], []) = (some ([.one (.fr (.is (ins w'))), bl b'], []) : OR) ∧ w'.length ≤ (of m).size ∧ (match hdM m with | some u => b' = true ∧ AI (of m) w' ∧ Rx (atT (of m) w') ∧ puT (of m) w' (ay (atT (of m) w')) = of u | none => b' = false) := by
     refine ⟨i :: w, b, rfl, by simp only [List.length_cons]; omega, ?_⟩
     cases hh : hdM q with
     | none =>
      rw [hh] at h3
      rw [e3 hh]; exact h3
     | some v =>
      rw [hh] at h3
      obtain ⟨u, e5, e6⟩ := e4 v hh
      rw [e5]
      obtain ⟨g1, g2, g3, g4⟩ := h3
      refine ⟨g1, ⟨hi, by rw [e2]; exact g2⟩, by show Rx (atT (kd (of m) i) w); rw [e2]; exact g3, ?_⟩
      show T.mk (of m).k (of m).n ((of m).kids.set i (puT (kd (of m) i) w (ay (atT (kd (of m) i) w)))) = of u
      rw [e2, g4, e6]
    rcases BX (m := m) with hk | hk | hk | hk | hk | hk
    ·rw [hk] at e1 ⊢
     obtain rfl : i = 0 := by have : (0 : Int) = i := e1; omega
     simp only [decide_true, cond_true, show (0 : Int).toNat = 0 from rfl, ek, evt, h1]
     rw [show ([0] ++ ins w : List Int) = [((0 : Nat) : Int)] ++ ins w from rfl, wl]
     exact go
    ·rw [hk] at e1 ⊢
     obtain rfl : i = 0 := by have : (0 : Int) = i := e1; omega
     simp only [show decide ((15 : Int) = 5) = false from rfl, cond_false, decide_true, cond_true, show (0 : Int).toNat = 0 from rfl, ek, evt, h1]
     rw [show ([0] ++ ins w : List Int) = [((0 : Nat) : Int)] ++ ins w from rfl, wl]
     exact go
    ·rw [hk] at e1 ⊢
     obtain rfl : i = 0 := by have : (0 : Int) = i := e1; omega
     simp only [show decide ((16 : Int) = 5) = false from rfl, show decide ((16 : Int) = 15) = false from rfl, cond_false, decide_true, cond_true, show (0 : Int).toNat = 0 from rfl, ek, evt, h1]
     rw [show ([0] ++ ins w : List Int) = [((0 : Nat) : Int)] ++ ins w from rfl, wl]
     exact go
    ·rw [hk] at e1 ⊢
     obtain rfl : i = 3 := by have : (3 : Int) = i := e1; omega
     simp only [show decide ((9 : Int) = 5) = false from rfl, show decide ((9 : Int) = 15) = false from rfl, show decide ((9 : Int) = 16) = false from rfl, cond_false, decide_true, cond_true, show (3 : Int).toNat = 3 from rfl, ek, evt, h1]
     rw [show ([3] ++ ins w : List Int) = [((3 : Nat) : Int)] ++ ins w from rfl, wl]
     exact go
    ·rw [hk] at e1 ⊢
     obtain rfl : i = 1 := by have : (1 : Int) = i := e1; omega
     simp only [show decide ((12 : Int) = 5) = false from rfl, show decide ((12 : Int) = 15) = false from rfl, show decide ((12 : Int) = 16) = false from rfl, show decide ((12 : Int) = 9) = false from rfl, cond_false, decide_true, cond_true, show (1 : Int).toNat = 1 from rfl, ek, evt, h1]
     rw [show ([1] ++ ins w : List Int) = [((1 : Nat) : Int)] ++ ins w from rfl, wl]
     exact go
    ·rw [hk] at e1; omega
theorem tr (n : Nat) (hn : 5000000 ≤ n) (fuel : Nat) (hf : fuel ≤ 200) (k0 n0 : Int) (l0 : List T) : ∀ g c (s : Nat) (m : Tm), g < c → s + g = fuel → vdM m = true →
   ∃ x k e, a9 n c (fuel : Int) s (of m).k (of m).n (of m).kids k0 n0 l0 = some ([tm x, nt k, nt e], []) ∧ (match hrM g m with | some h => e = 0 ∧ x = of h | none => e ≠ 0)
 | g, 0, s, m, hg, _, _ => by omega
 | g, c + 1, s, m, hg, hs, hv => by
  have hz := ae hv
  obtain ⟨w, b, h1, hw, h3⟩ := E4 400 m hz (n := n) (by omega) hv
  rw [eH, h1]
  simp only [evs]
  cases hh : hdM m with
  | none =>
   rw [hh] at h3
   have h3 : b = false := h3
   subst h3
   have e1 : hrM g m = some m := by cases g <;> simp only [hrM, hh]
   rw [e1]
   simp only [Bool.not_false, cond_true, EL (of m) (n := n) (by omega) (by omega), evt]
   exact ⟨of m, s, 0, rfl, rfl, rfl⟩
  | some u =>
   rw [hh] at h3
   obtain ⟨rfl, ho, hr, hp⟩ := h3
   simp only [Bool.not_true, cond_false]
   cases g with
   | zero =>
    rw [decide_eq_true (show (s : Int) = fuel by omega)]
    refine ⟨.mk 0 0 [], s, 1, rfl, ?_⟩
    simp only [hrM, hh]; decide
   | succ g =>
    rw [decide_eq_false (show ¬ (s : Int) = fuel by omega), rH (n := n) (by omega) hv ho hr hw hp]
    simp only [evt, hrM, hh]
    cases hvu : vdM u with
    | false =>
     have : ah (of u) = false := hvu
     rw [this]
     refine ⟨.mk 0 0 [], s, 2, rfl, ?_⟩
     simp
    | true =>
     have e2 : ah (of u) = true := hvu
     simp (disch := omega) only [e2, jb e2, Bool.not_true, cond_false, if_true, wrap64, gD]
     exact tr n hn fuel hf k0 n0 l0 g c (s + 1) u (by omega) (by omega) hvu
theorem ue {n : Nat} {m : Tm} (hn : 6000000 ≤ n) (hz : (of m).size ≤ 400) : ∃ x e, FF n 158 [tm (of m), nt 200] [] = some ([tm x, nt e], []) ∧ (match O.hn m with | .ok h => e = 0 ∧ x = of h | _ => e ≠ 0) := by
 obtain ⟨n, rfl⟩ := af (show 0 < n by omega)
 obtain ⟨n, rfl⟩ := af (show 0 < n by omega)
 rw [lr, gV, bX (n := n) (by omega)]
 simp only [evt, O]
 cases hv : vdM m with
 | false =>
  have : ah (of m) = false := hv
  rw [this]
  exact ⟨.mk 0 0 [], 3, rfl, by show (3 : Int) ≠ 0; decide⟩
 | true =>
  have e : ah (of m) = true := hv
  rw [e, ia (n := n) (by omega)]
  simp only [evt, show (decide ((0 : Int) ≤ 200) && decide ((200 : Int) ≤ 200)) = true from rfl, if_true]
  obtain ⟨x, k, c, h1, h2⟩ := tr n (by omega) 200 (by omega) 0 0 [] 200 n 0 m (by omega) (by omega) hv
  have h1 : a9 n n 200 0 (of m).k (of m).n (of m).kids 0 0 [] = some ([tm x, nt k, nt c], []) := h1
  rw [h1]
  simp only [evt]
  cases hr : hrM 200 m with
  | none => rw [hr] at h2; exact ⟨x, c, rfl, h2⟩
  | some h => rw [hr] at h2; exact ⟨x, c, rfl, h2⟩
end Go.Proofs.YtajlknlnmmbfcaaGreat
end
section
namespace Go.Proofs.YtajlknlnmmbfcaaGreat
open Go Go.Ab Go.Dk
open Tm (Rs sq frm lvl chk fam bnd)
def cx (G : List Tm) : List T := (G.map of).reverse
theorem cA (G : List Tm) : (cx G).length = G.length := by simp [cx]
theorem BR (G : List Tm) (a : Tm) : cx (a :: G) = cx G ++ [of a] := by simp [cx]
theorem Fx : ∀ (G : List Tm) {n : Nat}, n < G.length → (cx G)[G.length - 1 - n]? = (G[n]?).map of := by
 intro G n h
 unfold cx
 rw [List.getElem?_reverse (by simp; omega), List.length_map, List.getElem?_map]
 congr 2; omega
theorem mM : ∀ {G : List Tm} {n : Nat} {A : Tm}, Tm.look G n = some A → ∃ B, G[n]? = some B ∧ A = B.ren (· + (n + 1))
 | B :: G, 0, A, h => by
  simp only [Tm.look, Option.some.injEq] at h; subst h
  exact ⟨B, rfl, rfl⟩
 | _ :: G, n + 1, A, h => by
  obtain ⟨C, hC, rfl⟩ := Option.map_eq_some_iff.1 h
  obtain ⟨B, h1, rfl⟩ := mM hC
  refine ⟨B, h1, ?_⟩
  rw [Tm.wk, Tm.ga]; rfl
theorem nz : ∀ {G : List Tm} {n : Nat}, Tm.look G n = none → G.length ≤ n
 | [], n, h => by simp
 | B :: G, 0, h => by cases h
 | _ :: G, n + 1, h => by
  have : Tm.look G n = none := by
   cases hl : Tm.look G n with
   | none => rfl
   | some A => simp [Tm.look, hl] at h
  have := nz this
  simp only [List.length_cons]; omega
theorem Cw {G : List Tm} {n : Nat} {A : Tm} (h : Tm.look G n = some A) : n < G.length := by
 obtain ⟨B, h, _⟩ := mM h
 exact (List.getElem?_eq_some_iff.1 h).1
def Er (c : Int) (r : Rs) : Prop := (c = 1 ∧ r = .bad) ∨ (c = 2 ∧ r = .opn)
theorem Er.ne {c : Int} {r : Rs} (h : Er c r) : c ≠ 0 := by rcases h with ⟨h, _⟩ | ⟨h, _⟩ <;> omega
theorem Er.bad : Er 1 .bad := .inl ⟨rfl, rfl⟩
theorem Er.opn : Er 2 .opn := .inr ⟨rfl, rfl⟩
def RL (o : OR) (r : Rs) : Prop := ∃ i c, o = some ([nt i, nt c], []) ∧ (match r with | .ok t => c = 0 ∧ ∃ k : Nat, t = .sort k ∧ i = k | .bad => c = 1 | .opn => c = 2)
def RC (o : OR) (r : Rs) : Prop := ∃ c, o = some ([nt c], []) ∧ (match r with | .ok t => c = 0 | .bad => c = 1 | .opn => c = 2)
def RK (o : OR) (r : Rs) : Prop := ∃ x c, o = some ([tm x, nt c], []) ∧ x.size ≤ 2000000 ∧ (match r with | .ok t => c = 0 ∧ x = of t | .bad => c = 1 | .opn => c = 2)
theorem bU {c : Int} {r : Rs} (h : Er c r) (y : T) (hy : y.size ≤ 2000000) : RK (some ([tm y, nt c], [])) r := by
 refine ⟨y, c, rfl, hy, ?_⟩
 rcases h with ⟨h, rfl⟩ | ⟨h, rfl⟩ <;> exact h
theorem oB {c : Int} {r : Rs} (h : Er c r) (y : T) (hy : y.size ≤ 1000000) : RS (some ([tm y, nt c], [])) r := by
 refine ⟨y, c, rfl, hy, ?_⟩
 rcases h with ⟨h, rfl⟩ | ⟨h, rfl⟩ <;> exact h
theorem sS {c : Int} {r : Rs} (h : Er c r) : RC (some ([nt c], [])) r := by
 refine ⟨c, rfl, ?_⟩
 rcases h with ⟨h, rfl⟩ | ⟨h, rfl⟩ <;> exact h
theorem E9 {c : Int} {r : Rs} (h : Er c r) (i : Int) : RL (some ([nt i, nt c], [])) r := by
 refine ⟨i, c, rfl, ?_⟩
 rcases h with ⟨h, rfl⟩ | ⟨h, rfl⟩ <;> exact h
theorem j1 : (T.mk 0 0 []).size ≤ 2000000 := by decide
theorem jR {x : Option Rs} {o : OR} {k : Tm → Option Rs} {r : Rs} (h : ∀ r, x = some r → RS o r) (e : sq x k = some r) : (∃ t, x = some (.ok t) ∧ o = some ([tm (of t), nt 0], []) ∧ k t = some r) ∨ ∃ y c, o = some ([tm y, nt c], []) ∧ Er c r := by
 cases x with
 | none => cases e
 | some s =>
  obtain ⟨y, c, h1, hy, h2⟩ := h s rfl
  cases s with
  | ok t => obtain ⟨rfl, rfl⟩ := h2; exact .inl ⟨t, rfl, h1, e⟩
  | bad => cases e; exact .inr ⟨y, c, h1, .inl ⟨h2, rfl⟩⟩
  | opn => cases e; exact .inr ⟨y, c, h1, .inr ⟨h2, rfl⟩⟩
theorem HO {x : Option Rs} {o : OR} {k : Tm → Option Rs} {r : Rs} (h : ∀ r, x = some r → RS o r) (e : sq x k = some r) : (∃ t, x = some (.ok t) ∧ o = some ([tm (of t), nt 0], []) ∧ k t = some r) ∨ ∃ y c, o = some ([tm y, nt c], []) ∧ y.size ≤ 1000000 ∧ Er c r := by
 cases x with
 | none => cases e
 | some s =>
  obtain ⟨y, c, h1, hy, h2⟩ := h s rfl
  cases s with
  | ok t => obtain ⟨rfl, rfl⟩ := h2; exact .inl ⟨t, rfl, h1, e⟩
  | bad => cases e; exact .inr ⟨y, c, h1, hy, .inl ⟨h2, rfl⟩⟩
  | opn => cases e; exact .inr ⟨y, c, h1, hy, .inr ⟨h2, rfl⟩⟩
theorem AF {x : Option Rs} {o : OR} {k : Tm → Option Rs} {r : Rs} (h : ∀ r, x = some r → RL o r) (e : sq x k = some r) : (∃ i : Nat, x = some (.ok (.sort i)) ∧ o = some ([nt i, nt 0], []) ∧ k (.sort i) = some r) ∨ ∃ i c, o = some ([nt i, nt c], []) ∧ Er c r := by
 cases x with
 | none => cases e
 | some s =>
  obtain ⟨y, c, h1, h2⟩ := h s rfl
  cases s with
  | ok t => obtain ⟨rfl, k, rfl, rfl⟩ := h2; exact .inl ⟨k, rfl, h1, e⟩
  | bad => cases e; exact .inr ⟨y, c, h1, .inl ⟨h2, rfl⟩⟩
  | opn => cases e; exact .inr ⟨y, c, h1, .inr ⟨h2, rfl⟩⟩
theorem kH {x : Option Rs} {o : OR} {k : Tm → Option Rs} {r : Rs} (h : ∀ r, x = some r → RC o r) (e : sq x k = some r) : (∃ t, x = some (.ok t) ∧ o = some ([nt 0], []) ∧ k t = some r) ∨ ∃ c, o = some ([nt c], []) ∧ Er c r := by
 cases x with
 | none => cases e
 | some s =>
  obtain ⟨c, h1, h2⟩ := h s rfl
  cases s with
  | ok t => have h2 : c = 0 := h2; subst h2; exact .inl ⟨t, rfl, h1, e⟩
  | bad => cases e; exact .inr ⟨c, h1, .inl ⟨h2, rfl⟩⟩
  | opn => cases e; exact .inr ⟨c, h1, .inr ⟨h2, rfl⟩⟩
theorem wo {o : OR} {P : OR → Rs → Prop} {s : Rs} (h : P o s) : ∀ r, some s = some r → P o r := fun r e => by cases e; exact h
def Iv (f : FuncId) (M : Nat) (c : List T) (t : T) (x : Option Rs) : Prop := ∀ m, M ≤ m → ∀ r, x = some r → RS (FF m f [tms c, tm t] []) r
theorem xO {n : Nat} {a b : Tm} (hn : 6000500 ≤ n) (ha : (of a).size ≤ 1000000) (hb : (of b).size ≤ 1000000) : RC (FF n 115 [tm (of a), tm (of b)] []) (O.sm a b) := by
 obtain ⟨n, rfl⟩ := af (show 0 < n by omega)
 rw [sH, aL (n := n) (t := of a) (by omega) (by omega)]
 simp only [evt, O]
 cases va : vdM a with
 | false =>
  have : ah (of a) = false := va
  rw [this]; exact ⟨2, rfl, rfl⟩
 | true =>
  have ea : ah (of a) = true := va
  rw [ea, aL (n := n) (t := of b) (by omega) (by omega)]
  simp only [evt]
  cases vb : vdM b with
  | false =>
   have : ah (of b) = false := vb
   rw [this]; exact ⟨2, rfl, rfl⟩
  | true =>
   have eb : ah (of b) = true := vb
   have hc := Eg (n := n) (a := of a) (b := of b) (g := 200) (by omega) ea eb (by omega)
   have hc : FF n 153 [tm (of a), tm (of b), nt 200] [] = some ([nt (g7 (of a) (of b) 200)], []) := hc
   rw [eb]
   simp only [Bool.not_true, cond_false]
   rw [hc]
   simp only [evt, and_self, if_true, ax]
   by_cases h1 : g7 (of a) (of b) 200 = 1
   ·rw [if_pos h1, if_pos h1]; exact ⟨0, rfl, rfl⟩
   ·rw [if_neg h1, if_neg h1]
    by_cases h2 : g7 (of a) (of b) 200 = 2
    ·rw [if_pos h2, if_pos h2]; exact ⟨1, rfl, rfl⟩
    ·rw [if_neg h2, if_neg h2]; exact ⟨2, rfl, rfl⟩
section
variable {M n : Nat} {c : List T} {t : T} {x : Option Rs}
theorem iX (hM : 6000500 ≤ M) (hn : M + 1 ≤ n) (h : Iv 74 M c t x) (hv : ∀ s, x = some (.ok s) → vdM s = true) (k : Int) {g : Tm → Option Rs} {r : Rs} (e : sq (frm O x) g = some r) :
   (∃ f, FF n 167 [tms c, tm t, nt k] [] = some ([tm (of f), nt 0], []) ∧ (of f).k = k ∧ vdM f = true ∧ frm O x = some (.ok f) ∧ g f = some r) ∨ (∃ f, FF n 167 [tms c, tm t, nt k] [] = some ([tm (.mk 0 0 []), nt 1], []) ∧ (of f).k ≠ k ∧ g f = some r) ∨
    ∃ y c', FF n 167 [tms c, tm t, nt k] [] = some ([tm y, nt c'], []) ∧ Er c' r := by
 obtain ⟨n, rfl⟩ := af (show 0 < n by omega)
 unfold frm at e ⊢
 rw [Tm.aZ] at e
 rw [pH]
 rcases jR (h n (by omega)) e with ⟨s, e1, eo, e2⟩ | ⟨y, c', eo, hc⟩
 ·rw [eo]
  simp only [evt]
  have hs := ae (hv s e1)
  rcases jR (wo (P := RS) (kE (n := n) (m := s) (by omega) (by omega))) e2 with ⟨f, e3, eo, e4⟩ | ⟨y, c', eo, hc⟩
  ·rw [eo]
   simp only [evt]
   have vf := (aF.hn_ok (Option.some.inj e3)).2.2
   by_cases hk : (of f).k = k
   ·rw [decide_eq_true hk]
    refine .inl ⟨f, rfl, hk, vf, ?_, e4⟩
    rw [e1]; exact e3
   ·rw [decide_eq_false hk]
    exact .inr (.inl ⟨f, rfl, hk, e4⟩)
  ·rw [eo]
   simp only [evt]
   rw [decide_eq_false hc.ne]
   exact .inr (.inr ⟨.mk 0 0 [], c', rfl, hc⟩)
 ·rw [eo]
  simp only [evt]
  rw [decide_eq_false hc.ne]
  exact .inr (.inr ⟨.mk 0 0 [], c', rfl, hc⟩)
theorem gy (hM : 6000500 ≤ M) (hn : M + 1 ≤ n) (h : Iv 74 M c t x) (hv : ∀ s, x = some (.ok s) → vdM s = true) : ∀ r, lvl O x = some r → RL (FF n 72 [tms c, tm t] []) r := by
 intro r e
 obtain ⟨n, rfl⟩ := af (show 0 < n by omega)
 unfold lvl frm at e
 rw [Tm.aZ] at e
 rw [kK]
 rcases jR (h n (by omega)) e with ⟨s, e1, eo, e2⟩ | ⟨y, c', eo, hc⟩
 ·rw [eo]
  simp only [evt]
  have hs := ae (hv s e1)
  rcases jR (wo (P := RS) (kE (n := n) (m := s) (by omega) (by omega))) e2 with ⟨f, e3, eo, e4⟩ | ⟨y, c', eo, hc⟩
  ·rw [eo]
   simp only [evt]
   cases f with
   | sort i => cases e4; exact ⟨i, 0, rfl, rfl, i, rfl, rfl⟩
   | _ => cases e4; exact ⟨0, 1, rfl, rfl⟩
  ·rw [eo]
   simp only [evt]
   rw [decide_eq_false hc.ne]
   exact E9 hc 0
 ·rw [eo]
  simp only [evt]
  rw [decide_eq_false hc.ne]
  exact E9 hc 0
theorem cT (hM : 6000500 ≤ M) (hn : M + 1 ≤ n) (h : Iv 74 M c t x) (hv : ∀ s, x = some (.ok s) → vdM s = true) {w : Tm} (hw : (of w).size ≤ 1000000) : ∀ r, chk O x w = some r → RC (FF n 85 [tms c, tm t, tm (of w)] []) r := by
 intro r e
 obtain ⟨n, rfl⟩ := af (show 0 < n by omega)
 rw [pg]
 rcases jR (h n (by omega)) e with ⟨s, e1, eo, e2⟩ | ⟨y, c', eo, hc⟩
 ·rw [eo]
  simp only [evt]
  have hs := ae (hv s e1)
  cases e2
  obtain ⟨c', h1, h2⟩ := xO (n := n) (a := s) (b := w) (by omega) (by omega) hw
  rw [h1]
  exact ⟨c', rfl, h2⟩
 ·rw [eo]
  simp only [evt]
  rw [decide_eq_false hc.ne]
  exact sS hc
theorem pU (hM : 6000500 ≤ M) (hn : M + 2 ≤ n) (h : Iv 74 M c t x) (hv : ∀ s, x = some (.ok s) → vdM s = true) {w : Tm} (hw : (of w).size ≤ 1000000) : ∀ r, fam O x w = some r → RC (FF n 169 [tms c, tm t, tm (of w)] []) r := by
 intro r e
 obtain ⟨n, rfl⟩ := af (show 0 < n by omega)
 rw [nF]
 rcases iX hM (n := n) (by omega) h hv 3 e with ⟨f, eo, hk, vf, ef, e2⟩ | ⟨f, eo, hk, e2⟩ | ⟨y, c', eo, hc⟩
 ·rw [eo]
  cases f <;> try (rw [gE] at hk; simp only [Int.reduceEq] at hk; done)
  rename_i C D
  have sz := ae vf
  simp only [of, T.size, T.aE] at sz
  simp only [evt, of, show (0 : Int).toNat = 0 from rfl, show (1 : Int).toNat = 1 from rfl, List.getElem?_cons_zero, List.getElem?_cons_succ]
  rcases kH (wo (P := RC) (xO (n := n) (a := C) (b := w) (by omega) (by omega) hw)) e2 with ⟨t', e3, eo, e4⟩ | ⟨c', eo, hc⟩
  ·rw [eo]
   simp only [evt]
   rcases jR (wo (P := RS) (kE (n := n) (m := D) (by omega) (by omega))) e4 with ⟨f, e5, eo, e6⟩ | ⟨y, c', eo, hc⟩
   ·rw [eo]
    simp only [evt]
    cases f with
    | sort i => cases e6; exact ⟨0, rfl, rfl⟩
    | _ => cases e6; exact ⟨1, rfl, rfl⟩
   ·rw [eo]
    simp only [evt]
    rw [decide_eq_false hc.ne]
    exact sS hc
  ·rw [eo]
   simp only [evt]
   rw [decide_eq_false hc.ne]
   exact sS hc
 ·rw [eo]
  simp only [evt]
  have : r = .bad := by
   cases f <;> first | (exact absurd (gE _) hk) | (cases e2; rfl)
  subst this
  exact sS .bad
 ·rw [eo]
  simp only [evt]
  rw [decide_eq_false hc.ne]
  exact sS hc
end
theorem zQ {n : Nat} (hn : 1 ≤ n) (a b : Nat) : FF n 166 [nt a, nt b] [] = some ([nt ((max a b : Nat) : Int)], []) := by
 obtain ⟨n, rfl⟩ := af (show 0 < n by omega)
 rw [oq]
 by_cases h : (b : Int) < a
 ·rw [decide_eq_true h, Nat.max_eq_left (by omega)]; rfl
 ·rw [decide_eq_false h, Nat.max_eq_right (by omega)]; rfl
theorem xM {n : Nat} (hn : 1 ≤ n) (c : List T) (t : T) (hl : c.length ≤ 1000) : FF n 165 [tms c, tm t] [] = some ([tms (c ++ [t])], []) := by
 obtain ⟨n, rfl⟩ := af (show 0 < n by omega)
 rw [qP, aU (by simp; omega), aU (by simp; omega), T.eta]; rfl
theorem vI {m : Tm} (h : vdM m = true) : gdB (of m) = true := gw h
theorem Bc {n : Nat} {b u : Tm} (hn : 5000 ≤ n) (hb : vdM b = true) (hu : vdM u = true) : FF n 168 [tm (of b), nt 0, tm (of u), nt 0] [] = some ([tm (of (b.inst u))], []) := by
 have h1 := ae hb
 have h2 := ae hu
 rw [uL (of u) (vI hu) (by omega) (of b) (by omega) (vI hb) 0 0 (by omega) (by omega) (by omega) (by omega), lL]
theorem gG {b u : Tm} (hb : vdM b = true) (hu : vdM u = true) : (of (b.inst u)).size ≤ 160000 := by
 have h1 := ae hb
 have h2 := ae hu
 rw [← lL]
 exact Nat.le_trans (qV (of u) (of b) 0 0) (Nat.mul_le_mul h1 h2)
theorem mU {n : Nat} {b : Tm} {a : Nat} (hn : 5000 ≤ n) (hb : vdM b = true) (ha : a ≤ 100) : FF n 83 [tm (of b), nt (a : Int), nt 0] [] = some ([tm (of (b.ren (· + a)))], []) := by
 have h1 := ae hb
 rw [uw (a : Int) (by omega) (of b) (by omega) (vI hb) 0 (by omega) (by omega)]
 have := Ah a b 0
 rw [jn] at this
 rw [← this]; rfl
theorem vp {p : Tm} (hp : vdM p = true) : (of (Tm.aW p)).size ≤ 1000 := by
 have h1 := ae hp
 have e : ∀ t : Tm, (of t.wk).size = (of t).size := fun t => by rw [← Jp, lj]
 simp only [Tm.aW, of, T.size, T.aE, e]; omega
theorem tz {n : Nat} {p : Tm} (hn : 6000 ≤ n) (hp : vdM p = true) : FF n 170 [tm (of p)] [] = some ([tm (of (Tm.aW p))], []) := by
 obtain ⟨n, rfl⟩ := af (show 0 < n by omega)
 have s1 := mU (n := n) (a := 1) (by omega) hp (by omega)
 have s2 := mU (n := n) (a := 2) (by omega) hp (by omega)
 have s1 : FF n 83 [tm (of p), nt 1, nt 0] [] = some ([tm (of (p.ren (· + 1)))], []) := s1
 have s2 : FF n 83 [tm (of p), nt 2, nt 0] [] = some ([tm (of (p.ren (· + 2)))], []) := s2
 have e2 : p.wk.wk = p.ren (· + 2) := by rw [Tm.wk, Tm.wk, Tm.ga]
 rw [kX, s1, s2]
 simp (disch := first | omega | simp) only [evt, bx, bE, Tm.aW, of, e2]
 rfl
theorem oY (a : T) (l : List T) : (a :: l)[(0 : Int).toNat]? = some a := rfl
theorem pC (a b : T) (l : List T) : (a :: b :: l)[(1 : Int).toNat]? = some b := rfl
theorem GS (a b d : T) (l : List T) : (a :: b :: d :: l)[(2 : Int).toNat]? = some d := rfl
theorem KG (a b d e : T) (l : List T) : (a :: b :: d :: e :: l)[(3 : Int).toNat]? = some e := rfl
end Go.Proofs.YtajlknlnmmbfcaaGreat
end
section
namespace Go.Proofs.YtajlknlnmmbfcaaGreat
open Go Go.Ab Go.Dk
open Tm (Rs sq frm lvl chk fam made ext inI kI)
abbrev hp (c : List T) (t : T) : List au := [.cells [.fr (.ts c)], .cells [.int .i64 t.k, .int .i64 t.n, .fr (.ts t.kids)]]
abbrev jd (c : List T) (t : T) : V1 := .agg [.fr (.ts c), .int .i64 t.k, .int .i64 t.n, .fr (.ts t.kids), .fn 98 [0, 1]]
def RSh (h : List au) (o : OR) (r : Rs) : Prop := ∃ x c, o = some ([tm x, nt c], h) ∧ (match r with | .ok t => c = 0 ∧ x = of t | .bad => c = 1 | .opn => c = 2)
def RLh (h : List au) (o : OR) (r : Rs) : Prop := ∃ i c, o = some ([nt i, nt c], h) ∧ (match r with | .ok t => c = 0 ∧ ∃ k : Nat, t = .sort k ∧ i = k | .bad => c = 1 | .opn => c = 2)
def RCh (h : List au) (o : OR) (r : Rs) : Prop := ∃ c, o = some ([nt c], h) ∧ (match r with | .ok t => c = 0 | .bad => c = 1 | .opn => c = 2)
section
variable {h : List au} {c : Int} {r : Rs} {x : Option Rs} {o : OR} {k : Tm → Option Rs}
theorem a6 (e : Er c r) (y : T) : RSh h (some ([tm y, nt c], h)) r := by
 refine ⟨y, c, rfl, ?_⟩
 rcases e with ⟨h, rfl⟩ | ⟨h, rfl⟩ <;> exact h
theorem rj (e : Er c r) : RCh h (some ([nt c], h)) r := by
 refine ⟨c, rfl, ?_⟩
 rcases e with ⟨h, rfl⟩ | ⟨h, rfl⟩ <;> exact h
theorem qE (e : Er c r) (i : Int) : RLh h (some ([nt i, nt c], h)) r := by
 refine ⟨i, c, rfl, ?_⟩
 rcases e with ⟨h, rfl⟩ | ⟨h, rfl⟩ <;> exact h
theorem qy (hh : ∀ r, x = some r → RSh h o r) (e : sq x k = some r) : (∃ t, x = some (.ok t) ∧ o = some ([tm (of t), nt 0], h) ∧ k t = some r) ∨ ∃ y c, o = some ([tm y, nt c], h) ∧ Er c r := by
 cases x with
 | none => cases e
 | some s =>
  obtain ⟨y, c, h1, h2⟩ := hh s rfl
  cases s with
  | ok t => obtain ⟨rfl, rfl⟩ := h2; exact .inl ⟨t, rfl, h1, e⟩
  | bad => cases e; exact .inr ⟨y, c, h1, .inl ⟨h2, rfl⟩⟩
  | opn => cases e; exact .inr ⟨y, c, h1, .inr ⟨h2, rfl⟩⟩
theorem qp (hh : ∀ r, x = some r → RLh h o r) (e : sq x k = some r) : (∃ i : Nat, x = some (.ok (.sort i)) ∧ o = some ([nt i, nt 0], h) ∧ k (.sort i) = some r) ∨ ∃ i c, o = some ([nt i, nt c], h) ∧ Er c r := by
 cases x with
 | none => cases e
 | some s =>
  obtain ⟨y, c, h1, h2⟩ := hh s rfl
  cases s with
  | ok t => obtain ⟨rfl, k, rfl, rfl⟩ := h2; exact .inl ⟨k, rfl, h1, e⟩
  | bad => cases e; exact .inr ⟨y, c, h1, .inl ⟨h2, rfl⟩⟩
  | opn => cases e; exact .inr ⟨y, c, h1, .inr ⟨h2, rfl⟩⟩
theorem iB (hh : ∀ r, x = some r → RCh h o r) (e : sq x k = some r) : (∃ t, x = some (.ok t) ∧ o = some ([nt 0], h) ∧ k t = some r) ∨ ∃ c, o = some ([nt c], h) ∧ Er c r := by
 cases x with
 | none => cases e
 | some s =>
  obtain ⟨c, h1, h2⟩ := hh s rfl
  cases s with
  | ok t => have h2 : c = 0 := h2; subst h2; exact .inl ⟨t, rfl, h1, e⟩
  | bad => cases e; exact .inr ⟨c, h1, .inl ⟨h2, rfl⟩⟩
  | opn => cases e; exact .inr ⟨c, h1, .inr ⟨h2, rfl⟩⟩
end
theorem yT {n : Nat} (hn : 1 ≤ n) (i : Int) : FF n 124 [nt i] [] = some ([tm (.mk 2 i [])], []) := by
 obtain ⟨n, rfl⟩ := af (show 0 < n by omega)
 exact xm n i
theorem rN {n : Nat} (hn : 1 ≤ n) (k : Int) : FF n 70 [nt k, .one (.emp none)] [] = some ([tm (.mk k 0 [])], []) := by
 obtain ⟨n, rfl⟩ := af (show 0 < n by omega)
 exact oR n k
theorem lh {n : Nat} {a b : Tm} (hn : 7000500 ≤ n) (ha : (of a).size ≤ 100000) (hb : (of b).size ≤ 100000) : RC (FF n 96 [tm (of a), tm (of b)] []) (O.sm a b) := by
 obtain ⟨n, rfl⟩ := af (show 0 < n by omega)
 rw [oH, iu (n := n) (by omega) ha hb]
 simp only [evt, O, ax]
 by_cases hv : vdM a = true ∧ vdM b = true
 ·have e : qO (of a) (of b) 200 = g7 (of a) (of b) 200 := oQ ⟨hv.1, hv.2, by decide, by decide⟩
  rw [e, if_pos hv]
  by_cases h1 : g7 (of a) (of b) 200 = 1
  ·rw [if_pos h1, if_pos h1]; exact ⟨0, rfl, rfl⟩
  ·rw [if_neg h1, if_neg h1]
   by_cases h2 : g7 (of a) (of b) 200 = 2
   ·rw [if_pos h2, if_pos h2]; exact ⟨1, rfl, rfl⟩
   ·rw [if_neg h2, if_neg h2]; exact ⟨2, rfl, rfl⟩
 ·have e : qO (of a) (of b) 200 = 0 := if_neg (fun hh => hv ⟨hh.1, hh.2.1⟩)
  rw [e, if_neg hv]
  exact ⟨2, rfl, rfl⟩
theorem mV {n : Nat} {m : Tm} (hn : 6000500 ≤ n) (hz : (of m).size ≤ 400) (k : Int) {g : Tm → Option Rs} {r : Rs} (e : sq (some (O.hn m)) g = some r) :
   (∃ f, FF n 119 [tm (of m), nt k] [] = some ([tm (of f), nt 0], []) ∧ (of f).k = k ∧ vdM f = true ∧ O.hn m = .ok f ∧ g f = some r) ∨ (∃ f, FF n 119 [tm (of m), nt k] [] = some ([tm (.mk 0 0 []), nt 1], []) ∧ (of f).k ≠ k ∧ g f = some r) ∨
    (FF n 119 [tm (of m), nt k] [] = some ([tm (.mk 0 0 []), nt 2], []) ∧ r = .opn) := by
 obtain ⟨n, rfl⟩ := af (show 0 < n by omega)
 obtain ⟨x, c, h1, h2⟩ := ue (n := n) (m := m) (by omega) hz
 rw [ri, h1]
 simp only [evt]
 cases hh : O.hn m with
 | ok f =>
  rw [hh] at h2 e
  obtain ⟨rfl, rfl⟩ := h2
  have vf := (aF.hn_ok hh).2.2
  simp only [evt]
  by_cases hk : (of f).k = k
  ·rw [decide_eq_true hk]
   exact .inl ⟨f, rfl, hk, vf, rfl, e⟩
  ·rw [decide_eq_false hk]
   exact .inr (.inl ⟨f, rfl, hk, e⟩)
 | bad => exact absurd hh (aF.hn_nb m)
 | opn =>
  rw [hh] at h2 e
  have h2 : c ≠ 0 := h2
  rw [decide_eq_false h2]
  cases e
  exact .inr (.inr ⟨rfl, rfl⟩)
theorem p8 {n : Nat} (hn : 1 ≤ n) (t : T) : FF n 123 [tm t, bl false] [] = some ([tm (.mk 0 0 []), nt 2], []) := by
 obtain ⟨n, rfl⟩ := af (show 0 < n by omega)
 exact jK n t.k t.n t.kids false
theorem l9 {n : Nat} {m : Tm} (hn : (of m).size + 10 ≤ n) : ∀ r, made O m = some r → RS (FF n 123 [tm (of m), bl true] []) r := by
 intro r e
 obtain ⟨n, rfl⟩ := af (show 0 < n by omega)
 unfold made at e
 rw [jK, bX (n := n) (by omega)]
 simp only [evt]
 cases hv : vdM m with
 | false =>
  have ev : ah (of m) = false := hv
  rw [if_neg (by rw [show O.vd m = vdM m from rfl, hv]; simp)] at e; cases e
  rw [ev]
  exact oB .opn _ j0
 | true =>
  have ev : ah (of m) = true := hv
  have zv := ae ev
  rw [if_pos (by rw [show O.vd m = vdM m from rfl, hv])] at e; cases e
  rw [ev]
  exact ⟨of m, 0, rfl, by omega, rfl, rfl⟩
theorem sf {n : Nat} {m : Tm} (hn : (of m).size + 500 ≤ n) : ∀ r, made O m = some r → RS (FF n 123 [tm (if ah (of m) then of m else .mk 0 0 []), bl (ah (of m))] []) r := by
 intro r e
 cases hv : vdM m with
 | false =>
  have ev : ah (of m) = false := hv
  unfold made at e
  rw [if_neg (by rw [show O.vd m = vdM m from rfl, hv]; simp)] at e; cases e
  rw [ev]
  rw [p8 (by omega)]
  exact oB .opn _ j0
 | true =>
  have ev : ah (of m) = true := hv
  rw [ev, if_pos rfl]
  exact l9 (by omega) r e
theorem yS {n : Nat} (hn : 1 ≤ n) (a : T) (l : List T) (k m : Int) : FF n 130 [tm (.mk k m (a :: l))] [] = some ([tm a], []) := by
 obtain ⟨n, rfl⟩ := af (show 0 < n by omega)
 have := kJ n k m (a :: l)
 rw [decide_eq_false (show ¬ ((a :: l).length : Int) = 0 by simp only [List.length_cons]; omega), oY] at this
 exact this
theorem kj {n : Nat} (hn : 1 ≤ n) : FF n 130 [tm (.mk 0 0 [])] [] = some ([tm (.mk 0 0 [])], []) := by
 obtain ⟨n, rfl⟩ := af (show 0 < n by omega)
 rw [kJ]; rfl
theorem sC {p : Tm} (a : Nat) : shT (a : Int) (of p) 0 = of (p.ren (· + a)) := by
 have := Ah a p 0
 rw [jn] at this
 exact this
theorem Eu {p : Tm} (a : Nat) (h : ah (of (Tm.aW p)) = true) : ah (of p.wk) = true ∧ ah (of p.wk.wk) = true := by
 have k : ∀ {t u : T}, ah t = true → u ∈ t.kids → ah u = true := fun h hu => bF h hu
 have h1 := k (u := .mk 3 0 [.mk 5 0 [of p.wk, .mk 1 0 []], .mk 5 0 [of p.wk.wk, .mk 8 0 [.mk 1 1 []]]]) h (by simp [Tm.aW, of, T.kids])
 have h2 := k (u := .mk 5 0 [of p.wk, .mk 1 0 []]) h1 (by simp [T.kids])
 have h3 := k (u := .mk 5 0 [of p.wk.wk, .mk 8 0 [.mk 1 1 []]]) h1 (by simp [T.kids])
 exact ⟨k h2 (by simp [T.kids]), k h3 (by simp [T.kids])⟩
theorem zP {n : Nat} {p : Tm} (hn : 6000 ≤ n) (hp : vdM p = true) : ∀ r, made O (Tm.aW p) = some r → RS (FF n 163 [tm (of p)] []) r := by
 intro r e
 obtain ⟨n, rfl⟩ := af (show 0 < n by omega)
 have zp := ae hp
 have zs := vp hp
 have s1 := nd (n := n) (t := of p) (a := 1) (c := 0) (by omega) (vI hp) (by omega) (by omega) (by omega)
 have s2 := nd (n := n) (t := of p) (a := 2) (c := 0) (by omega) (vI hp) (by omega) (by omega) (by omega)
 have e1 : shT 1 (of p) 0 = of p.wk := Jp p
 have e2 : shT 2 (of p) 0 = of p.wk.wk := by rw [Tm.wk, Tm.wk, Tm.ga]; exact sC 2
 rw [e1, shR, e1] at s1
 rw [e2, shR, e2] at s2
 rw [nU, s1, s2]
 simp (disch := first | omega | simp) only [evt, rN, kx, lP]
 by_cases hv : ah (of (Tm.aW p)) = true
 ·obtain ⟨h1, h2⟩ := Eu 0 hv
  rw [h1, h2, if_pos rfl, if_pos rfl]
  obtain ⟨x, c, eo, hx, h3⟩ := l9 (n := n) (m := Tm.aW p) (by omega) r e
  simp only [Tm.aW, of, tm, cP, cQ, az] at eo
  simp only [evt]
  have eo' : FF n 123 [V1.agg [SV.int IntKind.i64 3, SV.int IntKind.i64 0, SV.fr (SD.ts [T.mk 6 0 [], T.mk 3 0 [T.mk 5 0 [of p.wk, T.mk 1 0 []], T.mk 5 0 [of p.wk.wk, T.mk 8 0 [T.mk 1 1 []]]]])], V1.one (SV.bool true)] [] = some ([tm x, nt c], []) := eo
  rw [eo']
  exact ⟨x, c, rfl, hx, h3⟩
 ·have ev : ah (of (Tm.aW p)) = false := by simpa using hv
  have er : r = .opn := by
   unfold made at e
   rw [if_neg (by rw [show O.vd (Tm.aW p) = ah (of (Tm.aW p)) from rfl, ev]; simp)] at e
   cases e; rfl
  subst er
  have fin : ∀ a b l c, FF n 123 [.agg [.int .i64 a, .int .i64 b, .fr (.ts l)], bl c] [] = some ([tm (.mk 0 0 []), nt 2], []) → RS ((FF n 123 [.agg [.int .i64 a, .int .i64 b, .fr (.ts l)], bl c] []).bind fun x34 => ag x34.1 fun x35 x36 => aC .i64 x36 fun x37 x38 => ai x38 (aj x34.2 (some ([.agg [.int .i64 (x35).k, .int .i64 (x35).n, .fr (.ts (x35).kids)], .one (.int .i64 x37)], [])))) .opn := fun a b l c h => by
   rw [h]
   exact oB .opn (.mk 0 0 []) j0
  have nf : ∀ a b l, FF n 123 [.agg [.int .i64 a, .int .i64 b, .fr (.ts l)], bl false] [] = some ([tm (.mk 0 0 []), nt 2], []) := fun a b l => p8 (by omega) (.mk a b l)
  cases h1 : ah (of p.wk) with
  | false =>
   simp only [cond_false]
   exact fin _ _ _ _ (nf _ _ _)
  | true =>
   simp only [cond_true]
   cases h2 : ah (of p.wk.wk) with
   | false => exact fin _ _ _ _ (nf _ _ _)
   | true =>
    simp only [if_true]
    refine fin _ _ _ _ ?_
    have hm : FF n 123 [tm (of (Tm.aW p)), bl true] [] = some ([tm (.mk 0 0 []), nt 2], []) := by
     obtain ⟨n, rfl⟩ := af (show 0 < n by omega)
     rw [jK, bX (n := n) (by omega), ev]; rfl
    exact hm
end Go.Proofs.YtajlknlnmmbfcaaGreat
end
section
namespace Go.Proofs.YtajlknlnmmbfcaaGreat
open Go Go.Ab Go.Dk
open Tm (Rs sq frm lvl chk fam made ext inI kI)
structure Op (M : Nat) (c : List T) (t : T) (i : Int) (x : Option Rs) : Prop where
 iv : ∀ m, M ≤ m → ∀ r, x = some r → RSh (hp c t) (FF m 98 [nt i, .one (.ptr 0 0), .one (.ptr 1 0)] (hp c t)) r
 ok : ∀ s, x = some (.ok s) → vdM s = true
section
variable {M n : Nat} {c : List T} {t : T} {i : Int} {x : Option Rs}
theorem pO (hM : 7000500 ≤ M) (hn : M + 1 ≤ n) (h : Op M c t i x) (k : Int) {g : Tm → Option Rs} {r : Rs} (e : sq (frm O x) g = some r) :
   (∃ f, FF n 128 [jd c t, nt i, nt k] (hp c t) = some ([tm (of f), nt 0], hp c t) ∧ (of f).k = k ∧ vdM f = true ∧ g f = some r) ∨ (∃ f, FF n 128 [jd c t, nt i, nt k] (hp c t) = some ([tm (.mk 0 0 []), nt 1], hp c t) ∧ (of f).k ≠ k ∧ g f = some r) ∨
    ∃ c', FF n 128 [jd c t, nt i, nt k] (hp c t) = some ([tm (.mk 0 0 []), nt c'], hp c t) ∧ Er c' r := by
 obtain ⟨n, rfl⟩ := af (show 0 < n by omega)
 unfold frm at e
 rw [Tm.aZ] at e
 rw [eS]
 rcases qy (h.iv n (by omega)) e with ⟨s, e1, eo, e2⟩ | ⟨y, c', eo, hc⟩
 ·rw [eo]
  simp only [evt]
  have hs := ae (h.ok s e1)
  rcases mV (n := n) (m := s) (by omega) hs k e2 with ⟨f, eo, hk, vf, _, e3⟩ | ⟨f, eo, hk, e3⟩ | ⟨eo, rfl⟩
  ·rw [eo]; exact .inl ⟨f, rfl, hk, vf, e3⟩
  ·rw [eo]; exact .inr (.inl ⟨f, rfl, hk, e3⟩)
  ·rw [eo]; exact .inr (.inr ⟨2, rfl, .opn⟩)
 ·rw [eo]
  simp only [evt]
  rw [decide_eq_false hc.ne]
  exact .inr (.inr ⟨c', rfl, hc⟩)
theorem kV (hM : 7000500 ≤ M) (hn : M + 2 ≤ n) (h : Op M c t i x) : ∀ r, lvl O x = some r → RLh (hp c t) (FF n 161 [jd c t, nt i] (hp c t)) r := by
 intro r e
 obtain ⟨n, rfl⟩ := af (show 0 < n by omega)
 rw [eJ]
 rcases pO hM (n := n) (by omega) h 2 e with ⟨f, eo, hk, vf, e2⟩ | ⟨f, eo, hk, e2⟩ | ⟨c', eo, hc⟩
 ·rw [eo]
  cases f <;> try (rw [gE] at hk; simp only [Int.reduceEq] at hk; done)
  rename_i j
  cases e2
  simp only [evt]
  exact ⟨j, 0, rfl, rfl, j, rfl, rfl⟩
 ·rw [eo]
  simp only [evt]
  have : r = .bad := by
   cases f <;> first | (exact absurd (gE _) hk) | (cases e2; rfl)
  subst this
  exact qE .bad 0
 ·rw [eo]
  simp only [evt]
  exact qE hc 0
theorem kN (hM : 7000500 ≤ M) (hn : M + 1 ≤ n) (h : Op M c t i x) {w : Tm} (hw : (of w).size ≤ 100000) : ∀ r, chk O x w = some r → RCh (hp c t) (FF n 125 [jd c t, nt i, tm (of w)] (hp c t)) r := by
 intro r e
 obtain ⟨n, rfl⟩ := af (show 0 < n by omega)
 rw [eE]
 rcases qy (h.iv n (by omega)) e with ⟨s, e1, eo, e2⟩ | ⟨y, c', eo, hc⟩
 ·rw [eo]
  simp only [evt]
  have hs := ae (h.ok s e1)
  cases e2
  obtain ⟨c', h1, h2⟩ := lh (n := n) (a := s) (b := w) (by omega) (by omega) hw
  rw [h1]
  exact ⟨c', rfl, h2⟩
 ·rw [eo]
  simp only [evt]
  rw [decide_eq_false hc.ne]
  exact rj hc
theorem zY (hM : 7000500 ≤ M) (hn : M + 2 ≤ n) (h : Op M c t i x) {w : Tm} (hw : (of w).size ≤ 100000) : ∀ r, chk O x w = some r → RCh (hp c t) (FF n 129 [jd c t, nt i, tm (of w), nt 0] (hp c t)) r := by
 intro r e
 obtain ⟨n, rfl⟩ := af (show 0 < n by omega)
 rw [cD]
 simp only [evt]
 obtain ⟨c', h1, h2⟩ := kN hM (n := n) (by omega) h hw r e
 rw [h1]
 exact ⟨c', rfl, h2⟩
theorem mm (hn : 1 ≤ n) (w : T) {c' : Int} (hc : c' ≠ 0) : FF n 129 [jd c t, nt i, tm w, nt c'] (hp c t) = some ([nt c'], hp c t) := by
 obtain ⟨n, rfl⟩ := af (show 0 < n by omega)
 rw [cD, decide_eq_false hc]; rfl
theorem ux (hM : 7000500 ≤ M) (hn : M + 2 ≤ n) (h : Op M c t i x) {w : Tm} (hw : (of w).size ≤ 100000) : ∀ r, fam O x w = some r → RCh (hp c t) (FF n 162 [jd c t, nt i, tm (of w)] (hp c t)) r := by
 intro r e
 obtain ⟨n, rfl⟩ := af (show 0 < n by omega)
 rw [eg]
 rcases pO hM (n := n) (by omega) h 3 e with ⟨f, eo, hk, vf, e2⟩ | ⟨f, eo, hk, e2⟩ | ⟨c', eo, hc⟩
 ·rw [eo]
  cases f <;> try (rw [gE] at hk; simp only [Int.reduceEq] at hk; done)
  rename_i C D
  obtain ⟨vC, vD⟩ := aF.v_pi vf
  have zC := ae vC
  have zD := ae vD
  simp only [evt, of, oY, pC]
  rcases kH (wo (P := RC) (lh (n := n) (a := C) (b := w) (by omega) (by omega) hw)) e2 with ⟨t', e3, eo, e4⟩ | ⟨c', eo, hc⟩
  ·rw [eo]
   simp only [evt]
   rcases mV (n := n) (m := D) (by omega) zD 2 e4 with ⟨f, eo, hk, vf, _, e5⟩ | ⟨f, eo, hk, e5⟩ | ⟨eo, rfl⟩
   ·rw [eo]
    cases f <;> try (rw [gE] at hk; simp only [Int.reduceEq] at hk; done)
    cases e5
    exact ⟨0, rfl, rfl⟩
   ·rw [eo]
    have : r = .bad := by
     cases f <;> first | (exact absurd (gE _) hk) | (cases e5; rfl)
    subst this
    exact ⟨1, rfl, rfl⟩
   ·rw [eo]; exact ⟨2, rfl, rfl⟩
  ·rw [eo]
   simp only [evt]
   rw [decide_eq_false hc.ne]
   exact rj hc
 ·rw [eo]
  simp only [evt]
  have : r = .bad := by
   cases f <;> first | (exact absurd (gE _) hk) | (cases e2; rfl)
  subst this
  exact rj .bad
 ·rw [eo]
  simp only [evt]
  rw [decide_eq_false hc.ne]
  exact rj hc
end
section
variable {M n : Nat} {c : List T} {t : T} {a b d e' : Tm} {xa xb xd xe : Option Rs}
theorem C6 (hM : 7000500 ≤ M) (hn : M + 4 ≤ n) (ha : Op M c t 0 xa) (hb : Op M c t 1 xb) : ∀ r, (sq (lvl O xa) fun i => sq (lvl O xb) fun j => some (.ok (.sort (max (Tm.lv i) (Tm.lv j))))) = some r →
   RSh (hp c t) (FF n 126 [jd c t] (hp c t)) r := by
 intro r e
 obtain ⟨n, rfl⟩ := af (show 0 < n by omega)
 rw [eD]
 rcases qp (kV hM (n := n) (by omega) ha) e with ⟨i, e1, eo, e2⟩ | ⟨i, c', eo, hc⟩
 ·rw [eo]
  simp only [evt]
  rcases qp (kV hM (n := n) (by omega) hb) e2 with ⟨j, e3, eo, e4⟩ | ⟨j, c', eo, hc⟩
  ·rw [eo]
   simp only [evt]
   rw [yT (n := n) (by omega)]
   simp only [evt]
   cases e4
   refine ⟨of (.sort (max i j)), 0, ?_, rfl, rfl⟩
   have : max (i : Int) j = ((max i j : Nat) : Int) := by omega
   rw [this]; rfl
  ·rw [eo]
   simp only [evt]
   rw [decide_eq_false hc.ne]
   exact a6 hc (.mk 0 0 [])
 ·rw [eo]
  simp only [evt]
  rw [decide_eq_false hc.ne]
  exact a6 hc (.mk 0 0 [])
theorem ju {h : List au} {o : OR} {m : Tm} (hh : ∀ r, made O m = some r → RS o r) : ∀ r, made O m = some r → RSh h (o.bind fun x => ag x.1 fun x1 x2 => aC .i64 x2 fun x3 x4 => ai x4 (aj x.2 (some ([.agg [.int .i64 x1.k, .int .i64 x1.n, .fr (.ts x1.kids)], .one (.int .i64 x3)], h)))) r := by
 intro r e
 obtain ⟨x, c, rfl, _, h2⟩ := hh r e
 simp only [evt]
 exact ⟨x, c, rfl, h2⟩
def IvI (M : Nat) (c : List T) (t : T) (x : Option Rs) : Prop := ∀ m, M ≤ m → ∀ r, x = some r → RSh [] (FF m 57 [tms c, tm t] []) r
theorem Am (hM : 7000500 ≤ M) (hn : M + 4 ≤ n) (g0 : t.kids[(0 : Int).toNat]? = some (of a)) (ha : Op M c t 0 xa) (hb : Op M c t 1 xb) (hva : vdM a = true) (xP : Tm → Option Rs)
   (hP : ∀ B, xb = some (.ok B) → vdM (.pi a B) = true → IvI M c (of (.pi a B)) (xP (.pi a B))) : ∀ r,
   (sq (lvl O xa) fun _ => sq xb fun B => sq (made O (.pi a B)) fun P => sq (xP P) fun _ => some (.ok P)) = some r →
   RSh (hp c t) (FF n 127 [jd c t] (hp c t)) r := by
 intro r e
 obtain ⟨n, rfl⟩ := af (show 0 < n by omega)
 have za := ae hva
 rw [dN]
 rcases qp (kV hM (n := n) (by omega) ha) e with ⟨i, e1, eo, e2⟩ | ⟨i, c', eo, hc⟩
 ·rw [eo]
  simp only [evt]
  rcases qy (hb.iv n (by omega)) e2 with ⟨B, e3, eo, e4⟩ | ⟨y, c', eo, hc⟩
  ·rw [eo]
   have zB := ae (hb.ok B e3)
   simp only [evt, g0]
   rw [kx (n := n) (by omega)]
   simp only [evt]
   rcases jR (l9 (n := n) (m := .pi a B) (by simp only [of, T.size, T.aE]; omega)) e4 with ⟨P, e5, eo, e6⟩ | ⟨y, c', eo, hc⟩
   ·obtain ⟨rfl, vP⟩ := Tm.bO e5
    simp only [of, tm, cP, cQ, az] at eo
    rw [eo]
    simp only [evt]
    rcases qy (hP B e3 vP n (by omega)) e6 with ⟨S, e7, eo, e8⟩ | ⟨y, c', eo, hc⟩
    ·simp only [of, tm, cP, cQ, az] at eo
     rw [eo]
     simp only [evt]
     cases e8
     exact ⟨of (.pi a B), 0, rfl, rfl, rfl⟩
    ·simp only [of, tm, cP, cQ, az] at eo
     rw [eo]
     simp only [evt]
     rw [decide_eq_false hc.ne]
     exact a6 hc (.mk 0 0 [])
   ·simp only [of, tm, cP, cQ, az] at eo
    rw [eo]
    simp only [evt]
    rw [decide_eq_false hc.ne]
    exact a6 hc (.mk 0 0 [])
  ·rw [eo]
   simp only [evt]
   rw [decide_eq_false hc.ne]
   exact a6 hc (.mk 0 0 [])
 ·rw [eo]
  simp only [evt]
  rw [decide_eq_false hc.ne]
  exact a6 hc (.mk 0 0 [])
theorem wr1 : IntKind.i64.wrap (1 + 1) = 2 := wrap64 (by omega)
theorem wr2 : IntKind.i64.wrap (2 + 1) = 3 := wrap64 (by omega)
theorem wV (hM : 7000500 ≤ M) (hn : M + 6 ≤ n) (g0 : t.kids[(0 : Int).toNat]? = some (of a)) (g3 : t.kids[(3 : Int).toNat]? = some (of e')) (hv : vdM (.elim a b d e') = true) (ha : Op M c t 0 xa) (hb : Op M c t 1 xb) (hd : Op M c t 2 xd) (he : Op M c t 3 xe) : ∀ r,
   (sq (fam O xa .nat) fun _ => sq (made O (.app a .zero)) fun w => sq (chk O xb w) fun _ => sq (made O (Tm.aW a)) fun w => sq (chk O xd w) fun _ => sq (chk O xe .nat) fun _ => made O (.app a e')) = some r →
   RSh (hp c t) (FF n 131 [jd c t] (hp c t)) r := by
 intro r e
 obtain ⟨n, rfl⟩ := af (show 0 < n by omega)
 obtain ⟨va, vb, vd, ve, vz⟩ := aF.v_elim hv
 have za := ae va
 have ze := ae ve
 have zz := ae vz
 have zn : (of .nat).size ≤ 100000 := by decide
 rw [dF]
 simp only [evt, g0, rN (show 1 ≤ n by omega)]
 rcases iB (ux hM (n := n) (by omega) ha (w := .nat) zn) e with ⟨t', e1, eo, e2⟩ | ⟨c', eo, hc⟩
 ·simp only [of, tm, cP, cQ, az] at eo
  rw [eo]
  simp only [evt]
  rw [kx (n := n) (by omega)]
  simp only [evt]
  rcases jR (l9 (n := n) (m := .app a .zero) (by omega)) e2 with ⟨w, e3, eo, e4⟩ | ⟨y, c', eo, hc⟩
  ·obtain ⟨rfl, _⟩ := Tm.bO e3
   simp only [of, tm, cP, cQ, az] at eo
   rw [eo]
   simp only [evt]
   rcases iB (zY hM (n := n) (by omega) hb (w := .app a .zero) (by omega)) e4 with ⟨t', e5, eo, e6⟩ | ⟨c', eo, hc⟩
   ·simp only [of, tm, cP, cQ, az] at eo
    rw [eo]
    simp only [evt]
    rcases jR (zP (n := n) (by omega) va) e6 with ⟨w, e7, eo, e8⟩ | ⟨y, c', eo, hc⟩
    ·obtain ⟨rfl, vs⟩ := Tm.bO e7
     have zs := ae vs
     rw [eo]
     simp only [evt]
     rcases iB (zY hM (n := n) (by omega) hd (w := Tm.aW a) (by omega)) e8 with ⟨t', e9, eo, e10⟩ | ⟨c', eo, hc⟩
     ·rw [eo]
      simp only [evt]
      rcases iB (kN hM (n := n) (by omega) he (w := .nat) zn) e10 with ⟨t', e11, eo, e12⟩ | ⟨c', eo, hc⟩
      ·simp only [of, tm, cP, cQ, az] at eo
       rw [eo]
       simp only [evt, g3]
       rw [kx (n := n) (by omega)]
       simp only [evt]
       exact ju (l9 (n := n) (m := .app a e') (by simp only [of, T.size, T.aE]; omega)) r e12
      ·simp only [of, tm, cP, cQ, az] at eo
       rw [eo]
       simp only [evt]
       rw [decide_eq_false hc.ne]
       exact a6 hc (.mk 0 0 [])
     ·rw [eo]
      simp only [evt]
      rw [decide_eq_false hc.ne]
      exact a6 hc (.mk 0 0 [])
    ·rw [eo]
     simp only [evt]
     rw [mm (by omega) _ hc.ne]
     simp only [evt]
     rw [decide_eq_false hc.ne]
     exact a6 hc (.mk 0 0 [])
   ·simp only [of, tm, cP, cQ, az] at eo
    rw [eo]
    simp only [evt]
    rw [decide_eq_false hc.ne]
    exact a6 hc (.mk 0 0 [])
  ·simp only [of, tm, cP, cQ, az] at eo
   rw [eo]
   simp only [evt]
   rw [mm (by omega) _ hc.ne]
   simp only [evt]
   rw [decide_eq_false hc.ne]
   exact a6 hc (.mk 0 0 [])
 ·simp only [of, tm, cP, cQ, az] at eo
  rw [eo]
  simp only [evt]
  rw [decide_eq_false hc.ne]
  exact a6 hc (.mk 0 0 [])
end
end Go.Proofs.YtajlknlnmmbfcaaGreat
end
section
namespace Go.Proofs.YtajlknlnmmbfcaaGreat
open Go Go.Ab Go.Dk
open Tm (Rs sq frm lvl chk fam made ext inI kI)
section
variable {M n : Nat} {c : List T} {t : T} {a b d e' : Tm} {xa xb xd xe : Option Rs}
theorem BO {m : Nat} {i z1 z2 : Int} {l0 : List T} {s : Int} {c' : Int} (hs : s = 1 ∨ s = 2 ∨ s = 3) {r : Rs} (hc : Er c' r) :
   RSh (hp c t) (av n (m + 1) i c' s c t.k t.n t.kids c t.k t.n t.kids z1 z2 l0) r := by
 rw [aI]
 simp only [evt, decide_eq_false hc.ne]
 rcases hs with rfl | rfl | rfl
 ·rw [decide_eq_true (show (1 : Int) ≤ 2 by omega)]; exact a6 hc (.mk 0 0 [])
 ·rw [decide_eq_true (show (2 : Int) ≤ 2 by omega)]; exact a6 hc (.mk 0 0 [])
 ·rw [decide_eq_false (show ¬ (3 : Int) ≤ 2 by omega)]; exact a6 hc (.mk 0 0 [])
theorem H6 {m : Nat} (hn : 1 ≤ n) {k : Nat} {z1 z2 : Int} {l0 : List T} :
   RSh (hp c t) (av n (m + 1) (k : Int) 0 3 c t.k t.n t.kids c t.k t.n t.kids z1 z2 l0) (.ok (.sort k)) := by
 rw [aI]
 simp only [evt]
 rw [decide_eq_false (show ¬ (3 : Int) ≤ 2 by omega), yT (n := n) (by omega)]
 exact ⟨of (.sort k), 0, rfl, rfl, rfl⟩
theorem H9 (hM : 7000500 ≤ M) (hn : M + 1 ≤ n) (g0 : t.kids[(0 : Int).toNat]? = some (of a)) (za : (of a).size ≤ 100000) (hd : Op M c t 2 xd) {m : Nat} {k : Nat} {z1 z2 : Int} {l0 : List T} : ∀ r,
   (sq (chk O xd a) fun _ => some (.ok (.sort k))) = some r →
   RSh (hp c t) (av n (m + 1 + 1) (k : Int) 0 2 c t.k t.n t.kids c t.k t.n t.kids z1 z2 l0) r := by
 intro r e
 rw [aI]
 simp only [evt, g0]
 rw [decide_eq_true (show (2 : Int) ≤ 2 by omega)]
 rcases iB (kN hM (n := n) (by omega) hd (w := a) za) e with ⟨t', e3, eo, e4⟩ | ⟨c', eo, hc⟩
 ·rw [eo, wr2]
  simp -implicitDefEqProofs only [evt]
  cases e4
  with_reducible exact H6 (by omega)
 ·rw [eo, wr2]
  simp -implicitDefEqProofs only [evt]
  with_reducible exact BO (.inr (.inr rfl)) hc
theorem Gd (hM : 7000500 ≤ M) (hn : M + 1 ≤ n) (g0 : t.kids[(0 : Int).toNat]? = some (of a)) (za : (of a).size ≤ 100000) (hb : Op M c t 1 xb) (hd : Op M c t 2 xd) {m : Nat} {k : Nat} {z1 z2 : Int} {l0 : List T} : ∀ r,
   (sq (chk O xb a) fun _ => sq (chk O xd a) fun _ => some (.ok (.sort k))) = some r →
   RSh (hp c t) (av n (m + 1 + 1 + 1) (k : Int) 0 1 c t.k t.n t.kids c t.k t.n t.kids z1 z2 l0) r := by
 intro r e
 rw [aI]
 simp only [evt, g0]
 rw [decide_eq_true (show (1 : Int) ≤ 2 by omega)]
 rcases iB (kN hM (n := n) (by omega) hb (w := a) za) e with ⟨t', e1, eo, e2⟩ | ⟨c', eo, hc⟩
 ·rw [eo, wr1]
  simp -implicitDefEqProofs only [evt]
  with_reducible exact H9 hM hn g0 za hd r e2
 ·rw [eo, wr1]
  simp -implicitDefEqProofs only [evt]
  with_reducible exact BO (.inr (.inl rfl)) hc
theorem zM (hM : 7000500 ≤ M) (hn : M + 4 ≤ n) (g0 : t.kids[(0 : Int).toNat]? = some (of a)) (hva : vdM a = true) (ha : Op M c t 0 xa) (hb : Op M c t 1 xb) (hd : Op M c t 2 xd) : ∀ r,
   (sq (lvl O xa) fun i => sq (chk O xb a) fun _ => sq (chk O xd a) fun _ => some (.ok i)) = some r →
   RSh (hp c t) (FF n 132 [jd c t] (hp c t)) r := by
 intro r e
 obtain ⟨n, rfl⟩ := af (show 0 < n by omega)
 have za := ae hva
 rw [dP]
 rcases qp (kV hM (n := n) (by omega) ha) e with ⟨i, e1, eo, e2⟩ | ⟨i, c', eo, hc⟩
 ·rw [eo]
  simp only [evt]
  obtain ⟨m, hm⟩ : ∃ m, n = m + 1 + 1 + 1 := ⟨n - 3, by omega⟩
  have h := Gd (n := n) (m := m) (z1 := 0) (z2 := 0) (l0 := []) hM (by omega) g0 (by omega) hb hd r e2
  rw [← hm] at h
  with_reducible exact h
 ·rw [eo]
  simp only [evt]
  obtain ⟨m, hm⟩ := af (show 0 < n by omega)
  have h := BO (n := n) (t := t) (c := c) (m := m) (i := i) (z1 := 0) (z2 := 0) (l0 := []) (s := 1) (.inl rfl) hc
  rw [← hm] at h
  with_reducible exact h
end
end Go.Proofs.YtajlknlnmmbfcaaGreat
end
section
namespace Go.Proofs.YtajlknlnmmbfcaaGreat
open Go Go.Ab Go.Dk
open Tm (Rs sq frm lvl chk fam made ext inI kI)
section
variable {M n : Nat} {c : List T} {t : T} {a b d e' : Tm} {xa xb xd xe : Option Rs}
theorem wC {n : Nat} {b u : Tm} (hn : 2000000 ≤ n) (hb : vdM b = true) (hu : vdM u = true) : FF n 97 [tm (of b), nt 0, tm (of u)] [] = some ([tm (if ah (of (b.inst u)) then of (b.inst u) else .mk 0 0 []), bl (ah (of (b.inst u)))], []) := by
 have h1 := ae hb
 have h2 := ae hu
 rw [CQ (n := n) hn (vI hb) (by omega) (vI hu) (by omega) (by omega), sbR, lL]
theorem GM (hM : 7000500 ≤ M) (hn : M + 6 ≤ n) (g0 : t.kids[(0 : Int).toNat]? = some (of a)) (hv : vdM (.move a b d) = true) (ha : Op M c t 0 xa) (hb : Op M c t 1 xb) (hd : Op M c t 2 xd) : ∀ r,
   (sq (frm O xb) fun E => match E with
   | .id t y z => sq (fam O xa t) fun _ => sq (made O (.app a y)) fun w => sq (chk O xd w) fun _ => made O (.app a z)
   | _ => some .bad) = some r →
   RSh (hp c t) (FF n 133 [jd c t] (hp c t)) r := by
 intro r e
 obtain ⟨n, rfl⟩ := af (show 0 < n by omega)
 obtain ⟨va, vb, vd⟩ := aF.v_move hv
 have za := ae va
 rw [eL]
 rcases pO hM (n := n) (by omega) hb 10 e with ⟨f, eo, hk, vf, e2⟩ | ⟨f, eo, hk, e2⟩ | ⟨c', eo, hc⟩
 ·rw [eo]
  cases f <;> try (rw [gE] at hk; simp only [Int.reduceEq] at hk; done)
  rename_i q y z
  obtain ⟨vt, vy, vz⟩ := aF.v_id vf
  have zt := ae vt
  have zy := ae vy
  have zz := ae vz
  simp only [evt, of, oY, pC, GS]
  rcases iB (ux hM (n := n) (by omega) ha (w := q) (by omega)) e2 with ⟨t', e1, eo, e2⟩ | ⟨c', eo, hc⟩
  ·rw [eo]
   simp only [evt, g0]
   rw [kx (n := n) (by omega)]
   simp only [evt]
   rcases jR (l9 (n := n) (m := .app a y) (by simp only [of, T.size, T.aE]; omega)) e2 with ⟨w, e3, eo, e4⟩ | ⟨y', c', eo, hc⟩
   ·obtain ⟨rfl, vw⟩ := Tm.bO e3
    have zw := ae vw
    simp only [of, tm, cP, cQ, az] at eo
    rw [eo]
    simp only [evt]
    rcases iB (zY hM (n := n) (by omega) hd (w := .app a y) (by omega)) e4 with ⟨t', e5, eo, e6⟩ | ⟨c', eo, hc⟩
    ·simp only [of, tm, cP, cQ, az] at eo
     rw [eo]
     simp only [evt]
     rw [kx (n := n) (by omega)]
     simp only [evt]
     exact ju (l9 (n := n) (m := .app a z) (by simp only [of, T.size, T.aE]; omega)) r e6
    ·simp only [of, tm, cP, cQ, az] at eo
     rw [eo]
     simp only [evt]
     rw [decide_eq_false hc.ne]
     exact a6 hc (.mk 0 0 [])
   ·simp only [of, tm, cP, cQ, az] at eo
    rw [eo]
    simp only [evt]
    rw [mm (by omega) _ hc.ne]
    simp only [evt]
    rw [decide_eq_false hc.ne]
    exact a6 hc (.mk 0 0 [])
  ·rw [eo]
   simp only [evt]
   rw [decide_eq_false hc.ne]
   exact a6 hc (.mk 0 0 [])
 ·rw [eo]
  simp only [evt]
  have : r = .bad := by
   cases f <;> first | (exact absurd (gE _) hk) | (cases e2; rfl)
  subst this
  exact a6 .bad (.mk 0 0 [])
 ·rw [eo]
  simp only [evt]
  rw [decide_eq_false hc.ne]
  exact a6 hc (.mk 0 0 [])
theorem Ej (hM : 7000500 ≤ M) (hn : M + 6 ≤ n) (g0 : t.kids[(0 : Int).toNat]? = some (of a)) (g1 : t.kids[(1 : Int).toNat]? = some (of b)) (hv : vdM (.pair a b d) = true) (ha : Op M c t 0 xa) (hb : Op M c t 1 xb) (hd : Op M c t 2 xd) : ∀ r,
   (sq (lvl O xa) fun _ => sq (some (O.hn a)) fun h => match h with
   | .sig A B => sq (chk O xb A) fun _ => sq (made O (B.inst b)) fun w => sq (chk O xd w) fun _ => some (.ok a)
   | _ => some .bad) = some r →
   RSh (hp c t) (FF n 134 [jd c t] (hp c t)) r := by
 intro r e
 obtain ⟨n, rfl⟩ := af (show 0 < n by omega)
 obtain ⟨va, vb, vd⟩ := aF.v_pair hv
 have za := ae va
 rw [eh]
 rcases qp (kV hM (n := n) (by omega) ha) e with ⟨i, e1, eo, e2⟩ | ⟨i, c', eo, hc⟩
 ·rw [eo]
  simp only [evt, g0]
  rcases mV (n := n) (m := a) (by omega) za 13 e2 with ⟨f, eo, hk, vf, _, e3⟩ | ⟨f, eo, hk, e3⟩ | ⟨eo, rfl⟩
  ·rw [eo]
   cases f <;> try (rw [gE] at hk; simp only [Int.reduceEq] at hk; done)
   rename_i C B _
   obtain ⟨vC, vB⟩ := aF.v_sig vf
   have zC := ae vC
   have zi := gG vB vb
   have hs := yS (n := n) (by omega) (of C) [of B] 13 0
   simp only [tm, cP, cQ, az] at hs
   simp only [evt, of, pC]
   rw [hs]
   simp only [evt]
   rcases iB (zY hM (n := n) (by omega) hb (w := C) (by omega)) e3 with ⟨t', e4, eo, e5⟩ | ⟨c', eo, hc⟩
   ·rw [eo]
    simp only [evt, g1]
    rw [wC (n := n) (by omega) vB vb]
    simp only [evt]
    rcases jR (sf (n := n) (m := B.inst b) (by omega)) e5 with ⟨w, e6, eo, e7⟩ | ⟨y', c', eo, hc⟩
    ·obtain ⟨rfl, vw⟩ := Tm.bO e6
     have zw := ae vw
     rw [eo]
     simp only [evt]
     rcases iB (zY hM (n := n) (by omega) hd (w := B.inst b) (by omega)) e7 with ⟨t', e8, eo, e9⟩ | ⟨c', eo, hc⟩
     ·rw [eo]
      simp only [evt, g0]
      cases e9
      exact ⟨of a, 0, rfl, rfl, rfl⟩
     ·rw [eo]
      simp only [evt]
      rw [decide_eq_false hc.ne]
      exact a6 hc (.mk 0 0 [])
    ·rw [eo]
     simp only [evt]
     rw [mm (by omega) _ hc.ne]
     simp only [evt]
     rw [decide_eq_false hc.ne]
     exact a6 hc (.mk 0 0 [])
   ·rw [eo]
    simp only [evt]
    rw [decide_eq_false hc.ne]
    exact a6 hc (.mk 0 0 [])
  ·rw [eo]
   have hs := kj (n := n) (by omega)
   have hq := mm (n := n) (c := c) (t := t) (i := 1) (by omega) (.mk 0 0 []) (c' := 1) (by decide)
   simp only [tm, cP, cQ, az] at hs hq
   simp only [evt]
   rw [hs]
   simp only [evt]
   rw [hq]
   have : r = .bad := by
    cases f <;> first | (exact absurd (gE _) hk) | (cases e3; rfl)
   subst this
   exact a6 .bad (.mk 0 0 [])
  ·rw [eo]
   have hs := kj (n := n) (by omega)
   have hq := mm (n := n) (c := c) (t := t) (i := 1) (by omega) (.mk 0 0 []) (c' := 2) (by decide)
   simp only [tm, cP, cQ, az] at hs hq
   simp only [evt]
   rw [hs]
   simp only [evt]
   rw [hq]
   exact a6 .opn (.mk 0 0 [])
 ·rw [eo]
  simp only [evt]
  rw [decide_eq_false hc.ne]
  exact a6 hc (.mk 0 0 [])
theorem FI (hM : 7000500 ≤ M) (hn : M + 6 ≤ n) (g0 : t.kids[(0 : Int).toNat]? = some (of a)) (hva : vdM (.fst a) = true) (ha : Op M c t 0 xa) :
   (t.k = 15 → ∀ r, (sq (frm O xa) fun Q => match Q with
   | .sig A B => some (.ok A)
   | _ => some .bad) = some r → RSh (hp c t) (FF n 135 [jd c t] (hp c t)) r) ∧
   (t.k = 16 → ∀ r, (sq (frm O xa) fun Q => match Q with
   | .sig A B => made O (B.inst (.fst a))
   | _ => some .bad) = some r → RSh (hp c t) (FF n 135 [jd c t] (hp c t)) r) := by
 obtain ⟨n, rfl⟩ := af (show 0 < n by omega)
 refine ⟨fun ht r e => ?_, fun ht r e => ?_⟩
 ·rw [cz]
  rcases pO hM (n := n) (by omega) ha 13 e with ⟨f, eo, hk, vf, e2⟩ | ⟨f, eo, hk, e2⟩ | ⟨c', eo, hc⟩
  ·rw [eo]
   cases f <;> try (rw [gE] at hk; simp only [Int.reduceEq] at hk; done)
   rename_i C B
   simp only [evt, of, oY, pC]
   rw [decide_eq_true ht]
   cases e2
   exact ⟨of C, 0, rfl, rfl, rfl⟩
  ·rw [eo]
   simp only [evt]
   have : r = .bad := by
    cases f <;> first | (exact absurd (gE _) hk) | (cases e2; rfl)
   subst this
   exact a6 .bad (.mk 0 0 [])
  ·rw [eo]
   simp only [evt]
   rw [decide_eq_false hc.ne]
   exact a6 hc (.mk 0 0 [])
 ·rw [cz]
  rcases pO hM (n := n) (by omega) ha 13 e with ⟨f, eo, hk, vf, e2⟩ | ⟨f, eo, hk, e2⟩ | ⟨c', eo, hc⟩
  ·rw [eo]
   cases f <;> try (rw [gE] at hk; simp only [Int.reduceEq] at hk; done)
   rename_i C B
   obtain ⟨vC, vB⟩ := aF.v_sig vf
   have zi := gG vB hva
   simp only [evt, of, oY, pC, g0]
   rw [decide_eq_false (show ¬ t.k = 15 by omega), kx (n := n) (by omega)]
   simp only [evt]
   have hi := wC (n := n) (b := B) (u := .fst a) (by omega) vB hva
   simp only [of, tm, cP, cQ, az] at hi
   rw [hi]
   simp only [evt]
   exact ju (sf (n := n) (m := B.inst (.fst a)) (by omega)) r e2
  ·rw [eo]
   simp only [evt]
   have : r = .bad := by
    cases f <;> first | (exact absurd (gE _) hk) | (cases e2; rfl)
   subst this
   exact a6 .bad (.mk 0 0 [])
  ·rw [eo]
   simp only [evt]
   rw [decide_eq_false hc.ne]
   exact a6 hc (.mk 0 0 [])
end
theorem DP {M : Nat} {c : List T} {t : T} {i : Nat} {u : Tm} {x : Option Rs} (hM : 10 ≤ M) (hu : under t.k i = 0) (hk : t.kids[i]? = some (of u)) (h : IvI M c (of u) x) (hv : ∀ s, x = some (.ok s) → vdM s = true) : Op (M + 1) c t (i : Int) x := by
 refine ⟨fun n hn r e => ?_, hv⟩
 obtain ⟨n, rfl⟩ := af (show 0 < n by omega)
 obtain ⟨y, c', eo, h2⟩ := h n (by omega) r e
 rw [jH]
 have ho : FF n 99 [tms c, tm t, nt (i : Int)] [] = some ([tms c, nt 0], []) := by
  obtain ⟨n, rfl⟩ := af (show 0 < n by omega)
  rw [cR, se (n := n) (by omega), hu]; rfl
 rw [ho]
 simp only [evt]
 rw [decide_eq_true (show (0 : Int) ≤ i by omega), Int.toNat_natCast, hk]
 simp only [evt]
 rw [eo]
 exact ⟨y, c', rfl, h2⟩
theorem A3 {M : Nat} {G : List Tm} {t : T} {a u : Tm} {I : List Tm → Tm → Option Rs} (hM : 10 ≤ M) (hu : under t.k 1 = 1) (h0 : t.kids[(0 : Int).toNat]? = some (of a)) (hk : t.kids[(1 : Int).toNat]? = some (of u)) (hG : G.length ≤ 20)
   (h : G.length < 20 → IvI M (cx (a :: G)) (of u) (I (a :: G) u)) (hv : ∀ s, I (a :: G) u = some (.ok s) → vdM s = true) : Op (M + 1) (cx G) t 1 (ext I G a u) := by
 refine ⟨fun n hn r e => ?_, fun s e => hv s (Tm.CP e)⟩
 obtain ⟨n, rfl⟩ := af (show 0 < n by omega)
 rw [jH]
 have hf : ∀ n, 3 ≤ n → FF n 121 [nt t.k, nt 1] [] = some ([nt 1], []) := fun n hn => by
  have := se (n := n) (by omega) t.k 1
  rw [hu] at this; exact this
 by_cases h20 : 20 ≤ G.length
 ·rw [Tm.ext, if_pos h20] at e; cases e
  have ho : FF n 99 [tms (cx G), tm t, nt 1] [] = some ([tms [], nt 2], []) := by
   obtain ⟨n, rfl⟩ := af (show 0 < n by omega)
   obtain ⟨n, rfl⟩ := af (show 0 < n by omega)
   rw [cR, hf (n + 1) (by omega)]
   simp only [evt, h0, show decide ((1 : Int) = 0) = false from rfl]
   rw [iH, cA, decide_eq_true (show (20 : Int) ≤ G.length by omega)]; rfl
  rw [ho]
  exact a6 .opn (.mk 0 0 [])
 ·rw [Tm.ext, if_neg h20] at e
  obtain ⟨y, c', eo, h2⟩ := h (by omega) n (by omega) r e
  have ho : FF n 99 [tms (cx G), tm t, nt 1] [] = some ([tms (cx (a :: G)), nt 0], []) := by
   obtain ⟨n, rfl⟩ := af (show 0 < n by omega)
   obtain ⟨n, rfl⟩ := af (show 0 < n by omega)
   rw [cR, hf (n + 1) (by omega)]
   simp only [evt, h0, show decide ((1 : Int) = 0) = false from rfl]
   rw [iH, cA, decide_eq_false (show ¬ (20 : Int) ≤ G.length by omega), Ba (n := n) (by omega) _ (by rw [cA]; omega)]
   simp only [evt]
   rw [aU (by simp [cx]; omega), BR]; rfl
  rw [ho]
  simp only [evt, show decide ((0 : Int) ≤ 1) = true from rfl, hk]
  rw [eo]
  exact ⟨y, c', rfl, h2⟩
def IhI (g B : Nat) : Prop := ∀ (n : Nat) (G : List Tm) (t : Tm), B ≤ n → (∀ A ∈ G, vdM A = true) → G.length ≤ 20 → vdM t = true → ∀ r, inI O g G t = some r → RSh [] (FF n 57 [tms (cx G), tm (of t)] []) r
theorem vY {M n : Nat} {c : List T} {u : Tm} {x : Option Rs} (hM : 7000500 ≤ M) (hn : M + 1 ≤ n) (h : IvI M c (of u) x) (ok : ∀ s, x = some (.ok s) → vdM s = true) (k : Int) {g : Tm → Option Rs} {r : Rs} (e : sq (frm O x) g = some r) :
   (∃ f, FF n 95 [tms c, tm (of u), nt k] [] = some ([tm (of f), nt 0], []) ∧ (of f).k = k ∧ vdM f = true ∧ g f = some r) ∨ (∃ f, FF n 95 [tms c, tm (of u), nt k] [] = some ([tm (.mk 0 0 []), nt 1], []) ∧ (of f).k ≠ k ∧ g f = some r) ∨
    ∃ c', FF n 95 [tms c, tm (of u), nt k] [] = some ([tm (.mk 0 0 []), nt c'], []) ∧ Er c' r := by
 obtain ⟨n, rfl⟩ := af (show 0 < n by omega)
 unfold frm at e
 rw [Tm.aZ] at e
 rw [mH]
 rcases qy (h n (by omega)) e with ⟨s, e1, eo, e2⟩ | ⟨y, c', eo, hc⟩
 ·rw [eo]
  simp only [evt]
  have hs := ae (ok s e1)
  rcases mV (n := n) (m := s) (by omega) hs k e2 with ⟨f, eo, hk, vf, _, e3⟩ | ⟨f, eo, hk, e3⟩ | ⟨eo, rfl⟩
  ·rw [eo]; exact .inl ⟨f, rfl, hk, vf, e3⟩
  ·rw [eo]; exact .inr (.inl ⟨f, rfl, hk, e3⟩)
  ·rw [eo]; exact .inr (.inr ⟨2, rfl, .opn⟩)
 ·rw [eo]
  simp only [evt]
  rw [decide_eq_false hc.ne]
  exact .inr (.inr ⟨c', rfl, hc⟩)
theorem BC {M n : Nat} {c : List T} {u : Tm} {x : Option Rs} (hM : 7000500 ≤ M) (hn : M + 2 ≤ n) (h : IvI M c (of u) x) (ok : ∀ s, x = some (.ok s) → vdM s = true) : ∀ r, lvl O x = some r → RLh [] (FF n 54 [tms c, tm (of u)] []) r := by
 intro r e
 obtain ⟨n, rfl⟩ := af (show 0 < n by omega)
 rw [u5]
 rcases vY hM (n := n) (by omega) h ok 2 e with ⟨f, eo, hk, vf, e2⟩ | ⟨f, eo, hk, e2⟩ | ⟨c', eo, hc⟩
 ·rw [eo]
  cases f <;> try (rw [gE] at hk; simp only [Int.reduceEq] at hk; done)
  rename_i j
  cases e2
  simp only [evt]
  exact ⟨j, 0, rfl, rfl, j, rfl, rfl⟩
 ·rw [eo]
  simp only [evt]
  have : r = .bad := by
   cases f <;> first | (exact absurd (gE _) hk) | (cases e2; rfl)
  subst this
  exact qE .bad 0
 ·rw [eo]
  simp only [evt]
  exact qE hc 0
theorem fE {c : List T} {t : T} {o : OR} {r : Rs} (hh : RSh (hp c t) o r) : RSh (hp c t) (o.bind fun x0 => aR x0.2 fun x1 x2 => tsC x1 fun x3 x4 => aT x4 (aR x2 fun x5 x6 => aV .i64 x5 fun x7 x8 => aV .i64 x8 fun x9 x10 => tsC x10 fun x11 x12 => aT x12 (ag x0.1 fun x13 x14 => aC .i64 x14 fun x15 x16 => ai x16 (aj x6 (some ([.agg [.int .i64 x13.k, .int .i64 x13.n, .fr (.ts x13.kids)], .one (.int .i64 x15)], [.cells [.fr (.ts x3)], .cells [.int .i64 x7, .int .i64 x9, .fr (.ts x11)]])))))) r := by
 obtain ⟨x, c', rfl, h2⟩ := hh
 simp only [evt]
 exact ⟨x, c', rfl, h2⟩
theorem D2 {g B : Nat} (ih : IhI g B) (hB : 7000500 ≤ B) {n : Nat} {G : List Tm} {m : Tm} (hn : B + 20 ≤ n) (hG : ∀ A ∈ G, vdM A = true) (hl : G.length ≤ 20) (hv : vdM m = true) :
   ∀ r, kI O (inI O g) G m = some r → RSh (hp (cx G) (of m)) (FF n 100 [jd (cx G) (of m)] (hp (cx G) (of m))) r := by
 intro r e
 obtain ⟨n, rfl⟩ := af (show 0 < n by omega)
 have iv : ∀ {u}, vdM u = true → IvI B (cx G) (of u) (inI O g G u) := fun h m hm r e => ih m G _ hm hG hl h r e
 have ok : ∀ {u}, vdM u = true → ∀ s, inI O g G u = some (.ok s) → vdM s = true := fun h s e => Tm.CT aF h e
 have op : ∀ {i : Nat} {u : Tm}, under (of m).k i = 0 → (of m).kids[i]? = some (of u) → vdM u = true → Op (B + 1) (cx G) (of m) (i : Int) (inI O g G u) := fun h1 h2 h3 => DP (by omega) h1 h2 (iv h3) (ok h3)
 have ob : ∀ {a u : Tm}, under (of m).k 1 = 1 → (of m).kids[(0 : Int).toNat]? = some (of a) → (of m).kids[(1 : Int).toNat]? = some (of u) → vdM a = true → vdM u = true → Op (B + 1) (cx G) (of m) 1 (ext (inI O g) G a u) := fun {a u} h1 h2 h3 ha hu =>
  A3 (by omega) h1 h2 h3 hl (fun h20 m hm r e => ih m (a :: G) u hm (fun A hA => by rcases List.mem_cons.1 hA with rfl | hA; exact ha; exact hG A hA) (by simp only [List.length_cons]; omega) hu r e) (fun s e => Tm.CT aF hu e)
 rw [ey]
 cases m with
 | pi a b =>
  simp only [show ∀ c : Int, decide ((of (Tm.pi a b)).k = c) = decide ((3 : Int) = c) from fun _ => rfl, Int.reduceEq, decide_true, decide_false, cond_true, cond_false]
  obtain ⟨va, vb⟩ := aF.v_pi hv
  exact fE (C6 (M := B + 1) (by omega) (n := n) (by omega) (op (i := 0) rfl rfl va) (ob rfl rfl rfl va vb) r e)
 | sig a b =>
  simp only [show ∀ c : Int, decide ((of (Tm.sig a b)).k = c) = decide ((13 : Int) = c) from fun _ => rfl, Int.reduceEq, decide_true, decide_false, cond_true, cond_false]
  obtain ⟨va, vb⟩ := aF.v_sig hv
  exact fE (C6 (M := B + 1) (by omega) (n := n) (by omega) (op (i := 0) rfl rfl va) (ob rfl rfl rfl va vb) r e)
 | lam a b =>
  simp only [show ∀ c : Int, decide ((of (Tm.lam a b)).k = c) = decide ((4 : Int) = c) from fun _ => rfl, Int.reduceEq, decide_true, decide_false, cond_true, cond_false]
  obtain ⟨va, vb⟩ := aF.v_lam hv
  exact fE (Am (M := B + 1) (by omega) (n := n) (by omega) rfl (op (i := 0) rfl rfl va) (ob rfl rfl rfl va vb) va (fun P => inI O g G P) (fun X _ vP m hm r e => ih m G _ (by omega) hG hl vP r e) r e)
 | elim p z s q =>
  simp only [show ∀ c : Int, decide ((of (Tm.elim p z s q)).k = c) = decide ((9 : Int) = c) from fun _ => rfl, Int.reduceEq, decide_true, decide_false, cond_true, cond_false]
  obtain ⟨va, vb, vd, ve, _⟩ := aF.v_elim hv
  exact fE (wV (M := B + 1) (by omega) (n := n) (by omega) rfl rfl hv (op (i := 0) rfl rfl va) (op (i := 1) rfl rfl vb) (op (i := 2) rfl rfl vd) (op (i := 3) rfl rfl ve) r e)
 | id a b d =>
  simp only [show ∀ c : Int, decide ((of (Tm.id a b d)).k = c) = decide ((10 : Int) = c) from fun _ => rfl, Int.reduceEq, decide_true, decide_false, cond_true, cond_false]
  obtain ⟨va, vb, vd⟩ := aF.v_id hv
  exact fE (zM (M := B + 1) (by omega) (n := n) (by omega) rfl va (op (i := 0) rfl rfl va) (op (i := 1) rfl rfl vb) (op (i := 2) rfl rfl vd) r e)
 | move a b d =>
  simp only [show ∀ c : Int, decide ((of (Tm.move a b d)).k = c) = decide ((12 : Int) = c) from fun _ => rfl, Int.reduceEq, decide_true, decide_false, cond_true, cond_false]
  obtain ⟨va, vb, vd⟩ := aF.v_move hv
  exact fE (GM (M := B + 1) (by omega) (n := n) (by omega) rfl hv (op (i := 0) rfl rfl va) (op (i := 1) rfl rfl vb) (op (i := 2) rfl rfl vd) r e)
 | pair a b d =>
  simp only [show ∀ c : Int, decide ((of (Tm.pair a b d)).k = c) = decide ((14 : Int) = c) from fun _ => rfl, Int.reduceEq, decide_true, decide_false, cond_true, cond_false]
  obtain ⟨va, vb, vd⟩ := aF.v_pair hv
  exact fE (Ej (M := B + 1) (by omega) (n := n) (by omega) rfl rfl hv (op (i := 0) rfl rfl va) (op (i := 1) rfl rfl vb) (op (i := 2) rfl rfl vd) r e)
 | fst a =>
  simp only [show ∀ c : Int, decide ((of (Tm.fst a)).k = c) = decide ((15 : Int) = c) from fun _ => rfl, Int.reduceEq, decide_true, decide_false, cond_true, cond_false]
  have va := aF.v_fst hv
  exact fE ((FI (M := B + 1) (by omega) (n := n) (by omega) rfl hv (op (i := 0) rfl rfl va)).1 rfl r e)
 | snd a =>
  simp only [show ∀ c : Int, decide ((of (Tm.snd a)).k = c) = decide ((16 : Int) = c) from fun _ => rfl, Int.reduceEq, decide_true, decide_false, cond_true, cond_false]
  have va := aF.v_snd hv
  have vf : vdM (.fst a) = true := by
   have h := eK.1 hv
   rw [eK]
   exact h
  exact fE ((FI (M := B + 1) (by omega) (n := n) (by omega) rfl vf (op (i := 0) rfl rfl va)).2 rfl r e)
 | var m =>
  simp only [show ∀ c : Int, decide ((of (Tm.var m)).k = c) = decide ((1 : Int) = c) from fun _ => rfl, Int.reduceEq, decide_true, decide_false, cond_true, cond_false]
  have e : (match Tm.look G m with | some A => made O A | none => some Rs.bad) = some r := e
  rw [cA, show (of (Tm.var m)).n = (m : Int) from rfl]
  cases hlk : Tm.look G m with
  | none =>
   rw [hlk] at e; cases e
   have := nz hlk
   rw [decide_eq_true (show (G.length : Int) ≤ m by omega)]
   exact a6 .bad (.mk 0 0 [])
  | some A =>
   rw [hlk] at e
   have hlt := Cw hlk
   obtain ⟨C, hC, rfl⟩ := mM hlk
   have vC := hG C (List.mem_of_getElem? hC)
   have zC := ae vC
   have hg := Fx G hlt
   rw [hC] at hg
   have w : IntKind.i64.wrap (IntKind.i64.wrap ((G.length : Int) - 1) - m) = ((G.length - 1 - m : Nat) : Int) := by
    rw [wrap64 (a := (G.length : Int) - 1) (by omega), wrap64 (by omega)]; omega
   have w1 : IntKind.i64.wrap ((m : Int) + 1) = ((m + 1 : Nat) : Int) := by rw [wrap64 (by omega)]; rfl
   rw [decide_eq_false (show ¬ (G.length : Int) ≤ m by omega), w, decide_eq_true (show (0 : Int) ≤ ((G.length - 1 - m : Nat) : Int) by omega), Int.toNat_natCast, hg, w1]
   simp only [Option.map_some, evt]
   have hs := nd (n := n) (t := of C) (a := ((m + 1 : Nat) : Int)) (c := 0) (by omega) (vI vC) (by omega) (by omega) (by omega)
   rw [shR, sC] at hs
   rw [hs]
   simp only [evt]
   refine ju (sf (n := n) (m := C.ren (· + (m + 1))) ?_) r e
   rw [← sC, lj]; omega
 | sort m =>
  simp only [show ∀ c : Int, decide ((of (Tm.sort m)).k = c) = decide ((2 : Int) = c) from fun _ => rfl, Int.reduceEq, decide_true, decide_false, cond_true, cond_false]
  have hm := aF.v_sort.1 hv
  have e : some (if m < 3 then Rs.ok (.sort (m + 1)) else Rs.bad) = some r := e
  rw [show (of (Tm.sort m)).n = (m : Int) from rfl]
  by_cases h3 : m < 3
  ·rw [if_pos h3] at e; cases e
   rw [decide_eq_false (show ¬ (m : Int) = 3 by omega), wrap64 (show -9223372036854775808 ≤ (m : Int) + 1 ∧ (m : Int) + 1 ≤ 9223372036854775807 by omega)]
   simp only [evt]
   rw [yT (n := n) (by omega)]
   simp only [evt]
   exact ⟨of (.sort (m + 1)), 0, rfl, rfl, rfl⟩
  ·rw [if_neg h3] at e; cases e
   rw [decide_eq_true (show (m : Int) = 3 by omega)]
   exact a6 .bad (.mk 0 0 [])
 | nat =>
  simp only [show ∀ c : Int, decide ((of (Tm.nat)).k = c) = decide ((6 : Int) = c) from fun _ => rfl, Int.reduceEq, decide_true, decide_false, cond_true, cond_false]
  cases e
  rw [yT (n := n) (by omega)]
  simp only [evt]
  exact ⟨of (.sort 0), 0, rfl, rfl, rfl⟩
 | zero =>
  simp only [show ∀ c : Int, decide ((of (Tm.zero)).k = c) = decide ((7 : Int) = c) from fun _ => rfl, Int.reduceEq, decide_true, decide_false, cond_true, cond_false]
  cases e
  rw [rN (n := n) (by omega)]
  simp only [evt]
  exact ⟨of .nat, 0, rfl, rfl, rfl⟩
 | succ a =>
  simp only [show ∀ c : Int, decide ((of (Tm.succ a)).k = c) = decide ((8 : Int) = c) from fun _ => rfl, Int.reduceEq, decide_true, decide_false, cond_true, cond_false]
  have va := aF.v_succ hv
  have zn : (of .nat).size ≤ 100000 := by decide
  rw [rN (n := n) (by omega)]
  simp only [evt]
  rcases iB (kN (M := B + 1) (by omega) (n := n) (by omega) (show Op (B + 1) _ _ 0 _ from op (i := 0) rfl rfl va) (w := .nat) zn) e with ⟨t', e1, eo, e2⟩ | ⟨c', eo, hc⟩
  ·have eo : FF n 125 [jd (cx G) (of (.succ a)), nt 0, .agg [.int .i64 6, .int .i64 0, .fr (.ts [])]] (hp (cx G) (of (.succ a))) = _ := eo
   cases e2
   rw [eo]
   simp only [evt]
   exact ⟨of .nat, 0, rfl, rfl, rfl⟩
  ·have eo : FF n 125 [jd (cx G) (of (.succ a)), nt 0, .agg [.int .i64 6, .int .i64 0, .fr (.ts [])]] (hp (cx G) (of (.succ a))) = _ := eo
   rw [eo]
   simp only [evt]
   rw [decide_eq_false hc.ne]
   exact a6 hc (.mk 0 0 [])
 | app f u =>
  simp only [show ∀ c : Int, decide ((of (Tm.app f u)).k = c) = decide ((5 : Int) = c) from fun _ => rfl, Int.reduceEq, decide_true, decide_false, cond_true, cond_false]
  obtain ⟨va, vb⟩ := aF.v_app hv
  have zb := ae vb
  have e : (sq (frm O (inI O g G f)) fun F => match F with
   | .pi C B => sq (chk O (inI O g G u) C) fun _ => made O (B.inst u)
   | _ => some .bad) = some r := e
  rcases pO (M := B + 1) (by omega) (n := n) (by omega) (show Op (B + 1) _ _ 0 _ from op (i := 0) rfl rfl va) 3 e with ⟨F, eo, hk, vf, e2⟩ | ⟨F, eo, hk, e2⟩ | ⟨c', eo, hc⟩
  ·rw [eo]
   cases F <;> try (rw [gE] at hk; simp only [Int.reduceEq] at hk; done)
   rename_i C D
   obtain ⟨vC, vD⟩ := aF.v_pi vf
   have zC := ae vC
   have zi := gG vD vb
   have hs := yS (n := n) (by omega) (of C) [of D] 3 0
   simp only [tm, cP, cQ, az] at hs
   simp only [evt, of, pC]
   rw [hs]
   simp only [evt]
   rcases iB (zY (M := B + 1) (by omega) (n := n) (by omega) (show Op (B + 1) _ _ 1 _ from op (i := 1) rfl rfl vb) (w := C) (by omega)) e2 with ⟨t', e3, eo, e4⟩ | ⟨c', eo, hc⟩
   ·simp only [of, tm, jd, hp, cP, cQ, az] at eo
    rw [eo]
    simp only [evt, pC]
    rw [wC (n := n) (by omega) vD vb]
    simp only [evt]
    exact ju (sf (n := n) (m := D.inst u) (by omega)) r e4
   ·simp only [of, tm, jd, hp, cP, cQ, az] at eo
    rw [eo]
    simp only [evt]
    rw [decide_eq_false hc.ne]
    exact a6 hc (.mk 0 0 [])
  ·rw [eo]
   have hs := kj (n := n) (by omega)
   have hq := mm (n := n) (c := cx G) (t := of (.app f u)) (i := 1) (by omega) (.mk 0 0 []) (c' := 1) (by decide)
   simp only [tm, cP, cQ, az] at hs hq
   simp only [evt]
   rw [hs]
   simp only [evt]
   rw [hq]
   have : r = .bad := by
    cases F <;> first | (exact absurd (gE _) hk) | (cases e2; rfl)
   subst this
   exact a6 .bad (.mk 0 0 [])
  ·rw [eo]
   have hs := kj (n := n) (by omega)
   have hq := mm (n := n) (c := cx G) (t := of (.app f u)) (i := 1) (by omega) (.mk 0 0 []) (c' := c') hc.ne
   simp only [tm, cP, cQ, az] at hs hq
   simp only [evt]
   rw [hs]
   simp only [evt]
   rw [hq]
   simp only [evt]
   rw [decide_eq_false hc.ne]
   exact a6 hc (.mk 0 0 [])
 | refl a =>
  simp only [show ∀ c : Int, decide ((of (Tm.refl a)).k = c) = decide ((11 : Int) = c) from fun _ => rfl, Int.reduceEq, decide_true, decide_false, cond_true, cond_false]
  have va := aF.v_refl hv
  have za := ae va
  have e : (sq (inI O g G a) fun A => sq (lvl O (inI O g G A)) fun _ => made O (.id A a a)) = some r := e
  rcases qy ((op (i := 0) rfl rfl va).iv n (by omega)) e with ⟨A, e1, eo, e2⟩ | ⟨y, c', eo, hc⟩
  ·have vA := ok va A e1
   have zA := ae vA
   rw [show ((0 : Nat) : Int) = 0 from rfl] at eo
   rw [eo]
   simp only [evt]
   rcases qp (BC (M := B) (by omega) (n := n) (by omega) (iv vA) (ok vA)) e2 with ⟨i, e3, eo, e4⟩ | ⟨i, c', eo, hc⟩
   ·simp only [tms, tm] at eo
    rw [eo]
    simp only [evt, of, oY]
    rw [kx (n := n) (by omega)]
    simp only [evt]
    exact ju (l9 (n := n) (m := .id A a a) (by simp only [of, T.size, T.aE]; omega)) r e4
   ·simp only [tms, tm] at eo
    rw [eo]
    simp only [evt]
    rw [decide_eq_false hc.ne]
    exact a6 hc (.mk 0 0 [])
  ·rw [show ((0 : Nat) : Int) = 0 from rfl] at eo
   rw [eo]
   simp only [evt]
   rw [decide_eq_false hc.ne]
   exact a6 hc (.mk 0 0 [])
theorem Bu : ∀ g, IhI g (7000500 + 30 * g)
 | 0 => fun n G t _ _ _ _ r e => by cases e
 | g + 1 => fun n G t hn hG hl hv r e => by
  obtain ⟨n, rfl⟩ := af (show 0 < n by omega)
  rw [vE]
  obtain ⟨x, c', h1, h2⟩ := D2 (Bu g) (by omega) (n := n) (by omega) hG hl hv r e
  rw [h1]
  simp only [evt]
  exact ⟨x, c', rfl, h2⟩
end Go.Proofs.YtajlknlnmmbfcaaGreat
end
section
namespace Go.Proofs.YtajlknlnmmbfcaaGreat
open Go Go.Ab Go.Dk
abbrev st (s : ByteArray) : V1 := .one (.str s)
abbrev Im (s : ByteArray) (a : Int) (r : List V1 × List au) : Prop := ∃ (t : T) (e : Int), r = ([tm t, nt e], []) ∧ -1 ≤ e ∧ e ≤ s.size ∧ (0 ≤ e → a + t.size ≤ e)
theorem yw {n : Nat} (hn : 1 ≤ n) (k m : Int) : Tot (FF n 82 [nt k, nt m] []) (fun r => r = ([tm (.mk k m [])], [])) := ⟨_, bx hn k m, rfl⟩
theorem nk {n : Nat} (hn : 1 ≤ n) (k : Int) (l : List T) (hl : l.length ≤ 100) : Tot (FF n 81 [nt k, tms l] []) (fun r => r = ([tm (.mk k 0 l)], [])) := ⟨_, bE hn k l (by omega), rfl⟩
theorem xX {n : Nat} (hn : 1 ≤ n) (k : Int) : Tot (FF n 138 [nt k] []) (fun r => r = ([nt (opsOf k)], [])) := ⟨_, kU hn k, rfl⟩
section
variable {s : ByteArray} (hs : s.size ≤ 1000000) {d N : Nat} (hd : d ≤ 30) (ih : ∀ n, N ≤ n → ∀ a : Int, 0 ≤ a → a ≤ s.size + 1 → Tot (FF n 154 [st s, nt a, nt (d : Int)] []) (Im s a))
include hs hd ih
end
abbrev pz (m : Nat) (r : List V1 × List au) : Prop := ∃ s : ByteArray, r = ([st s], []) ∧ s.size ≤ m
theorem yl (v : Int) (h : 0 ≤ v ∧ v ≤ 9) : IntKind.u8.wrap (IntKind.i64.wrap (48 + v)) = 48 + v := by
 rw [wrap64 (by omega)]
 rw [IntKind.wrap]; simp [IntKind.signed, IntKind.bits]; omega
theorem Em {n : Nat} (hn : 5 ≤ n) {v : Int} (hv : 0 ≤ v ∧ v ≤ 99) : Tot (FF n 182 [nt v] []) (pz 2) := by
 refine bf (C := 4) hn fun n hn _ => ?_
 rw [qK]
 rw [decide_eq_false (show ¬ v < -9223372036854775807 by omega), decide_eq_false (show ¬ v < 0 by omega)]
 simp only [cond_false]
 have fin : ∀ (m : Nat) (v : Int) (x : ByteArray), 0 ≤ v ∧ v ≤ 9 → x.size ≤ 1 → Tot (ec n (m + 1) v x) (pz 2) := by
  intro m v x hv hx
  rw [gl, yl v hv, decide_eq_false (show ¬ 9 < v by omega), decide_eq_true (show 0 ≤ 48 + v by omega), decide_eq_true (show 48 + v ≤ 255 by omega)]
  simp only [Bool.and_self, cond_true, cond_false]
  refine al (fun _ => aq ?_) (fun hq => ?_)
  ·exact ⟨_, rfl, by rw [ByteArray.size_append]; show 1 + x.size ≤ 2; omega⟩
  ·have hq' := of_decide_eq_false hq
   exact absurd (show 1 + x.size ≤ 9223372036854775807 by omega) hq'
 obtain ⟨m, rfl⟩ : ∃ m, n = m + 2 := ⟨n - 2, by omega⟩
 by_cases h9 : 9 < v
 ·have hm := nV (show 0 ≤ v by omega) (show (0 : Int) < 10 by omega)
  have hd := wg (show 0 ≤ v by omega) (show (0 : Int) < 10 by omega)
  have hd2 : v.tdiv 10 ≤ 9 := by rw [Int.tdiv_eq_ediv_of_nonneg (by omega)]; omega
  rw [gl, yl _ (by omega), decide_eq_true h9, decide_eq_true (show 0 ≤ 48 + v.tmod 10 by omega), decide_eq_true (show 48 + v.tmod 10 ≤ 255 by omega), wrap64 (by omega)]
  simp only [Bool.and_self, cond_true]
  refine al (fun _ => ?_) (fun hq => ?_)
  ·exact fin m _ _ ⟨hd.1, hd2⟩ (by rw [ByteArray.size_append]; exact Nat.le_refl 1)
  ·have hq' := of_decide_eq_false hq
   exact absurd (show 1 + 0 ≤ 9223372036854775807 by omega) hq'
 ·exact fin (m + 1) v _ ⟨hv.1, by omega⟩ (by decide)
theorem size_bytes (l : List UInt8) : (bytesOf l).size = l.length := by simp [bytesOf, ByteArray.size]
theorem uI (n : Nat) (ts : List T) (hl : ts.length ≤ 1000) (hsz : T.aE ts ≤ 1000) (h : ∀ u ∈ ts, Tot (FF n 177 [tm u] []) (pz (8 * u.size - 1))) :
   ∀ g m (i : Nat) (x : ByteArray), g < m → i + g = ts.length → x.size + 8 * T.aE (ts.drop i) ≤ 8 * T.aE ts → Tot (cg n m ts x i) (pz (8 * T.aE ts))
 | g, 0, i, x, hg, _, _ => by omega
 | 0, m + 1, i, x, _, hi, hx => by
  rw [gq, decide_eq_false (show ¬ (i : Int) < ts.length by omega)]
  refine aq ?_
  exact ⟨_, rfl, by omega⟩
 | g + 1, m + 1, i, x, hg, hi, hx => by
  have hlt : i < ts.length := by omega
  have hm := List.getElem_mem hlt
  rw [List.drop_eq_getElem_cons hlt, T.aE] at hx
  have w : IntKind.i64.wrap ((i : Int) + 1) = ((i + 1 : Nat) : Int) := wrap64 (by omega)
  have hp := size_pos ts[i]
  rw [gq, w]
  simp only [Int.toNat_natCast, List.getElem?_eq_getElem hlt, Option.bind_some, ByteArray.size_append, size_bytes, List.length_cons, List.length_nil]
  have nx : ∀ y : ByteArray, y.size ≤ x.size + 8 * ts[i].size → Tot (cg n m ts y ((i + 1 : Nat) : Int)) (pz (8 * T.aE ts)) := fun y hy => uI n ts hl hsz h g m (i + 1) y (by omega) (by omega) (by omega)
  repeat' (first | (simp (disch := omega) only [wrap64]; done) | (simp (disch := omega) only [wrap64]) | (with_reducible refine al (fun hq => ?_) (fun hq => ?_) <;> (try simp (disch := omega) only [wrap64] at hq) <;> (try simp only [decide_eq_true_eq, decide_eq_false_iff_not, Bool.not_eq_true', Bool.not_eq_false', Bool.and_eq_true, Bool.and_eq_false_iff, inB, Bool.not_true, Bool.not_false] at hq) <;> try (exfalso; omega; done)) | (with_reducible refine ak (h _ hm) ?_; rintro _ ⟨s, rfl, hs⟩; simp only [evt]) | (with_reducible exact nx _ (by simp only [ByteArray.size_append, size_bytes, List.length_cons, List.length_nil]; omega)))
theorem Hm {t : T} {i : Nat} {k : T → OR} {Q : List V1 × List au → Prop} (h : i < t.kids.length) (hk : Tot (k (kd t i)) Q) : Tot (t.kids[i]?.bind k) Q := by
 rw [cj h]; exact hk
theorem DR (t : T) : ∀ {n : Nat}, 2 * t.size + 10 ≤ n → ah t = true → Tot (FF n 177 [tm t] []) (pz (8 * t.size - 1)) := by
 induction t using T.ind with | h t ih =>
 intro n hn hv
 have hsz := T.size_eq t
 have hz := ae hv
 have hl := T.br t.kids
 have ho := lC hv
 refine bf (C := 2 * t.size + 9) hn fun n hn _ => ?_
 have hk : ∀ i, i < t.kids.length → Tot (FF n 177 [tm (kd t i)] []) (pz (8 * (kd t i).size - 1)) := fun i hi => ih _ (jG hi) (by have := T.aX (jG hi); omega) (bF hv (jG hi))
 have hkz : ∀ i, i < t.kids.length → (kd t i).size ≤ T.aE t.kids := fun i hi => T.aX (jG hi)
 have hlist : Tot (FF n 183 [tms t.kids] []) (pz (8 * T.aE t.kids)) := by
  refine bf (C := 2 * t.size + 8) (by omega) fun n hn e => ?_
  subst e
  rw [rT]
  exact uI n t.kids (by omega) (by omega) (fun u hu => ih u hu (by have := T.aX hu; omega) (bF hv hu)) t.kids.length n 0 _ (by omega) (by omega) (by simp [size_bytes])
 rw [sk]
 simp only [Int.toNat_zero, Int.reduceToNat, Int.toNat_one]
 have l8 : t.k = 8 → t.kids.length = 1 := fun h => bT hv (c := 1) (by rw [h]; rfl)
 have l11 : t.k = 11 → t.kids.length = 1 := fun h => bT hv (c := 1) (by rw [h]; rfl)
 have l15 : t.k = 15 → t.kids.length = 1 := fun h => bT hv (c := 1) (by rw [h]; rfl)
 have l16 : t.k = 16 → t.kids.length = 1 := fun h => bT hv (c := 1) (by rw [h]; rfl)
 have l3 : t.k = 3 → t.kids.length = 2 := fun h => bT hv (c := 2) (by rw [h]; rfl)
 have l13 : t.k = 13 → t.kids.length = 2 := fun h => bT hv (c := 2) (by rw [h]; rfl)
 have l5 : t.k = 5 → t.kids.length = 2 := fun h => bT hv (c := 2) (by rw [h]; rfl)
 have l4 : t.k = 4 → t.kids.length = 2 := fun h => bT hv (c := 2) (by rw [h]; rfl)
 have h01 : t.kids.length = 2 → (kd t 0).size + (kd t 1).size ≤ T.aE t.kids := by
  intro h2
  cases t with | mk k n' ts =>
  match ts, h2 with
  | [x, y], _ => simp [kd, T.kids, T.aE]
 have h0 := hkz 0
 have z0 := size_pos (kd t 0)
 have z1 := size_pos (kd t 1)
 have hn20 : 0 ≤ t.n ∧ t.n ≤ 20 := ⟨(nT (gw hv)).1, (nT (gw hv)).2.1⟩
 simp only [ByteArray.size_append, size_bytes, List.length_cons, List.length_nil]
 repeat' (first | (simp (disch := omega) only [wrap64]; done) | (simp (disch := omega) only [wrap64]) | (with_reducible refine al (fun hq => ?_) (fun hq => ?_) <;> (try simp (disch := omega) only [wrap64] at hq) <;> (try simp only [decide_eq_true_eq, decide_eq_false_iff_not, Bool.not_eq_true', Bool.not_eq_false', Bool.and_eq_true, Bool.and_eq_false_iff, inB, Bool.not_true, Bool.not_false] at hq) <;> try (exfalso; omega; done)) | (with_reducible refine ak (Em (by omega) (by omega)) ?_; rintro _ ⟨s, rfl, hs⟩; simp only [evt]) | (with_reducible refine ak (hlist) ?_; rintro _ ⟨s, rfl, hs⟩; simp only [evt]) | ((with_reducible refine Hm (t := t) (by omega) ?_)) | (with_reducible refine ak (hk 0 (by omega)) ?_; rintro _ ⟨s, rfl, hs⟩; simp only [evt]) | (with_reducible refine ak (hk 1 (by omega)) ?_; rintro _ ⟨s', rfl, hs'⟩; simp only [evt]) | ((with_reducible refine aq ?_); (exact ⟨_, rfl, by simp only [ByteArray.size_append, size_bytes, List.length_cons, List.length_nil]; omega⟩)))
theorem uj {n : Nat} {t : T} (hn : 3 * t.size + 2000 ≤ n) (hz : t.size ≤ 1000000) : Tot (FF n 155 [tm t] []) (fun r => ∃ s : ByteArray, r = ([st s], []) ∧ (ah t = false → s.size = 0)) := by
 refine bf (C := 3 * t.size + 1999) hn fun n hn _ => ?_
 rw [lb, aL (by omega) (by omega)]
 simp only [evt]
 cases hv : ah t with
 | false => exact ⟨_, rfl, _, rfl, fun _ => rfl⟩
 | true =>
  simp only [Bool.not_true, cond_false]
  refine ak (DR t (by omega) hv) ?_
  rintro _ ⟨s, rfl, _⟩
  exact ⟨_, rfl, _, rfl, fun h => by cases h⟩
end Go.Proofs.YtajlknlnmmbfcaaGreat
end
section
namespace Go.Proofs.YtajlknlnmmbfcaaGreat
open Go Go.Ab Go.Dk
theorem gu {n : Nat} (hn : 1 ≤ n) {l : List UInt8} {p m k : Int} (h : g6 l p m) (hm : m ≤ 1000000000000) (hk : k ≤ 2147483648) :
   Tot (FF n 79 [.one (.ptr 0 0), nt k] [rdr l p]) (fun r => ∃ v p' : Int, r = ([nt v], [rdr l p']) ∧ 0 ≤ v ∧ (0 < k → v < k) ∧ g6 l p' (m + 1)) := by
 obtain ⟨v, ⟨h1, h2, _⟩, h3, h4⟩ := FU h (by omega) hk
 exact ⟨_, h4 n hn, v, _, rfl, h1, h2, h3⟩
theorem rZ {n : Nat} (hn : 2 ≤ n) {l : List UInt8} {p m : Int} {ss : List Int} (h : g6 l p m) (hm : m ≤ 1000000000000) (hs : ss ≠ []) (hl : ss.length ≤ 1000) :
   Tot (FF n 86 [.one (.ptr 0 0), .one (.fr (.is ss))] [rdr l p]) (fun r => ∃ v p' : Int, r = ([nt v], [rdr l p']) ∧ v ∈ ss ∧ g6 l p' (m + 1)) := by
 obtain ⟨v, h1, h3, h4⟩ := Kh h (by omega) hs (by omega)
 exact ⟨_, h4 n hn, v, _, rfl, h1, h3⟩
theorem H7 {n : Nat} (hn : 1 ≤ n) (l : List UInt8) : Tot (FF n 48 [.one (.fr (.bs l))] []) (fun r => ∃ l', r = ([.one (.ptr 0 0)], [rdr l' 0]) ∧ g6 l' 0 0) := by
 obtain ⟨l', h1, h2⟩ := IH l
 exact ⟨_, h2 n hn, l', rfl, h1⟩
theorem zK : ah (.mk 7 0 []) = true := by decide +kernel
theorem Ea (ts : List T) (v : T) (h : 0 < ts.length) : T.aE (ts.set 0 v) ≤ T.aE ts + v.size := by
 match ts, h with
 | t :: ts, _ => simp only [List.set_cons_zero, T.aE]; omega
theorem BG (ts : List T) (v : T) : T.aE (ts ++ [v]) = T.aE ts + v.size := by
 induction ts with
 | nil => simp [T.aE]
 | cons x ts ih => simp only [List.cons_append, T.aE, ih]; omega
end Go.Proofs.YtajlknlnmmbfcaaGreat
end
section
namespace Go.Proofs.YtajlknlnmmbfcaaGreat
open Go Go.Ab Go.Dk
def okA (l : List T) : Bool := decide (l.length ≤ 8) && l.all ah
theorem Bm {l : List T} (h : okA l = true) : l.length ≤ 8 ∧ ∀ t ∈ l, ah t = true := by
 unfold okA at h
 rw [Bool.and_eq_true, decide_eq_true_eq, List.all_eq_true] at h
 exact h
theorem uJ (n : Nat) (l : List T) (hl : l.length ≤ 4000000) (h : ∀ t ∈ l, FF n 65 [tm t] [] = some ([bl (ah t)], [])) :
   ∀ g m (i : Nat), g < m → i + g = l.length → dZ n m l i = some ([bl ((l.drop i).all ah && decide (l.length ≤ 8))], [])
 | g, 0, i, hg, _ => by omega
 | 0, m + 1, i, _, hi => by
  rw [gv, List.drop_of_length_le (by omega), decide_eq_false (show ¬ (i : Int) < l.length by omega)]
  have : decide ((l.length : Int) ≤ 8) = decide (l.length ≤ 8) := decide_eq_decide.2 (by omega)
  simp [this]
 | g + 1, m + 1, i, hg, hi => by
  have hlt : i < l.length := by omega
  rw [List.drop_eq_getElem_cons hlt, List.all_cons]
  rw [gv]; simp (disch := omega) only [evt, ax, Int.toNat_natCast, gD, wrap64, aU, List.length_append, List.length_cons, List.length_nil, if_pos (show (i : Int) < l.length by omega), if_pos (show 0 ≤ (i : Int) by omega), List.getElem?_eq_getElem hlt, h _ (List.getElem_mem hlt)]
  cases hs : ah l[i] with
  | false => simp
  | true =>
   simp only [Bool.not_true, cond_false, Bool.true_and]
   exact uJ n l hl h g m (i + 1) (by omega) (by omega)
theorem gZ {n : Nat} {l : List T} (hn : 4400000 ≤ n) (hl : l.length ≤ 4000000) (hz : ∀ t ∈ l, t.size ≤ 4000000) : FF n 64 [tms l] [] = some ([bl (okA l)], []) := by
 obtain ⟨n, rfl⟩ := af (show 0 < n by omega)
 rw [q9]
 have := uJ n l hl (fun t ht => aL (by have := hz t ht; omega) (hz t ht)) l.length n 0 (by omega) (by omega)
 rw [List.drop_zero] at this
 unfold okA
 rw [Bool.and_comm]
 exact this
end Go.Proofs.YtajlknlnmmbfcaaGreat
end
section
namespace Go.Proofs.YtajlknlnmmbfcaaGreat
namespace Tm
variable {O : Orc}
section
variable (O : Orc)
open Classical in
noncomputable def tI (G : List Tm) (t : Tm) : Rs := if h : ∃ r, Is (fun n => inI O n G t) r then h.choose else .opn
open Classical in
noncomputable def tS (G : List Tm) (t : Tm) : Rs := if h : ∃ r, Is (fun n => inS O n G t) r then h.choose else .opn
def lvr (x : Rs) : Rs := (lvl O (some x)).getD .opn
def ckr (x : Rs) (w : Tm) : Rs := (chk O (some x) w).getD .opn
def cc (f : List Tm → Tm → Rs) : List Tm → Rs
 | [] => .ok nat
 | A :: G => match cc f G with
  | .ok _ => lvr O (f G A)
  | r => r
def pt (f : List Tm → Tm → Rs) (G : List Tm) (t : Tm) : Rs := match cc O f G with
 | .ok _ => f G t
 | r => r
def ps (f : List Tm → Tm → Rs) (G : List Tm) (t : Tm) : Rs := match cc O f G with
 | .ok _ => lvr O (f G t)
 | r => r
def pc (f : List Tm → Tm → Rs) (G : List Tm) (t A : Tm) : Rs := match ps O f G A with
 | .ok _ => ckr O (f G t) A
 | r => r
end
theorem GA {G : List Tm} {t : Tm} {r : Rs} (h : Is (fun n => inI O n G t) r) : tI O G t = r := by
 have e : ∃ r, Is (fun n => inI O n G t) r := ⟨r, h⟩
 rw [tI, dif_pos e]; exact e.choose_spec.uniq h
theorem Hr {G : List Tm} {t : Tm} {r : Rs} (h : Is (fun n => inS O n G t) r) : tS O G t = r := by
 have e : ∃ r, Is (fun n => inS O n G t) r := ⟨r, h⟩
 rw [tS, dif_pos e]; exact e.choose_spec.uniq h
theorem yr (k : bR O) {G : List Tm} (w : Wf G) (t : Tm) : Is (fun n => inI O n G t) (tI O G t) := by
 obtain ⟨r, h⟩ := Hj k w t
 rw [GA h]; exact h
theorem A8 (k : bR O) {G : List Tm} (w : Wf G) (t : Tm) : Is (fun n => inS O n G t) (tS O G t) := by
 obtain ⟨r, h⟩ := CC k w t
 rw [Hr h]; exact h
theorem qj (x : Rs) : lvl O (some x) = some (lvr O x) := by
 unfold lvr
 cases h : lvl O (some x) with
 | some r => rfl
 | none =>
  exfalso
  unfold lvl frm sq at h
  cases x with
  | ok s =>
   simp only at h
   cases hs : O.hn s <;> rw [hs] at h <;> simp only at h <;> first | (cases h; done) | (split at h <;> cases h)
  | bad => cases h
  | opn => cases h
theorem Bn (x : Rs) (w : Tm) : chk O (some x) w = some (ckr O x w) := by
 cases x <;> rfl
theorem Fh (k : bR O) {x : Rs} {h : Tm} (e : lvr O x = .ok h) : ∃ s i, x = .ok s ∧ h = sort i ∧ Wh s (sort i) := by
 obtain ⟨s, i, e1, e2, e3⟩ := gm k ((qj x).trans (congrArg some e))
 exact ⟨s, i, Option.some.inj e1, e2, e3⟩
theorem IZ (k : bR O) {x : Rs} {w h : Tm} (e : ckr O x w = .ok h) : ∃ s, x = .ok s ∧ Conv s w := by
 obtain ⟨s, e1, e2⟩ := df k ((Bn x w).trans (congrArg some e))
 exact ⟨s, Option.some.inj e1, e2⟩
theorem An (k : bR O) {G : List Tm} (w : Wf G) {t A : Tm} (h : tI O G t = .ok A) : Al G t A := Da k (h ▸ yr k w t)
theorem As (k : bR O) {G : List Tm} (w : Wf G) {t A : Tm} (v : O.vd t = true) (h : tI O G t = .ok A) : O.vd A = true := by
 obtain ⟨N, hN⟩ := yr k w t
 exact CT k v ((hN N (Nat.le_refl N)).trans (congrArg some h))
theorem EF (k : bR O) {G : List Tm} (w : Wf G) {t A : Tm} (h : tS O G t = .ok A) : O.vd A = true := (Jz k (h ▸ A8 k w t)).2
theorem jF (k : bR O) : ∀ {G : List Tm} {A : Tm}, cc O (tI O) G = .ok A → Wf G
 | [], _, _ => .nil
 | B :: G, A, h => by
  unfold cc at h
  split at h
  ·rename_i e
   have w := jF k e
   obtain ⟨N, hN⟩ := yr k w B
   have e2 : Is (fun n => lvl O (inI O n G B)) (.ok A) := ⟨N, fun n hn => by show lvl O (inI O n G B) = _; rw [show inI O n G B = _ from hN n hn, qj, h]⟩
   exact qI k w e2
  ·rename_i e; exact absurd h (e A)
theorem uF (k : bR O) : ∀ {G : List Tm} {A : Tm}, cc O (tS O) G = .ok A → Wf G
 | [], _, _ => .nil
 | B :: G, A, h => by
  unfold cc at h
  split at h
  ·rename_i e
   have w := uF k e
   obtain ⟨N, hN⟩ := A8 k w B
   have e2 : Is (fun n => lvl O (inS O n G B)) (.ok A) := ⟨N, fun n hn => by show lvl O (inS O n G B) = _; rw [show inS O n G B = _ from hN n hn, qj, h]⟩
   exact sU k w e2
  ·rename_i e; exact absurd h (e A)
theorem Jt (k : bR O) {G : List Tm} {t A : Tm} (h : pt O (tI O) G t = .ok A) : Wf G ∧ tI O G t = .ok A ∧ ∃ B, cc O (tI O) G = .ok B := by
 unfold pt at h
 split at h
 ·rename_i e; exact ⟨jF k e, h, _, e⟩
 ·rename_i e; exact absurd h (e A)
theorem Bw (k : bR O) {G : List Tm} {t A : Tm} (h : ps O (tI O) G t = .ok A) : Wf G ∧ lvr O (tI O G t) = .ok A ∧ ∃ B, cc O (tI O) G = .ok B := by
 unfold ps at h
 split at h
 ·rename_i e; exact ⟨jF k e, h, _, e⟩
 ·rename_i e; exact absurd h (e A)
theorem Ja (k : bR O) {G : List Tm} {t A : Tm} (h : ps O (tS O) G t = .ok A) : Wf G ∧ lvr O (tS O G t) = .ok A ∧ ∃ B, cc O (tS O) G = .ok B := by
 unfold ps at h
 split at h
 ·rename_i e; exact ⟨uF k e, h, _, e⟩
 ·rename_i e; exact absurd h (e A)
def qN (O : Orc) : List Tm → Prop
 | [] => True
 | A :: G => qN O G ∧ (Wf G → di O G A)
theorem yx (k : bR O) {G : List Tm} {t : Tm} (w : Wf G) (hl : G.length ≤ 20) (v : O.vd t = true) (f : di O G t) : tI O G t = tS O G t := by
 obtain ⟨r, h1, h2⟩ := u7 k w hl v f
 rw [GA h2, Hr h1]
theorem xF (k : bR O) : ∀ {G : List Tm}, G.length ≤ 20 → (∀ A ∈ G, O.vd A = true) → qN O G → cc O (tI O) G = cc O (tS O) G
 | [], _, _, _ => rfl
 | A :: G, hl, hv, hf => by
  have e := xF k (G := G) (by simp only [List.length_cons] at hl; omega) (fun B hB => hv B (List.mem_cons_of_mem _ hB)) hf.1
  unfold cc
  rw [← e]
  cases h : cc O (tI O) G with
  | ok B =>
   have w := jF k h
   simp only
   rw [yx k w (by simp only [List.length_cons] at hl; omega) (hv A List.mem_cons_self) (hf.2 w)]
  | bad => rfl
  | opn => rfl
theorem GQ (k : bR O) {G : List Tm} {t : Tm} (hl : G.length ≤ 20) (hv : ∀ A ∈ G, O.vd A = true) (hf : qN O G) (v : O.vd t = true) (f : Wf G → di O G t) : pt O (tI O) G t = pt O (tS O) G t := by
 unfold pt
 rw [← xF k hl hv hf]
 cases h : cc O (tI O) G with
 | ok B => have w := jF k h; simp only; exact yx k w hl v (f w)
 | bad => rfl
 | opn => rfl
theorem Dq (k : bR O) {G : List Tm} {t : Tm} (hl : G.length ≤ 20) (hv : ∀ A ∈ G, O.vd A = true) (hf : qN O G) (v : O.vd t = true) (f : Wf G → di O G t) : ps O (tI O) G t = ps O (tS O) G t := by
 unfold ps
 rw [← xF k hl hv hf]
 cases h : cc O (tI O) G with
 | ok B => have w := jF k h; simp only; rw [yx k w hl v (f w)]
 | bad => rfl
 | opn => rfl
theorem G7 (k : bR O) {G : List Tm} {t A : Tm} (hl : G.length ≤ 20) (hv : ∀ A ∈ G, O.vd A = true) (hf : qN O G) (v : O.vd t = true) (f : Wf G → di O G t) (v' : O.vd A = true) (f' : Wf G → di O G A) : pc O (tI O) G t A = pc O (tS O) G t A := by
 unfold pc
 rw [← Dq k hl hv hf v' f']
 cases h : ps O (tI O) G A with
 | ok B => have w := (Bw k h).1; simp only; rw [yx k w hl v (f w)]
 | bad => rfl
 | opn => rfl
theorem EH (k : bR O) {G : List Tm} {t A : Tm} (w : Wf G) (hl : G.length ≤ 20) (v : O.vd t = true) (h : Ty G t A) : tI O G t = tS O G t ∧ tI O G t ≠ .bad ∧ ∀ B, tI O G t = .ok B → Ty G t B ∧ Conv B A := by
 obtain ⟨r, h1, h2, h3, h4⟩ := BM k w hl v h
 rw [GA h1, Hr h2]
 exact ⟨rfl, h3, h4⟩
end Tm
end Go.Proofs.YtajlknlnmmbfcaaGreat
end
section
namespace Go.Proofs.YtajlknlnmmbfcaaGreat
open Go Go.Ab Go.Dk
open Tm (Rs sq frm lvl chk fam made inI inS tI tS lvr ckr cc Wf)
def zr : Rs → T
 | .ok t => of t
 | _ => .mk 0 0 []
def sts : Rs → Int
 | .ok _ => 0
 | .bad => 1
 | .opn => 2
def lvn : Rs → Int
 | .ok t => Tm.lv t
 | _ => 0
theorem C5 {h : List au} {o : OR} {r : Rs} (k : RSh h o r) : ∃ x, o = some ([tm x, nt (sts r)], h) ∧ ∀ t, r = .ok t → x = of t := by
 obtain ⟨x, c, rfl, h2⟩ := k
 cases r with
 | ok t => obtain ⟨rfl, rfl⟩ := h2; exact ⟨_, rfl, fun t e => by cases e; rfl⟩
 | bad => cases h2; exact ⟨_, rfl, fun t e => by cases e⟩
 | opn => cases h2; exact ⟨_, rfl, fun t e => by cases e⟩
theorem IB {o : OR} {r : Rs} (k : RS o r) : ∃ x, o = some ([tm x, nt (sts r)], []) ∧ x.size ≤ 1000000 ∧ ∀ t, r = .ok t → x = of t := by
 obtain ⟨x, c, rfl, hz, h2⟩ := k
 cases r with
 | ok t => obtain ⟨rfl, rfl⟩ := h2; exact ⟨_, rfl, hz, fun t e => by cases e; rfl⟩
 | bad => cases h2; exact ⟨_, rfl, hz, fun t e => by cases e⟩
 | opn => cases h2; exact ⟨_, rfl, hz, fun t e => by cases e⟩
theorem wY {h : List au} {o : OR} {r : Rs} (k : RLh h o r) : ∃ i, o = some ([nt i, nt (sts r)], h) ∧ ∀ t, r = .ok t → i = lvn r := by
 obtain ⟨i, c, rfl, h2⟩ := k
 cases r with
 | ok t => obtain ⟨rfl, j, rfl, rfl⟩ := h2; exact ⟨_, rfl, fun t e => by cases e; rfl⟩
 | bad => cases h2; exact ⟨_, rfl, fun t e => by cases e⟩
 | opn => cases h2; exact ⟨_, rfl, fun t e => by cases e⟩
theorem Fl {o : OR} {r : Rs} (k : RC o r) : o = some ([nt (sts r)], []) := by
 obtain ⟨c, rfl, h2⟩ := k
 cases r with
 | ok t => cases h2; rfl
 | bad => cases h2; rfl
 | opn => cases h2; rfl
theorem IY {o : OR} {r : Rs} (k : RL o r) : ∃ i, o = some ([nt i, nt (sts r)], []) ∧ ∀ t, r = .ok t → i = lvn r := by
 obtain ⟨i, c, rfl, h2⟩ := k
 cases r with
 | ok t => obtain ⟨rfl, j, rfl, rfl⟩ := h2; exact ⟨_, rfl, fun t e => by cases e; rfl⟩
 | bad => cases h2; exact ⟨_, rfl, fun t e => by cases e⟩
 | opn => cases h2; exact ⟨_, rfl, fun t e => by cases e⟩
theorem rn {r : Rs} : sts r = 0 ↔ ∃ t, r = .ok t := by cases r <;> simp [sts]
theorem oD {G : List Tm} {t : Tm} (w : Wf G) (hG : ∀ A ∈ G, vdM A = true) (hl : G.length ≤ 20) (hv : vdM t = true) : ∃ B, 7000500 ≤ B ∧ IvI B (cx G) (of t) (some (tI O G t)) := by
 obtain ⟨N, hN⟩ := Tm.yr aF w t
 refine ⟨7000500 + 30 * N, by omega, fun m hm r e => ?_⟩
 cases e
 exact Bu N m G t hm hG hl hv _ (hN N (Nat.le_refl N))
theorem oy {G : List Tm} {t : Tm} (w : Wf G) (hG : ∀ A ∈ G, vdM A = true) (hl : G.length ≤ 20) (hv : vdM t = true) : ∃ B, ∀ n, B ≤ n → RLh [] (FF n 54 [tms (cx G), tm (of t)] []) (lvr O (tI O G t)) := by
 obtain ⟨B, hB, h⟩ := oD w hG hl hv
 exact ⟨B + 2, fun n hn => BC hB hn h (fun s e => Tm.As aF w hv (Option.some.inj e)) _ (Tm.qj _)⟩
theorem Dm {G : List Tm} {t u : Tm} (w : Wf G) (hG : ∀ A ∈ G, vdM A = true) (hl : G.length ≤ 20) (hv : vdM t = true) (hu : vdM u = true) : ∃ B, ∀ n, B ≤ n → FF n 55 [tms (cx G), tm (of t), tm (of u)] [] = some ([nt (sts (ckr O (tI O G t) u))], []) := by
 obtain ⟨B, hB, h⟩ := oD w hG hl hv
 refine ⟨B + 2, fun n hn => ?_⟩
 obtain ⟨n, rfl⟩ := af (show 0 < n by omega)
 have zu := ae hu
 rw [uO]
 obtain ⟨x, eo, hx⟩ := C5 (h n (by omega) _ rfl)
 rw [eo]
 simp only [evt]
 cases hr : tI O G t with
 | ok A =>
  have vA : vdM A = true := Tm.As aF w hv hr
  have zA := ae vA
  rw [hx A hr]
  simp only [sts, decide_true, Bool.not_true, cond_false]
  have := Fl (lh (n := n) (a := A) (b := u) (by omega) (by omega) (by omega))
  rw [this]
  rfl
 | bad => rfl
 | opn => rfl
theorem tg {f : List Tm → Tm → Rs} {H : List Tm} (h : ∀ t, cc O f H ≠ .ok t) : ∀ P : List Tm, cc O f (P ++ H) = cc O f H
 | [] => rfl
 | A :: P => by
  have e := tg h P
  rw [List.cons_append, cc, e]
  cases h2 : cc O f H with
  | ok t => exact absurd h2 (h t)
  | bad => rfl
  | opn => rfl
theorem uP : ∀ (Q H : List Tm), (∀ A ∈ H, vdM A = true) → (∀ A ∈ Q, vdM A = true) → H.length + Q.length ≤ 20 → (∃ t, cc O (tI O) H = .ok t) → ∃ B, ∀ n, B ≤ n → ∀ m, Q.length < m →
   bg n m (cx H ++ Q.map of) (cx H ++ Q.map of) (H.length + Q.length : Nat) (H.length : Nat) = some ([nt (sts (cc O (tI O) (Q.reverse ++ H)))], [])
 | [], H, vH, vQ, hl, ⟨t, ht⟩ => by
  refine ⟨0, fun n hn m hm => ?_⟩
  obtain ⟨m, rfl⟩ := af (show 0 < m by omega)
  rw [dL, decide_eq_false (show ¬ ((H.length : Nat) : Int) < ((H.length + ([] : List Tm).length : Nat) : Int) by simp)]
  rw [List.reverse_nil, List.nil_append, ht]; rfl
 | A :: Q, H, vH, vQ, hl, ⟨t, ht⟩ => by
  have w := Tm.jF aF ht
  have vA := vQ A List.mem_cons_self
  have eG : (A :: Q).reverse ++ H = Q.reverse ++ (A :: H) := by simp
  have ex : cx H ++ (A :: Q).map of = cx (A :: H) ++ Q.map of := by simp [cx]
  have hcA : cc O (tI O) (A :: H) = lvr O (tI O H A) := by rw [cc, ht]
  simp only [List.length_cons] at hl
  obtain ⟨B1, h1⟩ := oy w vH (by omega) vA
  have hget : (cx H ++ (A :: Q).map of)[H.length]? = some (of A) := by
   rw [List.getElem?_append_right (by rw [cA]; omega), cA, Nat.sub_self]; rfl
  have htk : (cx H ++ (A :: Q).map of).take H.length = cx H := by
   have := List.take_left (l₁ := cx H) (l₂ := (A :: Q).map of)
   rw [cA] at this; exact this
  have hlen : (cx H ++ (A :: Q).map of).length = H.length + (Q.length + 1) := by simp [cA]
  have step : ∀ n, B1 ≤ n → ∀ m, bg n (m + 1) (cx H ++ (A :: Q).map of) (cx H ++ (A :: Q).map of) (H.length + (Q.length + 1) : Nat) (H.length : Nat) =
     cond (!decide (sts (lvr O (tI O H A)) = 0)) (some ([nt (sts (lvr O (tI O H A)))], [])) (bg n m (cx H ++ (A :: Q).map of) (cx H ++ (A :: Q).map of) (H.length + (Q.length + 1) : Nat) ((H.length + 1 : Nat) : Int)) := by
   intro n hn m
   obtain ⟨i, eo, _⟩ := wY (h1 n hn)
   rw [dL, decide_eq_true (show ((H.length : Nat) : Int) < ((H.length + (Q.length + 1) : Nat) : Int) by omega), cond_true, decide_eq_true (show (0 : Int) ≤ ((H.length : Nat) : Int) by omega), cond_true, Int.toNat_natCast, hget]
   simp only [Option.bind_some]
   rw [show Go.Ab.inB 0 ((H.length : Nat) : Int) (cx H ++ (A :: Q).map of).length = true from by rw [hlen]; simp [Go.Ab.inB]; omega, cond_true, htk, show (0 : Int).toNat = 0 from rfl, List.drop_zero]
   have eo : FF n 54 [tms (cx H), .agg [.int .i64 (of A).k, .int .i64 (of A).n, .fr (.ts (of A).kids)]] [] = _ := eo
   rw [eo]
   simp only [evt]
   rw [wrap64 (show -9223372036854775808 ≤ ((H.length : Nat) : Int) + 1 ∧ ((H.length : Nat) : Int) + 1 ≤ 9223372036854775807 by omega)]
   rfl
  cases hr : lvr O (tI O H A) with
  | ok s =>
   obtain ⟨B2, h2⟩ := uP Q (A :: H) (fun C hC => by rcases List.mem_cons.1 hC with rfl | hC; exact vA; exact vH C hC) (fun C hC => vQ C (List.mem_cons_of_mem _ hC)) (by simp only [List.length_cons]; omega) ⟨s, hcA.trans hr⟩
   refine ⟨max B1 B2, fun n hn m hm => ?_⟩
   obtain ⟨m, rfl⟩ := af (show 0 < m by omega)
   simp only [List.length_cons] at hm
   have := h2 n (by omega) m (by omega)
   rw [List.length_cons, step n (by omega), hr, eG, ex]
   simp only [sts, decide_true, Bool.not_true, cond_false]
   rw [List.length_cons, show H.length + 1 + Q.length = H.length + (Q.length + 1) by omega] at this
   exact this
  | bad =>
   refine ⟨B1, fun n hn m hm => ?_⟩
   obtain ⟨m, rfl⟩ := af (show 0 < m by omega)
   rw [List.length_cons, step n hn, hr, eG, tg (fun t e => by rw [hcA, hr] at e; cases e), hcA, hr]; rfl
  | opn =>
   refine ⟨B1, fun n hn m hm => ?_⟩
   obtain ⟨m, rfl⟩ := af (show 0 < m by omega)
   rw [List.length_cons, step n hn, hr, eG, tg (fun t e => by rw [hcA, hr] at e; cases e), hcA, hr]; rfl
theorem gp {l : List T} (h : okA l = true) : ∃ G : List Tm, l = cx G ∧ (∀ A ∈ G, vdM A = true) ∧ G.length ≤ 8 := by
 obtain ⟨hl, hv⟩ := Bm h
 have : ∀ l : List T, (∀ t ∈ l, ah t = true) → ∃ G : List Tm, l = G.map of ∧ ∀ A ∈ G, vdM A = true := by
  intro l
  induction l with
  | nil => exact fun _ => ⟨[], rfl, fun A hA => by cases hA⟩
  | cons t l ih =>
   intro h
   obtain ⟨G, e, hG⟩ := ih fun u hu => h u (List.mem_cons_of_mem _ hu)
   obtain ⟨m, em⟩ := cJ (h t List.mem_cons_self)
   refine ⟨m :: G, by rw [e, em]; rfl, fun A hA => ?_⟩
   rcases List.mem_cons.1 hA with rfl | hA
   ·have := h t List.mem_cons_self
    rw [em] at this; exact this
   ·exact hG A hA
 obtain ⟨G, e, hG⟩ := this l hv
 refine ⟨G.reverse, by rw [e, cx, List.map_reverse, List.reverse_reverse], fun A hA => hG A (List.mem_reverse.1 hA), ?_⟩
 rw [e, List.length_map] at hl
 rw [List.length_reverse]; exact hl
theorem uq {G : List Tm} (h : ∀ A ∈ G, vdM A = true) (hl : G.length ≤ 8) : okA (cx G) = true := by
 unfold okA
 rw [Bool.and_eq_true, decide_eq_true_eq, cA, List.all_eq_true]
 refine ⟨hl, fun t ht => ?_⟩
 obtain ⟨A, hA, rfl⟩ := List.mem_map.1 (List.mem_reverse.1 (show t ∈ (G.map of).reverse from ht))
 exact h A hA
theorem rE (n : Nat) (l : List T) (hl : l.length ≤ 4000000) (h : ∀ t ∈ l, FF n 59 [tm t] [] = some ([bl (ah t)], [])) :
   ∀ g m (i : Nat), g < m → i + g = l.length → b8 n m l l l.length i = cond ((l.drop i).all ah) (bg n n l l l.length 0) (some ([nt 3], []))
 | g, 0, i, hg, _ => by omega
 | 0, m + 1, i, _, hi => by
  rw [dI, List.drop_of_length_le (by omega), decide_eq_false (show ¬ (i : Int) < l.length by omega)]
  rfl
 | g + 1, m + 1, i, hg, hi => by
  have hlt : i < l.length := by omega
  rw [List.drop_eq_getElem_cons hlt, List.all_cons]
  rw [dI]; simp (disch := omega) only [evt, ax, Int.toNat_natCast, gD, wrap64, aU, List.length_append, List.length_cons, List.length_nil, if_pos (show (i : Int) < l.length by omega), if_pos (show 0 ≤ (i : Int) by omega), List.getElem?_eq_getElem hlt, h _ (List.getElem_mem hlt)]
  cases hs : ah l[i] with
  | false => simp
  | true =>
   simp only [Bool.not_true, cond_false, Bool.true_and]
   exact rE n l hl h g m (i + 1) (by omega) (by omega)
theorem m9 {n : Nat} {l : List T} (hn : 4400000 ≤ n) (hl : l.length ≤ 4000000) (hz : ∀ t ∈ l, t.size ≤ 4000000) (h : okA l = false) : FF n 36 [tms l] [] = some ([nt 3], []) := by
 obtain ⟨n, rfl⟩ := af (show 0 < n by omega)
 rw [fS]
 by_cases h8 : l.length ≤ 8
 ·rw [decide_eq_false (show ¬ (8 : Int) < l.length by omega), cond_false]
  have := rE n l hl (fun t ht => bX (by have := hz t ht; omega)) l.length n 0 (by omega) (by omega)
  unfold okA at h
  rw [decide_eq_true h8, Bool.true_and] at h
  rw [List.drop_zero, h] at this
  exact this
 ·rw [decide_eq_true (show (8 : Int) < l.length by omega)]; rfl
theorem jE {G : List Tm} (hG : ∀ A ∈ G, vdM A = true) (hl : G.length ≤ 8) : ∃ B, ∀ n, B ≤ n → FF n 36 [tms (cx G)] [] = some ([nt (sts (cc O (tI O) G))], []) := by
 obtain ⟨B, h⟩ := uP G.reverse [] (fun A hA => by cases hA) (fun A hA => hG A (List.mem_reverse.1 hA)) (by simp; omega) ⟨.nat, rfl⟩
 refine ⟨max B 4400000 + 1, fun n hn => ?_⟩
 obtain ⟨n, rfl⟩ := af (show 0 < n by omega)
 have hz : ∀ t ∈ cx G, t.size ≤ 4000000 := fun t ht => by
  obtain ⟨A, hA, rfl⟩ := List.mem_map.1 (List.mem_reverse.1 (show t ∈ (G.map of).reverse from ht))
  have := ae (hG A hA); omega
 have ho := Bm (uq hG hl)
 have hl' : (cx G).length ≤ 4000000 := by rw [cA]; omega
 rw [fS, decide_eq_false (show ¬ (8 : Int) < (cx G).length by rw [cA]; omega), cond_false]
 have e1 := rE n (cx G) hl' (fun t ht => bX (by have := hz t ht; omega)) (cx G).length n 0 (by omega) (by omega)
 rw [List.drop_zero, List.all_eq_true.2 ho.2, cond_true] at e1
 have e2 := h n (by omega) n (by rw [List.length_reverse]; omega)
 rw [List.append_nil, List.reverse_reverse] at e2
 have e3 : cx [] ++ G.reverse.map of = cx G := by rw [show cx [] = [] from rfl, List.nil_append, cx, List.map_reverse]
 rw [e3] at e2
 have e4 : ((([] : List Tm).length + G.reverse.length : Nat) : Int) = ((cx G).length : Int) := by rw [cA, List.length_reverse]; simp
 rw [e4] at e2
 exact e1.trans e2
end Go.Proofs.YtajlknlnmmbfcaaGreat
end
section
namespace Go.Proofs.YtajlknlnmmbfcaaGreat
open Go Go.Ab Go.Dk
open Tm (Rs sq frm lvl chk fam made inI inS tI tS lvr ckr cc pt ps pc Wf)
theorem qS {G : List Tm} (hG : ∀ A ∈ G, vdM A = true) : ∀ t ∈ cx G, t.size ≤ 4000000 := fun t ht => by
 obtain ⟨A, hA, rfl⟩ := List.mem_map.1 (List.mem_reverse.1 (show t ∈ (G.map of).reverse from ht))
 have := ae (hG A hA); omega
theorem tT (n : Nat) (l : List T) (hl : l.length ≤ 4000000) (h : ∀ t ∈ l, FF n 94 [tm t] [] = some ([bl (!ah t)], [])) :
   ∀ g m (i : Nat), g < m → i + g = l.length → ∃ v, aM n m l l.length i = some ([nt v], []) ∧ (0 ≤ v ↔ (l.drop i).all ah = false)
 | g, 0, i, hg, _ => by omega
 | 0, m + 1, i, _, hi => by
  rw [bW, List.drop_of_length_le (by omega), decide_eq_false (show ¬ (i : Int) < l.length by omega)]
  exact ⟨-1, rfl, by simp⟩
 | g + 1, m + 1, i, hg, hi => by
  have hlt : i < l.length := by omega
  rw [List.drop_eq_getElem_cons hlt, List.all_cons]
  rw [bW]; simp (disch := omega) only [evt, ax, Int.toNat_natCast, gD, wrap64, aU, List.length_append, List.length_cons, List.length_nil, if_pos (show (i : Int) < l.length by omega), if_pos (show 0 ≤ (i : Int) by omega), List.getElem?_eq_getElem hlt, h _ (List.getElem_mem hlt)]
  cases hs : ah l[i] with
  | false => exact ⟨i, rfl, by simp⟩
  | true =>
   simp only [Bool.not_true, cond_false, Bool.true_and]
   exact tT n l hl h g m (i + 1) (by omega) (by omega)
theorem CF {n : Nat} {l ts : List T} {c : Int} (hn : 4400000 ≤ n) (hl : ts.length ≤ 4000000) (hz : ∀ t ∈ ts, t.size ≤ 4000000) (h : FF n 36 [tms l] [] = some ([nt c], [])) : FF (n + 1) 53 [tms l, tms ts] [] = some ([nt (if ts.all ah = true then c else 3)], []) := by
 rw [ui, h]
 simp only [evt]
 obtain ⟨n, rfl⟩ : ∃ m, n = m + 2 := ⟨n - 2, by omega⟩
 have hc : ∀ t ∈ ts, FF n 94 [tm t] [] = some ([bl (!ah t)], []) := by
  intro t ht
  have := hz t ht
  obtain ⟨n, rfl⟩ : ∃ m, n = m + 1 := ⟨n - 1, by omega⟩
  rw [o6, bX (by omega)]
  simp only [evt]
 obtain ⟨v, h1, h2⟩ := tT n ts hl hc ts.length n 0 (by omega) (by omega)
 rw [dO, eI]
 rw [show (aM n n ts ts.length 0) = _ from h1]
 simp only [evt]
 rw [List.drop_zero] at h2
 cases ha : ts.all ah with
 | true =>
  rw [ha] at h2
  have : ¬ (0 : Int) ≤ v := fun hh => by have := h2.1 hh; cases this
  rw [decide_eq_false this]; rfl
 | false =>
  rw [ha] at h2
  rw [decide_eq_true (h2.2 rfl)]; rfl
theorem rA {G : List Tm} {ts : List T} (hG : ∀ A ∈ G, vdM A = true) (h8 : G.length ≤ 8) (hl' : ts.length ≤ 4000000) (hz' : ∀ t ∈ ts, t.size ≤ 4000000) (h : ts.all ah = true) : ∃ B, ∀ n, B ≤ n → FF n 53 [tms (cx G), tms ts] [] = some ([nt (sts (cc O (tI O) G))], []) := by
 obtain ⟨B, hB⟩ := jE hG h8
 refine ⟨max B 4400000 + 1, fun n hn => ?_⟩
 obtain ⟨n, rfl⟩ := af (show 0 < n by omega)
 rw [CF (by omega) hl' hz' (hB n (by omega)), if_pos h]
theorem wO {G : List Tm} {t : Tm} (hG : ∀ A ∈ G, vdM A = true) (h8 : G.length ≤ 8) (hv : vdM t = true) : ∃ B, ∀ n, B ≤ n → FF n 25 [tms (cx G), tm (of t)] [] = some ([tm (zr (pt O (tI O) G t)), nt (sts (pt O (tI O) G t))], []) := by
 have zt := ae hv
 obtain ⟨B, hB⟩ := rA (ts := [of t]) hG h8 (by simp) (by simp; omega) (by have h1 : ah (of t) = true := hv; simp [h1])
 unfold pt
 cases hc : cc O (tI O) G with
 | ok C =>
  have w := Tm.jF aF hc
  obtain ⟨B', hB', h'⟩ := oD w hG (by omega) hv
  refine ⟨max B B' + 1, fun n hn => ?_⟩
  obtain ⟨n, rfl⟩ := af (show 0 < n by omega)
  have e1 := hB n (by omega)
  rw [hc] at e1
  rw [dC, show T.mk (of t).k (of t).n (of t).kids = of t from by cases of t; rfl, e1]
  obtain ⟨x, eo, hx⟩ := C5 (h' n (by omega) _ rfl)
  simp only [evt, sts]
  have eo : FF n 57 [tms (cx G), .agg [.int .i64 (of t).k, .int .i64 (of t).n, .fr (.ts (of t).kids)]] [] = _ := eo
  rw [eo]
  simp only [evt]
  cases hr : tI O G t with
  | ok A =>
   have vA : vdM A = true := Tm.As aF w hv hr
   have zA := ae vA
   rw [hx A hr]
   simp only [sts, decide_true, Bool.not_true, cond_false]
   have := EL (of A) (n := n) (by omega) (by omega)
   rw [this]; rfl
  | bad => rfl
  | opn => rfl
 | bad =>
  refine ⟨B + 1, fun n hn => ?_⟩
  obtain ⟨n, rfl⟩ := af (show 0 < n by omega)
  have e1 := hB n (by omega)
  rw [hc] at e1
  rw [dC, show T.mk (of t).k (of t).n (of t).kids = of t from by cases of t; rfl, e1]; rfl
 | opn =>
  refine ⟨B + 1, fun n hn => ?_⟩
  obtain ⟨n, rfl⟩ := af (show 0 < n by omega)
  have e1 := hB n (by omega)
  rw [hc] at e1
  rw [dC, show T.mk (of t).k (of t).n (of t).kids = of t from by cases of t; rfl, e1]; rfl
theorem DY {G : List Tm} {t : Tm} (hG : ∀ A ∈ G, vdM A = true) (h8 : G.length ≤ 8) (hv : vdM t = true) : ∃ B, ∀ n, B ≤ n → FF n 38 [tms (cx G), tm (of t)] [] = some ([nt (lvn (ps O (tI O) G t)), nt (sts (ps O (tI O) G t))], []) := by
 have zt := ae hv
 obtain ⟨B, hB⟩ := rA (ts := [of t]) hG h8 (by simp) (by simp; omega) (by have h1 : ah (of t) = true := hv; simp [h1])
 unfold ps
 cases hc : cc O (tI O) G with
 | ok C =>
  have w := Tm.jF aF hc
  obtain ⟨B', h'⟩ := oy w hG (by omega) hv
  refine ⟨max B B' + 1, fun n hn => ?_⟩
  obtain ⟨n, rfl⟩ := af (show 0 < n by omega)
  have e1 := hB n (by omega)
  rw [hc] at e1
  rw [fG, show T.mk (of t).k (of t).n (of t).kids = of t from by cases of t; rfl, e1]
  obtain ⟨x, eo, hx⟩ := wY (h' n (by omega))
  simp only [evt, sts]
  have eo : FF n 54 [tms (cx G), .agg [.int .i64 (of t).k, .int .i64 (of t).n, .fr (.ts (of t).kids)]] [] = _ := eo
  rw [eo]
  simp only [evt]
  cases hr : lvr O (tI O G t) with
  | ok A => rw [hx A hr, hr]; rfl
  | bad => rfl
  | opn => rfl
 | bad =>
  refine ⟨B + 1, fun n hn => ?_⟩
  obtain ⟨n, rfl⟩ := af (show 0 < n by omega)
  have e1 := hB n (by omega)
  rw [hc] at e1
  rw [fG, show T.mk (of t).k (of t).n (of t).kids = of t from by cases of t; rfl, e1]; rfl
 | opn =>
  refine ⟨B + 1, fun n hn => ?_⟩
  obtain ⟨n, rfl⟩ := af (show 0 < n by omega)
  have e1 := hB n (by omega)
  rw [hc] at e1
  rw [fG, show T.mk (of t).k (of t).n (of t).kids = of t from by cases of t; rfl, e1]; rfl
theorem xo {G : List Tm} {t u : Tm} (hG : ∀ A ∈ G, vdM A = true) (h8 : G.length ≤ 8) (hv : vdM t = true) (hu : vdM u = true) : ∃ B, ∀ n, B ≤ n → FF n 23 [tms (cx G), tm (of t), tm (of u)] [] = some ([nt (sts (pc O (tI O) G t u))], []) := by
 have zt := ae hv
 have zu := ae hu
 have eu : T.mk (of u).k (of u).n (of u).kids = of u := by cases of u; rfl
 have et : T.mk (of t).k (of t).n (of t).kids = of t := by cases of t; rfl
 obtain ⟨B, hB⟩ := rA (ts := [of t, of u]) hG h8 (by simp) (by simp; omega) (by have h1 : ah (of t) = true := hv; have h2 : ah (of u) = true := hu; simp [h1, h2])
 unfold pc ps
 cases hc : cc O (tI O) G with
 | ok C =>
  have w := Tm.jF aF hc
  obtain ⟨B', h'⟩ := oy w hG (by omega) hu
  obtain ⟨B2, h2⟩ := Dm w hG (by omega) hv hu
  refine ⟨max B (max B' B2) + 1, fun n hn => ?_⟩
  obtain ⟨n, rfl⟩ := af (show 0 < n by omega)
  have e1 := hB n (by omega)
  rw [hc] at e1
  rw [dq, et, eu, e1]
  obtain ⟨x, eo, hx⟩ := wY (h' n (by omega))
  simp only [evt, sts]
  have eo : FF n 54 [tms (cx G), .agg [.int .i64 (of u).k, .int .i64 (of u).n, .fr (.ts (of u).kids)]] [] = _ := eo
  rw [eo]
  simp only [evt]
  cases hr : lvr O (tI O G u) with
  | ok A =>
   simp only [sts, decide_true, Bool.not_true, cond_false]
   have := h2 n (by omega)
   simp only [tms, tm] at this
   rw [this]; rfl
  | bad => rfl
  | opn => rfl
 | bad =>
  refine ⟨B + 1, fun n hn => ?_⟩
  obtain ⟨n, rfl⟩ := af (show 0 < n by omega)
  have e1 := hB n (by omega)
  rw [hc] at e1
  rw [dq, et, eu, e1]; rfl
 | opn =>
  refine ⟨B + 1, fun n hn => ?_⟩
  obtain ⟨n, rfl⟩ := af (show 0 < n by omega)
  have e1 := hB n (by omega)
  rw [hc] at e1
  rw [dq, et, eu, e1]; rfl
end Go.Proofs.YtajlknlnmmbfcaaGreat
end
section
namespace Go.Proofs.YtajlknlnmmbfcaaGreat
open Go Go.Dk
def pr2 (l : List Tm) (f : Tm → Tm → Tm) : List Tm := l.flatMap fun a => l.map (f a)
def pr3 (l : List Tm) (f : Tm → Tm → Tm → Tm) : List Tm := l.flatMap fun a => pr2 l (f a)
def pr4 (l : List Tm) (f : Tm → Tm → Tm → Tm → Tm) : List Tm := l.flatMap fun a => pr3 l (f a)
theorem H2 {l : List Tm} {f : Tm → Tm → Tm} {a b : Tm} (ha : a ∈ l) (hb : b ∈ l) : f a b ∈ pr2 l f := List.mem_flatMap.2 ⟨a, ha, List.mem_map.2 ⟨b, hb, rfl⟩⟩
theorem JF {l : List Tm} {f : Tm → Tm → Tm → Tm} {a b c : Tm} (ha : a ∈ l) (hb : b ∈ l) (hc : c ∈ l) : f a b c ∈ pr3 l f := List.mem_flatMap.2 ⟨a, ha, H2 hb hc⟩
theorem KF {l : List Tm} {f : Tm → Tm → Tm → Tm → Tm} {a b c d : Tm} (ha : a ∈ l) (hb : b ∈ l) (hc : c ∈ l) (hd : d ∈ l) : f a b c d ∈ pr4 l f := List.mem_flatMap.2 ⟨a, ha, JF hb hc hd⟩
def enum : Nat → List Tm
 | 0 => []
 | d + 1 => (List.range ((cd 1).toNat + 1)).map .var ++ ((List.range ((cd 2).toNat + 1)).map .sort ++ ([.nat, .zero] ++ ((enum d).map .succ ++ ((enum d).map .refl ++ ((enum d).map .fst ++ ((enum d).map .snd ++
    (pr2 (enum d) .pi ++ (pr2 (enum d) .sig ++ (pr2 (enum d) .lam ++ (pr2 (enum d) .app ++ (pr3 (enum d) .id ++ (pr3 (enum d) .move ++ (pr3 (enum d) .pair ++ pr4 (enum d) .elim)))))))))))))
theorem yo : ∀ (d : Nat) (t : Tm), bu (of t) d = true → t ∈ enum d
 | 0, t, h => by
  rw [gM] at h
  simp at h
 | d + 1, t, h => by
  have ih := yo d
  rw [gM] at h
  simp only [Bool.and_eq_true, decide_eq_true_eq, Nat.add_sub_cancel] at h
  obtain ⟨_, _, hn, hk⟩ := h
  unfold enum
  cases t with
  | var n =>
   simp only [of, Go.Dk.T.n, Go.Dk.T.k] at hn
   exact List.mem_append.2 (.inl (List.mem_map.2 ⟨n, List.mem_range.2 (by omega), rfl⟩))
  | sort n =>
   simp only [of, Go.Dk.T.n, Go.Dk.T.k] at hn
   exact List.mem_append.2 (.inr (List.mem_append.2 (.inl (List.mem_map.2 ⟨n, List.mem_range.2 (by omega), rfl⟩))))
  | _ =>
   simp only [of, Go.Dk.T.kids, bD, Bool.and_true, Bool.and_eq_true] at hk
   simp only [List.mem_append]
   first
    | (simp; done)
    | (have := ih _ hk; simp [this]; done)
    | (have := @H2 _ Tm.pi _ _ (ih _ hk.1) (ih _ hk.2); simp [this]; done)
    | (have := @H2 _ Tm.sig _ _ (ih _ hk.1) (ih _ hk.2); simp [this]; done)
    | (have := @H2 _ Tm.lam _ _ (ih _ hk.1) (ih _ hk.2); simp [this]; done)
    | (have := @H2 _ Tm.app _ _ (ih _ hk.1) (ih _ hk.2); simp [this]; done)
    | (have := @JF _ Tm.id _ _ _ (ih _ hk.1) (ih _ hk.2.1) (ih _ hk.2.2); simp [this]; done)
    | (have := @JF _ Tm.move _ _ _ (ih _ hk.1) (ih _ hk.2.1) (ih _ hk.2.2); simp [this]; done)
    | (have := @JF _ Tm.pair _ _ _ (ih _ hk.1) (ih _ hk.2.1) (ih _ hk.2.2); simp [this]; done)
    | (have := @KF _ Tm.elim _ _ _ _ (ih _ hk.1) (ih _ hk.2.1) (ih _ hk.2.2.1) (ih _ hk.2.2.2); simp [this]; done)
theorem Fw : ∃ L : List Tm, ∀ t, vdM t = true → t ∈ L := ⟨enum 30, fun t h => yo 30 t (eK.1 h).1⟩
def Cz (L : List Tm) : Nat → List (List Tm)
 | 0 => [[]]
 | k + 1 => [] :: L.flatMap fun a => (Cz L k).map (a :: ·)
theorem vG (L : List Tm) : ∀ (k : Nat) (G : List Tm), G.length ≤ k → (∀ A ∈ G, A ∈ L) → G ∈ Cz L k
 | 0, [], _, _ => by simp [Cz]
 | 0, A :: G, h, _ => by simp at h
 | k + 1, [], _, _ => by simp [Cz]
 | k + 1, A :: G, h, hG => List.mem_cons_of_mem _ (List.mem_flatMap.2 ⟨A, hG A List.mem_cons_self, List.mem_map.2 ⟨G, vG L k G (by simpa using h) (fun B hB => hG B (List.mem_cons_of_mem _ hB)), rfl⟩⟩)
theorem JU {α : Type} (P : α → Nat → Prop) : ∀ (L : List α), (∀ x ∈ L, ∃ B, ∀ n, B ≤ n → P x n) → ∃ B, ∀ x ∈ L, ∀ n, B ≤ n → P x n
 | [], _ => ⟨0, fun x hx => by cases hx⟩
 | a :: L, h => by
  obtain ⟨B, hB⟩ := h a List.mem_cons_self
  obtain ⟨C, hC⟩ := JU P L fun x hx => h x (List.mem_cons_of_mem _ hx)
  refine ⟨max B C, fun x hx n hn => ?_⟩
  rcases List.mem_cons.1 hx with rfl | hx
  ·exact hB n (by omega)
  ·exact hC x hx n (by omega)
theorem Ie (P : List Tm → Nat → Prop) (h : ∀ G : List Tm, (∀ A ∈ G, vdM A = true) → G.length ≤ 8 → ∃ B, ∀ n, B ≤ n → P G n) : ∃ B, ∀ G : List Tm, (∀ A ∈ G, vdM A = true) → G.length ≤ 8 → ∀ n, B ≤ n → P G n := by
 obtain ⟨L, hL⟩ := Fw
 obtain ⟨B, hB⟩ := JU (fun G n => (∀ A ∈ G, vdM A = true) → G.length ≤ 8 → P G n) (Cz L 8) fun G _ => by
  by_cases hg : (∀ A ∈ G, vdM A = true) ∧ G.length ≤ 8
  ·obtain ⟨B, hB⟩ := h G hg.1 hg.2
   exact ⟨B, fun n hn _ _ => hB n hn⟩
  ·exact ⟨0, fun n _ h1 h2 => absurd ⟨h1, h2⟩ hg⟩
 exact ⟨B, fun G hG hl n hn => hB G (vG L 8 G hl fun A hA => hL A (hG A hA)) n hn hG hl⟩
theorem s6 (P : Tm → Nat → Prop) (h : ∀ t, vdM t = true → ∃ B, ∀ n, B ≤ n → P t n) : ∃ B, ∀ t, vdM t = true → ∀ n, B ≤ n → P t n := by
 obtain ⟨L, hL⟩ := Fw
 obtain ⟨B, hB⟩ := JU (fun t n => vdM t = true → P t n) L fun t _ => by
  by_cases hv : vdM t = true
  ·obtain ⟨B, hB⟩ := h t hv
   exact ⟨B, fun n hn _ => hB n hn⟩
  ·exact ⟨0, fun n _ h1 => absurd h1 hv⟩
 exact ⟨B, fun t hv n hn => hB t (hL t hv) n hn hv⟩
end Go.Proofs.YtajlknlnmmbfcaaGreat
end
