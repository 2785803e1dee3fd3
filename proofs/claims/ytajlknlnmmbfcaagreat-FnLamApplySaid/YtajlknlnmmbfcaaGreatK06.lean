/- Part 6 of the proof. -/
import Derived.Test.YtajlknlnmmbfcaaGreatK01
import Derived.Test.YtajlknlnmmbfcaaGreatK02
import Derived.Test.YtajlknlnmmbfcaaGreatK03
import Derived.Test.YtajlknlnmmbfcaaGreatK04
import Derived.Test.YtajlknlnmmbfcaaGreatK05
set_option linter.unusedVariables false
set_option linter.unusedSimpArgs false
section
namespace Go.Proofs.YtajlknlnmmbfcaaGreat
namespace Tm
inductive Rs where
 | ok (t : Tm) | bad | opn
structure Orc where
 vd : Tm → Bool
 hn : Tm → Rs
 sm : Tm → Tm → Rs
structure bX (O : Orc) : Prop where
 hn_ok : ∀ {t h}, O.hn t = .ok h → Wh t h ∧ (∀ u, ¬ Hd h u) ∧ O.vd h = true
 hn_nb : ∀ t, O.hn t ≠ .bad
 sm_ok : ∀ {a b x}, O.sm a b = .ok x → Conv a b
 sm_nb : ∀ {a b}, O.sm a b = .bad → ¬ Conv a b
 sm_inv : ∀ {a b}, O.vd b = false → O.sm a b = .opn
 v_pi : ∀ {a b}, O.vd (pi a b) = true → O.vd a = true ∧ O.vd b = true
 v_sig : ∀ {a b}, O.vd (sig a b) = true → O.vd a = true ∧ O.vd b = true
 v_lam : ∀ {a b}, O.vd (lam a b) = true → O.vd a = true ∧ O.vd b = true
 v_app : ∀ {a b}, O.vd (app a b) = true → O.vd a = true ∧ O.vd b = true
 v_succ : ∀ {a}, O.vd (succ a) = true → O.vd a = true
 v_elim : ∀ {p z s n}, O.vd (elim p z s n) = true → O.vd p = true ∧ O.vd z = true ∧ O.vd s = true ∧ O.vd n = true ∧ O.vd (app p zero) = true
 v_id : ∀ {t a b}, O.vd (id t a b) = true → O.vd t = true ∧ O.vd a = true ∧ O.vd b = true
 v_refl : ∀ {a}, O.vd (refl a) = true → O.vd a = true
 v_move : ∀ {t a b}, O.vd (move t a b) = true → O.vd t = true ∧ O.vd a = true ∧ O.vd b = true
 v_pair : ∀ {t a b}, O.vd (pair t a b) = true → O.vd t = true ∧ O.vd a = true ∧ O.vd b = true
 v_fst : ∀ {a}, O.vd (fst a) = true → O.vd a = true
 v_snd : ∀ {a}, O.vd (snd a) = true → O.vd a = true
 v_lam3 : ∀ {a b}, O.vd (lam a b) = true → O.vd (pi a (sort 3)) = true
 v_sort : ∀ {n}, O.vd (sort n) = true ↔ n ≤ 3
 v_nat : O.vd nat = true
def sq (x : Option Rs) (k : Tm → Option Rs) : Option Rs := match x with
 | some (.ok t) => k t
 | x => x
def lv : Tm → Nat
 | sort n => n
 | _ => 0
section
variable (O : Orc)
def frm (x : Option Rs) : Option Rs := sq x fun s => some (O.hn s)
def lvl (x : Option Rs) : Option Rs := sq (frm O x) fun h => match h with
 | sort n => some (.ok (sort n))
 | _ => some .bad
def chk (x : Option Rs) (want : Tm) : Option Rs := sq x fun s => some (O.sm s want)
def made (t : Tm) : Option Rs := some (if O.vd t = true then .ok t else .opn)
def fam (x : Option Rs) (t : Tm) : Option Rs := sq (frm O x) fun f => match f with
 | pi C D => sq (some (O.sm C t)) fun _ => sq (some (O.hn D)) fun h => match h with
  | sort _ => some (.ok h)
  | _ => some .bad
 | _ => some .bad
variable (I : List Tm → Tm → Option Rs)
def bnd (G : List Tm) (a b : Tm) : Option Rs := sq (lvl O (I G a)) fun i => sq (lvl O (I (a :: G) b)) fun j => some (.ok (sort (max (lv i) (lv j))))
def kS (G : List Tm) : Tm → Option Rs
 | var n => match look G n with
  | some A => some (.ok A)
  | none => some .bad
 | sort n => some (if n < 3 then .ok (sort (n + 1)) else .bad)
 | pi a b => bnd O I G a b
 | sig a b => bnd O I G a b
 | lam a b => sq (lvl O (I G a)) fun _ => sq (I (a :: G) b) fun B => sq (bnd O I G a B) fun _ => some (.ok (pi a B))
 | app f u => sq (frm O (I G f)) fun F => match F with
  | pi C B => sq (chk O (I G u) C) fun _ => some (.ok (B.inst u))
  | _ => some .bad
 | nat => some (.ok (sort 0))
 | zero => some (.ok nat)
 | succ n => sq (chk O (I G n) nat) fun _ => some (.ok nat)
 | elim p z s n => sq (fam O (I G p) nat) fun _ => sq (chk O (I G z) (app p zero)) fun _ => sq (chk O (I G s) (bc p)) fun _ => sq (chk O (I G n) nat) fun _ => some (.ok (app p n))
 | id t a b => sq (lvl O (I G t)) fun i => sq (chk O (I G a) t) fun _ => sq (chk O (I G b) t) fun _ => some (.ok i)
 | refl a => sq (I G a) fun A => sq (lvl O (I G A)) fun _ => some (.ok (id A a a))
 | move p e x => sq (frm O (I G e)) fun E => match E with
  | id t y z => sq (fam O (I G p) t) fun _ => sq (chk O (I G x) (app p y)) fun _ => some (.ok (app p z))
  | _ => some .bad
 | pair s a b => sq (lvl O (I G s)) fun _ => sq (some (O.hn s)) fun h => match h with
  | sig A B => sq (chk O (I G a) A) fun _ => sq (chk O (I G b) (B.inst a)) fun _ => some (.ok s)
  | _ => some .bad
 | fst q => sq (frm O (I G q)) fun Q => match Q with
  | sig A B => some (.ok A)
  | _ => some .bad
 | snd q => sq (frm O (I G q)) fun Q => match Q with
  | sig A B => some (.ok (B.inst (fst q)))
  | _ => some .bad
def inS : Nat → List Tm → Tm → Option Rs
 | 0, _, _ => none
 | g + 1, G, t => if O.vd t = false ∨ 20 < G.length then some .opn else sq (kS O (inS g) G t) (made O)
def ext (G : List Tm) (a b : Tm) : Option Rs := if 20 ≤ G.length then some .opn else I (a :: G) b
def kI (G : List Tm) : Tm → Option Rs
 | var n => match look G n with
  | some A => made O A
  | none => some .bad
 | sort n => some (if n < 3 then .ok (sort (n + 1)) else .bad)
 | pi a b => sq (lvl O (I G a)) fun i => sq (lvl O (ext I G a b)) fun j => some (.ok (sort (max (lv i) (lv j))))
 | sig a b => sq (lvl O (I G a)) fun i => sq (lvl O (ext I G a b)) fun j => some (.ok (sort (max (lv i) (lv j))))
 | lam a b => sq (lvl O (I G a)) fun _ => sq (ext I G a b) fun B => sq (made O (pi a B)) fun P => sq (I G P) fun _ => some (.ok P)
 | app f u => sq (frm O (I G f)) fun F => match F with
  | pi C B => sq (chk O (I G u) C) fun _ => made O (B.inst u)
  | _ => some .bad
 | nat => some (.ok (sort 0))
 | zero => some (.ok nat)
 | succ n => sq (chk O (I G n) nat) fun _ => some (.ok nat)
 | elim p z s n => sq (fam O (I G p) nat) fun _ => sq (made O (app p zero)) fun w => sq (chk O (I G z) w) fun _ => sq (made O (bc p)) fun w => sq (chk O (I G s) w) fun _ => sq (chk O (I G n) nat) fun _ => made O (app p n)
 | id t a b => sq (lvl O (I G t)) fun i => sq (chk O (I G a) t) fun _ => sq (chk O (I G b) t) fun _ => some (.ok i)
 | refl a => sq (I G a) fun A => sq (lvl O (I G A)) fun _ => made O (id A a a)
 | move p e x => sq (frm O (I G e)) fun E => match E with
  | id t y z => sq (fam O (I G p) t) fun _ => sq (made O (app p y)) fun w => sq (chk O (I G x) w) fun _ => made O (app p z)
  | _ => some .bad
 | pair s a b => sq (lvl O (I G s)) fun _ => sq (some (O.hn s)) fun h => match h with
  | sig A B => sq (chk O (I G a) A) fun _ => sq (made O (B.inst a)) fun w => sq (chk O (I G b) w) fun _ => some (.ok s)
  | _ => some .bad
 | fst q => sq (frm O (I G q)) fun Q => match Q with
  | sig A B => some (.ok A)
  | _ => some .bad
 | snd q => sq (frm O (I G q)) fun Q => match Q with
  | sig A B => made O (B.inst (fst q))
  | _ => some .bad
def inI : Nat → List Tm → Tm → Option Rs
 | 0, _, _ => none
 | g + 1, G, t => kI O (inI g) G t
end
variable {O : Orc}
theorem aG {x : Option Rs} {k : Tm → Option Rs} {A : Tm} (h : sq x k = some (.ok A)) : ∃ t, x = some (.ok t) ∧ k t = some (.ok A) := by
 unfold sq at h
 split at h
 ·exact ⟨_, rfl, h⟩
 ·rename_i h2; exact absurd h (h2 A)
theorem jq (k : bX O) {x : Option Rs} {h : Tm} (e : frm O x = some (.ok h)) : ∃ s, x = some (.ok s) ∧ Wh s h := by
 obtain ⟨s, e1, e2⟩ := aG e
 exact ⟨s, e1, (k.hn_ok (Option.some.inj e2)).1⟩
theorem iu (k : bX O) {x : Option Rs} {h : Tm} (e : lvl O x = some (.ok h)) : ∃ s i, x = some (.ok s) ∧ h = sort i ∧ Wh s (sort i) := by
 obtain ⟨s, e1, e2⟩ := aG e
 obtain ⟨u, e3, w⟩ := jq k e1
 split at e2
 ·cases e2; exact ⟨u, _, e3, rfl, w⟩
 ·cases e2
theorem dy (k : bX O) {x : Option Rs} {t h : Tm} (e : chk O x t = some (.ok h)) : ∃ s, x = some (.ok s) ∧ Conv s t := by
 obtain ⟨s, e1, e2⟩ := aG e
 exact ⟨s, e1, k.sm_ok (Option.some.inj e2)⟩
theorem bT {t h : Tm} (e : made O t = some (.ok h)) : h = t ∧ O.vd t = true := by
 unfold made at e
 split at e
 ·cases e; exact ⟨rfl, ‹_›⟩
 ·cases e
theorem wW (k : bX O) {x : Option Rs} {t h : Tm} (e : fam O x t = some (.ok h)) : ∃ P C D i, x = some (.ok P) ∧ Wh P (pi C D) ∧ Conv C t ∧ Wh D (sort i) := by
 obtain ⟨s, e1, e2⟩ := aG e
 obtain ⟨u, e3, w⟩ := jq k e1
 split at e2
 ·obtain ⟨s1, e4, e5⟩ := aG e2
  obtain ⟨s2, e6, e7⟩ := aG e5
  split at e7
  ·exact ⟨u, _, _, _, e3, w, k.sm_ok (Option.some.inj e4), (k.hn_ok (Option.some.inj e6)).1⟩
  ·cases e7
 ·cases e2
theorem bF (k : bX O) : ∀ {g : Nat} {G : List Tm} {t A : Tm}, inS O g G t = some (.ok A) → Al G t A ∧ O.vd A = true
 | 0, _, _, _, h => by cases h
 | g + 1, G, t, A, h => by
  rw [inS] at h
  split at h
  ·cases h
  ·obtain ⟨X, h, e⟩ := aG h
   obtain ⟨rfl, hv⟩ := bT e
   refine ⟨?_, hv⟩
   have bd : ∀ {a b h}, bnd O (inS O g) G a b = some (.ok h) → ∃ S R i j, Al G a S ∧ Wh S (sort i) ∧ Al (a :: G) b R ∧ Wh R (sort j) ∧ h = sort (max i j) := by
    intro a b h e
    obtain ⟨x, e1, e2⟩ := aG e
    obtain ⟨y, e3, e4⟩ := aG e2
    obtain ⟨S, i, f1, rfl, w1⟩ := iu k e1
    obtain ⟨R, j, f2, rfl, w2⟩ := iu k e3
    cases e4
    exact ⟨S, R, i, j, (bF k f1).1, w1, (bF k f2).1, w2, rfl⟩
   cases t with
   | var n =>
    simp only [kS] at h
    split at h
    ·cases h; exact .var ‹_›
    ·cases h
   | sort n =>
    simp only [kS, Option.some.injEq] at h
    split at h
    ·cases h; exact .sort ‹_›
    ·cases h
   | pi a b => obtain ⟨S, R, i, j, h1, w1, h2, w2, rfl⟩ := bd h; exact .pi h1 w1 h2 w2
   | sig a b => obtain ⟨S, R, i, j, h1, w1, h2, w2, rfl⟩ := bd h; exact .sig h1 w1 h2 w2
   | lam a b =>
    obtain ⟨x, e1, e2⟩ := aG h
    obtain ⟨B, e3, e4⟩ := aG e2
    obtain ⟨y, e5, e6⟩ := aG e4
    obtain ⟨S, R, i, j, h1, w1, h2, w2, rfl⟩ := bd e5
    cases e6
    exact .lam h1 w1 (bF k e3).1 h2 w2
   | app f u =>
    obtain ⟨F, e1, e2⟩ := aG h
    obtain ⟨S, e3, w⟩ := jq k e1
    split at e2
    ·obtain ⟨x, e4, e5⟩ := aG e2
     obtain ⟨U, e6, c⟩ := dy k e4
     cases e5
     exact .app (bF k e3).1 w (bF k e6).1 c
    ·cases e2
   | nat => cases h; exact .nat
   | zero => cases h; exact .zero
   | succ n =>
    obtain ⟨x, e1, e2⟩ := aG h
    obtain ⟨U, e6, c⟩ := dy k e1
    cases e2
    exact .succ (bF k e6).1 c
   | elim p z s n =>
    obtain ⟨x, e1, e2⟩ := aG h
    obtain ⟨P, C, D, i, f1, w, c, v⟩ := wW k e1
    obtain ⟨x, e3, e4⟩ := aG e2
    obtain ⟨Z, f2, c2⟩ := dy k e3
    obtain ⟨x, e5, e6⟩ := aG e4
    obtain ⟨S, f3, c3⟩ := dy k e5
    obtain ⟨x, e7, e8⟩ := aG e6
    obtain ⟨N, f4, c4⟩ := dy k e7
    cases e8
    exact .elim (bF k f1).1 w c v (bF k f2).1 c2 (bF k f3).1 c3 (bF k f4).1 c4
   | id t a b =>
    obtain ⟨x, e1, e2⟩ := aG h
    obtain ⟨S, i, f1, rfl, w⟩ := iu k e1
    obtain ⟨x, e3, e4⟩ := aG e2
    obtain ⟨Z, f2, c2⟩ := dy k e3
    obtain ⟨x, e5, e6⟩ := aG e4
    obtain ⟨S, f3, c3⟩ := dy k e5
    cases e6
    exact .id (bF k f1).1 w (bF k f2).1 c2 (bF k f3).1 c3
   | refl a =>
    obtain ⟨B, e1, e2⟩ := aG h
    obtain ⟨x, e3, e4⟩ := aG e2
    obtain ⟨S, i, f1, rfl, w⟩ := iu k e3
    cases e4
    exact .refl (bF k e1).1 (bF k f1).1 w
   | move p e x =>
    obtain ⟨F, e1, e2⟩ := aG h
    obtain ⟨S, e3, w⟩ := jq k e1
    split at e2
    ·obtain ⟨x, e4, e5⟩ := aG e2
     obtain ⟨P, C, D, i, f1, w2, c, v⟩ := wW k e4
     obtain ⟨x, e6, e7⟩ := aG e5
     obtain ⟨U, e8, c2⟩ := dy k e6
     cases e7
     exact .move (bF k e3).1 w (bF k f1).1 w2 c v (bF k e8).1 c2
    ·cases e2
   | pair s a b =>
    obtain ⟨x, e1, e2⟩ := aG h
    obtain ⟨S, i, f1, rfl, w⟩ := iu k e1
    obtain ⟨H, e3, e4⟩ := aG e2
    have w2 := (k.hn_ok (Option.some.inj e3)).1
    split at e4
    ·obtain ⟨x, e5, e6⟩ := aG e4
     obtain ⟨Z, f2, c2⟩ := dy k e5
     obtain ⟨x, e7, e8⟩ := aG e6
     obtain ⟨S, f3, c3⟩ := dy k e7
     cases e8
     exact .pair (bF k f1).1 w w2 (bF k f2).1 c2 (bF k f3).1 c3
    ·cases e4
   | fst q =>
    obtain ⟨F, e1, e2⟩ := aG h
    obtain ⟨S, e3, w⟩ := jq k e1
    split at e2
    ·cases e2; exact .fst (bF k e3).1 w
    ·cases e2
   | snd q =>
    obtain ⟨F, e1, e2⟩ := aG h
    obtain ⟨S, e3, w⟩ := jq k e1
    split at e2
    ·cases e2; exact .snd (bF k e3).1 w
    ·cases e2
end Tm
end Go.Proofs.YtajlknlnmmbfcaaGreat
end
section
namespace Go.Proofs.YtajlknlnmmbfcaaGreat
namespace Tm
variable {O : Orc}
def Is (f : Nat → Option Rs) (r : Rs) : Prop := ∃ N, ∀ n, N ≤ n → f n = some r
def Ends (f : Nat → Option Rs) : Prop := ∃ r, Is f r
theorem Is.uniq {f : Nat → Option Rs} {r r' : Rs} (h : Is f r) (k : Is f r') : r = r' := by
 obtain ⟨N, h⟩ := h
 obtain ⟨M, k⟩ := k
 have := (h (N + M) (by omega)).symm.trans (k (N + M) (by omega))
 exact Option.some.inj this
theorem Is.const (r : Rs) : Is (fun _ => some r) r := ⟨0, fun _ _ => rfl⟩
theorem Is.bind {f : Nat → Option Rs} {t : Tm} {k : Nat → Tm → Option Rs} {r : Rs} (h : Is f (.ok t)) (hk : Is (fun n => k n t) r) : Is (fun n => sq (f n) (k n)) r := by
 obtain ⟨N, h⟩ := h
 obtain ⟨M, hk⟩ := hk
 exact ⟨N + M, fun n hn => by show sq (f n) (k n) = some r; rw [h n (by omega)]; exact hk n (by omega)⟩
theorem Is.bad {f : Nat → Option Rs} {k : Nat → Tm → Option Rs} (h : Is f .bad) : Is (fun n => sq (f n) (k n)) .bad := by
 obtain ⟨N, h⟩ := h
 exact ⟨N, fun n hn => by show sq (f n) (k n) = _; rw [h n hn]; rfl⟩
theorem Is.opn {f : Nat → Option Rs} {k : Nat → Tm → Option Rs} (h : Is f .opn) : Is (fun n => sq (f n) (k n)) .opn := by
 obtain ⟨N, h⟩ := h
 exact ⟨N, fun n hn => by show sq (f n) (k n) = _; rw [h n hn]; rfl⟩
theorem Ends.bind {f : Nat → Option Rs} {k : Nat → Tm → Option Rs} (h : Ends f) (hk : ∀ t, Is f (.ok t) → Ends (fun n => k n t)) : Ends (fun n => sq (f n) (k n)) := by
 obtain ⟨r, h⟩ := h
 cases r with
 | ok t => obtain ⟨r, hr⟩ := hk t h; exact ⟨r, h.bind hr⟩
 | bad => exact ⟨_, h.bad⟩
 | opn => exact ⟨_, h.opn⟩
theorem Ends.const (r : Option Rs) (h : r ≠ none) : Ends (fun _ => r) := by
 cases r with
 | none => exact absurd rfl h
 | some r => exact ⟨r, .const r⟩
theorem Ends.of {r : Rs} : Ends (fun _ => some r) := ⟨r, .const r⟩
theorem Ends.frm {f : Nat → Option Rs} (h : Ends f) : Ends (fun n => frm O (f n)) := h.bind fun _ _ => .of
theorem Ends.lvl {f : Nat → Option Rs} (h : Ends f) : Ends (fun n => lvl O (f n)) := h.frm.bind fun t _ => .const _ (by split <;> simp)
theorem Ends.chk {f : Nat → Option Rs} (h : Ends f) (w : Tm) : Ends (fun n => chk O (f n) w) := h.bind fun _ _ => .of
theorem Ends.fam {f : Nat → Option Rs} (h : Ends f) (w : Tm) : Ends (fun n => fam O (f n) w) := h.frm.bind fun t _ => by
 split
 ·exact Ends.bind .of fun _ _ => Ends.bind .of fun _ _ => .const _ (by split <;> simp)
 ·exact .of
def Le (x y : Option Rs) : Prop := ∀ r, x = some r → y = some r
theorem Le.a9 (x : Option Rs) : Le x x := fun _ h => h
theorem Le.sq {x y : Option Rs} {k l : Tm → Option Rs} (h : Le x y) (hk : ∀ t, Le (k t) (l t)) : Le (sq x k) (sq y l) := by
 intro r e
 cases x with
 | none => cases e
 | some x =>
  rw [h _ rfl]
  cases x with
  | ok t => exact hk t r e
  | bad => exact e
  | opn => exact e
theorem Le.frm {x y : Option Rs} (h : Le x y) : Le (frm O x) (frm O y) := h.sq fun _ => .a9 _
theorem Le.lvl {x y : Option Rs} (h : Le x y) : Le (lvl O x) (lvl O y) := h.frm.sq fun _ => .a9 _
theorem Le.chk {x y : Option Rs} (h : Le x y) (w : Tm) : Le (chk O x w) (chk O y w) := h.sq fun _ => .a9 _
theorem Le.fam {x y : Option Rs} (h : Le x y) (w : Tm) : Le (fam O x w) (fam O y w) := h.frm.sq fun _ => .a9 _
theorem Le.bnd {I J : List Tm → Tm → Option Rs} (h : ∀ G t, Le (I G t) (J G t)) (G : List Tm) (a b : Tm) : Le (bnd O I G a b) (bnd O J G a b) :=
 (h _ _).lvl.sq fun _ => (h _ _).lvl.sq fun _ => .a9 _
theorem Le.kS {I J : List Tm → Tm → Option Rs} (h : ∀ G t, Le (I G t) (J G t)) (G : List Tm) (t : Tm) : Le (kS O I G t) (kS O J G t) := by
 cases t with
 | var n => exact .a9 _
 | sort n => exact .a9 _
 | pi a b => exact .bnd h _ _ _
 | sig a b => exact .bnd h _ _ _
 | lam a b => exact (h _ _).lvl.sq fun _ => (h _ _).sq fun _ => (Le.bnd h _ _ _).sq fun _ => .a9 _
 | app f u => exact (h _ _).frm.sq fun F => by cases F <;> first | exact (h _ _).chk _ |>.sq fun _ => .a9 _ | exact .a9 _
 | nat => exact .a9 _
 | zero => exact .a9 _
 | succ n => exact ((h _ _).chk _).sq fun _ => .a9 _
 | elim p z s n => exact ((h _ _).fam _).sq fun _ => ((h _ _).chk _).sq fun _ => ((h _ _).chk _).sq fun _ => ((h _ _).chk _).sq fun _ => .a9 _
 | id t a b => exact (h _ _).lvl.sq fun _ => ((h _ _).chk _).sq fun _ => ((h _ _).chk _).sq fun _ => .a9 _
 | refl a => exact (h _ _).sq fun _ => (h _ _).lvl.sq fun _ => .a9 _
 | move p e x => exact (h _ _).frm.sq fun F => by cases F <;> first | exact ((h _ _).fam _).sq fun _ => ((h _ _).chk _).sq fun _ => .a9 _ | exact .a9 _
 | pair s a b => exact (h _ _).lvl.sq fun _ => (Le.a9 _).sq fun F => by cases F <;> first | exact ((h _ _).chk _).sq fun _ => ((h _ _).chk _).sq fun _ => .a9 _ | exact .a9 _
 | fst q => exact (h _ _).frm.sq fun _ => .a9 _
 | snd q => exact (h _ _).frm.sq fun _ => .a9 _
theorem ga {G : List Tm} {t : Tm} (h : Ends fun n => kS O (inS O n) G t) : Ends fun n => inS O n G t := by
 have : Ends fun n => inS O (n + 1) G t := by
  by_cases c : O.vd t = false ∨ 20 < G.length
  ·exact ⟨.opn, 0, fun n _ => by show inS O (n + 1) G t = _; rw [inS, if_pos c]⟩
  ·obtain ⟨r, N, hr⟩ := Ends.bind (k := fun _ => made O) h fun t _ => .const _ (by unfold made; simp)
   exact ⟨r, N, fun n hn => by show inS O (n + 1) G t = _; rw [inS, if_neg c]; exact hr n hn⟩
 obtain ⟨r, N, hr⟩ := this
 exact ⟨r, N + 1, fun n hn => by obtain ⟨m, rfl⟩ : ∃ m, n = m + 1 := ⟨n - 1, by omega⟩; exact hr m (by omega)⟩
theorem Ke (k : bX O) {G : List Tm} {t A : Tm} (h : Is (fun n => inS O n G t) (.ok A)) : Al G t A ∧ O.vd A = true := by
 obtain ⟨N, h⟩ := h
 exact bF k (h N (Nat.le_refl N))
theorem vU (k : bX O) {G : List Tm} {t A : Tm} (w : Wf G) (h : Is (fun n => lvl O (inS O n G t)) (.ok A)) : Wf (t :: G) := by
 obtain ⟨N, h⟩ := h
 obtain ⟨s, i, e, rfl, r⟩ := iu k (h N (Nat.le_refl N))
 exact .cons w (((bF k e).1.sound w).lvl w r)
theorem Lb (k : bX O) {G : List Tm} (w : Wf G) (hl : ∀ A, Wf (A :: G) → ∀ t, Ends fun n => inS O n (A :: G) t) : Clo (fun t => Ends fun n => inS O n G t) G where
 var n := ga (by show Ends fun _ => match look G n with | some A => some (Rs.ok A) | none => some Rs.bad; exact .const _ (by split <;> simp))
 sort n := ga .of
 nat := ga .of
 zero := ga .of
 succ h := ga ((h.chk _).bind fun _ _ => .of)
 pi h := ga (h.lvl.bind fun _ q => (hl _ (vU k w q) _).lvl.bind fun _ _ => .of)
 sig h := ga (h.lvl.bind fun _ q => (hl _ (vU k w q) _).lvl.bind fun _ _ => .of)
 lam h := ga (h.lvl.bind fun _ q => (hl _ (vU k w q) _).bind fun _ _ => Ends.bind (h.lvl.bind fun _ q => (hl _ (vU k w q) _).lvl.bind fun _ _ => .of) fun _ _ => .of)
 app h l := ga (h.frm.bind fun F _ => by cases F <;> first | exact (l.chk _).bind fun _ _ => .of | exact .of)
 elim h l m o := ga ((h.fam _).bind fun _ _ => (l.chk _).bind fun _ _ => (m.chk _).bind fun _ _ => (o.chk _).bind fun _ _ => .of)
 id h l m := ga (h.lvl.bind fun _ _ => (l.chk _).bind fun _ _ => (m.chk _).bind fun _ _ => .of)
 refl h l := ga (h.bind fun A q => (l A (Ke k q).1).lvl.bind fun _ _ => .of)
 move h l m := ga (l.frm.bind fun F _ => by cases F <;> first | exact (h.fam _).bind fun _ _ => (m.chk _).bind fun _ _ => .of | exact .of)
 pair h l m := ga (h.lvl.bind fun _ _ => Ends.bind .of fun F _ => by cases F <;> first | exact (l.chk _).bind fun _ _ => (m.chk _).bind fun _ _ => .of | exact .of)
 fst h := ga (h.frm.bind fun F _ => .const _ (by split <;> simp))
 snd h := ga (h.frm.bind fun F _ => .const _ (by split <;> simp))
theorem BF (k : bX O) : ∀ (m : Nat) (G : List Tm), 21 ≤ G.length + m → Wf G → ∀ t, Ends fun n => inS O n G t
 | 0, G, h, w, t => ⟨.opn, 1, fun n hn => by obtain ⟨m, rfl⟩ : ∃ m, n = m + 1 := ⟨n - 1, by omega⟩; show inS O (m + 1) G t = _; rw [inS, if_pos (.inr (by omega))]⟩
 | m + 1, G, h, w, t => (Lb k w fun A w' => BF k m (A :: G) (by simp only [List.length_cons]; omega) w').all w t
theorem EE (k : bX O) {G : List Tm} (w : Wf G) (t : Tm) : ∃ r, Is (fun n => inS O n G t) r := BF k 21 G (by omega) w t
theorem zZ (k : bX O) {s h : Tm} {i : Nat} (e : O.hn s = .ok h) (c : Conv s (sort i)) : h = sort i := by
 obtain ⟨w, nh, _⟩ := k.hn_ok e
 have := (w.conv.symm.trans c).FE
 cases this with
 | nil => rfl
 | cons r _ => exact (nh _ r).elim
theorem K4 (k : bX O) {s h A B : Tm} (e : O.hn s = .ok h) (c : Conv s (pi A B)) : ∃ A' B', h = pi A' B' ∧ Conv A' A ∧ Conv B' B := by
 obtain ⟨w, nh, _⟩ := k.hn_ok e
 obtain ⟨A', B', r, c1, c2⟩ := (w.conv.symm.trans c).yf
 cases r with
 | nil => exact ⟨_, _, rfl, c1, c2⟩
 | cons r _ => exact (nh _ r).elim
theorem DY (k : bX O) {s h A B : Tm} (e : O.hn s = .ok h) (c : Conv s (sig A B)) : ∃ A' B', h = sig A' B' ∧ Conv A' A ∧ Conv B' B := by
 obtain ⟨w, nh, _⟩ := k.hn_ok e
 obtain ⟨A', B', r, c1, c2⟩ := (w.conv.symm.trans c).nZ
 cases r with
 | nil => exact ⟨_, _, rfl, c1, c2⟩
 | cons r _ => exact (nh _ r).elim
theorem Mf (k : bX O) {s h t y z : Tm} (e : O.hn s = .ok h) (c : Conv s (id t y z)) : ∃ t' y' z', h = id t' y' z' ∧ Conv t' t ∧ Conv y' y ∧ Conv z' z := by
 obtain ⟨w, nh, _⟩ := k.hn_ok e
 obtain ⟨t', y', z', r, c1, c2, c3⟩ := (w.conv.symm.trans c).mm
 cases r with
 | nil => exact ⟨_, _, _, rfl, c1, c2, c3⟩
 | cons r _ => exact (nh _ r).elim
def Nb (x : Option Rs) : Prop := x ≠ some .bad
theorem Nb.sq {x : Option Rs} {k : Tm → Option Rs} (h : Nb x) (hk : ∀ t, x = some (.ok t) → Nb (k t)) : Nb (sq x k) := by
 intro e
 cases x with
 | none => cases e
 | some r => cases r with
  | ok t => exact hk t rfl e
  | bad => exact h rfl
  | opn => cases e
theorem jb (t : Tm) : Nb (some (.ok t)) := fun h => by cases h
theorem vW (k : bX O) (t : Tm) : Nb (some (O.hn t)) := fun h => k.hn_nb t (Option.some.inj h)
theorem EL (t : Tm) : Nb (made O t) := fun h => by
 unfold made at h
 split at h <;> cases h
structure Part (O : Orc) (G : List Tm) (A : Tm) (x : Option Rs) : Prop where
 nb : Nb x
 ty : ∀ {B}, x = some (.ok B) → Conv B A
theorem Part.lvl (k : bX O) {G : List Tm} {i : Nat} {x : Option Rs} (p : Part O G (sort i) x) : Nb (lvl O x) := by
 refine (p.nb.sq fun _ _ => vW k _).sq fun h e => ?_
 obtain ⟨s, e1, e2⟩ := aG e
 have := zZ k (Option.some.inj e2) (p.ty e1); subst this
 exact jb _
theorem Part.chk (k : bX O) {G : List Tm} {A B : Tm} {x : Option Rs} (p : Part O G A x) (c : Conv A B) : Nb (chk O x B) :=
 p.nb.sq fun s e => fun h => k.sm_nb (Option.some.inj h) ((p.ty e).trans c)
theorem Part.fam (k : bX O) {G : List Tm} {t t' : Tm} {i : Nat} {x : Option Rs} (p : Part O G (pi t (sort i)) x) (c : Conv t t') : Nb (fam O x t') := by
 refine (p.nb.sq fun _ _ => vW k _).sq fun h e => ?_
 obtain ⟨s, e1, e2⟩ := aG e
 obtain ⟨C, D, rfl, c1, c2⟩ := K4 k (Option.some.inj e2) (p.ty e1)
 refine Nb.sq (fun h => k.sm_nb (Option.some.inj h) (c1.trans c)) fun _ _ => Nb.sq (vW k _) fun h e => ?_
 have := zZ k (Option.some.inj e) c2; subst this
 exact jb _
theorem mB (k : bX O) : ∀ {g : Nat} {G : List Tm} {t A : Tm}, Wf G → Ty G t A → Nb (inS O g G t)
 | 0, _, _, _, _, _ => fun h => by cases h
 | g + 1, G, t, A, w, h => by
  have pt : ∀ {G t A}, Wf G → Ty G t A → Part O G A (inS O g G t) := fun w h => ⟨mB k w h, fun e => ((bF k e).1.sound w).uniq h⟩
  have bd : ∀ {G a b i j}, Wf G → Ty G a (sort i) → Ty (a :: G) b (sort j) → Nb (bnd O (inS O g) G a b) := fun w h l =>
   ((pt w h).lvl k).sq fun _ _ => ((pt (.cons w h) l).lvl k).sq fun _ _ => jb _
  rw [inS]
  split
  ·exact fun h => by cases h
  ·refine Nb.sq ?_ fun _ _ => EL _
   have gn := h.gen
   cases t with
   | var n =>
    obtain ⟨B, h1, c⟩ := gn
    simp only [kS, h1]; exact jb _
   | sort n => simp only [kS, if_pos gn.1]; exact jb _
   | pi a b => obtain ⟨i, j, h1, h2, c⟩ := gn; exact bd w h1 h2
   | sig a b => obtain ⟨i, j, h1, h2, c⟩ := gn; exact bd w h1 h2
   | lam a b =>
    obtain ⟨B, i, j, h1, h2, h3, c⟩ := gn
    refine ((pt w h1).lvl k).sq fun _ _ => (pt (.cons w h1) h2).nb.sq fun B' e => ?_
    have tb := (bF k e).1.sound (.cons w h1)
    have cb := tb.uniq h2
    obtain ⟨j', hj⟩ := tb.sorted (.cons w h1) (fun e => by
     subst e
     have := h3.red (.cons w h1) (by obtain ⟨x, r1, r2⟩ := cb; rw [r1.dG] at r2; exact r2)
     exact absurd this.pk (by omega))
    exact (bd w h1 hj).sq fun _ _ => jb _
   | app f u =>
    obtain ⟨X, Y, h1, h2, c⟩ := gn
    refine ((pt w h1).nb.sq fun _ _ => vW k _).sq fun F e => ?_
    obtain ⟨s, e1, e2⟩ := aG e
    obtain ⟨C, D, rfl, c1, c2⟩ := K4 k (Option.some.inj e2) ((pt w h1).ty e1)
    exact ((pt w h2).chk k c1.symm).sq fun _ _ => jb _
   | nat => exact jb _
   | zero => exact jb _
   | succ n => exact ((pt w gn.1).chk k .a9).sq fun _ _ => jb _
   | elim p z s n =>
    obtain ⟨i, h1, h2, h3, h4, c⟩ := gn
    exact ((pt w h1).fam k .a9).sq fun _ _ => ((pt w h2).chk k .a9).sq fun _ _ => ((pt w h3).chk k .a9).sq fun _ _ => ((pt w h4).chk k .a9).sq fun _ _ => jb _
   | id t a b =>
    obtain ⟨i, h1, h2, h3, c⟩ := gn
    exact ((pt w h1).lvl k).sq fun _ _ => ((pt w h2).chk k .a9).sq fun _ _ => ((pt w h3).chk k .a9).sq fun _ _ => jb _
   | refl a =>
    obtain ⟨B, i, h1, h2, c⟩ := gn
    refine (pt w h1).nb.sq fun B' e => ?_
    have tb := (bF k e).1.sound w
    have cb := tb.uniq h1
    obtain ⟨j', hj⟩ := tb.sorted w (fun e => by
     subst e
     have := h2.red w (by obtain ⟨x, r1, r2⟩ := cb; rw [r1.dG] at r2; exact r2)
     exact absurd this.pk (by omega))
    exact ((pt w hj).lvl k).sq fun _ _ => jb _
   | move p e x =>
    obtain ⟨t, y, z, i, h1, h2, h3, c⟩ := gn
    refine ((pt w h1).nb.sq fun _ _ => vW k _).sq fun F e => ?_
    obtain ⟨s, e1, e2⟩ := aG e
    obtain ⟨t', y', z', rfl, c1, c2, c3⟩ := Mf k (Option.some.inj e2) ((pt w h1).ty e1)
    exact ((pt w h2).fam k c1.symm).sq fun _ _ => ((pt w h3).chk k (Conv.app .a9 c2.symm)).sq fun _ _ => jb _
   | pair s a b =>
    obtain ⟨X, Y, i, j, h1, r, hq, h2, h3, c⟩ := gn
    refine ((pt w h1).lvl k).sq fun _ _ => (vW k _).sq fun F e => ?_
    obtain ⟨C, D, rfl, c1, c2⟩ := DY k (Option.some.inj e) r.conv
    exact ((pt w h2).chk k c1.symm).sq fun _ _ => ((pt w h3).chk k (Conv.inst c2.symm .a9)).sq fun _ _ => jb _
   | fst q =>
    obtain ⟨X, Y, h1, c⟩ := gn
    refine ((pt w h1).nb.sq fun _ _ => vW k _).sq fun F e => ?_
    obtain ⟨s, e1, e2⟩ := aG e
    obtain ⟨C, D, rfl, c1, c2⟩ := DY k (Option.some.inj e2) ((pt w h1).ty e1)
    exact jb _
   | snd q =>
    obtain ⟨X, Y, h1, c⟩ := gn
    refine ((pt w h1).nb.sq fun _ _ => vW k _).sq fun F e => ?_
    obtain ⟨s, e1, e2⟩ := aG e
    obtain ⟨C, D, rfl, c1, c2⟩ := DY k (Option.some.inj e2) ((pt w h1).ty e1)
    exact jb _
end Tm
end Go.Proofs.YtajlknlnmmbfcaaGreat
end
section
namespace Go.Proofs.YtajlknlnmmbfcaaGreat
namespace Tm
variable {O : Orc}
def Lv (G : List Tm) (a : Tm) : Prop := ∃ S i, Al G a S ∧ Wh S (sort i)
def Fm (G : List Tm) (p t : Tm) : Prop := ∃ P C D i, Al G p P ∧ Wh P (pi C D) ∧ Conv C t ∧ Wh D (sort i)
variable (O) in
def IY (G : List Tm) (t : Tm) : Prop := ∀ g, Nb (inS O g G t)
variable (O) in
def eS : List Tm → Tm → Prop
 | G, pi a b => eS G a ∧ (Lv G a → eS (a :: G) b)
 | G, sig a b => eS G a ∧ (Lv G a → eS (a :: G) b)
 | G, lam a b => eS G a ∧ (Lv G a → eS (a :: G) b)
 | G, app f u => eS G f ∧ ((∃ F C B, Al G f F ∧ Wh F (pi C B)) → eS G u)
 | G, succ n => eS G n
 | G, elim p z s n => eS G p ∧ eS G z ∧ eS G s ∧ eS G n ∧ (O.vd (bc p) = true ∨ IY O G s)
 | G, id t a b => eS G t ∧ eS G a ∧ eS G b
 | G, refl a => eS G a
 | G, move p e x => eS G e ∧ eS G p ∧ eS G x ∧ ∀ Q t y z, Al G e Q → Wh Q (id t y z) → Fm G p t → O.vd (app p y) = true ∨ IY O G x
 | G, pair s a b => eS G s ∧ eS G a ∧ eS G b ∧ (Lv G s → ∀ A B, Wh s (sig A B) → (∃ U, Al G a U ∧ Conv U A) → O.vd (B.inst a) = true ∨ IY O G b)
 | G, fst q => eS G q
 | G, snd q => eS G q
 | _, _ => True
theorem Ty.An (k : bX O) : ∀ {t : Tm} {G : List Tm} {A : Tm}, Wf G → Ty G t A → eS O G t := by
 intro t
 induction t with
 | var n => intros; trivial
 | sort n => intros; trivial
 | nat => intros; trivial
 | zero => intros; trivial
 | pi a b ha hb => intro G A w h; obtain ⟨i, j, h1, h2, c⟩ := h.gen; exact ⟨ha w h1, fun _ => hb (.cons w h1) h2⟩
 | sig a b ha hb => intro G A w h; obtain ⟨i, j, h1, h2, c⟩ := h.gen; exact ⟨ha w h1, fun _ => hb (.cons w h1) h2⟩
 | lam a b ha hb => intro G A w h; obtain ⟨B, i, j, h1, h2, h3, c⟩ := h.gen; exact ⟨ha w h1, fun _ => hb (.cons w h1) h2⟩
 | app f u hf hu => intro G A w h; obtain ⟨X, Y, h1, h2, c⟩ := h.gen; exact ⟨hf w h1, fun _ => hu w h2⟩
 | succ n hn => intro G A w h; exact hn w h.gen.1
 | elim p z s n hp hz hs hn => intro G A w h; obtain ⟨i, h1, h2, h3, h4, c⟩ := h.gen; exact ⟨hp w h1, hz w h2, hs w h3, hn w h4, .inr fun g => mB k w h3⟩
 | id t a b ht ha hb => intro G A w h; obtain ⟨i, h1, h2, h3, c⟩ := h.gen; exact ⟨ht w h1, ha w h2, hb w h3⟩
 | refl a ha => intro G A w h; obtain ⟨X, i, h1, h2, c⟩ := h.gen; exact ha w h1
 | move p e x hp he hx => intro G A w h; obtain ⟨t, y, z, i, h1, h2, h3, c⟩ := h.gen; exact ⟨he w h1, hp w h2, hx w h3, fun _ _ _ _ _ _ _ => .inr fun g => mB k w h3⟩
 | pair s a b hs ha hb => intro G A w h; obtain ⟨X, Y, i, j, h1, r, hq, h2, h3, c⟩ := h.gen; exact ⟨hs w h1, ha w h2, hb w h3, fun _ _ _ _ _ => .inr fun g => mB k w h3⟩
 | fst q hq => intro G A w h; obtain ⟨X, Y, h1, c⟩ := h.gen; exact hq w h1
 | snd q hq => intro G A w h; obtain ⟨X, Y, h1, c⟩ := h.gen; exact hq w h1
def Tr (x : Option Rs) (f : Nat → Option Rs) : Prop := ∀ r, x = some r → Is f r
theorem Tr.const (r : Option Rs) : Tr r (fun _ => r) := fun s h => ⟨0, fun _ _ => h⟩
theorem Tr.sq {x : Option Rs} {f : Nat → Option Rs} {k : Tm → Option Rs} {l : Nat → Tm → Option Rs} (h : Tr x f) (hk : ∀ t, x = some (.ok t) → Tr (k t) (fun n => l n t)) : Tr (sq x k) (fun n => sq (f n) (l n)) := by
 intro r e
 cases x with
 | none => cases e
 | some s =>
  have hs := h s rfl
  cases s with
  | ok t => exact hs.bind (hk t rfl r e)
  | bad => cases e; exact hs.bad
  | opn => cases e; exact hs.opn
theorem Tr.frm {x : Option Rs} {f : Nat → Option Rs} (h : Tr x f) : Tr (frm O x) (fun n => frm O (f n)) := h.sq fun _ _ => .const _
theorem Tr.lvl {x : Option Rs} {f : Nat → Option Rs} (h : Tr x f) : Tr (lvl O x) (fun n => lvl O (f n)) := h.frm.sq fun _ _ => .const _
theorem Tr.chk {x : Option Rs} {f : Nat → Option Rs} (h : Tr x f) (w : Tm) : Tr (chk O x w) (fun n => chk O (f n) w) := h.sq fun _ _ => .const _
theorem Tr.fam {x : Option Rs} {f : Nat → Option Rs} (h : Tr x f) (w : Tm) : Tr (fam O x w) (fun n => fam O (f n) w) := h.frm.sq fun _ _ => .const _
theorem a8 (x : Option Rs) (k l : Tm → Option Rs) : sq (sq x k) l = sq x fun t => sq (k t) l := by
 cases x with
 | none => rfl
 | some r => cases r <;> rfl
theorem Tr.gate (k : bX O) {x : Option Rs} {f : Nat → Option Rs} {kk : Tm → Option Rs} {l : Nat → Tm → Option Rs} (w : Tm) (h : Tr x f) (hb : O.vd w = true ∨ Nb x) (hk : ∀ t, Tr (kk t) (fun n => l n t)) :
   Tr (Tm.sq (Tm.chk O x w) kk) (fun n => Tm.sq (made O w) fun w' => Tm.sq (Tm.chk O (f n) w') (l n)) := by
 by_cases v : O.vd w = true
 ·have e : made O w = some (.ok w) := by unfold made; rw [if_pos v]
  intro r q
  obtain ⟨N, hr⟩ := ((h.chk w).sq fun t _ => hk t) r q
  exact ⟨N, fun n hn => by show Tm.sq (made O w) _ = _; rw [e]; exact hr n hn⟩
 ·have v' : O.vd w = false := by simpa using v
  have e : made O w = some .opn := by unfold made; rw [if_neg v]
  intro r q
  have nb := hb.resolve_left v
  have : r = .opn := by
   cases x with
   | none => cases q
   | some s => cases s with
    | ok t =>
     have e2 : Tm.chk O (some (.ok t)) w = some .opn := by show some (O.sm t w) = _; rw [k.sm_inv v']
     rw [e2] at q; cases q; rfl
    | bad => exact absurd rfl nb
    | opn => cases q; rfl
  subst this
  exact ⟨0, fun n _ => by show Tm.sq (made O w) _ = _; rw [e]; rfl⟩
theorem Mc {G : List Tm} {t : Tm} {r : Rs} (h : Is (fun n => kI O (inI O n) G t) r) : Is (fun n => inI O n G t) r := by
 obtain ⟨N, hr⟩ := h
 exact ⟨N + 1, fun n hn => by obtain ⟨m, rfl⟩ : ∃ m, n = m + 1 := ⟨n - 1, by omega⟩; exact hr m (by omega)⟩
theorem Jf (k : bX O) : ∀ (g : Nat) {G : List Tm} {t : Tm}, Wf G → G.length ≤ 20 → O.vd t = true → eS O G t → Tr (inS O g G t) (fun n => inI O n G t)
 | 0, G, t, w, hl, v, fi => fun r h => by cases h
 | g + 1, G, t, w, hl, v, fi => by
  intro r h
  apply Mc
  revert r
  show Tr (inS O (g + 1) G t) _
  rw [inS, if_neg (by rw [v]; simp; omega)]
  have ih : ∀ {t}, O.vd t = true → eS O G t → Tr (inS O g G t) (fun n => inI O n G t) := fun v f => Jf k g w hl v f
  have lw : ∀ {a h}, lvl O (inS O g G a) = some (.ok h) → Wf (a :: G) ∧ Lv G a := fun e => by
   obtain ⟨s, i, e', rfl, r⟩ := iu k e
   exact ⟨.cons w (((bF k e').1.sound w).lvl w r), _, _, (bF k e').1, r⟩
  have ex : ∀ {a b}, Wf (a :: G) → O.vd b = true → eS O (a :: G) b → Tr (inS O g (a :: G) b) (fun n => ext (inI O n) G a b) := fun {a b} w' v f => by
   intro r h
   by_cases c : 20 ≤ G.length
   ·have : r = .opn := by
      cases g with
      | zero => cases h
      | succ g =>
       rw [inS, if_pos (.inr (by simp only [List.length_cons]; omega))] at h
       cases h; rfl
    subst this
    exact ⟨0, fun n _ => by show ext (inI O n) G a b = _; rw [ext, if_pos c]⟩
   ·obtain ⟨N, hr⟩ := Jf k g (G := a :: G) w' (by simp only [List.length_cons]; omega) v f r h
    exact ⟨N, fun n hn => by show ext (inI O n) G a b = _; rw [ext, if_neg c]; exact hr n hn⟩
  have ls : ∀ {x h}, lvl O x = some (.ok h) → ∃ i, h = sort i ∧ i ≤ 3 := fun {x h} e => by
   obtain ⟨s, e1, e2⟩ := aG e
   obtain ⟨u, e3, e4⟩ := aG e1
   have := (k.hn_ok (Option.some.inj e4)).2.2
   split at e2
   ·cases e2; exact ⟨_, rfl, k.v_sort.1 this⟩
   ·cases e2
  have ms : ∀ {i}, i ≤ 3 → made O (sort i) = some (.ok (sort i)) := fun h => by unfold made; rw [if_pos (k.v_sort.2 h)]
  have bd : ∀ {a b}, O.vd a = true → O.vd b = true → eS O G a → (Lv G a → Wf (a :: G) → eS O (a :: G) b) →
     Tr (sq (bnd O (inS O g) G a b) (made O)) (fun n => sq (lvl O (inI O n G a)) fun i => sq (lvl O (ext (inI O n) G a b)) fun j => some (.ok (sort (max (lv i) (lv j))))) := by
   intro a b va vb fa fb
   unfold bnd
   rw [a8]
   refine (ih va fa).lvl.sq fun i ei => ?_
   rw [a8]
   obtain ⟨w', l'⟩ := lw ei
   refine (ex w' vb (fb l' w')).lvl.sq fun j ej => ?_
   obtain ⟨i', rfl, hi⟩ := ls ei
   obtain ⟨j', rfl, hj⟩ := ls ej
   show Tr (made O (sort (max i' j'))) _
   rw [ms (by omega)]
   exact .const _
  have bd0 : ∀ {a b}, O.vd a = true → O.vd b = true → eS O G a → (Lv G a → Wf (a :: G) → eS O (a :: G) b) →
     Tr (bnd O (inS O g) G a b) (fun n => inI O n G (pi a b)) := by
   intro a b va vb fa fb r h
   apply Mc
   have h2 : sq (bnd O (inS O g) G a b) (made O) = some r := by
    rw [h]
    cases r with
    | ok x =>
     obtain ⟨i, e1, e2⟩ := aG h
     obtain ⟨j, e3, e4⟩ := aG e2
     obtain ⟨i', rfl, hi⟩ := ls e1
     obtain ⟨j', rfl, hj⟩ := ls e3
     cases e4
     exact ms (by show max i' j' ≤ 3; omega)
    | bad => rfl
    | opn => rfl
   exact bd va vb fa fb r h2
  cases t with
  | var n =>
   show Tr (sq (match look G n with | some A => some (Rs.ok A) | none => some Rs.bad) (made O)) (fun _ => match look G n with | some A => made O A | none => some Rs.bad)
   cases look G n with
   | none => exact .const _
   | some A => exact .const (made O A)
  | sort n =>
   have hn := k.v_sort.1 v
   show Tr (sq (some (if n < 3 then Rs.ok (sort (n + 1)) else Rs.bad)) (made O)) (fun _ => some (if n < 3 then Rs.ok (sort (n + 1)) else Rs.bad))
   by_cases c : n < 3
   ·rw [if_pos c]
    show Tr (made O (sort (n + 1))) _
    rw [ms (by omega)]; exact .const _
   ·rw [if_neg c]; exact .const _
  | pi a b => exact bd (k.v_pi v).1 (k.v_pi v).2 fi.1 fun l _ => fi.2 l
  | sig a b => exact bd (k.v_sig v).1 (k.v_sig v).2 fi.1 fun l _ => fi.2 l
  | lam a b =>
   show Tr (sq (sq (lvl O (inS O g G a)) fun _ => sq (inS O g (a :: G) b) fun B => sq (bnd O (inS O g) G a B) fun _ => some (.ok (pi a B))) (made O)) _
   rw [a8]
   refine (ih (k.v_lam v).1 fi.1).lvl.sq fun i ei => ?_
   obtain ⟨w', l'⟩ := lw ei
   rw [a8]
   refine (ex w' (k.v_lam v).2 (fi.2 l')).sq fun B eB => ?_
   obtain ⟨aB, vB⟩ := bF k eB
   have tB := aB.sound w'
   have sB : B = sort 3 ∨ ∃ j, Ty (a :: G) B (sort j) := tB.valid w'
   have fB : eS O (a :: G) B := by
    rcases sB with rfl | ⟨j, hj⟩
    ·trivial
    ·exact hj.An k w'
   rw [a8]
   by_cases c : O.vd (pi a B) = true
   ·have e : made O (pi a B) = some (.ok (pi a B)) := by unfold made; rw [if_pos c]
    show Tr (sq (bnd O (inS O g) G a B) fun _ => made O (pi a B)) (fun n => sq (made O (pi a B)) fun P => sq (inI O n G P) fun _ => some (.ok P))
    rw [e]
    exact (bd0 (k.v_lam v).1 vB fi.1 fun _ _ => fB).sq fun _ _ => .const _
   ·have e : made O (pi a B) = some .opn := by unfold made; rw [if_neg c]
    show Tr (sq (bnd O (inS O g) G a B) fun _ => made O (pi a B)) (fun n => sq (made O (pi a B)) fun P => sq (inI O n G P) fun _ => some (.ok P))
    rw [e]
    intro r h
    have nb : Nb (bnd O (inS O g) G a B) := by
     refine Nb.sq (fun h => by rw [ei] at h; cases h) fun _ _ => ?_
     rcases sB with rfl | ⟨j, hj⟩
     ·exact absurd (k.v_lam3 v) c
     ·have p : Part O (a :: G) (sort j) (inS O g (a :: G) B) := ⟨mB k w' hj, fun e => ((bF k e).1.sound w').uniq hj⟩
      exact (p.lvl k).sq fun _ _ => jb _
    have : r = .opn := by
     cases hx : bnd O (inS O g) G a B with
     | none => rw [hx] at h; cases h
     | some s => cases s with
      | ok t => rw [hx] at h; cases h; rfl
      | bad => exact absurd hx nb
      | opn => rw [hx] at h; cases h; rfl
    subst this
    exact .const _
  | app f u =>
   show Tr (sq (sq (frm O (inS O g G f)) fun F => match F with
    | pi C B => sq (chk O (inS O g G u) C) fun _ => some (.ok (B.inst u))
    | _ => some .bad) (made O)) _
   rw [a8]
   refine (ih (k.v_app v).1 fi.1).frm.sq fun F eF => ?_
   cases F <;> first
    | exact .const _
    | (rename_i C B
       obtain ⟨S, e3, w'⟩ := jq k eF
       show Tr (sq (sq (chk O (inS O g G u) C) fun _ => some (.ok (B.inst u))) (made O)) _
       rw [a8]
       exact ((ih (k.v_app v).2 (fi.2 ⟨_, _, _, (bF k e3).1, w'⟩)).chk C).sq fun _ _ => .const (made O (B.inst u)))
  | nat =>
   intro r h
   ·have : made O (sort 0) = some r := h
    rw [ms (by omega)] at this
    exact (Tr.const (some (.ok (sort 0)))) r this
  | zero =>
   intro r h
   ·have : made O nat = some r := h
    unfold made at this
    rw [if_pos k.v_nat] at this
    exact (Tr.const (some (.ok nat))) r this
  | succ n =>
   show Tr (sq (sq (chk O (inS O g G n) nat) fun _ => some (.ok nat)) (made O)) _
   rw [a8]
   refine ((ih (k.v_succ v) fi).chk nat).sq fun _ _ => ?_
   show Tr (made O nat) _
   unfold made
   rw [if_pos k.v_nat]
   exact .const _
  | elim p z s n =>
   obtain ⟨v1, v2, v3, v4, v5⟩ := k.v_elim v
   obtain ⟨f1, f2, f3, f4, f5⟩ := fi
   show Tr (sq (sq (fam O (inS O g G p) nat) fun _ => sq (chk O (inS O g G z) (app p zero)) fun _ => sq (chk O (inS O g G s) (bc p)) fun _ => sq (chk O (inS O g G n) nat) fun _ => some (.ok (app p n))) (made O)) _
   rw [a8]
   refine ((ih v1 f1).fam nat).sq fun _ _ => ?_
   rw [a8]
   refine (ih v2 f2).gate k _ (.inl v5) fun _ => ?_
   rw [a8]
   refine (ih v3 f3).gate k _ (f5.imp (fun h => h) (fun h => h g)) fun _ => ?_
   rw [a8]
   exact ((ih v4 f4).chk nat).sq fun _ _ => .const (made O (app p n))
  | id t a b =>
   obtain ⟨v1, v2, v3⟩ := k.v_id v
   obtain ⟨f1, f2, f3⟩ := fi
   show Tr (sq (sq (lvl O (inS O g G t)) fun i => sq (chk O (inS O g G a) t) fun _ => sq (chk O (inS O g G b) t) fun _ => some (.ok i)) (made O)) _
   rw [a8]
   refine (ih v1 f1).lvl.sq fun i ei => ?_
   rw [a8]
   refine ((ih v2 f2).chk t).sq fun _ _ => ?_
   rw [a8]
   refine ((ih v3 f3).chk t).sq fun _ _ => ?_
   obtain ⟨i', rfl, hi⟩ := ls ei
   show Tr (made O (sort i')) _
   rw [ms hi]
   exact .const _
  | refl a =>
   show Tr (sq (sq (inS O g G a) fun A => sq (lvl O (inS O g G A)) fun _ => some (.ok (id A a a))) (made O)) _
   rw [a8]
   refine (ih (k.v_refl v) fi).sq fun A eA => ?_
   obtain ⟨aA, vA⟩ := bF k eA
   have tA := aA.sound w
   have fA : eS O G A := by
    rcases tA.valid w with rfl | ⟨j, hj⟩
    ·trivial
    ·exact hj.An k w
   rw [a8]
   exact (ih vA fA).lvl.sq fun _ _ => .const (made O (id A a a))
  | move p e x =>
   obtain ⟨v1, v2, v3⟩ := k.v_move v
   obtain ⟨f1, f2, f3, f4⟩ := fi
   show Tr (sq (sq (frm O (inS O g G e)) fun E => match E with
    | id t y z => sq (fam O (inS O g G p) t) fun _ => sq (chk O (inS O g G x) (app p y)) fun _ => some (.ok (app p z))
    | _ => some .bad) (made O)) _
   rw [a8]
   refine (ih v2 f1).frm.sq fun F eF => ?_
   cases F <;> first
    | exact .const _
    | (rename_i t y z
       obtain ⟨S, e3, w'⟩ := jq k eF
       show Tr (sq (sq (fam O (inS O g G p) t) fun _ => sq (chk O (inS O g G x) (app p y)) fun _ => some (.ok (app p z))) (made O)) _
       rw [a8]
       refine ((ih v1 f2).fam t).sq fun q eq => ?_
       obtain ⟨P, C, D, i, e4, w2, c, w3⟩ := wW k eq
       rw [a8]
       refine (ih v3 f3).gate k _ ((f4 _ _ _ _ (bF k e3).1 w' ⟨P, C, D, i, (bF k e4).1, w2, c, w3⟩).imp (fun h => h) (fun h => h g)) fun _ => ?_
       exact .const (made O (app p z)))
  | pair s a b =>
   obtain ⟨v1, v2, v3⟩ := k.v_pair v
   obtain ⟨f1, f2, f3, f4⟩ := fi
   show Tr (sq (sq (lvl O (inS O g G s)) fun _ => sq (some (O.hn s)) fun h => match h with
    | sig A B => sq (chk O (inS O g G a) A) fun _ => sq (chk O (inS O g G b) (B.inst a)) fun _ => some (.ok s)
    | _ => some .bad) (made O)) _
   rw [a8]
   refine (ih v1 f1).lvl.sq fun _ es => ?_
   rw [a8]
   refine (Tr.const (some (O.hn s))).sq fun F eF => ?_
   have wF := (k.hn_ok (Option.some.inj eF)).1
   cases F <;> first
    | exact .const _
    | (rename_i A B
       show Tr (sq (sq (chk O (inS O g G a) A) fun _ => sq (chk O (inS O g G b) (B.inst a)) fun _ => some (.ok s)) (made O)) (fun n => sq (chk O (inI O n G a) A) fun _ => sq (made O (B.inst a)) fun w => sq (chk O (inI O n G b) w) fun _ => some (.ok s))
       rw [a8]
       refine ((ih v2 f2).chk A).sq fun q eq => ?_
       obtain ⟨U, e4, c⟩ := dy k eq
       rw [a8]
       refine (ih v3 f3).gate k _ ((f4 (lw es).2 _ _ wF ⟨U, (bF k e4).1, c⟩).imp (fun h => h) (fun h => h g)) fun _ => ?_
       have e : made O s = some (.ok s) := by unfold made; rw [if_pos v1]
       show Tr (made O s) _
       rw [e]; exact .const _)
  | fst q =>
   show Tr (sq (sq (frm O (inS O g G q)) fun Q => match Q with
    | sig A B => some (.ok A)
    | _ => some .bad) (made O)) _
   rw [a8]
   refine (ih (k.v_fst v) fi).frm.sq fun F eF => ?_
   obtain ⟨S, e3, e4⟩ := aG eF
   have vF := (k.hn_ok (Option.some.inj e4)).2.2
   cases F <;> first
    | exact .const _
    | (rename_i A B
       have e : made O A = some (.ok A) := by unfold made; rw [if_pos (k.v_sig vF).1]
       show Tr (made O A) _
       rw [e]; exact .const _)
  | snd q =>
   show Tr (sq (sq (frm O (inS O g G q)) fun Q => match Q with
    | sig A B => some (.ok (B.inst (fst q)))
    | _ => some .bad) (made O)) _
   rw [a8]
   refine (ih (k.v_snd v) fi).frm.sq fun F eF => ?_
   cases F <;> first
    | exact .const _
    | (rename_i A B; exact .const (made O (B.inst (fst q))))
theorem wX (k : bX O) {G : List Tm} {t : Tm} (w : Wf G) (hl : G.length ≤ 20) (v : O.vd t = true) (f : eS O G t) : ∃ r, Is (fun n => inS O n G t) r ∧ Is (fun n => inI O n G t) r := by
 obtain ⟨r, N, h⟩ := EE k w t
 exact ⟨r, ⟨N, h⟩, Jf k N w hl v f r (h N (Nat.le_refl N))⟩
end Tm
end Go.Proofs.YtajlknlnmmbfcaaGreat
end
section
namespace Go.Proofs.YtajlknlnmmbfcaaGreat
namespace Tm
variable {O : Orc}
theorem Fq {I : List Tm → Tm → Option Rs} {G : List Tm} {a b A : Tm} (h : ext I G a b = some (.ok A)) : I (a :: G) b = some (.ok A) := by
 unfold ext at h
 split at h
 ·cases h
 ·exact h
theorem cO (k : bX O) : ∀ {g : Nat} {G : List Tm} {t A : Tm}, inI O g G t = some (.ok A) → Al G t A
 | 0, _, _, _, h => by cases h
 | g + 1, G, t, A, h => by
  rw [inI] at h
  have bd : ∀ {a b h}, (sq (lvl O (inI O g G a)) fun i => sq (lvl O (ext (inI O g) G a b)) fun j => some (.ok (sort (max (lv i) (lv j))))) = some (.ok h) → ∃ S R i j, Al G a S ∧ Wh S (sort i) ∧ Al (a :: G) b R ∧ Wh R (sort j) ∧ h = sort (max i j) := by
   intro a b h e
   obtain ⟨x, e1, e2⟩ := aG e
   obtain ⟨y, e3, e4⟩ := aG e2
   obtain ⟨S, i, f1, rfl, w1⟩ := iu k e1
   obtain ⟨R, j, f2, rfl, w2⟩ := iu k e3
   cases e4
   exact ⟨S, R, i, j, cO k f1, w1, cO k (Fq f2), w2, rfl⟩
  cases t with
  | var n =>
   simp only [kI] at h
   split at h
   ·obtain ⟨rfl, _⟩ := bT h; exact .var ‹_›
   ·cases h
  | sort n =>
   simp only [kI, Option.some.injEq] at h
   split at h
   ·cases h; exact .sort ‹_›
   ·cases h
  | pi a b => obtain ⟨S, R, i, j, h1, w1, h2, w2, rfl⟩ := bd h; exact .pi h1 w1 h2 w2
  | sig a b => obtain ⟨S, R, i, j, h1, w1, h2, w2, rfl⟩ := bd h; exact .sig h1 w1 h2 w2
  | lam a b =>
   obtain ⟨x, e1, e2⟩ := aG h
   obtain ⟨B, e3, e4⟩ := aG e2
   obtain ⟨y, e5, e6⟩ := aG e4
   obtain ⟨rfl, v⟩ := bT e5
   obtain ⟨z, e7, e8⟩ := aG e6
   cases e8
   cases cO k e7 with
   | pi h1 w1 h2 w2 => exact .lam h1 w1 (cO k (Fq e3)) h2 w2
  | app f u =>
   obtain ⟨F, e1, e2⟩ := aG h
   obtain ⟨S, e3, w⟩ := jq k e1
   split at e2
   ·obtain ⟨x, e4, e5⟩ := aG e2
    obtain ⟨U, e6, c⟩ := dy k e4
    obtain ⟨rfl, _⟩ := bT e5
    exact .app (cO k e3) w (cO k e6) c
   ·cases e2
  | nat => cases h; exact .nat
  | zero => cases h; exact .zero
  | succ n =>
   obtain ⟨x, e1, e2⟩ := aG h
   obtain ⟨U, e6, c⟩ := dy k e1
   cases e2
   exact .succ (cO k e6) c
  | elim p z s n =>
   obtain ⟨x, e1, e2⟩ := aG h
   obtain ⟨P, C, D, i, f1, w, c, v⟩ := wW k e1
   obtain ⟨x, m1, e2⟩ := aG e2
   obtain ⟨rfl, _⟩ := bT m1
   obtain ⟨x, e3, e4⟩ := aG e2
   obtain ⟨Z, f2, c2⟩ := dy k e3
   obtain ⟨x, m2, e4⟩ := aG e4
   obtain ⟨rfl, _⟩ := bT m2
   obtain ⟨x, e5, e6⟩ := aG e4
   obtain ⟨S, f3, c3⟩ := dy k e5
   obtain ⟨x, e7, e8⟩ := aG e6
   obtain ⟨N, f4, c4⟩ := dy k e7
   obtain ⟨rfl, _⟩ := bT e8
   exact .elim (cO k f1) w c v (cO k f2) c2 (cO k f3) c3 (cO k f4) c4
  | id t a b =>
   obtain ⟨x, e1, e2⟩ := aG h
   obtain ⟨S, i, f1, rfl, w⟩ := iu k e1
   obtain ⟨x, e3, e4⟩ := aG e2
   obtain ⟨Z, f2, c2⟩ := dy k e3
   obtain ⟨x, e5, e6⟩ := aG e4
   obtain ⟨S, f3, c3⟩ := dy k e5
   cases e6
   exact .id (cO k f1) w (cO k f2) c2 (cO k f3) c3
  | refl a =>
   obtain ⟨B, e1, e2⟩ := aG h
   obtain ⟨x, e3, e4⟩ := aG e2
   obtain ⟨S, i, f1, rfl, w⟩ := iu k e3
   obtain ⟨rfl, _⟩ := bT e4
   exact .refl (cO k e1) (cO k f1) w
  | move p e x =>
   obtain ⟨F, e1, e2⟩ := aG h
   obtain ⟨S, e3, w⟩ := jq k e1
   split at e2
   ·obtain ⟨x, e4, e5⟩ := aG e2
    obtain ⟨P, C, D, i, f1, w2, c, v⟩ := wW k e4
    obtain ⟨x, m1, e5⟩ := aG e5
    obtain ⟨rfl, _⟩ := bT m1
    obtain ⟨x, e6, e7⟩ := aG e5
    obtain ⟨U, e8, c2⟩ := dy k e6
    obtain ⟨rfl, _⟩ := bT e7
    exact .move (cO k e3) w (cO k f1) w2 c v (cO k e8) c2
   ·cases e2
  | pair s a b =>
   obtain ⟨x, e1, e2⟩ := aG h
   obtain ⟨S, i, f1, rfl, w⟩ := iu k e1
   obtain ⟨H, e3, e4⟩ := aG e2
   have w2 := (k.hn_ok (Option.some.inj e3)).1
   split at e4
   ·obtain ⟨x, e5, e6⟩ := aG e4
    obtain ⟨Z, f2, c2⟩ := dy k e5
    obtain ⟨x, m1, e6⟩ := aG e6
    obtain ⟨rfl, _⟩ := bT m1
    obtain ⟨x, e7, e8⟩ := aG e6
    obtain ⟨S, f3, c3⟩ := dy k e7
    cases e8
    exact .pair (cO k f1) w w2 (cO k f2) c2 (cO k f3) c3
   ·cases e4
  | fst q =>
   obtain ⟨F, e1, e2⟩ := aG h
   obtain ⟨S, e3, w⟩ := jq k e1
   split at e2
   ·cases e2; exact .fst (cO k e3) w
   ·cases e2
  | snd q =>
   obtain ⟨F, e1, e2⟩ := aG h
   obtain ⟨S, e3, w⟩ := jq k e1
   split at e2
   ·obtain ⟨rfl, _⟩ := bT e2; exact .snd (cO k e3) w
   ·cases e2
theorem Eh (k : bX O) : ∀ {g : Nat} {G : List Tm} {t A : Tm}, O.vd t = true → inI O g G t = some (.ok A) → O.vd A = true
 | 0, _, _, _, _, h => by cases h
 | g + 1, G, t, A, v, h => by
  rw [inI] at h
  have ls : ∀ {x h}, lvl O x = some (.ok h) → ∃ i, h = sort i ∧ i ≤ 3 := fun {x h} e => by
   obtain ⟨s, e1, e2⟩ := aG e
   obtain ⟨u, e3, e4⟩ := aG e1
   have := (k.hn_ok (Option.some.inj e4)).2.2
   split at e2
   ·cases e2; exact ⟨_, rfl, k.v_sort.1 this⟩
   ·cases e2
  have bd : ∀ {a b h}, (sq (lvl O (inI O g G a)) fun i => sq (lvl O (ext (inI O g) G a b)) fun j => some (.ok (sort (max (lv i) (lv j))))) = some (.ok h) → O.vd h = true := by
   intro a b h e
   obtain ⟨x, e1, e2⟩ := aG e
   obtain ⟨y, e3, e4⟩ := aG e2
   obtain ⟨i, rfl, hi⟩ := ls e1
   obtain ⟨j, rfl, hj⟩ := ls e3
   cases e4
   exact k.v_sort.2 (by show max i j ≤ 3; omega)
  cases t with
  | var n =>
   simp only [kI] at h
   split at h
   ·obtain ⟨rfl, w⟩ := bT h; exact w
   ·cases h
  | sort n =>
   simp only [kI, Option.some.injEq] at h
   split at h
   ·cases h; exact k.v_sort.2 (by omega)
   ·cases h
  | pi a b => exact bd h
  | sig a b => exact bd h
  | lam a b =>
   obtain ⟨x, e1, e2⟩ := aG h
   obtain ⟨B, e3, e4⟩ := aG e2
   obtain ⟨y, e5, e6⟩ := aG e4
   obtain ⟨rfl, w⟩ := bT e5
   obtain ⟨z, e7, e8⟩ := aG e6
   cases e8; exact w
  | app f u =>
   obtain ⟨F, e1, e2⟩ := aG h
   split at e2
   ·obtain ⟨x, e4, e5⟩ := aG e2
    obtain ⟨rfl, w⟩ := bT e5; exact w
   ·cases e2
  | nat => cases h; exact k.v_sort.2 (by omega)
  | zero => cases h; exact k.v_nat
  | succ n =>
   obtain ⟨x, e1, e2⟩ := aG h
   cases e2; exact k.v_nat
  | elim p z s n =>
   obtain ⟨x, e1, e2⟩ := aG h
   obtain ⟨x, m1, e2⟩ := aG e2
   obtain ⟨x, e3, e4⟩ := aG e2
   obtain ⟨x, m2, e4⟩ := aG e4
   obtain ⟨x, e5, e6⟩ := aG e4
   obtain ⟨x, e7, e8⟩ := aG e6
   obtain ⟨rfl, w⟩ := bT e8; exact w
  | id t a b =>
   obtain ⟨x, e1, e2⟩ := aG h
   obtain ⟨i, rfl, hi⟩ := ls e1
   obtain ⟨x, e3, e4⟩ := aG e2
   obtain ⟨x, e5, e6⟩ := aG e4
   cases e6; exact k.v_sort.2 hi
  | refl a =>
   obtain ⟨B, e1, e2⟩ := aG h
   obtain ⟨x, e3, e4⟩ := aG e2
   obtain ⟨rfl, w⟩ := bT e4; exact w
  | move p e x =>
   obtain ⟨F, e1, e2⟩ := aG h
   split at e2
   ·obtain ⟨x, e4, e5⟩ := aG e2
    obtain ⟨x, m1, e5⟩ := aG e5
    obtain ⟨x, e6, e7⟩ := aG e5
    obtain ⟨rfl, w⟩ := bT e7; exact w
   ·cases e2
  | pair s a b =>
   obtain ⟨x, e1, e2⟩ := aG h
   obtain ⟨H, e3, e4⟩ := aG e2
   split at e4
   ·obtain ⟨x, e5, e6⟩ := aG e4
    obtain ⟨x, m1, e6⟩ := aG e6
    obtain ⟨x, e7, e8⟩ := aG e6
    cases e8; exact (k.v_pair v).1
   ·cases e4
  | fst q =>
   obtain ⟨F, e1, e2⟩ := aG h
   obtain ⟨u, e3, e4⟩ := aG e1
   have := (k.hn_ok (Option.some.inj e4)).2.2
   split at e2
   ·cases e2; exact (k.v_sig this).1
   ·cases e2
  | snd q =>
   obtain ⟨F, e1, e2⟩ := aG h
   split at e2
   ·obtain ⟨rfl, w⟩ := bT e2; exact w
   ·cases e2
theorem Le.ext {I J : List Tm → Tm → Option Rs} (h : ∀ G t, Le (I G t) (J G t)) (G : List Tm) (a b : Tm) : Le (ext I G a b) (ext J G a b) := by
 unfold Tm.ext
 split
 ·exact .a9 _
 ·exact h _ _
theorem Le.kI {I J : List Tm → Tm → Option Rs} (h : ∀ G t, Le (I G t) (J G t)) (G : List Tm) (t : Tm) : Le (kI O I G t) (kI O J G t) := by
 cases t with
 | var n => exact .a9 _
 | sort n => exact .a9 _
 | pi a b => exact (h _ _).lvl.sq fun _ => (Le.ext h _ _ _).lvl.sq fun _ => .a9 _
 | sig a b => exact (h _ _).lvl.sq fun _ => (Le.ext h _ _ _).lvl.sq fun _ => .a9 _
 | lam a b => exact (h _ _).lvl.sq fun _ => (Le.ext h _ _ _).sq fun _ => (Le.a9 _).sq fun _ => (h _ _).sq fun _ => .a9 _
 | app f u => exact (h _ _).frm.sq fun F => by cases F <;> first | exact ((h _ _).chk _).sq fun _ => .a9 _ | exact .a9 _
 | nat => exact .a9 _
 | zero => exact .a9 _
 | succ n => exact ((h _ _).chk _).sq fun _ => .a9 _
 | elim p z s n => exact ((h _ _).fam _).sq fun _ => (Le.a9 _).sq fun _ => ((h _ _).chk _).sq fun _ => (Le.a9 _).sq fun _ => ((h _ _).chk _).sq fun _ => ((h _ _).chk _).sq fun _ => .a9 _
 | id t a b => exact (h _ _).lvl.sq fun _ => ((h _ _).chk _).sq fun _ => ((h _ _).chk _).sq fun _ => .a9 _
 | refl a => exact (h _ _).sq fun _ => (h _ _).lvl.sq fun _ => .a9 _
 | move p e x => exact (h _ _).frm.sq fun F => by cases F <;> first | exact ((h _ _).fam _).sq fun _ => (Le.a9 _).sq fun _ => ((h _ _).chk _).sq fun _ => .a9 _ | exact .a9 _
 | pair s a b => exact (h _ _).lvl.sq fun _ => (Le.a9 _).sq fun F => by cases F <;> first | exact ((h _ _).chk _).sq fun _ => (Le.a9 _).sq fun _ => ((h _ _).chk _).sq fun _ => .a9 _ | exact .a9 _
 | fst q => exact (h _ _).frm.sq fun _ => .a9 _
 | snd q => exact (h _ _).frm.sq fun _ => .a9 _
theorem Hy : ∀ (g : Nat) (G : List Tm) (t : Tm), Le (inI O g G t) (inI O (g + 1) G t)
 | 0, _, _ => fun _ h => by cases h
 | g + 1, G, t => by
  rw [inI, inI]
  exact Le.kI (Hy g) G t
theorem Ln {g h : Nat} (k : g ≤ h) {G : List Tm} {t : Tm} : Le (inI O g G t) (inI O h G t) := by
 induction k with
 | refl => exact .a9 _
 | step _ ih => exact fun r e => Hy _ _ _ r (ih r e)
theorem H5 {g : Nat} {G : List Tm} {t : Tm} {r : Rs} (h : inI O g G t = some r) : Is (fun n => inI O n G t) r := ⟨g, fun n hn => Ln hn r h⟩
theorem gb {G : List Tm} {t : Tm} (h : Ends fun n => kI O (inI O n) G t) : Ends fun n => inI O n G t :=
 let ⟨r, h⟩ := h
 ⟨r, Mc h⟩
theorem Ey (k : bX O) {G : List Tm} {t A : Tm} (h : Is (fun n => inI O n G t) (.ok A)) : Al G t A := by
 obtain ⟨N, h⟩ := h
 exact cO k (h N (Nat.le_refl N))
theorem uy (k : bX O) {G : List Tm} {t A : Tm} (w : Wf G) (h : Is (fun n => lvl O (inI O n G t)) (.ok A)) : Wf (t :: G) := by
 obtain ⟨N, h⟩ := h
 obtain ⟨s, i, e, rfl, r⟩ := iu k (h N (Nat.le_refl N))
 exact .cons w (((cO k e).sound w).lvl w r)
theorem Ends.made (t : Tm) : Ends fun _ => made O t := .of
theorem Dd (k : bX O) {G : List Tm} (w : Wf G) (hl : G.length < 20 → ∀ A, Wf (A :: G) → ∀ t, Ends fun n => inI O n (A :: G) t) : Clo (fun t => Ends fun n => inI O n G t) G := by
 have hx : ∀ a b, Wf (a :: G) → Ends fun n => ext (inI O n) G a b := fun a b w' => by
  by_cases c : 20 ≤ G.length
  ·exact ⟨.opn, 0, fun n _ => by show ext _ _ _ _ = _; rw [Tm.ext, if_pos c]⟩
  ·obtain ⟨r, N, h⟩ := hl (by omega) a w' b
   exact ⟨r, N, fun n hn => by show ext _ _ _ _ = _; rw [Tm.ext, if_neg c]; exact h n hn⟩
 have hp : ∀ {a b}, (Ends fun n => inI O n G a) → Ends fun n => inI O n G (pi a b) := fun h => gb (h.lvl.bind fun _ q => (hx _ _ (uy k w q)).lvl.bind fun _ _ => .of)
 exact {
  var := fun n => gb (by show Ends fun _ => match look G n with | some A => Tm.made O A | none => some Rs.bad; exact .const _ (by split <;> simp [Tm.made]))
  sort := fun n => gb .of
  nat := gb .of
  zero := gb .of
  succ := fun h => gb ((h.chk _).bind fun _ _ => .of)
  pi := hp
  sig := fun h => gb (h.lvl.bind fun _ q => (hx _ _ (uy k w q)).lvl.bind fun _ _ => .of)
  lam := fun {a b} h => gb (h.lvl.bind fun _ q => (hx _ _ (uy k w q)).bind fun B _ => (Ends.made _).bind fun P eP => by
   obtain ⟨N, eP⟩ := eP
   obtain ⟨rfl, _⟩ := bT (eP N (Nat.le_refl N))
   exact (hp h).bind fun _ _ => .of)
  app := fun h l => gb (h.frm.bind fun F _ => by cases F <;> first | exact (l.chk _).bind fun _ _ => .made _ | exact .of)
  elim := fun h l m o => gb ((h.fam _).bind fun _ _ => (Ends.made _).bind fun _ _ => (l.chk _).bind fun _ _ => (Ends.made _).bind fun _ _ => (m.chk _).bind fun _ _ => (o.chk _).bind fun _ _ => .made _)
  id := fun h l m => gb (h.lvl.bind fun _ _ => (l.chk _).bind fun _ _ => (m.chk _).bind fun _ _ => .of)
  refl := fun h l => gb (h.bind fun A q => (l A (Ey k q)).lvl.bind fun _ _ => .made _)
  move := fun h l m => gb (l.frm.bind fun F _ => by cases F <;> first | exact (h.fam _).bind fun _ _ => (Ends.made _).bind fun _ _ => (m.chk _).bind fun _ _ => .made _ | exact .of)
  pair := fun h l m => gb (h.lvl.bind fun _ _ => Ends.bind .of fun F _ => by cases F <;> first | exact (l.chk _).bind fun _ _ => (Ends.made _).bind fun _ _ => (m.chk _).bind fun _ _ => .of | exact .of)
  fst := fun h => gb (h.frm.bind fun F _ => .const _ (by split <;> simp))
  snd := fun h => gb (h.frm.bind fun F _ => .const _ (by split <;> simp [Tm.made])) }
theorem Bk (k : bX O) : ∀ (m : Nat) (G : List Tm), 20 ≤ G.length + m → Wf G → ∀ t, Ends fun n => inI O n G t
 | 0, G, h, w, t => (Dd k w fun hl => absurd hl (by omega)).all w t
 | m + 1, G, h, w, t => (Dd k w fun _ A w' => Bk k m (A :: G) (by simp only [List.length_cons]; omega) w').all w t
theorem Ju (k : bX O) {G : List Tm} (w : Wf G) (t : Tm) : ∃ r, Is (fun n => inI O n G t) r := Bk k 20 G (by omega) w t
theorem Dr (k : bX O) {G : List Tm} {t A : Tm} (w : Wf G) (hl : G.length ≤ 20) (v : O.vd t = true) (h : Ty G t A) : ∃ r, Is (fun n => inI O n G t) r ∧ Is (fun n => inS O n G t) r ∧ r ≠ .bad ∧ ∀ B, r = .ok B → Ty G t B ∧ Conv B A := by
 obtain ⟨r, h1, h2⟩ := wX k w hl v (h.An k w)
 refine ⟨r, h2, h1, ?_, ?_⟩
 ·obtain ⟨N, h1⟩ := h1
  have := h1 N (Nat.le_refl N)
  intro e; subst e
  exact mB k w h this
 ·intro B e; subst e
  have := (Ey k h2).sound w
  exact ⟨this, this.uniq h⟩
end Tm
end Go.Proofs.YtajlknlnmmbfcaaGreat
end
section
namespace Go.Proofs.YtajlknlnmmbfcaaGreat
open Go Go.Dk
def of : Tm → T
 | .var n => .mk 1 n []
 | .sort n => .mk 2 n []
 | .pi a b => .mk 3 0 [of a, of b]
 | .lam a b => .mk 4 0 [of a, of b]
 | .app a b => .mk 5 0 [of a, of b]
 | .nat => .mk 6 0 []
 | .zero => .mk 7 0 []
 | .succ a => .mk 8 0 [of a]
 | .elim p z s n => .mk 9 0 [of p, of z, of s, of n]
 | .id t a b => .mk 10 0 [of t, of a, of b]
 | .refl a => .mk 11 0 [of a]
 | .move p e x => .mk 12 0 [of p, of e, of x]
 | .sig a b => .mk 13 0 [of a, of b]
 | .pair s a b => .mk 14 0 [of s, of a, of b]
 | .fst a => .mk 15 0 [of a]
 | .snd a => .mk 16 0 [of a]
theorem qB : ∀ {a b : Tm}, of a = of b → a = b := by
 intro a
 induction a <;> intro b h <;> cases b <;> simp_all [of] <;> grind
def shn (a c n : Nat) : Nat := if c ≤ n then n + a else n
theorem EI (a c : Nat) : Tm.up (shn a c) = shn a (c + 1) := by
 funext n; cases n with
 | zero => simp [Tm.up, shn]
 | succ n => simp only [Tm.up, shn]; split <;> split <;> omega
theorem Co (a : Nat) : ∀ (t : Tm) (c : Nat), shT (a : Int) (of t) (c : Int) = of (t.ren (shn a c)) := by
 intro t
 induction t with
 | var n =>
  intro c
  simp only [of, Tm.ren, shT, shL, shn, true_and]
  by_cases h : c ≤ n
  ·rw [if_pos h, if_pos (by omega)]; rfl
  ·rw [if_neg h, if_neg (by omega)]
 | pi a b ha hb => intro c; simp only [of, Tm.ren, shT, shL, under, EI, ← ha, ← hb]; simp
 | lam a b ha hb => intro c; simp only [of, Tm.ren, shT, shL, under, EI, ← ha, ← hb]; simp
 | sig a b ha hb => intro c; simp only [of, Tm.ren, shT, shL, under, EI, ← ha, ← hb]; simp
 | _ => intro c; simp_all [of, Tm.ren, shT, shL, under]
theorem kq (a : Nat) : shn a 0 = (· + a) := by funext n; simp [shn]
theorem KX (t : Tm) : shT 1 (of t) 0 = of t.wk := by
 have := Co 1 t 0
 rw [kq] at this; exact this
def sbn (u : Tm) (c n : Nat) : Tm := if n < c then .var n else if n = c then u.ren (· + c) else .var (n - 1)
theorem y0 (u : Tm) (c : Nat) : Tm.ups (sbn u c) = sbn u (c + 1) := by
 funext n; cases n with
 | zero => simp [Tm.ups, sbn]
 | succ n =>
  simp only [Tm.ups, sbn]
  by_cases h : n < c
  ·rw [if_pos h, if_pos (show n + 1 < c + 1 by omega)]; rfl
  ·rw [if_neg h, if_neg (show ¬ n + 1 < c + 1 by omega)]
   by_cases h2 : n = c
   ·rw [if_pos h2, if_pos (show n + 1 = c + 1 by omega), Tm.wk, Tm.fP]; rfl
   ·rw [if_neg h2, if_neg (show ¬ n + 1 = c + 1 by omega)]
    show Tm.var (n - 1 + 1) = Tm.var (n + 1 - 1)
    congr 1; omega
theorem Mp (u : Tm) : ∀ (t : Tm) (c : Nat), sbT (of u) (of t) (c : Int) (c : Int) = of (t.sub (sbn u c)) := by
 intro t
 induction t with
 | var n =>
  intro c
  simp only [of, Tm.sub, sbT, sbL, sbn, true_and]
  by_cases h : n < c
  ·rw [if_pos h, if_neg (by omega), if_neg (by omega)]; rfl
  ·rw [if_neg h]
   by_cases h2 : n = c
   ·subst h2
    rw [if_pos rfl, if_pos rfl]
    have := Co n u 0
    rw [kq] at this; exact this
   ·rw [if_neg h2, if_neg (by omega), if_pos (by omega)]
    simp only [of]; congr 1; omega
 | pi a b ha hb =>
  intro c
  have hb' := hb (c + 1)
  simp only [of, Tm.sub, sbT, sbL, under, y0, ← ha, ← hb']; simp
 | lam a b ha hb =>
  intro c
  have hb' := hb (c + 1)
  simp only [of, Tm.sub, sbT, sbL, under, y0, ← ha, ← hb']; simp
 | sig a b ha hb =>
  intro c
  have hb' := hb (c + 1)
  simp only [of, Tm.sub, sbT, sbL, under, y0, ← ha, ← hb']; simp
 | _ => intro c; simp_all [of, Tm.sub, sbT, sbL, under]
theorem Gh (u : Tm) : sbn u 0 = Tm.sc u Tm.var := by
 funext n; cases n with
 | zero => exact Tm.qp u
 | succ n => simp [sbn, Tm.sc]
theorem ld (b u : Tm) : sbT (of u) (of b) 0 0 = of (b.inst u) := by
 have := Mp u b 0
 rw [Gh] at this; exact this
theorem KC {t u : Tm} (h : Tm.Par t u) : Par (of t) (of u) := by
 have c1 : ∀ {k n : Int} {a a' : T}, Par a a' → Par (.mk k n [a]) (.mk k n [a']) := fun h => .node (.cons h .nil)
 have c2 : ∀ {k n : Int} {a a' b b' : T}, Par a a' → Par b b' → Par (.mk k n [a, b]) (.mk k n [a', b']) := fun h k => .node (.cons h (.cons k .nil))
 have c3 : ∀ {k n : Int} {a a' b b' c c' : T}, Par a a' → Par b b' → Par c c' → Par (.mk k n [a, b, c]) (.mk k n [a', b', c']) := fun h k l => .node (.cons h (.cons k (.cons l .nil)))
 have c4 : ∀ {k n : Int} {a a' b b' c c' d d' : T}, Par a a' → Par b b' → Par c c' → Par d d' → Par (.mk k n [a, b, c, d]) (.mk k n [a', b', c', d']) := fun h k l m => .node (.cons h (.cons k (.cons l (.cons m .nil))))
 induction h with
 | var => exact Par.refl _
 | sort => exact Par.refl _
 | nat => exact Par.refl _
 | zero => exact Par.refl _
 | pi h k ih ik => exact c2 ih ik
 | lam h k ih ik => exact c2 ih ik
 | app h k ih ik => exact c2 ih ik
 | sig h k ih ik => exact c2 ih ik
 | succ h ih => exact c1 ih
 | refl h ih => exact c1 ih
 | fst h ih => exact c1 ih
 | snd h ih => exact c1 ih
 | id h k l ih ik il => exact c3 ih ik il
 | move h k l ih ik il => exact c3 ih ik il
 | pair h k l ih ik il => exact c3 ih ik il
 | elim h k l m ih ik il im => exact c4 ih ik il im
 | @beta a b b' u u' h k ih ik =>
  have := Par.red (k := 5) (n := 0) (.cons (c2 (k := 4) (n := 0) (Par.refl (of a)) ih) (.cons ik .nil)) (.app rfl rfl)
  rwa [fW rfl, show kd (kd (.mk 5 0 [.mk 4 0 [of a, of b'], of u']) 0) 1 = of b' from rfl, show kd (.mk 5 0 [.mk 4 0 [of a, of b'], of u']) 1 = of u' from rfl, ld] at this
 | @ezero p z z' s h ih =>
  have := Par.red (k := 9) (n := 0) (.cons (Par.refl (of p)) (.cons ih (.cons (Par.refl (of s)) (.cons (Par.refl (.mk 7 0 [])) .nil)))) (.zero rfl rfl)
  rwa [dP rfl rfl] at this
 | @esucc p p' z z' s s' n n' h k l m ih ik il im =>
  have := Par.red (k := 9) (n := 0) (.cons ih (.cons ik (.cons il (.cons (c1 (k := 8) (n := 0) im) .nil)))) (.succ rfl rfl)
  rwa [dM rfl rfl] at this
 | @mrefl p a x x' h ih =>
  have := Par.red (k := 12) (n := 0) (.cons (Par.refl (of p)) (.cons (Par.refl (.mk 11 0 [of a])) (.cons ih .nil))) (.move rfl rfl)
  rwa [dK rfl] at this
 | @fpair t a a' b h ih =>
  have := Par.red (k := 15) (n := 0) (.cons (c3 (k := 14) (n := 0) (Par.refl (of t)) ih (Par.refl (of b))) .nil) (.fst rfl rfl)
  rwa [fV rfl] at this
 | @spair t a b b' h ih =>
  have := Par.red (k := 16) (n := 0) (.cons (c3 (k := 14) (n := 0) (Par.refl (of t)) (Par.refl (of a)) ih) .nil) (.snd rfl rfl)
  rwa [fS rfl] at this
theorem Hn {t u : Tm} (h : Tm.Red t u) : Red (of t) (of u) := by
 induction h with
 | nil => exact .refl
 | cons h _ ih => exact .step (KC h) ih
theorem gw.one {a : T} {us : List T} (h : gw [a] us) : ∃ a', us = [a'] ∧ Par a a' := by
 cases h with | cons h hs => cases hs; exact ⟨_, rfl, h⟩
theorem gw.two {a b : T} {us : List T} (h : gw [a, b] us) : ∃ a' b', us = [a', b'] ∧ Par a a' ∧ Par b b' := by
 cases h with | cons h hs => obtain ⟨b', rfl, h2⟩ := hs.one; exact ⟨_, _, rfl, h, h2⟩
theorem gw.three {a b c : T} {us : List T} (h : gw [a, b, c] us) : ∃ a' b' c', us = [a', b', c'] ∧ Par a a' ∧ Par b b' ∧ Par c c' := by
 cases h with | cons h hs => obtain ⟨b', c', rfl, h2⟩ := hs.two; exact ⟨_, _, _, rfl, h, h2⟩
theorem gw.four {a b c d : T} {us : List T} (h : gw [a, b, c, d] us) : ∃ a' b' c' d', us = [a', b', c', d'] ∧ Par a a' ∧ Par b b' ∧ Par c c' ∧ Par d d' := by
 cases h with | cons h hs => obtain ⟨b', c', d', rfl, h2⟩ := hs.three; exact ⟨_, _, _, _, rfl, h, h2⟩
theorem iw (t : Tm) : (of t).k = match t with
   | .var _ => 1 | .sort _ => 2 | .pi .. => 3 | .lam .. => 4 | .app .. => 5 | .nat => 6 | .zero => 7 | .succ _ => 8 | .elim .. => 9 | .id .. => 10 | .refl _ => 11 | .move .. => 12 | .sig .. => 13 | .pair .. => 14 | .fst _ => 15 | .snd _ => 16 := by
 cases t <;> rfl
theorem HI : ∀ {t : Tm} {x : T}, Par (of t) x → ∃ u, x = of u ∧ Tm.Par t u := by
 intro t
 have no : ∀ {k n : Int} {ts : List T}, Rx (.mk k n ts) → k ≠ 5 → k ≠ 9 → k ≠ 12 → k ≠ 15 → k ≠ 16 → False := fun h h1 h2 h3 h4 h5 => by
  have := h.k; simp only [T.k] at this; omega
 induction t with
 | var n => intro x h; cases h with
  | node h => cases h; exact ⟨.var n, rfl, .var⟩
  | red h r => exact (no r (by decide) (by decide) (by decide) (by decide) (by decide)).elim
 | sort n => intro x h; cases h with
  | node h => cases h; exact ⟨.sort n, rfl, .sort⟩
  | red h r => exact (no r (by decide) (by decide) (by decide) (by decide) (by decide)).elim
 | nat => intro x h; cases h with
  | node h => cases h; exact ⟨.nat, rfl, .nat⟩
  | red h r => exact (no r (by decide) (by decide) (by decide) (by decide) (by decide)).elim
 | zero => intro x h; cases h with
  | node h => cases h; exact ⟨.zero, rfl, .zero⟩
  | red h r => exact (no r (by decide) (by decide) (by decide) (by decide) (by decide)).elim
 | pi a b ha hb => intro x h; cases h with
  | node h => obtain ⟨a', b', rfl, p, q⟩ := h.two; obtain ⟨u, rfl, hu⟩ := ha p; obtain ⟨v, rfl, hv⟩ := hb q; exact ⟨.pi u v, rfl, .pi hu hv⟩
  | red h r => exact (no r (by decide) (by decide) (by decide) (by decide) (by decide)).elim
 | lam a b ha hb => intro x h; cases h with
  | node h => obtain ⟨a', b', rfl, p, q⟩ := h.two; obtain ⟨u, rfl, hu⟩ := ha p; obtain ⟨v, rfl, hv⟩ := hb q; exact ⟨.lam u v, rfl, .lam hu hv⟩
  | red h r => exact (no r (by decide) (by decide) (by decide) (by decide) (by decide)).elim
 | sig a b ha hb => intro x h; cases h with
  | node h => obtain ⟨a', b', rfl, p, q⟩ := h.two; obtain ⟨u, rfl, hu⟩ := ha p; obtain ⟨v, rfl, hv⟩ := hb q; exact ⟨.sig u v, rfl, .sig hu hv⟩
  | red h r => exact (no r (by decide) (by decide) (by decide) (by decide) (by decide)).elim
 | succ a ha => intro x h; cases h with
  | node h => obtain ⟨a', rfl, p⟩ := h.one; obtain ⟨u, rfl, hu⟩ := ha p; exact ⟨.succ u, rfl, .succ hu⟩
  | red h r => exact (no r (by decide) (by decide) (by decide) (by decide) (by decide)).elim
 | refl a ha => intro x h; cases h with
  | node h => obtain ⟨a', rfl, p⟩ := h.one; obtain ⟨u, rfl, hu⟩ := ha p; exact ⟨.refl u, rfl, .refl hu⟩
  | red h r => exact (no r (by decide) (by decide) (by decide) (by decide) (by decide)).elim
 | id t a b ht ha hb => intro x h; cases h with
  | node h => obtain ⟨t', a', b', rfl, p, q, r⟩ := h.three; obtain ⟨s, rfl, hs⟩ := ht p; obtain ⟨u, rfl, hu⟩ := ha q; obtain ⟨v, rfl, hv⟩ := hb r; exact ⟨.id s u v, rfl, .id hs hu hv⟩
  | red h r => exact (no r (by decide) (by decide) (by decide) (by decide) (by decide)).elim
 | pair t a b ht ha hb => intro x h; cases h with
  | node h => obtain ⟨t', a', b', rfl, p, q, r⟩ := h.three; obtain ⟨s, rfl, hs⟩ := ht p; obtain ⟨u, rfl, hu⟩ := ha q; obtain ⟨v, rfl, hv⟩ := hb r; exact ⟨.pair s u v, rfl, .pair hs hu hv⟩
  | red h r => exact (no r (by decide) (by decide) (by decide) (by decide) (by decide)).elim
 | app f a hf ha => intro x h; cases h with
  | node h => obtain ⟨a', b', rfl, p, q⟩ := h.two; obtain ⟨u, rfl, hu⟩ := hf p; obtain ⟨v, rfl, hv⟩ := ha q; exact ⟨.app u v, rfl, .app hu hv⟩
  | red h r =>
   obtain ⟨a', b', rfl, p, q⟩ := h.two
   obtain ⟨u, rfl, hu⟩ := hf p
   obtain ⟨v, rfl, hv⟩ := ha q
   cases r with
   | app _ hk =>
    have hk : (of f).k = 4 := hk
    rw [iw] at hk
    cases f <;> simp only [reduceCtorEq, Int.reduceEq] at hk
    cases hu with
    | lam h1 h2 =>
     rw [fW rfl]
     show ∃ w, sbT (of v) (of _) 0 0 = of w ∧ _
     rw [ld]; exact ⟨_, rfl, .beta h2 hv⟩
   | zero h => cases h
   | succ h => cases h
   | move h => cases h
   | fst h => cases h
   | snd h => cases h
 | elim a b c d ha hb hc hd => intro x h; cases h with
  | node h =>
   obtain ⟨a', b', c', d', rfl, p, q, r, s⟩ := h.four
   obtain ⟨u, rfl, hu⟩ := ha p; obtain ⟨v, rfl, hv⟩ := hb q; obtain ⟨w, rfl, hw⟩ := hc r; obtain ⟨y, rfl, hy⟩ := hd s
   exact ⟨.elim u v w y, rfl, .elim hu hv hw hy⟩
  | red h r =>
   obtain ⟨a', b', c', d', rfl, p, q, r', s⟩ := h.four
   obtain ⟨u, rfl, hu⟩ := ha p; obtain ⟨v, rfl, hv⟩ := hb q; obtain ⟨w, rfl, hw⟩ := hc r'; obtain ⟨y, rfl, hy⟩ := hd s
   cases r with
   | app h => cases h
   | zero _ hk =>
    have hk : (of d).k = 7 := hk
    rw [iw] at hk
    cases d <;> simp only [reduceCtorEq, Int.reduceEq] at hk
    cases hy
    rw [dP rfl rfl]
    exact ⟨v, rfl, .ezero hv⟩
   | succ _ hk =>
    have hk : (of d).k = 8 := hk
    rw [iw] at hk
    cases d <;> simp only [reduceCtorEq, Int.reduceEq] at hk
    cases hy with
    | succ hy =>
     rw [dM rfl rfl]
     exact ⟨.app (.app w _) (.elim u v w _), rfl, .esucc hu hv hw hy⟩
   | move h => cases h
   | fst h => cases h
   | snd h => cases h
 | move t a b ht ha hb => intro x h; cases h with
  | node h => obtain ⟨t', a', b', rfl, p, q, r⟩ := h.three; obtain ⟨s, rfl, hs⟩ := ht p; obtain ⟨u, rfl, hu⟩ := ha q; obtain ⟨v, rfl, hv⟩ := hb r; exact ⟨.move s u v, rfl, .move hs hu hv⟩
  | red h r =>
   obtain ⟨t', a', b', rfl, p, q, r'⟩ := h.three; obtain ⟨s, rfl, hs⟩ := ht p; obtain ⟨u, rfl, hu⟩ := ha q; obtain ⟨v, rfl, hv⟩ := hb r'
   cases r with
   | app h => cases h
   | zero h => cases h
   | succ h => cases h
   | move _ hk =>
    have hk : (of a).k = 11 := hk
    rw [iw] at hk
    cases a <;> simp only [reduceCtorEq, Int.reduceEq] at hk
    rw [dK rfl]
    exact ⟨v, rfl, .mrefl hv⟩
   | fst h => cases h
   | snd h => cases h
 | fst a ha => intro x h; cases h with
  | node h => obtain ⟨a', rfl, p⟩ := h.one; obtain ⟨u, rfl, hu⟩ := ha p; exact ⟨.fst u, rfl, .fst hu⟩
  | red h r =>
   obtain ⟨a', rfl, p⟩ := h.one; obtain ⟨u, rfl, hu⟩ := ha p
   cases r with
   | app h => cases h
   | zero h => cases h
   | succ h => cases h
   | move h => cases h
   | fst _ hk =>
    have hk : (of a).k = 14 := hk
    rw [iw] at hk
    cases a <;> simp only [reduceCtorEq, Int.reduceEq] at hk
    cases hu with
    | pair h1 h2 h3 => rw [fV rfl]; exact ⟨_, rfl, .fpair h2⟩
   | snd h => cases h
 | snd a ha => intro x h; cases h with
  | node h => obtain ⟨a', rfl, p⟩ := h.one; obtain ⟨u, rfl, hu⟩ := ha p; exact ⟨.snd u, rfl, .snd hu⟩
  | red h r =>
   obtain ⟨a', rfl, p⟩ := h.one; obtain ⟨u, rfl, hu⟩ := ha p
   cases r with
   | app h => cases h
   | zero h => cases h
   | succ h => cases h
   | move h => cases h
   | fst h => cases h
   | snd _ hk =>
    have hk : (of a).k = 14 := hk
    rw [iw] at hk
    cases a <;> simp only [reduceCtorEq, Int.reduceEq] at hk
    cases hu with
    | pair h1 h2 h3 => rw [fS rfl]; exact ⟨_, rfl, .spair h3⟩
theorem DT {t : Tm} {x : T} (h : Red (of t) x) : ∃ u, x = of u ∧ Tm.Red t u := by
 generalize e : of t = y at h
 induction h generalizing t with
 | refl => exact ⟨t, e.symm, .nil⟩
 | step h _ ih =>
  subst e
  obtain ⟨u, rfl, hu⟩ := HI h
  obtain ⟨v, rfl, hv⟩ := ih rfl
  exact ⟨v, rfl, .cons hu hv⟩
end Go.Proofs.YtajlknlnmmbfcaaGreat
end
section
namespace Go.Proofs.YtajlknlnmmbfcaaGreat
open Go Go.Dk
theorem Gj (t : T) : ∀ d, bD t d = true → ∃ m, t = of m := by
 induction t using T.ind with | h t ih =>
 intro d h
 cases t with | mk k n ts =>
 rw [iK] at h
 simp only [Bool.and_eq_true, decide_eq_true_eq] at h
 obtain ⟨_, h1, h2, h3⟩ := h
 have h1 : opsOf k = ts.length := h1
 have h2 : 0 ≤ n ∧ n ≤ cw k := h2
 have h3 : bH ts (d - 1) = true := h3
 have kid : ∀ u ∈ ts, ∃ m, u = of m := fun u hu => ih u hu (d - 1) (np h3 hu)
 have hk : k = 1 ∨ k = 2 ∨ k = 3 ∨ k = 4 ∨ k = 5 ∨ k = 6 ∨ k = 7 ∨ k = 8 ∨ k = 9 ∨ k = 10 ∨ k = 11 ∨ k = 12 ∨ k = 13 ∨ k = 14 ∨ k = 15 ∨ k = 16 := by
  unfold opsOf at h1
  repeat' split at h1
  all_goals omega
 have l0 : opsOf k = 0 → ts = [] := fun e => by
  rw [e] at h1
  exact List.eq_nil_of_length_eq_zero (by omega)
 have l1 : opsOf k = 1 → ∃ a, ts = [of a] := fun e => by
  rw [e] at h1
  match ts, h1, kid with
  | [a], _, kid => obtain ⟨m, rfl⟩ := kid a (by simp); exact ⟨m, rfl⟩
  | [], h1, _ => simp at h1
  | _ :: _ :: _, h1, _ => simp at h1; omega
 have l2 : opsOf k = 2 → ∃ a b, ts = [of a, of b] := fun e => by
  rw [e] at h1
  match ts, h1, kid with
  | [a, b], _, kid => obtain ⟨m, rfl⟩ := kid a (by simp); obtain ⟨m', rfl⟩ := kid b (by simp); exact ⟨m, m', rfl⟩
  | [], h1, _ => simp at h1
  | [_], h1, _ => simp at h1
  | _ :: _ :: _ :: _, h1, _ => simp at h1; omega
 have l3 : opsOf k = 3 → ∃ a b c, ts = [of a, of b, of c] := fun e => by
  rw [e] at h1
  match ts, h1, kid with
  | [a, b, c], _, kid => obtain ⟨m, rfl⟩ := kid a (by simp); obtain ⟨m', rfl⟩ := kid b (by simp); obtain ⟨m'', rfl⟩ := kid c (by simp); exact ⟨m, m', m'', rfl⟩
  | [], h1, _ => simp at h1
  | [_], h1, _ => simp at h1
  | [_, _], h1, _ => simp at h1
  | _ :: _ :: _ :: _ :: _, h1, _ => simp at h1; omega
 have l4 : opsOf k = 4 → ∃ a b c e, ts = [of a, of b, of c, of e] := fun e => by
  rw [e] at h1
  match ts, h1, kid with
  | [a, b, c, x], _, kid => obtain ⟨m, rfl⟩ := kid a (by simp); obtain ⟨m', rfl⟩ := kid b (by simp); obtain ⟨m'', rfl⟩ := kid c (by simp); obtain ⟨m3, rfl⟩ := kid x (by simp); exact ⟨m, m', m'', m3, rfl⟩
  | [], h1, _ => simp at h1
  | [_], h1, _ => simp at h1
  | [_, _], h1, _ => simp at h1
  | [_, _, _], h1, _ => simp at h1
  | _ :: _ :: _ :: _ :: _ :: _, h1, _ => simp at h1; omega
 have n0 : cw k = 0 → n = 0 := fun e => by omega
 rcases hk with rfl | rfl | rfl | rfl | rfl | rfl | rfl | rfl | rfl | rfl | rfl | rfl | rfl | rfl | rfl | rfl
 ·rw [l0 rfl]; exact ⟨.var n.toNat, by show T.mk 1 n [] = T.mk 1 (n.toNat : Int) []; rw [Int.toNat_of_nonneg h2.1]⟩
 ·rw [l0 rfl]; exact ⟨.sort n.toNat, by show T.mk 2 n [] = T.mk 2 (n.toNat : Int) []; rw [Int.toNat_of_nonneg h2.1]⟩
 ·obtain ⟨a, b, rfl⟩ := l2 rfl; rw [n0 rfl]; exact ⟨.pi a b, rfl⟩
 ·obtain ⟨a, b, rfl⟩ := l2 rfl; rw [n0 rfl]; exact ⟨.lam a b, rfl⟩
 ·obtain ⟨a, b, rfl⟩ := l2 rfl; rw [n0 rfl]; exact ⟨.app a b, rfl⟩
 ·rw [l0 rfl, n0 rfl]; exact ⟨.nat, rfl⟩
 ·rw [l0 rfl, n0 rfl]; exact ⟨.zero, rfl⟩
 ·obtain ⟨a, rfl⟩ := l1 rfl; rw [n0 rfl]; exact ⟨.succ a, rfl⟩
 ·obtain ⟨a, b, c, e, rfl⟩ := l4 rfl; rw [n0 rfl]; exact ⟨.elim a b c e, rfl⟩
 ·obtain ⟨a, b, c, rfl⟩ := l3 rfl; rw [n0 rfl]; exact ⟨.id a b c, rfl⟩
 ·obtain ⟨a, rfl⟩ := l1 rfl; rw [n0 rfl]; exact ⟨.refl a, rfl⟩
 ·obtain ⟨a, b, c, rfl⟩ := l3 rfl; rw [n0 rfl]; exact ⟨.move a b c, rfl⟩
 ·obtain ⟨a, b, rfl⟩ := l2 rfl; rw [n0 rfl]; exact ⟨.sig a b, rfl⟩
 ·obtain ⟨a, b, c, rfl⟩ := l3 rfl; rw [n0 rfl]; exact ⟨.pair a b c, rfl⟩
 ·obtain ⟨a, rfl⟩ := l1 rfl; rw [n0 rfl]; exact ⟨.fst a, rfl⟩
 ·obtain ⟨a, rfl⟩ := l1 rfl; rw [n0 rfl]; exact ⟨.snd a, rfl⟩
theorem ir {t : T} (h : ak t = true) : ∃ m, t = of m := by
 unfold ak at h
 rw [Bool.and_eq_true] at h
 exact Gj t 30 h.1
def vdM (t : Tm) : Bool := ak (of t)
theorem fj {t : Tm} : vdM t = true ↔ bD (of t) 30 = true ∧ (of t).size ≤ 400 := by
 unfold vdM ak
 rw [Bool.and_eq_true, decide_eq_true_eq]
theorem FL {n : Nat} : vdM (.sort n) = true ↔ n ≤ 3 := by
 rw [fj]
 have e : cw 2 = 3 := rfl
 show bD (.mk 2 n []) 30 = true ∧ 1 ≤ 400 ↔ _
 simp only [bD, bH, Bool.and_eq_true, decide_eq_true_eq, Bool.and_true, e]
 constructor
 ·intro h; omega
 ·intro h; exact ⟨⟨by omega, rfl, by omega⟩, by omega⟩
def hdM : Tm → Option Tm
 | .app f u => match f with
  | .lam _ b => some (b.inst u)
  | f => (hdM f).map fun f => .app f u
 | .elim p z s n => match n with
  | .zero => some z
  | .succ m => some (.app (.app s m) (.elim p z s m))
  | n => (hdM n).map fun n => .elim p z s n
 | .move p e x => match e with
  | .refl _ => some x
  | e => (hdM e).map fun e => .move p e x
 | .fst q => match q with
  | .pair _ a _ => some a
  | q => (hdM q).map fun q => .fst q
 | .snd q => match q with
  | .pair _ _ b => some b
  | q => (hdM q).map fun q => .snd q
 | _ => none
theorem J8 : ∀ {t u : Tm}, hdM t = some u → Tm.Hd t u := by
 intro t
 induction t with
 | app f a hf ha =>
  intro u h
  cases f <;> first
   | (simp only [hdM] at h; cases h; exact .beta)
   | (simp only [hdM] at h
      obtain ⟨v, hv, rfl⟩ := Option.map_eq_some_iff.1 h
      exact .app (hf hv))
 | elim p z s n hp hz hs hn =>
  intro u h
  cases n <;> first
   | (simp only [hdM] at h; cases h; first | exact .ezero | exact .esucc)
   | (simp only [hdM] at h
      obtain ⟨v, hv, rfl⟩ := Option.map_eq_some_iff.1 h
      exact .elim (hn hv))
 | move p e x hp he hx =>
  intro u h
  cases e <;> first
   | (simp only [hdM] at h; cases h; exact .mrefl)
   | (simp only [hdM] at h
      obtain ⟨v, hv, rfl⟩ := Option.map_eq_some_iff.1 h
      exact .move (he hv))
 | fst q hq =>
  intro u h
  cases q <;> first
   | (simp only [hdM] at h; cases h; exact .fpair)
   | (simp only [hdM] at h
      obtain ⟨v, hv, rfl⟩ := Option.map_eq_some_iff.1 h
      exact .fst (hq hv))
 | snd q hq =>
  intro u h
  cases q <;> first
   | (simp only [hdM] at h; cases h; exact .spair)
   | (simp only [hdM] at h
      obtain ⟨v, hv, rfl⟩ := Option.map_eq_some_iff.1 h
      exact .snd (hq hv))
 | _ => intro u h; cases h
theorem J5 {t u : Tm} (h : Tm.Hd t u) : hdM t = some u := by
 induction h with
 | beta => rfl
 | ezero => rfl
 | esucc => rfl
 | mrefl => rfl
 | fpair => rfl
 | spair => rfl
 | @app f f' u h ih => cases f <;> first | (cases h; done) | (simp only [hdM] at ih ⊢; first | rw [ih]; rfl | (cases ih))
 | @elim p z s n n' h ih => cases n <;> first | (cases h; done) | (simp only [hdM] at ih ⊢; first | rw [ih]; rfl | (cases ih))
 | @move p e e' x h ih => cases e <;> first | (cases h; done) | (simp only [hdM] at ih ⊢; first | rw [ih]; rfl | (cases ih))
 | @fst q q' h ih => cases q <;> first | (cases h; done) | (simp only [hdM] at ih ⊢; first | rw [ih]; rfl | (cases ih))
 | @snd q q' h ih => cases q <;> first | (cases h; done) | (simp only [hdM] at ih ⊢; first | rw [ih]; rfl | (cases ih))
def hrM : Nat → Tm → Option Tm
 | 0, t => match hdM t with
  | none => some t
  | some _ => none
 | g + 1, t => match hdM t with
  | none => some t
  | some u => if vdM u = true then hrM g u else none
theorem Fz : ∀ {g : Nat} {t h : Tm}, hrM g t = some h → vdM t = true → Tm.Wh t h ∧ hdM h = none ∧ vdM h = true
 | 0, t, h, e, v => by
  simp only [hrM] at e
  cases hd : hdM t with
  | none => rw [hd] at e; cases e; exact ⟨.nil, hd, v⟩
  | some u => rw [hd] at e; cases e
 | g + 1, t, h, e, v => by
  simp only [hrM] at e
  cases hd : hdM t with
  | none => rw [hd] at e; cases e; exact ⟨.nil, hd, v⟩
  | some u =>
   rw [hd] at e
   simp only at e
   split at e
   ·obtain ⟨w, h1, h2⟩ := Fz e ‹_›
    exact ⟨.cons (J8 hd) w, h1, h2⟩
   ·cases e
open Tm in
def O : Orc where
 vd := vdM
 hn t := if vdM t = true then (match hrM 200 t with
  | some h => .ok h
  | none => .opn) else .opn
 sm a b := if vdM a = true ∧ vdM b = true then (if iE (of a) (of b) 200 = 1 then .ok .nat else if iE (of a) (of b) 200 = 2 then .bad else .opn) else .opn
theorem C4 {a b : Tm} {g : Nat} (h : iE (of a) (of b) g = 1) : Tm.Conv a b := by
 unfold iE at h
 split at h
 ·rename_i e
  have := qB ((T.beq_iff _ _).1 e)
  subst this; exact .a9
 ·split at h
  ·cases h
  ·rename_i hh
   split at h
   ·rename_i e
    have e := (T.beq_iff _ _).1 e
    have ha0 : (fx false g 0 (of a)).2.2 = 0 := Classical.byContradiction fun h => hh (.inl h)
    have hb0 : (fx false g 0 (of b)).2.2 = 0 := Classical.byContradiction fun h => hh (.inr h)
    obtain ⟨u, eu, ru⟩ := DT (ke _ _ _ ha0).1
    obtain ⟨v, ev, rv⟩ := DT (ke _ _ _ hb0).1
    have : u = v := qB (by rw [← eu, ← ev]; exact e)
    subst this
    exact ⟨u, ru, rv⟩
   ·cases h
theorem rG {a b : Tm} {g : Nat} (h : iE (of a) (of b) g = 2) : ¬ Tm.Conv a b := by
 rintro ⟨c, r1, r2⟩
 obtain ⟨ha0, hb0, hne⟩ := CX h
 obtain ⟨x1, n1⟩ := ke _ _ _ ha0
 obtain ⟨x2, n2⟩ := ke _ _ _ hb0
 obtain ⟨z, z1, z2⟩ := Red.ES x1 (Hn r1)
 obtain ⟨y, y1, y2⟩ := Red.ES x2 (Hn r2)
 rw [Ao z1 n1] at z2
 rw [Ao y1 n2] at y2
 exact hne (It z2 y2 n1 n2)
theorem aH : Tm.bX O := by
 have kd : ∀ {t : Tm} {u : T}, vdM t = true → u ∈ (of t).kids → ∀ m, u = of m → vdM m = true := fun h hu m e => by
  unfold vdM; rw [← e]; exact bB h hu
 constructor
 case hn_ok =>
  intro t h e
  simp only [O] at e
  split at e
  ·split at e
   ·cases e
    obtain ⟨w, h1, h2⟩ := Fz ‹_› ‹_›
    exact ⟨w, (fun u k => by rw [J5 k] at h1; cases h1), h2⟩
   ·cases e
  ·cases e
 case hn_nb =>
  intro t e
  simp only [O] at e
  split at e
  ·split at e <;> cases e
  ·cases e
 case sm_ok =>
  intro a b x e
  simp only [O] at e
  split at e
  ·split at e
   ·exact C4 ‹_›
   ·split at e <;> cases e
  ·cases e
 case sm_nb =>
  intro a b e
  simp only [O] at e
  split at e
  ·split at e
   ·cases e
   ·split at e
    ·exact rG ‹_›
    ·cases e
  ·cases e
 case sm_inv =>
  intro a b h
  simp only [O]
  rw [if_neg (fun hh => by rw [show O.vd b = vdM b from rfl] at h; rw [hh.2] at h; cases h)]
 case v_pi => exact fun h => ⟨kd h (by simp [of, T.kids]) _ rfl, kd h (by simp [of, T.kids]) _ rfl⟩
 case v_sig => exact fun h => ⟨kd h (by simp [of, T.kids]) _ rfl, kd h (by simp [of, T.kids]) _ rfl⟩
 case v_lam => exact fun h => ⟨kd h (by simp [of, T.kids]) _ rfl, kd h (by simp [of, T.kids]) _ rfl⟩
 case v_app => exact fun h => ⟨kd h (by simp [of, T.kids]) _ rfl, kd h (by simp [of, T.kids]) _ rfl⟩
 case v_succ => exact fun h => kd h (by simp [of, T.kids]) _ rfl
 case v_refl => exact fun h => kd h (by simp [of, T.kids]) _ rfl
 case v_fst => exact fun h => kd h (by simp [of, T.kids]) _ rfl
 case v_snd => exact fun h => kd h (by simp [of, T.kids]) _ rfl
 case v_id => exact fun h => ⟨kd h (by simp [of, T.kids]) _ rfl, kd h (by simp [of, T.kids]) _ rfl, kd h (by simp [of, T.kids]) _ rfl⟩
 case v_move => exact fun h => ⟨kd h (by simp [of, T.kids]) _ rfl, kd h (by simp [of, T.kids]) _ rfl, kd h (by simp [of, T.kids]) _ rfl⟩
 case v_pair => exact fun h => ⟨kd h (by simp [of, T.kids]) _ rfl, kd h (by simp [of, T.kids]) _ rfl, kd h (by simp [of, T.kids]) _ rfl⟩
 case v_elim =>
  intro p z s n h
  refine ⟨kd h (by simp [of, T.kids]) _ rfl, kd h (by simp [of, T.kids]) _ rfl, kd h (by simp [of, T.kids]) _ rfl, kd h (by simp [of, T.kids]) _ rfl, ?_⟩
  have h := fj.1 h
  show vdM _ = true
  rw [fj]
  have := size_pos (of z); have := size_pos (of s); have := size_pos (of n)
  simp only [of, bD, bH, T.size, T.aE, Bool.and_eq_true, decide_eq_true_eq, Bool.and_true] at h ⊢
  exact ⟨⟨by omega, rfl, by decide, h.1.2.2.2.1, by omega, rfl, by decide⟩, by omega⟩
 case v_lam3 =>
  intro a b h
  have h := fj.1 h
  show vdM _ = true
  rw [fj]
  have := size_pos (of b)
  simp only [of, bD, bH, T.size, T.aE, Bool.and_eq_true, decide_eq_true_eq, Bool.and_true] at h ⊢
  exact ⟨⟨by omega, rfl, by decide, h.1.2.2.2.1, by omega, rfl, by decide⟩, by omega⟩
 case v_sort => exact FL
 case v_nat => rfl
end Go.Proofs.YtajlknlnmmbfcaaGreat
end
section
namespace Go.Proofs.YtajlknlnmmbfcaaGreat
open Go Go.Ab Go.Dk
def mnT (k : Int) : Int := if k = 5 ∨ k = 15 ∨ k = 16 then 0 else if k = 12 then 1 else if k = 9 then 3 else -1
theorem FA {m : Tm} (h : Rx (of m)) : ∃ u, hdM m = some u ∧ aD (of m) = of u := by
 cases m with
 | app f a =>
  cases h with
  | app _ hk =>
   have hk : (of f).k = 4 := hk
   rw [iw] at hk
   cases f <;> simp only [reduceCtorEq, Int.reduceEq] at hk
   exact ⟨_, rfl, by rw [fW rfl]; exact ld _ _⟩
  | zero h => cases h
  | succ h => cases h
  | move h => cases h
  | fst h => cases h
  | snd h => cases h
 | elim p z s n =>
  cases h with
  | app h => cases h
  | zero _ hk =>
   have hk : (of n).k = 7 := hk
   rw [iw] at hk
   cases n <;> simp only [reduceCtorEq, Int.reduceEq] at hk
   exact ⟨z, rfl, dP rfl rfl⟩
  | succ _ hk =>
   have hk : (of n).k = 8 := hk
   rw [iw] at hk
   cases n <;> simp only [reduceCtorEq, Int.reduceEq] at hk
   exact ⟨_, rfl, dM rfl rfl⟩
  | move h => cases h
  | fst h => cases h
  | snd h => cases h
 | move p e x =>
  cases h with
  | app h => cases h
  | zero h => cases h
  | succ h => cases h
  | move _ hk =>
   have hk : (of e).k = 11 := hk
   rw [iw] at hk
   cases e <;> simp only [reduceCtorEq, Int.reduceEq] at hk
   exact ⟨x, rfl, dK rfl⟩
  | fst h => cases h
  | snd h => cases h
 | fst q =>
  cases h with
  | app h => cases h
  | zero h => cases h
  | succ h => cases h
  | move h => cases h
  | fst _ hk =>
   have hk : (of q).k = 14 := hk
   rw [iw] at hk
   cases q <;> simp only [reduceCtorEq, Int.reduceEq] at hk
   exact ⟨_, rfl, fV rfl⟩
  | snd h => cases h
 | snd q =>
  cases h with
  | app h => cases h
  | zero h => cases h
  | succ h => cases h
  | move h => cases h
  | fst h => cases h
  | snd _ hk =>
   have hk : (of q).k = 14 := hk
   rw [iw] at hk
   cases q <;> simp only [reduceCtorEq, Int.reduceEq] at hk
   exact ⟨_, rfl, fS rfl⟩
 | _ => exact absurd h.k (by simp only [of, T.k]; omega)
theorem DI {m : Tm} (h : ¬ Rx (of m)) : (mnT (of m).k = -1 ∧ hdM m = none) ∨ ∃ (i : Nat) (q : Tm), mnT (of m).k = i ∧ i < (of m).kids.length ∧ kd (of m) i = of q ∧ (of q).size < (of m).size ∧ (hdM q = none → hdM m = none) ∧
   ∀ v, hdM q = some v → ∃ u, hdM m = some u ∧ of u = .mk (of m).k (of m).n ((of m).kids.set i (of v)) := by
 cases m with
 | app f a =>
  refine .inr ⟨0, f, rfl, by simp [of, T.kids], rfl, by simp only [of, T.size, T.aE]; omega, ?_⟩
  cases f <;> first
   | (exact absurd (Rx.app rfl rfl) h)
   | (refine ⟨fun e => ?_, fun v e => ⟨.app v a, ?_, rfl⟩⟩ <;> (first | (simp only [hdM] at e ⊢ <;> first | (rw [e]; rfl) | rfl | cases e) | (cases e)))
 | elim p z s n =>
  refine .inr ⟨3, n, rfl, by simp [of, T.kids], rfl, by simp only [of, T.size, T.aE]; omega, ?_⟩
  cases n <;> first
   | (exact absurd (Rx.zero rfl rfl) h)
   | (exact absurd (Rx.succ rfl rfl) h)
   | (refine ⟨fun e => ?_, fun v e => ⟨.elim p z s v, ?_, rfl⟩⟩ <;> (first | (simp only [hdM] at e ⊢ <;> first | (rw [e]; rfl) | rfl | cases e) | (cases e)))
 | move p e x =>
  refine .inr ⟨1, e, rfl, by simp [of, T.kids], rfl, by simp only [of, T.size, T.aE]; omega, ?_⟩
  cases e <;> first
   | (exact absurd (Rx.move rfl rfl) h)
   | (refine ⟨fun e => ?_, fun v e => ⟨.move p v x, ?_, rfl⟩⟩ <;> (first | (simp only [hdM] at e ⊢ <;> first | (rw [e]; rfl) | rfl | cases e) | (cases e)))
 | fst q =>
  refine .inr ⟨0, q, rfl, by simp [of, T.kids], rfl, by simp only [of, T.size, T.aE]; omega, ?_⟩
  cases q <;> first
   | (exact absurd (Rx.fst rfl rfl) h)
   | (refine ⟨fun e => ?_, fun v e => ⟨.fst v, ?_, rfl⟩⟩ <;> (first | (simp only [hdM] at e ⊢ <;> first | (rw [e]; rfl) | rfl | cases e) | (cases e)))
 | snd q =>
  refine .inr ⟨0, q, rfl, by simp [of, T.kids], rfl, by simp only [of, T.size, T.aE]; omega, ?_⟩
  cases q <;> first
   | (exact absurd (Rx.snd rfl rfl) h)
   | (refine ⟨fun e => ?_, fun v e => ⟨.snd v, ?_, rfl⟩⟩ <;> (first | (simp only [hdM] at e ⊢ <;> first | (rw [e]; rfl) | rfl | cases e) | (cases e)))
 | _ => exact .inl ⟨rfl, rfl⟩
theorem Ho : ∀ (ts : List T) (i : Nat) (v : T), i < ts.length → T.aE (ts.set i v) ≤ T.aE ts + v.size
 | [], i, v, h => by simp at h
 | t :: ts, 0, v, h => by simp only [List.set_cons_zero, T.aE]; omega
 | t :: ts, i + 1, v, h => by
  have := Ho ts i v (by simpa using h)
  simp only [List.set_cons_succ, T.aE]; omega
theorem Fw (B : Nat) (hB : B = 160000) (z : Nat) : ∀ {m u : Tm}, (of m).size ≤ z → vdM m = true → hdM m = some u → (of u).size ≤ B + z * 400 := by
 induction z with
 | zero => intro m u hz; exact absurd (size_pos (of m)) (by exact Nat.not_le_of_lt (Nat.lt_succ_of_le hz))
 | succ z ih =>
  intro m u hz hv e
  rw [Nat.add_mul]
  by_cases hr : Rx (of m)
  ·obtain ⟨w, e1, e2⟩ := FA hr
   rw [e] at e1; cases e1
   have := kf hv hr
   rw [e2, ← hB] at this
   exact Nat.le_trans this (Nat.le_add_right _ _)
  ·rcases DI hr with ⟨e1, e2⟩ | ⟨i, q, e1, hi, e2, hq, e3, e4⟩
   ·rw [e] at e2; cases e2
   ·have vq : vdM q = true := by
      unfold vdM; rw [← e2]; exact bB hv (kA hi)
    cases hh : hdM q with
    | none => rw [e3 hh] at e; cases e
    | some v =>
     obtain ⟨w, e5, e6⟩ := e4 v hh
     rw [e] at e5; cases e5
     have h1 := ih (m := q) (by omega) vq hh
     have h2 := Ho (of m).kids i (of v) hi
     have h3 := T.size_eq (of m)
     have h4 := ae hv
     rw [e6, T.size]; omega
theorem Gr {n : Nat} (hn : 1 ≤ n) (k : Int) : FF n 179 [nt k] [] = some ([nt (mnT k)], []) := by
 obtain ⟨n, rfl⟩ := ag (show 0 < n by omega)
 rw [tR]
 unfold mnT
 by_cases h1 : k = 5 <;> by_cases h2 : k = 15 <;> by_cases h3 : k = 16 <;> by_cases h4 : k = 12 <;> by_cases h5 : k = 9 <;> simp [h1, h2, h3, h4, h5] <;> omega
theorem nN : ∀ (z : Nat) (m : Tm), (of m).size ≤ z → ∀ {n : Nat}, 3000500 + z ≤ n → vdM m = true →
   ∃ x b, FF n 164 [tm (of m)] [] = some ([tm x, bl b], []) ∧ x.size ≤ 320000 ∧ (match hdM m with | some u => b = true ∧ x = of u | none => b = false)
 | 0, m, hz, n, hn, hv => by have := size_pos (of m); omega
 | z + 1, m, hz, n, hn, hv => by
  obtain ⟨n, rfl⟩ := ag (show 0 < n by omega)
  have hs := ae hv
  rw [mP, lI (n := n) (by omega) hv]
  simp only [evt]
  by_cases hr : Rx (of m)
  ·obtain ⟨u, e1, e2⟩ := FA hr
   have := (pn (of m)).2 hr
   have hc := kf hv hr
   rw [decide_eq_false this, jW (n := n) (by omega) hv hr]
   simp only [evt]
   refine ⟨_, _, rfl, by omega, ?_⟩
   rw [e1]; exact ⟨rfl, e2⟩
  ·have : bE (of m) = 0 := Classical.byContradiction fun h => hr ((pn (of m)).1 h)
   rw [this, Gr (n := n) (by omega)]
   simp only [evt]
   rcases DI hr with ⟨e1, e2⟩ | ⟨i, q, e1, hi, e2, hq, e3, e4⟩
   ·rw [e1]
    refine ⟨of m, false, rfl, by omega, ?_⟩
    rw [e2]
   ·have vq : vdM q = true := by
      unfold vdM; rw [← e2]; exact bB hv (kA hi)
    have ek : (of m).kids[(i : Int).toNat]? = some (of q) := by
     rw [Int.toNat_natCast, cG hi, e2]
    obtain ⟨x, b, h1, h2, h3⟩ := nN z q (by omega) (n := n) (by omega) vq
    rw [e1, decide_eq_false (show ¬ (i : Int) < 0 by omega), decide_eq_true (show 0 ≤ (i : Int) by omega), ek]
    simp only [evt]
    rw [h1]
    simp only [evt]
    cases hh : hdM q with
    | none =>
     rw [hh] at h3
     have h3 : b = false := h3
     subst h3
     refine ⟨of m, false, rfl, by omega, ?_⟩
     rw [e3 hh]
    | some v =>
     rw [hh] at h3
     obtain ⟨rfl, rfl⟩ := h3
     obtain ⟨u, e5, e6⟩ := e4 v hh
     have hw := s6 (n := n) (t := of m) (u := of v) (j := i) (by omega) (by omega)
     simp only [Bool.not_true, cond_false]
     rw [hw]
     simp only [evt]
     refine ⟨.mk (of m).k (of m).n ((of m).kids.set i (of v)), true, rfl, ?_, ?_⟩
     ·rw [← e6]
      have := Fw _ rfl 400 (m := m) (by omega) hv e5
      omega
     ·rw [e5]; exact ⟨rfl, e6.symm⟩
theorem G5 {m u : Tm} (hv : vdM m = true) (e : hdM m = some u) : (of u).size ≤ 320000 := by
 have := Fw _ rfl 400 (m := m) (ae hv) hv e
 omega
theorem wx (n : Nat) (hn : 4000000 ≤ n) (k0 n0 : Int) (l0 : List T) : ∀ g c (m : Tm), g < c → g ≤ 200 → vdM m = true →
   ∃ x e, cm n c (g : Int) (of m).k (of m).n (of m).kids k0 n0 l0 = some ([tm x, nt e], []) ∧ (match hrM g m with | some h => e = 0 ∧ x = of h | none => e ≠ 0)
 | g, 0, m, hg, _, _ => by omega
 | g, c + 1, m, hg, hf, hv => by
  have hz := ae hv
  obtain ⟨x, b, h1, h2, h3⟩ := nN 400 m hz (n := n) (by omega) hv
  have hc := gh (of m) (n := n) (by omega) (by omega)
  rw [jR, h1]
  simp only [evt]
  cases hh : hdM m with
  | none =>
   rw [hh] at h3
   have h3 : b = false := h3
   subst h3
   have e1 : hrM g m = some m := by cases g <;> simp only [hrM, hh]
   rw [e1, hc]
   exact ⟨of m, 0, rfl, rfl, rfl⟩
  | some u =>
   rw [hh] at h3
   obtain ⟨rfl, rfl⟩ := h3
   have hu := G5 hv hh
   simp only [Bool.not_true, cond_false]
   cases g with
   | zero =>
    refine ⟨.mk 0 0 [], 1, rfl, ?_⟩
    simp only [hrM, hh]; decide
   | succ g =>
    rw [decide_eq_false (show ¬ ((g + 1 : Nat) : Int) < 1 by omega), aW (n := n) (t := of u) (by omega) (by omega)]
    simp only [evt, hrM, hh]
    cases hvu : vdM u with
    | false =>
     have : ak (of u) = false := hvu
     rw [this]
     refine ⟨.mk 0 0 [], 2, rfl, ?_⟩
     simp
    | true =>
     have e2 : ak (of u) = true := hvu
     have w : IntKind.i64.wrap (((g + 1 : Nat) : Int) - 1) = (g : Int) := by rw [wrap64 (by omega)]; omega
     rw [e2, w]
     simp only [Bool.not_true, cond_false, if_true]
     exact wx n hn k0 n0 l0 g c u (by omega) (by omega) hvu
theorem j0 : (T.mk 0 0 []).size ≤ 1000000 := by decide
def RS (o : OR) (r : Tm.Rs) : Prop := ∃ x c, o = some ([tm x, nt c], []) ∧ x.size ≤ 1000000 ∧ (match r with | .ok t => c = 0 ∧ x = of t | .bad => c = 1 | .opn => c = 2)
theorem mJ {n : Nat} {m : Tm} (hn : 5000000 ≤ n) (hz : (of m).size ≤ 1000000) : RS (FF n 108 [tm (of m)] []) (O.hn m) := by
 obtain ⟨n, rfl⟩ := ag (show 0 < n by omega)
 rw [tH, aW (n := n) (by omega) (by omega)]
 simp only [evt, O]
 cases hv : vdM m with
 | false =>
  have : ak (of m) = false := hv
  rw [this]
  exact ⟨.mk 0 0 [], 2, rfl, j0, rfl⟩
 | true =>
  have e : ak (of m) = true := hv
  rw [e]
  simp only [Bool.not_true, cond_false, if_true]
  obtain ⟨n, rfl⟩ := ag (show 0 < n by omega)
  rw [uP]
  obtain ⟨x, c, h1, h2⟩ := wx n (by omega) 0 0 [] 200 n m (by omega) (by omega) hv
  have h1 : cm n n 200 (of m).k (of m).n (of m).kids 0 0 [] = some ([tm x, nt c], []) := h1
  rw [h1]
  simp only [evt]
  cases hr : hrM 200 m with
  | none =>
   rw [hr] at h2
   rw [decide_eq_false h2]
   exact ⟨.mk 0 0 [], 2, rfl, j0, rfl⟩
  | some h =>
   rw [hr] at h2
   obtain ⟨rfl, rfl⟩ := h2
   have := ae (Fz hr hv).2.2
   exact ⟨of h, 0, rfl, by omega, rfl, rfl⟩
theorem uB {n : Nat} (hn : 4000000 ≤ n) {t : T} (hv : ak t = true) {w : List Nat} (ho : CT t w) (hr : Rx (atT t w)) (hwl : w.length ≤ t.size) {u : T} (hu : puT t w (aD (atT t w)) = u) :
   FF n 112 [tm t, .one (.fr (.is (ins w)))] [] = some ([tm (okT u), bl (ak u)], []) := by
 subst hu
 have hz := ae hv
 have va := oT ho hv
 have hcz := kf va hr
 obtain ⟨n, rfl⟩ := ag (show 0 < n by omega)
 rw [iM]
 simp only [evt, ME (n := n) (by omega) (by omega) ho, sx (n := n) (by omega) va hr]
 cases hc : ak (aD (atT t w)) with
 | false =>
  have : ak (puT t w (aD (atT t w))) = false := by
   cases hp : ak (puT t w (aD (atT t w))) with
   | false => rfl
   | true => rw [pN ho hp] at hc; cases hc
  simp only [Bool.not_false, cond_true, this, EZ this]; rfl
 | true =>
  have hp := oZ (u := aD (atT t w)) ho
  have hov := dt (n := n) (t := puT t w (aD (atT t w))) (by omega) (by omega)
  simp only [Bool.not_true, cond_false, cE hc, IM (aD (atT t w)) w (n := n) (by omega) (by omega) (by omega) ho, evt, hov]
theorem Fv {m : Tm} : (of m).k = 5 ∨ (of m).k = 15 ∨ (of m).k = 16 ∨ (of m).k = 9 ∨ (of m).k = 12 ∨ mnT (of m).k = -1 := by
 unfold mnT
 by_cases h1 : (of m).k = 5
 ·exact .inl h1
 by_cases h2 : (of m).k = 15
 ·exact .inr (.inl h2)
 by_cases h3 : (of m).k = 16
 ·exact .inr (.inr (.inl h3))
 by_cases h4 : (of m).k = 9
 ·exact .inr (.inr (.inr (.inl h4)))
 by_cases h5 : (of m).k = 12
 ·exact .inr (.inr (.inr (.inr (.inl h5))))
 ·rw [if_neg (by omega), if_neg h5, if_neg h4]; exact .inr (.inr (.inr (.inr (.inr rfl))))
theorem Hr : ∀ (z : Nat) (m : Tm), (of m).size ≤ z → ∀ {n : Nat}, 500 + z ≤ n → vdM m = true →
   ∃ w b, FF n 178 [tm (of m)] [] = some ([.one (.fr (.is (ins w))), bl b], []) ∧ w.length ≤ (of m).size ∧ (match hdM m with | some u => b = true ∧ CT (of m) w ∧ Rx (atT (of m) w) ∧ puT (of m) w (aD (atT (of m) w)) = of u | none => b = false)
 | 0, m, hz, n, hn, hv => by have := size_pos (of m); omega
 | z + 1, m, hz, n, hn, hv => by
  obtain ⟨n, rfl⟩ := ag (show 0 < n by omega)
  have hs := ae hv
  rw [yO, uN (n := n) (by omega) hv]
  simp only [evt]
  by_cases hr : Rx (of m)
  ·obtain ⟨u, e1, e2⟩ := FA hr
   have := (pn (of m)).2 hr
   rw [decide_eq_false this]
   refine ⟨[], true, rfl, by simp, ?_⟩
   rw [e1]; exact ⟨rfl, trivial, hr, e2⟩
  ·have : bE (of m) = 0 := Classical.byContradiction fun h => hr ((pn (of m)).1 h)
   rw [this]
   simp only [evt]
   rcases DI hr with ⟨e1, e2⟩ | ⟨i, q, e1, hi, e2, hq, e3, e4⟩
   ·have hk : (of m).k ≠ 5 ∧ (of m).k ≠ 15 ∧ (of m).k ≠ 16 ∧ (of m).k ≠ 9 ∧ (of m).k ≠ 12 := by
      refine ⟨?_, ?_, ?_, ?_, ?_⟩ <;> intro hk <;> rw [hk] at e1 <;> exact absurd e1 (by decide)
    rw [decide_eq_false hk.1, decide_eq_false hk.2.1, decide_eq_false hk.2.2.1, decide_eq_false hk.2.2.2.1, decide_eq_false hk.2.2.2.2]
    refine ⟨[], false, rfl, by simp, ?_⟩
    rw [e2]
   ·have vq : vdM q = true := by
      unfold vdM; rw [← e2]; exact bB hv (kA hi)
    have ek : (of m).kids[i]? = some (of q) := by rw [cG hi, e2]
    obtain ⟨w, b, h1, hw, h3⟩ := Hr z q (by omega) (n := n) (by omega) vq
    have wl : cn ([(i : Int)] ++ ins w).length = true := aL (by simp [ins]; omega)
    have go : ∃ w' b', some ([.one (.fr (.is ([(i : Int)] ++ ins w))), bl b], []) = (some ([.one (.fr (.is (ins w'))), bl b'], []) : OR) ∧ w'.length ≤ (of m).size ∧ (match hdM m with | some u => b' = true ∧ CT (of m) w' ∧ Rx (atT (of m) w') ∧ puT (of m) w' (aD (atT (of m) w')) = of u | none => b' = false) := by
     refine ⟨i :: w, b, rfl, by simp only [List.length_cons]; omega, ?_⟩
     cases hh : hdM q with
     | none =>
      rw [hh] at h3
      rw [e3 hh]; exact h3
     | some v =>
      rw [hh] at h3
      obtain ⟨u, e5, e6⟩ := e4 v hh
      rw [e5]
      obtain ⟨g1, g2, g3, g4⟩ := h3
      refine ⟨g1, ⟨hi, by rw [e2]; exact g2⟩, by show Rx (atT (kd (of m) i) w); rw [e2]; exact g3, ?_⟩
      show T.mk (of m).k (of m).n ((of m).kids.set i (puT (kd (of m) i) w (aD (atT (kd (of m) i) w)))) = of u
      rw [e2, g4, e6]
    rcases Fv (m := m) with hk | hk | hk | hk | hk | hk
    ·rw [hk] at e1 ⊢
     obtain rfl : i = 0 := by have : (0 : Int) = i := e1; omega
     simp only [decide_true, cond_true, show (0 : Int).toNat = 0 from rfl, ek, evt, h1]
     rw [show ([0] ++ ins w : List Int) = [((0 : Nat) : Int)] ++ ins w from rfl, wl]
     exact go
    ·rw [hk] at e1 ⊢
     obtain rfl : i = 0 := by have : (0 : Int) = i := e1; omega
     simp only [show decide ((15 : Int) = 5) = false from rfl, cond_false, decide_true, cond_true, show (0 : Int).toNat = 0 from rfl, ek, evt, h1]
     rw [show ([0] ++ ins w : List Int) = [((0 : Nat) : Int)] ++ ins w from rfl, wl]
     exact go
    ·rw [hk] at e1 ⊢
     obtain rfl : i = 0 := by have : (0 : Int) = i := e1; omega
     simp only [show decide ((16 : Int) = 5) = false from rfl, show decide ((16 : Int) = 15) = false from rfl, cond_false, decide_true, cond_true, show (0 : Int).toNat = 0 from rfl, ek, evt, h1]
     rw [show ([0] ++ ins w : List Int) = [((0 : Nat) : Int)] ++ ins w from rfl, wl]
     exact go
    ·rw [hk] at e1 ⊢
     obtain rfl : i = 3 := by have : (3 : Int) = i := e1; omega
     simp only [show decide ((9 : Int) = 5) = false from rfl, show decide ((9 : Int) = 15) = false from rfl, show decide ((9 : Int) = 16) = false from rfl, cond_false, decide_true, cond_true, show (3 : Int).toNat = 3 from rfl, ek, evt, h1]
     rw [show ([3] ++ ins w : List Int) = [((3 : Nat) : Int)] ++ ins w from rfl, wl]
     exact go
    ·rw [hk] at e1 ⊢
     obtain rfl : i = 1 := by have : (1 : Int) = i := e1; omega
     simp only [show decide ((12 : Int) = 5) = false from rfl, show decide ((12 : Int) = 15) = false from rfl, show decide ((12 : Int) = 16) = false from rfl, show decide ((12 : Int) = 9) = false from rfl, cond_false, decide_true, cond_true, show (1 : Int).toNat = 1 from rfl, ek, evt, h1]
     rw [show ([1] ++ ins w : List Int) = [((1 : Nat) : Int)] ++ ins w from rfl, wl]
     exact go
    ·rw [hk] at e1; omega
theorem vv (n : Nat) (hn : 5000000 ≤ n) (fuel : Nat) (hf : fuel ≤ 200) (k0 n0 : Int) (l0 : List T) : ∀ g c (s : Nat) (m : Tm), g < c → s + g = fuel → vdM m = true →
   ∃ x k e, bm n c (fuel : Int) s (of m).k (of m).n (of m).kids k0 n0 l0 = some ([tm x, nt k, nt e], []) ∧ (match hrM g m with | some h => e = 0 ∧ x = of h | none => e ≠ 0)
 | g, 0, s, m, hg, _, _ => by omega
 | g, c + 1, s, m, hg, hs, hv => by
  have hz := ae hv
  obtain ⟨w, b, h1, hw, h3⟩ := Hr 400 m hz (n := n) (by omega) hv
  rw [fl, h1]
  simp only [evs]
  cases hh : hdM m with
  | none =>
   rw [hh] at h3
   have h3 : b = false := h3
   subst h3
   have e1 : hrM g m = some m := by cases g <;> simp only [hrM, hh]
   rw [e1]
   simp only [Bool.not_false, cond_true, CG (of m) (n := n) (by omega) (by omega), evt]
   exact ⟨of m, s, 0, rfl, rfl, rfl⟩
  | some u =>
   rw [hh] at h3
   obtain ⟨rfl, ho, hr, hp⟩ := h3
   simp only [Bool.not_true, cond_false]
   cases g with
   | zero =>
    rw [decide_eq_true (show (s : Int) = fuel by omega)]
    refine ⟨.mk 0 0 [], s, 1, rfl, ?_⟩
    simp only [hrM, hh]; decide
   | succ g =>
    rw [decide_eq_false (show ¬ (s : Int) = fuel by omega), uB (n := n) (by omega) hv ho hr hw hp]
    simp only [evt, hrM, hh]
    cases hvu : vdM u with
    | false =>
     have : ak (of u) = false := hvu
     rw [this]
     refine ⟨.mk 0 0 [], s, 2, rfl, ?_⟩
     simp
    | true =>
     have e2 : ak (of u) = true := hvu
     simp (disch := omega) only [e2, cE e2, Bool.not_true, cond_false, if_true, wrap64, gx]
     exact vv n hn fuel hf k0 n0 l0 g c (s + 1) u (by omega) (by omega) hvu
theorem xr {n : Nat} {m : Tm} (hn : 6000000 ≤ n) (hz : (of m).size ≤ 400) : ∃ x e, FF n 158 [tm (of m), nt 200] [] = some ([tm x, nt e], []) ∧ (match O.hn m with | .ok h => e = 0 ∧ x = of h | _ => e ≠ 0) := by
 obtain ⟨n, rfl⟩ := ag (show 0 < n by omega)
 obtain ⟨n, rfl⟩ := ag (show 0 < n by omega)
 rw [mZ, je, aX (n := n) (by omega)]
 simp only [evt, O]
 cases hv : vdM m with
 | false =>
  have : ak (of m) = false := hv
  rw [this]
  exact ⟨.mk 0 0 [], 3, rfl, by show (3 : Int) ≠ 0; decide⟩
 | true =>
  have e : ak (of m) = true := hv
  rw [e, gu (n := n) (by omega)]
  simp only [evt, show (decide ((0 : Int) ≤ 200) && decide ((200 : Int) ≤ 200)) = true from rfl, if_true]
  obtain ⟨x, k, c, h1, h2⟩ := vv n (by omega) 200 (by omega) 0 0 [] 200 n 0 m (by omega) (by omega) hv
  have h1 : bm n n 200 0 (of m).k (of m).n (of m).kids 0 0 [] = some ([tm x, nt k, nt c], []) := h1
  rw [h1]
  simp only [evt]
  cases hr : hrM 200 m with
  | none => rw [hr] at h2; exact ⟨x, c, rfl, h2⟩
  | some h => rw [hr] at h2; exact ⟨x, c, rfl, h2⟩
end Go.Proofs.YtajlknlnmmbfcaaGreat
end
section
namespace Go.Proofs.YtajlknlnmmbfcaaGreat
open Go Go.Ab Go.Dk
open Tm (Rs sq frm lvl chk fam bnd)
def cx (G : List Tm) : List T := (G.map of).reverse
theorem bO (G : List Tm) : (cx G).length = G.length := by simp [cx]
theorem qy (G : List Tm) (a : Tm) : cx (a :: G) = cx G ++ [of a] := by simp [cx]
theorem HQ : ∀ (G : List Tm) {n : Nat}, n < G.length → (cx G)[G.length - 1 - n]? = (G[n]?).map of := by
 intro G n h
 unfold cx
 rw [List.getElem?_reverse (by simp; omega), List.length_map, List.getElem?_map]
 congr 2; omega
theorem oI : ∀ {G : List Tm} {n : Nat} {A : Tm}, Tm.look G n = some A → ∃ B, G[n]? = some B ∧ A = B.ren (· + (n + 1))
 | B :: G, 0, A, h => by
  simp only [Tm.look, Option.some.injEq] at h; subst h
  exact ⟨B, rfl, rfl⟩
 | _ :: G, n + 1, A, h => by
  obtain ⟨C, hC, rfl⟩ := Option.map_eq_some_iff.1 h
  obtain ⟨B, h1, rfl⟩ := oI hC
  refine ⟨B, h1, ?_⟩
  rw [Tm.wk, Tm.fP]; rfl
theorem p7 : ∀ {G : List Tm} {n : Nat}, Tm.look G n = none → G.length ≤ n
 | [], n, h => by simp
 | B :: G, 0, h => by cases h
 | _ :: G, n + 1, h => by
  have : Tm.look G n = none := by
   cases hl : Tm.look G n with
   | none => rfl
   | some A => simp [Tm.look, hl] at h
  have := p7 this
  simp only [List.length_cons]; omega
theorem Ei {G : List Tm} {n : Nat} {A : Tm} (h : Tm.look G n = some A) : n < G.length := by
 obtain ⟨B, h, _⟩ := oI h
 exact (List.getElem?_eq_some_iff.1 h).1
def Er (c : Int) (r : Rs) : Prop := (c = 1 ∧ r = .bad) ∨ (c = 2 ∧ r = .opn)
theorem Er.ne {c : Int} {r : Rs} (h : Er c r) : c ≠ 0 := by rcases h with ⟨h, _⟩ | ⟨h, _⟩ <;> omega
theorem Er.bad : Er 1 .bad := .inl ⟨rfl, rfl⟩
theorem Er.opn : Er 2 .opn := .inr ⟨rfl, rfl⟩
def RL (o : OR) (r : Rs) : Prop := ∃ i c, o = some ([nt i, nt c], []) ∧ (match r with | .ok t => c = 0 ∧ ∃ k : Nat, t = .sort k ∧ i = k | .bad => c = 1 | .opn => c = 2)
def RC (o : OR) (r : Rs) : Prop := ∃ c, o = some ([nt c], []) ∧ (match r with | .ok t => c = 0 | .bad => c = 1 | .opn => c = 2)
def RK (o : OR) (r : Rs) : Prop := ∃ x c, o = some ([tm x, nt c], []) ∧ x.size ≤ 2000000 ∧ (match r with | .ok t => c = 0 ∧ x = of t | .bad => c = 1 | .opn => c = 2)
theorem b8 {c : Int} {r : Rs} (h : Er c r) (y : T) (hy : y.size ≤ 2000000) : RK (some ([tm y, nt c], [])) r := by
 refine ⟨y, c, rfl, hy, ?_⟩
 rcases h with ⟨h, rfl⟩ | ⟨h, rfl⟩ <;> exact h
theorem p6 {c : Int} {r : Rs} (h : Er c r) (y : T) (hy : y.size ≤ 1000000) : RS (some ([tm y, nt c], [])) r := by
 refine ⟨y, c, rfl, hy, ?_⟩
 rcases h with ⟨h, rfl⟩ | ⟨h, rfl⟩ <;> exact h
theorem xC {c : Int} {r : Rs} (h : Er c r) : RC (some ([nt c], [])) r := by
 refine ⟨c, rfl, ?_⟩
 rcases h with ⟨h, rfl⟩ | ⟨h, rfl⟩ <;> exact h
theorem HC {c : Int} {r : Rs} (h : Er c r) (i : Int) : RL (some ([nt i, nt c], [])) r := by
 refine ⟨i, c, rfl, ?_⟩
 rcases h with ⟨h, rfl⟩ | ⟨h, rfl⟩ <;> exact h
theorem j1 : (T.mk 0 0 []).size ≤ 2000000 := by decide
theorem lG {x : Option Rs} {o : OR} {k : Tm → Option Rs} {r : Rs} (h : ∀ r, x = some r → RS o r) (e : sq x k = some r) : (∃ t, x = some (.ok t) ∧ o = some ([tm (of t), nt 0], []) ∧ k t = some r) ∨ ∃ y c, o = some ([tm y, nt c], []) ∧ Er c r := by
 cases x with
 | none => cases e
 | some s =>
  obtain ⟨y, c, h1, hy, h2⟩ := h s rfl
  cases s with
  | ok t => obtain ⟨rfl, rfl⟩ := h2; exact .inl ⟨t, rfl, h1, e⟩
  | bad => cases e; exact .inr ⟨y, c, h1, .inl ⟨h2, rfl⟩⟩
  | opn => cases e; exact .inr ⟨y, c, h1, .inr ⟨h2, rfl⟩⟩
theorem KG {x : Option Rs} {o : OR} {k : Tm → Option Rs} {r : Rs} (h : ∀ r, x = some r → RS o r) (e : sq x k = some r) : (∃ t, x = some (.ok t) ∧ o = some ([tm (of t), nt 0], []) ∧ k t = some r) ∨ ∃ y c, o = some ([tm y, nt c], []) ∧ y.size ≤ 1000000 ∧ Er c r := by
 cases x with
 | none => cases e
 | some s =>
  obtain ⟨y, c, h1, hy, h2⟩ := h s rfl
  cases s with
  | ok t => obtain ⟨rfl, rfl⟩ := h2; exact .inl ⟨t, rfl, h1, e⟩
  | bad => cases e; exact .inr ⟨y, c, h1, hy, .inl ⟨h2, rfl⟩⟩
  | opn => cases e; exact .inr ⟨y, c, h1, hy, .inr ⟨h2, rfl⟩⟩
theorem BP {x : Option Rs} {o : OR} {k : Tm → Option Rs} {r : Rs} (h : ∀ r, x = some r → RL o r) (e : sq x k = some r) : (∃ i : Nat, x = some (.ok (.sort i)) ∧ o = some ([nt i, nt 0], []) ∧ k (.sort i) = some r) ∨ ∃ i c, o = some ([nt i, nt c], []) ∧ Er c r := by
 cases x with
 | none => cases e
 | some s =>
  obtain ⟨y, c, h1, h2⟩ := h s rfl
  cases s with
  | ok t => obtain ⟨rfl, k, rfl, rfl⟩ := h2; exact .inl ⟨k, rfl, h1, e⟩
  | bad => cases e; exact .inr ⟨y, c, h1, .inl ⟨h2, rfl⟩⟩
  | opn => cases e; exact .inr ⟨y, c, h1, .inr ⟨h2, rfl⟩⟩
theorem lO {x : Option Rs} {o : OR} {k : Tm → Option Rs} {r : Rs} (h : ∀ r, x = some r → RC o r) (e : sq x k = some r) : (∃ t, x = some (.ok t) ∧ o = some ([nt 0], []) ∧ k t = some r) ∨ ∃ c, o = some ([nt c], []) ∧ Er c r := by
 cases x with
 | none => cases e
 | some s =>
  obtain ⟨c, h1, h2⟩ := h s rfl
  cases s with
  | ok t => have h2 : c = 0 := h2; subst h2; exact .inl ⟨t, rfl, h1, e⟩
  | bad => cases e; exact .inr ⟨c, h1, .inl ⟨h2, rfl⟩⟩
  | opn => cases e; exact .inr ⟨c, h1, .inr ⟨h2, rfl⟩⟩
theorem yV {o : OR} {P : OR → Rs → Prop} {s : Rs} (h : P o s) : ∀ r, some s = some r → P o r := fun r e => by cases e; exact h
def Iv (f : FuncId) (M : Nat) (c : List T) (t : T) (x : Option Rs) : Prop := ∀ m, M ≤ m → ∀ r, x = some r → RS (FF m f [tms c, tm t] []) r
theorem Ak {n : Nat} {a b : Tm} (hn : 6000500 ≤ n) (ha : (of a).size ≤ 1000000) (hb : (of b).size ≤ 1000000) : RC (FF n 115 [tm (of a), tm (of b)] []) (O.sm a b) := by
 obtain ⟨n, rfl⟩ := ag (show 0 < n by omega)
 rw [tF, aW (n := n) (t := of a) (by omega) (by omega)]
 simp only [evt, O]
 cases va : vdM a with
 | false =>
  have : ak (of a) = false := va
  rw [this]; exact ⟨2, rfl, rfl⟩
 | true =>
  have ea : ak (of a) = true := va
  rw [ea, aW (n := n) (t := of b) (by omega) (by omega)]
  simp only [evt]
  cases vb : vdM b with
  | false =>
   have : ak (of b) = false := vb
   rw [this]; exact ⟨2, rfl, rfl⟩
  | true =>
   have eb : ak (of b) = true := vb
   have hc := GM (n := n) (a := of a) (b := of b) (g := 200) (by omega) ea eb (by omega)
   have hc : FF n 153 [tm (of a), tm (of b), nt 200] [] = some ([nt (iE (of a) (of b) 200)], []) := hc
   rw [eb]
   simp only [Bool.not_true, cond_false]
   rw [hc]
   simp only [evt, and_self, if_true, az]
   by_cases h1 : iE (of a) (of b) 200 = 1
   ·rw [if_pos h1, if_pos h1]; exact ⟨0, rfl, rfl⟩
   ·rw [if_neg h1, if_neg h1]
    by_cases h2 : iE (of a) (of b) 200 = 2
    ·rw [if_pos h2, if_pos h2]; exact ⟨1, rfl, rfl⟩
    ·rw [if_neg h2, if_neg h2]; exact ⟨2, rfl, rfl⟩
section
variable {M n : Nat} {c : List T} {t : T} {x : Option Rs}
theorem jP (hM : 6000500 ≤ M) (hn : M + 1 ≤ n) (h : Iv 74 M c t x) (hv : ∀ s, x = some (.ok s) → vdM s = true) (k : Int) {g : Tm → Option Rs} {r : Rs} (e : sq (frm O x) g = some r) :
   (∃ f, FF n 167 [tms c, tm t, nt k] [] = some ([tm (of f), nt 0], []) ∧ (of f).k = k ∧ vdM f = true ∧ frm O x = some (.ok f) ∧ g f = some r) ∨ (∃ f, FF n 167 [tms c, tm t, nt k] [] = some ([tm (.mk 0 0 []), nt 1], []) ∧ (of f).k ≠ k ∧ g f = some r) ∨
    ∃ y c', FF n 167 [tms c, tm t, nt k] [] = some ([tm y, nt c'], []) ∧ Er c' r := by
 obtain ⟨n, rfl⟩ := ag (show 0 < n by omega)
 unfold frm at e ⊢
 rw [Tm.a8] at e
 rw [q9]
 rcases lG (h n (by omega)) e with ⟨s, e1, eo, e2⟩ | ⟨y, c', eo, hc⟩
 ·rw [eo]
  simp only [evt]
  have hs := ae (hv s e1)
  rcases lG (yV (P := RS) (mJ (n := n) (m := s) (by omega) (by omega))) e2 with ⟨f, e3, eo, e4⟩ | ⟨y, c', eo, hc⟩
  ·rw [eo]
   simp only [evt]
   have vf := (aH.hn_ok (Option.some.inj e3)).2.2
   by_cases hk : (of f).k = k
   ·rw [decide_eq_true hk]
    refine .inl ⟨f, rfl, hk, vf, ?_, e4⟩
    rw [e1]; exact e3
   ·rw [decide_eq_false hk]
    exact .inr (.inl ⟨f, rfl, hk, e4⟩)
  ·rw [eo]
   simp only [evt]
   rw [decide_eq_false hc.ne]
   exact .inr (.inr ⟨.mk 0 0 [], c', rfl, hc⟩)
 ·rw [eo]
  simp only [evt]
  rw [decide_eq_false hc.ne]
  exact .inr (.inr ⟨.mk 0 0 [], c', rfl, hc⟩)
theorem ic (hM : 6000500 ≤ M) (hn : M + 1 ≤ n) (h : Iv 74 M c t x) (hv : ∀ s, x = some (.ok s) → vdM s = true) : ∀ r, lvl O x = some r → RL (FF n 72 [tms c, tm t] []) r := by
 intro r e
 obtain ⟨n, rfl⟩ := ag (show 0 < n by omega)
 unfold lvl frm at e
 rw [Tm.a8] at e
 rw [lJ]
 rcases lG (h n (by omega)) e with ⟨s, e1, eo, e2⟩ | ⟨y, c', eo, hc⟩
 ·rw [eo]
  simp only [evt]
  have hs := ae (hv s e1)
  rcases lG (yV (P := RS) (mJ (n := n) (m := s) (by omega) (by omega))) e2 with ⟨f, e3, eo, e4⟩ | ⟨y, c', eo, hc⟩
  ·rw [eo]
   simp only [evt]
   cases f with
   | sort i => cases e4; exact ⟨i, 0, rfl, rfl, i, rfl, rfl⟩
   | _ => cases e4; exact ⟨0, 1, rfl, rfl⟩
  ·rw [eo]
   simp only [evt]
   rw [decide_eq_false hc.ne]
   exact HC hc 0
 ·rw [eo]
  simp only [evt]
  rw [decide_eq_false hc.ne]
  exact HC hc 0
theorem dk (hM : 6000500 ≤ M) (hn : M + 1 ≤ n) (h : Iv 74 M c t x) (hv : ∀ s, x = some (.ok s) → vdM s = true) {w : Tm} (hw : (of w).size ≤ 1000000) : ∀ r, chk O x w = some r → RC (FF n 85 [tms c, tm t, tm (of w)] []) r := by
 intro r e
 obtain ⟨n, rfl⟩ := ag (show 0 < n by omega)
 rw [rp]
 rcases lG (h n (by omega)) e with ⟨s, e1, eo, e2⟩ | ⟨y, c', eo, hc⟩
 ·rw [eo]
  simp only [evt]
  have hs := ae (hv s e1)
  cases e2
  obtain ⟨c', h1, h2⟩ := Ak (n := n) (a := s) (b := w) (by omega) (by omega) hw
  rw [h1]
  exact ⟨c', rfl, h2⟩
 ·rw [eo]
  simp only [evt]
  rw [decide_eq_false hc.ne]
  exact xC hc
theorem rP (hM : 6000500 ≤ M) (hn : M + 2 ≤ n) (h : Iv 74 M c t x) (hv : ∀ s, x = some (.ok s) → vdM s = true) {w : Tm} (hw : (of w).size ≤ 1000000) : ∀ r, fam O x w = some r → RC (FF n 169 [tms c, tm t, tm (of w)] []) r := by
 intro r e
 obtain ⟨n, rfl⟩ := ag (show 0 < n by omega)
 rw [pS]
 rcases jP hM (n := n) (by omega) h hv 3 e with ⟨f, eo, hk, vf, ef, e2⟩ | ⟨f, eo, hk, e2⟩ | ⟨y, c', eo, hc⟩
 ·rw [eo]
  cases f <;> try (rw [iw] at hk; simp only [Int.reduceEq] at hk; done)
  rename_i C D
  have sz := ae vf
  simp only [of, T.size, T.aE] at sz
  simp only [evt, of, show (0 : Int).toNat = 0 from rfl, show (1 : Int).toNat = 1 from rfl, List.getElem?_cons_zero, List.getElem?_cons_succ]
  rcases lO (yV (P := RC) (Ak (n := n) (a := C) (b := w) (by omega) (by omega) hw)) e2 with ⟨t', e3, eo, e4⟩ | ⟨c', eo, hc⟩
  ·rw [eo]
   simp only [evt]
   rcases lG (yV (P := RS) (mJ (n := n) (m := D) (by omega) (by omega))) e4 with ⟨f, e5, eo, e6⟩ | ⟨y, c', eo, hc⟩
   ·rw [eo]
    simp only [evt]
    cases f with
    | sort i => cases e6; exact ⟨0, rfl, rfl⟩
    | _ => cases e6; exact ⟨1, rfl, rfl⟩
   ·rw [eo]
    simp only [evt]
    rw [decide_eq_false hc.ne]
    exact xC hc
  ·rw [eo]
   simp only [evt]
   rw [decide_eq_false hc.ne]
   exact xC hc
 ·rw [eo]
  simp only [evt]
  have : r = .bad := by
   cases f <;> first | (exact absurd (iw _) hk) | (cases e2; rfl)
  subst this
  exact xC .bad
 ·rw [eo]
  simp only [evt]
  rw [decide_eq_false hc.ne]
  exact xC hc
end
theorem Cn {n : Nat} (hn : 1 ≤ n) (a b : Nat) : FF n 166 [nt a, nt b] [] = some ([nt ((max a b : Nat) : Int)], []) := by
 obtain ⟨n, rfl⟩ := ag (show 0 < n by omega)
 rw [pW]
 by_cases h : (b : Int) < a
 ·rw [decide_eq_true h, Nat.max_eq_left (by omega)]; rfl
 ·rw [decide_eq_false h, Nat.max_eq_right (by omega)]; rfl
theorem BA {n : Nat} (hn : 1 ≤ n) (c : List T) (t : T) (hl : c.length ≤ 1000) : FF n 165 [tms c, tm t] [] = some ([tms (c ++ [t])], []) := by
 obtain ⟨n, rfl⟩ := ag (show 0 < n by omega)
 rw [tD, aL (by simp; omega), aL (by simp; omega), T.eta]; rfl
theorem wz {m : Tm} (h : vdM m = true) : gdB (of m) = true := fE h
theorem C2 {n : Nat} {b u : Tm} (hn : 5000 ≤ n) (hb : vdM b = true) (hu : vdM u = true) : FF n 168 [tm (of b), nt 0, tm (of u), nt 0] [] = some ([tm (of (b.inst u))], []) := by
 have h1 := ae hb
 have h2 := ae hu
 rw [vR (of u) (wz hu) (by omega) (of b) (by omega) (wz hb) 0 0 (by omega) (by omega) (by omega) (by omega), ld]
theorem iF {b u : Tm} (hb : vdM b = true) (hu : vdM u = true) : (of (b.inst u)).size ≤ 160000 := by
 have h1 := ae hb
 have h2 := ae hu
 rw [← ld]
 exact Nat.le_trans (tL (of u) (of b) 0 0) (Nat.mul_le_mul h1 h2)
theorem tg {n : Nat} {b : Tm} {a : Nat} (hn : 5000 ≤ n) (hb : vdM b = true) (ha : a ≤ 100) : FF n 83 [tm (of b), nt (a : Int), nt 0] [] = some ([tm (of (b.ren (· + a)))], []) := by
 have h1 := ae hb
 rw [vn (a : Int) (by omega) (of b) (by omega) (wz hb) 0 (by omega) (by omega)]
 have := Co a b 0
 rw [kq] at this
 rw [← this]; rfl
theorem wN {p : Tm} (hp : vdM p = true) : (of (Tm.bc p)).size ≤ 1000 := by
 have h1 := ae hp
 have e : ∀ t : Tm, (of t.wk).size = (of t).size := fun t => by rw [← KX, m5]
 simp only [Tm.bc, of, T.size, T.aE, e]; omega
theorem xu {n : Nat} {p : Tm} (hn : 6000 ≤ n) (hp : vdM p = true) : FF n 170 [tm (of p)] [] = some ([tm (of (Tm.bc p))], []) := by
 obtain ⟨n, rfl⟩ := ag (show 0 < n by omega)
 have s1 := tg (n := n) (a := 1) (by omega) hp (by omega)
 have s2 := tg (n := n) (a := 2) (by omega) hp (by omega)
 have s1 : FF n 83 [tm (of p), nt 1, nt 0] [] = some ([tm (of (p.ren (· + 1)))], []) := s1
 have s2 : FF n 83 [tm (of p), nt 2, nt 0] [] = some ([tm (of (p.ren (· + 2)))], []) := s2
 have e2 : p.wk.wk = p.ren (· + 2) := by rw [Tm.wk, Tm.wk, Tm.fP]
 rw [nj, s1, s2]
 simp (disch := first | omega | simp) only [evt, cd, cr, Tm.bc, of, e2]
 rfl
theorem qH (a : T) (l : List T) : (a :: l)[(0 : Int).toNat]? = some a := rfl
theorem rB (a b : T) (l : List T) : (a :: b :: l)[(1 : Int).toNat]? = some b := rfl
theorem I5 (a b d : T) (l : List T) : (a :: b :: d :: l)[(2 : Int).toNat]? = some d := rfl
theorem MK (a b d e : T) (l : List T) : (a :: b :: d :: e :: l)[(3 : Int).toNat]? = some e := rfl
end Go.Proofs.YtajlknlnmmbfcaaGreat
end
section
namespace Go.Proofs.YtajlknlnmmbfcaaGreat
open Go Go.Ab Go.Dk
open Tm (Rs sq frm lvl chk fam made ext inI kI)
abbrev hp (c : List T) (t : T) : List av := [.cells [.fr (.ts c)], .cells [.int .i64 t.k, .int .i64 t.n, .fr (.ts t.kids)]]
abbrev jd (c : List T) (t : T) : V1 := .agg [.fr (.ts c), .int .i64 t.k, .int .i64 t.n, .fr (.ts t.kids), .fn 98 [0, 1]]
def RSh (h : List av) (o : OR) (r : Rs) : Prop := ∃ x c, o = some ([tm x, nt c], h) ∧ (match r with | .ok t => c = 0 ∧ x = of t | .bad => c = 1 | .opn => c = 2)
def RLh (h : List av) (o : OR) (r : Rs) : Prop := ∃ i c, o = some ([nt i, nt c], h) ∧ (match r with | .ok t => c = 0 ∧ ∃ k : Nat, t = .sort k ∧ i = k | .bad => c = 1 | .opn => c = 2)
def RCh (h : List av) (o : OR) (r : Rs) : Prop := ∃ c, o = some ([nt c], h) ∧ (match r with | .ok t => c = 0 | .bad => c = 1 | .opn => c = 2)
section
variable {h : List av} {c : Int} {r : Rs} {x : Option Rs} {o : OR} {k : Tm → Option Rs}
theorem a6 (e : Er c r) (y : T) : RSh h (some ([tm y, nt c], h)) r := by
 refine ⟨y, c, rfl, ?_⟩
 rcases e with ⟨h, rfl⟩ | ⟨h, rfl⟩ <;> exact h
theorem tc (e : Er c r) : RCh h (some ([nt c], h)) r := by
 refine ⟨c, rfl, ?_⟩
 rcases e with ⟨h, rfl⟩ | ⟨h, rfl⟩ <;> exact h
theorem ur (e : Er c r) (i : Int) : RLh h (some ([nt i, nt c], h)) r := by
 refine ⟨i, c, rfl, ?_⟩
 rcases e with ⟨h, rfl⟩ | ⟨h, rfl⟩ <;> exact h
theorem sE (hh : ∀ r, x = some r → RSh h o r) (e : sq x k = some r) : (∃ t, x = some (.ok t) ∧ o = some ([tm (of t), nt 0], h) ∧ k t = some r) ∨ ∃ y c, o = some ([tm y, nt c], h) ∧ Er c r := by
 cases x with
 | none => cases e
 | some s =>
  obtain ⟨y, c, h1, h2⟩ := hh s rfl
  cases s with
  | ok t => obtain ⟨rfl, rfl⟩ := h2; exact .inl ⟨t, rfl, h1, e⟩
  | bad => cases e; exact .inr ⟨y, c, h1, .inl ⟨h2, rfl⟩⟩
  | opn => cases e; exact .inr ⟨y, c, h1, .inr ⟨h2, rfl⟩⟩
theorem sA (hh : ∀ r, x = some r → RLh h o r) (e : sq x k = some r) : (∃ i : Nat, x = some (.ok (.sort i)) ∧ o = some ([nt i, nt 0], h) ∧ k (.sort i) = some r) ∨ ∃ i c, o = some ([nt i, nt c], h) ∧ Er c r := by
 cases x with
 | none => cases e
 | some s =>
  obtain ⟨y, c, h1, h2⟩ := hh s rfl
  cases s with
  | ok t => obtain ⟨rfl, k, rfl, rfl⟩ := h2; exact .inl ⟨k, rfl, h1, e⟩
  | bad => cases e; exact .inr ⟨y, c, h1, .inl ⟨h2, rfl⟩⟩
  | opn => cases e; exact .inr ⟨y, c, h1, .inr ⟨h2, rfl⟩⟩
theorem jn (hh : ∀ r, x = some r → RCh h o r) (e : sq x k = some r) : (∃ t, x = some (.ok t) ∧ o = some ([nt 0], h) ∧ k t = some r) ∨ ∃ c, o = some ([nt c], h) ∧ Er c r := by
 cases x with
 | none => cases e
 | some s =>
  obtain ⟨c, h1, h2⟩ := hh s rfl
  cases s with
  | ok t => have h2 : c = 0 := h2; subst h2; exact .inl ⟨t, rfl, h1, e⟩
  | bad => cases e; exact .inr ⟨c, h1, .inl ⟨h2, rfl⟩⟩
  | opn => cases e; exact .inr ⟨c, h1, .inr ⟨h2, rfl⟩⟩
end
theorem AB {n : Nat} (hn : 1 ≤ n) (i : Int) : FF n 124 [nt i] [] = some ([tm (.mk 2 i [])], []) := by
 obtain ⟨n, rfl⟩ := ag (show 0 < n by omega)
 exact yF n i
theorem tw {n : Nat} (hn : 1 ≤ n) (k : Int) : FF n 70 [nt k, .one (.emp none)] [] = some ([tm (.mk k 0 [])], []) := by
 obtain ⟨n, rfl⟩ := ag (show 0 < n by omega)
 exact pL n k
theorem mW {n : Nat} {a b : Tm} (hn : 7000500 ≤ n) (ha : (of a).size ≤ 100000) (hb : (of b).size ≤ 100000) : RC (FF n 96 [tm (of a), tm (of b)] []) (O.sm a b) := by
 obtain ⟨n, rfl⟩ := ag (show 0 < n by omega)
 rw [pE, bZ (n := n) (by omega) ha hb]
 simp only [evt, O, az]
 by_cases hv : vdM a = true ∧ vdM b = true
 ·have e : sU (of a) (of b) 200 = iE (of a) (of b) 200 := pw ⟨hv.1, hv.2, by decide, by decide⟩
  rw [e, if_pos hv]
  by_cases h1 : iE (of a) (of b) 200 = 1
  ·rw [if_pos h1, if_pos h1]; exact ⟨0, rfl, rfl⟩
  ·rw [if_neg h1, if_neg h1]
   by_cases h2 : iE (of a) (of b) 200 = 2
   ·rw [if_pos h2, if_pos h2]; exact ⟨1, rfl, rfl⟩
   ·rw [if_neg h2, if_neg h2]; exact ⟨2, rfl, rfl⟩
 ·have e : sU (of a) (of b) 200 = 0 := if_neg (fun hh => hv ⟨hh.1, hh.2.1⟩)
  rw [e, if_neg hv]
  exact ⟨2, rfl, rfl⟩
theorem oY {n : Nat} {m : Tm} (hn : 6000500 ≤ n) (hz : (of m).size ≤ 400) (k : Int) {g : Tm → Option Rs} {r : Rs} (e : sq (some (O.hn m)) g = some r) :
   (∃ f, FF n 119 [tm (of m), nt k] [] = some ([tm (of f), nt 0], []) ∧ (of f).k = k ∧ vdM f = true ∧ O.hn m = .ok f ∧ g f = some r) ∨ (∃ f, FF n 119 [tm (of m), nt k] [] = some ([tm (.mk 0 0 []), nt 1], []) ∧ (of f).k ≠ k ∧ g f = some r) ∨
    (FF n 119 [tm (of m), nt k] [] = some ([tm (.mk 0 0 []), nt 2], []) ∧ r = .opn) := by
 obtain ⟨n, rfl⟩ := ag (show 0 < n by omega)
 obtain ⟨x, c, h1, h2⟩ := xr (n := n) (m := m) (by omega) hz
 rw [uA, h1]
 simp only [evt]
 cases hh : O.hn m with
 | ok f =>
  rw [hh] at h2 e
  obtain ⟨rfl, rfl⟩ := h2
  have vf := (aH.hn_ok hh).2.2
  simp only [evt]
  by_cases hk : (of f).k = k
  ·rw [decide_eq_true hk]
   exact .inl ⟨f, rfl, hk, vf, rfl, e⟩
  ·rw [decide_eq_false hk]
   exact .inr (.inl ⟨f, rfl, hk, e⟩)
 | bad => exact absurd hh (aH.hn_nb m)
 | opn =>
  rw [hh] at h2 e
  have h2 : c ≠ 0 := h2
  rw [decide_eq_false h2]
  cases e
  exact .inr (.inr ⟨rfl, rfl⟩)
theorem r9 {n : Nat} (hn : 1 ≤ n) (t : T) : FF n 123 [tm t, bl false] [] = some ([tm (.mk 0 0 []), nt 2], []) := by
 obtain ⟨n, rfl⟩ := ag (show 0 < n by omega)
 exact kX n t.k t.n t.kids false
theorem nW {n : Nat} {m : Tm} (hn : (of m).size + 10 ≤ n) : ∀ r, made O m = some r → RS (FF n 123 [tm (of m), bl true] []) r := by
 intro r e
 obtain ⟨n, rfl⟩ := ag (show 0 < n by omega)
 unfold made at e
 rw [kX, aX (n := n) (by omega)]
 simp only [evt]
 cases hv : vdM m with
 | false =>
  have ev : ak (of m) = false := hv
  rw [if_neg (by rw [show O.vd m = vdM m from rfl, hv]; simp)] at e; cases e
  rw [ev]
  exact p6 .opn _ j0
 | true =>
  have ev : ak (of m) = true := hv
  have zv := ae ev
  rw [if_pos (by rw [show O.vd m = vdM m from rfl, hv])] at e; cases e
  rw [ev]
  exact ⟨of m, 0, rfl, by omega, rfl, rfl⟩
theorem uf {n : Nat} {m : Tm} (hn : (of m).size + 500 ≤ n) : ∀ r, made O m = some r → RS (FF n 123 [tm (if ak (of m) then of m else .mk 0 0 []), bl (ak (of m))] []) r := by
 intro r e
 cases hv : vdM m with
 | false =>
  have ev : ak (of m) = false := hv
  unfold made at e
  rw [if_neg (by rw [show O.vd m = vdM m from rfl, hv]; simp)] at e; cases e
  rw [ev]
  rw [r9 (by omega)]
  exact p6 .opn _ j0
 | true =>
  have ev : ak (of m) = true := hv
  rw [ev, if_pos rfl]
  exact nW (by omega) r e
theorem Bg {n : Nat} (hn : 1 ≤ n) (a : T) (l : List T) (k m : Int) : FF n 130 [tm (.mk k m (a :: l))] [] = some ([tm a], []) := by
 obtain ⟨n, rfl⟩ := ag (show 0 < n by omega)
 have := lY n k m (a :: l)
 rw [decide_eq_false (show ¬ ((a :: l).length : Int) = 0 by simp only [List.length_cons]; omega), qH] at this
 exact this
theorem mo {n : Nat} (hn : 1 ≤ n) : FF n 130 [tm (.mk 0 0 [])] [] = some ([tm (.mk 0 0 [])], []) := by
 obtain ⟨n, rfl⟩ := ag (show 0 < n by omega)
 rw [lY]; rfl
theorem uI {p : Tm} (a : Nat) : shT (a : Int) (of p) 0 = of (p.ren (· + a)) := by
 have := Co a p 0
 rw [kq] at this
 exact this
theorem G6 {p : Tm} (a : Nat) (h : ak (of (Tm.bc p)) = true) : ak (of p.wk) = true ∧ ak (of p.wk.wk) = true := by
 have k : ∀ {t u : T}, ak t = true → u ∈ t.kids → ak u = true := fun h hu => bB h hu
 have h1 := k (u := .mk 3 0 [.mk 5 0 [of p.wk, .mk 1 0 []], .mk 5 0 [of p.wk.wk, .mk 8 0 [.mk 1 1 []]]]) h (by simp [Tm.bc, of, T.kids])
 have h2 := k (u := .mk 5 0 [of p.wk, .mk 1 0 []]) h1 (by simp [T.kids])
 have h3 := k (u := .mk 5 0 [of p.wk.wk, .mk 8 0 [.mk 1 1 []]]) h1 (by simp [T.kids])
 exact ⟨k h2 (by simp [T.kids]), k h3 (by simp [T.kids])⟩
theorem CQ {n : Nat} {p : Tm} (hn : 6000 ≤ n) (hp : vdM p = true) : ∀ r, made O (Tm.bc p) = some r → RS (FF n 163 [tm (of p)] []) r := by
 intro r e
 obtain ⟨n, rfl⟩ := ag (show 0 < n by omega)
 have zp := ae hp
 have zs := wN hp
 have s1 := pd (n := n) (t := of p) (a := 1) (c := 0) (by omega) (wz hp) (by omega) (by omega) (by omega)
 have s2 := pd (n := n) (t := of p) (a := 2) (c := 0) (by omega) (wz hp) (by omega) (by omega) (by omega)
 have e1 : shT 1 (of p) 0 = of p.wk := KX p
 have e2 : shT 2 (of p) 0 = of p.wk.wk := by rw [Tm.wk, Tm.wk, Tm.fP]; exact uI 2
 rw [e1, shR, e1] at s1
 rw [e2, shR, e2] at s2
 rw [qC, s1, s2]
 simp (disch := first | omega | simp) only [evt, tw, j6, mN]
 by_cases hv : ak (of (Tm.bc p)) = true
 ·obtain ⟨h1, h2⟩ := G6 0 hv
  rw [h1, h2, if_pos rfl, if_pos rfl]
  obtain ⟨x, c, eo, hx, h3⟩ := nW (n := n) (m := Tm.bc p) (by omega) r e
  simp only [Tm.bc, of, tm, cL, cP, ay] at eo
  simp only [evt]
  have eo' : FF n 123 [V1.agg [SV.int IntKind.i64 3, SV.int IntKind.i64 0, SV.fr (SD.ts [T.mk 6 0 [], T.mk 3 0 [T.mk 5 0 [of p.wk, T.mk 1 0 []], T.mk 5 0 [of p.wk.wk, T.mk 8 0 [T.mk 1 1 []]]]])], V1.one (SV.bool true)] [] = some ([tm x, nt c], []) := eo
  rw [eo']
  exact ⟨x, c, rfl, hx, h3⟩
 ·have ev : ak (of (Tm.bc p)) = false := by simpa using hv
  have er : r = .opn := by
   unfold made at e
   rw [if_neg (by rw [show O.vd (Tm.bc p) = ak (of (Tm.bc p)) from rfl, ev]; simp)] at e
   cases e; rfl
  subst er
  have fin : ∀ a b l c, FF n 123 [.agg [.int .i64 a, .int .i64 b, .fr (.ts l)], bl c] [] = some ([tm (.mk 0 0 []), nt 2], []) → RS ((FF n 123 [.agg [.int .i64 a, .int .i64 b, .fr (.ts l)], bl c] []).bind fun x34 => ah x34.1 fun x35 x36 => aw .i64 x36 fun x37 x38 => ai x38 (aj x34.2 (some ([.agg [.int .i64 (x35).k, .int .i64 (x35).n, .fr (.ts (x35).kids)], .one (.int .i64 x37)], [])))) .opn := fun a b l c h => by
   rw [h]
   exact p6 .opn (.mk 0 0 []) j0
  have nf : ∀ a b l, FF n 123 [.agg [.int .i64 a, .int .i64 b, .fr (.ts l)], bl false] [] = some ([tm (.mk 0 0 []), nt 2], []) := fun a b l => r9 (by omega) (.mk a b l)
  cases h1 : ak (of p.wk) with
  | false =>
   simp only [cond_false]
   exact fin _ _ _ _ (nf _ _ _)
  | true =>
   simp only [cond_true]
   cases h2 : ak (of p.wk.wk) with
   | false => exact fin _ _ _ _ (nf _ _ _)
   | true =>
    simp only [if_true]
    refine fin _ _ _ _ ?_
    have hm : FF n 123 [tm (of (Tm.bc p)), bl true] [] = some ([tm (.mk 0 0 []), nt 2], []) := by
     obtain ⟨n, rfl⟩ := ag (show 0 < n by omega)
     rw [kX, aX (n := n) (by omega), ev]; rfl
    exact hm
end Go.Proofs.YtajlknlnmmbfcaaGreat
end
section
namespace Go.Proofs.YtajlknlnmmbfcaaGreat
open Go Go.Ab Go.Dk
open Tm (Rs sq frm lvl chk fam made ext inI kI)
structure Op (M : Nat) (c : List T) (t : T) (i : Int) (x : Option Rs) : Prop where
 iv : ∀ m, M ≤ m → ∀ r, x = some r → RSh (hp c t) (FF m 98 [nt i, .one (.ptr 0 0), .one (.ptr 1 0)] (hp c t)) r
 ok : ∀ s, x = some (.ok s) → vdM s = true
section
variable {M n : Nat} {c : List T} {t : T} {i : Int} {x : Option Rs}
theorem sd (hM : 7000500 ≤ M) (hn : M + 1 ≤ n) (h : Op M c t i x) (k : Int) {g : Tm → Option Rs} {r : Rs} (e : sq (frm O x) g = some r) :
   (∃ f, FF n 128 [jd c t, nt i, nt k] (hp c t) = some ([tm (of f), nt 0], hp c t) ∧ (of f).k = k ∧ vdM f = true ∧ g f = some r) ∨ (∃ f, FF n 128 [jd c t, nt i, nt k] (hp c t) = some ([tm (.mk 0 0 []), nt 1], hp c t) ∧ (of f).k ≠ k ∧ g f = some r) ∨
    ∃ c', FF n 128 [jd c t, nt i, nt k] (hp c t) = some ([tm (.mk 0 0 []), nt c'], hp c t) ∧ Er c' r := by
 obtain ⟨n, rfl⟩ := ag (show 0 < n by omega)
 unfold frm at e
 rw [Tm.a8] at e
 rw [fH]
 rcases sE (h.iv n (by omega)) e with ⟨s, e1, eo, e2⟩ | ⟨y, c', eo, hc⟩
 ·rw [eo]
  simp only [evt]
  have hs := ae (h.ok s e1)
  rcases oY (n := n) (m := s) (by omega) hs k e2 with ⟨f, eo, hk, vf, _, e3⟩ | ⟨f, eo, hk, e3⟩ | ⟨eo, rfl⟩
  ·rw [eo]; exact .inl ⟨f, rfl, hk, vf, e3⟩
  ·rw [eo]; exact .inr (.inl ⟨f, rfl, hk, e3⟩)
  ·rw [eo]; exact .inr (.inr ⟨2, rfl, .opn⟩)
 ·rw [eo]
  simp only [evt]
  rw [decide_eq_false hc.ne]
  exact .inr (.inr ⟨c', rfl, hc⟩)
theorem mE (hM : 7000500 ≤ M) (hn : M + 2 ≤ n) (h : Op M c t i x) : ∀ r, lvl O x = some r → RLh (hp c t) (FF n 161 [jd c t, nt i] (hp c t)) r := by
 intro r e
 obtain ⟨n, rfl⟩ := ag (show 0 < n by omega)
 rw [fk]
 rcases sd hM (n := n) (by omega) h 2 e with ⟨f, eo, hk, vf, e2⟩ | ⟨f, eo, hk, e2⟩ | ⟨c', eo, hc⟩
 ·rw [eo]
  cases f <;> try (rw [iw] at hk; simp only [Int.reduceEq] at hk; done)
  rename_i j
  cases e2
  simp only [evt]
  exact ⟨j, 0, rfl, rfl, j, rfl, rfl⟩
 ·rw [eo]
  simp only [evt]
  have : r = .bad := by
   cases f <;> first | (exact absurd (iw _) hk) | (cases e2; rfl)
  subst this
  exact ur .bad 0
 ·rw [eo]
  simp only [evt]
  exact ur hc 0
theorem mF (hM : 7000500 ≤ M) (hn : M + 1 ≤ n) (h : Op M c t i x) {w : Tm} (hw : (of w).size ≤ 100000) : ∀ r, chk O x w = some r → RCh (hp c t) (FF n 125 [jd c t, nt i, tm (of w)] (hp c t)) r := by
 intro r e
 obtain ⟨n, rfl⟩ := ag (show 0 < n by omega)
 rw [ff]
 rcases sE (h.iv n (by omega)) e with ⟨s, e1, eo, e2⟩ | ⟨y, c', eo, hc⟩
 ·rw [eo]
  simp only [evt]
  have hs := ae (h.ok s e1)
  cases e2
  obtain ⟨c', h1, h2⟩ := mW (n := n) (a := s) (b := w) (by omega) (by omega) hw
  rw [h1]
  exact ⟨c', rfl, h2⟩
 ·rw [eo]
  simp only [evt]
  rw [decide_eq_false hc.ne]
  exact tc hc
theorem Cy (hM : 7000500 ≤ M) (hn : M + 2 ≤ n) (h : Op M c t i x) {w : Tm} (hw : (of w).size ≤ 100000) : ∀ r, chk O x w = some r → RCh (hp c t) (FF n 129 [jd c t, nt i, tm (of w), nt 0] (hp c t)) r := by
 intro r e
 obtain ⟨n, rfl⟩ := ag (show 0 < n by omega)
 rw [cT]
 simp only [evt]
 obtain ⟨c', h1, h2⟩ := mF hM (n := n) (by omega) h hw r e
 rw [h1]
 exact ⟨c', rfl, h2⟩
theorem nY (hn : 1 ≤ n) (w : T) {c' : Int} (hc : c' ≠ 0) : FF n 129 [jd c t, nt i, tm w, nt c'] (hp c t) = some ([nt c'], hp c t) := by
 obtain ⟨n, rfl⟩ := ag (show 0 < n by omega)
 rw [cT, decide_eq_false hc]; rfl
theorem xS (hM : 7000500 ≤ M) (hn : M + 2 ≤ n) (h : Op M c t i x) {w : Tm} (hw : (of w).size ≤ 100000) : ∀ r, fam O x w = some r → RCh (hp c t) (FF n 162 [jd c t, nt i, tm (of w)] (hp c t)) r := by
 intro r e
 obtain ⟨n, rfl⟩ := ag (show 0 < n by omega)
 rw [eR]
 rcases sd hM (n := n) (by omega) h 3 e with ⟨f, eo, hk, vf, e2⟩ | ⟨f, eo, hk, e2⟩ | ⟨c', eo, hc⟩
 ·rw [eo]
  cases f <;> try (rw [iw] at hk; simp only [Int.reduceEq] at hk; done)
  rename_i C D
  obtain ⟨vC, vD⟩ := aH.v_pi vf
  have zC := ae vC
  have zD := ae vD
  simp only [evt, of, qH, rB]
  rcases lO (yV (P := RC) (mW (n := n) (a := C) (b := w) (by omega) (by omega) hw)) e2 with ⟨t', e3, eo, e4⟩ | ⟨c', eo, hc⟩
  ·rw [eo]
   simp only [evt]
   rcases oY (n := n) (m := D) (by omega) zD 2 e4 with ⟨f, eo, hk, vf, _, e5⟩ | ⟨f, eo, hk, e5⟩ | ⟨eo, rfl⟩
   ·rw [eo]
    cases f <;> try (rw [iw] at hk; simp only [Int.reduceEq] at hk; done)
    cases e5
    exact ⟨0, rfl, rfl⟩
   ·rw [eo]
    have : r = .bad := by
     cases f <;> first | (exact absurd (iw _) hk) | (cases e5; rfl)
    subst this
    exact ⟨1, rfl, rfl⟩
   ·rw [eo]; exact ⟨2, rfl, rfl⟩
  ·rw [eo]
   simp only [evt]
   rw [decide_eq_false hc.ne]
   exact tc hc
 ·rw [eo]
  simp only [evt]
  have : r = .bad := by
   cases f <;> first | (exact absurd (iw _) hk) | (cases e2; rfl)
  subst this
  exact tc .bad
 ·rw [eo]
  simp only [evt]
  rw [decide_eq_false hc.ne]
  exact tc hc
end
section
variable {M n : Nat} {c : List T} {t : T} {a b d e' : Tm} {xa xb xd xe : Option Rs}
theorem EW (hM : 7000500 ≤ M) (hn : M + 4 ≤ n) (ha : Op M c t 0 xa) (hb : Op M c t 1 xb) : ∀ r, (sq (lvl O xa) fun i => sq (lvl O xb) fun j => some (.ok (.sort (max (Tm.lv i) (Tm.lv j))))) = some r →
   RSh (hp c t) (FF n 126 [jd c t] (hp c t)) r := by
 intro r e
 obtain ⟨n, rfl⟩ := ag (show 0 < n by omega)
 rw [fo]
 rcases sA (mE hM (n := n) (by omega) ha) e with ⟨i, e1, eo, e2⟩ | ⟨i, c', eo, hc⟩
 ·rw [eo]
  simp only [evt]
  rcases sA (mE hM (n := n) (by omega) hb) e2 with ⟨j, e3, eo, e4⟩ | ⟨j, c', eo, hc⟩
  ·rw [eo]
   simp only [evt]
   rw [AB (n := n) (by omega)]
   simp only [evt]
   cases e4
   refine ⟨of (.sort (max i j)), 0, ?_, rfl, rfl⟩
   have : max (i : Int) j = ((max i j : Nat) : Int) := by omega
   rw [this]; rfl
  ·rw [eo]
   simp only [evt]
   rw [decide_eq_false hc.ne]
   exact a6 hc (.mk 0 0 [])
 ·rw [eo]
  simp only [evt]
  rw [decide_eq_false hc.ne]
  exact a6 hc (.mk 0 0 [])
theorem j9 {h : List av} {o : OR} {m : Tm} (hh : ∀ r, made O m = some r → RS o r) : ∀ r, made O m = some r → RSh h (o.bind fun x => ah x.1 fun x1 x2 => aw .i64 x2 fun x3 x4 => ai x4 (aj x.2 (some ([.agg [.int .i64 x1.k, .int .i64 x1.n, .fr (.ts x1.kids)], .one (.int .i64 x3)], h)))) r := by
 intro r e
 obtain ⟨x, c, rfl, _, h2⟩ := hh r e
 simp only [evt]
 exact ⟨x, c, rfl, h2⟩
def IvI (M : Nat) (c : List T) (t : T) (x : Option Rs) : Prop := ∀ m, M ≤ m → ∀ r, x = some r → RSh [] (FF m 57 [tms c, tm t] []) r
theorem CL (hM : 7000500 ≤ M) (hn : M + 4 ≤ n) (g0 : t.kids[(0 : Int).toNat]? = some (of a)) (ha : Op M c t 0 xa) (hb : Op M c t 1 xb) (hva : vdM a = true) (xP : Tm → Option Rs)
   (hP : ∀ B, xb = some (.ok B) → vdM (.pi a B) = true → IvI M c (of (.pi a B)) (xP (.pi a B))) : ∀ r,
   (sq (lvl O xa) fun _ => sq xb fun B => sq (made O (.pi a B)) fun P => sq (xP P) fun _ => some (.ok P)) = some r →
   RSh (hp c t) (FF n 127 [jd c t] (hp c t)) r := by
 intro r e
 obtain ⟨n, rfl⟩ := ag (show 0 < n by omega)
 have za := ae hva
 rw [eg]
 rcases sA (mE hM (n := n) (by omega) ha) e with ⟨i, e1, eo, e2⟩ | ⟨i, c', eo, hc⟩
 ·rw [eo]
  simp only [evt]
  rcases sE (hb.iv n (by omega)) e2 with ⟨B, e3, eo, e4⟩ | ⟨y, c', eo, hc⟩
  ·rw [eo]
   have zB := ae (hb.ok B e3)
   simp only [evt, g0]
   rw [j6 (n := n) (by omega)]
   simp only [evt]
   rcases lG (nW (n := n) (m := .pi a B) (by simp only [of, T.size, T.aE]; omega)) e4 with ⟨P, e5, eo, e6⟩ | ⟨y, c', eo, hc⟩
   ·obtain ⟨rfl, vP⟩ := Tm.bT e5
    simp only [of, tm, cL, cP, ay] at eo
    rw [eo]
    simp only [evt]
    rcases sE (hP B e3 vP n (by omega)) e6 with ⟨S, e7, eo, e8⟩ | ⟨y, c', eo, hc⟩
    ·simp only [of, tm, cL, cP, ay] at eo
     rw [eo]
     simp only [evt]
     cases e8
     exact ⟨of (.pi a B), 0, rfl, rfl, rfl⟩
    ·simp only [of, tm, cL, cP, ay] at eo
     rw [eo]
     simp only [evt]
     rw [decide_eq_false hc.ne]
     exact a6 hc (.mk 0 0 [])
   ·simp only [of, tm, cL, cP, ay] at eo
    rw [eo]
    simp only [evt]
    rw [decide_eq_false hc.ne]
    exact a6 hc (.mk 0 0 [])
  ·rw [eo]
   simp only [evt]
   rw [decide_eq_false hc.ne]
   exact a6 hc (.mk 0 0 [])
 ·rw [eo]
  simp only [evt]
  rw [decide_eq_false hc.ne]
  exact a6 hc (.mk 0 0 [])
theorem wr1 : IntKind.i64.wrap (1 + 1) = 2 := wrap64 (by omega)
theorem wr2 : IntKind.i64.wrap (2 + 1) = 3 := wrap64 (by omega)
theorem zR (hM : 7000500 ≤ M) (hn : M + 6 ≤ n) (g0 : t.kids[(0 : Int).toNat]? = some (of a)) (g3 : t.kids[(3 : Int).toNat]? = some (of e')) (hv : vdM (.elim a b d e') = true) (ha : Op M c t 0 xa) (hb : Op M c t 1 xb) (hd : Op M c t 2 xd) (he : Op M c t 3 xe) : ∀ r,
   (sq (fam O xa .nat) fun _ => sq (made O (.app a .zero)) fun w => sq (chk O xb w) fun _ => sq (made O (Tm.bc a)) fun w => sq (chk O xd w) fun _ => sq (chk O xe .nat) fun _ => made O (.app a e')) = some r →
   RSh (hp c t) (FF n 131 [jd c t] (hp c t)) r := by
 intro r e
 obtain ⟨n, rfl⟩ := ag (show 0 < n by omega)
 obtain ⟨va, vb, vd, ve, vz⟩ := aH.v_elim hv
 have za := ae va
 have ze := ae ve
 have zz := ae vz
 have zn : (of .nat).size ≤ 100000 := by decide
 rw [dR]
 simp only [evt, g0, tw (show 1 ≤ n by omega)]
 rcases jn (xS hM (n := n) (by omega) ha (w := .nat) zn) e with ⟨t', e1, eo, e2⟩ | ⟨c', eo, hc⟩
 ·simp only [of, tm, cL, cP, ay] at eo
  rw [eo]
  simp only [evt]
  rw [j6 (n := n) (by omega)]
  simp only [evt]
  rcases lG (nW (n := n) (m := .app a .zero) (by omega)) e2 with ⟨w, e3, eo, e4⟩ | ⟨y, c', eo, hc⟩
  ·obtain ⟨rfl, _⟩ := Tm.bT e3
   simp only [of, tm, cL, cP, ay] at eo
   rw [eo]
   simp only [evt]
   rcases jn (Cy hM (n := n) (by omega) hb (w := .app a .zero) (by omega)) e4 with ⟨t', e5, eo, e6⟩ | ⟨c', eo, hc⟩
   ·simp only [of, tm, cL, cP, ay] at eo
    rw [eo]
    simp only [evt]
    rcases lG (CQ (n := n) (by omega) va) e6 with ⟨w, e7, eo, e8⟩ | ⟨y, c', eo, hc⟩
    ·obtain ⟨rfl, vs⟩ := Tm.bT e7
     have zs := ae vs
     rw [eo]
     simp only [evt]
     rcases jn (Cy hM (n := n) (by omega) hd (w := Tm.bc a) (by omega)) e8 with ⟨t', e9, eo, e10⟩ | ⟨c', eo, hc⟩
     ·rw [eo]
      simp only [evt]
      rcases jn (mF hM (n := n) (by omega) he (w := .nat) zn) e10 with ⟨t', e11, eo, e12⟩ | ⟨c', eo, hc⟩
      ·simp only [of, tm, cL, cP, ay] at eo
       rw [eo]
       simp only [evt, g3]
       rw [j6 (n := n) (by omega)]
       simp only [evt]
       exact j9 (nW (n := n) (m := .app a e') (by simp only [of, T.size, T.aE]; omega)) r e12
      ·simp only [of, tm, cL, cP, ay] at eo
       rw [eo]
       simp only [evt]
       rw [decide_eq_false hc.ne]
       exact a6 hc (.mk 0 0 [])
     ·rw [eo]
      simp only [evt]
      rw [decide_eq_false hc.ne]
      exact a6 hc (.mk 0 0 [])
    ·rw [eo]
     simp only [evt]
     rw [nY (by omega) _ hc.ne]
     simp only [evt]
     rw [decide_eq_false hc.ne]
     exact a6 hc (.mk 0 0 [])
   ·simp only [of, tm, cL, cP, ay] at eo
    rw [eo]
    simp only [evt]
    rw [decide_eq_false hc.ne]
    exact a6 hc (.mk 0 0 [])
  ·simp only [of, tm, cL, cP, ay] at eo
   rw [eo]
   simp only [evt]
   rw [nY (by omega) _ hc.ne]
   simp only [evt]
   rw [decide_eq_false hc.ne]
   exact a6 hc (.mk 0 0 [])
 ·simp only [of, tm, cL, cP, ay] at eo
  rw [eo]
  simp only [evt]
  rw [decide_eq_false hc.ne]
  exact a6 hc (.mk 0 0 [])
end
end Go.Proofs.YtajlknlnmmbfcaaGreat
end
section
namespace Go.Proofs.YtajlknlnmmbfcaaGreat
open Go Go.Ab Go.Dk
open Tm (Rs sq frm lvl chk fam made ext inI kI)
section
variable {M n : Nat} {c : List T} {t : T} {a b d e' : Tm} {xa xb xd xe : Option Rs}
theorem DN {m : Nat} {i z1 z2 : Int} {l0 : List T} {s : Int} {c' : Int} (hs : s = 1 ∨ s = 2 ∨ s = 3) {r : Rs} (hc : Er c' r) :
   RSh (hp c t) (aC n (m + 1) i c' s c t.k t.n t.kids c t.k t.n t.kids z1 z2 l0) r := by
 rw [aJ]
 simp only [evt, decide_eq_false hc.ne]
 rcases hs with rfl | rfl | rfl
 ·rw [decide_eq_true (show (1 : Int) ≤ 2 by omega)]; exact a6 hc (.mk 0 0 [])
 ·rw [decide_eq_true (show (2 : Int) ≤ 2 by omega)]; exact a6 hc (.mk 0 0 [])
 ·rw [decide_eq_false (show ¬ (3 : Int) ≤ 2 by omega)]; exact a6 hc (.mk 0 0 [])
theorem J3 {m : Nat} (hn : 1 ≤ n) {k : Nat} {z1 z2 : Int} {l0 : List T} :
   RSh (hp c t) (aC n (m + 1) (k : Int) 0 3 c t.k t.n t.kids c t.k t.n t.kids z1 z2 l0) (.ok (.sort k)) := by
 rw [aJ]
 simp only [evt]
 rw [decide_eq_false (show ¬ (3 : Int) ≤ 2 by omega), AB (n := n) (by omega)]
 exact ⟨of (.sort k), 0, rfl, rfl, rfl⟩
theorem Ka (hM : 7000500 ≤ M) (hn : M + 1 ≤ n) (g0 : t.kids[(0 : Int).toNat]? = some (of a)) (za : (of a).size ≤ 100000) (hd : Op M c t 2 xd) {m : Nat} {k : Nat} {z1 z2 : Int} {l0 : List T} : ∀ r,
   (sq (chk O xd a) fun _ => some (.ok (.sort k))) = some r →
   RSh (hp c t) (aC n (m + 1 + 1) (k : Int) 0 2 c t.k t.n t.kids c t.k t.n t.kids z1 z2 l0) r := by
 intro r e
 rw [aJ]
 simp only [evt, g0]
 rw [decide_eq_true (show (2 : Int) ≤ 2 by omega)]
 rcases jn (mF hM (n := n) (by omega) hd (w := a) za) e with ⟨t', e3, eo, e4⟩ | ⟨c', eo, hc⟩
 ·rw [eo, wr2]
  simp -implicitDefEqProofs only [evt]
  cases e4
  with_reducible exact J3 (by omega)
 ·rw [eo, wr2]
  simp -implicitDefEqProofs only [evt]
  with_reducible exact DN (.inr (.inr rfl)) hc
theorem I8 (hM : 7000500 ≤ M) (hn : M + 1 ≤ n) (g0 : t.kids[(0 : Int).toNat]? = some (of a)) (za : (of a).size ≤ 100000) (hb : Op M c t 1 xb) (hd : Op M c t 2 xd) {m : Nat} {k : Nat} {z1 z2 : Int} {l0 : List T} : ∀ r,
   (sq (chk O xb a) fun _ => sq (chk O xd a) fun _ => some (.ok (.sort k))) = some r →
   RSh (hp c t) (aC n (m + 1 + 1 + 1) (k : Int) 0 1 c t.k t.n t.kids c t.k t.n t.kids z1 z2 l0) r := by
 intro r e
 rw [aJ]
 simp only [evt, g0]
 rw [decide_eq_true (show (1 : Int) ≤ 2 by omega)]
 rcases jn (mF hM (n := n) (by omega) hb (w := a) za) e with ⟨t', e1, eo, e2⟩ | ⟨c', eo, hc⟩
 ·rw [eo, wr1]
  simp -implicitDefEqProofs only [evt]
  with_reducible exact Ka hM hn g0 za hd r e2
 ·rw [eo, wr1]
  simp -implicitDefEqProofs only [evt]
  with_reducible exact DN (.inr (.inl rfl)) hc
theorem BX (hM : 7000500 ≤ M) (hn : M + 4 ≤ n) (g0 : t.kids[(0 : Int).toNat]? = some (of a)) (hva : vdM a = true) (ha : Op M c t 0 xa) (hb : Op M c t 1 xb) (hd : Op M c t 2 xd) : ∀ r,
   (sq (lvl O xa) fun i => sq (chk O xb a) fun _ => sq (chk O xd a) fun _ => some (.ok i)) = some r →
   RSh (hp c t) (FF n 132 [jd c t] (hp c t)) r := by
 intro r e
 obtain ⟨n, rfl⟩ := ag (show 0 < n by omega)
 have za := ae hva
 rw [ec]
 rcases sA (mE hM (n := n) (by omega) ha) e with ⟨i, e1, eo, e2⟩ | ⟨i, c', eo, hc⟩
 ·rw [eo]
  simp only [evt]
  obtain ⟨m, hm⟩ : ∃ m, n = m + 1 + 1 + 1 := ⟨n - 3, by omega⟩
  have h := I8 (n := n) (m := m) (z1 := 0) (z2 := 0) (l0 := []) hM (by omega) g0 (by omega) hb hd r e2
  rw [← hm] at h
  with_reducible exact h
 ·rw [eo]
  simp only [evt]
  obtain ⟨m, hm⟩ := ag (show 0 < n by omega)
  have h := DN (n := n) (t := t) (c := c) (m := m) (i := i) (z1 := 0) (z2 := 0) (l0 := []) (s := 1) (.inl rfl) hc
  rw [← hm] at h
  with_reducible exact h
end
end Go.Proofs.YtajlknlnmmbfcaaGreat
end
section
namespace Go.Proofs.YtajlknlnmmbfcaaGreat
open Go Go.Ab Go.Dk
open Tm (Rs sq frm lvl chk fam made ext inI kI)
section
variable {M n : Nat} {c : List T} {t : T} {a b d e' : Tm} {xa xb xd xe : Option Rs}
theorem yM {n : Nat} {b u : Tm} (hn : 2000000 ≤ n) (hb : vdM b = true) (hu : vdM u = true) : FF n 97 [tm (of b), nt 0, tm (of u)] [] = some ([tm (if ak (of (b.inst u)) then of (b.inst u) else .mk 0 0 []), bl (ak (of (b.inst u)))], []) := by
 have h1 := ae hb
 have h2 := ae hu
 rw [yN (n := n) hn (wz hb) (by omega) (wz hu) (by omega) (by omega), sbR, ld]
theorem IS (hM : 7000500 ≤ M) (hn : M + 6 ≤ n) (g0 : t.kids[(0 : Int).toNat]? = some (of a)) (hv : vdM (.move a b d) = true) (ha : Op M c t 0 xa) (hb : Op M c t 1 xb) (hd : Op M c t 2 xd) : ∀ r,
   (sq (frm O xb) fun E => match E with
   | .id t y z => sq (fam O xa t) fun _ => sq (made O (.app a y)) fun w => sq (chk O xd w) fun _ => made O (.app a z)
   | _ => some .bad) = some r →
   RSh (hp c t) (FF n 133 [jd c t] (hp c t)) r := by
 intro r e
 obtain ⟨n, rfl⟩ := ag (show 0 < n by omega)
 obtain ⟨va, vb, vd⟩ := aH.v_move hv
 have za := ae va
 rw [fg]
 rcases sd hM (n := n) (by omega) hb 10 e with ⟨f, eo, hk, vf, e2⟩ | ⟨f, eo, hk, e2⟩ | ⟨c', eo, hc⟩
 ·rw [eo]
  cases f <;> try (rw [iw] at hk; simp only [Int.reduceEq] at hk; done)
  rename_i q y z
  obtain ⟨vt, vy, vz⟩ := aH.v_id vf
  have zt := ae vt
  have zy := ae vy
  have zz := ae vz
  simp only [evt, of, qH, rB, I5]
  rcases jn (xS hM (n := n) (by omega) ha (w := q) (by omega)) e2 with ⟨t', e1, eo, e2⟩ | ⟨c', eo, hc⟩
  ·rw [eo]
   simp only [evt, g0]
   rw [j6 (n := n) (by omega)]
   simp only [evt]
   rcases lG (nW (n := n) (m := .app a y) (by simp only [of, T.size, T.aE]; omega)) e2 with ⟨w, e3, eo, e4⟩ | ⟨y', c', eo, hc⟩
   ·obtain ⟨rfl, vw⟩ := Tm.bT e3
    have zw := ae vw
    simp only [of, tm, cL, cP, ay] at eo
    rw [eo]
    simp only [evt]
    rcases jn (Cy hM (n := n) (by omega) hd (w := .app a y) (by omega)) e4 with ⟨t', e5, eo, e6⟩ | ⟨c', eo, hc⟩
    ·simp only [of, tm, cL, cP, ay] at eo
     rw [eo]
     simp only [evt]
     rw [j6 (n := n) (by omega)]
     simp only [evt]
     exact j9 (nW (n := n) (m := .app a z) (by simp only [of, T.size, T.aE]; omega)) r e6
    ·simp only [of, tm, cL, cP, ay] at eo
     rw [eo]
     simp only [evt]
     rw [decide_eq_false hc.ne]
     exact a6 hc (.mk 0 0 [])
   ·simp only [of, tm, cL, cP, ay] at eo
    rw [eo]
    simp only [evt]
    rw [nY (by omega) _ hc.ne]
    simp only [evt]
    rw [decide_eq_false hc.ne]
    exact a6 hc (.mk 0 0 [])
  ·rw [eo]
   simp only [evt]
   rw [decide_eq_false hc.ne]
   exact a6 hc (.mk 0 0 [])
 ·rw [eo]
  simp only [evt]
  have : r = .bad := by
   cases f <;> first | (exact absurd (iw _) hk) | (cases e2; rfl)
  subst this
  exact a6 .bad (.mk 0 0 [])
 ·rw [eo]
  simp only [evt]
  rw [decide_eq_false hc.ne]
  exact a6 hc (.mk 0 0 [])
theorem G8 (hM : 7000500 ≤ M) (hn : M + 6 ≤ n) (g0 : t.kids[(0 : Int).toNat]? = some (of a)) (g1 : t.kids[(1 : Int).toNat]? = some (of b)) (hv : vdM (.pair a b d) = true) (ha : Op M c t 0 xa) (hb : Op M c t 1 xb) (hd : Op M c t 2 xd) : ∀ r,
   (sq (lvl O xa) fun _ => sq (some (O.hn a)) fun h => match h with
   | .sig A B => sq (chk O xb A) fun _ => sq (made O (B.inst b)) fun w => sq (chk O xd w) fun _ => some (.ok a)
   | _ => some .bad) = some r →
   RSh (hp c t) (FF n 134 [jd c t] (hp c t)) r := by
 intro r e
 obtain ⟨n, rfl⟩ := ag (show 0 < n by omega)
 obtain ⟨va, vb, vd⟩ := aH.v_pair hv
 have za := ae va
 rw [eQ]
 rcases sA (mE hM (n := n) (by omega) ha) e with ⟨i, e1, eo, e2⟩ | ⟨i, c', eo, hc⟩
 ·rw [eo]
  simp only [evt, g0]
  rcases oY (n := n) (m := a) (by omega) za 13 e2 with ⟨f, eo, hk, vf, _, e3⟩ | ⟨f, eo, hk, e3⟩ | ⟨eo, rfl⟩
  ·rw [eo]
   cases f <;> try (rw [iw] at hk; simp only [Int.reduceEq] at hk; done)
   rename_i C B _
   obtain ⟨vC, vB⟩ := aH.v_sig vf
   have zC := ae vC
   have zi := iF vB vb
   have hs := Bg (n := n) (by omega) (of C) [of B] 13 0
   simp only [tm, cL, cP, ay] at hs
   simp only [evt, of, rB]
   rw [hs]
   simp only [evt]
   rcases jn (Cy hM (n := n) (by omega) hb (w := C) (by omega)) e3 with ⟨t', e4, eo, e5⟩ | ⟨c', eo, hc⟩
   ·rw [eo]
    simp only [evt, g1]
    rw [yM (n := n) (by omega) vB vb]
    simp only [evt]
    rcases lG (uf (n := n) (m := B.inst b) (by omega)) e5 with ⟨w, e6, eo, e7⟩ | ⟨y', c', eo, hc⟩
    ·obtain ⟨rfl, vw⟩ := Tm.bT e6
     have zw := ae vw
     rw [eo]
     simp only [evt]
     rcases jn (Cy hM (n := n) (by omega) hd (w := B.inst b) (by omega)) e7 with ⟨t', e8, eo, e9⟩ | ⟨c', eo, hc⟩
     ·rw [eo]
      simp only [evt, g0]
      cases e9
      exact ⟨of a, 0, rfl, rfl, rfl⟩
     ·rw [eo]
      simp only [evt]
      rw [decide_eq_false hc.ne]
      exact a6 hc (.mk 0 0 [])
    ·rw [eo]
     simp only [evt]
     rw [nY (by omega) _ hc.ne]
     simp only [evt]
     rw [decide_eq_false hc.ne]
     exact a6 hc (.mk 0 0 [])
   ·rw [eo]
    simp only [evt]
    rw [decide_eq_false hc.ne]
    exact a6 hc (.mk 0 0 [])
  ·rw [eo]
   have hs := mo (n := n) (by omega)
   have hq := nY (n := n) (c := c) (t := t) (i := 1) (by omega) (.mk 0 0 []) (c' := 1) (by decide)
   simp only [tm, cL, cP, ay] at hs hq
   simp only [evt]
   rw [hs]
   simp only [evt]
   rw [hq]
   have : r = .bad := by
    cases f <;> first | (exact absurd (iw _) hk) | (cases e3; rfl)
   subst this
   exact a6 .bad (.mk 0 0 [])
  ·rw [eo]
   have hs := mo (n := n) (by omega)
   have hq := nY (n := n) (c := c) (t := t) (i := 1) (by omega) (.mk 0 0 []) (c' := 2) (by decide)
   simp only [tm, cL, cP, ay] at hs hq
   simp only [evt]
   rw [hs]
   simp only [evt]
   rw [hq]
   exact a6 .opn (.mk 0 0 [])
 ·rw [eo]
  simp only [evt]
  rw [decide_eq_false hc.ne]
  exact a6 hc (.mk 0 0 [])
theorem Hj (hM : 7000500 ≤ M) (hn : M + 6 ≤ n) (g0 : t.kids[(0 : Int).toNat]? = some (of a)) (hva : vdM (.fst a) = true) (ha : Op M c t 0 xa) :
   (t.k = 15 → ∀ r, (sq (frm O xa) fun Q => match Q with
   | .sig A B => some (.ok A)
   | _ => some .bad) = some r → RSh (hp c t) (FF n 135 [jd c t] (hp c t)) r) ∧
   (t.k = 16 → ∀ r, (sq (frm O xa) fun Q => match Q with
   | .sig A B => made O (B.inst (.fst a))
   | _ => some .bad) = some r → RSh (hp c t) (FF n 135 [jd c t] (hp c t)) r) := by
 obtain ⟨n, rfl⟩ := ag (show 0 < n by omega)
 refine ⟨fun ht r e => ?_, fun ht r e => ?_⟩
 ·rw [cN]
  rcases sd hM (n := n) (by omega) ha 13 e with ⟨f, eo, hk, vf, e2⟩ | ⟨f, eo, hk, e2⟩ | ⟨c', eo, hc⟩
  ·rw [eo]
   cases f <;> try (rw [iw] at hk; simp only [Int.reduceEq] at hk; done)
   rename_i C B
   simp only [evt, of, qH, rB]
   rw [decide_eq_true ht]
   cases e2
   exact ⟨of C, 0, rfl, rfl, rfl⟩
  ·rw [eo]
   simp only [evt]
   have : r = .bad := by
    cases f <;> first | (exact absurd (iw _) hk) | (cases e2; rfl)
   subst this
   exact a6 .bad (.mk 0 0 [])
  ·rw [eo]
   simp only [evt]
   rw [decide_eq_false hc.ne]
   exact a6 hc (.mk 0 0 [])
 ·rw [cN]
  rcases sd hM (n := n) (by omega) ha 13 e with ⟨f, eo, hk, vf, e2⟩ | ⟨f, eo, hk, e2⟩ | ⟨c', eo, hc⟩
  ·rw [eo]
   cases f <;> try (rw [iw] at hk; simp only [Int.reduceEq] at hk; done)
   rename_i C B
   obtain ⟨vC, vB⟩ := aH.v_sig vf
   have zi := iF vB hva
   simp only [evt, of, qH, rB, g0]
   rw [decide_eq_false (show ¬ t.k = 15 by omega), j6 (n := n) (by omega)]
   simp only [evt]
   have hi := yM (n := n) (b := B) (u := .fst a) (by omega) vB hva
   simp only [of, tm, cL, cP, ay] at hi
   rw [hi]
   simp only [evt]
   exact j9 (uf (n := n) (m := B.inst (.fst a)) (by omega)) r e2
  ·rw [eo]
   simp only [evt]
   have : r = .bad := by
    cases f <;> first | (exact absurd (iw _) hk) | (cases e2; rfl)
   subst this
   exact a6 .bad (.mk 0 0 [])
  ·rw [eo]
   simp only [evt]
   rw [decide_eq_false hc.ne]
   exact a6 hc (.mk 0 0 [])
end
theorem Gk {M : Nat} {c : List T} {t : T} {i : Nat} {u : Tm} {x : Option Rs} (hM : 10 ≤ M) (hu : under t.k i = 0) (hk : t.kids[i]? = some (of u)) (h : IvI M c (of u) x) (hv : ∀ s, x = some (.ok s) → vdM s = true) : Op (M + 1) c t (i : Int) x := by
 refine ⟨fun n hn r e => ?_, hv⟩
 obtain ⟨n, rfl⟩ := ag (show 0 < n by omega)
 obtain ⟨y, c', eo, h2⟩ := h n (by omega) r e
 rw [kB]
 have ho : FF n 99 [tms c, tm t, nt (i : Int)] [] = some ([tms c, nt 0], []) := by
  obtain ⟨n, rfl⟩ := ag (show 0 < n by omega)
  rw [dm, pJ (n := n) (by omega), hu]; rfl
 rw [ho]
 simp only [evt]
 rw [decide_eq_true (show (0 : Int) ≤ i by omega), Int.toNat_natCast, hk]
 simp only [evt]
 rw [eo]
 exact ⟨y, c', rfl, h2⟩
theorem Fg {M : Nat} {G : List Tm} {t : T} {a u : Tm} {I : List Tm → Tm → Option Rs} (hM : 10 ≤ M) (hu : under t.k 1 = 1) (h0 : t.kids[(0 : Int).toNat]? = some (of a)) (hk : t.kids[(1 : Int).toNat]? = some (of u)) (hG : G.length ≤ 20)
   (h : G.length < 20 → IvI M (cx (a :: G)) (of u) (I (a :: G) u)) (hv : ∀ s, I (a :: G) u = some (.ok s) → vdM s = true) : Op (M + 1) (cx G) t 1 (ext I G a u) := by
 refine ⟨fun n hn r e => ?_, fun s e => hv s (Tm.Fq e)⟩
 obtain ⟨n, rfl⟩ := ag (show 0 < n by omega)
 rw [kB]
 have hf : ∀ n, 3 ≤ n → FF n 121 [nt t.k, nt 1] [] = some ([nt 1], []) := fun n hn => by
  have := pJ (n := n) (by omega) t.k 1
  rw [hu] at this; exact this
 by_cases h20 : 20 ≤ G.length
 ·rw [Tm.ext, if_pos h20] at e; cases e
  have ho : FF n 99 [tms (cx G), tm t, nt 1] [] = some ([tms [], nt 2], []) := by
   obtain ⟨n, rfl⟩ := ag (show 0 < n by omega)
   obtain ⟨n, rfl⟩ := ag (show 0 < n by omega)
   rw [dm, hf (n + 1) (by omega)]
   simp only [evt, h0, show decide ((1 : Int) = 0) = false from rfl]
   rw [jS, bO, decide_eq_true (show (20 : Int) ≤ G.length by omega)]; rfl
  rw [ho]
  exact a6 .opn (.mk 0 0 [])
 ·rw [Tm.ext, if_neg h20] at e
  obtain ⟨y, c', eo, h2⟩ := h (by omega) n (by omega) r e
  have ho : FF n 99 [tms (cx G), tm t, nt 1] [] = some ([tms (cx (a :: G)), nt 0], []) := by
   obtain ⟨n, rfl⟩ := ag (show 0 < n by omega)
   obtain ⟨n, rfl⟩ := ag (show 0 < n by omega)
   rw [dm, hf (n + 1) (by omega)]
   simp only [evt, h0, show decide ((1 : Int) = 0) = false from rfl]
   rw [jS, bO, decide_eq_false (show ¬ (20 : Int) ≤ G.length by omega), Fa (n := n) (by omega) _ (by rw [bO]; omega)]
   simp only [evt]
   rw [aL (by simp [cx]; omega), qy]; rfl
  rw [ho]
  simp only [evt, show decide ((0 : Int) ≤ 1) = true from rfl, hk]
  rw [eo]
  exact ⟨y, c', rfl, h2⟩
def IhI (g B : Nat) : Prop := ∀ (n : Nat) (G : List Tm) (t : Tm), B ≤ n → (∀ A ∈ G, vdM A = true) → G.length ≤ 20 → vdM t = true → ∀ r, inI O g G t = some r → RSh [] (FF n 57 [tms (cx G), tm (of t)] []) r
theorem yP {M n : Nat} {c : List T} {u : Tm} {x : Option Rs} (hM : 7000500 ≤ M) (hn : M + 1 ≤ n) (h : IvI M c (of u) x) (ok : ∀ s, x = some (.ok s) → vdM s = true) (k : Int) {g : Tm → Option Rs} {r : Rs} (e : sq (frm O x) g = some r) :
   (∃ f, FF n 95 [tms c, tm (of u), nt k] [] = some ([tm (of f), nt 0], []) ∧ (of f).k = k ∧ vdM f = true ∧ g f = some r) ∨ (∃ f, FF n 95 [tms c, tm (of u), nt k] [] = some ([tm (.mk 0 0 []), nt 1], []) ∧ (of f).k ≠ k ∧ g f = some r) ∨
    ∃ c', FF n 95 [tms c, tm (of u), nt k] [] = some ([tm (.mk 0 0 []), nt c'], []) ∧ Er c' r := by
 obtain ⟨n, rfl⟩ := ag (show 0 < n by omega)
 unfold frm at e
 rw [Tm.a8] at e
 rw [oB]
 rcases sE (h n (by omega)) e with ⟨s, e1, eo, e2⟩ | ⟨y, c', eo, hc⟩
 ·rw [eo]
  simp only [evt]
  have hs := ae (ok s e1)
  rcases oY (n := n) (m := s) (by omega) hs k e2 with ⟨f, eo, hk, vf, _, e3⟩ | ⟨f, eo, hk, e3⟩ | ⟨eo, rfl⟩
  ·rw [eo]; exact .inl ⟨f, rfl, hk, vf, e3⟩
  ·rw [eo]; exact .inr (.inl ⟨f, rfl, hk, e3⟩)
  ·rw [eo]; exact .inr (.inr ⟨2, rfl, .opn⟩)
 ·rw [eo]
  simp only [evt]
  rw [decide_eq_false hc.ne]
  exact .inr (.inr ⟨c', rfl, hc⟩)
theorem EH {M n : Nat} {c : List T} {u : Tm} {x : Option Rs} (hM : 7000500 ≤ M) (hn : M + 2 ≤ n) (h : IvI M c (of u) x) (ok : ∀ s, x = some (.ok s) → vdM s = true) : ∀ r, lvl O x = some r → RLh [] (FF n 54 [tms c, tm (of u)] []) r := by
 intro r e
 obtain ⟨n, rfl⟩ := ag (show 0 < n by omega)
 rw [yb]
 rcases yP hM (n := n) (by omega) h ok 2 e with ⟨f, eo, hk, vf, e2⟩ | ⟨f, eo, hk, e2⟩ | ⟨c', eo, hc⟩
 ·rw [eo]
  cases f <;> try (rw [iw] at hk; simp only [Int.reduceEq] at hk; done)
  rename_i j
  cases e2
  simp only [evt]
  exact ⟨j, 0, rfl, rfl, j, rfl, rfl⟩
 ·rw [eo]
  simp only [evt]
  have : r = .bad := by
   cases f <;> first | (exact absurd (iw _) hk) | (cases e2; rfl)
  subst this
  exact ur .bad 0
 ·rw [eo]
  simp only [evt]
  exact ur hc 0
theorem gr {c : List T} {t : T} {o : OR} {r : Rs} (hh : RSh (hp c t) o r) : RSh (hp c t) (o.bind fun x0 => ba x0.2 fun x1 x2 => tsC x1 fun x3 x4 => bh x4 (ba x2 fun x5 x6 => bj .i64 x5 fun x7 x8 => bj .i64 x8 fun x9 x10 => tsC x10 fun x11 x12 => bh x12 (ah x0.1 fun x13 x14 => aw .i64 x14 fun x15 x16 => ai x16 (aj x6 (some ([.agg [.int .i64 x13.k, .int .i64 x13.n, .fr (.ts x13.kids)], .one (.int .i64 x15)], [.cells [.fr (.ts x3)], .cells [.int .i64 x7, .int .i64 x9, .fr (.ts x11)]])))))) r := by
 obtain ⟨x, c', rfl, h2⟩ := hh
 simp only [evt]
 exact ⟨x, c', rfl, h2⟩
theorem Ha {g B : Nat} (ih : IhI g B) (hB : 7000500 ≤ B) {n : Nat} {G : List Tm} {m : Tm} (hn : B + 20 ≤ n) (hG : ∀ A ∈ G, vdM A = true) (hl : G.length ≤ 20) (hv : vdM m = true) :
   ∀ r, kI O (inI O g) G m = some r → RSh (hp (cx G) (of m)) (FF n 100 [jd (cx G) (of m)] (hp (cx G) (of m))) r := by
 intro r e
 obtain ⟨n, rfl⟩ := ag (show 0 < n by omega)
 have iv : ∀ {u}, vdM u = true → IvI B (cx G) (of u) (inI O g G u) := fun h m hm r e => ih m G _ hm hG hl h r e
 have ok : ∀ {u}, vdM u = true → ∀ s, inI O g G u = some (.ok s) → vdM s = true := fun h s e => Tm.Eh aH h e
 have op : ∀ {i : Nat} {u : Tm}, under (of m).k i = 0 → (of m).kids[i]? = some (of u) → vdM u = true → Op (B + 1) (cx G) (of m) (i : Int) (inI O g G u) := fun h1 h2 h3 => Gk (by omega) h1 h2 (iv h3) (ok h3)
 have ob : ∀ {a u : Tm}, under (of m).k 1 = 1 → (of m).kids[(0 : Int).toNat]? = some (of a) → (of m).kids[(1 : Int).toNat]? = some (of u) → vdM a = true → vdM u = true → Op (B + 1) (cx G) (of m) 1 (ext (inI O g) G a u) := fun {a u} h1 h2 h3 ha hu =>
  Fg (by omega) h1 h2 h3 hl (fun h20 m hm r e => ih m (a :: G) u hm (fun A hA => by rcases List.mem_cons.1 hA with rfl | hA; exact ha; exact hG A hA) (by simp only [List.length_cons]; omega) hu r e) (fun s e => Tm.Eh aH hu e)
 rw [eU]
 cases m with
 | pi a b =>
  simp only [show ∀ c : Int, decide ((of (Tm.pi a b)).k = c) = decide ((3 : Int) = c) from fun _ => rfl, Int.reduceEq, decide_true, decide_false, cond_true, cond_false]
  obtain ⟨va, vb⟩ := aH.v_pi hv
  exact gr (EW (M := B + 1) (by omega) (n := n) (by omega) (op (i := 0) rfl rfl va) (ob rfl rfl rfl va vb) r e)
 | sig a b =>
  simp only [show ∀ c : Int, decide ((of (Tm.sig a b)).k = c) = decide ((13 : Int) = c) from fun _ => rfl, Int.reduceEq, decide_true, decide_false, cond_true, cond_false]
  obtain ⟨va, vb⟩ := aH.v_sig hv
  exact gr (EW (M := B + 1) (by omega) (n := n) (by omega) (op (i := 0) rfl rfl va) (ob rfl rfl rfl va vb) r e)
 | lam a b =>
  simp only [show ∀ c : Int, decide ((of (Tm.lam a b)).k = c) = decide ((4 : Int) = c) from fun _ => rfl, Int.reduceEq, decide_true, decide_false, cond_true, cond_false]
  obtain ⟨va, vb⟩ := aH.v_lam hv
  exact gr (CL (M := B + 1) (by omega) (n := n) (by omega) rfl (op (i := 0) rfl rfl va) (ob rfl rfl rfl va vb) va (fun P => inI O g G P) (fun X _ vP m hm r e => ih m G _ (by omega) hG hl vP r e) r e)
 | elim p z s q =>
  simp only [show ∀ c : Int, decide ((of (Tm.elim p z s q)).k = c) = decide ((9 : Int) = c) from fun _ => rfl, Int.reduceEq, decide_true, decide_false, cond_true, cond_false]
  obtain ⟨va, vb, vd, ve, _⟩ := aH.v_elim hv
  exact gr (zR (M := B + 1) (by omega) (n := n) (by omega) rfl rfl hv (op (i := 0) rfl rfl va) (op (i := 1) rfl rfl vb) (op (i := 2) rfl rfl vd) (op (i := 3) rfl rfl ve) r e)
 | id a b d =>
  simp only [show ∀ c : Int, decide ((of (Tm.id a b d)).k = c) = decide ((10 : Int) = c) from fun _ => rfl, Int.reduceEq, decide_true, decide_false, cond_true, cond_false]
  obtain ⟨va, vb, vd⟩ := aH.v_id hv
  exact gr (BX (M := B + 1) (by omega) (n := n) (by omega) rfl va (op (i := 0) rfl rfl va) (op (i := 1) rfl rfl vb) (op (i := 2) rfl rfl vd) r e)
 | move a b d =>
  simp only [show ∀ c : Int, decide ((of (Tm.move a b d)).k = c) = decide ((12 : Int) = c) from fun _ => rfl, Int.reduceEq, decide_true, decide_false, cond_true, cond_false]
  obtain ⟨va, vb, vd⟩ := aH.v_move hv
  exact gr (IS (M := B + 1) (by omega) (n := n) (by omega) rfl hv (op (i := 0) rfl rfl va) (op (i := 1) rfl rfl vb) (op (i := 2) rfl rfl vd) r e)
 | pair a b d =>
  simp only [show ∀ c : Int, decide ((of (Tm.pair a b d)).k = c) = decide ((14 : Int) = c) from fun _ => rfl, Int.reduceEq, decide_true, decide_false, cond_true, cond_false]
  obtain ⟨va, vb, vd⟩ := aH.v_pair hv
  exact gr (G8 (M := B + 1) (by omega) (n := n) (by omega) rfl rfl hv (op (i := 0) rfl rfl va) (op (i := 1) rfl rfl vb) (op (i := 2) rfl rfl vd) r e)
 | fst a =>
  simp only [show ∀ c : Int, decide ((of (Tm.fst a)).k = c) = decide ((15 : Int) = c) from fun _ => rfl, Int.reduceEq, decide_true, decide_false, cond_true, cond_false]
  have va := aH.v_fst hv
  exact gr ((Hj (M := B + 1) (by omega) (n := n) (by omega) rfl hv (op (i := 0) rfl rfl va)).1 rfl r e)
 | snd a =>
  simp only [show ∀ c : Int, decide ((of (Tm.snd a)).k = c) = decide ((16 : Int) = c) from fun _ => rfl, Int.reduceEq, decide_true, decide_false, cond_true, cond_false]
  have va := aH.v_snd hv
  have vf : vdM (.fst a) = true := by
   have h := fj.1 hv
   rw [fj]
   exact h
  exact gr ((Hj (M := B + 1) (by omega) (n := n) (by omega) rfl vf (op (i := 0) rfl rfl va)).2 rfl r e)
 | var m =>
  simp only [show ∀ c : Int, decide ((of (Tm.var m)).k = c) = decide ((1 : Int) = c) from fun _ => rfl, Int.reduceEq, decide_true, decide_false, cond_true, cond_false]
  have e : (match Tm.look G m with | some A => made O A | none => some Rs.bad) = some r := e
  rw [bO, show (of (Tm.var m)).n = (m : Int) from rfl]
  cases hlk : Tm.look G m with
  | none =>
   rw [hlk] at e; cases e
   have := p7 hlk
   rw [decide_eq_true (show (G.length : Int) ≤ m by omega)]
   exact a6 .bad (.mk 0 0 [])
  | some A =>
   rw [hlk] at e
   have hlt := Ei hlk
   obtain ⟨C, hC, rfl⟩ := oI hlk
   have vC := hG C (List.mem_of_getElem? hC)
   have zC := ae vC
   have hg := HQ G hlt
   rw [hC] at hg
   have w : IntKind.i64.wrap (IntKind.i64.wrap ((G.length : Int) - 1) - m) = ((G.length - 1 - m : Nat) : Int) := by
    rw [wrap64 (a := (G.length : Int) - 1) (by omega), wrap64 (by omega)]; omega
   have w1 : IntKind.i64.wrap ((m : Int) + 1) = ((m + 1 : Nat) : Int) := by rw [wrap64 (by omega)]; rfl
   rw [decide_eq_false (show ¬ (G.length : Int) ≤ m by omega), w, decide_eq_true (show (0 : Int) ≤ ((G.length - 1 - m : Nat) : Int) by omega), Int.toNat_natCast, hg, w1]
   simp only [Option.map_some, evt]
   have hs := pd (n := n) (t := of C) (a := ((m + 1 : Nat) : Int)) (c := 0) (by omega) (wz vC) (by omega) (by omega) (by omega)
   rw [shR, uI] at hs
   rw [hs]
   simp only [evt]
   refine j9 (uf (n := n) (m := C.ren (· + (m + 1))) ?_) r e
   rw [← uI, m5]; omega
 | sort m =>
  simp only [show ∀ c : Int, decide ((of (Tm.sort m)).k = c) = decide ((2 : Int) = c) from fun _ => rfl, Int.reduceEq, decide_true, decide_false, cond_true, cond_false]
  have hm := aH.v_sort.1 hv
  have e : some (if m < 3 then Rs.ok (.sort (m + 1)) else Rs.bad) = some r := e
  rw [show (of (Tm.sort m)).n = (m : Int) from rfl]
  by_cases h3 : m < 3
  ·rw [if_pos h3] at e; cases e
   rw [decide_eq_false (show ¬ (m : Int) = 3 by omega), wrap64 (show -9223372036854775808 ≤ (m : Int) + 1 ∧ (m : Int) + 1 ≤ 9223372036854775807 by omega)]
   simp only [evt]
   rw [AB (n := n) (by omega)]
   simp only [evt]
   exact ⟨of (.sort (m + 1)), 0, rfl, rfl, rfl⟩
  ·rw [if_neg h3] at e; cases e
   rw [decide_eq_true (show (m : Int) = 3 by omega)]
   exact a6 .bad (.mk 0 0 [])
 | nat =>
  simp only [show ∀ c : Int, decide ((of (Tm.nat)).k = c) = decide ((6 : Int) = c) from fun _ => rfl, Int.reduceEq, decide_true, decide_false, cond_true, cond_false]
  cases e
  rw [AB (n := n) (by omega)]
  simp only [evt]
  exact ⟨of (.sort 0), 0, rfl, rfl, rfl⟩
 | zero =>
  simp only [show ∀ c : Int, decide ((of (Tm.zero)).k = c) = decide ((7 : Int) = c) from fun _ => rfl, Int.reduceEq, decide_true, decide_false, cond_true, cond_false]
  cases e
  rw [tw (n := n) (by omega)]
  simp only [evt]
  exact ⟨of .nat, 0, rfl, rfl, rfl⟩
 | succ a =>
  simp only [show ∀ c : Int, decide ((of (Tm.succ a)).k = c) = decide ((8 : Int) = c) from fun _ => rfl, Int.reduceEq, decide_true, decide_false, cond_true, cond_false]
  have va := aH.v_succ hv
  have zn : (of .nat).size ≤ 100000 := by decide
  rw [tw (n := n) (by omega)]
  simp only [evt]
  rcases jn (mF (M := B + 1) (by omega) (n := n) (by omega) (show Op (B + 1) _ _ 0 _ from op (i := 0) rfl rfl va) (w := .nat) zn) e with ⟨t', e1, eo, e2⟩ | ⟨c', eo, hc⟩
  ·have eo : FF n 125 [jd (cx G) (of (.succ a)), nt 0, .agg [.int .i64 6, .int .i64 0, .fr (.ts [])]] (hp (cx G) (of (.succ a))) = _ := eo
   cases e2
   rw [eo]
   simp only [evt]
   exact ⟨of .nat, 0, rfl, rfl, rfl⟩
  ·have eo : FF n 125 [jd (cx G) (of (.succ a)), nt 0, .agg [.int .i64 6, .int .i64 0, .fr (.ts [])]] (hp (cx G) (of (.succ a))) = _ := eo
   rw [eo]
   simp only [evt]
   rw [decide_eq_false hc.ne]
   exact a6 hc (.mk 0 0 [])
 | app f u =>
  simp only [show ∀ c : Int, decide ((of (Tm.app f u)).k = c) = decide ((5 : Int) = c) from fun _ => rfl, Int.reduceEq, decide_true, decide_false, cond_true, cond_false]
  obtain ⟨va, vb⟩ := aH.v_app hv
  have zb := ae vb
  have e : (sq (frm O (inI O g G f)) fun F => match F with
   | .pi C B => sq (chk O (inI O g G u) C) fun _ => made O (B.inst u)
   | _ => some .bad) = some r := e
  rcases sd (M := B + 1) (by omega) (n := n) (by omega) (show Op (B + 1) _ _ 0 _ from op (i := 0) rfl rfl va) 3 e with ⟨F, eo, hk, vf, e2⟩ | ⟨F, eo, hk, e2⟩ | ⟨c', eo, hc⟩
  ·rw [eo]
   cases F <;> try (rw [iw] at hk; simp only [Int.reduceEq] at hk; done)
   rename_i C D
   obtain ⟨vC, vD⟩ := aH.v_pi vf
   have zC := ae vC
   have zi := iF vD vb
   have hs := Bg (n := n) (by omega) (of C) [of D] 3 0
   simp only [tm, cL, cP, ay] at hs
   simp only [evt, of, rB]
   rw [hs]
   simp only [evt]
   rcases jn (Cy (M := B + 1) (by omega) (n := n) (by omega) (show Op (B + 1) _ _ 1 _ from op (i := 1) rfl rfl vb) (w := C) (by omega)) e2 with ⟨t', e3, eo, e4⟩ | ⟨c', eo, hc⟩
   ·simp only [of, tm, jd, hp, cL, cP, ay] at eo
    rw [eo]
    simp only [evt, rB]
    rw [yM (n := n) (by omega) vD vb]
    simp only [evt]
    exact j9 (uf (n := n) (m := D.inst u) (by omega)) r e4
   ·simp only [of, tm, jd, hp, cL, cP, ay] at eo
    rw [eo]
    simp only [evt]
    rw [decide_eq_false hc.ne]
    exact a6 hc (.mk 0 0 [])
  ·rw [eo]
   have hs := mo (n := n) (by omega)
   have hq := nY (n := n) (c := cx G) (t := of (.app f u)) (i := 1) (by omega) (.mk 0 0 []) (c' := 1) (by decide)
   simp only [tm, cL, cP, ay] at hs hq
   simp only [evt]
   rw [hs]
   simp only [evt]
   rw [hq]
   have : r = .bad := by
    cases F <;> first | (exact absurd (iw _) hk) | (cases e2; rfl)
   subst this
   exact a6 .bad (.mk 0 0 [])
  ·rw [eo]
   have hs := mo (n := n) (by omega)
   have hq := nY (n := n) (c := cx G) (t := of (.app f u)) (i := 1) (by omega) (.mk 0 0 []) (c' := c') hc.ne
   simp only [tm, cL, cP, ay] at hs hq
   simp only [evt]
   rw [hs]
   simp only [evt]
   rw [hq]
   simp only [evt]
   rw [decide_eq_false hc.ne]
   exact a6 hc (.mk 0 0 [])
 | refl a =>
  simp only [show ∀ c : Int, decide ((of (Tm.refl a)).k = c) = decide ((11 : Int) = c) from fun _ => rfl, Int.reduceEq, decide_true, decide_false, cond_true, cond_false]
  have va := aH.v_refl hv
  have za := ae va
  have e : (sq (inI O g G a) fun A => sq (lvl O (inI O g G A)) fun _ => made O (.id A a a)) = some r := e
  rcases sE ((op (i := 0) rfl rfl va).iv n (by omega)) e with ⟨A, e1, eo, e2⟩ | ⟨y, c', eo, hc⟩
  ·have vA := ok va A e1
   have zA := ae vA
   rw [show ((0 : Nat) : Int) = 0 from rfl] at eo
   rw [eo]
   simp only [evt]
   rcases sA (EH (M := B) (by omega) (n := n) (by omega) (iv vA) (ok vA)) e2 with ⟨i, e3, eo, e4⟩ | ⟨i, c', eo, hc⟩
   ·simp only [tms, tm] at eo
    rw [eo]
    simp only [evt, of, qH]
    rw [j6 (n := n) (by omega)]
    simp only [evt]
    exact j9 (nW (n := n) (m := .id A a a) (by simp only [of, T.size, T.aE]; omega)) r e4
   ·simp only [tms, tm] at eo
    rw [eo]
    simp only [evt]
    rw [decide_eq_false hc.ne]
    exact a6 hc (.mk 0 0 [])
  ·rw [show ((0 : Nat) : Int) = 0 from rfl] at eo
   rw [eo]
   simp only [evt]
   rw [decide_eq_false hc.ne]
   exact a6 hc (.mk 0 0 [])
theorem Dh : ∀ g, IhI g (7000500 + 30 * g)
 | 0 => fun n G t _ _ _ _ r e => by cases e
 | g + 1 => fun n G t hn hG hl hv r e => by
  obtain ⟨n, rfl⟩ := ag (show 0 < n by omega)
  rw [xo]
  obtain ⟨x, c', h1, h2⟩ := Ha (Dh g) (by omega) (n := n) (by omega) hG hl hv r e
  rw [h1]
  simp only [evt]
  exact ⟨x, c', rfl, h2⟩
end Go.Proofs.YtajlknlnmmbfcaaGreat
end
section
namespace Go.Proofs.YtajlknlnmmbfcaaGreat
open Go Go.Ab Go.Dk
abbrev st (s : ByteArray) : V1 := .one (.str s)
abbrev Kq (s : ByteArray) (a : Int) (r : List V1 × List av) : Prop := ∃ (t : T) (e : Int), r = ([tm t, nt e], []) ∧ -1 ≤ e ∧ e ≤ s.size ∧ (0 ≤ e → a + t.size ≤ e)
theorem Bd {n : Nat} (hn : 1 ≤ n) (k m : Int) : Tot (FF n 82 [nt k, nt m] []) (fun r => r = ([tm (.mk k m [])], [])) := ⟨_, cd hn k m, rfl⟩
theorem pV {n : Nat} (hn : 1 ≤ n) (k : Int) (l : List T) (hl : l.length ≤ 100) : Tot (FF n 81 [nt k, tms l] []) (fun r => r = ([tm (.mk k 0 l)], [])) := ⟨_, cr hn k l (by omega), rfl⟩
theorem AT {n : Nat} (hn : 1 ≤ n) (k : Int) : Tot (FF n 138 [nt k] []) (fun r => r = ([nt (opsOf k)], [])) := ⟨_, lQ hn k, rfl⟩
section
variable {s : ByteArray} (hs : s.size ≤ 1000000) {d N : Nat} (hd : d ≤ 30) (ih : ∀ n, N ≤ n → ∀ a : Int, 0 ≤ a → a ≤ s.size + 1 → Tot (FF n 154 [st s, nt a, nt (d : Int)] []) (Kq s a))
include hs hd ih
end
abbrev rC (m : Nat) (r : List V1 × List av) : Prop := ∃ s : ByteArray, r = ([st s], []) ∧ s.size ≤ m
theorem BC (v : Int) (h : 0 ≤ v ∧ v ≤ 9) : IntKind.u8.wrap (IntKind.i64.wrap (48 + v)) = 48 + v := by
 rw [wrap64 (by omega)]
 rw [IntKind.wrap]; simp [IntKind.signed, IntKind.bits]; omega
theorem GP {n : Nat} (hn : 5 ≤ n) {v : Int} (hv : 0 ≤ v ∧ v ≤ 99) : Tot (FF n 182 [nt v] []) (rC 2) := by
 refine aK (C := 4) hn fun n hn _ => ?_
 rw [uu]
 rw [decide_eq_false (show ¬ v < -9223372036854775807 by omega), decide_eq_false (show ¬ v < 0 by omega)]
 simp only [cond_false]
 have fin : ∀ (m : Nat) (v : Int) (x : ByteArray), 0 ≤ v ∧ v ≤ 9 → x.size ≤ 1 → Tot (eM n (m + 1) v x) (rC 2) := by
  intro m v x hv hx
  rw [hJ, BC v hv, decide_eq_false (show ¬ 9 < v by omega), decide_eq_true (show 0 ≤ 48 + v by omega), decide_eq_true (show 48 + v ≤ 255 by omega)]
  simp only [Bool.and_self, cond_true, cond_false]
  refine al (fun _ => aq ?_) (fun hq => ?_)
  ·exact ⟨_, rfl, by rw [ByteArray.size_append]; show 1 + x.size ≤ 2; omega⟩
  ·have hq' := of_decide_eq_false hq
   exact absurd (show 1 + x.size ≤ 9223372036854775807 by omega) hq'
 obtain ⟨m, rfl⟩ : ∃ m, n = m + 2 := ⟨n - 2, by omega⟩
 by_cases h9 : 9 < v
 ·have hm := pB (show 0 ≤ v by omega) (show (0 : Int) < 10 by omega)
  have hd := zH (show 0 ≤ v by omega) (show (0 : Int) < 10 by omega)
  have hd2 : v.tdiv 10 ≤ 9 := by rw [Int.tdiv_eq_ediv_of_nonneg (by omega)]; omega
  rw [hJ, BC _ (by omega), decide_eq_true h9, decide_eq_true (show 0 ≤ 48 + v.tmod 10 by omega), decide_eq_true (show 48 + v.tmod 10 ≤ 255 by omega), wrap64 (by omega)]
  simp only [Bool.and_self, cond_true]
  refine al (fun _ => ?_) (fun hq => ?_)
  ·exact fin m _ _ ⟨hd.1, hd2⟩ (by rw [ByteArray.size_append]; exact Nat.le_refl 1)
  ·have hq' := of_decide_eq_false hq
   exact absurd (show 1 + 0 ≤ 9223372036854775807 by omega) hq'
 ·exact fin (m + 1) v _ ⟨hv.1, by omega⟩ (by decide)
theorem size_bytes (l : List UInt8) : (bytesOf l).size = l.length := by simp [bytesOf, ByteArray.size]
theorem vO (n : Nat) (ts : List T) (hl : ts.length ≤ 1000) (hsz : T.aE ts ≤ 1000) (h : ∀ u ∈ ts, Tot (FF n 177 [tm u] []) (rC (8 * u.size - 1))) :
   ∀ g m (i : Nat) (x : ByteArray), g < m → i + g = ts.length → x.size + 8 * T.aE (ts.drop i) ≤ 8 * T.aE ts → Tot (cJ n m ts x i) (rC (8 * T.aE ts))
 | g, 0, i, x, hg, _, _ => by omega
 | 0, m + 1, i, x, _, hi, hx => by
  rw [g6, decide_eq_false (show ¬ (i : Int) < ts.length by omega)]
  refine aq ?_
  exact ⟨_, rfl, by omega⟩
 | g + 1, m + 1, i, x, hg, hi, hx => by
  have hlt : i < ts.length := by omega
  have hm := List.getElem_mem hlt
  rw [List.drop_eq_getElem_cons hlt, T.aE] at hx
  have w : IntKind.i64.wrap ((i : Int) + 1) = ((i + 1 : Nat) : Int) := wrap64 (by omega)
  have hp := size_pos ts[i]
  rw [g6, w]
  simp only [Int.toNat_natCast, List.getElem?_eq_getElem hlt, Option.bind_some, ByteArray.size_append, size_bytes, List.length_cons, List.length_nil]
  have nx : ∀ y : ByteArray, y.size ≤ x.size + 8 * ts[i].size → Tot (cJ n m ts y ((i + 1 : Nat) : Int)) (rC (8 * T.aE ts)) := fun y hy => vO n ts hl hsz h g m (i + 1) y (by omega) (by omega) (by omega)
  repeat' (first | (simp (disch := omega) only [wrap64]; done) | (simp (disch := omega) only [wrap64]) | (with_reducible refine al (fun hq => ?_) (fun hq => ?_) <;> (try simp (disch := omega) only [wrap64] at hq) <;> (try simp only [decide_eq_true_eq, decide_eq_false_iff_not, Bool.not_eq_true', Bool.not_eq_false', Bool.and_eq_true, Bool.and_eq_false_iff, inB, Bool.not_true, Bool.not_false] at hq) <;> try (exfalso; omega; done)) | (with_reducible refine af (h _ hm) ?_; rintro _ ⟨s, rfl, hs⟩; simp only [evt]) | (with_reducible exact nx _ (by simp only [ByteArray.size_append, size_bytes, List.length_cons, List.length_nil]; omega)))
theorem I7 {t : T} {i : Nat} {k : T → OR} {Q : List V1 × List av → Prop} (h : i < t.kids.length) (hk : Tot (k (kd t i)) Q) : Tot (t.kids[i]?.bind k) Q := by
 rw [cG h]; exact hk
theorem F8 (t : T) : ∀ {n : Nat}, 2 * t.size + 10 ≤ n → ak t = true → Tot (FF n 177 [tm t] []) (rC (8 * t.size - 1)) := by
 induction t using T.ind with | h t ih =>
 intro n hn hv
 have hsz := T.size_eq t
 have hz := ae hv
 have hl := T.br t.kids
 have ho := m6 hv
 refine aK (C := 2 * t.size + 9) hn fun n hn _ => ?_
 have hk : ∀ i, i < t.kids.length → Tot (FF n 177 [tm (kd t i)] []) (rC (8 * (kd t i).size - 1)) := fun i hi => ih _ (kA hi) (by have := T.aV (kA hi); omega) (bB hv (kA hi))
 have hkz : ∀ i, i < t.kids.length → (kd t i).size ≤ T.aE t.kids := fun i hi => T.aV (kA hi)
 have hlist : Tot (FF n 183 [tms t.kids] []) (rC (8 * T.aE t.kids)) := by
  refine aK (C := 2 * t.size + 8) (by omega) fun n hn e => ?_
  subst e
  rw [tX]
  exact vO n t.kids (by omega) (by omega) (fun u hu => ih u hu (by have := T.aV hu; omega) (bB hv hu)) t.kids.length n 0 _ (by omega) (by omega) (by simp [size_bytes])
 rw [sS]
 simp only [Int.toNat_zero, Int.reduceToNat, Int.toNat_one]
 have l8 : t.k = 8 → t.kids.length = 1 := fun h => bY hv (c := 1) (by rw [h]; rfl)
 have l11 : t.k = 11 → t.kids.length = 1 := fun h => bY hv (c := 1) (by rw [h]; rfl)
 have l15 : t.k = 15 → t.kids.length = 1 := fun h => bY hv (c := 1) (by rw [h]; rfl)
 have l16 : t.k = 16 → t.kids.length = 1 := fun h => bY hv (c := 1) (by rw [h]; rfl)
 have l3 : t.k = 3 → t.kids.length = 2 := fun h => bY hv (c := 2) (by rw [h]; rfl)
 have l13 : t.k = 13 → t.kids.length = 2 := fun h => bY hv (c := 2) (by rw [h]; rfl)
 have l5 : t.k = 5 → t.kids.length = 2 := fun h => bY hv (c := 2) (by rw [h]; rfl)
 have l4 : t.k = 4 → t.kids.length = 2 := fun h => bY hv (c := 2) (by rw [h]; rfl)
 have h01 : t.kids.length = 2 → (kd t 0).size + (kd t 1).size ≤ T.aE t.kids := by
  intro h2
  cases t with | mk k n' ts =>
  match ts, h2 with
  | [x, y], _ => simp [kd, T.kids, T.aE]
 have h0 := hkz 0
 have z0 := size_pos (kd t 0)
 have z1 := size_pos (kd t 1)
 have hn20 : 0 ≤ t.n ∧ t.n ≤ 20 := ⟨(pz (fE hv)).1, (pz (fE hv)).2.1⟩
 simp only [ByteArray.size_append, size_bytes, List.length_cons, List.length_nil]
 repeat' (first | (simp (disch := omega) only [wrap64]; done) | (simp (disch := omega) only [wrap64]) | (with_reducible refine al (fun hq => ?_) (fun hq => ?_) <;> (try simp (disch := omega) only [wrap64] at hq) <;> (try simp only [decide_eq_true_eq, decide_eq_false_iff_not, Bool.not_eq_true', Bool.not_eq_false', Bool.and_eq_true, Bool.and_eq_false_iff, inB, Bool.not_true, Bool.not_false] at hq) <;> try (exfalso; omega; done)) | (with_reducible refine af (GP (by omega) (by omega)) ?_; rintro _ ⟨s, rfl, hs⟩; simp only [evt]) | (with_reducible refine af (hlist) ?_; rintro _ ⟨s, rfl, hs⟩; simp only [evt]) | ((with_reducible refine I7 (t := t) (by omega) ?_)) | (with_reducible refine af (hk 0 (by omega)) ?_; rintro _ ⟨s, rfl, hs⟩; simp only [evt]) | (with_reducible refine af (hk 1 (by omega)) ?_; rintro _ ⟨s', rfl, hs'⟩; simp only [evt]) | ((with_reducible refine aq ?_); (exact ⟨_, rfl, by simp only [ByteArray.size_append, size_bytes, List.length_cons, List.length_nil]; omega⟩)))
theorem xH {n : Nat} {t : T} (hn : 3 * t.size + 2000 ≤ n) (hz : t.size ≤ 1000000) : Tot (FF n 155 [tm t] []) (fun r => ∃ s : ByteArray, r = ([st s], []) ∧ (ak t = false → s.size = 0)) := by
 refine aK (C := 3 * t.size + 1999) hn fun n hn _ => ?_
 rw [nn, aW (by omega) (by omega)]
 simp only [evt]
 cases hv : ak t with
 | false => exact ⟨_, rfl, _, rfl, fun _ => rfl⟩
 | true =>
  simp only [Bool.not_true, cond_false]
  refine af (F8 t (by omega) hv) ?_
  rintro _ ⟨s, rfl, _⟩
  exact ⟨_, rfl, _, rfl, fun h => by cases h⟩
end Go.Proofs.YtajlknlnmmbfcaaGreat
end
section
namespace Go.Proofs.YtajlknlnmmbfcaaGreat
open Go Go.Ab Go.Dk
theorem kD {n : Nat} (hn : 1 ≤ n) {l : List UInt8} {p m k : Int} (h : jk l p m) (hm : m ≤ 1000000000000) (hk : k ≤ 2147483648) :
   Tot (FF n 79 [.one (.ptr 0 0), nt k] [rdr l p]) (fun r => ∃ v p' : Int, r = ([nt v], [rdr l p']) ∧ 0 ≤ v ∧ (0 < k → v < k) ∧ jk l p' (m + 1)) := by
 obtain ⟨v, ⟨h1, h2, _⟩, h3, h4⟩ := HS h (by omega) hk
 exact ⟨_, h4 n hn, v, _, rfl, h1, h2, h3⟩
theorem s9 {n : Nat} (hn : 2 ≤ n) {l : List UInt8} {p m : Int} {ss : List Int} (h : jk l p m) (hm : m ≤ 1000000000000) (hs : ss ≠ []) (hl : ss.length ≤ 1000) :
   Tot (FF n 86 [.one (.ptr 0 0), .one (.fr (.is ss))] [rdr l p]) (fun r => ∃ v p' : Int, r = ([nt v], [rdr l p']) ∧ v ∈ ss ∧ jk l p' (m + 1)) := by
 obtain ⟨v, h1, h3, h4⟩ := Mq h (by omega) hs (by omega)
 exact ⟨_, h4 n hn, v, _, rfl, h1, h3⟩
theorem Hi {n : Nat} (hn : 1 ≤ n) (l : List UInt8) : Tot (FF n 48 [.one (.fr (.bs l))] []) (fun r => ∃ l', r = ([.one (.ptr 0 0)], [rdr l' 0]) ∧ jk l' 0 0) := by
 obtain ⟨l', h1, h2⟩ := Lk l
 exact ⟨_, h2 n hn, l', rfl, h1⟩
theorem CF : ak (.mk 7 0 []) = true := by decide +kernel
theorem GI (ts : List T) (v : T) (h : 0 < ts.length) : T.aE (ts.set 0 v) ≤ T.aE ts + v.size := by
 match ts, h with
 | t :: ts, _ => simp only [List.set_cons_zero, T.aE]; omega
theorem C0 (ts : List T) (v : T) : T.aE (ts ++ [v]) = T.aE ts + v.size := by
 induction ts with
 | nil => simp [T.aE]
 | cons x ts ih => simp only [List.cons_append, T.aE, ih]; omega
end Go.Proofs.YtajlknlnmmbfcaaGreat
end
section
namespace Go.Proofs.YtajlknlnmmbfcaaGreat
open Go Go.Ab Go.Dk
def okA (l : List T) : Bool := decide (l.length ≤ 8) && l.all ak
theorem jM {l : List T} (h : okA l = true) : l.length ≤ 8 ∧ ∀ t ∈ l, ak t = true := by
 unfold okA at h
 rw [Bool.and_eq_true, decide_eq_true_eq, List.all_eq_true] at h
 exact h
theorem Bu (n : Nat) (l : List T) (hl : l.length ≤ 4000000) (h : ∀ t ∈ l, FF n 107 [tm t] [] = some ([bl (!ak t)], [])) :
   ∀ g m (i : Nat), g < m → i + g = l.length → ∃ v, aO n m l l.length i = some ([nt v], []) ∧ (0 ≤ v ↔ (l.drop i).all ak = false)
 | g, 0, i, hg, _ => by omega
 | 0, m + 1, i, _, hi => by
  rw [bP, List.drop_of_length_le (by omega), decide_eq_false (show ¬ (i : Int) < l.length by omega)]
  exact ⟨-1, rfl, by simp⟩
 | g + 1, m + 1, i, hg, hi => by
  have hlt : i < l.length := by omega
  rw [List.drop_eq_getElem_cons hlt, List.all_cons]
  rw [bP]; simp (disch := omega) only [evt, az, Int.toNat_natCast, gx, wrap64, aL, List.length_append, List.length_cons, List.length_nil, if_pos (show (i : Int) < l.length by omega), if_pos (show 0 ≤ (i : Int) by omega), List.getElem?_eq_getElem hlt, h _ (List.getElem_mem hlt)]
  cases hs : ak l[i] with
  | false => exact ⟨i, rfl, by simp⟩
  | true =>
   simp only [Bool.not_true, cond_false, Bool.true_and]
   exact Bu n l hl h g m (i + 1) (by omega) (by omega)
theorem sL {n : Nat} {l : List T} (hn : 4400000 ≤ n) (hl : l.length ≤ 4000000) (hz : ∀ t ∈ l, t.size ≤ 4000000) : FF n 69 [tms l] [] = some ([bl (okA l)], []) := by
 obtain ⟨n, rfl⟩ : ∃ m, n = m + 3 := ⟨n - 3, by omega⟩
 have hc : ∀ t ∈ l, FF n 107 [tm t] [] = some ([bl (!ak t)], []) := by
  intro t ht
  have := hz t ht
  obtain ⟨n, rfl⟩ : ∃ m, n = m + 1 := ⟨n - 1, by omega⟩
  rw [nv, aX (by omega)]
  simp only [evt]
 obtain ⟨v, h1, h2⟩ := Bu n l hl hc l.length n 0 (by omega) (by omega)
 rw [py]
 unfold okA
 by_cases h8 : l.length ≤ 8
 ·rw [decide_eq_true (show (l.length : Int) ≤ 8 by omega), decide_eq_true h8, dB, ee]
  rw [show (aO n n l l.length 0) = _ from h1]
  simp only [evt]
  rw [List.drop_zero] at h2
  cases ha : l.all ak with
  | true =>
   rw [ha] at h2
   have : ¬ (0 : Int) ≤ v := fun hh => by have := h2.1 hh; cases this
   rw [decide_eq_false this]; rfl
  | false =>
   rw [ha] at h2
   rw [decide_eq_true (h2.2 rfl)]; rfl
 ·rw [decide_eq_false (show ¬ (l.length : Int) ≤ 8 by omega), decide_eq_false h8]; rfl
theorem we (n : Nat) (l : List T) (hl : l.length ≤ 4000000) (h : ∀ t ∈ l, FF n 65 [tm t] [] = some ([bl (ak t)], [])) :
   ∀ g m (i : Nat), g < m → i + g = l.length → eN n m l i = some ([bl ((l.drop i).all ak && decide (l.length ≤ 8))], [])
 | g, 0, i, hg, _ => by omega
 | 0, m + 1, i, _, hi => by
  rw [g9, List.drop_of_length_le (by omega), decide_eq_false (show ¬ (i : Int) < l.length by omega)]
  have : decide ((l.length : Int) ≤ 8) = decide (l.length ≤ 8) := decide_eq_decide.2 (by omega)
  simp [this]
 | g + 1, m + 1, i, hg, hi => by
  have hlt : i < l.length := by omega
  rw [List.drop_eq_getElem_cons hlt, List.all_cons]
  rw [g9]; simp (disch := omega) only [evt, az, Int.toNat_natCast, gx, wrap64, aL, List.length_append, List.length_cons, List.length_nil, if_pos (show (i : Int) < l.length by omega), if_pos (show 0 ≤ (i : Int) by omega), List.getElem?_eq_getElem hlt, h _ (List.getElem_mem hlt)]
  cases hs : ak l[i] with
  | false => simp
  | true =>
   simp only [Bool.not_true, cond_false, Bool.true_and]
   exact we n l hl h g m (i + 1) (by omega) (by omega)
theorem jf {n : Nat} {l : List T} (hn : 4400000 ≤ n) (hl : l.length ≤ 4000000) (hz : ∀ t ∈ l, t.size ≤ 4000000) : FF n 64 [tms l] [] = some ([bl (okA l)], []) := by
 obtain ⟨n, rfl⟩ := ag (show 0 < n by omega)
 rw [tt]
 have := we n l hl (fun t ht => aW (by have := hz t ht; omega) (hz t ht)) l.length n 0 (by omega) (by omega)
 rw [List.drop_zero] at this
 unfold okA
 rw [Bool.and_comm]
 exact this
def Bt (f : T) (l : List T) : T := l.foldl (fun t a => .mk 5 0 [t, a]) f
theorem By : ∀ (l : List T) (f : T), (Bt f l).size = f.size + l.length + T.aE l
 | [], f => by simp [Bt, T.aE]
 | a :: l, f => by
  have := By l (.mk 5 0 [f, a])
  unfold Bt at this ⊢
  rw [List.foldl_cons, this]
  simp only [T.size, T.aE, List.length_cons]; omega
theorem A9 {l : List T} {k : Nat} (h : ∀ t ∈ l, t.size ≤ k) : T.aE l ≤ l.length * k := by
 induction l with
 | nil => simp [T.aE]
 | cons t l ih =>
  rw [T.aE, List.length_cons, Nat.add_mul, Nat.one_mul]
  have h1 := h t (List.mem_cons_self ..)
  have h2 := ih fun u hu => h u (List.mem_cons_of_mem _ hu)
  omega
theorem C7 {l : List T} {f : T} (hf : ak f = true) (hl : okA l = true) : (Bt f l).size ≤ 5000 := by
 obtain ⟨h1, h2⟩ := jM hl
 have h3 := A9 (k := 400) fun t ht => ae (h2 t ht)
 have h4 : l.length * 400 ≤ 8 * 400 := Nat.mul_le_mul_right 400 h1
 rw [By]
 have := ae hf
 omega
theorem AH (n : Nat) (hn : 20000 ≤ n) (l : List T) (hl : l.length ≤ 8) (z1 z2 : Int) (l0 : List T) (u : T) (hu : u.size ≤ 10000) : ∀ g m (i : Nat) (t : T), g < m → i + g = l.length → Bt t (l.drop i) = u →
   cC n m l l.length i z1 z2 l0 t.k t.n t.kids = some ([tm (okT u), bl (ak u)], [])
 | g, 0, i, t, hg, _, _ => by omega
 | 0, m + 1, i, t, _, hi, he => by
  rw [List.drop_of_length_le (by omega)] at he
  have he : t = u := he
  subst he
  have ho := dt (n := n) (t := t) (by omega) (by omega)
  rw [ez, decide_eq_false (show ¬ (i : Int) < l.length by omega)]
  simp only [cond_false, ho, evt]
 | g + 1, m + 1, i, t, hg, hi, he => by
  have hlt : i < l.length := by omega
  rw [List.drop_eq_getElem_cons hlt] at he
  have w : IntKind.i64.wrap ((i : Int) + 1) = ((i + 1 : Nat) : Int) := wrap64 (by omega)
  have := AH n hn l hl z1 z2 l0 u hu g m (i + 1) (.mk 5 0 [t, l[i]]) (by omega) (by omega) he
  rw [ez, w, decide_eq_true (show (i : Int) < l.length by omega), decide_eq_true (show 0 ≤ (i : Int) by omega), Int.toNat_natCast, List.getElem?_eq_getElem hlt]
  simp only [cond_true, Option.bind_some, j6 (show 1 ≤ n by omega), evt]
  exact this
def JF (f : T) (l : List T) : T × Bool := if (ak f && okA l) = true then (okT (Bt f l), ak (Bt f l)) else (.mk 0 0 [], false)
theorem Cb {n : Nat} {f : T} {l : List T} (hn : 4800000 ≤ n) (hf : f.size ≤ 4000000) (hl : l.length ≤ 4000000) (hz : ∀ t ∈ l, t.size ≤ 4000000) : FF n 34 [tm f, tms l] [] = some ([tm (JF f l).1, bl (JF f l).2], []) := by
 obtain ⟨n, rfl⟩ := ag (show 0 < n by omega)
 rw [ph, aX (by omega), sL (by omega) hl hz]
 simp only [evt]
 unfold JF
 cases hv : ak f with
 | false => rfl
 | true =>
  cases ho : okA l with
  | false => rfl
  | true =>
   simp only [Bool.not_true, cond_false, Bool.and_self, if_true]
   exact AH n (by omega) l (jM ho).1 0 0 [] (Bt f l) (by have := C7 hv ho; omega) l.length n 0 f (by have := (jM ho).1; omega) (by omega) rfl
theorem IL (f : T) (a b : List T) : Bt (Bt f a) b = Bt f (a ++ b) := by unfold Bt; rw [List.foldl_append]
end Go.Proofs.YtajlknlnmmbfcaaGreat
end
section
namespace Go.Proofs.YtajlknlnmmbfcaaGreat
namespace Tm
variable {O : Orc}
section
variable (O : Orc)
open Classical in
noncomputable def tI (G : List Tm) (t : Tm) : Rs := if h : ∃ r, Is (fun n => inI O n G t) r then h.choose else .opn
open Classical in
noncomputable def tS (G : List Tm) (t : Tm) : Rs := if h : ∃ r, Is (fun n => inS O n G t) r then h.choose else .opn
def lvr (x : Rs) : Rs := (lvl O (some x)).getD .opn
def ckr (x : Rs) (w : Tm) : Rs := (chk O (some x) w).getD .opn
def cc (f : List Tm → Tm → Rs) : List Tm → Rs
 | [] => .ok nat
 | A :: G => match cc f G with
  | .ok _ => lvr O (f G A)
  | r => r
def pt (f : List Tm → Tm → Rs) (G : List Tm) (t : Tm) : Rs := match cc O f G with
 | .ok _ => f G t
 | r => r
def ps (f : List Tm → Tm → Rs) (G : List Tm) (t : Tm) : Rs := match cc O f G with
 | .ok _ => lvr O (f G t)
 | r => r
def pc (f : List Tm → Tm → Rs) (G : List Tm) (t A : Tm) : Rs := match ps O f G A with
 | .ok _ => ckr O (f G t) A
 | r => r
end
theorem Cg {G : List Tm} {t : Tm} {r : Rs} (h : Is (fun n => inI O n G t) r) : tI O G t = r := by
 have e : ∃ r, Is (fun n => inI O n G t) r := ⟨r, h⟩
 rw [tI, dif_pos e]; exact e.choose_spec.uniq h
theorem Jm {G : List Tm} {t : Tm} {r : Rs} (h : Is (fun n => inS O n G t) r) : tS O G t = r := by
 have e : ∃ r, Is (fun n => inS O n G t) r := ⟨r, h⟩
 rw [tS, dif_pos e]; exact e.choose_spec.uniq h
theorem wg (k : bX O) {G : List Tm} (w : Wf G) (t : Tm) : Is (fun n => inI O n G t) (tI O G t) := by
 obtain ⟨r, h⟩ := Ju k w t
 rw [Cg h]; exact h
theorem FM (k : bX O) {G : List Tm} (w : Wf G) (t : Tm) : Is (fun n => inS O n G t) (tS O G t) := by
 obtain ⟨r, h⟩ := EE k w t
 rw [Jm h]; exact h
theorem rS (x : Rs) : lvl O (some x) = some (lvr O x) := by
 unfold lvr
 cases h : lvl O (some x) with
 | some r => rfl
 | none =>
  exfalso
  unfold lvl frm sq at h
  cases x with
  | ok s =>
   simp only at h
   cases hs : O.hn s <;> rw [hs] at h <;> simp only at h <;> first | (cases h; done) | (split at h <;> cases h)
  | bad => cases h
  | opn => cases h
theorem Ar (x : Rs) (w : Tm) : chk O (some x) w = some (ckr O x w) := by
 cases x <;> rfl
theorem Ld (k : bX O) {x : Rs} {h : Tm} (e : lvr O x = .ok h) : ∃ s i, x = .ok s ∧ h = sort i ∧ Wh s (sort i) := by
 obtain ⟨s, i, e1, e2, e3⟩ := iu k ((rS x).trans (congrArg some e))
 exact ⟨s, i, Option.some.inj e1, e2, e3⟩
theorem KY (k : bX O) {x : Rs} {w h : Tm} (e : ckr O x w = .ok h) : ∃ s, x = .ok s ∧ Conv s w := by
 obtain ⟨s, e1, e2⟩ := dy k ((Ar x w).trans (congrArg some e))
 exact ⟨s, Option.some.inj e1, e2⟩
theorem Fx (k : bX O) {G : List Tm} (w : Wf G) {t A : Tm} (h : tI O G t = .ok A) : Al G t A := Ey k (h ▸ wg k w t)
theorem Df (k : bX O) {G : List Tm} (w : Wf G) {t A : Tm} (v : O.vd t = true) (h : tI O G t = .ok A) : O.vd A = true := by
 obtain ⟨N, hN⟩ := wg k w t
 exact Eh k v ((hN N (Nat.le_refl N)).trans (congrArg some h))
theorem Hb (k : bX O) {G : List Tm} (w : Wf G) {t A : Tm} (h : tS O G t = .ok A) : O.vd A = true := (Ke k (h ▸ FM k w t)).2
theorem lX (k : bX O) : ∀ {G : List Tm} {A : Tm}, cc O (tI O) G = .ok A → Wf G
 | [], _, _ => .nil
 | B :: G, A, h => by
  unfold cc at h
  split at h
  ·rename_i e
   have w := lX k e
   obtain ⟨N, hN⟩ := wg k w B
   have e2 : Is (fun n => lvl O (inI O n G B)) (.ok A) := ⟨N, fun n hn => by show lvl O (inI O n G B) = _; rw [show inI O n G B = _ from hN n hn, rS, h]⟩
   exact uy k w e2
  ·rename_i e; exact absurd h (e A)
theorem wy (k : bX O) : ∀ {G : List Tm} {A : Tm}, cc O (tS O) G = .ok A → Wf G
 | [], _, _ => .nil
 | B :: G, A, h => by
  unfold cc at h
  split at h
  ·rename_i e
   have w := wy k e
   obtain ⟨N, hN⟩ := FM k w B
   have e2 : Is (fun n => lvl O (inS O n G B)) (.ok A) := ⟨N, fun n hn => by show lvl O (inS O n G B) = _; rw [show inS O n G B = _ from hN n hn, rS, h]⟩
   exact vU k w e2
  ·rename_i e; exact absurd h (e A)
theorem HJ (k : bX O) {G : List Tm} {t A : Tm} (h : pt O (tI O) G t = .ok A) : Wf G ∧ tI O G t = .ok A ∧ ∃ B, cc O (tI O) G = .ok B := by
 unfold pt at h
 split at h
 ·rename_i e; exact ⟨lX k e, h, _, e⟩
 ·rename_i e; exact absurd h (e A)
theorem KT (k : bX O) {G : List Tm} {t A : Tm} (h : ps O (tS O) G t = .ok A) : Wf G ∧ lvr O (tS O G t) = .ok A ∧ ∃ B, cc O (tS O) G = .ok B := by
 unfold ps at h
 split at h
 ·rename_i e; exact ⟨wy k e, h, _, e⟩
 ·rename_i e; exact absurd h (e A)
def zQ (O : Orc) : List Tm → Prop
 | [] => True
 | A :: G => zQ O G ∧ (Wf G → eS O G A)
theorem eW (k : bX O) {G : List Tm} {t : Tm} (w : Wf G) (hl : G.length ≤ 20) (v : O.vd t = true) (f : eS O G t) : tI O G t = tS O G t := by
 obtain ⟨r, h1, h2⟩ := wX k w hl v f
 rw [Cg h2, Jm h1]
theorem yY (k : bX O) : ∀ {G : List Tm}, G.length ≤ 20 → (∀ A ∈ G, O.vd A = true) → zQ O G → cc O (tI O) G = cc O (tS O) G
 | [], _, _, _ => rfl
 | A :: G, hl, hv, hf => by
  have e := yY k (G := G) (by simp only [List.length_cons] at hl; omega) (fun B hB => hv B (List.mem_cons_of_mem _ hB)) hf.1
  unfold cc
  rw [← e]
  cases h : cc O (tI O) G with
  | ok B =>
   have w := lX k h
   simp only
   rw [eW k w (by simp only [List.length_cons] at hl; omega) (hv A List.mem_cons_self) (hf.2 w)]
  | bad => rfl
  | opn => rfl
theorem Iw (k : bX O) {G : List Tm} {t : Tm} (hl : G.length ≤ 20) (hv : ∀ A ∈ G, O.vd A = true) (hf : zQ O G) (v : O.vd t = true) (f : Wf G → eS O G t) : pt O (tI O) G t = pt O (tS O) G t := by
 unfold pt
 rw [← yY k hl hv hf]
 cases h : cc O (tI O) G with
 | ok B => have w := lX k h; simp only; exact eW k w hl v (f w)
 | bad => rfl
 | opn => rfl
theorem Ba (k : bX O) {G : List Tm} {t A : Tm} (w : Wf G) (hl : G.length ≤ 20) (v : O.vd t = true) (h : Ty G t A) : tI O G t = tS O G t ∧ tI O G t ≠ .bad ∧ ∀ B, tI O G t = .ok B → Ty G t B ∧ Conv B A := by
 obtain ⟨r, h1, h2, h3, h4⟩ := Dr k w hl v h
 rw [Cg h1, Jm h2]
 exact ⟨rfl, h3, h4⟩
end Tm
end Go.Proofs.YtajlknlnmmbfcaaGreat
end
