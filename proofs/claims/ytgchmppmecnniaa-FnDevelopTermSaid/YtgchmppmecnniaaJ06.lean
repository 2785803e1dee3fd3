/- Part 6 of the proof. -/
import Derived.Test.YtgchmppmecnniaaJ01
import Derived.Test.YtgchmppmecnniaaJ02
import Derived.Test.YtgchmppmecnniaaJ03
import Derived.Test.YtgchmppmecnniaaJ04
import Derived.Test.YtgchmppmecnniaaJ05
set_option linter.unusedVariables false
set_option linter.unusedSimpArgs false
section
namespace Go.Proofs.Ytgchmppmecnniaa
inductive Tm where
 | var (n : Nat) | sort (n : Nat) | pi (a b : Tm) | lam (a b : Tm) | app (f a : Tm)
 | nat | zero | succ (n : Tm) | elim (p z s n : Tm) | id (t a b : Tm) | refl (a : Tm)
 | move (p e x : Tm) | sig (a b : Tm) | pair (s a b : Tm) | fst (q : Tm) | snd (q : Tm)
namespace Tm
def up (ξ : Nat → Nat) : Nat → Nat
 | 0 => 0
 | n + 1 => ξ n + 1
def ren : Tm → (Nat → Nat) → Tm
 | var n, ξ => var (ξ n)
 | sort n, _ => sort n
 | pi a b, ξ => pi (a.ren ξ) (b.ren (up ξ))
 | lam a b, ξ => lam (a.ren ξ) (b.ren (up ξ))
 | app f a, ξ => app (f.ren ξ) (a.ren ξ)
 | nat, _ => nat
 | zero, _ => zero
 | succ n, ξ => succ (n.ren ξ)
 | elim p z s n, ξ => elim (p.ren ξ) (z.ren ξ) (s.ren ξ) (n.ren ξ)
 | id t a b, ξ => id (t.ren ξ) (a.ren ξ) (b.ren ξ)
 | refl a, ξ => refl (a.ren ξ)
 | move p e x, ξ => move (p.ren ξ) (e.ren ξ) (x.ren ξ)
 | sig a b, ξ => sig (a.ren ξ) (b.ren (up ξ))
 | pair s a b, ξ => pair (s.ren ξ) (a.ren ξ) (b.ren ξ)
 | fst q, ξ => fst (q.ren ξ)
 | snd q, ξ => snd (q.ren ξ)
def wk (t : Tm) : Tm := t.ren (· + 1)
def ups (σ : Nat → Tm) : Nat → Tm
 | 0 => var 0
 | n + 1 => (σ n).wk
def sub : Tm → (Nat → Tm) → Tm
 | var n, σ => σ n
 | sort n, _ => sort n
 | pi a b, σ => pi (a.sub σ) (b.sub (ups σ))
 | lam a b, σ => lam (a.sub σ) (b.sub (ups σ))
 | app f a, σ => app (f.sub σ) (a.sub σ)
 | nat, _ => nat
 | zero, _ => zero
 | succ n, σ => succ (n.sub σ)
 | elim p z s n, σ => elim (p.sub σ) (z.sub σ) (s.sub σ) (n.sub σ)
 | id t a b, σ => id (t.sub σ) (a.sub σ) (b.sub σ)
 | refl a, σ => refl (a.sub σ)
 | move p e x, σ => move (p.sub σ) (e.sub σ) (x.sub σ)
 | sig a b, σ => sig (a.sub σ) (b.sub (ups σ))
 | pair s a b, σ => pair (s.sub σ) (a.sub σ) (b.sub σ)
 | fst q, σ => fst (q.sub σ)
 | snd q, σ => snd (q.sub σ)
def sc (u : Tm) (σ : Nat → Tm) : Nat → Tm
 | 0 => u
 | n + 1 => σ n
def inst (b u : Tm) : Tm := b.sub (sc u var)
theorem up_id : up (fun n => n) = fun n => n := by funext n; cases n <;> rfl
theorem up_comp (ξ ζ : Nat → Nat) : (fun n => up ζ (up ξ n)) = up (fun n => ζ (ξ n)) := by funext n; cases n <;> rfl
theorem ren_ren (t : Tm) : ∀ ξ ζ, (t.ren ξ).ren ζ = t.ren (fun n => ζ (ξ n)) := by
 induction t <;> intro ξ ζ <;> simp_all [ren, up_comp]
theorem ren_id (t : Tm) : t.ren (fun n => n) = t := by
 induction t <;> simp_all [ren, up_id]
theorem ups_var : ups var = var := by funext n; cases n <;> rfl
theorem sub_var (t : Tm) : t.sub var = t := by
 induction t <;> simp_all [sub, ups_var]
theorem up_ups (ξ : Nat → Nat) (σ : Nat → Tm) : (fun n => ups σ (up ξ n)) = ups (fun n => σ (ξ n)) := by funext n; cases n <;> rfl
theorem ren_sub (t : Tm) : ∀ ξ σ, (t.ren ξ).sub σ = t.sub (fun n => σ (ξ n)) := by
 induction t <;> intro ξ σ <;> simp_all [ren, sub, up_ups]
theorem ups_ren (σ : Nat → Tm) (ξ : Nat → Nat) : (fun n => (ups σ n).ren (up ξ)) = ups (fun n => (σ n).ren ξ) := by
 funext n; cases n with
 | zero => rfl
 | succ n => simp only [ups, wk, ren_ren]; rfl
theorem sub_ren (t : Tm) : ∀ σ ξ, (t.sub σ).ren ξ = t.sub (fun n => (σ n).ren ξ) := by
 induction t <;> intro σ ξ <;> simp_all [ren, sub, ups_ren]
theorem ups_sub (σ τ : Nat → Tm) : (fun n => (ups σ n).sub (ups τ)) = ups (fun n => (σ n).sub τ) := by
 funext n; cases n with
 | zero => rfl
 | succ n => simp only [ups, wk, ren_sub, sub_ren]
theorem sub_sub (t : Tm) : ∀ σ τ, (t.sub σ).sub τ = t.sub (fun n => (σ n).sub τ) := by
 induction t <;> intro σ τ <;> simp_all [sub, ups_sub]
theorem ups_of_ren (ξ : Nat → Nat) : ups (fun n => var (ξ n)) = fun n => var (up ξ n) := by funext n; cases n <;> rfl
theorem ren_eq (t : Tm) : ∀ ξ, t.ren ξ = t.sub (fun n => var (ξ n)) := by
 induction t <;> intro ξ <;> simp_all [ren, sub, ups_of_ren]
theorem wk_sub (t u : Tm) (σ : Nat → Tm) : t.wk.sub (sc u σ) = t.sub σ := by rw [wk, ren_sub]; rfl
theorem wk_ups (t : Tm) (σ : Nat → Tm) : t.wk.sub (ups σ) = (t.sub σ).wk := by rw [wk, ren_sub, wk, sub_ren]; rfl
theorem wk_up (t : Tm) (ξ : Nat → Nat) : t.wk.ren (up ξ) = (t.ren ξ).wk := by rw [wk, wk, ren_ren, ren_ren]; rfl
theorem inst_sub (b u : Tm) (σ : Nat → Tm) : (b.inst u).sub σ = (b.sub (ups σ)).inst (u.sub σ) := by
 rw [inst, inst, sub_sub, sub_sub]; congr 1; funext n; cases n with
 | zero => rfl
 | succ n => simp only [ups, wk_sub, sub_var]; rfl
theorem inst_ren (b u : Tm) (ξ : Nat → Nat) : (b.inst u).ren ξ = (b.ren (up ξ)).inst (u.ren ξ) := by
 rw [inst, inst, sub_ren, ren_sub]; congr 1; funext n; cases n <;> rfl
theorem ups_inst (b u : Tm) (σ : Nat → Tm) : (b.sub (ups σ)).inst u = b.sub (sc u σ) := by
 rw [inst, sub_sub]; congr 1; funext n; cases n with
 | zero => rfl
 | succ n => simp only [ups, wk_sub, sub_var]; rfl
inductive Par : Tm → Tm → Prop
 | var {n} : Par (var n) (var n)
 | sort {n} : Par (sort n) (sort n)
 | pi {a a' b b'} (h : Par a a') (k : Par b b') : Par (pi a b) (pi a' b')
 | lam {a a' b b'} (h : Par a a') (k : Par b b') : Par (lam a b) (lam a' b')
 | app {a a' b b'} (h : Par a a') (k : Par b b') : Par (app a b) (app a' b')
 | nat : Par nat nat
 | zero : Par zero zero
 | succ {a a'} (h : Par a a') : Par (succ a) (succ a')
 | elim {p p' z z' s s' n n'} (h : Par p p') (k : Par z z') (l : Par s s') (m : Par n n') : Par (elim p z s n) (elim p' z' s' n')
 | id {t t' a a' b b'} (h : Par t t') (k : Par a a') (l : Par b b') : Par (id t a b) (id t' a' b')
 | refl {a a'} (h : Par a a') : Par (refl a) (refl a')
 | move {t t' a a' b b'} (h : Par t t') (k : Par a a') (l : Par b b') : Par (move t a b) (move t' a' b')
 | sig {a a' b b'} (h : Par a a') (k : Par b b') : Par (sig a b) (sig a' b')
 | pair {t t' a a' b b'} (h : Par t t') (k : Par a a') (l : Par b b') : Par (pair t a b) (pair t' a' b')
 | fst {a a'} (h : Par a a') : Par (fst a) (fst a')
 | snd {a a'} (h : Par a a') : Par (snd a) (snd a')
 | beta {a b b' u u'} (h : Par b b') (k : Par u u') : Par (app (lam a b) u) (b'.inst u')
 | ezero {p z z' s} (h : Par z z') : Par (elim p z s zero) z'
 | esucc {p p' z z' s s' n n'} (h : Par p p') (k : Par z z') (l : Par s s') (m : Par n n') : Par (elim p z s (succ n)) (app (app s' n') (elim p' z' s' n'))
 | mrefl {p a x x'} (h : Par x x') : Par (move p (refl a) x) x'
 | fpair {t a a' b} (h : Par a a') : Par (fst (pair t a b)) a'
 | spair {t a b b'} (h : Par b b') : Par (snd (pair t a b)) b'
theorem Par.rfl' (t : Tm) : Par t t := by induction t <;> constructor <;> assumption
theorem Par.ren {t u : Tm} (h : Par t u) : ∀ ξ, Par (t.ren ξ) (u.ren ξ) := by
 induction h <;> intro ξ <;> simp only [Tm.ren, inst_ren] <;> constructor <;> first | assumption | (rename_i a b; first | exact a _ | exact b _) | (rename_i a b c; first | exact a _ | exact b _ | exact c _) | (rename_i a b c d; first | exact a _ | exact b _ | exact c _ | exact d _)
theorem Par.sub {t u : Tm} (h : Par t u) : ∀ σ τ : Nat → Tm, (∀ n, Par (σ n) (τ n)) → Par (t.sub σ) (u.sub τ) := by
 have hu : ∀ σ τ : Nat → Tm, (∀ n, Par (σ n) (τ n)) → ∀ n, Par (ups σ n) (ups τ n) := by
  intro σ τ h n; cases n with
  | zero => exact .var
  | succ n => exact (h n).ren _
 induction h <;> intro σ τ hs <;> simp only [Tm.sub, inst_sub] <;> first
  | exact hs _
  | (constructor <;> first | exact hs _ | (rename_i a b; first | exact a _ _ hs | exact a _ _ (hu _ _ hs) | exact b _ _ hs | exact b _ _ (hu _ _ hs)) | (rename_i a b c d; first | exact a _ _ hs | exact b _ _ hs | exact c _ _ hs | exact d _ _ hs))
def dev : Tm → Tm
 | var n => var n
 | sort n => sort n
 | pi a b => pi a.dev b.dev
 | lam a b => lam a.dev b.dev
 | app f u => match f with
  | lam _ b => b.dev.inst u.dev
  | f => app f.dev u.dev
 | nat => nat
 | zero => zero
 | succ n => succ n.dev
 | elim p z s n => match n with
  | zero => z.dev
  | succ m => app (app s.dev m.dev) (elim p.dev z.dev s.dev m.dev)
  | n => elim p.dev z.dev s.dev n.dev
 | id t a b => id t.dev a.dev b.dev
 | refl a => refl a.dev
 | move p e x => match e with
  | refl _ => x.dev
  | e => move p.dev e.dev x.dev
 | sig a b => sig a.dev b.dev
 | pair s a b => pair s.dev a.dev b.dev
 | fst q => match q with
  | pair _ a _ => a.dev
  | q => fst q.dev
 | snd q => match q with
  | pair _ _ b => b.dev
  | q => snd q.dev
theorem Par.inst {b b' u u' : Tm} (h : Par b b') (k : Par u u') : Par (b.inst u) (b'.inst u') :=
 h.sub _ _ fun n => by cases n with
  | zero => exact k
  | succ n => exact .var
theorem Par.tri {t u : Tm} (h : Par t u) : Par u t.dev := by
 induction h with
 | var => exact .var
 | sort => exact .sort
 | pi h k ih ik => exact .pi ih ik
 | lam h k ih ik => exact .lam ih ik
 | app h k ih ik =>
  rename_i a a' b b'
  cases a with
  | lam c d =>
   cases h with
   | lam h1 h2 => cases ih with
    | lam i1 i2 => exact .beta i2 ik
  | _ => exact .app ih ik
 | nat => exact .nat
 | zero => exact .zero
 | succ h ih => exact .succ ih
 | elim h k l m ih ik il im =>
  rename_i p p' z z' s s' n n'
  cases n with
  | zero => cases m; exact .ezero ik
  | succ m' => cases m with
   | succ m => cases im with
    | succ im => exact .esucc ih ik il im
  | _ => exact .elim ih ik il im
 | id h k l ih ik il => exact .id ih ik il
 | refl h ih => exact .refl ih
 | move h k l ih ik il =>
  rename_i p p' e e' x x'
  cases e with
  | refl a => cases k with
   | refl k => exact .mrefl il
  | _ => exact .move ih ik il
 | sig h k ih ik => exact .sig ih ik
 | pair h k l ih ik il => exact .pair ih ik il
 | fst h ih =>
  rename_i q q'
  cases q with
  | pair t a b => cases h with
   | pair h k l => cases ih with
    | pair ih ik il => exact .fpair ik
  | _ => exact .fst ih
 | snd h ih =>
  rename_i q q'
  cases q with
  | pair t a b => cases h with
   | pair h k l => cases ih with
    | pair ih ik il => exact .spair il
  | _ => exact .snd ih
 | beta h k ih ik => exact ih.inst ik
 | ezero h ih => exact ih
 | esucc h k l m ih ik il im => exact .app (.app il im) (.elim ih ik il im)
 | mrefl h ih => exact ih
 | fpair h ih => exact ih
 | spair h ih => exact ih
inductive Red : Tm → Tm → Prop
 | nil {t} : Red t t
 | cons {t u v} (h : Par t u) (hs : Red u v) : Red t v
theorem Par.red {t u : Tm} (h : Par t u) : Red t u := .cons h .nil
theorem Red.trans {t u v : Tm} (h : Red t u) (k : Red u v) : Red t v := by
 induction h with
 | nil => exact k
 | cons h _ ih => exact .cons h (ih k)
theorem Red.strip {t u v : Tm} (h : Par t u) (k : Red t v) : ∃ w, Red u w ∧ Par v w := by
 induction k generalizing u with
 | nil => exact ⟨u, .nil, h⟩
 | cons h1 _ ih =>
  obtain ⟨w, hw, hv⟩ := ih h1.tri
  exact ⟨w, .cons h.tri hw, hv⟩
theorem Red.confl {t u v : Tm} (h : Red t u) (k : Red t v) : ∃ w, Red u w ∧ Red v w := by
 induction h generalizing v with
 | nil => exact ⟨v, k, .nil⟩
 | cons h1 _ ih =>
  obtain ⟨w, hw, hv⟩ := Red.strip h1 k
  obtain ⟨z, hz, hz'⟩ := ih hw
  exact ⟨z, hz, .cons hv hz'⟩
theorem Red.ren {t u : Tm} (h : Red t u) (ξ) : Red (t.ren ξ) (u.ren ξ) := by
 induction h with
 | nil => exact .nil
 | cons h _ ih => exact .cons (h.ren ξ) ih
theorem Red.sub {t u : Tm} (h : Red t u) (σ) : Red (t.sub σ) (u.sub σ) := by
 induction h with
 | nil => exact .nil
 | cons h _ ih => exact .cons (h.sub _ _ fun n => Par.rfl' _) ih
theorem Red.ctx {f : Tm → Tm} (hf : ∀ a b, Par a b → Par (f a) (f b)) {t u : Tm} (h : Red t u) : Red (f t) (f u) := by
 induction h with
 | nil => exact .nil
 | cons h _ ih => exact .cons (hf _ _ h) ih
theorem Red.ctx2 {f : Tm → Tm → Tm} (hf : ∀ a b c d, Par a b → Par c d → Par (f a c) (f b d)) {t u v w : Tm} (h : Red t u) (k : Red v w) : Red (f t v) (f u w) :=
 (Red.ctx (f := fun x => f x v) (fun a b h => hf _ _ _ _ h (Par.rfl' _)) h).trans (Red.ctx (f := fun x => f u x) (fun a b h => hf _ _ _ _ (Par.rfl' _) h) k)
theorem Red.pi {a a' b b' : Tm} (h : Red a a') (k : Red b b') : Red (Tm.pi a b) (Tm.pi a' b') := Red.ctx2 (fun _ _ _ _ h k => .pi h k) h k
theorem Red.lam {a a' b b' : Tm} (h : Red a a') (k : Red b b') : Red (Tm.lam a b) (Tm.lam a' b') := Red.ctx2 (fun _ _ _ _ h k => .lam h k) h k
theorem Red.sig {a a' b b' : Tm} (h : Red a a') (k : Red b b') : Red (Tm.sig a b) (Tm.sig a' b') := Red.ctx2 (fun _ _ _ _ h k => .sig h k) h k
theorem Red.app {a a' b b' : Tm} (h : Red a a') (k : Red b b') : Red (Tm.app a b) (Tm.app a' b') := Red.ctx2 (fun _ _ _ _ h k => .app h k) h k
theorem Red.succ {a a' : Tm} (h : Red a a') : Red (Tm.succ a) (Tm.succ a') := Red.ctx (fun _ _ h => .succ h) h
theorem Red.refl {a a' : Tm} (h : Red a a') : Red (Tm.refl a) (Tm.refl a') := Red.ctx (fun _ _ h => .refl h) h
theorem Red.fst {a a' : Tm} (h : Red a a') : Red (Tm.fst a) (Tm.fst a') := Red.ctx (fun _ _ h => .fst h) h
theorem Red.snd {a a' : Tm} (h : Red a a') : Red (Tm.snd a) (Tm.snd a') := Red.ctx (fun _ _ h => .snd h) h
theorem Red.id {t t' a a' b b' : Tm} (h : Red t t') (k : Red a a') (l : Red b b') : Red (Tm.id t a b) (Tm.id t' a' b') :=
 (Red.ctx (f := fun x => Tm.id x a b) (fun _ _ h => .id h (Par.rfl' _) (Par.rfl' _)) h).trans (Red.ctx2 (f := fun x y => Tm.id t' x y) (fun _ _ _ _ h k => .id (Par.rfl' _) h k) k l)
theorem Red.move {t t' a a' b b' : Tm} (h : Red t t') (k : Red a a') (l : Red b b') : Red (Tm.move t a b) (Tm.move t' a' b') :=
 (Red.ctx (f := fun x => Tm.move x a b) (fun _ _ h => .move h (Par.rfl' _) (Par.rfl' _)) h).trans (Red.ctx2 (f := fun x y => Tm.move t' x y) (fun _ _ _ _ h k => .move (Par.rfl' _) h k) k l)
theorem Red.pair {t t' a a' b b' : Tm} (h : Red t t') (k : Red a a') (l : Red b b') : Red (Tm.pair t a b) (Tm.pair t' a' b') :=
 (Red.ctx (f := fun x => Tm.pair x a b) (fun _ _ h => .pair h (Par.rfl' _) (Par.rfl' _)) h).trans (Red.ctx2 (f := fun x y => Tm.pair t' x y) (fun _ _ _ _ h k => .pair (Par.rfl' _) h k) k l)
theorem Red.elim {t t' a a' b b' n n' : Tm} (h : Red t t') (k : Red a a') (l : Red b b') (m : Red n n') : Red (Tm.elim t a b n) (Tm.elim t' a' b' n') :=
 (Red.ctx2 (f := fun x y => Tm.elim x y b n) (fun _ _ _ _ h k => .elim h k (Par.rfl' _) (Par.rfl' _)) h k).trans (Red.ctx2 (f := fun x y => Tm.elim t' a' x y) (fun _ _ _ _ h k => .elim (Par.rfl' _) (Par.rfl' _) h k) l m)
theorem Red.inst {b b' u u' : Tm} (h : Red b b') (k : Red u u') : Red (b.inst u) (b'.inst u') := Red.ctx2 (fun _ _ _ _ h k => h.inst k) h k
theorem Red.pi_inv {a b t : Tm} (h : Red (Tm.pi a b) t) : ∃ a' b', t = Tm.pi a' b' ∧ Red a a' ∧ Red b b' := by
 generalize e : Tm.pi a b = x at h
 induction h generalizing a b with
 | nil => exact ⟨a, b, e.symm, .nil, .nil⟩
 | cons h _ ih => subst e; cases h with
  | pi h k => obtain ⟨a', b', rfl, h1, h2⟩ := ih rfl; exact ⟨a', b', rfl, .cons h h1, .cons k h2⟩
theorem Red.sig_inv {a b t : Tm} (h : Red (Tm.sig a b) t) : ∃ a' b', t = Tm.sig a' b' ∧ Red a a' ∧ Red b b' := by
 generalize e : Tm.sig a b = x at h
 induction h generalizing a b with
 | nil => exact ⟨a, b, e.symm, .nil, .nil⟩
 | cons h _ ih => subst e; cases h with
  | sig h k => obtain ⟨a', b', rfl, h1, h2⟩ := ih rfl; exact ⟨a', b', rfl, .cons h h1, .cons k h2⟩
theorem Red.id_inv {a b c t : Tm} (h : Red (Tm.id a b c) t) : ∃ a' b' c', t = Tm.id a' b' c' ∧ Red a a' ∧ Red b b' ∧ Red c c' := by
 generalize e : Tm.id a b c = x at h
 induction h generalizing a b c with
 | nil => exact ⟨a, b, c, e.symm, .nil, .nil, .nil⟩
 | cons h _ ih => subst e; cases h with
  | id h k l => obtain ⟨a', b', c', rfl, h1, h2, h3⟩ := ih rfl; exact ⟨a', b', c', rfl, .cons h h1, .cons k h2, .cons l h3⟩
theorem Red.sort_inv {n : Nat} {t : Tm} (h : Red (Tm.sort n) t) : t = Tm.sort n := by
 generalize e : Tm.sort n = x at h
 induction h with
 | nil => rfl
 | cons h _ ih => subst e; cases h with
  | sort => exact ih rfl
theorem Red.nat_inv {t : Tm} (h : Red Tm.nat t) : t = Tm.nat := by
 generalize e : Tm.nat = x at h
 induction h with
 | nil => rfl
 | cons h _ ih => subst e; cases h with
  | nat => exact ih rfl
def Conv (a b : Tm) : Prop := ∃ c, Red a c ∧ Red b c
theorem Conv.rfl' {a : Tm} : Conv a a := ⟨a, .nil, .nil⟩
theorem Red.conv {a b : Tm} (h : Red a b) : Conv a b := ⟨b, h, .nil⟩
theorem Par.conv {a b : Tm} (h : Par a b) : Conv a b := h.red.conv
theorem Conv.symm {a b : Tm} (h : Conv a b) : Conv b a := let ⟨c, h, k⟩ := h; ⟨c, k, h⟩
theorem Conv.trans {a b c : Tm} (h : Conv a b) (k : Conv b c) : Conv a c := by
 obtain ⟨x, h1, h2⟩ := h
 obtain ⟨y, k1, k2⟩ := k
 obtain ⟨z, z1, z2⟩ := Red.confl h2 k1
 exact ⟨z, h1.trans z1, k2.trans z2⟩
theorem Conv.sub {a b : Tm} (h : Conv a b) (σ) : Conv (a.sub σ) (b.sub σ) := let ⟨c, h, k⟩ := h; ⟨_, h.sub σ, k.sub σ⟩
theorem Conv.ren {a b : Tm} (h : Conv a b) (σ) : Conv (a.ren σ) (b.ren σ) := let ⟨c, h, k⟩ := h; ⟨_, h.ren σ, k.ren σ⟩
theorem Conv.inst {b b' u u' : Tm} (h : Conv b b') (k : Conv u u') : Conv (b.inst u) (b'.inst u') := by
 obtain ⟨x, h1, h2⟩ := h
 obtain ⟨y, k1, k2⟩ := k
 exact ⟨_, h1.inst k1, h2.inst k2⟩
theorem Conv.pi {a a' b b' : Tm} (h : Conv a a') (k : Conv b b') : Conv (Tm.pi a b) (Tm.pi a' b') := by
 obtain ⟨x, h1, h2⟩ := h
 obtain ⟨y, k1, k2⟩ := k
 exact ⟨_, h1.pi k1, h2.pi k2⟩
theorem Conv.app {a a' b b' : Tm} (h : Conv a a') (k : Conv b b') : Conv (Tm.app a b) (Tm.app a' b') := by
 obtain ⟨x, h1, h2⟩ := h
 obtain ⟨y, k1, k2⟩ := k
 exact ⟨_, h1.app k1, h2.app k2⟩
theorem Conv.id {t t' a a' b b' : Tm} (h : Conv t t') (k : Conv a a') (l : Conv b b') : Conv (Tm.id t a b) (Tm.id t' a' b') := by
 obtain ⟨x, h1, h2⟩ := h
 obtain ⟨y, k1, k2⟩ := k
 obtain ⟨z, l1, l2⟩ := l
 exact ⟨_, h1.id k1 l1, h2.id k2 l2⟩
theorem Conv.fst {a a' : Tm} (h : Conv a a') : Conv (Tm.fst a) (Tm.fst a') := let ⟨x, h1, h2⟩ := h; ⟨_, h1.fst, h2.fst⟩
theorem Conv.succ {a a' : Tm} (h : Conv a a') : Conv (Tm.succ a) (Tm.succ a') := let ⟨x, h1, h2⟩ := h; ⟨_, h1.succ, h2.succ⟩
theorem Conv.pi_inv {a a' b b' : Tm} (h : Conv (Tm.pi a b) (Tm.pi a' b')) : Conv a a' ∧ Conv b b' := by
 obtain ⟨c, h1, h2⟩ := h
 obtain ⟨x, y, rfl, i1, i2⟩ := h1.pi_inv
 obtain ⟨x', y', e, j1, j2⟩ := h2.pi_inv
 cases e
 exact ⟨⟨x, i1, j1⟩, ⟨y, i2, j2⟩⟩
theorem Conv.sig_inv {a a' b b' : Tm} (h : Conv (Tm.sig a b) (Tm.sig a' b')) : Conv a a' ∧ Conv b b' := by
 obtain ⟨c, h1, h2⟩ := h
 obtain ⟨x, y, rfl, i1, i2⟩ := h1.sig_inv
 obtain ⟨x', y', e, j1, j2⟩ := h2.sig_inv
 cases e
 exact ⟨⟨x, i1, j1⟩, ⟨y, i2, j2⟩⟩
theorem Conv.id_inv {t t' a a' b b' : Tm} (h : Conv (Tm.id t a b) (Tm.id t' a' b')) : Conv t t' ∧ Conv a a' ∧ Conv b b' := by
 obtain ⟨c, h1, h2⟩ := h
 obtain ⟨x, y, z, rfl, i1, i2, i3⟩ := h1.id_inv
 obtain ⟨x', y', z', e, j1, j2, j3⟩ := h2.id_inv
 cases e
 exact ⟨⟨x, i1, j1⟩, ⟨y, i2, j2⟩, ⟨z, i3, j3⟩⟩
theorem Conv.sort_inv {m n : Nat} (h : Conv (Tm.sort m) (Tm.sort n)) : m = n := by
 obtain ⟨c, h1, h2⟩ := h
 have := h1.sort_inv; subst this
 have := h2.sort_inv; injection this
inductive Hd : Tm → Tm → Prop
 | beta {a b u} : Hd (app (lam a b) u) (b.inst u)
 | ezero {p z s} : Hd (elim p z s zero) z
 | esucc {p z s n} : Hd (elim p z s (succ n)) (app (app s n) (elim p z s n))
 | mrefl {p a x} : Hd (move p (refl a) x) x
 | fpair {t a b} : Hd (fst (pair t a b)) a
 | spair {t a b} : Hd (snd (pair t a b)) b
 | app {f f' u} (h : Hd f f') : Hd (app f u) (app f' u)
 | elim {p z s n n'} (h : Hd n n') : Hd (elim p z s n) (elim p z s n')
 | move {p e e' x} (h : Hd e e') : Hd (move p e x) (move p e' x)
 | fst {q q'} (h : Hd q q') : Hd (fst q) (fst q')
 | snd {q q'} (h : Hd q q') : Hd (snd q) (snd q')
theorem Hd.par {t u : Tm} (h : Hd t u) : Par t u := by
 induction h with
 | beta => exact .beta (Par.rfl' _) (Par.rfl' _)
 | ezero => exact .ezero (Par.rfl' _)
 | esucc => exact .esucc (Par.rfl' _) (Par.rfl' _) (Par.rfl' _) (Par.rfl' _)
 | mrefl => exact .mrefl (Par.rfl' _)
 | fpair => exact .fpair (Par.rfl' _)
 | spair => exact .spair (Par.rfl' _)
 | app _ ih => exact .app ih (Par.rfl' _)
 | elim _ ih => exact .elim (Par.rfl' _) (Par.rfl' _) (Par.rfl' _) ih
 | move _ ih => exact .move (Par.rfl' _) ih (Par.rfl' _)
 | fst _ ih => exact .fst ih
 | snd _ ih => exact .snd ih
theorem Hd.det {t u v : Tm} (h : Hd t u) (k : Hd t v) : u = v := by
 induction h generalizing v with
 | beta => cases k with | beta => rfl | app k => cases k
 | ezero => cases k with | ezero => rfl | elim k => cases k
 | esucc => cases k with | esucc => rfl | elim k => cases k
 | mrefl => cases k with | mrefl => rfl | move k => cases k
 | fpair => cases k with | fpair => rfl | fst k => cases k
 | spair => cases k with | spair => rfl | snd k => cases k
 | app h ih => cases k with | beta => cases h | app k => rw [ih k]
 | elim h ih => cases k with | ezero => cases h | esucc => cases h | elim k => rw [ih k]
 | move h ih => cases k with | mrefl => cases h | move k => rw [ih k]
 | fst h ih => cases k with | fpair => cases h | fst k => rw [ih k]
 | snd h ih => cases k with | spair => cases h | snd k => rw [ih k]
theorem Hd.sub {t u : Tm} (h : Hd t u) (σ) : Hd (t.sub σ) (u.sub σ) := by
 induction h <;> simp only [Tm.sub, inst_sub] <;> constructor <;> assumption
theorem Hd.ren {t u : Tm} (h : Hd t u) (σ) : Hd (t.ren σ) (u.ren σ) := by
 induction h <;> simp only [Tm.ren, inst_ren] <;> constructor <;> assumption
inductive Wh : Tm → Tm → Prop
 | nil {t} : Wh t t
 | cons {t u v} (h : Hd t u) (hs : Wh u v) : Wh t v
theorem Wh.trans {t u v : Tm} (h : Wh t u) (k : Wh u v) : Wh t v := by
 induction h with
 | nil => exact k
 | cons h _ ih => exact .cons h (ih k)
theorem Wh.red {t u : Tm} (h : Wh t u) : Red t u := by
 induction h with
 | nil => exact .nil
 | cons h _ ih => exact .cons h.par ih
theorem Wh.conv {t u : Tm} (h : Wh t u) : Conv t u := h.red.conv
theorem Wh.sub {t u : Tm} (h : Wh t u) (σ) : Wh (t.sub σ) (u.sub σ) := by
 induction h with
 | nil => exact .nil
 | cons h _ ih => exact .cons (h.sub σ) ih
theorem Wh.ren {t u : Tm} (h : Wh t u) (σ) : Wh (t.ren σ) (u.ren σ) := by
 induction h with
 | nil => exact .nil
 | cons h _ ih => exact .cons (h.ren σ) ih
theorem Wh.ctx {f : Tm → Tm} (hf : ∀ a b, Hd a b → Hd (f a) (f b)) {t u : Tm} (h : Wh t u) : Wh (f t) (f u) := by
 induction h with
 | nil => exact .nil
 | cons h _ ih => exact .cons (hf _ _ h) ih
theorem Wh.app {f f' : Tm} (h : Wh f f') (u : Tm) : Wh (Tm.app f u) (Tm.app f' u) := Wh.ctx (f := fun f => Tm.app f u) (fun _ _ h => .app h) h
theorem Wh.elim {n n' : Tm} (h : Wh n n') (p z s : Tm) : Wh (Tm.elim p z s n) (Tm.elim p z s n') := Wh.ctx (f := fun n => Tm.elim p z s n) (fun _ _ h => .elim h) h
theorem Wh.move {e e' : Tm} (h : Wh e e') (p x : Tm) : Wh (Tm.move p e x) (Tm.move p e' x) := Wh.ctx (f := fun n => Tm.move p n x) (fun _ _ h => .move h) h
theorem Wh.fst {e e' : Tm} (h : Wh e e') : Wh (Tm.fst e) (Tm.fst e') := Wh.ctx (fun _ _ h => .fst h) h
theorem Wh.snd {e e' : Tm} (h : Wh e e') : Wh (Tm.snd e) (Tm.snd e') := Wh.ctx (fun _ _ h => .snd h) h
theorem Wh.two {t u v : Tm} (h : Wh t u) (k : Wh t v) : Wh u v ∨ Wh v u := by
 induction h generalizing v with
 | nil => exact .inl k
 | cons h hs ih => cases k with
  | nil => exact .inr (.cons h hs)
  | cons k ks => have := h.det k; subst this; exact ih ks
inductive ST : Tm → Tm → Prop
 | var {m n} (w : Wh m (var n)) : ST m (var n)
 | sort {m n} (w : Wh m (sort n)) : ST m (sort n)
 | pi {m a a' b b'} (w : Wh m (pi a b)) (h : ST a a') (k : ST b b') : ST m (pi a' b')
 | lam {m a a' b b'} (w : Wh m (lam a b)) (h : ST a a') (k : ST b b') : ST m (lam a' b')
 | app {m a a' b b'} (w : Wh m (app a b)) (h : ST a a') (k : ST b b') : ST m (app a' b')
 | nat {m} (w : Wh m nat) : ST m nat
 | zero {m} (w : Wh m zero) : ST m zero
 | succ {m a a'} (w : Wh m (succ a)) (h : ST a a') : ST m (succ a')
 | elim {m p p' z z' s s' n n'} (w : Wh m (elim p z s n)) (h : ST p p') (k : ST z z') (l : ST s s') (i : ST n n') : ST m (elim p' z' s' n')
 | id {m t t' a a' b b'} (w : Wh m (id t a b)) (h : ST t t') (k : ST a a') (l : ST b b') : ST m (id t' a' b')
 | refl {m a a'} (w : Wh m (refl a)) (h : ST a a') : ST m (refl a')
 | move {m t t' a a' b b'} (w : Wh m (move t a b)) (h : ST t t') (k : ST a a') (l : ST b b') : ST m (move t' a' b')
 | sig {m a a' b b'} (w : Wh m (sig a b)) (h : ST a a') (k : ST b b') : ST m (sig a' b')
 | pair {m t t' a a' b b'} (w : Wh m (pair t a b)) (h : ST t t') (k : ST a a') (l : ST b b') : ST m (pair t' a' b')
 | fst {m a a'} (w : Wh m (fst a)) (h : ST a a') : ST m (fst a')
 | snd {m a a'} (w : Wh m (snd a)) (h : ST a a') : ST m (snd a')
theorem ST.rfl' (t : Tm) : ST t t := by induction t <;> constructor <;> first | exact .nil | assumption
theorem ST.exp {m m' n : Tm} (w : Wh m m') (h : ST m' n) : ST m n := by
 cases h with
 | var w' => exact .var (w.trans w')
 | sort w' => exact .sort (w.trans w')
 | pi w' h k => exact .pi (w.trans w') h k
 | lam w' h k => exact .lam (w.trans w') h k
 | app w' h k => exact .app (w.trans w') h k
 | nat w' => exact .nat (w.trans w')
 | zero w' => exact .zero (w.trans w')
 | succ w' h => exact .succ (w.trans w') h
 | elim w' h k l i => exact .elim (w.trans w') h k l i
 | id w' h k l => exact .id (w.trans w') h k l
 | refl w' h => exact .refl (w.trans w') h
 | move w' h k l => exact .move (w.trans w') h k l
 | sig w' h k => exact .sig (w.trans w') h k
 | pair w' h k l => exact .pair (w.trans w') h k l
 | fst w' h => exact .fst (w.trans w') h
 | snd w' h => exact .snd (w.trans w') h
theorem ST.ren {m n : Tm} (h : ST m n) : ∀ ξ, ST (m.ren ξ) (n.ren ξ) := by
 induction h <;> intro ξ <;> (first
  | exact .var (Wh.ren ‹_› ξ) | exact .sort (Wh.ren ‹_› ξ) | exact .nat (Wh.ren ‹_› ξ) | exact .zero (Wh.ren ‹_› ξ)
  | (rename_i w _ _ a b; exact .pi (w.ren ξ) (a _) (b _)) | (rename_i w _ _ a b; exact .lam (w.ren ξ) (a _) (b _)) | (rename_i w _ _ a b; exact .app (w.ren ξ) (a _) (b _)) | (rename_i w _ _ a b; exact .sig (w.ren ξ) (a _) (b _))
  | (rename_i w _ a; exact .succ (w.ren ξ) (a _)) | (rename_i w _ a; exact .refl (w.ren ξ) (a _)) | (rename_i w _ a; exact .fst (w.ren ξ) (a _)) | (rename_i w _ a; exact .snd (w.ren ξ) (a _))
  | (rename_i w _ _ _ a b c; exact .id (w.ren ξ) (a _) (b _) (c _)) | (rename_i w _ _ _ a b c; exact .move (w.ren ξ) (a _) (b _) (c _)) | (rename_i w _ _ _ a b c; exact .pair (w.ren ξ) (a _) (b _) (c _))
  | (rename_i w _ _ _ _ a b c d; exact .elim (w.ren ξ) (a _) (b _) (c _) (d _)))
theorem ST.sub {m n : Tm} (h : ST m n) : ∀ σ τ : Nat → Tm, (∀ i, ST (σ i) (τ i)) → ST (m.sub σ) (n.sub τ) := by
 have hu : ∀ σ τ : Nat → Tm, (∀ n, ST (σ n) (τ n)) → ∀ n, ST (ups σ n) (ups τ n) := by
  intro σ τ h n; cases n with
  | zero => exact .var .nil
  | succ n => exact (h n).ren _
 induction h <;> intro σ τ hs <;> (first
  | (rename_i w; exact ST.exp (w.sub σ) (hs _)) | exact .sort (Wh.sub ‹_› σ) | exact .nat (Wh.sub ‹_› σ) | exact .zero (Wh.sub ‹_› σ)
  | (rename_i w _ _ a b; exact .pi (w.sub σ) (a _ _ hs) (b _ _ (hu _ _ hs))) | (rename_i w _ _ a b; exact .lam (w.sub σ) (a _ _ hs) (b _ _ (hu _ _ hs))) | (rename_i w _ _ a b; exact .app (w.sub σ) (a _ _ hs) (b _ _ hs)) | (rename_i w _ _ a b; exact .sig (w.sub σ) (a _ _ hs) (b _ _ (hu _ _ hs)))
  | (rename_i w _ a; exact .succ (w.sub σ) (a _ _ hs)) | (rename_i w _ a; exact .refl (w.sub σ) (a _ _ hs)) | (rename_i w _ a; exact .fst (w.sub σ) (a _ _ hs)) | (rename_i w _ a; exact .snd (w.sub σ) (a _ _ hs))
  | (rename_i w _ _ _ a b c; exact .id (w.sub σ) (a _ _ hs) (b _ _ hs) (c _ _ hs)) | (rename_i w _ _ _ a b c; exact .move (w.sub σ) (a _ _ hs) (b _ _ hs) (c _ _ hs)) | (rename_i w _ _ _ a b c; exact .pair (w.sub σ) (a _ _ hs) (b _ _ hs) (c _ _ hs))
  | (rename_i w _ _ _ _ a b c d; exact .elim (w.sub σ) (a _ _ hs) (b _ _ hs) (c _ _ hs) (d _ _ hs)))
theorem ST.inst {b b' u u' : Tm} (h : ST b b') (k : ST u u') : ST (b.inst u) (b'.inst u') :=
 h.sub _ _ fun n => by cases n with
  | zero => exact k
  | succ n => exact .var .nil
theorem ST.par {n p : Tm} (h : Par n p) : ∀ {m : Tm}, ST m n → ST m p := by
 induction h with
 | var => intro m s; exact s
 | sort => intro m s; exact s
 | pi h k ih ik => intro m s; cases s with | pi w a b => exact .pi w (ih a) (ik b)
 | lam h k ih ik => intro m s; cases s with | lam w a b => exact .lam w (ih a) (ik b)
 | app h k ih ik => intro m s; cases s with | app w a b => exact .app w (ih a) (ik b)
 | nat => intro m s; exact s
 | zero => intro m s; exact s
 | succ h ih => intro m s; cases s with | succ w a => exact .succ w (ih a)
 | elim h k l i ih ik il ii => intro m s; cases s with | elim w a b c d => exact .elim w (ih a) (ik b) (il c) (ii d)
 | id h k l ih ik il => intro m s; cases s with | id w a b c => exact .id w (ih a) (ik b) (il c)
 | refl h ih => intro m s; cases s with | refl w a => exact .refl w (ih a)
 | move h k l ih ik il => intro m s; cases s with | move w a b c => exact .move w (ih a) (ik b) (il c)
 | sig h k ih ik => intro m s; cases s with | sig w a b => exact .sig w (ih a) (ik b)
 | pair h k l ih ik il => intro m s; cases s with | pair w a b c => exact .pair w (ih a) (ik b) (il c)
 | fst h ih => intro m s; cases s with | fst w a => exact .fst w (ih a)
 | snd h ih => intro m s; cases s with | snd w a => exact .snd w (ih a)
 | beta h k ih ik => intro m s; cases s with
  | app w a b => cases a with
   | lam w' c d => exact .exp (w.trans ((w'.app _).trans (.cons .beta .nil))) ((ih d).inst (ik b))
 | ezero h ih => intro m s; cases s with
  | elim w a b c d => cases d with
   | zero w' => exact .exp (w.trans ((w'.elim _ _ _).trans (.cons .ezero .nil))) (ih b)
 | esucc h k l i ih ik il ii => intro m s; cases s with
  | elim w a b c d => cases d with
   | succ w' e => exact .exp (w.trans ((w'.elim _ _ _).trans (.cons .esucc .nil))) (.app .nil (.app .nil (il c) (ii e)) (.elim .nil (ih a) (ik b) (il c) (ii e)))
 | mrefl h ih => intro m s; cases s with
  | move w a b c => cases b with
   | refl w' e => exact .exp (w.trans ((w'.move _ _).trans (.cons .mrefl .nil))) (ih c)
 | fpair h ih => intro m s; cases s with
  | fst w a => cases a with
   | pair w' a b c => exact .exp (w.trans (w'.fst.trans (.cons .fpair .nil))) (ih b)
 | spair h ih => intro m s; cases s with
  | snd w a => cases a with
   | pair w' a b c => exact .exp (w.trans (w'.snd.trans (.cons .spair .nil))) (ih c)
theorem Red.st {m n : Tm} (h : Red m n) : ST m n := by
 have : ∀ {m n p : Tm}, ST m n → Red n p → ST m p := by
  intro m n p s r
  induction r with
  | nil => exact s
  | cons h _ ih => exact ih (ST.par h s)
 exact this (.rfl' m) h
theorem ST.red {m n : Tm} (h : ST m n) : Red m n := by
 induction h with
 | var w => exact w.red
 | sort w => exact w.red
 | pi w _ _ a b => exact w.red.trans (a.pi b)
 | lam w _ _ a b => exact w.red.trans (a.lam b)
 | app w _ _ a b => exact w.red.trans (a.app b)
 | nat w => exact w.red
 | zero w => exact w.red
 | succ w _ a => exact w.red.trans a.succ
 | elim w _ _ _ _ a b c d => exact w.red.trans (a.elim b c d)
 | id w _ _ _ a b c => exact w.red.trans (a.id b c)
 | refl w _ a => exact w.red.trans a.refl
 | move w _ _ _ a b c => exact w.red.trans (a.move b c)
 | sig w _ _ a b => exact w.red.trans (a.sig b)
 | pair w _ _ _ a b c => exact w.red.trans (a.pair b c)
 | fst w _ a => exact w.red.trans a.fst
 | snd w _ a => exact w.red.trans a.snd
end Tm
end Go.Proofs.Ytgchmppmecnniaa
end
section
namespace Go.Proofs.Ytgchmppmecnniaa
namespace Tm
def look : List Tm → Nat → Option Tm
 | [], _ => none
 | A :: _, 0 => some A.wk
 | _ :: G, n + 1 => (look G n).map wk
def stepTy (p : Tm) : Tm := pi nat (pi (app p.wk (var 0)) (app p.wk.wk (succ (var 1))))
inductive Ty : List Tm → Tm → Tm → Prop
 | var {G n A} (h : look G n = some A) : Ty G (var n) A
 | sort {G n} (h : n < 3) : Ty G (sort n) (sort (n + 1))
 | pi {G A B i j} (h : Ty G A (sort i)) (k : Ty (A :: G) B (sort j)) : Ty G (pi A B) (sort (max i j))
 | sig {G A B i j} (h : Ty G A (sort i)) (k : Ty (A :: G) B (sort j)) : Ty G (sig A B) (sort (max i j))
 | lam {G A B b i j} (h : Ty G A (sort i)) (k : Ty (A :: G) b B) (l : Ty (A :: G) B (sort j)) : Ty G (lam A b) (pi A B)
 | app {G f u A B} (h : Ty G f (pi A B)) (k : Ty G u A) : Ty G (app f u) (B.inst u)
 | nat {G} : Ty G nat (sort 0)
 | zero {G} : Ty G zero nat
 | succ {G n} (h : Ty G n nat) : Ty G (succ n) nat
 | elim {G p z s n i} (h : Ty G p (pi nat (sort i))) (k : Ty G z (app p zero)) (l : Ty G s (stepTy p)) (m : Ty G n nat) : Ty G (elim p z s n) (app p n)
 | id {G t a b i} (h : Ty G t (sort i)) (k : Ty G a t) (l : Ty G b t) : Ty G (id t a b) (sort i)
 | refl {G a A i} (h : Ty G a A) (k : Ty G A (sort i)) : Ty G (refl a) (id A a a)
 | move {G p e x t y z i} (h : Ty G e (id t y z)) (k : Ty G p (pi t (sort i))) (l : Ty G x (app p y)) (m : Ty G z t) : Ty G (move p e x) (app p z)
 | pair {G s a b A B i j} (h : Ty G s (sort i)) (r : Red s (Tm.sig A B)) (q : Ty G (Tm.sig A B) (Tm.sort j)) (k : Ty G a A) (l : Ty G b (B.inst a)) : Ty G (pair s a b) s
 | fst {G q A B} (h : Ty G q (sig A B)) : Ty G (fst q) A
 | snd {G q A B} (h : Ty G q (sig A B)) : Ty G (snd q) (B.inst (fst q))
 | conv {G t A B i} (h : Ty G t A) (c : Conv A B) (k : Ty G B (sort i)) : Ty G t B
theorem stepTy_ren (p : Tm) (ξ) : (stepTy p).ren ξ = stepTy (p.ren ξ) := by
 simp only [stepTy, ren, wk_up]; rfl
theorem stepTy_sub (p : Tm) (σ) : (stepTy p).sub σ = stepTy (p.sub σ) := by
 simp only [stepTy, sub, wk_ups]; rfl
def RenOk (ξ : Nat → Nat) (G D : List Tm) : Prop := ∀ n A, look G n = some A → look D (ξ n) = some (A.ren ξ)
theorem RenOk.up {ξ : Nat → Nat} {G D : List Tm} (h : RenOk ξ G D) (A : Tm) : RenOk (up ξ) (A :: G) (A.ren ξ :: D) := by
 intro n B hB
 cases n with
 | zero =>
  simp only [look, Option.some.injEq] at hB; subst hB
  show some (A.ren ξ).wk = _
  rw [wk_up]
 | succ n =>
  obtain ⟨C, hC, rfl⟩ := Option.map_eq_some_iff.1 hB
  show (look D (ξ n)).map wk = _
  rw [h n C hC, Option.map_some, wk_up]
theorem RenOk.wk (G : List Tm) (A : Tm) : RenOk (· + 1) G (A :: G) := by
 intro n B hB
 show (look G n).map Tm.wk = _
 rw [hB]; rfl
theorem Ty.ren {G : List Tm} {t A : Tm} (h : Ty G t A) : ∀ {ξ D}, RenOk ξ G D → Ty D (t.ren ξ) (A.ren ξ) := by
 induction h with
 | var h => intro ξ D hr; exact .var (hr _ _ h)
 | sort h => intro ξ D hr; exact .sort h
 | pi h k ih ik => intro ξ D hr; exact .pi (ih hr) (ik (hr.up _))
 | sig h k ih ik => intro ξ D hr; exact .sig (ih hr) (ik (hr.up _))
 | lam h k l ih ik il => intro ξ D hr; exact .lam (ih hr) (ik (hr.up _)) (il (hr.up _))
 | app h k ih ik => intro ξ D hr; rw [inst_ren]; exact .app (ih hr) (ik hr)
 | nat => intro ξ D hr; exact .nat
 | zero => intro ξ D hr; exact .zero
 | succ h ih => intro ξ D hr; exact .succ (ih hr)
 | elim h k l m ih ik il im => intro ξ D hr; exact .elim (ih hr) (ik hr) (by have := il hr; rwa [stepTy_ren] at this) (im hr)
 | id h k l ih ik il => intro ξ D hr; exact .id (ih hr) (ik hr) (il hr)
 | refl h k ih ik => intro ξ D hr; exact .refl (ih hr) (ik hr)
 | move h k l m ih ik il im => intro ξ D hr; exact .move (ih hr) (ik hr) (il hr) (im hr)
 | pair h r q k l ih iq ik il => intro ξ D hr; exact .pair (ih hr) (r.ren ξ) (iq hr) (ik hr) (by have := il hr; rwa [inst_ren] at this)
 | fst h ih => intro ξ D hr; exact .fst (ih hr)
 | snd h ih => intro ξ D hr; rw [inst_ren]; exact .snd (ih hr)
 | conv h c k ih ik => intro ξ D hr; exact .conv (ih hr) (c.ren ξ) (ik hr)
theorem Ty.wk {G : List Tm} {t A : Tm} (h : Ty G t A) (B : Tm) : Ty (B :: G) t.wk A.wk := h.ren (RenOk.wk G B)
def SubOk (σ : Nat → Tm) (G D : List Tm) : Prop := ∀ n A, look G n = some A → Ty D (σ n) (A.sub σ)
theorem SubOk.ups {σ : Nat → Tm} {G D : List Tm} (h : SubOk σ G D) (A : Tm) : SubOk (ups σ) (A :: G) (A.sub σ :: D) := by
 intro n B hB
 cases n with
 | zero =>
  simp only [look, Option.some.injEq] at hB; subst hB
  rw [wk_ups]
  exact .var rfl
 | succ n =>
  obtain ⟨C, hC, rfl⟩ := Option.map_eq_some_iff.1 hB
  rw [wk_ups]
  exact (h n C hC).wk _
theorem Ty.sub {G : List Tm} {t A : Tm} (h : Ty G t A) : ∀ {σ D}, SubOk σ G D → Ty D (t.sub σ) (A.sub σ) := by
 induction h with
 | var h => intro σ D hr; exact hr _ _ h
 | sort h => intro σ D hr; exact .sort h
 | pi h k ih ik => intro σ D hr; exact .pi (ih hr) (ik (hr.ups _))
 | sig h k ih ik => intro σ D hr; exact .sig (ih hr) (ik (hr.ups _))
 | lam h k l ih ik il => intro σ D hr; exact .lam (ih hr) (ik (hr.ups _)) (il (hr.ups _))
 | app h k ih ik => intro σ D hr; rw [inst_sub]; exact .app (ih hr) (ik hr)
 | nat => intro σ D hr; exact .nat
 | zero => intro σ D hr; exact .zero
 | succ h ih => intro σ D hr; exact .succ (ih hr)
 | elim h k l m ih ik il im => intro σ D hr; exact .elim (ih hr) (ik hr) (by have := il hr; rwa [stepTy_sub] at this) (im hr)
 | id h k l ih ik il => intro σ D hr; exact .id (ih hr) (ik hr) (il hr)
 | refl h k ih ik => intro σ D hr; exact .refl (ih hr) (ik hr)
 | move h k l m ih ik il im => intro σ D hr; exact .move (ih hr) (ik hr) (il hr) (im hr)
 | pair h r q k l ih iq ik il => intro σ D hr; exact .pair (ih hr) (r.sub σ) (iq hr) (ik hr) (by have := il hr; rwa [inst_sub] at this)
 | fst h ih => intro σ D hr; exact .fst (ih hr)
 | snd h ih => intro σ D hr; rw [inst_sub]; exact .snd (ih hr)
 | conv h c k ih ik => intro σ D hr; exact .conv (ih hr) (c.sub σ) (ik hr)
theorem SubOk.one {G : List Tm} {u A : Tm} (h : Ty G u A) : SubOk (sc u var) (A :: G) G := by
 intro n B hB
 cases n with
 | zero =>
  simp only [look, Option.some.injEq] at hB; subst hB
  rw [wk_sub, sub_var]; exact h
 | succ n =>
  obtain ⟨C, hC, rfl⟩ := Option.map_eq_some_iff.1 hB
  rw [wk_sub, sub_var]; exact .var hC
theorem Ty.inst {G : List Tm} {t u A B : Tm} (h : Ty (A :: G) t B) (k : Ty G u A) : Ty G (t.inst u) (B.inst u) := h.sub (SubOk.one k)
theorem Ty.ctx {G : List Tm} {t A A' B : Tm} {i : Nat} (h : Ty (A :: G) t B) (c : Conv A' A) (k : Ty G A (Tm.sort i)) : Ty (A' :: G) t B := by
 have : SubOk Tm.var (A :: G) (A' :: G) := by
  intro n C hC
  rw [sub_var]
  cases n with
  | zero =>
   simp only [look, Option.some.injEq] at hC; subst hC
   exact .conv (.var rfl) (c.ren _) (k.wk _)
  | succ n => exact .var hC
 have h2 := h.sub this
 rwa [sub_var, sub_var] at h2
def Gen (G : List Tm) : Tm → Tm → Prop
 | var n, C => ∃ A, look G n = some A ∧ Conv A C
 | sort n, C => n < 3 ∧ Conv (sort (n + 1)) C
 | pi A B, C => ∃ i j, Ty G A (sort i) ∧ Ty (A :: G) B (sort j) ∧ Conv (sort (max i j)) C
 | sig A B, C => ∃ i j, Ty G A (sort i) ∧ Ty (A :: G) B (sort j) ∧ Conv (sort (max i j)) C
 | lam A b, C => ∃ B i j, Ty G A (sort i) ∧ Ty (A :: G) b B ∧ Ty (A :: G) B (sort j) ∧ Conv (pi A B) C
 | app f u, C => ∃ A B, Ty G f (pi A B) ∧ Ty G u A ∧ Conv (B.inst u) C
 | nat, C => Conv (sort 0) C
 | zero, C => Conv nat C
 | succ n, C => Ty G n nat ∧ Conv nat C
 | elim p z s n, C => ∃ i, Ty G p (pi nat (sort i)) ∧ Ty G z (app p zero) ∧ Ty G s (stepTy p) ∧ Ty G n nat ∧ Conv (app p n) C
 | id t a b, C => ∃ i, Ty G t (sort i) ∧ Ty G a t ∧ Ty G b t ∧ Conv (sort i) C
 | refl a, C => ∃ A i, Ty G a A ∧ Ty G A (sort i) ∧ Conv (id A a a) C
 | move p e x, C => ∃ t y z i, Ty G e (id t y z) ∧ Ty G p (pi t (sort i)) ∧ Ty G x (app p y) ∧ Conv (app p z) C
 | pair s a b, C => ∃ A B i j, Ty G s (sort i) ∧ Red s (sig A B) ∧ Ty G (sig A B) (sort j) ∧ Ty G a A ∧ Ty G b (B.inst a) ∧ Conv s C
 | fst q, C => ∃ A B, Ty G q (sig A B) ∧ Conv A C
 | snd q, C => ∃ A B, Ty G q (sig A B) ∧ Conv (B.inst (fst q)) C
theorem Gen.conv {G : List Tm} {t A B : Tm} (h : Gen G t A) (c : Conv A B) : Gen G t B := by
 cases t with
 | var n => obtain ⟨X, h1, h2⟩ := h; exact ⟨X, h1, h2.trans c⟩
 | sort n => exact ⟨h.1, h.2.trans c⟩
 | pi a b => obtain ⟨i, j, h1, h2, h3⟩ := h; exact ⟨i, j, h1, h2, h3.trans c⟩
 | sig a b => obtain ⟨i, j, h1, h2, h3⟩ := h; exact ⟨i, j, h1, h2, h3.trans c⟩
 | lam a b => obtain ⟨X, i, j, h1, h2, h3, h4⟩ := h; exact ⟨X, i, j, h1, h2, h3, h4.trans c⟩
 | app f u => obtain ⟨X, Y, h1, h2, h3⟩ := h; exact ⟨X, Y, h1, h2, h3.trans c⟩
 | nat => exact Conv.trans h c
 | zero => exact Conv.trans h c
 | succ n => exact ⟨h.1, h.2.trans c⟩
 | elim p z s n => obtain ⟨i, h1, h2, h3, h4, h5⟩ := h; exact ⟨i, h1, h2, h3, h4, h5.trans c⟩
 | id t a b => obtain ⟨i, h1, h2, h3, h4⟩ := h; exact ⟨i, h1, h2, h3, h4.trans c⟩
 | refl a => obtain ⟨X, i, h1, h2, h3⟩ := h; exact ⟨X, i, h1, h2, h3.trans c⟩
 | move p e x => obtain ⟨t, y, z, i, h1, h2, h3, h4⟩ := h; exact ⟨t, y, z, i, h1, h2, h3, h4.trans c⟩
 | pair s a b => obtain ⟨X, Y, i, j, h1, h2, h3, h4, h5, h6⟩ := h; exact ⟨X, Y, i, j, h1, h2, h3, h4, h5, h6.trans c⟩
 | fst q => obtain ⟨X, Y, h1, h2⟩ := h; exact ⟨X, Y, h1, h2.trans c⟩
 | snd q => obtain ⟨X, Y, h1, h2⟩ := h; exact ⟨X, Y, h1, h2.trans c⟩
theorem Ty.gen {G : List Tm} {t A : Tm} (h : Ty G t A) : Gen G t A := by
 induction h with
 | var h => exact ⟨_, h, .rfl'⟩
 | sort h => exact ⟨h, .rfl'⟩
 | pi h k => exact ⟨_, _, h, k, .rfl'⟩
 | sig h k => exact ⟨_, _, h, k, .rfl'⟩
 | lam h k l => exact ⟨_, _, _, h, k, l, .rfl'⟩
 | app h k => exact ⟨_, _, h, k, .rfl'⟩
 | nat => exact .rfl'
 | zero => exact .rfl'
 | succ h => exact ⟨h, .rfl'⟩
 | elim h k l m => exact ⟨_, h, k, l, m, .rfl'⟩
 | id h k l => exact ⟨_, h, k, l, .rfl'⟩
 | refl h k => exact ⟨_, _, h, k, .rfl'⟩
 | move h k l m => exact ⟨_, _, _, _, h, k, l, .rfl'⟩
 | pair h r q k l => exact ⟨_, _, _, _, h, r, q, k, l, .rfl'⟩
 | fst h => exact ⟨_, _, h, .rfl'⟩
 | snd h => exact ⟨_, _, h, .rfl'⟩
 | conv h c k ih _ => exact ih.conv c
inductive Wf : List Tm → Prop
 | nil : Wf []
 | cons {A G i} (w : Wf G) (h : Ty G A (sort i)) : Wf (A :: G)
theorem Wf.look {G : List Tm} (w : Wf G) : ∀ {n A}, look G n = some A → ∃ i, Ty G A (Tm.sort i) := by
 induction w with
 | nil => intro n A h; cases h
 | cons w h ih =>
  intro n A hA
  cases n with
  | zero => simp only [Tm.look, Option.some.injEq] at hA; subst hA; exact ⟨_, h.wk _⟩
  | succ n =>
   obtain ⟨C, hC, rfl⟩ := Option.map_eq_some_iff.1 hA
   obtain ⟨i, hi⟩ := ih hC
   exact ⟨i, hi.wk _⟩
def IsTy (G : List Tm) (A : Tm) : Prop := A = sort 3 ∨ ∃ i, Ty G A (sort i)
theorem Ty.sort_lt {G : List Tm} {n : Nat} {C : Tm} (h : Ty G (Tm.sort n) C) : n < 3 := h.gen.1
theorem IsTy.le {G : List Tm} {i : Nat} (h : IsTy G (sort i)) : i ≤ 3 := by
 rcases h with h | ⟨j, h⟩
 ·cases h; omega
 ·have := h.sort_lt; omega
theorem IsTy.of_le {G : List Tm} {i : Nat} (h : i ≤ 3) : IsTy G (sort i) := by
 by_cases h3 : i = 3
 ·subst h3; exact .inl rfl
 ·exact .inr ⟨_, .sort (by omega)⟩
theorem Ty.valid {G : List Tm} {t A : Tm} (h : Ty G t A) : Wf G → IsTy G A := by
 induction h with
 | var h => intro w; exact .inr (w.look h)
 | sort h => intro w; exact .of_le (by omega)
 | pi h k ih ik => intro w; have := (ih w).le; have := (ik (.cons w h)).le; exact .of_le (by omega)
 | sig h k ih ik => intro w; have := (ih w).le; have := (ik (.cons w h)).le; exact .of_le (by omega)
 | lam h k l ih ik il => intro w; exact .inr ⟨_, .pi h l⟩
 | app h k ih ik =>
  intro w
  rcases ih w with e | ⟨i, hi⟩
  ·cases e
  ·obtain ⟨i, j, h1, h2, h3⟩ := hi.gen
   exact .inr ⟨j, h2.inst k⟩
 | nat => intro w; exact .of_le (by omega)
 | zero => intro w; exact .inr ⟨_, .nat⟩
 | succ h ih => intro w; exact .inr ⟨_, .nat⟩
 | elim h k l m ih ik il im => intro w; exact .inr ⟨_, .app h m⟩
 | id h k l ih ik il => intro w; exact ih w
 | refl h k ih ik => intro w; exact .inr ⟨_, .id k h h⟩
 | move h k l m ih ik il im => intro w; exact .inr ⟨_, .app k m⟩
 | pair h r q k l ih iq ik il => intro w; exact .inr ⟨_, h⟩
 | fst h ih =>
  intro w
  rcases ih w with e | ⟨i, hi⟩
  ·cases e
  ·obtain ⟨i, j, h1, h2, h3⟩ := hi.gen
   exact .inr ⟨_, h1⟩
 | snd h ih =>
  intro w
  rcases ih w with e | ⟨i, hi⟩
  ·cases e
  ·obtain ⟨i, j, h1, h2, h3⟩ := hi.gen
   exact .inr ⟨_, h2.inst (.fst h)⟩
 | conv h c k ih ik => intro w; exact .inr ⟨_, k⟩
theorem Ty.app' {G : List Tm} {p u t : Tm} {i : Nat} (h : Ty G p (Tm.pi t (Tm.sort i))) (k : Ty G u t) : Ty G (Tm.app p u) (Tm.sort i) := .app h k
theorem Ty.stepTy {G : List Tm} {p : Tm} {i : Nat} (h : Ty G p (Tm.pi Tm.nat (Tm.sort i))) : Ty G (Tm.stepTy p) (Tm.sort (max 0 (max i i))) := by
 refine .pi .nat (.pi ?_ ?_)
 ·exact Ty.app' (t := Tm.nat) (h.wk _) (.var rfl)
 ·exact Ty.app' (t := Tm.nat) ((h.wk _).wk _) (.succ (.var rfl))
theorem Conv.stepTy {p q : Tm} (h : Conv p q) : Conv (stepTy p) (Tm.stepTy q) :=
 Conv.pi .rfl' (Conv.pi (Conv.app (h.ren _) .rfl') (Conv.app ((h.ren _).ren _) .rfl'))
theorem stepTy_inst (p n x : Tm) : ((app p.wk.wk (succ (var 1))).sub (ups (sc n var))).inst x = app p (succ n) := by
 rw [ups_inst]
 show app (p.wk.wk.sub _) (succ _) = _
 rw [wk_sub, wk_sub, sub_var]; rfl
theorem stepTy_out {G : List Tm} {p n s x : Tm} (h : Ty G s (stepTy p)) (k : Ty G n nat) (l : Ty G x (app p n)) : Ty G (app (app s n) x) (app p (succ n)) := by
 have h1 : Ty G (app s n) (pi ((app p.wk (var 0)).sub (sc n var)) ((app p.wk.wk (succ (var 1))).sub (ups (sc n var)))) := Ty.app h k
 have e1 : ((app p.wk (var 0)).sub (sc n var)) = app p n := by
  show app (p.wk.sub _) _ = _
  rw [wk_sub, sub_var]; rfl
 rw [e1] at h1
 have h2 := Ty.app h1 l
 rwa [stepTy_inst] at h2
theorem Ty.par {G : List Tm} {t A : Tm} (h : Ty G t A) : Wf G → ∀ {t'}, Par t t' → Ty G t' A := by
 induction h with
 | var h => intro w t' r; cases r; exact .var h
 | sort h => intro w t' r; cases r; exact .sort h
 | pi h k ih ik =>
  intro w t' r
  cases r with
  | pi r q => exact .pi (ih w r) ((ik (.cons w h) q).ctx r.conv.symm h)
 | sig h k ih ik =>
  intro w t' r
  cases r with
  | sig r q => exact .sig (ih w r) ((ik (.cons w h) q).ctx r.conv.symm h)
 | lam h k l ih ik il =>
  intro w t' r
  cases r with
  | lam r q =>
   refine .conv (.lam (ih w r) ((ik (.cons w h) q).ctx r.conv.symm h) (l.ctx r.conv.symm h)) (Conv.pi r.conv.symm .rfl') (.pi h l)
 | app h k ih ik =>
  intro w t' r
  have v := (Ty.app h k).valid w
  have back : ∀ {X}, Ty _ t' X → Conv X _ → Ty _ t' _ := fun {X} g c => by
   rcases v with e | ⟨i, hi⟩
   ·exact absurd e (by
      intro e
      rcases h.valid w with e' | ⟨i, hi⟩
      ·cases e'
      ·obtain ⟨i, j, h1, h2, h3⟩ := hi.gen
       have := (h2.inst k)
       rw [e] at this
       exact absurd this.sort_lt (by omega))
   ·exact .conv g c hi
  cases r with
  | app r q => exact back (.app (ih w r) (ik w q)) (Conv.inst .rfl' q.conv.symm)
  | beta r q =>
   rename_i A0 b b' u'
   obtain ⟨X, i, j, h1, h2, h3, h4⟩ := (ih w (.lam (Par.rfl' _) r)).gen
   obtain ⟨c1, c2⟩ := h4.pi_inv
   have hu := Ty.conv (ik w q) c1.symm h1
   exact back (h2.inst hu) (Conv.inst c2 q.conv.symm)
 | nat => intro w t' r; cases r; exact .nat
 | zero => intro w t' r; cases r; exact .zero
 | succ h ih => intro w t' r; cases r with | succ r => exact .succ (ih w r)
 | elim h k l m ih ik il im =>
  intro w t' r
  have kz : ∀ {p'}, Par _ p' → Ty _ (Tm.app p' Tm.zero) (Tm.sort _) := fun r => Ty.app' (ih w r) .zero
  cases r with
  | elim r q o v =>
   exact .conv (.elim (ih w r) (.conv (ik w q) (Conv.app r.conv .rfl') (kz r)) (.conv (il w o) (Conv.stepTy r.conv) (Ty.stepTy (ih w r))) (im w v)) (Conv.app r.conv.symm v.conv.symm) (Ty.app' h m)
  | ezero q => exact ik w q
  | esucc r q o v =>
   have hm := (im w (.succ v)).gen.1
   have he := Ty.elim (ih w r) (.conv (ik w q) (Conv.app r.conv .rfl') (kz r)) (.conv (il w o) (Conv.stepTy r.conv) (Ty.stepTy (ih w r))) hm
   have he' := Ty.conv he (Conv.app r.conv.symm .rfl') (Ty.app' h hm)
   have h3 := stepTy_out (il w o) hm he'
   exact .conv h3 (Conv.app .rfl' (Conv.succ v.conv.symm)) (Ty.app' h m)
 | id h k l ih ik il =>
  intro w t' r
  cases r with
  | id r q o => exact .id (ih w r) (.conv (ik w q) r.conv (ih w r)) (.conv (il w o) r.conv (ih w r))
 | refl h k ih ik =>
  intro w t' r
  cases r with
  | refl r => exact .conv (.refl (ih w r) k) (Conv.id .rfl' r.conv.symm r.conv.symm) (.id k h h)
 | move h k l m ih ik il im =>
  intro w t' r
  obtain ⟨i, g2, g3, g4⟩ : ∃ i, Ty _ _ (Tm.sort i) ∧ Ty _ _ _ ∧ Ty _ _ _ := by
   rcases h.valid w with e | ⟨i, hi⟩
   ·cases e
   ·obtain ⟨i, h1, h2, h3, h4⟩ := hi.gen
    exact ⟨i, h1, h2, h3⟩
  cases r with
  | move r q o =>
   have hp := ik w r
   exact .conv (.move (ih w q) hp (.conv (il w o) (Conv.app r.conv .rfl') (Ty.app' hp g3)) m) (Conv.app r.conv.symm .rfl') (Ty.app' k g4)
  | mrefl o =>
   obtain ⟨X, i, h1, h2, h3⟩ := h.gen
   obtain ⟨_, c1, c2⟩ := h3.id_inv
   exact .conv (il w o) (Conv.app .rfl' (c1.symm.trans c2)) (Ty.app' k g4)
 | pair h r q k l ih iq ik il =>
  intro w t' z
  cases z with
  | pair z o v =>
   obtain ⟨x, h1, h2⟩ := Red.strip z r
   cases h2 with
   | sig r1 r2 =>
    have hs := ih w z
    have hq := iq w (.sig r1 r2)
    obtain ⟨i', j', g1, g2, g3⟩ := hq.gen
    have ha := Ty.conv (ik w o) r1.conv g1
    have hb := Ty.conv (il w v) (Conv.inst r2.conv o.conv) (g2.inst ha)
    exact .conv (.pair hs h1 hq ha hb) z.conv.symm h
 | fst h ih =>
  intro w t' r
  obtain ⟨i, j, g1, g2, g3⟩ : ∃ i j, Ty _ _ (Tm.sort i) ∧ Ty _ _ (Tm.sort j) ∧ True := by
   rcases h.valid w with e | ⟨i, hi⟩
   ·cases e
   ·obtain ⟨i, j, h1, h2, h3⟩ := hi.gen
    exact ⟨i, j, h1, h2, trivial⟩
  cases r with
  | fst r => exact .fst (ih w r)
  | fpair r =>
   obtain ⟨X, Y, i, j, h1, h2, h3, h4, h5, h6⟩ := (ih w (.pair (Par.rfl' _) r (Par.rfl' _))).gen
   have c := (h2.conv.symm.trans h6).sig_inv
   exact .conv h4 c.1 g1
 | snd h ih =>
  intro w t' r
  obtain ⟨i, j, g1, g2, g3⟩ : ∃ i j, Ty _ _ (Tm.sort i) ∧ Ty _ _ (Tm.sort j) ∧ True := by
   rcases h.valid w with e | ⟨i, hi⟩
   ·cases e
   ·obtain ⟨i, j, h1, h2, h3⟩ := hi.gen
    exact ⟨i, j, h1, h2, trivial⟩
  have g4 := g2.inst (.fst h)
  cases r with
  | snd r => exact .conv (.snd (ih w r)) (Conv.inst .rfl' (Conv.fst r.conv.symm)) g4
  | spair r =>
   obtain ⟨X, Y, i, j, h1, h2, h3, h4, h5, h6⟩ := (ih w (.pair (Par.rfl' _) (Par.rfl' _) r)).gen
   have c := (h2.conv.symm.trans h6).sig_inv
   exact .conv h5 (Conv.inst c.2 (Conv.symm (Par.conv (.fpair (Par.rfl' _))))) g4
 | conv h c k ih ik => intro w t' r; exact .conv (ih w r) c k
theorem Ty.red {G : List Tm} {t t' A : Tm} (h : Ty G t A) (w : Wf G) (r : Red t t') : Ty G t' A := by
 induction r with
 | nil => exact h
 | cons r _ ih => exact ih (h.par w r)
end Tm
end Go.Proofs.Ytgchmppmecnniaa
end
section
namespace Go.Proofs.Ytgchmppmecnniaa
namespace Tm
inductive Al : List Tm → Tm → Tm → Prop
 | var {G n A} (h : look G n = some A) : Al G (var n) A
 | sort {G n} (h : n < 3) : Al G (sort n) (sort (n + 1))
 | nat {G} : Al G nat (sort 0)
 | zero {G} : Al G zero nat
 | succ {G n T} (h : Al G n T) (c : Conv T nat) : Al G (succ n) nat
 | pi {G A B S R i j} (h : Al G A S) (w : Wh S (sort i)) (k : Al (A :: G) B R) (v : Wh R (sort j)) : Al G (pi A B) (sort (max i j))
 | sig {G A B S R i j} (h : Al G A S) (w : Wh S (sort i)) (k : Al (A :: G) B R) (v : Wh R (sort j)) : Al G (sig A B) (sort (max i j))
 | lam {G A b B S R i j} (h : Al G A S) (w : Wh S (sort i)) (k : Al (A :: G) b B) (l : Al (A :: G) B R) (v : Wh R (sort j)) : Al G (lam A b) (pi A B)
 | app {G f u F U C B} (h : Al G f F) (w : Wh F (pi C B)) (k : Al G u U) (c : Conv U C) : Al G (app f u) (B.inst u)
 | elim {G p z s n P C D i Z S N} (h : Al G p P) (w : Wh P (pi C D)) (c : Conv C nat) (v : Wh D (sort i)) (k : Al G z Z) (d : Conv Z (app p zero)) (l : Al G s S) (e : Conv S (stepTy p)) (m : Al G n N) (f : Conv N nat) : Al G (elim p z s n) (app p n)
 | id {G t a b S A B i} (h : Al G t S) (w : Wh S (sort i)) (k : Al G a A) (c : Conv A t) (l : Al G b B) (d : Conv B t) : Al G (id t a b) (sort i)
 | refl {G a A S i} (h : Al G a A) (k : Al G A S) (w : Wh S (sort i)) : Al G (refl a) (id A a a)
 | move {G p e x Q t y z P C D i X} (h : Al G e Q) (w : Wh Q (id t y z)) (k : Al G p P) (v : Wh P (pi C D)) (c : Conv C t) (u : Wh D (sort i)) (l : Al G x X) (d : Conv X (app p y)) : Al G (move p e x) (app p z)
 | pair {G s a b S i A B A' B'} (h : Al G s S) (w : Wh S (sort i)) (v : Wh s (Tm.sig A B)) (k : Al G a A') (c : Conv A' A) (l : Al G b B') (d : Conv B' (B.inst a)) : Al G (pair s a b) s
 | fst {G q Q A B} (h : Al G q Q) (w : Wh Q (sig A B)) : Al G (fst q) A
 | snd {G q Q A B} (h : Al G q Q) (w : Wh Q (sig A B)) : Al G (snd q) (B.inst (fst q))
theorem Ty.lvl {G : List Tm} {A S : Tm} {i : Nat} (h : Ty G A S) (w : Wf G) (r : Wh S (Tm.sort i)) : Ty G A (Tm.sort i) := by
 rcases h.valid w with e | ⟨j, hj⟩
 ·subst e
  cases r with
  | nil => exact h
  | cons r _ => cases r
 ·exact .conv h r.conv (hj.red w r.red)
theorem Ty.frm {G : List Tm} {t S F : Tm} (h : Ty G t S) (w : Wf G) (r : Wh S F) : Ty G t F := by
 rcases h.valid w with e | ⟨j, hj⟩
 ·subst e
  cases r with
  | nil => exact h
  | cons r _ => cases r
 ·exact .conv h r.conv (hj.red w r.red)
theorem Ty.pi_parts {G : List Tm} {t C B : Tm} (h : Ty G t (Tm.pi C B)) (w : Wf G) : ∃ i j, Ty G C (Tm.sort i) ∧ Ty (C :: G) B (Tm.sort j) := by
 rcases h.valid w with e | ⟨i, hi⟩
 ·cases e
 ·obtain ⟨i, j, h1, h2, h3⟩ := hi.gen; exact ⟨i, j, h1, h2⟩
theorem Ty.id_parts {G : List Tm} {e t y z : Tm} (h : Ty G e (Tm.id t y z)) (w : Wf G) : ∃ i, Ty G t (Tm.sort i) ∧ Ty G y t ∧ Ty G z t := by
 rcases h.valid w with e | ⟨i, hi⟩
 ·cases e
 ·obtain ⟨i, h1, h2, h3, h4⟩ := hi.gen; exact ⟨i, h1, h2, h3⟩
theorem Ty.fam {G : List Tm} {p C D t : Tm} {i j : Nat} (h : Ty G p (Tm.pi C D)) (w : Wf G) (c : Conv C t) (r : Wh D (Tm.sort i)) (k : Ty G t (Tm.sort j)) : Ty G p (Tm.pi t (Tm.sort i)) := by
 obtain ⟨i1, j1, h1, h2⟩ := h.pi_parts w
 have h3 := h2.red (.cons w h1) r.red
 have h4 : Ty (t :: G) (Tm.sort i) (Tm.sort (i + 1)) := .sort h3.sort_lt
 exact .conv h (Conv.pi c r.conv) (.pi k h4)
theorem Al.sound {G : List Tm} {t A : Tm} (h : Al G t A) : Wf G → Ty G t A := by
 induction h with
 | var h => intro w; exact .var h
 | sort h => intro w; exact .sort h
 | nat => intro w; exact .nat
 | zero => intro w; exact .zero
 | succ h c ih => intro w; exact .succ (.conv (ih w) c .nat)
 | pi h r k v ih ik => intro w; have a := (ih w).lvl w r; exact .pi a ((ik (.cons w a)).lvl (.cons w a) v)
 | sig h r k v ih ik => intro w; have a := (ih w).lvl w r; exact .sig a ((ik (.cons w a)).lvl (.cons w a) v)
 | lam h r k l v ih ik il => intro w; have a := (ih w).lvl w r; exact .lam a (ik (.cons w a)) ((il (.cons w a)).lvl (.cons w a) v)
 | app h r k c ih ik =>
  intro w
  have hf := (ih w).frm w r
  obtain ⟨i, j, h1, h2⟩ := hf.pi_parts w
  exact .app hf (.conv (ik w) c h1)
 | elim h r c v k d l e m f ih ik il im =>
  intro w
  have hp := ((ih w).frm w r).fam w c v .nat
  exact .elim hp (.conv (ik w) d (Ty.app' hp .zero)) (.conv (il w) e (Ty.stepTy hp)) (.conv (im w) f .nat)
 | id h r k c l d ih ik il =>
  intro w
  have a := (ih w).lvl w r
  exact .id a (.conv (ik w) c a) (.conv (il w) d a)
 | refl h k r ih ik => intro w; exact .refl (ih w) ((ik w).lvl w r)
 | move h r k v c u l d ih ik il =>
  intro w
  have he := (ih w).frm w r
  obtain ⟨i, h1, h2, h3⟩ := he.id_parts w
  have hp := ((ik w).frm w v).fam w c u h1
  exact .move he hp (.conv (il w) d (Ty.app' hp h2)) h3
 | pair h r v k c l d ih ik il =>
  intro w
  have hs := (ih w).lvl w r
  have hq := hs.red w v.red
  obtain ⟨i, j, h1, h2, h3⟩ := hq.gen
  have ha := Ty.conv (ik w) c h1
  exact .pair hs v.red hq ha (.conv (il w) d (h2.inst ha))
 | fst h r ih => intro w; exact .fst ((ih w).frm w r)
 | snd h r ih => intro w; exact .snd ((ih w).frm w r)
theorem Hd.ren_inv {t u : Tm} {ξ : Nat → Nat} (h : Hd (t.ren ξ) u) : ∃ v, u = v.ren ξ ∧ Hd t v := by
 generalize e : t.ren ξ = x at h
 induction h generalizing t with
 | beta =>
  cases t <;> simp only [Tm.ren, reduceCtorEq, Tm.app.injEq] at e
  rename_i f a
  obtain ⟨e1, e2⟩ := e
  cases f <;> simp only [Tm.ren, reduceCtorEq, Tm.lam.injEq] at e1
  obtain ⟨_, e1⟩ := e1; subst e1 e2
  exact ⟨_, (inst_ren _ _ _).symm, .beta⟩
 | ezero =>
  cases t <;> simp only [Tm.ren, reduceCtorEq, Tm.elim.injEq] at e
  rename_i p z s n
  obtain ⟨e1, e2, e3, e4⟩ := e
  cases n <;> simp only [Tm.ren, reduceCtorEq] at e4
  subst e2
  exact ⟨_, rfl, .ezero⟩
 | esucc =>
  cases t <;> simp only [Tm.ren, reduceCtorEq, Tm.elim.injEq] at e
  rename_i p z s n
  obtain ⟨e1, e2, e3, e4⟩ := e
  cases n <;> simp only [Tm.ren, reduceCtorEq, Tm.succ.injEq] at e4
  subst e1 e2 e3 e4
  exact ⟨Tm.app (Tm.app s _) (Tm.elim p z s _), rfl, .esucc⟩
 | mrefl =>
  cases t <;> simp only [Tm.ren, reduceCtorEq, Tm.move.injEq] at e
  rename_i p q x
  obtain ⟨e1, e2, e3⟩ := e
  cases q <;> simp only [Tm.ren, reduceCtorEq, Tm.refl.injEq] at e2
  subst e3
  exact ⟨_, rfl, .mrefl⟩
 | fpair =>
  cases t <;> simp only [Tm.ren, reduceCtorEq, Tm.fst.injEq] at e
  rename_i q
  cases q <;> simp only [Tm.ren, reduceCtorEq, Tm.pair.injEq] at e
  obtain ⟨e1, e2, e3⟩ := e
  subst e2
  exact ⟨_, rfl, .fpair⟩
 | spair =>
  cases t <;> simp only [Tm.ren, reduceCtorEq, Tm.snd.injEq] at e
  rename_i q
  cases q <;> simp only [Tm.ren, reduceCtorEq, Tm.pair.injEq] at e
  obtain ⟨e1, e2, e3⟩ := e
  subst e3
  exact ⟨_, rfl, .spair⟩
 | app h ih =>
  cases t <;> simp only [Tm.ren, reduceCtorEq, Tm.app.injEq] at e
  obtain ⟨e1, e2⟩ := e; subst e2
  obtain ⟨v, rfl, hv⟩ := ih e1
  exact ⟨_, rfl, .app hv⟩
 | elim h ih =>
  cases t <;> simp only [Tm.ren, reduceCtorEq, Tm.elim.injEq] at e
  obtain ⟨e1, e2, e3, e4⟩ := e; subst e1 e2 e3
  obtain ⟨v, rfl, hv⟩ := ih e4
  exact ⟨_, rfl, .elim hv⟩
 | move h ih =>
  cases t <;> simp only [Tm.ren, reduceCtorEq, Tm.move.injEq] at e
  obtain ⟨e1, e2, e3⟩ := e; subst e1 e3
  obtain ⟨v, rfl, hv⟩ := ih e2
  exact ⟨_, rfl, .move hv⟩
 | fst h ih =>
  cases t <;> simp only [Tm.ren, reduceCtorEq, Tm.fst.injEq] at e
  obtain ⟨v, rfl, hv⟩ := ih e
  exact ⟨_, rfl, .fst hv⟩
 | snd h ih =>
  cases t <;> simp only [Tm.ren, reduceCtorEq, Tm.snd.injEq] at e
  obtain ⟨v, rfl, hv⟩ := ih e
  exact ⟨_, rfl, .snd hv⟩
theorem Wh.ren_inv {t u : Tm} {ξ : Nat → Nat} (h : Wh (t.ren ξ) u) : ∃ v, u = v.ren ξ ∧ Wh t v := by
 generalize e : t.ren ξ = x at h
 induction h generalizing t with
 | nil => exact ⟨t, e.symm, .nil⟩
 | cons h _ ih =>
  subst e
  obtain ⟨v, rfl, hv⟩ := h.ren_inv
  obtain ⟨v', rfl, hv'⟩ := ih rfl
  exact ⟨v', rfl, .cons hv hv'⟩
theorem Wh.ren_pi {t a b : Tm} {ξ : Nat → Nat} (h : Wh (t.ren ξ) (Tm.pi a b)) : ∃ a' b', a = a'.ren ξ ∧ b = b'.ren (up ξ) ∧ Wh t (Tm.pi a' b') := by
 obtain ⟨v, e, hv⟩ := h.ren_inv
 cases v <;> simp only [Tm.ren, reduceCtorEq, Tm.pi.injEq] at e
 obtain ⟨rfl, rfl⟩ := e; exact ⟨_, _, rfl, rfl, hv⟩
theorem Wh.ren_sig {t a b : Tm} {ξ : Nat → Nat} (h : Wh (t.ren ξ) (Tm.sig a b)) : ∃ a' b', a = a'.ren ξ ∧ b = b'.ren (up ξ) ∧ Wh t (Tm.sig a' b') := by
 obtain ⟨v, e, hv⟩ := h.ren_inv
 cases v <;> simp only [Tm.ren, reduceCtorEq, Tm.sig.injEq] at e
 obtain ⟨rfl, rfl⟩ := e; exact ⟨_, _, rfl, rfl, hv⟩
theorem Wh.ren_id {t a b c : Tm} {ξ : Nat → Nat} (h : Wh (t.ren ξ) (Tm.id a b c)) : ∃ a' b' c', a = a'.ren ξ ∧ b = b'.ren ξ ∧ c = c'.ren ξ ∧ Wh t (Tm.id a' b' c') := by
 obtain ⟨v, e, hv⟩ := h.ren_inv
 cases v <;> simp only [Tm.ren, reduceCtorEq, Tm.id.injEq] at e
 obtain ⟨rfl, rfl, rfl⟩ := e; exact ⟨_, _, _, rfl, rfl, rfl, hv⟩
theorem Wh.ren_sort {t : Tm} {i : Nat} {ξ : Nat → Nat} (h : Wh (t.ren ξ) (Tm.sort i)) : Wh t (Tm.sort i) := by
 obtain ⟨v, e, hv⟩ := h.ren_inv
 cases v <;> simp only [Tm.ren, reduceCtorEq, Tm.sort.injEq] at e
 subst e; exact hv
theorem Conv.ren_inv {a b : Tm} {ξ η : Nat → Nat} (he : ∀ n, η (ξ n) = n) (h : Conv (a.ren ξ) (b.ren ξ)) : Conv a b := by
 have := h.ren η
 rw [ren_ren, ren_ren, show (fun n => η (ξ n)) = fun n => n from funext he, Tm.ren_id, Tm.ren_id] at this
 exact this
def RenIn (ξ : Nat → Nat) (G D : List Tm) : Prop := ∀ n, look D (ξ n) = (look G n).map (·.ren ξ)
theorem RenIn.up {ξ : Nat → Nat} {G D : List Tm} (h : RenIn ξ G D) (A : Tm) : RenIn (up ξ) (A :: G) (A.ren ξ :: D) := by
 intro n
 cases n with
 | zero => show some (A.ren ξ).wk = some (A.wk.ren (Tm.up ξ)); rw [wk_up]
 | succ n =>
  show (look D (ξ n)).map wk = ((look G n).map wk).map _
  rw [h n]
  cases look G n with
  | none => rfl
  | some C => simp only [Option.map_some, wk_up]
theorem RenIn.wk (G : List Tm) (A : Tm) : RenIn (· + 1) G (A :: G) := fun n => rfl
theorem up_inv {ξ η : Nat → Nat} (he : ∀ n, η (ξ n) = n) : ∀ n, up η (up ξ n) = n := by
 intro n; cases n with
 | zero => rfl
 | succ n => show η (ξ n) + 1 = _; rw [he]
theorem Al.ren_inv {D : List Tm} {x T : Tm} (h : Al D x T) : ∀ {t : Tm} {ξ η : Nat → Nat} {G : List Tm}, x = t.ren ξ → RenIn ξ G D → (∀ n, η (ξ n) = n) → ∃ T', T = T'.ren ξ ∧ Al G t T' := by
 induction h with
 | var h =>
  intro t ξ η G e hr he
  cases t <;> simp only [Tm.ren, reduceCtorEq, Tm.var.injEq] at e
  rename_i n
  subst e
  rw [hr n] at h
  obtain ⟨C, hC, rfl⟩ := Option.map_eq_some_iff.1 h
  exact ⟨C, rfl, .var hC⟩
 | sort h =>
  intro t ξ η G e hr he
  cases t <;> simp only [Tm.ren, reduceCtorEq, Tm.sort.injEq] at e
  subst e
  exact ⟨Tm.sort _, rfl, .sort h⟩
 | nat =>
  intro t ξ η G e hr he
  cases t <;> simp only [Tm.ren, reduceCtorEq] at e
  exact ⟨Tm.sort 0, rfl, .nat⟩
 | zero =>
  intro t ξ η G e hr he
  cases t <;> simp only [Tm.ren, reduceCtorEq] at e
  exact ⟨Tm.nat, rfl, .zero⟩
 | succ h c ih =>
  intro t ξ η G e hr he
  cases t <;> simp only [Tm.ren, reduceCtorEq, Tm.succ.injEq] at e
  obtain ⟨T', rfl, hT⟩ := ih e hr he
  exact ⟨Tm.nat, rfl, .succ hT (Conv.ren_inv (b := Tm.nat) he c)⟩
 | pi h w k v ih ik =>
  intro t ξ η G e hr he
  cases t <;> simp only [Tm.ren, reduceCtorEq, Tm.pi.injEq] at e
  obtain ⟨rfl, e2⟩ := e
  obtain ⟨S, rfl, hS⟩ := ih rfl hr he
  obtain ⟨R, rfl, hR⟩ := ik e2 (hr.up _) (up_inv he)
  exact ⟨Tm.sort _, rfl, .pi hS w.ren_sort hR v.ren_sort⟩
 | sig h w k v ih ik =>
  intro t ξ η G e hr he
  cases t <;> simp only [Tm.ren, reduceCtorEq, Tm.sig.injEq] at e
  obtain ⟨rfl, e2⟩ := e
  obtain ⟨S, rfl, hS⟩ := ih rfl hr he
  obtain ⟨R, rfl, hR⟩ := ik e2 (hr.up _) (up_inv he)
  exact ⟨Tm.sort _, rfl, .sig hS w.ren_sort hR v.ren_sort⟩
 | lam h w k l v ih ik il =>
  intro t ξ η G e hr he
  cases t <;> simp only [Tm.ren, reduceCtorEq, Tm.lam.injEq] at e
  obtain ⟨rfl, e2⟩ := e
  obtain ⟨S, rfl, hS⟩ := ih rfl hr he
  obtain ⟨B, rfl, hB⟩ := ik e2 (hr.up _) (up_inv he)
  obtain ⟨R, rfl, hR⟩ := il rfl (hr.up _) (up_inv he)
  exact ⟨Tm.pi _ _, rfl, .lam hS w.ren_sort hB hR v.ren_sort⟩
 | app h w k c ih ik =>
  intro t ξ η G e hr he
  cases t <;> simp only [Tm.ren, reduceCtorEq, Tm.app.injEq] at e
  obtain ⟨e1, rfl⟩ := e
  obtain ⟨F, rfl, hF⟩ := ih e1 hr he
  obtain ⟨U, rfl, hU⟩ := ik rfl hr he
  obtain ⟨a', b', rfl, rfl, w'⟩ := w.ren_pi
  exact ⟨_, (inst_ren _ _ _).symm, .app hF w' hU (Conv.ren_inv he c)⟩
 | elim h w c v k d l e m f ih ik il im =>
  intro t ξ η G e' hr he
  cases t <;> simp only [Tm.ren, reduceCtorEq, Tm.elim.injEq] at e'
  obtain ⟨rfl, e2, e3, rfl⟩ := e'
  obtain ⟨P, rfl, hP⟩ := ih rfl hr he
  obtain ⟨a', b', rfl, rfl, w'⟩ := w.ren_pi
  obtain ⟨Z, rfl, hZ⟩ := ik e2 hr he
  obtain ⟨S, rfl, hS⟩ := il e3 hr he
  obtain ⟨N, rfl, hN⟩ := im rfl hr he
  rw [← stepTy_ren] at e
  exact ⟨Tm.app _ _, rfl, .elim hP w' (Conv.ren_inv (b := Tm.nat) he c) v.ren_sort hZ (Conv.ren_inv (b := Tm.app _ Tm.zero) he d) hS (Conv.ren_inv he e) hN (Conv.ren_inv (b := Tm.nat) he f)⟩
 | id h w k c l d ih ik il =>
  intro t ξ η G e hr he
  cases t <;> simp only [Tm.ren, reduceCtorEq, Tm.id.injEq] at e
  obtain ⟨rfl, e2, e3⟩ := e
  obtain ⟨S, rfl, hS⟩ := ih rfl hr he
  obtain ⟨A, rfl, hA⟩ := ik e2 hr he
  obtain ⟨B, rfl, hB⟩ := il e3 hr he
  exact ⟨Tm.sort _, rfl, .id hS w.ren_sort hA (Conv.ren_inv he c) hB (Conv.ren_inv he d)⟩
 | refl h k w ih ik =>
  intro t ξ η G e hr he
  cases t <;> simp only [Tm.ren, reduceCtorEq, Tm.refl.injEq] at e
  subst e
  obtain ⟨A, rfl, hA⟩ := ih rfl hr he
  obtain ⟨S, rfl, hS⟩ := ik rfl hr he
  exact ⟨Tm.id _ _ _, rfl, .refl hA hS w.ren_sort⟩
 | move h w k v c u l d ih ik il =>
  intro t ξ η G e hr he
  cases t <;> simp only [Tm.ren, reduceCtorEq, Tm.move.injEq] at e
  obtain ⟨rfl, e2, e3⟩ := e
  obtain ⟨Q, rfl, hQ⟩ := ih e2 hr he
  obtain ⟨a', b', c', rfl, rfl, rfl, w'⟩ := w.ren_id
  obtain ⟨P, rfl, hP⟩ := ik rfl hr he
  obtain ⟨a2, b2, rfl, rfl, v'⟩ := v.ren_pi
  obtain ⟨X, rfl, hX⟩ := il e3 hr he
  exact ⟨Tm.app _ _, rfl, .move hQ w' hP v' (Conv.ren_inv he c) u.ren_sort hX (Conv.ren_inv (b := Tm.app _ _) he d)⟩
 | pair h w v k c l d ih ik il =>
  intro t ξ η G e hr he
  cases t <;> simp only [Tm.ren, reduceCtorEq, Tm.pair.injEq] at e
  obtain ⟨rfl, rfl, e3⟩ := e
  obtain ⟨S, rfl, hS⟩ := ih rfl hr he
  obtain ⟨a', b', rfl, rfl, v'⟩ := v.ren_sig
  obtain ⟨A, rfl, hA⟩ := ik rfl hr he
  obtain ⟨B, rfl, hB⟩ := il e3 hr he
  rw [← inst_ren] at d
  exact ⟨_, rfl, .pair hS w.ren_sort v' hA (Conv.ren_inv he c) hB (Conv.ren_inv he d)⟩
 | fst h w ih =>
  intro t ξ η G e hr he
  cases t <;> simp only [Tm.ren, reduceCtorEq, Tm.fst.injEq] at e
  obtain ⟨Q, rfl, hQ⟩ := ih e hr he
  obtain ⟨a', b', rfl, rfl, w'⟩ := w.ren_sig
  exact ⟨_, rfl, .fst hQ w'⟩
 | snd h w ih =>
  intro t ξ η G e hr he
  cases t <;> simp only [Tm.ren, reduceCtorEq, Tm.snd.injEq] at e
  subst e
  obtain ⟨Q, rfl, hQ⟩ := ih rfl hr he
  obtain ⟨a', b', rfl, rfl, w'⟩ := w.ren_sig
  exact ⟨_, (inst_ren _ (Tm.fst _) _).symm, .snd hQ w'⟩
theorem Al.wk_inv {G : List Tm} {A t T : Tm} (h : Al (A :: G) t.wk T) : ∃ T', T = T'.wk ∧ Al G t T' :=
 h.ren_inv (η := Nat.pred) rfl (RenIn.wk G A) (fun n => rfl)
end Tm
end Go.Proofs.Ytgchmppmecnniaa
end
section
namespace Go.Proofs.Ytgchmppmecnniaa
namespace Tm
def Canon : Tm → Prop
 | var _ | app _ _ | elim _ _ _ _ | move _ _ _ | fst _ | snd _ => False
 | _ => True
def Stuck (t : Tm) : Prop := ∀ u, Wh t u → ¬ Canon u
theorem Canon.no {t u : Tm} (h : Canon t) (k : Hd t u) : False := by cases k <;> exact h
theorem Canon.wh {t u : Tm} (h : Canon t) (k : Wh t u) : u = t := by
 cases k with
 | nil => rfl
 | cons k _ => exact (h.no k).elim
theorem Wh.same {t u v : Tm} (h : Wh t u) (k : Wh t v) (cu : Canon u) (cv : Canon v) : u = v := by
 rcases h.two k with r | r
 ·exact (cu.wh r).symm
 ·exact cv.wh r
theorem Canon.par {t u : Tm} (h : Canon t) (k : Par t u) : Canon u := by cases k <;> first | exact h | trivial
theorem Canon.red {t u : Tm} (h : Canon t) (k : Red t u) : Canon u := by
 induction k with
 | nil => exact h
 | cons k _ ih => exact ih (h.par k)
theorem ST.canon {t u : Tm} (h : ST t u) (c : Canon u) : ∃ v, Wh t v ∧ Canon v := by
 cases h with
 | var w => exact (c : False).elim
 | sort w => exact ⟨_, w, trivial⟩
 | pi w => exact ⟨_, w, trivial⟩
 | lam w => exact ⟨_, w, trivial⟩
 | app w => exact (c : False).elim
 | nat w => exact ⟨_, w, trivial⟩
 | zero w => exact ⟨_, w, trivial⟩
 | succ w => exact ⟨_, w, trivial⟩
 | elim w => exact (c : False).elim
 | id w => exact ⟨_, w, trivial⟩
 | refl w => exact ⟨_, w, trivial⟩
 | move w => exact (c : False).elim
 | sig w => exact ⟨_, w, trivial⟩
 | pair w => exact ⟨_, w, trivial⟩
 | fst w => exact (c : False).elim
 | snd w => exact (c : False).elim
theorem Stuck.conv {t u : Tm} (h : Stuck t) (c : Conv t u) : Stuck u := by
 intro v w k
 obtain ⟨x, h1, h2⟩ := c.trans w.conv
 obtain ⟨y, hy, cy⟩ := (h1.st).canon (k.red h2)
 exact h y hy cy
theorem Stuck.exp {t u : Tm} (w : Wh t u) (h : Stuck u) : Stuck t := h.conv w.conv.symm
theorem Stuck.red {t u : Tm} (w : Wh t u) (h : Stuck t) : Stuck u := fun v k c => h v (w.trans k) c
theorem Stuck.var (n : Nat) : Stuck (Tm.var n) := by
 intro u w c
 cases w with
 | nil => exact c
 | cons h _ => cases h
theorem Stuck.no {t u : Tm} (h : Stuck t) (k : Hd t u) : Stuck u := h.red (.cons k .nil)
theorem Stuck.app {f : Tm} (h : Stuck f) (u : Tm) : Stuck (Tm.app f u) := by
 have : ∀ {x y}, Wh x y → ∀ f, x = Tm.app f u → Stuck f → ¬ Canon y := by
  intro x y w
  induction w with
  | nil => intro f e hf; subst e; exact fun h => h
  | cons k _ ih => intro f e hf; subst e; cases k with
   | beta => exact (hf _ .nil trivial).elim
   | app k => exact ih _ rfl (hf.no k)
 exact fun y w => this w f rfl h
theorem Stuck.elim {n : Tm} (h : Stuck n) (p z s : Tm) : Stuck (Tm.elim p z s n) := by
 have : ∀ {x y}, Wh x y → ∀ n, x = Tm.elim p z s n → Stuck n → ¬ Canon y := by
  intro x y w
  induction w with
  | nil => intro f e hf; subst e; exact fun h => h
  | cons k _ ih => intro f e hf; subst e; cases k with
   | ezero => exact (hf _ .nil trivial).elim
   | esucc => exact (hf _ .nil trivial).elim
   | elim k => exact ih _ rfl (hf.no k)
 exact fun y w => this w n rfl h
theorem Stuck.move {e : Tm} (h : Stuck e) (p a : Tm) : Stuck (Tm.move p e a) := by
 have : ∀ {x y}, Wh x y → ∀ e, x = Tm.move p e a → Stuck e → ¬ Canon y := by
  intro x y w
  induction w with
  | nil => intro f e hf; subst e; exact fun h => h
  | cons k _ ih => intro f e hf; subst e; cases k with
   | mrefl => exact (hf _ .nil trivial).elim
   | move k => exact ih _ rfl (hf.no k)
 exact fun y w => this w e rfl h
theorem Stuck.fst {e : Tm} (h : Stuck e) : Stuck (Tm.fst e) := by
 have : ∀ {x y}, Wh x y → ∀ e, x = Tm.fst e → Stuck e → ¬ Canon y := by
  intro x y w
  induction w with
  | nil => intro f e hf; subst e; exact fun h => h
  | cons k _ ih => intro f e hf; subst e; cases k with
   | fpair => exact (hf _ .nil trivial).elim
   | fst k => exact ih _ rfl (hf.no k)
 exact fun y w => this w e rfl h
theorem Stuck.snd {e : Tm} (h : Stuck e) : Stuck (Tm.snd e) := by
 have : ∀ {x y}, Wh x y → ∀ e, x = Tm.snd e → Stuck e → ¬ Canon y := by
  intro x y w
  induction w with
  | nil => intro f e hf; subst e; exact fun h => h
  | cons k _ ih => intro f e hf; subst e; cases k with
   | spair => exact (hf _ .nil trivial).elim
   | snd k => exact ih _ rfl (hf.no k)
 exact fun y w => this w e rfl h
theorem Conv.wh_pi {A C B : Tm} (c : Conv A (Tm.pi C B)) : ∃ C' B', Wh A (Tm.pi C' B') ∧ Conv C' C ∧ Conv B' B := by
 obtain ⟨x, h1, h2⟩ := c
 obtain ⟨a, b, rfl, r1, r2⟩ := h2.pi_inv
 cases h1.st with
 | pi w h k => exact ⟨_, _, w, ⟨a, h.red, r1⟩, ⟨b, k.red, r2⟩⟩
theorem Conv.wh_sig {A C B : Tm} (c : Conv A (Tm.sig C B)) : ∃ C' B', Wh A (Tm.sig C' B') ∧ Conv C' C ∧ Conv B' B := by
 obtain ⟨x, h1, h2⟩ := c
 obtain ⟨a, b, rfl, r1, r2⟩ := h2.sig_inv
 cases h1.st with
 | sig w h k => exact ⟨_, _, w, ⟨a, h.red, r1⟩, ⟨b, k.red, r2⟩⟩
theorem Conv.wh_id {A t y z : Tm} (c : Conv A (Tm.id t y z)) : ∃ t' y' z', Wh A (Tm.id t' y' z') ∧ Conv t' t ∧ Conv y' y ∧ Conv z' z := by
 obtain ⟨x, h1, h2⟩ := c
 obtain ⟨a, b, d, rfl, r1, r2, r3⟩ := h2.id_inv
 cases h1.st with
 | id w h k l => exact ⟨_, _, _, w, ⟨a, h.red, r1⟩, ⟨b, k.red, r2⟩, ⟨d, l.red, r3⟩⟩
theorem Conv.wh_sort {A : Tm} {i : Nat} (c : Conv A (Tm.sort i)) : Wh A (Tm.sort i) := by
 obtain ⟨x, h1, h2⟩ := c
 have := h2.sort_inv; subst this
 cases h1.st with
 | sort w => exact w
theorem Conv.wh_nat {A : Tm} (c : Conv A Tm.nat) : Wh A Tm.nat := by
 obtain ⟨x, h1, h2⟩ := c
 have := h2.nat_inv; subst this
 cases h1.st with
 | nat w => exact w
section LR
structure Clo (E : Tm → Prop) (G : List Tm) : Prop where
 var : ∀ n, E (Tm.var n)
 sort : ∀ n, E (Tm.sort n)
 nat : E Tm.nat
 zero : E Tm.zero
 succ : ∀ {n}, E n → E (Tm.succ n)
 pi : ∀ {a b}, E a → E (Tm.pi a b)
 sig : ∀ {a b}, E a → E (Tm.sig a b)
 lam : ∀ {a b}, E a → E (Tm.lam a b)
 app : ∀ {f u}, E f → E u → E (Tm.app f u)
 elim : ∀ {p z s n}, E p → E z → E s → E n → E (Tm.elim p z s n)
 id : ∀ {t a b}, E t → E a → E b → E (Tm.id t a b)
 refl : ∀ {a}, E a → (∀ A, Al G a A → E A) → E (Tm.refl a)
 move : ∀ {p e x}, E p → E e → E x → E (Tm.move p e x)
 pair : ∀ {s a b}, E s → E a → E b → E (Tm.pair s a b)
 fst : ∀ {q}, E q → E (Tm.fst q)
 snd : ∀ {q}, E q → E (Tm.snd q)
variable (E : Tm → Prop) (G : List Tm)
abbrev Pr := Tm → Prop
def Bs (X : Pr) (t : Tm) : Prop := E t ∧ ∀ T, Al G t T → X T
inductive NatS : Tm → Prop
 | zero {t} (b : Bs E G E t) (w : Wh t zero) : NatS t
 | succ {t m} (b : Bs E G E t) (w : Wh t (succ m)) (h : NatS m) : NatS t
 | stuck {t} (b : Bs E G E t) (s : Stuck t) : NatS t
def PiG (SC GC : Pr) (GB : Tm → Pr) (X : Tm) : Prop := E X ∧ ∀ C B, Wh X (pi C B) → GC C ∧ ∀ u, SC u → GB u (B.inst u)
def SigG (SC GC : Pr) (GB : Tm → Pr) (X : Tm) : Prop := E X ∧ ∀ C B, Wh X (sig C B) → GC C ∧ ∀ u, SC u → GB u (B.inst u)
def IdG (ST GT : Pr) (y z : Tm) (X : Tm) : Prop := E X ∧ ∀ t' y' z', Wh X (id t' y' z') → GT t' ∧ ST y' ∧ ST z' ∧ Conv y' y ∧ Conv z' z
def IdF (y z e : Tm) : Prop := (∃ a, Wh e (refl a) ∧ Conv a y ∧ Conv a z) ∨ Stuck e
inductive Sem (l : Nat) (U : Nat → Pr) : Tm → Pr → Pr → Prop
 | nat {A} (w : Wh A nat) : Sem l U A (NatS E G) E
 | sort {A i} (h : i < l) (w : Wh A (sort i)) : Sem l U A (fun t => Bs E G E t ∧ U i t) E
 | stuck {A} (h : Stuck A) : Sem l U A (Bs E G E) E
 | pi {A C B SC GC} {SB GB : Tm → Pr} (w : Wh A (pi C B)) (hC : Sem l U C SC GC) (hB : ∀ u, SC u → Sem l U (B.inst u) (SB u) (GB u)) :
    Sem l U A (fun f => Bs E G (PiG E SC GC GB) f ∧ ∀ u, SC u → SB u (app f u)) (PiG E SC GC GB)
 | sig {A C B SC GC} {SB GB : Tm → Pr} (w : Wh A (sig C B)) (hC : Sem l U C SC GC) (hB : ∀ u, SC u → Sem l U (B.inst u) (SB u) (GB u)) :
    Sem l U A (fun q => Bs E G (SigG E SC GC GB) q ∧ SC (fst q) ∧ SB (fst q) (snd q)) (SigG E SC GC GB)
 | id {A t y z ST GT} (w : Wh A (id t y z)) (hT : Sem l U t ST GT) :
    Sem l U A (fun e => Bs E G (IdG E ST GT y z) e ∧ IdF y z e) (IdG E ST GT y z)
variable {E G}
theorem bs_congr {X Y : Pr} (h : ∀ t, X t ↔ Y t) (t : Tm) : Bs E G X t ↔ Bs E G Y t :=
 ⟨fun b => ⟨b.1, fun T k => (h T).1 (b.2 T k)⟩, fun b => ⟨b.1, fun T k => (h T).2 (b.2 T k)⟩⟩
theorem Sem.det {l : Nat} {U : Nat → Pr} {A : Tm} {S X : Pr} (h : Sem E G l U A S X) : ∀ {S' X'}, Sem E G l U A S' X' → (∀ t, S t ↔ S' t) ∧ ∀ t, X t ↔ X' t := by
 induction h with
 | nat w =>
  intro S' X' k
  cases k with
  | nat w' => exact ⟨fun _ => .rfl, fun _ => .rfl⟩
  | sort h w' => cases w.same w' trivial trivial
  | stuck h => exact (h _ w trivial).elim
  | pi w' => cases w.same w' trivial trivial
  | sig w' => cases w.same w' trivial trivial
  | id w' => cases w.same w' trivial trivial
 | sort h w =>
  intro S' X' k
  cases k with
  | nat w' => cases w.same w' trivial trivial
  | sort h w' => cases w.same w' trivial trivial; exact ⟨fun _ => .rfl, fun _ => .rfl⟩
  | stuck h => exact (h _ w trivial).elim
  | pi w' => cases w.same w' trivial trivial
  | sig w' => cases w.same w' trivial trivial
  | id w' => cases w.same w' trivial trivial
 | stuck h =>
  intro S' X' k
  cases k with
  | nat w' => exact (h _ w' trivial).elim
  | sort h' w' => exact (h _ w' trivial).elim
  | stuck h => exact ⟨fun _ => .rfl, fun _ => .rfl⟩
  | pi w' => exact (h _ w' trivial).elim
  | sig w' => exact (h _ w' trivial).elim
  | id w' => exact (h _ w' trivial).elim
 | pi w hC hB ih ik =>
  intro S' X' k
  cases k with
  | nat w' => cases w.same w' trivial trivial
  | sort h w' => cases w.same w' trivial trivial
  | stuck h => exact (h _ w trivial).elim
  | sig w' => cases w.same w' trivial trivial
  | id w' => cases w.same w' trivial trivial
  | pi w' hC' hB' =>
   cases w.same w' trivial trivial
   obtain ⟨e1, e2⟩ := ih hC'
   have e3 : ∀ t, PiG E _ _ _ t ↔ PiG E _ _ _ t := fun t =>
    ⟨fun b => ⟨b.1, fun C B k => ⟨(e2 C).1 (b.2 C B k).1, fun u hu => ((ik u ((e1 u).2 hu) (hB' u hu)).2 _).1 ((b.2 C B k).2 u ((e1 u).2 hu))⟩⟩,
     fun b => ⟨b.1, fun C B k => ⟨(e2 C).2 (b.2 C B k).1, fun u hu => ((ik u hu (hB' u ((e1 u).1 hu))).2 _).2 ((b.2 C B k).2 u ((e1 u).1 hu))⟩⟩⟩
   exact ⟨fun t => ⟨fun b => ⟨(bs_congr e3 t).1 b.1, fun u hu => ((ik u ((e1 u).2 hu) (hB' u hu)).1 _).1 (b.2 u ((e1 u).2 hu))⟩,
    fun b => ⟨(bs_congr e3 t).2 b.1, fun u hu => ((ik u hu (hB' u ((e1 u).1 hu))).1 _).2 (b.2 u ((e1 u).1 hu))⟩⟩, e3⟩
 | sig w hC hB ih ik =>
  intro S' X' k
  cases k with
  | nat w' => cases w.same w' trivial trivial
  | sort h w' => cases w.same w' trivial trivial
  | stuck h => exact (h _ w trivial).elim
  | pi w' => cases w.same w' trivial trivial
  | id w' => cases w.same w' trivial trivial
  | sig w' hC' hB' =>
   cases w.same w' trivial trivial
   obtain ⟨e1, e2⟩ := ih hC'
   have e3 : ∀ t, SigG E _ _ _ t ↔ SigG E _ _ _ t := fun t =>
    ⟨fun b => ⟨b.1, fun C B k => ⟨(e2 C).1 (b.2 C B k).1, fun u hu => ((ik u ((e1 u).2 hu) (hB' u hu)).2 _).1 ((b.2 C B k).2 u ((e1 u).2 hu))⟩⟩,
     fun b => ⟨b.1, fun C B k => ⟨(e2 C).2 (b.2 C B k).1, fun u hu => ((ik u hu (hB' u ((e1 u).1 hu))).2 _).2 ((b.2 C B k).2 u ((e1 u).1 hu))⟩⟩⟩
   exact ⟨fun t => ⟨fun b => ⟨(bs_congr e3 t).1 b.1, (e1 _).1 b.2.1, ((ik _ b.2.1 (hB' _ ((e1 _).1 b.2.1))).1 _).1 b.2.2⟩,
    fun b => ⟨(bs_congr e3 t).2 b.1, (e1 _).2 b.2.1, ((ik _ ((e1 _).2 b.2.1) (hB' _ b.2.1)).1 _).2 b.2.2⟩⟩, e3⟩
 | @id A t y z ST GT w hT ih =>
  intro S' X' k
  cases k with
  | nat w' => cases w.same w' trivial trivial
  | sort h w' => cases w.same w' trivial trivial
  | stuck h => exact (h _ w trivial).elim
  | pi w' => cases w.same w' trivial trivial
  | sig w' => cases w.same w' trivial trivial
  | @id _ _ _ _ ST' GT' w' hT' =>
   cases w.same w' trivial trivial
   obtain ⟨e1, e2⟩ := ih hT'
   have e3 : ∀ t, IdG E ST GT y z t ↔ IdG E ST' GT' y z t := fun t =>
    ⟨fun b => ⟨b.1, fun x y z k => let g := b.2 x y z k; ⟨(e2 _).1 g.1, (e1 _).1 g.2.1, (e1 _).1 g.2.2.1, g.2.2.2⟩⟩,
     fun b => ⟨b.1, fun x y z k => let g := b.2 x y z k; ⟨(e2 _).2 g.1, (e1 _).2 g.2.1, (e1 _).2 g.2.2.1, g.2.2.2⟩⟩⟩
   exact ⟨fun t => ⟨fun b => ⟨(bs_congr e3 t).1 b.1, b.2⟩, fun b => ⟨(bs_congr e3 t).2 b.1, b.2⟩⟩, e3⟩
theorem Sem.conv {l : Nat} {U : Nat → Pr} {A : Tm} {S X : Pr} (h : Sem E G l U A S X) : ∀ {A'}, Conv A A' → Sem E G l U A' S X := by
 induction h with
 | nat w => intro A' c; exact .nat (c.symm.trans w.conv).wh_nat
 | sort h w => intro A' c; exact .sort h (c.symm.trans w.conv).wh_sort
 | stuck h => intro A' c; exact .stuck (h.conv c)
 | pi w hC hB ih ik =>
  intro A' c
  obtain ⟨C', B', w', c1, c2⟩ := (c.symm.trans w.conv).wh_pi
  exact .pi w' (ih c1.symm) (fun u hu => ik u hu (Conv.inst c2.symm .rfl'))
 | sig w hC hB ih ik =>
  intro A' c
  obtain ⟨C', B', w', c1, c2⟩ := (c.symm.trans w.conv).wh_sig
  exact .sig w' (ih c1.symm) (fun u hu => ik u hu (Conv.inst c2.symm .rfl'))
 | @id A t y z ST GT w hT ih =>
  intro A' c
  obtain ⟨t', y', z', w', c1, c2, c3⟩ := (c.symm.trans w.conv).wh_id
  have k := Sem.id (E := E) (G := G) (l := l) (U := U) w' (ih c1.symm)
  have e3 : IdG E ST GT y' z' = IdG E ST GT y z := by
   funext t
   exact propext ⟨fun b => ⟨b.1, fun x y z k => let g := b.2 x y z k; ⟨g.1, g.2.1, g.2.2.1, g.2.2.2.1.trans c2, g.2.2.2.2.trans c3⟩⟩,
     fun b => ⟨b.1, fun x y z k => let g := b.2 x y z k; ⟨g.1, g.2.1, g.2.2.1, g.2.2.2.1.trans c2.symm, g.2.2.2.2.trans c3.symm⟩⟩⟩
  rw [e3] at k
  have e4 : (fun e => Bs E G (IdG E ST GT y z) e ∧ IdF y' z' e) = fun e => Bs E G (IdG E ST GT y z) e ∧ IdF y z e := by
   funext e
   exact propext ⟨fun b => ⟨b.1, b.2.imp (fun ⟨a, k⟩ => ⟨a, k.1, k.2.1.trans c2, k.2.2.trans c3⟩) (fun h => h)⟩, fun b => ⟨b.1, b.2.imp (fun ⟨a, k⟩ => ⟨a, k.1, k.2.1.trans c2.symm, k.2.2.trans c3.symm⟩) (fun h => h)⟩⟩
  rw [e4] at k
  exact k
theorem Sem.bs {l : Nat} {U : Nat → Pr} {A : Tm} {S X : Pr} (h : Sem E G l U A S X) {t : Tm} (k : S t) : Bs E G X t := by
 cases h with
 | nat w => cases k <;> assumption
 | sort h w => exact k.1
 | stuck h => exact k
 | pi w hC hB => exact k.1
 | sig w hC hB => exact k.1
 | id w hT => exact k.1
theorem Sem.ends {l : Nat} {U : Nat → Pr} {A : Tm} {S X : Pr} (h : Sem E G l U A S X) {t : Tm} (k : X t) : E t := by
 cases h with
 | nat w => exact k
 | sort h w => exact k
 | stuck h => exact k
 | pi w hC hB => exact k.1
 | sig w hC hB => exact k.1
 | id w hT => exact k.1
variable (E G) in
def Vs : Nat → Nat → Pr
 | 0, _, _ => False
 | l + 1, i, t => (i = l ∧ ∃ S X, Sem E G l (Vs l) t S X ∧ X t) ∨ (i < l ∧ Vs l i t)
theorem vs_iff : ∀ {l i : Nat} {t : Tm}, i < l → (Vs E G l i t ↔ ∃ S X, Sem E G i (Vs E G i) t S X ∧ X t)
 | l + 1, i, t, h => by
  by_cases e : i = l
  ·subst e
   exact ⟨fun k => by
    rcases k with k | k
    ·exact k.2
    ·omega, fun k => .inl ⟨rfl, k⟩⟩
  ·have h' : i < l := by omega
   rw [← vs_iff h']
   exact ⟨fun k => by
    rcases k with k | k
    ·exact absurd k.1 e
    ·exact k.2, fun k => .inr ⟨h', k⟩⟩
theorem Sem.up {l m : Nat} (hm : l ≤ m) {A : Tm} {S X : Pr} (h : Sem E G l (Vs E G l) A S X) : Sem E G m (Vs E G m) A S X := by
 induction h with
 | nat w => exact .nat w
 | @sort A i h w =>
  have e : (fun t => Bs E G E t ∧ Vs E G l i t) = fun t => Bs E G E t ∧ Vs E G m i t := by
   funext t; rw [propext (vs_iff (E := E) (G := G) (t := t) h), propext (vs_iff (E := E) (G := G) (t := t) (show i < m by omega))]
  rw [e]
  exact .sort (by omega) w
 | stuck h => exact .stuck h
 | pi w hC hB ih ik => exact .pi w ih ik
 | sig w hC hB ih ik => exact .sig w ih ik
 | id w hT ih => exact .id w ih
end LR
end Tm
end Go.Proofs.Ytgchmppmecnniaa
end
section
namespace Go.Proofs.Ytgchmppmecnniaa
namespace Tm
variable {E : Tm → Prop} {G : List Tm}
theorem Sem.stk (cl : Clo E G) {l : Nat} {U : Nat → Pr} (hU : ∀ i, i < l → ∀ t, E t → Stuck t → U i t) {A : Tm} {S X : Pr} (h : Sem E G l U A S X) : ∀ {t}, Stuck t → Bs E G X t → S t := by
 induction h with
 | nat w => intro t s b; exact .stuck b s
 | sort h w => intro t s b; exact ⟨b, hU _ h t b.1 s⟩
 | stuck h => intro t s b; exact b
 | pi w hC hB ih ik =>
  intro t s b
  refine ⟨b, fun u hu => ik u hu (s.app u) ⟨cl.app b.1 (hC.bs hu).1, fun T a => ?_⟩⟩
  cases a with
  | app h w k c => exact ((b.2 _ h).2 _ _ w).2 u hu
 | sig w hC hB ih ik =>
  intro t s b
  have h1 := ih s.fst ⟨cl.fst b.1, fun T a => by
   cases a with
   | fst h w => exact ((b.2 _ h).2 _ _ w).1⟩
  refine ⟨b, h1, ik _ h1 s.snd ⟨cl.snd b.1, fun T a => ?_⟩⟩
  cases a with
  | snd h w => exact ((b.2 _ h).2 _ _ w).2 _ h1
 | id w hT ih => intro t s b; exact ⟨b, .inr s⟩
theorem Sem.exp (cl : Clo E G) {l : Nat} {U : Nat → Pr} (hU : ∀ i, i < l → ∀ t t', E t → Wh t t' → U i t' → U i t) {A : Tm} {S X : Pr} (h : Sem E G l U A S X) : ∀ {t t'}, Wh t t' → S t' → Bs E G X t → S t := by
 induction h with
 | nat w =>
  intro t t' r s b
  cases s with
  | zero _ w => exact .zero b (r.trans w)
  | succ _ w h => exact .succ b (r.trans w) h
  | stuck _ s => exact .stuck b (s.exp r)
 | sort h w => intro t t' r s b; exact ⟨b, hU _ h t t' b.1 r s.2⟩
 | stuck h => intro t t' r s b; exact b
 | pi w hC hB ih ik =>
  intro t t' r s b
  refine ⟨b, fun u hu => ik u hu (r.app u) (s.2 u hu) ⟨cl.app b.1 (hC.bs hu).1, fun T a => ?_⟩⟩
  cases a with
  | app h w k c => exact ((b.2 _ h).2 _ _ w).2 u hu
 | @sig A C B SC GC SB GB w hC hB ih ik =>
  intro t t' r s b
  have h1 := ih r.fst s.2.1 ⟨cl.fst b.1, fun T a => by
   cases a with
   | fst h w => exact ((b.2 _ h).2 _ _ w).1⟩
  have e := (hB _ h1).det ((hB _ s.2.1).conv (Conv.inst .rfl' r.fst.conv.symm))
  refine ⟨b, h1, ik _ h1 r.snd ((e.1 _).2 s.2.2) ⟨cl.snd b.1, fun T a => ?_⟩⟩
  cases a with
  | snd h w => exact ((b.2 _ h).2 _ _ w).2 _ h1
 | id w hT ih => intro t t' r s b; exact ⟨b, s.2.imp (fun ⟨a, k⟩ => ⟨a, r.trans k.1, k.2⟩) (fun h => h.exp r)⟩
variable (E G) in
abbrev M (A : Tm) (S X : Pr) : Prop := Sem E G 4 (Vs E G 4) A S X
variable (E G) in
def Ok (A : Tm) : Prop := ∃ S X, M E G A S X
variable (E G) in
def el (A t : Tm) : Prop := ∃ S X, M E G A S X ∧ S t
variable (E G) in
def gd (A t : Tm) : Prop := ∃ S X, M E G A S X ∧ X t
theorem M.el {A : Tm} {S X : Pr} (h : M E G A S X) (t : Tm) : S t ↔ el E G A t :=
 ⟨fun k => ⟨S, X, h, k⟩, fun ⟨S', X', h', k⟩ => ((h.det h').1 t).2 k⟩
theorem M.gd {A : Tm} {S X : Pr} (h : M E G A S X) (t : Tm) : X t ↔ gd E G A t :=
 ⟨fun k => ⟨S, X, h, k⟩, fun ⟨S', X', h', k⟩ => ((h.det h').2 t).2 k⟩
theorem Ok.m {A : Tm} (h : Ok E G A) : M E G A (el E G A) (gd E G A) := by
 obtain ⟨S, X, h⟩ := h
 have e1 : S = Tm.el E G A := funext fun t => propext (M.el h t)
 have e2 : X = Tm.gd E G A := funext fun t => propext (M.gd h t)
 rw [← e1, ← e2]; exact h
theorem el.ok {A t : Tm} (h : el E G A t) : Ok E G A := let ⟨S, X, h, _⟩ := h; ⟨S, X, h⟩
theorem gd.ok {A t : Tm} (h : gd E G A t) : Ok E G A := let ⟨S, X, h, _⟩ := h; ⟨S, X, h⟩
theorem el.bs {A t : Tm} (h : el E G A t) : Bs E G (gd E G A) t := (h.ok.m).bs h
theorem gd.ends {A t : Tm} (h : gd E G A t) : E t := (h.ok.m).ends h
theorem Ok.conv {A B : Tm} (h : Ok E G A) (c : Conv A B) : Ok E G B := ⟨_, _, h.m.conv c⟩
theorem el.conv {A B t : Tm} (h : el E G A t) (c : Conv A B) : el E G B t := ⟨_, _, h.ok.m.conv c, h⟩
theorem gd.conv {A B t : Tm} (h : gd E G A t) (c : Conv A B) : gd E G B t := ⟨_, _, h.ok.m.conv c, h⟩
theorem vs4 {i : Nat} {t : Tm} (h : i < 4) (k : Vs E G 4 i t) : Ok E G t ∧ gd E G t t := by
 obtain ⟨S, X, h1, h2⟩ := (vs_iff h).1 k
 have := h1.up (show i ≤ 4 by omega)
 exact ⟨⟨S, X, this⟩, ⟨S, X, this, h2⟩⟩
theorem vs_stuck {l i : Nat} (h : i < l) {t : Tm} (e : E t) (s : Stuck t) : Vs E G l i t := (vs_iff h).2 ⟨_, _, .stuck s, e⟩
theorem Sem.good_exp {l : Nat} {U : Nat → Pr} {A : Tm} {S X : Pr} (h : Sem E G l U A S X) {t t' : Tm} (e : E t) (w : Wh t t') (k : X t') : X t := by
 cases h with
 | nat _ => exact e
 | sort _ _ => exact e
 | stuck _ => exact e
 | pi _ hC hB =>
  refine ⟨e, fun C B r => ?_⟩
  rcases w.two r with q | q
  ·exact k.2 C B q
  ·have := (show Canon (Tm.pi C B) from trivial).wh q; subst this
   exact k.2 C B .nil
 | sig _ hC hB =>
  refine ⟨e, fun C B r => ?_⟩
  rcases w.two r with q | q
  ·exact k.2 C B q
  ·have := (show Canon (Tm.sig C B) from trivial).wh q; subst this
   exact k.2 C B .nil
 | id _ hT =>
  refine ⟨e, fun x y z r => ?_⟩
  rcases w.two r with q | q
  ·exact k.2 x y z q
  ·have := (show Canon (Tm.id x y z) from trivial).wh q; subst this
   exact k.2 x y z .nil
theorem vs_exp {l i : Nat} (h : i < l) {t t' : Tm} (e : E t) (w : Wh t t') (k : Vs E G l i t') : Vs E G l i t := by
 obtain ⟨S, X, h1, h2⟩ := (vs_iff h).1 k
 exact (vs_iff h).2 ⟨S, X, h1.conv w.conv.symm, h1.good_exp e w h2⟩
theorem el_stuck (cl : Clo E G) {A t : Tm} (h : Ok E G A) (s : Stuck t) (b : Bs E G (gd E G A) t) : el E G A t :=
 h.m.stk cl (fun i hi t e s => vs_stuck hi e s) s b
theorem el_exp (cl : Clo E G) {A t t' : Tm} (w : Wh t t') (k : el E G A t') (b : Bs E G (gd E G A) t) : el E G A t :=
 k.ok.m.exp cl (fun i hi t t' e w k => vs_exp hi e w k) w k b
theorem gd_nat {t : Tm} : gd E G nat t ↔ E t := (M.gd (.nat .nil) t).symm
theorem gd_sort {i : Nat} (h : i ≤ 3) {t : Tm} : gd E G (sort i) t ↔ E t := (M.gd (.sort (by omega) .nil) t).symm
theorem el_nat {t : Tm} : el E G nat t ↔ NatS E G t := (M.el (.nat .nil) t).symm
theorem el_sort {i : Nat} (h : i ≤ 3) {t : Tm} : el E G (sort i) t ↔ Bs E G E t ∧ Vs E G 4 i t := (M.el (.sort (by omega) .nil) t).symm
theorem el_sort_le {i : Nat} {t : Tm} (k : el E G (sort i) t) : i ≤ 3 := by
 obtain ⟨S, X, h, _⟩ := k
 cases h with
 | nat w => cases w with | cons h _ => cases h
 | sort h w => cases (show Canon (sort i) from trivial).wh w; omega
 | stuck h => exact (h _ .nil trivial).elim
 | pi w => cases w with | cons h _ => cases h
 | sig w => cases w with | cons h _ => cases h
 | id w => cases w with | cons h _ => cases h
theorem el_sort_out {i : Nat} {t : Tm} (k : el E G (sort i) t) : Ok E G t ∧ gd E G t t :=
 vs4 (by have := el_sort_le k; omega) ((el_sort (el_sort_le k)).1 k).2
theorem pi_inv {C B : Tm} (h : Ok E G (pi C B)) : Ok E G C ∧ (∀ u, el E G C u → Ok E G (B.inst u)) ∧
   (∀ f, el E G (pi C B) f ↔ Bs E G (gd E G (pi C B)) f ∧ ∀ u, el E G C u → el E G (B.inst u) (app f u)) ∧
   (∀ X, gd E G (pi C B) X ↔ E X ∧ ∀ C' B', Wh X (pi C' B') → gd E G C C' ∧ ∀ u, el E G C u → gd E G (B.inst u) (B'.inst u)) := by
 obtain ⟨S, X, h⟩ := h
 have h0 := h
 cases h with
 | nat w => cases w with | cons h _ => cases h
 | sort _ w => cases w with | cons h _ => cases h
 | stuck h => exact (h _ .nil trivial).elim
 | sig w => cases w with | cons h _ => cases h
 | id w => cases w with | cons h _ => cases h
 | pi w hC hB =>
  cases (show Canon (pi C B) from trivial).wh w
  have g : ∀ X, gd E G (pi C B) X ↔ E X ∧ ∀ C' B', Wh X (pi C' B') → gd E G C C' ∧ ∀ u, el E G C u → gd E G (B.inst u) (B'.inst u) := fun X => by
   rw [← M.gd h0 X]
   exact ⟨fun k => ⟨k.1, fun C' B' r => ⟨(M.gd hC _).1 (k.2 C' B' r).1, fun u hu => (M.gd (hB u ((M.el hC u).2 hu)) _).1 ((k.2 C' B' r).2 u ((M.el hC u).2 hu))⟩⟩,
    fun k => ⟨k.1, fun C' B' r => ⟨(M.gd hC _).2 (k.2 C' B' r).1, fun u hu => (M.gd (hB u hu) _).2 ((k.2 C' B' r).2 u ((M.el hC u).1 hu))⟩⟩⟩
  refine ⟨⟨_, _, hC⟩, fun u hu => ⟨_, _, hB u ((M.el hC u).2 hu)⟩, fun f => ?_, g⟩
  rw [← M.el h0 f]
  exact ⟨fun k => ⟨(bs_congr (M.gd h0) f).1 k.1, fun u hu => (M.el (hB u ((M.el hC u).2 hu)) _).1 (k.2 u ((M.el hC u).2 hu))⟩,
   fun k => ⟨(bs_congr (M.gd h0) f).2 k.1, fun u hu => (M.el (hB u hu) _).2 (k.2 u ((M.el hC u).1 hu))⟩⟩
theorem sig_inv {C B : Tm} (h : Ok E G (sig C B)) : Ok E G C ∧ (∀ u, el E G C u → Ok E G (B.inst u)) ∧
   (∀ f, el E G (sig C B) f ↔ Bs E G (gd E G (sig C B)) f ∧ el E G C (fst f) ∧ el E G (B.inst (fst f)) (snd f)) ∧
   (∀ X, gd E G (sig C B) X ↔ E X ∧ ∀ C' B', Wh X (sig C' B') → gd E G C C' ∧ ∀ u, el E G C u → gd E G (B.inst u) (B'.inst u)) := by
 obtain ⟨S, X, h⟩ := h
 have h0 := h
 cases h with
 | nat w => cases w with | cons h _ => cases h
 | sort _ w => cases w with | cons h _ => cases h
 | stuck h => exact (h _ .nil trivial).elim
 | pi w => cases w with | cons h _ => cases h
 | id w => cases w with | cons h _ => cases h
 | sig w hC hB =>
  cases (show Canon (sig C B) from trivial).wh w
  have g : ∀ X, gd E G (sig C B) X ↔ E X ∧ ∀ C' B', Wh X (sig C' B') → gd E G C C' ∧ ∀ u, el E G C u → gd E G (B.inst u) (B'.inst u) := fun X => by
   rw [← M.gd h0 X]
   exact ⟨fun k => ⟨k.1, fun C' B' r => ⟨(M.gd hC _).1 (k.2 C' B' r).1, fun u hu => (M.gd (hB u ((M.el hC u).2 hu)) _).1 ((k.2 C' B' r).2 u ((M.el hC u).2 hu))⟩⟩,
    fun k => ⟨k.1, fun C' B' r => ⟨(M.gd hC _).2 (k.2 C' B' r).1, fun u hu => (M.gd (hB u hu) _).2 ((k.2 C' B' r).2 u ((M.el hC u).1 hu))⟩⟩⟩
  refine ⟨⟨_, _, hC⟩, fun u hu => ⟨_, _, hB u ((M.el hC u).2 hu)⟩, fun f => ?_, g⟩
  rw [← M.el h0 f]
  exact ⟨fun k => ⟨(bs_congr (M.gd h0) f).1 k.1, (M.el hC _).1 k.2.1, (M.el (hB _ k.2.1) _).1 k.2.2⟩,
   fun k => ⟨(bs_congr (M.gd h0) f).2 k.1, (M.el hC _).2 k.2.1, (M.el (hB _ ((M.el hC _).2 k.2.1)) _).2 k.2.2⟩⟩
theorem id_inv {t y z : Tm} (h : Ok E G (id t y z)) : Ok E G t ∧
   (∀ e, el E G (id t y z) e ↔ Bs E G (gd E G (id t y z)) e ∧ IdF y z e) ∧
   (∀ X, gd E G (id t y z) X ↔ E X ∧ ∀ t' y' z', Wh X (id t' y' z') → gd E G t t' ∧ el E G t y' ∧ el E G t z' ∧ Conv y' y ∧ Conv z' z) := by
 obtain ⟨S, X, h⟩ := h
 have h0 := h
 cases h with
 | nat w => cases w with | cons h _ => cases h
 | sort _ w => cases w with | cons h _ => cases h
 | stuck h => exact (h _ .nil trivial).elim
 | pi w => cases w with | cons h _ => cases h
 | sig w => cases w with | cons h _ => cases h
 | id w hT =>
  cases (show Canon (id t y z) from trivial).wh w
  have g : ∀ X, gd E G (id t y z) X ↔ E X ∧ ∀ t' y' z', Wh X (id t' y' z') → gd E G t t' ∧ el E G t y' ∧ el E G t z' ∧ Conv y' y ∧ Conv z' z := fun X => by
   rw [← M.gd h0 X]
   exact ⟨fun k => ⟨k.1, fun a b c r => let q := k.2 a b c r; ⟨(M.gd hT _).1 q.1, (M.el hT _).1 q.2.1, (M.el hT _).1 q.2.2.1, q.2.2.2⟩⟩,
    fun k => ⟨k.1, fun a b c r => let q := k.2 a b c r; ⟨(M.gd hT _).2 q.1, (M.el hT _).2 q.2.1, (M.el hT _).2 q.2.2.1, q.2.2.2⟩⟩⟩
  refine ⟨⟨_, _, hT⟩, fun f => ?_, g⟩
  rw [← M.el h0 f]
  exact ⟨fun k => ⟨(bs_congr (M.gd h0) f).1 k.1, k.2⟩, fun k => ⟨(bs_congr (M.gd h0) f).2 k.1, k.2⟩⟩
theorem ok_pi {C B : Tm} (h : Ok E G C) (k : ∀ u, el E G C u → Ok E G (B.inst u)) : Ok E G (pi C B) :=
 ⟨_, _, .pi (SB := fun u => el E G (B.inst u)) (GB := fun u => gd E G (B.inst u)) .nil h.m (fun u hu => (k u hu).m)⟩
theorem ok_id {t y z : Tm} (h : Ok E G t) : Ok E G (id t y z) := ⟨_, _, .id .nil h.m⟩
theorem lev {i m : Nat} {t : Tm} (k : el E G (sort i) t) (hm : i ≤ m) : Sem E G m (Vs E G m) t (el E G t) (gd E G t) := by
 obtain ⟨S, X, h1, h2⟩ := (vs_iff (by have := el_sort_le k; omega)).1 ((el_sort (el_sort_le k)).1 k).2
 have h4 : M E G t S X := h1.up (by have := el_sort_le k; omega)
 have e1 : S = Tm.el E G t := funext fun t => propext (M.el h4 t)
 have e2 : X = Tm.gd E G t := funext fun t => propext (M.gd h4 t)
 rw [← e1, ← e2]; exact h1.up hm
theorem lev_in {m : Nat} (hm : m ≤ 3) {t : Tm} {S X : Pr} (h : Sem E G m (Vs E G m) t S X) (b : Bs E G E t) (g : X t) : el E G (sort m) t :=
 (el_sort hm).2 ⟨b, (vs_iff (by omega)).2 ⟨S, X, h, g⟩⟩
theorem el_sort_pi {C B : Tm} {i j : Nat} (h : el E G (sort i) C) (hj : j ≤ 3) (k : ∀ u, el E G C u → el E G (sort j) (B.inst u)) (b : Bs E G E (pi C B)) : el E G (sort (max i j)) (pi C B) := by
 refine lev_in (by have := el_sort_le h; omega) (.pi (SB := fun u => el E G (B.inst u)) (GB := fun u => gd E G (B.inst u)) .nil (lev h (by omega)) (fun u hu => lev (k u hu) (by omega))) b ⟨b.1, fun C' B' r => ?_⟩
 cases (show Canon (pi C B) from trivial).wh r
 exact ⟨(el_sort_out h).2, fun u hu => (el_sort_out (k u hu)).2⟩
theorem el_sort_sig {C B : Tm} {i j : Nat} (h : el E G (sort i) C) (hj : j ≤ 3) (k : ∀ u, el E G C u → el E G (sort j) (B.inst u)) (b : Bs E G E (sig C B)) : el E G (sort (max i j)) (sig C B) := by
 refine lev_in (by have := el_sort_le h; omega) (.sig (SB := fun u => el E G (B.inst u)) (GB := fun u => gd E G (B.inst u)) .nil (lev h (by omega)) (fun u hu => lev (k u hu) (by omega))) b ⟨b.1, fun C' B' r => ?_⟩
 cases (show Canon (sig C B) from trivial).wh r
 exact ⟨(el_sort_out h).2, fun u hu => (el_sort_out (k u hu)).2⟩
theorem el_sort_id {t y z : Tm} {i : Nat} (h : el E G (sort i) t) (hy : el E G t y) (hz : el E G t z) (b : Bs E G E (id t y z)) : el E G (sort i) (id t y z) := by
 refine lev_in (el_sort_le h) (.id .nil (lev h (Nat.le_refl _))) b ⟨b.1, fun x y' z' r => ?_⟩
 cases (show Canon (id t y z) from trivial).wh r
 exact ⟨(el_sort_out h).2, hy, hz, .rfl', .rfl'⟩
theorem el_app {f u C B : Tm} (h : el E G (pi C B) f) (k : el E G C u) : el E G (B.inst u) (app f u) := (((pi_inv h.ok).2.2.1 f).1 h).2 u k
theorem fam_in {p n : Tm} {i : Nat} (hp : el E G (pi nat (sort i)) p) (hn : el E G nat n) : el E G (sort i) (app p n) := el_app (B := sort i) hp hn
theorem el_elim (cl : Clo E G) {p z s : Tm} {i : Nat} (hp : el E G (pi nat (sort i)) p) (hz : el E G (app p zero) z) (hs : el E G (stepTy p) s) {n : Tm} (hn : el E G nat n) : el E G (app p n) (elim p z s n) := by
 have hn' := el_nat.1 hn
 have bs : ∀ {n}, el E G nat n → Bs E G (gd E G (app p n)) (elim p z s n) := fun {n} hn => ⟨cl.elim hp.bs.1 hz.bs.1 hs.bs.1 hn.bs.1, fun T a => by
  cases a with
  | elim => exact (el_sort_out (fam_in hp hn)).2⟩
 clear hn
 induction hn' with
 | @zero n b w => exact el_exp cl ((w.elim _ _ _).trans (.cons .ezero .nil)) (hz.conv (Conv.app .rfl' w.conv.symm)) (bs (el_nat.2 (.zero b w)))
 | @succ n m b w h ih =>
  have hm := el_nat.2 h
  have h1 : el E G (pi ((app p.wk (var 0)).sub (sc m var)) ((app p.wk.wk (succ (var 1))).sub (ups (sc m var)))) (app s m) := el_app hs hm
  have e1 : ((app p.wk (var 0)).sub (sc m var)) = app p m := by
   show app (p.wk.sub _) _ = _
   rw [wk_sub, sub_var]; rfl
  rw [e1] at h1
  have h2 := el_app h1 ih
  rw [stepTy_inst] at h2
  exact el_exp cl ((w.elim _ _ _).trans (.cons .esucc .nil)) (h2.conv (Conv.app .rfl' w.conv.symm)) (bs (el_nat.2 (.succ b w h)))
 | @stuck n b st => exact el_stuck cl (el_sort_out (fam_in hp (el_nat.2 (.stuck b st)))).1 (st.elim _ _ _) (bs (el_nat.2 (.stuck b st)))
theorem sub2_up (b u : Tm) (σ τ : Nat → Tm) : (b.sub (ups σ)).sub (sc u τ) = ((b.sub (ups σ)).sub (ups τ)).inst u := (ups_inst _ _ _).symm
variable (E G) in
def Good (D H : List Tm) (σ τ : Nat → Tm) : Prop := ∀ n A, look D n = some A → el E G ((A.sub σ).sub τ) ((σ n).sub τ) ∧ ∀ T, Al H (σ n) T → gd E G ((A.sub σ).sub τ) (T.sub τ)
theorem Good.cons {D H : List Tm} {σ τ : Nat → Tm} (g : Good E G D H σ τ) {A u : Tm} (hu : el E G ((A.sub σ).sub τ) u) (hA : gd E G ((A.sub σ).sub τ) ((A.sub σ).sub τ)) : Good E G (A :: D) (A.sub σ :: H) (ups σ) (sc u τ) := by
 intro n B hB
 cases n with
 | zero =>
  simp only [look, Option.some.injEq] at hB; subst hB
  rw [wk_ups, wk_sub]
  refine ⟨hu, fun T a => ?_⟩
  cases a with
  | var h =>
   simp only [look, Option.some.injEq] at h; subst h
   rw [wk_sub]; exact hA
 | succ n =>
  obtain ⟨C, hC, rfl⟩ := Option.map_eq_some_iff.1 hB
  rw [wk_ups, wk_sub]
  obtain ⟨g1, g2⟩ := g n C hC
  refine ⟨by show el E G _ ((σ n).wk.sub (sc u τ)); rw [wk_sub]; exact g1, fun T a => ?_⟩
  obtain ⟨T', rfl, a'⟩ := Al.wk_inv (A := A.sub σ) a
  rw [wk_sub]; exact g2 _ a'
theorem Ty.sem (cl : Clo E G) {D : List Tm} {t A : Tm} (h : Ty D t A) : Wf D → ∀ {H σ τ}, Good E G D H σ τ →
   el E G ((A.sub σ).sub τ) ((t.sub σ).sub τ) ∧ ∀ T, Al H (t.sub σ) T → gd E G ((A.sub σ).sub τ) (T.sub τ) := by
 induction h with
 | var h => intro w H σ τ g; exact g _ _ h
 | @sort D n h =>
  intro w H σ τ g
  have b : Bs E G E (Tm.sort n) := ⟨cl.sort n, fun T a => by cases a; exact cl.sort _⟩
  refine ⟨lev_in (m := n + 1) (by omega) (.sort (i := n) (by omega) .nil) b b.1, fun T a => ?_⟩
  cases a with
  | sort h => exact (gd_sort (by omega)).2 (cl.sort _)
 | @pi D A B i j h k ih ik =>
  intro w H σ τ g
  obtain ⟨a1, a2⟩ := ih w g
  have a1 : el E G (Tm.sort i) ((A.sub σ).sub τ) := a1
  have hi := el_sort_le a1
  have hj : j ≤ 3 := (k.valid (.cons w h)).le
  have b : Bs E G E (Tm.pi ((A.sub σ).sub τ) ((B.sub (ups σ)).sub (ups τ))) := ⟨cl.pi a1.bs.1, fun T a => by cases a; exact cl.sort _⟩
  refine ⟨el_sort_pi a1 hj (fun u hu => ?_) b, fun T a => ?_⟩
  ·rw [← sub2_up]
   exact (ik (.cons w h) (g.cons hu (el_sort_out a1).2)).1
  ·cases a with
   | pi h' w' k' v => exact (gd_sort (i := max i j) (by omega)).2 (cl.sort _)
 | @sig D A B i j h k ih ik =>
  intro w H σ τ g
  obtain ⟨a1, a2⟩ := ih w g
  have a1 : el E G (Tm.sort i) ((A.sub σ).sub τ) := a1
  have hi := el_sort_le a1
  have hj : j ≤ 3 := (k.valid (.cons w h)).le
  have b : Bs E G E (Tm.sig ((A.sub σ).sub τ) ((B.sub (ups σ)).sub (ups τ))) := ⟨cl.sig a1.bs.1, fun T a => by cases a; exact cl.sort _⟩
  refine ⟨el_sort_sig a1 hj (fun u hu => ?_) b, fun T a => ?_⟩
  ·rw [← sub2_up]
   exact (ik (.cons w h) (g.cons hu (el_sort_out a1).2)).1
  ·cases a with
   | sig h' w' k' v => exact (gd_sort (i := max i j) (by omega)).2 (cl.sort _)
 | @lam D A B b i j h k l ih ik il =>
  intro w H σ τ g
  obtain ⟨a1, a2⟩ := ih w g
  have a1 : el E G (Tm.sort i) ((A.sub σ).sub τ) := a1
  have oA := el_sort_out a1
  have ww := Wf.cons w h
  have oP : Ok E G (Tm.pi ((A.sub σ).sub τ) ((B.sub (ups σ)).sub (ups τ))) := ok_pi oA.1 fun u hu => by
   rw [← sub2_up]; exact (ik ww (g.cons hu oA.2)).1.ok
  have gP : ∀ {H σ τ}, Good E G D H σ τ → ∀ T, Al H ((Tm.lam A b).sub σ) T → gd E G ((A.sub σ).sub τ) ((A.sub σ).sub τ) → Ok E G (Tm.pi ((A.sub σ).sub τ) ((B.sub (ups σ)).sub (ups τ))) → gd E G (Tm.pi ((A.sub σ).sub τ) ((B.sub (ups σ)).sub (ups τ))) (T.sub τ) := by
   intro H σ τ g T a oA oP
   cases a with
   | @lam _ _ _ B' S R i j h' w' k' l' v =>
    refine ((pi_inv oP).2.2.2 _).2 ⟨cl.pi oA.ends, fun X Y r => ?_⟩
    cases (show Canon (Tm.sub (Tm.pi (A.sub σ) B') τ) from trivial).wh r
    refine ⟨oA, fun u hu => ?_⟩
    rw [← sub2_up, ups_inst]
    exact (ik ww (g.cons hu oA)).2 _ k'
  have bs : Bs E G (gd E G (Tm.pi ((A.sub σ).sub τ) ((B.sub (ups σ)).sub (ups τ)))) (Tm.lam ((A.sub σ).sub τ) ((b.sub (ups σ)).sub (ups τ))) :=
   ⟨cl.lam a1.bs.1, fun T a => by
    have g' : Good E G D G (fun n => (σ n).sub τ) Tm.var := fun n C hC => by
     obtain ⟨g1, g2⟩ := g n C hC
     rw [sub_sub] at g1 g2
     rw [sub_var, sub_var]
     exact ⟨g1, fun T a => by rw [sub_var]; exact g1.bs.2 T a⟩
    have eA : ∀ C : Tm, (C.sub fun n => (σ n).sub τ).sub Tm.var = (C.sub σ).sub τ := fun C => by rw [sub_var, sub_sub]
    have eB : ∀ C : Tm, (C.sub (ups fun n => (σ n).sub τ)).sub (ups Tm.var) = (C.sub (ups σ)).sub (ups τ) := fun C => by rw [ups_var, sub_var, sub_sub, ups_sub]
    have := gP g' T (by
     show Al G (Tm.lam (A.sub fun n => (σ n).sub τ) (b.sub (ups fun n => (σ n).sub τ))) T
     rw [sub_sub, sub_sub, ups_sub] at a; exact a)
    rw [eA, eB, sub_var] at this
    exact this oA.2 oP⟩
  refine ⟨((pi_inv oP).2.2.1 _).2 ⟨bs, fun u hu => ?_⟩, fun T a => gP g T a oA.2 oP⟩
  have hb := (ik ww (g.cons hu oA.2)).1
  rw [sub2_up, sub2_up] at hb
  refine el_exp cl (.cons .beta .nil) hb ⟨cl.app bs.1 hu.bs.1, fun T a => ?_⟩
  cases a with
  | app h' w' k' c => exact ((((pi_inv oP).2.2.2 _).1 (bs.2 _ h')).2 _ _ w').2 u hu
 | @app D f u A B h k ih ik =>
  intro w H σ τ g
  obtain ⟨f1, f2⟩ := ih w g
  obtain ⟨u1, u2⟩ := ik w g
  have f1 : el E G (Tm.pi ((A.sub σ).sub τ) ((B.sub (ups σ)).sub (ups τ))) _ := f1
  rw [inst_sub, inst_sub]
  refine ⟨el_app f1 u1, fun T a => ?_⟩
  cases a with
  | app h' w' k' c =>
   have := ((((pi_inv f1.ok).2.2.2 _).1 (f2 _ h')).2 _ _ (w'.sub τ)).2 _ u1
   rw [inst_sub]; exact this
 | nat =>
  intro w H σ τ g
  have b : Bs E G E Tm.nat := ⟨cl.nat, fun T a => by cases a; exact cl.sort _⟩
  refine ⟨lev_in (by omega) (.nat .nil) b b.1, fun T a => ?_⟩
  cases a with
  | nat => exact (gd_sort (by omega)).2 (cl.sort _)
 | zero =>
  intro w H σ τ g
  have b : Bs E G E Tm.zero := ⟨cl.zero, fun T a => by cases a; exact cl.nat⟩
  refine ⟨el_nat.2 (.zero b .nil), fun T a => ?_⟩
  cases a with
  | zero => exact gd_nat.2 cl.nat
 | @succ D n h ih =>
  intro w H σ τ g
  obtain ⟨a1, a2⟩ := ih w g
  have a1 : el E G Tm.nat _ := a1
  have b : Bs E G E (Tm.succ ((n.sub σ).sub τ)) := ⟨cl.succ a1.bs.1, fun T a => by cases a; exact cl.nat⟩
  refine ⟨el_nat.2 (.succ b .nil (el_nat.1 a1)), fun T a => ?_⟩
  cases a with
  | succ => exact gd_nat.2 cl.nat
 | @elim D p z s n i h k l m ih ik il im =>
  intro w H σ τ g
  have p1 : el E G (Tm.pi Tm.nat (Tm.sort i)) ((p.sub σ).sub τ) := (ih w g).1
  have z1 : el E G (Tm.app ((p.sub σ).sub τ) Tm.zero) ((z.sub σ).sub τ) := (ik w g).1
  have s1 := (il w g).1
  rw [stepTy_sub, stepTy_sub] at s1
  have n1 : el E G Tm.nat ((n.sub σ).sub τ) := (im w g).1
  refine ⟨el_elim cl p1 z1 s1 n1, fun T a => ?_⟩
  cases a with
  | elim => exact (el_sort_out (fam_in p1 n1)).2
 | @id D t a b i h k l ih ik il =>
  intro w H σ τ g
  have t1 : el E G (Tm.sort i) ((t.sub σ).sub τ) := (ih w g).1
  have a1 := (ik w g).1
  have b1 := (il w g).1
  have b : Bs E G E (Tm.id ((t.sub σ).sub τ) ((a.sub σ).sub τ) ((b.sub σ).sub τ)) := ⟨cl.id t1.bs.1 a1.bs.1 b1.bs.1, fun T a => by cases a; exact cl.sort _⟩
  refine ⟨el_sort_id t1 a1 b1 b, fun T a => ?_⟩
  cases a with
  | id => exact (gd_sort (i := i) (el_sort_le t1)).2 (cl.sort _)
 | @refl D a A i h k ih ik =>
  intro w H σ τ g
  obtain ⟨a1, a2⟩ := ih w g
  have A1 : el E G (Tm.sort i) ((A.sub σ).sub τ) := (ik w g).1
  have o : Ok E G (Tm.id ((A.sub σ).sub τ) ((a.sub σ).sub τ) ((a.sub σ).sub τ)) := ok_id (el_sort_out A1).1
  have gI : ∀ X, gd E G ((A.sub σ).sub τ) X → gd E G (Tm.id ((A.sub σ).sub τ) ((a.sub σ).sub τ) ((a.sub σ).sub τ)) (Tm.id X ((a.sub σ).sub τ) ((a.sub σ).sub τ)) := fun X hX =>
   ((id_inv o).2.2 _).2 ⟨cl.id hX.ends a1.bs.1 a1.bs.1, fun t' y' z' r => by
     cases (show Canon (Tm.id X ((a.sub σ).sub τ) ((a.sub σ).sub τ)) from trivial).wh r
     exact ⟨hX, a1, a1, .rfl', .rfl'⟩⟩
  refine ⟨((id_inv o).2.1 _).2 ⟨⟨cl.refl a1.bs.1 fun X hX => (a1.bs.2 X hX).ends, fun T q => ?_⟩, .inl ⟨_, .nil, .rfl', .rfl'⟩⟩, fun T q => ?_⟩
  ·cases q with
   | refl h' k' w' => exact gI _ (a1.bs.2 _ h')
  ·cases q with
   | refl h' k' w' => exact gI _ (a2 _ h')
 | @move D p e x t y z i h k l m ih ik il im =>
  intro w H σ τ g
  obtain ⟨e1, e2⟩ := ih w g
  have e1 : el E G (Tm.id ((t.sub σ).sub τ) ((y.sub σ).sub τ) ((z.sub σ).sub τ)) _ := e1
  have p1 : el E G (Tm.pi ((t.sub σ).sub τ) (Tm.sort i)) ((p.sub σ).sub τ) := (ik w g).1
  have x1 : el E G (Tm.app ((p.sub σ).sub τ) ((y.sub σ).sub τ)) ((x.sub σ).sub τ) := (il w g).1
  have z1 := (im w g).1
  obtain ⟨io, ie, ig⟩ := id_inv e1.ok
  have zT : ∀ q, gd E G (Tm.id ((t.sub σ).sub τ) ((y.sub σ).sub τ) ((z.sub σ).sub τ)) q → ∀ t' y' z', Wh q (Tm.id t' y' z') → el E G ((t.sub σ).sub τ) z' ∧ Conv z' ((z.sub σ).sub τ) := fun q hq t' y' z' r => let k := ((ig q).1 hq).2 t' y' z' r; ⟨k.2.2.1, k.2.2.2.2⟩
  have oz : Ok E G (Tm.app ((p.sub σ).sub τ) ((z.sub σ).sub τ)) := (el_sort_out (el_app (B := Tm.sort i) p1 z1)).1
  have gz : ∀ z', el E G ((t.sub σ).sub τ) z' → Conv z' ((z.sub σ).sub τ) → gd E G (Tm.app ((p.sub σ).sub τ) ((z.sub σ).sub τ)) (Tm.app ((p.sub σ).sub τ) z') := fun z' hz c =>
   (el_sort_out (el_app (B := Tm.sort i) p1 hz)).2.conv (Conv.app .rfl' c)
  have bs : Bs E G (gd E G (Tm.app ((p.sub σ).sub τ) ((z.sub σ).sub τ))) (Tm.move ((p.sub σ).sub τ) ((e.sub σ).sub τ) ((x.sub σ).sub τ)) :=
   ⟨cl.move p1.bs.1 e1.bs.1 x1.bs.1, fun T a => by
    cases a with
    | move h' w' k' v c u l' d => let q := zT _ (e1.bs.2 _ h') _ _ _ w'; exact gz _ q.1 q.2⟩
  refine ⟨?_, fun T a => ?_⟩
  ·rcases ((ie _).1 e1).2 with ⟨a, r, c1, c2⟩ | hs
   ·exact el_exp cl ((r.move _ _).trans (.cons .mrefl .nil)) (x1.conv (Conv.app .rfl' (c1.symm.trans c2))) bs
   ·exact el_stuck cl oz (hs.move _ _) bs
  ·cases a with
   | move h' w' k' v c u l' d => let q := zT _ (e2 _ h') _ _ _ (w'.sub τ); exact gz _ q.1 q.2
 | @pair D s a b A B i j h r q k l ih iq ik il =>
  intro w H σ τ g
  obtain ⟨s1, s2⟩ := ih w g
  have s1 : el E G (Tm.sort i) ((s.sub σ).sub τ) := s1
  have so := el_sort_out s1
  have a1 := (ik w g).1
  have b1 := (il w g).1
  rw [inst_sub, inst_sub] at b1
  have cS : Conv ((s.sub σ).sub τ) (Tm.sig ((A.sub σ).sub τ) ((B.sub (ups σ)).sub (ups τ))) := (r.conv.sub σ).sub τ
  have oS := so.1.conv cS
  obtain ⟨o1, o2, o3, o4⟩ := sig_inv oS
  have gS := ((o4 _).1 (so.2.conv cS)).2
  obtain ⟨X, Y, wS, c1, c2⟩ := cS.wh_sig
  obtain ⟨gX, gY⟩ := gS X Y wS
  have bs : Bs E G (gd E G ((s.sub σ).sub τ)) (Tm.pair ((s.sub σ).sub τ) ((a.sub σ).sub τ) ((b.sub σ).sub τ)) :=
   ⟨cl.pair s1.bs.1 a1.bs.1 b1.bs.1, fun T a => by
    cases a with
    | pair => exact so.2⟩
  refine ⟨el.conv ?_ cS.symm, fun T a => ?_⟩
  ·have f1 : el E G ((A.sub σ).sub τ) (Tm.fst (Tm.pair ((s.sub σ).sub τ) ((a.sub σ).sub τ) ((b.sub σ).sub τ))) :=
     el_exp cl (.cons .fpair .nil) a1 ⟨cl.fst bs.1, fun T q => by
      cases q with
      | fst h' w' => cases h' with
       | pair => cases wS.same w' trivial trivial; exact gX⟩
   refine (o3 _).2 ⟨⟨bs.1, fun T q => (bs.2 T q).conv cS⟩, f1, ?_⟩
   refine el_exp cl (.cons .spair .nil) (b1.conv (Conv.inst .rfl' (Par.conv (.fpair (Par.rfl' _))).symm)) ⟨cl.snd bs.1, fun T q => ?_⟩
   cases q with
   | snd h' w' => cases h' with
    | pair => cases wS.same w' trivial trivial; exact gY _ f1
  ·cases a with
   | pair => exact so.2
 | @fst D q A B h ih =>
  intro w H σ τ g
  obtain ⟨q1, q2⟩ := ih w g
  have q1 : el E G (Tm.sig ((A.sub σ).sub τ) ((B.sub (ups σ)).sub (ups τ))) _ := q1
  obtain ⟨o1, o2, o3, o4⟩ := sig_inv q1.ok
  refine ⟨((o3 _).1 q1).2.1, fun T a => ?_⟩
  cases a with
  | fst h' w' => exact (((o4 _).1 (q2 _ h')).2 _ _ (w'.sub τ)).1
 | @snd D q A B h ih =>
  intro w H σ τ g
  obtain ⟨q1, q2⟩ := ih w g
  have q1 : el E G (Tm.sig ((A.sub σ).sub τ) ((B.sub (ups σ)).sub (ups τ))) _ := q1
  obtain ⟨o1, o2, o3, o4⟩ := sig_inv q1.ok
  have f1 := ((o3 _).1 q1).2
  rw [inst_sub, inst_sub]
  refine ⟨f1.2, fun T a => ?_⟩
  cases a with
  | snd h' w' => rw [inst_sub]; exact (((o4 _).1 (q2 _ h')).2 _ _ (w'.sub τ)).2 _ f1.1
 | conv h c k ih ik =>
  intro w H σ τ g
  obtain ⟨a1, a2⟩ := ih w g
  have c' := (c.sub σ).sub τ
  exact ⟨a1.conv c', fun T a => (a2 T a).conv c'⟩
theorem look_app : ∀ (X D : List Tm) (n : Nat), look (X ++ D) (n + X.length) = (look D n).map (·.ren (· + X.length))
 | [], D, n => by
  show look D n = _
  cases look D n with
  | none => rfl
  | some A => show some A = some (A.ren fun n => n); rw [ren_id]
 | A :: X, D, n => by
  show look (A :: (X ++ D)) (n + X.length + 1) = _
  show (look (X ++ D) (n + X.length)).map wk = _
  rw [look_app X D n]
  cases look D n with
  | none => rfl
  | some B => simp only [Option.map_some, wk, ren_ren, List.length_cons]; rfl
theorem good_id (cl : Clo E G) : ∀ (D X : List Tm), G = X ++ D → Wf D → Good E G D G (fun n => Tm.var (n + X.length)) Tm.var
 | [], X, e, w => fun n A h => by cases h
 | A :: D, X, e, w => by
  cases w with
  | cons w h =>
   have g := good_id cl D (X ++ [A]) (by rw [e]; simp) w
   have len : (X ++ [A]).length = X.length + 1 := by simp
   rw [len] at g
   have s1 := (h.sem cl w g).1
   have so := el_sort_out (i := _) s1
   have eA : (A.sub fun n => Tm.var (n + (X.length + 1))).sub Tm.var = A.ren (· + (X.length + 1)) := by rw [sub_var, ← ren_eq]
   rw [eA] at so
   have shift : ∀ C : Tm, (C.wk.sub fun n => Tm.var (n + X.length)).sub Tm.var = (C.sub fun n => Tm.var (n + (X.length + 1))).sub Tm.var := fun C => by
    rw [sub_var, sub_var, wk, ren_sub]
    congr 1; funext n; simp only [Nat.add_assoc, Nat.add_comm 1]
   have lk := look_app X (A :: D) 0
   rw [← e] at lk
   intro n B hB
   cases n with
   | zero =>
    simp only [look, Option.some.injEq] at hB; subst hB
    rw [shift, eA]
    show el E G _ (Tm.var (0 + X.length)) ∧ _
    have lk' : look G (0 + X.length) = some (A.ren (· + (X.length + 1))) := by
     rw [lk]
     show some (A.wk.ren _) = _
     rw [wk, ren_ren]
     congr 2; funext n; simp only [Nat.add_assoc, Nat.add_comm 1]
    have bs : Bs E G (gd E G (A.ren (· + (X.length + 1)))) (Tm.var (0 + X.length)) := ⟨cl.var _, fun T a => by
     cases a with
     | var h => rw [lk'] at h; cases h; exact so.2⟩
    exact ⟨el_stuck cl so.1 (.var _) bs, fun T a => by rw [sub_var]; exact bs.2 T a⟩
   | succ n =>
    obtain ⟨C, hC, rfl⟩ := Option.map_eq_some_iff.1 hB
    obtain ⟨g1, g2⟩ := g n C hC
    rw [shift]
    have ev : Tm.var (n + 1 + X.length) = Tm.var (n + (X.length + 1)) := by rw [Nat.add_assoc, Nat.add_comm 1]
    exact ⟨by show el E G _ (Tm.var (n + 1 + X.length)); rw [ev]; exact g1, fun T a => g2 T (by show Al G (Tm.var (n + (X.length + 1))) T; rw [← ev]; exact a)⟩
theorem Clo.typ (cl : Clo E G) (w : Wf G) {t A : Tm} (a : Al G t A) : E A := by
 have g := good_id cl G [] rfl w
 have := ((a.sound w).sem cl w g).2 A (by
  have e : t.sub (fun n => Tm.var (n + ([] : List Tm).length)) = t := sub_var t
  rw [e]; exact a)
 have e2 := this.ends
 rwa [sub_var] at e2
theorem Clo.all (cl : Clo E G) (w : Wf G) (t : Tm) : E t := by
 induction t with
 | var n => exact cl.var n
 | sort n => exact cl.sort n
 | pi a b ha hb => exact cl.pi ha
 | lam a b ha hb => exact cl.lam ha
 | app f a hf ha => exact cl.app hf ha
 | nat => exact cl.nat
 | zero => exact cl.zero
 | succ n h => exact cl.succ h
 | elim p z s n h k l m => exact cl.elim h k l m
 | id t a b h k l => exact cl.id h k l
 | refl a h => exact cl.refl h fun A q => cl.typ w q
 | move p e x h k l => exact cl.move h k l
 | sig a b ha hb => exact cl.sig ha
 | pair s a b h k l => exact cl.pair h k l
 | fst q h => exact cl.fst h
 | snd q h => exact cl.snd h
end Tm
end Go.Proofs.Ytgchmppmecnniaa
end
section
namespace Go.Proofs.Ytgchmppmecnniaa
namespace Tm
inductive Rs where
 | ok (t : Tm) | bad | opn
structure Orc where
 vd : Tm → Bool
 hn : Tm → Rs
 sm : Tm → Tm → Rs
structure OrcOk (O : Orc) : Prop where
 hn_ok : ∀ {t h}, O.hn t = .ok h → Wh t h ∧ (∀ u, ¬ Hd h u) ∧ O.vd h = true
 hn_nb : ∀ t, O.hn t ≠ .bad
 sm_ok : ∀ {a b x}, O.sm a b = .ok x → Conv a b
 sm_nb : ∀ {a b}, O.sm a b = .bad → ¬ Conv a b
 sm_inv : ∀ {a b}, O.vd b = false → O.sm a b = .opn
 v_pi : ∀ {a b}, O.vd (pi a b) = true → O.vd a = true ∧ O.vd b = true
 v_sig : ∀ {a b}, O.vd (sig a b) = true → O.vd a = true ∧ O.vd b = true
 v_lam : ∀ {a b}, O.vd (lam a b) = true → O.vd a = true ∧ O.vd b = true
 v_app : ∀ {a b}, O.vd (app a b) = true → O.vd a = true ∧ O.vd b = true
 v_succ : ∀ {a}, O.vd (succ a) = true → O.vd a = true
 v_elim : ∀ {p z s n}, O.vd (elim p z s n) = true → O.vd p = true ∧ O.vd z = true ∧ O.vd s = true ∧ O.vd n = true ∧ O.vd (app p zero) = true
 v_id : ∀ {t a b}, O.vd (id t a b) = true → O.vd t = true ∧ O.vd a = true ∧ O.vd b = true
 v_refl : ∀ {a}, O.vd (refl a) = true → O.vd a = true
 v_move : ∀ {t a b}, O.vd (move t a b) = true → O.vd t = true ∧ O.vd a = true ∧ O.vd b = true
 v_pair : ∀ {t a b}, O.vd (pair t a b) = true → O.vd t = true ∧ O.vd a = true ∧ O.vd b = true
 v_fst : ∀ {a}, O.vd (fst a) = true → O.vd a = true
 v_snd : ∀ {a}, O.vd (snd a) = true → O.vd a = true
 v_lam3 : ∀ {a b}, O.vd (lam a b) = true → O.vd (pi a (sort 3)) = true
 v_sort : ∀ {n}, O.vd (sort n) = true ↔ n ≤ 3
 v_nat : O.vd nat = true
def sq (x : Option Rs) (k : Tm → Option Rs) : Option Rs := match x with
 | some (.ok t) => k t
 | x => x
section
variable (O : Orc)
def frm (x : Option Rs) : Option Rs := sq x fun s => some (O.hn s)
def lvl (x : Option Rs) : Option Rs := sq (frm O x) fun h => match h with
 | sort n => some (.ok (sort n))
 | _ => some .bad
def fam (x : Option Rs) (t : Tm) : Option Rs := sq (frm O x) fun f => match f with
 | pi C D => sq (some (O.sm C t)) fun _ => sq (some (O.hn D)) fun h => match h with
  | sort _ => some (.ok h)
  | _ => some .bad
 | _ => some .bad
variable (I : List Tm → Tm → Option Rs)
def ext (G : List Tm) (a b : Tm) : Option Rs := if 20 ≤ G.length then some .opn else I (a :: G) b
end
variable {O : Orc}
theorem sq_ok {x : Option Rs} {k : Tm → Option Rs} {A : Tm} (h : sq x k = some (.ok A)) : ∃ t, x = some (.ok t) ∧ k t = some (.ok A) := by
 unfold sq at h
 split at h
 ·exact ⟨_, rfl, h⟩
 ·rename_i h2; exact absurd h (h2 A)
end Tm
end Go.Proofs.Ytgchmppmecnniaa
end
section
namespace Go.Proofs.Ytgchmppmecnniaa
namespace Tm
variable {O : Orc}
def Is (f : Nat → Option Rs) (r : Rs) : Prop := ∃ N, ∀ n, N ≤ n → f n = some r
def Ends (f : Nat → Option Rs) : Prop := ∃ r, Is f r
theorem Is.const (r : Rs) : Is (fun _ => some r) r := ⟨0, fun _ _ => rfl⟩
theorem Is.bind {f : Nat → Option Rs} {t : Tm} {k : Nat → Tm → Option Rs} {r : Rs} (h : Is f (.ok t)) (hk : Is (fun n => k n t) r) : Is (fun n => sq (f n) (k n)) r := by
 obtain ⟨N, h⟩ := h
 obtain ⟨M, hk⟩ := hk
 exact ⟨N + M, fun n hn => by show sq (f n) (k n) = some r; rw [h n (by omega)]; exact hk n (by omega)⟩
theorem Is.bad {f : Nat → Option Rs} {k : Nat → Tm → Option Rs} (h : Is f .bad) : Is (fun n => sq (f n) (k n)) .bad := by
 obtain ⟨N, h⟩ := h
 exact ⟨N, fun n hn => by show sq (f n) (k n) = _; rw [h n hn]; rfl⟩
theorem Is.opn {f : Nat → Option Rs} {k : Nat → Tm → Option Rs} (h : Is f .opn) : Is (fun n => sq (f n) (k n)) .opn := by
 obtain ⟨N, h⟩ := h
 exact ⟨N, fun n hn => by show sq (f n) (k n) = _; rw [h n hn]; rfl⟩
theorem Ends.bind {f : Nat → Option Rs} {k : Nat → Tm → Option Rs} (h : Ends f) (hk : ∀ t, Is f (.ok t) → Ends (fun n => k n t)) : Ends (fun n => sq (f n) (k n)) := by
 obtain ⟨r, h⟩ := h
 cases r with
 | ok t => obtain ⟨r, hr⟩ := hk t h; exact ⟨r, h.bind hr⟩
 | bad => exact ⟨_, h.bad⟩
 | opn => exact ⟨_, h.opn⟩
theorem Ends.const (r : Option Rs) (h : r ≠ none) : Ends (fun _ => r) := by
 cases r with
 | none => exact absurd rfl h
 | some r => exact ⟨r, .const r⟩
theorem Ends.of {r : Rs} : Ends (fun _ => some r) := ⟨r, .const r⟩
theorem Ends.frm {f : Nat → Option Rs} (h : Ends f) : Ends (fun n => frm O (f n)) := h.bind fun _ _ => .of
theorem Ends.lvl {f : Nat → Option Rs} (h : Ends f) : Ends (fun n => lvl O (f n)) := h.frm.bind fun t _ => .const _ (by split <;> simp)
theorem Ends.fam {f : Nat → Option Rs} (h : Ends f) (w : Tm) : Ends (fun n => fam O (f n) w) := h.frm.bind fun t _ => by
 split
 ·exact Ends.bind .of fun _ _ => Ends.bind .of fun _ _ => .const _ (by split <;> simp)
 ·exact .of
def Le (x y : Option Rs) : Prop := ∀ r, x = some r → y = some r
theorem Le.rfl' (x : Option Rs) : Le x x := fun _ h => h
theorem Le.sq {x y : Option Rs} {k l : Tm → Option Rs} (h : Le x y) (hk : ∀ t, Le (k t) (l t)) : Le (sq x k) (sq y l) := by
 intro r e
 cases x with
 | none => cases e
 | some x =>
  rw [h _ rfl]
  cases x with
  | ok t => exact hk t r e
  | bad => exact e
  | opn => exact e
theorem Le.frm {x y : Option Rs} (h : Le x y) : Le (frm O x) (frm O y) := h.sq fun _ => .rfl' _
theorem Le.lvl {x y : Option Rs} (h : Le x y) : Le (lvl O x) (lvl O y) := h.frm.sq fun _ => .rfl' _
theorem Le.fam {x y : Option Rs} (h : Le x y) (w : Tm) : Le (fam O x w) (fam O y w) := h.frm.sq fun _ => .rfl' _
theorem hn_sort (k : OrcOk O) {s h : Tm} {i : Nat} (e : O.hn s = .ok h) (c : Conv s (sort i)) : h = sort i := by
 obtain ⟨w, nh, _⟩ := k.hn_ok e
 have := (w.conv.symm.trans c).wh_sort
 cases this with
 | nil => rfl
 | cons r _ => exact (nh _ r).elim
theorem hn_pi (k : OrcOk O) {s h A B : Tm} (e : O.hn s = .ok h) (c : Conv s (pi A B)) : ∃ A' B', h = pi A' B' ∧ Conv A' A ∧ Conv B' B := by
 obtain ⟨w, nh, _⟩ := k.hn_ok e
 obtain ⟨A', B', r, c1, c2⟩ := (w.conv.symm.trans c).wh_pi
 cases r with
 | nil => exact ⟨_, _, rfl, c1, c2⟩
 | cons r _ => exact (nh _ r).elim
def Nb (x : Option Rs) : Prop := x ≠ some .bad
theorem Nb.sq {x : Option Rs} {k : Tm → Option Rs} (h : Nb x) (hk : ∀ t, x = some (.ok t) → Nb (k t)) : Nb (sq x k) := by
 intro e
 cases x with
 | none => cases e
 | some r => cases r with
  | ok t => exact hk t rfl e
  | bad => exact h rfl
  | opn => cases e
theorem nb_ok (t : Tm) : Nb (some (.ok t)) := fun h => by cases h
theorem nb_hn (k : OrcOk O) (t : Tm) : Nb (some (O.hn t)) := fun h => k.hn_nb t (Option.some.inj h)
structure Part (O : Orc) (G : List Tm) (A : Tm) (x : Option Rs) : Prop where
 nb : Nb x
 ty : ∀ {B}, x = some (.ok B) → Conv B A
theorem Part.lvl (k : OrcOk O) {G : List Tm} {i : Nat} {x : Option Rs} (p : Part O G (sort i) x) : Nb (lvl O x) := by
 refine (p.nb.sq fun _ _ => nb_hn k _).sq fun h e => ?_
 obtain ⟨s, e1, e2⟩ := sq_ok e
 have := hn_sort k (Option.some.inj e2) (p.ty e1); subst this
 exact nb_ok _
theorem Part.fam (k : OrcOk O) {G : List Tm} {t t' : Tm} {i : Nat} {x : Option Rs} (p : Part O G (pi t (sort i)) x) (c : Conv t t') : Nb (fam O x t') := by
 refine (p.nb.sq fun _ _ => nb_hn k _).sq fun h e => ?_
 obtain ⟨s, e1, e2⟩ := sq_ok e
 obtain ⟨C, D, rfl, c1, c2⟩ := hn_pi k (Option.some.inj e2) (p.ty e1)
 refine Nb.sq (fun h => k.sm_nb (Option.some.inj h) (c1.trans c)) fun _ _ => Nb.sq (nb_hn k _) fun h e => ?_
 have := hn_sort k (Option.some.inj e) c2; subst this
 exact nb_ok _
end Tm
end Go.Proofs.Ytgchmppmecnniaa
end
section
namespace Go.Proofs.Ytgchmppmecnniaa
namespace Tm
variable {O : Orc}
def Lv (G : List Tm) (a : Tm) : Prop := ∃ S i, Al G a S ∧ Wh S (sort i)
def Tr (x : Option Rs) (f : Nat → Option Rs) : Prop := ∀ r, x = some r → Is f r
theorem Tr.const (r : Option Rs) : Tr r (fun _ => r) := fun s h => ⟨0, fun _ _ => h⟩
theorem Tr.sq {x : Option Rs} {f : Nat → Option Rs} {k : Tm → Option Rs} {l : Nat → Tm → Option Rs} (h : Tr x f) (hk : ∀ t, x = some (.ok t) → Tr (k t) (fun n => l n t)) : Tr (sq x k) (fun n => sq (f n) (l n)) := by
 intro r e
 cases x with
 | none => cases e
 | some s =>
  have hs := h s rfl
  cases s with
  | ok t => exact hs.bind (hk t rfl r e)
  | bad => cases e; exact hs.bad
  | opn => cases e; exact hs.opn
theorem Tr.frm {x : Option Rs} {f : Nat → Option Rs} (h : Tr x f) : Tr (frm O x) (fun n => frm O (f n)) := h.sq fun _ _ => .const _
theorem Tr.lvl {x : Option Rs} {f : Nat → Option Rs} (h : Tr x f) : Tr (lvl O x) (fun n => lvl O (f n)) := h.frm.sq fun _ _ => .const _
theorem Tr.fam {x : Option Rs} {f : Nat → Option Rs} (h : Tr x f) (w : Tm) : Tr (fam O x w) (fun n => fam O (f n) w) := h.frm.sq fun _ _ => .const _
end Tm
end Go.Proofs.Ytgchmppmecnniaa
end
section
namespace Go.Proofs.Ytgchmppmecnniaa
namespace Tm
variable {O : Orc}
theorem Le.ext {I J : List Tm → Tm → Option Rs} (h : ∀ G t, Le (I G t) (J G t)) (G : List Tm) (a b : Tm) : Le (ext I G a b) (ext J G a b) := by
 unfold Tm.ext
 split
 ·exact .rfl' _
 ·exact h _ _
end Tm
end Go.Proofs.Ytgchmppmecnniaa
end
section
namespace Go.Proofs.Ytgchmppmecnniaa
open Go Go.Dk
def convC (a b : T) (f : Nat) : Int :=
 if T.beq a b then 1
 else if (redF false f 0 a).2.2 ≠ 0 ∨ (redF false f 0 b).2.2 ≠ 0 then 3
 else if T.beq (redF false f 0 a).1 (redF false f 0 b).1 then 1 else 2
theorem redF_red {inn : Bool} : ∀ (g s : Nat) (t : T), (redF inn g s t).2.2 = 0 → Red t (redF inn g s t).1 ∧ nfB (redF inn g s t).1 = true
 | 0, s, t, h => by
  rw [redF] at h ⊢
  cases hs : stT inn t with
  | none => exact ⟨.refl, st_none.1 hs⟩
  | some u => rw [hs] at h; cases h
 | g + 1, s, t, h => by
  rw [redF] at h ⊢
  cases hs : stT inn t with
  | none => exact ⟨.refl, st_none.1 hs⟩
  | some u =>
   rw [hs] at h
   simp only at h ⊢
   cases hu : validB u with
   | false => rw [hu] at h; cases h
   | true =>
    rw [hu] at h
    simp only [if_true] at h ⊢
    obtain ⟨h1, h2⟩ := redF_red g (s + 1) u h
    exact ⟨.step (st_par hs) h1, h2⟩
theorem Red.kids {k n : Int} {pre post : List T} {a b : T} (h : Red a b) : Red (.mk k n (pre ++ a :: post)) (.mk k n (pre ++ b :: post)) := by
 induction h with
 | refl => exact .refl
 | step h _ ih =>
  refine .step (.node ?_) ih
  clear ih
  induction pre with
  | nil => exact .cons h (ParL.refl _)
  | cons x pre ih => exact .cons (Par.refl x) ih
end Go.Proofs.Ytgchmppmecnniaa
end
section
namespace Go.Proofs.Ytgchmppmecnniaa
open Go Go.Dk
def of : Tm → T
 | .var n => .mk 1 n []
 | .sort n => .mk 2 n []
 | .pi a b => .mk 3 0 [of a, of b]
 | .lam a b => .mk 4 0 [of a, of b]
 | .app a b => .mk 5 0 [of a, of b]
 | .nat => .mk 6 0 []
 | .zero => .mk 7 0 []
 | .succ a => .mk 8 0 [of a]
 | .elim p z s n => .mk 9 0 [of p, of z, of s, of n]
 | .id t a b => .mk 10 0 [of t, of a, of b]
 | .refl a => .mk 11 0 [of a]
 | .move p e x => .mk 12 0 [of p, of e, of x]
 | .sig a b => .mk 13 0 [of a, of b]
 | .pair s a b => .mk 14 0 [of s, of a, of b]
 | .fst a => .mk 15 0 [of a]
 | .snd a => .mk 16 0 [of a]
theorem of_inj : ∀ {a b : Tm}, of a = of b → a = b := by
 intro a
 induction a <;> intro b h <;> cases b <;> simp_all [of] <;> grind
def shn (a c n : Nat) : Nat := if c ≤ n then n + a else n
theorem up_shn (a c : Nat) : Tm.up (shn a c) = shn a (c + 1) := by
 funext n; cases n with
 | zero => simp [Tm.up, shn]
 | succ n => simp only [Tm.up, shn]; split <;> split <;> omega
theorem of_sh (a : Nat) : ∀ (t : Tm) (c : Nat), shT (a : Int) (of t) (c : Int) = of (t.ren (shn a c)) := by
 intro t
 induction t with
 | var n =>
  intro c
  simp only [of, Tm.ren, shT, shL, shn, true_and]
  by_cases h : c ≤ n
  ·rw [if_pos h, if_pos (by omega)]; rfl
  ·rw [if_neg h, if_neg (by omega)]
 | pi a b ha hb => intro c; simp only [of, Tm.ren, shT, shL, under, up_shn, ← ha, ← hb]; simp
 | lam a b ha hb => intro c; simp only [of, Tm.ren, shT, shL, under, up_shn, ← ha, ← hb]; simp
 | sig a b ha hb => intro c; simp only [of, Tm.ren, shT, shL, under, up_shn, ← ha, ← hb]; simp
 | _ => intro c; simp_all [of, Tm.ren, shT, shL, under]
theorem shn_zero (a : Nat) : shn a 0 = (· + a) := by funext n; simp [shn]
def sbn (u : Tm) (c n : Nat) : Tm := if n < c then .var n else if n = c then u.ren (· + c) else .var (n - 1)
theorem ups_sbn (u : Tm) (c : Nat) : Tm.ups (sbn u c) = sbn u (c + 1) := by
 funext n; cases n with
 | zero => simp [Tm.ups, sbn]
 | succ n =>
  simp only [Tm.ups, sbn]
  by_cases h : n < c
  ·rw [if_pos h, if_pos (show n + 1 < c + 1 by omega)]; rfl
  ·rw [if_neg h, if_neg (show ¬ n + 1 < c + 1 by omega)]
   by_cases h2 : n = c
   ·rw [if_pos h2, if_pos (show n + 1 = c + 1 by omega), Tm.wk, Tm.ren_ren]; rfl
   ·rw [if_neg h2, if_neg (show ¬ n + 1 = c + 1 by omega)]
    show Tm.var (n - 1 + 1) = Tm.var (n + 1 - 1)
    congr 1; omega
theorem of_sb (u : Tm) : ∀ (t : Tm) (c : Nat), sbT (of u) (of t) (c : Int) (c : Int) = of (t.sub (sbn u c)) := by
 intro t
 induction t with
 | var n =>
  intro c
  simp only [of, Tm.sub, sbT, sbL, sbn, true_and]
  by_cases h : n < c
  ·rw [if_pos h, if_neg (by omega), if_neg (by omega)]; rfl
  ·rw [if_neg h]
   by_cases h2 : n = c
   ·subst h2
    rw [if_pos rfl, if_pos rfl]
    have := of_sh n u 0
    rw [shn_zero] at this; exact this
   ·rw [if_neg h2, if_neg (by omega), if_pos (by omega)]
    simp only [of]; congr 1; omega
 | pi a b ha hb =>
  intro c
  have hb' := hb (c + 1)
  simp only [of, Tm.sub, sbT, sbL, under, ups_sbn, ← ha, ← hb']; simp
 | lam a b ha hb =>
  intro c
  have hb' := hb (c + 1)
  simp only [of, Tm.sub, sbT, sbL, under, ups_sbn, ← ha, ← hb']; simp
 | sig a b ha hb =>
  intro c
  have hb' := hb (c + 1)
  simp only [of, Tm.sub, sbT, sbL, under, ups_sbn, ← ha, ← hb']; simp
 | _ => intro c; simp_all [of, Tm.sub, sbT, sbL, under]
theorem sbn_zero (u : Tm) : sbn u 0 = Tm.sc u Tm.var := by
 funext n; cases n with
 | zero => exact Tm.ren_id u
 | succ n => simp [sbn, Tm.sc]
theorem of_inst (b u : Tm) : sbT (of u) (of b) 0 0 = of (b.inst u) := by
 have := of_sb u b 0
 rw [sbn_zero] at this; exact this
theorem ParL.one {a : T} {us : List T} (h : ParL [a] us) : ∃ a', us = [a'] ∧ Par a a' := by
 cases h with | cons h hs => cases hs; exact ⟨_, rfl, h⟩
theorem ParL.two {a b : T} {us : List T} (h : ParL [a, b] us) : ∃ a' b', us = [a', b'] ∧ Par a a' ∧ Par b b' := by
 cases h with | cons h hs => obtain ⟨b', rfl, h2⟩ := hs.one; exact ⟨_, _, rfl, h, h2⟩
theorem ParL.three {a b c : T} {us : List T} (h : ParL [a, b, c] us) : ∃ a' b' c', us = [a', b', c'] ∧ Par a a' ∧ Par b b' ∧ Par c c' := by
 cases h with | cons h hs => obtain ⟨b', c', rfl, h2⟩ := hs.two; exact ⟨_, _, _, rfl, h, h2⟩
theorem ParL.four {a b c d : T} {us : List T} (h : ParL [a, b, c, d] us) : ∃ a' b' c' d', us = [a', b', c', d'] ∧ Par a a' ∧ Par b b' ∧ Par c c' ∧ Par d d' := by
 cases h with | cons h hs => obtain ⟨b', c', d', rfl, h2⟩ := hs.three; exact ⟨_, _, _, _, rfl, h, h2⟩
theorem of_k (t : Tm) : (of t).k = match t with
   | .var _ => 1 | .sort _ => 2 | .pi .. => 3 | .lam .. => 4 | .app .. => 5 | .nat => 6 | .zero => 7 | .succ _ => 8 | .elim .. => 9 | .id .. => 10 | .refl _ => 11 | .move .. => 12 | .sig .. => 13 | .pair .. => 14 | .fst _ => 15 | .snd _ => 16 := by
 cases t <;> rfl
theorem par_of : ∀ {t : Tm} {x : T}, Par (of t) x → ∃ u, x = of u ∧ Tm.Par t u := by
 intro t
 have no : ∀ {k n : Int} {ts : List T}, Rx (.mk k n ts) → k ≠ 5 → k ≠ 9 → k ≠ 12 → k ≠ 15 → k ≠ 16 → False := fun h h1 h2 h3 h4 h5 => by
  have := h.k; simp only [T.k] at this; omega
 induction t with
 | var n => intro x h; cases h with
  | node h => cases h; exact ⟨.var n, rfl, .var⟩
  | red h r => exact (no r (by decide) (by decide) (by decide) (by decide) (by decide)).elim
 | sort n => intro x h; cases h with
  | node h => cases h; exact ⟨.sort n, rfl, .sort⟩
  | red h r => exact (no r (by decide) (by decide) (by decide) (by decide) (by decide)).elim
 | nat => intro x h; cases h with
  | node h => cases h; exact ⟨.nat, rfl, .nat⟩
  | red h r => exact (no r (by decide) (by decide) (by decide) (by decide) (by decide)).elim
 | zero => intro x h; cases h with
  | node h => cases h; exact ⟨.zero, rfl, .zero⟩
  | red h r => exact (no r (by decide) (by decide) (by decide) (by decide) (by decide)).elim
 | pi a b ha hb => intro x h; cases h with
  | node h => obtain ⟨a', b', rfl, p, q⟩ := h.two; obtain ⟨u, rfl, hu⟩ := ha p; obtain ⟨v, rfl, hv⟩ := hb q; exact ⟨.pi u v, rfl, .pi hu hv⟩
  | red h r => exact (no r (by decide) (by decide) (by decide) (by decide) (by decide)).elim
 | lam a b ha hb => intro x h; cases h with
  | node h => obtain ⟨a', b', rfl, p, q⟩ := h.two; obtain ⟨u, rfl, hu⟩ := ha p; obtain ⟨v, rfl, hv⟩ := hb q; exact ⟨.lam u v, rfl, .lam hu hv⟩
  | red h r => exact (no r (by decide) (by decide) (by decide) (by decide) (by decide)).elim
 | sig a b ha hb => intro x h; cases h with
  | node h => obtain ⟨a', b', rfl, p, q⟩ := h.two; obtain ⟨u, rfl, hu⟩ := ha p; obtain ⟨v, rfl, hv⟩ := hb q; exact ⟨.sig u v, rfl, .sig hu hv⟩
  | red h r => exact (no r (by decide) (by decide) (by decide) (by decide) (by decide)).elim
 | succ a ha => intro x h; cases h with
  | node h => obtain ⟨a', rfl, p⟩ := h.one; obtain ⟨u, rfl, hu⟩ := ha p; exact ⟨.succ u, rfl, .succ hu⟩
  | red h r => exact (no r (by decide) (by decide) (by decide) (by decide) (by decide)).elim
 | refl a ha => intro x h; cases h with
  | node h => obtain ⟨a', rfl, p⟩ := h.one; obtain ⟨u, rfl, hu⟩ := ha p; exact ⟨.refl u, rfl, .refl hu⟩
  | red h r => exact (no r (by decide) (by decide) (by decide) (by decide) (by decide)).elim
 | id t a b ht ha hb => intro x h; cases h with
  | node h => obtain ⟨t', a', b', rfl, p, q, r⟩ := h.three; obtain ⟨s, rfl, hs⟩ := ht p; obtain ⟨u, rfl, hu⟩ := ha q; obtain ⟨v, rfl, hv⟩ := hb r; exact ⟨.id s u v, rfl, .id hs hu hv⟩
  | red h r => exact (no r (by decide) (by decide) (by decide) (by decide) (by decide)).elim
 | pair t a b ht ha hb => intro x h; cases h with
  | node h => obtain ⟨t', a', b', rfl, p, q, r⟩ := h.three; obtain ⟨s, rfl, hs⟩ := ht p; obtain ⟨u, rfl, hu⟩ := ha q; obtain ⟨v, rfl, hv⟩ := hb r; exact ⟨.pair s u v, rfl, .pair hs hu hv⟩
  | red h r => exact (no r (by decide) (by decide) (by decide) (by decide) (by decide)).elim
 | app f a hf ha => intro x h; cases h with
  | node h => obtain ⟨a', b', rfl, p, q⟩ := h.two; obtain ⟨u, rfl, hu⟩ := hf p; obtain ⟨v, rfl, hv⟩ := ha q; exact ⟨.app u v, rfl, .app hu hv⟩
  | red h r =>
   obtain ⟨a', b', rfl, p, q⟩ := h.two
   obtain ⟨u, rfl, hu⟩ := hf p
   obtain ⟨v, rfl, hv⟩ := ha q
   cases r with
   | app _ hk =>
    have hk : (of f).k = 4 := hk
    rw [of_k] at hk
    cases f <;> simp only [reduceCtorEq, Int.reduceEq] at hk
    cases hu with
    | lam h1 h2 =>
     rw [con_app rfl]
     show ∃ w, sbT (of v) (of _) 0 0 = of w ∧ _
     rw [of_inst]; exact ⟨_, rfl, .beta h2 hv⟩
   | zero h => cases h
   | succ h => cases h
   | move h => cases h
   | fst h => cases h
   | snd h => cases h
 | elim a b c d ha hb hc hd => intro x h; cases h with
  | node h =>
   obtain ⟨a', b', c', d', rfl, p, q, r, s⟩ := h.four
   obtain ⟨u, rfl, hu⟩ := ha p; obtain ⟨v, rfl, hv⟩ := hb q; obtain ⟨w, rfl, hw⟩ := hc r; obtain ⟨y, rfl, hy⟩ := hd s
   exact ⟨.elim u v w y, rfl, .elim hu hv hw hy⟩
  | red h r =>
   obtain ⟨a', b', c', d', rfl, p, q, r', s⟩ := h.four
   obtain ⟨u, rfl, hu⟩ := ha p; obtain ⟨v, rfl, hv⟩ := hb q; obtain ⟨w, rfl, hw⟩ := hc r'; obtain ⟨y, rfl, hy⟩ := hd s
   cases r with
   | app h => cases h
   | zero _ hk =>
    have hk : (of d).k = 7 := hk
    rw [of_k] at hk
    cases d <;> simp only [reduceCtorEq, Int.reduceEq] at hk
    cases hy
    rw [con_zero rfl rfl]
    exact ⟨v, rfl, .ezero hv⟩
   | succ _ hk =>
    have hk : (of d).k = 8 := hk
    rw [of_k] at hk
    cases d <;> simp only [reduceCtorEq, Int.reduceEq] at hk
    cases hy with
    | succ hy =>
     rw [con_succ rfl rfl]
     exact ⟨.app (.app w _) (.elim u v w _), rfl, .esucc hu hv hw hy⟩
   | move h => cases h
   | fst h => cases h
   | snd h => cases h
 | move t a b ht ha hb => intro x h; cases h with
  | node h => obtain ⟨t', a', b', rfl, p, q, r⟩ := h.three; obtain ⟨s, rfl, hs⟩ := ht p; obtain ⟨u, rfl, hu⟩ := ha q; obtain ⟨v, rfl, hv⟩ := hb r; exact ⟨.move s u v, rfl, .move hs hu hv⟩
  | red h r =>
   obtain ⟨t', a', b', rfl, p, q, r'⟩ := h.three; obtain ⟨s, rfl, hs⟩ := ht p; obtain ⟨u, rfl, hu⟩ := ha q; obtain ⟨v, rfl, hv⟩ := hb r'
   cases r with
   | app h => cases h
   | zero h => cases h
   | succ h => cases h
   | move _ hk =>
    have hk : (of a).k = 11 := hk
    rw [of_k] at hk
    cases a <;> simp only [reduceCtorEq, Int.reduceEq] at hk
    rw [con_move rfl]
    exact ⟨v, rfl, .mrefl hv⟩
   | fst h => cases h
   | snd h => cases h
 | fst a ha => intro x h; cases h with
  | node h => obtain ⟨a', rfl, p⟩ := h.one; obtain ⟨u, rfl, hu⟩ := ha p; exact ⟨.fst u, rfl, .fst hu⟩
  | red h r =>
   obtain ⟨a', rfl, p⟩ := h.one; obtain ⟨u, rfl, hu⟩ := ha p
   cases r with
   | app h => cases h
   | zero h => cases h
   | succ h => cases h
   | move h => cases h
   | fst _ hk =>
    have hk : (of a).k = 14 := hk
    rw [of_k] at hk
    cases a <;> simp only [reduceCtorEq, Int.reduceEq] at hk
    cases hu with
    | pair h1 h2 h3 => rw [con_fst rfl]; exact ⟨_, rfl, .fpair h2⟩
   | snd h => cases h
 | snd a ha => intro x h; cases h with
  | node h => obtain ⟨a', rfl, p⟩ := h.one; obtain ⟨u, rfl, hu⟩ := ha p; exact ⟨.snd u, rfl, .snd hu⟩
  | red h r =>
   obtain ⟨a', rfl, p⟩ := h.one; obtain ⟨u, rfl, hu⟩ := ha p
   cases r with
   | app h => cases h
   | zero h => cases h
   | succ h => cases h
   | move h => cases h
   | fst h => cases h
   | snd _ hk =>
    have hk : (of a).k = 14 := hk
    rw [of_k] at hk
    cases a <;> simp only [reduceCtorEq, Int.reduceEq] at hk
    cases hu with
    | pair h1 h2 h3 => rw [con_snd rfl]; exact ⟨_, rfl, .spair h3⟩
end Go.Proofs.Ytgchmppmecnniaa
end
section
namespace Go.Proofs.Ytgchmppmecnniaa
open Go Go.Dk
theorem of_shape (t : T) : ∀ d, shapeF t d = true → ∃ m, t = of m := by
 induction t using T.ind with | h t ih =>
 intro d h
 cases t with | mk k n ts =>
 rw [shapeF_eq] at h
 simp only [Bool.and_eq_true, decide_eq_true_eq] at h
 obtain ⟨_, h1, h2, h3⟩ := h
 have h1 : opsOf k = ts.length := h1
 have h2 : 0 ≤ n ∧ n ≤ mostOf k := h2
 have h3 : shapeL ts (d - 1) = true := h3
 have kid : ∀ u ∈ ts, ∃ m, u = of m := fun u hu => ih u hu (d - 1) (shapeL_mem h3 hu)
 have hk : k = 1 ∨ k = 2 ∨ k = 3 ∨ k = 4 ∨ k = 5 ∨ k = 6 ∨ k = 7 ∨ k = 8 ∨ k = 9 ∨ k = 10 ∨ k = 11 ∨ k = 12 ∨ k = 13 ∨ k = 14 ∨ k = 15 ∨ k = 16 := by
  unfold opsOf at h1
  repeat' split at h1
  all_goals omega
 have l0 : opsOf k = 0 → ts = [] := fun e => by
  rw [e] at h1
  exact List.eq_nil_of_length_eq_zero (by omega)
 have l1 : opsOf k = 1 → ∃ a, ts = [of a] := fun e => by
  rw [e] at h1
  match ts, h1, kid with
  | [a], _, kid => obtain ⟨m, rfl⟩ := kid a (by simp); exact ⟨m, rfl⟩
  | [], h1, _ => simp at h1
  | _ :: _ :: _, h1, _ => simp at h1; omega
 have l2 : opsOf k = 2 → ∃ a b, ts = [of a, of b] := fun e => by
  rw [e] at h1
  match ts, h1, kid with
  | [a, b], _, kid => obtain ⟨m, rfl⟩ := kid a (by simp); obtain ⟨m', rfl⟩ := kid b (by simp); exact ⟨m, m', rfl⟩
  | [], h1, _ => simp at h1
  | [_], h1, _ => simp at h1
  | _ :: _ :: _ :: _, h1, _ => simp at h1; omega
 have l3 : opsOf k = 3 → ∃ a b c, ts = [of a, of b, of c] := fun e => by
  rw [e] at h1
  match ts, h1, kid with
  | [a, b, c], _, kid => obtain ⟨m, rfl⟩ := kid a (by simp); obtain ⟨m', rfl⟩ := kid b (by simp); obtain ⟨m'', rfl⟩ := kid c (by simp); exact ⟨m, m', m'', rfl⟩
  | [], h1, _ => simp at h1
  | [_], h1, _ => simp at h1
  | [_, _], h1, _ => simp at h1
  | _ :: _ :: _ :: _ :: _, h1, _ => simp at h1; omega
 have l4 : opsOf k = 4 → ∃ a b c e, ts = [of a, of b, of c, of e] := fun e => by
  rw [e] at h1
  match ts, h1, kid with
  | [a, b, c, x], _, kid => obtain ⟨m, rfl⟩ := kid a (by simp); obtain ⟨m', rfl⟩ := kid b (by simp); obtain ⟨m'', rfl⟩ := kid c (by simp); obtain ⟨m3, rfl⟩ := kid x (by simp); exact ⟨m, m', m'', m3, rfl⟩
  | [], h1, _ => simp at h1
  | [_], h1, _ => simp at h1
  | [_, _], h1, _ => simp at h1
  | [_, _, _], h1, _ => simp at h1
  | _ :: _ :: _ :: _ :: _ :: _, h1, _ => simp at h1; omega
 have n0 : mostOf k = 0 → n = 0 := fun e => by omega
 rcases hk with rfl | rfl | rfl | rfl | rfl | rfl | rfl | rfl | rfl | rfl | rfl | rfl | rfl | rfl | rfl | rfl
 ·rw [l0 rfl]; exact ⟨.var n.toNat, by show T.mk 1 n [] = T.mk 1 (n.toNat : Int) []; rw [Int.toNat_of_nonneg h2.1]⟩
 ·rw [l0 rfl]; exact ⟨.sort n.toNat, by show T.mk 2 n [] = T.mk 2 (n.toNat : Int) []; rw [Int.toNat_of_nonneg h2.1]⟩
 ·obtain ⟨a, b, rfl⟩ := l2 rfl; rw [n0 rfl]; exact ⟨.pi a b, rfl⟩
 ·obtain ⟨a, b, rfl⟩ := l2 rfl; rw [n0 rfl]; exact ⟨.lam a b, rfl⟩
 ·obtain ⟨a, b, rfl⟩ := l2 rfl; rw [n0 rfl]; exact ⟨.app a b, rfl⟩
 ·rw [l0 rfl, n0 rfl]; exact ⟨.nat, rfl⟩
 ·rw [l0 rfl, n0 rfl]; exact ⟨.zero, rfl⟩
 ·obtain ⟨a, rfl⟩ := l1 rfl; rw [n0 rfl]; exact ⟨.succ a, rfl⟩
 ·obtain ⟨a, b, c, e, rfl⟩ := l4 rfl; rw [n0 rfl]; exact ⟨.elim a b c e, rfl⟩
 ·obtain ⟨a, b, c, rfl⟩ := l3 rfl; rw [n0 rfl]; exact ⟨.id a b c, rfl⟩
 ·obtain ⟨a, rfl⟩ := l1 rfl; rw [n0 rfl]; exact ⟨.refl a, rfl⟩
 ·obtain ⟨a, b, c, rfl⟩ := l3 rfl; rw [n0 rfl]; exact ⟨.move a b c, rfl⟩
 ·obtain ⟨a, b, rfl⟩ := l2 rfl; rw [n0 rfl]; exact ⟨.sig a b, rfl⟩
 ·obtain ⟨a, b, c, rfl⟩ := l3 rfl; rw [n0 rfl]; exact ⟨.pair a b c, rfl⟩
 ·obtain ⟨a, rfl⟩ := l1 rfl; rw [n0 rfl]; exact ⟨.fst a, rfl⟩
 ·obtain ⟨a, rfl⟩ := l1 rfl; rw [n0 rfl]; exact ⟨.snd a, rfl⟩
theorem of_valid {t : T} (h : validB t = true) : ∃ m, t = of m := by
 unfold validB at h
 rw [Bool.and_eq_true] at h
 exact of_shape t 30 h.1
def vdM (t : Tm) : Bool := validB (of t)
theorem vdM_iff {t : Tm} : vdM t = true ↔ shapeF (of t) 30 = true ∧ (of t).size ≤ 400 := by
 unfold vdM validB
 rw [Bool.and_eq_true, decide_eq_true_eq]
def hdM : Tm → Option Tm
 | .app f u => match f with
  | .lam _ b => some (b.inst u)
  | f => (hdM f).map fun f => .app f u
 | .elim p z s n => match n with
  | .zero => some z
  | .succ m => some (.app (.app s m) (.elim p z s m))
  | n => (hdM n).map fun n => .elim p z s n
 | .move p e x => match e with
  | .refl _ => some x
  | e => (hdM e).map fun e => .move p e x
 | .fst q => match q with
  | .pair _ a _ => some a
  | q => (hdM q).map fun q => .fst q
 | .snd q => match q with
  | .pair _ _ b => some b
  | q => (hdM q).map fun q => .snd q
 | _ => none
def hrM : Nat → Tm → Option Tm
 | 0, t => match hdM t with
  | none => some t
  | some _ => none
 | g + 1, t => match hdM t with
  | none => some t
  | some u => if vdM u = true then hrM g u else none
open Tm in
def O : Orc where
 vd := vdM
 hn t := if vdM t = true then (match hrM 200 t with
  | some h => .ok h
  | none => .opn) else .opn
 sm a b := if vdM a = true ∧ vdM b = true then (if convC (of a) (of b) 200 = 1 then .ok .nat else if convC (of a) (of b) 200 = 2 then .bad else .opn) else .opn
end Go.Proofs.Ytgchmppmecnniaa
end
section
namespace Go.Proofs.Ytgchmppmecnniaa
namespace Tm
variable {O : Orc}
section
variable (O : Orc)
def lvr (x : Rs) : Rs := (lvl O (some x)).getD .opn
def cc (f : List Tm → Tm → Rs) : List Tm → Rs
 | [] => .ok nat
 | A :: G => match cc f G with
  | .ok _ => lvr O (f G A)
  | r => r
def ps (f : List Tm → Tm → Rs) (G : List Tm) (t : Tm) : Rs := match cc O f G with
 | .ok _ => lvr O (f G t)
 | r => r
end
end Tm
end Go.Proofs.Ytgchmppmecnniaa
end
section
namespace Go.Proofs.Ytgchmppmecnniaa
namespace Tm
variable {O : Orc}
def lo : List Tm → Tm → Tm
 | [], t => t
 | A :: G, t => lo G (lam A t)
def cl : Nat → Tm → Prop
 | d, var n => n < d
 | d, sort _ => True
 | d, nat => True
 | d, zero => True
 | d, succ a => cl d a
 | d, refl a => cl d a
 | d, fst a => cl d a
 | d, snd a => cl d a
 | d, pi a b => cl d a ∧ cl (d + 1) b
 | d, sig a b => cl d a ∧ cl (d + 1) b
 | d, lam a b => cl d a ∧ cl (d + 1) b
 | d, app a b => cl d a ∧ cl d b
 | d, id a b c => cl d a ∧ cl d b ∧ cl d c
 | d, move a b c => cl d a ∧ cl d b ∧ cl d c
 | d, pair a b c => cl d a ∧ cl d b ∧ cl d c
 | d, elim a b c e => cl d a ∧ cl d b ∧ cl d c ∧ cl d e
theorem look_lt' : ∀ {G : List Tm} {n : Nat} {A : Tm}, look G n = some A → n < G.length
 | [], n, A, h => by simp [look] at h
 | B :: G, 0, A, h => by simp
 | B :: G, n + 1, A, h => by
  have : ∃ C, look G n = some C := by
   unfold look at h
   cases e : look G n with
   | none => rw [e] at h; simp at h
   | some C => exact ⟨C, rfl⟩
  obtain ⟨C, e⟩ := this
  have := look_lt' e
  simp only [List.length_cons]; omega
theorem Ty.cl {G : List Tm} {t A : Tm} (h : Ty G t A) : cl G.length t := by
 induction h with
 | var h => exact look_lt' h
 | sort h => trivial
 | pi h k ih ik => exact ⟨ih, ik⟩
 | sig h k ih ik => exact ⟨ih, ik⟩
 | lam h k l ih ik il => exact ⟨ih, ik⟩
 | app h k ih ik => exact ⟨ih, ik⟩
 | nat => trivial
 | zero => trivial
 | succ h ih => exact ih
 | elim h k l m ih ik il im => exact ⟨ih, ik, il, im⟩
 | id h k l ih ik il => exact ⟨ih, ik, il⟩
 | refl h k ih ik => exact ih
 | move h k l m ih ik il im => exact ⟨ik, ih, il⟩
 | pair h r q k l ih iq ik il => exact ⟨ih, ik, il⟩
 | fst h ih => exact ih
 | snd h ih => exact ih
 | conv h c k ih ik => exact ih
end Tm
end Go.Proofs.Ytgchmppmecnniaa
end
section
namespace Go.Proofs.Ytgchmppmecnniaa
open Go Go.Dk
namespace Tm
def ht : Tm → Nat
 | succ a => ht a + 1
 | refl a => ht a + 1
 | fst a => ht a + 1
 | snd a => ht a + 1
 | pi a b => max (ht a) (ht b) + 1
 | sig a b => max (ht a) (ht b) + 1
 | lam a b => max (ht a) (ht b) + 1
 | app a b => max (ht a) (ht b) + 1
 | id a b c => max (ht a) (max (ht b) (ht c)) + 1
 | move a b c => max (ht a) (max (ht b) (ht c)) + 1
 | pair a b c => max (ht a) (max (ht b) (ht c)) + 1
 | elim a b c d => max (max (ht a) (ht b)) (max (ht c) (ht d)) + 1
 | _ => 1
theorem ht_pos (t : Tm) : 1 ≤ ht t := by cases t <;> simp [ht]
theorem ht_ren (t : Tm) : ∀ ξ, ht (t.ren ξ) = ht t := by induction t <;> intro ξ <;> simp_all [ht, ren]
theorem ht_wk (t : Tm) : ht t.wk = ht t := ht_ren t _
theorem ht_sub (t : Tm) : ∀ (σ : Nat → Tm) (k : Nat), (∀ n, ht (σ n) ≤ k) → ht (t.sub σ) + 1 ≤ ht t + k := by
 have hu : ∀ (σ : Nat → Tm) (k : Nat), (∀ n, ht (σ n) ≤ k) → ∀ n, ht (ups σ n) ≤ k := by
  intro σ k h n
  cases n with
  | zero => exact Nat.le_trans (ht_pos (σ 0)) (h 0)
  | succ n => show ht ((σ n).wk) ≤ k; rw [ht_wk]; exact h n
 induction t with
 | var n => intro σ k h; have := h n; simp only [ht, Tm.sub]; omega
 | sort n => intro σ k h; have := Nat.le_trans (ht_pos (σ 0)) (h 0); simp only [ht, Tm.sub]; omega
 | nat => intro σ k h; have := Nat.le_trans (ht_pos (σ 0)) (h 0); simp only [ht, Tm.sub]; omega
 | zero => intro σ k h; have := Nat.le_trans (ht_pos (σ 0)) (h 0); simp only [ht, Tm.sub]; omega
 | succ a ha => intro σ k h; have := ha σ k h; simp only [ht, Tm.sub]; omega
 | refl a ha => intro σ k h; have := ha σ k h; simp only [ht, Tm.sub]; omega
 | fst a ha => intro σ k h; have := ha σ k h; simp only [ht, Tm.sub]; omega
 | snd a ha => intro σ k h; have := ha σ k h; simp only [ht, Tm.sub]; omega
 | pi a b ha hb => intro σ k h; have := ha σ k h; have := hb _ k (hu σ k h); simp only [ht, Tm.sub]; omega
 | sig a b ha hb => intro σ k h; have := ha σ k h; have := hb _ k (hu σ k h); simp only [ht, Tm.sub]; omega
 | lam a b ha hb => intro σ k h; have := ha σ k h; have := hb _ k (hu σ k h); simp only [ht, Tm.sub]; omega
 | app a b ha hb => intro σ k h; have := ha σ k h; have := hb σ k h; simp only [ht, Tm.sub]; omega
 | id a b c ha hb hc => intro σ k h; have := ha σ k h; have := hb σ k h; have := hc σ k h; simp only [ht, Tm.sub]; omega
 | move a b c ha hb hc => intro σ k h; have := ha σ k h; have := hb σ k h; have := hc σ k h; simp only [ht, Tm.sub]; omega
 | pair a b c ha hb hc => intro σ k h; have := ha σ k h; have := hb σ k h; have := hc σ k h; simp only [ht, Tm.sub]; omega
 | elim a b c d ha hb hc hd => intro σ k h; have := ha σ k h; have := hb σ k h; have := hc σ k h; have := hd σ k h; simp only [ht, Tm.sub]; omega
theorem ht_inst (b u : Tm) : ht (b.inst u) + 1 ≤ ht b + ht u := ht_sub b _ _ fun n => by
 cases n with
 | zero => exact Nat.le_refl _
 | succ n => exact ht_pos u
theorem size_ren (t : Tm) : ∀ ξ, (of (t.ren ξ)).size = (of t).size := by induction t <;> intro ξ <;> simp_all [of, ren, T.size, T.sizeL]
theorem sz_ht (t : Tm) : 3 * (of t).size + 1 ≤ 4 ^ ht t := by
 have up : ∀ {a b : Nat}, a ≤ b → 4 ^ a ≤ 4 ^ b := fun h => Nat.pow_le_pow_right (by omega) h
 have one : ∀ a : Nat, 1 ≤ 4 ^ a := fun a => Nat.one_le_pow _ _ (by omega)
 induction t with
 | var n => simp [of, T.size, T.sizeL, ht]
 | sort n => simp [of, T.size, T.sizeL, ht]
 | nat => simp [of, T.size, T.sizeL, ht]
 | zero => simp [of, T.size, T.sizeL, ht]
 | succ a ha => have := one (ht a); simp only [of, T.size, T.sizeL, ht, Nat.pow_succ]; omega
 | refl a ha => have := one (ht a); simp only [of, T.size, T.sizeL, ht, Nat.pow_succ]; omega
 | fst a ha => have := one (ht a); simp only [of, T.size, T.sizeL, ht, Nat.pow_succ]; omega
 | snd a ha => have := one (ht a); simp only [of, T.size, T.sizeL, ht, Nat.pow_succ]; omega
 | pi a b ha hb => have := @up (ht a) (max (ht a) (ht b)) (by omega); have := @up (ht b) (max (ht a) (ht b)) (by omega); have := one (max (ht a) (ht b)); simp only [of, T.size, T.sizeL, ht, Nat.pow_succ]; omega
 | sig a b ha hb => have := @up (ht a) (max (ht a) (ht b)) (by omega); have := @up (ht b) (max (ht a) (ht b)) (by omega); have := one (max (ht a) (ht b)); simp only [of, T.size, T.sizeL, ht, Nat.pow_succ]; omega
 | lam a b ha hb => have := @up (ht a) (max (ht a) (ht b)) (by omega); have := @up (ht b) (max (ht a) (ht b)) (by omega); have := one (max (ht a) (ht b)); simp only [of, T.size, T.sizeL, ht, Nat.pow_succ]; omega
 | app a b ha hb => have := @up (ht a) (max (ht a) (ht b)) (by omega); have := @up (ht b) (max (ht a) (ht b)) (by omega); have := one (max (ht a) (ht b)); simp only [of, T.size, T.sizeL, ht, Nat.pow_succ]; omega
 | id a b c ha hb hc => have := @up (ht a) (max (ht a) (max (ht b) (ht c))) (by omega); have := @up (ht b) (max (ht a) (max (ht b) (ht c))) (by omega); have := @up (ht c) (max (ht a) (max (ht b) (ht c))) (by omega); have := one (max (ht a) (max (ht b) (ht c))); simp only [of, T.size, T.sizeL, ht, Nat.pow_succ]; omega
 | move a b c ha hb hc => have := @up (ht a) (max (ht a) (max (ht b) (ht c))) (by omega); have := @up (ht b) (max (ht a) (max (ht b) (ht c))) (by omega); have := @up (ht c) (max (ht a) (max (ht b) (ht c))) (by omega); have := one (max (ht a) (max (ht b) (ht c))); simp only [of, T.size, T.sizeL, ht, Nat.pow_succ]; omega
 | pair a b c ha hb hc => have := @up (ht a) (max (ht a) (max (ht b) (ht c))) (by omega); have := @up (ht b) (max (ht a) (max (ht b) (ht c))) (by omega); have := @up (ht c) (max (ht a) (max (ht b) (ht c))) (by omega); have := one (max (ht a) (max (ht b) (ht c))); simp only [of, T.size, T.sizeL, ht, Nat.pow_succ]; omega
 | elim a b c d ha hb hc hd => have := @up (ht a) (max (max (ht a) (ht b)) (max (ht c) (ht d))) (by omega); have := @up (ht b) (max (max (ht a) (ht b)) (max (ht c) (ht d))) (by omega); have := @up (ht c) (max (max (ht a) (ht b)) (max (ht c) (ht d))) (by omega); have := @up (ht d) (max (max (ht a) (ht b)) (max (ht c) (ht d))) (by omega); have := one (max (max (ht a) (ht b)) (max (ht c) (ht d))); simp only [of, T.size, T.sizeL, ht, Nat.pow_succ]; omega
theorem sz4 {t : Tm} (h : ht t ≤ 4) : (of t).size ≤ 85 := by
 have h1 := sz_ht t
 have h2 : 4 ^ ht t ≤ 4 ^ 4 := Nat.pow_le_pow_right (by omega) h
 have e : (4 : Nat) ^ 4 = 256 := by decide
 omega
def srt : Tm → Prop
 | sort n => n ≤ 3
 | succ a => srt a
 | refl a => srt a
 | fst a => srt a
 | snd a => srt a
 | pi a b => srt a ∧ srt b
 | sig a b => srt a ∧ srt b
 | lam a b => srt a ∧ srt b
 | app a b => srt a ∧ srt b
 | id a b c => srt a ∧ srt b ∧ srt c
 | move a b c => srt a ∧ srt b ∧ srt c
 | pair a b c => srt a ∧ srt b ∧ srt c
 | elim a b c d => srt a ∧ srt b ∧ srt c ∧ srt d
 | _ => True
def lw : Tm → Prop
 | var n => n ≤ 3
 | sort n => n ≤ 3
 | succ a => lw a
 | refl a => lw a
 | fst a => lw a
 | snd a => lw a
 | pi a b => lw a ∧ lw b
 | sig a b => lw a ∧ lw b
 | lam a b => lw a ∧ lw b
 | app a b => lw a ∧ lw b
 | id a b c => lw a ∧ lw b ∧ lw c
 | move a b c => lw a ∧ lw b ∧ lw c
 | pair a b c => lw a ∧ lw b ∧ lw c
 | elim a b c d => lw a ∧ lw b ∧ lw c ∧ lw d
 | _ => True
theorem lw_srt {t : Tm} (h : lw t) : srt t := by
 induction t <;> simp_all [lw, srt]
theorem lw_cl {t : Tm} : ∀ {d}, lw t → 4 ≤ d → cl d t := by
 induction t with
 | var n => intro d h hd; exact Nat.lt_of_lt_of_le (show n < 4 from Nat.lt_succ_of_le h) hd
 | sort n => intros; trivial
 | nat => intros; trivial
 | zero => intros; trivial
 | succ a ha => exact fun h hd => ha h hd
 | refl a ha => exact fun h hd => ha h hd
 | fst a ha => exact fun h hd => ha h hd
 | snd a ha => exact fun h hd => ha h hd
 | pi a b ha hb => exact fun h hd => ⟨ha h.1 hd, hb h.2 (by omega)⟩
 | sig a b ha hb => exact fun h hd => ⟨ha h.1 hd, hb h.2 (by omega)⟩
 | lam a b ha hb => exact fun h hd => ⟨ha h.1 hd, hb h.2 (by omega)⟩
 | app a b ha hb => exact fun h hd => ⟨ha h.1 hd, hb h.2 hd⟩
 | id a b c ha hb hc => exact fun h hd => ⟨ha h.1 hd, hb h.2.1 hd, hc h.2.2 hd⟩
 | move a b c ha hb hc => exact fun h hd => ⟨ha h.1 hd, hb h.2.1 hd, hc h.2.2 hd⟩
 | pair a b c ha hb hc => exact fun h hd => ⟨ha h.1 hd, hb h.2.1 hd, hc h.2.2 hd⟩
 | elim a b c e ha hb hc he => exact fun h hd => ⟨ha h.1 hd, hb h.2.1 hd, hc h.2.2.1 hd, he h.2.2.2 hd⟩
theorem cl_ren {t : Tm} : ∀ {d e : Nat} {ξ : Nat → Nat}, cl d t → (∀ n, n < d → ξ n < e) → cl e (t.ren ξ) := by
 have up : ∀ {d e : Nat} {ξ : Nat → Nat}, (∀ n, n < d → ξ n < e) → ∀ n, n < d + 1 → Tm.up ξ n < e + 1 := by
  intro d e ξ h n hn
  cases n with
  | zero => exact Nat.succ_pos _
  | succ n => exact Nat.succ_lt_succ (h n (by omega))
 induction t with
 | var n => exact fun h k => k n h
 | sort n => intros; trivial
 | nat => intros; trivial
 | zero => intros; trivial
 | succ a ha => exact fun h k => ha h k
 | refl a ha => exact fun h k => ha h k
 | fst a ha => exact fun h k => ha h k
 | snd a ha => exact fun h k => ha h k
 | pi a b ha hb => exact fun h k => ⟨ha h.1 k, hb h.2 (up k)⟩
 | sig a b ha hb => exact fun h k => ⟨ha h.1 k, hb h.2 (up k)⟩
 | lam a b ha hb => exact fun h k => ⟨ha h.1 k, hb h.2 (up k)⟩
 | app a b ha hb => exact fun h k => ⟨ha h.1 k, hb h.2 k⟩
 | id a b c ha hb hc => exact fun h k => ⟨ha h.1 k, hb h.2.1 k, hc h.2.2 k⟩
 | move a b c ha hb hc => exact fun h k => ⟨ha h.1 k, hb h.2.1 k, hc h.2.2 k⟩
 | pair a b c ha hb hc => exact fun h k => ⟨ha h.1 k, hb h.2.1 k, hc h.2.2 k⟩
 | elim a b c e ha hb hc he => exact fun h k => ⟨ha h.1 k, hb h.2.1 k, hc h.2.2.1 k, he h.2.2.2 k⟩
theorem srt_ren {t : Tm} : ∀ {ξ : Nat → Nat}, srt t → srt (t.ren ξ) := by
 induction t <;> intro ξ h <;> simp_all [srt, ren]
theorem Ty.srt {G : List Tm} {t A : Tm} (h : Ty G t A) : srt t := by
 induction h with
 | var h => trivial
 | sort h => exact Nat.le_of_lt h
 | pi h k ih ik => exact ⟨ih, ik⟩
 | sig h k ih ik => exact ⟨ih, ik⟩
 | lam h k l ih ik il => exact ⟨ih, ik⟩
 | app h k ih ik => exact ⟨ih, ik⟩
 | nat => trivial
 | zero => trivial
 | succ h ih => exact ih
 | elim h k l m ih ik il im => exact ⟨ih, ik, il, im⟩
 | id h k l ih ik il => exact ⟨ih, ik, il⟩
 | refl h k ih ik => exact ih
 | move h k l m ih ik il im => exact ⟨ik, ih, il⟩
 | pair h r q k l ih iq ik il => exact ⟨ih, ik, il⟩
 | fst h ih => exact ih
 | snd h ih => exact ih
 | conv h c k ih ik => exact ih
theorem shape_of {t : Tm} : ∀ {d k : Nat}, cl d t → srt t → ht t ≤ k → d + ht t ≤ 21 → shapeF (of t) k = true := by
 have e1 : mostOf 1 = 20 := rfl
 have e2 : mostOf 2 = 3 := rfl
 induction t with
 | var n =>
  intro d k c s h hd
  have c : n < d := c
  simp only [ht] at h hd
  simp only [of, shapeF, shapeL, Bool.and_eq_true, decide_eq_true_eq, Bool.and_true, e1]
  exact ⟨by omega, rfl, by omega⟩
 | sort n =>
  intro d k c s h hd
  have s : n ≤ 3 := s
  simp only [ht] at h hd
  simp only [of, shapeF, shapeL, Bool.and_eq_true, decide_eq_true_eq, Bool.and_true, e2]
  exact ⟨by omega, rfl, by omega⟩
 | nat =>
  intro d k c s h hd
  simp only [ht] at h hd
  simp only [of, shapeF, shapeL, Bool.and_eq_true, decide_eq_true_eq, Bool.and_true]
  exact ⟨by omega, rfl, by decide⟩
 | zero =>
  intro d k c s h hd
  simp only [ht] at h hd
  simp only [of, shapeF, shapeL, Bool.and_eq_true, decide_eq_true_eq, Bool.and_true]
  exact ⟨by omega, rfl, by decide⟩
 | succ a ha =>
  intro d k c s h hd
  simp only [ht] at h hd
  simp only [of, shapeF, shapeL, Bool.and_eq_true, decide_eq_true_eq, Bool.and_true]
  exact ⟨by omega, rfl, by decide, ha c s (by omega) (by omega)⟩
 | refl a ha =>
  intro d k c s h hd
  simp only [ht] at h hd
  simp only [of, shapeF, shapeL, Bool.and_eq_true, decide_eq_true_eq, Bool.and_true]
  exact ⟨by omega, rfl, by decide, ha c s (by omega) (by omega)⟩
 | fst a ha =>
  intro d k c s h hd
  simp only [ht] at h hd
  simp only [of, shapeF, shapeL, Bool.and_eq_true, decide_eq_true_eq, Bool.and_true]
  exact ⟨by omega, rfl, by decide, ha c s (by omega) (by omega)⟩
 | snd a ha =>
  intro d k c s h hd
  simp only [ht] at h hd
  simp only [of, shapeF, shapeL, Bool.and_eq_true, decide_eq_true_eq, Bool.and_true]
  exact ⟨by omega, rfl, by decide, ha c s (by omega) (by omega)⟩
 | pi a b ha hb =>
  intro d k c s h hd
  simp only [ht] at h hd
  simp only [of, shapeF, shapeL, Bool.and_eq_true, decide_eq_true_eq, Bool.and_true]
  exact ⟨by omega, rfl, by decide, ha c.1 s.1 (by omega) (by omega), hb c.2 s.2 (by omega) (by omega)⟩
 | sig a b ha hb =>
  intro d k c s h hd
  simp only [ht] at h hd
  simp only [of, shapeF, shapeL, Bool.and_eq_true, decide_eq_true_eq, Bool.and_true]
  exact ⟨by omega, rfl, by decide, ha c.1 s.1 (by omega) (by omega), hb c.2 s.2 (by omega) (by omega)⟩
 | lam a b ha hb =>
  intro d k c s h hd
  simp only [ht] at h hd
  simp only [of, shapeF, shapeL, Bool.and_eq_true, decide_eq_true_eq, Bool.and_true]
  exact ⟨by omega, rfl, by decide, ha c.1 s.1 (by omega) (by omega), hb c.2 s.2 (by omega) (by omega)⟩
 | app a b ha hb =>
  intro d k c s h hd
  simp only [ht] at h hd
  simp only [of, shapeF, shapeL, Bool.and_eq_true, decide_eq_true_eq, Bool.and_true]
  exact ⟨by omega, rfl, by decide, ha c.1 s.1 (by omega) (by omega), hb c.2 s.2 (by omega) (by omega)⟩
 | id a b e ha hb he =>
  intro d k c s h hd
  simp only [ht] at h hd
  simp only [of, shapeF, shapeL, Bool.and_eq_true, decide_eq_true_eq, Bool.and_true]
  exact ⟨by omega, rfl, by decide, ha c.1 s.1 (by omega) (by omega), hb c.2.1 s.2.1 (by omega) (by omega), he c.2.2 s.2.2 (by omega) (by omega)⟩
 | move a b e ha hb he =>
  intro d k c s h hd
  simp only [ht] at h hd
  simp only [of, shapeF, shapeL, Bool.and_eq_true, decide_eq_true_eq, Bool.and_true]
  exact ⟨by omega, rfl, by decide, ha c.1 s.1 (by omega) (by omega), hb c.2.1 s.2.1 (by omega) (by omega), he c.2.2 s.2.2 (by omega) (by omega)⟩
 | pair a b e ha hb he =>
  intro d k c s h hd
  simp only [ht] at h hd
  simp only [of, shapeF, shapeL, Bool.and_eq_true, decide_eq_true_eq, Bool.and_true]
  exact ⟨by omega, rfl, by decide, ha c.1 s.1 (by omega) (by omega), hb c.2.1 s.2.1 (by omega) (by omega), he c.2.2 s.2.2 (by omega) (by omega)⟩
 | elim a b e f ha hb he hf =>
  intro d k c s h hd
  simp only [ht] at h hd
  simp only [of, shapeF, shapeL, Bool.and_eq_true, decide_eq_true_eq, Bool.and_true]
  exact ⟨by omega, rfl, by decide, ha c.1 s.1 (by omega) (by omega), hb c.2.1 s.2.1 (by omega) (by omega), he c.2.2.1 s.2.2.1 (by omega) (by omega), hf c.2.2.2 s.2.2.2 (by omega) (by omega)⟩
theorem vd_of {t : Tm} {d : Nat} (c : cl d t) (s : srt t) (h : ht t ≤ 9) (hd : d ≤ 12) (z : (of t).size ≤ 400) : vdM t = true := vdM_iff.2 ⟨shape_of c s (by omega) (by omega), z⟩
theorem ht_one {t : Tm} (h : ht t ≤ 1) : (∃ n, t = var n) ∨ (∃ n, t = sort n) ∨ t = nat ∨ t = zero := by
 cases t <;> first | simp; done | (exfalso; simp only [ht] at h; have := ht_pos ‹Tm›; omega)
theorem Hd.leaf {t u : Tm} (h : Hd t u) (k : ht t ≤ 1) : False := by
 rcases ht_one k with ⟨n, rfl⟩ | ⟨n, rfl⟩ | rfl | rfl <;> cases h
theorem hd2 {t u : Tm} (h : Hd t u) (k : ht t ≤ 2) : ht u ≤ 1 := by
 cases h with
 | @beta a b v => have := ht_pos a; simp only [ht] at k; omega
 | @ezero p z s => simp only [ht] at k; omega
 | @esucc p z s n => have := ht_pos n; simp only [ht] at k; omega
 | @mrefl p a x => have := ht_pos a; simp only [ht] at k; omega
 | @fpair t a b => have := ht_pos t; simp only [ht] at k; omega
 | @spair t a b => have := ht_pos t; simp only [ht] at k; omega
 | @app f f' v h => exact (h.leaf (by simp only [ht] at k; omega)).elim
 | @elim p z s n n' h => exact (h.leaf (by simp only [ht] at k; omega)).elim
 | @move p e e' x h => exact (h.leaf (by simp only [ht] at k; omega)).elim
 | @fst q q' h => exact (h.leaf (by simp only [ht] at k; omega)).elim
 | @snd q q' h => exact (h.leaf (by simp only [ht] at k; omega)).elim
theorem wh_id {t y z X : Tm} (h : Wh (id t y z) X) : X = id t y z := by cases h with | nil => rfl | cons h _ => cases h
theorem wh_pi {a b X : Tm} (h : Wh (pi a b) X) : X = pi a b := by cases h with | nil => rfl | cons h _ => cases h
theorem wh_sig {a b X : Tm} (h : Wh (sig a b) X) : X = sig a b := by cases h with | nil => rfl | cons h _ => cases h
def hts (k : Nat) (G : List Tm) : Prop := ∀ A ∈ G, ht A ≤ k
theorem hts.cons {k : Nat} {G : List Tm} {A : Tm} (h : hts k G) (hA : ht A ≤ k) : hts k (A :: G) := fun B hB => by
 rcases List.mem_cons.1 hB with rfl | hB
 ·exact hA
 ·exact h B hB
theorem Lv.wf {G : List Tm} {a : Tm} (h : Lv G a) (w : Wf G) : Wf (a :: G) := by
 obtain ⟨S, i, h1, h2⟩ := h
 exact .cons w ((h1.sound w).lvl w h2)
def fineB : Nat → List Tm → Tm → Bool
 | m, D, pi a b => fineB m D a && fineB (m + 1) (a :: D) b
 | m, D, sig a b => fineB m D a && fineB (m + 1) (a :: D) b
 | m, D, lam a b => fineB m D a && fineB (m + 1) (a :: D) b
 | m, D, app f u => fineB m D f && fineB m D u
 | m, D, succ a => fineB m D a
 | m, D, refl a => fineB m D a
 | m, D, fst a => fineB m D a
 | m, D, snd a => fineB m D a
 | m, D, id a b c => fineB m D a && (fineB m D b && fineB m D c)
 | m, D, elim p z s n => fineB m D p && (fineB m D z && (fineB m D s && (fineB m D n && vdM (stepTy p))))
 | m, D, pair s a b => fineB m D s && (fineB m D a && (fineB m D b && (match s with
  | sig _ B => vdM (B.inst a)
  | _ => false)))
 | m, D, move p e x => fineB m D e && (fineB m D p && (fineB m D x && ((match e with
  | refl a => vdM (app p a)
  | var n => (match look D n with
   | some (id _ y _) => vdM (app p y)
   | _ => false)
  | _ => false) || (match x with
  | var n => decide (n < m)
  | _ => false))))
 | _, _, _ => true
end Tm
end Go.Proofs.Ytgchmppmecnniaa
end
section
namespace Go.Proofs.Ytgchmppmecnniaa
open Go Go.Dk
namespace Tm
def nats (n : Nat) : List Tm := List.replicate n nat
inductive NT : Nat → Tm → Prop
 | zero {n} : NT n zero
 | var {n i} (h : i < n) : NT n (var i)
 | app {n x y} (h : NT (n + 1) x) (k : NT n y) : NT n (app (lam nat x) y)
 | elim {n x y z} (h : NT n x) (k : NT (n + 2) y) (l : NT n z) : NT n (elim (lam nat nat) x (lam nat (lam nat y)) z)
 | fst {n x y} (h : NT n x) (k : NT n y) : NT n (fst (pair (sig nat nat) x y))
 | snd {n x y} (h : NT n x) (k : NT n y) : NT n (snd (pair (sig nat nat) x y))
 | move {n x y} (h : NT n x) (k : NT n y) : NT n (move (lam nat nat) (refl x) y)
 | succ {n x} (h : NT n x) : NT n (succ x)
theorem look_nats : ∀ {n i : Nat}, i < n → look (nats n) i = some nat
 | 0, i, h => by omega
 | n + 1, 0, h => rfl
 | n + 1, i + 1, h => by
  show (look (nats n) i).map wk = some nat
  rw [look_nats (by omega)]; rfl
theorem NT.ty {n : Nat} {t : Tm} (h : NT n t) : Ty (nats n) t nat := by
 have fam : ∀ G, Ty G (.lam .nat .nat) (.pi .nat (.sort 0)) := fun G => .lam .nat .nat (.sort (by omega))
 have bt : ∀ x, Conv (.app (.lam .nat .nat) x) nat := fun x => Par.conv (show Par (.app (.lam .nat .nat) x) (nat.inst x) from .beta .nat (Par.rfl' _))
 induction h with
 | zero => exact .zero
 | var h => exact .var (look_nats h)
 | app h k ih ik => exact Ty.app (B := nat) (.lam .nat ih .nat) ik
 | @elim n x y z h k l ih ik il =>
  have z' : Ty (nats n) x (.app (.lam .nat .nat) .zero) := .conv ih (bt .zero).symm (Ty.app' (fam _) .zero)
  have s1 : Ty (nats n) (.lam .nat (.lam .nat y)) (.pi .nat (.pi .nat .nat)) := .lam .nat (.lam .nat ik .nat) (.pi .nat .nat)
  have s2 : Conv (.pi .nat (.pi .nat .nat)) (stepTy (.lam .nat .nat)) := .pi .rfl' (.pi (bt (.var 0)).symm (bt (.succ (.var 1))).symm)
  exact .conv (.elim (fam _) z' (.conv s1 s2 (fam _).stepTy) il) (bt z) .nat
 | fst h k ih ik => exact Ty.fst (B := nat) (.pair (.sig .nat .nat) .nil (.sig .nat .nat) ih ik)
 | snd h k ih ik => exact Ty.snd (A := nat) (B := nat) (.pair (.sig .nat .nat) .nil (.sig .nat .nat) ih ik)
 | @move n x y h k ih ik => exact .conv (.move (.refl ih .nat) (fam _) (.conv ik (bt x).symm (Ty.app' (fam _) ih)) ih) (bt x) .nat
 | succ h ih => exact .succ ih
def S1 : Tm := move (lam nat (id nat (succ (var 2)) (succ (var 0)))) (var 0) (refl (succ (var 1)))
def bases : List (List Tm × List Tm) := [
 ([], [lam (sort 0) (lam (var 0) (var 0)), lam nat (refl (var 0)),
   lam nat (lam nat (elim (lam nat nat) (var 1) (lam nat (lam nat (succ (var 0)))) (var 0))), pi nat (sort 0),
   app (lam (sort 0) (lam (var 0) (var 0))) nat, lam (sig nat nat) (pair (sig nat nat) (snd (var 0)) (fst (var 0))),
   lam nat (pair (sig nat (id nat (var 0) (var 1))) (var 0) (refl (var 0))),
   lam nat (lam nat (lam (id nat (var 1) (var 0)) (move (lam nat (id nat (var 0) (var 3))) (var 0) (refl (var 2))))),
   elim (lam nat (sort 0)) nat (lam nat (lam (sort 0) (pi nat (var 1)))) (succ (succ zero)),
   pi (sort 0) (pi (var 0) (var 1)), lam (sort 0) (lam (pi (var 0) (var 1)) (var 0)), sort 2]),
 ([pi (var 1) (var 2), var 0, sort 0], [app (var 0) (var 1), refl (var 1), id (var 2) (var 1) (app (var 0) (var 1)), lam (var 2) (var 1),
   pair (sig (var 2) (var 3)) (var 1) (app (var 0) (var 1)),
   lam (id (var 2) (var 1) (app (var 0) (var 1))) (move (lam (var 3) (var 4)) (var 0) (var 2))]),
 ([id nat (var 0) (succ zero), nat], [var 0, S1, succ (var 1), move (lam nat nat) (var 0) (var 1), elim (lam nat nat) zero (lam nat (lam nat (var 1))) (var 1)]),
 ([pi nat (app (var 1) (var 0)), pi nat (sort 0)], [app (var 0) zero, lam nat (app (var 1) (var 0)), app (var 1) (succ (succ zero)),
   lam nat (lam (id nat (var 0) zero) (move (var 3) (var 0) (app (var 2) (var 1))))])]
def isS1 : Tm → Bool
 | move (lam nat (id nat (succ (var 2)) (succ (var 0)))) (var 0) (refl (succ (var 1))) => true
 | _ => false
def vacA : Tm → Bool
 | nat => true
 | sort _ => true
 | id _ _ _ => true
 | pi _ _ => true
 | sig _ _ => true
 | _ => false
def appB : Tm → Bool
 | pi a b => fineB 0 [] a && (vacA a || fineB 0 [] b)
 | sig a b => fineB 0 [] a && (vacA a || fineB 0 [] b)
 | lam a b => fineB 0 [] a && (vacA a || fineB 0 [] b)
 | _ => true
def rkB (m : Nat) (D : List Tm) : Tm → Bool
 | pi a b => decide (ht a ≤ 3) && fineB (m + 1) [] b
 | sig a b => decide (ht a ≤ 3) && fineB (m + 1) [] b
 | lam a b => decide (ht a ≤ 3) && fineB (m + 1) [] b
 | app _ u => fineB m D u
 | elim p _ _ _ => vdM (stepTy p)
 | pair s a _ => (match s with
  | sig _ B => vdM (B.inst a)
  | _ => false)
 | move p e _ => (match e with
  | refl a => vdM (app p a)
  | var n => (match look D n with
   | some (id _ y _) => vdM (app p y)
   | _ => false)
  | _ => false)
 | _ => true
def okP (p : List Tm × List Tm) : Bool := (p.1.all fun A => decide (ht A ≤ 3) && (fineB 0 [] A && vdM A)) && (decide (p.1.length ≤ 3) && (p.2.all fun t => fineB p.1.length p.1 t && ((isS1 t || fineB p.1.length [] t) && (appB t && rkB p.1.length p.1 t))))
theorem bases_ok : (bases.all okP) = true := by decide +kernel
structure OkP (p : List Tm × List Tm) : Prop where
 hg : hts 3 p.1
 fc : ∀ A ∈ p.1, fineB 0 [] A = true
 vd : ∀ A ∈ p.1, vdM A = true
 hl : p.1.length ≤ 3
 f1 : ∀ t ∈ p.2, fineB p.1.length p.1 t = true
 f2 : ∀ t ∈ p.2, isS1 t = true ∨ fineB p.1.length [] t = true
 f3 : ∀ t ∈ p.2, appB t = true
 f4 : ∀ t ∈ p.2, rkB p.1.length p.1 t = true
theorem ok_of {p : List Tm × List Tm} (h : p ∈ bases) : OkP p := by
 have k := List.all_eq_true.1 bases_ok p h
 simp only [okP, Bool.and_eq_true, Bool.or_eq_true, List.all_eq_true, decide_eq_true_eq] at k
 obtain ⟨k1, k2, k3⟩ := k
 exact ⟨fun A hA => (k1 A hA).1, fun A hA => (k1 A hA).2.1, fun A hA => (k1 A hA).2.2, k2, fun t ht => (k3 t ht).1, fun t ht => (k3 t ht).2.1, fun t ht => (k3 t ht).2.2.1, fun t ht => (k3 t ht).2.2.2⟩
def Mt (t t' : Tm) : Prop := t' = t ∨ t' = succ t ∨ ht t' ≤ 1 ∨ ∃ a b, (t = pi a b ∨ t = sig a b ∨ t = lam a b) ∧ t' = app a b
def Bse (G : List Tm) (m : Tm) : Prop := (∃ n, n ≤ 2 ∧ G = nats n ∧ NT n m ∧ vdM m = true) ∨ ∃ p ∈ bases, G = p.1 ∧ m ∈ p.2
theorem NT.appB {n : Nat} {t : Tm} (h : NT n t) : appB t = true := by cases h <;> rfl
theorem Bse.appB {G : List Tm} {m : Tm} (h : Bse G m) : Tm.appB m = true := by
 rcases h with ⟨n, _, _, h, _⟩ | ⟨p, hp, _, h⟩
 ·exact h.appB
 ·exact (ok_of hp).f3 m h
theorem nats_mem {n : Nat} {A : Tm} (h : A ∈ nats n) : A = nat := (List.mem_replicate.1 h).2
theorem Bse.hts {G : List Tm} {m : Tm} (h : Bse G m) : Tm.hts 3 G := by
 rcases h with ⟨n, _, rfl, _, _⟩ | ⟨p, hp, rfl, _⟩
 ·intro A hA; rw [nats_mem hA]; simp [ht]
 ·exact (ok_of hp).hg
theorem Bse.fc {G : List Tm} {m : Tm} (h : Bse G m) : ∀ A ∈ G, fineB 0 [] A = true := by
 rcases h with ⟨n, _, rfl, _, _⟩ | ⟨p, hp, rfl, _⟩
 ·intro A hA; rw [nats_mem hA]; rfl
 ·exact (ok_of hp).fc
theorem Bse.len {G : List Tm} {m : Tm} (h : Bse G m) : G.length ≤ 3 := by
 rcases h with ⟨n, hn, rfl, _, _⟩ | ⟨p, hp, rfl, _⟩
 ·simp only [nats, List.length_replicate]; omega
 ·exact (ok_of hp).hl
end Tm
end Go.Proofs.Ytgchmppmecnniaa
end
section
namespace Go.Proofs.Ytgchmppmecnniaa
open Go Go.Ab Go.Dk
def LwT (k : Nat) (t : T) : Prop := ∃ m : Tm, t = of m ∧ Tm.ht m ≤ k ∧ Tm.lw m
theorem LwT.size {t : T} (h : LwT 4 t) : t.size ≤ 85 := by obtain ⟨m, rfl, h, _⟩ := h; exact Tm.sz4 h
theorem LwT.mono {k j : Nat} {t : T} (h : LwT k t) (hk : k ≤ j) : LwT j t := by obtain ⟨m, e, h, l⟩ := h; exact ⟨m, e, by omega, l⟩
theorem LwT.zero {k : Nat} (hk : 1 ≤ k) : LwT k (.mk 7 0 []) := ⟨.zero, rfl, hk, trivial⟩
theorem lw_mk {k : Nat} {kind n1 : Int} {acc : List T} (hr : 1 ≤ kind ∧ kind ≤ 16) (hk : opsOf kind = acc.length) (hn : 0 ≤ n1 ∧ n1 ≤ 3) (h0 : mostOf kind ≤ 0 → n1 = 0) (ha : ∀ t ∈ acc, LwT k t) : LwT (k + 1) (.mk kind n1 acc) := by
 have l0 : acc.length = 0 → acc = [] := List.length_eq_zero_iff.1
 have l1 : acc.length = 1 → ∃ a, acc = [of a] ∧ Tm.ht a ≤ k ∧ Tm.lw a := fun h => by
  match acc, h with
  | [a], _ => obtain ⟨m, rfl, h1, h2⟩ := ha a (by simp); exact ⟨m, rfl, h1, h2⟩
 have l2 : acc.length = 2 → ∃ a b, acc = [of a, of b] ∧ (Tm.ht a ≤ k ∧ Tm.ht b ≤ k) ∧ Tm.lw a ∧ Tm.lw b := fun h => by
  match acc, h with
  | [a, b], _ => obtain ⟨m, rfl, h1, h2⟩ := ha a (by simp); obtain ⟨m', rfl, h1', h2'⟩ := ha b (by simp); exact ⟨m, m', rfl, ⟨h1, h1'⟩, h2, h2'⟩
 have l3 : acc.length = 3 → ∃ a b c, acc = [of a, of b, of c] ∧ (Tm.ht a ≤ k ∧ Tm.ht b ≤ k ∧ Tm.ht c ≤ k) ∧ Tm.lw a ∧ Tm.lw b ∧ Tm.lw c := fun h => by
  match acc, h with
  | [a, b, c], _ => obtain ⟨m, rfl, h1, h2⟩ := ha a (by simp); obtain ⟨m', rfl, h1', h2'⟩ := ha b (by simp); obtain ⟨m'', rfl, h1'', h2''⟩ := ha c (by simp); exact ⟨m, m', m'', rfl, ⟨h1, h1', h1''⟩, h2, h2', h2''⟩
 have l4 : acc.length = 4 → ∃ a b c d, acc = [of a, of b, of c, of d] ∧ (Tm.ht a ≤ k ∧ Tm.ht b ≤ k ∧ Tm.ht c ≤ k ∧ Tm.ht d ≤ k) ∧ Tm.lw a ∧ Tm.lw b ∧ Tm.lw c ∧ Tm.lw d := fun h => by
  match acc, h with
  | [a, b, c, d], _ => obtain ⟨m, rfl, h1, h2⟩ := ha a (by simp); obtain ⟨m', rfl, h1', h2'⟩ := ha b (by simp); obtain ⟨m'', rfl, h1'', h2''⟩ := ha c (by simp); obtain ⟨m3, rfl, h3, h4⟩ := ha d (by simp); exact ⟨m, m', m'', m3, rfl, ⟨h1, h1', h1'', h3⟩, h2, h2', h2'', h4⟩
 have o0 : ∀ {x : Int}, opsOf x = acc.length → opsOf x = 0 → acc.length = 0 := fun h h' => by omega
 have o1 : ∀ {x : Int}, opsOf x = acc.length → opsOf x = 1 → acc.length = 1 := fun h h' => by omega
 have o2 : ∀ {x : Int}, opsOf x = acc.length → opsOf x = 2 → acc.length = 2 := fun h h' => by omega
 have o3 : ∀ {x : Int}, opsOf x = acc.length → opsOf x = 3 → acc.length = 3 := fun h h' => by omega
 have o4 : ∀ {x : Int}, opsOf x = acc.length → opsOf x = 4 → acc.length = 4 := fun h h' => by omega
 have en : ((n1.toNat : Nat) : Int) = n1 := by omega
 have hc : kind = 1 ∨ kind = 2 ∨ kind = 3 ∨ kind = 4 ∨ kind = 5 ∨ kind = 6 ∨ kind = 7 ∨ kind = 8 ∨ kind = 9 ∨ kind = 10 ∨ kind = 11 ∨ kind = 12 ∨ kind = 13 ∨ kind = 14 ∨ kind = 15 ∨ kind = 16 := by omega
 rcases hc with rfl | rfl | rfl | rfl | rfl | rfl | rfl | rfl | rfl | rfl | rfl | rfl | rfl | rfl | rfl | rfl
 ·rw [l0 (o0 hk rfl), ← en]; exact ⟨.var n1.toNat, rfl, by simp [Tm.ht], show n1.toNat ≤ 3 by omega⟩
 ·rw [l0 (o0 hk rfl), ← en]; exact ⟨.sort n1.toNat, rfl, by simp [Tm.ht], show n1.toNat ≤ 3 by omega⟩
 ·obtain ⟨a, b, rfl, h, l⟩ := l2 (o2 hk rfl); rw [h0 (by decide)]; exact ⟨.pi a b, rfl, by simp only [Tm.ht]; omega, l⟩
 ·obtain ⟨a, b, rfl, h, l⟩ := l2 (o2 hk rfl); rw [h0 (by decide)]; exact ⟨.lam a b, rfl, by simp only [Tm.ht]; omega, l⟩
 ·obtain ⟨a, b, rfl, h, l⟩ := l2 (o2 hk rfl); rw [h0 (by decide)]; exact ⟨.app a b, rfl, by simp only [Tm.ht]; omega, l⟩
 ·rw [l0 (o0 hk rfl), h0 (by decide)]; exact ⟨.nat, rfl, by simp [Tm.ht], trivial⟩
 ·rw [l0 (o0 hk rfl), h0 (by decide)]; exact ⟨.zero, rfl, by simp [Tm.ht], trivial⟩
 ·obtain ⟨a, rfl, h, l⟩ := l1 (o1 hk rfl); rw [h0 (by decide)]; exact ⟨.succ a, rfl, by simp only [Tm.ht]; omega, l⟩
 ·obtain ⟨a, b, c, d, rfl, h, l⟩ := l4 (o4 hk rfl); rw [h0 (by decide)]; exact ⟨.elim a b c d, rfl, by simp only [Tm.ht]; omega, l⟩
 ·obtain ⟨a, b, c, rfl, h, l⟩ := l3 (o3 hk rfl); rw [h0 (by decide)]; exact ⟨.id a b c, rfl, by simp only [Tm.ht]; omega, l⟩
 ·obtain ⟨a, rfl, h, l⟩ := l1 (o1 hk rfl); rw [h0 (by decide)]; exact ⟨.refl a, rfl, by simp only [Tm.ht]; omega, l⟩
 ·obtain ⟨a, b, c, rfl, h, l⟩ := l3 (o3 hk rfl); rw [h0 (by decide)]; exact ⟨.move a b c, rfl, by simp only [Tm.ht]; omega, l⟩
 ·obtain ⟨a, b, rfl, h, l⟩ := l2 (o2 hk rfl); rw [h0 (by decide)]; exact ⟨.sig a b, rfl, by simp only [Tm.ht]; omega, l⟩
 ·obtain ⟨a, b, c, rfl, h, l⟩ := l3 (o3 hk rfl); rw [h0 (by decide)]; exact ⟨.pair a b c, rfl, by simp only [Tm.ht]; omega, l⟩
 ·obtain ⟨a, rfl, h, l⟩ := l1 (o1 hk rfl); rw [h0 (by decide)]; exact ⟨.fst a, rfl, by simp only [Tm.ht]; omega, l⟩
 ·obtain ⟨a, rfl, h, l⟩ := l1 (o1 hk rfl); rw [h0 (by decide)]; exact ⟨.snd a, rfl, by simp only [Tm.ht]; omega, l⟩
abbrev IsLw (k : Nat) (l : List UInt8) (m : Int) (r : List V1 × List AObj) : Prop := ∃ (t : T) (p : Int), r = ([tm t], [rdr l p]) ∧ LwT k t ∧ RdOk l p m
theorem lw_loop (Q : Int) (hQ : Q ≤ 900000000000) (n : Nat) (hn : 1 ≤ n) (l : List UInt8) (d kind : Int) (k : Nat) (M : Int)
   (ih : ∀ p m, RdOk l p m → m ≤ Q → Tot (FF n 37 [.one (.ptr 0 0), nt (d - 1)] [rdr l p]) (IsLw k l (m + M))) (hM : 0 ≤ M ∧ M ≤ 1000000000) (hd : -100 ≤ d ∧ d ≤ 100) (z1 z2 : Int) (l0 : List T) (n1 : Int)
   (hr : 1 ≤ kind ∧ kind ≤ 16) (hn1 : 0 ≤ n1 ∧ n1 ≤ 3) (h0 : mostOf kind ≤ 0 → n1 = 0) :
   ∀ (g c i : Nat) (p m : Int) (acc : List T), g < c → opsOf kind = i + g → i ≤ 4 → g ≤ 4 → RdOk l p m → m + g * M ≤ Q → acc.length = i → (∀ t ∈ acc, LwT k t) →
    Tot (L_spec_l1Draw_0_foo n c d kind i l p z1 z2 l0 kind n1 acc) (IsLw (k + 1) l (m + g * M))
 | g, 0, i, p, m, acc, hg, _, _, _, _, _, _, _ => by omega
 | 0, c + 1, i, p, m, acc, _, hi, _, _, hr', _, hl, ha => by
  rw [L_spec_l1Draw_0_foo_eq, f_l1Kids hn]
  simp only [evt]
  rw [decide_eq_false (show ¬ (i : Int) < opsOf kind by omega)]
  refine tot_some ?_
  exact ⟨.mk kind n1 acc, p, rfl, lw_mk hr (by omega) hn1 h0 ha, by simpa using hr'⟩
 | g + 1, c + 1, i, p, m, acc, hg, hi, hi4, hg4, hr', hm, hl, ha => by
  rw [L_spec_l1Draw_0_foo_eq, f_l1Kids hn]
  simp only [evt]
  have hgM : (((g + 1 : Nat)) : Int) * M = g * M + M := by rw [Int.natCast_add, Int.add_mul]; simp
  have ho := ops_le kind
  have hg0 : 0 ≤ (g : Int) * M := Int.mul_nonneg (by omega) hM.1
  rw [decide_eq_true (show (i : Int) < opsOf kind by omega), cond_true, wrap64 (show -9223372036854775808 ≤ d - 1 ∧ d - 1 ≤ 9223372036854775807 by omega)]
  refine tot_call (ih p m hr' (by rw [hgM] at hm; omega)) ?_
  rintro _ ⟨t, p', rfl, ht, hr2⟩
  have w : IntKind.i64.wrap ((i : Int) + 1) = ((i + 1 : Nat) : Int) := wrap64 (by omega)
  simp only [evt, w, List.length_append, List.length_cons, List.length_nil, hl]
  rw [roomB_ok (by omega), cond_true]
  have := lw_loop Q hQ n hn l d kind k M ih hM hd z1 z2 l0 n1 hr hn1 h0 g c (i + 1) p' (m + M) (acc ++ [t]) (by omega) (by omega) (by omega) (by omega) hr2 (by rw [hgM] at hm; omega) (by simp [hl]) (fun u hu => by
   rcases List.mem_append.1 hu with h | h
   ·exact ha u h
   ·rw [List.mem_singleton.1 h]; exact ht)
  refine tot_mono this ?_
  rintro _ ⟨u, q, rfl, hu, hq⟩
  exact ⟨u, q, rfl, hu, hq.mono (by rw [hgM]; omega)⟩
theorem x_l1Draw_step (Q : Int) (hQ : Q ≤ 900000000000) {n : Nat} (hn : 10 ≤ n) (l : List UInt8) (d : Int) (k : Nat) (M : Int) (hM : 0 ≤ M ∧ M ≤ 1000000000) (hd : -100 ≤ d ∧ d ≤ 100) (leaf : d < 2 → ∀ kind : Int, opsOf kind = 0 → True)
   (ih : 2 ≤ d → ∀ m, n ≤ m + 1 → ∀ p q, RdOk l p q → q ≤ Q → Tot (FF m 37 [.one (.ptr 0 0), nt (d - 1)] [rdr l p]) (IsLw k l (q + M))) {p m : Int} (hr : RdOk l p m) (hm : m + 3 + 4 * M ≤ Q) :
   Tot (FF n 37 [.one (.ptr 0 0), nt d] [rdr l p]) (IsLw (k + 1) l (m + 3 + 4 * M)) := by
 refine tot_step (C := 9) (by omega) fun n hn e => ?_
 have fin : ∀ (kind n1 q m' : Int), (2 ≤ d ∨ opsOf kind = 0) → (1 ≤ kind ∧ kind ≤ 16) → (0 ≤ n1 ∧ n1 ≤ 3) → (mostOf kind ≤ 0 → n1 = 0) → RdOk l q m' → m' ≤ m + 3 → Tot (L_spec_l1Draw_0_foo n n d kind 0 l q 0 0 [] kind n1 []) (IsLw (k + 1) l (m + 3 + 4 * M)) := by
  intro kind n1 q m' hk h16 hn1 h0 hq hm'
  have h4 := ops_le kind
  have hp : 0 ≤ opsOf kind := by
   have hk1 : ∀ v : Int, v ∈ ([1, 2, 3, 4, 5, 6, 7, 8, 9, 10, 11, 12, 13, 14, 15, 16] : List Int) → 0 ≤ opsOf v := fun v hv => by simpa using List.all_eq_true.1 (show (([1, 2, 3, 4, 5, 6, 7, 8, 9, 10, 11, 12, 13, 14, 15, 16] : List Int).all fun v => decide (0 ≤ opsOf v)) = true by decide +kernel) v hv
   exact hk1 kind (by simp only [List.mem_cons, List.not_mem_nil, or_false]; omega)
  obtain ⟨g, hg⟩ : ∃ g : Nat, opsOf kind = g := ⟨(opsOf kind).toNat, by omega⟩
  rcases hk with hd2 | hk
  ·have hgM : (g : Int) * M ≤ 4 * M := Int.mul_le_mul_of_nonneg_right (by omega) hM.1
   have := lw_loop Q hQ n (by omega) l d kind k M (fun p q => ih hd2 n (by omega) p q) hM hd 0 0 [] n1 h16 hn1 h0 g n 0 q m' [] (by omega) (by omega) (by omega) (by omega) hq (by omega) rfl (by simp)
   refine tot_mono this ?_
   rintro _ ⟨u, q, rfl, hu, hq⟩
   exact ⟨u, q, rfl, hu, hq.mono (by omega)⟩
  ·obtain ⟨c, rfl⟩ : ∃ c, n = c + 1 := ⟨n - 1, by omega⟩
   rw [L_spec_l1Draw_0_foo_eq, f_l1Kids (by omega), hk]
   simp only [evt]
   refine tot_cond (fun h => by simp at h) (fun _ => tot_some ?_)
   exact ⟨.mk kind n1 [], q, rfl, lw_mk h16 (by rw [hk]; rfl) hn1 h0 (by simp), hq.mono (by omega)⟩
 have hk1 : ∀ v : Int, v ∈ ([1, 5, 4, 8, 9, 3, 6, 7, 11, 15, 14, 10, 12, 13, 16, 2] : List Int) → 1 ≤ v ∧ v ≤ 16 := fun v hv => by simp only [List.mem_cons, List.not_mem_nil, or_false] at hv; omega
 have hk2 : ∀ v : Int, v ∈ ([1, 7, 6, 2, 1] : List Int) → 1 ≤ v ∧ v ≤ 16 := fun v hv => by simp only [List.mem_cons, List.not_mem_nil, or_false] at hv; omega
 have hk3 : ∀ v : Int, v ∈ ([1, 7, 6, 2, 1] : List Int) → opsOf v = 0 := fun v hv => by simpa using List.all_eq_true.1 (show (([1, 7, 6, 2, 1] : List Int).all fun v => decide (opsOf v = 0)) = true by decide +kernel) v hv
 have hv3 : ∀ v : Int, v ∈ ([0, 1, 0, 2, 1, 3] : List Int) → 0 ≤ v ∧ v ≤ 3 := fun v hv => by simp only [List.mem_cons, List.not_mem_nil, or_false] at hv; omega
 rw [E_spec_l1Draw]
 refine tot_call (t_num (by omega) hr (by omega) (by simp) (by simp)) ?_
 rintro _ ⟨v, p1, rfl, hv, hr1⟩
 simp only [evt]
 refine tot_cond (fun _ => ?_) (fun hd2 => ?_)
 ·refine tot_call (t_num (by omega) hr1 (by omega) (by simp) (by simp)) ?_
  rintro _ ⟨v2, p2, rfl, hv2, hr2⟩
  simp only [evt, f_l1Most (show 1 ≤ n by omega)]
  refine tot_cond (fun hq => ?_) (fun hq => ?_)
  ·refine tot_call (t_num (by omega) hr2 (by omega) (by simp) (by simp)) ?_
   rintro _ ⟨v3, p3, rfl, hv3', hr3⟩
   simp only [evt]
   exact fin _ _ _ _ (.inr (hk3 _ hv2)) (hk2 _ hv2) (hv3 _ hv3') (fun h => by have := of_decide_eq_true hq; omega) hr3 (by omega)
  ·exact fin _ _ _ _ (.inr (hk3 _ hv2)) (hk2 _ hv2) (by omega) (fun _ => rfl) hr2 (by omega)
 ·have hd2 : 2 ≤ d := by have := of_decide_eq_false hd2; omega
  simp only [f_l1Most (show 1 ≤ n by omega), evt]
  refine tot_cond (fun hq => ?_) (fun hq => ?_)
  ·refine tot_call (t_num (by omega) hr1 (by omega) (by simp) (by simp)) ?_
   rintro _ ⟨v3, p3, rfl, hv3', hr3⟩
   simp only [evt]
   exact fin _ _ _ _ (.inl hd2) (hk1 _ hv) (hv3 _ hv3') (fun h => by have := of_decide_eq_true hq; omega) hr3 (by omega)
  ·exact fin _ _ _ _ (.inl hd2) (hk1 _ hv) (by omega) (fun _ => rfl) hr1 (by omega)
theorem lw_weaken {o : OR} {k j : Nat} {l : List UInt8} {m m' : Int} (h : Tot o (IsLw k l m)) (hk : k ≤ j) (hm : m ≤ m') : Tot o (IsLw j l m') :=
 tot_mono h fun r ⟨t, p, e, h1, h2⟩ => ⟨t, p, e, h1.mono hk, h2.mono hm⟩
theorem x_l1Draw1 {n : Nat} (hn : 20 ≤ n) {l : List UInt8} {p m : Int} (hr : RdOk l p m) (hm : m ≤ 800000000000) : Tot (FF n 37 [.one (.ptr 0 0), nt 1] [rdr l p]) (IsLw 1 l (m + 3)) :=
 lw_weaken (x_l1Draw_step 900000000000 (by omega) (by omega) l 1 0 0 (by omega) (by omega) (fun _ _ _ => trivial) (fun h => absurd h (by omega)) hr (by omega)) (by omega) (by omega)
theorem x_l1Draw2 {n : Nat} (hn : 40 ≤ n) {l : List UInt8} {p m : Int} (hr : RdOk l p m) (hm : m ≤ 700000000000) : Tot (FF n 37 [.one (.ptr 0 0), nt 2] [rdr l p]) (IsLw 2 l (m + 15)) :=
 lw_weaken (x_l1Draw_step 800000000000 (by omega) (by omega) l 2 1 3 (by omega) (by omega) (fun _ _ _ => trivial) (fun _ k hk p q hr hq => x_l1Draw1 (by omega) hr hq) hr (by omega)) (by omega) (by omega)
theorem x_l1Draw3 {n : Nat} (hn : 60 ≤ n) {l : List UInt8} {p m : Int} (hr : RdOk l p m) (hm : m ≤ 600000000000) : Tot (FF n 37 [.one (.ptr 0 0), nt 3] [rdr l p]) (IsLw 3 l (m + 63)) :=
 lw_weaken (x_l1Draw_step 700000000000 (by omega) (by omega) l 3 2 15 (by omega) (by omega) (fun _ _ _ => trivial) (fun _ k hk p q hr hq => x_l1Draw2 (by omega) hr hq) hr (by omega)) (by omega) (by omega)
theorem x_l1Draw4 {n : Nat} (hn : 80 ≤ n) {l : List UInt8} {p m : Int} (hr : RdOk l p m) (hm : m ≤ 500000000000) : Tot (FF n 37 [.one (.ptr 0 0), nt 4] [rdr l p]) (IsLw 4 l (m + 255)) :=
 lw_weaken (x_l1Draw_step 600000000000 (by omega) (by omega) l 4 3 63 (by omega) (by omega) (fun _ _ _ => trivial) (fun _ k hk p q hr hq => x_l1Draw3 (by omega) hr hq) hr (by omega)) (by omega) (by omega)
theorem x_l1Any {n : Nat} (hn : 500 ≤ n) {l : List UInt8} {p m : Int} (hr : RdOk l p m) (hm : m ≤ 400000000000) : Tot (FF n 72 [.one (.ptr 0 0)] [rdr l p]) (fun r => ∃ (t : T) (p : Int), r = ([tm t], [rdr l p]) ∧ validB t = true ∧ LwT 4 t ∧ RdOk l p (m + 256)) := by
 refine tot_step (C := 499) (by omega) fun n hn e => ?_
 rw [E_spec_l1Any]
 refine tot_call (t_num (by omega) hr (by omega) (by simp) (by simp)) ?_
 rintro _ ⟨v, p1, rfl, hv, hr1⟩
 simp only [evt]
 have hd : Tot (FF n 37 [.one (.ptr 0 0), nt v] [rdr l p1]) (IsLw 4 l (m + 256)) := by
  simp only [List.mem_cons, List.not_mem_nil, or_false] at hv
  rcases hv with rfl | rfl | rfl | rfl | rfl
  ·exact lw_weaken (x_l1Draw3 (by omega) hr1 (by omega)) (by omega) (by omega)
  ·exact lw_weaken (x_l1Draw4 (by omega) hr1 (by omega)) (by omega) (by omega)
  ·exact lw_weaken (x_l1Draw2 (by omega) hr1 (by omega)) (by omega) (by omega)
  ·exact lw_weaken (x_l1Draw3 (by omega) hr1 (by omega)) (by omega) (by omega)
  ·exact lw_weaken (x_l1Draw1 (by omega) hr1 (by omega)) (by omega) (by omega)
 refine tot_call hd ?_
 rintro _ ⟨t, p2, rfl, hz, hr2⟩
 have hz' := hz.size
 simp only [evt, f_TermValidS (show t.size + 6 ≤ n by omega) (show t.size ≤ 4000000 by omega)]
 refine tot_cond (fun h => tot_some ?_) (fun _ => ?_)
 ·exact ⟨t, p2, rfl, h, hz, hr2⟩
 ·simp only [f_l1Leaf (show 1 ≤ n by omega), evt]
  refine tot_some ?_
  exact ⟨.mk 7 0 [], p2, rfl, zero_valid, .zero (by omega), hr2⟩
def MutT (t y : T) : Prop := y = t ∨ y = .mk 8 0 [t] ∨ (∃ w, w ∈ ([0, 17, 1, 5, 6] : List Int) ∧ y = .mk w t.n t.kids) ∨ (∃ w, w ∈ ([21, -1, 1, 9223372036854775807] : List Int) ∧ y = .mk t.k w t.kids) ∨ y = .mk t.k t.n (t.kids ++ [.mk 7 0 []]) ∨ (0 < t.kids.length ∧ y = .mk t.k t.n (t.kids.set 0 (.mk 1 25 [])))
theorem MutT.size {t y : T} (h : MutT t y) : y.size ≤ t.size + 2 := by
 have e := T.size_eq t
 rcases h with rfl | rfl | ⟨w, _, rfl⟩ | ⟨w, _, rfl⟩ | rfl | ⟨h, rfl⟩
 ·omega
 ·simp only [T.size, T.sizeL]; omega
 ·simp only [T.size]; omega
 ·simp only [T.size]; omega
 ·have := snoc_size t.kids (.mk 7 0 []); have h7 : (T.mk 7 0 []).size = 1 := rfl; simp only [T.size] at this ⊢; simp only [T.sizeL] at this; omega
 ·have := set_size t.kids (.mk 1 25 []) h; have h7 : (T.mk 1 25 []).size = 1 := rfl; simp only [T.size] at this ⊢; simp only [T.sizeL] at this; omega
theorem of_ops (m : Tm) : opsOf (of m).k = ((of m).kids.length : Int) := by cases m <;> rfl
theorem of_n0 {m : Tm} (h : (of m).n ≠ 0) : Tm.ht m ≤ 1 := by cases m <;> first | exact Nat.le_refl 1 | exact absurd rfl h
theorem mut_of {m : Tm} {y : T} (h : MutT (of m) y) (hv : validB y = true) : ∃ m', y = of m' ∧ Tm.Mt m m' := by
 obtain ⟨m', rfl⟩ := of_valid hv
 rcases h with h | h | ⟨w, hw, h⟩ | ⟨w, hw, h⟩ | h | ⟨h0, h⟩
 ·exact ⟨m', rfl, .inl (of_inj h)⟩
 ·exact ⟨m', rfl, .inr (.inl (of_inj (a := m') (b := .succ m) h))⟩
 ·refine ⟨m', rfl, ?_⟩
  have hk : (of m').k = w := by rw [h]; rfl
  have hkk : (of m').kids = (of m).kids := by rw [h]; rfl
  simp only [List.mem_cons, List.not_mem_nil, or_false] at hw
  rw [of_k] at hk
  cases m' <;> simp only at hk <;> first
   | (exfalso; omega)
   | exact .inr (.inr (.inl (Nat.le_refl 1)))
   | (rename_i a b
      cases m <;> simp only [of, T.kids, List.cons.injEq, reduceCtorEq, and_true, and_false, false_and] at hkk <;>
       (obtain ⟨e1, e2⟩ := hkk; have e1 := of_inj e1; have e2 := of_inj e2; subst e1; subst e2)
      ·exact .inr (.inr (.inr ⟨_, _, .inl rfl, rfl⟩))
      ·exact .inr (.inr (.inr ⟨_, _, .inr (.inr rfl), rfl⟩))
      ·exact .inl rfl
      ·exact .inr (.inr (.inr ⟨_, _, .inr (.inl rfl), rfl⟩)))
 ·refine ⟨m', rfl, .inr (.inr (.inl (of_n0 ?_)))⟩
  have hk : (of m').n = w := by rw [h]; rfl
  simp only [List.mem_cons, List.not_mem_nil, or_false] at hw
  omega
 ·exfalso
  have hk : (of m').k = (of m).k := by rw [h]; rfl
  have hkk : (of m').kids = (of m).kids ++ [.mk 7 0 []] := by rw [h]; rfl
  have h1 := of_ops m'
  rw [hk, of_ops m, hkk, List.length_append] at h1
  simp at h1; omega
 ·exfalso
  have hkk : (of m').kids = (of m).kids.set 0 (.mk 1 25 []) := by rw [h]; rfl
  have : validB (.mk 1 25 []) = true := validB_kid hv (by rw [hkk]; exact List.mem_iff_getElem.2 ⟨0, by simpa using h0, by simp⟩)
  revert this; decide +kernel
theorem x_l1Mutate {n : Nat} {t : T} (hz : t.size ≤ 500000) (hn : t.size + 500 ≤ n) {l : List UInt8} {p m : Int} (hr : RdOk l p m) (hm : m ≤ 500000000000) : Tot (FF n 34 [.one (.ptr 0 0), tm t] [rdr l p]) (fun r => ∃ (y : T) (p : Int), r = ([tm y], [rdr l p]) ∧ MutT t y ∧ RdOk l p (m + 2)) := by
 refine tot_step (C := t.size + 499) (by omega) fun n hn e => ?_
 have hsz := T.size_eq t
 have hl := T.sizeL_len t.kids
 rw [E_spec_l1Mutate, f_l1Copy t (by omega) (by omega)]
 simp only [evt]
 refine tot_call (t_pick (by omega) hr (by omega) (by omega)) ?_
 rintro _ ⟨v, p1, rfl, hv0, hv1, hr1⟩
 have hap : roomB (t.kids ++ [T.mk 7 0 []]).length = true := roomB_ok (by simp; omega)
 simp (disch := simp) only [evt, f_l1Leaf (show 1 ≤ n by omega), f_l1Node (show 1 ≤ n by omega), hap]
 repeat' (first | (simp (disch := omega) only [wrap64]; done) | (simp (disch := omega) only [wrap64]) | (with_reducible refine tot_cond (fun hq => ?_) (fun hq => ?_) <;> (try simp (disch := omega) only [wrap64] at hq) <;> (try simp only [decide_eq_true_eq, decide_eq_false_iff_not, Bool.not_eq_true', Bool.not_eq_false', Bool.and_eq_true, Bool.and_eq_false_iff, inB, Bool.not_true, Bool.not_false] at hq) <;> try (exfalso; omega; done)) | (with_reducible refine tot_call (t_num (by omega) hr1 (by omega) (by simp) (by simp)) ?_; rintro _ ⟨w, p2, rfl, hw, hr2⟩; simp only [evt]) | ((with_reducible refine tot_some ?_); (exact ⟨.mk w t.n t.kids, _, rfl, .inr (.inr (.inl ⟨w, hw, rfl⟩)), hr2.mono (by omega)⟩)) | ((with_reducible refine tot_some ?_); (exact ⟨.mk t.k w t.kids, _, rfl, .inr (.inr (.inr (.inl ⟨w, hw, rfl⟩))), hr2.mono (by omega)⟩)) | ((with_reducible refine tot_some ?_); (exact ⟨t, _, rfl, .inl rfl, hr1.mono (by omega)⟩)) | ((with_reducible refine tot_some ?_); (exact ⟨.mk t.k t.n (t.kids ++ [.mk 7 0 []]), _, rfl, .inr (.inr (.inr (.inr (.inl rfl)))), hr1.mono (by omega)⟩)) | ((with_reducible refine tot_some ?_); (exact ⟨.mk 8 0 [t], _, rfl, .inr (.inl rfl), hr1.mono (by omega)⟩)) | ((with_reducible refine tot_some ?_); (exact ⟨.mk t.k t.n (t.kids.set 0 (.mk 1 25 [])), _, rfl, .inr (.inr (.inr (.inr (.inr ⟨by omega, rfl⟩)))), hr1.mono (by omega)⟩)))
end Go.Proofs.Ytgchmppmecnniaa
end
