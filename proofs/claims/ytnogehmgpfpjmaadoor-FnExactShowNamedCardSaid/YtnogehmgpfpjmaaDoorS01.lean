/- Part 1 of the proof. -/
import Derived.WalkKit
import Derived.OrdersHeld
import Derived.Deep.LoopGhost
import Derived.KernelRfl
import Derived.Laws.Tables
import Derived.Laws.AppendOwn
import Derived.ArgAppend
import Derived.Laws.MakeOwn
import Derived.Test.YtnogehmgpfpjmaaDoorRows
set_option linter.unusedVariables false
set_option linter.unusedSimpArgs false
section
namespace Go.Dk
open Go
def lst (n : Nat) (rest : List (Nat × Oper)) : Array Bool := (Array.range n).map (fun i => !(rest.any (·.1 == i)))
theorem lst_size (n : Nat) (rest : List (Nat × Oper)) : (lst n rest).size = n := by simp [lst]
def Left (ops : Array Oper) (rest : List (Nat × Oper)) : Prop := (rest.map (·.1)).Nodup ∧ ∀ x ∈ rest, ops[x.1]? = some x.2
theorem lst_erase {ops : Array Oper} {rest : List (Nat × Oper)} (hl : Left ops rest) {p : Nat} {x : Nat × Oper} (hp : rest[p]? = some x) :
   (lst ops.size rest).setIfInBounds x.1 true = lst ops.size (rest.eraseIdx p) := by
 have hpl : p < rest.length := by
  rcases Nat.lt_or_ge p rest.length with h' | h'
  ·exact h'
  ·rw [List.getElem?_eq_none h'] at hp; cases hp
 have hpx : rest[p] = x := by rw [List.getElem?_eq_getElem hpl] at hp; exact Option.some.inj hp
 apply Array.ext
 ·simp [lst]
 ·intro i h1 h2
  simp only [lst, Array.size_setIfInBounds, Array.size_map, Array.size_range] at h1 h2
  by_cases hki : x.1 = i
  ·subst hki
   have : ¬ ((rest.eraseIdx p).any (·.1 == x.1)) = true := by
    intro ha
    simp only [List.any_eq_true, beq_iff_eq] at ha
    obtain ⟨y, hy, hyx⟩ := ha
    obtain ⟨q, hq, rfl⟩ := List.getElem_of_mem hy
    have hlen := List.length_eraseIdx_of_lt hpl
    rw [List.getElem_eraseIdx] at hyx
    have nd := hl.1
    rw [List.Nodup, List.pairwise_iff_getElem] at nd
    split at hyx
    ·rename_i hlt
     refine nd q p (by simp; omega) (by simpa using hpl) hlt ?_
     simp [hyx, hpx]
    ·rename_i hge
     refine nd p (q + 1) (by simpa using hpl) (by simp; omega) (by omega) ?_
     simp [hyx, hpx]
   simp [lst, this]
  ·rw [Array.getElem_setIfInBounds_ne (by simpa [lst_size] using h2) hki]
   simp only [lst, Array.getElem_map, Array.getElem_range]
   congr 1
   rw [Bool.eq_iff_iff]
   simp only [List.any_eq_true, beq_iff_eq]
   constructor
   ·rintro ⟨y, hy, rfl⟩
    obtain ⟨q, hq, rfl⟩ := List.getElem_of_mem hy
    have hne : q ≠ p := fun e => hki (by subst e; rw [hpx])
    refine ⟨rest[q], ?_, rfl⟩
    rw [List.mem_eraseIdx_iff_getElem]
    exact ⟨q, hq, hne, rfl⟩
   ·rintro ⟨y, hy, rfl⟩
    exact ⟨y, List.mem_of_mem_eraseIdx hy, rfl⟩
theorem Left.erase {ops : Array Oper} {rest : List (Nat × Oper)} (hl : Left ops rest) (p : Nat) : Left ops (rest.eraseIdx p) :=
 ⟨hl.1.sublist ((List.eraseIdx_sublist rest p).map _), fun x hx => hl.2 x (List.mem_of_mem_eraseIdx hx)⟩
theorem lst_getD (n : Nat) (rest : List (Nat × Oper)) (i : Nat) (b : Bool) : (lst n rest).getD i b = if i < n then !(rest.any (·.1 == i)) else b := by
 by_cases h : i < n
 ·simp [Array.getD, lst, h]
 ·simp [Array.getD, lst, h]
def rdy (n : Nat) (rest : List (Nat × Oper)) (o : Oper) : Bool := o.after.toList.all fun e => !Region.binds .any e || (Nat.blt e.on n && !(rest.any fun x => Nat.beq x.1 e.on))
def takeB (ops : Array Oper) (rest : List (Nat × Oper)) (k : Nat) (o : Oper) : Bool :=
 rdy ops.size rest o && rest.all fun y => Nat.beq y.1 k || y.2.after.toList.any (fun e => Region.binds .any e && Nat.beq e.on k) || o.apart ops y.2
def soleB (ops : Array Oper) (rest : List (Nat × Oper)) (k : Nat) (o : Oper) : Bool :=
 rdy ops.size rest o && rest.all fun y => Nat.beq y.1 k || !(rdy ops.size rest y.2)
theorem rdy_mem {ops : Array Oper} {rest : List (Nat × Oper)} (hl : Left ops rest) {k : Nat} {o : Oper} (hm : (k, o) ∈ rest) : rdy ops.size rest o = true ↔ k ∈ Region.ready .any ops (lst ops.size rest) := by
 have ho := hl.2 _ hm
 have hk : k < ops.size := by
  rcases Nat.lt_or_ge k ops.size with h | h
  ·exact h
  ·simp only [Array.getElem?_eq_none h] at ho; cases ho
 rw [mem_ready]
 constructor
 ·intro h
  refine ⟨?_, o, ho, ?_⟩
  ·rw [lst_getD, if_pos hk]
   have : rest.any (fun x => x.1 == k) = true := List.any_eq_true.2 ⟨_, hm, by simp⟩
   simp [this]
  ·intro e he hb
   have := List.all_eq_true.1 h e (by simpa using he)
   simp only [hb, Bool.not_true, Bool.false_or, Bool.and_eq_true, Nat.blt_eq] at this
   rw [lst_getD, if_pos this.1]
   have h2 := this.2
   simp only [Bool.not_eq_true', List.any_eq_false, Nat.beq_eq] at h2
   simp only [Bool.not_eq_true', List.any_eq_false, beq_iff_eq]
   exact h2
 ·rintro ⟨_, o', ho', hall⟩
  have : o' = o := by
   have h1 : ops[k]? = some o := ho
   rw [h1] at ho'; exact (Option.some.inj ho').symm
  subst this
  refine List.all_eq_true.2 fun e he => ?_
  by_cases hb : Region.binds .any e = true
  ·have := hall e (by simpa using he) hb
   rw [lst_getD] at this
   split at this
   ·rename_i hlt
    simp only [Bool.not_eq_true', List.any_eq_false, beq_iff_eq] at this
    simp only [hb, Bool.not_true, Bool.false_or, Bool.and_eq_true, Nat.blt_eq, Bool.not_eq_true', List.any_eq_false, Nat.beq_eq]
    exact ⟨hlt, this⟩
   ·cases this
  ·simp [hb]
theorem ready_left {ops : Array Oper} {rest : List (Nat × Oper)} (hl : Left ops rest) {k : Nat} (hk : (lst ops.size rest).getD k true = false) : ∃ o, (k, o) ∈ rest := by
 rw [lst_getD] at hk
 split at hk
 ·simp only [Bool.not_eq_false', List.any_eq_true, beq_iff_eq] at hk
  obtain ⟨x, hx, rfl⟩ := hk
  exact ⟨x.2, hx⟩
 ·cases hk
theorem single_of {l : List Nat} {k : Nat} (hn : l.Nodup) (hm : k ∈ l) (h : ∀ i ∈ l, i = k) : l = [k] := by
 cases l with
 | nil => cases hm
 | cons a t =>
  have ha : a = k := h a (List.mem_cons_self ..)
  subst ha
  cases t with
  | nil => rfl
  | cons b t =>
   have hb : b = a := h b (List.mem_cons_of_mem _ (List.mem_cons_self ..))
   subst hb
   simp at hn
theorem sole_ready {ops : Array Oper} {rest : List (Nat × Oper)} (hl : Left ops rest) {k : Nat} {o : Oper} (hm : (k, o) ∈ rest) (h : soleB ops rest k o = true) : Region.ready .any ops (lst ops.size rest) = [k] := by
 simp only [soleB, Bool.and_eq_true] at h
 refine single_of ?_ ((rdy_mem hl hm).1 h.1) fun i hi => ?_
 ·exact List.nodup_range.sublist List.filter_sublist
 ·obtain ⟨o', ho'⟩ := ready_left hl (mem_ready.1 hi).1
  have h2 := List.all_eq_true.1 h.2 _ ho'
  simp only [Bool.or_eq_true, Nat.beq_eq, Bool.not_eq_true'] at h2
  rcases h2 with h2 | h2
  ·exact h2
  ·rw [(rdy_mem hl ho').2 hi] at h2; cases h2
def ancB (ops : Array Oper) : Nat → Nat → Oper → Bool
 | 0, _, _ => false
 | f + 1, i, o => (o.after.toList.any fun e => Region.binds .any e && Nat.beq e.on i) || (o.after.toList.any fun e => Region.binds .any e && (match ops[e.on]? with | some p => ancB ops f i p | none => false))
def movB (ops : Array Oper) (i : Nat) : Bool := match ops[i]? with
 | some ⟨_, .move _, _, _, _, _⟩ | some ⟨_, .extract .., _, _, _, _⟩ => true
 | _ => false
def covB (ops : Array Oper) (rest : List (Nat × Oper)) (o : Oper) : Bool := (List.range ops.size).all fun i => (rest.any fun x => Nat.beq x.1 i) || movB ops i || ancB ops 4 i o
def duoB (ops : Array Oper) (rest : List (Nat × Oper)) (k : Nat) (o : Oper) (k' : Nat) (o' : Oper) : Bool :=
 rdy ops.size rest o && rdy ops.size rest o' && rest.all fun y => Nat.beq y.1 k || Nat.beq y.1 k' || !(rdy ops.size rest y.2)
def pureB : Op → Bool
 | .move _ | .assign _ | .pick .. | .load .. | .nilCheck _ | .binOp .. | .unOp .. | .fieldAddr .. | .indexAddr .. | .index .. | .extract .. | .slice .. | .makeFunc .. | .convert .. => true
 | .call { callee := .builtin b, .. } => (match b with | .len | .cap | .max | .min => true | _ => false)
 | _ => false
def takeA (ops : Array Oper) (rest : List (Nat × Oper)) (k : Nat) (o : Oper) : Bool := pureB o.op && takeB ops rest k o
def wpO (P : Program) (ops : Array Oper) (Q : Exit → Act → World → Prop) (o : Oper) (K : Act → World → Prop) (a : Act) (w : World) : Prop :=
 if Region.wanted o (yielded ops a.tmps) then o.wp P a w K Q ∨ (o.asks P a w ∧ LetsOut Q) else K (a.put o.dst undef) w
theorem wpOp_of_wpO {P : Program} {ops : Array Oper} {Q : Exit → Act → World → Prop} {i : Nat} {o : Oper} (hi : ops[i]? = some o) {K : Act → World → Prop} {a : Act} {w : World}
   (h : wpO P ops Q o K a w) : wpOp P ops Q i K a w := by
 unfold wpOp; simp only [hi]; exact h
theorem wpO_mono {P : Program} {ops : Array Oper} {Q : Exit → Act → World → Prop} {o : Oper} {K K' : Act → World → Prop} {a : Act} {w : World} (hk : ∀ a w, K a w → K' a w)
   (h : wpO P ops Q o K a w) : wpO P ops Q o K' a w := by
 unfold wpO at *
 split
 ·rename_i hw; simp only [hw, if_true] at h; exact h.imp (Oper.wp_mono hk) id
 ·rename_i hw; simp only [hw] at h; exact hk _ _ h
def wpT (P : Program) (ops : Array Oper) (Q : Exit → Act → World → Prop) (d : Bool) : Nat → (World → Prop) → List (Nat × Oper) → Act → World → Prop
 | _, _, [], a, w => Q .normal a w
 | 0, _, _ :: _, _, _ => False
 | fuel + 1, S, x :: rest, a, w =>
  (∃ p y v, (x :: rest)[p]? = some y ∧ (d = false → p = 0) ∧ YieldsIf P ops S y.2 v a ∧ (!d || takeB ops (x :: rest) y.1 y.2) = true ∧ wpT P ops Q d fuel S ((x :: rest).eraseIdx p) (a.put y.2.dst v) w) ∨
  ((!d || soleB ops (x :: rest) x.1 x.2) = true ∧ wpO P ops Q x.2 (fun a' w' => ∃ S' : World → Prop, (d = true → covB ops (x :: rest) x.2 = true ∨ ∀ w, S' w → S w) ∧ S' w' ∧ wpT P ops Q d fuel S' rest a' w') a w) ∨
  (d = true ∧ ∃ p y, rest[p]? = some y ∧ duoB ops (x :: rest) x.1 x.2 y.1 y.2 = true ∧
   wpO P ops Q x.2 (fun a' w' => ∃ S' : World → Prop, (∀ w, S' w → S w) ∧ S' w' ∧ wpT P ops Q d fuel S' rest a' w') a w ∧
   wpO P ops Q y.2 (fun a' w' => ∃ S' : World → Prop, (∀ w, S' w → S w) ∧ S' w' ∧ wpT P ops Q d fuel S' (x :: rest.eraseIdx p) a' w') a w)
section
variable {P : Program} {ops : Array Oper} {Q : Exit → Act → World → Prop}
def DC (ops : Array Oper) (listed : Array Bool) : Prop := ∀ p op, ops[p]? = some op → listed.getD p false = true → ∀ e ∈ op.after, Region.binds .any e = true → listed.getD e.on false = true
def Cov (ops : Array Oper) (listed : Array Bool) (k : Nat) (o : Oper) : Prop := ∀ i, i ≠ k → listed.getD i false = true → movB ops i = true ∨ ∃ f, ancB ops f i o = true
theorem anc_listed {listed : Array Bool} (hd : DC ops listed) {i : Nat} : ∀ (f : Nat) (o : Oper), (∀ e ∈ o.after, Region.binds .any e = true → listed.getD e.on false = true) → ancB ops f i o = true → listed.getD i false = true
 | 0, _, _, h => by cases h
 | f + 1, o, ho, h => by
  simp only [ancB, Bool.or_eq_true, List.any_eq_true, Bool.and_eq_true, Nat.beq_eq] at h
  rcases h with ⟨e, he, hb, hi⟩ | ⟨e, he, hb, hp⟩
  ·subst hi; exact ho e (by simpa using he) hb
  ·cases hx : ops[e.on]? with
   | none => simp [hx] at hp
   | some p =>
    simp only [hx] at hp
    exact anc_listed hd f p (hd _ p hx (ho e (by simpa using he) hb)) hp
theorem getD_set_self {listed : Array Bool} {j : Nat} (h : j < listed.size) (b : Bool) : (listed.setIfInBounds j true).getD j b = true := by simp [Array.getD, h]
theorem ready_lt {listed : Array Bool} {j : Nat} (hj : j ∈ Region.ready .any ops listed) : j < listed.size := by
 have h0 := (mem_ready.1 hj).1
 rcases Nat.lt_or_ge j listed.size with h | h
 ·exact h
 ·simp [Array.getD, Nat.not_lt.2 h] at h0
theorem DC.set {listed : Array Bool} (hd : DC ops listed) {j : Nat} (hj : j ∈ Region.ready .any ops listed) : DC ops (listed.setIfInBounds j true) := by
 intro p op hp hl e he hb
 have keep : listed.getD e.on false = true → (listed.setIfInBounds j true).getD e.on false = true := fun h => by
  by_cases hx : j = e.on
  ·rw [← hx]; exact getD_set_self (ready_lt hj) _
  ·rw [getD_set_ne false hx]; exact h
 apply keep
 by_cases hx : j = p
 ·subst hx
  obtain ⟨_, o', ho', hall⟩ := mem_ready.1 hj
  rw [hp] at ho'
  obtain rfl := Option.some.inj ho'
  exact hall e he hb
 ·rw [getD_set_ne false hx] at hl
  exact hd p op hp hl e he hb
def wpAnyE (P : Program) (ops : Array Oper) (Q : Exit → Act → World → Prop) : Nat → (World → Prop) → Array Bool → Act → World → Prop
 | 0, _, listed, a, w => Region.ready .any ops listed = [] ∧ Q .normal a w
 | fuel + 1, S, listed, a, w => (Region.ready .any ops listed = [] → Q .normal a w) ∧
  ∀ i ∈ Region.ready .any ops listed, wpOp P ops Q i (fun a' w' => ∃ S' : World → Prop, S' w' ∧ ((∀ w, S' w → S w) ∨ ∃ o, ops[i]? = some o ∧ Cov ops listed i o) ∧ wpAnyE P ops Q fuel S' (listed.setIfInBounds i true) a' w') a w
theorem wpAny_of_E : ∀ (fuel : Nat) (S : World → Prop) (listed : Array Bool) (a : Act) (w : World), wpAnyE P ops Q fuel S listed a w → wpAny P .any ops Q fuel listed a w
 | 0, _, _, _, _, h => h
 | fuel + 1, S, _, _, _, h => ⟨h.1, fun i hi => wpOp_mono (fun a' w' ⟨S', _, _, h'⟩ => wpAny_of_E fuel S' _ a' w' h') (h.2 i hi)⟩
theorem Yields_move {S S' : World → Prop} {i : Nat} {oi : Oper} {v : Value} {a : Act} {w : World} (hi : ops[i]? = some oi) (hm : movB ops i = true) (hS : S w) (h : YieldsIf P ops S oi v a) : YieldsIf P ops S' oi v a := by
 unfold movB at hm
 rw [hi] at hm
 obtain ⟨d, op, ty, pos, aft, gd⟩ := oi
 cases op with
 | move x =>
  rcases h with ⟨h1, h2⟩ | h
  ·refine .inl ⟨h1, fun w' _ => ?_⟩
   have h3 := h2 w hS
   have e : ∀ w, (execOp a.eval ⟨d, .move x, ty, pos, aft, gd⟩).run P w = .ok (.value (a.eval x)) w := fun w => by simp [go_sem, execOp]
   rw [e] at h3 ⊢
   injection h3 with h4 _
   rw [h4]
  ·exact .inr h
 | extract x i =>
  rcases h with ⟨h1, h2⟩ | h
  ·refine .inl ⟨h1, fun w' _ => ?_⟩
   have h3 := h2 w hS
   simp only [execOp, Instr.extract] at h3 ⊢
   cases hx : a.eval x with
   | tuple vs =>
    rw [hx] at h3
    cases hv : vs[i]? with
    | some u =>
     simp only [hv, Sem.run_bind, Sem.run_pure, Result.andThen_ok] at h3 ⊢
     injection h3 with h4 _
     rw [h4]
    | none => simp [hv, go_sem] at h3
   | _ => rw [hx] at h3; simp [go_sem] at h3
  ·exact .inr h
 | _ => simp at hm
theorem Yields_true {S : World → Prop} {i : Nat} {oi : Oper} {v : Value} {a : Act} {w : World} (hi : ops[i]? = some oi) (hm : movB ops i = true) (h : Region.wanted oi (yielded ops a.tmps) = true ∧ ∀ w, S w → (execOp a.eval oi).run P w = .ok (.value v) w) (hS : S w) : YieldsIf P ops (fun _ => True) oi v a :=
 Yields_move (w := w) hi hm hS (.inl h)
theorem wpAnyE_first {i : Nat} {oi : Oper} {v : Value} (hi : ops[i]? = some oi) (hsel : ∀ (j : Nat) (o : Oper) cs b, ops[j]? = some o → o.op ≠ .select cs b)
   (hQ : ∀ c a w, Q (.panic c) (a.put oi.dst v) w → Q (.panic c) a w) :
   ∀ (fuel : Nat) (S : World → Prop) (listed : Array Bool) (a : Act) (w : World), DC ops listed →
    (∀ j oj, ops[j]? = some oj → j ≠ i → listed.getD j true = false → (∀ e ∈ oj.after, Region.binds .any e = true → e.on ≠ i) → oi.apart ops oj = true) →
    i ∈ Region.ready .any ops listed → YieldsIf P ops S oi v a → S w →
    wpAnyE P ops Q fuel S (listed.setIfInBounds i true) (a.put oi.dst v) w → wpAnyE P ops Q (fuel + 1) S listed a w := by
 intro fuel
 induction fuel with
 | zero =>
  intro S listed a w _ _ hr hy hS H
  refine ⟨fun h => (by rw [h] at hr; cases hr), fun j hj => ?_⟩
  by_cases hji : j = i
  ·subst hji; exact hy.wpOp hi hS ⟨S, hS, .inl fun _ h => h, H⟩
  ·have := ready_mono hj hji
   rw [H.1] at this
   cases this
 | succ fuel ih =>
  intro S listed a w hdc hfree hr hy hS H
  refine ⟨fun h => (by rw [h] at hr; cases hr), fun j hj => ?_⟩
  by_cases hji : j = i
  ·subst hji; exact hy.wpOp hi hS ⟨S, hS, .inl fun _ h => h, H⟩
  ·have h1 := H.2 j (ready_mono hj hji)
   obtain ⟨hjun, oj, hoj, hall⟩ := mem_ready.1 hj
   have hnot : ∀ e ∈ oj.after, Region.binds .any e = true → e.on ≠ i := fun e he hb heq => by
    have h1 := hall e he hb
    have h0 := (mem_ready.1 hr).1
    rw [heq] at h1
    rcases Nat.lt_or_ge i listed.size with h' | h'
    ·simp [h'] at h0 h1; rw [h0] at h1; cases h1
    ·simp [Array.getElem?_eq_none h'] at h1
   have h2 := wpOp_putIf hoj (hfree j oj hoj hji hjun hnot) (fun cs b => hsel i oi cs b hi) (fun cs b => hsel j oj cs b hoj) hQ hy h1
   have hfree' : ∀ k ok, ops[k]? = some ok → k ≠ i → (listed.setIfInBounds j true).getD k true = false →
      (∀ e ∈ ok.after, Region.binds .any e = true → e.on ≠ i) → oi.apart ops ok = true := fun k ok hk hki hun hno => by
    refine hfree k ok hk hki ?_ hno
    by_cases hjk : j = k
    ·subst hjk; exact hjun
    ·rw [getD_set_ne true hjk] at hun; exact hun
   refine wpOp_mono (fun a' w' h3 => ?_) h2
   obtain ⟨hy', S', hS', hc, hE⟩ := h3
   have hdc' := hdc.set hj
   have hr' := ready_mono hr (Ne.symm hji)
   rw [Array.setIfInBounds_comm _ _ (Ne.symm hji)] at hE
   rcases hc with hc | ⟨o, ho, hc⟩
   ·refine ⟨S', hS', .inl hc, ih S' (listed.setIfInBounds j true) a' w' hdc' hfree' hr' ?_ hS' hE⟩
    exact hy'.imp (fun ⟨h4, h5⟩ => ⟨h4, fun w h => h5 w (hc w h)⟩) id
   ·obtain rfl : oj = o := by rw [hoj] at ho; exact Option.some.inj ho
    have hcov : Cov ops listed j oj := fun p hp hl => hc p hp (by
     by_cases hx : i = p
     ·rw [← hx]; exact getD_set_self (ready_lt hr) _
     ·rw [getD_set_ne false hx]; exact hl)
    rcases hc i (Ne.symm hji) (getD_set_self (ready_lt hr) _) with hm | ⟨f, hf⟩
    ·refine ⟨S', hS', .inr ⟨oj, hoj, hcov⟩, ih S' (listed.setIfInBounds j true) a' w' hdc' hfree' hr' ?_ hS' hE⟩
     rcases hy' with ⟨h4, h5⟩ | h4
     ·exact Yields_move (S := fun _ => True) (w := w') hi hm trivial (Yields_true hi hm ⟨h4, h5⟩ hS)
     ·exact .inr h4
    ·exfalso
     have h1 := anc_listed hdc f oj hall hf
     have h0 := (mem_ready.1 hr).1
     have hlt := ready_lt hr
     simp [Array.getD, hlt] at h0 h1
     rw [h0] at h1; cases h1
theorem ready_lst_nil : Region.ready .any ops (lst ops.size []) = [] := by
 rw [List.eq_nil_iff_forall_not_mem]
 intro i hi
 have h := (mem_ready.1 hi).1
 by_cases hlt : i < ops.size
 ·simp [lst, hlt] at h
 ·have : (lst ops.size []).getD i true = true := by simp [Array.getD, lst_size, hlt]
  rw [this] at h; cases h
theorem lst_false {n i : Nat} {rest : List (Nat × Oper)} (h : (lst n rest).getD i false = true) : i < n ∧ rest.any (·.1 == i) = false := by
 rw [lst_getD] at h
 split at h
 ·rename_i hlt; exact ⟨hlt, by simpa using h⟩
 ·cases h
theorem duo_ready {rest : List (Nat × Oper)} (hl : Left ops rest) {k k' : Nat} {o o' : Oper} (h : duoB ops rest k o k' o' = true) : ∀ i ∈ Region.ready .any ops (lst ops.size rest), i = k ∨ i = k' := by
 intro i hi
 simp only [duoB, Bool.and_eq_true] at h
 obtain ⟨o1, ho1⟩ := ready_left hl (mem_ready.1 hi).1
 have h2 := List.all_eq_true.1 h.2 _ ho1
 simp only [Bool.or_eq_true, Nat.beq_eq, Bool.not_eq_true'] at h2
 rcases h2 with (h2 | h2) | h2
 ·exact .inl h2
 ·exact .inr h2
 ·rw [(rdy_mem hl ho1).2 hi] at h2; cases h2
theorem wpAnyE_of_wpT (hsel : Region.noSelect ops = true) (hQ : ∀ c (a : Act) t w, Q (.panic c) ⟨t, a.defers⟩ w → Q (.panic c) a w) : ∀ (fuel : Nat) (l : List (Nat × Oper)) (S : World → Prop) (a : Act) (w : World),
   Left ops l → DC ops (lst ops.size l) → l.length = fuel → S w → wpT P ops Q true fuel S l a w → wpAnyE P ops Q fuel S (lst ops.size l) a w
 | 0, [], S, a, w, _, _, _, _, h => ⟨ready_lst_nil, by simpa [wpT] using h⟩
 | fuel + 1, [], S, a, w, _, _, hk, _, h => by simp at hk
 | 0, _ :: _, S, a, w, _, _, hk, _, h => by simp at hk
 | fuel + 1, x :: rest, S, a, w, hl, hdc, hk, hS, h => by
  have hlen : rest.length = fuel := by simpa using hk
  simp only [wpT] at h
  rcases h with ⟨p, y, v, hp, _, hy, ht, hr⟩ | ⟨hs, ho⟩ | ⟨_, p, y, hp, hduo, h1, h2⟩
  ·simp only [Bool.not_true, Bool.false_or, takeB, Bool.and_eq_true] at ht
   have hmem : (y.1, y.2) ∈ x :: rest := List.mem_of_getElem? hp
   have hrdy := (rdy_mem hl hmem).1 ht.1
   have hpl : p < (x :: rest).length := by
    rcases Nat.lt_or_ge p (x :: rest).length with h' | h'
    ·exact h'
    ·rw [List.getElem?_eq_none h'] at hp; cases hp
   refine wpAnyE_first (hl.2 y (List.mem_of_getElem? hp)) (Region.noSelect_spec hsel) (fun c a' w' hq => ?_) fuel _ _ _ _ hdc ?_ hrdy hy hS ?_
   ·cases hd : y.2.dst with
    | none => rw [hd] at hq; exact hq
    | some d => rw [hd] at hq; exact hQ c a' _ w' hq
   ·intro j oj hj hne hun hno
    obtain ⟨o', ho'⟩ := ready_left hl hun
    have : o' = oj := by
     have h1 : ops[j]? = some o' := hl.2 _ ho'
     rw [hj] at h1; exact (Option.some.inj h1).symm
    subst this
    have h2 := List.all_eq_true.1 ht.2 _ ho'
    simp only [Bool.or_eq_true, Nat.beq_eq, List.any_eq_true, Bool.and_eq_true] at h2
    rcases h2 with (h2 | ⟨e, he, hb, hon⟩) | h2
    ·exact absurd h2 hne
    ·exact absurd hon (hno e (by simpa using he) hb)
    ·exact h2
   ·have hx := hdc.set hrdy
    rw [lst_erase hl hp] at hx ⊢
    exact wpAnyE_of_wpT hsel hQ fuel _ S _ _ (hl.erase p) hx (by rw [List.length_eraseIdx_of_lt hpl]; simp [hlen]) hS hr
  ·simp only [Bool.not_true, Bool.false_or] at hs
   have hsr := sole_ready hl (List.mem_cons_self ..) hs
   have he : (lst ops.size (x :: rest)).setIfInBounds x.1 true = lst ops.size rest := by simpa using lst_erase (p := 0) hl rfl
   have hx : DC ops (lst ops.size rest) := by
    have := hdc.set (j := x.1) (by rw [hsr]; simp)
    rwa [he] at this
   refine ⟨fun h0 => (by rw [hsr] at h0; cases h0), fun i hi => ?_⟩
   rw [hsr] at hi
   have : i = x.1 := by simpa using hi
   subst this
   refine wpOp_of_wpO (hl.2 x (List.mem_cons_self ..)) (wpO_mono (fun a' w' hh => ?_) ho)
   obtain ⟨S', hS', hw', hr⟩ := hh
   refine ⟨S', hw', ?_, by rw [he]; exact wpAnyE_of_wpT hsel hQ fuel rest S' _ _ (by simpa using hl.erase 0) hx hlen hw' hr⟩
   rcases hS' (by trivial) with hc | hc
   ·refine .inr ⟨x.2, hl.2 x (List.mem_cons_self ..), fun i hik hil => ?_⟩
    obtain ⟨hlt, hno⟩ := lst_false hil
    have h2 := List.all_eq_true.1 hc i (by simpa using hlt)
    simp only [Bool.or_eq_true, List.any_eq_true, Nat.beq_eq] at h2
    rcases h2 with (⟨y, hy, hyi⟩ | h2) | h2
    ·have : (x :: rest).any (·.1 == i) = true := List.any_eq_true.2 ⟨y, hy, by simpa using hyi⟩
     rw [this] at hno; cases hno
    ·exact .inl h2
    ·exact .inr ⟨4, h2⟩
   ·exact .inl hc
  ·have hrd := duo_ready hl hduo
   have hb := hduo
   simp only [duoB, Bool.and_eq_true] at hb
   have hpl : p < rest.length := by
    rcases Nat.lt_or_ge p rest.length with h' | h'
    ·exact h'
    ·rw [List.getElem?_eq_none h'] at hp; cases hp
   have hyp : (x :: rest)[p + 1]? = some y := by simpa using hp
   have hym : y ∈ x :: rest := List.mem_of_getElem? hyp
   have hxr : x.1 ∈ Region.ready .any ops (lst ops.size (x :: rest)) := (rdy_mem hl (List.mem_cons_self ..)).1 hb.1.1
   have hyr : y.1 ∈ Region.ready .any ops (lst ops.size (x :: rest)) := (rdy_mem hl (show (y.1, y.2) ∈ x :: rest from hym)).1 hb.1.2
   refine ⟨fun h0 => (by rw [h0] at hxr; cases hxr), fun i hi => ?_⟩
   have hcase := hrd i hi
   by_cases hix : i = x.1
   ·subst hix
    have he : (lst ops.size (x :: rest)).setIfInBounds x.1 true = lst ops.size rest := by simpa using lst_erase (p := 0) hl rfl
    have hx := hdc.set hxr
    rw [he] at hx
    refine wpOp_of_wpO (hl.2 x (List.mem_cons_self ..)) (wpO_mono (fun a' w' hh => ?_) h1)
    obtain ⟨S', hS', hw', hr⟩ := hh
    exact ⟨S', hw', .inl hS', by rw [he]; exact wpAnyE_of_wpT hsel hQ fuel rest S' _ _ (by simpa using hl.erase 0) hx hlen hw' hr⟩
   ·obtain rfl : i = y.1 := hcase.resolve_left hix
    have he := lst_erase (p := p + 1) hl hyp
    have hx := hdc.set hyr
    rw [he] at hx
    have hl2 := hl.erase (p + 1)
    refine wpOp_of_wpO (hl.2 y hym) (wpO_mono (fun a' w' hh => ?_) h2)
    obtain ⟨S', hS', hw', hr⟩ := hh
    refine ⟨S', hw', .inl hS', ?_⟩
    rw [he]
    exact wpAnyE_of_wpT hsel hQ fuel (x :: rest.eraseIdx p) S' _ _ hl2 hx (by simp only [List.length_cons]; rw [List.length_eraseIdx_of_lt hpl]; omega) hw' hr
theorem wpList_of_wpT : ∀ (fuel : Nat) (l : List (Nat × Oper)) (S : World → Prop) (a : Act) (w : World), S w → wpT P ops Q false fuel S l a w → wpList P ops Q (l.map (·.2)) a w
 | _, [], _, _, _, _, h => by simpa [wpT, wpList] using h
 | 0, _ :: _, _, _, _, _, h => by simp [wpT] at h
 | fuel + 1, x :: rest, S, a, w, hS, h => by
  simp only [wpT] at h
  simp only [List.map_cons]
  unfold wpList
  rcases h with ⟨p, y, v, hp, h0, hy, _, hr⟩ | ⟨_, ho⟩ | ⟨h0, _⟩
  ·have h0 : p = 0 := by simpa using h0
   subst h0
   simp only [List.getElem?_cons_zero, Option.some.injEq] at hp
   subst hp
   simp only [List.eraseIdx_cons_zero] at hr
   rcases hy with ⟨hw, hv⟩ | ⟨hw, rfl⟩
   ·rw [if_pos hw]
    refine .inl ?_
    simp only [Oper.wp, hv w hS, Oper.upon]
    exact wpList_of_wpT fuel rest S _ _ hS hr
   ·rw [if_neg (by simp [hw])]
    exact wpList_of_wpT fuel rest S _ _ hS hr
  ·have ho' := wpO_mono (K' := wpList P ops Q (rest.map (·.2))) (fun a' w' hh => by
     obtain ⟨S', _, hw', hr⟩ := hh
     exact wpList_of_wpT fuel rest S' _ _ hw' hr) ho
   exact ho'
  ·cases h0
def enum : Nat → List Oper → List (Nat × Oper)
 | _, [] => []
 | k, o :: l => (k, o) :: enum (k + 1) l
theorem enum_map : ∀ (k : Nat) (l : List Oper), (enum k l).map (·.2) = l
 | _, [] => rfl
 | k, o :: l => by simp [enum, enum_map (k + 1) l]
theorem enum_length : ∀ (k : Nat) (l : List Oper), (enum k l).length = l.length
 | _, [] => rfl
 | k, o :: l => by simp [enum, enum_length (k + 1) l]
theorem enum_fst : ∀ (k : Nat) (l : List Oper), (enum k l).map (·.1) = List.range' k l.length
 | _, [] => rfl
 | k, o :: l => by simp [enum, enum_fst (k + 1) l, List.range'_succ]
theorem enum_get : ∀ (k : Nat) (l : List Oper), ∀ x ∈ enum k l, k ≤ x.1 ∧ l[x.1 - k]? = some x.2
 | _, [], x, hx => by simp [enum] at hx
 | k, o :: l, x, hx => by
  simp only [enum, List.mem_cons] at hx
  rcases hx with rfl | hx
  ·simp
  ·obtain ⟨h1, h2⟩ := enum_get (k + 1) l x hx
   refine ⟨by omega, ?_⟩
   rw [show x.1 - k = (x.1 - (k + 1)) + 1 by omega, List.getElem?_cons_succ]
   exact h2
theorem left_enum (l : List Oper) : Left l.toArray (enum 0 l) :=
 ⟨by rw [enum_fst]; exact List.nodup_range', fun x hx => by simpa using (enum_get 0 l x hx).2⟩
theorem lst_enum (l : List Oper) : lst l.toArray.size (enum 0 l) = Array.replicate l.length false := by
 apply Array.ext
 ·simp [lst]
 ·intro i h1 h2
  simp only [Array.size_replicate] at h2
  have : i ∈ (enum 0 l).map (·.1) := by rw [enum_fst]; simp [List.mem_range'_1, h2]
  obtain ⟨x, hx, hxi⟩ := List.mem_map.1 this
  have : (enum 0 l).any (fun y => y.1 == i) = true := List.any_eq_true.2 ⟨x, hx, by simp [hxi]⟩
  simp [lst, this]
theorem reg_text {id : Nat} {l : List Oper} {a : Act} {w : World} {S : World → Prop} (hS : S w) (h : wpT P l.toArray Q false l.length S (enum 0 l) a w) :
   (Code.region id l.toArray false).wp P Q a w := wp_region_lit (by have := wpList_of_wpT _ _ S a w hS h; rwa [enum_map] at this)
theorem reg_draw {id : Nat} {l : List Oper} {a : Act} {w : World} {S : World → Prop} (hm : P.follows .mixedOrders = true) (hsel : Region.noSelect l.toArray = true)
   (hQ : ∀ c (a : Act) t w, Q (.panic c) ⟨t, a.defers⟩ w → Q (.panic c) a w) (hd : ∀ w, S w → S w.drew) (hS : S w)
   (h : ∀ w, S w → wpT P l.toArray Q true l.length S (enum 0 l) a w) :
   (Code.region id l.toArray true).wp P Q a w := by
 refine wp_region_any hm ?_
 have hdc : DC l.toArray (lst l.toArray.size (enum 0 l)) := by
  rw [lst_enum]
  intro p op _ hl
  exfalso
  simp [Array.getD] at hl
 have := wpAny_of_E _ _ _ _ _ (wpAnyE_of_wpT (ops := l.toArray) hsel hQ l.length (enum 0 l) S a w.drew (left_enum l) hdc (enum_length 0 l) (hd w hS) (h _ (hd w hS)))
 rw [lst_enum] at this
 simpa using this
end
end Go.Dk
namespace Go.Dk
open Go
abbrev Zone := Nat → Prop
abbrev Fact := Zone → World → Prop
def Stable (φ : Fact) : Prop := ∀ (Z Z' : Zone) (w w' : World), (∀ b, Z b → b < w.heap.size → Z' b ∧ w'.heap[b]? = w.heap[b]?) → φ Z w → φ Z' w'
structure Ext (M : Zone) (w w' : World) : Prop where
 os : w'.os = w.os
 tape : w'.tape = w.tape
 output : w'.output = w.output
 size : w.heap.size ≤ w'.heap.size
 block : ∀ k, k < w.heap.size → ¬ M k → w'.heap[k]? = w.heap[k]?
def noneZ : Zone := fun _ => False
abbrev Grow := Ext noneZ
theorem Ext.refl (M : Zone) (w : World) : Ext M w w := ⟨rfl, rfl, rfl, Nat.le_refl _, fun _ _ _ => rfl⟩
theorem Ext.trans {M : Zone} {a b c : World} (h : Ext M a b) (k : Ext M b c) : Ext M a c :=
 ⟨k.os.trans h.os, k.tape.trans h.tape, k.output.trans h.output, Nat.le_trans h.size k.size, fun i hi hm => (k.block i (Nat.lt_of_lt_of_le hi h.size) hm).trans (h.block i hi hm)⟩
theorem Ext.weak {M M' : Zone} {a b : World} (h : Ext M a b) (hm : ∀ k, k < a.heap.size → M k → M' k) : Ext M' a b :=
 ⟨h.os, h.tape, h.output, h.size, fun i hi hn => h.block i hi (fun hk => hn (hm i hi hk))⟩
theorem Grow.weak {M : Zone} {a b : World} (h : Grow a b) : Ext M a b := Ext.weak h (fun _ _ h => h.elim)
theorem Ext.drew (M : Zone) (w : World) : Ext M w w.drew := ⟨rfl, rfl, rfl, Nat.le_refl _, fun _ _ _ => rfl⟩
theorem Grow.blk {a b : World} (h : Grow a b) {k : Nat} (hk : k < a.heap.size) : b.heap[k]? = a.heap[k]? := h.block k hk (fun h => h)
theorem Grow.below {a b : World} (h : Grow a b) : RowKit.Below a.heap.size a b := ⟨h.os, h.tape, h.output, h.size, fun k hk => h.blk hk⟩
theorem alloc_size (w : World) (o : Obj) : (w.alloc o).heap.size = w.heap.size + 1 := by
 show (w.heap.push o).size = _; simp
theorem alloc_get (w : World) (o : Obj) : (w.alloc o).heap[w.heap.size]? = some o := by
 show (w.heap.push o)[w.heap.size]? = _; simp
theorem Grow.alloc (w : World) (o : Obj) : Grow w (w.alloc o) :=
 ⟨rfl, rfl, rfl, by rw [alloc_size]; omega, fun _ hk _ => RowKit.Below.heap_alloc _ _ _ hk⟩
theorem lt_of_get {w : World} {b : Nat} {o : Obj} (h : w.heap[b]? = some o) : b < w.heap.size := by
 rcases Nat.lt_or_ge b w.heap.size with h' | h'
 ·exact h'
 ·rw [Array.getElem?_eq_none h'] at h; cases h
structure Res where
 foot : Zone
 own : World → Prop
def Res.Local (r : Res) : Prop := ∀ w w' : World, (∀ b, r.foot b → w'.heap[b]? = w.heap[b]?) → r.own w → r.own w'
def blk (b : Nat) (cs : List Value) (T : TypeId) : Res := ⟨(· = b), fun w => w.heap[b]? = some (.cells cs.toArray T (0, 0))⟩
theorem blk_local (b : Nat) (cs : List Value) (T : TypeId) : (blk b cs T).Local := fun _ _ h k => (h b rfl).trans k
def zone (w0 : World) (Z0 : Zone) (L : List Res) : Zone := fun b => (Z0 b ∨ w0.heap.size ≤ b) ∧ ∀ r ∈ L, ¬ r.foot b
structure St (w0 : World) (M Z0 : Zone) (L : List Res) (φ : Fact) (w : World) : Prop where
 ext : Ext M w0 w
 own : ∀ r ∈ L, r.own w
 loc : ∀ r ∈ L, r.Local
 key : ∀ r ∈ L, ∀ b, r.foot b → (M b ∨ w0.heap.size ≤ b) ∧ b < w.heap.size
 dis : L.Pairwise (fun r s => ∀ b, r.foot b → ¬ s.foot b)
 stab : Stable φ
 per : φ (zone w0 Z0 L) w
section
variable {w0 w w' : World} {M Z0 : Zone} {L : List Res} {φ : Fact}
theorem St.init (w : World) (M Z0 : Zone) {φ : Fact} (hs : Stable φ) (h : φ Z0 w) : St w M Z0 [] φ w :=
 ⟨Ext.refl _ _, nofun, nofun, nofun, .nil, hs, hs Z0 _ w w (fun _ hz _ => ⟨⟨.inl hz, nofun⟩, rfl⟩) h⟩
theorem St.drew (h : St w0 M Z0 L φ w) : St w0 M Z0 L φ w.drew :=
 ⟨h.ext.trans (Ext.drew _ _), fun r hr => h.loc r hr w _ (fun _ _ => rfl) (h.own r hr), h.loc, h.key, h.dis, h.stab, h.stab _ _ w _ (fun _ hz _ => ⟨hz, rfl⟩) h.per⟩
theorem St.grow (h : St w0 M Z0 L φ w) (hg : Grow w w') : St w0 M Z0 L φ w' :=
 ⟨h.ext.trans hg.weak, fun r hr => h.loc r hr w _ (fun b hb => hg.blk (h.key r hr b hb).2) (h.own r hr), h.loc,
  fun r hr b hb => ⟨(h.key r hr b hb).1, Nat.lt_of_lt_of_le (h.key r hr b hb).2 hg.size⟩, h.dis, h.stab,
  h.stab _ _ w _ (fun b hz hb => ⟨hz, hg.blk hb⟩) h.per⟩
def andF (ψ φ : Fact) : Fact := fun Z w => ψ Z w ∧ φ Z w
theorem Stable.and {ψ φ : Fact} (h : Stable ψ) (k : Stable φ) : Stable (andF ψ φ) := fun Z Z' w w' hz hp => ⟨h Z Z' w w' hz hp.1, k Z Z' w w' hz hp.2⟩
def trueF : Fact := fun _ _ => True
theorem Stable.true : Stable trueF := fun _ _ _ _ _ _ => trivial
theorem St.fact (h : St w0 M Z0 L φ w) {ψ : Fact} (hs : Stable ψ) (hp : ψ (zone w0 Z0 L) w) : St w0 M Z0 L (andF ψ φ) w :=
 ⟨h.ext, h.own, h.loc, h.key, h.dis, hs.and h.stab, hp, h.per⟩
theorem St.unfact {ψ : Fact} (h : St w0 M Z0 L ψ w) (hs : Stable φ) (hp : ∀ Z w, ψ Z w → φ Z w) : St w0 M Z0 L φ w :=
 ⟨h.ext, h.own, h.loc, h.key, h.dis, hs, hp _ _ h.per⟩
theorem St.call (h : St w0 M Z0 L φ w) (hg : Grow w w') {ψ : Fact} (hs : Stable ψ) (hp : ψ (fun b => zone w0 Z0 L b ∨ w.heap.size ≤ b) w') : St w0 M Z0 L (andF ψ φ) w' :=
 (h.grow hg).fact hs (hs _ _ w' w' (fun b hz _ => ⟨hz.elim id (fun hb => ⟨.inr (Nat.le_trans h.ext.size hb), fun r hr hf => by have := (h.key r hr b hf).2; omega⟩), rfl⟩) hp)
theorem St.push (h : St w0 M Z0 L φ w) (hg : Grow w w') {r : Res} (hl : r.Local) (ho : r.own w') (hf : ∀ b, r.foot b → w.heap.size ≤ b ∧ b < w'.heap.size) : St w0 M Z0 (r :: L) φ w' := by
 have k := h.grow hg
 refine ⟨k.ext, ?_, ?_, ?_, ?_, k.stab, ?_⟩
 ·intro s hs; rcases List.mem_cons.1 hs with rfl | hs
  ·exact ho
  ·exact k.own s hs
 ·intro s hs; rcases List.mem_cons.1 hs with rfl | hs
  ·exact hl
  ·exact k.loc s hs
 ·intro s hs b hb; rcases List.mem_cons.1 hs with rfl | hs
  ·exact ⟨.inr (Nat.le_trans h.ext.size (hf b hb).1), (hf b hb).2⟩
  ·exact k.key s hs b hb
 ·refine List.Pairwise.cons (fun s hs b hb hb' => ?_) k.dis
  have := (h.key s hs b hb').2
  have := (hf b hb).1
  omega
 ·refine h.stab _ _ w w' (fun b hz hb => ⟨⟨hz.1, fun s hs hf' => ?_⟩, hg.blk hb⟩) h.per
  rcases List.mem_cons.1 hs with rfl | hs
  ·have := (hf b hf').1; omega
  ·exact hz.2 s hs hf'
theorem St.upd (h : St w0 M Z0 L φ w) {n : Nat} {r r' : Res} (hn : L[n]? = some r) (hx : Ext r.foot w w') (hl : r'.Local) (ho : r'.own w')
   (hf : ∀ b, r'.foot b → (r.foot b ∨ w.heap.size ≤ b) ∧ b < w'.heap.size) : St w0 M Z0 (L.set n r') φ w' := by
 have hnl : n < L.length := by
  rcases Nat.lt_or_ge n L.length with h' | h'
  ·exact h'
  ·rw [List.getElem?_eq_none h'] at hn; cases hn
 have hmem : r ∈ L := List.mem_of_getElem? hn
 have hget : L[n] = r := by rw [List.getElem?_eq_getElem hnl] at hn; exact Option.some.inj hn
 have disj : ∀ i (hi : i < L.length), i ≠ n → ∀ b, r.foot b → ¬ L[i].foot b := by
  intro i hi hne b hb hb'
  rcases Nat.lt_or_ge i n with hlt | hge
  ·have := List.pairwise_iff_getElem.1 h.dis i n hi hnl hlt b hb'
   rw [hget] at this; exact this hb
  ·have := List.pairwise_iff_getElem.1 h.dis n i hnl hi (by omega) b (by rw [hget]; exact hb)
   exact this hb'
 have new : ∀ b, w.heap.size ≤ b → w0.heap.size ≤ b := fun b hb => Nat.le_trans h.ext.size hb
 have keep : ∀ i (hi : i < L.length), i ≠ n → L[i].own w' := by
  intro i hi hne
  refine h.loc _ (List.getElem_mem hi) w w' (fun b hb => hx.block b (h.key _ (List.getElem_mem hi) b hb).2 (fun hr => disj i hi hne b hr hb)) (h.own _ (List.getElem_mem hi))
 have el : ∀ s ∈ L.set n r', s = r' ∨ ∃ i, ∃ hi : i < L.length, i ≠ n ∧ s = L[i] := by
  intro s hs
  obtain ⟨i, hi, rfl⟩ := List.getElem_of_mem hs
  simp only [List.length_set] at hi
  by_cases hin : n = i
  ·subst hin; left; simp
  ·right; exact ⟨i, hi, fun e => hin e.symm, by rw [List.getElem_set_ne hin]⟩
 refine ⟨?_, ?_, ?_, ?_, ?_, h.stab, ?_⟩
 ·refine ⟨hx.os.trans h.ext.os, hx.tape.trans h.ext.tape, hx.output.trans h.ext.output, Nat.le_trans h.ext.size hx.size, fun k hk hm => ?_⟩
  rw [hx.block k (Nat.lt_of_lt_of_le hk h.ext.size) (fun hr => ?_), h.ext.block k hk hm]
  rcases (h.key r hmem k hr).1 with h1 | h1
  ·exact hm h1
  ·omega
 ·intro s hs; rcases el s hs with rfl | ⟨i, hi, hne, rfl⟩
  ·exact ho
  ·exact keep i hi hne
 ·intro s hs; rcases el s hs with rfl | ⟨i, hi, hne, rfl⟩
  ·exact hl
  ·exact h.loc _ (List.getElem_mem hi)
 ·intro s hs b hb; rcases el s hs with rfl | ⟨i, hi, hne, rfl⟩
  ·refine ⟨?_, (hf b hb).2⟩
   rcases (hf b hb).1 with h1 | h1
   ·exact (h.key r hmem b h1).1
   ·exact .inr (new b h1)
  ·exact ⟨(h.key _ (List.getElem_mem hi) b hb).1, Nat.lt_of_lt_of_le (h.key _ (List.getElem_mem hi) b hb).2 hx.size⟩
 ·rw [List.pairwise_iff_getElem]
  intro i j hi hj hij b hb hb'
  simp only [List.length_set] at hi hj
  by_cases hin : n = i
  ·subst hin
   rw [List.getElem_set_self] at hb
   rw [List.getElem_set_ne (by omega)] at hb'
   rcases (hf b hb).1 with h1 | h1
   ·exact disj j hj (by omega) b h1 hb'
   ·have := (h.key _ (List.getElem_mem hj) b hb').2; omega
  ·rw [List.getElem_set_ne hin] at hb
   by_cases hjn : n = j
   ·subst hjn
    rw [List.getElem_set_self] at hb'
    rcases (hf b hb').1 with h1 | h1
    ·exact disj i hi (by omega) b h1 hb
    ·have := (h.key _ (List.getElem_mem hi) b hb).2; omega
   ·rw [List.getElem_set_ne hjn] at hb'
    exact List.pairwise_iff_getElem.1 h.dis i j hi hj hij b hb hb'
 ·refine h.stab _ _ w w' (fun b hz hb => ⟨⟨hz.1, fun s hs hf' => ?_⟩, hx.block b hb (hz.2 r hmem)⟩) h.per
  rcases el s hs with rfl | ⟨i, hi, hne, rfl⟩
  ·rcases (hf b hf').1 with h1 | h1
   ·exact hz.2 r hmem h1
   ·omega
  ·exact hz.2 _ (List.getElem_mem hi) hf'
theorem St.drop (h : St w0 M Z0 L φ w) (n : Nat) : St w0 M Z0 (L.eraseIdx n) φ w := by
 have sub : ∀ s ∈ L.eraseIdx n, s ∈ L := fun s hs => List.mem_of_mem_eraseIdx hs
 exact ⟨h.ext, fun s hs => h.own s (sub s hs), fun s hs => h.loc s (sub s hs), fun s hs => h.key s (sub s hs), h.dis.sublist (List.eraseIdx_sublist L n), h.stab,
  h.stab _ _ w w (fun b hz _ => ⟨⟨hz.1, fun s hs => hz.2 s (sub s hs)⟩, rfl⟩) h.per⟩
theorem St.cell (h : St w0 M Z0 L φ w) {n b off : Nat} {cs : List Value} {T : TypeId} {v : Value} (hn : L[n]? = some (blk b cs T)) (hv : cs[off]? = some v) : w.cell? ⟨b, off, none⟩ = some v := by
 have := h.own _ (List.mem_of_getElem? hn)
 simp only [blk] at this
 simp [World.cell?, this, hv]
theorem St.free (h : St w0 M Z0 L φ w) {n b off : Nat} {cs : List Value} {T : TypeId} (hn : L[n]? = some (blk b cs T)) : w.frozen? ⟨b, off, none⟩ = false := by
 have := h.own _ (List.mem_of_getElem? hn)
 simp only [blk] at this
 simp [World.frozen?, this]
theorem St.alloc (h : St w0 M Z0 L φ w) (cs : List Value) (T : TypeId) : St w0 M Z0 (blk w.heap.size cs T :: L) φ (w.alloc (.cells cs.toArray T (0, 0))) :=
 h.push (Grow.alloc _ _) (blk_local _ _ _) (alloc_get _ _) (by intro b hb; simp only [blk] at hb; subst hb; rw [alloc_size]; omega)
theorem Ext.setCell (w : World) (a : Addr) (v : Value) : Ext (· = a.block) w (w.setCell a v) :=
 ⟨rfl, rfl, rfl, by simp [World.setCell], fun _ _ hm => RowKit.Below.heap_setCell _ _ _ _ hm⟩
theorem St.store (h : St w0 M Z0 L φ w) {n b : Nat} {cs : List Value} {T : TypeId} (hn : L[n]? = some (blk b cs T)) (off : Nat) (v : Value) : St w0 M Z0 (L.set n (blk b (cs.set off v) T)) φ (w.setCell ⟨b, off, none⟩ v) := by
 have ho := h.own _ (List.mem_of_getElem? hn)
 have hk := h.key _ (List.mem_of_getElem? hn) b rfl
 refine h.upd hn (Ext.setCell w ⟨b, off, none⟩ v) (blk_local _ _ _) ?_ ?_
 ·simp only [blk] at ho ⊢
  simp [World.setCell, Array.getElem?_modify, ho]
 ·intro b' hb'
  simp only [blk] at hb'
  subst hb'
  exact ⟨.inl rfl, by simpa [World.setCell] using hk.2⟩
end
end Go.Dk
namespace Go.Dk
open Go
structure Yld (P : Program) (S : World → Prop) (ρ : Operand → Value) (o : Oper) (v : Value) : Prop where
 out : ∀ w, S w → (execOp ρ o).run P w = .ok (.value v) w
def scalarT (P : Program) (t : TypeId) : Bool := match P.underlying t with | some (.struct _) | some (.array ..) | none => false | _ => true
def structT (P : Program) (t : TypeId) : Option Nat := match P.underlying t, P.info? t with | some (.struct _), some i => some i.size | _, _ => none
def fieldOff (P : Program) (t : TypeId) (i : Nat) : Option Nat := match P.underlying t with
 | some (.struct fs) => match fs[i]? with
  | some f => match P.info? f.type with
   | some inf => if inf.size = 0 then none else some f.offset
   | none => none
  | none => none
 | _ => none
def sliceEl (P : Program) (t : TypeId) : Option Nat := match P.underlying t with
 | some (.slice e) => match P.info? e with
  | some inf => some inf.size
  | none => none
 | _ => none
def isStrT (P : Program) (t : TypeId) : Bool := match P.underlying t with | some .string => true | _ => false
def byteAt (s : ByteArray) (i : Nat) : UInt8 := (s.data.toList[i]?).getD 0
theorem run_underlying {P : Program} {t : TypeId} {de : TypeDesc} (h : P.underlying t = some de) (w : World) : (underlying t).run P w = .ok de w := by
 show (Sem.run P (match P.underlying t with | some d => pure d | none => stuck "no such type") w) = _
 rw [h]; rfl
theorem run_typeInfo {P : Program} {t : TypeId} {i : TypeInfo} (h : P.info? t = some i) (w : World) : (typeInfo t).run P w = .ok i w := by
 show (Sem.run P (match P.info? t with | some d => pure d | none => stuck "no such type") w) = _
 rw [h]; rfl
theorem run_sizeOf {P : Program} {t : TypeId} {i : TypeInfo} (h : P.info? t = some i) (w : World) : (sizeOf t).run P w = .ok i.size w := by
 simp [go_sem, sizeOf, run_typeInfo h]
theorem run_equal_bool {P : Program} {t : TypeId} (h : P.underlying t = some .bool) (a b : Bool) (w : World) : (Op.equal t (.bool a) (.bool b)).run P w = .ok (decide (a = b)) w := by
 unfold Op.equal Op.maxDepth
 rw [show (10000 : Nat) = 9999 + 1 from rfl, Op.equalIn, Sem.run_bind, run_underlying h]
 cases a <;> cases b <;> rfl
section
variable {P : Program} {S : World → Prop} {ρ : Operand → Value} {d : Option Tmp} {ty : TypeId} {pos : String} {aft : Array Edge} {gd : Option (Nat × Bool)} {x y c : Operand} {t t' : TypeId}
theorem Y_move {u : Value} (h : ρ x = u) : Yld P S ρ ⟨d, .move x, ty, pos, aft, gd⟩ u := .mk fun _ _ => by simp [go_sem, execOp, h]
theorem Y_assign {u : Value} (h : ρ x = u) : Yld P S ρ ⟨d, .assign x, ty, pos, aft, gd⟩ u := .mk fun _ _ => by simp [go_sem, execOp, h]
theorem Y_pickT {u : Value} (hc : ρ c = .bool true) (hx : ρ x = u) : Yld P S ρ ⟨d, .pick c x y, ty, pos, aft, gd⟩ u := .mk fun _ _ => by
 simp [go_sem, execOp, hc, hx, asBool]
theorem Y_pickF {u : Value} (hc : ρ c = .bool false) (hy : ρ y = u) : Yld P S ρ ⟨d, .pick c x y, ty, pos, aft, gd⟩ u := .mk fun _ _ => by
 simp [go_sem, execOp, hc, hy, asBool]
theorem Y_nilCheck {a : Addr} (h : ρ x = .pointer (some a)) : Yld P S ρ ⟨d, .nilCheck x, ty, pos, aft, gd⟩ (.pointer (some a)) := .mk fun _ _ => by simp [go_sem, execOp, h]
theorem Y_nilCheckF {f first cap} (h : ρ x = .func (.func f) first cap) : Yld P S ρ ⟨d, .nilCheck x, ty, pos, aft, gd⟩ (.func (.func f) first cap) := .mk fun _ _ => by simp [go_sem, execOp, h]
theorem Y_add {a b : Int} (hx : ρ x = .int .i64 a) (hy : ρ y = .int .i64 b) (h : -9223372036854775808 ≤ a + b ∧ a + b ≤ 9223372036854775807) : Yld P S ρ ⟨d, .binOp .add t x y t', ty, pos, aft, gd⟩ (.int .i64 (a + b)) := .mk fun _ _ => by
 simp [go_sem, execOp, hx, hy, eqGuard, binOp, Op.intArith, IntWalk.i64_in _ h]
theorem Y_sub {a b : Int} (hx : ρ x = .int .i64 a) (hy : ρ y = .int .i64 b) (h : -9223372036854775808 ≤ a - b ∧ a - b ≤ 9223372036854775807) : Yld P S ρ ⟨d, .binOp .sub t x y t', ty, pos, aft, gd⟩ (.int .i64 (a - b)) := .mk fun _ _ => by
 simp [go_sem, execOp, hx, hy, eqGuard, binOp, Op.intArith, IntWalk.i64_in _ h]
theorem Y_mul {a b : Int} (hx : ρ x = .int .i64 a) (hy : ρ y = .int .i64 b) (h : -9223372036854775808 ≤ a * b ∧ a * b ≤ 9223372036854775807) : Yld P S ρ ⟨d, .binOp .mul t x y t', ty, pos, aft, gd⟩ (.int .i64 (a * b)) := .mk fun _ _ => by
 simp [go_sem, execOp, hx, hy, eqGuard, binOp, Op.intArith, IntWalk.i64_in _ h]
theorem wrap_u8 {a : Int} (h : 0 ≤ a ∧ a ≤ 255) : IntKind.u8.wrap a = a := by
 simp only [IntKind.wrap, IntKind.bits, IntKind.signed]
 simp
 omega
theorem Y_add8 {a b : Int} (hx : ρ x = .int .u8 a) (hy : ρ y = .int .u8 b) (h : 0 ≤ a + b ∧ a + b ≤ 255) : Yld P S ρ ⟨d, .binOp .add t x y t', ty, pos, aft, gd⟩ (.int .u8 (a + b)) := .mk fun _ _ => by
 simp [go_sem, execOp, hx, hy, eqGuard, binOp, Op.intArith, wrap_u8 h]
theorem Y_sub8 {a b : Int} (hx : ρ x = .int .u8 a) (hy : ρ y = .int .u8 b) (h : 0 ≤ a - b ∧ a - b ≤ 255) : Yld P S ρ ⟨d, .binOp .sub t x y t', ty, pos, aft, gd⟩ (.int .u8 (a - b)) := .mk fun _ _ => by
 simp [go_sem, execOp, hx, hy, eqGuard, binOp, Op.intArith, wrap_u8 h]
theorem Y_eql {k : IntKind} {a b : Int} (hx : ρ x = .int k a) (hy : ρ y = .int k b) : Yld P S ρ ⟨d, .binOp .eql t x y t', ty, pos, aft, gd⟩ (.bool (decide (a = b))) := .mk fun _ _ => by
 simp [go_sem, execOp, hx, hy, eqGuard, binOp, Op.intCmp]; rfl
theorem Y_neq {k : IntKind} {a b : Int} (hx : ρ x = .int k a) (hy : ρ y = .int k b) : Yld P S ρ ⟨d, .binOp .neq t x y t', ty, pos, aft, gd⟩ (.bool (!decide (a = b))) := .mk fun _ _ => by
 simp [go_sem, execOp, hx, hy, eqGuard, binOp, Op.intCmp]; rfl
theorem Y_lss {k : IntKind} {a b : Int} (hx : ρ x = .int k a) (hy : ρ y = .int k b) : Yld P S ρ ⟨d, .binOp .lss t x y t', ty, pos, aft, gd⟩ (.bool (decide (a < b))) := .mk fun _ _ => by
 simp [go_sem, execOp, hx, hy, eqGuard, binOp, Op.intCmp]
theorem Y_leq {k : IntKind} {a b : Int} (hx : ρ x = .int k a) (hy : ρ y = .int k b) : Yld P S ρ ⟨d, .binOp .leq t x y t', ty, pos, aft, gd⟩ (.bool (decide (a ≤ b))) := .mk fun _ _ => by
 simp [go_sem, execOp, hx, hy, eqGuard, binOp, Op.intCmp]
theorem Y_gtr {k : IntKind} {a b : Int} (hx : ρ x = .int k a) (hy : ρ y = .int k b) : Yld P S ρ ⟨d, .binOp .gtr t x y t', ty, pos, aft, gd⟩ (.bool (decide (b < a))) := .mk fun _ _ => by
 simp [go_sem, execOp, hx, hy, eqGuard, binOp, Op.intCmp]
theorem Y_geq {k : IntKind} {a b : Int} (hx : ρ x = .int k a) (hy : ρ y = .int k b) : Yld P S ρ ⟨d, .binOp .geq t x y t', ty, pos, aft, gd⟩ (.bool (decide (b ≤ a))) := .mk fun _ _ => by
 simp [go_sem, execOp, hx, hy, eqGuard, binOp, Op.intCmp]
theorem Y_not {b : Bool} (h : ρ x = .bool b) : Yld P S ρ ⟨d, .unOp .not t x, ty, pos, aft, gd⟩ (.bool (!b)) := .mk fun _ _ => by
 simp [go_sem, execOp, h, Op.unary]
theorem Y_beql {a b : Bool} (hx : ρ x = .bool a) (hy : ρ y = .bool b) (ht : P.underlying t = some .bool) : Yld P S ρ ⟨d, .binOp .eql t x y t', ty, pos, aft, gd⟩ (.bool (decide (a = b))) := .mk fun _ _ => by
 simp [execOp, hx, hy, eqGuard, binOp, Sem.run_bind, run_equal_bool ht]
theorem Y_bneq {a b : Bool} (hx : ρ x = .bool a) (hy : ρ y = .bool b) (ht : P.underlying t = some .bool) : Yld P S ρ ⟨d, .binOp .neq t x y t', ty, pos, aft, gd⟩ (.bool (!decide (a = b))) := .mk fun _ _ => by
 simp [execOp, hx, hy, eqGuard, binOp, Sem.run_bind, run_equal_bool ht]
theorem Y_seql {a b : ByteArray} (hx : ρ x = .string a) (hy : ρ y = .string b) : Yld P S ρ ⟨d, .binOp .eql t x y t', ty, pos, aft, gd⟩ (.bool (a.toList == b.toList)) := .mk fun _ _ => by
 simp [go_sem, execOp, hx, hy, eqGuard, binOp, Op.stringOp]
theorem Y_sneq {a b : ByteArray} (hx : ρ x = .string a) (hy : ρ y = .string b) : Yld P S ρ ⟨d, .binOp .neq t x y t', ty, pos, aft, gd⟩ (.bool (!(a.toList == b.toList))) := .mk fun _ _ => by
 simp [go_sem, execOp, hx, hy, eqGuard, binOp, Op.stringOp]
theorem Y_sadd {a b : ByteArray} (hx : ρ x = .string a) (hy : ρ y = .string b) (h : a.size + b.size ≤ 9223372036854775807) : Yld P S ρ ⟨d, .binOp .add t x y t', ty, pos, aft, gd⟩ (.string (a ++ b)) := .mk fun _ _ => by
 have h' : ¬ ((a.size + b.size : Nat) : Int) > IntKind.i64.max := by
  have : IntKind.i64.max = 9223372036854775807 := rfl
  omega
 simp only [go_sem, execOp, hx, hy, eqGuard, binOp, Op.stringOp, if_neg h']
 simp [go_sem]
theorem Y_lenStr {a : ByteArray} (hs : isStrT P t = true) (h : ρ x = .string a) : Yld P S ρ ⟨d, .call ⟨.builtin .len, #[x], #[t]⟩, ty, pos, aft, gd⟩ (.int .i64 (a.size : Int)) := .mk fun _ _ => by
 have hu : P.underlying t = some .string := by unfold isStrT at hs; split at hs <;> simp_all
 simp [execOp, resolve, invoke, builtin, Builtin.len_, h, Sem.run_bind, run_underlying hu, goInt]
theorem Y_lenSlice {a : Option Addr} {n cap m : Nat} (hs : sliceEl P t = some m) (h : ρ x = .slice a n cap) : Yld P S ρ ⟨d, .call ⟨.builtin .len, #[x], #[t]⟩, ty, pos, aft, gd⟩ (.int .i64 (n : Int)) := .mk fun _ _ => by
 unfold sliceEl at hs
 split at hs
 ·rename_i e hu
  simp [execOp, resolve, invoke, builtin, Builtin.len_, h, Sem.run_bind, run_underlying hu, goInt]
 ·cases hs
theorem Y_fieldAddr {b off k i : Nat} (hf : fieldOff P t i = some k) (h : ρ x = .pointer (some ⟨b, off, none⟩)) : Yld P S ρ ⟨d, .fieldAddr t x i, ty, pos, aft, gd⟩ (.pointer (some ⟨b, off + k, none⟩)) := .mk fun _ _ => by
 unfold fieldOff at hf
 split at hf
 ·rename_i fs hu
  split at hf
  ·rename_i f hfi
   split at hf
   ·rename_i inf hi
    split at hf
    ·cases hf
    ·rename_i hz
     obtain rfl := Option.some.inj hf
     simp only [execOp, Instr.fieldAt, h, Sem.run_bind, run_underlying hu, Result.andThen_ok, hfi, Instr.sureAddr, fieldPlace, run_sizeOf hi, if_neg hz, Addr.add, Sem.run_pure]
     by_cases h0 : f.offset = 0
     ·simp [h0]
     ·simp [h0]
   ·cases hf
  ·cases hf
 ·cases hf
theorem Y_indexAddr {b off len cap m : Nat} {i : Int} (hs : sliceEl P t = some m) (h : ρ x = .slice (some ⟨b, off, none⟩) len cap) (hi : ρ y = .int .i64 i) (hb : 0 ≤ i ∧ i < len) : Yld P S ρ ⟨d, .indexAddr t x y, ty, pos, aft, gd⟩ (.pointer (some ⟨b, off + i.toNat * m, none⟩)) := .mk fun _ _ => by
 unfold sliceEl at hs
 split at hs
 ·rename_i e hu
  split at hs
  ·rename_i inf hin
   obtain rfl := Option.some.inj hs
   have hc : 0 ≤ i ∧ i < (len : Int) := hb
   simp only [execOp, Instr.indexAt, asIntOf, h, hi, Sem.run_bind, Sem.run_pure, run_underlying hu, Result.andThen_ok, if_pos hc, run_sizeOf hin, Addr.add]
   by_cases h0 : i.toNat * inf.size = 0
   ·simp [h0]
   ·simp [h0]
  ·cases hs
 ·cases hs
theorem Y_indexStr {a : ByteArray} {k : IntKind} {i : Int} (hs : isStrT P t = true) (h : ρ x = .string a) (hi : ρ y = .int k i) (hb : 0 ≤ i ∧ i.toNat < a.size) : Yld P S ρ ⟨d, .index t x y, ty, pos, aft, gd⟩ (.int .u8 ((byteAt a i.toNat).toNat : Int)) := .mk fun _ _ => by
 have hu : P.underlying t = some .string := by unfold isStrT at hs; split at hs <;> simp_all
 have hg : a[i.toNat]? = some (a[i.toNat]'hb.2) := by rw [getElem?_pos a i.toNat hb.2]
 have hv : ((byteAt a i.toNat).toNat : Int) = ((a[i.toNat]'hb.2).toNat : Int) := by
  have hb2 : i.toNat < a.data.toList.length := by simpa using hb.2
  unfold byteAt; rw [List.getElem?_eq_getElem hb2]; rfl
 simp [execOp, Instr.index, asIntOf, h, hi, Sem.run_bind, run_underlying hu, hb.1, hg, hv]
theorem Y_extract {vs : Array Value} {i : Nat} {u : Value} (h : ρ x = .tuple vs) (hv : vs[i]? = some u) : Yld P S ρ ⟨d, .extract x i, ty, pos, aft, gd⟩ u := .mk fun _ _ => by
 simp [go_sem, execOp, Instr.extract, h, hv]
theorem Y_makeFunc {fn : Fn} {first cap : List Operand} {vf vc : List Value} (hf : first.map ρ = vf) (hc : cap.map ρ = vc) : Yld P S ρ ⟨d, .makeFunc fn first.toArray cap.toArray, ty, pos, aft, gd⟩ (.func fn vf.toArray vc.toArray) := .mk fun _ _ => by
 simp [go_sem, execOp, Instr.makeFunc, ← hf, ← hc]
theorem Y_load1 {a : Addr} {v : Value} (ht : scalarT P t = true) (hx : ρ x = .pointer (some a)) (hc : ∀ w, S w → w.cell? a = some v) : Yld P S ρ ⟨d, .load t x, ty, pos, aft, gd⟩ v := .mk fun w hw => by
 have := hc w hw
 unfold scalarT at ht
 cases hu : P.underlying t with
 | none => simp [hu] at ht
 | some de =>
  have hag : (isAgg t).run P w = .ok false w := by
   simp only [isAgg, Sem.run_bind, run_underlying hu, Result.andThen_ok]
   cases de <;> simp_all
  simp [execOp, Instr.loadAt, hx, Instr.sureAddr, loadVar, Sem.run_bind, hag, load, Sem.run, this]
theorem Y_load3 {b off : Nat} {v0 v1 v2 : Value} (ht : structT P t = some 3) (hx : ρ x = .pointer (some ⟨b, off, none⟩))
   (hc : ∀ w, S w → w.cell? ⟨b, off, none⟩ = some v0 ∧ w.cell? ⟨b, off + 1, none⟩ = some v1 ∧ w.cell? ⟨b, off + 2, none⟩ = some v2) : Yld P S ρ ⟨d, .load t x, ty, pos, aft, gd⟩ (.agg #[v0, v1, v2]) := .mk fun w hw => by
 obtain ⟨h0, h1, h2⟩ := hc w hw
 unfold structT at ht
 split at ht
 ·rename_i fs inf hu hi
  obtain hs := Option.some.inj ht
  have hag : (isAgg t).run P w = .ok true w := by
   simp only [isAgg, Sem.run_bind, run_underlying hu, Result.andThen_ok]; rfl
  simp [execOp, Instr.loadAt, hx, Instr.sureAddr, loadVar, Sem.run_bind, hag, run_sizeOf hi, hs, loadCells, loadCellsFrom, load, Sem.run, Addr.add, h0, h1, h2]
 ·cases ht
end
theorem evalT (l : List Value) (ds : List Deferred) (t : Tmp) : Act.eval ⟨l.toArray, ds⟩ (.tmp t) = l.getD t undef := by
 show (l.toArray).getD t undef = _
 simp [List.getD]
theorem evalC (a : Act) (v : Value) : Act.eval a (.const v) = v := rfl
theorem evalF (a : Act) (f : FuncId) : Act.eval a (.func f) = .func (.func f) #[] #[] := rfl
section
variable {P : Program} {ops : Array Oper} {Q : Exit → Act → World → Prop} {dr : Bool} {S : World → Prop} {fu k : Nat} {o : Oper} {rest : List (Nat × Oper)} {a : Act} {w : World}
theorem T_nil (h : Q .normal a w) : wpT P ops Q dr fu S [] a w := by simpa [wpT] using h
theorem T_y {v : Value} (hd : (!dr || takeA ops ((k, o) :: rest) k o) = true) (hg : Region.wanted o (yielded ops a.tmps) = true) (hy : Yld P S a.eval o v)
   (h : wpT P ops Q dr fu S rest (a.put o.dst v) w) : wpT P ops Q dr (fu + 1) S ((k, o) :: rest) a w := .inl ⟨0, (k, o), v, rfl, fun _ => rfl, .inl ⟨hg, hy.out⟩, (by cases dr <;> simp_all [takeA]), h⟩
theorem T_y0 {v : Value} (hg : Region.wanted o (yielded ops a.tmps) = true) (hy : Yld P S a.eval o v)
   (h : wpT P ops Q false fu S rest (a.put o.dst v) w) : wpT P ops Q false (fu + 1) S ((k, o) :: rest) a w := T_y rfl hg hy h
theorem T_skip0 (hg : Region.wanted o (yielded ops a.tmps) = false)
   (h : wpT P ops Q false fu S rest (a.put o.dst undef) w) : wpT P ops Q false (fu + 1) S ((k, o) :: rest) a w := .inl ⟨0, (k, o), undef, rfl, fun _ => rfl, .inr ⟨hg, rfl⟩, rfl, h⟩
theorem T_skip (hd : (!dr || takeB ops ((k, o) :: rest) k o) = true) (hg : Region.wanted o (yielded ops a.tmps) = false)
   (h : wpT P ops Q dr fu S rest (a.put o.dst undef) w) : wpT P ops Q dr (fu + 1) S ((k, o) :: rest) a w := .inl ⟨0, (k, o), undef, rfl, fun _ => rfl, .inr ⟨hg, rfl⟩, hd, h⟩
theorem T_ya {p kk : Nat} {oo : Oper} {x : Nat × Oper} {v : Value} (hp : (x :: rest)[p]? = some (kk, oo)) (hdr : dr = true) (hd : takeA ops (x :: rest) kk oo = true) (hg : Region.wanted oo (yielded ops a.tmps) = true) (hy : Yld P S a.eval oo v)
   (h : wpT P ops Q dr fu S ((x :: rest).eraseIdx p) (a.put oo.dst v) w) : wpT P ops Q dr (fu + 1) S (x :: rest) a w := .inl ⟨p, (kk, oo), v, hp, (fun e => by rw [hdr] at e; cases e), .inl ⟨hg, hy.out⟩, (by simp only [takeA, Bool.and_eq_true] at hd; simp [hd.2]), h⟩
theorem T_skip' (hw : S w) (hd : (!dr || soleB ops ((k, o) :: rest) k o) = true) (hg : Region.wanted o (yielded ops a.tmps) = false)
   (h : wpT P ops Q dr fu S rest (a.put o.dst undef) w) : wpT P ops Q dr (fu + 1) S ((k, o) :: rest) a w := .inr (.inl ⟨hd, by unfold wpO; rw [if_neg (by simp [hg])]; exact ⟨S, fun _ => .inr fun _ h => h, hw, h⟩⟩)
theorem T_y' {v : Value} (hw : S w) (hd : (!dr || soleB ops ((k, o) :: rest) k o) = true) (hg : Region.wanted o (yielded ops a.tmps) = true) (hy : Yld P S a.eval o v)
   (h : wpT P ops Q dr fu S rest (a.put o.dst v) w) : wpT P ops Q dr (fu + 1) S ((k, o) :: rest) a w := .inr (.inl ⟨hd, by
 unfold wpO; rw [if_pos hg]; refine .inl ?_; simp only [Oper.wp, hy.out w hw, Oper.upon]; exact ⟨S, fun _ => .inr fun _ h => h, hw, h⟩⟩)
theorem T_go {v : Value} {w' : World} {S' : World → Prop} (hd : (!dr || soleB ops ((k, o) :: rest) k o) = true) (hg : Region.wanted o (yielded ops a.tmps) = true)
   (hx : (execOp a.eval o).run P w = .ok (.value v) w') (hs : dr = true → ∀ w, S' w → S w) (hw : S' w') (h : wpT P ops Q dr fu S' rest (a.put o.dst v) w') :
   wpT P ops Q dr (fu + 1) S ((k, o) :: rest) a w := .inr (.inl ⟨hd, by
 unfold wpO; rw [if_pos hg]; refine .inl ?_; simp only [Oper.wp, hx, Oper.upon]; exact ⟨S', fun hd => .inr (hs hd), hw, h⟩⟩)
theorem T_goSkipC {w' : World} {S' : World → Prop} (hd : (!dr || (soleB ops ((k, o) :: rest) k o && covB ops ((k, o) :: rest) o)) = true) (hg : Region.wanted o (yielded ops a.tmps) = true)
   (hx : (execOp a.eval o).run P w = .ok .skip w') (hw : S' w') (h : wpT P ops Q dr fu S' rest (a.put o.dst undef) w') :
   wpT P ops Q dr (fu + 1) S ((k, o) :: rest) a w := .inr (.inl ⟨by cases dr <;> simp_all, by
 unfold wpO; rw [if_pos hg]; refine .inl ?_; simp only [Oper.wp, hx, Oper.upon]; exact ⟨S', fun e => .inl (by subst e; simp_all), hw, h⟩⟩)
def callB (P : Program) (f : FuncId) : Bool := match P.funcs[f]? with
 | some fn => fn.name != "runtime.NumGoroutine" && fn.body.isSome
 | none => false
theorem run_callFunc {f : FuncId} (h : callB P f = true) (args : Array Value) (w : World) : (callFunc f args).run P w = .ok (.enter f args) w := by
 unfold callB at h
 split at h
 ·rename_i fn hf
  simp only [Bool.and_eq_true, bne_iff_ne, ne_eq] at h
  simp [go_sem, callFunc, hf, h.1]
  intro hn
  simp [hn] at h
 ·cases h
theorem run_call_op {ρ : Operand → Value} {f : FuncId} {x : Operand} {first cap : Array Value} {xs : Array Operand} {ats : Array TypeId} {d : Option Tmp} {ty : TypeId} {pos : String} {aft : Array Edge} {gd : Option (Nat × Bool)}
   (hx : ρ x = .func (.func f) first cap) (hf : callB P f = true) (w : World) :
   (execOp ρ ⟨d, .call ⟨.value x, xs, ats⟩, ty, pos, aft, gd⟩).run P w = .ok (.enter f (first ++ xs.map ρ ++ cap)) w := by
 simp only [execOp, resolve, hx, Deferred.ofValue, Sem.run_bind, Sem.run_pure, Result.andThen_ok, invoke, run_callFunc hf]
theorem T_call {f : FuncId} {xs : List Operand} {ats : Array TypeId} {vs : List Value} {d : Option Tmp} {ty : TypeId} {pos : String} {aft : Array Edge} {gd : Option (Nat × Bool)} {R : Ending → World → Prop}
   (hf : callB P f = true) (hd : (!dr || soleB ops ((k, ⟨d, .call ⟨.value (.func f), xs.toArray, ats⟩, ty, pos, aft, gd⟩) :: rest) k ⟨d, .call ⟨.value (.func f), xs.toArray, ats⟩, ty, pos, aft, gd⟩) = true) (hg : Region.wanted ⟨d, .call ⟨.value (.func f), xs.toArray, ats⟩, ty, pos, aft, gd⟩ (yielded ops a.tmps) = true)
   (hxs : xs.map a.eval = vs) (hc : Calls P f vs.toArray w R)
   (h : ∀ e w', R e w' → ∃ v, e = .returned v ∧ ∃ S' : World → Prop, (dr = true → ∀ w, S' w → S w) ∧ S' w' ∧ wpT P ops Q dr fu S' rest (a.put d v) w') :
   wpT P ops Q dr (fu + 1) S ((k, ⟨d, .call ⟨.value (.func f), xs.toArray, ats⟩, ty, pos, aft, gd⟩) :: rest) a w := .inr (.inl ⟨hd, by
 unfold wpO; rw [if_pos hg]; refine .inl ?_
 have hx : (execOp a.eval ⟨d, .call ⟨.value (.func f), xs.toArray, ats⟩, ty, pos, aft, gd⟩).run P w = .ok (.enter f vs.toArray) w := by
  rw [run_call_op (first := #[]) (cap := #[]) rfl hf, ← hxs]
  simp
 simp only [Oper.wp, hx, Oper.upon]
 refine hc.mono fun e w' hr => ?_
 obtain ⟨v, rfl, S', h1, h2⟩ := h e w' hr
 exact ⟨S', fun hd => .inr (h1 hd), h2⟩⟩)
end
section
variable {P : Program} {ops : Array Oper} {Q : Exit → Act → World → Prop} {dr : Bool} {fu k : Nat} {rest : List (Nat × Oper)} {a : Act} {w w0 : World} {M Z0 : Zone} {L : List Res} {φ : Fact}
 {d : Option Tmp} {ty : TypeId} {pos : String} {aft : Array Edge} {gd : Option (Nat × Bool)} {x y : Operand} {t t' : TypeId}
theorem St.tail {r : Res} (h : St w0 M Z0 (r :: L) φ w) : St w0 M Z0 L φ w := by simpa using h.drop 0
theorem run_newVar (P : Program) (t : TypeId) (v : Value) (w : World) : (newVar t v).run P w = .ok ⟨w.heap.size, 0, none⟩ (w.alloc (.cells v.cells t (0, 0))) := rfl
theorem T_box {u : Value} {cs : List Value} (hw : St w0 M Z0 L φ w) (hd : (!dr || soleB ops ((k, ⟨d, .box t x, ty, pos, aft, gd⟩) :: rest) k ⟨d, .box t x, ty, pos, aft, gd⟩) = true) (hg : Region.wanted ⟨d, .box t x, ty, pos, aft, gd⟩ (yielded ops a.tmps) = true)
   (hx : a.eval x = u) (hc : u.cells = cs.toArray)
   (h : ∀ b w', St w0 M Z0 (blk b cs t :: L) φ w' → wpT P ops Q dr fu (St w0 M Z0 (blk b cs t :: L) φ) rest (a.put d (.pointer (some ⟨b, 0, none⟩))) w') :
   wpT P ops Q dr (fu + 1) (St w0 M Z0 L φ) ((k, ⟨d, .box t x, ty, pos, aft, gd⟩) :: rest) a w := by
 have hs := hw.alloc cs t
 refine T_go hd hg (v := .pointer (some ⟨w.heap.size, 0, none⟩)) (w' := w.alloc (.cells cs.toArray t (0, 0))) ?_ (fun _ _ h => h.tail) hs (h _ _ hs)
 simp only [execOp, Instr.box, hx, Sem.run_bind, run_newVar, hc, Result.andThen_ok, Sem.run_pure]
def zeroB (P : Program) (t : TypeId) : Option (List Value) := match P.info? t with
 | some i => match i.zero with
  | some z => some z.cells.toList
  | none => none
 | none => none
theorem T_alloc {cs : List Value} (hz : zeroB P t = some cs) (hw : St w0 M Z0 L φ w) (hd : (!dr || soleB ops ((k, ⟨d, .alloc t, ty, pos, aft, gd⟩) :: rest) k ⟨d, .alloc t, ty, pos, aft, gd⟩) = true) (hg : Region.wanted ⟨d, .alloc t, ty, pos, aft, gd⟩ (yielded ops a.tmps) = true)
   (h : ∀ b w', St w0 M Z0 (blk b cs t :: L) φ w' → wpT P ops Q dr fu (St w0 M Z0 (blk b cs t :: L) φ) rest (a.put d (.pointer (some ⟨b, 0, none⟩))) w') :
   wpT P ops Q dr (fu + 1) (St w0 M Z0 L φ) ((k, ⟨d, .alloc t, ty, pos, aft, gd⟩) :: rest) a w := by
 have hs := hw.alloc cs t
 refine T_go hd hg (v := .pointer (some ⟨w.heap.size, 0, none⟩)) (w' := w.alloc (.cells cs.toArray t (0, 0))) ?_ (fun _ _ h => h.tail) hs (h _ _ hs)
 unfold zeroB at hz
 split at hz
 ·rename_i i hi
  split at hz
  ·rename_i z hzz
   obtain rfl := Option.some.inj hz
   have hzv : (zeroValue t).run P w = .ok z w := by
    simp only [zeroValue, Sem.run_bind, run_typeInfo hi, Result.andThen_ok, hzz, Sem.run_pure]
   simp only [execOp, Instr.alloc, Sem.run_bind, hzv, run_newVar, Result.andThen_ok, Sem.run_pure, Array.toArray_toList]
  ·cases hz
 ·cases hz
def putL (cs : List Value) (off : Nat) : List Value → List Value
 | [] => cs
 | v :: vs => putL (cs.set off v) (off + 1) vs
def oneB : Value → Bool
 | .agg _ | .tuple _ => false
 | _ => true
theorem run_store {b off : Nat} {v u : Value} {w : World} {kk : Sem Unit} (h1 : oneB v = true) (hc : w.cell? ⟨b, off, none⟩ = some u) (hf : w.frozen? ⟨b, off, none⟩ = false) :
   (Sem.store .plain ⟨b, off, none⟩ v kk).run P w = kk.run P (w.setCell ⟨b, off, none⟩ v) := by
 cases v <;> first | (simp [oneB] at h1; done) | simp [Sem.run, hc, hf]
theorem addr_add (b off i : Nat) : Addr.add ⟨b, off, none⟩ i = ⟨b, off + i, none⟩ := by
 unfold Addr.add; split
 ·rename_i h; subst h; rfl
 ·rfl
theorem set_self {n : Nat} {r : Res} (h : L[n]? = some r) (r' : Res) : (L.set n r')[n]? = some r' := by
 have hl : n < L.length := by
  rcases Nat.lt_or_ge n L.length with h' | h'
  ·exact h'
  ·rw [List.getElem?_eq_none h'] at h; cases h
 simp [hl]
theorem run_storeCells {n b off : Nat} {T : TypeId} : ∀ (vs : List Value) (i : Nat) (cs : List Value) (L : List Res) (w : World), L[n]? = some (blk b cs T) → St w0 M Z0 L φ w →
   (∀ v ∈ vs, oneB v = true) → off + i + vs.length ≤ cs.length →
   ∃ w', (storeCells ⟨b, off, none⟩ vs i).run P w = .ok () w' ∧ St w0 M Z0 (L.set n (blk b (putL cs (off + i) vs) T)) φ w'
 | [], i, cs, L, w, hn, hw, _, _ => by
  refine ⟨w, rfl, ?_⟩
  have : L.set n (blk b (putL cs (off + i) []) T) = L := by
   apply List.ext_getElem?
   intro j
   by_cases hj : n = j
   ·subst hj; rw [set_self hn]; exact hn.symm
   ·rw [List.getElem?_set_ne hj]
  rw [this]; exact hw
 | v :: vs, i, cs, L, w, hn, hw, h1, hl => by
  simp only [List.length_cons] at hl
  have hlt : off + i < cs.length := by omega
  have hget : cs[off + i]? = some cs[off + i] := List.getElem?_eq_getElem hlt
  have hs := hw.store hn (off + i) v
  obtain ⟨w', hr, hs'⟩ := run_storeCells (n := n) (off := off) vs (i + 1) (cs.set (off + i) v) _ _ (set_self hn _) hs (fun u hu => h1 u (List.mem_cons_of_mem _ hu)) (by simp; omega)
  refine ⟨w', ?_, ?_⟩
  ·simp only [storeCells, addr_add, Sem.run_bind, store]
   rw [run_store (h1 v (List.mem_cons_self ..)) (hw.cell hn hget) (hw.free hn)]
   simp only [Sem.run, Result.andThen_ok]
   exact hr
  ·rw [List.set_set] at hs'
   exact hs'
theorem T_store {n b off m : Nat} {cs vs : List Value} {T : TypeId} {u : Value} (hn : L[n]? = some (blk b cs T)) (hw : St w0 M Z0 L φ w) (hd : (!dr || (soleB ops ((k, ⟨d, .store t x y, ty, pos, aft, gd⟩) :: rest) k ⟨d, .store t x y, ty, pos, aft, gd⟩ && covB ops ((k, ⟨d, .store t x y, ty, pos, aft, gd⟩) :: rest) ⟨d, .store t x y, ty, pos, aft, gd⟩)) = true) (hg : Region.wanted ⟨d, .store t x y, ty, pos, aft, gd⟩ (yielded ops a.tmps) = true)
   (hx : a.eval x = .pointer (some ⟨b, off, none⟩)) (hy : a.eval y = u) (hc : u.cells = vs.toArray) (h1 : vs.all oneB = true) (hsz : (P.info? t).map (·.size) = some m) (hm : m = vs.length) (hl : off + vs.length ≤ cs.length)
   (h : ∀ w', St w0 M Z0 (L.set n (blk b (putL cs off vs) T)) φ w' → wpT P ops Q dr fu (St w0 M Z0 (L.set n (blk b (putL cs off vs) T)) φ) rest (a.put d undef) w') :
   wpT P ops Q dr (fu + 1) (St w0 M Z0 L φ) ((k, ⟨d, .store t x y, ty, pos, aft, gd⟩) :: rest) a w := by
 obtain ⟨w', hr, hs⟩ := run_storeCells (P := P) (n := n) (off := off) vs 0 cs L w hn hw (by simpa using h1) (by simpa using hl)
 simp only [Nat.add_zero] at hs
 refine T_goSkipC (w' := w') hd hg ?_ hs (h _ hs)
 cases hi : P.info? t with
 | none => simp [hi] at hsz
 | some i =>
  simp only [hi, Option.map_some, Option.some.injEq] at hsz
  have hne : ¬ (vs.toArray.size ≠ i.size) := by rw [hsz, hm]; simp
  simp only [execOp, Instr.storeAt, hx, hy, Instr.sureAddr, storeVar, Sem.run_bind, Sem.run_pure, Result.andThen_ok, run_sizeOf hi, if_neg hne, hc, hr]
end
end Go.Dk
namespace Go.Dk
open Go
inductive HT where
 | mk (k n : Int) (a : Option Addr) (cap : Nat) (kids : List HT)
inductive T where
 | mk (k n : Int) (kids : List T)
namespace HT
def k : HT → Int | .mk k _ _ _ _ => k
def n : HT → Int | .mk _ n _ _ _ => n
def a : HT → Option Addr | .mk _ _ a _ _ => a
def cap : HT → Nat | .mk _ _ _ c _ => c
def kids : HT → List HT | .mk _ _ _ _ ts => ts
def val (t : HT) : Value := .agg #[.int .i64 t.k, .int .i64 t.n, .slice t.a t.kids.length t.cap]
mutual
def er : HT → T | .mk k n _ _ ts => .mk k n (erL ts)
def erL : List HT → List T | [] => [] | t :: ts => er t :: erL ts
end
theorem erL_eq (ts : List HT) : erL ts = ts.map er := by induction ts with | nil => rfl | cons t ts ih => simp [erL, ih]
end HT
namespace T
def k : T → Int | .mk k _ _ => k
def n : T → Int | .mk _ n _ => n
def kids : T → List T | .mk _ _ ts => ts
end T
theorem HT.er_k (t : HT) : t.er.k = t.k := by cases t; rfl
theorem HT.er_n (t : HT) : t.er.n = t.n := by cases t; rfl
theorem HT.er_kids (t : HT) : t.er.kids = t.kids.map HT.er := by cases t; simp [HT.er, T.kids, HT.kids, HT.erL_eq]
mutual
def Rd (Z : Zone) (w : World) : HT → Prop
 | .mk _ _ a cap kids => (kids = [] ∨ ∃ b off, a = some ⟨b, off, none⟩ ∧ Z b ∧ RdL Z w b off kids) ∧ kids.length ≤ cap ∧ kids.length ≤ 9223372036854775807
def RdL (Z : Zone) (w : World) (b off : Nat) : List HT → Prop
 | [] => True
 | t :: ts => (w.cell? ⟨b, off, none⟩ = some (.int .i64 t.k) ∧ w.cell? ⟨b, off + 1, none⟩ = some (.int .i64 t.n) ∧ w.cell? ⟨b, off + 2, none⟩ = some (.slice t.a t.kids.length t.cap)) ∧ Rd Z w t ∧ RdL Z w b (off + 3) ts
end
theorem cell_lt {w : World} {b off : Nat} {v : Value} (h : w.cell? ⟨b, off, none⟩ = some v) : b < w.heap.size := World.block_lt_of_cell? w _ h
theorem cell_keep {w w' : World} {b off : Nat} (h : w'.heap[b]? = w.heap[b]?) : w'.cell? ⟨b, off, none⟩ = w.cell? ⟨b, off, none⟩ := by
 simp only [World.cell?, h]
mutual
theorem Rd.stable (Z Z' : Zone) (w w' : World) (hz : ∀ b, Z b → b < w.heap.size → Z' b ∧ w'.heap[b]? = w.heap[b]?) : ∀ t, Rd Z w t → Rd Z' w' t
 | .mk _ _ a cap kids, h => by
  simp only [Rd] at h ⊢
  refine ⟨?_, h.2⟩
  rcases h.1 with h1 | ⟨b, off, ha, hb, hl⟩
  ·exact .inl h1
  ·cases kids with
   | nil => exact .inl rfl
   | cons t ts =>
    have hlt : b < w.heap.size := by simp only [RdL] at hl; exact cell_lt hl.1.1
    exact .inr ⟨b, off, ha, (hz b hb hlt).1, RdL.stable Z Z' w w' hz b off (hz b hb hlt).2 _ hl⟩
theorem RdL.stable (Z Z' : Zone) (w w' : World) (hz : ∀ b, Z b → b < w.heap.size → Z' b ∧ w'.heap[b]? = w.heap[b]?) (b off : Nat) (hk : w'.heap[b]? = w.heap[b]?) : ∀ ts, RdL Z w b off ts → RdL Z' w' b off ts
 | [], _ => by simp [RdL]
 | t :: ts, h => by
  simp only [RdL] at h ⊢
  exact ⟨⟨(cell_keep hk).trans h.1.1, (cell_keep hk).trans h.1.2.1, (cell_keep hk).trans h.1.2.2⟩, Rd.stable Z Z' w w' hz t h.2.1, RdL.stable Z Z' w w' hz b (off + 3) hk ts h.2.2⟩
end
def rdF (t : HT) : Fact := fun Z w => Rd Z w t
theorem rdF_stable (t : HT) : Stable (rdF t) := fun Z Z' w w' hz h => Rd.stable Z Z' w w' hz t h
theorem RdL.at {Z : Zone} {w : World} {b : Nat} : ∀ {ts : List HT} {off : Nat}, RdL Z w b off ts → ∀ (i : Nat) (t : HT), ts[i]? = some t →
   (w.cell? ⟨b, off + i * 3, none⟩ = some (.int .i64 t.k) ∧ w.cell? ⟨b, off + i * 3 + 1, none⟩ = some (.int .i64 t.n) ∧ w.cell? ⟨b, off + i * 3 + 2, none⟩ = some (.slice t.a t.kids.length t.cap)) ∧ Rd Z w t
 | [], _, _, i, t, hi => by simp at hi
 | u :: ts, off, h, 0, t, hi => by
  simp only [RdL] at h
  simp only [List.getElem?_cons_zero, Option.some.injEq] at hi
  subst hi
  simpa using ⟨h.1, h.2.1⟩
 | u :: ts, off, h, i + 1, t, hi => by
  simp only [RdL] at h
  have := RdL.at h.2.2 i t (by simpa using hi)
  rw [show off + (i + 1) * 3 = off + 3 + i * 3 by omega]
  exact this
theorem Rd.len {Z : Zone} {w : World} {t : HT} (h : Rd Z w t) : t.kids.length ≤ 9223372036854775807 ∧ t.kids.length ≤ t.cap := by
 cases t; simp only [Rd] at h; exact ⟨h.2.2, h.2.1⟩
theorem Rd.row {Z : Zone} {w : World} {t : HT} (h : Rd Z w t) (hne : 0 < t.kids.length) : ∃ b off, t.a = some ⟨b, off, none⟩ ∧ Z b ∧ RdL Z w b off t.kids := by
 cases t; simp only [Rd] at h
 rcases h.1 with h1 | h1
 ·simp only [HT.kids] at hne; subst h1; simp at hne
 ·exact h1
end Go.Dk
namespace Go.Dk
open Go
def resOne (tmps : Array Value) : ResultVar → Sem Value
 | .tmp t => pure (tmps.getD t undef)
 | .cell a t => do loadVar t (← asAddr (tmps.getD a undef))
theorem results_eq (fn : Func) (tmps : Array Value) : results fn tmps = (do let vs ← fn.results.mapM (resOne tmps); pure (if h : vs.size = 1 then vs[0] else .tuple vs)) := by
 have : (fun r => resOne tmps r) = (fun (r : ResultVar) => (match r with | .tmp t => pure (tmps.getD t undef) | .cell a t => do loadVar t (← asAddr (tmps.getD a undef)) : Sem Value)) := by
  funext r; cases r <;> rfl
 show _ = (do let vs ← fn.results.mapM (fun r => resOne tmps r); pure (if h : vs.size = 1 then vs[0] else .tuple vs))
 rw [this]; rfl
section
variable {P : Program} {fn : Func} {tmps : List Value} {w : World}
theorem R_tmp {t : Tmp} {v : Value} (h : tmps.getD t undef = v) : (resOne tmps.toArray (.tmp t)).run P w = .ok v w := by
 have : tmps.toArray.getD t undef = v := by simpa [List.getD] using h
 simp only [resOne, this, Sem.run_pure]
theorem R_cell {a : Tmp} {t : TypeId} {ad : Addr} {v : Value} (h : tmps.getD a undef = .pointer (some ad)) (hl : (loadVar t ad).run P w = .ok v w) : (resOne tmps.toArray (.cell a t)).run P w = .ok v w := by
 have : tmps.toArray.getD a undef = .pointer (some ad) := by simpa [List.getD] using h
 simp only [resOne, this, asAddr, Sem.run_bind, Sem.run_pure, Result.andThen_ok, hl]
theorem load1 {t : TypeId} {a : Addr} {v : Value} (ht : scalarT P t = true) (hc : w.cell? a = some v) : (loadVar t a).run P w = .ok v w := by
 unfold scalarT at ht
 cases hu : P.underlying t with
 | none => simp [hu] at ht
 | some de =>
  have hag : (isAgg t).run P w = .ok false w := by
   simp only [isAgg, Sem.run_bind, run_underlying hu, Result.andThen_ok]
   cases de <;> simp_all
  simp [loadVar, Sem.run_bind, hag, load, Sem.run, hc]
theorem load3 {t : TypeId} {b off : Nat} {v0 v1 v2 : Value} (ht : structT P t = some 3)
   (h0 : w.cell? ⟨b, off, none⟩ = some v0) (h1 : w.cell? ⟨b, off + 1, none⟩ = some v1) (h2 : w.cell? ⟨b, off + 2, none⟩ = some v2) : (loadVar t ⟨b, off, none⟩).run P w = .ok (.agg #[v0, v1, v2]) w := by
 unfold structT at ht
 split at ht
 ·rename_i fs inf hu hi
  obtain hs := Option.some.inj ht
  have hag : (isAgg t).run P w = .ok true w := by
   simp only [isAgg, Sem.run_bind, run_underlying hu, Result.andThen_ok]; rfl
  simp [loadVar, Sem.run_bind, hag, run_sizeOf hi, hs, loadCells, loadCellsFrom, load, Sem.run, Addr.add, h0, h1, h2]
 ·cases ht
theorem mapM1 (f : ResultVar → Sem Value) (r : ResultVar) : #[r].mapM f = (do let v ← f r; pure #[v]) := by
 simp [Array.mapM_eq_mapM_toList]
theorem res1 {r : ResultVar} {v : Value} (h : fn.results = #[r]) (hr : (resOne tmps.toArray r).run P w = .ok v w) : (results fn tmps.toArray).run P w = .ok v w := by
 rw [results_eq, h, mapM1]
 simp [Sem.run_bind, hr]
theorem ret_post {R : Ending → World → Prop} {v : Value} (hr : (results fn tmps.toArray).run P w = .ok v w) (hR : R (.returned v) w) : bodyPost P fn R .ret ⟨tmps.toArray, []⟩ w := ⟨rfl, v, hr, hR⟩
end
end Go.Dk
namespace Go.Dk
theorem at2 {r0 r1 r2 : Res} {L : List Res} : (r0 :: r1 :: r2 :: L)[2]? = some r2 := rfl
end Go.Dk
namespace Go.Dk
theorem St.get {w0 w : World} {M Z0 : Zone} {L : List Res} {φ : Fact} (h : St w0 M Z0 L φ w) {n b : Nat} {cs : List Value} {T : TypeId} (hn : L[n]? = some (blk b cs T)) : w.heap[b]? = some (.cells cs.toArray T (0, 0)) := h.own _ (List.mem_of_getElem? hn)
end Go.Dk
namespace Go.Dk
theorem HT.ind {motive : HT → Prop} (h : ∀ t : HT, (∀ u ∈ t.kids, motive u) → motive t) (t : HT) : motive t :=
 h t (fun u hu => HT.ind h u)
 termination_by SizeOf.sizeOf t
 decreasing_by
 cases t
 simp only [HT.kids] at hu
 have := List.sizeOf_lt_of_mem hu
 simp only [HT.mk.sizeOf_spec]
 omega
theorem T.ind {motive : T → Prop} (h : ∀ t : T, (∀ u ∈ t.kids, motive u) → motive t) (t : T) : motive t :=
 h t (fun u hu => T.ind h u)
 termination_by SizeOf.sizeOf t
 decreasing_by
 cases t
 simp only [T.kids] at hu
 have := List.sizeOf_lt_of_mem hu
 simp only [T.mk.sizeOf_spec]
 omega
theorem Rd.elem {Z : Zone} {w : World} {t u : HT} {b off i : Nat} (h : Rd Z w t) (ha : t.a = some ⟨b, off, none⟩) (hu : t.kids[i]? = some u) :
   (w.cell? ⟨b, off + i * 3, none⟩ = some (.int .i64 u.k) ∧ w.cell? ⟨b, off + i * 3 + 1, none⟩ = some (.int .i64 u.n) ∧ w.cell? ⟨b, off + i * 3 + 2, none⟩ = some (.slice u.a u.kids.length u.cap)) ∧ Rd Z w u := by
 have hne : 0 < t.kids.length := by
  rcases Nat.eq_zero_or_pos t.kids.length with h0 | h0
  ·rw [List.length_eq_zero_iff.1 h0] at hu; cases hu
  ·exact h0
 obtain ⟨b', off', ha', _, hl⟩ := h.row hne
 rw [ha] at ha'
 simp only [Option.some.injEq, Addr.mk.injEq, and_true] at ha'
 obtain ⟨rfl, rfl⟩ := ha'
 exact hl.at i u hu
theorem Rd.addr {Z : Zone} {w : World} {t u : HT} {i : Nat} (h : Rd Z w t) (hu : t.kids[i]? = some u) : ∃ b off, t.a = some ⟨b, off, none⟩ := by
 have hne : 0 < t.kids.length := by
  rcases Nat.eq_zero_or_pos t.kids.length with h0 | h0
  ·rw [List.length_eq_zero_iff.1 h0] at hu; cases hu
  ·exact h0
 obtain ⟨b', off', ha', _, hl⟩ := h.row hne
 exact ⟨b', off', ha'⟩
end Go.Dk
namespace Go.Dk
theorem hd_false {b : Bool} : (!false || b) = true := rfl
end Go.Dk
namespace Go.Dk
open Go
section
variable {P : Program} {S : World → Prop} {ρ : Operand → Value} {d : Option Tmp} {ty : TypeId} {pos : String} {aft : Array Edge} {gd : Option (Nat × Bool)} {x y c lo hi : Operand} {t t' : TypeId}
theorem Y_sliceStrTo {a : ByteArray} {h : Int} (ht : isStrT P t = true) (hx : ρ x = .string a) (hh : ρ hi = .int .i64 h) (hb : 0 ≤ h ∧ h ≤ a.size) :
   Yld P S ρ ⟨d, .slice t x none (some hi) none, ty, pos, aft, gd⟩ (.string (a.extract 0 h.toNat)) := .mk fun w _ => by
 have hu : P.underlying t = some .string := by unfold isStrT at ht; split at ht <;> simp_all
 have hc : 0 ≤ h ∧ h ≤ (a.size : Int) := hb
 simp [execOp, Instr.sliceAt, Sem.run_bind, run_underlying hu, hx, hh, Instr.slice, Instr.sliceBounds, Instr.sliceBound, asIntOf, hc]
theorem Y_sliceStrFrom {a : ByteArray} {l : Int} (ht : isStrT P t = true) (hx : ρ x = .string a) (hl : ρ lo = .int .i64 l) (hb : 0 ≤ l ∧ l ≤ a.size) :
   Yld P S ρ ⟨d, .slice t x (some lo) none none, ty, pos, aft, gd⟩ (.string (a.extract l.toNat a.size)) := .mk fun w _ => by
 have hu : P.underlying t = some .string := by unfold isStrT at ht; split at ht <;> simp_all
 have hc : 0 ≤ l ∧ l ≤ (a.size : Int) := hb
 simp [execOp, Instr.sliceAt, Sem.run_bind, run_underlying hu, hx, hl, Instr.slice, Instr.sliceBounds, Instr.sliceBound, asIntOf, hc]
def idxB (s : ByteArray) (c : UInt8) : Int := match s.data.toList.findIdx? (· == c) with
 | some i => (i : Int)
 | none => -1
theorem find_range (s : ByteArray) (c : UInt8) : ((List.range s.size).find? fun i => s[i]! == c) = s.data.toList.findIdx? (· == c) := by
 have hs : s.size = s.data.toList.length := by simp
 have hg : ∀ i, i < s.size → s[i]! = s.data.toList[i]?.getD 0 := by
  intro i hi
  rw [getElem!_pos s i hi]
  have hb2 : i < s.data.toList.length := by rw [← hs]; exact hi
  rw [List.getElem?_eq_getElem hb2]; rfl
 generalize hl : s.data.toList = l at *
 rw [hs]
 have hg' : ∀ i, i < l.length → s[i]! = l[i]?.getD 0 := fun i hi => hg i (by rw [hs]; exact hi)
 cases hf : l.findIdx? (· == c) with
 | none =>
  rw [List.find?_eq_none]
  intro i hi
  simp only [List.mem_range] at hi
  rw [List.findIdx?_eq_none_iff] at hf
  rw [hg' i hi, List.getElem?_eq_getElem hi]
  have := hf l[i] (List.getElem_mem hi)
  simpa using this
 | some k =>
  rw [List.findIdx?_eq_some_iff_getElem] at hf
  obtain ⟨hk, hp, hlt⟩ := hf
  rw [List.find?_range_eq_some]
  refine ⟨by rw [hg' k hk, List.getElem?_eq_getElem hk]; simpa using hp, by simpa using hk, fun j hj => ?_⟩
  rw [hg' j (by omega), List.getElem?_eq_getElem (by omega)]
  simpa using hlt j hj
def extIB (P : Program) (f : FuncId) : Prop := ∃ fn, P.funcs[f]? = some fn ∧ (fn.name == "runtime.NumGoroutine") = false ∧ fn.body.isNone = true ∧ Extern.findNext fn = none ∧ Extern.find fn = some Extern.BytealgIndexByte.indexByte
theorem Y_indexByte {f : FuncId} {s : ByteArray} {b : UInt8} {ats : Array TypeId} (hf : extIB P f) (hx : ρ x = .string s) (hy : ρ y = .int .u8 (b.toNat : Int)) (hff : ρ (.func f) = .func (.func f) #[] #[]) :
   Yld P S ρ ⟨d, .call ⟨.value (.func f), #[x, y], ats⟩, ty, pos, aft, gd⟩ (.int .i64 (idxB s b)) := .mk fun w _ => by
 obtain ⟨fn, h1, h2, h3, h4, h5⟩ := hf
 have hr : (Extern.BytealgIndexByte.indexByte #[.string s, .int .u8 (b.toNat : Int)]).run P w = .ok (.int .i64 (idxB s b)) w := by
  rw [run_indexByte_string]
  have hb : ((b.toNat : Int).toNat).toUInt8 = b := by simp
  unfold idxB firstIdx
  rw [hb, find_range]
  cases s.data.toList.findIdx? (· == b) <;> rfl
 simp only [execOp, resolve, hff, Deferred.ofValue, Sem.run_bind, Sem.run_pure, Result.andThen_ok, invoke]
 rw [show (#[] : Array Value) ++ #[x, y].map ρ ++ #[] = #[.string s, .int .u8 (b.toNat : Int)] by simp [hx, hy]]
 rw [run_callFunc_extern h1 h2 h3 h4 h5]
 rw [hr]; rfl
end
end Go.Dk
namespace Go.Dk
open Go
theorem putL_length : ∀ (vs cs : List Value) (off : Nat), (putL cs off vs).length = cs.length
 | [], cs, off => rfl
 | v :: vs, cs, off => by simp [putL, putL_length vs]
theorem putL_get : ∀ (vs cs : List Value) (off i : Nat), off + vs.length ≤ cs.length → (putL cs off vs)[i]? = if off ≤ i ∧ i < off + vs.length then vs[i - off]? else cs[i]?
 | [], cs, off, i, _ => by simp [putL]; omega
 | v :: vs, cs, off, i, h => by
  simp only [List.length_cons] at h
  rw [putL, putL_get vs _ _ _ (by simp; omega)]
  by_cases h1 : off + 1 ≤ i ∧ i < off + 1 + vs.length
  ·rw [if_pos h1, if_pos (by simp; omega), show i - off = (i - (off + 1)) + 1 by omega, List.getElem?_cons_succ]
  ·rw [if_neg h1]
   by_cases h2 : i = off
   ·subst h2; rw [if_pos (by simp), List.getElem?_set_self (by omega)]; simp
   ·rw [if_neg (by simp; omega), List.getElem?_set_ne (by omega)]
theorem foldl_put (xs : List Value) : ∀ (k off : Nat) (A : Array Value), ((xs.zipIdx k).foldl (fun cs (p : Value × Nat) => cs.setIfInBounds (off + p.2) p.1) A).toList = putL A.toList (off + k) xs := by
 induction xs with
 | nil => intro k off A; rfl
 | cons x xs ih =>
  intro k off A
  simp only [List.zipIdx_cons, List.foldl_cons]
  rw [ih]
  simp [putL, Nat.add_assoc]
def partsFrom : Nat → List Value → List (Nat × Value)
 | _, [] => []
 | k, v :: vs => (k, v) :: partsFrom (k + 1) vs
def flatC (vs : List Value) : List Value := vs.flatMap (fun v => v.cells.toList)
theorem fill_parts (size : Nat) : ∀ (vs : List Value) (k : Nat) (A : Array Value), (∀ v ∈ vs, v.cells.size = size) → (k + vs.length) * size ≤ A.size →
   ∃ B, Instr.fill (fun i => some (i * size, size)) A (partsFrom k vs) = some B ∧ B.toList = putL A.toList (k * size) (flatC vs)
 | [], k, A, _, _ => ⟨A, rfl, rfl⟩
 | v :: vs, k, A, hv, hs => by
  have h1 : v.cells.size = size := hv v (List.mem_cons_self ..)
  simp only [List.length_cons] at hs
  have hle : k * size + size ≤ A.size := by
   have : (k + 1) * size ≤ (k + (vs.length + 1)) * size := Nat.mul_le_mul_right _ (by omega)
   rw [Nat.add_mul, Nat.one_mul] at this; omega
  simp only [partsFrom, Instr.fill]
  rw [if_neg (by simp [h1]; omega)]
  have hf : (v.cells.zipIdx.foldl (fun cs (p : Value × Nat) => cs.setIfInBounds (k * size + p.2) p.1) A).toList = putL A.toList (k * size) v.cells.toList := by
   have := foldl_put v.cells.toList 0 (k * size) A
   simp only [Nat.add_zero] at this
   rw [← this]
   congr 1
   rw [← Array.foldl_toList]
   simp
  obtain ⟨B, hB, hl⟩ := fill_parts size vs (k + 1) (v.cells.zipIdx.foldl (fun cs (p : Value × Nat) => cs.setIfInBounds (k * size + p.2) p.1) A) (fun u hu => hv u (List.mem_cons_of_mem _ hu)) (by
   have : (v.cells.zipIdx.foldl (fun cs (p : Value × Nat) => cs.setIfInBounds (k * size + p.2) p.1) A).size = A.size := by
    rw [← Array.length_toList, hf, putL_length, Array.length_toList]
   rw [this, show k + 1 + vs.length = k + (vs.length + 1) by omega]; exact hs)
  refine ⟨B, hB, ?_⟩
  rw [hl, hf]
  simp only [flatC, List.flatMap_cons]
  have happ : ∀ (a b cs : List Value) (off : Nat), putL (putL cs off a) (off + a.length) b = putL cs off (a ++ b) := by
   intro a
   induction a with
   | nil => intro b cs off; rfl
   | cons x a ih => intro b cs off; simp only [putL, List.length_cons, List.cons_append]; rw [← ih, show off + 1 + a.length = off + (a.length + 1) by omega]
  rw [← happ, show (k + 1) * size = k * size + v.cells.toList.length by rw [Array.length_toList, h1, Nat.add_mul, Nat.one_mul]]
theorem putL_all (vs cs : List Value) (h : vs.length = cs.length) : putL cs 0 vs = vs := by
 apply List.ext_getElem?
 intro i
 rw [putL_get _ _ _ _ (by omega)]
 split
 ·simp
 ·rw [List.getElem?_eq_none (by omega), List.getElem?_eq_none (by omega)]
theorem flatC_length (size : Nat) : ∀ vs : List Value, (∀ v ∈ vs, v.cells.size = size) → (flatC vs).length = vs.length * size
 | [], _ => by simp [flatC]
 | v :: vs, h => by
  have := flatC_length size vs (fun u hu => h u (List.mem_cons_of_mem _ hu))
  simp only [flatC, List.flatMap_cons, List.length_append, Array.length_toList, List.length_cons] at this ⊢
  rw [this, h v (List.mem_cons_self ..), Nat.add_mul, Nat.one_mul, Nat.add_comm]
def elemT (P : Program) (t : TypeId) : Option TypeId := match P.underlying t with | some (.slice e) => some e | _ => none
section
variable {P : Program} {ops : Array Oper} {Q : Exit → Act → World → Prop} {dr : Bool} {fu k : Nat} {rest : List (Nat × Oper)} {a : Act} {w w0 : World} {M Z0 : Zone} {L : List Res} {φ : Fact}
 {d : Option Tmp} {ty : TypeId} {pos : String} {aft : Array Edge} {gd : Option (Nat × Bool)} {x y : Operand} {t t' : TypeId}
end
section
variable {P : Program} {ρ : Operand → Value} {w0 : World} {M Z0 : Zone} {L : List Res} {φ : Fact} {d : Option Tmp} {ty : TypeId} {pos : String} {aft : Array Edge} {gd : Option (Nat × Bool)} {x : Operand} {t t' : TypeId}
theorem Y_conv1 {S : World → Prop} {b : Nat} {e : TypeId} {c : UInt8} (he : elemT P t = some e) (hu8 : P.underlying e = some (.int .u8)) (hs : isStrT P t' = true) (hx : ρ x = .slice (some ⟨b, 0, none⟩) 1 1) (hc : ∀ w, S w → w.cell? ⟨b, 0, none⟩ = some (.int .u8 (c.toNat : Int))) :
   Yld P S ρ ⟨d, .convert t t' x, ty, pos, aft, gd⟩ (.string ⟨#[c]⟩) := .mk fun w hw => by
 have hu : P.underlying t' = some .string := by unfold isStrT at hs; split at hs <;> simp_all
 have hc := hc w hw
 unfold elemT at he
 split at he
 ·rename_i e' hue
  obtain rfl := Option.some.inj he
  have hb : UInt8.ofNat (c.toNat : Int).toNat = c := by simp
  have hl : (loadCells ⟨b, 0, none⟩ 1).run P w = .ok #[.int .u8 (c.toNat : Int)] w := by
   simp [loadCells, loadCellsFrom, load, Sem.run, addr_add, hc, Sem.run_bind]
  have hconv : (Conv.bytesToString (.slice (some ⟨b, 0, none⟩) 1 1)).run P w = .ok (.string ⟨#[c]⟩) w := by
   simp only [Conv.bytesToString, Sem.run_bind, hl, Result.andThen_ok]
   simp [Sem.run_bind, hb]
   rfl
  simp only [execOp, convert, hx, Sem.run_bind, run_underlying hue, run_underlying hu, Result.andThen_ok, run_underlying hu8, hconv, Sem.run_pure]
 ·cases he
end
end Go.Dk
namespace Go.Dk
open Go
theorem partsFrom_map (f : Operand → Value) : ∀ (ps : List (Nat × Operand)) (k : Nat), ps.map (·.1) = List.range' k ps.length → ps.map (fun p => (p.1, f p.2)) = partsFrom k (ps.map (fun p => f p.2))
 | [], _, _ => rfl
 | p :: ps, k, h => by
  simp only [List.map_cons, List.length_cons, List.range'_succ, List.cons.injEq] at h
  simp only [List.map_cons, partsFrom, List.cons.injEq]
  exact ⟨by rw [h.1], partsFrom_map f ps (k + 1) h.2⟩
section
variable {P : Program} {ops : Array Oper} {Q : Exit → Act → World → Prop} {dr : Bool} {fu k : Nat} {rest : List (Nat × Oper)} {a : Act} {w w0 : World} {M Z0 : Zone} {L : List Res} {φ : Fact}
 {d : Option Tmp} {ty : TypeId} {pos : String} {aft : Array Edge} {gd : Option (Nat × Bool)} {x y : Operand} {t t' : TypeId}
end
end Go.Dk
namespace Go.Dk
open Go
class FO (P : Program) (t : TypeId) (i : Nat) (k : outParam Nat) : Prop where out : fieldOff P t i = some k
class SL (P : Program) (t : TypeId) (m : outParam Nat) : Prop where out : sliceEl P t = some m
class SC (P : Program) (t : TypeId) : Prop where out : scalarT P t = true
class ST3 (P : Program) (t : TypeId) : Prop where out : structT P t = some 3
class IsStr (P : Program) (t : TypeId) : Prop where out : isStrT P t = true
class IsBool (P : Program) (t : TypeId) : Prop where out : P.underlying t = some .bool
class IsI64 (P : Program) (t : TypeId) : Prop where out : P.underlying t = some (.int .i64)
class IsU8 (P : Program) (t : TypeId) : Prop where out : P.underlying t = some (.int .u8)
class IsInt (P : Program) (t : TypeId) : Prop where out : ∃ k, P.underlying t = some (.int k)
class SZ (P : Program) (t : TypeId) (m : outParam Nat) : Prop where out : (P.info? t).map (·.size) = some m
class ZR (P : Program) (t : TypeId) (cs : outParam (List Value)) : Prop where out : zeroB P t = some cs
class EB (P : Program) (t : TypeId) (e sz : outParam Nat) : Prop where out : elemT P t = some e ∧ (P.info? e).map (·.size) = some sz ∧ (zeroB P e).isSome = true
class CB (P : Program) (f : FuncId) : Prop where out : callB P f = true
class XIB (P : Program) (f : FuncId) : Prop where out : extIB P f
class CV (P : Program) (t t' : TypeId) : Prop where out : ∃ e, elemT P t = some e ∧ P.underlying e = some (.int .u8) ∧ isStrT P t' = true
class DrM (P : Program) : Prop where out : P.follows .mixedOrders = true
instance (P : Program) (t : TypeId) [h : IsI64 P t] : IsInt P t := ⟨_, h.out⟩
instance (P : Program) (t : TypeId) [h : IsU8 P t] : IsInt P t := ⟨_, h.out⟩
structure In64 (a : Int) : Prop where
 lo : -9223372036854775808 ≤ a
 hi : a ≤ 9223372036854775807
structure In8 (a : Int) : Prop where
 lo : 0 ≤ a
 hi : a ≤ 255
structure Dv (a b : Int) : Prop where
 lo : 0 ≤ a
 mx : a ≤ 9223372036854775807
 hi : 0 < b
def xorI (a b : Int) : Int := IntKind.i64.wrap (BitVec.ofInt 64 a ^^^ BitVec.ofInt 64 b).toNat
section
variable {P : Program} {S : World → Prop} {ρ : Operand → Value} {d : Option Tmp} {ty : TypeId} {pos : String} {aft : Array Edge} {gd : Option (Nat × Bool)} {x y c : Operand} {t t' : TypeId}
theorem sliceEl_out {t m : Nat} (h : sliceEl P t = some m) : ∃ e i, P.underlying t = some (.slice e) ∧ P.info? e = some i ∧ i.size = m := by
 unfold sliceEl at h
 split at h
 ·rename_i e he
  split at h
  ·rename_i i hi
   exact ⟨e, i, he, hi, Option.some.inj h⟩
  ·cases h
 ·cases h
theorem Y_sliceTo {hi : Operand} {a : Option Addr} {n cap m : Nat} {h : Int} (ht : sliceEl P t = some m) (hx : ρ x = .slice a n cap) (hh : ρ hi = .int .i64 h) (hb : 0 ≤ h ∧ h ≤ cap) :
   Yld P S ρ ⟨d, .slice t x none (some hi) none, ty, pos, aft, gd⟩ (.slice a h.toNat cap) := .mk fun w _ => by
 obtain ⟨e, i, hu, hi', hs⟩ := sliceEl_out ht
 have ha : (a.map fun x => x.add 0) = a := by cases a <;> simp [Addr.add]
 simp [execOp, Instr.sliceAt, Sem.run_bind, run_underlying hu, hx, hh, Instr.slice, Instr.sliceBounds, Instr.sliceBound, asIntOf, hb, run_sizeOf hi', ha]
theorem Y_sliceFrom {lo : Operand} {a : Option Addr} {n cap m : Nat} {l : Int} (ht : sliceEl P t = some m) (hx : ρ x = .slice a n cap) (hl : ρ lo = .int .i64 l) (hb : 0 ≤ l ∧ l ≤ n) :
   Yld P S ρ ⟨d, .slice t x (some lo) none none, ty, pos, aft, gd⟩ (.slice (if cap = l.toNat then a else a.map (·.add (l.toNat * m))) (n - l.toNat) (cap - l.toNat)) := .mk fun w _ => by
 obtain ⟨e, i, hu, hi', hs⟩ := sliceEl_out ht
 simp [execOp, Instr.sliceAt, Sem.run_bind, run_underlying hu, hx, hl, Instr.slice, Instr.sliceBounds, Instr.sliceBound, asIntOf, hb, run_sizeOf hi', hs]
theorem Y_rem {a b : Int} (hx : ρ x = .int .i64 a) (hy : ρ y = .int .i64 b) (h : Dv a b) : Yld P S ρ ⟨d, .binOp .rem t x y t', ty, pos, aft, gd⟩ (.int .i64 (a % b)) := .mk fun _ _ => by
 have hb : b ≠ 0 := by have := h.hi; omega
 simp [go_sem, execOp, hx, hy, eqGuard, binOp, Op.intDiv, hb, Int.tmod_eq_emod_of_nonneg h.lo]
theorem Y_quo {a b : Int} (hx : ρ x = .int .i64 a) (hy : ρ y = .int .i64 b) (h : Dv a b) : Yld P S ρ ⟨d, .binOp .quo t x y t', ty, pos, aft, gd⟩ (.int .i64 (a / b)) := .mk fun _ _ => by
 have hb : b ≠ 0 := by have := h.hi; omega
 have h1 : 0 ≤ a / b := Int.ediv_nonneg h.lo (by have := h.hi; omega)
 have h2 : a / b ≤ a := Int.ediv_le_self b h.lo
 have h3 := h.mx
 simp [go_sem, execOp, hx, hy, eqGuard, binOp, Op.intDiv, hb, Int.tdiv_eq_ediv_of_nonneg h.lo, IntWalk.i64_in _ (show -9223372036854775808 ≤ a / b ∧ a / b ≤ 9223372036854775807 by omega)]
theorem Y_xor {a b : Int} (hx : ρ x = .int .i64 a) (hy : ρ y = .int .i64 b) : Yld P S ρ ⟨d, .binOp .xor t x y t', ty, pos, aft, gd⟩ (.int .i64 (xorI a b)) := .mk fun _ _ => by
 simp [go_sem, execOp, hx, hy, eqGuard, binOp, Op.intBits, xorI]; rfl
theorem Y_toInt {k : IntKind} {a : Int} (h1 : ∃ k, P.underlying t = some (.int k)) (h2 : P.underlying t' = some (.int .i64)) (hx : ρ x = .int k a) (h : -9223372036854775808 ≤ a ∧ a ≤ 9223372036854775807) : Yld P S ρ ⟨d, .convert t t' x, ty, pos, aft, gd⟩ (.int .i64 a) := .mk fun w _ => by
 obtain ⟨k', h1⟩ := h1
 simp [go_sem, execOp, convert, hx, Sem.run_bind, run_underlying h1, run_underlying h2, Conv.intToInt, IntWalk.i64_in _ h]
end
structure Ix (i n : Int) : Prop where
 lo : 0 ≤ i
 hi : i < n
structure Le (i n : Int) : Prop where
 lo : 0 ≤ i
 hi : i ≤ n
inductive At (b : Nat) : List Res → List Value → TypeId → Prop
 | here {cs T L} : At b (blk b cs T :: L) cs T
 | there {r cs T L} (h : At b L cs T) : At b (r :: L) cs T
theorem At.get {b : Nat} {L : List Res} {cs : List Value} {T : TypeId} (h : At b L cs T) : ∃ n : Nat, L[n]? = some (blk b cs T) := by
 induction h with
 | here => exact ⟨0, rfl⟩
 | there _ ih => obtain ⟨n, hn⟩ := ih; exact ⟨n + 1, by simpa using hn⟩
inductive CellIs (S : World → Prop) (b off : Nat) (v : Value) : Prop
 | mk (h : ∀ w, S w → w.cell? ⟨b, off, none⟩ = some v)
theorem CellIs.own {w0 : World} {M Z0 : Zone} {L : List Res} {φ : Fact} {b off : Nat} {cs : List Value} {T : TypeId} {v : Value} (h : At b L cs T) (hv : cs[off]? = some v) : CellIs (St w0 M Z0 L φ) b off v := by
 obtain ⟨n, hn⟩ := h.get
 exact ⟨fun w hw => hw.cell hn hv⟩
inductive Cell3 (S : World → Prop) (b off : Nat) (v0 v1 v2 : Value) : Prop
 | mk (h : ∀ w, S w → w.cell? ⟨b, off, none⟩ = some v0 ∧ w.cell? ⟨b, off + 1, none⟩ = some v1 ∧ w.cell? ⟨b, off + 2, none⟩ = some v2)
theorem Cell3.own {w0 : World} {M Z0 : Zone} {L : List Res} {φ : Fact} {b off : Nat} {cs : List Value} {T : TypeId} {v0 v1 v2 : Value} (h : At b L cs T) (h0 : cs[off]? = some v0) (h1 : cs[off + 1]? = some v1) (h2 : cs[off + 2]? = some v2) : Cell3 (St w0 M Z0 L φ) b off v0 v1 v2 := by
 obtain ⟨n, hn⟩ := h.get
 exact ⟨fun w hw => ⟨hw.cell hn h0, hw.cell hn h1, hw.cell hn h2⟩⟩
def okNil : Value → Bool
 | .pointer (some _) => true
 | .func (.func _) _ _ => true
 | _ => false
def plT (P : Program) (t : TypeId) : Option (List (Nat × Nat)) := match P.underlying t with
 | some (.struct fs) => fs.toList.mapM fun f => (P.info? f.type).map fun i => (f.offset, i.size)
 | _ => none
class BT (P : Program) (t : TypeId) : Prop where
 pl : plT P t = some [(0, 1), (1, 1), (2, 1)]
 zero : zeroB P t = some [.int .i64 0, .int .i64 0, .slice none 0 0]
theorem bt_built {P : Program} {t : TypeId} (h : BT P t) (ps : List (Nat × Value)) : P.built t ps = Instr.fill ([(0, 1), (1, 1), (2, 1)].toArray[·]?) #[.int .i64 0, .int .i64 0, .slice none 0 0] ps := by
 obtain ⟨hp, hz⟩ := h
 unfold zeroB at hz
 split at hz
 ·rename_i i hi
  split at hz
  ·rename_i z hzz
   have hz := Option.some.inj hz
   unfold plT at hp
   split at hp
   ·rename_i fs hu
    unfold Program.built
    simp only [hi, hu, hzz, hp]
    have : z.cells = #[.int .i64 0, .int .i64 0, .slice none 0 0] := Array.toList_inj.1 hz
    rw [this]
   ·cases hp
  ·cases hz
 ·cases hz
theorem fill0 {u : Value} (h : oneB u = true) (z : Array Value) (rest : List (Nat × Value)) (i : Nat) (hi : i < 3) (hz : z.size = 3) :
   Instr.fill ([(0, 1), (1, 1), (2, 1)].toArray[·]?) z ((i, u) :: rest) = Instr.fill ([(0, 1), (1, 1), (2, 1)].toArray[·]?) (z.setIfInBounds i u) rest := by
 have hc : u.cells = #[u] := by cases u <;> first | rfl | (simp [oneB] at h)
 have hp : ([(0, 1), (1, 1), (2, 1)] : List (Nat × Nat)).toArray[i]? = some (i, 1) := by
  match i, hi with
  | 0, _ => rfl
  | 1, _ => rfl
  | 2, _ => rfl
 simp only [Instr.fill, hp, hc]
 rw [if_neg (by simp [hz]; omega)]
 rfl
theorem Y_build {P : Program} {S : World → Prop} {ρ : Operand → Value} {d : Option Tmp} {ty : TypeId} {pos : String} {aft : Array Edge} {gd : Option (Nat × Bool)} {t : TypeId} {ps : Array (Nat × Operand)} {cs : Array Value} (hb : BT P t)
   (h : Instr.fill ([(0, 1), (1, 1), (2, 1)].toArray[·]?) #[.int .i64 0, .int .i64 0, .slice none 0 0] ((ps.map fun p => (p.1, ρ p.2)).toList) = some cs) : Yld P S ρ ⟨d, .build t ps, ty, pos, aft, gd⟩ (.agg cs) := .mk fun w _ => by
 simp only [execOp, Sem.run_bind, Go.run_build w t _ _ ((bt_built hb _).trans h), Result.andThen_ok, Sem.run_pure]
inductive YiA (P : Program) (S : World → Prop) (ρ : Operand → Value) : Op → Value → Prop
 | move {x u} (h : ρ x = u) : YiA P S ρ (.move x) u
 | assign {x u} (h : ρ x = u) : YiA P S ρ (.assign x) u
 | pick {c x y b u v} (hc : ρ c = .bool b) (hx : ρ x = u) (hy : ρ y = v) : YiA P S ρ (.pick c x y) (cond b u v)
 | fieldAddr {t x i k b off} [FO P t i k] (h : ρ x = .pointer (some ⟨b, off, none⟩)) : YiA P S ρ (.fieldAddr t x i) (.pointer (some ⟨b, off + k, none⟩))
 | load1 {t x b off v} [SC P t] (h : ρ x = .pointer (some ⟨b, off, none⟩)) (hc : CellIs S b off v) : YiA P S ρ (.load t x) v
 | nilCheck {x u} (h : ρ x = u) (ho : okNil u = true) : YiA P S ρ (.nilCheck x) u
 | lenStr {t x a} [IsStr P t] (h : ρ x = .string a) : YiA P S ρ (.call ⟨.builtin .len, #[x], #[t]⟩) (.int .i64 (a.size : Int))
 | indexAddr {t x y b off len cap m i} [SL P t m] (h : ρ x = .slice (some ⟨b, off, none⟩) len cap) (hi : ρ y = .int .i64 i) (hb : Ix i len) : YiA P S ρ (.indexAddr t x y) (.pointer (some ⟨b, off + i.toNat * m, none⟩))
 | index {t x y a i} [IsStr P t] (h : ρ x = .string a) (hi : ρ y = .int .i64 i) (hb : Ix i a.size) : YiA P S ρ (.index t x y) (.int .u8 ((byteAt a i.toNat).toNat : Int))
 | add {t t' x y a b} [IsI64 P t] (hx : ρ x = .int .i64 a) (hy : ρ y = .int .i64 b) (h : In64 (a + b)) : YiA P S ρ (.binOp .add t x y t') (.int .i64 (a + b))
 | sub {t t' x y a b} [IsI64 P t] (hx : ρ x = .int .i64 a) (hy : ρ y = .int .i64 b) (h : In64 (a - b)) : YiA P S ρ (.binOp .sub t x y t') (.int .i64 (a - b))
 | mul {t t' x y a b} [IsI64 P t] (hx : ρ x = .int .i64 a) (hy : ρ y = .int .i64 b) (h : In64 (a * b)) : YiA P S ρ (.binOp .mul t x y t') (.int .i64 (a * b))
 | eql {t t' x y k a b} [IsInt P t] (hx : ρ x = .int k a) (hy : ρ y = .int k b) : YiA P S ρ (.binOp .eql t x y t') (.bool (decide (a = b)))
 | neq {t t' x y k a b} [IsInt P t] (hx : ρ x = .int k a) (hy : ρ y = .int k b) : YiA P S ρ (.binOp .neq t x y t') (.bool (!decide (a = b)))
 | lss {t t' x y k a b} [IsInt P t] (hx : ρ x = .int k a) (hy : ρ y = .int k b) : YiA P S ρ (.binOp .lss t x y t') (.bool (decide (a < b)))
 | leq {t t' x y k a b} [IsInt P t] (hx : ρ x = .int k a) (hy : ρ y = .int k b) : YiA P S ρ (.binOp .leq t x y t') (.bool (decide (a ≤ b)))
 | gtr {t t' x y k a b} [IsInt P t] (hx : ρ x = .int k a) (hy : ρ y = .int k b) : YiA P S ρ (.binOp .gtr t x y t') (.bool (decide (b < a)))
 | geq {t t' x y k a b} [IsInt P t] (hx : ρ x = .int k a) (hy : ρ y = .int k b) : YiA P S ρ (.binOp .geq t x y t') (.bool (decide (b ≤ a)))
 | not {t x b} (h : ρ x = .bool b) : YiA P S ρ (.unOp .not t x) (.bool (!b))
 | sliceStrTo {t x hi a h} [IsStr P t] (hx : ρ x = .string a) (hh : ρ hi = .int .i64 h) (hb : Le h a.size) : YiA P S ρ (.slice t x none (some hi) none) (.string (a.extract 0 h.toNat))
 | sliceStrFrom {t x lo a l} [IsStr P t] (hx : ρ x = .string a) (hl : ρ lo = .int .i64 l) (hb : Le l a.size) : YiA P S ρ (.slice t x (some lo) none none) (.string (a.extract l.toNat a.size))
 | extract {x i u} {vs : Array Value} (h : ρ x = .tuple vs) (hv : vs[i]? = some u) : YiA P S ρ (.extract x i) u
 | makeFunc {fn} {first cap : List Operand} {vf vc : List Value} (hf : first.map ρ = vf) (hc : cap.map ρ = vc) : YiA P S ρ (.makeFunc fn first.toArray cap.toArray) (.func fn vf.toArray vc.toArray)
 | indexByte {f x y s b ats} [XIB P f] (hx : ρ x = .string s) (hy : ρ y = .int .u8 (b.toNat : Int)) (hff : ρ (.func f) = .func (.func f) #[] #[]) : YiA P S ρ (.call ⟨.value (.func f), #[x, y], ats⟩) (.int .i64 (idxB s b))
 | conv1 {t t' x b c} [CV P t t'] (h : ρ x = .slice (some ⟨b, 0, none⟩) 1 1) (hc : CellIs S b 0 (.int .u8 (c.toNat : Int))) : YiA P S ρ (.convert t t' x) (.string ⟨#[c]⟩)
inductive YiB (P : Program) (S : World → Prop) (ρ : Operand → Value) : Op → Value → Prop
 | load3 {t x b off v0 v1 v2} [ST3 P t] (h : ρ x = .pointer (some ⟨b, off, none⟩)) (hc : Cell3 S b off v0 v1 v2) : YiB P S ρ (.load t x) (.agg #[v0, v1, v2])
 | indexAddr {t x y a b off len cap m i} [SL P t m] (h : ρ x = .slice a len cap) (hi : ρ y = .int .i64 i) (hb : Ix i len) (ha : a = some ⟨b, off, none⟩) : YiB P S ρ (.indexAddr t x y) (.pointer (some ⟨b, off + i.toNat * m, none⟩))
 | lenSlice {t x a n cap m} [SL P t m] (h : ρ x = .slice a n cap) : YiB P S ρ (.call ⟨.builtin .len, #[x], #[t]⟩) (.int .i64 (n : Int))
 | add8 {t t' x y a b} [IsU8 P t] (hx : ρ x = .int .u8 a) (hy : ρ y = .int .u8 b) (h : In8 (a + b)) : YiB P S ρ (.binOp .add t x y t') (.int .u8 (a + b))
 | sub8 {t t' x y a b} [IsU8 P t] (hx : ρ x = .int .u8 a) (hy : ρ y = .int .u8 b) (h : In8 (a - b)) : YiB P S ρ (.binOp .sub t x y t') (.int .u8 (a - b))
 | sliceTo {t x hi a n cap h m} [SL P t m] (hx : ρ x = .slice a n cap) (hh : ρ hi = .int .i64 h) (hb : Le h cap) : YiB P S ρ (.slice t x none (some hi) none) (.slice a h.toNat cap)
 | sliceFrom {t x lo a n cap l m} [SL P t m] (hx : ρ x = .slice a n cap) (hl : ρ lo = .int .i64 l) (hb : Le l n) : YiB P S ρ (.slice t x (some lo) none none) (.slice (if cap = l.toNat then a else a.map (·.add (l.toNat * m))) (n - l.toNat) (cap - l.toNat))
 | rem {t t' x y a b} [IsI64 P t] (hx : ρ x = .int .i64 a) (hy : ρ y = .int .i64 b) (h : Dv a b) : YiB P S ρ (.binOp .rem t x y t') (.int .i64 (a % b))
 | quo {t t' x y a b} [IsI64 P t] (hx : ρ x = .int .i64 a) (hy : ρ y = .int .i64 b) (h : Dv a b) : YiB P S ρ (.binOp .quo t x y t') (.int .i64 (a / b))
 | xor {t t' x y a b} [IsI64 P t] (hx : ρ x = .int .i64 a) (hy : ρ y = .int .i64 b) : YiB P S ρ (.binOp .xor t x y t') (.int .i64 (xorI a b))
 | toInt {t t' x k a} [IsInt P t] [IsI64 P t'] (hx : ρ x = .int k a) (h : In64 a) : YiB P S ρ (.convert t t' x) (.int .i64 a)
 | beql {t t' x y a b} [IsBool P t] (hx : ρ x = .bool a) (hy : ρ y = .bool b) : YiB P S ρ (.binOp .eql t x y t') (.bool (decide (a = b)))
 | bneq {t t' x y a b} [IsBool P t] (hx : ρ x = .bool a) (hy : ρ y = .bool b) : YiB P S ρ (.binOp .neq t x y t') (.bool (!decide (a = b)))
inductive YiC (P : Program) (S : World → Prop) (ρ : Operand → Value) : Op → Value → Prop
 | sadd {t t' x y a b} [IsStr P t] (hx : ρ x = .string a) (hy : ρ y = .string b) (h : In64 ((a.size : Int) + b.size)) : YiC P S ρ (.binOp .add t x y t') (.string (a ++ b))
 | seql {t t' x y a b} [IsStr P t] (hx : ρ x = .string a) (hy : ρ y = .string b) : YiC P S ρ (.binOp .eql t x y t') (.bool (a.toList == b.toList))
 | sneq {t t' x y a b} [IsStr P t] (hx : ρ x = .string a) (hy : ρ y = .string b) : YiC P S ρ (.binOp .neq t x y t') (.bool (!(a.toList == b.toList)))
 | build {t} [BT P t] : YiC P S ρ (.build t #[]) (.agg #[.int .i64 0, .int .i64 0, .slice none 0 0])
 | build0 {t x u} [BT P t] (hx : ρ x = u) (h1 : oneB u = true) : YiC P S ρ (.build t #[(0, x)]) (.agg #[u, .int .i64 0, .slice none 0 0])
 | build01 {t x y u v} [BT P t] (hx : ρ x = u) (hy : ρ y = v) (h1 : oneB u = true) (h2 : oneB v = true) : YiC P S ρ (.build t #[(0, x), (1, y)]) (.agg #[u, v, .slice none 0 0])
 | build02 {t x y u v} [BT P t] (hx : ρ x = u) (hy : ρ y = v) (h1 : oneB u = true) (h2 : oneB v = true) : YiC P S ρ (.build t #[(0, x), (2, y)]) (.agg #[u, .int .i64 0, v])
 | build3 {t x y z u v s} [BT P t] (hx : ρ x = u) (hy : ρ y = v) (hz : ρ z = s) (h1 : oneB u = true) (h2 : oneB v = true) (h3 : oneB s = true) : YiC P S ρ (.build t #[(0, x), (1, y), (2, z)]) (.agg #[u, v, s])
inductive Yi (P : Program) (S : World → Prop) (ρ : Operand → Value) (op : Op) (v : Value) : Prop
 | a (h : YiA P S ρ op v)
 | b (h : YiB P S ρ op v)
 | c (h : YiC P S ρ op v)
theorem YiA.sound {P : Program} {S : World → Prop} {ρ : Operand → Value} {op : Op} {v : Value} (h : YiA P S ρ op v) (d : Option Tmp) (ty : TypeId) (pos : String) (aft : Array Edge) (gd : Option (Nat × Bool)) : Yld P S ρ ⟨d, op, ty, pos, aft, gd⟩ v := by
 cases h with
 | move h => exact Y_move h
 | assign h => exact Y_assign h
 | @pick c x y b u v hc hx hy => cases b; exact Y_pickF hc hy; exact Y_pickT hc hx
 | @fieldAddr t x i k b off i1 h => exact Y_fieldAddr i1.out h
 | @load1 t x b off v i1 h hc => exact Y_load1 i1.out h (by cases hc with | mk hc => exact hc)
 | @nilCheck x u h ho =>
  cases v with
  | pointer a => cases a with
   | none => simp [okNil] at ho
   | some a => exact Y_nilCheck h
  | func f a b => cases f with
   | func f => exact Y_nilCheckF h
   | _ => simp [okNil] at ho
  | _ => simp [okNil] at ho
 | @lenStr t x a i1 h => exact Y_lenStr i1.out h
 | @indexAddr t x y b off len cap m i i1 h hi hb => exact Y_indexAddr i1.out h hi ⟨hb.lo, hb.hi⟩
 | @index t x y a i i1 h hi hb => exact Y_indexStr i1.out h hi ⟨hb.lo, by have := hb.lo; have := hb.hi; omega⟩
 | add hx hy h => exact Y_add hx hy ⟨h.lo, h.hi⟩
 | sub hx hy h => exact Y_sub hx hy ⟨h.lo, h.hi⟩
 | mul hx hy h => exact Y_mul hx hy ⟨h.lo, h.hi⟩
 | eql hx hy => exact Y_eql hx hy
 | neq hx hy => exact Y_neq hx hy
 | lss hx hy => exact Y_lss hx hy
 | leq hx hy => exact Y_leq hx hy
 | gtr hx hy => exact Y_gtr hx hy
 | geq hx hy => exact Y_geq hx hy
 | not h => exact Y_not h
 | @sliceStrTo t x hi a h i1 hx hh hb => exact Y_sliceStrTo i1.out hx hh ⟨hb.lo, hb.hi⟩
 | @sliceStrFrom t x hi a h i1 hx hh hb => exact Y_sliceStrFrom i1.out hx hh ⟨hb.lo, hb.hi⟩
 | extract h hv => exact Y_extract h hv
 | makeFunc hf hc => exact Y_makeFunc hf hc
 | @indexByte f x y s b ats i1 hx hy hff => exact Y_indexByte i1.out hx hy hff
 | @conv1 t t' x b c i1 h hc => obtain ⟨e, h1, h2, h3⟩ := i1.out; exact Y_conv1 h1 h2 h3 h (by cases hc with | mk hc => exact hc)
theorem YiB.sound {P : Program} {S : World → Prop} {ρ : Operand → Value} {op : Op} {v : Value} (h : YiB P S ρ op v) (d : Option Tmp) (ty : TypeId) (pos : String) (aft : Array Edge) (gd : Option (Nat × Bool)) : Yld P S ρ ⟨d, op, ty, pos, aft, gd⟩ v := by
 cases h with
 | @load3 t x b off v0 v1 v2 i1 h hc => exact Y_load3 i1.out h (by cases hc with | mk hc => exact hc)
 | @indexAddr t x y a b off len cap m i i1 h hi hb ha => subst ha; exact Y_indexAddr i1.out h hi ⟨hb.lo, hb.hi⟩
 | @lenSlice t x a n cap m i1 h => exact Y_lenSlice i1.out h
 | add8 hx hy h => exact Y_add8 hx hy ⟨h.lo, h.hi⟩
 | sub8 hx hy h => exact Y_sub8 hx hy ⟨h.lo, h.hi⟩
 | @sliceTo t x hi a n cap h m i1 hx hh hb => exact Y_sliceTo i1.out hx hh ⟨hb.lo, hb.hi⟩
 | @sliceFrom t x lo a n cap l m i1 hx hl hb => exact Y_sliceFrom i1.out hx hl ⟨hb.lo, hb.hi⟩
 | rem hx hy h => exact Y_rem hx hy h
 | quo hx hy h => exact Y_quo hx hy h
 | xor hx hy => exact Y_xor hx hy
 | @toInt t t' x k a i1 i2 hx h => exact Y_toInt i1.out i2.out hx ⟨h.lo, h.hi⟩
 | @beql t t' x y a b i1 hx hy => exact Y_beql hx hy i1.out
 | @bneq t t' x y a b i1 hx hy => exact Y_bneq hx hy i1.out
theorem YiC.sound {P : Program} {S : World → Prop} {ρ : Operand → Value} {op : Op} {v : Value} (h : YiC P S ρ op v) (d : Option Tmp) (ty : TypeId) (pos : String) (aft : Array Edge) (gd : Option (Nat × Bool)) : Yld P S ρ ⟨d, op, ty, pos, aft, gd⟩ v := by
 cases h with
 | sadd hx hy h => exact Y_sadd hx hy (by have := h.hi; omega)
 | seql hx hy => exact Y_seql hx hy
 | sneq hx hy => exact Y_sneq hx hy
 | @build t i1 => refine Y_build i1 ?_; simp only [List.map_toArray, List.map_nil]; rfl
 | @build0 t x u i1 hx h1 => subst hx; refine Y_build i1 ?_; simp only [List.map_toArray, List.map_cons, List.map_nil]; rw [fill0 h1 _ _ 0 (by omega) rfl]; rfl
 | @build01 t x y u v i1 hx hy h1 h2 => subst hx hy; refine Y_build i1 ?_; simp only [List.map_toArray, List.map_cons, List.map_nil]; rw [fill0 h1 _ _ 0 (by omega) rfl, fill0 h2 _ _ 1 (by omega) rfl]; rfl
 | @build02 t x y u v i1 hx hy h1 h2 => subst hx hy; refine Y_build i1 ?_; simp only [List.map_toArray, List.map_cons, List.map_nil]; rw [fill0 h1 _ _ 0 (by omega) rfl, fill0 h2 _ _ 2 (by omega) rfl]; rfl
 | @build3 t x y z u v s i1 hx hy hz h1 h2 h3 => subst hx hy hz; refine Y_build i1 ?_; simp only [List.map_toArray, List.map_cons, List.map_nil]; rw [fill0 h1 _ _ 0 (by omega) rfl, fill0 h2 _ _ 1 (by omega) rfl, fill0 h3 _ _ 2 (by omega) rfl]; rfl
theorem Yi.sound {P : Program} {S : World → Prop} {ρ : Operand → Value} {op : Op} {v : Value} (h : Yi P S ρ op v) (d : Option Tmp) (ty : TypeId) (pos : String) (aft : Array Edge) (gd : Option (Nat × Bool)) : Yld P S ρ ⟨d, op, ty, pos, aft, gd⟩ v := by
 cases h with
 | a h => exact h.sound d ty pos aft gd
 | b h => exact h.sound d ty pos aft gd
 | c h => exact h.sound d ty pos aft gd
section
variable {P : Program} {ops : Array Oper} {Q : Exit → Act → World → Prop} {dr : Bool} {S : World → Prop} {fu k : Nat} {rest : List (Nat × Oper)} {a : Act} {w w0 : World} {M Z0 : Zone} {L : List Res} {φ : Fact}
 {d : Option Tmp} {op : Op} {ty : TypeId} {pos : String} {aft : Array Edge} {gd : Option (Nat × Bool)} {t : TypeId} {x y : Operand}
theorem U0 {v : Value} (hy : Yi P S a.eval op v) (hg : Region.wanted ⟨d, op, ty, pos, aft, gd⟩ (yielded ops a.tmps) = true)
   (h : wpT P ops Q false fu S rest (a.put d v) w) : wpT P ops Q false (fu + 1) S ((k, ⟨d, op, ty, pos, aft, gd⟩) :: rest) a w := T_y0 hg (hy.sound ..) h
theorem U1 {v : Value} (hd : takeA ops ((k, ⟨d, op, ty, pos, aft, gd⟩) :: rest) k ⟨d, op, ty, pos, aft, gd⟩ = true) (hy : Yi P S a.eval op v) (hg : Region.wanted ⟨d, op, ty, pos, aft, gd⟩ (yielded ops a.tmps) = true)
   (h : wpT P ops Q true fu S rest (a.put d v) w) : wpT P ops Q true (fu + 1) S ((k, ⟨d, op, ty, pos, aft, gd⟩) :: rest) a w := T_y hd hg (hy.sound ..) h
theorem U2 {v : Value} (hw : S w) (hd : soleB ops ((k, ⟨d, op, ty, pos, aft, gd⟩) :: rest) k ⟨d, op, ty, pos, aft, gd⟩ = true) (hy : Yi P S a.eval op v) (hg : Region.wanted ⟨d, op, ty, pos, aft, gd⟩ (yielded ops a.tmps) = true)
   (h : wpT P ops Q true fu S rest (a.put d v) w) : wpT P ops Q true (fu + 1) S ((k, ⟨d, op, ty, pos, aft, gd⟩) :: rest) a w := T_y' hw hd hg (hy.sound ..) h
theorem U3 (p : Nat) {kk : Nat} {z : Nat × Oper} {v : Value} (hp : (z :: rest)[p]? = some (kk, ⟨d, op, ty, pos, aft, gd⟩)) (hd : takeA ops (z :: rest) kk ⟨d, op, ty, pos, aft, gd⟩ = true) (hy : Yi P S a.eval op v) (hg : Region.wanted ⟨d, op, ty, pos, aft, gd⟩ (yielded ops a.tmps) = true)
   (h : wpT P ops Q true fu S ((z :: rest).eraseIdx p) (a.put d v) w) : wpT P ops Q true (fu + 1) S (z :: rest) a w := T_ya hp rfl hd hg (hy.sound ..) h
theorem V0 (hg : Region.wanted ⟨d, op, ty, pos, aft, gd⟩ (yielded ops a.tmps) = false)
   (h : wpT P ops Q false fu S rest (a.put d undef) w) : wpT P ops Q false (fu + 1) S ((k, ⟨d, op, ty, pos, aft, gd⟩) :: rest) a w := T_skip0 hg h
theorem V1 (hg : Region.wanted ⟨d, op, ty, pos, aft, gd⟩ (yielded ops a.tmps) = false) (hd : takeB ops ((k, ⟨d, op, ty, pos, aft, gd⟩) :: rest) k ⟨d, op, ty, pos, aft, gd⟩ = true)
   (h : wpT P ops Q true fu S rest (a.put d undef) w) : wpT P ops Q true (fu + 1) S ((k, ⟨d, op, ty, pos, aft, gd⟩) :: rest) a w := T_skip hd hg h
theorem V2 (hw : S w) (hg : Region.wanted ⟨d, op, ty, pos, aft, gd⟩ (yielded ops a.tmps) = false) (hd : soleB ops ((k, ⟨d, op, ty, pos, aft, gd⟩) :: rest) k ⟨d, op, ty, pos, aft, gd⟩ = true)
   (h : wpT P ops Q true fu S rest (a.put d undef) w) : wpT P ops Q true (fu + 1) S ((k, ⟨d, op, ty, pos, aft, gd⟩) :: rest) a w := T_skip' hw hd hg h
theorem C0 {f : FuncId} {xs : List Operand} {ats : Array TypeId} {vs : List Value} {v : Value} [hf : CB P f] (hw : St w0 M Z0 L φ w)
   (hg : Region.wanted ⟨d, .call ⟨.value (.func f), xs.toArray, ats⟩, ty, pos, aft, gd⟩ (yielded ops a.tmps) = true) (hd : (!dr || soleB ops ((k, ⟨d, .call ⟨.value (.func f), xs.toArray, ats⟩, ty, pos, aft, gd⟩) :: rest) k ⟨d, .call ⟨.value (.func f), xs.toArray, ats⟩, ty, pos, aft, gd⟩) = true)
   (hxs : xs.map a.eval = vs) (hc : Calls P f vs.toArray w fun e w' => e = .returned v ∧ Grow w w')
   (h : ∀ w', St w0 M Z0 L φ w' → wpT P ops Q dr fu (St w0 M Z0 L φ) rest (a.put d v) w') :
   wpT P ops Q dr (fu + 1) (St w0 M Z0 L φ) ((k, ⟨d, .call ⟨.value (.func f), xs.toArray, ats⟩, ty, pos, aft, gd⟩) :: rest) a w :=
 T_call hf.out hd hg hxs hc (fun e w' ⟨he, hgr⟩ => ⟨v, he, _, fun _ _ h => h, hw.grow hgr, h w' (hw.grow hgr)⟩)
theorem C1 {f : FuncId} {xs : List Operand} {ats : Array TypeId} {vs : List Value} {R : Ending → World → Prop} [hf : CB P f]
   (hg : Region.wanted ⟨d, .call ⟨.value (.func f), xs.toArray, ats⟩, ty, pos, aft, gd⟩ (yielded ops a.tmps) = true) (hd : (!dr || soleB ops ((k, ⟨d, .call ⟨.value (.func f), xs.toArray, ats⟩, ty, pos, aft, gd⟩) :: rest) k ⟨d, .call ⟨.value (.func f), xs.toArray, ats⟩, ty, pos, aft, gd⟩) = true)
   (hxs : xs.map a.eval = vs) (hc : Calls P f vs.toArray w R)
   (h : ∀ e w', R e w' → ∃ v, e = .returned v ∧ ∃ S' : World → Prop, (dr = true → ∀ w, S' w → S w) ∧ S' w' ∧ wpT P ops Q dr fu S' rest (a.put d v) w') :
   wpT P ops Q dr (fu + 1) S ((k, ⟨d, .call ⟨.value (.func f), xs.toArray, ats⟩, ty, pos, aft, gd⟩) :: rest) a w := T_call hf.out hd hg hxs hc h
theorem B0 {u : Value} {cs : List Value} (hw : St w0 M Z0 L φ w) (hg : Region.wanted ⟨d, .box t x, ty, pos, aft, gd⟩ (yielded ops a.tmps) = true) (hd : (!dr || soleB ops ((k, ⟨d, .box t x, ty, pos, aft, gd⟩) :: rest) k ⟨d, .box t x, ty, pos, aft, gd⟩) = true)
   (hx : a.eval x = u) (hc : u.cells = cs.toArray)
   (h : ∀ b w', St w0 M Z0 (blk b cs t :: L) φ w' → wpT P ops Q dr fu (St w0 M Z0 (blk b cs t :: L) φ) rest (a.put d (.pointer (some ⟨b, 0, none⟩))) w') :
   wpT P ops Q dr (fu + 1) (St w0 M Z0 L φ) ((k, ⟨d, .box t x, ty, pos, aft, gd⟩) :: rest) a w := T_box hw hd hg hx hc h
theorem B1 {cs : List Value} [hz : ZR P t cs] (hw : St w0 M Z0 L φ w) (hg : Region.wanted ⟨d, .alloc t, ty, pos, aft, gd⟩ (yielded ops a.tmps) = true) (hd : (!dr || soleB ops ((k, ⟨d, .alloc t, ty, pos, aft, gd⟩) :: rest) k ⟨d, .alloc t, ty, pos, aft, gd⟩) = true)
   (h : ∀ b w', St w0 M Z0 (blk b cs t :: L) φ w' → wpT P ops Q dr fu (St w0 M Z0 (blk b cs t :: L) φ) rest (a.put d (.pointer (some ⟨b, 0, none⟩))) w') :
   wpT P ops Q dr (fu + 1) (St w0 M Z0 L φ) ((k, ⟨d, .alloc t, ty, pos, aft, gd⟩) :: rest) a w := T_alloc hz.out hw hd hg h
inductive Upd (b : Nat) (f : List Value → List Value) : List Res → List Res → List Value → Prop
 | here {cs T L} : Upd b f (blk b cs T :: L) (blk b (f cs) T :: L) cs
 | there {r L L' cs} (h : Upd b f L L' cs) : Upd b f (r :: L) (r :: L') cs
theorem Upd.get {b : Nat} {f : List Value → List Value} {L L' : List Res} {cs : List Value} (h : Upd b f L L' cs) : ∃ n T, L[n]? = some (blk b cs T) ∧ L' = L.set n (blk b (f cs) T) := by
 induction h with
 | here => exact ⟨0, _, rfl, rfl⟩
 | there _ ih => obtain ⟨n, T, h1, h2⟩ := ih; exact ⟨n + 1, T, by simpa using h1, by simp [h2]⟩
theorem W0 {b off m : Nat} {cs vs : List Value} {L' : List Res} {u : Value} [hsz : SZ P t m] (hw : St w0 M Z0 L φ w) (hg : Region.wanted ⟨d, .store t x y, ty, pos, aft, gd⟩ (yielded ops a.tmps) = true)
   (hd : (!dr || (soleB ops ((k, ⟨d, .store t x y, ty, pos, aft, gd⟩) :: rest) k ⟨d, .store t x y, ty, pos, aft, gd⟩ && covB ops ((k, ⟨d, .store t x y, ty, pos, aft, gd⟩) :: rest) ⟨d, .store t x y, ty, pos, aft, gd⟩)) = true)
   (hx : a.eval x = .pointer (some ⟨b, off, none⟩)) (hy : a.eval y = u) (hc : u.cells = vs.toArray) (hn : Upd b (fun cs => putL cs off vs) L L' cs) (h1 : (vs.all oneB && Nat.beq m vs.length && Nat.ble (off + vs.length) cs.length) = true)
   (h : ∀ w', St w0 M Z0 L' φ w' → wpT P ops Q dr fu (St w0 M Z0 L' φ) rest (a.put d undef) w') :
   wpT P ops Q dr (fu + 1) (St w0 M Z0 L φ) ((k, ⟨d, .store t x y, ty, pos, aft, gd⟩) :: rest) a w := by
 obtain ⟨n, T, h2, rfl⟩ := hn.get
 simp only [Bool.and_eq_true, Nat.beq_eq, Nat.ble_eq] at h1
 exact T_store h2 hw hd hg hx hy hc h1.1.1 hsz.out h1.1.2 h1.2 h
theorem X0 {b : Bool} {j : Nat} {want : Bool} (hy : yielded ops a.tmps j = some b)
   (ht : b = true → wpT P ops Q dr fu S ((k, ⟨d, op, ty, pos, aft, some (j, want)⟩) :: rest) a w)
   (hf : b = false → wpT P ops Q dr fu S ((k, ⟨d, op, ty, pos, aft, some (j, want)⟩) :: rest) a w) : wpT P ops Q dr fu S ((k, ⟨d, op, ty, pos, aft, some (j, want)⟩) :: rest) a w := by
 cases b
 ·exact hf rfl
 ·exact ht rfl
theorem G0 {id : Nat} {l : List Oper} (hw : St w0 M Z0 L φ w) (h : wpT P l.toArray Q false l.length (St w0 M Z0 L φ) (enum 0 l) a w) :
   (Code.region id l.toArray false).wp P Q a w := reg_text hw h
theorem G1 {id : Nat} {l : List Oper} [hm : DrM P] (hw : St w0 M Z0 L φ w) (hQ : ∀ c (a : Act) t w, Q (.panic c) ⟨t, a.defers⟩ w → Q (.panic c) a w) (hsel : Region.noSelect l.toArray = true)
   (h : ∀ w, St w0 M Z0 L φ w → wpT P l.toArray Q true l.length (St w0 M Z0 L φ) (enum 0 l) a w) :
   (Code.region id l.toArray true).wp P Q a w := reg_draw hm.out hsel hQ (fun _ h => h.drew) hw h
end
end Go.Dk
end
section
namespace Go.Dk
open Go
section
variable {w0 w w' : World} {M Z0 : Zone} {L L' : List Res} {φ : Fact} {r s r' : Res}
theorem St.perm (h : St w0 M Z0 L φ w) (hp : L.Perm L') : St w0 M Z0 L' φ w :=
 ⟨h.ext, fun r hr => h.own r (hp.mem_iff.2 hr), fun r hr => h.loc r (hp.mem_iff.2 hr), fun r hr => h.key r (hp.mem_iff.2 hr),
  (hp.pairwise_iff (fun {a b} hab x hx hx' => hab x hx' hx)).1 h.dis, h.stab,
  h.stab _ _ w w (fun b hz _ => ⟨⟨hz.1, fun r hr => hz.2 r (hp.mem_iff.2 hr)⟩, rfl⟩) h.per⟩
theorem St.swap (h : St w0 M Z0 (r :: s :: L) φ w) : St w0 M Z0 (s :: r :: L) φ w := h.perm (List.Perm.swap _ _ _)
theorem St.merge (h : St w0 M Z0 (r :: s :: L) φ w) (hl : r'.Local) (hf : ∀ b, r'.foot b → r.foot b ∨ s.foot b) (ho : r.own w → s.own w → (∀ b, r.foot b → ¬ s.foot b) → r'.own w) : St w0 M Z0 (r' :: L) φ w := by
 have hd := h.dis
 rw [List.pairwise_cons] at hd
 obtain ⟨hd1, hd2⟩ := hd
 rw [List.pairwise_cons] at hd2
 refine ⟨h.ext, ?_, ?_, ?_, ?_, h.stab, ?_⟩
 ·intro x hx; rcases List.mem_cons.1 hx with rfl | hx
  ·exact ho (h.own r (by simp)) (h.own s (by simp)) (hd1 s (by simp))
  ·exact h.own x (by simp [hx])
 ·intro x hx; rcases List.mem_cons.1 hx with rfl | hx
  ·exact hl
  ·exact h.loc x (by simp [hx])
 ·intro x hx b hb; rcases List.mem_cons.1 hx with rfl | hx
  ·rcases hf b hb with h1 | h1
   ·exact h.key r (by simp) b h1
   ·exact h.key s (by simp) b h1
  ·exact h.key x (by simp [hx]) b hb
 ·refine List.Pairwise.cons (fun x hx b hb hb' => ?_) hd2.2
  rcases hf b hb with h1 | h1
  ·exact hd1 x (by simp [hx]) b h1 hb'
  ·exact hd2.1 x hx b h1 hb'
 ·refine h.stab _ _ w w (fun b hz _ => ⟨⟨hz.1, fun x hx hb => ?_⟩, rfl⟩) h.per
  rcases List.mem_cons.1 hx with rfl | hx
  ·rcases hf b hb with h1 | h1
   ·exact hz.2 r (by simp) h1
   ·exact hz.2 s (by simp) h1
  ·exact hz.2 x (by simp [hx]) hb
end
def HT.sl (t : HT) : Value := .slice t.a t.kids.length t.cap
def HT.head : Option Addr → List HT → List Nat
 | some ad, _ :: _ => [ad.block]
 | _, _ => []
mutual
def HT.blocks : HT → List Nat
 | .mk _ _ a _ kids => HT.head a kids ++ HT.blocksL kids
def HT.blocksL : List HT → List Nat
 | [] => []
 | t :: ts => HT.blocks t ++ HT.blocksL ts
end
theorem HT.blocksL_append (ts us : List HT) : HT.blocksL (ts ++ us) = HT.blocksL ts ++ HT.blocksL us := by
 induction ts with
 | nil => rfl
 | cons t ts ih => simp [HT.blocksL, ih]
theorem HT.mem_blocksL {b : Nat} {ts : List HT} : b ∈ HT.blocksL ts ↔ ∃ t ∈ ts, b ∈ t.blocks := by
 induction ts with
 | nil => simp [HT.blocksL]
 | cons t ts ih => simp [HT.blocksL, ih]
mutual
theorem Rd.zone {Z : Zone} {w : World} : ∀ t, Rd Z w t → ∀ b ∈ t.blocks, Z b ∧ b < w.heap.size
 | .mk k n a cap kids, h, b, hb => by
  simp only [Rd] at h
  simp only [HT.blocks, List.mem_append] at hb
  rcases h.1 with rfl | ⟨b', off, rfl, hz, hl⟩
  ·rcases hb with hb | hb
   ·cases a <;> simp [HT.head] at hb
   ·simp [HT.blocksL] at hb
  ·rcases hb with hb | hb
   ·cases kids with
    | nil => simp [HT.head] at hb
    | cons t ts =>
     simp only [HT.head, List.mem_singleton] at hb
     subst hb
     simp only [RdL] at hl
     exact ⟨hz, cell_lt hl.1.1⟩
   ·exact RdL.zone kids hl b hb
theorem RdL.zone {Z : Zone} {w : World} {b0 off : Nat} : ∀ ts, RdL Z w b0 off ts → ∀ b ∈ HT.blocksL ts, Z b ∧ b < w.heap.size
 | [], _, b, hb => by simp [HT.blocksL] at hb
 | t :: ts, h, b, hb => by
  simp only [RdL] at h
  simp only [HT.blocksL, List.mem_append] at hb
  rcases hb with hb | hb
  ·exact Rd.zone t h.2.1 b hb
  ·exact RdL.zone ts h.2.2 b hb
end
mutual
theorem Rd.frame {Z Z' : Zone} {w w' : World} : ∀ t, Rd Z w t → (∀ b ∈ t.blocks, Z' b ∧ w'.heap[b]? = w.heap[b]?) → Rd Z' w' t
 | .mk k n a cap kids, h, hf => by
  simp only [Rd] at h ⊢
  refine ⟨?_, h.2⟩
  rcases h.1 with h1 | ⟨b, off, rfl, hb, hl⟩
  ·exact .inl h1
  ·cases kids with
   | nil => exact .inl rfl
   | cons t ts =>
    have h0 := hf b (by simp [HT.blocks, HT.head])
    exact .inr ⟨b, off, rfl, h0.1, RdL.frame (t :: ts) hl h0.2 (fun c hc => hf c (by simp only [HT.blocks, List.mem_append]; exact .inr hc))⟩
theorem RdL.frame {Z Z' : Zone} {w w' : World} {b off : Nat} : ∀ ts, RdL Z w b off ts → w'.heap[b]? = w.heap[b]? → (∀ c ∈ HT.blocksL ts, Z' c ∧ w'.heap[c]? = w.heap[c]?) → RdL Z' w' b off ts
 | [], _, _, _ => by simp [RdL]
 | t :: ts, h, hk, hf => by
  simp only [RdL] at h ⊢
  exact ⟨⟨(cell_keep hk).trans h.1.1, (cell_keep hk).trans h.1.2.1, (cell_keep hk).trans h.1.2.2⟩,
   Rd.frame t h.2.1 (fun c hc => hf c (by simp only [HT.blocksL, List.mem_append]; exact .inl hc)),
   RdL.frame ts h.2.2 hk (fun c hc => hf c (by simp only [HT.blocksL, List.mem_append]; exact .inr hc))⟩
end
theorem Rd.any {Z : Zone} {w : World} {t : HT} (h : Rd Z w t) : Rd (fun _ => True) w t := Rd.frame t h (fun _ _ => ⟨trivial, rfl⟩)
def Unf (w : World) (b : Nat) : Prop := ∃ cs T, w.heap[b]? = some (.cells cs T (0, 0))
def treeR (t : HT) : Res := ⟨(· ∈ t.blocks), fun w => Rd (fun _ => True) w t ∧ t.blocks.Nodup ∧ ∀ b ∈ t.blocks, Unf w b⟩
theorem treeR_local (t : HT) : (treeR t).Local := fun w w' h k =>
 ⟨Rd.frame t k.1 (fun b hb => ⟨trivial, h b hb⟩), k.2.1, fun b hb => by obtain ⟨cs, T, hh⟩ := k.2.2 b hb; exact ⟨cs, T, (h b hb).trans hh⟩⟩
def kidsR (ts : List HT) : Res := ⟨(· ∈ HT.blocksL ts), fun w => (∀ t ∈ ts, Rd (fun _ => True) w t) ∧ (HT.blocksL ts).Nodup ∧ ∀ b ∈ HT.blocksL ts, Unf w b⟩
theorem kidsR_local (ts : List HT) : (kidsR ts).Local := fun w w' h k =>
 ⟨fun t ht => Rd.frame t (k.1 t ht) (fun b hb => ⟨trivial, h b (HT.mem_blocksL.2 ⟨t, ht, hb⟩)⟩), k.2.1, fun b hb => by obtain ⟨cs, T, hh⟩ := k.2.2 b hb; exact ⟨cs, T, (h b hb).trans hh⟩⟩
structure Own (w w' : World) (t : HT) : Prop where
 own : (treeR t).own w'
 new : ∀ b ∈ t.blocks, w.heap.size ≤ b
theorem Rd.node {Z : Zone} {w : World} {t : HT} (h : Rd Z w t) (k n : Int) : Rd Z w (.mk k n t.a t.cap t.kids) := by
 cases t; simpa only [Rd, HT.a, HT.cap, HT.kids] using h
theorem Own.node {w w' : World} {t : HT} (h : Own w w' t) (k n : Int) : Own w w' (.mk k n t.a t.cap t.kids) := by
 have hb : HT.blocks (.mk k n t.a t.cap t.kids) = t.blocks := by cases t; rfl
 refine ⟨⟨h.own.1.node k n, by rw [hb]; exact h.own.2.1, by rw [hb]; exact h.own.2.2⟩, by rw [hb]; exact h.new⟩
theorem Own.lt {w w' : World} {t : HT} (h : Own w w' t) : ∀ b ∈ t.blocks, b < w'.heap.size := fun b hb => (Rd.zone t h.own.1 b hb).2
theorem Own.rd {w w' : World} {t : HT} (h : Own w w' t) (Z : Zone) : Rd (fun b => Z b ∨ w.heap.size ≤ b) w' t := Rd.frame t h.own.1 (fun b hb => ⟨.inr (h.new b hb), rfl⟩)
section
variable {w0 w w' : World} {M Z0 : Zone} {L : List Res} {φ : Fact}
theorem St.pushTree (h : St w0 M Z0 L φ w) (hg : Grow w w') {t : HT} (ho : Own w w' t) : St w0 M Z0 (treeR t :: L) φ w' :=
 h.push hg (treeR_local t) ho.own (fun b hb => ⟨ho.new b hb, ho.lt b hb⟩)
theorem St.pushNone (h : St w0 M Z0 L φ w) : St w0 M Z0 (kidsR [] :: L) φ w :=
 h.push (Ext.refl _ _) (kidsR_local []) ⟨by simp, by simp [HT.blocksL], by simp [HT.blocksL]⟩ (by intro b hb; simp [kidsR, HT.blocksL] at hb)
theorem St.snoc {t : HT} {ts : List HT} (h : St w0 M Z0 (treeR t :: kidsR ts :: L) φ w) : St w0 M Z0 (kidsR (ts ++ [t]) :: L) φ w := by
 refine h.merge (kidsR_local _) ?_ ?_
 ·intro b hb
  simp only [kidsR, HT.blocksL_append, List.mem_append, HT.blocksL, List.append_nil] at hb
  rcases hb with hb | hb
  ·exact .inr hb
  ·exact .inl hb
 ·intro h1 h2 hd
  refine ⟨?_, ?_, ?_⟩
  ·intro x hx
   rcases List.mem_append.1 hx with hx | hx
   ·exact h2.1 x hx
   ·rw [List.mem_singleton.1 hx]; exact h1.1
  ·rw [HT.blocksL_append, List.nodup_append]
   refine ⟨h2.2.1, by simpa [HT.blocksL] using h1.2.1, ?_⟩
   intro a ha b hb hab
   subst hab
   simp only [HT.blocksL, List.append_nil] at hb
   exact hd a hb ha
  ·intro b hb
   simp only [HT.blocksL_append, List.mem_append, HT.blocksL, List.append_nil] at hb
   rcases hb with hb | hb
   ·exact h2.2.2 b hb
   ·exact h1.2.2 b hb
theorem St.outTree {t : HT} (h : St w0 noneZ Z0 (treeR t :: L) φ w) : Own w0 w t :=
 ⟨h.own (treeR t) (by simp), fun b hb => ((h.key (treeR t) (by simp) b hb).1).resolve_left (fun h => h)⟩
theorem St.rdAt {t : HT} (h : St w0 M Z0 L φ w) (n : Nat) (hn : L[n]? = some (treeR t)) : Rd (fun _ => True) w t := (h.own (treeR t) (List.mem_of_getElem? hn)).1
end
def flatT (ts : List HT) : List Value := flatC (ts.map HT.val)
theorem flatT_nil : flatT [] = [] := rfl
theorem flatT_cons (t : HT) (ts : List HT) : flatT (t :: ts) = .int .i64 t.k :: .int .i64 t.n :: t.sl :: flatT ts := rfl
theorem flatT_append (ts us : List HT) : flatT (ts ++ us) = flatT ts ++ flatT us := by simp [flatT, flatC]
theorem flatT_length (ts : List HT) : (flatT ts).length = ts.length * 3 := by
 rw [flatT, flatC_length 3 _ (by intro v hv; obtain ⟨t, _, rfl⟩ := List.mem_map.1 hv; rfl)]; simp
theorem putL_at (A B : List Value) : ∀ (vs C : List Value), vs.length = C.length → putL (A ++ (C ++ B)) A.length vs = A ++ (vs ++ B) := by
 intro vs C hl
 apply List.ext_getElem?
 intro i
 rw [putL_get _ _ _ _ (by simp; omega)]
 split
 ·rename_i h
  rw [List.getElem?_append_right h.1, List.getElem?_append_left (by omega)]
 ·rename_i h
  rcases Nat.lt_or_ge i A.length with h1 | h1
  ·rw [List.getElem?_append_left h1, List.getElem?_append_left h1]
  ·rw [List.getElem?_append_right h1, List.getElem?_append_right h1, List.getElem?_append_right (by omega), List.getElem?_append_right (by omega), hl]
theorem put_next (us : List HT) (u : HT) (zs : List Value) (m : Nat) (hz : zs.length = 3) : putL (flatT us ++ (List.replicate (m + 1) zs).flatten) (us.length * 3) [.int .i64 u.k, .int .i64 u.n, .slice u.a u.kids.length u.cap] = flatT (us ++ [u]) ++ (List.replicate m zs).flatten := by
 have := putL_at (flatT us) (List.replicate m zs).flatten [.int .i64 u.k, .int .i64 u.n, .slice u.a u.kids.length u.cap] zs (by simp [hz])
 rw [flatT_length] at this
 rw [List.replicate_succ, List.flatten_cons, this, flatT_append, flatT_cons, flatT_nil, HT.sl]
 simp
theorem RdL_of_cells {Z : Zone} {w : World} {b : Nat} : ∀ (ts : List HT) (off : Nat), (∀ j u, (flatT ts)[j]? = some u → w.cell? ⟨b, off + j, none⟩ = some u) → (∀ t ∈ ts, Rd Z w t) → RdL Z w b off ts
 | [], _, _, _ => by simp [RdL]
 | t :: ts, off, hc, hr => by
  simp only [RdL]
  rw [flatT_cons] at hc
  refine ⟨⟨by simpa using hc 0 _ rfl, hc 1 _ rfl, hc 2 _ rfl⟩, hr t (by simp), RdL_of_cells ts (off + 3) (fun j u hj => ?_) (fun x hx => hr x (by simp [hx]))⟩
  rw [Nat.add_assoc, Nat.add_comm 3 j]
  exact hc (j + 3) u (by simpa using hj)
theorem Rd_mk {Z : Zone} {w : World} {b off cap : Nat} {k n : Int} {ts : List HT} (hl : ts.length ≤ cap) (hm : ts.length ≤ 9223372036854775807) (hz : Z b) (h : RdL Z w b off ts) : Rd Z w (.mk k n (some ⟨b, off, none⟩) cap ts) := by
 simp only [Rd]; exact ⟨.inr ⟨b, off, rfl, hz, h⟩, hl, hm⟩
theorem Rd_none {Z : Zone} {w : World} {k n : Int} {a : Option Addr} {cap : Nat} : Rd Z w (.mk k n a cap []) := by
 simp [Rd]
section
variable {w0 w w' : World} {M Z0 : Zone} {L : List Res} {φ : Fact}
theorem St.plant {g : Nat} {cs : List Value} {T : TypeId} {ts : List HT} (h : St w0 M Z0 (blk g cs T :: kidsR ts :: L) φ w) (k n : Int) (cap : Nat) (hl : ts.length ≤ cap) (hm : ts.length ≤ 9223372036854775807)
   (hc : ∀ (j : Nat) (u : Value), (flatT ts)[j]? = some u → cs[j]? = some u) : St w0 M Z0 (treeR (.mk k n (some ⟨g, 0, none⟩) cap ts) :: L) φ w := by
 refine h.merge (treeR_local _) ?_ ?_
 ·intro b hb
  simp only [treeR, HT.blocks, List.mem_append] at hb
  rcases hb with hb | hb
  ·left; cases ts with
   | nil => simp [HT.head] at hb
   | cons t ts => simpa [HT.head, blk] using hb
  ·exact .inr hb
 ·intro h1 h2 hd
  simp only [blk] at h1 hd
  have hnd : g ∉ HT.blocksL ts := hd g rfl
  refine ⟨?_, ?_, ?_⟩
  ·refine Rd_mk hl hm trivial (RdL_of_cells ts 0 (fun j u hj => ?_) h2.1)
   have hcj := hc j u hj
   simp [World.cell?, h1, hcj]
  ·simp only [HT.blocks]
   rw [List.nodup_append]
   refine ⟨?_, h2.2.1, ?_⟩
   ·cases ts <;> simp [HT.head]
   ·intro a ha b hb hab
    subst hab
    cases ts with
    | nil => simp [HT.head] at ha
    | cons t ts =>
     simp only [HT.head, List.mem_singleton] at ha
     subst ha
     exact hnd hb
  ·intro b hb
   simp only [HT.blocks, List.mem_append] at hb
   rcases hb with hb | hb
   ·cases ts with
    | nil => simp [HT.head] at hb
    | cons t ts =>
     simp only [HT.head, List.mem_singleton] at hb
     subst hb
     exact ⟨_, _, h1⟩
   ·exact h2.2.2 b hb
end
def rowR (e size : Nat) (v : Value) (n : Nat) (xs : List Value) : Res := ⟨fun b => v.ownBlock = some b, fun w => w.ownsRow 0 e size v n xs⟩
theorem rowR_local (e size : Nat) (v : Value) (n : Nat) (xs : List Value) : (rowR e size v n xs).Local := by
 intro w w' h k
 simp only [rowR] at k h ⊢
 refine ⟨k.1, ?_⟩
 rcases k.2 with h1 | ⟨g, cap, cur, rfl, h2, h3, h4⟩
 ·exact .inl h1
 ·exact .inr ⟨g, cap, cur, rfl, h2, (h g rfl).trans h3, h4⟩
theorem grownBy_ext {w w' : World} {v : Value} (h : w.grownBy w' v.ownBlock) : Ext (fun b => v.ownBlock = some b) w w' :=
 ⟨h.os, h.tape, h.output, h.size, fun k hk hm => h.block k hk (fun e => hm e.symm)⟩
class AP (P : Program) (t : TypeId) (e sz by_ : outParam Nat) : Prop where
 out : P.underlying t = some (.slice e) ∧ ∃ i z, P.info? e = some i ∧ i.zero = some z ∧ i.size = sz ∧ i.bytes = by_ ∧ z.cells.size = sz ∧ 0 < sz
def apB (P : Program) (t e sz by_ : Nat) : Bool := match P.underlying t with
 | some (.slice e') => e' == e && (match P.info? e with
  | some i => (match i.zero with
   | some z => i.size == sz && i.bytes == by_ && z.cells.size == sz && Nat.blt 0 sz
   | none => false)
  | none => false)
 | _ => false
theorem AP.of {P : Program} {t e sz by_ : Nat} (h : apB P t e sz by_ = true) : AP P t e sz by_ := by
 unfold apB at h
 split at h
 ·rename_i e' hu
  rw [Bool.and_eq_true] at h
  obtain ⟨h1, h2⟩ := h
  have h1 : e' = e := by simpa using h1
  subst h1
  split at h2
  ·rename_i i hi
   split at h2
   ·rename_i z hz
    simp only [Bool.and_eq_true, beq_iff_eq, Nat.blt_eq] at h2
    exact ⟨hu, i, z, hi, hz, h2.1.1.1, h2.1.1.2, h2.1.2, h2.2⟩
   ·cases h2
  ·cases h2
 ·cases h
theorem run_append_row {P : Program} (w : World) (t ty : TypeId) {e sz by_ : Nat} (hp : P.underlying t = some (.slice e) ∧ ∃ i z, P.info? e = some i ∧ i.zero = some z ∧ i.size = sz ∧ i.bytes = by_ ∧ z.cells.size = sz ∧ 0 < sz)
   (v : Value) (n : Nat) (xs : List Value) (hown : w.ownsRow 0 e sz v n xs)
   (a : Addr) (m c : Nat) (news : List Value) (hl : news.length = m * sz) (hnews : ∀ j u, news[j]? = some u → w.cell? (a.add j) = some u) (h1 : ∀ u ∈ news, u.oneCell' = true)
   (hbytes : (n + m) * by_ ≤ 140737488355328) (h63 : n + m ≤ 9223372036854775807) :
   ∃ v' w', (Builtin.append_ #[t, t] ty #[v, .slice (some a) m c]).run P w = .ok v' w' ∧ w'.ownsRow 0 e sz v' (n + m) (xs ++ news) ∧ w.grownBy w' v.ownBlock ∧ ∀ b, v'.ownBlock = some b → v.ownBlock = some b ∨ w.heap.size ≤ b := by
 obtain ⟨ht, i, z, hi, hz, hsize, hby, hzs, hsz⟩ := hp
 have h63' : n + m ≤ maxLen := by simp only [maxLen]; omega
 obtain ⟨v', w', hr, ho, hg, _⟩ := run_append_own (P := P) w 0 t ty e i z sz by_ ht hi hz hsize hby hzs hsz v n xs hown a m c news hl hnews h1 h63' hbytes (Nat.zero_le _)
 refine ⟨v', w', hr, ho, hg, ?_⟩
 rcases hown.2 with ⟨rfl, rfl⟩ | ⟨g, cap, cur, rfl, hbg, hgg, hnc, hcm, hcs, htake⟩
 ·obtain rfl : xs = [] := List.eq_nil_of_length_eq_zero (by simpa using hown.1)
  obtain ⟨v2, w2, hr2, ho2, _⟩ := run_append_own (P := P) w w.heap.size t ty e i z sz by_ ht hi hz hsize hby hzs hsz _ 0 [] (World.ownsRow_nil w _ e sz) a m c news hl hnews h1 h63' hbytes (Nat.le_refl _)
  rw [hr] at hr2
  obtain ⟨rfl, rfl⟩ : v' = v2 ∧ w' = w2 := by injection hr2 with h1 h2; exact ⟨h1, h2⟩
  intro b hb
  exact .inr (ho2.lt b hb).1
 ·by_cases hroom : n + m ≤ cap
  ·have hr2 := run_append_room (P := P) w t ty e i ht hi g n cap cur hgg a m c news (by rw [hsize]; exact hl) hnews h1 hroom (by rw [hsize, hl, hcs, ← Nat.add_mul]; exact Nat.mul_le_mul_right _ hroom)
   rw [hr] at hr2
   injection hr2 with h2 h3
   intro b hb
   rw [h2] at hb
   exact .inl hb
  ·obtain ⟨v2, w2, hr2, ho2, _⟩ := run_append_arg_grows (P := P) w t ty e i z sz by_ ht hi hz hsize hby hzs hsz ⟨g, 0, none⟩ n cap xs hown.1 (hown.cells (g := g) rfl) a m c news hl hnews (by omega) h63' hbytes
   rw [hr] at hr2
   obtain ⟨rfl, rfl⟩ : v' = v2 ∧ w' = w2 := by injection hr2 with h1 h2; exact ⟨h1, h2⟩
   intro b hb
   exact .inr (ho2.lt b hb).1
section
variable {P : Program} {ops : Array Oper} {Q : Exit → Act → World → Prop} {dr : Bool} {fu k : Nat} {rest : List (Nat × Oper)} {a : Act} {w w0 : World} {M Z0 : Zone} {L : List Res} {φ : Fact}
 {d : Option Tmp} {ty : TypeId} {pos : String} {aft : Array Edge} {gd : Option (Nat × Bool)} {x y : Operand} {t t' : TypeId}
theorem rep_get (zs : List Value) : ∀ n i, i < n * zs.length → (List.replicate n zs).flatten[i]? = zs[i % zs.length]?
 | 0, i, h => by simp at h
 | n + 1, i, h => by
  rw [List.replicate_succ, List.flatten_cons]
  rcases Nat.lt_or_ge i zs.length with hi | hi
  ·rw [List.getElem?_append_left hi, Nat.mod_eq_of_lt hi]
  ·rw [List.getElem?_append_right hi, rep_get zs n (i - zs.length) (by rw [Nat.add_mul, Nat.one_mul] at h; omega), Nat.mod_eq_sub_mod hi]
theorem made_eq (zs : List Value) (n : Nat) : (madeCells zs.toArray (n * zs.length)).toList = (List.replicate n zs).flatten := by
 apply List.ext_getElem?
 intro i
 have hl : (List.replicate n zs).flatten.length = n * zs.length := by simp
 by_cases hi : i < n * zs.length
 ·have hz : 0 < zs.length := by
    rcases Nat.eq_zero_or_pos zs.length with h | h
    ·rw [h] at hi; simp at hi
    ·exact h
  have hm : i % zs.length < zs.length := Nat.mod_lt _ hz
  rw [rep_get zs n i hi]
  simp [madeCells, hi, hm]
 ·rw [List.getElem?_eq_none (by simp [madeCells]; omega), List.getElem?_eq_none (by rw [hl]; omega)]
theorem B3 {n sz e by_ : Nat} {zs : List Value} [hp : AP P t e sz by_] [hz : ZR P e zs] (hw : St w0 M Z0 L φ w)
   (hg : Region.wanted ⟨d, .makeSlice t x y, ty, pos, aft, gd⟩ (yielded ops a.tmps) = true)
   (hd : (!dr || soleB ops ((k, ⟨d, .makeSlice t x y, ty, pos, aft, gd⟩) :: rest) k ⟨d, .makeSlice t x y, ty, pos, aft, gd⟩) = true)
   (hx : a.eval x = .int .i64 n) (hy : a.eval y = .int .i64 n) (hn : n * sz ≤ 16777216) (hn2 : by_ * n ≤ 281474976710656)
   (h : ∀ b w', St w0 M Z0 (blk b (List.replicate n zs).flatten e :: L) φ w' → wpT P ops Q dr fu (St w0 M Z0 (blk b (List.replicate n zs).flatten e :: L) φ) rest (a.put d (.slice (some ⟨b, 0, none⟩) n n)) w') :
   wpT P ops Q dr (fu + 1) (St w0 M Z0 L φ) ((k, ⟨d, .makeSlice t x y, ty, pos, aft, gd⟩) :: rest) a w := by
 obtain ⟨ht, i, z, hi, hiz, hsize, hby, hzs, hsz⟩ := hp.out
 have hzz := hz.out
 unfold zeroB at hzz
 simp only [hi, hiz, Option.some.injEq] at hzz
 have hlen : zs.length = sz := by rw [← hzz, Array.length_toList, hzs]
 have hr := run_makeSlice (P := P) w t e i z ht hi hiz .i64 .i64 (n : Int) (n : Int) (by omega) (by omega) (by rw [hsize, Int.toNat_natCast]; exact hn) (by rw [hby, ← Int.natCast_mul]; have h' := hn2; generalize by_ * n = q at h' ⊢; omega) (by
  have : n ≤ n * sz := Nat.le_mul_of_pos_right n hsz
  omega)
 have hcs : madeCells z.cells (n * i.size) = ((List.replicate n zs).flatten).toArray := by
  apply Array.toList_inj.1
  rw [← made_eq, hlen, hsize, ← hzz]
 have hs := hw.alloc ((List.replicate n zs).flatten) e
 refine T_go hd hg (v := .slice (some ⟨w.heap.size, 0, none⟩) n n) (w' := w.alloc (.cells ((List.replicate n zs).flatten).toArray e (0, 0))) ?_ (fun _ _ h => h.tail) hs (h _ _ hs)
 simp only [Int.toNat_natCast, hcs] at hr
 simp only [execOp, hx, hy, Sem.run_bind, hr, Result.andThen_ok, Sem.run_pure]
end
end Go.Dk
namespace Go.Dk
open Go
mutual
def T.size : T → Nat
 | .mk _ _ kids => 1 + T.sizeL kids
def T.sizeL : List T → Nat
 | [] => 0
 | t :: ts => T.size t + T.sizeL ts
end
theorem T.size_eq (t : T) : t.size = 1 + T.sizeL t.kids := by cases t; rfl
theorem T.sizeL_len : ∀ ts : List T, ts.length ≤ T.sizeL ts
 | [] => by simp [T.sizeL]
 | t :: ts => by have := T.sizeL_len ts; have := T.size_eq t; simp only [T.sizeL, List.length_cons]; omega
theorem T.sizeL_mem {t : T} : ∀ {ts : List T}, t ∈ ts → T.size t ≤ T.sizeL ts
 | u :: us, h => by
  simp only [T.sizeL]
  rcases List.mem_cons.1 h with rfl | h
  ·omega
  ·have := T.sizeL_mem h; omega
theorem HT.sizeL_kid {t u : HT} (h : u ∈ t.kids) : 1 + T.sizeL u.er.kids ≤ T.sizeL t.er.kids := by
 rw [← T.size_eq]
 exact T.sizeL_mem (by rw [HT.er_kids]; exact List.mem_map_of_mem h)
theorem HT.er_drop {t u : HT} {i : Nat} (hu : t.kids[i]? = some u) : t.er.kids.drop i = u.er :: t.er.kids.drop (i + 1) := by
 have hlt : i < t.kids.length := by
  rcases Nat.lt_or_ge i t.kids.length with h' | h'
  ·exact h'
  ·rw [List.getElem?_eq_none h'] at hu; cases hu
 rw [HT.er_kids, List.drop_eq_getElem_cons (by simpa using hlt)]
 congr 1
 rw [List.getElem_map]
 rw [List.getElem?_eq_getElem hlt] at hu
 rw [Option.some.inj hu]
theorem HT.er_eq (t : HT) : t.er = .mk t.k t.n (t.kids.map HT.er) := by cases t; simp [HT.er, HT.k, HT.n, HT.kids, HT.erL_eq]
theorem HT.er_len (t : HT) : t.er.kids.length = t.kids.length := by simp [HT.er_kids]
mutual
def T.beq : T → T → Bool
 | .mk k n ts, .mk l m us => decide (k = l) && (decide (n = m) && T.beqL ts us)
def T.beqL : List T → List T → Bool
 | [], [] => true
 | t :: ts, u :: us => T.beq t u && T.beqL ts us
 | _, _ => false
end
mutual
theorem T.beq_iff : ∀ t u : T, T.beq t u = true ↔ t = u
 | .mk k n ts, .mk l m us => by simp [T.beq, T.beqL_iff ts us]
theorem T.beqL_iff : ∀ ts us : List T, T.beqL ts us = true ↔ ts = us
 | [], [] => by simp [T.beqL]
 | [], u :: us => by simp [T.beqL]
 | t :: ts, [] => by simp [T.beqL]
 | t :: ts, u :: us => by simp [T.beqL, T.beq_iff t u, T.beqL_iff ts us]
end
theorem T.beq_eq (t u : T) : T.beq t u = (decide (t.k = u.k) && (decide (t.n = u.n) && T.beqL t.kids u.kids)) := by cases t; cases u; rfl
theorem T.beq_refl (t : T) : T.beq t t = true := (T.beq_iff t t).2 rfl
end Go.Dk
end
section
namespace Go.Proofs.YtnogehmgpfpjmaaDoor
open Go Go.Dk
def opsOf : Int → Int := fun k => if k = 1 ∨ k = 2 ∨ k = 6 ∨ k = 7 then 0 else if k = 8 ∨ k = 11 ∨ k = 15 ∨ k = 16 then 1 else if k = 3 ∨ k = 4 ∨ k = 5 ∨ k = 13 then 2 else if k = 10 ∨ k = 12 ∨ k = 14 then 3 else if k = 9 then 4 else -1
def mostOf : Int → Int := fun k => if k = 1 then 20 else if k = 2 then 3 else 0
mutual
def scanF : T → Int → Int → Bool × Int
 | .mk k n kids, deep, c => if 400 < c + 1 ∨ 30 < deep ∨ opsOf k ≠ kids.length ∨ ¬ (0 ≤ n ∧ n ≤ mostOf k) then (false, c + 1) else scanL kids (deep + 1) (c + 1)
def scanL : List T → Int → Int → Bool × Int
 | [], _, c => (true, c)
 | t :: ts, d, c => if (scanF t d c).1 then scanL ts d (scanF t d c).2 else (false, (scanF t d c).2)
end
theorem scanF_eq (t : T) (d c : Int) : scanF t d c = if 400 < c + 1 ∨ 30 < d ∨ opsOf t.k ≠ t.kids.length ∨ ¬ (0 ≤ t.n ∧ t.n ≤ mostOf t.k) then (false, c + 1) else scanL t.kids (d + 1) (c + 1) := by
 cases t; simp only [scanF]; rfl
mutual
theorem scanF_bd (t : T) (d c : Int) : (scanF t d c).1 = true → c + 1 ≤ (scanF t d c).2 ∧ (scanF t d c).2 ≤ 400 := by
 cases t with
 | mk k n kids =>
  unfold scanF
  split
  ·intro h; cases h
  ·rename_i h
   intro h1
   have h2 : c + 1 ≤ 400 := by simp only [not_or] at h; omega
   have := scanL_bd kids (d + 1) (c + 1) h2 h1
   omega
theorem scanL_bd (ts : List T) (d c : Int) (hc : c ≤ 400) : (scanL ts d c).1 = true → c ≤ (scanL ts d c).2 ∧ (scanL ts d c).2 ≤ 400 := by
 cases ts with
 | nil => intro _; simp [scanL, hc]
 | cons t ts =>
  unfold scanL
  split
  ·rename_i h
   intro h1
   have a := scanF_bd t d c h
   have b := scanL_bd ts d _ a.2 h1
   omega
  ·intro h; cases h
end
mutual
def shapeF : T → Nat → Bool
 | .mk k n kids, d => decide (1 ≤ d) && (decide (opsOf k = kids.length) && (decide (0 ≤ n ∧ n ≤ mostOf k) && shapeL kids (d - 1)))
def shapeL : List T → Nat → Bool
 | [], _ => true
 | t :: ts, d => shapeF t d && shapeL ts d
end
theorem shapeF_eq (t : T) (d : Nat) : shapeF t d = (decide (1 ≤ d) && (decide (opsOf t.k = t.kids.length) && (decide (0 ≤ t.n ∧ t.n ≤ mostOf t.k) && shapeL t.kids (d - 1)))) := by cases t; simp only [shapeF]; rfl
def validB (t : T) : Bool := shapeF t 30 && decide (t.size ≤ 400)
def cntF (t : T) (m : Nat) : Nat := min t.size (m + 1)
mutual
theorem scanF_iff (t : T) (d c : Nat) (hc : c ≤ 400) (hd : d ≤ 31) : ((scanF t d c).1 = true ↔ shapeF t (31 - d) = true ∧ c + t.size ≤ 400) ∧ ((scanF t d c).1 = true → (scanF t d c).2 = c + t.size) := by
 cases t with
 | mk k n kids =>
  have hs : T.size (.mk k n kids) = 1 + T.sizeL kids := rfl
  unfold scanF shapeF
  by_cases hcond : 400 < (c : Int) + 1 ∨ 30 < (d : Int) ∨ opsOf k ≠ (kids.length : Int) ∨ ¬ (0 ≤ n ∧ n ≤ mostOf k)
  ·rw [if_pos hcond]
   refine ⟨⟨fun h => (by cases h), fun h => ?_⟩, fun h => (by cases h)⟩
   simp only [Bool.and_eq_true, decide_eq_true_eq] at h
   obtain ⟨⟨h1, h2, h3, h4⟩, h5⟩ := h
   exfalso
   rcases hcond with h | h | h | h
   ·omega
   ·omega
   ·exact h h2
   ·exact h h3
  ·rw [if_neg hcond]
   simp only [not_or, Decidable.not_not] at hcond
   have hk : ((c : Int) + 1) = ((c + 1 : Nat) : Int) := by omega
   have hk2 : ((d : Int) + 1) = ((d + 1 : Nat) : Int) := by omega
   rw [hk, hk2]
   have ih := scanL_iff kids (d + 1) (c + 1) (by omega) (by omega)
   rw [decide_eq_true (by omega : 1 ≤ 31 - d), decide_eq_true hcond.2.2.1, decide_eq_true hcond.2.2.2, Bool.true_and, Bool.true_and, Bool.true_and, show 31 - d - 1 = 31 - (d + 1) by omega, hs]
   refine ⟨⟨fun h => ?_, fun h => ?_⟩, fun h => ?_⟩
   ·have := ih.1.1 h; exact ⟨this.1, by omega⟩
   ·exact ih.1.2 ⟨h.1, by omega⟩
   ·have := ih.2 h; omega
theorem scanL_iff (ts : List T) (d c : Nat) (hc : c ≤ 400) (hd : d ≤ 31) : ((scanL ts d c).1 = true ↔ shapeL ts (31 - d) = true ∧ c + T.sizeL ts ≤ 400) ∧ ((scanL ts d c).1 = true → (scanL ts d c).2 = c + T.sizeL ts) := by
 cases ts with
 | nil => simp [scanL, shapeL, T.sizeL, hc]
 | cons t ts =>
  have ih := scanF_iff t d c hc hd
  have hs : T.sizeL (t :: ts) = t.size + T.sizeL ts := rfl
  unfold scanL shapeL
  by_cases h1 : (scanF t d c).1 = true
  ·have h2 := ih.2 h1
   have h3 := ih.1.1 h1
   have ih2 := scanL_iff ts d (c + t.size) h3.2 hd
   have hk : ((c : Int) + (t.size : Int)) = ((c + t.size : Nat) : Int) := by omega
   rw [if_pos h1, h2, hk, h3.1, Bool.true_and, hs]
   refine ⟨⟨fun h => ?_, fun h => ?_⟩, fun h => ?_⟩
   ·have := ih2.1.1 h; exact ⟨this.1, by omega⟩
   ·exact ih2.1.2 ⟨h.1, by omega⟩
   ·have := ih2.2 h; omega
  ·rw [if_neg h1, hs]
   refine ⟨⟨fun h => (by cases h), fun h => ?_⟩, fun h => (by cases h)⟩
   exfalso
   rw [Bool.and_eq_true] at h
   exact h1 (ih.1.2 ⟨h.1.1, by omega⟩)
end
theorem scan_valid (t : T) : (scanF t 1 0).1 = validB t := by
 have := (scanF_iff t 1 0 (by omega) (by omega)).1
 unfold validB
 rw [Bool.eq_iff_iff, Bool.and_eq_true, decide_eq_true_eq]
 simpa using this
theorem shapeL_mem {u : T} {d : Nat} : ∀ {ts : List T}, shapeL ts d = true → u ∈ ts → shapeF u d = true
 | t :: ts, h, hu => by
  simp only [shapeL, Bool.and_eq_true] at h
  rcases List.mem_cons.1 hu with rfl | hu
  ·exact h.1
  ·exact shapeL_mem h.2 hu
theorem validB_size {t : T} (h : validB t = true) : t.size ≤ 400 := by
 unfold validB at h
 rw [Bool.and_eq_true, decide_eq_true_eq] at h
 exact h.2
end Go.Proofs.YtnogehmgpfpjmaaDoor
end
section
namespace Go.Proofs.YtnogehmgpfpjmaaDoor
open Go Go.Dk
def under (k : Int) (i : Nat) : Int := if i = 1 ∧ (k = 3 ∨ k = 4 ∨ k = 13) then 1 else 0
theorem under_bd (k : Int) (i : Nat) : 0 ≤ under k i ∧ under k i ≤ 1 := by unfold under; split <;> omega
mutual
def shT (a : Int) : T → Int → T
 | .mk k n ts, c => .mk k (if k = 1 ∧ c ≤ n then n + a else n) (shL a k 0 ts c)
def shL (a k : Int) : Nat → List T → Int → List T
 | _, [], _ => []
 | i, t :: ts, c => shT a t (c + under k i) :: shL a k (i + 1) ts c
end
mutual
def sbT (u : T) : T → Int → Int → T
 | .mk k n ts, x, d => if k = 1 ∧ n = x then shT d u 0 else .mk k (if k = 1 ∧ x < n then n - 1 else n) (sbL u k 0 ts x d)
def sbL (u : T) (k : Int) : Nat → List T → Int → Int → List T
 | _, [], _, _ => []
 | i, t :: ts, x, d => sbT u t (x + under k i) (d + under k i) :: sbL u k (i + 1) ts x d
end
mutual
theorem sh_comm {a b : Int} (ha : 0 ≤ a) (hb : 0 ≤ b) : ∀ (t : T) (c e : Int), c ≤ e → shT a (shT b t c) (e + b) = shT b (shT a t e) c
 | .mk k n ts, c, e, h => by
  simp only [shT]
  rw [sh_commL ha hb k ts 0 c e h]
  congr 1
  by_cases hk : k = 1 <;> simp only [hk, true_and, false_and, if_false]
  repeat' split
  all_goals omega
theorem sh_commL {a b : Int} (ha : 0 ≤ a) (hb : 0 ≤ b) (k : Int) : ∀ (ts : List T) (i : Nat) (c e : Int), c ≤ e → shL a k i (shL b k i ts c) (e + b) = shL b k i (shL a k i ts e) c
 | [], i, c, e, h => rfl
 | t :: ts, i, c, e, h => by
  simp only [shL]
  rw [show e + b + under k i = e + under k i + b by omega, sh_comm ha hb t (c + under k i) (e + under k i) (by omega), sh_commL ha hb k ts (i + 1) c e h]
end
mutual
theorem sh_sb (u : T) {a : Int} (ha : 0 ≤ a) : ∀ (t : T) (c x d : Int), 0 ≤ d → d ≤ x → x ≤ c → shT a (sbT u t x d) c = sbT (shT a u (c - d)) (shT a t (c + 1)) x d
 | .mk k n ts, c, x, d, h0, h1, h2 => by
  simp only [shT, sbT]
  by_cases hk : k = 1
  ·subst hk
   simp only [true_and]
   by_cases hn : n = x
   ·subst hn
    rw [if_pos rfl, if_neg (show ¬ c + 1 ≤ n by omega), if_pos rfl]
    have := sh_comm ha h0 u 0 (c - d) (by omega)
    rw [show c - d + d = c by omega] at this
    exact this
   ·rw [if_neg hn, shT]
    by_cases hn2 : x < n
    ·by_cases hn3 : c + 1 ≤ n
     ·rw [if_pos hn3, if_neg (show ¬ n + a = x by omega), if_pos hn2, if_pos (show x < n + a by omega)]
      simp only [true_and, if_pos (show c ≤ n - 1 by omega), sh_sbL u ha 1 ts 0 c x d h0 h1 h2]
      congr 1; omega
     ·rw [if_neg hn3, if_neg hn, if_pos hn2]
      simp only [true_and, if_neg (show ¬ c ≤ n - 1 by omega), sh_sbL u ha 1 ts 0 c x d h0 h1 h2]
    ·rw [if_neg hn2, if_neg (show ¬ c + 1 ≤ n by omega), if_neg hn, if_neg hn2]
     simp only [true_and, if_neg (show ¬ c ≤ n by omega), sh_sbL u ha 1 ts 0 c x d h0 h1 h2]
  ·simp only [hk, false_and, if_false, shT]
   rw [sh_sbL u ha k ts 0 c x d h0 h1 h2]
theorem sh_sbL (u : T) {a : Int} (ha : 0 ≤ a) (k : Int) : ∀ (ts : List T) (i : Nat) (c x d : Int), 0 ≤ d → d ≤ x → x ≤ c → shL a k i (sbL u k i ts x d) c = sbL (shT a u (c - d)) k i (shL a k i ts (c + 1)) x d
 | [], i, c, x, d, h0, h1, h2 => rfl
 | t :: ts, i, c, x, d, h0, h1, h2 => by
  have hu := under_bd k i
  simp only [shL, sbL]
  rw [sh_sb u ha t (c + under k i) (x + under k i) (d + under k i) (by omega) (by omega) (by omega), sh_sbL u ha k ts (i + 1) c x d h0 h1 h2,
   show c + under k i - (d + under k i) = c - d by omega, show c + 1 + under k i = c + under k i + 1 by omega]
end
def junk : T := .mk 0 0 []
def kd (t : T) (i : Nat) : T := t.kids.getD i junk
theorem sh_get (a k : Int) : ∀ (ts : List T) (i j : Nat) (c : Int), (shL a k i ts c).getD j junk = shT a (ts.getD j junk) (c + under k (i + j))
 | [], i, j, c => by simp [shL, junk, shT]
 | t :: ts, i, 0, c => by simp [shL]
 | t :: ts, i, j + 1, c => by
  simp only [shL, List.getD_cons_succ]
  rw [sh_get a k ts (i + 1) j c, show i + 1 + j = i + (j + 1) by omega]
theorem sh_k (a : Int) (t : T) (c : Int) : (shT a t c).k = t.k := by cases t; rfl
theorem kd_sh (a : Int) (t : T) (c : Int) (j : Nat) : kd (shT a t c) j = shT a (kd t j) (c + under t.k j) := by
 cases t with | mk k n ts =>
 unfold kd
 rw [shT]
 show (shL a k 0 ts c).getD j junk = _
 rw [sh_get, Nat.zero_add]; rfl
def redexT (t : T) : Int :=
 if t.k = 5 then (if (kd t 0).k = 4 then 1 else 0)
 else if t.k = 9 then (if (kd t 3).k = 7 then 2 else if (kd t 3).k = 8 then 3 else 0)
 else if t.k = 12 then (if (kd t 1).k = 11 then 4 else 0)
 else if t.k = 15 then (if (kd t 0).k = 14 then 5 else 0)
 else if t.k = 16 then (if (kd t 0).k = 14 then 6 else 0) else 0
def contractT (t : T) : T :=
 if t.k = 5 then sbT (kd t 1) (kd (kd t 0) 1) 0 0
 else if t.k = 9 then (if (kd t 3).k = 7 then kd t 1 else .mk 5 0 [.mk 5 0 [kd t 2, kd (kd t 3) 0], .mk 9 0 [kd t 0, kd t 1, kd t 2, kd (kd t 3) 0]])
 else if t.k = 12 then kd t 2
 else if t.k = 15 then kd (kd t 0) 1
 else kd (kd t 0) 2
inductive Rx : T → Prop
 | app {t} (h : t.k = 5) (h' : (kd t 0).k = 4) : Rx t
 | zero {t} (h : t.k = 9) (h' : (kd t 3).k = 7) : Rx t
 | succ {t} (h : t.k = 9) (h' : (kd t 3).k = 8) : Rx t
 | move {t} (h : t.k = 12) (h' : (kd t 1).k = 11) : Rx t
 | fst {t} (h : t.k = 15) (h' : (kd t 0).k = 14) : Rx t
 | snd {t} (h : t.k = 16) (h' : (kd t 0).k = 14) : Rx t
theorem rx_iff (t : T) : redexT t ≠ 0 ↔ Rx t := by
 constructor
 ·intro h
  unfold redexT at h
  split at h
  ·split at h
   ·exact .app ‹_› ‹_›
   ·exact absurd rfl h
  ·split at h
   ·split at h
    ·exact .zero ‹_› ‹_›
    ·split at h
     ·exact .succ ‹_› ‹_›
     ·exact absurd rfl h
   ·split at h
    ·split at h
     ·exact .move ‹_› ‹_›
     ·exact absurd rfl h
    ·split at h
     ·split at h
      ·exact .fst ‹_› ‹_›
      ·exact absurd rfl h
     ·split at h
      ·split at h
       ·exact .snd ‹_› ‹_›
       ·exact absurd rfl h
      ·exact absurd rfl h
 ·intro h
  cases h with
  | app h h' => simp [redexT, h, h']
  | zero h h' => simp [redexT, h, h']
  | succ h h' => simp [redexT, h, h']
  | move h h' => simp [redexT, h, h']
  | fst h h' => simp [redexT, h, h']
  | snd h h' => simp [redexT, h, h']
theorem Rx.k {t : T} (h : Rx t) : t.k = 5 ∨ t.k = 9 ∨ t.k = 12 ∨ t.k = 15 ∨ t.k = 16 := by cases h <;> omega
theorem Rx.sh {t : T} (h : Rx t) (a c : Int) : Rx (shT a t c) := by
 cases h with
 | app h h' => exact .app (by rw [sh_k, h]) (by rw [kd_sh, sh_k, h'])
 | zero h h' => exact .zero (by rw [sh_k, h]) (by rw [kd_sh, sh_k, h'])
 | succ h h' => exact .succ (by rw [sh_k, h]) (by rw [kd_sh, sh_k, h'])
 | move h h' => exact .move (by rw [sh_k, h]) (by rw [kd_sh, sh_k, h'])
 | fst h h' => exact .fst (by rw [sh_k, h]) (by rw [kd_sh, sh_k, h'])
 | snd h h' => exact .snd (by rw [sh_k, h]) (by rw [kd_sh, sh_k, h'])
theorem con_app {t : T} (h : t.k = 5) : contractT t = sbT (kd t 1) (kd (kd t 0) 1) 0 0 := by simp [contractT, h]
theorem con_zero {t : T} (h : t.k = 9) (h' : (kd t 3).k = 7) : contractT t = kd t 1 := by simp [contractT, h, h']
theorem con_succ {t : T} (h : t.k = 9) (h' : (kd t 3).k = 8) : contractT t = .mk 5 0 [.mk 5 0 [kd t 2, kd (kd t 3) 0], .mk 9 0 [kd t 0, kd t 1, kd t 2, kd (kd t 3) 0]] := by simp [contractT, h, h']
theorem con_move {t : T} (h : t.k = 12) : contractT t = kd t 2 := by simp [contractT, h]
theorem con_fst {t : T} (h : t.k = 15) : contractT t = kd (kd t 0) 1 := by simp [contractT, h]
theorem con_snd {t : T} (h : t.k = 16) : contractT t = kd (kd t 0) 2 := by simp [contractT, h]
theorem und0 {k : Int} {i : Nat} (h : k ≠ 3 ∧ k ≠ 4 ∧ k ≠ 13) : under k i = 0 := by unfold under; rw [if_neg (by omega)]
theorem con_sh {t : T} (h : Rx t) {a : Int} (ha : 0 ≤ a) {c : Int} (hc : 0 ≤ c) : shT a (contractT t) c = contractT (shT a t c) := by
 cases h with
 | app h h' =>
  rw [con_app h, con_app (by rw [sh_k, h]), sh_sb _ ha _ c 0 0 (by omega) (by omega) hc]
  simp only [kd_sh, h, h', und0 (show (5 : Int) ≠ 3 ∧ (5 : Int) ≠ 4 ∧ (5 : Int) ≠ 13 by decide), show under 4 1 = 1 from rfl, Int.add_zero, Int.sub_zero]
 | zero h h' => rw [con_zero h h', con_zero (by rw [sh_k, h]) (by rw [kd_sh, sh_k, h']), kd_sh, und0 (by omega), Int.add_zero]
 | succ h h' =>
  rw [con_succ h h', con_succ (by rw [sh_k, h]) (by rw [kd_sh, sh_k, h'])]
  simp only [kd_sh, h, h', shT, shL, und0 (show (5 : Int) ≠ 3 ∧ (5 : Int) ≠ 4 ∧ (5 : Int) ≠ 13 by decide), und0 (show (9 : Int) ≠ 3 ∧ (9 : Int) ≠ 4 ∧ (9 : Int) ≠ 13 by decide), und0 (show (8 : Int) ≠ 3 ∧ (8 : Int) ≠ 4 ∧ (8 : Int) ≠ 13 by decide), Int.add_zero]
  simp
 | move h h' => rw [con_move h, con_move (by rw [sh_k, h]), kd_sh, und0 (by omega), Int.add_zero]
 | fst h h' => rw [con_fst h, con_fst (by rw [sh_k, h]), kd_sh, kd_sh, und0 (by omega), und0 (by omega), Int.add_zero, Int.add_zero]
 | snd h h' => rw [con_snd h, con_snd (by rw [sh_k, h]), kd_sh, kd_sh, und0 (by omega), und0 (by omega), Int.add_zero, Int.add_zero]
mutual
inductive Par : T → T → Prop
 | node {k n ts us} (h : ParL ts us) : Par (.mk k n ts) (.mk k n us)
 | red {k n ts us} (h : ParL ts us) (hr : Rx (.mk k n ts)) : Par (.mk k n ts) (contractT (.mk k n us))
inductive ParL : List T → List T → Prop
 | nil : ParL [] []
 | cons {t u ts us} (h : Par t u) (hs : ParL ts us) : ParL (t :: ts) (u :: us)
end
mutual
theorem Par.refl : ∀ t : T, Par t t
 | .mk k n ts => .node (ParL.refl ts)
theorem ParL.refl : ∀ ts : List T, ParL ts ts
 | [] => .nil
 | t :: ts => .cons (Par.refl t) (ParL.refl ts)
end
theorem ParL.get : ∀ {ts us : List T}, ParL ts us → ∀ j, Par (ts.getD j junk) (us.getD j junk)
 | _, _, .nil, j => by simpa using Par.refl junk
 | _, _, .cons h hs, 0 => by simpa using h
 | _, _, .cons h hs, j + 1 => by simpa using hs.get j
theorem ParL.len : ∀ {ts us : List T}, ParL ts us → ts.length = us.length
 | _, _, .nil => rfl
 | _, _, .cons h hs => by simp [hs.len]
theorem ParL.kd {k n : Int} {ts us : List T} (h : ParL ts us) (j : Nat) : Par (kd (.mk k n ts) j) (kd (.mk k n us) j) := h.get j
theorem Par.head {t u : T} (h : Par t u) (hk : t.k ≠ 5 ∧ t.k ≠ 9 ∧ t.k ≠ 12 ∧ t.k ≠ 15 ∧ t.k ≠ 16) : u.k = t.k ∧ ∀ j, Par (kd t j) (kd u j) := by
 cases h with
 | node h => exact ⟨rfl, h.kd⟩
 | red h hr => have := hr.k; simp only [T.k] at this hk; omega
theorem Rx.par {k n : Int} {ts us : List T} (hp : ParL ts us) (h : Rx (.mk k n ts)) : Rx (.mk k n us) := by
 cases h with
 | app h h' => exact .app h (by rw [((hp.kd (k := k) (n := n) 0).head (by omega)).1, h'])
 | zero h h' => exact .zero h (by rw [((hp.kd (k := k) (n := n) 3).head (by omega)).1, h'])
 | succ h h' => exact .succ h (by rw [((hp.kd (k := k) (n := n) 3).head (by omega)).1, h'])
 | move h h' => exact .move h (by rw [((hp.kd (k := k) (n := n) 1).head (by omega)).1, h'])
 | fst h h' => exact .fst h (by rw [((hp.kd (k := k) (n := n) 0).head (by omega)).1, h'])
 | snd h h' => exact .snd h (by rw [((hp.kd (k := k) (n := n) 0).head (by omega)).1, h'])
mutual
theorem Par.sh {a : Int} (ha : 0 ≤ a) : ∀ {t u : T}, Par t u → ∀ c : Int, 0 ≤ c → Par (shT a t c) (shT a u c)
 | _, _, .node h, c, hc => by
  simp only [shT]
  exact .node (ParL.sh ha h _ 0 c hc)
 | _, _, .red (k := k) (n := n) (us := us) h hr, c, hc => by
  rw [con_sh (Rx.par h hr) ha hc]
  simp only [shT]
  exact .red (ParL.sh ha h _ 0 c hc) (by have := hr.sh a c; rwa [shT] at this)
theorem ParL.sh {a : Int} (ha : 0 ≤ a) : ∀ {ts us : List T}, ParL ts us → ∀ (k : Int) (i : Nat) (c : Int), 0 ≤ c → ParL (shL a k i ts c) (shL a k i us c)
 | _, _, .nil, k, i, c, hc => .nil
 | _, _, .cons h hs, k, i, c, hc => by
  have := under_bd k i
  simp only [shL]
  exact .cons (Par.sh ha h _ (by omega)) (ParL.sh ha hs k (i + 1) c hc)
end
instance (t : T) : Decidable (Rx t) := decidable_of_iff _ (rx_iff t)
inductive Red : T → T → Prop
 | refl {t} : Red t t
 | step {t u v} (h : Par t u) (hs : Red u v) : Red t v
theorem Red.one {t u : T} (h : Par t u) : Red t u := .step h .refl
theorem Red.trans {t u v : T} (h : Red t u) (h' : Red u v) : Red t v := by
 induction h with
 | refl => exact h'
 | step h _ ih => exact .step h (ih h')
theorem size_pos (t : T) : 1 ≤ t.size := by have := T.size_eq t; omega
end Go.Proofs.YtnogehmgpfpjmaaDoor
end
section
namespace Go.Proofs.YtnogehmgpfpjmaaDoor
open Go Go.Dk
def letB (c : UInt8) : Bool := decide (97 ≤ c.toNat) && decide (c.toNat ≤ 122)
def digB (c : UInt8) : Bool := decide (48 ≤ c.toNat) && decide (c.toNat ≤ 57)
def frF (l : List UInt8) : Nat → Nat → UInt8
 | 0, _ => 122
 | f + 1, k => if (UInt8.ofNat k) ∉ l then UInt8.ofNat k else frF l f (k + 1)
def frL (l : List UInt8) : UInt8 := frF l 25 97
def isBd (k : Int) : Bool := decide (k = 3) || (decide (k = 4) || decide (k = 13))
def joinC : List (List UInt8) → List UInt8
 | [] => []
 | [x] => x
 | x :: xs => x ++ 44 :: joinC xs
def wv (k : Int) (c : UInt8) (xs : List (List UInt8)) : List UInt8 :=
 let a := xs.getD 0 []
 let b := xs.getD 1 []
 if k = 3 then 40 :: c :: 58 :: (a ++ 62 :: (b ++ [41]))
 else if k = 4 then 91 :: c :: 58 :: (a ++ 93 :: b)
 else if k = 5 then 40 :: (a ++ 32 :: (b ++ [41]))
 else if k = 6 then [78]
 else if k = 7 then [48]
 else if k = 8 then 43 :: a
 else if k = 9 then 60 :: (joinC xs ++ [62])
 else if k = 10 then 123 :: (joinC xs ++ [125])
 else if k = 11 then 33 :: a
 else if k = 12 then 64 :: 60 :: (joinC xs ++ [62])
 else if k = 13 then 40 :: c :: 58 :: (a ++ 42 :: (b ++ [41]))
 else if k = 14 then 124 :: (joinC xs ++ [124])
 else if k = 15 then 94 :: a
 else 95 :: a
mutual
def shN (env : List UInt8) : T → List UInt8
 | .mk k n ts => if k = 1 then [env.getD n.toNat 0] else if k = 2 then [42, UInt8.ofNat (48 + n.toNat)] else wv k (frL env) (shNL env (if isBd k = true then frL env :: env else env) 0 ts)
def shNL (env env' : List UInt8) : Nat → List T → List (List UInt8)
 | _, [] => []
 | i, t :: ts => shN (if i = 1 then env' else env) t :: shNL env env' (i + 1) ts
end
mutual
def mbF : T → Nat
 | .mk k _ ts => mbL k 0 ts
def mbL (k : Int) : Nat → List T → Nat
 | _, [] => 0
 | i, t :: ts => max (mbF t + (under k i).toNat) (mbL k (i + 1) ts)
end
end Go.Proofs.YtnogehmgpfpjmaaDoor
end
section
namespace Go.Proofs.YtnogehmgpfpjmaaDoor
open Go Go.Dk
instance : FO Tryd.prog 29 0 0 := ⟨by kernel_rfl⟩
instance : FO Tryd.prog 29 1 1 := ⟨by kernel_rfl⟩
instance : FO Tryd.prog 29 2 2 := ⟨by kernel_rfl⟩
instance : SZ Tryd.prog 29 3 := ⟨by kernel_rfl⟩
instance : ST3 Tryd.prog 29 := ⟨by kernel_rfl⟩
instance : ZR Tryd.prog 29 [.int .i64 0, .int .i64 0, .slice none 0 0] := ⟨by kernel_rfl⟩
instance : FO Tryd.prog 24 0 0 := ⟨by kernel_rfl⟩
instance : FO Tryd.prog 24 1 1 := ⟨by kernel_rfl⟩
instance : FO Tryd.prog 24 2 2 := ⟨by kernel_rfl⟩
instance : SZ Tryd.prog 24 3 := ⟨by kernel_rfl⟩
instance : ST3 Tryd.prog 24 := ⟨by kernel_rfl⟩
instance : ZR Tryd.prog 24 [.int .i64 0, .int .i64 0, .slice none 0 0] := ⟨by kernel_rfl⟩
instance : SL Tryd.prog 27 3 := ⟨by kernel_rfl⟩
instance : SC Tryd.prog 27 := ⟨by kernel_rfl⟩
instance : SZ Tryd.prog 27 1 := ⟨by kernel_rfl⟩
instance : ZR Tryd.prog 27 [.slice none 0 0] := ⟨by kernel_rfl⟩
instance : SL Tryd.prog 22 3 := ⟨by kernel_rfl⟩
instance : SC Tryd.prog 22 := ⟨by kernel_rfl⟩
instance : SZ Tryd.prog 22 1 := ⟨by kernel_rfl⟩
instance : ZR Tryd.prog 22 [.slice none 0 0] := ⟨by kernel_rfl⟩
instance : SL Tryd.prog 67 1 := ⟨by kernel_rfl⟩
instance : SC Tryd.prog 67 := ⟨by kernel_rfl⟩
instance : SZ Tryd.prog 67 1 := ⟨by kernel_rfl⟩
instance : ZR Tryd.prog 67 [.slice none 0 0] := ⟨by kernel_rfl⟩
instance : SL Tryd.prog 82 1 := ⟨by kernel_rfl⟩
instance : SC Tryd.prog 82 := ⟨by kernel_rfl⟩
instance : SZ Tryd.prog 82 1 := ⟨by kernel_rfl⟩
instance : ZR Tryd.prog 82 [.slice none 0 0] := ⟨by kernel_rfl⟩
instance : SL Tryd.prog 53 1 := ⟨by kernel_rfl⟩
instance : SC Tryd.prog 53 := ⟨by kernel_rfl⟩
instance : SZ Tryd.prog 53 1 := ⟨by kernel_rfl⟩
instance : ZR Tryd.prog 53 [.slice none 0 0] := ⟨by kernel_rfl⟩
instance : SC Tryd.prog 3 := ⟨by kernel_rfl⟩
instance : SZ Tryd.prog 3 1 := ⟨by kernel_rfl⟩
instance : IsI64 Tryd.prog 3 := ⟨by kernel_rfl⟩
instance : ZR Tryd.prog 3 [.int .i64 0] := ⟨by kernel_rfl⟩
instance : SC Tryd.prog 4 := ⟨by kernel_rfl⟩
instance : SZ Tryd.prog 4 1 := ⟨by kernel_rfl⟩
instance : IsBool Tryd.prog 4 := ⟨by kernel_rfl⟩
instance : ZR Tryd.prog 4 [.bool false] := ⟨by kernel_rfl⟩
instance : SC Tryd.prog 9 := ⟨by kernel_rfl⟩
instance : SZ Tryd.prog 9 1 := ⟨by kernel_rfl⟩
instance : IsStr Tryd.prog 9 := ⟨by kernel_rfl⟩
instance : ZR Tryd.prog 9 [.string ⟨#[]⟩] := ⟨by kernel_rfl⟩
instance : SC Tryd.prog 5 := ⟨by kernel_rfl⟩
instance : SZ Tryd.prog 5 1 := ⟨by kernel_rfl⟩
instance : IsU8 Tryd.prog 5 := ⟨by kernel_rfl⟩
instance : EB Tryd.prog 67 5 1 := ⟨by kernel_rfl, by kernel_rfl, by kernel_rfl⟩
instance : EB Tryd.prog 82 3 1 := ⟨by kernel_rfl, by kernel_rfl, by kernel_rfl⟩
instance : EB Tryd.prog 53 9 1 := ⟨by kernel_rfl, by kernel_rfl, by kernel_rfl⟩
instance : EB Tryd.prog 27 29 3 := ⟨by kernel_rfl, by kernel_rfl, by kernel_rfl⟩
instance : CV Tryd.prog 67 9 := ⟨⟨5, by kernel_rfl, by kernel_rfl, by kernel_rfl⟩⟩
instance : BT Tryd.prog 29 := ⟨by kernel_rfl, by kernel_rfl⟩
instance : DrM Tryd.prog := ⟨by kernel_rfl⟩
instance : XIB Tryd.prog 78 := ⟨⟨_, Tryd.func78, by kernel_rfl, by kernel_rfl, by kernel_rfl, by kernel_rfl⟩⟩
instance : AP Tryd.prog 27 29 3 40 := AP.of (by kernel_rfl)
instance : AP Tryd.prog 82 3 1 8 := AP.of (by kernel_rfl)
instance : AP Tryd.prog 53 9 1 16 := AP.of (by kernel_rfl)
instance : AP Tryd.prog 67 5 1 1 := AP.of (by kernel_rfl)
instance : CB Tryd.prog 3 := ⟨by kernel_rfl⟩
instance : CB Tryd.prog 4 := ⟨by kernel_rfl⟩
instance : CB Tryd.prog 5 := ⟨by kernel_rfl⟩
instance : CB Tryd.prog 6 := ⟨by kernel_rfl⟩
instance : CB Tryd.prog 7 := ⟨by kernel_rfl⟩
instance : CB Tryd.prog 8 := ⟨by kernel_rfl⟩
instance : CB Tryd.prog 9 := ⟨by kernel_rfl⟩
instance : CB Tryd.prog 10 := ⟨by kernel_rfl⟩
instance : CB Tryd.prog 11 := ⟨by kernel_rfl⟩
instance : CB Tryd.prog 12 := ⟨by kernel_rfl⟩
instance : CB Tryd.prog 13 := ⟨by kernel_rfl⟩
instance : CB Tryd.prog 14 := ⟨by kernel_rfl⟩
instance : CB Tryd.prog 15 := ⟨by kernel_rfl⟩
instance : CB Tryd.prog 16 := ⟨by kernel_rfl⟩
instance : CB Tryd.prog 17 := ⟨by kernel_rfl⟩
instance : CB Tryd.prog 18 := ⟨by kernel_rfl⟩
instance : CB Tryd.prog 19 := ⟨by kernel_rfl⟩
instance : CB Tryd.prog 20 := ⟨by kernel_rfl⟩
instance : CB Tryd.prog 21 := ⟨by kernel_rfl⟩
instance : CB Tryd.prog 22 := ⟨by kernel_rfl⟩
instance : CB Tryd.prog 23 := ⟨by kernel_rfl⟩
instance : CB Tryd.prog 24 := ⟨by kernel_rfl⟩
instance : CB Tryd.prog 25 := ⟨by kernel_rfl⟩
instance : CB Tryd.prog 26 := ⟨by kernel_rfl⟩
instance : CB Tryd.prog 27 := ⟨by kernel_rfl⟩
instance : CB Tryd.prog 28 := ⟨by kernel_rfl⟩
instance : CB Tryd.prog 29 := ⟨by kernel_rfl⟩
instance : CB Tryd.prog 30 := ⟨by kernel_rfl⟩
instance : CB Tryd.prog 31 := ⟨by kernel_rfl⟩
instance : CB Tryd.prog 32 := ⟨by kernel_rfl⟩
instance : CB Tryd.prog 33 := ⟨by kernel_rfl⟩
instance : CB Tryd.prog 34 := ⟨by kernel_rfl⟩
instance : CB Tryd.prog 35 := ⟨by kernel_rfl⟩
instance : CB Tryd.prog 36 := ⟨by kernel_rfl⟩
instance : CB Tryd.prog 37 := ⟨by kernel_rfl⟩
instance : CB Tryd.prog 38 := ⟨by kernel_rfl⟩
instance : CB Tryd.prog 39 := ⟨by kernel_rfl⟩
instance : CB Tryd.prog 40 := ⟨by kernel_rfl⟩
instance : CB Tryd.prog 41 := ⟨by kernel_rfl⟩
instance : CB Tryd.prog 42 := ⟨by kernel_rfl⟩
instance : CB Tryd.prog 43 := ⟨by kernel_rfl⟩
instance : CB Tryd.prog 44 := ⟨by kernel_rfl⟩
instance : CB Tryd.prog 45 := ⟨by kernel_rfl⟩
instance : CB Tryd.prog 46 := ⟨by kernel_rfl⟩
instance : CB Tryd.prog 47 := ⟨by kernel_rfl⟩
instance : CB Tryd.prog 48 := ⟨by kernel_rfl⟩
instance : CB Tryd.prog 49 := ⟨by kernel_rfl⟩
instance : CB Tryd.prog 50 := ⟨by kernel_rfl⟩
instance : CB Tryd.prog 51 := ⟨by kernel_rfl⟩
instance : CB Tryd.prog 52 := ⟨by kernel_rfl⟩
instance : CB Tryd.prog 53 := ⟨by kernel_rfl⟩
instance : CB Tryd.prog 54 := ⟨by kernel_rfl⟩
instance : CB Tryd.prog 55 := ⟨by kernel_rfl⟩
instance : CB Tryd.prog 56 := ⟨by kernel_rfl⟩
instance : CB Tryd.prog 57 := ⟨by kernel_rfl⟩
instance : CB Tryd.prog 58 := ⟨by kernel_rfl⟩
instance : CB Tryd.prog 59 := ⟨by kernel_rfl⟩
instance : CB Tryd.prog 60 := ⟨by kernel_rfl⟩
instance : CB Tryd.prog 61 := ⟨by kernel_rfl⟩
instance : CB Tryd.prog 62 := ⟨by kernel_rfl⟩
instance : CB Tryd.prog 63 := ⟨by kernel_rfl⟩
instance : CB Tryd.prog 64 := ⟨by kernel_rfl⟩
instance : CB Tryd.prog 65 := ⟨by kernel_rfl⟩
instance : CB Tryd.prog 66 := ⟨by kernel_rfl⟩
instance : CB Tryd.prog 67 := ⟨by kernel_rfl⟩
instance : CB Tryd.prog 68 := ⟨by kernel_rfl⟩
instance : CB Tryd.prog 69 := ⟨by kernel_rfl⟩
instance : CB Tryd.prog 70 := ⟨by kernel_rfl⟩
instance : CB Tryd.prog 71 := ⟨by kernel_rfl⟩
instance : CB Tryd.prog 72 := ⟨by kernel_rfl⟩
instance : CB Tryd.prog 73 := ⟨by kernel_rfl⟩
instance : CB Tryd.prog 74 := ⟨by kernel_rfl⟩
instance : CB Tryd.prog 75 := ⟨by kernel_rfl⟩
instance : CB Tryd.prog 76 := ⟨by kernel_rfl⟩
instance : CB Tryd.prog 77 := ⟨by kernel_rfl⟩
instance : CB Tryd.prog 79 := ⟨by kernel_rfl⟩
instance : CB Tryd.prog 80 := ⟨by kernel_rfl⟩
instance : CB Tryd.prog 81 := ⟨by kernel_rfl⟩
instance : CB Tryd.prog 82 := ⟨by kernel_rfl⟩
instance : CB Tryd.prog 83 := ⟨by kernel_rfl⟩
instance : CB Tryd.prog 84 := ⟨by kernel_rfl⟩
instance : CB Tryd.prog 85 := ⟨by kernel_rfl⟩
instance : CB Tryd.prog 86 := ⟨by kernel_rfl⟩
instance : CB Tryd.prog 87 := ⟨by kernel_rfl⟩
instance : CB Tryd.prog 88 := ⟨by kernel_rfl⟩
instance : CB Tryd.prog 90 := ⟨by kernel_rfl⟩
instance : CB Tryd.prog 91 := ⟨by kernel_rfl⟩
instance : CB Tryd.prog 92 := ⟨by kernel_rfl⟩
instance : CB Tryd.prog 93 := ⟨by kernel_rfl⟩
instance : CB Tryd.prog 94 := ⟨by kernel_rfl⟩
instance : CB Tryd.prog 95 := ⟨by kernel_rfl⟩
instance : CB Tryd.prog 97 := ⟨by kernel_rfl⟩
instance : CB Tryd.prog 98 := ⟨by kernel_rfl⟩
instance : CB Tryd.prog 99 := ⟨by kernel_rfl⟩
instance : CB Tryd.prog 100 := ⟨by kernel_rfl⟩
instance : CB Tryd.prog 101 := ⟨by kernel_rfl⟩
instance : CB Tryd.prog 102 := ⟨by kernel_rfl⟩
instance : CB Tryd.prog 103 := ⟨by kernel_rfl⟩
instance : CB Tryd.prog 104 := ⟨by kernel_rfl⟩
instance : CB Tryd.prog 105 := ⟨by kernel_rfl⟩
instance : CB Tryd.prog 106 := ⟨by kernel_rfl⟩
instance : CB Tryd.prog 107 := ⟨by kernel_rfl⟩
instance : CB Tryd.prog 111 := ⟨by kernel_rfl⟩
instance : CB Tryd.prog 112 := ⟨by kernel_rfl⟩
instance : CB Tryd.prog 113 := ⟨by kernel_rfl⟩
instance : CB Tryd.prog 114 := ⟨by kernel_rfl⟩
instance : CB Tryd.prog 115 := ⟨by kernel_rfl⟩
instance : CB Tryd.prog 116 := ⟨by kernel_rfl⟩
instance : CB Tryd.prog 117 := ⟨by kernel_rfl⟩
instance : CB Tryd.prog 118 := ⟨by kernel_rfl⟩
instance : CB Tryd.prog 119 := ⟨by kernel_rfl⟩
instance : CB Tryd.prog 120 := ⟨by kernel_rfl⟩
instance : CB Tryd.prog 122 := ⟨by kernel_rfl⟩
instance : CB Tryd.prog 123 := ⟨by kernel_rfl⟩
instance : CB Tryd.prog 124 := ⟨by kernel_rfl⟩
instance : CB Tryd.prog 125 := ⟨by kernel_rfl⟩
instance : CB Tryd.prog 126 := ⟨by kernel_rfl⟩
instance : CB Tryd.prog 127 := ⟨by kernel_rfl⟩
instance : CB Tryd.prog 128 := ⟨by kernel_rfl⟩
end Go.Proofs.YtnogehmgpfpjmaaDoor
end
section
namespace Go.Ab
open Go Go.Dk
def GLK : Nat := 8
def GP (W : World) : Prop :=
 (∃ m, W.cell? ⟨0, 0, none⟩ = some (.int .i64 m)) ∧
 ∃ t p, W.heap[1]? = some (.cells (((List.range 20).map fun i => ((10 ^ i : Nat) : Int)).map fun z => Value.int .u64 z).toArray t p)
def GL (M : Zone) (w0 : World) : Prop := ∃ W0, GP W0 ∧ ∀ g, g < GLK → ¬ M g ∧ g < w0.heap.size ∧ w0.heap[g]? = W0.heap[g]?
theorem GL.sub {M M' : Zone} {w0 w : World} (h : GL M w0) (he : Ext M w0 w) (hk : ∀ k, M' k → M k ∨ w0.heap.size ≤ k) : GL M' w := by
 obtain ⟨W0, h0, h1⟩ := h
 refine ⟨W0, h0, fun g hg => ?_⟩
 obtain ⟨a, b, c⟩ := h1 g hg
 refine ⟨fun hm => ?_, Nat.lt_of_lt_of_le b he.size, (he.block g b a).trans c⟩
 rcases hk g hm with h | h
 ·exact a h
 ·omega
theorem GL.now {M : Zone} {w0 w : World} (h : GL M w0) (he : Ext M w0 w) : GL noneZ w := h.sub he fun k hk => hk.elim
def MZ (M Z0 : Zone) (w0 : World) : Prop := (∀ k, M k → Z0 k) ∧ GL M w0
end Go.Ab
end
