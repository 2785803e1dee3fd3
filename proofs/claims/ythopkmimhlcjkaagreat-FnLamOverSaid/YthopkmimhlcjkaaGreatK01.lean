/- Part 1 of 7 of the proof of FnLamOver_holds. -/
import Derived.WalkKit
import Derived.OrdersHeld
import Derived.Deep.LoopGhost
import Derived.KernelRfl
import Derived.Laws.Tables
import Derived.Laws.AppendOwn
import Derived.ArgAppend
import Derived.Laws.MakeOwn
import Derived.Test.YthopkmimhlcjkaaGreatRows
section
/- Lemmas for walking Go code: regions in the order of the text, own blocks as resources, stable facts, terms in memory. No program in sight. -/
set_option linter.unusedVariables false
set_option linter.unusedSimpArgs false
namespace Go.Dk
open Go

/-- What has come up: all but what is left. -/
def lst (n : Nat) (rest : List (Nat × Oper)) : Array Bool := (Array.range n).map (fun i => !(rest.any (·.1 == i)))

theorem lst_size (n : Nat) (rest : List (Nat × Oper)) : (lst n rest).size = n := by simp [lst]
/-- Is what is left of the numbers below n, each once, and is it what the region holds? -/
def Left (ops : Array Oper) (rest : List (Nat × Oper)) : Prop := (rest.map (·.1)).Nodup ∧ ∀ x ∈ rest, ops[x.1]? = some x.2
theorem lst_erase {ops : Array Oper} {rest : List (Nat × Oper)} (hl : Left ops rest) {p : Nat} {x : Nat × Oper} (hp : rest[p]? = some x) :
    (lst ops.size rest).setIfInBounds x.1 true = lst ops.size (rest.eraseIdx p) := by
  have hpl : p < rest.length := by
    rcases Nat.lt_or_ge p rest.length with h' | h'
    · exact h'
    · rw [List.getElem?_eq_none h'] at hp; cases hp
  have hpx : rest[p] = x := by rw [List.getElem?_eq_getElem hpl] at hp; exact Option.some.inj hp
  apply Array.ext
  · simp [lst]
  · intro i h1 h2
    simp only [lst, Array.size_setIfInBounds, Array.size_map, Array.size_range] at h1 h2
    by_cases hki : x.1 = i
    · subst hki
      have : ¬ ((rest.eraseIdx p).any (·.1 == x.1)) = true := by
        intro ha
        simp only [List.any_eq_true, beq_iff_eq] at ha
        obtain ⟨y, hy, hyx⟩ := ha
        obtain ⟨q, hq, rfl⟩ := List.getElem_of_mem hy
        have hlen := List.length_eraseIdx_of_lt hpl
        rw [List.getElem_eraseIdx] at hyx
        have nd := hl.1
        rw [List.Nodup, List.pairwise_iff_getElem] at nd
        split at hyx
        · rename_i hlt
          refine nd q p (by simp; omega) (by simpa using hpl) hlt ?_
          simp [hyx, hpx]
        · rename_i hge
          refine nd p (q + 1) (by simpa using hpl) (by simp; omega) (by omega) ?_
          simp [hyx, hpx]
      simp [lst, this] 
    · rw [Array.getElem_setIfInBounds_ne (by simpa [lst_size] using h2) hki]
      simp only [lst, Array.getElem_map, Array.getElem_range]
      congr 1
      rw [Bool.eq_iff_iff]
      simp only [List.any_eq_true, beq_iff_eq]
      constructor
      · rintro ⟨y, hy, rfl⟩
        obtain ⟨q, hq, rfl⟩ := List.getElem_of_mem hy
        have hne : q ≠ p := fun e => hki (by subst e; rw [hpx])
        refine ⟨rest[q], ?_, rfl⟩
        rw [List.mem_eraseIdx_iff_getElem]
        exact ⟨q, hq, hne, rfl⟩
      · rintro ⟨y, hy, rfl⟩
        exact ⟨y, List.mem_of_mem_eraseIdx hy, rfl⟩
theorem Left.erase {ops : Array Oper} {rest : List (Nat × Oper)} (hl : Left ops rest) (p : Nat) : Left ops (rest.eraseIdx p) :=
  ⟨hl.1.sublist ((List.eraseIdx_sublist rest p).map _), fun x hx => hl.2 x (List.mem_of_mem_eraseIdx hx)⟩

theorem lst_getD (n : Nat) (rest : List (Nat × Oper)) (i : Nat) (b : Bool) : (lst n rest).getD i b = if i < n then !(rest.any (·.1 == i)) else b := by
  by_cases h : i < n
  · simp [Array.getD, lst, h]
  · simp [Array.getD, lst, h]
/-- Nothing that is left stands ahead of the operation. -/
def rdy (n : Nat) (rest : List (Nat × Oper)) (o : Oper) : Bool := o.after.toList.all fun e => !Region.binds .any e || (Nat.blt e.on n && !(rest.any fun x => Nat.beq x.1 e.on))
def takeB (ops : Array Oper) (rest : List (Nat × Oper)) (k : Nat) (o : Oper) : Bool :=
  rdy ops.size rest o && rest.all fun y => Nat.beq y.1 k || y.2.after.toList.any (fun e => Region.binds .any e && Nat.beq e.on k) || o.apart ops y.2
def soleB (ops : Array Oper) (rest : List (Nat × Oper)) (k : Nat) (o : Oper) : Bool :=
  rdy ops.size rest o && rest.all fun y => Nat.beq y.1 k || !(rdy ops.size rest y.2)
theorem rdy_mem {ops : Array Oper} {rest : List (Nat × Oper)} (hl : Left ops rest) {k : Nat} {o : Oper} (hm : (k, o) ∈ rest) : rdy ops.size rest o = true ↔ k ∈ Region.ready .any ops (lst ops.size rest) := by
  have ho := hl.2 _ hm
  have hk : k < ops.size := by
    rcases Nat.lt_or_ge k ops.size with h | h
    · exact h
    · simp only [Array.getElem?_eq_none h] at ho; cases ho
  rw [mem_ready]
  constructor
  · intro h
    refine ⟨?_, o, ho, ?_⟩
    · rw [lst_getD, if_pos hk]
      have : rest.any (fun x => x.1 == k) = true := List.any_eq_true.2 ⟨_, hm, by simp⟩
      simp [this]
    · intro e he hb
      have := List.all_eq_true.1 h e (by simpa using he)
      simp only [hb, Bool.not_true, Bool.false_or, Bool.and_eq_true, Nat.blt_eq] at this
      rw [lst_getD, if_pos this.1]
      have h2 := this.2
      simp only [Bool.not_eq_true', List.any_eq_false, Nat.beq_eq] at h2
      simp only [Bool.not_eq_true', List.any_eq_false, beq_iff_eq]
      exact h2
  · rintro ⟨_, o', ho', hall⟩
    have : o' = o := by
      have h1 : ops[k]? = some o := ho
      rw [h1] at ho'; exact (Option.some.inj ho').symm
    subst this
    refine List.all_eq_true.2 fun e he => ?_
    by_cases hb : Region.binds .any e = true
    · have := hall e (by simpa using he) hb
      rw [lst_getD] at this
      split at this
      · rename_i hlt
        simp only [Bool.not_eq_true', List.any_eq_false, beq_iff_eq] at this
        simp only [hb, Bool.not_true, Bool.false_or, Bool.and_eq_true, Nat.blt_eq, Bool.not_eq_true', List.any_eq_false, Nat.beq_eq]
        exact ⟨hlt, this⟩
      · cases this
    · simp [hb]
theorem ready_left {ops : Array Oper} {rest : List (Nat × Oper)} (hl : Left ops rest) {k : Nat} (hk : (lst ops.size rest).getD k true = false) : ∃ o, (k, o) ∈ rest := by
  rw [lst_getD] at hk
  split at hk
  · simp only [Bool.not_eq_false', List.any_eq_true, beq_iff_eq] at hk
    obtain ⟨x, hx, rfl⟩ := hk
    exact ⟨x.2, hx⟩
  · cases hk
theorem single_of {l : List Nat} {k : Nat} (hn : l.Nodup) (hm : k ∈ l) (h : ∀ i ∈ l, i = k) : l = [k] := by
  cases l with
  | nil => cases hm
  | cons a t =>
    have ha : a = k := h a (List.mem_cons_self ..)
    subst ha
    cases t with
    | nil => rfl
    | cons b t =>
      have hb : b = a := h b (List.mem_cons_of_mem _ (List.mem_cons_self ..))
      subst hb
      simp at hn
theorem sole_ready {ops : Array Oper} {rest : List (Nat × Oper)} (hl : Left ops rest) {k : Nat} {o : Oper} (hm : (k, o) ∈ rest) (h : soleB ops rest k o = true) : Region.ready .any ops (lst ops.size rest) = [k] := by
  simp only [soleB, Bool.and_eq_true] at h
  refine single_of ?_ ((rdy_mem hl hm).1 h.1) fun i hi => ?_
  · exact List.nodup_range.sublist List.filter_sublist
  · obtain ⟨o', ho'⟩ := ready_left hl (mem_ready.1 hi).1
    have h2 := List.all_eq_true.1 h.2 _ ho'
    simp only [Bool.or_eq_true, Nat.beq_eq, Bool.not_eq_true'] at h2
    rcases h2 with h2 | h2
    · exact h2
    · rw [(rdy_mem hl ho').2 hi] at h2; cases h2

/-- The operation stands behind number i, by edges. -/
def ancB (ops : Array Oper) : Nat → Nat → Oper → Bool
  | 0, _, _ => false
  | f + 1, i, o => (o.after.toList.any fun e => Region.binds .any e && Nat.beq e.on i) || (o.after.toList.any fun e => Region.binds .any e && (match ops[e.on]? with | some p => ancB ops f i p | none => false))
def movB (ops : Array Oper) (i : Nat) : Bool := match ops[i]? with
  | some ⟨_, .move _, _, _, _, _⟩ | some ⟨_, .extract .., _, _, _, _⟩ => true
  | _ => false
/-- It stands behind all that are listed, but for moves. -/
def covB (ops : Array Oper) (rest : List (Nat × Oper)) (o : Oper) : Bool := (List.range ops.size).all fun i => (rest.any fun x => Nat.beq x.1 i) || movB ops i || ancB ops 4 i o
/-- These two alone may come up. -/
def duoB (ops : Array Oper) (rest : List (Nat × Oper)) (k : Nat) (o : Oper) (k' : Nat) (o' : Oper) : Bool :=
  rdy ops.size rest o && rdy ops.size rest o' && rest.all fun y => Nat.beq y.1 k || Nat.beq y.1 k' || !(rdy ops.size rest y.2)
/-- One operation comes up. -/
def wpO (P : Program) (ops : Array Oper) (Q : Exit → Act → World → Prop) (o : Oper) (K : Act → World → Prop) (a : Act) (w : World) : Prop :=
  if Region.wanted o (yielded ops a.tmps) then o.wp P a w K Q ∨ (o.asks P a w ∧ LetsOut Q) else K (a.put o.dst undef) w

theorem wpOp_of_wpO {P : Program} {ops : Array Oper} {Q : Exit → Act → World → Prop} {i : Nat} {o : Oper} (hi : ops[i]? = some o) {K : Act → World → Prop} {a : Act} {w : World}
    (h : wpO P ops Q o K a w) : wpOp P ops Q i K a w := by
  unfold wpOp; simp only [hi]; exact h

theorem wpO_mono {P : Program} {ops : Array Oper} {Q : Exit → Act → World → Prop} {o : Oper} {K K' : Act → World → Prop} {a : Act} {w : World} (hk : ∀ a w, K a w → K' a w)
    (h : wpO P ops Q o K a w) : wpO P ops Q o K' a w := by
  unfold wpO at *
  split
  · rename_i hw; simp only [hw, if_true] at h; exact h.imp (Oper.wp_mono hk) id
  · rename_i hw; simp only [hw] at h; exact hk _ _ h

/-- The walk of a region. d: does the region draw its order. S: what is known of the world. The operations that are left, with their numbers, in the order of the text: the first is carried out, or, ahead of it, one that yields its value in every world that meets S. -/
def wpT (P : Program) (ops : Array Oper) (Q : Exit → Act → World → Prop) (d : Bool) : Nat → (World → Prop) → List (Nat × Oper) → Act → World → Prop
  | _, _, [], a, w => Q .normal a w
  | 0, _, _ :: _, _, _ => False
  | fuel + 1, S, x :: rest, a, w =>
    (∃ p y v, (x :: rest)[p]? = some y ∧ (d = false → p = 0) ∧ YieldsIf P ops S y.2 v a ∧ (!d || takeB ops (x :: rest) y.1 y.2) = true ∧ wpT P ops Q d fuel S ((x :: rest).eraseIdx p) (a.put y.2.dst v) w) ∨
    ((!d || soleB ops (x :: rest) x.1 x.2) = true ∧ wpO P ops Q x.2 (fun a' w' => ∃ S' : World → Prop, (d = true → covB ops (x :: rest) x.2 = true ∨ ∀ w, S' w → S w) ∧ S' w' ∧ wpT P ops Q d fuel S' rest a' w') a w) ∨
    (d = true ∧ ∃ p y, rest[p]? = some y ∧ duoB ops (x :: rest) x.1 x.2 y.1 y.2 = true ∧
      wpO P ops Q x.2 (fun a' w' => ∃ S' : World → Prop, (∀ w, S' w → S w) ∧ S' w' ∧ wpT P ops Q d fuel S' rest a' w') a w ∧
      wpO P ops Q y.2 (fun a' w' => ∃ S' : World → Prop, (∀ w, S' w → S w) ∧ S' w' ∧ wpT P ops Q d fuel S' (x :: rest.eraseIdx p) a' w') a w)

section
variable {P : Program} {ops : Array Oper} {Q : Exit → Act → World → Prop}

/-- Whatever is listed, so is what it stands behind. -/
def DC (ops : Array Oper) (listed : Array Bool) : Prop := ∀ p op, ops[p]? = some op → listed.getD p false = true → ∀ e ∈ op.after, Region.binds .any e = true → listed.getD e.on false = true
def Cov (ops : Array Oper) (listed : Array Bool) (k : Nat) (o : Oper) : Prop := ∀ i, i ≠ k → listed.getD i false = true → movB ops i = true ∨ ∃ f, ancB ops f i o = true
theorem anc_listed {listed : Array Bool} (hd : DC ops listed) {i : Nat} : ∀ (f : Nat) (o : Oper), (∀ e ∈ o.after, Region.binds .any e = true → listed.getD e.on false = true) → ancB ops f i o = true → listed.getD i false = true
  | 0, _, _, h => by cases h
  | f + 1, o, ho, h => by
    simp only [ancB, Bool.or_eq_true, List.any_eq_true, Bool.and_eq_true, Nat.beq_eq] at h
    rcases h with ⟨e, he, hb, hi⟩ | ⟨e, he, hb, hp⟩
    · subst hi; exact ho e (by simpa using he) hb
    · cases hx : ops[e.on]? with
      | none => simp [hx] at hp
      | some p =>
        simp only [hx] at hp
        exact anc_listed hd f p (hd _ p hx (ho e (by simpa using he) hb)) hp
theorem getD_set_self {listed : Array Bool} {j : Nat} (h : j < listed.size) (b : Bool) : (listed.setIfInBounds j true).getD j b = true := by simp [Array.getD, h]
theorem ready_lt {listed : Array Bool} {j : Nat} (hj : j ∈ Region.ready .any ops listed) : j < listed.size := by
  have h0 := (mem_ready.1 hj).1
  rcases Nat.lt_or_ge j listed.size with h | h
  · exact h
  · simp [Array.getD, Nat.not_lt.2 h] at h0
theorem DC.set {listed : Array Bool} (hd : DC ops listed) {j : Nat} (hj : j ∈ Region.ready .any ops listed) : DC ops (listed.setIfInBounds j true) := by
  intro p op hp hl e he hb
  have keep : listed.getD e.on false = true → (listed.setIfInBounds j true).getD e.on false = true := fun h => by
    by_cases hx : j = e.on
    · rw [← hx]; exact getD_set_self (ready_lt hj) _
    · rw [getD_set_ne false hx]; exact h
  apply keep
  by_cases hx : j = p
  · subst hx
    obtain ⟨_, o', ho', hall⟩ := mem_ready.1 hj
    rw [hp] at ho'
    obtain rfl := Option.some.inj ho'
    exact hall e he hb
  · rw [getD_set_ne false hx] at hl
    exact hd p op hp hl e he hb
/-- Whatever order is picked: what is known of the world may change at an operation behind all that are listed. -/
def wpAnyE (P : Program) (ops : Array Oper) (Q : Exit → Act → World → Prop) : Nat → (World → Prop) → Array Bool → Act → World → Prop
  | 0, _, listed, a, w => Region.ready .any ops listed = [] ∧ Q .normal a w
  | fuel + 1, S, listed, a, w => (Region.ready .any ops listed = [] → Q .normal a w) ∧
    ∀ i ∈ Region.ready .any ops listed, wpOp P ops Q i (fun a' w' => ∃ S' : World → Prop, S' w' ∧ ((∀ w, S' w → S w) ∨ ∃ o, ops[i]? = some o ∧ Cov ops listed i o) ∧ wpAnyE P ops Q fuel S' (listed.setIfInBounds i true) a' w') a w
theorem wpAny_of_E : ∀ (fuel : Nat) (S : World → Prop) (listed : Array Bool) (a : Act) (w : World), wpAnyE P ops Q fuel S listed a w → wpAny P .any ops Q fuel listed a w
  | 0, _, _, _, _, h => h
  | fuel + 1, S, _, _, _, h => ⟨h.1, fun i hi => wpOp_mono (fun a' w' ⟨S', _, _, h'⟩ => wpAny_of_E fuel S' _ a' w' h') (h.2 i hi)⟩
theorem Yields_move {S S' : World → Prop} {i : Nat} {oi : Oper} {v : Value} {a : Act} {w : World} (hi : ops[i]? = some oi) (hm : movB ops i = true) (hS : S w) (h : YieldsIf P ops S oi v a) : YieldsIf P ops S' oi v a := by
  unfold movB at hm
  rw [hi] at hm
  obtain ⟨d, op, ty, pos, aft, gd⟩ := oi
  cases op with
  | move x =>
    rcases h with ⟨h1, h2⟩ | h
    · refine .inl ⟨h1, fun w' _ => ?_⟩
      have h3 := h2 w hS
      have e : ∀ w, (execOp a.eval ⟨d, .move x, ty, pos, aft, gd⟩).run P w = .ok (.value (a.eval x)) w := fun w => by simp [go_sem, execOp]
      rw [e] at h3 ⊢
      injection h3 with h4 _
      rw [h4]
    · exact .inr h
  | extract x i =>
    rcases h with ⟨h1, h2⟩ | h
    · refine .inl ⟨h1, fun w' _ => ?_⟩
      have h3 := h2 w hS
      simp only [execOp, Instr.extract] at h3 ⊢
      cases hx : a.eval x with
      | tuple vs =>
        rw [hx] at h3
        cases hv : vs[i]? with
        | some u =>
          simp only [hv, Sem.run_bind, Sem.run_pure, Result.andThen_ok] at h3 ⊢
          injection h3 with h4 _
          rw [h4]
        | none => simp [hv, go_sem] at h3
      | _ => rw [hx] at h3; simp [go_sem] at h3
    · exact .inr h
  | _ => simp at hm
theorem Yields_true {S : World → Prop} {i : Nat} {oi : Oper} {v : Value} {a : Act} {w : World} (hi : ops[i]? = some oi) (hm : movB ops i = true) (h : Region.wanted oi (yielded ops a.tmps) = true ∧ ∀ w, S w → (execOp a.eval oi).run P w = .ok (.value v) w) (hS : S w) : YieldsIf P ops (fun _ => True) oi v a :=
  Yields_move (w := w) hi hm hS (.inl h)
theorem wpAnyE_first {i : Nat} {oi : Oper} {v : Value} (hi : ops[i]? = some oi) (hsel : ∀ (j : Nat) (o : Oper) cs b, ops[j]? = some o → o.op ≠ .select cs b)
    (hQ : ∀ c a w, Q (.panic c) (a.put oi.dst v) w → Q (.panic c) a w) :
    ∀ (fuel : Nat) (S : World → Prop) (listed : Array Bool) (a : Act) (w : World), DC ops listed →
      (∀ j oj, ops[j]? = some oj → j ≠ i → listed.getD j true = false → (∀ e ∈ oj.after, Region.binds .any e = true → e.on ≠ i) → oi.apart ops oj = true) →
      i ∈ Region.ready .any ops listed → YieldsIf P ops S oi v a → S w →
      wpAnyE P ops Q fuel S (listed.setIfInBounds i true) (a.put oi.dst v) w → wpAnyE P ops Q (fuel + 1) S listed a w := by
  intro fuel
  induction fuel with
  | zero =>
    intro S listed a w _ _ hr hy hS H
    refine ⟨fun h => (by rw [h] at hr; cases hr), fun j hj => ?_⟩
    by_cases hji : j = i
    · subst hji; exact hy.wpOp hi hS ⟨S, hS, .inl fun _ h => h, H⟩
    · have := ready_mono hj hji
      rw [H.1] at this
      cases this
  | succ fuel ih =>
    intro S listed a w hdc hfree hr hy hS H
    refine ⟨fun h => (by rw [h] at hr; cases hr), fun j hj => ?_⟩
    by_cases hji : j = i
    · subst hji; exact hy.wpOp hi hS ⟨S, hS, .inl fun _ h => h, H⟩
    · have h1 := H.2 j (ready_mono hj hji)
      obtain ⟨hjun, oj, hoj, hall⟩ := mem_ready.1 hj
      have hnot : ∀ e ∈ oj.after, Region.binds .any e = true → e.on ≠ i := fun e he hb heq => by
        have h1 := hall e he hb
        have h0 := (mem_ready.1 hr).1
        rw [heq] at h1
        rcases Nat.lt_or_ge i listed.size with h' | h'
        · simp [h'] at h0 h1; rw [h0] at h1; cases h1
        · simp [Array.getElem?_eq_none h'] at h1
      have h2 := wpOp_putIf hoj (hfree j oj hoj hji hjun hnot) (fun cs b => hsel i oi cs b hi) (fun cs b => hsel j oj cs b hoj) hQ hy h1
      have hfree' : ∀ k ok, ops[k]? = some ok → k ≠ i → (listed.setIfInBounds j true).getD k true = false →
          (∀ e ∈ ok.after, Region.binds .any e = true → e.on ≠ i) → oi.apart ops ok = true := fun k ok hk hki hun hno => by
        refine hfree k ok hk hki ?_ hno
        by_cases hjk : j = k
        · subst hjk; exact hjun
        · rw [getD_set_ne true hjk] at hun; exact hun
      refine wpOp_mono (fun a' w' h3 => ?_) h2
      obtain ⟨hy', S', hS', hc, hE⟩ := h3
      have hdc' := hdc.set hj
      have hr' := ready_mono hr (Ne.symm hji)
      rw [Array.setIfInBounds_comm _ _ (Ne.symm hji)] at hE
      rcases hc with hc | ⟨o, ho, hc⟩
      · refine ⟨S', hS', .inl hc, ih S' (listed.setIfInBounds j true) a' w' hdc' hfree' hr' ?_ hS' hE⟩
        exact hy'.imp (fun ⟨h4, h5⟩ => ⟨h4, fun w h => h5 w (hc w h)⟩) id
      · obtain rfl : oj = o := by rw [hoj] at ho; exact Option.some.inj ho
        have hcov : Cov ops listed j oj := fun p hp hl => hc p hp (by
          by_cases hx : i = p
          · rw [← hx]; exact getD_set_self (ready_lt hr) _
          · rw [getD_set_ne false hx]; exact hl)
        rcases hc i (Ne.symm hji) (getD_set_self (ready_lt hr) _) with hm | ⟨f, hf⟩
        · refine ⟨S', hS', .inr ⟨oj, hoj, hcov⟩, ih S' (listed.setIfInBounds j true) a' w' hdc' hfree' hr' ?_ hS' hE⟩
          rcases hy' with ⟨h4, h5⟩ | h4
          · exact Yields_move (S := fun _ => True) (w := w') hi hm trivial (Yields_true hi hm ⟨h4, h5⟩ hS)
          · exact .inr h4
        · exfalso
          have h1 := anc_listed hdc f oj hall hf
          have h0 := (mem_ready.1 hr).1
          have hlt := ready_lt hr
          simp [Array.getD, hlt] at h0 h1
          rw [h0] at h1; cases h1
theorem ready_lst_nil : Region.ready .any ops (lst ops.size []) = [] := by
  rw [List.eq_nil_iff_forall_not_mem]
  intro i hi
  have h := (mem_ready.1 hi).1
  by_cases hlt : i < ops.size
  · simp [lst, hlt] at h
  · have : (lst ops.size []).getD i true = true := by simp [Array.getD, lst_size, hlt]
    rw [this] at h; cases h

theorem lst_false {n i : Nat} {rest : List (Nat × Oper)} (h : (lst n rest).getD i false = true) : i < n ∧ rest.any (·.1 == i) = false := by
  rw [lst_getD] at h
  split at h
  · rename_i hlt; exact ⟨hlt, by simpa using h⟩
  · cases h
theorem duo_ready {rest : List (Nat × Oper)} (hl : Left ops rest) {k k' : Nat} {o o' : Oper} (h : duoB ops rest k o k' o' = true) : ∀ i ∈ Region.ready .any ops (lst ops.size rest), i = k ∨ i = k' := by
  intro i hi
  simp only [duoB, Bool.and_eq_true] at h
  obtain ⟨o1, ho1⟩ := ready_left hl (mem_ready.1 hi).1
  have h2 := List.all_eq_true.1 h.2 _ ho1
  simp only [Bool.or_eq_true, Nat.beq_eq, Bool.not_eq_true'] at h2
  rcases h2 with (h2 | h2) | h2
  · exact .inl h2
  · exact .inr h2
  · rw [(rdy_mem hl ho1).2 hi] at h2; cases h2
theorem wpAnyE_of_wpT (hsel : Region.noSelect ops = true) (hQ : ∀ c (a : Act) t w, Q (.panic c) ⟨t, a.defers⟩ w → Q (.panic c) a w) : ∀ (fuel : Nat) (l : List (Nat × Oper)) (S : World → Prop) (a : Act) (w : World),
    Left ops l → DC ops (lst ops.size l) → l.length = fuel → S w → wpT P ops Q true fuel S l a w → wpAnyE P ops Q fuel S (lst ops.size l) a w
  | 0, [], S, a, w, _, _, _, _, h => ⟨ready_lst_nil, by simpa [wpT] using h⟩
  | fuel + 1, [], S, a, w, _, _, hk, _, h => by simp at hk
  | 0, _ :: _, S, a, w, _, _, hk, _, h => by simp at hk
  | fuel + 1, x :: rest, S, a, w, hl, hdc, hk, hS, h => by
    have hlen : rest.length = fuel := by simpa using hk
    simp only [wpT] at h
    rcases h with ⟨p, y, v, hp, _, hy, ht, hr⟩ | ⟨hs, ho⟩ | ⟨_, p, y, hp, hduo, h1, h2⟩
    · simp only [Bool.not_true, Bool.false_or, takeB, Bool.and_eq_true] at ht
      have hmem : (y.1, y.2) ∈ x :: rest := List.mem_of_getElem? hp
      have hrdy := (rdy_mem hl hmem).1 ht.1
      have hpl : p < (x :: rest).length := by
        rcases Nat.lt_or_ge p (x :: rest).length with h' | h'
        · exact h'
        · rw [List.getElem?_eq_none h'] at hp; cases hp
      refine wpAnyE_first (hl.2 y (List.mem_of_getElem? hp)) (Region.noSelect_spec hsel) (fun c a' w' hq => ?_) fuel _ _ _ _ hdc ?_ hrdy hy hS ?_
      · cases hd : y.2.dst with
        | none => rw [hd] at hq; exact hq
        | some d => rw [hd] at hq; exact hQ c a' _ w' hq
      · intro j oj hj hne hun hno
        obtain ⟨o', ho'⟩ := ready_left hl hun
        have : o' = oj := by
          have h1 : ops[j]? = some o' := hl.2 _ ho'
          rw [hj] at h1; exact (Option.some.inj h1).symm
        subst this
        have h2 := List.all_eq_true.1 ht.2 _ ho'
        simp only [Bool.or_eq_true, Nat.beq_eq, List.any_eq_true, Bool.and_eq_true] at h2
        rcases h2 with (h2 | ⟨e, he, hb, hon⟩) | h2
        · exact absurd h2 hne
        · exact absurd hon (hno e (by simpa using he) hb)
        · exact h2
      · have hx := hdc.set hrdy
        rw [lst_erase hl hp] at hx ⊢
        exact wpAnyE_of_wpT hsel hQ fuel _ S _ _ (hl.erase p) hx (by rw [List.length_eraseIdx_of_lt hpl]; simp [hlen]) hS hr
    · simp only [Bool.not_true, Bool.false_or] at hs
      have hsr := sole_ready hl (List.mem_cons_self ..) hs
      have he : (lst ops.size (x :: rest)).setIfInBounds x.1 true = lst ops.size rest := by simpa using lst_erase (p := 0) hl rfl
      have hx : DC ops (lst ops.size rest) := by
        have := hdc.set (j := x.1) (by rw [hsr]; simp)
        rwa [he] at this
      refine ⟨fun h0 => (by rw [hsr] at h0; cases h0), fun i hi => ?_⟩
      rw [hsr] at hi
      have : i = x.1 := by simpa using hi
      subst this
      refine wpOp_of_wpO (hl.2 x (List.mem_cons_self ..)) (wpO_mono (fun a' w' hh => ?_) ho)
      obtain ⟨S', hS', hw', hr⟩ := hh
      refine ⟨S', hw', ?_, by rw [he]; exact wpAnyE_of_wpT hsel hQ fuel rest S' _ _ (by simpa using hl.erase 0) hx hlen hw' hr⟩
      rcases hS' (by trivial) with hc | hc
      · refine .inr ⟨x.2, hl.2 x (List.mem_cons_self ..), fun i hik hil => ?_⟩
        obtain ⟨hlt, hno⟩ := lst_false hil
        have h2 := List.all_eq_true.1 hc i (by simpa using hlt)
        simp only [Bool.or_eq_true, List.any_eq_true, Nat.beq_eq] at h2
        rcases h2 with (⟨y, hy, hyi⟩ | h2) | h2
        · have : (x :: rest).any (·.1 == i) = true := List.any_eq_true.2 ⟨y, hy, by simpa using hyi⟩
          rw [this] at hno; cases hno
        · exact .inl h2
        · exact .inr ⟨4, h2⟩
      · exact .inl hc
    · have hrd := duo_ready hl hduo
      have hb := hduo
      simp only [duoB, Bool.and_eq_true] at hb
      have hpl : p < rest.length := by
        rcases Nat.lt_or_ge p rest.length with h' | h'
        · exact h'
        · rw [List.getElem?_eq_none h'] at hp; cases hp
      have hyp : (x :: rest)[p + 1]? = some y := by simpa using hp
      have hym : y ∈ x :: rest := List.mem_of_getElem? hyp
      have hxr : x.1 ∈ Region.ready .any ops (lst ops.size (x :: rest)) := (rdy_mem hl (List.mem_cons_self ..)).1 hb.1.1
      have hyr : y.1 ∈ Region.ready .any ops (lst ops.size (x :: rest)) := (rdy_mem hl (show (y.1, y.2) ∈ x :: rest from hym)).1 hb.1.2
      refine ⟨fun h0 => (by rw [h0] at hxr; cases hxr), fun i hi => ?_⟩
      have hcase := hrd i hi
      by_cases hix : i = x.1
      · subst hix
        have he : (lst ops.size (x :: rest)).setIfInBounds x.1 true = lst ops.size rest := by simpa using lst_erase (p := 0) hl rfl
        have hx := hdc.set hxr
        rw [he] at hx
        refine wpOp_of_wpO (hl.2 x (List.mem_cons_self ..)) (wpO_mono (fun a' w' hh => ?_) h1)
        obtain ⟨S', hS', hw', hr⟩ := hh
        exact ⟨S', hw', .inl hS', by rw [he]; exact wpAnyE_of_wpT hsel hQ fuel rest S' _ _ (by simpa using hl.erase 0) hx hlen hw' hr⟩
      · obtain rfl : i = y.1 := hcase.resolve_left hix
        have he := lst_erase (p := p + 1) hl hyp
        have hx := hdc.set hyr
        rw [he] at hx
        have hl2 := hl.erase (p + 1)
        refine wpOp_of_wpO (hl.2 y hym) (wpO_mono (fun a' w' hh => ?_) h2)
        obtain ⟨S', hS', hw', hr⟩ := hh
        refine ⟨S', hw', .inl hS', ?_⟩
        rw [he]
        exact wpAnyE_of_wpT hsel hQ fuel (x :: rest.eraseIdx p) S' _ _ hl2 hx (by simp only [List.length_cons]; rw [List.length_eraseIdx_of_lt hpl]; omega) hw' hr

theorem wpList_of_wpT : ∀ (fuel : Nat) (l : List (Nat × Oper)) (S : World → Prop) (a : Act) (w : World), S w → wpT P ops Q false fuel S l a w → wpList P ops Q (l.map (·.2)) a w
  | _, [], _, _, _, _, h => by simpa [wpT, wpList] using h
  | 0, _ :: _, _, _, _, _, h => by simp [wpT] at h
  | fuel + 1, x :: rest, S, a, w, hS, h => by
    simp only [wpT] at h
    simp only [List.map_cons]
    unfold wpList
    rcases h with ⟨p, y, v, hp, h0, hy, _, hr⟩ | ⟨_, ho⟩ | ⟨h0, _⟩
    · have h0 : p = 0 := by simpa using h0
      subst h0
      simp only [List.getElem?_cons_zero, Option.some.injEq] at hp
      subst hp
      simp only [List.eraseIdx_cons_zero] at hr
      rcases hy with ⟨hw, hv⟩ | ⟨hw, rfl⟩
      · rw [if_pos hw]
        refine .inl ?_
        simp only [Oper.wp, hv w hS, Oper.upon]
        exact wpList_of_wpT fuel rest S _ _ hS hr
      · rw [if_neg (by simp [hw])]
        exact wpList_of_wpT fuel rest S _ _ hS hr
    · have ho' := wpO_mono (K' := wpList P ops Q (rest.map (·.2))) (fun a' w' hh => by
        obtain ⟨S', _, hw', hr⟩ := hh
        exact wpList_of_wpT fuel rest S' _ _ hw' hr) ho
      exact ho'
    · cases h0

def enum : Nat → List Oper → List (Nat × Oper)
  | _, [] => []
  | k, o :: l => (k, o) :: enum (k + 1) l
theorem enum_map : ∀ (k : Nat) (l : List Oper), (enum k l).map (·.2) = l
  | _, [] => rfl
  | k, o :: l => by simp [enum, enum_map (k + 1) l]
theorem enum_length : ∀ (k : Nat) (l : List Oper), (enum k l).length = l.length
  | _, [] => rfl
  | k, o :: l => by simp [enum, enum_length (k + 1) l]
theorem enum_fst : ∀ (k : Nat) (l : List Oper), (enum k l).map (·.1) = List.range' k l.length
  | _, [] => rfl
  | k, o :: l => by simp [enum, enum_fst (k + 1) l, List.range'_succ]
theorem enum_get : ∀ (k : Nat) (l : List Oper), ∀ x ∈ enum k l, k ≤ x.1 ∧ l[x.1 - k]? = some x.2
  | _, [], x, hx => by simp [enum] at hx
  | k, o :: l, x, hx => by
    simp only [enum, List.mem_cons] at hx
    rcases hx with rfl | hx
    · simp
    · obtain ⟨h1, h2⟩ := enum_get (k + 1) l x hx
      refine ⟨by omega, ?_⟩
      rw [show x.1 - k = (x.1 - (k + 1)) + 1 by omega, List.getElem?_cons_succ]
      exact h2
theorem left_enum (l : List Oper) : Left l.toArray (enum 0 l) :=
  ⟨by rw [enum_fst]; exact List.nodup_range', fun x hx => by simpa using (enum_get 0 l x hx).2⟩
theorem lst_enum (l : List Oper) : lst l.toArray.size (enum 0 l) = Array.replicate l.length false := by
  apply Array.ext
  · simp [lst]
  · intro i h1 h2
    simp only [Array.size_replicate] at h2
    have : i ∈ (enum 0 l).map (·.1) := by rw [enum_fst]; simp [List.mem_range'_1, h2]
    obtain ⟨x, hx, hxi⟩ := List.mem_map.1 this
    have : (enum 0 l).any (fun y => y.1 == i) = true := List.any_eq_true.2 ⟨x, hx, by simp [hxi]⟩
    simp [lst, this]

theorem reg_text {id : Nat} {l : List Oper} {a : Act} {w : World} {S : World → Prop} (hS : S w) (h : wpT P l.toArray Q false l.length S (enum 0 l) a w) :
    (Code.region id l.toArray false).wp P Q a w := wp_region_lit (by have := wpList_of_wpT _ _ S a w hS h; rwa [enum_map] at this)

theorem reg_draw {id : Nat} {l : List Oper} {a : Act} {w : World} {S : World → Prop} (hm : P.follows .mixedOrders = true) (hsel : Region.noSelect l.toArray = true)
    (hQ : ∀ c (a : Act) t w, Q (.panic c) ⟨t, a.defers⟩ w → Q (.panic c) a w) (hd : ∀ w, S w → S w.drew) (hS : S w)
    (h : ∀ w, S w → wpT P l.toArray Q true l.length S (enum 0 l) a w) :
    (Code.region id l.toArray true).wp P Q a w := by
  refine wp_region_any hm ?_
  have hdc : DC l.toArray (lst l.toArray.size (enum 0 l)) := by
    rw [lst_enum]
    intro p op _ hl
    exfalso
    simp [Array.getD] at hl
  have := wpAny_of_E _ _ _ _ _ (wpAnyE_of_wpT (ops := l.toArray) hsel hQ l.length (enum 0 l) S a w.drew (left_enum l) hdc (enum_length 0 l) (hd w hS) (h _ (hd w hS)))
  rw [lst_enum] at this
  simpa using this
end

end Go.Dk

namespace Go.Dk
open Go

abbrev Zone := Nat → Prop
abbrev Fact := Zone → World → Prop
def Stable (φ : Fact) : Prop := ∀ (Z Z' : Zone) (w w' : World), (∀ b, Z b → b < w.heap.size → Z' b ∧ w'.heap[b]? = w.heap[b]?) → φ Z w → φ Z' w'

structure Ext (M : Zone) (w w' : World) : Prop where
  os : w'.os = w.os
  tape : w'.tape = w.tape
  output : w'.output = w.output
  size : w.heap.size ≤ w'.heap.size
  block : ∀ k, k < w.heap.size → ¬ M k → w'.heap[k]? = w.heap[k]?

def noneZ : Zone := fun _ => False
abbrev Grow := Ext noneZ

theorem Ext.refl (M : Zone) (w : World) : Ext M w w := ⟨rfl, rfl, rfl, Nat.le_refl _, fun _ _ _ => rfl⟩
theorem Ext.trans {M : Zone} {a b c : World} (h : Ext M a b) (k : Ext M b c) : Ext M a c :=
  ⟨k.os.trans h.os, k.tape.trans h.tape, k.output.trans h.output, Nat.le_trans h.size k.size, fun i hi hm => (k.block i (Nat.lt_of_lt_of_le hi h.size) hm).trans (h.block i hi hm)⟩
theorem Ext.weak {M M' : Zone} {a b : World} (h : Ext M a b) (hm : ∀ k, k < a.heap.size → M k → M' k) : Ext M' a b :=
  ⟨h.os, h.tape, h.output, h.size, fun i hi hn => h.block i hi (fun hk => hn (hm i hi hk))⟩
theorem Grow.weak {M : Zone} {a b : World} (h : Grow a b) : Ext M a b := Ext.weak h (fun _ _ h => h.elim)
theorem Ext.drew (M : Zone) (w : World) : Ext M w w.drew := ⟨rfl, rfl, rfl, Nat.le_refl _, fun _ _ _ => rfl⟩
theorem Grow.blk {a b : World} (h : Grow a b) {k : Nat} (hk : k < a.heap.size) : b.heap[k]? = a.heap[k]? := h.block k hk (fun h => h)
theorem Grow.below {a b : World} (h : Grow a b) : RowKit.Below a.heap.size a b := ⟨h.os, h.tape, h.output, h.size, fun k hk => h.blk hk⟩
theorem alloc_size (w : World) (o : Obj) : (w.alloc o).heap.size = w.heap.size + 1 := by
  show (w.heap.push o).size = _; simp
theorem alloc_get (w : World) (o : Obj) : (w.alloc o).heap[w.heap.size]? = some o := by
  show (w.heap.push o)[w.heap.size]? = _; simp
theorem Grow.alloc (w : World) (o : Obj) : Grow w (w.alloc o) :=
  ⟨rfl, rfl, rfl, by rw [alloc_size]; omega, fun _ hk _ => RowKit.Below.heap_alloc _ _ _ hk⟩

theorem lt_of_get {w : World} {b : Nat} {o : Obj} (h : w.heap[b]? = some o) : b < w.heap.size := by
  rcases Nat.lt_or_ge b w.heap.size with h' | h'
  · exact h'
  · rw [Array.getElem?_eq_none h'] at h; cases h

/-- A resource: the blocks that it stands on, and what it says of them. -/
structure Res where
  foot : Zone
  own : World → Prop
def Res.Local (r : Res) : Prop := ∀ w w' : World, (∀ b, r.foot b → w'.heap[b]? = w.heap[b]?) → r.own w → r.own w'

def blk (b : Nat) (cs : List Value) (T : TypeId) : Res := ⟨(· = b), fun w => w.heap[b]? = some (.cells cs.toArray T (0, 0))⟩
theorem blk_local (b : Nat) (cs : List Value) (T : TypeId) : (blk b cs T).Local := fun _ _ h k => (h b rfl).trans k

def zone (w0 : World) (Z0 : Zone) (L : List Res) : Zone := fun b => (Z0 b ∨ w0.heap.size ≤ b) ∧ ∀ r ∈ L, ¬ r.foot b

structure St (w0 : World) (M Z0 : Zone) (L : List Res) (φ : Fact) (w : World) : Prop where
  ext : Ext M w0 w
  own : ∀ r ∈ L, r.own w
  loc : ∀ r ∈ L, r.Local
  key : ∀ r ∈ L, ∀ b, r.foot b → (M b ∨ w0.heap.size ≤ b) ∧ b < w.heap.size
  dis : L.Pairwise (fun r s => ∀ b, r.foot b → ¬ s.foot b)
  stab : Stable φ
  per : φ (zone w0 Z0 L) w

section
variable {w0 w w' : World} {M Z0 : Zone} {L : List Res} {φ : Fact}

theorem St.init (w : World) (M Z0 : Zone) {φ : Fact} (hs : Stable φ) (h : φ Z0 w) : St w M Z0 [] φ w :=
  ⟨Ext.refl _ _, nofun, nofun, nofun, .nil, hs, hs Z0 _ w w (fun _ hz _ => ⟨⟨.inl hz, nofun⟩, rfl⟩) h⟩

theorem St.drew (h : St w0 M Z0 L φ w) : St w0 M Z0 L φ w.drew :=
  ⟨h.ext.trans (Ext.drew _ _), fun r hr => h.loc r hr w _ (fun _ _ => rfl) (h.own r hr), h.loc, h.key, h.dis, h.stab, h.stab _ _ w _ (fun _ hz _ => ⟨hz, rfl⟩) h.per⟩

/-- The memory has grown, and nothing that was there has turned. -/
theorem St.grow (h : St w0 M Z0 L φ w) (hg : Grow w w') : St w0 M Z0 L φ w' :=
  ⟨h.ext.trans hg.weak, fun r hr => h.loc r hr w _ (fun b hb => hg.blk (h.key r hr b hb).2) (h.own r hr), h.loc,
    fun r hr b hb => ⟨(h.key r hr b hb).1, Nat.lt_of_lt_of_le (h.key r hr b hb).2 hg.size⟩, h.dis, h.stab,
    h.stab _ _ w _ (fun b hz hb => ⟨hz, hg.blk hb⟩) h.per⟩

def andF (ψ φ : Fact) : Fact := fun Z w => ψ Z w ∧ φ Z w
theorem Stable.and {ψ φ : Fact} (h : Stable ψ) (k : Stable φ) : Stable (andF ψ φ) := fun Z Z' w w' hz hp => ⟨h Z Z' w w' hz hp.1, k Z Z' w w' hz hp.2⟩
def trueF : Fact := fun _ _ => True
theorem Stable.true : Stable trueF := fun _ _ _ _ _ _ => trivial

theorem St.fact (h : St w0 M Z0 L φ w) {ψ : Fact} (hs : Stable ψ) (hp : ψ (zone w0 Z0 L) w) : St w0 M Z0 L (andF ψ φ) w :=
  ⟨h.ext, h.own, h.loc, h.key, h.dis, hs.and h.stab, hp, h.per⟩
/-- A call that only makes memory, and whose result stands on what it was handed and on new blocks. -/
theorem St.call (h : St w0 M Z0 L φ w) (hg : Grow w w') {ψ : Fact} (hs : Stable ψ) (hp : ψ (fun b => zone w0 Z0 L b ∨ w.heap.size ≤ b) w') : St w0 M Z0 L (andF ψ φ) w' :=
  (h.grow hg).fact hs (hs _ _ w' w' (fun b hz _ => ⟨hz.elim id (fun hb => ⟨.inr (Nat.le_trans h.ext.size hb), fun r hr hf => by have := (h.key r hr b hf).2; omega⟩), rfl⟩) hp)

/-- A resource more, on new blocks. -/
theorem St.push (h : St w0 M Z0 L φ w) (hg : Grow w w') {r : Res} (hl : r.Local) (ho : r.own w') (hf : ∀ b, r.foot b → w.heap.size ≤ b ∧ b < w'.heap.size) : St w0 M Z0 (r :: L) φ w' := by
  have k := h.grow hg
  refine ⟨k.ext, ?_, ?_, ?_, ?_, k.stab, ?_⟩
  · intro s hs; rcases List.mem_cons.1 hs with rfl | hs
    · exact ho
    · exact k.own s hs
  · intro s hs; rcases List.mem_cons.1 hs with rfl | hs
    · exact hl
    · exact k.loc s hs
  · intro s hs b hb; rcases List.mem_cons.1 hs with rfl | hs
    · exact ⟨.inr (Nat.le_trans h.ext.size (hf b hb).1), (hf b hb).2⟩
    · exact k.key s hs b hb
  · refine List.Pairwise.cons (fun s hs b hb hb' => ?_) k.dis
    have := (h.key s hs b hb').2
    have := (hf b hb).1
    omega
  · refine h.stab _ _ w w' (fun b hz hb => ⟨⟨hz.1, fun s hs hf' => ?_⟩, hg.blk hb⟩) h.per
    rcases List.mem_cons.1 hs with rfl | hs
    · have := (hf b hf').1; omega
    · exact hz.2 s hs hf'

/-- Resource number n is turned; nothing else that was there is. -/
theorem St.upd (h : St w0 M Z0 L φ w) {n : Nat} {r r' : Res} (hn : L[n]? = some r) (hx : Ext r.foot w w') (hl : r'.Local) (ho : r'.own w')
    (hf : ∀ b, r'.foot b → (r.foot b ∨ w.heap.size ≤ b) ∧ b < w'.heap.size) : St w0 M Z0 (L.set n r') φ w' := by
  have hnl : n < L.length := by
    rcases Nat.lt_or_ge n L.length with h' | h'
    · exact h'
    · rw [List.getElem?_eq_none h'] at hn; cases hn
  have hmem : r ∈ L := List.mem_of_getElem? hn
  have hget : L[n] = r := by rw [List.getElem?_eq_getElem hnl] at hn; exact Option.some.inj hn
  have disj : ∀ i (hi : i < L.length), i ≠ n → ∀ b, r.foot b → ¬ L[i].foot b := by
    intro i hi hne b hb hb'
    rcases Nat.lt_or_ge i n with hlt | hge
    · have := List.pairwise_iff_getElem.1 h.dis i n hi hnl hlt b hb'
      rw [hget] at this; exact this hb
    · have := List.pairwise_iff_getElem.1 h.dis n i hnl hi (by omega) b (by rw [hget]; exact hb)
      exact this hb'
  have new : ∀ b, w.heap.size ≤ b → w0.heap.size ≤ b := fun b hb => Nat.le_trans h.ext.size hb
  have keep : ∀ i (hi : i < L.length), i ≠ n → L[i].own w' := by
    intro i hi hne
    refine h.loc _ (List.getElem_mem hi) w w' (fun b hb => hx.block b (h.key _ (List.getElem_mem hi) b hb).2 (fun hr => disj i hi hne b hr hb)) (h.own _ (List.getElem_mem hi))
  have el : ∀ s ∈ L.set n r', s = r' ∨ ∃ i, ∃ hi : i < L.length, i ≠ n ∧ s = L[i] := by
    intro s hs
    obtain ⟨i, hi, rfl⟩ := List.getElem_of_mem hs
    simp only [List.length_set] at hi
    by_cases hin : n = i
    · subst hin; left; simp
    · right; exact ⟨i, hi, fun e => hin e.symm, by rw [List.getElem_set_ne hin]⟩
  refine ⟨?_, ?_, ?_, ?_, ?_, h.stab, ?_⟩
  · refine ⟨hx.os.trans h.ext.os, hx.tape.trans h.ext.tape, hx.output.trans h.ext.output, Nat.le_trans h.ext.size hx.size, fun k hk hm => ?_⟩
    rw [hx.block k (Nat.lt_of_lt_of_le hk h.ext.size) (fun hr => ?_), h.ext.block k hk hm]
    rcases (h.key r hmem k hr).1 with h1 | h1
    · exact hm h1
    · omega
  · intro s hs; rcases el s hs with rfl | ⟨i, hi, hne, rfl⟩
    · exact ho
    · exact keep i hi hne
  · intro s hs; rcases el s hs with rfl | ⟨i, hi, hne, rfl⟩
    · exact hl
    · exact h.loc _ (List.getElem_mem hi)
  · intro s hs b hb; rcases el s hs with rfl | ⟨i, hi, hne, rfl⟩
    · refine ⟨?_, (hf b hb).2⟩
      rcases (hf b hb).1 with h1 | h1
      · exact (h.key r hmem b h1).1
      · exact .inr (new b h1)
    · exact ⟨(h.key _ (List.getElem_mem hi) b hb).1, Nat.lt_of_lt_of_le (h.key _ (List.getElem_mem hi) b hb).2 hx.size⟩
  · rw [List.pairwise_iff_getElem]
    intro i j hi hj hij b hb hb'
    simp only [List.length_set] at hi hj
    by_cases hin : n = i
    · subst hin
      rw [List.getElem_set_self] at hb
      rw [List.getElem_set_ne (by omega)] at hb'
      rcases (hf b hb).1 with h1 | h1
      · exact disj j hj (by omega) b h1 hb'
      · have := (h.key _ (List.getElem_mem hj) b hb').2; omega
    · rw [List.getElem_set_ne hin] at hb
      by_cases hjn : n = j
      · subst hjn
        rw [List.getElem_set_self] at hb'
        rcases (hf b hb').1 with h1 | h1
        · exact disj i hi (by omega) b h1 hb
        · have := (h.key _ (List.getElem_mem hi) b hb).2; omega
      · rw [List.getElem_set_ne hjn] at hb'
        exact List.pairwise_iff_getElem.1 h.dis i j hi hj hij b hb hb'
  · refine h.stab _ _ w w' (fun b hz hb => ⟨⟨hz.1, fun s hs hf' => ?_⟩, hx.block b hb (hz.2 r hmem)⟩) h.per
    rcases el s hs with rfl | ⟨i, hi, hne, rfl⟩
    · rcases (hf b hf').1 with h1 | h1
      · exact hz.2 r hmem h1
      · omega
    · exact hz.2 _ (List.getElem_mem hi) hf'

/-- Resource number n is given up: what it stands on is memory that turns no more. -/
theorem St.drop (h : St w0 M Z0 L φ w) (n : Nat) : St w0 M Z0 (L.eraseIdx n) φ w := by
  have sub : ∀ s ∈ L.eraseIdx n, s ∈ L := fun s hs => List.mem_of_mem_eraseIdx hs
  exact ⟨h.ext, fun s hs => h.own s (sub s hs), fun s hs => h.loc s (sub s hs), fun s hs => h.key s (sub s hs), h.dis.sublist (List.eraseIdx_sublist L n), h.stab,
    h.stab _ _ w w (fun b hz _ => ⟨⟨hz.1, fun s hs => hz.2 s (sub s hs)⟩, rfl⟩) h.per⟩

theorem St.cell (h : St w0 M Z0 L φ w) {n b off : Nat} {cs : List Value} {T : TypeId} {v : Value} (hn : L[n]? = some (blk b cs T)) (hv : cs[off]? = some v) : w.cell? ⟨b, off, none⟩ = some v := by
  have := h.own _ (List.mem_of_getElem? hn)
  simp only [blk] at this
  simp [World.cell?, this, hv]
theorem St.alloc (h : St w0 M Z0 L φ w) (cs : List Value) (T : TypeId) : St w0 M Z0 (blk w.heap.size cs T :: L) φ (w.alloc (.cells cs.toArray T (0, 0))) :=
  h.push (Grow.alloc _ _) (blk_local _ _ _) (alloc_get _ _) (by intro b hb; simp only [blk] at hb; subst hb; rw [alloc_size]; omega)

theorem Ext.setCell (w : World) (a : Addr) (v : Value) : Ext (· = a.block) w (w.setCell a v) :=
  ⟨rfl, rfl, rfl, by simp [World.setCell], fun _ _ hm => RowKit.Below.heap_setCell _ _ _ _ hm⟩

theorem St.store (h : St w0 M Z0 L φ w) {n b : Nat} {cs : List Value} {T : TypeId} (hn : L[n]? = some (blk b cs T)) (off : Nat) (v : Value) : St w0 M Z0 (L.set n (blk b (cs.set off v) T)) φ (w.setCell ⟨b, off, none⟩ v) := by
  have ho := h.own _ (List.mem_of_getElem? hn)
  have hk := h.key _ (List.mem_of_getElem? hn) b rfl
  refine h.upd hn (Ext.setCell w ⟨b, off, none⟩ v) (blk_local _ _ _) ?_ ?_
  · simp only [blk] at ho ⊢
    simp [World.setCell, Array.getElem?_modify, ho]
  · intro b' hb'
    simp only [blk] at hb'
    subst hb'
    exact ⟨.inl rfl, by simpa [World.setCell] using hk.2⟩
end

end Go.Dk
namespace Go.Dk
open Go

/-- What an operation yields in every world that meets S, leaving that world as it is. -/
structure Yld (P : Program) (S : World → Prop) (ρ : Operand → Value) (o : Oper) (v : Value) : Prop where
  out : ∀ w, S w → (execOp ρ o).run P w = .ok (.value v) w

def scalarT (P : Program) (t : TypeId) : Bool := match P.underlying t with | some (.struct _) | some (.array ..) | none => false | _ => true
def structT (P : Program) (t : TypeId) : Option Nat := match P.underlying t, P.info? t with | some (.struct _), some i => some i.size | _, _ => none
def fieldOff (P : Program) (t : TypeId) (i : Nat) : Option Nat := match P.underlying t with
  | some (.struct fs) => match fs[i]? with
    | some f => match P.info? f.type with
      | some inf => if inf.size = 0 then none else some f.offset
      | none => none
    | none => none
  | _ => none
/-- The cells of an element of a slice type. -/
def sliceEl (P : Program) (t : TypeId) : Option Nat := match P.underlying t with
  | some (.slice e) => match P.info? e with
    | some inf => some inf.size
    | none => none
  | _ => none
def isStrT (P : Program) (t : TypeId) : Bool := match P.underlying t with | some .string => true | _ => false

def byteAt (s : ByteArray) (i : Nat) : UInt8 := (s.data.toList[i]?).getD 0

theorem run_underlying {P : Program} {t : TypeId} {de : TypeDesc} (h : P.underlying t = some de) (w : World) : (underlying t).run P w = .ok de w := by
  show (Sem.run P (match P.underlying t with | some d => pure d | none => stuck "no such type") w) = _
  rw [h]; rfl
theorem run_typeInfo {P : Program} {t : TypeId} {i : TypeInfo} (h : P.info? t = some i) (w : World) : (typeInfo t).run P w = .ok i w := by
  show (Sem.run P (match P.info? t with | some d => pure d | none => stuck "no such type") w) = _
  rw [h]; rfl
theorem run_sizeOf {P : Program} {t : TypeId} {i : TypeInfo} (h : P.info? t = some i) (w : World) : (sizeOf t).run P w = .ok i.size w := by
  simp [go_sem, sizeOf, run_typeInfo h]

theorem run_equal_bool {P : Program} {t : TypeId} (h : P.underlying t = some .bool) (a b : Bool) (w : World) : (Op.equal t (.bool a) (.bool b)).run P w = .ok (decide (a = b)) w := by
  unfold Op.equal Op.maxDepth
  rw [show (10000 : Nat) = 9999 + 1 from rfl, Op.equalIn, Sem.run_bind, run_underlying h]
  cases a <;> cases b <;> rfl

section
variable {P : Program} {S : World → Prop} {ρ : Operand → Value} {d : Option Tmp} {ty : TypeId} {pos : String} {aft : Array Edge} {gd : Option (Nat × Bool)} {x y c : Operand} {t t' : TypeId}

theorem Y_move {u : Value} (h : ρ x = u) : Yld P S ρ ⟨d, .move x, ty, pos, aft, gd⟩ u := .mk fun _ _ => by simp [go_sem, execOp, h]
theorem Y_assign {u : Value} (h : ρ x = u) : Yld P S ρ ⟨d, .assign x, ty, pos, aft, gd⟩ u := .mk fun _ _ => by simp [go_sem, execOp, h]
theorem Y_pickT {u : Value} (hc : ρ c = .bool true) (hx : ρ x = u) : Yld P S ρ ⟨d, .pick c x y, ty, pos, aft, gd⟩ u := .mk fun _ _ => by
  simp [go_sem, execOp, hc, hx, asBool]
theorem Y_pickF {u : Value} (hc : ρ c = .bool false) (hy : ρ y = u) : Yld P S ρ ⟨d, .pick c x y, ty, pos, aft, gd⟩ u := .mk fun _ _ => by
  simp [go_sem, execOp, hc, hy, asBool]
theorem Y_nilCheck {a : Addr} (h : ρ x = .pointer (some a)) : Yld P S ρ ⟨d, .nilCheck x, ty, pos, aft, gd⟩ (.pointer (some a)) := .mk fun _ _ => by simp [go_sem, execOp, h]
theorem Y_nilCheckF {f first cap} (h : ρ x = .func (.func f) first cap) : Yld P S ρ ⟨d, .nilCheck x, ty, pos, aft, gd⟩ (.func (.func f) first cap) := .mk fun _ _ => by simp [go_sem, execOp, h]

theorem Y_add {a b : Int} (hx : ρ x = .int .i64 a) (hy : ρ y = .int .i64 b) (h : -9223372036854775808 ≤ a + b ∧ a + b ≤ 9223372036854775807) : Yld P S ρ ⟨d, .binOp .add t x y t', ty, pos, aft, gd⟩ (.int .i64 (a + b)) := .mk fun _ _ => by
  simp [go_sem, execOp, hx, hy, eqGuard, binOp, Op.intArith, IntWalk.i64_in _ h]
theorem Y_sub {a b : Int} (hx : ρ x = .int .i64 a) (hy : ρ y = .int .i64 b) (h : -9223372036854775808 ≤ a - b ∧ a - b ≤ 9223372036854775807) : Yld P S ρ ⟨d, .binOp .sub t x y t', ty, pos, aft, gd⟩ (.int .i64 (a - b)) := .mk fun _ _ => by
  simp [go_sem, execOp, hx, hy, eqGuard, binOp, Op.intArith, IntWalk.i64_in _ h]
theorem Y_mul {a b : Int} (hx : ρ x = .int .i64 a) (hy : ρ y = .int .i64 b) (h : -9223372036854775808 ≤ a * b ∧ a * b ≤ 9223372036854775807) : Yld P S ρ ⟨d, .binOp .mul t x y t', ty, pos, aft, gd⟩ (.int .i64 (a * b)) := .mk fun _ _ => by
  simp [go_sem, execOp, hx, hy, eqGuard, binOp, Op.intArith, IntWalk.i64_in _ h]
theorem wrap_u8 {a : Int} (h : 0 ≤ a ∧ a ≤ 255) : IntKind.u8.wrap a = a := by
  simp only [IntKind.wrap, IntKind.bits, IntKind.signed]
  simp
  omega
theorem Y_add8 {a b : Int} (hx : ρ x = .int .u8 a) (hy : ρ y = .int .u8 b) (h : 0 ≤ a + b ∧ a + b ≤ 255) : Yld P S ρ ⟨d, .binOp .add t x y t', ty, pos, aft, gd⟩ (.int .u8 (a + b)) := .mk fun _ _ => by
  simp [go_sem, execOp, hx, hy, eqGuard, binOp, Op.intArith, wrap_u8 h]
theorem Y_sub8 {a b : Int} (hx : ρ x = .int .u8 a) (hy : ρ y = .int .u8 b) (h : 0 ≤ a - b ∧ a - b ≤ 255) : Yld P S ρ ⟨d, .binOp .sub t x y t', ty, pos, aft, gd⟩ (.int .u8 (a - b)) := .mk fun _ _ => by
  simp [go_sem, execOp, hx, hy, eqGuard, binOp, Op.intArith, wrap_u8 h]
theorem Y_eql {k : IntKind} {a b : Int} (hx : ρ x = .int k a) (hy : ρ y = .int k b) : Yld P S ρ ⟨d, .binOp .eql t x y t', ty, pos, aft, gd⟩ (.bool (decide (a = b))) := .mk fun _ _ => by
  simp [go_sem, execOp, hx, hy, eqGuard, binOp, Op.intCmp]; rfl
theorem Y_neq {k : IntKind} {a b : Int} (hx : ρ x = .int k a) (hy : ρ y = .int k b) : Yld P S ρ ⟨d, .binOp .neq t x y t', ty, pos, aft, gd⟩ (.bool (!decide (a = b))) := .mk fun _ _ => by
  simp [go_sem, execOp, hx, hy, eqGuard, binOp, Op.intCmp]; rfl
theorem Y_lss {k : IntKind} {a b : Int} (hx : ρ x = .int k a) (hy : ρ y = .int k b) : Yld P S ρ ⟨d, .binOp .lss t x y t', ty, pos, aft, gd⟩ (.bool (decide (a < b))) := .mk fun _ _ => by
  simp [go_sem, execOp, hx, hy, eqGuard, binOp, Op.intCmp]
theorem Y_leq {k : IntKind} {a b : Int} (hx : ρ x = .int k a) (hy : ρ y = .int k b) : Yld P S ρ ⟨d, .binOp .leq t x y t', ty, pos, aft, gd⟩ (.bool (decide (a ≤ b))) := .mk fun _ _ => by
  simp [go_sem, execOp, hx, hy, eqGuard, binOp, Op.intCmp]
theorem Y_gtr {k : IntKind} {a b : Int} (hx : ρ x = .int k a) (hy : ρ y = .int k b) : Yld P S ρ ⟨d, .binOp .gtr t x y t', ty, pos, aft, gd⟩ (.bool (decide (b < a))) := .mk fun _ _ => by
  simp [go_sem, execOp, hx, hy, eqGuard, binOp, Op.intCmp]
theorem Y_geq {k : IntKind} {a b : Int} (hx : ρ x = .int k a) (hy : ρ y = .int k b) : Yld P S ρ ⟨d, .binOp .geq t x y t', ty, pos, aft, gd⟩ (.bool (decide (b ≤ a))) := .mk fun _ _ => by
  simp [go_sem, execOp, hx, hy, eqGuard, binOp, Op.intCmp]
theorem Y_not {b : Bool} (h : ρ x = .bool b) : Yld P S ρ ⟨d, .unOp .not t x, ty, pos, aft, gd⟩ (.bool (!b)) := .mk fun _ _ => by
  simp [go_sem, execOp, h, Op.unary]
theorem Y_beql {a b : Bool} (hx : ρ x = .bool a) (hy : ρ y = .bool b) (ht : P.underlying t = some .bool) : Yld P S ρ ⟨d, .binOp .eql t x y t', ty, pos, aft, gd⟩ (.bool (decide (a = b))) := .mk fun _ _ => by
  simp [execOp, hx, hy, eqGuard, binOp, Sem.run_bind, run_equal_bool ht]
theorem Y_bneq {a b : Bool} (hx : ρ x = .bool a) (hy : ρ y = .bool b) (ht : P.underlying t = some .bool) : Yld P S ρ ⟨d, .binOp .neq t x y t', ty, pos, aft, gd⟩ (.bool (!decide (a = b))) := .mk fun _ _ => by
  simp [execOp, hx, hy, eqGuard, binOp, Sem.run_bind, run_equal_bool ht]
theorem Y_seql {a b : ByteArray} (hx : ρ x = .string a) (hy : ρ y = .string b) : Yld P S ρ ⟨d, .binOp .eql t x y t', ty, pos, aft, gd⟩ (.bool (a.toList == b.toList)) := .mk fun _ _ => by
  simp [go_sem, execOp, hx, hy, eqGuard, binOp, Op.stringOp]
theorem Y_sneq {a b : ByteArray} (hx : ρ x = .string a) (hy : ρ y = .string b) : Yld P S ρ ⟨d, .binOp .neq t x y t', ty, pos, aft, gd⟩ (.bool (!(a.toList == b.toList))) := .mk fun _ _ => by
  simp [go_sem, execOp, hx, hy, eqGuard, binOp, Op.stringOp]
theorem Y_sadd {a b : ByteArray} (hx : ρ x = .string a) (hy : ρ y = .string b) (h : a.size + b.size ≤ 9223372036854775807) : Yld P S ρ ⟨d, .binOp .add t x y t', ty, pos, aft, gd⟩ (.string (a ++ b)) := .mk fun _ _ => by
  have h' : ¬ ((a.size + b.size : Nat) : Int) > IntKind.i64.max := by
    have : IntKind.i64.max = 9223372036854775807 := rfl
    omega
  simp only [go_sem, execOp, hx, hy, eqGuard, binOp, Op.stringOp, if_neg h']
  simp [go_sem]

theorem Y_lenStr {a : ByteArray} (hs : isStrT P t = true) (h : ρ x = .string a) : Yld P S ρ ⟨d, .call ⟨.builtin .len, #[x], #[t]⟩, ty, pos, aft, gd⟩ (.int .i64 (a.size : Int)) := .mk fun _ _ => by
  have hu : P.underlying t = some .string := by unfold isStrT at hs; split at hs <;> simp_all
  simp [execOp, resolve, invoke, builtin, Builtin.len_, h, Sem.run_bind, run_underlying hu, goInt]
theorem Y_lenSlice {a : Option Addr} {n cap m : Nat} (hs : sliceEl P t = some m) (h : ρ x = .slice a n cap) : Yld P S ρ ⟨d, .call ⟨.builtin .len, #[x], #[t]⟩, ty, pos, aft, gd⟩ (.int .i64 (n : Int)) := .mk fun _ _ => by
  unfold sliceEl at hs
  split at hs
  · rename_i e hu
    simp [execOp, resolve, invoke, builtin, Builtin.len_, h, Sem.run_bind, run_underlying hu, goInt]
  · cases hs

theorem Y_fieldAddr {b off k i : Nat} (hf : fieldOff P t i = some k) (h : ρ x = .pointer (some ⟨b, off, none⟩)) : Yld P S ρ ⟨d, .fieldAddr t x i, ty, pos, aft, gd⟩ (.pointer (some ⟨b, off + k, none⟩)) := .mk fun _ _ => by
  unfold fieldOff at hf
  split at hf
  · rename_i fs hu
    split at hf
    · rename_i f hfi
      split at hf
      · rename_i inf hi
        split at hf
        · cases hf
        · rename_i hz
          obtain rfl := Option.some.inj hf
          simp only [execOp, Instr.fieldAt, h, Sem.run_bind, run_underlying hu, Result.andThen_ok, hfi, Instr.sureAddr, fieldPlace, run_sizeOf hi, if_neg hz, Addr.add, Sem.run_pure]
          by_cases h0 : f.offset = 0
          · simp [h0]
          · simp [h0]
      · cases hf
    · cases hf
  · cases hf
theorem Y_indexAddr {b off len cap m : Nat} {i : Int} (hs : sliceEl P t = some m) (h : ρ x = .slice (some ⟨b, off, none⟩) len cap) (hi : ρ y = .int .i64 i) (hb : 0 ≤ i ∧ i < len) : Yld P S ρ ⟨d, .indexAddr t x y, ty, pos, aft, gd⟩ (.pointer (some ⟨b, off + i.toNat * m, none⟩)) := .mk fun _ _ => by
  unfold sliceEl at hs
  split at hs
  · rename_i e hu
    split at hs
    · rename_i inf hin
      obtain rfl := Option.some.inj hs
      have hc : 0 ≤ i ∧ i < (len : Int) := hb
      simp only [execOp, Instr.indexAt, asIntOf, h, hi, Sem.run_bind, Sem.run_pure, run_underlying hu, Result.andThen_ok, if_pos hc, run_sizeOf hin, Addr.add]
      by_cases h0 : i.toNat * inf.size = 0
      · simp [h0]
      · simp [h0]
    · cases hs
  · cases hs
theorem Y_indexStr {a : ByteArray} {k : IntKind} {i : Int} (hs : isStrT P t = true) (h : ρ x = .string a) (hi : ρ y = .int k i) (hb : 0 ≤ i ∧ i.toNat < a.size) : Yld P S ρ ⟨d, .index t x y, ty, pos, aft, gd⟩ (.int .u8 ((byteAt a i.toNat).toNat : Int)) := .mk fun _ _ => by
  have hu : P.underlying t = some .string := by unfold isStrT at hs; split at hs <;> simp_all
  have hg : a[i.toNat]? = some (a[i.toNat]'hb.2) := by rw [getElem?_pos a i.toNat hb.2]
  have hv : ((byteAt a i.toNat).toNat : Int) = ((a[i.toNat]'hb.2).toNat : Int) := by
    have hb2 : i.toNat < a.data.toList.length := by simpa using hb.2
    unfold byteAt; rw [List.getElem?_eq_getElem hb2]; rfl
  simp [execOp, Instr.index, asIntOf, h, hi, Sem.run_bind, run_underlying hu, hb.1, hg, hv]

theorem Y_extract {vs : Array Value} {i : Nat} {u : Value} (h : ρ x = .tuple vs) (hv : vs[i]? = some u) : Yld P S ρ ⟨d, .extract x i, ty, pos, aft, gd⟩ u := .mk fun _ _ => by
  simp [go_sem, execOp, Instr.extract, h, hv]
theorem Y_makeFunc {fn : Fn} {first cap : List Operand} {vf vc : List Value} (hf : first.map ρ = vf) (hc : cap.map ρ = vc) : Yld P S ρ ⟨d, .makeFunc fn first.toArray cap.toArray, ty, pos, aft, gd⟩ (.func fn vf.toArray vc.toArray) := .mk fun _ _ => by
  simp [go_sem, execOp, Instr.makeFunc, ← hf, ← hc]

/-- A load of one cell. -/
theorem Y_load1 {a : Addr} {v : Value} (ht : scalarT P t = true) (hx : ρ x = .pointer (some a)) (hc : ∀ w, S w → w.cell? a = some v) : Yld P S ρ ⟨d, .load t x, ty, pos, aft, gd⟩ v := .mk fun w hw => by
  have := hc w hw
  unfold scalarT at ht
  cases hu : P.underlying t with
  | none => simp [hu] at ht
  | some de =>
    have hag : (isAgg t).run P w = .ok false w := by
      simp only [isAgg, Sem.run_bind, run_underlying hu, Result.andThen_ok]
      cases de <;> simp_all
    simp [execOp, Instr.loadAt, hx, Instr.sureAddr, loadVar, Sem.run_bind, hag, load, Sem.run, this]
theorem Y_load3 {b off : Nat} {v0 v1 v2 : Value} (ht : structT P t = some 3) (hx : ρ x = .pointer (some ⟨b, off, none⟩))
    (hc : ∀ w, S w → w.cell? ⟨b, off, none⟩ = some v0 ∧ w.cell? ⟨b, off + 1, none⟩ = some v1 ∧ w.cell? ⟨b, off + 2, none⟩ = some v2) : Yld P S ρ ⟨d, .load t x, ty, pos, aft, gd⟩ (.agg #[v0, v1, v2]) := .mk fun w hw => by
  obtain ⟨h0, h1, h2⟩ := hc w hw
  unfold structT at ht
  split at ht
  · rename_i fs inf hu hi
    obtain hs := Option.some.inj ht
    have hag : (isAgg t).run P w = .ok true w := by
      simp only [isAgg, Sem.run_bind, run_underlying hu, Result.andThen_ok]; rfl
    simp [execOp, Instr.loadAt, hx, Instr.sureAddr, loadVar, Sem.run_bind, hag, run_sizeOf hi, hs, loadCells, loadCellsFrom, load, Sem.run, Addr.add, h0, h1, h2]
  · cases ht
end

/-! The steps of the walk. -/
theorem evalT (l : List Value) (ds : List Deferred) (t : Tmp) : Act.eval ⟨l.toArray, ds⟩ (.tmp t) = l.getD t undef := by
  show (l.toArray).getD t undef = _
  simp [List.getD]
section
variable {P : Program} {ops : Array Oper} {Q : Exit → Act → World → Prop} {dr : Bool} {S : World → Prop} {fu k : Nat} {o : Oper} {rest : List (Nat × Oper)} {a : Act} {w : World}

theorem T_skip (hd : (!dr || takeB ops ((k, o) :: rest) k o) = true) (hg : Region.wanted o (yielded ops a.tmps) = false)
    (h : wpT P ops Q dr fu S rest (a.put o.dst undef) w) : wpT P ops Q dr (fu + 1) S ((k, o) :: rest) a w := .inl ⟨0, (k, o), undef, rfl, fun _ => rfl, .inr ⟨hg, rfl⟩, hd, h⟩
/-- An operation that turns the world. -/
theorem T_go {v : Value} {w' : World} {S' : World → Prop} (hd : (!dr || soleB ops ((k, o) :: rest) k o) = true) (hg : Region.wanted o (yielded ops a.tmps) = true)
    (hx : (execOp a.eval o).run P w = .ok (.value v) w') (hs : dr = true → ∀ w, S' w → S w) (hw : S' w') (h : wpT P ops Q dr fu S' rest (a.put o.dst v) w') :
    wpT P ops Q dr (fu + 1) S ((k, o) :: rest) a w := .inr (.inl ⟨hd, by
  unfold wpO; rw [if_pos hg]; refine .inl ?_; simp only [Oper.wp, hx, Oper.upon]; exact ⟨S', fun hd => .inr (hs hd), hw, h⟩⟩)
/-- A call of a Go function that has a body. -/
def callB (P : Program) (f : FuncId) : Bool := match P.funcs[f]? with
  | some fn => fn.name != "runtime.NumGoroutine" && fn.body.isSome
  | none => false
theorem run_callFunc {f : FuncId} (h : callB P f = true) (args : Array Value) (w : World) : (callFunc f args).run P w = .ok (.enter f args) w := by
  unfold callB at h
  split at h
  · rename_i fn hf
    simp only [Bool.and_eq_true, bne_iff_ne, ne_eq] at h
    simp [go_sem, callFunc, hf, h.1]
    intro hn
    simp [hn] at h
  · cases h
theorem run_call_op {ρ : Operand → Value} {f : FuncId} {x : Operand} {first cap : Array Value} {xs : Array Operand} {ats : Array TypeId} {d : Option Tmp} {ty : TypeId} {pos : String} {aft : Array Edge} {gd : Option (Nat × Bool)}
    (hx : ρ x = .func (.func f) first cap) (hf : callB P f = true) (w : World) :
    (execOp ρ ⟨d, .call ⟨.value x, xs, ats⟩, ty, pos, aft, gd⟩).run P w = .ok (.enter f (first ++ xs.map ρ ++ cap)) w := by
  simp only [execOp, resolve, hx, Deferred.ofValue, Sem.run_bind, Sem.run_pure, Result.andThen_ok, invoke, run_callFunc hf]
end

section
variable {P : Program} {ops : Array Oper} {Q : Exit → Act → World → Prop} {dr : Bool} {fu k : Nat} {rest : List (Nat × Oper)} {a : Act} {w w0 : World} {M Z0 : Zone} {L : List Res} {φ : Fact}
  {d : Option Tmp} {ty : TypeId} {pos : String} {aft : Array Edge} {gd : Option (Nat × Bool)} {x y : Operand} {t t' : TypeId}

theorem St.tail {r : Res} (h : St w0 M Z0 (r :: L) φ w) : St w0 M Z0 L φ w := by simpa using h.drop 0

theorem run_newVar (P : Program) (t : TypeId) (v : Value) (w : World) : (newVar t v).run P w = .ok ⟨w.heap.size, 0, none⟩ (w.alloc (.cells v.cells t (0, 0))) := rfl

def zeroB (P : Program) (t : TypeId) : Option (List Value) := match P.info? t with
  | some i => match i.zero with
    | some z => some z.cells.toList
    | none => none
  | none => none
theorem T_alloc {cs : List Value} (hz : zeroB P t = some cs) (hw : St w0 M Z0 L φ w) (hd : (!dr || soleB ops ((k, ⟨d, .alloc t, ty, pos, aft, gd⟩) :: rest) k ⟨d, .alloc t, ty, pos, aft, gd⟩) = true) (hg : Region.wanted ⟨d, .alloc t, ty, pos, aft, gd⟩ (yielded ops a.tmps) = true)
    (h : ∀ b w', St w0 M Z0 (blk b cs t :: L) φ w' → wpT P ops Q dr fu (St w0 M Z0 (blk b cs t :: L) φ) rest (a.put d (.pointer (some ⟨b, 0, none⟩))) w') :
    wpT P ops Q dr (fu + 1) (St w0 M Z0 L φ) ((k, ⟨d, .alloc t, ty, pos, aft, gd⟩) :: rest) a w := by
  have hs := hw.alloc cs t
  refine T_go hd hg (v := .pointer (some ⟨w.heap.size, 0, none⟩)) (w' := w.alloc (.cells cs.toArray t (0, 0))) ?_ (fun _ _ h => h.tail) hs (h _ _ hs)
  unfold zeroB at hz
  split at hz
  · rename_i i hi
    split at hz
    · rename_i z hzz
      obtain rfl := Option.some.inj hz
      have hzv : (zeroValue t).run P w = .ok z w := by
        simp only [zeroValue, Sem.run_bind, run_typeInfo hi, Result.andThen_ok, hzz, Sem.run_pure]
      simp only [execOp, Instr.alloc, Sem.run_bind, hzv, run_newVar, Result.andThen_ok, Sem.run_pure, Array.toArray_toList]
    · cases hz
  · cases hz

/-- The list cs with vs laid from place off on. -/
def putL (cs : List Value) (off : Nat) : List Value → List Value
  | [] => cs
  | v :: vs => putL (cs.set off v) (off + 1) vs
def oneB : Value → Bool
  | .agg _ | .tuple _ => false
  | _ => true
theorem run_store {b off : Nat} {v u : Value} {w : World} {kk : Sem Unit} (h1 : oneB v = true) (hc : w.cell? ⟨b, off, none⟩ = some u) (hf : w.frozen? ⟨b, off, none⟩ = false) :
    (Sem.store .plain ⟨b, off, none⟩ v kk).run P w = kk.run P (w.setCell ⟨b, off, none⟩ v) := by
  cases v <;> first | (simp [oneB] at h1; done) | simp [Sem.run, hc, hf]
theorem addr_add (b off i : Nat) : Addr.add ⟨b, off, none⟩ i = ⟨b, off + i, none⟩ := by
  unfold Addr.add; split
  · rename_i h; subst h; rfl
  · rfl
end
end Go.Dk

namespace Go.Dk
open Go

/-- A term, with the places where it lies. -/
inductive HT where
  | mk (k n : Int) (a : Option Addr) (cap : Nat) (kids : List HT)
/-- A term. -/
inductive T where
  | mk (k n : Int) (kids : List T)
namespace HT
def k : HT → Int | .mk k _ _ _ _ => k
def n : HT → Int | .mk _ n _ _ _ => n
def a : HT → Option Addr | .mk _ _ a _ _ => a
def cap : HT → Nat | .mk _ _ _ c _ => c
def kids : HT → List HT | .mk _ _ _ _ ts => ts
def val (t : HT) : Value := .agg #[.int .i64 t.k, .int .i64 t.n, .slice t.a t.kids.length t.cap]
mutual
def er : HT → T | .mk k n _ _ ts => .mk k n (erL ts)
def erL : List HT → List T | [] => [] | t :: ts => er t :: erL ts
end
theorem erL_eq (ts : List HT) : erL ts = ts.map er := by induction ts with | nil => rfl | cons t ts ih => simp [erL, ih]
end HT
namespace T
def k : T → Int | .mk k _ _ => k
def n : T → Int | .mk _ n _ => n
def kids : T → List T | .mk _ _ ts => ts
end T
theorem HT.er_k (t : HT) : t.er.k = t.k := by cases t; rfl
theorem HT.er_n (t : HT) : t.er.n = t.n := by cases t; rfl
theorem HT.er_kids (t : HT) : t.er.kids = t.kids.map HT.er := by cases t; simp [HT.er, T.kids, HT.kids, HT.erL_eq]

mutual
/-- The term lies in memory, on blocks of the zone. -/
def Rd (Z : Zone) (w : World) : HT → Prop
  | .mk _ _ a cap kids => (kids = [] ∨ ∃ b off, a = some ⟨b, off, none⟩ ∧ Z b ∧ RdL Z w b off kids) ∧ kids.length ≤ cap ∧ kids.length ≤ 9223372036854775807
def RdL (Z : Zone) (w : World) (b off : Nat) : List HT → Prop
  | [] => True
  | t :: ts => (w.cell? ⟨b, off, none⟩ = some (.int .i64 t.k) ∧ w.cell? ⟨b, off + 1, none⟩ = some (.int .i64 t.n) ∧ w.cell? ⟨b, off + 2, none⟩ = some (.slice t.a t.kids.length t.cap)) ∧ Rd Z w t ∧ RdL Z w b (off + 3) ts
end
theorem cell_lt {w : World} {b off : Nat} {v : Value} (h : w.cell? ⟨b, off, none⟩ = some v) : b < w.heap.size := World.block_lt_of_cell? w _ h
theorem cell_keep {w w' : World} {b off : Nat} (h : w'.heap[b]? = w.heap[b]?) : w'.cell? ⟨b, off, none⟩ = w.cell? ⟨b, off, none⟩ := by
  simp only [World.cell?, h]
mutual
theorem Rd.stable (Z Z' : Zone) (w w' : World) (hz : ∀ b, Z b → b < w.heap.size → Z' b ∧ w'.heap[b]? = w.heap[b]?) : ∀ t, Rd Z w t → Rd Z' w' t
  | .mk _ _ a cap kids, h => by
    simp only [Rd] at h ⊢
    refine ⟨?_, h.2⟩
    rcases h.1 with h1 | ⟨b, off, ha, hb, hl⟩
    · exact .inl h1
    · cases kids with
      | nil => exact .inl rfl
      | cons t ts =>
        have hlt : b < w.heap.size := by simp only [RdL] at hl; exact cell_lt hl.1.1
        exact .inr ⟨b, off, ha, (hz b hb hlt).1, RdL.stable Z Z' w w' hz b off (hz b hb hlt).2 _ hl⟩
theorem RdL.stable (Z Z' : Zone) (w w' : World) (hz : ∀ b, Z b → b < w.heap.size → Z' b ∧ w'.heap[b]? = w.heap[b]?) (b off : Nat) (hk : w'.heap[b]? = w.heap[b]?) : ∀ ts, RdL Z w b off ts → RdL Z' w' b off ts
  | [], _ => by simp [RdL]
  | t :: ts, h => by
    simp only [RdL] at h ⊢
    exact ⟨⟨(cell_keep hk).trans h.1.1, (cell_keep hk).trans h.1.2.1, (cell_keep hk).trans h.1.2.2⟩, Rd.stable Z Z' w w' hz t h.2.1, RdL.stable Z Z' w w' hz b (off + 3) hk ts h.2.2⟩
end
theorem RdL.at {Z : Zone} {w : World} {b : Nat} : ∀ {ts : List HT} {off : Nat}, RdL Z w b off ts → ∀ (i : Nat) (t : HT), ts[i]? = some t →
    (w.cell? ⟨b, off + i * 3, none⟩ = some (.int .i64 t.k) ∧ w.cell? ⟨b, off + i * 3 + 1, none⟩ = some (.int .i64 t.n) ∧ w.cell? ⟨b, off + i * 3 + 2, none⟩ = some (.slice t.a t.kids.length t.cap)) ∧ Rd Z w t
  | [], _, _, i, t, hi => by simp at hi
  | u :: ts, off, h, 0, t, hi => by
    simp only [RdL] at h
    simp only [List.getElem?_cons_zero, Option.some.injEq] at hi
    subst hi
    simpa using ⟨h.1, h.2.1⟩
  | u :: ts, off, h, i + 1, t, hi => by
    simp only [RdL] at h
    have := RdL.at h.2.2 i t (by simpa using hi)
    rw [show off + (i + 1) * 3 = off + 3 + i * 3 by omega]
    exact this
theorem Rd.len {Z : Zone} {w : World} {t : HT} (h : Rd Z w t) : t.kids.length ≤ 9223372036854775807 ∧ t.kids.length ≤ t.cap := by
  cases t; simp only [Rd] at h; exact ⟨h.2.2, h.2.1⟩
theorem Rd.row {Z : Zone} {w : World} {t : HT} (h : Rd Z w t) (hne : 0 < t.kids.length) : ∃ b off, t.a = some ⟨b, off, none⟩ ∧ Z b ∧ RdL Z w b off t.kids := by
  cases t; simp only [Rd] at h
  rcases h.1 with h1 | h1
  · simp only [HT.kids] at hne; subst h1; simp at hne
  · exact h1
end Go.Dk

namespace Go.Dk
open Go
/-! What a function hands back. -/
def resOne (tmps : Array Value) : ResultVar → Sem Value
  | .tmp t => pure (tmps.getD t undef)
  | .cell a t => do loadVar t (← asAddr (tmps.getD a undef))
theorem results_eq (fn : Func) (tmps : Array Value) : results fn tmps = (do let vs ← fn.results.mapM (resOne tmps); pure (if h : vs.size = 1 then vs[0] else .tuple vs)) := by
  have : (fun r => resOne tmps r) = (fun (r : ResultVar) => (match r with | .tmp t => pure (tmps.getD t undef) | .cell a t => do loadVar t (← asAddr (tmps.getD a undef)) : Sem Value)) := by
    funext r; cases r <;> rfl
  show _ = (do let vs ← fn.results.mapM (fun r => resOne tmps r); pure (if h : vs.size = 1 then vs[0] else .tuple vs))
  rw [this]; rfl
section
variable {P : Program} {fn : Func} {tmps : List Value} {w : World}
theorem R_tmp {t : Tmp} {v : Value} (h : tmps.getD t undef = v) : (resOne tmps.toArray (.tmp t)).run P w = .ok v w := by
  have : tmps.toArray.getD t undef = v := by simpa [List.getD] using h
  simp only [resOne, this, Sem.run_pure]
theorem R_cell {a : Tmp} {t : TypeId} {ad : Addr} {v : Value} (h : tmps.getD a undef = .pointer (some ad)) (hl : (loadVar t ad).run P w = .ok v w) : (resOne tmps.toArray (.cell a t)).run P w = .ok v w := by
  have : tmps.toArray.getD a undef = .pointer (some ad) := by simpa [List.getD] using h
  simp only [resOne, this, asAddr, Sem.run_bind, Sem.run_pure, Result.andThen_ok, hl]
theorem load1 {t : TypeId} {a : Addr} {v : Value} (ht : scalarT P t = true) (hc : w.cell? a = some v) : (loadVar t a).run P w = .ok v w := by
  unfold scalarT at ht
  cases hu : P.underlying t with
  | none => simp [hu] at ht
  | some de =>
    have hag : (isAgg t).run P w = .ok false w := by
      simp only [isAgg, Sem.run_bind, run_underlying hu, Result.andThen_ok]
      cases de <;> simp_all
    simp [loadVar, Sem.run_bind, hag, load, Sem.run, hc]
theorem load3 {t : TypeId} {b off : Nat} {v0 v1 v2 : Value} (ht : structT P t = some 3) 
    (h0 : w.cell? ⟨b, off, none⟩ = some v0) (h1 : w.cell? ⟨b, off + 1, none⟩ = some v1) (h2 : w.cell? ⟨b, off + 2, none⟩ = some v2) : (loadVar t ⟨b, off, none⟩).run P w = .ok (.agg #[v0, v1, v2]) w := by
  unfold structT at ht
  split at ht
  · rename_i fs inf hu hi
    obtain hs := Option.some.inj ht
    have hag : (isAgg t).run P w = .ok true w := by
      simp only [isAgg, Sem.run_bind, run_underlying hu, Result.andThen_ok]; rfl
    simp [loadVar, Sem.run_bind, hag, run_sizeOf hi, hs, loadCells, loadCellsFrom, load, Sem.run, Addr.add, h0, h1, h2]
  · cases ht
end
end Go.Dk

namespace Go.Dk
end Go.Dk

namespace Go.Dk
theorem St.get {w0 w : World} {M Z0 : Zone} {L : List Res} {φ : Fact} (h : St w0 M Z0 L φ w) {n b : Nat} {cs : List Value} {T : TypeId} (hn : L[n]? = some (blk b cs T)) : w.heap[b]? = some (.cells cs.toArray T (0, 0)) := h.own _ (List.mem_of_getElem? hn)
end Go.Dk

namespace Go.Dk
theorem HT.ind {motive : HT → Prop} (h : ∀ t : HT, (∀ u ∈ t.kids, motive u) → motive t) (t : HT) : motive t :=
  h t (fun u hu => HT.ind h u)
  termination_by SizeOf.sizeOf t
  decreasing_by
  cases t
  simp only [HT.kids] at hu
  have := List.sizeOf_lt_of_mem hu
  simp only [HT.mk.sizeOf_spec]
  omega
theorem T.ind {motive : T → Prop} (h : ∀ t : T, (∀ u ∈ t.kids, motive u) → motive t) (t : T) : motive t :=
  h t (fun u hu => T.ind h u)
  termination_by SizeOf.sizeOf t
  decreasing_by
  cases t
  simp only [T.kids] at hu
  have := List.sizeOf_lt_of_mem hu
  simp only [T.mk.sizeOf_spec]
  omega
theorem Rd.elem {Z : Zone} {w : World} {t u : HT} {b off i : Nat} (h : Rd Z w t) (ha : t.a = some ⟨b, off, none⟩) (hu : t.kids[i]? = some u) :
    (w.cell? ⟨b, off + i * 3, none⟩ = some (.int .i64 u.k) ∧ w.cell? ⟨b, off + i * 3 + 1, none⟩ = some (.int .i64 u.n) ∧ w.cell? ⟨b, off + i * 3 + 2, none⟩ = some (.slice u.a u.kids.length u.cap)) ∧ Rd Z w u := by
  have hne : 0 < t.kids.length := by
    rcases Nat.eq_zero_or_pos t.kids.length with h0 | h0
    · rw [List.length_eq_zero_iff.1 h0] at hu; cases hu
    · exact h0
  obtain ⟨b', off', ha', _, hl⟩ := h.row hne
  rw [ha] at ha'
  simp only [Option.some.injEq, Addr.mk.injEq, and_true] at ha'
  obtain ⟨rfl, rfl⟩ := ha'
  exact hl.at i u hu
theorem Rd.addr {Z : Zone} {w : World} {t u : HT} {i : Nat} (h : Rd Z w t) (hu : t.kids[i]? = some u) : ∃ b off, t.a = some ⟨b, off, none⟩ := by
  have hne : 0 < t.kids.length := by
    rcases Nat.eq_zero_or_pos t.kids.length with h0 | h0
    · rw [List.length_eq_zero_iff.1 h0] at hu; cases hu
    · exact h0
  obtain ⟨b', off', ha', _, hl⟩ := h.row hne
  exact ⟨b', off', ha'⟩
end Go.Dk

namespace Go.Dk
end Go.Dk

namespace Go.Dk
open Go
section
variable {P : Program} {S : World → Prop} {ρ : Operand → Value} {d : Option Tmp} {ty : TypeId} {pos : String} {aft : Array Edge} {gd : Option (Nat × Bool)} {x y c lo hi : Operand} {t t' : TypeId}
/-- s[:h]. -/
theorem Y_sliceStrTo {a : ByteArray} {h : Int} (ht : isStrT P t = true) (hx : ρ x = .string a) (hh : ρ hi = .int .i64 h) (hb : 0 ≤ h ∧ h ≤ a.size) :
    Yld P S ρ ⟨d, .slice t x none (some hi) none, ty, pos, aft, gd⟩ (.string (a.extract 0 h.toNat)) := .mk fun w _ => by
  have hu : P.underlying t = some .string := by unfold isStrT at ht; split at ht <;> simp_all
  have hc : 0 ≤ h ∧ h ≤ (a.size : Int) := hb
  simp [execOp, Instr.sliceAt, Sem.run_bind, run_underlying hu, hx, hh, Instr.slice, Instr.sliceBounds, Instr.sliceBound, asIntOf, hc]
/-- s[l:]. -/
theorem Y_sliceStrFrom {a : ByteArray} {l : Int} (ht : isStrT P t = true) (hx : ρ x = .string a) (hl : ρ lo = .int .i64 l) (hb : 0 ≤ l ∧ l ≤ a.size) :
    Yld P S ρ ⟨d, .slice t x (some lo) none none, ty, pos, aft, gd⟩ (.string (a.extract l.toNat a.size)) := .mk fun w _ => by
  have hu : P.underlying t = some .string := by unfold isStrT at ht; split at ht <;> simp_all
  have hc : 0 ≤ l ∧ l ≤ (a.size : Int) := hb
  simp [execOp, Instr.sliceAt, Sem.run_bind, run_underlying hu, hx, hl, Instr.slice, Instr.sliceBounds, Instr.sliceBound, asIntOf, hc]
/-- bytealg.IndexByteString. -/
def idxB (s : ByteArray) (c : UInt8) : Int := match s.data.toList.findIdx? (· == c) with
  | some i => (i : Int)
  | none => -1
theorem find_range (s : ByteArray) (c : UInt8) : ((List.range s.size).find? fun i => s[i]! == c) = s.data.toList.findIdx? (· == c) := by
  have hs : s.size = s.data.toList.length := by simp
  have hg : ∀ i, i < s.size → s[i]! = s.data.toList[i]?.getD 0 := by
    intro i hi
    rw [getElem!_pos s i hi]
    have hb2 : i < s.data.toList.length := by rw [← hs]; exact hi
    rw [List.getElem?_eq_getElem hb2]; rfl
  generalize hl : s.data.toList = l at *
  rw [hs]
  have hg' : ∀ i, i < l.length → s[i]! = l[i]?.getD 0 := fun i hi => hg i (by rw [hs]; exact hi)
  cases hf : l.findIdx? (· == c) with
  | none =>
    rw [List.find?_eq_none]
    intro i hi
    simp only [List.mem_range] at hi
    rw [List.findIdx?_eq_none_iff] at hf
    rw [hg' i hi, List.getElem?_eq_getElem hi]
    have := hf l[i] (List.getElem_mem hi)
    simpa using this
  | some k =>
    rw [List.findIdx?_eq_some_iff_getElem] at hf
    obtain ⟨hk, hp, hlt⟩ := hf
    rw [List.find?_range_eq_some]
    refine ⟨by rw [hg' k hk, List.getElem?_eq_getElem hk]; simpa using hp, by simpa using hk, fun j hj => ?_⟩
    rw [hg' j (by omega), List.getElem?_eq_getElem (by omega)]
    simpa using hlt j hj
def extIB (P : Program) (f : FuncId) : Prop := ∃ fn, P.funcs[f]? = some fn ∧ (fn.name == "runtime.NumGoroutine") = false ∧ fn.body.isNone = true ∧ Extern.findNext fn = none ∧ Extern.find fn = some Extern.BytealgIndexByte.indexByte
theorem Y_indexByte {f : FuncId} {s : ByteArray} {b : UInt8} {ats : Array TypeId} (hf : extIB P f) (hx : ρ x = .string s) (hy : ρ y = .int .u8 (b.toNat : Int)) (hff : ρ (.func f) = .func (.func f) #[] #[]) :
    Yld P S ρ ⟨d, .call ⟨.value (.func f), #[x, y], ats⟩, ty, pos, aft, gd⟩ (.int .i64 (idxB s b)) := .mk fun w _ => by
  obtain ⟨fn, h1, h2, h3, h4, h5⟩ := hf
  have hr : (Extern.BytealgIndexByte.indexByte #[.string s, .int .u8 (b.toNat : Int)]).run P w = .ok (.int .i64 (idxB s b)) w := by
    rw [run_indexByte_string]
    have hb : ((b.toNat : Int).toNat).toUInt8 = b := by simp
    unfold idxB firstIdx
    rw [hb, find_range]
    cases s.data.toList.findIdx? (· == b) <;> rfl
  simp only [execOp, resolve, hff, Deferred.ofValue, Sem.run_bind, Sem.run_pure, Result.andThen_ok, invoke]
  rw [show (#[] : Array Value) ++ #[x, y].map ρ ++ #[] = #[.string s, .int .u8 (b.toNat : Int)] by simp [hx, hy]]
  rw [run_callFunc_extern h1 h2 h3 h4 h5]
  rw [hr]; rfl
end
end Go.Dk

namespace Go.Dk
open Go
/-! Slice literals. -/
theorem putL_length : ∀ (vs cs : List Value) (off : Nat), (putL cs off vs).length = cs.length
  | [], cs, off => rfl
  | v :: vs, cs, off => by simp [putL, putL_length vs]
theorem putL_get : ∀ (vs cs : List Value) (off i : Nat), off + vs.length ≤ cs.length → (putL cs off vs)[i]? = if off ≤ i ∧ i < off + vs.length then vs[i - off]? else cs[i]?
  | [], cs, off, i, _ => by simp [putL]; omega
  | v :: vs, cs, off, i, h => by
    simp only [List.length_cons] at h
    rw [putL, putL_get vs _ _ _ (by simp; omega)]
    by_cases h1 : off + 1 ≤ i ∧ i < off + 1 + vs.length
    · rw [if_pos h1, if_pos (by simp; omega), show i - off = (i - (off + 1)) + 1 by omega, List.getElem?_cons_succ]
    · rw [if_neg h1]
      by_cases h2 : i = off
      · subst h2; rw [if_pos (by simp), List.getElem?_set_self (by omega)]; simp
      · rw [if_neg (by simp; omega), List.getElem?_set_ne (by omega)]
theorem foldl_put (xs : List Value) : ∀ (k off : Nat) (A : Array Value), ((xs.zipIdx k).foldl (fun cs (p : Value × Nat) => cs.setIfInBounds (off + p.2) p.1) A).toList = putL A.toList (off + k) xs := by
  induction xs with
  | nil => intro k off A; rfl
  | cons x xs ih =>
    intro k off A
    simp only [List.zipIdx_cons, List.foldl_cons]
    rw [ih]
    simp [putL, Nat.add_assoc]
/-- The parts of a literal: their places from k on. -/
def partsFrom : Nat → List Value → List (Nat × Value)
  | _, [] => []
  | k, v :: vs => (k, v) :: partsFrom (k + 1) vs
def flatC (vs : List Value) : List Value := vs.flatMap (fun v => v.cells.toList)
theorem fill_parts (size : Nat) : ∀ (vs : List Value) (k : Nat) (A : Array Value), (∀ v ∈ vs, v.cells.size = size) → (k + vs.length) * size ≤ A.size →
    ∃ B, Instr.fill (fun i => some (i * size, size)) A (partsFrom k vs) = some B ∧ B.toList = putL A.toList (k * size) (flatC vs)
  | [], k, A, _, _ => ⟨A, rfl, rfl⟩
  | v :: vs, k, A, hv, hs => by
    have h1 : v.cells.size = size := hv v (List.mem_cons_self ..)
    simp only [List.length_cons] at hs
    have hle : k * size + size ≤ A.size := by
      have : (k + 1) * size ≤ (k + (vs.length + 1)) * size := Nat.mul_le_mul_right _ (by omega)
      rw [Nat.add_mul, Nat.one_mul] at this; omega
    simp only [partsFrom, Instr.fill]
    rw [if_neg (by simp [h1]; omega)]
    have hf : (v.cells.zipIdx.foldl (fun cs (p : Value × Nat) => cs.setIfInBounds (k * size + p.2) p.1) A).toList = putL A.toList (k * size) v.cells.toList := by
      have := foldl_put v.cells.toList 0 (k * size) A
      simp only [Nat.add_zero] at this
      rw [← this]
      congr 1
      rw [← Array.foldl_toList]
      simp
    obtain ⟨B, hB, hl⟩ := fill_parts size vs (k + 1) (v.cells.zipIdx.foldl (fun cs (p : Value × Nat) => cs.setIfInBounds (k * size + p.2) p.1) A) (fun u hu => hv u (List.mem_cons_of_mem _ hu)) (by
      have : (v.cells.zipIdx.foldl (fun cs (p : Value × Nat) => cs.setIfInBounds (k * size + p.2) p.1) A).size = A.size := by
        rw [← Array.length_toList, hf, putL_length, Array.length_toList]
      rw [this, show k + 1 + vs.length = k + (vs.length + 1) by omega]; exact hs)
    refine ⟨B, hB, ?_⟩
    rw [hl, hf]
    simp only [flatC, List.flatMap_cons]
    have happ : ∀ (a b cs : List Value) (off : Nat), putL (putL cs off a) (off + a.length) b = putL cs off (a ++ b) := by
      intro a
      induction a with
      | nil => intro b cs off; rfl
      | cons x a ih => intro b cs off; simp only [putL, List.length_cons, List.cons_append]; rw [← ih, show off + 1 + a.length = off + (a.length + 1) by omega]
    rw [← happ, show (k + 1) * size = k * size + v.cells.toList.length by rw [Array.length_toList, h1, Nat.add_mul, Nat.one_mul]]
theorem putL_all (vs cs : List Value) (h : vs.length = cs.length) : putL cs 0 vs = vs := by
  apply List.ext_getElem?
  intro i
  rw [putL_get _ _ _ _ (by omega)]
  split
  · simp
  · rw [List.getElem?_eq_none (by omega), List.getElem?_eq_none (by omega)]
theorem flatC_length (size : Nat) : ∀ vs : List Value, (∀ v ∈ vs, v.cells.size = size) → (flatC vs).length = vs.length * size
  | [], _ => by simp [flatC]
  | v :: vs, h => by
    have := flatC_length size vs (fun u hu => h u (List.mem_cons_of_mem _ hu))
    simp only [flatC, List.flatMap_cons, List.length_append, Array.length_toList, List.length_cons] at this ⊢
    rw [this, h v (List.mem_cons_self ..), Nat.add_mul, Nat.one_mul, Nat.add_comm]
def elemT (P : Program) (t : TypeId) : Option TypeId := match P.underlying t with | some (.slice e) => some e | _ => none

section
variable {P : Program} {ops : Array Oper} {Q : Exit → Act → World → Prop} {dr : Bool} {fu k : Nat} {rest : List (Nat × Oper)} {a : Act} {w w0 : World} {M Z0 : Zone} {L : List Res} {φ : Fact}
  {d : Option Tmp} {ty : TypeId} {pos : String} {aft : Array Edge} {gd : Option (Nat × Bool)} {x y : Operand} {t t' : TypeId}
/-- A slice literal, all of its elements given. -/
theorem T_buildSlice {n sz e : Nat} {ps : List (Nat × Operand)} {vs cs : List Value} (he : elemT P t = some e) (hz : (P.info? e).map (·.size) = some sz) (hzero : (zeroB P e).isSome = true) (hw : St w0 M Z0 L φ w)
    (hd : (!dr || soleB ops ((k, ⟨d, .buildSlice t n ps.toArray, ty, pos, aft, gd⟩) :: rest) k ⟨d, .buildSlice t n ps.toArray, ty, pos, aft, gd⟩) = true) (hg : Region.wanted ⟨d, .buildSlice t n ps.toArray, ty, pos, aft, gd⟩ (yielded ops a.tmps) = true)
    (hps : ps.map (fun p => (p.1, a.eval p.2)) = partsFrom 0 vs) (hn : vs.length = n) (hsz : ∀ v ∈ vs, v.cells.size = sz) (hb : n * sz ≤ 16777216) (hcs : flatC vs = cs)
    (h : ∀ b w', St w0 M Z0 (blk b cs e :: L) φ w' → wpT P ops Q dr fu (St w0 M Z0 (blk b cs e :: L) φ) rest (a.put d (.slice (some ⟨b, 0, none⟩) n n)) w') :
    wpT P ops Q dr (fu + 1) (St w0 M Z0 L φ) ((k, ⟨d, .buildSlice t n ps.toArray, ty, pos, aft, gd⟩) :: rest) a w := by
  have hs := hw.alloc cs e
  refine T_go hd hg (v := .slice (some ⟨w.heap.size, 0, none⟩) n n) (w' := w.alloc (.cells cs.toArray e (0, 0))) ?_ (fun _ _ h => h.tail) hs (h _ _ hs)
  unfold elemT at he
  split at he
  · rename_i e' hu
    obtain rfl := Option.some.inj he
    cases hi : P.info? e' with
    | none => simp [hi] at hz
    | some i =>
      simp only [hi, Option.map_some, Option.some.injEq] at hz
      have hlim : ¬ (n * i.size > 2 ^ 24) := by rw [hz]; simpa using hb
      have hparts : ((ps.toArray.map fun (p : Nat × Operand) => (p.1, a.eval p.2)).toList) = partsFrom 0 vs := by simpa using hps
      have key : ∀ zero : Array Value, Instr.fill (fun j => some (j * i.size, i.size)) ((Array.range (n * i.size)).map (zero[· % zero.size]!)) ((ps.toArray.map fun (p : Nat × Operand) => (p.1, a.eval p.2)).toList) = some cs.toArray := by
        intro zero
        obtain ⟨B, hB, hl⟩ := fill_parts i.size vs 0 ((Array.range (n * i.size)).map (zero[· % zero.size]!)) (by rw [hz]; exact hsz) (by simp [hn])
        have hBcs : B = cs.toArray := by
          apply Array.toList_inj.1
          rw [hl, Nat.zero_mul, putL_all _ _ (by rw [flatC_length i.size vs (by rw [hz]; exact hsz)]; simp [hn]), hcs]
        rw [hparts, hB, hBcs]
      simp only [execOp, Instr.buildSlice, Sem.run_bind, run_underlying hu, Result.andThen_ok, run_sizeOf hi, if_neg hlim]
      by_cases h0 : n * i.size = 0
      · rw [if_pos h0]
        simp only [Sem.run_bind, Sem.run_pure, Result.andThen_ok, key, newRow, newObj, Sem.run]
        rfl
      · rw [if_neg h0]
        unfold zeroB at hzero
        simp only [hi] at hzero
        cases hzz : i.zero with
        | none => simp [hzz] at hzero
        | some z =>
          have hzv : (zeroValue e').run P w = .ok z w := by
            simp only [zeroValue, Sem.run_bind, run_typeInfo hi, Result.andThen_ok, hzz, Sem.run_pure]
          simp only [Sem.run_bind, hzv, Sem.run_pure, Result.andThen_ok, key, newRow, newObj, Sem.run]
          rfl
  · cases he
end
section
variable {P : Program} {ρ : Operand → Value} {w0 : World} {M Z0 : Zone} {L : List Res} {φ : Fact} {d : Option Tmp} {ty : TypeId} {pos : String} {aft : Array Edge} {gd : Option (Nat × Bool)} {x : Operand} {t t' : TypeId}
/-- string([]byte{b}). -/
theorem Y_conv1 {S : World → Prop} {b : Nat} {e : TypeId} {c : UInt8} (he : elemT P t = some e) (hu8 : P.underlying e = some (.int .u8)) (hs : isStrT P t' = true) (hx : ρ x = .slice (some ⟨b, 0, none⟩) 1 1) (hc : ∀ w, S w → w.cell? ⟨b, 0, none⟩ = some (.int .u8 (c.toNat : Int))) :
    Yld P S ρ ⟨d, .convert t t' x, ty, pos, aft, gd⟩ (.string ⟨#[c]⟩) := .mk fun w hw => by
  have hu : P.underlying t' = some .string := by unfold isStrT at hs; split at hs <;> simp_all
  have hc := hc w hw
  unfold elemT at he
  split at he
  · rename_i e' hue
    obtain rfl := Option.some.inj he
    have hb : UInt8.ofNat (c.toNat : Int).toNat = c := by simp
    have hl : (loadCells ⟨b, 0, none⟩ 1).run P w = .ok #[.int .u8 (c.toNat : Int)] w := by
      simp [loadCells, loadCellsFrom, load, Sem.run, addr_add, hc, Sem.run_bind]
    have hconv : (Conv.bytesToString (.slice (some ⟨b, 0, none⟩) 1 1)).run P w = .ok (.string ⟨#[c]⟩) w := by
      simp only [Conv.bytesToString, Sem.run_bind, hl, Result.andThen_ok]
      simp [Sem.run_bind, hb]
      rfl
    simp only [execOp, convert, hx, Sem.run_bind, run_underlying hue, run_underlying hu, Result.andThen_ok, run_underlying hu8, hconv, Sem.run_pure]
  · cases he
end
end Go.Dk

namespace Go.Dk
open Go
theorem partsFrom_map (f : Operand → Value) : ∀ (ps : List (Nat × Operand)) (k : Nat), ps.map (·.1) = List.range' k ps.length → ps.map (fun p => (p.1, f p.2)) = partsFrom k (ps.map (fun p => f p.2))
  | [], _, _ => rfl
  | p :: ps, k, h => by
    simp only [List.map_cons, List.length_cons, List.range'_succ, List.cons.injEq] at h
    simp only [List.map_cons, partsFrom, List.cons.injEq]
    exact ⟨by rw [h.1], partsFrom_map f ps (k + 1) h.2⟩
section
variable {P : Program} {ops : Array Oper} {Q : Exit → Act → World → Prop} {dr : Bool} {fu k : Nat} {rest : List (Nat × Oper)} {a : Act} {w w0 : World} {M Z0 : Zone} {L : List Res} {φ : Fact}
  {d : Option Tmp} {ty : TypeId} {pos : String} {aft : Array Edge} {gd : Option (Nat × Bool)} {x y : Operand} {t t' : TypeId}
theorem T_bsl {n sz e : Nat} {ps : List (Nat × Operand)} {vs cs : List Value} (hw : St w0 M Z0 L φ w)
    (hg : Region.wanted ⟨d, .buildSlice t n ps.toArray, ty, pos, aft, gd⟩ (yielded ops a.tmps) = true)
    (hd : (!dr || soleB ops ((k, ⟨d, .buildSlice t n ps.toArray, ty, pos, aft, gd⟩) :: rest) k ⟨d, .buildSlice t n ps.toArray, ty, pos, aft, gd⟩) = true)
    (he : elemT P t = some e ∧ (P.info? e).map (·.size) = some sz ∧ (zeroB P e).isSome = true)
    (hix : ps.map (·.1) = List.range' 0 ps.length) (hvs : ps.map (fun p => a.eval p.2) = vs) (hn : ps.length = n) (hsz : vs.all (fun v => v.cells.size == sz) = true) (hb : n * sz ≤ 16777216) (hcs : flatC vs = cs)
    (h : ∀ b w', St w0 M Z0 (blk b cs e :: L) φ w' → wpT P ops Q dr fu (St w0 M Z0 (blk b cs e :: L) φ) rest (a.put d (.slice (some ⟨b, 0, none⟩) n n)) w') :
    wpT P ops Q dr (fu + 1) (St w0 M Z0 L φ) ((k, ⟨d, .buildSlice t n ps.toArray, ty, pos, aft, gd⟩) :: rest) a w :=
  T_buildSlice he.1 he.2.1 he.2.2 hw hd hg (by rw [partsFrom_map a.eval ps 0 hix, hvs]) (by rw [← hvs, ← hn]; simp) (by simpa using hsz) hb hcs h
end
end Go.Dk

/-! The walk, by constructors and instances: so that the tactic that walks is short. -/
namespace Go.Dk
open Go
class FO (P : Program) (t : TypeId) (i : Nat) (k : outParam Nat) : Prop where out : fieldOff P t i = some k
class SL (P : Program) (t : TypeId) (m : outParam Nat) : Prop where out : sliceEl P t = some m
class SC (P : Program) (t : TypeId) : Prop where out : scalarT P t = true
class ST3 (P : Program) (t : TypeId) : Prop where out : structT P t = some 3
class IsStr (P : Program) (t : TypeId) : Prop where out : isStrT P t = true
class IsBool (P : Program) (t : TypeId) : Prop where out : P.underlying t = some .bool
class IsI64 (P : Program) (t : TypeId) : Prop where out : P.underlying t = some (.int .i64)
class IsU8 (P : Program) (t : TypeId) : Prop where out : P.underlying t = some (.int .u8)
class IsInt (P : Program) (t : TypeId) : Prop where out : ∃ k, P.underlying t = some (.int k)
class SZ (P : Program) (t : TypeId) (m : outParam Nat) : Prop where out : (P.info? t).map (·.size) = some m
class ZR (P : Program) (t : TypeId) (cs : outParam (List Value)) : Prop where out : zeroB P t = some cs
class EB (P : Program) (t : TypeId) (e sz : outParam Nat) : Prop where out : elemT P t = some e ∧ (P.info? e).map (·.size) = some sz ∧ (zeroB P e).isSome = true
class CB (P : Program) (f : FuncId) : Prop where out : callB P f = true
class XIB (P : Program) (f : FuncId) : Prop where out : extIB P f
class CV (P : Program) (t t' : TypeId) : Prop where out : ∃ e, elemT P t = some e ∧ P.underlying e = some (.int .u8) ∧ isStrT P t' = true
class DrM (P : Program) : Prop where out : P.follows .mixedOrders = true
instance (P : Program) (t : TypeId) [h : IsI64 P t] : IsInt P t := ⟨_, h.out⟩
instance (P : Program) (t : TypeId) [h : IsU8 P t] : IsInt P t := ⟨_, h.out⟩

structure In64 (a : Int) : Prop where
  lo : -9223372036854775808 ≤ a
  hi : a ≤ 9223372036854775807
structure In8 (a : Int) : Prop where
  lo : 0 ≤ a
  hi : a ≤ 255
structure Dv (a b : Int) : Prop where
  lo : 0 ≤ a
  mx : a ≤ 9223372036854775807
  hi : 0 < b
def xorI (a b : Int) : Int := IntKind.i64.wrap (BitVec.ofInt 64 a ^^^ BitVec.ofInt 64 b).toNat
section
variable {P : Program} {S : World → Prop} {ρ : Operand → Value} {d : Option Tmp} {ty : TypeId} {pos : String} {aft : Array Edge} {gd : Option (Nat × Bool)} {x y c : Operand} {t t' : TypeId}
theorem sliceEl_out {t m : Nat} (h : sliceEl P t = some m) : ∃ e i, P.underlying t = some (.slice e) ∧ P.info? e = some i ∧ i.size = m := by
  unfold sliceEl at h
  split at h
  · rename_i e he
    split at h
    · rename_i i hi
      exact ⟨e, i, he, hi, Option.some.inj h⟩
    · cases h
  · cases h
theorem Y_sliceTo {hi : Operand} {a : Option Addr} {n cap m : Nat} {h : Int} (ht : sliceEl P t = some m) (hx : ρ x = .slice a n cap) (hh : ρ hi = .int .i64 h) (hb : 0 ≤ h ∧ h ≤ cap) :
    Yld P S ρ ⟨d, .slice t x none (some hi) none, ty, pos, aft, gd⟩ (.slice a h.toNat cap) := .mk fun w _ => by
  obtain ⟨e, i, hu, hi', hs⟩ := sliceEl_out ht
  have ha : (a.map fun x => x.add 0) = a := by cases a <;> simp [Addr.add]
  simp [execOp, Instr.sliceAt, Sem.run_bind, run_underlying hu, hx, hh, Instr.slice, Instr.sliceBounds, Instr.sliceBound, asIntOf, hb, run_sizeOf hi', ha]
theorem Y_sliceFrom {lo : Operand} {a : Option Addr} {n cap m : Nat} {l : Int} (ht : sliceEl P t = some m) (hx : ρ x = .slice a n cap) (hl : ρ lo = .int .i64 l) (hb : 0 ≤ l ∧ l ≤ n) :
    Yld P S ρ ⟨d, .slice t x (some lo) none none, ty, pos, aft, gd⟩ (.slice (if cap = l.toNat then a else a.map (·.add (l.toNat * m))) (n - l.toNat) (cap - l.toNat)) := .mk fun w _ => by
  obtain ⟨e, i, hu, hi', hs⟩ := sliceEl_out ht
  simp [execOp, Instr.sliceAt, Sem.run_bind, run_underlying hu, hx, hl, Instr.slice, Instr.sliceBounds, Instr.sliceBound, asIntOf, hb, run_sizeOf hi', hs]
theorem Y_rem {a b : Int} (hx : ρ x = .int .i64 a) (hy : ρ y = .int .i64 b) (h : Dv a b) : Yld P S ρ ⟨d, .binOp .rem t x y t', ty, pos, aft, gd⟩ (.int .i64 (a % b)) := .mk fun _ _ => by
  have hb : b ≠ 0 := by have := h.hi; omega
  simp [go_sem, execOp, hx, hy, eqGuard, binOp, Op.intDiv, hb, Int.tmod_eq_emod_of_nonneg h.lo]
theorem Y_quo {a b : Int} (hx : ρ x = .int .i64 a) (hy : ρ y = .int .i64 b) (h : Dv a b) : Yld P S ρ ⟨d, .binOp .quo t x y t', ty, pos, aft, gd⟩ (.int .i64 (a / b)) := .mk fun _ _ => by
  have hb : b ≠ 0 := by have := h.hi; omega
  have h1 : 0 ≤ a / b := Int.ediv_nonneg h.lo (by have := h.hi; omega)
  have h2 : a / b ≤ a := Int.ediv_le_self b h.lo
  have h3 := h.mx
  simp [go_sem, execOp, hx, hy, eqGuard, binOp, Op.intDiv, hb, Int.tdiv_eq_ediv_of_nonneg h.lo, IntWalk.i64_in _ (show -9223372036854775808 ≤ a / b ∧ a / b ≤ 9223372036854775807 by omega)]
theorem Y_xor {a b : Int} (hx : ρ x = .int .i64 a) (hy : ρ y = .int .i64 b) : Yld P S ρ ⟨d, .binOp .xor t x y t', ty, pos, aft, gd⟩ (.int .i64 (xorI a b)) := .mk fun _ _ => by
  simp [go_sem, execOp, hx, hy, eqGuard, binOp, Op.intBits, xorI]; rfl
theorem Y_toInt {k : IntKind} {a : Int} (h1 : ∃ k, P.underlying t = some (.int k)) (h2 : P.underlying t' = some (.int .i64)) (hx : ρ x = .int k a) (h : -9223372036854775808 ≤ a ∧ a ≤ 9223372036854775807) : Yld P S ρ ⟨d, .convert t t' x, ty, pos, aft, gd⟩ (.int .i64 a) := .mk fun w _ => by
  obtain ⟨k', h1⟩ := h1
  simp [go_sem, execOp, convert, hx, Sem.run_bind, run_underlying h1, run_underlying h2, Conv.intToInt, IntWalk.i64_in _ h]
end
structure Ix (i n : Int) : Prop where
  lo : 0 ≤ i
  hi : i < n
structure Le (i n : Int) : Prop where
  lo : 0 ≤ i
  hi : i ≤ n

/-- The block b is among the resources, with its cells. -/
inductive At (b : Nat) : List Res → List Value → TypeId → Prop
  | here {cs T L} : At b (blk b cs T :: L) cs T
  | there {r cs T L} (h : At b L cs T) : At b (r :: L) cs T
theorem At.get {b : Nat} {L : List Res} {cs : List Value} {T : TypeId} (h : At b L cs T) : ∃ n : Nat, L[n]? = some (blk b cs T) := by
  induction h with
  | here => exact ⟨0, rfl⟩
  | there _ ih => obtain ⟨n, hn⟩ := ih; exact ⟨n + 1, by simpa using hn⟩
/-- What a cell holds in every world that meets S. -/
inductive CellIs (S : World → Prop) (b off : Nat) (v : Value) : Prop
  | mk (h : ∀ w, S w → w.cell? ⟨b, off, none⟩ = some v)
theorem CellIs.own {w0 : World} {M Z0 : Zone} {L : List Res} {φ : Fact} {b off : Nat} {cs : List Value} {T : TypeId} {v : Value} (h : At b L cs T) (hv : cs[off]? = some v) : CellIs (St w0 M Z0 L φ) b off v := by
  obtain ⟨n, hn⟩ := h.get
  exact ⟨fun w hw => hw.cell hn hv⟩
/-- The three cells of a term. -/
inductive Cell3 (S : World → Prop) (b off : Nat) (v0 v1 v2 : Value) : Prop
  | mk (h : ∀ w, S w → w.cell? ⟨b, off, none⟩ = some v0 ∧ w.cell? ⟨b, off + 1, none⟩ = some v1 ∧ w.cell? ⟨b, off + 2, none⟩ = some v2)
theorem Cell3.own {w0 : World} {M Z0 : Zone} {L : List Res} {φ : Fact} {b off : Nat} {cs : List Value} {T : TypeId} {v0 v1 v2 : Value} (h : At b L cs T) (h0 : cs[off]? = some v0) (h1 : cs[off + 1]? = some v1) (h2 : cs[off + 2]? = some v2) : Cell3 (St w0 M Z0 L φ) b off v0 v1 v2 := by
  obtain ⟨n, hn⟩ := h.get
  exact ⟨fun w hw => ⟨hw.cell hn h0, hw.cell hn h1, hw.cell hn h2⟩⟩
def okNil : Value → Bool
  | .pointer (some _) => true
  | .func (.func _) _ _ => true
  | _ => false

/-- A struct of an int, an int and a slice, out of its parts. -/
def plT (P : Program) (t : TypeId) : Option (List (Nat × Nat)) := match P.underlying t with
  | some (.struct fs) => fs.toList.mapM fun f => (P.info? f.type).map fun i => (f.offset, i.size)
  | _ => none
class BT (P : Program) (t : TypeId) : Prop where
  pl : plT P t = some [(0, 1), (1, 1), (2, 1)]
  zero : zeroB P t = some [.int .i64 0, .int .i64 0, .slice none 0 0]
theorem bt_built {P : Program} {t : TypeId} (h : BT P t) (ps : List (Nat × Value)) : P.built t ps = Instr.fill ([(0, 1), (1, 1), (2, 1)].toArray[·]?) #[.int .i64 0, .int .i64 0, .slice none 0 0] ps := by
  obtain ⟨hp, hz⟩ := h
  unfold zeroB at hz
  split at hz
  · rename_i i hi
    split at hz
    · rename_i z hzz
      have hz := Option.some.inj hz
      unfold plT at hp
      split at hp
      · rename_i fs hu
        unfold Program.built
        simp only [hi, hu, hzz, hp]
        have : z.cells = #[.int .i64 0, .int .i64 0, .slice none 0 0] := Array.toList_inj.1 hz
        rw [this]
      · cases hp
    · cases hz
  · cases hz
theorem fill0 {u : Value} (h : oneB u = true) (z : Array Value) (rest : List (Nat × Value)) (i : Nat) (hi : i < 3) (hz : z.size = 3) :
    Instr.fill ([(0, 1), (1, 1), (2, 1)].toArray[·]?) z ((i, u) :: rest) = Instr.fill ([(0, 1), (1, 1), (2, 1)].toArray[·]?) (z.setIfInBounds i u) rest := by
  have hc : u.cells = #[u] := by cases u <;> first | rfl | (simp [oneB] at h)
  have hp : ([(0, 1), (1, 1), (2, 1)] : List (Nat × Nat)).toArray[i]? = some (i, 1) := by
    match i, hi with
    | 0, _ => rfl
    | 1, _ => rfl
    | 2, _ => rfl
  simp only [Instr.fill, hp, hc]
  rw [if_neg (by simp [hz]; omega)]
  rfl
theorem Y_build {P : Program} {S : World → Prop} {ρ : Operand → Value} {d : Option Tmp} {ty : TypeId} {pos : String} {aft : Array Edge} {gd : Option (Nat × Bool)} {t : TypeId} {ps : Array (Nat × Operand)} {cs : Array Value} (hb : BT P t)
    (h : Instr.fill ([(0, 1), (1, 1), (2, 1)].toArray[·]?) #[.int .i64 0, .int .i64 0, .slice none 0 0] ((ps.map fun p => (p.1, ρ p.2)).toList) = some cs) : Yld P S ρ ⟨d, .build t ps, ty, pos, aft, gd⟩ (.agg cs) := .mk fun w _ => by
  simp only [execOp, Sem.run_bind, Go.run_build w t _ _ ((bt_built hb _).trans h), Result.andThen_ok, Sem.run_pure]
/-- What an operation yields, in every world that meets S. -/
inductive YiA (P : Program) (S : World → Prop) (ρ : Operand → Value) : Op → Value → Prop
  | move {x u} (h : ρ x = u) : YiA P S ρ (.move x) u
  | assign {x u} (h : ρ x = u) : YiA P S ρ (.assign x) u
  | pick {c x y b u v} (hc : ρ c = .bool b) (hx : ρ x = u) (hy : ρ y = v) : YiA P S ρ (.pick c x y) (cond b u v)
  | fieldAddr {t x i k b off} [FO P t i k] (h : ρ x = .pointer (some ⟨b, off, none⟩)) : YiA P S ρ (.fieldAddr t x i) (.pointer (some ⟨b, off + k, none⟩))
  | load1 {t x b off v} [SC P t] (h : ρ x = .pointer (some ⟨b, off, none⟩)) (hc : CellIs S b off v) : YiA P S ρ (.load t x) v
  | nilCheck {x u} (h : ρ x = u) (ho : okNil u = true) : YiA P S ρ (.nilCheck x) u
  | lenStr {t x a} [IsStr P t] (h : ρ x = .string a) : YiA P S ρ (.call ⟨.builtin .len, #[x], #[t]⟩) (.int .i64 (a.size : Int))
  | indexAddr {t x y b off len cap m i} [SL P t m] (h : ρ x = .slice (some ⟨b, off, none⟩) len cap) (hi : ρ y = .int .i64 i) (hb : Ix i len) : YiA P S ρ (.indexAddr t x y) (.pointer (some ⟨b, off + i.toNat * m, none⟩))
  | index {t x y a i} [IsStr P t] (h : ρ x = .string a) (hi : ρ y = .int .i64 i) (hb : Ix i a.size) : YiA P S ρ (.index t x y) (.int .u8 ((byteAt a i.toNat).toNat : Int))
  | add {t t' x y a b} [IsI64 P t] (hx : ρ x = .int .i64 a) (hy : ρ y = .int .i64 b) (h : In64 (a + b)) : YiA P S ρ (.binOp .add t x y t') (.int .i64 (a + b))
  | sub {t t' x y a b} [IsI64 P t] (hx : ρ x = .int .i64 a) (hy : ρ y = .int .i64 b) (h : In64 (a - b)) : YiA P S ρ (.binOp .sub t x y t') (.int .i64 (a - b))
  | mul {t t' x y a b} [IsI64 P t] (hx : ρ x = .int .i64 a) (hy : ρ y = .int .i64 b) (h : In64 (a * b)) : YiA P S ρ (.binOp .mul t x y t') (.int .i64 (a * b))
  | eql {t t' x y k a b} [IsInt P t] (hx : ρ x = .int k a) (hy : ρ y = .int k b) : YiA P S ρ (.binOp .eql t x y t') (.bool (decide (a = b)))
  | neq {t t' x y k a b} [IsInt P t] (hx : ρ x = .int k a) (hy : ρ y = .int k b) : YiA P S ρ (.binOp .neq t x y t') (.bool (!decide (a = b)))
  | lss {t t' x y k a b} [IsInt P t] (hx : ρ x = .int k a) (hy : ρ y = .int k b) : YiA P S ρ (.binOp .lss t x y t') (.bool (decide (a < b)))
  | leq {t t' x y k a b} [IsInt P t] (hx : ρ x = .int k a) (hy : ρ y = .int k b) : YiA P S ρ (.binOp .leq t x y t') (.bool (decide (a ≤ b)))
  | gtr {t t' x y k a b} [IsInt P t] (hx : ρ x = .int k a) (hy : ρ y = .int k b) : YiA P S ρ (.binOp .gtr t x y t') (.bool (decide (b < a)))
  | geq {t t' x y k a b} [IsInt P t] (hx : ρ x = .int k a) (hy : ρ y = .int k b) : YiA P S ρ (.binOp .geq t x y t') (.bool (decide (b ≤ a)))
  | not {t x b} (h : ρ x = .bool b) : YiA P S ρ (.unOp .not t x) (.bool (!b))
  | sliceStrTo {t x hi a h} [IsStr P t] (hx : ρ x = .string a) (hh : ρ hi = .int .i64 h) (hb : Le h a.size) : YiA P S ρ (.slice t x none (some hi) none) (.string (a.extract 0 h.toNat))
  | sliceStrFrom {t x lo a l} [IsStr P t] (hx : ρ x = .string a) (hl : ρ lo = .int .i64 l) (hb : Le l a.size) : YiA P S ρ (.slice t x (some lo) none none) (.string (a.extract l.toNat a.size))
  | extract {x i u} {vs : Array Value} (h : ρ x = .tuple vs) (hv : vs[i]? = some u) : YiA P S ρ (.extract x i) u
  | makeFunc {fn} {first cap : List Operand} {vf vc : List Value} (hf : first.map ρ = vf) (hc : cap.map ρ = vc) : YiA P S ρ (.makeFunc fn first.toArray cap.toArray) (.func fn vf.toArray vc.toArray)
  | indexByte {f x y s b ats} [XIB P f] (hx : ρ x = .string s) (hy : ρ y = .int .u8 (b.toNat : Int)) (hff : ρ (.func f) = .func (.func f) #[] #[]) : YiA P S ρ (.call ⟨.value (.func f), #[x, y], ats⟩) (.int .i64 (idxB s b))
  | conv1 {t t' x b c} [CV P t t'] (h : ρ x = .slice (some ⟨b, 0, none⟩) 1 1) (hc : CellIs S b 0 (.int .u8 (c.toNat : Int))) : YiA P S ρ (.convert t t' x) (.string ⟨#[c]⟩)
/-- Likewise: other types. -/
inductive YiB (P : Program) (S : World → Prop) (ρ : Operand → Value) : Op → Value → Prop
  | load3 {t x b off v0 v1 v2} [ST3 P t] (h : ρ x = .pointer (some ⟨b, off, none⟩)) (hc : Cell3 S b off v0 v1 v2) : YiB P S ρ (.load t x) (.agg #[v0, v1, v2])
  | indexAddr {t x y a b off len cap m i} [SL P t m] (h : ρ x = .slice a len cap) (hi : ρ y = .int .i64 i) (hb : Ix i len) (ha : a = some ⟨b, off, none⟩) : YiB P S ρ (.indexAddr t x y) (.pointer (some ⟨b, off + i.toNat * m, none⟩))
  | lenSlice {t x a n cap m} [SL P t m] (h : ρ x = .slice a n cap) : YiB P S ρ (.call ⟨.builtin .len, #[x], #[t]⟩) (.int .i64 (n : Int))
  | add8 {t t' x y a b} [IsU8 P t] (hx : ρ x = .int .u8 a) (hy : ρ y = .int .u8 b) (h : In8 (a + b)) : YiB P S ρ (.binOp .add t x y t') (.int .u8 (a + b))
  | sub8 {t t' x y a b} [IsU8 P t] (hx : ρ x = .int .u8 a) (hy : ρ y = .int .u8 b) (h : In8 (a - b)) : YiB P S ρ (.binOp .sub t x y t') (.int .u8 (a - b))
  | sliceTo {t x hi a n cap h m} [SL P t m] (hx : ρ x = .slice a n cap) (hh : ρ hi = .int .i64 h) (hb : Le h cap) : YiB P S ρ (.slice t x none (some hi) none) (.slice a h.toNat cap)
  | sliceFrom {t x lo a n cap l m} [SL P t m] (hx : ρ x = .slice a n cap) (hl : ρ lo = .int .i64 l) (hb : Le l n) : YiB P S ρ (.slice t x (some lo) none none) (.slice (if cap = l.toNat then a else a.map (·.add (l.toNat * m))) (n - l.toNat) (cap - l.toNat))
  | rem {t t' x y a b} [IsI64 P t] (hx : ρ x = .int .i64 a) (hy : ρ y = .int .i64 b) (h : Dv a b) : YiB P S ρ (.binOp .rem t x y t') (.int .i64 (a % b))
  | quo {t t' x y a b} [IsI64 P t] (hx : ρ x = .int .i64 a) (hy : ρ y = .int .i64 b) (h : Dv a b) : YiB P S ρ (.binOp .quo t x y t') (.int .i64 (a / b))
  | xor {t t' x y a b} [IsI64 P t] (hx : ρ x = .int .i64 a) (hy : ρ y = .int .i64 b) : YiB P S ρ (.binOp .xor t x y t') (.int .i64 (xorI a b))
  | toInt {t t' x k a} [IsInt P t] [IsI64 P t'] (hx : ρ x = .int k a) (h : In64 a) : YiB P S ρ (.convert t t' x) (.int .i64 a)
  | beql {t t' x y a b} [IsBool P t] (hx : ρ x = .bool a) (hy : ρ y = .bool b) : YiB P S ρ (.binOp .eql t x y t') (.bool (decide (a = b)))
  | bneq {t t' x y a b} [IsBool P t] (hx : ρ x = .bool a) (hy : ρ y = .bool b) : YiB P S ρ (.binOp .neq t x y t') (.bool (!decide (a = b)))
/-- Likewise: strings. -/
inductive YiC (P : Program) (S : World → Prop) (ρ : Operand → Value) : Op → Value → Prop
  | sadd {t t' x y a b} [IsStr P t] (hx : ρ x = .string a) (hy : ρ y = .string b) (h : In64 ((a.size : Int) + b.size)) : YiC P S ρ (.binOp .add t x y t') (.string (a ++ b))
  | seql {t t' x y a b} [IsStr P t] (hx : ρ x = .string a) (hy : ρ y = .string b) : YiC P S ρ (.binOp .eql t x y t') (.bool (a.toList == b.toList))
  | sneq {t t' x y a b} [IsStr P t] (hx : ρ x = .string a) (hy : ρ y = .string b) : YiC P S ρ (.binOp .neq t x y t') (.bool (!(a.toList == b.toList)))
  | build {t} [BT P t] : YiC P S ρ (.build t #[]) (.agg #[.int .i64 0, .int .i64 0, .slice none 0 0])
  | build0 {t x u} [BT P t] (hx : ρ x = u) (h1 : oneB u = true) : YiC P S ρ (.build t #[(0, x)]) (.agg #[u, .int .i64 0, .slice none 0 0])
  | build01 {t x y u v} [BT P t] (hx : ρ x = u) (hy : ρ y = v) (h1 : oneB u = true) (h2 : oneB v = true) : YiC P S ρ (.build t #[(0, x), (1, y)]) (.agg #[u, v, .slice none 0 0])
  | build02 {t x y u v} [BT P t] (hx : ρ x = u) (hy : ρ y = v) (h1 : oneB u = true) (h2 : oneB v = true) : YiC P S ρ (.build t #[(0, x), (2, y)]) (.agg #[u, .int .i64 0, v])
  | build3 {t x y z u v s} [BT P t] (hx : ρ x = u) (hy : ρ y = v) (hz : ρ z = s) (h1 : oneB u = true) (h2 : oneB v = true) (h3 : oneB s = true) : YiC P S ρ (.build t #[(0, x), (1, y), (2, z)]) (.agg #[u, v, s])
inductive Yi (P : Program) (S : World → Prop) (ρ : Operand → Value) (op : Op) (v : Value) : Prop
  | a (h : YiA P S ρ op v)
  | b (h : YiB P S ρ op v)
  | c (h : YiC P S ρ op v)
theorem YiA.sound {P : Program} {S : World → Prop} {ρ : Operand → Value} {op : Op} {v : Value} (h : YiA P S ρ op v) (d : Option Tmp) (ty : TypeId) (pos : String) (aft : Array Edge) (gd : Option (Nat × Bool)) : Yld P S ρ ⟨d, op, ty, pos, aft, gd⟩ v := by
  cases h with
  | move h => exact Y_move h
  | assign h => exact Y_assign h
  | @pick c x y b u v hc hx hy => cases b; exact Y_pickF hc hy; exact Y_pickT hc hx
  | @fieldAddr t x i k b off i1 h => exact Y_fieldAddr i1.out h
  | @load1 t x b off v i1 h hc => exact Y_load1 i1.out h (by cases hc with | mk hc => exact hc)
  | @nilCheck x u h ho =>
    cases v with
    | pointer a => cases a with
      | none => simp [okNil] at ho
      | some a => exact Y_nilCheck h
    | func f a b => cases f with
      | func f => exact Y_nilCheckF h
      | _ => simp [okNil] at ho
    | _ => simp [okNil] at ho
  | @lenStr t x a i1 h => exact Y_lenStr i1.out h
  | @indexAddr t x y b off len cap m i i1 h hi hb => exact Y_indexAddr i1.out h hi ⟨hb.lo, hb.hi⟩
  | @index t x y a i i1 h hi hb => exact Y_indexStr i1.out h hi ⟨hb.lo, by have := hb.lo; have := hb.hi; omega⟩
  | add hx hy h => exact Y_add hx hy ⟨h.lo, h.hi⟩
  | sub hx hy h => exact Y_sub hx hy ⟨h.lo, h.hi⟩
  | mul hx hy h => exact Y_mul hx hy ⟨h.lo, h.hi⟩
  | eql hx hy => exact Y_eql hx hy
  | neq hx hy => exact Y_neq hx hy
  | lss hx hy => exact Y_lss hx hy
  | leq hx hy => exact Y_leq hx hy
  | gtr hx hy => exact Y_gtr hx hy
  | geq hx hy => exact Y_geq hx hy
  | not h => exact Y_not h
  | @sliceStrTo t x hi a h i1 hx hh hb => exact Y_sliceStrTo i1.out hx hh ⟨hb.lo, hb.hi⟩
  | @sliceStrFrom t x hi a h i1 hx hh hb => exact Y_sliceStrFrom i1.out hx hh ⟨hb.lo, hb.hi⟩
  | extract h hv => exact Y_extract h hv
  | makeFunc hf hc => exact Y_makeFunc hf hc
  | @indexByte f x y s b ats i1 hx hy hff => exact Y_indexByte i1.out hx hy hff
  | @conv1 t t' x b c i1 h hc => obtain ⟨e, h1, h2, h3⟩ := i1.out; exact Y_conv1 h1 h2 h3 h (by cases hc with | mk hc => exact hc)
theorem YiB.sound {P : Program} {S : World → Prop} {ρ : Operand → Value} {op : Op} {v : Value} (h : YiB P S ρ op v) (d : Option Tmp) (ty : TypeId) (pos : String) (aft : Array Edge) (gd : Option (Nat × Bool)) : Yld P S ρ ⟨d, op, ty, pos, aft, gd⟩ v := by
  cases h with
  | @load3 t x b off v0 v1 v2 i1 h hc => exact Y_load3 i1.out h (by cases hc with | mk hc => exact hc)
  | @indexAddr t x y a b off len cap m i i1 h hi hb ha => subst ha; exact Y_indexAddr i1.out h hi ⟨hb.lo, hb.hi⟩
  | @lenSlice t x a n cap m i1 h => exact Y_lenSlice i1.out h
  | add8 hx hy h => exact Y_add8 hx hy ⟨h.lo, h.hi⟩
  | sub8 hx hy h => exact Y_sub8 hx hy ⟨h.lo, h.hi⟩
  | @sliceTo t x hi a n cap h m i1 hx hh hb => exact Y_sliceTo i1.out hx hh ⟨hb.lo, hb.hi⟩
  | @sliceFrom t x lo a n cap l m i1 hx hl hb => exact Y_sliceFrom i1.out hx hl ⟨hb.lo, hb.hi⟩
  | rem hx hy h => exact Y_rem hx hy h
  | quo hx hy h => exact Y_quo hx hy h
  | xor hx hy => exact Y_xor hx hy
  | @toInt t t' x k a i1 i2 hx h => exact Y_toInt i1.out i2.out hx ⟨h.lo, h.hi⟩
  | @beql t t' x y a b i1 hx hy => exact Y_beql hx hy i1.out
  | @bneq t t' x y a b i1 hx hy => exact Y_bneq hx hy i1.out
theorem YiC.sound {P : Program} {S : World → Prop} {ρ : Operand → Value} {op : Op} {v : Value} (h : YiC P S ρ op v) (d : Option Tmp) (ty : TypeId) (pos : String) (aft : Array Edge) (gd : Option (Nat × Bool)) : Yld P S ρ ⟨d, op, ty, pos, aft, gd⟩ v := by
  cases h with
  | sadd hx hy h => exact Y_sadd hx hy (by have := h.hi; omega)
  | seql hx hy => exact Y_seql hx hy
  | sneq hx hy => exact Y_sneq hx hy
  | @build t i1 => refine Y_build i1 ?_; simp only [List.map_toArray, List.map_nil]; rfl
  | @build0 t x u i1 hx h1 => subst hx; refine Y_build i1 ?_; simp only [List.map_toArray, List.map_cons, List.map_nil]; rw [fill0 h1 _ _ 0 (by omega) rfl]; rfl
  | @build01 t x y u v i1 hx hy h1 h2 => subst hx hy; refine Y_build i1 ?_; simp only [List.map_toArray, List.map_cons, List.map_nil]; rw [fill0 h1 _ _ 0 (by omega) rfl, fill0 h2 _ _ 1 (by omega) rfl]; rfl
  | @build02 t x y u v i1 hx hy h1 h2 => subst hx hy; refine Y_build i1 ?_; simp only [List.map_toArray, List.map_cons, List.map_nil]; rw [fill0 h1 _ _ 0 (by omega) rfl, fill0 h2 _ _ 2 (by omega) rfl]; rfl
  | @build3 t x y z u v s i1 hx hy hz h1 h2 h3 => subst hx hy hz; refine Y_build i1 ?_; simp only [List.map_toArray, List.map_cons, List.map_nil]; rw [fill0 h1 _ _ 0 (by omega) rfl, fill0 h2 _ _ 1 (by omega) rfl, fill0 h3 _ _ 2 (by omega) rfl]; rfl
theorem Yi.sound {P : Program} {S : World → Prop} {ρ : Operand → Value} {op : Op} {v : Value} (h : Yi P S ρ op v) (d : Option Tmp) (ty : TypeId) (pos : String) (aft : Array Edge) (gd : Option (Nat × Bool)) : Yld P S ρ ⟨d, op, ty, pos, aft, gd⟩ v := by
  cases h with
  | a h => exact h.sound d ty pos aft gd
  | b h => exact h.sound d ty pos aft gd
  | c h => exact h.sound d ty pos aft gd

section
variable {P : Program} {ops : Array Oper} {Q : Exit → Act → World → Prop} {dr : Bool} {S : World → Prop} {fu k : Nat} {rest : List (Nat × Oper)} {a : Act} {w w0 : World} {M Z0 : Zone} {L : List Res} {φ : Fact}
  {d : Option Tmp} {op : Op} {ty : TypeId} {pos : String} {aft : Array Edge} {gd : Option (Nat × Bool)} {t : TypeId} {x y : Operand}
theorem V1 (hg : Region.wanted ⟨d, op, ty, pos, aft, gd⟩ (yielded ops a.tmps) = false) (hd : takeB ops ((k, ⟨d, op, ty, pos, aft, gd⟩) :: rest) k ⟨d, op, ty, pos, aft, gd⟩ = true)
    (h : wpT P ops Q true fu S rest (a.put d undef) w) : wpT P ops Q true (fu + 1) S ((k, ⟨d, op, ty, pos, aft, gd⟩) :: rest) a w := T_skip hd hg h
theorem B1 {cs : List Value} [hz : ZR P t cs] (hw : St w0 M Z0 L φ w) (hg : Region.wanted ⟨d, .alloc t, ty, pos, aft, gd⟩ (yielded ops a.tmps) = true) (hd : (!dr || soleB ops ((k, ⟨d, .alloc t, ty, pos, aft, gd⟩) :: rest) k ⟨d, .alloc t, ty, pos, aft, gd⟩) = true)
    (h : ∀ b w', St w0 M Z0 (blk b cs t :: L) φ w' → wpT P ops Q dr fu (St w0 M Z0 (blk b cs t :: L) φ) rest (a.put d (.pointer (some ⟨b, 0, none⟩))) w') :
    wpT P ops Q dr (fu + 1) (St w0 M Z0 L φ) ((k, ⟨d, .alloc t, ty, pos, aft, gd⟩) :: rest) a w := T_alloc hz.out hw hd hg h
theorem B2 {n sz e : Nat} {ps : List (Nat × Operand)} {vs cs : List Value} [he : EB P t e sz] (hw : St w0 M Z0 L φ w)
    (hg : Region.wanted ⟨d, .buildSlice t n ps.toArray, ty, pos, aft, gd⟩ (yielded ops a.tmps) = true)
    (hd : (!dr || soleB ops ((k, ⟨d, .buildSlice t n ps.toArray, ty, pos, aft, gd⟩) :: rest) k ⟨d, .buildSlice t n ps.toArray, ty, pos, aft, gd⟩) = true)
    (hvs : ps.map (fun p => a.eval p.2) = vs) (hcs : flatC vs = cs) (hix : (ps.map (·.1) == List.range' 0 ps.length) = true) (hn : ps.length = n) (hsz : vs.all (fun v => v.cells.size == sz) = true) (hb : Nat.ble (n * sz) 16777216 = true) 
    (h : ∀ b w', St w0 M Z0 (blk b cs e :: L) φ w' → wpT P ops Q dr fu (St w0 M Z0 (blk b cs e :: L) φ) rest (a.put d (.slice (some ⟨b, 0, none⟩) n n)) w') :
    wpT P ops Q dr (fu + 1) (St w0 M Z0 L φ) ((k, ⟨d, .buildSlice t n ps.toArray, ty, pos, aft, gd⟩) :: rest) a w :=
  T_bsl hw hg hd he.out (by simpa using hix) hvs hn hsz (Nat.le_of_ble_eq_true hb) hcs h
/-- The resources, with the block b turned. -/
inductive Upd (b : Nat) (f : List Value → List Value) : List Res → List Res → List Value → Prop
  | here {cs T L} : Upd b f (blk b cs T :: L) (blk b (f cs) T :: L) cs
  | there {r L L' cs} (h : Upd b f L L' cs) : Upd b f (r :: L) (r :: L') cs
theorem Upd.get {b : Nat} {f : List Value → List Value} {L L' : List Res} {cs : List Value} (h : Upd b f L L' cs) : ∃ n T, L[n]? = some (blk b cs T) ∧ L' = L.set n (blk b (f cs) T) := by
  induction h with
  | here => exact ⟨0, _, rfl, rfl⟩
  | there _ ih => obtain ⟨n, T, h1, h2⟩ := ih; exact ⟨n + 1, T, by simpa using h1, by simp [h2]⟩
theorem G0 {id : Nat} {l : List Oper} (hw : St w0 M Z0 L φ w) (h : wpT P l.toArray Q false l.length (St w0 M Z0 L φ) (enum 0 l) a w) :
    (Code.region id l.toArray false).wp P Q a w := reg_text hw h
theorem G1 {id : Nat} {l : List Oper} [hm : DrM P] (hw : St w0 M Z0 L φ w) (hQ : ∀ c (a : Act) t w, Q (.panic c) ⟨t, a.defers⟩ w → Q (.panic c) a w) (hsel : Region.noSelect l.toArray = true)
    (h : ∀ w, St w0 M Z0 L φ w → wpT P l.toArray Q true l.length (St w0 M Z0 L φ) (enum 0 l) a w) :
    (Code.region id l.toArray true).wp P Q a w := reg_draw hm.out hsel hQ (fun _ h => h.drew) hw h
end
end Go.Dk
end
section
/- Rows that grow, trees that are the call's own, and the laws of make and append for the walk. No program in sight. -/
set_option linter.unusedVariables false
set_option linter.unusedSimpArgs false
namespace Go.Dk
open Go

/-! Resources in another order, two made one. -/
section
variable {w0 w w' : World} {M Z0 : Zone} {L L' : List Res} {φ : Fact} {r s r' : Res}
theorem St.perm (h : St w0 M Z0 L φ w) (hp : L.Perm L') : St w0 M Z0 L' φ w :=
  ⟨h.ext, fun r hr => h.own r (hp.mem_iff.2 hr), fun r hr => h.loc r (hp.mem_iff.2 hr), fun r hr => h.key r (hp.mem_iff.2 hr),
    (hp.pairwise_iff (fun {a b} hab x hx hx' => hab x hx' hx)).1 h.dis, h.stab,
    h.stab _ _ w w (fun b hz _ => ⟨⟨hz.1, fun r hr => hz.2 r (hp.mem_iff.2 hr)⟩, rfl⟩) h.per⟩
/-- Two resources become one. -/
theorem St.merge (h : St w0 M Z0 (r :: s :: L) φ w) (hl : r'.Local) (hf : ∀ b, r'.foot b → r.foot b ∨ s.foot b) (ho : r.own w → s.own w → (∀ b, r.foot b → ¬ s.foot b) → r'.own w) : St w0 M Z0 (r' :: L) φ w := by
  have hd := h.dis
  rw [List.pairwise_cons] at hd
  obtain ⟨hd1, hd2⟩ := hd
  rw [List.pairwise_cons] at hd2
  refine ⟨h.ext, ?_, ?_, ?_, ?_, h.stab, ?_⟩
  · intro x hx; rcases List.mem_cons.1 hx with rfl | hx
    · exact ho (h.own r (by simp)) (h.own s (by simp)) (hd1 s (by simp))
    · exact h.own x (by simp [hx])
  · intro x hx; rcases List.mem_cons.1 hx with rfl | hx
    · exact hl
    · exact h.loc x (by simp [hx])
  · intro x hx b hb; rcases List.mem_cons.1 hx with rfl | hx
    · rcases hf b hb with h1 | h1
      · exact h.key r (by simp) b h1
      · exact h.key s (by simp) b h1
    · exact h.key x (by simp [hx]) b hb
  · refine List.Pairwise.cons (fun x hx b hb hb' => ?_) hd2.2
    rcases hf b hb with h1 | h1
    · exact hd1 x (by simp [hx]) b h1 hb'
    · exact hd2.1 x hx b h1 hb'
  · refine h.stab _ _ w w (fun b hz _ => ⟨⟨hz.1, fun x hx hb => ?_⟩, rfl⟩) h.per
    rcases List.mem_cons.1 hx with rfl | hx
    · rcases hf b hb with h1 | h1
      · exact hz.2 r (by simp) h1
      · exact hz.2 s (by simp) h1
    · exact hz.2 x (by simp [hx]) hb
end

/-! Terms on blocks. -/
def HT.sl (t : HT) : Value := .slice t.a t.kids.length t.cap
def HT.head : Option Addr → List HT → List Nat
  | some ad, _ :: _ => [ad.block]
  | _, _ => []
mutual
def HT.blocks : HT → List Nat
  | .mk _ _ a _ kids => HT.head a kids ++ HT.blocksL kids
def HT.blocksL : List HT → List Nat
  | [] => []
  | t :: ts => HT.blocks t ++ HT.blocksL ts
end
theorem HT.blocksL_append (ts us : List HT) : HT.blocksL (ts ++ us) = HT.blocksL ts ++ HT.blocksL us := by
  induction ts with
  | nil => rfl
  | cons t ts ih => simp [HT.blocksL, ih]
theorem HT.mem_blocksL {b : Nat} {ts : List HT} : b ∈ HT.blocksL ts ↔ ∃ t ∈ ts, b ∈ t.blocks := by
  induction ts with
  | nil => simp [HT.blocksL]
  | cons t ts ih => simp [HT.blocksL, ih]
mutual
theorem Rd.zone {Z : Zone} {w : World} : ∀ t, Rd Z w t → ∀ b ∈ t.blocks, Z b ∧ b < w.heap.size
  | .mk k n a cap kids, h, b, hb => by
    simp only [Rd] at h
    simp only [HT.blocks, List.mem_append] at hb
    rcases h.1 with rfl | ⟨b', off, rfl, hz, hl⟩
    · rcases hb with hb | hb
      · cases a <;> simp [HT.head] at hb
      · simp [HT.blocksL] at hb
    · rcases hb with hb | hb
      · cases kids with
        | nil => simp [HT.head] at hb
        | cons t ts =>
          simp only [HT.head, List.mem_singleton] at hb
          subst hb
          simp only [RdL] at hl
          exact ⟨hz, cell_lt hl.1.1⟩
      · exact RdL.zone kids hl b hb
theorem RdL.zone {Z : Zone} {w : World} {b0 off : Nat} : ∀ ts, RdL Z w b0 off ts → ∀ b ∈ HT.blocksL ts, Z b ∧ b < w.heap.size
  | [], _, b, hb => by simp [HT.blocksL] at hb
  | t :: ts, h, b, hb => by
    simp only [RdL] at h
    simp only [HT.blocksL, List.mem_append] at hb
    rcases hb with hb | hb
    · exact Rd.zone t h.2.1 b hb
    · exact RdL.zone ts h.2.2 b hb
end
mutual
theorem Rd.frame {Z Z' : Zone} {w w' : World} : ∀ t, Rd Z w t → (∀ b ∈ t.blocks, Z' b ∧ w'.heap[b]? = w.heap[b]?) → Rd Z' w' t
  | .mk k n a cap kids, h, hf => by
    simp only [Rd] at h ⊢
    refine ⟨?_, h.2⟩
    rcases h.1 with h1 | ⟨b, off, rfl, hb, hl⟩
    · exact .inl h1
    · cases kids with
      | nil => exact .inl rfl
      | cons t ts =>
        have h0 := hf b (by simp [HT.blocks, HT.head])
        exact .inr ⟨b, off, rfl, h0.1, RdL.frame (t :: ts) hl h0.2 (fun c hc => hf c (by simp only [HT.blocks, List.mem_append]; exact .inr hc))⟩
theorem RdL.frame {Z Z' : Zone} {w w' : World} {b off : Nat} : ∀ ts, RdL Z w b off ts → w'.heap[b]? = w.heap[b]? → (∀ c ∈ HT.blocksL ts, Z' c ∧ w'.heap[c]? = w.heap[c]?) → RdL Z' w' b off ts
  | [], _, _, _ => by simp [RdL]
  | t :: ts, h, hk, hf => by
    simp only [RdL] at h ⊢
    exact ⟨⟨(cell_keep hk).trans h.1.1, (cell_keep hk).trans h.1.2.1, (cell_keep hk).trans h.1.2.2⟩,
      Rd.frame t h.2.1 (fun c hc => hf c (by simp only [HT.blocksL, List.mem_append]; exact .inl hc)),
      RdL.frame ts h.2.2 hk (fun c hc => hf c (by simp only [HT.blocksL, List.mem_append]; exact .inr hc))⟩
end
theorem Rd.any {Z : Zone} {w : World} {t : HT} (h : Rd Z w t) : Rd (fun _ => True) w t := Rd.frame t h (fun _ _ => ⟨trivial, rfl⟩)
theorem Rd.kid {Z : Zone} {w : World} {t u : HT} (h : Rd Z w t) (hu : u ∈ t.kids) : Rd Z w u := by
  obtain ⟨i, hi, rfl⟩ := List.getElem_of_mem hu
  have hx : t.kids[i]? = some t.kids[i] := List.getElem?_eq_getElem hi
  obtain ⟨b, off, ha⟩ := h.addr hx
  exact (h.elem ha hx).2

def Unf (w : World) (b : Nat) : Prop := ∃ cs T, w.heap[b]? = some (.cells cs T (0, 0))
/-- A tree of the call's own: each of its rows stands on a block of its own. -/
def treeR (t : HT) : Res := ⟨(· ∈ t.blocks), fun w => Rd (fun _ => True) w t ∧ t.blocks.Nodup ∧ ∀ b ∈ t.blocks, Unf w b⟩
/-- Trees of the call's own. -/
def kidsR (ts : List HT) : Res := ⟨(· ∈ HT.blocksL ts), fun w => (∀ t ∈ ts, Rd (fun _ => True) w t) ∧ (HT.blocksL ts).Nodup ∧ ∀ b ∈ HT.blocksL ts, Unf w b⟩
theorem kidsR_local (ts : List HT) : (kidsR ts).Local := fun w w' h k =>
  ⟨fun t ht => Rd.frame t (k.1 t ht) (fun b hb => ⟨trivial, h b (HT.mem_blocksL.2 ⟨t, ht, hb⟩)⟩), k.2.1, fun b hb => by obtain ⟨cs, T, hh⟩ := k.2.2 b hb; exact ⟨cs, T, (h b hb).trans hh⟩⟩
/-- What a function that hands back a tree of its own says. -/
structure Own (w w' : World) (t : HT) : Prop where
  own : (treeR t).own w'
  new : ∀ b ∈ t.blocks, w.heap.size ≤ b
theorem Rd.node {Z : Zone} {w : World} {t : HT} (h : Rd Z w t) (k n : Int) : Rd Z w (.mk k n t.a t.cap t.kids) := by
  cases t; simpa only [Rd, HT.a, HT.cap, HT.kids] using h
theorem Own.node {w w' : World} {t : HT} (h : Own w w' t) (k n : Int) : Own w w' (.mk k n t.a t.cap t.kids) := by
  have hb : HT.blocks (.mk k n t.a t.cap t.kids) = t.blocks := by cases t; rfl
  refine ⟨⟨h.own.1.node k n, by rw [hb]; exact h.own.2.1, by rw [hb]; exact h.own.2.2⟩, by rw [hb]; exact h.new⟩
theorem Own.lt {w w' : World} {t : HT} (h : Own w w' t) : ∀ b ∈ t.blocks, b < w'.heap.size := fun b hb => (Rd.zone t h.own.1 b hb).2
theorem Own.rd {w w' : World} {t : HT} (h : Own w w' t) (Z : Zone) : Rd (fun b => Z b ∨ w.heap.size ≤ b) w' t := Rd.frame t h.own.1 (fun b hb => ⟨.inr (h.new b hb), rfl⟩)

section
variable {w0 w w' : World} {M Z0 : Zone} {L : List Res} {φ : Fact}
theorem St.snoc {t : HT} {ts : List HT} (h : St w0 M Z0 (treeR t :: kidsR ts :: L) φ w) : St w0 M Z0 (kidsR (ts ++ [t]) :: L) φ w := by
  refine h.merge (kidsR_local _) ?_ ?_
  · intro b hb
    simp only [kidsR, HT.blocksL_append, List.mem_append, HT.blocksL, List.append_nil] at hb
    rcases hb with hb | hb
    · exact .inr hb
    · exact .inl hb
  · intro h1 h2 hd
    refine ⟨?_, ?_, ?_⟩
    · intro x hx
      rcases List.mem_append.1 hx with hx | hx
      · exact h2.1 x hx
      · rw [List.mem_singleton.1 hx]; exact h1.1
    · rw [HT.blocksL_append, List.nodup_append]
      refine ⟨h2.2.1, by simpa [HT.blocksL] using h1.2.1, ?_⟩
      intro a ha b hb hab
      subst hab
      simp only [HT.blocksL, List.append_nil] at hb
      exact hd a hb ha
    · intro b hb
      simp only [HT.blocksL_append, List.mem_append, HT.blocksL, List.append_nil] at hb
      rcases hb with hb | hb
      · exact h2.2.2 b hb
      · exact h1.2.2 b hb
end

/-! Rows of terms, as cells. -/
def flatT (ts : List HT) : List Value := flatC (ts.map HT.val)
theorem flatT_nil : flatT [] = [] := rfl
theorem flatT_cons (t : HT) (ts : List HT) : flatT (t :: ts) = .int .i64 t.k :: .int .i64 t.n :: t.sl :: flatT ts := rfl
theorem flatT_append (ts us : List HT) : flatT (ts ++ us) = flatT ts ++ flatT us := by simp [flatT, flatC]
theorem flatT_length (ts : List HT) : (flatT ts).length = ts.length * 3 := by
  rw [flatT, flatC_length 3 _ (by intro v hv; obtain ⟨t, _, rfl⟩ := List.mem_map.1 hv; rfl)]; simp
theorem RdL_of_cells {Z : Zone} {w : World} {b : Nat} : ∀ (ts : List HT) (off : Nat), (∀ j u, (flatT ts)[j]? = some u → w.cell? ⟨b, off + j, none⟩ = some u) → (∀ t ∈ ts, Rd Z w t) → RdL Z w b off ts
  | [], _, _, _ => by simp [RdL]
  | t :: ts, off, hc, hr => by
    simp only [RdL]
    rw [flatT_cons] at hc
    refine ⟨⟨by simpa using hc 0 _ rfl, hc 1 _ rfl, hc 2 _ rfl⟩, hr t (by simp), RdL_of_cells ts (off + 3) (fun j u hj => ?_) (fun x hx => hr x (by simp [hx]))⟩
    rw [Nat.add_assoc, Nat.add_comm 3 j]
    exact hc (j + 3) u (by simpa using hj)
theorem Rd_none {Z : Zone} {w : World} {k n : Int} {a : Option Addr} {cap : Nat} : Rd Z w (.mk k n a cap []) := by
  simp [Rd]

section
variable {w0 w w' : World} {M Z0 : Zone} {L : List Res} {φ : Fact}
end

/-! Rows that grow. -/
def rowR (e size : Nat) (v : Value) (n : Nat) (xs : List Value) : Res := ⟨fun b => v.ownBlock = some b, fun w => w.ownsRow 0 e size v n xs⟩
theorem rowR_local (e size : Nat) (v : Value) (n : Nat) (xs : List Value) : (rowR e size v n xs).Local := by
  intro w w' h k
  simp only [rowR] at k h ⊢
  refine ⟨k.1, ?_⟩
  rcases k.2 with h1 | ⟨g, cap, cur, rfl, h2, h3, h4⟩
  · exact .inl h1
  · exact .inr ⟨g, cap, cur, rfl, h2, (h g rfl).trans h3, h4⟩
theorem grownBy_ext {w w' : World} {v : Value} (h : w.grownBy w' v.ownBlock) : Ext (fun b => v.ownBlock = some b) w w' :=
  ⟨h.os, h.tape, h.output, h.size, fun k hk hm => h.block k hk (fun e => hm e.symm)⟩
class AP (P : Program) (t : TypeId) (e sz by_ : outParam Nat) : Prop where
  out : P.underlying t = some (.slice e) ∧ ∃ i z, P.info? e = some i ∧ i.zero = some z ∧ i.size = sz ∧ i.bytes = by_ ∧ z.cells.size = sz ∧ 0 < sz
def apB (P : Program) (t e sz by_ : Nat) : Bool := match P.underlying t with
  | some (.slice e') => e' == e && (match P.info? e with
    | some i => (match i.zero with
      | some z => i.size == sz && i.bytes == by_ && z.cells.size == sz && Nat.blt 0 sz
      | none => false)
    | none => false)
  | _ => false
theorem AP.of {P : Program} {t e sz by_ : Nat} (h : apB P t e sz by_ = true) : AP P t e sz by_ := by
  unfold apB at h
  split at h
  · rename_i e' hu
    rw [Bool.and_eq_true] at h
    obtain ⟨h1, h2⟩ := h
    have h1 : e' = e := by simpa using h1
    subst h1
    split at h2
    · rename_i i hi
      split at h2
      · rename_i z hz
        simp only [Bool.and_eq_true, beq_iff_eq, Nat.blt_eq] at h2
        exact ⟨hu, i, z, hi, hz, h2.1.1.1, h2.1.1.2, h2.1.2, h2.2⟩
      · cases h2
    · cases h2
  · cases h
theorem run_append_row {P : Program} (w : World) (t ty : TypeId) {e sz by_ : Nat} (hp : P.underlying t = some (.slice e) ∧ ∃ i z, P.info? e = some i ∧ i.zero = some z ∧ i.size = sz ∧ i.bytes = by_ ∧ z.cells.size = sz ∧ 0 < sz)
    (v : Value) (n : Nat) (xs : List Value) (hown : w.ownsRow 0 e sz v n xs)
    (a : Addr) (m c : Nat) (news : List Value) (hl : news.length = m * sz) (hnews : ∀ j u, news[j]? = some u → w.cell? (a.add j) = some u) (h1 : ∀ u ∈ news, u.oneCell' = true)
    (hbytes : (n + m) * by_ ≤ 140737488355328) (h63 : n + m ≤ 9223372036854775807) :
    ∃ v' w', (Builtin.append_ #[t, t] ty #[v, .slice (some a) m c]).run P w = .ok v' w' ∧ w'.ownsRow 0 e sz v' (n + m) (xs ++ news) ∧ w.grownBy w' v.ownBlock ∧ ∀ b, v'.ownBlock = some b → v.ownBlock = some b ∨ w.heap.size ≤ b := by
  obtain ⟨ht, i, z, hi, hz, hsize, hby, hzs, hsz⟩ := hp
  have h63' : n + m ≤ maxLen := by simp only [maxLen]; omega
  obtain ⟨v', w', hr, ho, hg, _⟩ := run_append_own (P := P) w 0 t ty e i z sz by_ ht hi hz hsize hby hzs hsz v n xs hown a m c news hl hnews h1 h63' hbytes (Nat.zero_le _)
  refine ⟨v', w', hr, ho, hg, ?_⟩
  rcases hown.2 with ⟨rfl, rfl⟩ | ⟨g, cap, cur, rfl, hbg, hgg, hnc, hcm, hcs, htake⟩
  · obtain rfl : xs = [] := List.eq_nil_of_length_eq_zero (by simpa using hown.1)
    obtain ⟨v2, w2, hr2, ho2, _⟩ := run_append_own (P := P) w w.heap.size t ty e i z sz by_ ht hi hz hsize hby hzs hsz _ 0 [] (World.ownsRow_nil w _ e sz) a m c news hl hnews h1 h63' hbytes (Nat.le_refl _)
    rw [hr] at hr2
    obtain ⟨rfl, rfl⟩ : v' = v2 ∧ w' = w2 := by injection hr2 with h1 h2; exact ⟨h1, h2⟩
    intro b hb
    exact .inr (ho2.lt b hb).1
  · by_cases hroom : n + m ≤ cap
    · have hr2 := run_append_room (P := P) w t ty e i ht hi g n cap cur hgg a m c news (by rw [hsize]; exact hl) hnews h1 hroom (by rw [hsize, hl, hcs, ← Nat.add_mul]; exact Nat.mul_le_mul_right _ hroom)
      rw [hr] at hr2
      injection hr2 with h2 h3
      intro b hb
      rw [h2] at hb
      exact .inl hb
    · obtain ⟨v2, w2, hr2, ho2, _⟩ := run_append_arg_grows (P := P) w t ty e i z sz by_ ht hi hz hsize hby hzs hsz ⟨g, 0, none⟩ n cap xs hown.1 (hown.cells (g := g) rfl) a m c news hl hnews (by omega) h63' hbytes
      rw [hr] at hr2
      obtain ⟨rfl, rfl⟩ : v' = v2 ∧ w' = w2 := by injection hr2 with h1 h2; exact ⟨h1, h2⟩
      intro b hb
      exact .inr (ho2.lt b hb).1

section
variable {P : Program} {ops : Array Oper} {Q : Exit → Act → World → Prop} {dr : Bool} {fu k : Nat} {rest : List (Nat × Oper)} {a : Act} {w w0 : World} {M Z0 : Zone} {L : List Res} {φ : Fact}
  {d : Option Tmp} {ty : TypeId} {pos : String} {aft : Array Edge} {gd : Option (Nat × Bool)} {x y : Operand} {t t' : TypeId}
theorem rep_get (zs : List Value) : ∀ n i, i < n * zs.length → (List.replicate n zs).flatten[i]? = zs[i % zs.length]?
  | 0, i, h => by simp at h
  | n + 1, i, h => by
    rw [List.replicate_succ, List.flatten_cons]
    rcases Nat.lt_or_ge i zs.length with hi | hi
    · rw [List.getElem?_append_left hi, Nat.mod_eq_of_lt hi]
    · rw [List.getElem?_append_right hi, rep_get zs n (i - zs.length) (by rw [Nat.add_mul, Nat.one_mul] at h; omega), Nat.mod_eq_sub_mod hi]
theorem made_eq (zs : List Value) (n : Nat) : (madeCells zs.toArray (n * zs.length)).toList = (List.replicate n zs).flatten := by
  apply List.ext_getElem?
  intro i
  have hl : (List.replicate n zs).flatten.length = n * zs.length := by simp
  by_cases hi : i < n * zs.length
  · have hz : 0 < zs.length := by
      rcases Nat.eq_zero_or_pos zs.length with h | h
      · rw [h] at hi; simp at hi
      · exact h
    have hm : i % zs.length < zs.length := Nat.mod_lt _ hz
    rw [rep_get zs n i hi]
    simp [madeCells, hi, hm]
  · rw [List.getElem?_eq_none (by simp [madeCells]; omega), List.getElem?_eq_none (by rw [hl]; omega)]
/-- make. -/
theorem B3 {n sz e by_ : Nat} {zs : List Value} [hp : AP P t e sz by_] [hz : ZR P e zs] (hw : St w0 M Z0 L φ w)
    (hg : Region.wanted ⟨d, .makeSlice t x y, ty, pos, aft, gd⟩ (yielded ops a.tmps) = true)
    (hd : (!dr || soleB ops ((k, ⟨d, .makeSlice t x y, ty, pos, aft, gd⟩) :: rest) k ⟨d, .makeSlice t x y, ty, pos, aft, gd⟩) = true)
    (hx : a.eval x = .int .i64 n) (hy : a.eval y = .int .i64 n) (hn : n * sz ≤ 16777216) (hn2 : by_ * n ≤ 281474976710656)
    (h : ∀ b w', St w0 M Z0 (blk b (List.replicate n zs).flatten e :: L) φ w' → wpT P ops Q dr fu (St w0 M Z0 (blk b (List.replicate n zs).flatten e :: L) φ) rest (a.put d (.slice (some ⟨b, 0, none⟩) n n)) w') :
    wpT P ops Q dr (fu + 1) (St w0 M Z0 L φ) ((k, ⟨d, .makeSlice t x y, ty, pos, aft, gd⟩) :: rest) a w := by
  obtain ⟨ht, i, z, hi, hiz, hsize, hby, hzs, hsz⟩ := hp.out
  have hzz := hz.out
  unfold zeroB at hzz
  simp only [hi, hiz, Option.some.injEq] at hzz
  have hlen : zs.length = sz := by rw [← hzz, Array.length_toList, hzs]
  have hr := run_makeSlice (P := P) w t e i z ht hi hiz .i64 .i64 (n : Int) (n : Int) (by omega) (by omega) (by rw [hsize, Int.toNat_natCast]; exact hn) (by rw [hby, ← Int.natCast_mul]; have h' := hn2; generalize by_ * n = q at h' ⊢; omega) (by
    have : n ≤ n * sz := Nat.le_mul_of_pos_right n hsz
    omega)
  have hcs : madeCells z.cells (n * i.size) = ((List.replicate n zs).flatten).toArray := by
    apply Array.toList_inj.1
    rw [← made_eq, hlen, hsize, ← hzz]
  have hs := hw.alloc ((List.replicate n zs).flatten) e
  refine T_go hd hg (v := .slice (some ⟨w.heap.size, 0, none⟩) n n) (w' := w.alloc (.cells ((List.replicate n zs).flatten).toArray e (0, 0))) ?_ (fun _ _ h => h.tail) hs (h _ _ hs)
  simp only [Int.toNat_natCast, hcs] at hr
  simp only [execOp, hx, hy, Sem.run_bind, hr, Result.andThen_ok, Sem.run_pure]
end
end Go.Dk

/-! Sizes and equality of terms. -/
namespace Go.Dk
open Go
mutual
def T.size : T → Nat
  | .mk _ _ kids => 1 + T.sizeL kids
def T.sizeL : List T → Nat
  | [] => 0
  | t :: ts => T.size t + T.sizeL ts
end
theorem T.size_eq (t : T) : t.size = 1 + T.sizeL t.kids := by cases t; rfl
theorem T.sizeL_len : ∀ ts : List T, ts.length ≤ T.sizeL ts
  | [] => by simp [T.sizeL]
  | t :: ts => by have := T.sizeL_len ts; have := T.size_eq t; simp only [T.sizeL, List.length_cons]; omega
theorem T.sizeL_mem {t : T} : ∀ {ts : List T}, t ∈ ts → T.size t ≤ T.sizeL ts
  | u :: us, h => by
    simp only [T.sizeL]
    rcases List.mem_cons.1 h with rfl | h
    · omega
    · have := T.sizeL_mem h; omega
theorem HT.er_eq (t : HT) : t.er = .mk t.k t.n (t.kids.map HT.er) := by cases t; simp [HT.er, HT.k, HT.n, HT.kids, HT.erL_eq]
mutual
def T.beq : T → T → Bool
  | .mk k n ts, .mk l m us => decide (k = l) && (decide (n = m) && T.beqL ts us)
def T.beqL : List T → List T → Bool
  | [], [] => true
  | t :: ts, u :: us => T.beq t u && T.beqL ts us
  | _, _ => false
end
mutual
theorem T.beq_iff : ∀ t u : T, T.beq t u = true ↔ t = u
  | .mk k n ts, .mk l m us => by simp [T.beq, T.beqL_iff ts us]
theorem T.beqL_iff : ∀ ts us : List T, T.beqL ts us = true ↔ ts = us
  | [], [] => by simp [T.beqL]
  | [], u :: us => by simp [T.beqL]
  | t :: ts, [] => by simp [T.beqL]
  | t :: ts, u :: us => by simp [T.beqL, T.beq_iff t u, T.beqL_iff ts us]
end
theorem T.beq_eq (t u : T) : T.beq t u = (decide (t.k = u.k) && (decide (t.n = u.n) && T.beqL t.kids u.kids)) := by cases t; cases u; rfl
theorem T.beq_refl (t : T) : T.beq t t = true := (T.beq_iff t t).2 rfl
end Go.Dk
end
section
/- Closed facts of the loaded program, for the walks. -/
namespace Go.Proofs.YthopkmimhlcjkaaGreat
open Go Go.Dk
instance : FO Tryz.prog 35 0 0 := ⟨by kernel_rfl⟩
instance : FO Tryz.prog 35 1 1 := ⟨by kernel_rfl⟩
instance : FO Tryz.prog 35 2 2 := ⟨by kernel_rfl⟩
instance : SZ Tryz.prog 35 3 := ⟨by kernel_rfl⟩
instance : ST3 Tryz.prog 35 := ⟨by kernel_rfl⟩
instance : ZR Tryz.prog 35 [.int .i64 0, .int .i64 0, .slice none 0 0] := ⟨by kernel_rfl⟩
instance : FO Tryz.prog 30 0 0 := ⟨by kernel_rfl⟩
instance : FO Tryz.prog 30 1 1 := ⟨by kernel_rfl⟩
instance : FO Tryz.prog 30 2 2 := ⟨by kernel_rfl⟩
instance : SZ Tryz.prog 30 3 := ⟨by kernel_rfl⟩
instance : ST3 Tryz.prog 30 := ⟨by kernel_rfl⟩
instance : ZR Tryz.prog 30 [.int .i64 0, .int .i64 0, .slice none 0 0] := ⟨by kernel_rfl⟩
instance : FO Tryz.prog 106 0 0 := ⟨by kernel_rfl⟩
instance : FO Tryz.prog 106 1 1 := ⟨by kernel_rfl⟩
instance : SL Tryz.prog 25 3 := ⟨by kernel_rfl⟩
instance : SC Tryz.prog 25 := ⟨by kernel_rfl⟩
instance : SZ Tryz.prog 25 1 := ⟨by kernel_rfl⟩
instance : ZR Tryz.prog 25 [.slice none 0 0] := ⟨by kernel_rfl⟩
instance : SL Tryz.prog 22 3 := ⟨by kernel_rfl⟩
instance : SC Tryz.prog 22 := ⟨by kernel_rfl⟩
instance : SZ Tryz.prog 22 1 := ⟨by kernel_rfl⟩
instance : ZR Tryz.prog 22 [.slice none 0 0] := ⟨by kernel_rfl⟩
instance : SL Tryz.prog 45 1 := ⟨by kernel_rfl⟩
instance : SC Tryz.prog 45 := ⟨by kernel_rfl⟩
instance : SZ Tryz.prog 45 1 := ⟨by kernel_rfl⟩
instance : ZR Tryz.prog 45 [.slice none 0 0] := ⟨by kernel_rfl⟩
instance : SL Tryz.prog 76 1 := ⟨by kernel_rfl⟩
instance : SC Tryz.prog 76 := ⟨by kernel_rfl⟩
instance : SZ Tryz.prog 76 1 := ⟨by kernel_rfl⟩
instance : ZR Tryz.prog 76 [.slice none 0 0] := ⟨by kernel_rfl⟩
instance : SL Tryz.prog 109 1 := ⟨by kernel_rfl⟩
instance : SC Tryz.prog 109 := ⟨by kernel_rfl⟩
instance : SZ Tryz.prog 109 1 := ⟨by kernel_rfl⟩
instance : ZR Tryz.prog 109 [.slice none 0 0] := ⟨by kernel_rfl⟩
instance : SC Tryz.prog 3 := ⟨by kernel_rfl⟩
instance : SZ Tryz.prog 3 1 := ⟨by kernel_rfl⟩
instance : IsI64 Tryz.prog 3 := ⟨by kernel_rfl⟩
instance : ZR Tryz.prog 3 [.int .i64 0] := ⟨by kernel_rfl⟩
instance : SC Tryz.prog 4 := ⟨by kernel_rfl⟩
instance : SZ Tryz.prog 4 1 := ⟨by kernel_rfl⟩
instance : IsBool Tryz.prog 4 := ⟨by kernel_rfl⟩
instance : ZR Tryz.prog 4 [.bool false] := ⟨by kernel_rfl⟩
instance : SC Tryz.prog 9 := ⟨by kernel_rfl⟩
instance : SZ Tryz.prog 9 1 := ⟨by kernel_rfl⟩
instance : IsStr Tryz.prog 9 := ⟨by kernel_rfl⟩
instance : ZR Tryz.prog 9 [.string ⟨#[]⟩] := ⟨by kernel_rfl⟩
instance : SC Tryz.prog 5 := ⟨by kernel_rfl⟩
instance : SZ Tryz.prog 5 1 := ⟨by kernel_rfl⟩
instance : IsU8 Tryz.prog 5 := ⟨by kernel_rfl⟩
instance : EB Tryz.prog 45 5 1 := ⟨by kernel_rfl, by kernel_rfl, by kernel_rfl⟩
instance : EB Tryz.prog 76 3 1 := ⟨by kernel_rfl, by kernel_rfl, by kernel_rfl⟩
instance : EB Tryz.prog 109 9 1 := ⟨by kernel_rfl, by kernel_rfl, by kernel_rfl⟩
instance : EB Tryz.prog 25 35 3 := ⟨by kernel_rfl, by kernel_rfl, by kernel_rfl⟩
instance : CV Tryz.prog 45 9 := ⟨⟨5, by kernel_rfl, by kernel_rfl, by kernel_rfl⟩⟩
instance : BT Tryz.prog 35 := ⟨by kernel_rfl, by kernel_rfl⟩
instance : DrM Tryz.prog := ⟨by kernel_rfl⟩
instance : AP Tryz.prog 25 35 3 40 := AP.of (by kernel_rfl)
instance : AP Tryz.prog 76 3 1 8 := AP.of (by kernel_rfl)
instance : AP Tryz.prog 109 9 1 16 := AP.of (by kernel_rfl)
instance : AP Tryz.prog 45 5 1 1 := AP.of (by kernel_rfl)
instance : CB Tryz.prog 3 := ⟨by kernel_rfl⟩
instance : CB Tryz.prog 4 := ⟨by kernel_rfl⟩
instance : CB Tryz.prog 5 := ⟨by kernel_rfl⟩
instance : CB Tryz.prog 6 := ⟨by kernel_rfl⟩
instance : CB Tryz.prog 7 := ⟨by kernel_rfl⟩
instance : CB Tryz.prog 8 := ⟨by kernel_rfl⟩
instance : CB Tryz.prog 9 := ⟨by kernel_rfl⟩
instance : CB Tryz.prog 10 := ⟨by kernel_rfl⟩
instance : CB Tryz.prog 11 := ⟨by kernel_rfl⟩
instance : CB Tryz.prog 12 := ⟨by kernel_rfl⟩
instance : CB Tryz.prog 13 := ⟨by kernel_rfl⟩
instance : CB Tryz.prog 14 := ⟨by kernel_rfl⟩
instance : CB Tryz.prog 15 := ⟨by kernel_rfl⟩
instance : CB Tryz.prog 16 := ⟨by kernel_rfl⟩
instance : CB Tryz.prog 17 := ⟨by kernel_rfl⟩
instance : CB Tryz.prog 18 := ⟨by kernel_rfl⟩
instance : CB Tryz.prog 19 := ⟨by kernel_rfl⟩
instance : CB Tryz.prog 20 := ⟨by kernel_rfl⟩
instance : CB Tryz.prog 21 := ⟨by kernel_rfl⟩
instance : CB Tryz.prog 22 := ⟨by kernel_rfl⟩
instance : CB Tryz.prog 23 := ⟨by kernel_rfl⟩
instance : CB Tryz.prog 24 := ⟨by kernel_rfl⟩
instance : CB Tryz.prog 25 := ⟨by kernel_rfl⟩
instance : CB Tryz.prog 26 := ⟨by kernel_rfl⟩
instance : CB Tryz.prog 27 := ⟨by kernel_rfl⟩
instance : CB Tryz.prog 28 := ⟨by kernel_rfl⟩
instance : CB Tryz.prog 29 := ⟨by kernel_rfl⟩
instance : CB Tryz.prog 30 := ⟨by kernel_rfl⟩
instance : CB Tryz.prog 31 := ⟨by kernel_rfl⟩
instance : CB Tryz.prog 32 := ⟨by kernel_rfl⟩
instance : CB Tryz.prog 33 := ⟨by kernel_rfl⟩
instance : CB Tryz.prog 34 := ⟨by kernel_rfl⟩
instance : CB Tryz.prog 35 := ⟨by kernel_rfl⟩
instance : CB Tryz.prog 36 := ⟨by kernel_rfl⟩
instance : CB Tryz.prog 37 := ⟨by kernel_rfl⟩
instance : CB Tryz.prog 38 := ⟨by kernel_rfl⟩
instance : CB Tryz.prog 39 := ⟨by kernel_rfl⟩
instance : CB Tryz.prog 40 := ⟨by kernel_rfl⟩
instance : CB Tryz.prog 41 := ⟨by kernel_rfl⟩
instance : CB Tryz.prog 42 := ⟨by kernel_rfl⟩
instance : CB Tryz.prog 43 := ⟨by kernel_rfl⟩
instance : CB Tryz.prog 44 := ⟨by kernel_rfl⟩
instance : CB Tryz.prog 45 := ⟨by kernel_rfl⟩
instance : CB Tryz.prog 46 := ⟨by kernel_rfl⟩
instance : CB Tryz.prog 47 := ⟨by kernel_rfl⟩
instance : CB Tryz.prog 48 := ⟨by kernel_rfl⟩
instance : CB Tryz.prog 49 := ⟨by kernel_rfl⟩
instance : CB Tryz.prog 50 := ⟨by kernel_rfl⟩
instance : CB Tryz.prog 51 := ⟨by kernel_rfl⟩
instance : CB Tryz.prog 52 := ⟨by kernel_rfl⟩
instance : CB Tryz.prog 53 := ⟨by kernel_rfl⟩
instance : CB Tryz.prog 54 := ⟨by kernel_rfl⟩
instance : CB Tryz.prog 55 := ⟨by kernel_rfl⟩
instance : CB Tryz.prog 56 := ⟨by kernel_rfl⟩
instance : CB Tryz.prog 57 := ⟨by kernel_rfl⟩
instance : CB Tryz.prog 58 := ⟨by kernel_rfl⟩
instance : CB Tryz.prog 59 := ⟨by kernel_rfl⟩
instance : CB Tryz.prog 60 := ⟨by kernel_rfl⟩
instance : CB Tryz.prog 61 := ⟨by kernel_rfl⟩
instance : CB Tryz.prog 62 := ⟨by kernel_rfl⟩
instance : CB Tryz.prog 63 := ⟨by kernel_rfl⟩
instance : CB Tryz.prog 64 := ⟨by kernel_rfl⟩
instance : CB Tryz.prog 65 := ⟨by kernel_rfl⟩
instance : CB Tryz.prog 66 := ⟨by kernel_rfl⟩
instance : CB Tryz.prog 67 := ⟨by kernel_rfl⟩
instance : CB Tryz.prog 68 := ⟨by kernel_rfl⟩
instance : CB Tryz.prog 69 := ⟨by kernel_rfl⟩
instance : CB Tryz.prog 70 := ⟨by kernel_rfl⟩
instance : CB Tryz.prog 71 := ⟨by kernel_rfl⟩
instance : CB Tryz.prog 72 := ⟨by kernel_rfl⟩
instance : CB Tryz.prog 73 := ⟨by kernel_rfl⟩
instance : CB Tryz.prog 74 := ⟨by kernel_rfl⟩
instance : CB Tryz.prog 75 := ⟨by kernel_rfl⟩
instance : CB Tryz.prog 76 := ⟨by kernel_rfl⟩
instance : CB Tryz.prog 77 := ⟨by kernel_rfl⟩
instance : CB Tryz.prog 78 := ⟨by kernel_rfl⟩
instance : CB Tryz.prog 79 := ⟨by kernel_rfl⟩
instance : CB Tryz.prog 80 := ⟨by kernel_rfl⟩
instance : CB Tryz.prog 81 := ⟨by kernel_rfl⟩
instance : CB Tryz.prog 82 := ⟨by kernel_rfl⟩
instance : CB Tryz.prog 83 := ⟨by kernel_rfl⟩
instance : CB Tryz.prog 84 := ⟨by kernel_rfl⟩
instance : CB Tryz.prog 85 := ⟨by kernel_rfl⟩
instance : CB Tryz.prog 86 := ⟨by kernel_rfl⟩
instance : CB Tryz.prog 87 := ⟨by kernel_rfl⟩
instance : CB Tryz.prog 88 := ⟨by kernel_rfl⟩
instance : CB Tryz.prog 89 := ⟨by kernel_rfl⟩
instance : CB Tryz.prog 90 := ⟨by kernel_rfl⟩
instance : CB Tryz.prog 91 := ⟨by kernel_rfl⟩
instance : CB Tryz.prog 92 := ⟨by kernel_rfl⟩
instance : CB Tryz.prog 93 := ⟨by kernel_rfl⟩
instance : CB Tryz.prog 94 := ⟨by kernel_rfl⟩
instance : CB Tryz.prog 95 := ⟨by kernel_rfl⟩
instance : CB Tryz.prog 96 := ⟨by kernel_rfl⟩
instance : CB Tryz.prog 97 := ⟨by kernel_rfl⟩
instance : CB Tryz.prog 98 := ⟨by kernel_rfl⟩
instance : CB Tryz.prog 99 := ⟨by kernel_rfl⟩
instance : CB Tryz.prog 100 := ⟨by kernel_rfl⟩
instance : CB Tryz.prog 101 := ⟨by kernel_rfl⟩
instance : CB Tryz.prog 102 := ⟨by kernel_rfl⟩
instance : CB Tryz.prog 103 := ⟨by kernel_rfl⟩
instance : CB Tryz.prog 104 := ⟨by kernel_rfl⟩
instance : CB Tryz.prog 105 := ⟨by kernel_rfl⟩
instance : CB Tryz.prog 106 := ⟨by kernel_rfl⟩
instance : CB Tryz.prog 107 := ⟨by kernel_rfl⟩
instance : CB Tryz.prog 108 := ⟨by kernel_rfl⟩
instance : CB Tryz.prog 109 := ⟨by kernel_rfl⟩
instance : CB Tryz.prog 110 := ⟨by kernel_rfl⟩
instance : CB Tryz.prog 111 := ⟨by kernel_rfl⟩
instance : CB Tryz.prog 112 := ⟨by kernel_rfl⟩
instance : CB Tryz.prog 113 := ⟨by kernel_rfl⟩
instance : CB Tryz.prog 114 := ⟨by kernel_rfl⟩
instance : CB Tryz.prog 115 := ⟨by kernel_rfl⟩
instance : CB Tryz.prog 116 := ⟨by kernel_rfl⟩
instance : CB Tryz.prog 117 := ⟨by kernel_rfl⟩
instance : CB Tryz.prog 118 := ⟨by kernel_rfl⟩
instance : CB Tryz.prog 119 := ⟨by kernel_rfl⟩
instance : CB Tryz.prog 120 := ⟨by kernel_rfl⟩
instance : CB Tryz.prog 121 := ⟨by kernel_rfl⟩
instance : CB Tryz.prog 122 := ⟨by kernel_rfl⟩
instance : CB Tryz.prog 123 := ⟨by kernel_rfl⟩
instance : CB Tryz.prog 124 := ⟨by kernel_rfl⟩
instance : CB Tryz.prog 125 := ⟨by kernel_rfl⟩
instance : CB Tryz.prog 126 := ⟨by kernel_rfl⟩
instance : CB Tryz.prog 127 := ⟨by kernel_rfl⟩
instance : CB Tryz.prog 128 := ⟨by kernel_rfl⟩
instance : CB Tryz.prog 129 := ⟨by kernel_rfl⟩
instance : CB Tryz.prog 130 := ⟨by kernel_rfl⟩
instance : CB Tryz.prog 131 := ⟨by kernel_rfl⟩
instance : CB Tryz.prog 132 := ⟨by kernel_rfl⟩
instance : CB Tryz.prog 133 := ⟨by kernel_rfl⟩
instance : CB Tryz.prog 134 := ⟨by kernel_rfl⟩
instance : CB Tryz.prog 135 := ⟨by kernel_rfl⟩
instance : CB Tryz.prog 136 := ⟨by kernel_rfl⟩
instance : CB Tryz.prog 137 := ⟨by kernel_rfl⟩
instance : CB Tryz.prog 138 := ⟨by kernel_rfl⟩
instance : CB Tryz.prog 139 := ⟨by kernel_rfl⟩
instance : CB Tryz.prog 140 := ⟨by kernel_rfl⟩
instance : CB Tryz.prog 141 := ⟨by kernel_rfl⟩
instance : CB Tryz.prog 142 := ⟨by kernel_rfl⟩
instance : CB Tryz.prog 143 := ⟨by kernel_rfl⟩
instance : CB Tryz.prog 144 := ⟨by kernel_rfl⟩
instance : CB Tryz.prog 145 := ⟨by kernel_rfl⟩
instance : CB Tryz.prog 146 := ⟨by kernel_rfl⟩
instance : CB Tryz.prog 147 := ⟨by kernel_rfl⟩
instance : CB Tryz.prog 148 := ⟨by kernel_rfl⟩
instance : CB Tryz.prog 149 := ⟨by kernel_rfl⟩
instance : CB Tryz.prog 150 := ⟨by kernel_rfl⟩
instance : CB Tryz.prog 151 := ⟨by kernel_rfl⟩
instance : CB Tryz.prog 152 := ⟨by kernel_rfl⟩
instance : CB Tryz.prog 153 := ⟨by kernel_rfl⟩
instance : CB Tryz.prog 154 := ⟨by kernel_rfl⟩
instance : CB Tryz.prog 155 := ⟨by kernel_rfl⟩
instance : CB Tryz.prog 156 := ⟨by kernel_rfl⟩
instance : CB Tryz.prog 157 := ⟨by kernel_rfl⟩
instance : CB Tryz.prog 158 := ⟨by kernel_rfl⟩
instance : CB Tryz.prog 159 := ⟨by kernel_rfl⟩
instance : CB Tryz.prog 160 := ⟨by kernel_rfl⟩
instance : CB Tryz.prog 161 := ⟨by kernel_rfl⟩
instance : CB Tryz.prog 162 := ⟨by kernel_rfl⟩
instance : CB Tryz.prog 163 := ⟨by kernel_rfl⟩
instance : CB Tryz.prog 164 := ⟨by kernel_rfl⟩
instance : CB Tryz.prog 165 := ⟨by kernel_rfl⟩
instance : CB Tryz.prog 166 := ⟨by kernel_rfl⟩
instance : CB Tryz.prog 167 := ⟨by kernel_rfl⟩
instance : CB Tryz.prog 168 := ⟨by kernel_rfl⟩
instance : CB Tryz.prog 169 := ⟨by kernel_rfl⟩
instance : CB Tryz.prog 170 := ⟨by kernel_rfl⟩
instance : CB Tryz.prog 171 := ⟨by kernel_rfl⟩
instance : CB Tryz.prog 172 := ⟨by kernel_rfl⟩
instance : CB Tryz.prog 173 := ⟨by kernel_rfl⟩
instance : CB Tryz.prog 174 := ⟨by kernel_rfl⟩
instance : CB Tryz.prog 175 := ⟨by kernel_rfl⟩
instance : CB Tryz.prog 176 := ⟨by kernel_rfl⟩
instance : CB Tryz.prog 177 := ⟨by kernel_rfl⟩
instance : CB Tryz.prog 178 := ⟨by kernel_rfl⟩
instance : CB Tryz.prog 179 := ⟨by kernel_rfl⟩
instance : CB Tryz.prog 180 := ⟨by kernel_rfl⟩
instance : CB Tryz.prog 181 := ⟨by kernel_rfl⟩
instance : CB Tryz.prog 182 := ⟨by kernel_rfl⟩
instance : CB Tryz.prog 183 := ⟨by kernel_rfl⟩
instance : CB Tryz.prog 184 := ⟨by kernel_rfl⟩
instance : CB Tryz.prog 185 := ⟨by kernel_rfl⟩
instance : CB Tryz.prog 186 := ⟨by kernel_rfl⟩
instance : CB Tryz.prog 187 := ⟨by kernel_rfl⟩
instance : CB Tryz.prog 188 := ⟨by kernel_rfl⟩
instance : CB Tryz.prog 189 := ⟨by kernel_rfl⟩
instance : CB Tryz.prog 190 := ⟨by kernel_rfl⟩
instance : CB Tryz.prog 191 := ⟨by kernel_rfl⟩
instance : CB Tryz.prog 192 := ⟨by kernel_rfl⟩
instance : CB Tryz.prog 193 := ⟨by kernel_rfl⟩
instance : CB Tryz.prog 194 := ⟨by kernel_rfl⟩
instance : CB Tryz.prog 195 := ⟨by kernel_rfl⟩
instance : CB Tryz.prog 196 := ⟨by kernel_rfl⟩
instance : CB Tryz.prog 197 := ⟨by kernel_rfl⟩
instance : CB Tryz.prog 198 := ⟨by kernel_rfl⟩
instance : CB Tryz.prog 199 := ⟨by kernel_rfl⟩
instance : CB Tryz.prog 200 := ⟨by kernel_rfl⟩
end Go.Proofs.YthopkmimhlcjkaaGreat
end
section
/- Abstract values, and the abstract run of code over them: terms as trees, slices as lists, local variables and growing slices as objects with numbers. No program in sight. -/
set_option linter.unusedVariables false
set_option linter.unusedSimpArgs false
namespace Go.Ab
open Go Go.Dk

/-- What the elements of a slice are. -/
inductive SK | t | i | ii | s | b
def SK.beq : SK → SK → Bool
  | .t, .t | .i, .i | .ii, .ii | .s, .s | .b, .b => true
  | _, _ => false
/-- What a slice holds. -/
inductive SD
  | ts (l : List T) | is (l : List Int) | iss (l : List (List Int)) | ss (l : List ByteArray) | bs (l : List UInt8)
/-- One element. -/
inductive SE
  | t (t : T) | i (n : Int) | ii (l : List Int) | s (x : ByteArray) | b (c : UInt8)
def SK.size : SK → Nat | .t => 3 | _ => 1
def SK.nil : SK → SD | .t => .ts [] | .i => .is [] | .ii => .iss [] | .s => .ss [] | .b => .bs []
def SD.kind : SD → SK | .ts _ => .t | .is _ => .i | .iss _ => .ii | .ss _ => .s | .bs _ => .b
def SD.len : SD → Nat | .ts l => l.length | .is l => l.length | .iss l => l.length | .ss l => l.length | .bs l => l.length

/-- A value of one cell. -/
inductive SV
  | int (k : IntKind) (n : Int)
  | bool (b : Bool)
  | str (x : ByteArray)
  | emp (k : Option (TypeId × SK))
  | fr (d : SD)
  | own (j v : Nat)
  | ptr (j off : Nat)
  | ep (e : SE) (off : Nat)
  | op (j v i off : Nat)
  | fn (f : FuncId) (caps : List Nat)
  | nilp
  | any
inductive V1 | one (s : SV) | agg (l : List SV)
inductive AV | v (x : V1) | tup (l : List V1)
inductive AObj | cells (l : List SV) | arr (e : TypeId) (d : SD) (ver : Nat) (fz : Bool) | dead
structure AS where
  tmps : List AV
  heap : List AObj
abbrev OR := Option (List V1 × List AObj)
def anyV : AV := .v (.one .any)

def V1.cells : V1 → List SV | .one s => [s] | .agg l => l
/-- The cells of a value; of one of which nothing is known, none. -/
def AV.cs : AV → Option (List SV)
  | .v (.one .any) => none
  | .v (.one s) => some [s]
  | .v (.agg l) => some l
  | .tup _ => none
def csL : List AV → Option (List (List SV))
  | [] => some []
  | v :: l => v.cs.bind fun c => (csL l).map (c :: ·)
def SE.cells : SE → List SV
  | .t x => [.int .i64 x.k, .int .i64 x.n, .fr (.ts x.kids)]
  | .i n => [.int .i64 n]
  | .ii l => [.fr (.is l)]
  | .s x => [.str x]
  | .b c => [.int .u8 (c.toNat : Int)]
def SD.get (d : SD) (i : Nat) (k : SE → OR) : OR :=
  match d with
  | .ts l => l[i]?.bind fun x => k (.t x)
  | .is l => l[i]?.bind fun x => k (.i x)
  | .iss l => l[i]?.bind fun x => k (.ii x)
  | .ss l => l[i]?.bind fun x => k (.s x)
  | .bs l => l[i]?.bind fun x => k (.b x)
def SD.app (d e : SD) (k : SD → OR) : OR :=
  match d, e with
  | .ts l, .ts m => k (.ts (l ++ m))
  | .is l, .is m => k (.is (l ++ m))
  | .iss l, .iss m => k (.iss (l ++ m))
  | .ss l, .ss m => k (.ss (l ++ m))
  | .bs l, .bs m => k (.bs (l ++ m))
  | _, _ => none
def SD.set (d : SD) (i : Nat) (e : SE) (k : SD → OR) : OR :=
  match d, e with
  | .ts l, .t x => k (.ts (l.set i x))
  | .is l, .i x => k (.is (l.set i x))
  | .iss l, .ii x => k (.iss (l.set i x))
  | .ss l, .s x => k (.ss (l.set i x))
  | .bs l, .b x => k (.bs (l.set i x))
  | _, _ => none
def SD.sub (d : SD) (lo hi : Nat) : SD :=
  match d with
  | .ts l => .ts ((l.take hi).drop lo)
  | .is l => .is ((l.take hi).drop lo)
  | .iss l => .iss ((l.take hi).drop lo)
  | .ss l => .ss ((l.take hi).drop lo)
  | .bs l => .bs ((l.take hi).drop lo)

/-! Types. -/
def kind0 (P : Program) (e : TypeId) : Option SK :=
  match P.underlying e with
  | some (.struct _) => (match structT P e with | some 3 => some .t | _ => none)
  | some (.int .i64) => some .i
  | some (.int .u8) => some .b
  | some .string => some .s
  | some (.slice e') => (match P.underlying e' with | some (.int .i64) => some .ii | _ => none)
  | _ => none
def sizeOk (P : Program) (e : TypeId) (k : SK) : Bool := match P.info? e with
  | some i => (match i.zero with
    | some z => Nat.beq i.size k.size && (Nat.beq z.cells.size k.size && Nat.ble i.bytes 64)
    | none => false)
  | none => false
def kindE (P : Program) (e : TypeId) : Option SK := (kind0 P e).bind fun k => cond (sizeOk P e k) (some k) none
/-- The elements of a slice type: their type and kind. -/
def kindS (P : Program) (t : TypeId) : Option (TypeId × SK) := match P.underlying t with | some (.slice e) => (kindE P e).map fun k => (e, k) | _ => none
/-- The kinds of the slices among the leaves of a type. -/
def leaves (P : Program) : Nat → TypeId → List (Option (TypeId × SK))
  | 0, _ => [none]
  | n + 1, t => match P.underlying t with
    | some (.struct fs) => fs.toList.flatMap fun f => leaves P n f.type
    | some (.slice _) => [kindS P t]
    | _ => [none]
def svOf (k : Option (TypeId × SK)) : Value → SV
  | .int k n => .int k n
  | .bool b => .bool b
  | .string s => .str s
  | .slice none 0 0 => .emp k
  | .pointer none => .nilp
  | _ => .any
def svsOf : List (Option (TypeId × SK)) → List Value → List SV
  | k :: ks, v :: vs => svOf k v :: svsOf ks vs
  | [], v :: vs => svOf none v :: svsOf [] vs
  | _, [] => []
def AV.ofValue : Value → AV
  | .agg cs => cond (cs.toList.all oneB) (.v (.agg (svsOf [] cs.toList))) anyV
  | .tuple _ => anyV
  | x => .v (.one (svOf none x))
/-- A nil slice whose type is told. -/
def retype (P : Program) (t : TypeId) : AV → AV
  | .v (.one (.emp none)) => .v (.one (.emp (kindS P t)))
  | .v (.agg l) => .v (.agg (go (leaves P 4 t) l))
  | x => x
where go : List (Option (TypeId × SK)) → List SV → List SV
  | k :: ks, .emp none :: l => .emp k :: go ks l
  | _ :: ks, x :: l => x :: go ks l
  | [], l => l
  | _, [] => []
def zeroS (P : Program) (t : TypeId) : Option (List SV) := (zeroB P t).bind fun z => cond (z.all oneB) (some (svsOf (leaves P 4 t) z)) none

def AS.ev (s : AS) : Operand → AV
  | .tmp t => s.tmps.getD t anyV
  | .const v => AV.ofValue v
  | .func f => .v (.one (.fn f []))
  | .global _ => anyV
def AS.put (s : AS) (d : Option Tmp) (v : AV) : AS :=
  match d with
  | some d => { s with tmps := s.tmps.set d v }
  | none => s
/-! What slices hold, read in a memory. -/
/-- Read a slice. -/
def readS (h : List AObj) (x : SV) (k : SD → OR) : OR :=
  match x with
  | .fr d => k d
  | .emp (some e) => k e.2.nil
  | .own j v => (match h[j]? with
    | some (.arr _ d ver _) => cond (Nat.beq v ver) (k d) none
    | _ => none)
  | _ => none
/-- A slice is frozen: it is read from now on, and turned no more. -/
def sealS (h : List AObj) (x : SV) (k : SV → List AObj → OR) : OR :=
  match x with
  | .own j v => (match h[j]? with
    | some (.arr e d ver _) => cond (Nat.beq v ver) (k (.fr d) (h.set j (.arr e d ver true))) none
    | _ => none)
  | .emp (some e) => k (.fr e.2.nil) h
  | x => k x h
def sealL (h : List AObj) : List SV → (List SV → List AObj → OR) → OR
  | [], k => k [] h
  | x :: l, k => sealS h x fun x' h' => sealL h' l fun l' h'' => k (x' :: l') h''
/-- Cells, frozen, as an element. -/
def elemOf (e : SK) (l : List SV) (k : SE → OR) : OR :=
  match e, l with
  | .t, [.int .i64 a, .int .i64 b, .fr (.ts l)] => k (.t (.mk a b l))
  | .i, [.int .i64 a] => k (.i a)
  | .ii, [.fr (.is l)] => k (.ii l)
  | .s, [.str x] => k (.s x)
  | .b, [.int .u8 n] => cond (decide (0 ≤ n) && decide (n ≤ 255)) (k (.b (UInt8.ofNat n.toNat))) none
  | _, _ => none
def SD.snoc (d : SD) (e : SE) : Option SD :=
  match d, e with
  | .ts l, .t x => some (.ts (l ++ [x]))
  | .is l, .i x => some (.is (l ++ [x]))
  | .iss l, .ii x => some (.iss (l ++ [x]))
  | .ss l, .s x => some (.ss (l ++ [x]))
  | .bs l, .b x => some (.bs (l ++ [x]))
  | _, _ => none
def elemsOf (e : SK) (h : List AObj) : List (List SV) → SD → (SD → List AObj → OR) → OR
  | [], d, k => k d h
  | c :: cs, d, k => sealL h c fun c' h' => elemOf e c' fun x => (d.snoc x).bind fun d' => elemsOf e h' cs d' k

/-! Loads and stores. -/
def packK (P : Program) (t : TypeId) (l : List SV) (k : AV → OR) : OR :=
  match scalarT P t with
  | true => (match l with | c :: _ => k (.v (.one c)) | [] => none)
  | false => (match structT P t with
    | some n => cond (Nat.ble n l.length) (k (.v (.agg (l.take n)))) none
    | none => none)
def evLoad (P : Program) (t : TypeId) (x : AV) (h : List AObj) (k : AV → OR) : OR :=
  match x with
  | .v (.one (.ptr j off)) => (match h[j]? with
    | some (.cells l) => packK P t (l.drop off) k
    | _ => none)
  | .v (.one (.ep e off)) => packK P t (e.cells.drop off) k
  | .v (.one (.op j v i off)) => (match h[j]? with
    | some (.arr _ d ver _) => cond (Nat.beq v ver) (d.get i fun e => packK P t (e.cells.drop off) k) none
    | _ => none)
  | _ => none
def putS (l : List SV) (off : Nat) : List SV → List SV
  | [] => l
  | c :: cs => putS (l.set off c) (off + 1) cs
def evStore (P : Program) (t : TypeId) (x y : AV) (h : List AObj) (k : List AObj → OR) : OR :=
  match (P.info? t).map (·.size) with
  | some m => y.cs.bind fun yc => (match x with
    | .v (.one (.ptr j off)) => (match h[j]? with
      | some (.cells l) => cond (Nat.beq m yc.length && Nat.ble (off + m) l.length) (k (h.set j (.cells (putS l off yc)))) none
      | _ => none)
    | .v (.one (.op j v i 0)) => sealL h yc fun c h => (match h[j]? with
      | some (.arr e d ver false) => cond (Nat.beq v ver && Nat.beq m d.kind.size) (elemOf d.kind c fun x => d.set i x fun d' => k (h.set j (.arr e d' ver false))) none
      | _ => none)
    | _ => none)
  | none => none

/-! Operators. -/
def ikEq (a b : IntKind) : Bool := decide (a = b)
def evInt (op : BinOp) (ka : IntKind) (a b : Int) (k : SV → OR) : OR :=
  match op with
  | .add => k (.int ka (ka.wrap (a + b)))
  | .sub => k (.int ka (ka.wrap (a - b)))
  | .mul => k (.int ka (ka.wrap (a * b)))
  | .quo => cond (decide (b = 0)) none (k (.int ka (ka.wrap (a.tdiv b))))
  | .rem => cond (decide (b = 0)) none (k (.int ka (a.tmod b)))
  | .xor => k (.int ka (ka.wrap (BitVec.ofInt ka.bits a ^^^ BitVec.ofInt ka.bits b).toNat))
  | .eql => k (.bool (decide (a = b)))
  | .neq => k (.bool (!decide (a = b)))
  | .lss => k (.bool (decide (a < b)))
  | .leq => k (.bool (decide (a ≤ b)))
  | .gtr => k (.bool (decide (b < a)))
  | .geq => k (.bool (decide (b ≤ a)))
  | _ => none
def evStr (op : BinOp) (a b : ByteArray) (k : SV → OR) : OR :=
  match op with
  | .add => cond (decide (a.size + b.size ≤ 9223372036854775807)) (k (.str (a ++ b))) none
  | .eql => k (.bool (a.toList == b.toList))
  | .neq => k (.bool (!(a.toList == b.toList)))
  | .gtr => k (.bool (!(Op.bytesLess a.toList b.toList || a.toList == b.toList)))
  | _ => none
def evBin (P : Program) (op : BinOp) (t : TypeId) (x y : AV) (k : SV → OR) : OR :=
  match x, y with
  | .v (.one (.int ka a)), .v (.one (.int kb b)) => cond (ikEq ka kb) (evInt op ka a b k) none
  | .v (.one (.str a)), .v (.one (.str b)) => evStr op a b k
  | .v (.one (.bool a)), .v (.one (.bool b)) => (match P.underlying t with
    | some .bool => (match op with
      | .eql => k (.bool (decide (a = b)))
      | .neq => k (.bool (!decide (a = b)))
      | _ => none)
    | _ => none)
  | _, _ => none
def evUn (op : UnOp) (x : AV) (k : SV → OR) : OR :=
  match op, x with
  | .not, .v (.one (.bool b)) => k (.bool (!b))
  | .neg, .v (.one (.int ka n)) => k (.int ka (ka.wrap (0 - n)))
  | _, _ => none
def evConv (P : Program) (t t' : TypeId) (x : AV) (h : List AObj) (k : SV → OR) : OR :=
  match x with
  | .v (.one (.int _ n)) => (match P.underlying t, P.underlying t' with
    | some (.int _), some (.int ka) => k (.int ka (ka.wrap n))
    | _, _ => none)
  | .v (.one x) => (match kindS P t, P.underlying t' with
    | some (_, .b), some .string => readS h x fun d => (match d with | .bs l => k (.str ⟨l.toArray⟩) | _ => none)
    | _, _ => none)
  | _ => none
def optInt (x : AV) (k : Int → OR) : OR := match x with | .v (.one (.int .i64 n)) => k n | _ => none
def inB (lo hi n : Int) : Bool := decide (0 ≤ lo) && (decide (lo ≤ hi) && decide (hi ≤ n))
/-- x[lo:hi:mx]. -/
def evSlice (P : Program) (t : TypeId) (x : AV) (lo hi mx : Option AV) (h : List AObj) (k : SV → List AObj → OR) : OR :=
  match mx with
  | some mx => cond (kindS P t).isSome (optInt mx fun m => (match hi, lo with
    | some hi, none => optInt hi fun n => cond (decide (m = 0) && decide (n = 0)) (match x with
      | .v (.one (.fr d)) => cond (kindEq (kindS P t) d.kind) (k (.emp (kindS P t)) h) none
      | .v (.one (.own j v)) => (match h[j]? with
        | some (.arr _ d ver _) => cond (Nat.beq v ver && kindEq (kindS P t) d.kind) (k (.emp (kindS P t)) h) none
        | _ => none)
      | .v (.one (.emp e)) => (k (.emp (kindS P t)) h)
      | _ => none) none
    | some hi, some lo => optInt hi fun n => optInt lo fun l => cond (decide (m = 0) && (decide (n = 0) && decide (l = 0))) (match x with
      | .v (.one (.fr d)) => cond (kindEq (kindS P t) d.kind) (k (.emp (kindS P t)) h) none
      | .v (.one (.own j v)) => (match h[j]? with
        | some (.arr _ d ver _) => cond (Nat.beq v ver && kindEq (kindS P t) d.kind) (k (.emp (kindS P t)) h) none
        | _ => none)
      | .v (.one (.emp e)) => (k (.emp (kindS P t)) h)
      | _ => none) none
    | _, _ => none)) none
  | none => (match x with
    | .v (.one (.str a)) => (match P.underlying t with
      | some .string => bounds lo hi a.size fun l n => k (.str (a.extract l.toNat n.toNat)) h
      | _ => none)
    | .v (.one x) => (match kindS P t with
      | some e => sealS h x fun x' h' => (match x' with
        | .fr d => cond (SK.beq e.2 d.kind) (bounds lo hi d.len fun l n => k (.fr (d.sub l.toNat n.toNat)) h') none
        | _ => none)
      | none => none)
    | _ => none)
where
  kindEq : Option (TypeId × SK) → SK → Bool
    | some a, c => SK.beq a.2 c
    | none, _ => false
  bounds (lo hi : Option AV) (n : Nat) (k : Int → Int → OR) : OR :=
    match lo, hi with
    | none, none => k 0 n
    | some lo, none => optInt lo fun l => cond (inB l n n) (k l n) none
    | none, some hi => optInt hi fun m => cond (inB 0 m n) (k 0 m) none
    | some lo, some hi => optInt lo fun l => optInt hi fun m => cond (inB l m n) (k l m) none
def evIndexAddr (P : Program) (t : TypeId) (x y : AV) (h : List AObj) (k : SV → OR) : OR :=
  match kindS P t with
  | none => none
  | some e => optInt y fun i => cond (decide (0 ≤ i)) (match x with
    | .v (.one (.fr d)) => cond (SK.beq e.2 d.kind) (d.get i.toNat fun x => k (.ep x 0)) none
    | .v (.one (.own j v)) => (match h[j]? with
      | some (.arr _ d ver _) => cond (Nat.beq v ver && SK.beq e.2 d.kind) (cond (decide (i < d.len)) (k (.op j v i.toNat 0)) none) none
      | _ => none)
    | _ => none) none
def evLen (P : Program) (t : TypeId) (x : AV) (h : List AObj) (k : SV → OR) : OR :=
  match x with
  | .v (.one (.str a)) => (match P.underlying t with | some .string => k (.int .i64 (a.size : Int)) | _ => none)
  | .v (.one (.emp _)) => (match kindS P t with | some _ => k (.int .i64 0) | none => none)
  | .v (.one x) => (match kindS P t with | some _ => readS h x fun d => k (.int .i64 (d.len : Int)) | none => none)
  | _ => none
/-- What a slice of a call's own may come to hold. -/
def roomB (n : Nat) : Bool := decide (n ≤ 1099511627776)
def evAppend (P : Program) (t : TypeId) (x y : AV) (h : List AObj) (sl : Nat) (k : SV → List AObj → OR) : OR :=
  match kindS P t with
  | none => none
  | some e => (match y with
    | .v (.one y) => readS h y fun d' => cond (SK.beq e.2 d'.kind) (match x with
      | .v (.one (.own j v)) => (match h[j]? with
        | some (.arr e' d ver false) => cond (Nat.beq v ver && Nat.beq e.1 e') (d.app d' fun d'' => cond (roomB d''.len) (k (.own j (ver + 1)) (h.set j (.arr e' d'' (ver + 1) false))) none) none
        | _ => none)
      | .v (.one (.emp _)) => cond (roomB d'.len) (k (.own sl 0) (h.set sl (.arr e.1 d' 0 false))) none
      | _ => none) none
    | _ => none)
/-- Is the zero of a type what it is taken for? -/
def zeroIs (P : Program) (e : TypeId) (k : SK) : Bool :=
  match zeroB P e, k with
  | some [.int .i64 a, .int .i64 b, .slice none 0 0], .t => decide (a = 0) && decide (b = 0)
  | some [.int .i64 a], .i => decide (a = 0)
  | some [.string x], .s => decide (x = ByteArray.empty)
  | some [.int .u8 a], .b => decide (a = 0)
  | _, _ => false
def zeros (n : Nat) : SK → Option SD
  | .t => some (.ts (List.replicate n (.mk 0 0 [])))
  | .i => some (.is (List.replicate n 0))
  | .ii => none
  | .s => some (.ss (List.replicate n ByteArray.empty))
  | .b => some (.bs (List.replicate n 0))
def evMake (P : Program) (t : TypeId) (x y : AV) (h : List AObj) (sl : Nat) (k : SV → List AObj → OR) : OR :=
  optInt x fun n => optInt y fun m => cond (decide (n = m) && (decide (0 ≤ n) && decide (n ≤ 4194304))) (match kindS P t with
    | some e => cond (zeroIs P e.1 e.2) ((zeros n.toNat e.2).bind fun d => k (.own sl 0) (h.set sl (.arr e.1 d 0 false))) none
    | none => none) none
def liveC (h : List AObj) (j : Nat) : Bool := match h[j]? with | some (.cells _) => true | _ => false
def liveA (h : List AObj) (j v : Nat) : Bool := match h[j]? with | some (.arr _ _ ver _) => Nat.beq v ver | _ => false
/-- The address d cells further on. -/
def evField (h : List AObj) (d : Nat) (v : AV) (k : SV → OR) : OR :=
  match v with
  | .v (.one (.ptr j o)) => cond (liveC h j) (k (.ptr j (o + d))) none
  | .v (.one (.ep e o)) => k (.ep e (o + d))
  | .v (.one (.op j v n o)) => cond (liveA h j v) (k (.op j v n (o + d))) none
  | _ => none
def evNil (h : List AObj) (v : AV) (k : SV → OR) : OR :=
  match v with
  | .v (.one (.ptr j o)) => cond (liveC h j) (k (.ptr j o)) none
  | .v (.one (.ep e o)) => k (.ep e o)
  | .v (.one (.op j v n o)) => cond (liveA h j v) (k (.op j v n o)) none
  | .v (.one (.fn f l)) => k (.fn f l)
  | _ => none
def evIndex (P : Program) (t : TypeId) (x y : AV) (k : SV → OR) : OR :=
  match x with
  | .v (.one (.str a)) => optInt y fun n => cond (decide (0 ≤ n) && decide (n < a.size)) (match P.underlying t with
      | some .string => k (.int .u8 ((byteAt a n.toNat).toNat : Int))
      | _ => none) none
  | _ => none
def evExtract (x : AV) (i : Nat) (k : AV → OR) : OR := match x with | .tup l => l[i]?.bind fun x => k (.v x) | _ => none
def evMax (mx : Bool) (x y : AV) (k : SV → OR) : OR :=
  match x, y with
  | .v (.one (.int a x)), .v (.one (.int b y)) => cond (ikEq a b) (k (.int a (cond mx (max x y) (min x y)))) none
  | _, _ => none
/-- The objects that closures stand on. -/
def capsOf (h : List AObj) : List AV → Option (List Nat)
  | [] => some []
  | .v (.one (.ptr j 0)) :: l => cond (liveC h j) ((capsOf h l).map (j :: ·)) none
  | _ => none
end Go.Ab
namespace Go.Ab
open Go Go.Dk

/-! Which objects a value stands on; a memory of some objects alone. -/
def refsS : SV → List Nat
  | .own j _ => [j]
  | .ptr j _ => [j]
  | .op j _ _ _ => [j]
  | .fn _ l => l
  | _ => []
def refsO : Option AObj → List Nat
  | some (.cells l) => l.flatMap refsS
  | _ => []
def hasN (j : Nat) : List Nat → Bool
  | [] => false
  | i :: l => Nat.beq j i || hasN j l
def reach (h : List AObj) : Nat → List Nat → List Nat → List Nat
  | 0, _, seen => seen
  | _, [], seen => seen
  | n + 1, j :: todo, seen => cond (hasN j seen) (reach h n todo seen) (reach h n (refsO h[j]? ++ todo) (seen ++ [j]))
def idx (j : Nat) : List Nat → Option Nat
  | [] => none
  | i :: l => cond (Nat.beq j i) (some 0) ((idx j l).map (· + 1))
def idxs (js : List Nat) : List Nat → Option (List Nat)
  | [] => some []
  | j :: l => (idx j js).bind fun i => (idxs js l).map (i :: ·)
def renS (js : List Nat) : SV → SV
  | .own j v => (match idx j js with | some i => .own i v | none => .any)
  | .ptr j o => (match idx j js with | some i => .ptr i o | none => .any)
  | .op j v i o => (match idx j js with | some j => .op j v i o | none => .any)
  | .fn f l => (match idxs js l with | some l => .fn f l | none => .any)
  | x => x
def renV (js : List Nat) : V1 → V1 | .one s => .one (renS js s) | .agg l => .agg (l.map (renS js))
def renA (js : List Nat) : AV → AV | .v x => .v (renV js x) | .tup l => .tup (l.map (renV js))
def renO (js : List Nat) : AObj → AObj | .cells l => .cells (l.map (renS js)) | o => o
def selH (js : List Nat) (h : List AObj) : List AObj := js.map fun j => renO js (h.getD j .dead)
def refsV : V1 → List Nat | .one s => refsS s | .agg l => l.flatMap refsS
def refsA : AV → List Nat | .v x => refsV x | .tup l => l.flatMap refsV

/-! What a function hands back. -/
/-- A cell that speaks of no object. -/
def clean : SV → SV
  | .own _ _ => .any
  | .ptr _ _ => .any
  | .op _ _ _ _ => .any
  | .fn _ _ => .any
  | x => x
/-- Cells as they are handed back: frozen, or as objects of their own, numbered from b on. -/
def outC (own : Bool) : List SV → List AObj → Nat → (List SV → List AObj → List AObj → OR) → OR
  | [], h, _, k => k [] h []
  | .own j v :: l, h, b, k => (match h[j]? with
    | some (.arr e d ver fz) => cond (Nat.beq v ver) (cond own
        (cond fz none (outC own l (h.set j .dead) (b + 1) fun cs h os => k (.own b 0 :: cs) h (.arr e d 0 false :: os)))
        (outC own l (h.set j (.arr e d ver true)) b fun cs h os => k (.fr d :: cs) h os)) none
    | _ => none)
  | .emp (some e) :: l, h, b, k => cond own
      (outC own l h (b + 1) fun cs h os => k (.own b 0 :: cs) h (.arr e.1 e.2.nil 0 false :: os))
      (outC own l h b fun cs h os => k (.fr e.2.nil :: cs) h os)
  | .ptr j 0 :: l, h, b, k => (match h[j]? with
    | some (.cells c) => sealL h c fun c h => outC own l (h.set j .dead) (b + 1) fun cs h os => k (.ptr b 0 :: cs) h (.cells (c.map clean) :: os)
    | _ => none)
  | .int a n :: l, h, b, k => outC own l h b fun cs h os => k (.int a n :: cs) h os
  | .bool x :: l, h, b, k => outC own l h b fun cs h os => k (.bool x :: cs) h os
  | .str x :: l, h, b, k => outC own l h b fun cs h os => k (.str x :: cs) h os
  | .fr x :: l, h, b, k => outC own l h b fun cs h os => k (.fr x :: cs) h os
  | _ :: l, h, b, k => outC own l h b fun cs h os => k (.any :: cs) h os
/-- The objects that were handed in, as they are handed back. -/
def outO (m : Nat) : Nat → List AObj → (List AObj → OR) → OR
  | 0, h, k => k []
  | n + 1, h, k => (match h[m - (n + 1)]? with
    | some (.cells c) => sealL h c fun c h => outO m n h fun os => k (.cells (c.map clean) :: os)
    | _ => outO m n h fun os => k (.dead :: os))
def outVs (own : Bool) : List V1 → List AObj → Nat → (List V1 → List AObj → List AObj → OR) → OR
  | [], h, _, k => k [] h []
  | .one .any :: l, h, b, k => outVs own l h b fun vs h os => k (.one .any :: vs) h os
  | .one x :: l, h, b, k => outC own [x] h b fun c h os => (match c with
    | [x] => outVs own l h (b + os.length) fun vs h os' => k (.one x :: vs) h (os ++ os')
    | _ => none)
  | .agg c :: l, h, b, k => outC own c h b fun c h os => outVs own l h (b + os.length) fun vs h os' => k (.agg c :: vs) h (os ++ os')
def resC (P : Program) (s : AS) : List ResultVar → (List V1 → OR) → OR
  | [], k => k []
  | .tmp t :: l, k => (match s.tmps.getD t anyV with
    | .v x => resC P s l fun vs => k (x :: vs)
    | _ => none)
  | .cell a t :: l, k => evLoad P t (s.tmps.getD a anyV) s.heap fun v => (match v with
    | .v x => resC P s l fun vs => k (x :: vs)
    | _ => none)
def finish (P : Program) (own : Bool) (fn : Func) (m : Nat) (s : AS) : OR :=
  cond (Nat.ble m s.heap.length) (resC P s fn.results.toList fun vs => outVs own vs s.heap m fun vs h os => outO m m h fun ps => some (vs, ps ++ os)) none

/-! What a call hands back, taken apart by what is expected. -/
def intC (a : IntKind) (l : List SV) (k : Int → List SV → OR) : OR := match l with | .int b n :: l => cond (ikEq a b) (k n l) none | _ => none
def boolC (l : List SV) (k : Bool → List SV → OR) : OR := match l with | .bool b :: l => k b l | _ => none
def strC (l : List SV) (k : ByteArray → List SV → OR) : OR := match l with | .str x :: l => k x l | _ => none
def tsC (l : List SV) (k : List T → List SV → OR) : OR := match l with | .fr (.ts x) :: l => k x l | _ => none
def isC (l : List SV) (k : List Int → List SV → OR) : OR := match l with | .fr (.is x) :: l => k x l | _ => none
def issC (l : List SV) (k : List (List Int) → List SV → OR) : OR := match l with | .fr (.iss x) :: l => k x l | _ => none
def ssC (l : List SV) (k : List ByteArray → List SV → OR) : OR := match l with | .fr (.ss x) :: l => k x l | _ => none
def bsC (l : List SV) (k : List UInt8 → List SV → OR) : OR := match l with | .fr (.bs x) :: l => k x l | _ => none
def anyC (l : List SV) (k : List SV → OR) : OR := match l with | _ :: l => k l | _ => none
def nilC (l : List SV) (k : OR) : OR := match l with | [] => k | _ => none
def slC (e : SK) (l : List SV) (k : SD → List SV → OR) : OR :=
  match e with
  | .t => tsC l fun x l => k (.ts x) l
  | .i => isC l fun x l => k (.is x) l
  | .ii => issC l fun x l => k (.iss x) l
  | .s => ssC l fun x l => k (.ss x) l
  | .b => bsC l fun x l => k (.bs x) l
def rInt (a : IntKind) (l : List V1) (k : Int → List V1 → OR) : OR := match l with | .one (.int b n) :: l => cond (ikEq a b) (k n l) none | _ => none
def rBool (l : List V1) (k : Bool → List V1 → OR) : OR := match l with | .one (.bool b) :: l => k b l | _ => none
def rStr (l : List V1) (k : ByteArray → List V1 → OR) : OR := match l with | .one (.str x) :: l => k x l | _ => none
def rTs (l : List V1) (k : List T → List V1 → OR) : OR := match l with | .one (.fr (.ts x)) :: l => k x l | _ => none
def rIs (l : List V1) (k : List Int → List V1 → OR) : OR := match l with | .one (.fr (.is x)) :: l => k x l | _ => none
def rIss (l : List V1) (k : List (List Int) → List V1 → OR) : OR := match l with | .one (.fr (.iss x)) :: l => k x l | _ => none
def rSs (l : List V1) (k : List ByteArray → List V1 → OR) : OR := match l with | .one (.fr (.ss x)) :: l => k x l | _ => none
def rBs (l : List V1) (k : List UInt8 → List V1 → OR) : OR := match l with | .one (.fr (.bs x)) :: l => k x l | _ => none
def rTerm (l : List V1) (k : T → List V1 → OR) : OR := match l with | .agg [.int .i64 a, .int .i64 b, .fr (.ts x)] :: l => k (.mk a b x) l | _ => none
def rOwnT (j : Nat) (l : List V1) (k : Int → Int → List V1 → OR) : OR := match l with | .agg [.int .i64 a, .int .i64 b, .own i 0] :: l => cond (Nat.beq i j) (k a b l) none | _ => none
def rOwn (j : Nat) (l : List V1) (k : List V1 → OR) : OR := match l with | .one (.own i 0) :: l => cond (Nat.beq i j) (k l) none | _ => none
def rPtr (j : Nat) (l : List V1) (k : List V1 → OR) : OR := match l with | .one (.ptr i 0) :: l => cond (Nat.beq i j) (k l) none | _ => none
def nilV (l : List V1) (k : OR) : OR := match l with | [] => k | _ => none
def rSl (e : SK) (l : List V1) (k : SD → List V1 → OR) : OR :=
  match e with
  | .t => rTs l fun x l => k (.ts x) l
  | .i => rIs l fun x l => k (.is x) l
  | .ii => rIss l fun x l => k (.iss x) l
  | .s => rSs l fun x l => k (.ss x) l
  | .b => rBs l fun x l => k (.bs x) l
def objC (o : List AObj) (k : List SV → List AObj → OR) : OR := match o with | .cells l :: o => k l o | _ => none
def dropC (o : List AObj) (k : List AObj → OR) : OR := match o with | _ :: o => k o | _ => none
def arrTsC (e : TypeId) (o : List AObj) (k : List T → List AObj → OR) : OR := match o with | .arr e' (.ts x) 0 false :: o => cond (Nat.beq e e') (k x o) none | _ => none
def arrIsC (e : TypeId) (o : List AObj) (k : List Int → List AObj → OR) : OR := match o with | .arr e' (.is x) 0 false :: o => cond (Nat.beq e e') (k x o) none | _ => none
def arrIssC (e : TypeId) (o : List AObj) (k : List (List Int) → List AObj → OR) : OR := match o with | .arr e' (.iss x) 0 false :: o => cond (Nat.beq e e') (k x o) none | _ => none
def arrSsC (e : TypeId) (o : List AObj) (k : List ByteArray → List AObj → OR) : OR := match o with | .arr e' (.ss x) 0 false :: o => cond (Nat.beq e e') (k x o) none | _ => none
def arrBsC (e : TypeId) (o : List AObj) (k : List UInt8 → List AObj → OR) : OR := match o with | .arr e' (.bs x) 0 false :: o => cond (Nat.beq e e') (k x o) none | _ => none
def arrC (e : TypeId × SK) (o : List AObj) (k : SD → List AObj → OR) : OR :=
  match e.2 with
  | .t => arrTsC e.1 o fun x o => k (.ts x) o
  | .i => arrIsC e.1 o fun x o => k (.is x) o
  | .ii => arrIssC e.1 o fun x o => k (.iss x) o
  | .s => arrSsC e.1 o fun x o => k (.ss x) o
  | .b => arrBsC e.1 o fun x o => k (.bs x) o
def nilO (o : List AObj) (k : OR) : OR := match o with | [] => k | _ => none
/-- One cell like another, seen before a call. -/
def likeC (x : SV) (l : List SV) (k : SV → List SV → OR) : OR :=
  match x with
  | .int a _ => intC a l fun n l => k (.int a n) l
  | .bool _ => boolC l fun n l => k (.bool n) l
  | .str _ => strC l fun n l => k (.str n) l
  | .fr d => slC d.kind l fun d l => k (.fr d) l
  | .emp (some e) => slC e.2 l fun d l => k (.fr d) l
  | _ => anyC l fun l => k .any l
def likeL : List SV → List SV → (List SV → OR) → OR
  | [], l, k => nilC l (k [])
  | x :: xs, l, k => likeC x l fun y l => likeL xs l fun ys => k (y :: ys)
/-- The objects that were handed in come back. -/
def backO : List AObj → List AObj → (List AObj → List AObj → OR) → OR
  | [], o, k => k [] o
  | .cells x :: xs, o, k => objC o fun l o => likeL x l fun y => backO xs o fun ys o => k (.cells y :: ys) o
  | _ :: xs, o, k => dropC o fun o => backO xs o fun ys o => k (.dead :: ys) o
/-- A value of a type, out of what is handed back. c: the callee's number for the next new object; b: the number that it takes here. -/
def valT (P : Program) (own : Bool) (c b : Nat) (t : TypeId) (l : List V1) (o : List AObj) (k : V1 → List AObj → List V1 → List AObj → OR) : OR :=
  match P.underlying t with
  | some (.int a) => rInt a l fun n l => k (.one (.int a n)) [] l o
  | some .bool => rBool l fun n l => k (.one (.bool n)) [] l o
  | some .string => rStr l fun n l => k (.one (.str n)) [] l o
  | some (.slice _) => (match kindS P t with
    | some e => cond own (rOwn c l fun l => arrC e o fun d o => k (.one (.own b 0)) [.arr e.1 d 0 false] l o) (rSl e.2 l fun d l => k (.one (.fr d)) [] l o)
    | none => none)
  | some (.struct _) => (match kindE P t with
    | some .t => cond own (rOwnT c l fun x y l => arrTsC t o fun d o => k (.agg [.int .i64 x, .int .i64 y, .own b 0]) [.arr t (.ts d) 0 false] l o)
        (rTerm l fun x l => k (.agg [.int .i64 x.k, .int .i64 x.n, .fr (.ts x.kids)]) [] l o)
    | _ => none)
  | some (.pointer e) => rPtr c l fun l => objC o fun y o => (match zeroS P e with
    | some z => likeL z y fun y => k (.one (.ptr b 0)) [.cells y] l o
    | none => none)
  | _ => none
def valsT (P : Program) (own : Bool) : List TypeId → Nat → Nat → List V1 → List AObj → (List V1 → List AObj → OR) → OR
  | [], _, _, l, o, k => nilV l (nilO o (k [] []))
  | t :: ts, c, b, l, o, k => valT P own c b t l o fun v n l o => valsT P own ts (c + n.length) (b + n.length) l o fun vs ns => k (v :: vs) (n ++ ns)

/-! Calls. -/
/-- What is said of functions: which hand back slices of their own; which is bytealg.IndexByteString. -/
structure Dec where
  own : FuncId → Bool
  ib : FuncId → Bool
abbrev Callee := FuncId → List V1 → List AObj → OR
def tupV : List V1 → AV
  | [x] => .v x
  | l => .tup l
/-- The objects that were handed in, under their old numbers. -/
def backH : List Nat → List AObj → List AObj → List AObj
  | j :: js, o :: os, h => backH js os (h.set j o)
  | _, _, h => h
/-- New objects, from number b on. -/
def putO (b : Nat) (os h : List AObj) : List AObj := backH (List.range' b os.length) os h
/-- How many new objects values of types bring. -/
def news (P : Program) (own : Bool) : List TypeId → Nat
  | [] => 0
  | t :: ts => (match P.underlying t with
    | some (.pointer _) => 1
    | some (.slice _) => cond own 1 0
    | some (.struct _) => cond own 1 0
    | _ => 0) + news P own ts
def sealVs (h : List AObj) : List V1 → (List V1 → List AObj → OR) → OR
  | [], k => k [] h
  | .one .any :: l, k => sealVs h l fun vs h => k (.one .any :: vs) h
  | .one x :: l, k => sealS h x fun x h => sealVs h l fun vs h => k (.one x :: vs) h
  | .agg c :: l, k => sealL h c fun c h => sealVs h l fun vs h => k (.agg c :: vs) h
def v1L : List AV → Option (List V1)
  | [] => some []
  | .v x :: l => (v1L l).map (x :: ·)
  | .tup _ :: _ => none
def nodupB : List Nat → Bool
  | [] => true
  | j :: l => !hasN j l && nodupB l
/-- Numbers of objects, each once. -/
def okJs (js : List Nat) (n : Nat) : Bool := nodupB js && js.all fun j => Nat.blt j n
/-- rm: how many new objects there is room for. -/
def callGo (P : Program) (F : Callee) (ow : Bool) (f : FuncId) (tys : List TypeId) (sl rm : Nat) (k : AV → List AObj → OR) (args : List V1) (h : List AObj) : OR :=
  let js := reach h 64 (args.flatMap refsV) []
  cond (okJs js sl) (let hh := selH js h
    (F f (args.map (renV js)) hh).bind fun r => backO hh r.2 fun os o => valsT P ow tys js.length sl r.1 o fun vs ns =>
      cond (Nat.ble ns.length rm) (k (tupV vs) (putO sl ns (backH js os h))) none) none
def callK (P : Program) (F : Callee) (D : Dec) (f : FuncId) (args : List V1) (h : List AObj) (sl rm : Nat) (k : AV → List AObj → OR) : OR :=
  match P.funcs[f]? with
  | none => none
  | some fn => cond (callB P f) (cond (D.own f) (callGo P F true f fn.resultTypes.toList sl rm k args h) (sealVs h args (callGo P F false f fn.resultTypes.toList sl rm k))) none
def evBuiltin (P : Program) (b : Builtin) (args : List AV) (tys : List TypeId) (h : List AObj) (sl : Nat) (k : AV → List AObj → OR) : OR :=
  match b, args, tys with
  | .len, [x], [t] => evLen P t x h fun v => k (.v (.one v)) h
  | .append, [x, y], [t, t'] => cond (Nat.beq t t') (evAppend P t x y h sl fun v h => k (.v (.one v)) h) none
  | .max, [x, y], _ => evMax true x y fun v => k (.v (.one v)) h
  | .min, [x, y], _ => evMax false x y fun v => k (.v (.one v)) h
  | _, _, _ => none
def natIx : Nat → List (Nat × Operand) → Bool
  | _, [] => true
  | n, p :: l => Nat.beq p.1 n && natIx (n + 1) l
def placesT (P : Program) (t : TypeId) : Option (List (Nat × Nat)) := match P.underlying t with
  | some (.struct fs) => fs.toList.mapM fun f => (P.info? f.type).map fun i => (f.offset, i.size)
  | _ => none
/-- The cells of a struct, its parts put in. -/
def buildS (pl : List (Nat × Nat)) : List SV → List (Nat × AV) → Option (List SV)
  | z, [] => some z
  | z, p :: l => pl[p.1]?.bind fun o => p.2.cs.bind fun c => cond (Nat.beq c.length o.2 && Nat.ble (o.1 + o.2) z.length) (buildS pl (putS z o.1 c) l) none
def evBuild (P : Program) (t : TypeId) (ps : List (Nat × AV)) (k : AV → OR) : OR :=
  (placesT P t).bind fun pl => (zeroS P t).bind fun z => (buildS pl z ps).bind fun c => k (.v (.agg c))
/-- How many new objects an operation may bring. -/
def nObj (P : Program) (D : Dec) (o : Oper) : Nat :=
  match o.op with
  | .alloc _ | .box .. | .buildSlice .. | .makeSlice .. => 1
  | .call c => (match c.callee with
    | .builtin .append => 1
    | .value (.func f) => (match P.funcs[f]? with | some fn => news P (D.own f) fn.resultTypes.toList | none => 0)
    | _ => 0)
  | _ => 0

/-- One operation. sl: the number that a new object takes. -/
def evOp (P : Program) (F : Callee) (D : Dec) (o : Oper) (ρ : Operand → AV) (h : List AObj) (sl : Nat) (k : AV → List AObj → OR) : OR :=
  match o.op with
  | .move x => k (retype P o.type (ρ x)) h
  | .assign x => k (retype P o.type (ρ x)) h
  | .pick c a b => (match ρ c with | .v (.one (.bool t)) => cond t (k (ρ a) h) (k (ρ b) h) | _ => none)
  | .alloc e => (zeroS P e).bind fun z => k (.v (.one (.ptr sl 0))) (h.set sl (.cells z))
  | .box e x => (ρ x).cs.bind fun c => k (.v (.one (.ptr sl 0))) (h.set sl (.cells c))
  | .build t ps => evBuild P t (ps.toList.map fun p => (p.1, ρ p.2)) fun v => k v h
  | .buildSlice t n ps => (match kindS P t with
    | some e => cond (natIx 0 ps.toList && (Nat.beq ps.toList.length n && Nat.ble n 4194304))
      ((csL (ps.toList.map fun p => ρ p.2)).bind fun cs => elemsOf e.2 h cs e.2.nil fun d h => k (.v (.one (.own sl 0))) (h.set sl (.arr e.1 d 0 false))) none
    | none => none)
  | .load t x => evLoad P t (ρ x) h fun v => k v h
  | .store t x y => evStore P t (ρ x) (ρ y) h fun h => k anyV h
  | .nilCheck x => evNil h (ρ x) fun v => k (.v (.one v)) h
  | .binOp op t x y _ => evBin P op t (ρ x) (ρ y) fun v => k (.v (.one v)) h
  | .unOp op t x => evUn op (ρ x) fun v => k (.v (.one v)) h
  | .convert t t' x => evConv P t t' (ρ x) h fun v => k (.v (.one v)) h
  | .makeFunc fn first caps => (match fn, first.toList with
    | .func f, [] => (capsOf h (caps.toList.map ρ)).bind fun l => k (.v (.one (.fn f l))) h
    | _, _ => none)
  | .makeSlice t x y => evMake P t (ρ x) (ρ y) h sl fun v h => k (.v (.one v)) h
  | .slice t x lo hi mx => evSlice P t (ρ x) (lo.map ρ) (hi.map ρ) (mx.map ρ) h fun v h => k (.v (.one v)) h
  | .fieldAddr t x i => (fieldOff P t i).bind fun d => evField h d (ρ x) fun v => k (.v (.one v)) h
  | .indexAddr t x i => evIndexAddr P t (ρ x) (ρ i) h fun v => k (.v (.one v)) h
  | .index t x i => evIndex P t (ρ x) (ρ i) fun v => k (.v (.one v)) h
  | .extract x i => evExtract (ρ x) i fun v => k v h
  | .call c => (match c.callee with
    | .builtin b => evBuiltin P b (c.args.toList.map ρ) c.argTypes.toList h sl k
    | .value (.func f) => cond (D.ib f) (match c.args.toList.map ρ with
        | [.v (.one (.str a)), .v (.one (.int .u8 n))] => cond (decide (0 ≤ n) && decide (n ≤ 255)) (k (.v (.one (.int .i64 (idxB a (UInt8.ofNat n.toNat))))) h) none
        | _ => none) ((v1L (c.args.toList.map ρ)).bind fun l => callK P F D f l h sl (nObj P D o) k)
    | .value x => (match ρ x with
      | .v (.one (.fn f l)) => (v1L (c.args.toList.map ρ)).bind fun vs => callK P F D f (vs ++ l.map fun j => .one (.ptr j 0)) h sl (nObj P D o) k
      | _ => none)
    | _ => none)
  | _ => none
/-! Regions. -/
def boolV (b : Bool) : AV := .v (.one (.bool b))
/-- What an operation that was not carried out leaves. -/
def undV : AV := .tup []
/-- Is an operation carried out? In each way what its guard yielded is known. -/
def wantK (ops : List Oper) (s : AS) (g : Option (Nat × Bool)) (yes no : AS → OR) : OR :=
  match g with
  | none => yes s
  | some (j, want) => (match ops[j]?.bind (·.dst) with
    | some d => (match s.tmps.getD d anyV with
      | .v (.one (.bool b)) => cond b (cond want (yes (s.put (some d) (boolV true))) (no (s.put (some d) (boolV true))))
          (cond want (no (s.put (some d) (boolV false))) (yes (s.put (some d) (boolV false))))
      | .tup [] => no s
      | _ => none)
    | none => none)
/-- What two ways that are both open come to, if to the same. -/
noncomputable def same (a b : OR) : OR := by classical exact if a = b then a else none
theorem same_self (a : OR) : same a a = a := by unfold same; exact if_pos rfl
theorem same_out {a b : OR} {r : List V1 × List AObj} (h : same a b = some r) : a = some r ∧ b = some r := by
  unfold same at h
  split at h
  · rename_i e; subst e; exact ⟨h, h⟩
  · cases h
/-- Is a slice asked whether it is nil? Its length. -/
def nilQ (P : Program) (o : Oper) (ρ : Operand → AV) : Option Nat :=
  match o.op with
  | .binOp .eql t x (.const (.slice none 0 0)) _ => (match kindS P t, ρ x with
    | some _, .v (.one (.fr d)) => some d.len
    | _, _ => none)
  | _ => none
/-- A region in the order of its text. -/
noncomputable def evOps (P : Program) (F : Callee) (D : Dec) (ops : List Oper) : List Oper → Nat → AS → (AS → OR) → OR
  | [], _, s, k => k s
  | o :: l, b, s, k => wantK ops s o.guard
      (fun s => match nilQ P o s.ev with
        | some m => cond (Nat.beq m 0)
            (same (evOps P F D ops l (b + nObj P D o) (s.put o.dst (boolV true)) k) (evOps P F D ops l (b + nObj P D o) (s.put o.dst (boolV false)) k))
            (evOps P F D ops l (b + nObj P D o) (s.put o.dst (boolV false)) k)
        | none => evOp P F D o s.ev s.heap b fun v h => evOps P F D ops l (b + nObj P D o) ({ s with heap := h }.put o.dst v) k)
      (fun s => evOps P F D ops l (b + nObj P D o) (s.put o.dst undV) k)
def room (P : Program) (D : Dec) : List Oper → Nat
  | [] => 0
  | o :: l => nObj P D o + room P D l
def grow (n : Nat) (s : AS) : AS := { s with heap := s.heap ++ List.replicate n .dead }
/-- What an operation has to do with: a memory of these objects alone. -/
def onlyH (js : List Nat) : Nat → List AObj → List AObj
  | _, [] => []
  | i, o :: h => cond (hasN i js) o .dead :: onlyH js (i + 1) h
/-- The memory h, but at the numbers js as in h'. -/
def mixH (js : List Nat) : Nat → List AObj → List AObj → List AObj
  | i, o :: h, o' :: h' => cond (hasN i js) o' o :: mixH js (i + 1) h h'
  | _, h, _ => h
/-- An operation that was carried out: its number; what it looked at; what it may have turned. -/
structure Done where
  i : Nat
  fp : List Nat
  wr : List Nat
def meets (a b : List Nat) : Bool := a.any fun x => hasN x b
/-- Which operations stand ahead of the i-th: its list, from the lists of the ones ahead. -/
def ahead (acc : List (List Nat)) (o : Oper) : List Nat :=
  o.after.toList.flatMap fun e => cond (Region.binds .any e) (e.on :: acc.getD e.on []) []
def ancL : List Oper → List (List Nat) → List (List Nat)
  | [], acc => acc
  | o :: l, acc => ancL l (acc ++ [ahead acc o])
/-- The numbers that an operation looks at: its operands and its guard. -/
def looksT (ops : List Oper) (o : Oper) : List Nat :=
  (o.op.operands.toList.flatMap fun x => match x with | .tmp t => [t] | _ => []) ++
  (match o.guard with
   | some (g, _) => (match ops[g]?.bind (·.dst) with | some d => [d] | none => [])
   | none => [])
def dstL (o : Oper) : List Nat := match o.dst with | some d => [d] | none => []
def apartT (ops : List Oper) (x y : Oper) : Bool := !meets (dstL x) (looksT ops y) && (!meets (dstL x) (dstL y) && !meets (dstL y) (looksT ops x))
def plainB (o : Oper) : Bool := match o.op with | .select .. => false | _ => true
def edgesB (an : List (List Nat)) (i : Nat) (o : Oper) : Bool :=
  (o.after.toList.all fun e => cond (Region.binds .any e) (Nat.blt e.on i) true) &&
  (an.getD i []).all fun a => o.after.toList.any fun e => Region.binds .any e && (Nat.beq a e.on || hasN a (an.getD e.on []))
def earlierB (ops : List Oper) (anc : List Nat) (i : Nat) (o : Oper) : List Oper → Nat → Bool
  | [], _ => true
  | x :: l, k => cond (Nat.blt k i) ((hasN k anc || apartT ops x o) && earlierB ops anc i o l (k + 1)) true
/-- May the operations be taken in any order, as far as their numbers go? -/
def drawB (ops : List Oper) (an : List (List Nat)) : List Oper → Nat → Bool
  | [], _ => true
  | o :: l, i => plainB o && (edgesB an i o && (earlierB ops (an.getD i []) i o ops 0 && drawB ops an l (i + 1)))
def okDone (anc : List Nat) (fp wr : List Nat) (d : Done) : Bool := hasN d.i anc || (!meets d.wr fp && !meets wr d.fp)
def writes (o : Oper) (fp : List Nat) (b n : Nat) : List Nat :=
  (match o.op with
  | .store .. => fp
  | .buildSlice .. => fp
  | .slice .. => fp
  | .call c => (match c.callee with | .builtin .append => fp | .builtin _ => [] | _ => fp)
  | _ => []) ++ List.range' b n
/-- Do the objects fp speak of no others? -/
def closB (h : List AObj) (fp rf : List Nat) : Bool := rf.all (hasN · fp) && fp.all fun j => (refsO h[j]?).all (hasN · fp)
def refsOf (s : AS) (o : Oper) : List Nat := o.op.operands.toList.flatMap fun x => refsA (s.ev x)
/-- Operations that look at no memory. -/
def lightB (o : Oper) : Bool := match o.op with
  | .move _ => true
  | .assign _ => true
  | .pick .. => true
  | .binOp .. => true
  | .unOp .. => true
  | .build .. => true
  | .index .. => true
  | .extract .. => true
  | _ => false
def evDr (P : Program) (F : Callee) (D : Dec) (ops : List Oper) (an : List (List Nat)) : List Oper → Nat → List Done → Nat → AS → (AS → OR) → OR
  | [], _, _, _, s, k => k s
  | o :: l, i, ds, b, s, k =>
    wantK ops s o.guard
      (fun s => cond (lightB o) (evOp P F D o s.ev [] 0 fun v _ => cond ((refsA v).all (hasN · (refsOf s o))) (evDr P F D ops an l (i + 1) ds (b + nObj P D o) (s.put o.dst v) k) none)
       (let n := nObj P D o
       let rf := refsOf s o
       let fp0 := reach s.heap 64 rf []
       let fp := fp0 ++ List.range' b n
       let wr := writes o fp b n
       cond (closB s.heap fp rf && (fp0.all (Nat.blt · b) && ds.all (okDone (an.getD i []) fp wr))) (evOp P F D o s.ev (onlyH fp 0 s.heap) b fun v h =>
         cond (closB h fp (refsA v)) (evDr P F D ops an l (i + 1) (⟨i, fp, wr⟩ :: ds) (b + n) ({ s with heap := mixH wr 0 s.heap h }.put o.dst v) k) none) none))
      (fun s => evDr P F D ops an l (i + 1) ds (b + nObj P D o) (s.put o.dst undV) k)

/-! Loops: what is known ahead of a round, in one form. -/
def maskT (live : List Nat) : Nat → List AV → List AV
  | _, [] => []
  | i, v :: l => cond (hasN i live) v anyV :: maskT live (i + 1) l
def ownS (b : Nat) : SV → SV × List AObj
  | .emp (some e) => (.own b 0, [.arr e.1 e.2.nil 0 false])
  | x => (x, [])
def ownL (b : Nat) : List SV → List SV × List AObj
  | [] => ([], [])
  | x :: l => let (x, o) := ownS b x; let (l, o') := ownL (b + o.length) l; (x :: l, o ++ o')
def ownA (b : Nat) : AV → AV × List AObj
  | .v (.one x) => let (x, o) := ownS b x; (.v (.one x), o)
  | .v (.agg l) => let (l, o) := ownL b l; (.v (.agg l), o)
  | x => (x, [])
def ownTs (b : Nat) : List AV → List AV × List AObj
  | [] => ([], [])
  | x :: l => let (x, o) := ownA b x; let (l, o') := ownTs (b + o.length) l; (x :: l, o ++ o')
def ownH (b : Nat) : List AObj → List AObj × List AObj
  | [] => ([], [])
  | .cells c :: l => let (c, o) := ownL b c; let (l, o') := ownH (b + o.length) l; (.cells c :: l, o ++ o')
  | x :: l => let (l, o) := ownH b l; (x :: l, o)
def ver0S (h : List AObj) : SV → SV
  | .own j v => (match h[j]? with
    | some (.arr _ _ ver _) => cond (Nat.beq v ver) (.own j 0) .any
    | _ => .any)
  | .op .. => .any
  | x => x
def ver0A (h : List AObj) : AV → AV
  | .v (.one x) => .v (.one (ver0S h x))
  | .v (.agg l) => .v (.agg (l.map (ver0S h)))
  | .tup l => anyV
def ver0O (h : List AObj) : AObj → AObj
  | .cells l => .cells (l.map (ver0S h))
  | .arr e d _ z => .arr e d 0 z
  | .dead => .dead
def sameL : List Nat → List Nat → Bool
  | [], [] => true
  | a :: l, b :: m => Nat.beq a b && sameL l m
  | _, _ => false
/-- The objects of the call's own that are still spoken of, numbered anew; m were handed in. -/
def gc (m : Nat) (s : AS) : AS :=
  let js := reach s.heap 64 (((List.range m).flatMap fun j => refsO s.heap[j]?) ++ s.tmps.flatMap refsA) (List.range m)
  cond (okJs js s.heap.length && sameL (js.take m) (List.range m)) ⟨s.tmps.map (renA js), selH js s.heap⟩ s
def ownAll (s : AS) : AS :=
  let (t, o) := ownTs s.heap.length s.tmps
  let (h, o') := ownH (s.heap.length + o.length) s.heap
  ⟨t, h ++ (o ++ o')⟩
def ver0 (s : AS) : AS := ⟨s.tmps.map (ver0A s.heap), s.heap.map (ver0O s.heap)⟩
def atHead (m : Nat) (live : Option (List Nat)) (s : AS) : AS :=
  match live with
  | some live => ver0 (gc m (ownAll (gc m { s with tmps := maskT live 0 s.tmps })))
  | none => s

/-- The slices in local variables are frozen, from the j-th object on. -/
def sealH : Nat → Nat → List AObj → (List AObj → OR) → OR
  | 0, _, h, k => k h
  | n + 1, j, h, k => (match h[j]? with
    | some (.cells c) => sealL h c fun c h => sealH n (j + 1) (h.set j (.cells c)) k
    | _ => sealH n (j + 1) h k)

/-! Code. -/
inductive Ex | normal | exit (id : Nat) | ret
abbrev Kont := Ex → AS → OR
def evL (body : AS → Kont → OR) (nm : AS → AS) : Nat → AS → Kont → OR
  | 0, _, _ => none
  | n + 1, s, k => body s fun e s => match e with
    | .normal => evL body nm n (nm s) k
    | e => k e s
structure Env where
  P : Program
  F : Callee
  D : Dec
  /-- fuel for loops -/
  n : Nat
  /-- how many objects were handed in -/
  m : Nat
  live : Nat → Option (List Nat)
def thenK (E : Env) (evb : AS → Kont → OR) (k : Kont) : Kont := fun e s => match e with
  | .normal => evb s k
  | e => k e s
def blockK (id : Nat) (k : Kont) : Kont := fun e s => match e with
  | .exit i => cond (Nat.beq i id) (k .normal s) (k (.exit i) s)
  | e => k e s
/-- A condition is known from now on. -/
def AS.know (s : AS) (c : Operand) (b : Bool) : AS :=
  match c with
  | .tmp t => s.put (some t) (boolV b)
  | _ => s
/-- A region that draws its order. -/
def drawC (E : Env) (ops : List Oper) (s : AS) (k : Kont) : OR :=
  cond (drawB ops (ancL ops []) ops 0) (evDr E.P E.F E.D ops (ancL ops []) ops 0 [] s.heap.length (grow (room E.P E.D ops) s) fun s => k .normal s) none
noncomputable def evC (E : Env) : Nat → Code → AS → Kont → OR
  | _, .skip, s, k => k .normal s
  | _, .region id ops draw, s, k => cond draw
      (match E.live (1000000 + id) with
        | some _ => sealH s.heap.length 0 s.heap fun h => drawC E ops.toList ⟨s.tmps, h⟩ k
        | none => drawC E ops.toList s k)
      (evOps E.P E.F E.D ops.toList ops.toList s.heap.length (grow (room E.P E.D ops.toList) s) fun s => k .normal s)
  | i, .seq a b, s, k => evC E i a s (thenK E (evC E i b) k)
  | i, .cond c a b, s, k => (match s.ev c with
    | .v (.one (.bool t)) => cond t (evC E i a (s.know c true) k) (evC E i b (s.know c false) k)
    | _ => none)
  | _, .block id b, s, k => evC E id b s (blockK id k)
  | i, .loop b, s, k => evL (evC E i b) (atHead E.m (E.live i)) E.n (atHead E.m (E.live i) s) k
  | _, .exit id, s, k => k (.exit id) s
  | _, .ret, s, k => k .ret s
  | _, _, _, _ => none
def finK (P : Program) (own : Bool) (fn : Func) (m : Nat) : Kont := fun e s => match e with
  | .normal => finish P own fn m s
  | .ret => finish P own fn m s
  | .exit _ => none
/-- What is said of the functions of a program beside their code. -/
structure Say where
  D : Dec
  live : FuncId → Nat → Option (List Nat)
  prim : FuncId → Option (List V1 → OR)
noncomputable def evF (P : Program) (S : Say) : Nat → Callee
  | 0, _, _, _ => none
  | n + 1, f, args, h => match S.prim f with
    | some g => (match h with | [] => g args | _ => none)
    | none => (match P.funcs[f]? with
      | some fn => (match fn.body with
        | some c => evC ⟨P, evF P S n, S.D, n, h.length, S.live f⟩ 0 c ⟨args.map .v ++ List.replicate (fn.ntmps - args.length) anyV, h⟩ (finK P (S.D.own f) fn h.length)
        | none => none)
      | none => none)
end Go.Ab
namespace Go.Ab
open Go Go.Dk

def All2 {α β : Type} (R : α → β → Prop) (l : List α) (m : List β) : Prop := l.length = m.length ∧ ∀ (i : Nat) a b, l[i]? = some a → m[i]? = some b → R a b
section
variable {α β γ : Type} {R S : α → β → Prop}
theorem All2.nil : All2 R [] [] := ⟨rfl, fun i a b h => by simp at h⟩
theorem All2.cons {a : α} {b : β} {l : List α} {m : List β} (h : R a b) (k : All2 R l m) : All2 R (a :: l) (b :: m) := by
  refine ⟨by simp [k.1], fun i x y hx hy => ?_⟩
  cases i with
  | zero => simp at hx hy; subst hx hy; exact h
  | succ i => simp at hx hy; exact k.2 i x y hx hy
theorem All2.cons_inv {a : α} {l : List α} {m : List β} (h : All2 R (a :: l) m) : ∃ b m', m = b :: m' ∧ R a b ∧ All2 R l m' := by
  cases m with
  | nil => simp [All2] at h
  | cons b m => exact ⟨b, m, rfl, h.2 0 a b rfl rfl, by simpa using h.1, fun i x y hx hy => h.2 (i + 1) x y (by simpa using hx) (by simpa using hy)⟩
theorem All2.nil_inv {m : List β} (h : All2 R [] m) : m = [] := by cases m with | nil => rfl | cons b m => simp [All2] at h
theorem All2.mono {l : List α} {m : List β} (h : All2 R l m) (hm : ∀ a b, a ∈ l → R a b → S a b) : All2 S l m :=
  ⟨h.1, fun i a b ha hb => hm a b (List.mem_of_getElem? ha) (h.2 i a b ha hb)⟩
theorem All2.get {l : List α} {m : List β} (h : All2 R l m) {i : Nat} {a : α} (ha : l[i]? = some a) : ∃ b, m[i]? = some b ∧ R a b := by
  have hi : i < l.length := by
    rcases Nat.lt_or_ge i l.length with h' | h'
    · exact h'
    · rw [List.getElem?_eq_none h'] at ha; cases ha
  have hb : m[i]? = some (m[i]'(by rw [← h.1]; exact hi)) := List.getElem?_eq_getElem _
  exact ⟨_, hb, h.2 i a _ ha hb⟩
theorem All2.get' {l : List α} {m : List β} (h : All2 R l m) {i : Nat} {b : β} (hb : m[i]? = some b) : ∃ a, l[i]? = some a ∧ R a b := by
  have hi : i < m.length := by
    rcases Nat.lt_or_ge i m.length with h' | h'
    · exact h'
    · rw [List.getElem?_eq_none h'] at hb; cases hb
  have ha : l[i]? = some (l[i]'(by rw [h.1]; exact hi)) := List.getElem?_eq_getElem _
  exact ⟨_, ha, h.2 i _ b ha hb⟩
theorem All2.set {l : List α} {m : List β} (h : All2 R l m) (i : Nat) {a : α} {b : β} (hab : R a b) : All2 R (l.set i a) (m.set i b) := by
  refine ⟨by simp [h.1], fun j x y hx hy => ?_⟩
  by_cases hij : i = j
  · subst hij
    rw [List.getElem?_set_self'] at hx hy
    cases hl : l[i]? with
    | none => simp [hl] at hx
    | some x' =>
      obtain ⟨y', hy', _⟩ := h.get hl
      simp [hl, hy'] at hx hy
      subst hx hy; exact hab
  · rw [List.getElem?_set_ne hij] at hx hy
    exact h.2 j x y hx hy
theorem All2.append {l l' : List α} {m m' : List β} (h : All2 R l m) (k : All2 R l' m') : All2 R (l ++ l') (m ++ m') := by
  refine ⟨by simp [h.1, k.1], fun i x y hx hy => ?_⟩
  rcases Nat.lt_or_ge i l.length with hi | hi
  · rw [List.getElem?_append_left hi] at hx
    rw [List.getElem?_append_left (by rw [← h.1]; exact hi)] at hy
    exact h.2 i x y hx hy
  · rw [List.getElem?_append_right hi] at hx
    rw [List.getElem?_append_right (by rw [← h.1]; exact hi), ← h.1] at hy
    exact k.2 _ x y hx hy
theorem All2.take {l : List α} {m : List β} (h : All2 R l m) (n : Nat) : All2 R (l.take n) (m.take n) := by
  refine ⟨by simp [h.1], fun i x y hx hy => ?_⟩
  rw [List.getElem?_take] at hx hy
  split at hx
  · rename_i hi; rw [if_pos hi] at hy; exact h.2 i x y hx hy
  · cases hx
theorem All2.drop {l : List α} {m : List β} (h : All2 R l m) (n : Nat) : All2 R (l.drop n) (m.drop n) := by
  refine ⟨by simp [h.1], fun i x y hx hy => ?_⟩
  rw [List.getElem?_drop] at hx hy
  exact h.2 _ x y hx hy
theorem All2.append_inv {l l' : List α} {m : List β} (h : All2 R (l ++ l') m) : ∃ m1 m2, m = m1 ++ m2 ∧ All2 R l m1 ∧ All2 R l' m2 := by
  refine ⟨m.take l.length, m.drop l.length, (List.take_append_drop _ _).symm, ?_, ?_⟩
  · have := h.take l.length; simpa using this
  · have := h.drop l.length; simpa using this
theorem All2.replicate {a : α} {b : β} (h : R a b) (n : Nat) : All2 R (List.replicate n a) (List.replicate n b) := by
  refine ⟨by simp, fun i x y hx hy => ?_⟩
  have h1 := List.mem_of_getElem? hx
  have h2 := List.mem_of_getElem? hy
  rw [(List.mem_replicate.1 h1).2, (List.mem_replicate.1 h2).2]; exact h
end

/-- What an object is in memory. -/
inductive GO | cells (b : Nat) (T : TypeId) (vs : List Value) | arr (ver : Nat) (v : Value) (sz : Nat) (xs : List Value) | gone | fresh

def CellsAt (w : World) (b off : Nat) (xs : List Value) : Prop := ∀ (i : Nat) x, xs[i]? = some x → w.cell? ⟨b, off + i, none⟩ = some x
def SlI (Z : Zone) (w : World) (l : List Int) (x : Value) : Prop := ∃ a cap, x = .slice a l.length cap ∧ l.length ≤ cap ∧ l.length ≤ maxLen ∧
  (l = [] ∨ ∃ b off, a = some ⟨b, off, none⟩ ∧ Z b ∧ CellsAt w b off (l.map (.int .i64 ·)))
def ElemsR (Z : Zone) (w : World) : SD → List Value → Prop
  | .ts l, xs => ∃ hs : List HT, hs.map HT.er = l ∧ xs = flatT hs ∧ ∀ h ∈ hs, Rd Z w h
  | .is l, xs => xs = l.map (.int .i64 ·)
  | .iss l, xs => All2 (SlI Z w) l xs
  | .ss l, xs => xs = l.map .string
  | .bs l, xs => xs = l.map fun c => .int .u8 (c.toNat : Int)
def SlR (Z : Zone) (w : World) (d : SD) (x : Value) : Prop := ∃ a cap xs, x = .slice a d.len cap ∧ d.len ≤ cap ∧ d.len ≤ maxLen ∧ ElemsR Z w d xs ∧
  (xs = [] ∨ ∃ b off, a = some ⟨b, off, none⟩ ∧ Z b ∧ CellsAt w b off xs)
def CellsR (Z : Zone) (w : World) : SE → List Value → Prop
  | .t x, cs => ∃ h : HT, h.er = x ∧ Rd Z w h ∧ cs = [.int .i64 h.k, .int .i64 h.n, h.sl]
  | .i n, cs => cs = [.int .i64 n]
  | .ii l, cs => ∃ x, cs = [x] ∧ SlI Z w l x
  | .s x, cs => cs = [.string x]
  | .b c, cs => cs = [.int .u8 (c.toNat : Int)]
def EpR (Z : Zone) (w : World) (e : SE) (o : Nat) (x : Value) : Prop := ∃ b off cs, x = .pointer (some ⟨b, off + o, none⟩) ∧ Z b ∧ CellsAt w b off cs ∧ CellsR Z w e cs
def pv (b o : Nat) : Value := .pointer (some ⟨b, o, none⟩)
def RS (G : List GO) (Z : Zone) (w : World) : SV → Value → Prop
  | .int k n, x => x = .int k n
  | .bool b, x => x = .bool b
  | .str s, x => x = .string s
  | .emp _, x => ∃ a, x = .slice a 0 0
  | .fr d, x => SlR Z w d x
  | .own j v, x => G[j]? = some .gone ∨ ∃ ver val sz xs, G[j]? = some (.arr ver val sz xs) ∧ v ≤ ver ∧ (v = ver → x = val)
  | .ptr j o, x => G[j]? = some .gone ∨ ∃ b T vs, G[j]? = some (.cells b T vs) ∧ x = pv b o
  | .ep e o, x => EpR Z w e o x
  | .op j v i o, x => G[j]? = some .gone ∨ ∃ ver val sz xs, G[j]? = some (.arr ver val sz xs) ∧ v ≤ ver ∧ (v = ver → ∃ b off n c, val = .slice (some ⟨b, off, none⟩) n c ∧ i < n ∧ x = pv b (off + i * sz + o))
  | .fn f l, x => ∃ bs : List Nat, x = .func (.func f) #[] (bs.map fun b => pv b 0).toArray ∧ All2 (fun j b => G[j]? = some .gone ∨ ∃ T vs, G[j]? = some (.cells b T vs)) l bs
  | .nilp, x => x = .pointer none
  | .any, _ => True
/-- A value that takes one cell. -/
def OneR (G : List GO) (Z : Zone) (w : World) (v : SV) (x : Value) : Prop := RS G Z w v x ∧ oneB x = true
def RV1 (G : List GO) (Z : Zone) (w : World) : V1 → Value → Prop
  | .one s, x => RS G Z w s x ∧ (s ≠ .any → oneB x = true)
  | .agg l, x => ∃ xs : List Value, x = .agg xs.toArray ∧ All2 (OneR G Z w) l xs
def RV (G : List GO) (Z : Zone) (w : World) : AV → Value → Prop
  | .v v, x => RV1 G Z w v x
  | .tup l, x => ∃ xs : List Value, x = .tuple xs.toArray ∧ All2 (RV1 G Z w) l xs
/-- A row of the call's own: a slice without room stands on nothing. -/
def rowZ (e sz : Nat) (v : Value) (n : Nat) (xs : List Value) : Res :=
  match v with
  | .slice a _ 0 => ⟨fun _ => False, fun _ => n = 0 ∧ xs = [] ∧ v = .slice a 0 0⟩
  | v => rowR e sz v n xs
theorem rowZ_local (e sz : Nat) (v : Value) (n : Nat) (xs : List Value) : (rowZ e sz v n xs).Local := by
  unfold rowZ
  split
  · exact fun _ _ _ h => h
  · exact rowR_local _ _ _ _ _
def resO : AObj → GO → List Res
  | .cells _, .cells b T vs => [blk b vs T]
  | .arr e d _ false, .arr _ v sz xs => [rowZ e sz v d.len xs]
  | _, _ => []
def RO (G : List GO) (Z : Zone) (w : World) : AObj → GO → Prop
  | .cells l, .cells b T vs => All2 (OneR G Z w) l vs
  | .arr e d ver fz, .arr ver' v sz xs => ver = ver' ∧ sz = d.kind.size ∧ cond fz (SlR Z w d v) (ElemsR Z w d xs ∧ ∃ a c, v = .slice a d.len c)
  | .dead, .gone => True
  | .dead, .fresh => True
  | _, _ => False
def resL : List AObj → List GO → List Res
  | o :: h, g :: G => resO o g ++ resL h G
  | _, _ => []
/-- What is known beside the call's own memory. -/
def relF (s : AS) (G : List GO) (tv : List Value) : Fact := fun Z w => All2 (RV G Z w) s.tmps tv ∧ All2 (RO G Z w) s.heap G
/-- The objects are G; from number b on none has been made. -/
structure InvG (w0 : World) (M Z0 : Zone) (b : Nat) (G : List GO) (s : AS) (tv : List Value) (w : World) : Prop where
  st : St w0 M Z0 (resL s.heap G) (relF s G tv) w
  fresh : ∀ j, b ≤ j → j < G.length → G[j]? = some .fresh
  mz : ∀ k, M k → Z0 k
/-! All of it stands as long as the memory that it speaks of does. -/
section
variable {Z Z' : Zone} {w w' : World}
abbrev Keeps (Z Z' : Zone) (w w' : World) : Prop := ∀ b, Z b → b < w.heap.size → Z' b ∧ w'.heap[b]? = w.heap[b]?
theorem CellsAt.lt {b off : Nat} {xs : List Value} (h : CellsAt w b off xs) (hne : xs ≠ []) : b < w.heap.size := by
  cases xs with
  | nil => exact absurd rfl hne
  | cons x xs => exact cell_lt (h 0 x rfl)
theorem CellsAt.keep {b off : Nat} {xs : List Value} (h : CellsAt w b off xs) (hk : w'.heap[b]? = w.heap[b]?) : CellsAt w' b off xs :=
  fun i x hx => (cell_keep hk).trans (h i x hx)
theorem SlI.stable (hz : Keeps Z Z' w w') {l : List Int} {x : Value} (h : SlI Z w l x) : SlI Z' w' l x := by
  obtain ⟨a, cap, hx, h1, h2, h3⟩ := h
  refine ⟨a, cap, hx, h1, h2, ?_⟩
  rcases h3 with h3 | ⟨b, off, ha, hb, hc⟩
  · exact .inl h3
  · by_cases hl : l = []
    · exact .inl hl
    · have hlt := hc.lt (by simpa using hl)
      exact .inr ⟨b, off, ha, (hz b hb hlt).1, hc.keep (hz b hb hlt).2⟩
theorem ElemsR.stable (hz : Keeps Z Z' w w') {d : SD} {xs : List Value} (h : ElemsR Z w d xs) : ElemsR Z' w' d xs := by
  cases d with
  | ts l => obtain ⟨hs, h1, h2, h3⟩ := h; exact ⟨hs, h1, h2, fun t ht => Rd.stable Z Z' w w' hz t (h3 t ht)⟩
  | is l => exact h
  | iss l => exact All2.mono h (fun _ _ _ hh => hh.stable hz)
  | ss l => exact h
  | bs l => exact h
theorem SlR.stable (hz : Keeps Z Z' w w') {d : SD} {x : Value} (h : SlR Z w d x) : SlR Z' w' d x := by
  obtain ⟨a, cap, xs, hx, h1, h2, h3, h4⟩ := h
  refine ⟨a, cap, xs, hx, h1, h2, h3.stable hz, ?_⟩
  rcases h4 with h4 | ⟨b, off, ha, hb, hc⟩
  · exact .inl h4
  · by_cases hl : xs = []
    · exact .inl hl
    · have hlt := hc.lt hl
      exact .inr ⟨b, off, ha, (hz b hb hlt).1, hc.keep (hz b hb hlt).2⟩
theorem CellsR.stable (hz : Keeps Z Z' w w') {e : SE} {cs : List Value} (h : CellsR Z w e cs) : CellsR Z' w' e cs := by
  cases e with
  | t x => obtain ⟨t, h1, h2, h3⟩ := h; exact ⟨t, h1, Rd.stable Z Z' w w' hz t h2, h3⟩
  | i n => exact h
  | ii l => obtain ⟨x, h1, h2⟩ := h; exact ⟨x, h1, h2.stable hz⟩
  | s x => exact h
  | b c => exact h
theorem CellsR.ne {e : SE} {cs : List Value} (h : CellsR Z w e cs) : cs ≠ [] := by
  cases e with
  | t x => obtain ⟨t, h1, h2, h3⟩ := h; simp [h3]
  | i n => simp only [CellsR] at h; simp [h]
  | ii l => obtain ⟨x, h1, h2⟩ := h; simp [h1]
  | s x => simp only [CellsR] at h; simp [h]
  | b c => simp only [CellsR] at h; simp [h]
theorem EpR.stable (hz : Keeps Z Z' w w') {e : SE} {o : Nat} {x : Value} (h : EpR Z w e o x) : EpR Z' w' e o x := by
  obtain ⟨b, off, cs, hx, hb, hc, hr⟩ := h
  have hlt := hc.lt hr.ne
  exact ⟨b, off, cs, hx, (hz b hb hlt).1, hc.keep (hz b hb hlt).2, hr.stable hz⟩
theorem RS.stable {G : List GO} (hz : Keeps Z Z' w w') {s : SV} {x : Value} (h : RS G Z w s x) : RS G Z' w' s x := by
  cases s with
  | fr d => exact SlR.stable hz h
  | ep e o => exact EpR.stable hz h
  | _ => exact h
theorem RV1.stable {G : List GO} (hz : Keeps Z Z' w w') {v : V1} {x : Value} (h : RV1 G Z w v x) : RV1 G Z' w' v x := by
  cases v with
  | one s => exact ⟨h.1.stable hz, h.2⟩
  | agg l => obtain ⟨xs, hx, hh⟩ := h; exact ⟨xs, hx, hh.mono fun _ _ _ k => ⟨k.1.stable hz, k.2⟩⟩
theorem RV.stable {G : List GO} (hz : Keeps Z Z' w w') {v : AV} {x : Value} (h : RV G Z w v x) : RV G Z' w' v x := by
  cases v with
  | v v => exact RV1.stable hz h
  | tup l => obtain ⟨xs, hx, hh⟩ := h; exact ⟨xs, hx, hh.mono fun _ _ _ k => k.stable hz⟩
theorem RO.stable {G : List GO} (hz : Keeps Z Z' w w') {o : AObj} {g : GO} (h : RO G Z w o g) : RO G Z' w' o g := by
  cases o with
  | cells l => cases g with
    | cells b T vs => exact All2.mono h fun _ _ _ k => ⟨k.1.stable hz, k.2⟩
    | _ => exact h
  | arr e d ver fz => cases g with
    | arr ver' v sz xs =>
      obtain ⟨h1, h2, h3⟩ := h
      refine ⟨h1, h2, ?_⟩
      cases fz with
      | true => exact SlR.stable hz h3
      | false => exact ⟨ElemsR.stable hz h3.1, h3.2⟩
    | _ => exact h
  | dead => cases g <;> exact h
theorem relF_stable (s : AS) (G : List GO) (tv : List Value) : Stable (relF s G tv) := fun Z Z' w w' hz h =>
  ⟨h.1.mono fun _ _ _ k => k.stable hz, h.2.mono fun _ _ _ k => k.stable hz⟩
end
theorem resO_local (o : AObj) (g : GO) : ∀ r ∈ resO o g, r.Local := by
  intro r hr
  unfold resO at hr
  split at hr
  · rw [List.mem_singleton] at hr; subst hr; exact blk_local _ _ _
  · rw [List.mem_singleton] at hr; subst hr; exact rowZ_local _ _ _ _ _
  · cases hr

/-! One object taken out of all. -/
theorem resO_dead (g : GO) : resO .dead g = [] := by cases g <;> rfl
theorem resL_out : ∀ (h : List AObj) (G : List GO) (j : Nat) {o : AObj} {g : GO}, h[j]? = some o → G[j]? = some g → (resL h G).Perm (resO o g ++ resL (h.set j .dead) (G.set j .gone))
  | [], _, j, o, g, hj, _ => by simp at hj
  | _ :: _, [], j, o, g, _, gj => by simp at gj
  | x :: h, y :: G, 0, o, g, hj, gj => by
    simp only [List.getElem?_cons_zero, Option.some.injEq] at hj gj
    subst hj gj
    simp only [List.set_cons_zero, resL, resO_dead, List.nil_append]
    exact List.Perm.refl _
  | x :: h, y :: G, j + 1, o, g, hj, gj => by
    simp only [List.getElem?_cons_succ] at hj gj
    simp only [List.set_cons_succ, resL]
    have := (resL_out h G j hj gj).append_left (resO x y)
    refine this.trans ?_
    rw [← List.append_assoc, ← List.append_assoc]
    exact List.perm_append_comm.append_right _
theorem resL_in {h : List AObj} {G : List GO} {j : Nat} (o : AObj) (g : GO) (hj : j < h.length) (gj : j < G.length) : (resO o g ++ resL (h.set j .dead) (G.set j .gone)).Perm (resL (h.set j o) (G.set j g)) := by
  have := resL_out (h.set j o) (G.set j g) j (o := o) (g := g) (by simp [hj]) (by simp [gj])
  rw [List.set_set, List.set_set] at this
  exact this.symm
theorem resL_append : ∀ {h h' : List AObj} {G G' : List GO}, h.length = G.length → resL (h ++ h') (G ++ G') = resL h G ++ resL h' G'
  | [], _, [], _, _ => rfl
  | x :: h, h', y :: G, G', hl => by simp only [List.cons_append, resL]; rw [resL_append (by simpa using hl), List.append_assoc]
  | [], _, _ :: _, _, hl => by simp at hl
  | _ :: _, _, [], _, hl => by simp at hl
theorem resL_dead : ∀ (n : Nat) (G : List GO), resL (List.replicate n .dead) G = []
  | 0, _ => rfl
  | n + 1, [] => rfl
  | n + 1, g :: G => by rw [List.replicate_succ, resL, resO_dead, resL_dead n G]; rfl
/-- The memory of fewer objects. -/
theorem _root_.Go.Dk.St.sub {w0 w : World} {M Z0 : Zone} {L L' : List Res} {φ : Fact} (h : St w0 M Z0 L φ w) (hs : L'.Sublist L) : St w0 M Z0 L' φ w :=
  ⟨h.ext, fun r hr => h.own r (hs.subset hr), fun r hr => h.loc r (hs.subset hr), fun r hr => h.key r (hs.subset hr), h.dis.sublist hs, h.stab,
    h.stab _ _ w w (fun b hz _ => ⟨⟨hz.1, fun r hr => hz.2 r (hs.subset hr)⟩, rfl⟩) h.per⟩
theorem _root_.Go.Dk.St.weak {w0 w : World} {M Z0 : Zone} {L : List Res} {φ ψ : Fact} (h : St w0 M Z0 L φ w) (hs : Stable ψ) (hp : φ (zone w0 Z0 L) w → ψ (zone w0 Z0 L) w) : St w0 M Z0 L ψ w :=
  ⟨h.ext, h.own, h.loc, h.key, h.dis, hs, hp h.per⟩

/-! Objects that turn, or are no more. -/
/-- From one list of objects to a later one: what is spoken of stays what it was, or is gone. -/
def Up (G G' : List GO) : Prop := ∀ (j : Nat), 
  (G[j]? = some .gone → G'[j]? = some .gone) ∧
  (∀ b T vs, G[j]? = some (.cells b T vs) → G'[j]? = some .gone ∨ ∃ T' vs', G'[j]? = some (.cells b T' vs')) ∧
  (∀ ver val sz xs, G[j]? = some (.arr ver val sz xs) → G'[j]? = some .gone ∨ ∃ ver' val' xs', G'[j]? = some (.arr ver' val' sz xs') ∧ (ver < ver' ∨ (ver = ver' ∧ val = val')))
theorem Up.refl (G : List GO) : Up G G := fun j => ⟨id, fun b T vs h => .inr ⟨T, vs, h⟩, fun ver val sz xs h => .inr ⟨ver, val, xs, h, .inr ⟨rfl, rfl⟩⟩⟩
theorem Up.trans {G G' G'' : List GO} (h : Up G G') (k : Up G' G'') : Up G G'' := by
  intro j
  refine ⟨fun hh => (k j).1 ((h j).1 hh), fun b T vs hh => ?_, fun ver val sz xs hh => ?_⟩
  · rcases (h j).2.1 b T vs hh with h1 | ⟨T', vs', h1⟩
    · exact .inl ((k j).1 h1)
    · exact (k j).2.1 b T' vs' h1
  · rcases (h j).2.2 ver val sz xs hh with h1 | ⟨ver', val', xs', h1, h2⟩
    · exact .inl ((k j).1 h1)
    · rcases (k j).2.2 ver' val' sz xs' h1 with h3 | ⟨ver'', val'', xs'', h3, h4⟩
      · exact .inl h3
      · refine .inr ⟨ver'', val'', xs'', h3, ?_⟩
        rcases h2 with h2 | ⟨rfl, rfl⟩
        · rcases h4 with h4 | ⟨rfl, rfl⟩
          · exact .inl (by omega)
          · exact .inl h2
        · exact h4
/-- Turning object j. -/
theorem Up.set {G : List GO} {j : Nat} {g : GO} (h : ∀ g0, G[j]? = some g0 → match g0, g with
    | .fresh, _ => True
    | _, .gone => True
    | .cells b _ _, .cells b' _ _ => b = b'
    | .arr ver val sz _, .arr ver' val' sz' _ => sz = sz' ∧ (ver < ver' ∨ (ver = ver' ∧ val = val'))
    | _, _ => False) : Up G (G.set j g) := by
  intro i
  by_cases hij : j = i
  · subst hij
    cases hg : G[j]? with
    | none => exact ⟨nofun, nofun, nofun⟩
    | some g0 =>
      have hlt : j < G.length := by
        rcases Nat.lt_or_ge j G.length with h' | h'
        · exact h'
        · rw [List.getElem?_eq_none h'] at hg; cases hg
      have hs : (G.set j g)[j]? = some g := by simp [hlt]
      have hh := h g0 hg
      refine ⟨fun e => ?_, fun b T vs e => ?_, fun ver val sz xs e => ?_⟩
      · obtain rfl := Option.some.inj e; rw [hs]; cases g <;> first | rfl | exact hh.elim
      · obtain rfl := Option.some.inj e; rw [hs]
        cases g with
        | gone => exact .inl rfl
        | cells b' T' vs' => have hh : b = b' := hh; subst hh; exact .inr ⟨T', vs', rfl⟩
        | _ => exact hh.elim
      · obtain rfl := Option.some.inj e; rw [hs]
        cases g with
        | gone => exact .inl rfl
        | arr ver' val' sz' xs' => obtain ⟨rfl, hh⟩ := hh; exact .inr ⟨ver', val', xs', rfl, hh⟩
        | _ => exact hh.elim
  · rw [List.getElem?_set_ne hij]
    exact ⟨id, fun b T vs h => .inr ⟨T, vs, h⟩, fun ver val sz xs h => .inr ⟨ver, val, xs, h, .inr ⟨rfl, rfl⟩⟩⟩
theorem Up.append (G N : List GO) : Up G (G ++ N) := by
  intro j
  have : ∀ g, G[j]? = some g → (G ++ N)[j]? = some g := fun g h => by
    rcases Nat.lt_or_ge j G.length with h' | h'
    · rw [List.getElem?_append_left h']; exact h
    · rw [List.getElem?_eq_none h'] at h; cases h
  exact ⟨fun h => this _ h, fun b T vs h => .inr ⟨T, vs, this _ h⟩, fun ver val sz xs h => .inr ⟨ver, val, xs, this _ h, .inr ⟨rfl, rfl⟩⟩⟩
section
variable {G G' : List GO} {Z : Zone} {w : World}
theorem RS.up (h : Up G G') {s : SV} {x : Value} (k : RS G Z w s x) : RS G' Z w s x := by
  cases s with
  | own j v =>
    rcases k with k | ⟨ver, val, sz, xs, hg, hv, he⟩
    · exact .inl ((h j).1 k)
    · rcases (h j).2.2 _ _ _ _ hg with h1 | ⟨ver', val', xs', h1, h2⟩
      · exact .inl h1
      · refine .inr ⟨ver', val', sz, xs', h1, ?_⟩
        rcases h2 with h2 | ⟨rfl, rfl⟩
        · exact ⟨by omega, fun e => by omega⟩
        · exact ⟨hv, he⟩
  | ptr j o =>
    rcases k with k | ⟨b, T, vs, hg, he⟩
    · exact .inl ((h j).1 k)
    · rcases (h j).2.1 _ _ _ hg with h1 | ⟨T', vs', h1⟩
      · exact .inl h1
      · exact .inr ⟨b, T', vs', h1, he⟩
  | op j v i o =>
    rcases k with k | ⟨ver, val, sz, xs, hg, hv, he⟩
    · exact .inl ((h j).1 k)
    · rcases (h j).2.2 _ _ _ _ hg with h1 | ⟨ver', val', xs', h1, h2⟩
      · exact .inl h1
      · refine .inr ⟨ver', val', sz, xs', h1, ?_⟩
        rcases h2 with h2 | ⟨rfl, rfl⟩
        · exact ⟨by omega, fun e => by omega⟩
        · exact ⟨hv, he⟩
  | fn f l =>
    obtain ⟨bs, hx, hh⟩ := k
    refine ⟨bs, hx, hh.mono fun j b _ hjb => ?_⟩
    rcases hjb with h1 | ⟨T, vs, h1⟩
    · exact .inl ((h j).1 h1)
    · rcases (h j).2.1 _ _ _ h1 with h2 | ⟨T', vs', h2⟩
      · exact .inl h2
      · exact .inr ⟨T', vs', h2⟩
  | _ => exact k
theorem RV1.up (h : Up G G') {s : V1} {x : Value} (k : RV1 G Z w s x) : RV1 G' Z w s x := by
  cases s with
  | one s => exact ⟨k.1.up h, k.2⟩
  | agg l => obtain ⟨xs, hx, hh⟩ := k; exact ⟨xs, hx, hh.mono fun _ _ _ k => ⟨k.1.up h, k.2⟩⟩
theorem RV.up (h : Up G G') {s : AV} {x : Value} (k : RV G Z w s x) : RV G' Z w s x := by
  cases s with
  | v s => exact RV1.up h k
  | tup l => obtain ⟨xs, hx, hh⟩ := k; exact ⟨xs, hx, hh.mono fun _ _ _ k => k.up h⟩
theorem RO.up (h : Up G G') {o : AObj} {g : GO} (k : RO G Z w o g) : RO G' Z w o g := by
  cases o with
  | cells l => cases g with
    | cells b T vs => exact All2.mono k fun _ _ _ k => ⟨k.1.up h, k.2⟩
    | _ => exact k
  | arr e d ver fz => cases g <;> exact k
  | dead => cases g <;> exact k
end
end Go.Ab
end
