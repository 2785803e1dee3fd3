/- The abstract run is sound: one operation. No program in sight. -/
import Derived.Test.YthjbllfcelkajaaOpG
set_option linter.unusedVariables false
set_option linter.unusedSimpArgs false
namespace Go.Ab
open Go Go.Dk

section
variable {P : Program} {w0 w w' : World} {M Z0 : Zone} {b : Nat} {G : List GO} {s : AS} {tv : List Value} {r : List V1 × List AObj}
/-- Behind an operation. -/
def StepTo (w0 : World) (M Z0 : Zone) (b' : Nat) (G : List GO) (s : AS) (tv : List Value) (d : Option Tmp) (k : AV → List AObj → OR) (r : List V1 × List AObj) (a' : Act) (w' : World) : Prop :=
  ∃ v h' G' tv', k v h' = some r ∧ a' = ⟨tv'.toArray, []⟩ ∧ InvG w0 M Z0 b' G' (AS.put ⟨s.tmps, h'⟩ d v) tv' w' ∧ h'.length = s.heap.length ∧ Up G G' ∧ ∃ X, tv' = (match d with | some d => tv.set d X | none => tv)
theorem put_act (tv : List Value) (d : Option Tmp) (X : Value) : (Act.mk tv.toArray []).put d X = ⟨(match d with | some d => tv.set d X | none => tv).toArray, []⟩ := by
  cases d with
  | none => rfl
  | some d => simp [Act.put]
theorem getD_rel {α β : Type} {R : α → β → Prop} {l : List α} {m : List β} {da : α} {db : β} (h : All2 R l m) (hd : ∀ y, R da y) (i : Nat) : R (l.getD i da) (m.getD i db) := by
  cases hi : l[i]? with
  | none => simp only [List.getD, hi, Option.getD_none]; exact hd _
  | some a => obtain ⟨y, hy, hr⟩ := h.get hi; simp only [List.getD, hi, hy, Option.getD_some]; exact hr
theorem InvG.ev (hI : InvG w0 M Z0 b G s tv w) (x : Operand) : RV G (zn w0 Z0 s G) w (s.ev x) (Act.eval ⟨tv.toArray, []⟩ x) := by
  cases x with
  | tmp t => rw [evalT]; exact getD_rel hI.st.per.1 any_rel t
  | const v => exact ofValue_rel v
  | global g => exact any_rel _
  | func f => exact ⟨⟨[], rfl, All2.nil⟩, fun _ => rfl⟩
theorem value_to {o : Oper} {k : AV → List AObj → OR} {b' : Nat} {G' : List GO} {h' : List AObj} {v : AV} {X : Value} {Q : Exit → Act → World → Prop} (hr : (execOp (Act.eval ⟨tv.toArray, []⟩) o).run P w = .ok (.value X) w') (hk : k v h' = some r)
    (hI : InvG w0 M Z0 b' G' ⟨s.tmps, h'⟩ tv w') (hv : RV G' (zn w0 Z0 ⟨s.tmps, h'⟩ G') w' v X) (hl : h'.length = s.heap.length) (hu : Up G G') : o.wp P ⟨tv.toArray, []⟩ w (StepTo w0 M Z0 b' G s tv o.dst k r) Q := by
  simp only [Oper.wp, hr, Oper.upon]
  exact ⟨v, h', G', _, hk, put_act _ _ _, hI.put o.dst hv, hl, hu, X, by cases o.dst <;> rfl⟩
/-- An operation that leaves all as it is. -/
theorem value_same {o : Oper} {k : AV → List AObj → OR} {b' : Nat} {v : AV} {X : Value} {Q : Exit → Act → World → Prop} (hI : InvG w0 M Z0 b G s tv w) (hb : b ≤ b') (hr : (execOp (Act.eval ⟨tv.toArray, []⟩) o).run P w = .ok (.value X) w) (hk : k v s.heap = some r)
    (hv : RV G (zn w0 Z0 s G) w v X) : o.wp P ⟨tv.toArray, []⟩ w (StepTo w0 M Z0 b' G s tv o.dst k r) Q :=
  value_to hr hk (hI.raise hb) hv rfl (Up.refl G)
theorem call_to {o : Oper} {k : AV → List AObj → OR} {b' : Nat} {f : FuncId} {args : Array Value} {Q : Exit → Act → World → Prop} (hr : (execOp (Act.eval ⟨tv.toArray, []⟩) o).run P w = .ok (.enter f args) w)
    (hc : Calls P f args w fun e w' => ∃ X, e = .returned X ∧ ∃ v h' G', k v h' = some r ∧ InvG w0 M Z0 b' G' ⟨s.tmps, h'⟩ tv w' ∧ RV G' (zn w0 Z0 ⟨s.tmps, h'⟩ G') w' v X ∧ h'.length = s.heap.length ∧ Up G G') :
    o.wp P ⟨tv.toArray, []⟩ w (StepTo w0 M Z0 b' G s tv o.dst k r) Q := by
  simp only [Oper.wp, hr, Oper.upon]
  refine hc.mono fun e w' ⟨X, he, v, h', G', hk, hI, hv, hl, hu⟩ => ?_
  subst he
  exact ⟨v, h', G', _, hk, put_act _ _ _, hI.put o.dst hv, hl, hu, X, by cases o.dst <;> rfl⟩
theorem v1L_sound {Z : Zone} : ∀ {vs : List AV} {Xs : List Value} {l : List V1}, v1L vs = some l → All2 (RV G Z w) vs Xs → All2 (RV1 G Z w) l Xs
  | [], Xs, l, h, ha => by
    obtain rfl := ha.nil_inv
    simp only [v1L, Option.some.injEq] at h; subst h; exact All2.nil
  | .v x :: vs, Xs, l, h, ha => by
    obtain ⟨X, Xs', rfl, h1, h2⟩ := ha.cons_inv
    simp only [v1L, Option.map_eq_some_iff] at h
    obtain ⟨l', hl, rfl⟩ := h
    exact All2.cons h1 (v1L_sound hl h2)
  | .tup _ :: vs, Xs, l, h, ha => by simp [v1L] at h
theorem InvG.evL (hI : InvG w0 M Z0 b G s tv w) (l : List Operand) : All2 (RV G (zn w0 Z0 s G) w) (l.map s.ev) (l.map (Act.eval ⟨tv.toArray, []⟩)) :=
  ⟨by simp, fun i x y hx hy => by
    rw [List.getElem?_map] at hx hy
    obtain ⟨q, hq, rfl⟩ := Option.map_eq_some_iff.1 hx
    rw [hq] at hy
    obtain rfl := Option.some.inj hy
    exact hI.ev q⟩
theorem callB_fn {f : FuncId} (h : callB P f = true) : ∃ fn, P.funcs[f]? = some fn ∧ fn.body.isSome = true := by
  unfold callB at h
  split at h
  · rename_i fn hf
    simp only [Bool.and_eq_true] at h
    exact ⟨fn, hf, h.2⟩
  · cases h
theorem callK_sound {F : Callee} {D : Dec} (hF : CallsOK P F) (hI : InvG w0 M Z0 b G s tv w) {f : FuncId} {rm : Nat} {k : AV → List AObj → OR} {vs : List V1} {xs : List Value}
    (hv : All2 (RV1 G (zn w0 Z0 s G) w) vs xs) (hb : b + rm ≤ s.heap.length) (h : callK P F D f vs s.heap b rm k = some r) :
    callB P f = true ∧ Calls P f xs.toArray w fun e w' => ∃ X, e = .returned X ∧ ∃ v h' G', k v h' = some r ∧ InvG w0 M Z0 (b + rm) G' ⟨s.tmps, h'⟩ tv w' ∧ RV G' (zn w0 Z0 ⟨s.tmps, h'⟩ G') w' v X ∧ h'.length = s.heap.length ∧ Up G G' := by
  unfold callK at h
  split at h
  · cases h
  · rename_i fn hfn
    replace h := cond_left h; obtain ⟨hcb, h⟩ := h
    refine ⟨hcb, ?_⟩
    obtain ⟨fn', hfn', hbody⟩ := callB_fn hcb
    rw [hfn] at hfn'
    obtain rfl := Option.some.inj hfn'
    rcases cond_some h with ⟨_, h⟩ | ⟨_, h⟩
    · exact callGo_sound hF hfn hbody hI hv hb h
    · obtain ⟨vs', h1, h2, hs, hv'⟩ := sealVs_sound hI hv h
      have hl : h1.length = s.heap.length := by have := hs.inv.len; have := hI.len; simp at *; omega
      have := callGo_sound hF hfn hbody hs.inv hv' (by rw [show (AS.mk s.tmps h1).heap.length = h1.length from rfl, hl]; exact hb) h2
      refine this.mono fun e w' ⟨X, he, v, h', G', q1, q2, q3, q4, q5⟩ => ⟨X, he, v, h', G', q1, q2, q3, by rw [q4]; exact hl, q5⟩
theorem two_of {args : Array Operand} {X Y : AV} (h : args.toList.map s.ev = [X, Y]) : ∃ x y, args = #[x, y] ∧ s.ev x = X ∧ s.ev y = Y := by
  obtain ⟨l⟩ := args
  match l, h with
  | [x, y], h => exact ⟨x, y, rfl, by simpa using h⟩
theorem builtin_sound {D : Dec} (hI : InvG w0 M Z0 b G s tv w) {bi : Builtin} {args : Array Operand} {tys : Array TypeId} {dst : Option Tmp} {ty : TypeId} {pos : String} {aft : Array Edge} {gd : Option (Nat × Bool)} {k : AV → List AObj → OR} {Q : Exit → Act → World → Prop}
    (hb : b + nObj P D ⟨dst, .call ⟨.builtin bi, args, tys⟩, ty, pos, aft, gd⟩ ≤ s.heap.length) (h : evBuiltin P bi (args.toList.map s.ev) tys.toList s.heap b k = some r) :
    (Oper.mk dst (.call ⟨.builtin bi, args, tys⟩) ty pos aft gd).wp P ⟨tv.toArray, []⟩ w (StepTo w0 M Z0 (b + nObj P D ⟨dst, .call ⟨.builtin bi, args, tys⟩, ty, pos, aft, gd⟩) G s tv dst k r) Q := by
  have hE := hI.ev
  have hle := Nat.le_add_right b (nObj P D ⟨dst, .call ⟨.builtin bi, args, tys⟩, ty, pos, aft, gd⟩)
  have one : ∀ {X : AV}, args.toList.map s.ev = [X] → ∃ x, args = #[x] ∧ s.ev x = X := by
    intro X h
    obtain ⟨l⟩ := args
    match l, h with
    | [x], h => exact ⟨x, rfl, by simpa using h⟩
  have two : ∀ {X Y : AV}, args.toList.map s.ev = [X, Y] → ∃ x y, args = #[x, y] ∧ s.ev x = X ∧ s.ev y = Y := by
    intro X Y h
    obtain ⟨l⟩ := args
    match l, h with
    | [x, y], h => exact ⟨x, y, rfl, by simpa using h⟩
  unfold evBuiltin at h
  split at h
  · rename_i X t ha ht
    obtain ⟨x, rfl, rfl⟩ := one ha
    have ht : tys = #[t] := by rw [← Array.toList_inj, ht]
    subst ht
    obtain ⟨v, Y, hk, hr, hv⟩ := evLen_sound (d := dst) (ty := ty) (pos := pos) (aft := aft) (gd := gd) hI (hE x) h
    exact value_same hI hle hr hk hv.rv
  · rename_i X Y t t' ha ht
    obtain ⟨x, y, rfl, rfl, rfl⟩ := two ha
    replace h := cond_left h; obtain ⟨htt, h⟩ := h
    simp only [Nat.beq_eq] at htt
    subst htt
    have ht : tys = #[t, t] := by rw [← Array.toList_inj, ht]
    subst ht
    have hb' : b < G.length := by rw [← hI.len]; simp only [nObj] at hb; omega
    obtain ⟨v, h', G', w', X, hk, hr, h1, h2, h3, h4⟩ := evAppend_sound (d := dst) (ty := ty) (pos := pos) (aft := aft) (gd := gd) hI hb' (hE x) (hE y) h
    exact value_to hr hk h1 h2.rv h3 h4
  · rename_i X Y ha
    obtain ⟨x, y, rfl, rfl, rfl⟩ := two ha
    obtain ⟨v, X, hk, hr, hv⟩ := evMax_sound (mx := true) (tys := tys) (d := dst) (ty := ty) (pos := pos) (aft := aft) (gd := gd) (P := P) (w := w) (hE x) (hE y) h
    exact value_same hI hle hr hk hv.rv
  · rename_i X Y ha
    obtain ⟨x, y, rfl, rfl, rfl⟩ := two ha
    obtain ⟨v, X, hk, hr, hv⟩ := evMax_sound (mx := false) (tys := tys) (d := dst) (ty := ty) (pos := pos) (aft := aft) (gd := gd) (P := P) (w := w) (hE x) (hE y) h
    exact value_same hI hle hr hk hv.rv
  · cases h
theorem closure_sound {F : Callee} {D : Dec} (hF : CallsOK P F) (hI : InvG w0 M Z0 b G s tv w) {x : Operand} {args : Array Operand} {tys : Array TypeId} {dst : Option Tmp} {ty : TypeId} {pos : String} {aft : Array Edge} {gd : Option (Nat × Bool)} {k : AV → List AObj → OR} {Q : Exit → Act → World → Prop} {rm : Nat}
    (hb : b + rm ≤ s.heap.length) (h : (match s.ev x with
      | .v (.one (.fn f l)) => (v1L (args.toList.map s.ev)).bind fun vs => callK P F D f (vs ++ l.map fun j => .one (.ptr j 0)) s.heap b rm k
      | _ => none) = some r) :
    (Oper.mk dst (.call ⟨.value x, args, tys⟩) ty pos aft gd).wp P ⟨tv.toArray, []⟩ w (StepTo w0 M Z0 (b + rm) G s tv dst k r) Q := by
  split at h
  · rename_i f l hx
    have hX := hI.ev x
    rw [hx] at hX
    obtain ⟨⟨bs, hX, hh⟩, _⟩ := hX
    replace h := bind_some h; obtain ⟨vs, hvs, h⟩ := h
    have hcaps : All2 (RV1 G (zn w0 Z0 s G) w) (l.map fun j => V1.one (.ptr j 0)) (bs.map fun b => pv b 0) := by
      refine ⟨by simp [hh.1], fun i a c ha hc => ?_⟩
      rw [List.getElem?_map] at ha hc
      obtain ⟨j, hj, rfl⟩ := Option.map_eq_some_iff.1 ha
      obtain ⟨bb, hbb, rfl⟩ := Option.map_eq_some_iff.1 hc
      refine ⟨?_, fun _ => rfl⟩
      rcases hh.2 i j bb hj hbb with h1 | ⟨T, vs, h1⟩
      · exact .inl h1
      · exact .inr ⟨bb, T, vs, h1, rfl⟩
    obtain ⟨hcb, hc⟩ := callK_sound hF hI (All2.append (v1L_sound hvs (hI.evL args.toList)) hcaps) hb h
    refine call_to (f := f) (args := (args.toList.map (Act.eval ⟨tv.toArray, []⟩) ++ bs.map fun b => pv b 0).toArray) ?_ hc
    have := run_call_op (P := P) (ρ := Act.eval ⟨tv.toArray, []⟩) (f := f) (x := x) (first := #[]) (cap := (bs.map fun b => pv b 0).toArray) (xs := args) (ats := tys) (d := dst) (ty := ty) (pos := pos) (aft := aft) (gd := gd) hX hcb w
    rw [this]
    congr 2
    exact Array.toList_inj.1 (by simp)
  · cases h
theorem evOp_sound {F : Callee} {D : Dec} (hF : CallsOK P F) (hib : ∀ f, D.ib f = true → extIB P f) (hI : InvG w0 M Z0 b G s tv w) {o : Oper} {k : AV → List AObj → OR} {Q : Exit → Act → World → Prop}
    (hb : b + nObj P D o ≤ s.heap.length) (h : evOp P F D o s.ev s.heap b k = some r) : o.wp P ⟨tv.toArray, []⟩ w (StepTo w0 M Z0 (b + nObj P D o) G s tv o.dst k r) Q := by
  have hE := hI.ev
  obtain ⟨dst, op, ty, pos, aft, gd⟩ := o
  have hle := Nat.le_add_right b (nObj P D ⟨dst, op, ty, pos, aft, gd⟩)
  cases op <;> simp only [evOp] at h
  case move x => exact value_same hI hle ((Y_move (S := fun _ => True) rfl).out w trivial) h (retype_rel _ (hE x))
  case assign x => exact value_same hI hle ((Y_assign (S := fun _ => True) rfl).out w trivial) h (retype_rel _ (hE x))
  case pick c x y =>
    split at h
    · rename_i t hc
      have hcv := hE c
      rw [hc] at hcv
      rcases cond_some h with ⟨rfl, h⟩ | ⟨rfl, h⟩
      · exact value_same hI hle ((Y_pickT (S := fun _ => True) (bool_inv hcv) rfl).out w trivial) h (hE x)
      · exact value_same hI hle ((Y_pickF (S := fun _ => True) (bool_inv hcv) rfl).out w trivial) h (hE y)
    · cases h
  case alloc e =>
    replace h := bind_some h; obtain ⟨z, hz, h⟩ := h
    obtain ⟨cs, hzb, hzr⟩ := zeroS_out hz
    have hb' : b < G.length := by rw [← hI.len]; simp only [nObj] at hb; omega
    obtain ⟨h1, h2, h3⟩ := newCells hI hb' (hzr G _ w) e
    exact value_to (run_alloc hzb) h h1 h2 (by simp) h3
  case box e x =>
    replace h := bind_some h; obtain ⟨c, hc, h⟩ := h
    obtain ⟨xs, hX, hr⟩ := cs_sound hc (hE x)
    have hb' : b < G.length := by rw [← hI.len]; simp only [nObj] at hb; omega
    obtain ⟨h1, h2, h3⟩ := newCells hI hb' hr e
    exact value_to (run_box hX) h h1 h2 (by simp) h3
  case build t ps =>
    obtain ⟨v, X, hk, hr, hv⟩ := evBuild_sound (ρ := Act.eval ⟨tv.toArray, []⟩) (d := dst) (ty := ty) (pos := pos) (aft := aft) (gd := gd) hE h
    exact value_same hI hle hr hk hv
  case buildSlice t n ps =>
    have hb' : b < G.length := by rw [← hI.len]; simp only [nObj] at hb; omega
    obtain ⟨v, h', G', w', X, hk, hr, h1, h2, h3, h4⟩ := evBuildSlice_sound (ρ := Act.eval ⟨tv.toArray, []⟩) (d := dst) (ty := ty) (pos := pos) (aft := aft) (gd := gd) hI hb' hE h
    exact value_to hr hk h1 h2 h3 h4
  case load t x =>
    obtain ⟨v, X, hk, hr, hv⟩ := evLoad_sound (d := dst) (ty := ty) (pos := pos) (aft := aft) (gd := gd) hI (hE x) h
    exact value_same hI hle hr hk hv
  case store t x y =>
    obtain ⟨h', G', w', hk, hr, h1, h2, h3⟩ := evStore_sound (d := dst) (ty := ty) (pos := pos) (aft := aft) (gd := gd) hI (hE x) (hE y) h
    simp only [Oper.wp, hr, Oper.upon]
    exact ⟨anyV, h', G', _, hk, put_act _ _ _, (h1.raise hle).put dst (any_rel _), h2, h3, undef, by cases dst <;> rfl⟩
  case nilCheck x =>
    obtain ⟨v, X, hk, hr, hv⟩ := evNil_sound (d := dst) (ty := ty) (pos := pos) (aft := aft) (gd := gd) hI (hE x) h
    exact value_same hI hle hr hk hv.rv
  case binOp op t x y t' =>
    obtain ⟨v, X, hk, hr, hv⟩ := evBin_sound (d := dst) (ty := ty) (pos := pos) (aft := aft) (gd := gd) (t' := t') (P := P) (w := w) (hE x) (hE y) h
    exact value_same hI hle hr hk hv.rv
  case unOp op t x =>
    obtain ⟨v, X, hk, hr, hv⟩ := evUn_sound (d := dst) (ty := ty) (t := t) (pos := pos) (aft := aft) (gd := gd) (P := P) (w := w) (hE x) h
    exact value_same hI hle hr hk hv.rv
  case convert t t' x =>
    obtain ⟨v, X, hk, hr, hv⟩ := evConv_sound (d := dst) (ty := ty) (pos := pos) (aft := aft) (gd := gd) hI (hE x) h
    exact value_same hI hle hr hk hv.rv
  case makeFunc fn first caps =>
    split at h
    · rename_i f hfirst
      replace h := bind_some h; obtain ⟨l, hl, h⟩ := h
      obtain ⟨bs, hbs, hh⟩ := capsOf_sound hI (hI.evL caps.toList) hl
      have hf : first = #[] := by cases first; simp_all
      subst hf
      have hr : (execOp (Act.eval ⟨tv.toArray, []⟩) ⟨dst, .makeFunc (.func f) #[] caps, ty, pos, aft, gd⟩).run P w = .ok (.value (.func (.func f) #[] (bs.map fun b => pv b 0).toArray)) w := by
        have := (Y_makeFunc (P := P) (S := fun _ => True) (ρ := Act.eval ⟨tv.toArray, []⟩) (d := dst) (ty := ty) (pos := pos) (aft := aft) (gd := gd) (fn := .func f) (first := []) (cap := caps.toList) (vf := []) (vc := bs.map fun b => pv b 0) rfl hbs).out w trivial
        simpa using this
      exact value_same hI hle hr h ⟨⟨bs, rfl, hh⟩, fun _ => rfl⟩
    · cases h
  case makeSlice t x y =>
    have hb' : b < G.length := by rw [← hI.len]; simp only [nObj] at hb; omega
    obtain ⟨v, h', G', w', X, hk, hr, h1, h2, h3, h4⟩ := evMake_sound (ρ := Act.eval ⟨tv.toArray, []⟩) (d := dst) (ty := ty) (pos := pos) (aft := aft) (gd := gd) hI hb' (hE x) (hE y) h
    exact value_to hr hk h1 h2.rv h3 h4
  case slice t x lo hi mx =>
    obtain ⟨v, h', X, hk, hr, hs, hv⟩ := evSlice_sound (ρ := Act.eval ⟨tv.toArray, []⟩) (d := dst) (ty := ty) (pos := pos) (aft := aft) (gd := gd) hI hE h
    exact value_to hr hk (hs.inv.raise hle) hv.rv (by have := hs.inv.len; have := hI.len; simp at *; omega) (Up.refl G)
  case fieldAddr t x i =>
    replace h := bind_some h; obtain ⟨D, hD, h⟩ := h
    obtain ⟨v, X, hk, hr, hv⟩ := evField_sound (d := dst) (ty := ty) (pos := pos) (aft := aft) (gd := gd) hI (hE x) hD h
    exact value_same hI hle hr hk hv.rv
  case indexAddr t x y =>
    obtain ⟨v, X, hk, hr, hv⟩ := evIndexAddr_sound (d := dst) (ty := ty) (pos := pos) (aft := aft) (gd := gd) hI (hE x) (hE y) h
    exact value_same hI hle hr hk hv.rv
  case index t x y =>
    obtain ⟨v, X, hk, hr, hv⟩ := evIndex_sound (d := dst) (ty := ty) (pos := pos) (aft := aft) (gd := gd) (P := P) (w := w) (hE x) (hE y) h
    exact value_same hI hle hr hk hv.rv
  case extract x i =>
    obtain ⟨v, X, hk, hr, hv⟩ := evExtract_sound (d := dst) (ty := ty) (pos := pos) (aft := aft) (gd := gd) (P := P) (w := w) (hE x) h
    exact value_same hI hle hr hk hv
  case call c =>
    obtain ⟨callee, args, tys⟩ := c
    cases callee with
    | builtin bi =>
      exact builtin_sound hI hb h
    | invoke q m => simp at h
    | value f =>
      cases f with
      | func f =>
        simp only at h
        rcases cond_some h with ⟨hi, h⟩ | ⟨_, h⟩
        · split at h
          · rename_i a n hargs
            obtain ⟨hn, hk⟩ := cond_left h
            simp only [Bool.and_eq_true, decide_eq_true_eq] at hn
            obtain ⟨x, y, rfl, e1, e2⟩ := two_of hargs
            have h1 := hE x
            have h2 := hE y
            rw [e1] at h1
            rw [e2] at h2
            have hy : Act.eval ⟨tv.toArray, []⟩ y = .int .u8 ((UInt8.ofNat n.toNat).toNat : Int) := by rw [u8_back hn.1 hn.2]; exact int_inv h2
            exact value_same hI hle ((Y_indexByte (S := fun _ => True) (hib f hi) (str_inv h1) hy rfl).out w trivial) hk (int_one _ _).rv
          · cases h
        · replace h := bind_some h; obtain ⟨vs, hvs, h⟩ := h
          obtain ⟨hcb, hc⟩ := callK_sound hF hI (v1L_sound hvs (hI.evL args.toList)) hb h
          refine call_to (f := f) (args := (args.toList.map (Act.eval ⟨tv.toArray, []⟩)).toArray) ?_ hc
          have := run_call_op (P := P) (ρ := Act.eval ⟨tv.toArray, []⟩) (f := f) (x := .func f) (first := #[]) (cap := #[]) (xs := args) (ats := tys) (d := dst) (ty := ty) (pos := pos) (aft := aft) (gd := gd) rfl hcb w
          rw [this]
          congr 2
          exact Array.toList_inj.1 (by simp)
      | tmp t => exact closure_sound hF hI hb h
      | const v => exact closure_sound hF hI hb h
      | global g => exact closure_sound (D := D) hF hI hb h
  all_goals cases h
end
end Go.Ab
