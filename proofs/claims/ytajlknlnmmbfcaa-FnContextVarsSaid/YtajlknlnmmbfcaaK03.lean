/- Part 3 of the proof. -/
import Derived.Test.YtajlknlnmmbfcaaK01
import Derived.Test.YtajlknlnmmbfcaaK02
import Derived.Test.YtajlknlnmmbfcaaRows
import Derived.KernelRfl
set_option linter.unusedVariables false
set_option linter.unusedSimpArgs false
section
namespace Go.Ab
open Go Go.Dk
section
variable {P : Program} {F : Callee} {D : Dec}
theorem kr {α : Type} {ρ ρ' : Operand → α} {a : Array Operand} (h : ∀ x ∈ a, ρ x = ρ' x) : a.toList.map ρ = a.toList.map ρ' :=
 List.map_congr_left fun x hx => h x (by simpa using hx)
theorem kM {ρ ρ' : Operand → AV} {o : Oper} (h : ∀ x ∈ o.op.operands, ρ x = ρ' x) (hp : List aq) (sl : Nat) (k : AV → List aq → OR) :
   oq P F D o ρ hp sl k = oq P F D o ρ' hp sl k := by
 obtain ⟨dst, op, ty, pos, aft, gd⟩ := o
 cases op <;> simp only [Op.operands] at h <;> simp only [oq]
 case build t ps =>
  have : ps.toList.map (fun p => (p.1, ρ p.2)) = ps.toList.map fun p => (p.1, ρ' p.2) :=
   List.map_congr_left fun p hp' => by rw [h p.2 (by simp only [List.mem_toArray]; exact List.mem_map.2 ⟨p, hp', rfl⟩)]
  rw [this]
 case buildSlice t n ps =>
  have : ps.toList.map (fun p => ρ p.2) = ps.toList.map fun p => ρ' p.2 :=
   List.map_congr_left fun p hp' => h p.2 (by simp only [List.mem_toArray]; exact List.mem_map.2 ⟨p, hp', rfl⟩)
  rw [this]
 case makeFunc fn first caps =>
  rw [kr fun x hx => h x (by simp [hx])]
 case slice t x lo hi mx =>
  have e1 : ρ x = ρ' x := h x (by simp)
  have e2 : lo.map ρ = lo.map ρ' := by cases lo with | none => rfl | some l => simp [h l (by simp)]
  have e3 : hi.map ρ = hi.map ρ' := by cases hi with | none => rfl | some l => simp [h l (by simp)]
  have e4 : mx.map ρ = mx.map ρ' := by cases mx with | none => rfl | some l => simp [h l (by simp)]
  rw [e1, e2, e3, e4]
 case call c =>
  obtain ⟨callee, args, tys⟩ := c
  have ea : args.toList.map ρ = args.toList.map ρ' := kr fun x hx => h x (by simp [Call.operands, hx])
  cases callee with
  | builtin bi => simp only [ea]
  | invoke q m => rfl
  | value f =>
   have ef : ρ f = ρ' f := h f (by simp [Call.operands])
   cases f <;> simp only [ea, ef]
 all_goals (first | rfl | (simp_all; done))
def FA (js : List Nat) : Nat → List aq → List aq
 | _, [] => []
 | i, o :: h => cond (dc i js) .dead o :: FA js (i + 1) h
def lW (js : List Nat) (b : Nat) : Nat → List GO → List GO
 | _, [] => []
 | i, g :: G => cond (dc i js) g (cond (Nat.blt i b) .gone .fresh) :: lW js b (i + 1) G
def qj (js : List Nat) : Nat → List GO → List GO → List GO
 | i, o :: h, o' :: h' => cond (dc i js) o' o :: qj js (i + 1) h h'
 | _, h, _ => h
theorem gm (js : List Nat) : ∀ (h : List aq) (i j : Nat), (dL js i h)[j]? = h[j]?.map fun o => cond (dc (i + j) js) o .dead
 | [], i, j => by simp [dL]
 | o :: h, i, 0 => by simp [dL]
 | o :: h, i, j + 1 => by simp only [dL, List.getElem?_cons_succ]; rw [gm js h (i + 1) j, show i + 1 + j = i + (j + 1) by omega]
theorem hO (js : List Nat) (b : Nat) : ∀ (h : List GO) (i j : Nat), (lW js b i h)[j]? = h[j]?.map fun o => cond (dc (i + j) js) o (cond (Nat.blt (i + j) b) .gone .fresh)
 | [], i, j => by simp [lW]
 | o :: h, i, 0 => by simp [lW]
 | o :: h, i, j + 1 => by simp only [lW, List.getElem?_cons_succ]; rw [hO js b h (i + 1) j, show i + 1 + j = i + (j + 1) by omega]
theorem eS (js : List Nat) : ∀ (h : List aq) (i : Nat), (dL js i h).length = h.length
 | [], _ => rfl
 | o :: h, i => by simp only [dL, List.length_cons, eS js h]
theorem iH (js : List Nat) (b : Nat) : ∀ (h : List GO) (i : Nat), (lW js b i h).length = h.length
 | [], _ => rfl
 | o :: h, i => by simp only [lW, List.length_cons, iH js b h]
theorem jx (js : List Nat) : ∀ (h h' : List aq) (i : Nat), (iL js i h h').length = h.length
 | [], _, _ => by simp [iL]
 | o :: h, [], _ => by simp [iL]
 | o :: h, o' :: h', i => by simp only [iL, List.length_cons, jx js h]
theorem n7 (js : List Nat) : ∀ (h h' : List GO) (i : Nat), (qj js i h h').length = h.length
 | [], _, _ => by simp [qj]
 | o :: h, [], _ => by simp [qj]
 | o :: h, o' :: h', i => by simp only [qj, List.length_cons, n7 js h]
theorem u9 {js : List Nat} : ∀ {h h' : List aq} {i j : Nat}, dc (i + j) js = true → h'.length = h.length → (iL js i h h')[j]? = h'[j]?
 | [], [], i, j, _, _ => by simp [iL]
 | [], _ :: _, i, j, _, hl => by simp at hl
 | _ :: _, [], i, j, _, hl => by simp at hl
 | o :: h, o' :: h', i, 0, hj, _ => by simp only [Nat.add_zero] at hj; simp [iL, hj]
 | o :: h, o' :: h', i, j + 1, hj, hl => by
  simp only [iL, List.getElem?_cons_succ]
  exact u9 (by rw [show i + 1 + j = i + (j + 1) by omega]; exact hj) (by simpa using hl)
theorem mB {js : List Nat} : ∀ {h h' : List aq} {i j : Nat}, dc (i + j) js = false → (iL js i h h')[j]? = h[j]?
 | [], _, i, j, _ => by simp [iL]
 | o :: h, [], i, j, _ => by simp [iL]
 | o :: h, o' :: h', i, 0, hj => by simp only [Nat.add_zero] at hj; simp [iL, hj]
 | o :: h, o' :: h', i, j + 1, hj => by
  simp only [iL, List.getElem?_cons_succ]
  exact mB (by rw [show i + 1 + j = i + (j + 1) by omega]; exact hj)
theorem B5 {js : List Nat} : ∀ {h h' : List GO} {i j : Nat}, dc (i + j) js = true → h'.length = h.length → (qj js i h h')[j]? = h'[j]?
 | [], [], i, j, _, _ => by simp [qj]
 | [], _ :: _, i, j, _, hl => by simp at hl
 | _ :: _, [], i, j, _, hl => by simp at hl
 | o :: h, o' :: h', i, 0, hj, _ => by simp only [Nat.add_zero] at hj; simp [qj, hj]
 | o :: h, o' :: h', i, j + 1, hj, hl => by
  simp only [qj, List.getElem?_cons_succ]
  exact B5 (by rw [show i + 1 + j = i + (j + 1) by omega]; exact hj) (by simpa using hl)
theorem xo {js : List Nat} : ∀ {h h' : List GO} {i j : Nat}, dc (i + j) js = false → (qj js i h h')[j]? = h[j]?
 | [], _, i, j, _ => by simp [qj]
 | o :: h, [], i, j, _ => by simp [qj]
 | o :: h, o' :: h', i, 0, hj => by simp only [Nat.add_zero] at hj; simp [qj, hj]
 | o :: h, o' :: h', i, j + 1, hj => by
  simp only [qj, List.getElem?_cons_succ]
  exact xo (by rw [show i + 1 + j = i + (j + 1) by omega]; exact hj)
theorem pQ (js : List Nat) (b : Nat) : ∀ (h : List aq) (G : List GO) (i : Nat), (aU h G).Perm (aU (dL js i h) (lW js b i G) ++ aU (FA js i h) G)
 | [], _, _ => List.Perm.refl _
 | o :: h, [], i => List.Perm.refl _
 | o :: h, g :: G, i => by
  have ih := pQ js b h G (i + 1)
  simp only [dL, lW, FA, aU]
  cases dc i js with
  | true =>
   simp only [cond_true, cC, List.nil_append, List.append_assoc]
   exact ih.append_left _
  | false =>
   simp only [cond_false, cC, List.nil_append]
   refine (ih.append_left _).trans ?_
   rw [← List.append_assoc, ← List.append_assoc]
   exact List.perm_append_comm.append_right _
theorem xg (js : List Nat) : ∀ (h h' : List aq) (G G' : List GO) (i : Nat), h'.length = h.length → h.length = G.length → G'.length = G.length →
   (aU (iL js i h h') (qj js i G G')).Perm (aU (dL js i h') G' ++ aU (FA js i h) G)
 | [], [], G, G', i, _, _, _ => List.Perm.refl _
 | [], _ :: _, _, _, _, hl, _, _ => by simp at hl
 | _ :: _, [], _, _, _, hl, _, _ => by simp at hl
 | _ :: _, _ :: _, [], _, _, _, hl, _ => by simp at hl
 | _ :: _, _ :: _, _ :: _, [], _, _, _, hl => by simp at hl
 | o :: h, o' :: h', g :: G, g' :: G', i, h1, h2, h3 => by
  have ih := xg js h h' G G' (i + 1) (by simpa using h1) (by simpa using h2) (by simpa using h3)
  simp only [dL, qj, iL, FA, aU]
  cases dc i js with
  | true =>
   simp only [cond_true, cC, List.nil_append, List.append_assoc]
   exact ih.append_left _
  | false =>
   simp only [cond_false, cC, List.nil_append]
   refine (ih.append_left _).trans ?_
   rw [← List.append_assoc, ← List.append_assoc]
   exact List.perm_append_comm.append_right _
theorem nA (js : List Nat) : ∀ (h : List aq) (G : List GO) (i : Nat), (aU (dL js i h) G).Sublist (aU h G)
 | [], _, _ => List.Sublist.refl _
 | o :: h, [], i => List.Sublist.refl _
 | o :: h, g :: G, i => by
  simp only [dL, aU]
  cases dc i js with
  | true => exact (nA js h G (i + 1)).append_left _
  | false => simp only [cond_false, cC, List.nil_append]; exact (nA js h G (i + 1)).trans (List.sublist_append_right _ _)
theorem RS.on {G G' : List GO} {Z : bn} {w : World} {v : SV} {X : Value} (h : RS G Z w v X) (hr : ∀ j ∈ kV v, ∀ g, G[j]? = some g → G'[j]? = some g) : RS G' Z w v X := by
 cases v with
 | own j v =>
  have := hr j (by simp [kV])
  rcases h with h | ⟨ver, val, sz, xs, hg, hh⟩
  ·exact .inl (this _ h)
  ·exact .inr ⟨ver, val, sz, xs, this _ hg, hh⟩
 | ptr j o =>
  have := hr j (by simp [kV])
  rcases h with h | ⟨bb, T, vs, hg, hh⟩
  ·exact .inl (this _ h)
  ·exact .inr ⟨bb, T, vs, this _ hg, hh⟩
 | op j v i o =>
  have := hr j (by simp [kV])
  rcases h with h | ⟨ver, val, sz, xs, hg, hh⟩
  ·exact .inl (this _ h)
  ·exact .inr ⟨ver, val, sz, xs, this _ hg, hh⟩
 | fn f l =>
  obtain ⟨bs, hX, hh⟩ := h
  refine ⟨bs, hX, hh.mono fun j b hj q => ?_⟩
  have := hr j (by simpa [kV] using hj)
  rcases q with h1 | ⟨T, vs, h1⟩
  ·exact .inl (this _ h1)
  ·exact .inr ⟨T, vs, this _ h1⟩
 | _ => exact h
theorem RV1.on {G G' : List GO} {Z : bn} {w : World} {v : V1} {X : Value} (h : RV1 G Z w v X) (hr : ∀ j ∈ yL v, ∀ g, G[j]? = some g → G'[j]? = some g) : RV1 G' Z w v X := by
 cases v with
 | one s => exact ⟨h.1.on hr, h.2⟩
 | agg l =>
  obtain ⟨xs, hX, hh⟩ := h
  exact ⟨xs, hX, hh.mono fun a _ ha q => ⟨q.1.on fun j hj => hr j (List.mem_flatMap.2 ⟨a, ha, hj⟩), q.2⟩⟩
theorem RV.on {G G' : List GO} {Z : bn} {w : World} {v : AV} {X : Value} (h : RV G Z w v X) (hr : ∀ j ∈ l6 v, ∀ g, G[j]? = some g → G'[j]? = some g) : RV G' Z w v X := by
 cases v with
 | v v => exact RV1.on h hr
 | tup l =>
  obtain ⟨xs, hX, hh⟩ := h
  exact ⟨xs, hX, hh.mono fun a _ ha q => q.on fun j hj => hr j (List.mem_flatMap.2 ⟨a, ha, hj⟩)⟩
theorem RO.on {G G' : List GO} {Z : bn} {w : World} {o : aq} {g : GO} (h : RO G Z w o g) (hr : ∀ j ∈ rC (some o), ∀ g, G[j]? = some g → G'[j]? = some g) : RO G' Z w o g := by
 cases o with
 | cells l => cases g with
  | cells bb T vs => exact aw.mono h fun a _ ha q => ⟨q.1.on fun j hj => hr j (List.mem_flatMap.2 ⟨a, ha, hj⟩), q.2⟩
  | _ => exact h
 | arr e d ver fz => cases g <;> exact h
 | dead => cases g <;> exact h
end
end Go.Ab
namespace Go.Ab
open Go Go.Dk
section
variable {P : Program} {F : Callee} {D : Dec} {w0 w : World} {M Z0 : bn} {b : Nat} {G : List GO} {s : AS} {tv : List Value}
theorem gL (s : AS) (d : Option Tmp) (v : AV) : (s.put d v).heap = s.heap := by cases d <;> rfl
theorem iA (live : List Nat) : ∀ (l : List AV) (i t : Nat), (gK live i l)[t]? = l[t]?.map fun v => cond (dc (i + t) live) v aa
 | [], i, t => by simp [gK]
 | v :: l, i, 0 => by simp [gK]
 | v :: l, i, t + 1 => by simp only [gK, List.getElem?_cons_succ]; rw [iA live l (i + 1) t, show i + 1 + t = i + (t + 1) by omega]
def opT (o : Oper) : List Nat := o.op.operands.toList.flatMap fun x => match x with | .tmp t => [t] | _ => []
theorem vE {o : Oper} {t : Nat} : t ∈ opT o ↔ .tmp t ∈ o.op.operands := by
 unfold opT
 rw [List.mem_flatMap]
 constructor
 ·rintro ⟨x, hx, ht⟩
  cases x <;> simp at ht
  subst ht; simpa using hx
 ·intro h
  exact ⟨.tmp t, by simpa using h, by simp⟩
theorem nr {h : List aq} {fp rf : List Nat} (hc : ma h fp rf = true) : (∀ j ∈ rf, j ∈ fp) ∧ ∀ j ∈ fp, ∀ i ∈ rC h[j]?, i ∈ fp := by
 simp only [ma, Bool.and_eq_true, List.all_eq_true, aN] at hc
 exact hc
def Cg (tv : List Value) (d : Option Tmp) (X : Value) : List Value := match d with | some d => tv.set d X | none => tv
theorem Av {G : List GO} {Z : bn} {tm : List AV} (hh : aw (RV G Z w) tm tv) (d : Option Tmp) {v : AV} {X : Value} (hv : ∀ q, d = some q → q < tm.length → RV G Z w v X) (h : List aq) :
   aw (RV G Z w) (AS.put ⟨tm, h⟩ d v).tmps (Cg tv d X) := by
 cases d with
 | none => exact hh
 | some d =>
  by_cases hd : d < tm.length
  ·exact hh.set d (hv d rfl hd)
  ·show aw _ (tm.set d v) (tv.set d X)
   rw [List.set_eq_of_length_le (Nat.le_of_not_lt hd), List.set_eq_of_length_le (by rw [← hh.1]; exact Nat.le_of_not_lt hd)]; exact hh
theorem nR (hF : dV P F) (hib : ∀ f, D.ib f = true → jZ P f) (hst : St w0 M Z0 (aU s.heap G) (B9 s G tv) w) (hm : ∀ k, M k → Z0 k) {o : Oper} {fp : List Nat} {v : AV} {h' : List aq} {Q : Exit → Act → World → Prop}
   (hfr : ∀ j, b ≤ j → j < b + fO P D o → G[j]? = some .fresh) (hb : b + fO P D o ≤ s.heap.length) (hfp : ∀ j ∈ fp, j < b + fO P D o) (hcl : ma s.heap fp (refsOf s o) = true)
   (hev : ∀ k', oq P F D o s.ev (dL fp 0 s.heap) b k' = k' v h') (hcl' : ma h' fp (l6 v) = true) :
   o.wp P ⟨tv.toArray, []⟩ w (fun a' w' => ∃ G' tv', a' = ⟨tv'.toArray, []⟩ ∧ St w0 M Z0 (aU (iL fp 0 s.heap h') G') (B9 (AS.put ⟨s.tmps, iL fp 0 s.heap h'⟩ o.dst v) G' tv') w' ∧ (∀ j, dc j fp = false → G'[j]? = G[j]?) ∧ Up G G') Q := by
 obtain ⟨hc1, hc2⟩ := nr hcl
 obtain ⟨hd1, hd2⟩ := nr hcl'
 have hlen : s.heap.length = G.length := hst.per.2.1
 have hp := pQ fp b s.heap G 0
 generalize hL1 : aU (dL fp 0 s.heap) (lW fp b 0 G) = L1 at hp
 have hs := (hst.perm hp).sub (List.sublist_append_left _ _)
 have hk : ∀ k, jc w0 Z0 (aU s.heap G) k → jc w (fun k => jc w0 Z0 (aU s.heap G) k ∨ kF L1 k) L1 k := fun k hk =>
  ⟨.inl (.inl hk), fun q hq => hk.2 q (hp.mem_iff.2 (List.mem_append.2 (.inl hq)))⟩
 have hGM : ∀ j ∈ fp, ∀ g, G[j]? = some g → (lW fp b 0 G)[j]? = some g := fun j hj g hg => by
  rw [hO, hg, Nat.zero_add, aN.2 hj]; rfl
 have hIM : bq w (kF L1) (fun k => jc w0 Z0 (aU s.heap G) k ∨ kF L1 k) b (lW fp b 0 G) ⟨gK (opT o) 0 s.tmps, dL fp 0 s.heap⟩ tv w := by
  refine ⟨⟨Ext.refl _ _, ?_, ?_, ?_, ?_, aR _ _ _, ?_⟩, ?_, fun k hk => .inr hk⟩
  ·rw [hL1]; exact hs.own
  ·rw [hL1]; exact hs.loc
  ·rw [hL1]; exact fun q hq k hf => ⟨.inl ⟨q, hq, hf⟩, (hs.key q hq k hf).2⟩
  ·rw [hL1]; exact hs.dis
  ·have hper := hst.per
   rw [hL1]
   refine ⟨⟨?_, fun t x y hx hy => ?_⟩, ?_, fun j x y hx hy => ?_⟩
   ·have : (gK (opT o) 0 s.tmps).length = s.tmps.length := by
      refine Nat.le_antisymm ?_ ?_ <;> refine Nat.le_of_not_lt fun hlt => ?_
      ·have h1 := iA (opT o) s.tmps 0 s.tmps.length
       rw [List.getElem?_eq_getElem hlt, List.getElem?_eq_none (Nat.le_refl _)] at h1
       cases h1
      ·have h1 := iA (opT o) s.tmps 0 (gK (opT o) 0 s.tmps).length
       rw [List.getElem?_eq_none (Nat.le_refl _), List.getElem?_eq_getElem hlt] at h1
       cases h1
    rw [this]; exact hper.1.1
   ·rw [iA, Nat.zero_add] at hx
    obtain ⟨x', hx', rfl⟩ := Option.map_eq_some_iff.1 hx
    cases ht : dc t (opT o) with
    | false => exact fa y
    | true =>
     have hr := hper.1.2 t x' y hx' hy
     rw [cond_true]
     refine (RV.on (hr.aM (aO hk)) fun j hj g hg => hGM j (hc1 j ?_) g hg)
     refine List.mem_flatMap.2 ⟨.tmp t, by simpa using vE.1 (aN.1 ht), ?_⟩
     show j ∈ l6 (s.tmps.getD t aa)
     simp only [List.getD, hx', Option.getD_some]; exact hj
   ·rw [eS, iH]; exact hlen
   ·rw [gm, Nat.zero_add] at hx
    rw [hO, Nat.zero_add] at hy
    obtain ⟨x', hx', rfl⟩ := Option.map_eq_some_iff.1 hx
    obtain ⟨y', hy', rfl⟩ := Option.map_eq_some_iff.1 hy
    cases ht : dc j fp with
    | false => cases Nat.blt j b <;> trivial
    | true =>
     have hr := hper.2.2 j x' y' hx' hy'
     refine RO.on (hr.aM (aO hk)) fun i hi g hg => hGM i (hc2 j (aN.1 ht) i ?_) g hg
     rw [hx']; exact hi
  ·intro j hj hjl
   rw [iH] at hjl
   rw [hO, Nat.zero_add, List.getElem?_eq_getElem hjl, Option.map_some]
   cases ht : dc j fp with
   | true =>
    have := hfr j hj (hfp j (aN.1 ht))
    rw [List.getElem?_eq_getElem hjl] at this
    exact this
   | false =>
    have : Nat.blt j b = false := by
     cases hb' : Nat.blt j b with
     | false => rfl
     | true => rw [Nat.blt_eq] at hb'; omega
    rw [this]; rfl
 have hevM : ∀ x ∈ o.op.operands, (AS.mk (gK (opT o) 0 s.tmps) (dL fp 0 s.heap)).ev x = s.ev x := by
  intro x hx
  cases x with
  | tmp t =>
   show (gK (opT o) 0 s.tmps).getD t aa = s.tmps.getD t aa
   simp only [List.getD, iA, Nat.zero_add, aN.2 (vE.2 hx), cond_true]
   cases s.tmps[t]? <;> rfl
  | _ => rfl
 classical
 have hrun : oq P F D o (AS.mk (gK (opT o) 0 s.tmps) (dL fp 0 s.heap)).ev (AS.mk (gK (opT o) 0 s.tmps) (dL fp 0 s.heap)).heap b (fun v2 h2 => if v2 = v ∧ h2 = h' then some ([], []) else none) = some ([], []) := by
  rw [kM hevM]
  show oq P F D o s.ev (dL fp 0 s.heap) b _ = _
  rw [hev]; simp
 refine Oper.wp_mono (fun a' w' hst' => ?_) (qb (Q := Q) hF hib hIM (by show _ ≤ (dL fp 0 s.heap).length; rw [eS]; exact hb) hrun)
 obtain ⟨v2, h2, G2, tv2, hk2, ha, hI2, hl2, hu2, X, hX⟩ := hst'
 have hvh : v2 = v ∧ h2 = h' := by
  by_cases hh : v2 = v ∧ h2 = h'
  ·exact hh
  ·simp [hh] at hk2
 obtain ⟨rfl, rfl⟩ := hvh
 replace hX : tv2 = Cg tv o.dst X := by rw [hX]; cases o.dst <;> rfl
 have hst2 := hI2.st
 rw [gL] at hst2
 rw [← hL1] at hp
 have hst2' := hst2
 rw [← hL1] at hst2'
 have hfrm := frame hst hm hp hst2'
 have hl : h2.length = s.heap.length := by rw [hl2]; exact eS _ _ _
 have hG2 : G2.length = G.length := by
  have := hI2.len
  rw [gL] at this
  rw [← this]; show h2.length = _; rw [hl, hlen]
 have hperm := xg fp s.heap h2 G G2 0 hl hlen hG2
 have hS := (hfrm.1.sub ((nA fp h2 G2 0).append_right _)).perm hperm.symm
 have hin : ∀ j ∈ fp, (qj fp 0 G G2)[j]? = G2[j]? := fun j hj => B5 (by rw [Nat.zero_add]; exact aN.2 hj) hG2
 have hout : ∀ j, dc j fp = false → (qj fp 0 G G2)[j]? = G[j]? := fun j hj => xo (by rw [Nat.zero_add]; exact hj)
 have hup : Up G (qj fp 0 G G2) := by
  intro j
  cases ht : dc j fp with
  | false => rw [hout j ht]; exact Up.refl G j
  | true =>
   rw [hin j (aN.1 ht)]
   have := hu2 j
   rw [hO, Nat.zero_add, ht] at this
   have he : (G[j]?.map fun o => cond true o (cond (Nat.blt j b) .gone .fresh)) = G[j]? := by cases G[j]? <;> rfl
   rw [he] at this
   exact this
 refine ⟨qj fp 0 G G2, tv2, ha, hS.jv (aR _ _ _) fun hh => ?_, hout, hup⟩
 obtain ⟨hc, hs0⟩ := hh
 refine ⟨?_, ?_⟩
 ·rw [hX]
  refine Av (hs0.1.mono fun _ _ _ q => q.up hup) o.dst (fun d hd hdl => ?_) (iL fp 0 s.heap h2)
  have h1 : (AS.put ⟨gK (opT o) 0 s.tmps, h2⟩ o.dst v2).tmps[d]? = some v2 := by
   have : d < (gK (opT o) 0 s.tmps).length := by
    have h3 := hIM.st.per.1.1
    have h4 := hs0.1.1
    exact Nat.lt_of_lt_of_eq hdl (h4.trans h3.symm)
   rw [hd]; show ((gK (opT o) 0 s.tmps).set d v2)[d]? = _
   simp [this]
  have h2' : tv2[d]? = some X := by
   rw [hX, hd]
   have : d < tv.length := by rw [← hs0.1.1]; exact hdl
   simp [Cg, this]
  exact RV.on (hc.1.2 d v2 X h1 h2') fun j hj g hg => by rw [hin j (hd1 j hj)]; exact hg
 ·rw [gL]
  refine ⟨by rw [jx, n7]; exact hlen, fun j x y hx hy => ?_⟩
  cases ht : dc j fp with
  | false =>
   rw [mB (by rw [Nat.zero_add]; exact ht)] at hx
   rw [hout j ht] at hy
   exact (hs0.2.2 j x y hx hy).up hup
  | true =>
   have hx' : h2[j]? = some x := by rw [← hx]; exact (u9 (by rw [Nat.zero_add]; exact ht) hl).symm
   rw [hin j (aN.1 ht)] at hy
   have hro := hc.2.2 j x y (by rw [gL]; exact hx') hy
   refine RO.on hro fun i hi g hg => by rw [hin i (hd2 j (aN.1 ht) i (by rw [hx']; exact hi))]; exact hg
theorem E7 {f : (AV → OR) → OR} {h h' : List aq} (hf : N1 f) (hh : f (fun v => some ([], h)) = some ([], h')) : h' = h := by
 obtain ⟨a, ha, _⟩ := hf _ _ hh
 injection ha with ha; injection ha with _ ha; exact ha.symm
theorem ou {f : (SV → OR) → OR} {h h' : List aq} (hf : N1 f) (hh : f (fun v => some ([], h)) = some ([], h')) : h' = h := by
 obtain ⟨a, ha, _⟩ := hf _ _ hh
 injection ha with ha; injection ha with _ ha; exact ha.symm
theorem AY {j b n : Nat} (h : dc j (List.range' b n) = false) : ¬ (b ≤ j ∧ j < b + n) := fun hh => by
 have : j ∈ List.range' b n := by rw [List.mem_range'_1]; exact hh
 rw [aN.2 this] at h; cases h
theorem qt {h h' : List aq} {b j : Nat} {o : aq} (hn : dc j (List.range' b 1) = false) (hh : (some ([], h.set b o) : OR) = some ([], h')) : h'[j]? = h[j]? := by
 injection hh with hh; injection hh with _ hh
 rw [← hh, List.getElem?_set_ne]
 have := AY hn; omega
theorem vZ {j : Nat} {l m : List Nat} (h : dc j (l ++ m) = false) : dc j l = false ∧ dc j m = false := by
 have h1 : j ∉ l ++ m := fun hm => by rw [aN.2 hm] at h; cases h
 rw [List.mem_append, not_or] at h1
 refine ⟨?_, ?_⟩
 ·cases hh : dc j l with
  | false => rfl
  | true => exact absurd (aN.1 hh) h1.1
 ·cases hh : dc j m with
  | false => rfl
  | true => exact absurd (aN.1 hh) h1.2
theorem yv {o : Oper} {ρ : Operand → AV} {h h' : List aq} {v : AV} {fp : List Nat} {j : Nat} (hev : ∀ k', oq P F D o ρ h b k' = k' v h') (hj : dc j fp = true)
   (hn : dc j (writes o fp b (fO P D o)) = false) : h'[j]? = h[j]? := by
 have hk := hev fun _ h => some ([], h)
 obtain ⟨dst, op, ty, pos, aft, gd⟩ := o
 unfold writes at hn
 obtain ⟨hn1, hn2⟩ := vZ hn
 have same : ∀ {h1 : List aq}, h1 = h → h1[j]? = h[j]? := fun e => by rw [e]
 have same' : (some ([], h) : OR) = some ([], h') → h'[j]? = h[j]? := fun e => by injection e with e; injection e with _ e; rw [e]
 cases op <;> simp only [oq] at hk <;> simp only [fO] at hn2
 case move => exact same' hk
 case assign => exact same' hk
 case pick =>
  split at hk
  ·rcases cg hk with ⟨_, hk⟩ | ⟨_, hk⟩ <;> exact same' hk
  ·cases hk
 case alloc => obtain ⟨z, _, hk⟩ := bind_some hk; exact qt hn2 hk
 case box => obtain ⟨z, _, hk⟩ := bind_some hk; exact qt hn2 hk
 case build => exact same (E7 (sW P _ _) hk)
 case buildSlice => rw [hj] at hn1; cases hn1
 case load => exact same (E7 (wL P _ _ _) hk)
 case store => rw [hj] at hn1; cases hn1
 case nilCheck => exact same (ou (BD _ _) hk)
 case binOp => exact same (ou (BI P _ _ _ _) hk)
 case unOp => exact same (ou (DP _ _) hk)
 case convert => exact same (ou (wD P _ _ _ _) hk)
 case makeFunc =>
  split at hk
  ·obtain ⟨z, _, hk⟩ := bind_some hk; exact same' hk
  ·cases hk
 case makeSlice t x y =>
  unfold pU at hk
  obtain ⟨n, hk, _⟩ := cI _ _ _ hk
  obtain ⟨m, hk, _⟩ := cI _ _ _ hk
  obtain ⟨_, hk⟩ := al hk
  split at hk
  ·obtain ⟨_, hk⟩ := al hk
   obtain ⟨d, _, hk⟩ := bind_some hk
   exact qt hn2 hk
  ·cases hk
 case slice => rw [hj] at hn1; cases hn1
 case fieldAddr =>
  obtain ⟨z, _, hk⟩ := bind_some hk
  exact same (ou (tn _ _ _) hk)
 case indexAddr => exact same (ou (kh P _ _ _ _) hk)
 case index => exact same (ou (r7 P _ _ _) hk)
 case extract => exact same (E7 (nG _ _) hk)
 case call c =>
  obtain ⟨callee, args, tys⟩ := c
  cases callee with
  | builtin bi =>
   simp only at hk
   unfold gn at hk
   split at hk
   ·exact same (ou (Az P _ _ _) hk)
   ·rw [hj] at hn1; cases hn1
   ·exact same (ou (rn _ _ _) hk)
   ·exact same (ou (rn _ _ _) hk)
   ·cases hk
  | invoke q m => cases hk
  | value f => simp only at hn1; rw [hj] at hn1; cases hn1
 all_goals cases hk
theorem yQ {o : Oper} (hl : ni o = true) (ρ : Operand → AV) (h : List aq) (sl : Nat) (k : AV → List aq → OR) : oq P F D o ρ h sl k = oq P F D o ρ [] 0 fun v _ => k v h := by
 obtain ⟨dst, op, ty, pos, aft, gd⟩ := o
 cases op <;> first | rfl | (simp [ni] at hl; done)
theorem pY {o : Oper} (hl : ni o = true) : fO P D o = 0 := by
 obtain ⟨dst, op, ty, pos, aft, gd⟩ := o
 cases op <;> first | rfl | (simp [ni] at hl; done)
def sT : GO → Bool | .fresh => false | _ => true
theorem RS.refs {G : List GO} {Z : bn} {v : SV} {X : Value} (h : RS G Z w v X) : ∀ j ∈ kV v, ∃ g, G[j]? = some g ∧ sT g = true := by
 intro j hj
 cases v with
 | own i v =>
  simp only [kV, List.mem_singleton] at hj; subst hj
  rcases h with h | ⟨ver, val, sz, xs, h, _⟩ <;> exact ⟨_, h, rfl⟩
 | ptr i o =>
  simp only [kV, List.mem_singleton] at hj; subst hj
  rcases h with h | ⟨bb, T, vs, h, _⟩ <;> exact ⟨_, h, rfl⟩
 | op i v n o =>
  simp only [kV, List.mem_singleton] at hj; subst hj
  rcases h with h | ⟨ver, val, sz, xs, h, _⟩ <;> exact ⟨_, h, rfl⟩
 | fn f l =>
  obtain ⟨bs, _, hh⟩ := h
  obtain ⟨i, hi⟩ := List.getElem?_of_mem (show j ∈ l from hj)
  obtain ⟨bb, _, hr⟩ := hh.get hi
  rcases hr with h | ⟨T, vs, h⟩ <;> exact ⟨_, h, rfl⟩
 | _ => simp [kV] at hj
theorem RV.refs {G : List GO} {Z : bn} {v : AV} {X : Value} (h : RV G Z w v X) : ∀ j ∈ l6 v, ∃ g, G[j]? = some g ∧ sT g = true := by
 have one : ∀ {v : V1} {X : Value}, RV1 G Z w v X → ∀ j ∈ yL v, ∃ g, G[j]? = some g ∧ sT g = true := by
  intro v X h j hj
  cases v with
  | one x => exact h.1.refs j hj
  | agg l =>
   obtain ⟨xs, _, hh⟩ := h
   obtain ⟨x, hx, hj⟩ := List.mem_flatMap.1 hj
   obtain ⟨i, hi⟩ := List.getElem?_of_mem hx
   obtain ⟨y, _, hr⟩ := hh.get hi
   exact hr.1.refs j hj
 intro j hj
 cases v with
 | v x => exact one h j hj
 | tup l =>
  obtain ⟨xs, _, hh⟩ := h
  obtain ⟨x, hx, hj⟩ := List.mem_flatMap.1 hj
  obtain ⟨i, hi⟩ := List.getElem?_of_mem hx
  obtain ⟨y, _, hr⟩ := hh.get hi
  exact one hr j hj
def gU (G : List GO) : List Nat := (List.range G.length).filter fun j => match G[j]? with | some g => sT g | none => false
theorem mA {G : List GO} {j : Nat} : j ∈ gU G ↔ ∃ g, G[j]? = some g ∧ sT g = true := by
 unfold gU
 rw [List.mem_filter, List.mem_range]
 constructor
 ·rintro ⟨h1, h2⟩
  rw [List.getElem?_eq_getElem h1] at h2 ⊢
  exact ⟨_, rfl, h2⟩
 ·rintro ⟨g, h1, h2⟩
  have hl := aC h1
  rw [h1]
  exact ⟨hl, h2⟩
theorem z9 (hF : dV P F) (hib : ∀ f, D.ib f = true → jZ P f) (hst : St w0 M Z0 (aU s.heap G) (B9 s G tv) w) (hm : ∀ k, M k → Z0 k) {o : Oper} {v : AV} {h' : List aq} {Q : Exit → Act → World → Prop}
   (hl : ni o = true) (hev : ∀ k', oq P F D o s.ev [] 0 k' = k' v h') (hr : (l6 v).all (dc · (refsOf s o)) = true) :
   o.wp P ⟨tv.toArray, []⟩ w (fun a' w' => ∃ G' tv', a' = ⟨tv'.toArray, []⟩ ∧ St w0 M Z0 (aU s.heap G') (B9 (AS.put s o.dst v) G' tv') w' ∧ (∀ j : Nat, G[j]? = some GO.fresh → G'[j]? = some GO.fresh) ∧ Up G G') Q := by
 have hper := hst.per
 have hop : ∀ j ∈ refsOf s o, j ∈ gU G := by
  intro j hj
  obtain ⟨x, _, hj⟩ := List.mem_flatMap.1 hj
  have hI : bq w0 M Z0 s.heap.length G s tv w := ⟨hst, fun j h1 h2 => by rw [hper.2.1] at h1; omega, hm⟩
  exact mA.2 ((hI.ev x).refs j hj)
 have hheap : ∀ (h2 : List aq), (∀ j : Nat, j ∈ gU G → h2[j]? = s.heap[j]?) → ∀ j ∈ gU G, ∀ i ∈ rC h2[j]?, i ∈ gU G := by
  intro h2 he j hj i hi
  rw [he j hj] at hi
  cases ho : s.heap[j]? with
  | none => rw [ho] at hi; simp [rC] at hi
  | some ob =>
   rw [ho] at hi
   obtain ⟨g, hg, hro⟩ := hper.2.get ho
   cases ob with
   | cells l =>
    cases g with
    | cells bb T vs =>
     obtain ⟨x, hx, hi⟩ := List.mem_flatMap.1 hi
     obtain ⟨q, hq⟩ := List.getElem?_of_mem hx
     obtain ⟨y, _, hr⟩ := aw.get hro hq
     exact mA.2 (hr.1.refs i hi)
    | _ => exact hro.elim
   | arr e d ver fz => simp [rC] at hi
   | dead => simp [rC] at hi
 have honly : ∀ j ∈ gU G, (dL (gU G) 0 s.heap)[j]? = s.heap[j]? := by
  intro j hj
  rw [gm, Nat.zero_add, aN.2 hj]
  cases s.heap[j]? <;> rfl
 have hmix : iL (gU G) 0 s.heap (dL (gU G) 0 s.heap) = s.heap := by
  refine List.ext_getElem? fun j => ?_
  cases hj : dc j (gU G) with
  | false => exact mB (by rw [Nat.zero_add]; exact hj)
  | true => rw [u9 (by rw [Nat.zero_add]; exact hj) (eS _ _ _)]; exact honly j (aN.1 hj)
 have clos : ∀ (h2 : List aq) (rf : List Nat), (∀ j ∈ rf, j ∈ gU G) → (∀ j : Nat, j ∈ gU G → h2[j]? = s.heap[j]?) → ma h2 (gU G) rf = true := by
  intro h2 rf h1 he
  simp only [ma, Bool.and_eq_true, List.all_eq_true, aN]
  exact ⟨h1, hheap h2 he⟩
 have hrf : ∀ j ∈ l6 v, j ∈ gU G := by
  intro j hj
  rw [List.all_eq_true] at hr
  exact hop j (aN.1 (hr j hj))
 have := nR (b := s.heap.length) (fp := gU G) (h' := dL (gU G) 0 s.heap) (v := v) (Q := Q) (P := P) (F := F) (D := D) (o := o) hF hib hst hm
  (fun j h1 h2 => by rw [pY hl] at h2; omega) (by rw [pY hl]; exact Nat.le_refl _)
  (fun j hj => by
   obtain ⟨g, hg, _⟩ := mA.1 hj
   have := aC hg
   have := hper.2.1
   omega)
  (clos _ _ hop fun _ _ => rfl)
  (fun k' => by rw [yQ hl, hev]) (clos _ _ hrf honly)
 rw [hmix] at this
 refine Oper.wp_mono (fun a' w' hh => ?_) this
 obtain ⟨G', tv', h1, h2, h3, h4⟩ := hh
 refine ⟨G', tv', h1, h2, fun j hj => ?_, h4⟩
 rw [h3 j ?_]; exact hj
 cases hh : dc j (gU G) with
 | false => rfl
 | true =>
  obtain ⟨g, hg, ht⟩ := mA.1 (aN.1 hh)
  rw [hj] at hg
  obtain rfl := Option.some.inj hg
  cases ht
end
end Go.Ab
namespace Go.Ab
open Go Go.Dk
structure Eff where
 want : Bool
 on : Bool
 fp : List Nat
 wr : List Nat
 b : Nat
 v : AV
 h : List aq
def Eff.app (d : Option Tmp) (e : Eff) (s : AS) : AS := AS.put { s with heap := iL e.wr 0 s.heap e.h } d e.v
def cL : List (Oper × Eff) → Nat → (Nat → Bool) → AS → AS
 | [], _, _, s => s
 | x :: l, i, L, s => cL l (i + 1) L (cond (L i) (x.2.app x.1.dst s) s)
theorem j4 (js : List Nat) : ∀ (h h' : List aq) (i j : Nat), (iL js i h h')[j]? = cond (dc (i + j) js) (h[j]?.map fun o => h'[j]?.getD o) h[j]?
 | [], _, i, j => by simp [iL]
 | o :: h, [], i, j => by
  have : (fun o : aq => ([] : List aq)[j]?.getD o) = id := by funext o; simp
  rw [this, iL]
  ·cases dc (i + j) js <;> simp
  ·simp
 | o :: h, o' :: h', i, 0 => by simp only [Nat.add_zero, iL, List.getElem?_cons_zero, Option.map_some, Option.getD_some]; cases dc i js <;> rfl
 | o :: h, o' :: h', i, j + 1 => by
  simp only [iL, List.getElem?_cons_succ]
  rw [j4 js h h' (i + 1) j, show i + 1 + j = i + (j + 1) by omega]
theorem AS.ext {s t : AS} (h1 : s.tmps = t.tmps) (h2 : s.heap = t.heap) : s = t := by cases s; cases t; simp_all
theorem mw (d : Option Tmp) (e : Eff) (s : AS) : (e.app d s).heap = iL e.wr 0 s.heap e.h := gL _ _ _
theorem mn (d : Option Tmp) (e : Eff) (s : AS) : (e.app d s).tmps = (match d with | some d => s.tmps.set d e.v | none => s.tmps) := by cases d <;> rfl
def Ho (d : Option Tmp) (e : Eff) (d' : Option Tmp) (e' : Eff) : Prop := (∀ q, d = some q → d' ≠ some q) ∧ ∀ j, j ∈ e.wr → j ∉ e'.wr
theorem CG {d d' : Option Tmp} {e e' : Eff} (h : Ho d e d' e') (s : AS) : e.app d (e'.app d' s) = e'.app d' (e.app d s) := by
 refine AS.ext ?_ ?_
 ·simp only [mn]
  cases d with
  | none => cases d' <;> rfl
  | some q => cases d' with
   | none => rfl
   | some q' => exact List.set_comm _ _ fun hq => h.1 q rfl (by rw [← hq])
 ·simp only [mw]
  refine List.ext_getElem? fun j => ?_
  simp only [j4, Nat.zero_add]
  cases h1 : dc j e.wr with
  | false => cases h2 : dc j e'.wr <;> rfl
  | true => cases h2 : dc j e'.wr with
   | false => rfl
   | true => exact absurd (aN.1 h2) (h.2 j (aN.1 h1))
theorem kW {L : Nat → Bool} : ∀ {l : List (Oper × Eff)} {i : Nat} {s : AS}, (∀ q, i ≤ q → L q = false) → cL l i L s = s
 | [], _, _, _ => rfl
 | x :: l, i, s, h => by simp only [cL, h i (Nat.le_refl i), cond_false]; exact kW fun q hq => h q (by omega)
theorem jw {L L' : Nat → Bool} : ∀ {l : List (Oper × Eff)} {i : Nat} {s : AS}, (∀ q, i ≤ q → q < i + l.length → L q = L' q) → cL l i L s = cL l i L' s
 | [], _, _, _ => rfl
 | x :: l, i, s, h => by
  simp only [cL, h i (Nat.le_refl i) (by simp)]
  exact jw fun q hq hl => h q (by omega) (by simp only [List.length_cons]; omega)
theorem n9 {L : Nat → Bool} : ∀ {l : List (Oper × Eff)} {i : Nat} {s : AS}, (cL l i L s).heap.length = s.heap.length
 | [], _, _ => rfl
 | x :: l, i, s => by
  simp only [cL]; rw [n9]
  cases L i with
  | false => rfl
  | true => rw [cond_true, mw, jx]
theorem kH {L : Nat → Bool} {d : Option Tmp} {e : Eff} : ∀ {l : List (Oper × Eff)} {i : Nat} {s : AS},
   (∀ q x, l[q]? = some x → L (i + q) = true → Ho d e x.1.dst x.2) → cL l i L (e.app d s) = e.app d (cL l i L s)
 | [], _, _, _ => rfl
 | x :: l, i, s, h => by
  simp only [cL]
  have h' : ∀ q y, l[q]? = some y → L (i + 1 + q) = true → Ho d e y.1.dst y.2 := fun q y hy hL => h (q + 1) y (by simpa using hy) (by rw [show i + (q + 1) = i + 1 + q by omega]; exact hL)
  cases hL : L i with
  | false => exact kH h'
  | true =>
   simp only [cond_true]
   rw [← CG (h 0 x rfl hL), kH h']
theorem tT {L : Nat → Bool} {o : Oper} {e : Eff} : ∀ {l : List (Oper × Eff)} {i p : Nat} {s : AS}, l[p]? = some (o, e) → L (i + p) = false →
   (∀ q x, p < q → l[q]? = some x → L (i + q) = true → Ho o.dst e x.1.dst x.2) → cL l i (fun q => L q || Nat.beq q (i + p)) s = e.app o.dst (cL l i L s)
 | [], _, _, _, h, _, _ => by simp at h
 | x :: l, i, 0, s, h, hL, hf => by
  simp only [List.getElem?_cons_zero, Option.some.injEq] at h
  subst h
  simp only [Nat.add_zero] at hL
  simp only [cL, Nat.add_zero, hL, Nat.beq_refl, Bool.or_true, cond_true, cond_false]
  rw [← kH fun q x hx hLq => hf (q + 1) x (by omega) (by simpa using hx) (by rw [show i + (q + 1) = i + 1 + q by omega]; exact hLq)]
  refine jw fun q hq _ => ?_
  have : Nat.beq q i = false := by cases hb : Nat.beq q i with | false => rfl | true => simp only [Nat.beq_eq] at hb; omega
  simp [this]
 | x :: l, i, p + 1, s, h, hL, hf => by
  have hb : Nat.beq i (i + (p + 1)) = false := by cases hb : Nat.beq i (i + (p + 1)) with | false => rfl | true => simp only [Nat.beq_eq] at hb; omega
  simp only [cL, hb, Bool.or_false]
  have he : i + (p + 1) = i + 1 + p := by omega
  rw [he]
  exact tT (by simpa using h) (by rw [← he]; exact hL) fun q x hq hx hLq => hf (q + 1) x (by omega) (by simpa using hx) (by rw [show i + (q + 1) = i + 1 + q by omega]; exact hLq)
theorem pW {L L' : Nat → Bool} {j : Nat} : ∀ {l : List (Oper × Eff)} {i : Nat} {s s' : AS}, s.heap[j]? = s'.heap[j]? →
   (∀ q x, l[q]? = some x → L (i + q) ≠ L' (i + q) → j ∉ x.2.wr) → (cL l i L s).heap[j]? = (cL l i L' s').heap[j]?
 | [], _, _, _, hs, _ => hs
 | x :: l, i, s, s', hs, h => by
  simp only [cL]
  refine pW ?_ fun q y hy hne => h (q + 1) y (by simpa using hy) (by rw [show i + (q + 1) = i + 1 + q by omega]; exact hne)
  have hap : ∀ t : AS, j ∉ x.2.wr → (x.2.app x.1.dst t).heap[j]? = t.heap[j]? := fun t hj => by
   rw [mw]; exact mB (by cases hh : dc (0 + j) x.2.wr with | false => rfl | true => rw [Nat.zero_add] at hh; exact absurd (aN.1 hh) hj)
  cases h1 : L i <;> cases h2 : L' i <;> simp only [cond_true, cond_false]
  ·exact hs
  ·rw [hap _ (h 0 x rfl (by simp [h1, h2]))]; exact hs
  ·rw [hap _ (h 0 x rfl (by simp [h1, h2]))]; exact hs
  ·simp only [mw, j4, hs]
theorem pX {L L' : Nat → Bool} {t : Nat} : ∀ {l : List (Oper × Eff)} {i : Nat} {s s' : AS}, s.tmps[t]? = s'.tmps[t]? →
   (∀ q x, l[q]? = some x → L (i + q) ≠ L' (i + q) → x.1.dst ≠ some t) → (cL l i L s).tmps[t]? = (cL l i L' s').tmps[t]?
 | [], _, _, _, hs, _ => hs
 | x :: l, i, s, s', hs, h => by
  simp only [cL]
  refine pX ?_ fun q y hy hne => h (q + 1) y (by simpa using hy) (by rw [show i + (q + 1) = i + 1 + q by omega]; exact hne)
  have hap : ∀ u : AS, x.1.dst ≠ some t → (x.2.app x.1.dst u).tmps[t]? = u.tmps[t]? := fun u hj => by
   rw [mn]
   split
   ·rename_i d hd; rw [List.getElem?_set_ne (fun e => hj (by rw [hd]; exact congrArg some e))]
   ·rfl
  have hap2 : (x.2.app x.1.dst s).tmps[t]? = (x.2.app x.1.dst s').tmps[t]? := by
   rw [mn, mn]
   split
   ·rename_i d hd
    by_cases hdt : d = t
    ·subst hdt
     rw [List.getElem?_set_self', List.getElem?_set_self', hs]
    ·rw [List.getElem?_set_ne hdt, List.getElem?_set_ne hdt]; exact hs
   ·exact hs
  cases h1 : L i <;> cases h2 : L' i <;> simp only [cond_true, cond_false]
  ·exact hs
  ·rw [hap _ (h 0 x rfl (by simp [h1, h2]))]; exact hs
  ·rw [hap _ (h 0 x rfl (by simp [h1, h2]))]; exact hs
  ·exact hap2
def Guard (ops : List Oper) (o : Oper) (s : AS) (on : Bool) : Prop :=
 match o.guard with
 | none => on = true
 | some (j, want) => ∃ d, ops[j]?.bind (·.dst) = some d ∧ ((∃ bb, s.tmps[d]? = some (iZ bb) ∧ on = (bb == want)) ∨ (s.tmps[d]? = some Ei ∧ on = false))
theorem BB {ops : List Oper} {o : Oper} {s : AS} {yes no : AS → OR} {r : List V1 × List aq} (h : y0 ops s o.guard yes no = some r) :
   ∃ on, Guard ops o s on ∧ (on = true → yes s = some r) ∧ (on = false → no s = some r) := by
 unfold y0 at h
 unfold Guard
 split at h
 ·rename_i hg; exact ⟨true, by rw [hg], fun _ => h, nofun⟩
 ·rename_i j want hg
  rw [hg]
  split at h
  ·rename_i d hd
   split at h
   ·rename_i bb hb
    have hdl : s.tmps[d]? = some (.v (.one (.bool bb))) := by
     cases hs : s.tmps[d]? with
     | none => simp [List.getD, hs, aa] at hb
     | some v => simp [List.getD, hs] at hb; rw [hb]
    have hput : ∀ c, c = bb → s.put (some d) (iZ c) = s := by
     rintro c rfl
     show AS.mk (s.tmps.set d _) s.heap = s
     have : s.tmps.set d (iZ c) = s.tmps := iP hdl
     rw [this]
    refine ⟨bb == want, ⟨d, hd, .inl ⟨bb, hdl, rfl⟩⟩, ?_, ?_⟩
    ·cases bb <;> cases want <;> simp only [cond_true, cond_false] at h <;> intro he <;> first | (cases he; done) | (rw [hput _ rfl] at h; exact h)
    ·cases bb <;> cases want <;> simp only [cond_true, cond_false] at h <;> intro he <;> first | (cases he; done) | (rw [hput _ rfl] at h; exact h)
   ·rename_i hb
    have hdl : s.tmps[d]? = some Ei := by
     cases hs : s.tmps[d]? with
     | none => simp [List.getD, hs, aa] at hb
     | some v => simp [List.getD, hs] at hb; rw [hb]; rfl
    exact ⟨false, ⟨d, hd, .inr ⟨hdl, rfl⟩⟩, nofun, fun _ => h⟩
   ·cases h
  ·cases h
def xE (P : Program) (F : Callee) (D : Dec) (ops : List Oper) (o : Oper) (e : Eff) (s : AS) : Prop :=
 Guard ops o s e.want ∧
 (e.on = true → e.want = true ∧ e.wr = writes o e.fp e.b (fO P D o) ∧ (∀ j, e.b ≤ j → j < e.b + fO P D o → j ∈ e.fp) ∧ (∀ j ∈ e.fp, j < e.b + fO P D o) ∧
  ma s.heap e.fp (refsOf s o) = true ∧ (∀ k', oq P F D o s.ev (dL e.fp 0 s.heap) e.b k' = k' e.v e.h) ∧ ma e.h e.fp (l6 e.v) = true) ∧
 (e.on = false → e.wr = [] ∧ (e.want = false → e.v = Ei) ∧ (e.want = true → ni o = true ∧ (l6 e.v).all (dc · (refsOf s o)) = true ∧ ∃ h', ∀ k', oq P F D o s.ev [] 0 k' = k' e.v h'))
theorem mq : ∀ (i : Nat) (h h' : List aq), iL [] i h h' = h
 | _, [], _ => by simp [iL]
 | _, _ :: _, [] => by simp [iL]
 | i, o :: h, o' :: h' => by simp only [iL, dc, cond_false, mq (i + 1) h h']
theorem qe {P : Program} {F : Callee} {D : Dec} {ops : List Oper} {an : List (List Nat)} {k : AS → OR} {r : List V1 × List aq} : ∀ {l : List Oper} {i : Nat} {ds : List FN} {b : Nat} {s : AS},
   Dh P F D ops an l i ds b s k = some r → ∃ es : List Eff, es.length = l.length ∧ k (cL (l.zip es) i (fun _ => true) s) = some r ∧
    (∀ p o e, (l.zip es)[p]? = some (o, e) → e.b = b + room P D (l.take p) ∧ xE P F D ops o e (cL (l.zip es) i (fun q => Nat.blt q (i + p)) s)) ∧
    (∀ p o e, (l.zip es)[p]? = some (o, e) → e.on = true → ∀ d ∈ ds, jX (an.getD (i + p) []) e.fp e.wr d = true) ∧
    (∀ p q o e o' e', p < q → (l.zip es)[p]? = some (o, e) → (l.zip es)[q]? = some (o', e') → e.on = true → e'.on = true → jX (an.getD (i + q) []) e'.fp e'.wr ⟨i + p, e.fp, e.wr⟩ = true)
 | [], i, ds, b, s, h => ⟨[], rfl, h, fun p o e hp => by simp at hp, fun p o e hp => by simp at hp, fun p q o e o' e' _ hp => by simp at hp⟩
 | o :: l, i, ds, b, s, h => by
  unfold Dh at h
  obtain ⟨on, hg, h1, h2⟩ := BB h
  -- what is left, behind the first
  have rest : ∀ (e : Eff) (ds' : List FN), e.b = b → xE P F D ops o e s → (∀ d ∈ ds, d ∈ ds') → (e.on = true → (∀ d ∈ ds, jX (an.getD i []) e.fp e.wr d = true) ∧ (⟨i, e.fp, e.wr⟩ : FN) ∈ ds') →
     Dh P F D ops an l (i + 1) ds' (b + fO P D o) (e.app o.dst s) k = some r → ∃ es : List Eff, es.length = (o :: l).length ∧ k (cL ((o :: l).zip es) i (fun _ => true) s) = some r ∧
   (∀ p o' e, ((o :: l).zip es)[p]? = some (o', e) → e.b = b + room P D ((o :: l).take p) ∧ xE P F D ops o' e (cL ((o :: l).zip es) i (fun q => Nat.blt q (i + p)) s)) ∧
   (∀ p o' e, ((o :: l).zip es)[p]? = some (o', e) → e.on = true → ∀ d ∈ ds, jX (an.getD (i + p) []) e.fp e.wr d = true) ∧
   (∀ p q o1 e o' e', p < q → ((o :: l).zip es)[p]? = some (o1, e) → ((o :: l).zip es)[q]? = some (o', e') → e.on = true → e'.on = true → jX (an.getD (i + q) []) e'.fp e'.wr ⟨i + p, e.fp, e.wr⟩ = true) := by
   intro e ds' heb hst hds hok hrun
   obtain ⟨es, a1, a2, a3, a4, a5⟩ := qe hrun
   refine ⟨e :: es, by simp [a1], ?_, ?_, ?_, ?_⟩
   ·simpa only [List.zip_cons_cons, cL, cond_true] using a2
   ·intro p o' e' hp
    cases p with
    | zero =>
     simp only [List.zip_cons_cons, List.getElem?_cons_zero, Option.some.injEq, Prod.mk.injEq] at hp
     obtain ⟨rfl, rfl⟩ := hp
     refine ⟨by simp [heb, room], ?_⟩
     rw [kW]
     ·exact hst
     ·intro q hq
      cases hb : Nat.blt q (i + 0) with
      | false => rfl
      | true => rw [Nat.blt_eq] at hb; omega
    | succ p =>
     simp only [List.zip_cons_cons, List.getElem?_cons_succ] at hp
     obtain ⟨c1, c2⟩ := a3 p o' e' hp
     refine ⟨by rw [c1]; simp only [List.take_succ_cons, room]; omega, ?_⟩
     have hbl : Nat.blt i (i + (p + 1)) = true := by rw [Nat.blt_eq]; omega
     simp only [List.zip_cons_cons, cL, hbl, cond_true]
     rw [show i + (p + 1) = i + 1 + p by omega]; exact c2
   ·intro p o' e' hp hon' d hd
    cases p with
    | zero =>
     simp only [List.zip_cons_cons, List.getElem?_cons_zero, Option.some.injEq, Prod.mk.injEq] at hp
     obtain ⟨rfl, rfl⟩ := hp
     exact (hok hon').1 d hd
    | succ p =>
     simp only [List.zip_cons_cons, List.getElem?_cons_succ] at hp
     have := a4 p o' e' hp hon' d (hds d hd)
     rw [show i + (p + 1) = i + 1 + p by omega]; exact this
   ·intro p q o1 e1 o' e' hpq hp hq hon1 hon'
    cases q with
    | zero => omega
    | succ q =>
     simp only [List.zip_cons_cons, List.getElem?_cons_succ] at hq
     rw [show i + (q + 1) = i + 1 + q by omega]
     cases p with
     | zero =>
      simp only [List.zip_cons_cons, List.getElem?_cons_zero, Option.some.injEq, Prod.mk.injEq] at hp
      obtain ⟨rfl, rfl⟩ := hp
      exact a4 q o' e' hq hon' _ (hok hon1).2
     | succ p =>
      simp only [List.zip_cons_cons, List.getElem?_cons_succ] at hp
      have := a5 p q o1 e1 o' e' (by omega) hp hq hon1 hon'
      rw [show i + (p + 1) = i + 1 + p by omega]; exact this
  cases on with
  | false =>
   have h := h2 rfl
   refine rest ⟨false, false, [], [], b, Ei, []⟩ ds rfl ⟨hg, nofun, fun _ => ⟨rfl, fun _ => rfl, nofun⟩⟩ (fun d hd => hd) nofun ?_
   unfold Eff.app
   simp only [mq]
   exact h
  | true =>
   have h := h1 rfl
   simp only at h
   rcases cg h with ⟨hl, h⟩ | ⟨_, h⟩
   ·obtain ⟨v, h', h, hk⟩ := DL P F D o s.ev _ _ _ _ h
    obtain ⟨hr, h⟩ := al h
    refine rest ⟨true, false, [], [], b, v, []⟩ ds rfl ⟨hg, nofun, fun _ => ⟨rfl, nofun, fun _ => ⟨hl, hr, h', hk⟩⟩⟩ (fun d hd => hd) nofun ?_
    unfold Eff.app
    simp only [mq]
    exact h
   obtain ⟨hc, h⟩ := al h
   simp only [Bool.and_eq_true, List.all_eq_true, Nat.blt_eq] at hc
   obtain ⟨hc1, hc2, hc3⟩ := hc
   obtain ⟨v, h', h, hk⟩ := DL P F D o s.ev _ b _ _ h
   obtain ⟨hcl, h⟩ := al h
   refine rest ⟨true, true, _, _, b, v, h'⟩ _ rfl ⟨hg, fun _ => ⟨rfl, rfl, fun j hj hl => ?_, fun j hj => ?_, hc1, hk, hcl⟩, nofun⟩ (fun d hd => List.mem_cons_of_mem _ hd) (fun _ => ⟨hc3, List.mem_cons_self ..⟩) h
   ·exact List.mem_append.2 (.inr (by rw [List.mem_range'_1]; exact ⟨hj, hl⟩))
   ·rcases List.mem_append.1 hj with hj | hj
    ·exact Nat.lt_of_lt_of_le (hc2 j hj) (Nat.le_add_right _ _)
    ·rw [List.mem_range'_1] at hj; exact hj.2
end Go.Ab
namespace Go.Ab
open Go Go.Dk
theorem fE {a b : List Nat} (h : meets a b = false) {j : Nat} (hj : j ∈ a) : j ∉ b := fun hb => by
 simp only [meets, List.any_eq_false] at h
 exact h j hj (aN.2 hb)
theorem lH {ops : List Oper} {anc : List Nat} {i : Nat} {o : Oper} : ∀ {l : List Oper} {k : Nat}, kq ops anc i o l k = true → ∀ p x, l[p]? = some x → k + p < i → dc (k + p) anc = true ∨ th ops x o = true
 | [], k, h, p, x, hx, hp => by simp at hx
 | y :: l, k, h, p, x, hx, hp => by
  unfold kq at h
  have : Nat.blt k i = true := by rw [Nat.blt_eq]; omega
  rw [this, cond_true, Bool.and_eq_true, Bool.or_eq_true] at h
  cases p with
  | zero => simp only [List.getElem?_cons_zero, Option.some.injEq] at hx; subst hx; exact h.1
  | succ p =>
   have := lH h.2 p x (by simpa using hx) (by omega)
   rw [show k + (p + 1) = k + 1 + p by omega]; exact this
theorem nn {ops : List Oper} {an : List (List Nat)} : ∀ {l : List Oper} {i : Nat}, um ops an l i = true → ∀ p o, l[p]? = some o → Dz o = true ∧ xh an (i + p) o = true ∧ kq ops (an.getD (i + p) []) (i + p) o ops 0 = true
 | [], i, h, p, o, ho => by simp at ho
 | y :: l, i, h, p, o, ho => by
  unfold um at h
  simp only [Bool.and_eq_true] at h
  cases p with
  | zero => simp only [List.getElem?_cons_zero, Option.some.injEq] at ho; subst ho; exact ⟨h.1, h.2.1, h.2.2.1⟩
  | succ p =>
   have := nn h.2.2.2 p o (by simpa using ho)
   rw [show i + (p + 1) = i + 1 + p by omega]; exact this
theorem pg {an : List (List Nat)} {i : Nat} {o : Oper} (h : xh an i o = true) : (∀ e ∈ o.after, Region.binds .any e = true → e.on < i) ∧
   ∀ a ∈ an.getD i [], ∃ e ∈ o.after, Region.binds .any e = true ∧ (a = e.on ∨ a ∈ an.getD e.on []) := by
 simp only [xh, Bool.and_eq_true, List.all_eq_true, List.any_eq_true, Bool.or_eq_true, Nat.beq_eq, aN] at h
 refine ⟨fun e he hb => ?_, fun a ha => ?_⟩
 ·have := h.1 e (by simpa using he)
  rw [hb, cond_true, Nat.blt_eq] at this; exact this
 ·obtain ⟨e, he, hb, hh⟩ := h.2 a ha
  exact ⟨e, by simpa using he, hb, hh⟩
theorem p6 {ops : List Oper} {x y : Oper} (h : th ops x y = true) : (∀ d, x.dst = some d → d ∉ lE ops y) ∧ (∀ d, x.dst = some d → y.dst ≠ some d) ∧ (∀ d, y.dst = some d → d ∉ lE ops x) := by
 simp only [th, Bool.and_eq_true, Bool.not_eq_true'] at h
 refine ⟨fun d hd => fE h.1 (by simp [Dd, hd]), fun d hd he => ?_, fun d hd => fE h.2.2 (by simp [Dd, hd])⟩
 exact fE h.2.1 (j := d) (by simp [Dd, hd]) (by simp [Dd, he])
theorem oa {P : Program} {D : Dec} : ∀ {l : List Oper} {p : Nat} {o : Oper}, l[p]? = some o → ∀ q, p < q → room P D (l.take p) + fO P D o ≤ room P D (l.take q)
 | [], p, o, h, q, hq => by simp at h
 | x :: l, 0, o, h, q + 1, hq => by
  simp only [List.getElem?_cons_zero, Option.some.injEq] at h; subst h
  simp only [List.take_zero, room, List.take_succ_cons]; omega
 | x :: l, p + 1, o, h, q + 1, hq => by
  have := oa (P := P) (D := D) (l := l) (p := p) (by simpa using h) q (by omega)
  simp only [List.take_succ_cons, room]; omega
theorem room_le {P : Program} {D : Dec} : ∀ {l : List Oper} {p : Nat} {o : Oper}, l[p]? = some o → room P D (l.take p) + fO P D o ≤ room P D l
 | l, p, o, h => by
  have hp : p < l.length := by
   rcases Nat.lt_or_ge p l.length with h' | h'
   ·exact h'
   ·rw [List.getElem?_eq_none h'] at h; cases h
  have := oa (P := P) (D := D) h l.length hp
  rwa [List.take_length] at this
theorem FU {P : Program} {D : Dec} {o : Oper} {fp : List Nat} {b : Nat} (h : ∀ j, b ≤ j → j < b + fO P D o → j ∈ fp) : ∀ j ∈ writes o fp b (fO P D o), j ∈ fp := by
 intro j hj
 unfold writes at hj
 rcases List.mem_append.1 hj with hj | hj
 ·split at hj
  ·exact hj
  ·exact hj
  ·exact hj
  ·split at hj
   ·exact hj
   ·cases hj
   ·exact hj
  ·cases hj
 ·rw [List.mem_range'_1] at hj; exact h j hj.1 hj.2
theorem Cn {P : Program} {D : Dec} {o : Oper} {fp : List Nat} {b j : Nat} (h1 : b ≤ j) (h2 : j < b + fO P D o) : j ∈ writes o fp b (fO P D o) :=
 List.mem_append.2 (.inr (by rw [List.mem_range'_1]; exact ⟨h1, h2⟩))
section
variable {P : Program} {F : Callee} {D : Dec} {w0 : World} {M Z0 : bn} {ops : List Oper} {an : List (List Nat)} {k : AS → OR} {r : List V1 × List aq} {s0 : AS} {es : List Eff} {b0 : Nat} {G0 : List GO} {Q : Exit → Act → World → Prop}
structure Trace (P : Program) (F : Callee) (D : Dec) (ops : List Oper) (an : List (List Nat)) (b0 : Nat) (s0 : AS) (es : List Eff) : Prop where
 len : es.length = ops.length
 step : ∀ p o e, (ops.zip es)[p]? = some (o, e) → e.b = b0 + room P D (ops.take p) ∧ xE P F D ops o e (cL (ops.zip es) 0 (fun q => Nat.blt q p) s0)
 ok : ∀ p q o e o' e', p < q → (ops.zip es)[p]? = some (o, e) → (ops.zip es)[q]? = some (o', e') → e.on = true → e'.on = true → jX (an.getD q []) e'.fp e'.wr ⟨p, e.fp, e.wr⟩ = true
structure FK (P : Program) (D : Dec) (w0 : World) (M Z0 : bn) (ops : List Oper) (an : List (List Nat)) (s0 : AS) (es : List Eff) (G0 : List GO) (L : Nat → Bool) (G : List GO) (tv : List Value) (w : World) : Prop where
 st : St w0 M Z0 (aU (cL (ops.zip es) 0 L s0).heap G) (B9 (cL (ops.zip es) 0 L s0) G tv) w
 mz : ∀ k, M k → Z0 k
 fresh : ∀ p o e, (ops.zip es)[p]? = some (o, e) → e.on = true → L p = false → ∀ j, e.b ≤ j → j < e.b + fO P D o → G[j]? = some .fresh
 down : ∀ p, L p = true → ∀ a ∈ an.getD p [], L a = true
 up : Up G0 G
theorem AT {p : Nat} {o : Oper} {e : Eff} (h : (ops.zip es)[p]? = some (o, e)) : ops[p]? = some o ∧ es[p]? = some e := by
 rw [List.getElem?_zip_eq_some] at h; exact h
theorem CK (hl : es.length = ops.length) {p : Nat} {o : Oper} (h : ops[p]? = some o) : ∃ e, (ops.zip es)[p]? = some (o, e) := by
 have hp : p < es.length := by
  rw [hl]
  rcases Nat.lt_or_ge p ops.length with h' | h'
  ·exact h'
  ·rw [List.getElem?_eq_none h'] at h; cases h
 exact ⟨es[p], by rw [List.getElem?_zip_eq_some]; exact ⟨h, List.getElem?_eq_getElem hp⟩⟩
theorem FK.step (hF : dV P F) (hib : ∀ f, D.ib f = true → jZ P f) (hd : um ops an ops 0 = true) (ht : Trace P F D ops an b0 s0 es) (hroom : b0 + room P D ops ≤ s0.heap.length)
   {L : Nat → Bool} {G : List GO} {tv : List Value} {w : World} (hh : FK P D w0 M Z0 ops an s0 es G0 L G tv w) {i : Nat} {o : Oper} (hi : ops[i]? = some o) (hL : L i = false) (hanc : ∀ e ∈ o.after, Region.binds .any e = true → L e.on = true) :
   wpOp P ops.toArray Q i (fun a' w' => ∃ G' tv', a' = ⟨tv'.toArray, []⟩ ∧ FK P D w0 M Z0 ops an s0 es G0 (fun q => L q || Nat.beq q i) G' tv' w') ⟨tv.toArray, []⟩ w := by
 obtain ⟨e, he⟩ := CK ht.len hi
 obtain ⟨heb, hguard, hon, hoff⟩ := ht.step i o e he
 have hstat := fun p x (hp : ops[p]? = some x) => by have := nn hd p x hp; rw [Nat.zero_add] at this; exact this
 have hancL : ∀ a ∈ an.getD i [], L a = true := by
  intro a ha
  obtain ⟨ed, hed, hb, h⟩ := (pg (hstat i o hi).2.1).2 a ha
  rcases h with rfl | h
  ·exact hanc ed hed hb
  ·exact hh.down _ (hanc ed hed hb) a h
 -- two of them, one ahead of the other in the text
 have hpair : ∀ (p q : Nat) (x y : Oper), p < q → ops[p]? = some x → ops[q]? = some y → p ∈ an.getD q [] ∨ th ops x y = true := by
  intro p q x y hpq hp hq
  have := lH (hstat q y hq).2.2 p x hp (by omega)
  rw [Nat.zero_add] at this
  exact this.imp aN.1 id
 have hwrOff : ∀ (p : Nat) (x : Oper) (y : Eff), (ops.zip es)[p]? = some (x, y) → y.on = false → y.wr = [] := fun p x y hp hy => ((ht.step p x y hp).2.2.2 hy).1
 have hwrfp : ∀ (p : Nat) (x : Oper) (y : Eff), (ops.zip es)[p]? = some (x, y) → y.on = true → ∀ j ∈ y.wr, j ∈ y.fp := by
  intro p x y hp hy
  obtain ⟨_, c1, c2, _⟩ := (ht.step p x y hp).2.2.1 hy
  rw [c1]; exact FU c2
 -- whom it does not meet
 have hfar : ∀ (p : Nat) (x : Oper) (y : Eff), (ops.zip es)[p]? = some (x, y) → p ≠ i → L p = decide (i < p) →
    (∀ d, x.dst = some d → d ∉ lE ops o) ∧ (∀ d, o.dst = some d → x.dst ≠ some d) ∧ (y.on = true → e.on = true → (∀ j ∈ y.wr, j ∉ e.fp) ∧ ∀ j ∈ e.wr, j ∉ y.fp) := by
  intro p x y hp hne hLp
  obtain ⟨hpo, _⟩ := AT hp
  rcases Nat.lt_or_gt_of_ne hne with hlt | hgt
  ·have hLf : L p = false := by rw [hLp]; simp; omega
   have hna : p ∉ an.getD i [] := fun ha => by rw [hancL p ha] at hLf; cases hLf
   have hap := p6 ((hpair p i x o hlt hpo hi).resolve_left hna)
   refine ⟨hap.1, fun d hd hx => hap.2.1 d hx hd, fun h1 h2 => ?_⟩
   have := ht.ok p i x y o e hlt hp he h1 h2
   simp only [jX, Bool.or_eq_true, Bool.and_eq_true, Bool.not_eq_true'] at this
   obtain ⟨c1, c2⟩ := this.resolve_left fun hm => hna (aN.1 hm)
   exact ⟨fun j hj => fE c1 hj, fun j hj => fE c2 hj⟩
  ·have hLt : L p = true := by rw [hLp]; simp; omega
   have hna : i ∉ an.getD p [] := fun ha => by rw [hh.down p hLt i ha] at hL; cases hL
   have hap := p6 ((hpair i p o x hgt hi hpo).resolve_left hna)
   refine ⟨hap.2.2, hap.2.1, fun h1 h2 => ?_⟩
   have := ht.ok i p o e x y hgt he hp h2 h1
   simp only [jX, Bool.or_eq_true, Bool.and_eq_true, Bool.not_eq_true'] at this
   obtain ⟨c1, c2⟩ := this.resolve_left fun hm => hna (aN.1 hm)
   exact ⟨fun j hj => fE c2 hj, fun j hj => fE c1 hj⟩
 have hdiff : ∀ (p : Nat) (x : Oper) (y : Eff), (ops.zip es)[p]? = some (x, y) → Nat.blt p i ≠ L p → p ≠ i ∧ L p = decide (i < p) := by
  intro p x y hp hne
  have hpi : p ≠ i := fun h => by
   subst h
   apply hne; rw [hL]
   cases hb : Nat.blt p p with | false => rfl | true => rw [Nat.blt_eq] at hb; omega
  refine ⟨hpi, ?_⟩
  rcases Nat.lt_or_gt_of_ne hpi with hlt | hgt
  ·have : Nat.blt p i = true := by rw [Nat.blt_eq]; exact hlt
   rw [this] at hne
   have : L p = false := by cases hLp : L p with | false => rfl | true => exact absurd hLp.symm hne
   rw [this]; symm; simp; omega
  ·have : Nat.blt p i = false := by cases hb : Nat.blt p i with | false => rfl | true => rw [Nat.blt_eq] at hb; omega
   rw [this] at hne
   have : L p = true := by cases hLp : L p with | true => rfl | false => exact absurd hLp.symm hne
   rw [this]; symm; simp; omega
 generalize hS : cL (ops.zip es) 0 L s0 = S
 generalize hT : cL (ops.zip es) 0 (fun q => Nat.blt q i) s0 = T at hguard hon hoff
 have hst := hh.st
 rw [hS] at hst
 have hlenS : S.heap.length = s0.heap.length := by rw [← hS]; exact n9
 have hlenT : T.heap.length = s0.heap.length := by rw [← hT]; exact n9
 have htm : ∀ t ∈ lE ops o, T.tmps[t]? = S.tmps[t]? := by
  intro t htl
  rw [← hS, ← hT]
  refine pX rfl fun q x hx hne hd => ?_
  rw [Nat.zero_add] at hne
  obtain ⟨h1, h2⟩ := hdiff q x.1 x.2 hx hne
  exact (hfar q x.1 x.2 hx h1 h2).1 t hd htl
 have hheap : e.on = true → ∀ j ∈ e.fp, T.heap[j]? = S.heap[j]? := by
  intro hone j hj
  rw [← hS, ← hT]
  refine pW rfl fun q x hx hne hw => ?_
  rw [Nat.zero_add] at hne
  obtain ⟨h1, h2⟩ := hdiff q x.1 x.2 hx hne
  cases hxo : x.2.on with
  | false => rw [hwrOff q x.1 x.2 hx hxo] at hw; cases hw
  | true => exact ((hfar q x.1 x.2 hx h1 h2).2.2 hxo hone).1 j hw hj
 have hadd : cL (ops.zip es) 0 (fun q => L q || Nat.beq q i) s0 = e.app o.dst S := by
  have := tT (L := L) (l := ops.zip es) (i := 0) (p := i) (s := s0) he (by rw [Nat.zero_add]; exact hL) (fun q x hq hx hLq => by
   rw [Nat.zero_add] at hLq
   have h2 := hfar q x.1 x.2 hx (by omega) (by rw [hLq]; symm; simpa using hq)
   refine ⟨h2.2.1, fun j hj hj' => ?_⟩
   cases hxo : x.2.on with
   | false => rw [hwrOff q x.1 x.2 hx hxo] at hj'; cases hj'
   | true => cases heo : e.on with
    | false => rw [hwrOff i o e he heo] at hj; cases hj
    | true => exact (h2.2.2 hxo heo).2 j hj (hwrfp q x.1 x.2 hx hxo j hj'))
  rw [hS] at this
  rw [← this]
  simp only [Nat.zero_add]
 have hdown : ∀ p, (fun q => L q || Nat.beq q i) p = true → ∀ a ∈ an.getD p [], (fun q => L q || Nat.beq q i) a = true := by
  intro p hp a ha
  simp only [Bool.or_eq_true, Nat.beq_eq] at hp ⊢
  rcases hp with hp | rfl
  ·exact .inl (hh.down p hp a ha)
  ·exact .inl (hancL a ha)
 -- is it carried out?
 have hwant : Region.wanted o (yielded ops.toArray tv.toArray) = e.want := by
  unfold Guard at hguard
  split at hguard
  ·rename_i hg; rw [hguard]; simp [Region.wanted, hg]
  ·rename_i j want hg
   obtain ⟨d, hdd, hguard⟩ := hguard
   have hdS : ∀ v, T.tmps[d]? = some v → S.tmps[d]? = some v := fun v hv => by
    rw [← htm d ?_]; exact hv
    unfold lE
    refine List.mem_append.2 (.inr ?_)
    simp [hg, hdd]
   have hd' : (ops.toArray[j]?).bind (·.dst) = some d := by simpa using hdd
   rcases hguard with ⟨bb, hdt, hon'⟩ | ⟨hdt, hon'⟩
   ·obtain ⟨X, hX, hr⟩ := hst.per.1.get (hdS _ hdt)
    have hX' := cU hr
    subst hX'
    have hy : yielded ops.toArray tv.toArray j = some bb := by
     simp only [yielded, hd', Option.bind_some]
     have : tv.toArray[d]? = some (.bool bb) := by simpa using hX
     rw [this]
    rw [hon']
    simp only [Region.wanted, hg, hy]; rfl
   ·obtain ⟨X, hX, xs, hXe, hr⟩ := hst.per.1.get (hdS _ hdt)
    obtain rfl := hr.aV
    subst hXe
    have hy : yielded ops.toArray tv.toArray j = none := by
     simp only [yielded, hd', Option.bind_some]
     have : tv.toArray[d]? = some (.tuple #[]) := by simpa using hX
     rw [this]
    rw [hon']
    simp only [Region.wanted, hg, hy]; rfl
 unfold wpOp
 have hi' : ops.toArray[i]? = some o := by simpa using hi
 rw [hi']
 simp only [hwant]
 have hevx : ∀ x ∈ o.op.operands, T.ev x = S.ev x := by
  intro x hx
  cases x with
  | tmp t =>
   show T.tmps.getD t aa = S.tmps.getD t aa
   have : t ∈ lE ops o := List.mem_append.2 (.inl (vE.2 hx))
   simp only [List.getD, htm t this]
  | _ => rfl
 have hrefs : refsOf S o = refsOf T o := by
  unfold refsOf
  simp only [List.flatMap_def]
  congr 1
  refine List.map_congr_left fun x hx => ?_
  rw [hevx x (by simpa using hx)]
 cases heo : e.on with
 | false =>
  obtain ⟨c1, c2, c3⟩ := hoff heo
  have happ : e.app o.dst S = S.put o.dst e.v := by unfold Eff.app; rw [c1, mq]
  have hp : ∀ d : Option Tmp, (S.put d e.v).heap = S.heap := fun d => gL _ _ _
  cases hwn : e.want with
  | false =>
   simp only [Bool.false_eq_true, if_false]
   refine ⟨G, Cg tv o.dst undef, by rw [nO]; cases o.dst <;> rfl, ?_⟩
   refine ⟨?_, hh.mz, ?_, hdown, hh.up⟩
   ·rw [hadd, happ, hp]
    refine hst.jv (aR _ _ _) fun q => ⟨?_, by rw [hp]; exact q.2⟩
    have := Av q.1 o.dst (v := e.v) (X := undef) (fun _ _ _ => by rw [c2 hwn]; exact Bw) S.heap
    exact this
   ·intro p x y hp hy hLp j h1 h2
    simp only [Bool.or_eq_false_iff] at hLp
    exact hh.fresh p x y hp hy hLp.1 j h1 h2
  | true =>
   simp only [if_true]
   obtain ⟨hl, hrf, h', hlev⟩ := c3 hwn
   refine .inl (Oper.wp_mono (fun a' w' hst' => ?_) (z9 (Q := Q) (v := e.v) (h' := h') hF hib hst hh.mz hl (fun k' => by rw [← kM hevx]; exact hlev k') (by rw [hrefs]; exact hrf)))
   obtain ⟨G', tv', ha, hst', hfr, hup⟩ := hst'
   refine ⟨G', tv', ha, ?_, hh.mz, ?_, hdown, hh.up.trans hup⟩
   ·rw [hadd, happ, hp]; exact hst'
   ·intro p x y hp hy hLp j h1 h2
    simp only [Bool.or_eq_false_iff] at hLp
    exact hfr j (hh.fresh p x y hp hy hLp.1 j h1 h2)
 | true =>
  obtain ⟨hwn, c1, c2, c3, c4, c5, c6⟩ := hon heo
  rw [hwn]
  simp only [if_true]
  have hcl : ma S.heap e.fp (refsOf S o) = true := by
   rw [hrefs]
   obtain ⟨d1, d2⟩ := nr c4
   simp only [ma, Bool.and_eq_true, List.all_eq_true, aN]
   exact ⟨d1, fun j hj i hi => d2 j hj i (by rw [hheap heo j hj]; exact hi)⟩
  have honly : dL e.fp 0 T.heap = dL e.fp 0 S.heap := by
   refine List.ext_getElem? fun j => ?_
   rw [gm, gm, Nat.zero_add]
   cases hj : dc j e.fp with
   | true => rw [hheap heo j (aN.1 hj)]
   | false =>
    rcases Nat.lt_or_ge j s0.heap.length with hlt | hge
    ·rw [List.getElem?_eq_getElem (by rw [hlenT]; exact hlt), List.getElem?_eq_getElem (by rw [hlenS]; exact hlt)]; rfl
    ·rw [List.getElem?_eq_none (by rw [hlenT]; exact hge), List.getElem?_eq_none (by rw [hlenS]; exact hge)]
  have hev : ∀ k', oq P F D o S.ev (dL e.fp 0 S.heap) e.b k' = k' e.v e.h := by
   intro k'
   rw [← honly, ← kM hevx]; exact c5 k'
  have hbl : e.b + fO P D o ≤ S.heap.length := by
   rw [hlenS, heb]
   have := room_le (P := P) (D := D) hi
   omega
  refine .inl (Oper.wp_mono (fun a' w' hst' => ?_) (nR (Q := Q) hF hib hst hh.mz (hh.fresh i o e he heo hL) hbl c3 hcl hev c6))
  obtain ⟨G', tv', ha, hst', hout, hup⟩ := hst'
  refine ⟨G', tv', ha, ?_, hh.mz, ?_, hdown, hh.up.trans hup⟩
  ·rw [hadd]
   have hmix : iL e.fp 0 S.heap e.h = iL e.wr 0 S.heap e.h := by
    refine List.ext_getElem? fun j => ?_
    rw [j4, j4, Nat.zero_add]
    cases h1 : dc j e.fp with
    | false =>
     have : dc j e.wr = false := by
      cases h2 : dc j e.wr with
      | false => rfl
      | true => rw [aN.2 (hwrfp i o e he heo j (aN.1 h2))] at h1; cases h1
     rw [this]
    | true =>
     cases h2 : dc j e.wr with
     | true => rfl
     | false =>
      rw [c1] at h2
      have := yv hev h1 h2
      rw [this, gm, Nat.zero_add, h1]
      cases S.heap[j]? <;> rfl
   rw [hmix] at hst'
   unfold Eff.app
   rw [gL]
   exact hst'
  ·intro p x y hp hy hLp j h1 h2
   simp only [Bool.or_eq_false_iff] at hLp
   have hpi : p ≠ i := fun h => by rw [h] at hLp; simp at hLp
   have hjf : dc j e.fp = false := by
    cases hj : dc j e.fp with
    | false => rfl
    | true =>
     have hj := aN.1 hj
     rcases Nat.lt_or_gt_of_ne hpi with hlt | hgt
     ·have hw : j ∈ y.wr := by rw [((ht.step p x y hp).2.2.1 hy).2.1]; exact Cn h1 h2
      have hLd : L p = decide (i < p) := by rw [hLp.1]; symm; simp; omega
      exact absurd hj (((hfar p x y hp hpi hLd).2.2 hy heo).1 j hw)
     ·have a1 := c3 j hj
      have a2 := (ht.step p x y hp).1
      have a3 := oa (P := P) (D := D) hi p hgt
      omega
   rw [hout j hjf]
   exact hh.fresh p x y hp hy hLp.1 j h1 h2
end
end Go.Ab
namespace Go.Ab
open Go Go.Dk
section
variable {P : Program} {F : Callee} {D : Dec} {w0 : World} {M Z0 : bn} {ops : List Oper} {an : List (List Nat)} {s0 : AS} {es : List Eff} {b0 : Nat} {G0 : List GO} {Q : Exit → Act → World → Prop}
theorem yg (hd : um ops an ops 0 = true) {listed : Array Bool} (hs : listed.size = ops.length) (hr : Region.ready .any ops.toArray listed = []) : ∀ i, i < ops.length → listed.getD i false = true := by
 intro i
 induction i using Nat.strongRecOn with
 | ind i ih =>
  intro hi
  cases hL : listed.getD i false with
  | true => rfl
  | false =>
   exfalso
   have hmem : i ∈ Region.ready .any ops.toArray listed := by
    rw [mem_ready]
    refine ⟨?_, ops[i], by simp [hi], fun e he hb => ?_⟩
    ·have hlt : i < listed.size := by omega
     simp only [Array.getD_eq_getD_getElem?, Array.getElem?_eq_getElem hlt, Option.getD_some] at hL ⊢; exact hL
    ·have hst := nn hd i ops[i] (List.getElem?_eq_getElem hi)
     have := (pg hst.2.1).1 e he hb
     rw [Nat.zero_add] at this
     exact ih e.on this (by omega)
   rw [hr] at hmem; cases hmem
theorem wV (hF : dV P F) (hib : ∀ f, D.ib f = true → jZ P f) (hd : um ops an ops 0 = true) (ht : Trace P F D ops an b0 s0 es) (hroom : b0 + room P D ops ≤ s0.heap.length)
   (hQ : ∀ (L : Nat → Bool) G tv w, (∀ i, i < ops.length → L i = true) → FK P D w0 M Z0 ops an s0 es G0 L G tv w → Q .normal ⟨tv.toArray, []⟩ w) :
   ∀ (fuel : Nat) (listed : Array Bool) G tv w, listed.size = ops.length → listed.toList.count false ≤ fuel → FK P D w0 M Z0 ops an s0 es G0 (fun q => listed.getD q false) G tv w →
    wpAny P .any ops.toArray Q fuel listed ⟨tv.toArray, []⟩ w
 | 0, listed, G, tv, w, hs, hc, hh => by
  have hall : ∀ i, i < ops.length → listed.getD i false = true := by
   intro i hi
   have hlt : i < listed.size := by omega
   have : false ∉ listed.toList := List.count_eq_zero.1 (by omega)
   simp only [Array.getD_eq_getD_getElem?, Array.getElem?_eq_getElem hlt, Option.getD_some]
   cases hb : listed[i] with
   | true => rfl
   | false => exact absurd (by rw [← hb]; simp) this
  refine ⟨?_, hQ _ G tv w hall hh⟩
  cases hr : Region.ready .any ops.toArray listed with
  | nil => rfl
  | cons i l =>
   have hm : i ∈ Region.ready .any ops.toArray listed := by rw [hr]; exact List.mem_cons_self ..
   obtain ⟨h1, o, ho, _⟩ := mem_ready.1 hm
   have hi : i < ops.length := by
    have := (Array.getElem?_eq_some_iff.1 ho).1; simpa using this
   have h2 := hall i hi
   have hlt : i < listed.size := by omega
   simp only [Array.getD_eq_getD_getElem?, Array.getElem?_eq_getElem hlt, Option.getD_some] at h1 h2
   rw [h1] at h2; cases h2
 | fuel + 1, listed, G, tv, w, hs, hc, hh => by
  refine ⟨fun hr => hQ _ G tv w (yg hd hs hr) hh, fun i hi => ?_⟩
  obtain ⟨h1, o, ho, h2⟩ := mem_ready.1 hi
  have hil : i < ops.length := by have := (Array.getElem?_eq_some_iff.1 ho).1; simpa using this
  have hlt : i < listed.size := by omega
  have hLi : listed.getD i false = false := by
   simp only [Array.getD_eq_getD_getElem?, Array.getElem?_eq_getElem hlt, Option.getD_some] at h1 ⊢; exact h1
  refine wpOp_mono (fun a' w' hh' => ?_) (hh.step (Q := Q) hF hib hd ht hroom (i := i) (o := o) (by simpa using ho) hLi h2)
  obtain ⟨G', tv', ha, hh'⟩ := hh'
  subst ha
  refine wV hF hib hd ht hroom hQ fuel _ G' tv' w' (by simpa using hs) ?_ ?_
  ·have hlt' : i < listed.toList.length := by simpa using hlt
   have h3 : listed[i] = false := by
    simp only [Array.getD_eq_getD_getElem?, Array.getElem?_eq_getElem hlt, Option.getD_some] at hLi; exact hLi
   rw [Array.toList_setIfInBounds, List.count_set hlt']
   have h4 : listed.toList[i] = false := by simpa using h3
   rw [h4]
   show List.count false listed.toList - 1 + 0 ≤ fuel
   omega
  ·have : (fun q => (listed.setIfInBounds i true).getD q false) = fun q => listed.getD q false || Nat.beq q i := by
     funext q
     by_cases hq : q = i
     ·subst hq
      simp [hlt]
     ·have hb : Nat.beq q i = false := by cases hb : Nat.beq q i with | false => rfl | true => simp only [Nat.beq_eq] at hb; exact absurd hb hq
      rw [_root_.Go.getD_set_ne false (Ne.symm hq), hb, Bool.or_false]
   rw [this]; exact hh'
end
theorem _root_.Go.Dk.St.drawn {w0 w : World} {M Z0 : bn} {L : List Res} {φ : Fact} (h : St w0 M Z0 L φ w) (n : Nat) : St w0 M Z0 L φ { w with drawn := n } :=
 ⟨⟨h.ext.os, h.ext.tape, h.ext.output, h.ext.size, h.ext.block⟩, fun q hq => h.loc q hq w _ (fun _ _ => rfl) (h.own q hq), h.loc, h.key, h.dis, h.stab, h.stab _ _ w _ (fun b hz _ => ⟨hz, rfl⟩) h.per⟩
theorem F3 {P : Program} [hm : DrM P] {F : Callee} {D : Dec} (hib : ∀ f, D.ib f = true → jZ P f) (hF : dV P F) : Bz P F D := by
 intro w0 M Z0 G s tv w ops id k r Q hI hd h hQ
 obtain ⟨es, h1, h2, h3, _, h5⟩ := qe h
 refine wp_region_any hm.out ?_
 have hlen : ops.toArray.size = ops.length := by simp
 have hg := hI.grow (room P D ops)
 have ht : Trace P F D ops (Ff ops []) s.heap.length (grow (room P D ops) s) es := by
  refine ⟨h1, fun p o e hp => ?_, fun p q o e o' e' hpq hp hq a c => ?_⟩
  ·have := h3 p o e hp; simp only [Nat.zero_add] at this; exact this
  ·have := h5 p q o e o' e' hpq hp hq a c; simp only [Nat.zero_add] at this; exact this
 have hrep : (fun q => (Array.replicate ops.toArray.size false).getD q false) = fun _ => false := by
  funext q
  simp only [Array.getD_eq_getD_getElem?, Array.getElem?_replicate]
  split <;> rfl
 refine wV (w0 := w0) (M := M) (Z0 := Z0) (G0 := G ++ List.replicate (room P D ops) .fresh) hF hib hd ht (by simp [grow]) ?_ ops.toArray.size _ (G ++ List.replicate (room P D ops) .fresh) tv _ (by simp) (by simp) ?_
 ·intro L G' tv' w' hL hh
  have he : cL (ops.zip es) 0 L (grow (room P D ops) s) = cL (ops.zip es) 0 (fun _ => true) (grow (room P D ops) s) :=
   jw fun q _ hq => by
    refine hL q ?_
    have : (ops.zip es).length ≤ ops.length := by rw [List.length_zip]; omega
    omega
  have hst := hh.st
  rw [he] at hst
  refine hQ _ G' tv' w' h2 ⟨hst, fun j hj hl => ?_, hh.mz⟩ ((Up.append _ _).trans hh.up).jv
  rw [hst.per.2.1] at hj; omega
 ·rw [hrep]
  have hs : cL (ops.zip es) 0 (fun _ => false) (grow (room P D ops) s) = grow (room P D ops) s := kW fun _ _ => rfl
  refine ⟨by rw [hs]; exact hg.st.drawn _, hg.mz, fun p o e hp _ _ j hj hl => ?_, nofun, Up.refl _⟩
  refine hg.fresh j ?_ ?_
  ·have := (ht.step p o e hp).1; omega
  ·have a1 := (ht.step p o e hp).1
   have a2 := room_le (P := P) (D := D) (AT hp).1
   have a3 := hI.len
   simp only [List.length_append, List.length_replicate]
   omega
theorem zV {P : Program} [hm : DrM P] {S : Say} (hp : rH P S) (hib : ∀ f, S.D.ib f = true → jZ P f) (n : Nat) : dV P (evF P S n) :=
 tD hp hib (fun F hF => F3 hib hF) n
end Go.Ab
end
section
namespace Go.Ab
open Go Go.Dk
def bytesOf (l : List UInt8) : ByteArray := ⟨l.toArray⟩
noncomputable def spot (E : Env) : List Nat → List Nat → Nat → Code → xr → Option (Nat × Code × xr)
 | [], _, i, c, k => some (i, c, k)
 | 0 :: p, cs, i, .seq a b, k => spot E p cs i a (GX E (evC E i b) k)
 | 1 :: p, cs, i, .seq _ b, k => spot E p cs i b k
 | 0 :: p, cs, i, .cond _ a _, k => spot E p cs i a k
 | 1 :: p, cs, i, .cond _ _ b, k => spot E p cs i b k
 | 0 :: p, cs, _, .block id b, k => spot E p cs id b (zg id k)
 | 9 :: p, c :: cs, i, .loop b, k => spot E p cs i b fun e s => match e with
    | .normal => evL (evC E i b) (lN E.m (E.live i)) c (lN E.m (E.live i) s) k
    | e => k e s
 | _, _, _, _, _ => none
noncomputable def aJ (P : Program) (S : Say) (n : Nat) (f : FuncId) (m : Nat) (p cs : List Nat) (c : Nat) (s : AS) : OR :=
 match P.funcs[f]? with
 | some fn => (match fn.body with
  | some b => (match spot ⟨P, evF P S n, S.D, n, m, S.live f⟩ p cs 0 b (HV P (S.D.own f) fn m) with
   | some (i, .loop b, k) => evL (evC ⟨P, evF P S n, S.D, n, m, S.live f⟩ i b) (lN m (S.live f i)) c s k
   | _ => none)
  | none => none)
 | none => none
end Go.Ab
end
section
namespace Go.Proofs.Ytajlknlnmmbfcaa
open Go Go.Ab Go.Dk
def live : FuncId → Nat → Option (List Nat)
 | 3, 2 => some [3, 4, 8, 10]
 | 3, 0 => some [3, 4, 8, 9]
 | 7, 0 => some [4, 5]
 | 8, 0 => some [4, 5]
 | 9, 0 => some [0, 1, 5]
 | 16, 0 => some [1, 3]
 | 17, 0 => some [2, 5, 7, 20, 21]
 | 27, 0 => some [0, 1, 6, 8, 9]
 | 28, 0 => some [0, 3]
 | 31, 0 => some [0, 1, 6, 7, 8]
 | 32, 0 => some [1, 2, 15, 16, 17]
 | 34, 0 => some [2, 3, 12, 13, 14]
 | 36, 2 => some [0, 22, 23, 24]
 | 36, 0 => some [0, 12, 13, 14]
 | 42, 0 => some [0, 3, 4, 5, 6]
 | 46, 0 => some [1, 2, 3, 6, 7, 8]
 | 47, 3 => some [0, 5, 7, 8]
 | 47, 0 => some [0, 1, 5, 7, 8, 9]
 | 52, 0 => some [1, 2, 5]
 | 53, 0 => some [1, 2, 5, 6]
 | 54, 0 => some [1, 2, 3, 4]
 | 55, 0 => some [1, 2, 41, 42, 43]
 | 56, 0 => some [0, 1, 7, 8]
 | 64, 0 => some [0, 3, 4]
 | 65, 0 => some [0, 3]
 | 68, 0 => some [0, 1, 4, 5, 6, 7]
 | 70, 0 => some [1, 3, 5, 6, 7, 8]
 | 90, 0 => some [1, 2, 4, 5, 6]
 | 99, 0 => some [1, 2, 3, 6, 9]
 | 103, 0 => some [1, 2, 3, 6, 7, 24, 25, 26]
 | 109, 0 => some [12, 13, 14]
 | 123, 0 => some [0, 1, 2, 8]
 | 128, 0 => some [1, 2, 4]
 | 133, 0 => some [1, 3, 4, 6, 8, 9, 10]
 | 138, 0 => some [2, 4, 7, 8, 9]
 | 140, 0 => some [0, 4, 5, 6]
 | 141, 0 => some [0, 1, 2, 3, 4, 12, 13]
 | 142, 0 => some [0, 3]
 | 143, 0 => some [0, 3, 4]
 | 150, 0 => some [2, 3, 5]
 | 151, 0 => some [1, 2, 3, 6]
 | 153, 0 => some [1, 2, 4, 6]
 | _, _ => none
def H2 (f : FuncId) : Bool := dc f [54, 102]
def ibF (f : FuncId) : Bool := false
noncomputable def SS : Say := ⟨⟨H2, ibF⟩, live, fun _ => none⟩
noncomputable def FF := evF Try.prog SS
end Go.Proofs.Ytajlknlnmmbfcaa
end
section
namespace Go.Proofs.Ytajlknlnmmbfcaa
open Go Go.Ab Go.Dk
theorem gR (n : Nat) (v0 : List UInt8) : FF (n + 1) 6 [.one (.fr (.bs v0))] [] =
 ((FF n 18 [.one (.fr (.bs v0))] []).bind fun x0 =>
 (Dr 0 x0.1 fun x1 =>
 (aP x0.2 fun x2 x3 =>
 (bsC x2 fun x4 x5 =>
 (aS .i64 x5 fun x6 x7 =>
 (aQ x7
 (ai x1 (aj x3
 ((FF n 19 [.one (.ptr 0 0), .one (.fr (.is [0, 1, 2, 3, 8, 9, (-1), 9223372036854775807]))] [.cells [.fr (.bs x4), .int .i64 x6]]).bind fun x8 =>
 (aP x8.2 fun x9 x10 =>
 (bsC x9 fun x11 x12 =>
 (aS .i64 x12 fun x13 x14 =>
 (aQ x14
 (aB .i64 x8.1 fun x15 x16 =>
 (ai x16 (aj x10
 (some ([.one (.int .i64 x15)], [])))))))))))))))))) := by kernel_rfl
noncomputable def ca (n c : Nat) (v0 : Int) (v1 : List T) : OR := aJ Try.prog SS n 7 0 [1, 1, 1, 0, 1, 0] [] c ⟨[aa, aa, aa, aa, .v (.one (.own 0 0)), .v (.one (.int .i64 v0)), aa, aa, aa, aa, aa, aa, aa, aa, aa, aa, aa, aa, aa, aa, aa],
 [.arr 29 (.ts v1) 0 false]⟩
theorem dQ (n c : Nat) (v0 : Int) (v1 : List T) : ca n (c + 1) v0 v1 =
 (cond (decide (0 ≤ v0))
 ((FF n 21 [.one (.int .i64 v0)] []).bind fun x0 =>
 (ag x0.1 fun x1 x2 =>
 (ai x2 (aj x0.2
 (cond (b8 (v1 ++ [(T.mk x1.k x1.n x1.kids)]).length)
 (ca n c (IntKind.i64.wrap (v0 - 1)) (v1 ++ [(T.mk x1.k x1.n x1.kids)]))
 none)))))
 (some ([.one (.fr (.ts v1)), .one (.bool true)], []))) := by kernel_rfl
theorem jV (n : Nat) (v0 : Int) : FF (n + 1) 7 [.one (.int .i64 v0)] [] =
 ((FF n 20 [.one (.int .i64 v0), .one (.int .i64 0), .one (.int .i64 8)] []).bind fun x0 =>
 (aD x0.1 fun x1 x2 =>
 (ai x2 (aj x0.2
 (cond (!x1)
 (some ([.one (.fr (.ts [])), .one (.bool false)], []))
 (ca n n (IntKind.i64.wrap (v0 - 1)) ([]))))))) := by kernel_rfl
noncomputable def cb (n c : Nat) (v0 : Int) (v1 : List T) : OR := aJ Try.prog SS n 8 0 [1, 1, 1, 0, 1, 0] [] c ⟨[aa, aa, aa, aa, .v (.one (.own 0 0)), .v (.one (.int .i64 v0)), aa, aa, aa, aa, aa, aa, aa, aa, aa, aa, aa, aa, aa, aa, aa, aa, aa, aa, aa, aa],
 [.arr 29 (.ts v1) 0 false]⟩
theorem dU (n c : Nat) (v0 : Int) (v1 : List T) : cb n (c + 1) v0 v1 =
 (cond (decide (0 ≤ v0))
 ((FF n 22 [.one (.int .i64 1), .one (.int .i64 v0)] []).bind fun x0 =>
 (ag x0.1 fun x1 x2 =>
 (ai x2 (aj x0.2
 (cond (b8 (v1 ++ [(T.mk x1.k x1.n x1.kids)]).length)
 (cb n c (IntKind.i64.wrap (v0 - 1)) (v1 ++ [(T.mk x1.k x1.n x1.kids)]))
 none)))))
 (some ([.one (.fr (.ts v1)), .one (.bool true)], []))) := by kernel_rfl
theorem j8 (n : Nat) (v0 : Int) : FF (n + 1) 8 [.one (.int .i64 v0)] [] =
 (cond (decide (v0 < 0))
 (some ([.one (.fr (.ts [])), .one (.bool false)], []))
 (cond (decide (8 < v0))
 (some ([.one (.fr (.ts [])), .one (.bool false)], []))
 (cb n n (IntKind.i64.wrap (v0 - 1)) ([])))) := by kernel_rfl
noncomputable def dt (n c : Nat) (v0 v1 : List T) (v2 : Int) : OR := aJ Try.prog SS n 9 0 [1, 1, 0, 1, 0] [] c ⟨[.v (.one (.fr (.ts v0))), .v (.one (.fr (.ts v1))), aa, aa, aa, .v (.one (.int .i64 v2)), aa, aa, aa, aa, aa, aa, aa, aa, aa, aa, aa, aa, aa, aa, aa, aa, aa, aa, aa, aa, aa],
 []⟩
theorem fI (n c : Nat) (v0 v1 : List T) (v2 : Int) : dt n (c + 1) v0 v1 v2 =
 (cond (decide (v2 < (v0.length : Int)))
 (cond (decide (0 ≤ v2))
 (v0[(v2 : Int).toNat]?.bind fun x0 =>
 (cond (decide (0 ≤ v2))
 (v1[(v2 : Int).toNat]?.bind fun x1 =>
 ((FF n 15 [.agg [.int .i64 x0.k, .int .i64 x0.n, .fr (.ts x0.kids)], .agg [.int .i64 x1.k, .int .i64 x1.n, .fr (.ts x1.kids)]] []).bind fun x2 =>
 (aD x2.1 fun x3 x4 =>
 (ai x4 (aj x2.2
 (cond (!x3)
 (some ([.one (.bool false)], []))
 (dt n c v0 v1 (IntKind.i64.wrap (v2 + 1)))))))))
 none))
 none)
 (some ([.one (.bool true)], []))) := by kernel_rfl
theorem oT (n : Nat) (v0 v1 : List T) : FF (n + 1) 9 [.one (.fr (.ts v0)), .one (.fr (.ts v1))] [] =
 (cond (!decide ((v0.length : Int) = (v1.length : Int)))
 (some ([.one (.bool false)], []))
 (dt n n v0 v1 0)) := by kernel_rfl
theorem eW (n : Nat) (v0 : List T) (v1 v2 : Int) (v3 : List T) (v4 v5 : Int) (v6 : List T) : FF (n + 1) 10 [.one (.fr (.ts v0)), .agg [.int .i64 v1, .int .i64 v2, .fr (.ts v3)], .agg [.int .i64 v4, .int .i64 v5, .fr (.ts v6)]] [] =
 ((FF n 23 [.one (.fr (.ts v0)), .one (.fr (.ts [(T.mk v1 v2 v3), (T.mk v4 v5 v6)]))] []).bind fun x0 =>
 (aB .i64 x0.1 fun x1 x2 =>
 (ai x2 (aj x0.2
 (cond (!decide (x1 = 0))
 (some ([.one (.int .i64 x1)], []))
 ((FF n 24 [.one (.fr (.ts v0)), .agg [.int .i64 v4, .int .i64 v5, .fr (.ts v6)]] []).bind fun x3 =>
 (aB .i64 x3.1 fun x4 x5 =>
 (aB .i64 x5 fun x6 x7 =>
 (ai x7 (aj x3.2
 (cond (!decide (x6 = 0))
 (some ([.one (.int .i64 x6)], []))
 ((FF n 25 [.one (.fr (.ts v0)), .agg [.int .i64 v1, .int .i64 v2, .fr (.ts v3)], .agg [.int .i64 v4, .int .i64 v5, .fr (.ts v6)]] []).bind fun x8 =>
 (aB .i64 x8.1 fun x9 x10 =>
 (ai x10 (aj x8.2
 (some ([.one (.int .i64 x9)], []))))))))))))))))) := by kernel_rfl
theorem la (n : Nat) (v0 : List UInt8) : FF (n + 1) 11 [.one (.fr (.bs v0))] [] =
 ((FF n 26 [.one (.fr (.bs v0))] []).bind fun x0 =>
 (rTs x0.1 fun x1 x2 =>
 (ag x2 fun x3 x4 =>
 (ag x4 fun x5 x6 =>
 (ai x6 (aj x0.2
 (cond (decide ((Int.tmod (v0.length : Int) 2) = 0))
 (some ([.one (.fr (.ts x1)), .agg [.int .i64 x3.k, .int .i64 x3.n, .fr (.ts x3.kids)]], []))
 (some ([.one (.fr (.ts x1)), .agg [.int .i64 x5.k, .int .i64 x5.n, .fr (.ts x5.kids)]], []))))))))) := by kernel_rfl
theorem rh (n : Nat) (v0 : List T) (v1 v2 : Int) (v3 : List T) : FF (n + 1) 12 [.one (.fr (.ts v0)), .agg [.int .i64 v1, .int .i64 v2, .fr (.ts v3)]] [] =
 ((FF n 27 [.one (.int .i64 3), .one (.fr (.ts v0)), .agg [.int .i64 v1, .int .i64 v2, .fr (.ts v3)]] []).bind fun x0 =>
 (ag x0.1 fun x1 x2 =>
 (aD x2 fun x3 x4 =>
 (ai x4 (aj x0.2
 (some ([.agg [.int .i64 x1.k, .int .i64 x1.n, .fr (.ts x1.kids)], .one (.bool x3)], []))))))) := by kernel_rfl
theorem qZ (n : Nat) (v0 : List T) (v1 v2 : Int) (v3 : List T) : FF (n + 1) 13 [.one (.fr (.ts v0)), .agg [.int .i64 v1, .int .i64 v2, .fr (.ts v3)]] [] =
 ((FF n 28 [.one (.fr (.ts v0))] []).bind fun x0 =>
 (aD x0.1 fun x1 x2 =>
 (ai x2 (aj x0.2
 (cond (!x1)
 (some ([.agg [.int .i64 0, .int .i64 0, .fr (.ts [])], .one (.bool false)], []))
 ((FF n 29 [.agg [.int .i64 v1, .int .i64 v2, .fr (.ts v3)]] []).bind fun x3 =>
 (aD x3.1 fun x4 x5 =>
 (ai x5 (aj x3.2
 (cond (!x4)
 (some ([.agg [.int .i64 0, .int .i64 0, .fr (.ts [])], .one (.bool false)], []))
 ((FF n 31 [.one (.int .i64 3), .one (.fr (.ts v0)), .agg [.int .i64 v1, .int .i64 v2, .fr (.ts v3)]] []).bind fun x6 =>
 (ag x6.1 fun x7 x8 =>
 (ai x8 (aj x6.2
 ((FF n 30 [.agg [.int .i64 x7.k, .int .i64 x7.n, .fr (.ts x7.kids)]] []).bind fun x9 =>
 (ag x9.1 fun x10 x11 =>
 (aD x11 fun x12 x13 =>
 (ai x13 (aj x9.2
 (some ([.agg [.int .i64 x10.k, .int .i64 x10.n, .fr (.ts x10.kids)], .one (.bool x12)], []))))))))))))))))))))) := by kernel_rfl
theorem o7 (n : Nat) (v0 : List T) (v1 v2 : Int) (v3 : List T) : FF (n + 1) 14 [.one (.fr (.ts v0)), .agg [.int .i64 v1, .int .i64 v2, .fr (.ts v3)]] [] =
 ((FF n 27 [.one (.int .i64 4), .one (.fr (.ts v0)), .agg [.int .i64 v1, .int .i64 v2, .fr (.ts v3)]] []).bind fun x0 =>
 (ag x0.1 fun x1 x2 =>
 (aD x2 fun x3 x4 =>
 (ai x4 (aj x0.2
 (some ([.agg [.int .i64 x1.k, .int .i64 x1.n, .fr (.ts x1.kids)], .one (.bool x3)], []))))))) := by kernel_rfl
theorem m4 (n : Nat) (v0 v1 : Int) (v2 : List T) (v3 v4 : Int) (v5 : List T) : FF (n + 1) 15 [.agg [.int .i64 v0, .int .i64 v1, .fr (.ts v2)], .agg [.int .i64 v3, .int .i64 v4, .fr (.ts v5)]] [] =
 (cond (decide (v0 = v3))
 (cond (decide (v1 = v4))
 ((FF n 32 [.one (.fr (.ts v2)), .one (.fr (.ts v5)), .one (.fn 15 [])] []).bind fun x0 =>
 (aD x0.1 fun x1 x2 =>
 (ai x2 (aj x0.2
 (some ([.one (.bool x1)], []))))))
 (some ([.one (.bool false)], [])))
 (some ([.one (.bool false)], []))) := by kernel_rfl
noncomputable def dm (n c : Nat) (v0 v1 v2 : Int) (v3 : List T) : OR := aJ Try.prog SS n 16 0 [1, 1, 1, 0, 0] [] c ⟨[aa, .v (.one (.ptr 0 0)), aa, .v (.one (.int .i64 v0)), aa, aa, aa, aa, aa, aa, aa, aa, aa, aa, aa, aa, aa],
 [.cells [.int .i64 v1, .int .i64 v2, .fr (.ts v3)]]⟩
theorem jI (n c : Nat) (v0 v1 v2 : Int) (v3 : List T) : dm n (c + 1) v0 v1 v2 v3 =
 (cond (decide (v1 = 3))
 (v3[(1 : Int).toNat]?.bind fun x0 =>
 dm n c (IntKind.i64.wrap (v0 + 1)) (x0.k) (x0.n) (x0.kids))
 (some ([.one (.int .i64 v0)], []))) := by kernel_rfl
theorem oB (n : Nat) (v0 v1 : Int) (v2 : List T) : FF (n + 1) 16 [.agg [.int .i64 v0, .int .i64 v1, .fr (.ts v2)]] [] =
 ((FF n 33 [.agg [.int .i64 v0, .int .i64 v1, .fr (.ts v2)]] []).bind fun x0 =>
 (aD x0.1 fun x1 x2 =>
 (ai x2 (aj x0.2
 (cond (!x1)
 (some ([.one (.int .i64 0)], []))
 (dm n n 0 v0 v1 v2)))))) := by kernel_rfl
noncomputable def cz (n c : Nat) (v0 v1 v2 v3 : Int) (v4 : List T) (v5 v6 : Int) (v7 v8 : List T) : OR := aJ Try.prog SS n 17 0 [1, 1, 1, 0, 1, 0] [] c ⟨[aa, aa, .v (.one (.ptr 0 0)), aa, aa, .v (.one (.ptr 1 0)), aa, .v (.one (.own 3 0)), aa, aa, aa, aa, aa, aa, aa, aa, aa, aa, aa, aa, .v (.one (.int .i64 v0)), .v (.one (.int .i64 v1)), aa, aa, aa, aa, aa, aa, aa, aa, aa, aa, aa, aa, aa, aa, aa, aa, aa],
 [.cells [.int .i64 v2, .int .i64 v3, .fr (.ts v4)], .cells [.int .i64 v5, .int .i64 v6, .own 2 0], .arr 29 (.ts v7) 0 false, .arr 29 (.ts v8) 0 false]⟩
theorem eh (n c : Nat) (v0 v1 v2 v3 : Int) (v4 : List T) (v5 v6 : Int) (v7 v8 : List T) : cz n (c + 1) v0 v1 v2 v3 v4 v5 v6 v7 v8 =
 (cond (decide (v1 < v0))
 (v4[(0 : Int).toNat]?.bind fun x0 =>
 ((FF n 34 [.agg [.int .i64 x0.k, .int .i64 x0.n, .fr (.ts x0.kids)]] []).bind fun x1 =>
 (ag x1.1 fun x2 x3 =>
 (ai x3 (aj x1.2
 (cond (b8 (v8 ++ [(T.mk x2.k x2.n x2.kids)]).length)
 (v4[(1 : Int).toNat]?.bind fun x4 =>
 cz n c v0 (IntKind.i64.wrap (v1 + 1)) (x4.k) (x4.n) (x4.kids) v5 v6 v7 (v8 ++ [(T.mk x2.k x2.n x2.kids)]))
 none))))))
 ((FF n 34 [.agg [.int .i64 v2, .int .i64 v3, .fr (.ts v4)]] []).bind fun x0 =>
 (ag x0.1 fun x1 x2 =>
 (ai x2 (aj x0.2
 (some ([.one (.fr (.ts v8)), .agg [.int .i64 x1.k, .int .i64 x1.n, .fr (.ts x1.kids)], .one (.bool true)], []))))))) := by kernel_rfl
theorem o6 (n : Nat) (v0 v1 : Int) (v2 : List T) (v3 : Int) : FF (n + 1) 17 [.agg [.int .i64 v0, .int .i64 v1, .fr (.ts v2)], .one (.int .i64 v3)] [] =
 ((FF n 33 [.agg [.int .i64 v0, .int .i64 v1, .fr (.ts v2)]] []).bind fun x0 =>
 (aD x0.1 fun x1 x2 =>
 (ai x2 (aj x0.2
 (cond (!x1)
 (some ([.one (.fr (.ts [])), .agg [.int .i64 0, .int .i64 0, .fr (.ts [])], .one (.bool false)], []))
 ((FF n 16 [.agg [.int .i64 v0, .int .i64 v1, .fr (.ts v2)]] []).bind fun x3 =>
 (aB .i64 x3.1 fun x4 x5 =>
 (ai x5 (aj x3.2
 ((FF n 20 [.one (.int .i64 v3), .one (.int .i64 0), .one (.int .i64 (min 8 x4))] []).bind fun x6 =>
 (aD x6.1 fun x7 x8 =>
 (ai x8 (aj x6.2
 (cond (!x7)
 (some ([.one (.fr (.ts [])), .agg [.int .i64 0, .int .i64 0, .fr (.ts [])], .one (.bool false)], []))
 (cz n n v3 0 v0 v1 v2 0 0 ([]) ([])))))))))))))))) := by kernel_rfl
theorem jn (n : Nat) (v0 : List UInt8) : FF (n + 1) 18 [.one (.fr (.bs v0))] [] =
 (cond (decide (2000 < (v0.length : Int)))
 (cond (Go.Ab.inB 0 2000 v0.length)
 (some ([.one (.ptr 0 0)], [.cells [.fr (.bs ((v0.take (2000 : Int).toNat).drop (0 : Int).toNat)), .int .i64 0]]))
 none)
 (some ([.one (.ptr 0 0)], [.cells [.fr (.bs v0), .int .i64 0]]))) := by kernel_rfl
theorem mb (n : Nat) (v0 : List Int) (v1 : List UInt8) (v2 : Int) : FF (n + 1) 19 [.one (.ptr 0 0), .one (.fr (.is v0))] [.cells [.fr (.bs v1), .int .i64 v2]] =
 ((FF n 35 [.one (.ptr 0 0), .one (.int .i64 (v0.length : Int))] [.cells [.fr (.bs v1), .int .i64 v2]]).bind fun x0 =>
 (aP x0.2 fun x1 x2 =>
 (bsC x1 fun x3 x4 =>
 (aS .i64 x4 fun x5 x6 =>
 (aQ x6
 (aB .i64 x0.1 fun x7 x8 =>
 (ai x8 (aj x2
 (cond (decide (0 ≤ x7))
 (v0[(x7 : Int).toNat]?.bind fun x9 =>
 some ([.one (.int .i64 x9)], [.cells [.fr (.bs x3), .int .i64 x5]]))
 none))))))))) := by kernel_rfl
theorem qI (n : Nat) (v0 v1 v2 : Int) : FF (n + 1) 20 [.one (.int .i64 v0), .one (.int .i64 v1), .one (.int .i64 v2)] [] =
 (cond (decide (v1 ≤ v0))
 (some ([.one (.bool (decide (v0 ≤ v2)))], []))
 (some ([.one (.bool false)], []))) := by kernel_rfl
theorem iJ (n : Nat) (v0 : Int) : FF (n + 1) 21 [.one (.int .i64 v0)] [] =
 some ([.agg [.int .i64 1, .int .i64 v0, .fr (.ts [])]], []) := by kernel_rfl
theorem rR (n : Nat) (v0 v1 : Int) : FF (n + 1) 22 [.one (.int .i64 v0), .one (.int .i64 v1)] [] =
 some ([.agg [.int .i64 v0, .int .i64 v1, .fr (.ts [])]], []) := by kernel_rfl
theorem tG (n : Nat) (v0 v1 : List T) : FF (n + 1) 23 [.one (.fr (.ts v0)), .one (.fr (.ts v1))] [] =
 ((FF n 36 [.one (.fr (.ts v0))] []).bind fun x0 =>
 (aB .i64 x0.1 fun x1 x2 =>
 (ai x2 (aj x0.2
 ((FF n 37 [.one (.fr (.ts v1)), .one (.fn 38 [])] []).bind fun x3 =>
 (aD x3.1 fun x4 x5 =>
 (ai x5 (aj x3.2
 (cond x4
 (some ([.one (.int .i64 3)], []))
 (some ([.one (.int .i64 x1)], []))))))))))) := by kernel_rfl
theorem sC (n : Nat) (v0 : List T) (v1 v2 : Int) (v3 : List T) : FF (n + 1) 24 [.one (.fr (.ts v0)), .agg [.int .i64 v1, .int .i64 v2, .fr (.ts v3)]] [] =
 ((FF n 39 [.one (.fr (.ts v0)), .agg [.int .i64 v1, .int .i64 v2, .fr (.ts v3)], .one (.int .i64 2)] []).bind fun x0 =>
 (ag x0.1 fun x1 x2 =>
 (aB .i64 x2 fun x3 x4 =>
 (ai x4 (aj x0.2
 (some ([.one (.int .i64 x1.n), .one (.int .i64 x3)], []))))))) := by kernel_rfl
theorem sw (n : Nat) (v0 : List T) (v1 v2 : Int) (v3 : List T) (v4 v5 : Int) (v6 : List T) : FF (n + 1) 25 [.one (.fr (.ts v0)), .agg [.int .i64 v1, .int .i64 v2, .fr (.ts v3)], .agg [.int .i64 v4, .int .i64 v5, .fr (.ts v6)]] [] =
 ((FF n 40 [.one (.fr (.ts v0)), .agg [.int .i64 v1, .int .i64 v2, .fr (.ts v3)]] []).bind fun x0 =>
 (ag x0.1 fun x1 x2 =>
 (aB .i64 x2 fun x3 x4 =>
 (ai x4 (aj x0.2
 (cond (!decide (x3 = 0))
 (some ([.one (.int .i64 x3)], []))
 ((FF n 41 [.agg [.int .i64 x1.k, .int .i64 x1.n, .fr (.ts x1.kids)], .agg [.int .i64 v4, .int .i64 v5, .fr (.ts v6)]] []).bind fun x5 =>
 (aB .i64 x5.1 fun x6 x7 =>
 (ai x7 (aj x5.2
 (some ([.one (.int .i64 x6)], [])))))))))))) := by kernel_rfl
theorem ja (n : Nat) (v0 : List UInt8) : FF (n + 1) 26 [.one (.fr (.bs v0))] [] =
 ((FF n 18 [.one (.fr (.bs v0))] []).bind fun x0 =>
 (Dr 0 x0.1 fun x1 =>
 (aP x0.2 fun x2 x3 =>
 (bsC x2 fun x4 x5 =>
 (aS .i64 x5 fun x6 x7 =>
 (aQ x7
 (ai x1 (aj x3
 ((FF n 42 [.one (.ptr 0 0)] [.cells [.fr (.bs x4), .int .i64 x6]]).bind fun x8 =>
 (aP x8.2 fun x9 x10 =>
 (bsC x9 fun x11 x12 =>
 (aS .i64 x12 fun x13 x14 =>
 (aQ x14
 (rTs x8.1 fun x15 x16 =>
 (ag x16 fun x17 x18 =>
 (ai x18 (aj x10
 ((FF n 43 [.one (.fr (.ts x15)), .agg [.int .i64 x17.k, .int .i64 x17.n, .fr (.ts x17.kids)]] []).bind fun x19 =>
 (ag x19.1 fun x20 x21 =>
 (aB .i64 x21 fun x22 x23 =>
 (ai x23 (aj x19.2
 (cond (!decide (x22 = 0))
 ((FF n 44 [.one (.ptr 0 0)] [.cells [.fr (.bs x11), .int .i64 x13]]).bind fun x24 =>
 (aP x24.2 fun x25 x26 =>
 (bsC x25 fun x27 x28 =>
 (aS .i64 x28 fun x29 x30 =>
 (aQ x30
 (ag x24.1 fun x31 x32 =>
 (ai x32 (aj x26
 ((FF n 35 [.one (.ptr 0 0), .one (.int .i64 3)] [.cells [.fr (.bs x27), .int .i64 x29]]).bind fun x33 =>
 (aP x33.2 fun x34 x35 =>
 (bsC x34 fun x36 x37 =>
 (aS .i64 x37 fun x38 x39 =>
 (aQ x39
 (aB .i64 x33.1 fun x40 x41 =>
 (ai x41 (aj x35
 (cond (decide (x40 = 0))
 ((FF n 22 [.one (.int .i64 6), .one (.int .i64 0)] []).bind fun x42 =>
 (ag x42.1 fun x43 x44 =>
 (ai x44 (aj x42.2
 ((FF n 46 [.agg [.int .i64 x31.k, .int .i64 x31.n, .fr (.ts x31.kids)], .one (.int .i64 1), .one (.int .i64 0)] []).bind fun x45 =>
 (ag x45.1 fun x46 x47 =>
 (ai x47 (aj x45.2
 ((FF n 45 [.one (.int .i64 4), .one (.fr (.ts [(T.mk x43.k x43.n x43.kids), (T.mk x46.k x46.n x46.kids)]))] []).bind fun x48 =>
 (ag x48.1 fun x49 x50 =>
 (ai x50 (aj x48.2
 ((FF n 22 [.one (.int .i64 7), .one (.int .i64 0)] []).bind fun x51 =>
 (ag x51.1 fun x52 x53 =>
 (ai x53 (aj x51.2
 ((FF n 45 [.one (.int .i64 5), .one (.fr (.ts [(T.mk x49.k x49.n x49.kids), (T.mk x52.k x52.n x52.kids)]))] []).bind fun x54 =>
 (ag x54.1 fun x55 x56 =>
 (ai x56 (aj x54.2
 ((FF n 47 [.one (.ptr 0 0), .one (.fr (.ts x15)), .agg [.int .i64 x17.k, .int .i64 x17.n, .fr (.ts x17.kids)]] [.cells [.fr (.bs x36), .int .i64 x38]]).bind fun x57 =>
 (aP x57.2 fun x58 x59 =>
 (bsC x58 fun x60 x61 =>
 (aS .i64 x61 fun x62 x63 =>
 (aQ x63
 (rTs x57.1 fun x64 x65 =>
 (ag x65 fun x66 x67 =>
 (ai x67 (aj x59
 ((FF n 48 [.one (.ptr 0 0), .agg [.int .i64 x55.k, .int .i64 x55.n, .fr (.ts x55.kids)]] [.cells [.fr (.bs x60), .int .i64 x62]]).bind fun x68 =>
 (aP x68.2 fun x69 x70 =>
 (bsC x69 fun x71 x72 =>
 (aS .i64 x72 fun x73 x74 =>
 (aQ x74
 (ag x68.1 fun x75 x76 =>
 (ai x76 (aj x70
 (some ([.one (.fr (.ts x64)), .agg [.int .i64 x66.k, .int .i64 x66.n, .fr (.ts x66.kids)], .agg [.int .i64 x75.k, .int .i64 x75.n, .fr (.ts x75.kids)]], [])))))))))))))))))))))))))))))))))))))))
 ((FF n 47 [.one (.ptr 0 0), .one (.fr (.ts x15)), .agg [.int .i64 x17.k, .int .i64 x17.n, .fr (.ts x17.kids)]] [.cells [.fr (.bs x36), .int .i64 x38]]).bind fun x42 =>
 (aP x42.2 fun x43 x44 =>
 (bsC x43 fun x45 x46 =>
 (aS .i64 x46 fun x47 x48 =>
 (aQ x48
 (rTs x42.1 fun x49 x50 =>
 (ag x50 fun x51 x52 =>
 (ai x52 (aj x44
 ((FF n 48 [.one (.ptr 0 0), .agg [.int .i64 x31.k, .int .i64 x31.n, .fr (.ts x31.kids)]] [.cells [.fr (.bs x45), .int .i64 x47]]).bind fun x53 =>
 (aP x53.2 fun x54 x55 =>
 (bsC x54 fun x56 x57 =>
 (aS .i64 x57 fun x58 x59 =>
 (aQ x59
 (ag x53.1 fun x60 x61 =>
 (ai x61 (aj x55
 (some ([.one (.fr (.ts x49)), .agg [.int .i64 x51.k, .int .i64 x51.n, .fr (.ts x51.kids)], .agg [.int .i64 x60.k, .int .i64 x60.n, .fr (.ts x60.kids)]], []))))))))))))))))))))))))))))))))))))
 ((FF n 35 [.one (.ptr 0 0), .one (.int .i64 5)] [.cells [.fr (.bs x11), .int .i64 x13]]).bind fun x24 =>
 (aP x24.2 fun x25 x26 =>
 (bsC x25 fun x27 x28 =>
 (aS .i64 x28 fun x29 x30 =>
 (aQ x30
 (aB .i64 x24.1 fun x31 x32 =>
 (ai x32 (aj x26
 (cond (decide (x31 = 0))
 ((FF n 44 [.one (.ptr 0 0)] [.cells [.fr (.bs x27), .int .i64 x29]]).bind fun x33 =>
 (aP x33.2 fun x34 x35 =>
 (bsC x34 fun x36 x37 =>
 (aS .i64 x37 fun x38 x39 =>
 (aQ x39
 (ag x33.1 fun x40 x41 =>
 (ai x41 (aj x35
 ((FF n 35 [.one (.ptr 0 0), .one (.int .i64 3)] [.cells [.fr (.bs x36), .int .i64 x38]]).bind fun x42 =>
 (aP x42.2 fun x43 x44 =>
 (bsC x43 fun x45 x46 =>
 (aS .i64 x46 fun x47 x48 =>
 (aQ x48
 (aB .i64 x42.1 fun x49 x50 =>
 (ai x50 (aj x44
 (cond (decide (x49 = 0))
 ((FF n 22 [.one (.int .i64 6), .one (.int .i64 0)] []).bind fun x51 =>
 (ag x51.1 fun x52 x53 =>
 (ai x53 (aj x51.2
 ((FF n 46 [.agg [.int .i64 x40.k, .int .i64 x40.n, .fr (.ts x40.kids)], .one (.int .i64 1), .one (.int .i64 0)] []).bind fun x54 =>
 (ag x54.1 fun x55 x56 =>
 (ai x56 (aj x54.2
 ((FF n 45 [.one (.int .i64 4), .one (.fr (.ts [(T.mk x52.k x52.n x52.kids), (T.mk x55.k x55.n x55.kids)]))] []).bind fun x57 =>
 (ag x57.1 fun x58 x59 =>
 (ai x59 (aj x57.2
 ((FF n 22 [.one (.int .i64 7), .one (.int .i64 0)] []).bind fun x60 =>
 (ag x60.1 fun x61 x62 =>
 (ai x62 (aj x60.2
 ((FF n 45 [.one (.int .i64 5), .one (.fr (.ts [(T.mk x58.k x58.n x58.kids), (T.mk x61.k x61.n x61.kids)]))] []).bind fun x63 =>
 (ag x63.1 fun x64 x65 =>
 (ai x65 (aj x63.2
 ((FF n 47 [.one (.ptr 0 0), .one (.fr (.ts x15)), .agg [.int .i64 x17.k, .int .i64 x17.n, .fr (.ts x17.kids)]] [.cells [.fr (.bs x45), .int .i64 x47]]).bind fun x66 =>
 (aP x66.2 fun x67 x68 =>
 (bsC x67 fun x69 x70 =>
 (aS .i64 x70 fun x71 x72 =>
 (aQ x72
 (rTs x66.1 fun x73 x74 =>
 (ag x74 fun x75 x76 =>
 (ai x76 (aj x68
 ((FF n 48 [.one (.ptr 0 0), .agg [.int .i64 x64.k, .int .i64 x64.n, .fr (.ts x64.kids)]] [.cells [.fr (.bs x69), .int .i64 x71]]).bind fun x77 =>
 (aP x77.2 fun x78 x79 =>
 (bsC x78 fun x80 x81 =>
 (aS .i64 x81 fun x82 x83 =>
 (aQ x83
 (ag x77.1 fun x84 x85 =>
 (ai x85 (aj x79
 (some ([.one (.fr (.ts x73)), .agg [.int .i64 x75.k, .int .i64 x75.n, .fr (.ts x75.kids)], .agg [.int .i64 x84.k, .int .i64 x84.n, .fr (.ts x84.kids)]], [])))))))))))))))))))))))))))))))))))))))
 ((FF n 47 [.one (.ptr 0 0), .one (.fr (.ts x15)), .agg [.int .i64 x17.k, .int .i64 x17.n, .fr (.ts x17.kids)]] [.cells [.fr (.bs x45), .int .i64 x47]]).bind fun x51 =>
 (aP x51.2 fun x52 x53 =>
 (bsC x52 fun x54 x55 =>
 (aS .i64 x55 fun x56 x57 =>
 (aQ x57
 (rTs x51.1 fun x58 x59 =>
 (ag x59 fun x60 x61 =>
 (ai x61 (aj x53
 ((FF n 48 [.one (.ptr 0 0), .agg [.int .i64 x40.k, .int .i64 x40.n, .fr (.ts x40.kids)]] [.cells [.fr (.bs x54), .int .i64 x56]]).bind fun x62 =>
 (aP x62.2 fun x63 x64 =>
 (bsC x63 fun x65 x66 =>
 (aS .i64 x66 fun x67 x68 =>
 (aQ x68
 (ag x62.1 fun x69 x70 =>
 (ai x70 (aj x64
 (some ([.one (.fr (.ts x58)), .agg [.int .i64 x60.k, .int .i64 x60.n, .fr (.ts x60.kids)], .agg [.int .i64 x69.k, .int .i64 x69.n, .fr (.ts x69.kids)]], []))))))))))))))))))))))))))))))))))))
 ((FF n 35 [.one (.ptr 0 0), .one (.int .i64 3)] [.cells [.fr (.bs x27), .int .i64 x29]]).bind fun x33 =>
 (aP x33.2 fun x34 x35 =>
 (bsC x34 fun x36 x37 =>
 (aS .i64 x37 fun x38 x39 =>
 (aQ x39
 (aB .i64 x33.1 fun x40 x41 =>
 (ai x41 (aj x35
 (cond (decide (x40 = 0))
 ((FF n 22 [.one (.int .i64 6), .one (.int .i64 0)] []).bind fun x42 =>
 (ag x42.1 fun x43 x44 =>
 (ai x44 (aj x42.2
 ((FF n 46 [.agg [.int .i64 x20.k, .int .i64 x20.n, .fr (.ts x20.kids)], .one (.int .i64 1), .one (.int .i64 0)] []).bind fun x45 =>
 (ag x45.1 fun x46 x47 =>
 (ai x47 (aj x45.2
 ((FF n 45 [.one (.int .i64 4), .one (.fr (.ts [(T.mk x43.k x43.n x43.kids), (T.mk x46.k x46.n x46.kids)]))] []).bind fun x48 =>
 (ag x48.1 fun x49 x50 =>
 (ai x50 (aj x48.2
 ((FF n 22 [.one (.int .i64 7), .one (.int .i64 0)] []).bind fun x51 =>
 (ag x51.1 fun x52 x53 =>
 (ai x53 (aj x51.2
 ((FF n 45 [.one (.int .i64 5), .one (.fr (.ts [(T.mk x49.k x49.n x49.kids), (T.mk x52.k x52.n x52.kids)]))] []).bind fun x54 =>
 (ag x54.1 fun x55 x56 =>
 (ai x56 (aj x54.2
 ((FF n 47 [.one (.ptr 0 0), .one (.fr (.ts x15)), .agg [.int .i64 x17.k, .int .i64 x17.n, .fr (.ts x17.kids)]] [.cells [.fr (.bs x36), .int .i64 x38]]).bind fun x57 =>
 (aP x57.2 fun x58 x59 =>
 (bsC x58 fun x60 x61 =>
 (aS .i64 x61 fun x62 x63 =>
 (aQ x63
 (rTs x57.1 fun x64 x65 =>
 (ag x65 fun x66 x67 =>
 (ai x67 (aj x59
 ((FF n 48 [.one (.ptr 0 0), .agg [.int .i64 x55.k, .int .i64 x55.n, .fr (.ts x55.kids)]] [.cells [.fr (.bs x60), .int .i64 x62]]).bind fun x68 =>
 (aP x68.2 fun x69 x70 =>
 (bsC x69 fun x71 x72 =>
 (aS .i64 x72 fun x73 x74 =>
 (aQ x74
 (ag x68.1 fun x75 x76 =>
 (ai x76 (aj x70
 (some ([.one (.fr (.ts x64)), .agg [.int .i64 x66.k, .int .i64 x66.n, .fr (.ts x66.kids)], .agg [.int .i64 x75.k, .int .i64 x75.n, .fr (.ts x75.kids)]], [])))))))))))))))))))))))))))))))))))))))
 ((FF n 47 [.one (.ptr 0 0), .one (.fr (.ts x15)), .agg [.int .i64 x17.k, .int .i64 x17.n, .fr (.ts x17.kids)]] [.cells [.fr (.bs x36), .int .i64 x38]]).bind fun x42 =>
 (aP x42.2 fun x43 x44 =>
 (bsC x43 fun x45 x46 =>
 (aS .i64 x46 fun x47 x48 =>
 (aQ x48
 (rTs x42.1 fun x49 x50 =>
 (ag x50 fun x51 x52 =>
 (ai x52 (aj x44
 ((FF n 48 [.one (.ptr 0 0), .agg [.int .i64 x20.k, .int .i64 x20.n, .fr (.ts x20.kids)]] [.cells [.fr (.bs x45), .int .i64 x47]]).bind fun x53 =>
 (aP x53.2 fun x54 x55 =>
 (bsC x54 fun x56 x57 =>
 (aS .i64 x57 fun x58 x59 =>
 (aQ x59
 (ag x53.1 fun x60 x61 =>
 (ai x61 (aj x55
 (some ([.one (.fr (.ts x49)), .agg [.int .i64 x51.k, .int .i64 x51.n, .fr (.ts x51.kids)], .agg [.int .i64 x60.k, .int .i64 x60.n, .fr (.ts x60.kids)]], [])))))))))))))))))))))))))))))))))))))))))))))))))))))))))))) := by kernel_rfl
noncomputable def cD (n c : Nat) (v0 : Int) (v1 : List T) (v2 v3 v4 : Int) (v5 : List T) (v6 v7 : Int) (v8 : List T) : OR := aJ Try.prog SS n 27 0 [1, 1, 1, 0, 1, 0] [] c ⟨[.v (.one (.int .i64 v0)), .v (.one (.fr (.ts v1))), aa, aa, aa, aa, .v (.one (.ptr 0 0)), aa, .v (.one (.ptr 2 0)), .v (.one (.int .i64 v2)), aa, aa, aa, aa, aa, aa, aa, aa, aa, aa, aa, aa, aa, aa, aa, aa, aa, aa, aa, aa, aa, aa, aa, aa, aa, aa, aa, aa, aa, aa],
 [.cells [.int .i64 v3, .int .i64 v4, .own 1 0], .arr 29 (.ts v5) 0 false, .cells [.int .i64 v6, .int .i64 v7, .fr (.ts v8)]]⟩
theorem cw (n c : Nat) (v0 : Int) (v1 : List T) (v2 v3 v4 : Int) (v5 : List T) (v6 v7 : Int) (v8 : List T) : cD n (c + 1) v0 v1 v2 v3 v4 v5 v6 v7 v8 =
 (cond (decide (0 ≤ v2))
 (cond (decide (0 ≤ v2))
 (v1[(v2 : Int).toNat]?.bind fun x0 =>
 ((FF n 50 [.one (.int .i64 v0), .one (.fr (.ts [(T.mk x0.k x0.n x0.kids), (T.mk v6 v7 v8)]))] []).bind fun x1 =>
 (ag x1.1 fun x2 x3 =>
 (ai x3 (aj x1.2
 (cD n c v0 v1 (IntKind.i64.wrap (v2 - 1)) v3 v4 v5 (x2.k) (x2.n) (x2.kids)))))))
 none)
 ((FF n 34 [.agg [.int .i64 v6, .int .i64 v7, .fr (.ts v8)]] []).bind fun x0 =>
 (ag x0.1 fun x1 x2 =>
 (ai x2 (aj x0.2
 ((FF n 51 [.agg [.int .i64 x1.k, .int .i64 x1.n, .fr (.ts x1.kids)]] []).bind fun x3 =>
 (ag x3.1 fun x4 x5 =>
 (aD x5 fun x6 x7 =>
 (ai x7 (aj x3.2
 (some ([.agg [.int .i64 x4.k, .int .i64 x4.n, .fr (.ts x4.kids)], .one (.bool x6)], [])))))))))))) := by kernel_rfl
theorem og (n : Nat) (v0 : Int) (v1 : List T) (v2 v3 : Int) (v4 : List T) : FF (n + 1) 27 [.one (.int .i64 v0), .one (.fr (.ts v1)), .agg [.int .i64 v2, .int .i64 v3, .fr (.ts v4)]] [] =
 ((FF n 49 [.one (.fr (.ts v1))] []).bind fun x0 =>
 (aD x0.1 fun x1 x2 =>
 (ai x2 (aj x0.2
 (cond (!x1)
 (some ([.agg [.int .i64 0, .int .i64 0, .fr (.ts [])], .one (.bool false)], []))
 ((FF n 33 [.agg [.int .i64 v2, .int .i64 v3, .fr (.ts v4)]] []).bind fun x3 =>
 (aD x3.1 fun x4 x5 =>
 (ai x5 (aj x3.2
 (cond (!x4)
 (some ([.agg [.int .i64 0, .int .i64 0, .fr (.ts [])], .one (.bool false)], []))
 (cD n n v0 v1 (IntKind.i64.wrap ((v1.length : Int) - 1)) 0 0 ([]) v2 v3 v4))))))))))) := by kernel_rfl
noncomputable def dP (n c : Nat) (v0 : List T) (v1 : Int) : OR := aJ Try.prog SS n 28 0 [1, 0, 1, 0] [] c ⟨[.v (.one (.fr (.ts v0))), aa, aa, .v (.one (.int .i64 v1)), aa, aa, aa, aa, aa, aa, aa, aa, aa, aa, aa, aa, aa, aa, aa],
 []⟩
theorem fS (n c : Nat) (v0 : List T) (v1 : Int) : dP n (c + 1) v0 v1 =
 (cond (decide (v1 < (v0.length : Int)))
 (cond (decide (0 ≤ v1))
 (v0[(v1 : Int).toNat]?.bind fun x0 =>
 ((FF n 29 [.agg [.int .i64 x0.k, .int .i64 x0.n, .fr (.ts x0.kids)]] []).bind fun x1 =>
 (aD x1.1 fun x2 x3 =>
 (ai x3 (aj x1.2
 (cond (!x2)
 (some ([.one (.bool false)], []))
 (dP n c v0 (IntKind.i64.wrap (v1 + 1)))))))))
 none)
 (some ([.one (.bool (decide ((v0.length : Int) ≤ 8)))], []))) := by kernel_rfl
theorem qN (n : Nat) (v0 : List T) : FF (n + 1) 28 [.one (.fr (.ts v0))] [] =
 dP n n v0 0 := by kernel_rfl
theorem mi (n : Nat) (v0 v1 : Int) (v2 : List T) : FF (n + 1) 29 [.agg [.int .i64 v0, .int .i64 v1, .fr (.ts v2)]] [] =
 ((FF n 52 [.agg [.int .i64 v0, .int .i64 v1, .fr (.ts v2)], .one (.int .i64 30)] []).bind fun x0 =>
 (aD x0.1 fun x1 x2 =>
 (ai x2 (aj x0.2
 (cond x1
 ((FF n 53 [.agg [.int .i64 v0, .int .i64 v1, .fr (.ts v2)], .one (.int .i64 400)] []).bind fun x3 =>
 (aB .i64 x3.1 fun x4 x5 =>
 (ai x5 (aj x3.2
 (some ([.one (.bool (decide (x4 ≤ 400)))], []))))))
 (some ([.one (.bool false)], []))))))) := by kernel_rfl
noncomputable def dT (n c : Nat) (v0 : Int) (v1 : List T) (v2 v3 v4 : Int) (v5 : List T) (v6 v7 : Int) (v8 : List T) : OR := aJ Try.prog SS n 31 0 [1, 1, 0, 1, 0] [] c ⟨[.v (.one (.int .i64 v0)), .v (.one (.fr (.ts v1))), aa, aa, aa, aa, .v (.one (.ptr 0 0)), .v (.one (.ptr 2 0)), .v (.one (.int .i64 v2)), aa, aa, aa, aa, aa, aa, aa, aa, aa, aa, aa, aa, aa, aa, aa, aa, aa, aa, aa],
 [.cells [.int .i64 v3, .int .i64 v4, .own 1 0], .arr 29 (.ts v5) 0 false, .cells [.int .i64 v6, .int .i64 v7, .own 3 0], .arr 29 (.ts v8) 0 false]⟩
noncomputable def cJ (n c : Nat) (v0 : Int) (v1 : List T) (v2 v3 v4 : Int) (v5 : List T) (v6 v7 : Int) (v8 : List T) : OR := aJ Try.prog SS n 31 0 [1, 1, 0, 1, 0] [] c ⟨[.v (.one (.int .i64 v0)), .v (.one (.fr (.ts v1))), aa, aa, aa, aa, .v (.one (.ptr 0 0)), .v (.one (.ptr 2 0)), .v (.one (.int .i64 v2)), aa, aa, aa, aa, aa, aa, aa, aa, aa, aa, aa, aa, aa, aa, aa, aa, aa, aa, aa],
 [.cells [.int .i64 v3, .int .i64 v4, .own 1 0], .arr 29 (.ts v5) 0 false, .cells [.int .i64 v6, .int .i64 v7, .fr (.ts v8)]]⟩
theorem eN (n c : Nat) (v0 : Int) (v1 : List T) (v2 v3 v4 : Int) (v5 : List T) (v6 v7 : Int) (v8 : List T) : dT n (c + 1) v0 v1 v2 v3 v4 v5 v6 v7 v8 =
 (cond (decide (0 ≤ v2))
 (cond (decide (0 ≤ v2))
 (v1[(v2 : Int).toNat]?.bind fun x0 =>
 ((FF n 54 [.agg [.int .i64 x0.k, .int .i64 x0.n, .fr (.ts x0.kids)]] []).bind fun x1 =>
 (eK 0 x1.1 fun x2 x3 x4 =>
 (bW 29 x1.2 fun x5 x6 =>
 (ai x4 (aj x6
 ((FF n 45 [.one (.int .i64 v0), .one (.fr (.ts [(T.mk x2 x3 x5), (T.mk v6 v7 v8)]))] []).bind fun x7 =>
 (ag x7.1 fun x8 x9 =>
 (ai x9 (aj x7.2
 (cJ n c v0 v1 (IntKind.i64.wrap (v2 - 1)) v3 v4 v5 (x8.k) (x8.n) (x8.kids))))))))))))
 none)
 (some ([.agg [.int .i64 v6, .int .i64 v7, .fr (.ts v8)]], []))) := by kernel_rfl
theorem eQ (n c : Nat) (v0 : Int) (v1 : List T) (v2 v3 v4 : Int) (v5 : List T) (v6 v7 : Int) (v8 : List T) : cJ n (c + 1) v0 v1 v2 v3 v4 v5 v6 v7 v8 =
 (cond (decide (0 ≤ v2))
 (cond (decide (0 ≤ v2))
 (v1[(v2 : Int).toNat]?.bind fun x0 =>
 ((FF n 54 [.agg [.int .i64 x0.k, .int .i64 x0.n, .fr (.ts x0.kids)]] []).bind fun x1 =>
 (eK 0 x1.1 fun x2 x3 x4 =>
 (bW 29 x1.2 fun x5 x6 =>
 (ai x4 (aj x6
 ((FF n 45 [.one (.int .i64 v0), .one (.fr (.ts [(T.mk x2 x3 x5), (T.mk v6 v7 v8)]))] []).bind fun x7 =>
 (ag x7.1 fun x8 x9 =>
 (ai x9 (aj x7.2
 (cJ n c v0 v1 (IntKind.i64.wrap (v2 - 1)) v3 v4 v5 (x8.k) (x8.n) (x8.kids))))))))))))
 none)
 (some ([.agg [.int .i64 v6, .int .i64 v7, .fr (.ts v8)]], []))) := by kernel_rfl
theorem rO (n : Nat) (v0 : Int) (v1 : List T) (v2 v3 : Int) (v4 : List T) : FF (n + 1) 31 [.one (.int .i64 v0), .one (.fr (.ts v1)), .agg [.int .i64 v2, .int .i64 v3, .fr (.ts v4)]] [] =
 ((FF n 54 [.agg [.int .i64 v2, .int .i64 v3, .fr (.ts v4)]] []).bind fun x0 =>
 (eK 0 x0.1 fun x1 x2 x3 =>
 (bW 29 x0.2 fun x4 x5 =>
 (ai x3 (aj x5
 (dT n n v0 v1 (IntKind.i64.wrap ((v1.length : Int) - 1)) 0 0 ([]) x1 x2 x4)))))) := by kernel_rfl
theorem rT (n : Nat) (v0 v1 : Int) (v2 : List T) : FF (n + 1) 30 [.agg [.int .i64 v0, .int .i64 v1, .fr (.ts v2)]] [] =
 ((FF n 29 [.agg [.int .i64 v0, .int .i64 v1, .fr (.ts v2)]] []).bind fun x0 =>
 (aD x0.1 fun x1 x2 =>
 (ai x2 (aj x0.2
 (cond (!x1)
 (some ([.agg [.int .i64 0, .int .i64 0, .fr (.ts [])], .one (.bool false)], []))
 (some ([.agg [.int .i64 v0, .int .i64 v1, .fr (.ts v2)], .one (.bool true)], []))))))) := by kernel_rfl
noncomputable def aY (n c : Nat) (v0 v1 : List T) (v2 v3 : Int) : OR := aJ Try.prog SS n 32 0 [1, 1, 0, 1, 0] [] c ⟨[aa, .v (.one (.fr (.ts v0))), .v (.one (.fn 15 [])), aa, aa, aa, aa, aa, aa, aa, aa, aa, aa, aa, aa, .v (.one (.fr (.ts v1))), .v (.one (.int .i64 v2)), .v (.one (.int .i64 v3)), aa, aa, aa, aa, aa, aa, aa, aa, aa, aa, aa, aa, aa, aa],
 []⟩
theorem bL (n c : Nat) (v0 v1 : List T) (v2 v3 : Int) : aY n (c + 1) v0 v1 v2 v3 =
 (cond (decide (v3 < v2))
 (cond (decide (0 ≤ v3))
 (v1[(v3 : Int).toNat]?.bind fun x0 =>
 (cond (decide (0 ≤ v3))
 (v0[(v3 : Int).toNat]?.bind fun x1 =>
 ((FF n 15 [.agg [.int .i64 x0.k, .int .i64 x0.n, .fr (.ts x0.kids)], .agg [.int .i64 x1.k, .int .i64 x1.n, .fr (.ts x1.kids)]] []).bind fun x2 =>
 (aD x2.1 fun x3 x4 =>
 (ai x4 (aj x2.2
 (cond (!x3)
 (some ([.one (.bool false)], []))
 (aY n c v0 v1 v2 (IntKind.i64.wrap (v3 + 1)))))))))
 none))
 none)
 (some ([.one (.bool true)], []))) := by kernel_rfl
theorem dX (n : Nat) (v0 v1 : List T) : FF (n + 1) 32 [.one (.fr (.ts v0)), .one (.fr (.ts v1)), .one (.fn 15 [])] [] =
 (cond (!decide ((v0.length : Int) = (v1.length : Int)))
 (some ([.one (.bool false)], []))
 (aY n n v1 v0 ((v0.length : Int) : Int) 0)) := by kernel_rfl
theorem l9 (n : Nat) (v0 v1 : Int) (v2 : List T) : FF (n + 1) 33 [.agg [.int .i64 v0, .int .i64 v1, .fr (.ts v2)]] [] =
 ((FF n 55 [.agg [.int .i64 v0, .int .i64 v1, .fr (.ts v2)], .one (.int .i64 1), .one (.ptr 0 0)] [.cells [.int .i64 0]]).bind fun x0 =>
 (aP x0.2 fun x1 x2 =>
 (aS .i64 x1 fun x3 x4 =>
 (aQ x4
 (aD x0.1 fun x5 x6 =>
 (ai x6 (aj x2
 (some ([.one (.bool x5)], []))))))))) := by kernel_rfl
noncomputable def dN (n c : Nat) (v0 : List T) (v1 v2 v3 v4 : Int) (v5 : List T) (v6 v7 : Int) (v8 : List T) : OR := aJ Try.prog SS n 34 0 [1, 1, 0, 1, 0] [] c ⟨[aa, aa, .v (.one (.ptr 0 0)), .v (.one (.ptr 2 0)), aa, aa, aa, aa, aa, aa, aa, aa, .v (.one (.fr (.ts v0))), .v (.one (.int .i64 v1)), .v (.one (.int .i64 v2)), aa, aa, aa, aa, aa, aa, aa, aa, aa, aa, aa, aa],
 [.cells [.int .i64 v3, .int .i64 v4, .own 1 0], .arr 29 (.ts v5) 0 false, .cells [.int .i64 v6, .int .i64 v7, .own 3 0], .arr 29 (.ts v8) 0 false]⟩
theorem fR (n c : Nat) (v0 : List T) (v1 v2 v3 v4 : Int) (v5 : List T) (v6 v7 : Int) (v8 : List T) : dN n (c + 1) v0 v1 v2 v3 v4 v5 v6 v7 v8 =
 (cond (decide (v2 < v1))
 (cond (decide (0 ≤ v2))
 (v0[(v2 : Int).toNat]?.bind fun x0 =>
 ((FF n 34 [.agg [.int .i64 x0.k, .int .i64 x0.n, .fr (.ts x0.kids)]] []).bind fun x1 =>
 (ag x1.1 fun x2 x3 =>
 (ai x3 (aj x1.2
 (cond (b8 (v8 ++ [(T.mk x2.k x2.n x2.kids)]).length)
 (dN n c v0 v1 (IntKind.i64.wrap (v2 + 1)) v3 v4 v5 v6 v7 (v8 ++ [(T.mk x2.k x2.n x2.kids)]))
 none))))))
 none)
 (some ([.agg [.int .i64 v6, .int .i64 v7, .fr (.ts v8)]], []))) := by kernel_rfl
theorem yV (n : Nat) (v0 v1 : Int) (v2 : List T) : FF (n + 1) 34 [.agg [.int .i64 v0, .int .i64 v1, .fr (.ts v2)]] [] =
 dN n n v2 ((v2.length : Int) : Int) 0 0 0 ([]) v0 v1 ([]) := by kernel_rfl
theorem cV (n : Nat) (v0 : Int) (v1 : List UInt8) (v2 : Int) : FF (n + 1) 35 [.one (.ptr 0 0), .one (.int .i64 v0)] [.cells [.fr (.bs v1), .int .i64 v2]] =
 (cond (decide (v0 < 1))
 (some ([.one (.int .i64 0)], [.cells [.fr (.bs v1), .int .i64 (IntKind.i64.wrap (v2 + 1))]]))
 (cond (decide ((v1.length : Int) = 0))
 (some ([.one (.int .i64 0)], [.cells [.fr (.bs v1), .int .i64 (IntKind.i64.wrap (v2 + 1))]]))
 (cond (decide ((IntKind.i64.wrap ((IntKind.i64.wrap (v2 + 1)) - 1)) < (v1.length : Int)))
 (cond (decide (0 ≤ (IntKind.i64.wrap ((IntKind.i64.wrap (v2 + 1)) - 1))))
 (v1[((IntKind.i64.wrap ((IntKind.i64.wrap (v2 + 1)) - 1)) : Int).toNat]?.bind fun x0 =>
 (cond (decide (v0 = 0))
 none
 (some ([.one (.int .i64 (Int.tmod (IntKind.i64.wrap (x0.toNat : Int)) v0))], [.cells [.fr (.bs v1), .int .i64 (IntKind.i64.wrap (v2 + 1))]]))))
 none)
 (cond (decide ((v1.length : Int) = 0))
 none
 (cond (decide (0 ≤ (Int.tmod (IntKind.i64.wrap ((IntKind.i64.wrap (v2 + 1)) - 1)) (v1.length : Int))))
 (v1[((Int.tmod (IntKind.i64.wrap ((IntKind.i64.wrap (v2 + 1)) - 1)) (v1.length : Int)) : Int).toNat]?.bind fun x0 =>
 (cond (decide ((v1.length : Int) = 0))
 none
 (cond (decide (0 ≤ (Int.tmod (IntKind.i64.wrap ((IntKind.i64.wrap ((IntKind.i64.wrap ((IntKind.i64.wrap (v2 + 1)) - 1)) * 7)) + 3)) (v1.length : Int))))
 (v1[((Int.tmod (IntKind.i64.wrap ((IntKind.i64.wrap ((IntKind.i64.wrap ((IntKind.i64.wrap (v2 + 1)) - 1)) * 7)) + 3)) (v1.length : Int)) : Int).toNat]?.bind fun x1 =>
 (cond (decide ((v1.length : Int) = 0))
 none
 (cond (decide (v0 = 0))
 none
 (some ([.one (.int .i64 (Int.tmod (IntKind.i64.wrap (BitVec.ofInt IntKind.i64.bits (IntKind.i64.wrap ((IntKind.i64.wrap ((IntKind.i64.wrap ((IntKind.i64.wrap ((IntKind.i64.wrap (x0.toNat : Int)) * 131)) + (IntKind.i64.wrap ((IntKind.i64.wrap (x1.toNat : Int)) * 1117)))) + (IntKind.i64.wrap ((IntKind.i64.wrap ((IntKind.i64.wrap (v2 + 1)) - 1)) * 29)))) + (IntKind.i64.wrap ((IntKind.i64.wrap (Int.tdiv (IntKind.i64.wrap ((IntKind.i64.wrap (v2 + 1)) - 1)) (v1.length : Int))) * 53)))) ^^^ BitVec.ofInt IntKind.i64.bits (IntKind.i64.wrap (Int.tdiv (IntKind.i64.wrap ((IntKind.i64.wrap ((IntKind.i64.wrap ((IntKind.i64.wrap ((IntKind.i64.wrap (x0.toNat : Int)) * 131)) + (IntKind.i64.wrap ((IntKind.i64.wrap (x1.toNat : Int)) * 1117)))) + (IntKind.i64.wrap ((IntKind.i64.wrap ((IntKind.i64.wrap (v2 + 1)) - 1)) * 29)))) + (IntKind.i64.wrap ((IntKind.i64.wrap (Int.tdiv (IntKind.i64.wrap ((IntKind.i64.wrap (v2 + 1)) - 1)) (v1.length : Int))) * 53)))) 64))).toNat) v0))], [.cells [.fr (.bs v1), .int .i64 (IntKind.i64.wrap (v2 + 1))]])))))
 none)))
 none))))) := by kernel_rfl
noncomputable def b5 (n c : Nat) (v0 v1 : List T) (v2 v3 : Int) : OR := aJ Try.prog SS n 36 0 [1, 1, 0, 1, 0] [] c ⟨[.v (.one (.fr (.ts v0))), aa, aa, aa, aa, aa, aa, aa, aa, aa, aa, aa, .v (.one (.fr (.ts v1))), .v (.one (.int .i64 v2)), .v (.one (.int .i64 v3)), aa, aa, aa, aa, aa, aa, aa, aa, aa, aa, aa, aa, aa, aa, aa, aa, aa, aa, aa, aa, aa, aa, aa, aa, aa, aa],
 []⟩
noncomputable def bc (n c : Nat) (v0 v1 : List T) (v2 v3 : Int) : OR := aJ Try.prog SS n 36 0 [1, 1, 1, 0, 1, 0] [] c ⟨[.v (.one (.fr (.ts v0))), aa, aa, aa, aa, aa, aa, aa, aa, aa, aa, aa, aa, aa, aa, aa, aa, aa, aa, aa, aa, aa, .v (.one (.fr (.ts v1))), .v (.one (.int .i64 v2)), .v (.one (.int .i64 v3)), aa, aa, aa, aa, aa, aa, aa, aa, aa, aa, aa, aa, aa, aa, aa, aa],
 []⟩
theorem dA (n c : Nat) (v0 v1 : List T) (v2 v3 : Int) : b5 n (c + 1) v0 v1 v2 v3 =
 (cond (decide (v3 < v2))
 (cond (decide (0 ≤ v3))
 (v1[(v3 : Int).toNat]?.bind fun x0 =>
 ((FF n 33 [.agg [.int .i64 x0.k, .int .i64 x0.n, .fr (.ts x0.kids)]] []).bind fun x1 =>
 (aD x1.1 fun x2 x3 =>
 (ai x3 (aj x1.2
 (cond (!x2)
 (some ([.one (.int .i64 3)], []))
 (b5 n c v0 v1 v2 (IntKind.i64.wrap (v3 + 1)))))))))
 none)
 (bc n n v0 v0 ((v0.length : Int) : Int) 0)) := by kernel_rfl
theorem dz (n c : Nat) (v0 v1 : List T) (v2 v3 : Int) : bc n (c + 1) v0 v1 v2 v3 =
 (cond (decide (v3 < v2))
 (cond (decide (0 ≤ v3))
 (v1[(v3 : Int).toNat]?.bind fun x0 =>
 (cond (Go.Ab.inB 0 v3 v0.length)
 ((FF n 24 [.one (.fr (.ts ((v0.take (v3 : Int).toNat).drop (0 : Int).toNat))), .agg [.int .i64 x0.k, .int .i64 x0.n, .fr (.ts x0.kids)]] []).bind fun x1 =>
 (aB .i64 x1.1 fun x2 x3 =>
 (aB .i64 x3 fun x4 x5 =>
 (ai x5 (aj x1.2
 (cond (!decide (x4 = 0))
 (some ([.one (.int .i64 x4)], []))
 (bc n c v0 v1 v2 (IntKind.i64.wrap (v3 + 1)))))))))
 none))
 none)
 (some ([.one (.int .i64 0)], []))) := by kernel_rfl
theorem ju (n : Nat) (v0 : List T) : FF (n + 1) 36 [.one (.fr (.ts v0))] [] =
 (cond (decide (8 < (v0.length : Int)))
 (some ([.one (.int .i64 3)], []))
 (b5 n n v0 v0 ((v0.length : Int) : Int) 0)) := by kernel_rfl
theorem dJ (n : Nat) (v0 : List T) : FF (n + 1) 37 [.one (.fr (.ts v0)), .one (.fn 38 [])] [] =
 ((FF n 56 [.one (.fr (.ts v0)), .one (.fn 38 [])] []).bind fun x0 =>
 (aB .i64 x0.1 fun x1 x2 =>
 (ai x2 (aj x0.2
 (some ([.one (.bool (decide (0 ≤ x1)))], [])))))) := by kernel_rfl
theorem mh (n : Nat) (v0 : List T) (v1 v2 : Int) (v3 : List T) (v4 : Int) : FF (n + 1) 39 [.one (.fr (.ts v0)), .agg [.int .i64 v1, .int .i64 v2, .fr (.ts v3)], .one (.int .i64 v4)] [] =
 ((FF n 40 [.one (.fr (.ts v0)), .agg [.int .i64 v1, .int .i64 v2, .fr (.ts v3)]] []).bind fun x0 =>
 (ag x0.1 fun x1 x2 =>
 (aB .i64 x2 fun x3 x4 =>
 (ai x4 (aj x0.2
 (cond (!decide (x3 = 0))
 (some ([.agg [.int .i64 0, .int .i64 0, .fr (.ts [])], .one (.int .i64 x3)], []))
 ((FF n 57 [.agg [.int .i64 x1.k, .int .i64 x1.n, .fr (.ts x1.kids)], .one (.int .i64 v4)] []).bind fun x5 =>
 (ag x5.1 fun x6 x7 =>
 (aB .i64 x7 fun x8 x9 =>
 (ai x9 (aj x5.2
 (some ([.agg [.int .i64 x6.k, .int .i64 x6.n, .fr (.ts x6.kids)], .one (.int .i64 x8)], []))))))))))))) := by kernel_rfl
theorem tt (n : Nat) (v0 : List T) (v1 v2 : Int) (v3 : List T) : FF (n + 1) 40 [.one (.fr (.ts v0)), .agg [.int .i64 v1, .int .i64 v2, .fr (.ts v3)]] [] =
 ((FF n 60 [.agg [.fr (.ts v0), .int .i64 v1, .int .i64 v2, .fr (.ts v3), .fn 58 [0, 1]]] [.cells [.fr (.ts v0)], .cells [.int .i64 v1, .int .i64 v2, .fr (.ts v3)]]).bind fun x0 =>
 (aP x0.2 fun x1 x2 =>
 (tsC x1 fun x3 x4 =>
 (aQ x4
 (aP x2 fun x5 x6 =>
 (aS .i64 x5 fun x7 x8 =>
 (aS .i64 x8 fun x9 x10 =>
 (tsC x10 fun x11 x12 =>
 (aQ x12
 (ag x0.1 fun x13 x14 =>
 (aB .i64 x14 fun x15 x16 =>
 (ai x16 (aj x6
 (some ([.agg [.int .i64 x13.k, .int .i64 x13.n, .fr (.ts x13.kids)], .one (.int .i64 x15)], []))))))))))))))) := by kernel_rfl
theorem om (n : Nat) (v0 v1 : Int) (v2 : List T) (v3 v4 : Int) (v5 : List T) : FF (n + 1) 41 [.agg [.int .i64 v0, .int .i64 v1, .fr (.ts v2)], .agg [.int .i64 v3, .int .i64 v4, .fr (.ts v5)]] [] =
 ((FF n 61 [.agg [.int .i64 v0, .int .i64 v1, .fr (.ts v2)], .agg [.int .i64 v3, .int .i64 v4, .fr (.ts v5)], .one (.int .i64 200)] []).bind fun x0 =>
 (aB .i64 x0.1 fun x1 x2 =>
 (ai x2 (aj x0.2
 (cond (decide (x1 = 1))
 (some ([.one (.int .i64 0)], []))
 (cond (decide (x1 = 2))
 (some ([.one (.int .i64 1)], []))
 (some ([.one (.int .i64 2)], [])))))))) := by kernel_rfl
noncomputable def cK (n c : Nat) (v0 v1 : Int) (v2 : List UInt8) (v3 v4 v5 : Int) (v6 v7 : List T) : OR := aJ Try.prog SS n 42 1 [1, 0, 1, 0, 1, 1, 0, 1, 0] [] c ⟨[.v (.one (.ptr 0 0)), aa, aa, .v (.one (.ptr 1 0)), .v (.one (.int .i64 v0)), .v (.one (.own 3 0)), .v (.one (.int .i64 v1)), aa, aa, aa, aa, aa, aa, aa, aa, aa, aa, aa, aa, aa, aa, aa, aa, aa, aa, aa, aa, aa, aa, aa, aa, aa, aa, aa, aa, aa, aa, aa, aa, aa, aa, aa, aa, aa, aa, aa, aa, aa, aa, aa, aa, aa, aa, aa],
 [.cells [.fr (.bs v2), .int .i64 v3], .cells [.int .i64 v4, .int .i64 v5, .own 2 0], .arr 29 (.ts v6) 0 false, .arr 29 (.ts v7) 0 false]⟩
theorem eR (n c : Nat) (v0 v1 : Int) (v2 : List UInt8) (v3 v4 v5 : Int) (v6 v7 : List T) : cK n (c + 1) v0 v1 v2 v3 v4 v5 v6 v7 =
 (cond (decide (v1 < v0))
 ((FF n 22 [.one (.int .i64 6), .one (.int .i64 0)] []).bind fun x0 =>
 (ag x0.1 fun x1 x2 =>
 (ai x2 (aj x0.2
 (cond (b8 (v7 ++ [(T.mk x1.k x1.n x1.kids)]).length)
 (cK n c v0 (IntKind.i64.wrap (v1 + 1)) v2 v3 v4 v5 v6 (v7 ++ [(T.mk x1.k x1.n x1.kids)]))
 none)))))
 ((FF n 19 [.one (.ptr 0 0), .one (.fr (.is [3, 2, 4, 1]))] [.cells [.fr (.bs v2), .int .i64 v3]]).bind fun x0 =>
 (aP x0.2 fun x1 x2 =>
 (bsC x1 fun x3 x4 =>
 (aS .i64 x4 fun x5 x6 =>
 (aQ x6
 (aB .i64 x0.1 fun x7 x8 =>
 (ai x8 (aj x2
 ((FF n 62 [.one (.ptr 0 0), .one (.int .i64 v0), .one (.int .i64 x7)] [.cells [.fr (.bs x3), .int .i64 x5]]).bind fun x9 =>
 (aP x9.2 fun x10 x11 =>
 (bsC x10 fun x12 x13 =>
 (aS .i64 x13 fun x14 x15 =>
 (aQ x15
 (ag x9.1 fun x16 x17 =>
 (ai x17 (aj x11
 ((FF n 29 [.agg [.int .i64 x16.k, .int .i64 x16.n, .fr (.ts x16.kids)]] []).bind fun x18 =>
 (aD x18.1 fun x19 x20 =>
 (ai x20 (aj x18.2
 (cond x19
 (some ([.one (.fr (.ts v7)), .agg [.int .i64 x16.k, .int .i64 x16.n, .fr (.ts x16.kids)]], [.cells [.fr (.bs x12), .int .i64 x14]]))
 ((FF n 35 [.one (.ptr 0 0), .one (.int .i64 4)] [.cells [.fr (.bs x12), .int .i64 x14]]).bind fun x21 =>
 (aP x21.2 fun x22 x23 =>
 (bsC x22 fun x24 x25 =>
 (aS .i64 x25 fun x26 x27 =>
 (aQ x27
 (aB .i64 x21.1 fun x28 x29 =>
 (ai x29 (aj x23
 ((FF n 63 [.one (.int .i64 x28)] []).bind fun x30 =>
 (rSs x30.1 fun x31 x32 =>
 (rSs x32 fun x33 x34 =>
 (ai x34 (aj x30.2
 ((FF n 64 [.one (.fr (.ss x33))] []).bind fun x35 =>
 (rTs x35.1 fun x36 x37 =>
 (ai x37 (aj x35.2
 ((FF n 64 [.one (.fr (.ss x31))] []).bind fun x38 =>
 (rTs x38.1 fun x39 x40 =>
 (ai x40 (aj x38.2
 ((FF n 35 [.one (.ptr 0 0), .one (.int .i64 (x36.length : Int))] [.cells [.fr (.bs x24), .int .i64 x26]]).bind fun x41 =>
 (aP x41.2 fun x42 x43 =>
 (bsC x42 fun x44 x45 =>
 (aS .i64 x45 fun x46 x47 =>
 (aQ x47
 (aB .i64 x41.1 fun x48 x49 =>
 (ai x49 (aj x43
 (cond (decide (0 ≤ x48))
 (x36[(x48 : Int).toNat]?.bind fun x50 =>
 some ([.one (.fr (.ts x39)), .agg [.int .i64 x50.k, .int .i64 x50.n, .fr (.ts x50.kids)]], [.cells [.fr (.bs x44), .int .i64 x46]]))
 none)))))))))))))))))))))))))))))))))))))))))))))))))))) := by kernel_rfl
theorem rD (n : Nat) (v0 : List UInt8) (v1 : Int) : FF (n + 1) 42 [.one (.ptr 0 0)] [.cells [.fr (.bs v0), .int .i64 v1]] =
 ((FF n 35 [.one (.ptr 0 0), .one (.int .i64 2)] [.cells [.fr (.bs v0), .int .i64 v1]]).bind fun x0 =>
 (aP x0.2 fun x1 x2 =>
 (bsC x1 fun x3 x4 =>
 (aS .i64 x4 fun x5 x6 =>
 (aQ x6
 (aB .i64 x0.1 fun x7 x8 =>
 (ai x8 (aj x2
 (cond (decide (x7 = 0))
 ((FF n 19 [.one (.ptr 0 0), .one (.fr (.is [0, 1, 2, 0]))] [.cells [.fr (.bs x3), .int .i64 x5]]).bind fun x9 =>
 (aP x9.2 fun x10 x11 =>
 (bsC x10 fun x12 x13 =>
 (aS .i64 x13 fun x14 x15 =>
 (aQ x15
 (aB .i64 x9.1 fun x16 x17 =>
 (ai x17 (aj x11
 (cK n n x16 0 x12 x14 0 0 ([]) ([]))))))))))
 ((FF n 35 [.one (.ptr 0 0), .one (.int .i64 4)] [.cells [.fr (.bs x3), .int .i64 x5]]).bind fun x9 =>
 (aP x9.2 fun x10 x11 =>
 (bsC x10 fun x12 x13 =>
 (aS .i64 x13 fun x14 x15 =>
 (aQ x15
 (aB .i64 x9.1 fun x16 x17 =>
 (ai x17 (aj x11
 ((FF n 63 [.one (.int .i64 x16)] []).bind fun x18 =>
 (rSs x18.1 fun x19 x20 =>
 (rSs x20 fun x21 x22 =>
 (ai x22 (aj x18.2
 ((FF n 64 [.one (.fr (.ss x21))] []).bind fun x23 =>
 (rTs x23.1 fun x24 x25 =>
 (ai x25 (aj x23.2
 ((FF n 64 [.one (.fr (.ss x19))] []).bind fun x26 =>
 (rTs x26.1 fun x27 x28 =>
 (ai x28 (aj x26.2
 ((FF n 35 [.one (.ptr 0 0), .one (.int .i64 (x24.length : Int))] [.cells [.fr (.bs x12), .int .i64 x14]]).bind fun x29 =>
 (aP x29.2 fun x30 x31 =>
 (bsC x30 fun x32 x33 =>
 (aS .i64 x33 fun x34 x35 =>
 (aQ x35
 (aB .i64 x29.1 fun x36 x37 =>
 (ai x37 (aj x31
 (cond (decide (0 ≤ x36))
 (x24[(x36 : Int).toNat]?.bind fun x38 =>
 some ([.one (.fr (.ts x27)), .agg [.int .i64 x38.k, .int .i64 x38.n, .fr (.ts x38.kids)]], [.cells [.fr (.bs x32), .int .i64 x34]]))
 none))))))))))))))))))))))))))))))))))))))) := by kernel_rfl
theorem eU (n : Nat) (v0 : List T) (v1 v2 : Int) (v3 : List T) : FF (n + 1) 43 [.one (.fr (.ts v0)), .agg [.int .i64 v1, .int .i64 v2, .fr (.ts v3)]] [] =
 ((FF n 28 [.one (.fr (.ts v0))] []).bind fun x0 =>
 (aD x0.1 fun x1 x2 =>
 (ai x2 (aj x0.2
 (cond (!x1)
 (some ([.agg [.int .i64 0, .int .i64 0, .fr (.ts [])], .one (.int .i64 3)], []))
 ((FF n 29 [.agg [.int .i64 v1, .int .i64 v2, .fr (.ts v3)]] []).bind fun x3 =>
 (aD x3.1 fun x4 x5 =>
 (ai x5 (aj x3.2
 (cond (!x4)
 (some ([.agg [.int .i64 0, .int .i64 0, .fr (.ts [])], .one (.int .i64 3)], []))
 ((FF n 65 [.one (.fr (.ts v0))] []).bind fun x6 =>
 (aB .i64 x6.1 fun x7 x8 =>
 (ai x8 (aj x6.2
 (cond (!decide (x7 = 0))
 (some ([.agg [.int .i64 0, .int .i64 0, .fr (.ts [])], .one (.int .i64 x7)], []))
 ((FF n 66 [.one (.fr (.ts v0)), .agg [.int .i64 v1, .int .i64 v2, .fr (.ts v3)]] []).bind fun x9 =>
 (ag x9.1 fun x10 x11 =>
 (aB .i64 x11 fun x12 x13 =>
 (ai x13 (aj x9.2
 ((FF n 67 [.agg [.int .i64 x10.k, .int .i64 x10.n, .fr (.ts x10.kids)], .one (.int .i64 x12)] []).bind fun x14 =>
 (ag x14.1 fun x15 x16 =>
 (aB .i64 x16 fun x17 x18 =>
 (ai x18 (aj x14.2
 (some ([.agg [.int .i64 x15.k, .int .i64 x15.n, .fr (.ts x15.kids)], .one (.int .i64 x17)], []))))))))))))))))))))))))))) := by kernel_rfl
end Go.Proofs.Ytajlknlnmmbfcaa
end
section
namespace Go.Proofs.Ytajlknlnmmbfcaa
open Go Go.Ab Go.Dk
theorem sE (n : Nat) (v0 : List UInt8) (v1 : Int) : FF (n + 1) 44 [.one (.ptr 0 0)] [.cells [.fr (.bs v0), .int .i64 v1]] =
 ((FF n 19 [.one (.ptr 0 0), .one (.fr (.is [3, 4, 2, 3, 1]))] [.cells [.fr (.bs v0), .int .i64 v1]]).bind fun x0 =>
 (aP x0.2 fun x1 x2 =>
 (bsC x1 fun x3 x4 =>
 (aS .i64 x4 fun x5 x6 =>
 (aQ x6
 (aB .i64 x0.1 fun x7 x8 =>
 (ai x8 (aj x2
 ((FF n 68 [.one (.ptr 0 0), .one (.int .i64 x7)] [.cells [.fr (.bs x3), .int .i64 x5]]).bind fun x9 =>
 (aP x9.2 fun x10 x11 =>
 (bsC x10 fun x12 x13 =>
 (aS .i64 x13 fun x14 x15 =>
 (aQ x15
 (ag x9.1 fun x16 x17 =>
 (ai x17 (aj x11
 ((FF n 29 [.agg [.int .i64 x16.k, .int .i64 x16.n, .fr (.ts x16.kids)]] []).bind fun x18 =>
 (aD x18.1 fun x19 x20 =>
 (ai x20 (aj x18.2
 (cond x19
 (some ([.agg [.int .i64 x16.k, .int .i64 x16.n, .fr (.ts x16.kids)]], [.cells [.fr (.bs x12), .int .i64 x14]]))
 ((FF n 22 [.one (.int .i64 7), .one (.int .i64 0)] []).bind fun x21 =>
 (ag x21.1 fun x22 x23 =>
 (ai x23 (aj x21.2
 (some ([.agg [.int .i64 x22.k, .int .i64 x22.n, .fr (.ts x22.kids)]], [.cells [.fr (.bs x12), .int .i64 x14]]))))))))))))))))))))))))))) := by kernel_rfl
noncomputable def bh (n c : Nat) (v0 v1 v2 v3 v4 : Int) (v5 : List T) (v6 v7 : Int) (v8 : List T) (v9 v10 : Int) (v11 : List T) : OR := aJ Try.prog SS n 46 0 [1, 1, 1, 0, 1, 0] [] c ⟨[aa, .v (.one (.int .i64 v0)), .v (.one (.int .i64 v1)), .v (.one (.ptr 0 0)), aa, aa, .v (.one (.ptr 1 0)), .v (.one (.ptr 3 0)), .v (.one (.int .i64 v2)), aa, aa, aa, aa, aa, aa, aa, aa, aa, aa, aa, aa, aa, aa, aa, aa, aa, aa, aa, aa, aa, aa, aa, aa, aa, aa, aa, aa, aa, aa, aa, aa, aa, aa, aa, aa, aa, aa, aa, aa, aa, aa, aa, aa, aa],
 [.cells [.int .i64 v3, .int .i64 v4, .fr (.ts v5)], .cells [.int .i64 v6, .int .i64 v7, .own 2 0], .arr 29 (.ts v8) 0 false, .cells [.int .i64 v9, .int .i64 v10, .own 4 0], .arr 29 (.ts v11) 0 false]⟩
theorem dR (n c : Nat) (v0 v1 v2 v3 v4 : Int) (v5 : List T) (v6 v7 : Int) (v8 : List T) (v9 v10 : Int) (v11 : List T) : bh n (c + 1) v0 v1 v2 v3 v4 v5 v6 v7 v8 v9 v10 v11 =
 (cond (decide (v2 < (v5.length : Int)))
 (cond (decide (0 ≤ v2))
 (v5[(v2 : Int).toNat]?.bind fun x0 =>
 ((FF n 69 [.one (.int .i64 v3), .one (.int .i64 v2)] []).bind fun x1 =>
 (aB .i64 x1.1 fun x2 x3 =>
 (ai x3 (aj x1.2
 ((FF n 46 [.agg [.int .i64 x0.k, .int .i64 x0.n, .fr (.ts x0.kids)], .one (.int .i64 v0), .one (.int .i64 (IntKind.i64.wrap (v1 + x2)))] []).bind fun x4 =>
 (ag x4.1 fun x5 x6 =>
 (ai x6 (aj x4.2
 (cond (b8 (v11 ++ [(T.mk x5.k x5.n x5.kids)]).length)
 (bh n c v0 v1 (IntKind.i64.wrap (v2 + 1)) v3 v4 v5 v6 v7 v8 v9 v10 (v11 ++ [(T.mk x5.k x5.n x5.kids)]))
 none))))))))))
 none)
 (some ([.agg [.int .i64 v9, .int .i64 v10, .fr (.ts v11)]], []))) := by kernel_rfl
theorem oI (n : Nat) (v0 v1 : Int) (v2 : List T) (v3 v4 : Int) : FF (n + 1) 46 [.agg [.int .i64 v0, .int .i64 v1, .fr (.ts v2)], .one (.int .i64 v3), .one (.int .i64 v4)] [] =
 (cond (decide (v0 = 1))
 (cond (decide (v4 ≤ v1))
 (bh n n v3 v4 0 v0 v1 v2 0 0 ([]) v0 (IntKind.i64.wrap (v1 + v3)) ([]))
 (bh n n v3 v4 0 v0 v1 v2 0 0 ([]) v0 v1 ([])))
 (bh n n v3 v4 0 v0 v1 v2 0 0 ([]) v0 v1 ([]))) := by kernel_rfl
theorem qR (n : Nat) (v0 : Int) (v1 : List T) : FF (n + 1) 45 [.one (.int .i64 v0), .one (.fr (.ts v1))] [] =
 (cond (b8 ([] ++ v1).length)
 (some ([.agg [.int .i64 v0, .int .i64 0, .fr (.ts ([] ++ v1))]], []))
 none) := by kernel_rfl
noncomputable def b7 (n c : Nat) (v0 : List T) (v1 : Int) (v2 : List UInt8) (v3 v4 v5 : Int) (v6 : List T) (v7 v8 : Int) (v9 v10 : List T) : OR := aJ Try.prog SS n 47 1 [1, 1, 0, 1, 0] [] c ⟨[.v (.one (.ptr 0 0)), .v (.one (.fr (.ts v0))), aa, aa, aa, .v (.one (.ptr 1 0)), aa, .v (.one (.ptr 2 0)), .v (.one (.own 4 0)), .v (.one (.int .i64 v1)), aa, aa, aa, aa, aa, aa, aa, aa, aa, aa, aa, aa, aa, aa, aa, aa, aa, aa, aa, aa, aa, aa, aa, aa, aa, aa, aa, aa, aa, aa, aa, aa, aa, aa, aa, aa, aa, aa, aa, aa, aa, aa, aa, aa, aa, aa, aa, aa, aa, aa, aa, aa, aa, aa, aa, aa, aa, aa, aa, aa, aa, aa, aa, aa, aa],
 [.cells [.fr (.bs v2), .int .i64 v3], .cells [.int .i64 v4, .int .i64 v5, .fr (.ts v6)], .cells [.int .i64 v7, .int .i64 v8, .own 3 0], .arr 29 (.ts v9) 0 false, .arr 29 (.ts v10) 0 false]⟩
noncomputable def b6 (n c : Nat) (v0 : List UInt8) (v1 v2 v3 : Int) (v4 : List T) (v5 v6 : Int) (v7 v8 : List T) : OR := aJ Try.prog SS n 47 1 [1, 1, 1, 0, 1, 0, 1, 1, 1, 1, 1, 0, 0] [] c ⟨[.v (.one (.ptr 0 0)), aa, aa, aa, aa, .v (.one (.ptr 1 0)), aa, .v (.one (.ptr 2 0)), .v (.one (.own 4 0)), aa, aa, aa, aa, aa, aa, aa, aa, aa, aa, aa, aa, aa, aa, aa, aa, aa, aa, aa, aa, aa, aa, aa, aa, aa, aa, aa, aa, aa, aa, aa, aa, aa, aa, aa, aa, aa, aa, aa, aa, aa, aa, aa, aa, aa, aa, aa, aa, aa, aa, aa, aa, aa, aa, aa, aa, aa, aa, aa, aa, aa, aa, aa, aa, aa, aa],
 [.cells [.fr (.bs v0), .int .i64 v1], .cells [.int .i64 v2, .int .i64 v3, .fr (.ts v4)], .cells [.int .i64 v5, .int .i64 v6, .own 3 0], .arr 29 (.ts v7) 0 false, .arr 29 (.ts v8) 0 false]⟩
theorem dD (n c : Nat) (v0 : List T) (v1 : Int) (v2 : List UInt8) (v3 v4 v5 : Int) (v6 : List T) (v7 v8 : Int) (v9 v10 : List T) : b7 n (c + 1) v0 v1 v2 v3 v4 v5 v6 v7 v8 v9 v10 =
 (cond (decide (v1 < (v0.length : Int)))
 (cond (decide (0 ≤ v1))
 (v0[(v1 : Int).toNat]?.bind fun x0 =>
 ((FF n 54 [.agg [.int .i64 x0.k, .int .i64 x0.n, .fr (.ts x0.kids)]] []).bind fun x1 =>
 (eK 0 x1.1 fun x2 x3 x4 =>
 (bW 29 x1.2 fun x5 x6 =>
 (ai x4 (aj x6
 (cond (b8 (v10 ++ [(T.mk x2 x3 x5)]).length)
 (b7 n c v0 (IntKind.i64.wrap (v1 + 1)) v2 v3 v4 v5 v6 v7 v8 v9 (v10 ++ [(T.mk x2 x3 x5)]))
 none)))))))
 none)
 ((FF n 35 [.one (.ptr 0 0), .one (.int .i64 30)] [.cells [.fr (.bs v2), .int .i64 v3]]).bind fun x0 =>
 (aP x0.2 fun x1 x2 =>
 (bsC x1 fun x3 x4 =>
 (aS .i64 x4 fun x5 x6 =>
 (aQ x6
 (aB .i64 x0.1 fun x7 x8 =>
 (ai x8 (aj x2
 (cond (decide (x7 = 0))
 (cond (decide (0 < (v10.length : Int)))
 (cond (Go.Ab.inB 1 v10.length v10.length)
 ((FF n 48 [.one (.ptr 0 0), .agg [.int .i64 v4, .int .i64 v5, .fr (.ts v6)]] [.cells [.fr (.bs x3), .int .i64 x5]]).bind fun x9 =>
 (aP x9.2 fun x10 x11 =>
 (bsC x10 fun x12 x13 =>
 (aS .i64 x13 fun x14 x15 =>
 (aQ x15
 (ag x9.1 fun x16 x17 =>
 (ai x17 (aj x11
 (some ([.one (.fr (.ts ((v10.take (v10.length : Int).toNat).drop (1 : Int).toNat))), .agg [.int .i64 x16.k, .int .i64 x16.n, .fr (.ts x16.kids)]], [.cells [.fr (.bs x12), .int .i64 x14]]))))))))))
 none)
 ((FF n 48 [.one (.ptr 0 0), .agg [.int .i64 v4, .int .i64 v5, .fr (.ts v6)]] [.cells [.fr (.bs x3), .int .i64 x5]]).bind fun x9 =>
 (aP x9.2 fun x10 x11 =>
 (bsC x10 fun x12 x13 =>
 (aS .i64 x13 fun x14 x15 =>
 (aQ x15
 (ag x9.1 fun x16 x17 =>
 (ai x17 (aj x11
 (some ([.one (.fr (.ts v10)), .agg [.int .i64 x16.k, .int .i64 x16.n, .fr (.ts x16.kids)]], [.cells [.fr (.bs x12), .int .i64 x14]])))))))))))
 (cond (decide (x7 = 1))
 ((FF n 44 [.one (.ptr 0 0)] [.cells [.fr (.bs x3), .int .i64 x5]]).bind fun x9 =>
 (aP x9.2 fun x10 x11 =>
 (bsC x10 fun x12 x13 =>
 (aS .i64 x13 fun x14 x15 =>
 (aQ x15
 (ag x9.1 fun x16 x17 =>
 (ai x17 (aj x11
 (cond (b8 (v10 ++ [(T.mk x16.k x16.n x16.kids)]).length)
 ((FF n 48 [.one (.ptr 0 0), .agg [.int .i64 v4, .int .i64 v5, .fr (.ts v6)]] [.cells [.fr (.bs x12), .int .i64 x14]]).bind fun x18 =>
 (aP x18.2 fun x19 x20 =>
 (bsC x19 fun x21 x22 =>
 (aS .i64 x22 fun x23 x24 =>
 (aQ x24
 (ag x18.1 fun x25 x26 =>
 (ai x26 (aj x20
 (some ([.one (.fr (.ts (v10 ++ [(T.mk x16.k x16.n x16.kids)]))), .agg [.int .i64 x25.k, .int .i64 x25.n, .fr (.ts x25.kids)]], [.cells [.fr (.bs x21), .int .i64 x23]]))))))))))
 none)))))))))
 (cond (decide (x7 = 2))
 (b6 n n x3 x5 v4 v5 v6 v7 v8 v9 v10)
 (cond (decide (x7 = 3))
 ((FF n 44 [.one (.ptr 0 0)] [.cells [.fr (.bs x3), .int .i64 x5]]).bind fun x9 =>
 (aP x9.2 fun x10 x11 =>
 (bsC x10 fun x12 x13 =>
 (aS .i64 x13 fun x14 x15 =>
 (aQ x15
 (ag x9.1 fun x16 x17 =>
 (ai x17 (aj x11
 (some ([.one (.fr (.ts v10)), .agg [.int .i64 x16.k, .int .i64 x16.n, .fr (.ts x16.kids)]], [.cells [.fr (.bs x12), .int .i64 x14]]))))))))))
 (cond (decide (x7 = 4))
 (cond (decide (0 < (v6.length : Int)))
 ((FF n 35 [.one (.ptr 0 0), .one (.int .i64 (v6.length : Int))] [.cells [.fr (.bs x3), .int .i64 x5]]).bind fun x9 =>
 (aP x9.2 fun x10 x11 =>
 (bsC x10 fun x12 x13 =>
 (aS .i64 x13 fun x14 x15 =>
 (aQ x15
 (aB .i64 x9.1 fun x16 x17 =>
 (ai x17 (aj x11
 ((FF n 44 [.one (.ptr 0 0)] [.cells [.fr (.bs x12), .int .i64 x14]]).bind fun x18 =>
 (aP x18.2 fun x19 x20 =>
 (bsC x19 fun x21 x22 =>
 (aS .i64 x22 fun x23 x24 =>
 (aQ x24
 (ag x18.1 fun x25 x26 =>
 (ai x26 (aj x20
 ((FF n 70 [.agg [.int .i64 v4, .int .i64 v5, .fr (.ts v6)], .one (.int .i64 x16), .agg [.int .i64 x25.k, .int .i64 x25.n, .fr (.ts x25.kids)]] []).bind fun x27 =>
 (ag x27.1 fun x28 x29 =>
 (ai x29 (aj x27.2
 (some ([.one (.fr (.ts v10)), .agg [.int .i64 x28.k, .int .i64 x28.n, .fr (.ts x28.kids)]], [.cells [.fr (.bs x21), .int .i64 x23]]))))))))))))))))))))))
 ((FF n 48 [.one (.ptr 0 0), .agg [.int .i64 v4, .int .i64 v5, .fr (.ts v6)]] [.cells [.fr (.bs x3), .int .i64 x5]]).bind fun x9 =>
 (aP x9.2 fun x10 x11 =>
 (bsC x10 fun x12 x13 =>
 (aS .i64 x13 fun x14 x15 =>
 (aQ x15
 (ag x9.1 fun x16 x17 =>
 (ai x17 (aj x11
 (some ([.one (.fr (.ts v10)), .agg [.int .i64 x16.k, .int .i64 x16.n, .fr (.ts x16.kids)]], [.cells [.fr (.bs x12), .int .i64 x14]])))))))))))
 ((FF n 48 [.one (.ptr 0 0), .agg [.int .i64 v4, .int .i64 v5, .fr (.ts v6)]] [.cells [.fr (.bs x3), .int .i64 x5]]).bind fun x9 =>
 (aP x9.2 fun x10 x11 =>
 (bsC x10 fun x12 x13 =>
 (aS .i64 x13 fun x14 x15 =>
 (aQ x15
 (ag x9.1 fun x16 x17 =>
 (ai x17 (aj x11
 (some ([.one (.fr (.ts v10)), .agg [.int .i64 x16.k, .int .i64 x16.n, .fr (.ts x16.kids)]], [.cells [.fr (.bs x12), .int .i64 x14]])))))))))))))))))))))))) := by kernel_rfl
theorem dB (n c : Nat) (v0 : List UInt8) (v1 v2 v3 : Int) (v4 : List T) (v5 v6 : Int) (v7 v8 : List T) : b6 n (c + 1) v0 v1 v2 v3 v4 v5 v6 v7 v8 =
 (cond (decide ((v8.length : Int) ≤ 8))
 ((FF n 22 [.one (.int .i64 6), .one (.int .i64 0)] []).bind fun x0 =>
 (ag x0.1 fun x1 x2 =>
 (ai x2 (aj x0.2
 (cond (b8 (v8 ++ [(T.mk x1.k x1.n x1.kids)]).length)
 (b6 n c v0 v1 v2 v3 v4 v5 v6 v7 (v8 ++ [(T.mk x1.k x1.n x1.kids)]))
 none)))))
 ((FF n 48 [.one (.ptr 0 0), .agg [.int .i64 v2, .int .i64 v3, .fr (.ts v4)]] [.cells [.fr (.bs v0), .int .i64 v1]]).bind fun x0 =>
 (aP x0.2 fun x1 x2 =>
 (bsC x1 fun x3 x4 =>
 (aS .i64 x4 fun x5 x6 =>
 (aQ x6
 (ag x0.1 fun x7 x8 =>
 (ai x8 (aj x2
 (some ([.one (.fr (.ts v8)), .agg [.int .i64 x7.k, .int .i64 x7.n, .fr (.ts x7.kids)]], [.cells [.fr (.bs x3), .int .i64 x5]]))))))))))) := by kernel_rfl
theorem nB (n : Nat) (v0 : List T) (v1 v2 : Int) (v3 : List T) (v4 : List UInt8) (v5 : Int) : FF (n + 1) 47 [.one (.ptr 0 0), .one (.fr (.ts v0)), .agg [.int .i64 v1, .int .i64 v2, .fr (.ts v3)]] [.cells [.fr (.bs v4), .int .i64 v5]] =
 b7 n n v0 0 v4 v5 v1 v2 v3 0 0 ([]) ([]) := by kernel_rfl
theorem oi (n : Nat) (v0 v1 : Int) (v2 : List T) (v3 : List UInt8) (v4 : Int) : FF (n + 1) 48 [.one (.ptr 0 0), .agg [.int .i64 v0, .int .i64 v1, .fr (.ts v2)]] [.cells [.fr (.bs v3), .int .i64 v4]] =
 ((FF n 54 [.agg [.int .i64 v0, .int .i64 v1, .fr (.ts v2)]] []).bind fun x0 =>
 (eK 0 x0.1 fun x1 x2 x3 =>
 (bW 29 x0.2 fun x4 x5 =>
 (ai x3 (aj x5
 ((FF n 35 [.one (.ptr 0 0), .one (.int .i64 50)] [.cells [.fr (.bs v3), .int .i64 v4]]).bind fun x6 =>
 (aP x6.2 fun x7 x8 =>
 (bsC x7 fun x9 x10 =>
 (aS .i64 x10 fun x11 x12 =>
 (aQ x12
 (aB .i64 x6.1 fun x13 x14 =>
 (ai x14 (aj x8
 (cond (decide (x13 = 0))
 ((FF n 19 [.one (.ptr 0 0), .one (.fr (.is [0, 17, 1, 5, 6]))] [.cells [.fr (.bs x9), .int .i64 x11]]).bind fun x15 =>
 (aP x15.2 fun x16 x17 =>
 (bsC x16 fun x18 x19 =>
 (aS .i64 x19 fun x20 x21 =>
 (aQ x21
 (aB .i64 x15.1 fun x22 x23 =>
 (ai x23 (aj x17
 (some ([.agg [.int .i64 x22, .int .i64 x2, .fr (.ts x4)]], [.cells [.fr (.bs x18), .int .i64 x20]]))))))))))
 (cond (decide (x13 = 1))
 ((FF n 19 [.one (.ptr 0 0), .one (.fr (.is [21, (-1), 1, 9223372036854775807]))] [.cells [.fr (.bs x9), .int .i64 x11]]).bind fun x15 =>
 (aP x15.2 fun x16 x17 =>
 (bsC x16 fun x18 x19 =>
 (aS .i64 x19 fun x20 x21 =>
 (aQ x21
 (aB .i64 x15.1 fun x22 x23 =>
 (ai x23 (aj x17
 (some ([.agg [.int .i64 x1, .int .i64 x22, .fr (.ts x4)]], [.cells [.fr (.bs x18), .int .i64 x20]]))))))))))
 (cond (decide (x13 = 2))
 ((FF n 22 [.one (.int .i64 7), .one (.int .i64 0)] []).bind fun x15 =>
 (ag x15.1 fun x16 x17 =>
 (ai x17 (aj x15.2
 (cond (b8 (x4 ++ [(T.mk x16.k x16.n x16.kids)]).length)
 (some ([.agg [.int .i64 x1, .int .i64 x2, .fr (.ts (x4 ++ [(T.mk x16.k x16.n x16.kids)]))]], [.cells [.fr (.bs x9), .int .i64 x11]]))
 none)))))
 (cond (decide (x13 = 3))
 ((FF n 45 [.one (.int .i64 8), .one (.fr (.ts [(T.mk x1 x2 x4)]))] []).bind fun x15 =>
 (ag x15.1 fun x16 x17 =>
 (ai x17 (aj x15.2
 (some ([.agg [.int .i64 x16.k, .int .i64 x16.n, .fr (.ts x16.kids)]], [.cells [.fr (.bs x9), .int .i64 x11]]))))))
 (cond (decide (x13 = 4))
 (cond (decide (0 < (x4.length : Int)))
 ((FF n 22 [.one (.int .i64 1), .one (.int .i64 25)] []).bind fun x15 =>
 (ag x15.1 fun x16 x17 =>
 (ai x17 (aj x15.2
 (cond (decide (0 < (x4.length : Int)))
 (some ([.agg [.int .i64 x1, .int .i64 x2, .fr (.ts (x4.set (0 : Int).toNat (T.mk x16.k x16.n x16.kids)))]], [.cells [.fr (.bs x9), .int .i64 x11]]))
 none)))))
 (some ([.agg [.int .i64 x1, .int .i64 x2, .fr (.ts x4)]], [.cells [.fr (.bs x9), .int .i64 x11]])))
 (some ([.agg [.int .i64 x1, .int .i64 x2, .fr (.ts x4)]], [.cells [.fr (.bs x9), .int .i64 x11]])))))))))))))))))))) := by kernel_rfl
theorem od (n : Nat) (v0 : List T) : FF (n + 1) 49 [.one (.fr (.ts v0))] [] =
 (cond (decide ((v0.length : Int) ≤ 8))
 ((FF n 37 [.one (.fr (.ts v0)), .one (.fn 71 [])] []).bind fun x0 =>
 (aD x0.1 fun x1 x2 =>
 (ai x2 (aj x0.2
 (some ([.one (.bool (!x1))], []))))))
 (some ([.one (.bool false)], []))) := by kernel_rfl
theorem uW (n : Nat) (v0 : Int) (v1 : List T) : FF (n + 1) 50 [.one (.int .i64 v0), .one (.fr (.ts v1))] [] =
 some ([.agg [.int .i64 v0, .int .i64 0, .fr (.ts v1)]], []) := by kernel_rfl
theorem tR (n : Nat) (v0 v1 : Int) (v2 : List T) : FF (n + 1) 51 [.agg [.int .i64 v0, .int .i64 v1, .fr (.ts v2)]] [] =
 ((FF n 33 [.agg [.int .i64 v0, .int .i64 v1, .fr (.ts v2)]] []).bind fun x0 =>
 (aD x0.1 fun x1 x2 =>
 (ai x2 (aj x0.2
 (cond (!x1)
 (some ([.agg [.int .i64 0, .int .i64 0, .fr (.ts [])], .one (.bool false)], []))
 (some ([.agg [.int .i64 v0, .int .i64 v1, .fr (.ts v2)], .one (.bool true)], []))))))) := by kernel_rfl
noncomputable def dw (n c : Nat) (v0 v1 v2 v3 : Int) (v4 : List T) : OR := aJ Try.prog SS n 52 0 [1, 1, 0, 1, 0] [] c ⟨[aa, .v (.one (.int .i64 v0)), .v (.one (.ptr 0 0)), aa, aa, .v (.one (.int .i64 v1)), aa, aa, aa, aa, aa, aa, aa, aa, aa, aa, aa, aa, aa, aa, aa, aa, aa, aa, aa, aa, aa, aa, aa, aa, aa, aa, aa, aa, aa, aa, aa, aa, aa, aa, aa, aa, aa, aa, aa, aa],
 [.cells [.int .i64 v2, .int .i64 v3, .fr (.ts v4)]]⟩
theorem fB (n c : Nat) (v0 v1 v2 v3 : Int) (v4 : List T) : dw n (c + 1) v0 v1 v2 v3 v4 =
 (cond (decide (v1 < (v4.length : Int)))
 (cond (decide (0 ≤ v1))
 (v4[(v1 : Int).toNat]?.bind fun x0 =>
 ((FF n 52 [.agg [.int .i64 x0.k, .int .i64 x0.n, .fr (.ts x0.kids)], .one (.int .i64 (IntKind.i64.wrap (v0 - 1)))] []).bind fun x1 =>
 (aD x1.1 fun x2 x3 =>
 (ai x3 (aj x1.2
 (cond (!x2)
 (some ([.one (.bool false)], []))
 (dw n c v0 (IntKind.i64.wrap (v1 + 1)) v2 v3 v4)))))))
 none)
 (some ([.one (.bool true)], []))) := by kernel_rfl
theorem oJ (n : Nat) (v0 v1 : Int) (v2 : List T) (v3 : Int) : FF (n + 1) 52 [.agg [.int .i64 v0, .int .i64 v1, .fr (.ts v2)], .one (.int .i64 v3)] [] =
 (cond (decide (v3 < 1))
 (some ([.one (.bool false)], []))
 ((FF n 72 [.one (.int .i64 v0)] []).bind fun x0 =>
 (aB .i64 x0.1 fun x1 x2 =>
 (ai x2 (aj x0.2
 (cond (!decide (x1 = (v2.length : Int)))
 (some ([.one (.bool false)], []))
 (cond (decide (v1 < 0))
 (some ([.one (.bool false)], []))
 ((FF n 73 [.one (.int .i64 v0)] []).bind fun x3 =>
 (aB .i64 x3.1 fun x4 x5 =>
 (ai x5 (aj x3.2
 (cond (decide (x4 < v1))
 (some ([.one (.bool false)], []))
 (dw n n v3 0 v0 v1 v2))))))))))))) := by kernel_rfl
noncomputable def di (n c : Nat) (v0 v1 v2 v3 v4 : Int) (v5 : List T) : OR := aJ Try.prog SS n 53 0 [1, 1, 0, 1, 0] [] c ⟨[aa, .v (.one (.int .i64 v0)), .v (.one (.ptr 0 0)), aa, aa, .v (.one (.int .i64 v1)), .v (.one (.int .i64 v2)), aa, aa, aa, aa, aa, aa, aa, aa, aa, aa, aa, aa, aa, aa, aa, aa, aa, aa, aa, aa, aa, aa, aa, aa],
 [.cells [.int .i64 v3, .int .i64 v4, .fr (.ts v5)]]⟩
theorem dx (n c : Nat) (v0 v1 v2 v3 v4 : Int) (v5 : List T) : di n (c + 1) v0 v1 v2 v3 v4 v5 =
 (cond (decide (v2 < (v5.length : Int)))
 (cond (decide (v1 ≤ v0))
 (cond (decide (0 ≤ v2))
 (v5[(v2 : Int).toNat]?.bind fun x0 =>
 ((FF n 53 [.agg [.int .i64 x0.k, .int .i64 x0.n, .fr (.ts x0.kids)], .one (.int .i64 (IntKind.i64.wrap (v0 - v1)))] []).bind fun x1 =>
 (aB .i64 x1.1 fun x2 x3 =>
 (ai x3 (aj x1.2
 (di n c v0 (IntKind.i64.wrap (v1 + x2)) (IntKind.i64.wrap (v2 + 1)) v3 v4 v5))))))
 none)
 (some ([.one (.int .i64 v1)], [])))
 (some ([.one (.int .i64 v1)], []))) := by kernel_rfl
theorem pa (n : Nat) (v0 v1 : Int) (v2 : List T) (v3 : Int) : FF (n + 1) 53 [.agg [.int .i64 v0, .int .i64 v1, .fr (.ts v2)], .one (.int .i64 v3)] [] =
 di n n v3 1 0 v0 v1 v2 := by kernel_rfl
noncomputable def cA (n c : Nat) (v0 v1 v2 : Int) (v3 : List T) (v4 v5 : Int) (v6 : List T) (v7 v8 : Int) (v9 : List T) : OR := aJ Try.prog SS n 54 0 [1, 1, 0, 1, 0] [] c ⟨[aa, .v (.one (.ptr 0 0)), .v (.one (.ptr 1 0)), .v (.one (.ptr 3 0)), .v (.one (.int .i64 v0)), aa, aa, aa, aa, aa, aa, aa, aa, aa, aa, aa, aa, aa, aa, aa, aa, aa, aa, aa, aa, aa, aa, aa, aa],
 [.cells [.int .i64 v1, .int .i64 v2, .fr (.ts v3)], .cells [.int .i64 v4, .int .i64 v5, .own 2 0], .arr 29 (.ts v6) 0 false, .cells [.int .i64 v7, .int .i64 v8, .own 4 0], .arr 29 (.ts v9) 0 false]⟩
theorem ei (n c : Nat) (v0 v1 v2 : Int) (v3 : List T) (v4 v5 : Int) (v6 : List T) (v7 v8 : Int) (v9 : List T) : cA n (c + 1) v0 v1 v2 v3 v4 v5 v6 v7 v8 v9 =
 (cond (decide (v0 < (v3.length : Int)))
 (cond (decide (0 ≤ v0))
 (v3[(v0 : Int).toNat]?.bind fun x0 =>
 ((FF n 54 [.agg [.int .i64 x0.k, .int .i64 x0.n, .fr (.ts x0.kids)]] []).bind fun x1 =>
 (eK 0 x1.1 fun x2 x3 x4 =>
 (bW 29 x1.2 fun x5 x6 =>
 (ai x4 (aj x6
 (cond (b8 (v9 ++ [(T.mk x2 x3 x5)]).length)
 (cA n c (IntKind.i64.wrap (v0 + 1)) v1 v2 v3 v4 v5 v6 v7 v8 (v9 ++ [(T.mk x2 x3 x5)]))
 none)))))))
 none)
 (some ([.agg [.int .i64 v7, .int .i64 v8, .own 0 0]], [.arr 29 (.ts v9) 0 false]))) := by kernel_rfl
theorem qS (n : Nat) (v0 v1 : Int) (v2 : List T) : FF (n + 1) 54 [.agg [.int .i64 v0, .int .i64 v1, .fr (.ts v2)]] [] =
 cA n n 0 v0 v1 v2 0 0 ([]) v0 v1 ([]) := by kernel_rfl
noncomputable def fj (n c : Nat) (v0 : Int) (v1 : List T) (v2 v3 v4 : Int) : OR := aJ Try.prog SS n 55 1 [1, 1, 1, 0, 1, 0] [] c ⟨[aa, .v (.one (.int .i64 v0)), .v (.one (.ptr 0 0)), aa, aa, aa, aa, aa, aa, aa, aa, aa, aa, aa, aa, aa, aa, aa, aa, aa, aa, aa, aa, aa, aa, aa, aa, aa, aa, aa, aa, aa, aa, aa, aa, aa, aa, aa, aa, aa, aa, .v (.one (.fr (.ts v1))), .v (.one (.int .i64 v2)), .v (.one (.int .i64 v3)), aa, aa, aa, aa, aa, aa, aa, aa, aa, aa],
 [.cells [.int .i64 v4]]⟩
theorem eZ (n c : Nat) (v0 : Int) (v1 : List T) (v2 v3 v4 : Int) : fj n (c + 1) v0 v1 v2 v3 v4 =
 (cond (decide (v3 < v2))
 (cond (decide (0 ≤ v3))
 (v1[(v3 : Int).toNat]?.bind fun x0 =>
 ((FF n 55 [.agg [.int .i64 x0.k, .int .i64 x0.n, .fr (.ts x0.kids)], .one (.int .i64 (IntKind.i64.wrap (v0 + 1))), .one (.ptr 0 0)] [.cells [.int .i64 v4]]).bind fun x1 =>
 (aP x1.2 fun x2 x3 =>
 (aS .i64 x2 fun x4 x5 =>
 (aQ x5
 (aD x1.1 fun x6 x7 =>
 (ai x7 (aj x3
 (cond (!x6)
 (some ([.one (.bool false)], [.cells [.int .i64 x4]]))
 (fj n c v0 v1 v2 (IntKind.i64.wrap (v3 + 1)) x4))))))))))
 none)
 (some ([.one (.bool true)], [.cells [.int .i64 v4]]))) := by kernel_rfl
theorem u4 (n : Nat) (v0 v1 : Int) (v2 : List T) (v3 v4 : Int) : FF (n + 1) 55 [.agg [.int .i64 v0, .int .i64 v1, .fr (.ts v2)], .one (.int .i64 v3), .one (.ptr 0 0)] [.cells [.int .i64 v4]] =
 (cond (decide (400 < (IntKind.i64.wrap (v4 + 1))))
 (some ([.one (.bool false)], [.cells [.int .i64 (IntKind.i64.wrap (v4 + 1))]]))
 (cond (decide (30 < v3))
 (some ([.one (.bool false)], [.cells [.int .i64 (IntKind.i64.wrap (v4 + 1))]]))
 ((FF n 74 [.one (.int .i64 v0)] []).bind fun x0 =>
 (aB .i64 x0.1 fun x1 x2 =>
 (ai x2 (aj x0.2
 (cond (!decide (x1 = (v2.length : Int)))
 (some ([.one (.bool false)], [.cells [.int .i64 (IntKind.i64.wrap (v4 + 1))]]))
 ((FF n 75 [.one (.int .i64 v0)] []).bind fun x3 =>
 (aB .i64 x3.1 fun x4 x5 =>
 (ai x5 (aj x3.2
 ((FF n 20 [.one (.int .i64 v1), .one (.int .i64 0), .one (.int .i64 x4)] []).bind fun x6 =>
 (aD x6.1 fun x7 x8 =>
 (ai x8 (aj x6.2
 (cond (!x7)
 (some ([.one (.bool false)], [.cells [.int .i64 (IntKind.i64.wrap (v4 + 1))]]))
 (fj n n v3 v2 ((v2.length : Int) : Int) 0 (IntKind.i64.wrap (v4 + 1))))))))))))))))))) := by kernel_rfl
noncomputable def aL (n c : Nat) (v0 : List T) (v1 v2 : Int) : OR := aJ Try.prog SS n 56 0 [1, 0, 1, 0] [] c ⟨[.v (.one (.fr (.ts v0))), .v (.one (.fn 38 [])), aa, aa, aa, aa, aa, .v (.one (.int .i64 v1)), .v (.one (.int .i64 v2)), aa, aa, aa, aa, aa, aa, aa, aa, aa, aa],
 []⟩
theorem bR (n c : Nat) (v0 : List T) (v1 v2 : Int) : aL n (c + 1) v0 v1 v2 =
 (cond (decide (v2 < v1))
 (cond (decide (0 ≤ v2))
 (v0[(v2 : Int).toNat]?.bind fun x0 =>
 ((FF n 38 [.agg [.int .i64 x0.k, .int .i64 x0.n, .fr (.ts x0.kids)]] []).bind fun x1 =>
 (aD x1.1 fun x2 x3 =>
 (ai x3 (aj x1.2
 (cond x2
 (some ([.one (.int .i64 v2)], []))
 (aL n c v0 v1 (IntKind.i64.wrap (v2 + 1)))))))))
 none)
 (some ([.one (.int .i64 (-1))], []))) := by kernel_rfl
theorem ey (n : Nat) (v0 : List T) : FF (n + 1) 56 [.one (.fr (.ts v0)), .one (.fn 38 [])] [] =
 aL n n v0 ((v0.length : Int) : Int) 0 := by kernel_rfl
theorem rE (n : Nat) (v0 v1 : Int) (v2 : List T) (v3 : Int) : FF (n + 1) 57 [.agg [.int .i64 v0, .int .i64 v1, .fr (.ts v2)], .one (.int .i64 v3)] [] =
 ((FF n 76 [.agg [.int .i64 v0, .int .i64 v1, .fr (.ts v2)], .one (.int .i64 200)] []).bind fun x0 =>
 (ag x0.1 fun x1 x2 =>
 (aB .i64 x2 fun x3 x4 =>
 (ai x4 (aj x0.2
 (cond (!decide (x3 = 0))
 (some ([.agg [.int .i64 0, .int .i64 0, .fr (.ts [])], .one (.int .i64 2)], []))
 (cond (!decide (x1.k = v3))
 (some ([.agg [.int .i64 0, .int .i64 0, .fr (.ts [])], .one (.int .i64 1)], []))
 (some ([.agg [.int .i64 x1.k, .int .i64 x1.n, .fr (.ts x1.kids)], .one (.int .i64 0)], []))))))))) := by kernel_rfl
theorem dZ (n : Nat) (v0 : List T) (v1 v2 : Int) (v3 v4 : List T) (v5 v6 : Int) (v7 : List T) : FF (n + 1) 60 [.agg [.fr (.ts v0), .int .i64 v1, .int .i64 v2, .fr (.ts v3), .fn 58 [0, 1]]] [.cells [.fr (.ts v4)], .cells [.int .i64 v5, .int .i64 v6, .fr (.ts v7)]] =
 (cond (decide (v1 = 1))
 (cond (decide ((v0.length : Int) ≤ v2))
 (some ([.agg [.int .i64 0, .int .i64 0, .fr (.ts [])], .one (.int .i64 1)], [.cells [.fr (.ts v4)], .cells [.int .i64 v5, .int .i64 v6, .fr (.ts v7)]]))
 (cond (decide (0 ≤ (IntKind.i64.wrap ((IntKind.i64.wrap ((v0.length : Int) - 1)) - v2))))
 (v0[((IntKind.i64.wrap ((IntKind.i64.wrap ((v0.length : Int) - 1)) - v2)) : Int).toNat]?.bind fun x0 =>
 ((FF n 80 [.agg [.int .i64 x0.k, .int .i64 x0.n, .fr (.ts x0.kids)], .one (.int .i64 (IntKind.i64.wrap (v2 + 1))), .one (.int .i64 0)] []).bind fun x1 =>
 (ag x1.1 fun x2 x3 =>
 (aD x3 fun x4 x5 =>
 (ai x5 (aj x1.2
 ((FF n 79 [.agg [.int .i64 x2.k, .int .i64 x2.n, .fr (.ts x2.kids)], .one (.bool x4)] []).bind fun x6 =>
 (ag x6.1 fun x7 x8 =>
 (aB .i64 x8 fun x9 x10 =>
 (ai x10 (aj x6.2
 (some ([.agg [.int .i64 x7.k, .int .i64 x7.n, .fr (.ts x7.kids)], .one (.int .i64 x9)], [.cells [.fr (.ts v4)], .cells [.int .i64 v5, .int .i64 v6, .fr (.ts v7)]])))))))))))))
 none))
 (cond (decide (v1 = 2))
 (cond (decide (v2 = 3))
 (some ([.agg [.int .i64 0, .int .i64 0, .fr (.ts [])], .one (.int .i64 1)], [.cells [.fr (.ts v4)], .cells [.int .i64 v5, .int .i64 v6, .fr (.ts v7)]]))
 ((FF n 81 [.one (.int .i64 (IntKind.i64.wrap (v2 + 1)))] []).bind fun x0 =>
 (ag x0.1 fun x1 x2 =>
 (ai x2 (aj x0.2
 (some ([.agg [.int .i64 x1.k, .int .i64 x1.n, .fr (.ts x1.kids)], .one (.int .i64 0)], [.cells [.fr (.ts v4)], .cells [.int .i64 v5, .int .i64 v6, .fr (.ts v7)]])))))))
 (cond (decide (v1 = 6))
 ((FF n 81 [.one (.int .i64 0)] []).bind fun x0 =>
 (ag x0.1 fun x1 x2 =>
 (ai x2 (aj x0.2
 (some ([.agg [.int .i64 x1.k, .int .i64 x1.n, .fr (.ts x1.kids)], .one (.int .i64 0)], [.cells [.fr (.ts v4)], .cells [.int .i64 v5, .int .i64 v6, .fr (.ts v7)]]))))))
 (cond (decide (v1 = 7))
 ((FF n 50 [.one (.int .i64 6), .one (.emp none)] []).bind fun x0 =>
 (ag x0.1 fun x1 x2 =>
 (ai x2 (aj x0.2
 (some ([.agg [.int .i64 x1.k, .int .i64 x1.n, .fr (.ts x1.kids)], .one (.int .i64 0)], [.cells [.fr (.ts v4)], .cells [.int .i64 v5, .int .i64 v6, .fr (.ts v7)]]))))))
 (cond (decide (v1 = 8))
 ((FF n 50 [.one (.int .i64 6), .one (.emp none)] []).bind fun x0 =>
 (ag x0.1 fun x1 x2 =>
 (ai x2 (aj x0.2
 ((FF n 82 [.agg [.fr (.ts v0), .int .i64 v1, .int .i64 v2, .fr (.ts v3), .fn 58 [0, 1]], .one (.int .i64 0), .agg [.int .i64 x1.k, .int .i64 x1.n, .fr (.ts x1.kids)]] [.cells [.fr (.ts v4)], .cells [.int .i64 v5, .int .i64 v6, .fr (.ts v7)]]).bind fun x3 =>
 (aP x3.2 fun x4 x5 =>
 (tsC x4 fun x6 x7 =>
 (aQ x7
 (aP x5 fun x8 x9 =>
 (aS .i64 x8 fun x10 x11 =>
 (aS .i64 x11 fun x12 x13 =>
 (tsC x13 fun x14 x15 =>
 (aQ x15
 (aB .i64 x3.1 fun x16 x17 =>
 (ai x17 (aj x9
 (cond (!decide (x16 = 0))
 (some ([.agg [.int .i64 0, .int .i64 0, .fr (.ts [])], .one (.int .i64 x16)], [.cells [.fr (.ts x6)], .cells [.int .i64 x10, .int .i64 x12, .fr (.ts x14)]]))
 ((FF n 50 [.one (.int .i64 6), .one (.emp none)] []).bind fun x18 =>
 (ag x18.1 fun x19 x20 =>
 (ai x20 (aj x18.2
 (some ([.agg [.int .i64 x19.k, .int .i64 x19.n, .fr (.ts x19.kids)], .one (.int .i64 0)], [.cells [.fr (.ts x6)], .cells [.int .i64 x10, .int .i64 x12, .fr (.ts x14)]])))))))))))))))))))))))
 (cond (decide (v1 = 3))
 ((FF n 83 [.agg [.fr (.ts v0), .int .i64 v1, .int .i64 v2, .fr (.ts v3), .fn 58 [0, 1]]] [.cells [.fr (.ts v4)], .cells [.int .i64 v5, .int .i64 v6, .fr (.ts v7)]]).bind fun x0 =>
 (aP x0.2 fun x1 x2 =>
 (tsC x1 fun x3 x4 =>
 (aQ x4
 (aP x2 fun x5 x6 =>
 (aS .i64 x5 fun x7 x8 =>
 (aS .i64 x8 fun x9 x10 =>
 (tsC x10 fun x11 x12 =>
 (aQ x12
 (ag x0.1 fun x13 x14 =>
 (aB .i64 x14 fun x15 x16 =>
 (ai x16 (aj x6
 (some ([.agg [.int .i64 x13.k, .int .i64 x13.n, .fr (.ts x13.kids)], .one (.int .i64 x15)], [.cells [.fr (.ts x3)], .cells [.int .i64 x7, .int .i64 x9, .fr (.ts x11)]])))))))))))))))
 (cond (decide (v1 = 13))
 ((FF n 83 [.agg [.fr (.ts v0), .int .i64 v1, .int .i64 v2, .fr (.ts v3), .fn 58 [0, 1]]] [.cells [.fr (.ts v4)], .cells [.int .i64 v5, .int .i64 v6, .fr (.ts v7)]]).bind fun x0 =>
 (aP x0.2 fun x1 x2 =>
 (tsC x1 fun x3 x4 =>
 (aQ x4
 (aP x2 fun x5 x6 =>
 (aS .i64 x5 fun x7 x8 =>
 (aS .i64 x8 fun x9 x10 =>
 (tsC x10 fun x11 x12 =>
 (aQ x12
 (ag x0.1 fun x13 x14 =>
 (aB .i64 x14 fun x15 x16 =>
 (ai x16 (aj x6
 (some ([.agg [.int .i64 x13.k, .int .i64 x13.n, .fr (.ts x13.kids)], .one (.int .i64 x15)], [.cells [.fr (.ts x3)], .cells [.int .i64 x7, .int .i64 x9, .fr (.ts x11)]])))))))))))))))
 (cond (decide (v1 = 4))
 ((FF n 84 [.agg [.fr (.ts v0), .int .i64 v1, .int .i64 v2, .fr (.ts v3), .fn 58 [0, 1]]] [.cells [.fr (.ts v4)], .cells [.int .i64 v5, .int .i64 v6, .fr (.ts v7)]]).bind fun x0 =>
 (aP x0.2 fun x1 x2 =>
 (tsC x1 fun x3 x4 =>
 (aQ x4
 (aP x2 fun x5 x6 =>
 (aS .i64 x5 fun x7 x8 =>
 (aS .i64 x8 fun x9 x10 =>
 (tsC x10 fun x11 x12 =>
 (aQ x12
 (ag x0.1 fun x13 x14 =>
 (aB .i64 x14 fun x15 x16 =>
 (ai x16 (aj x6
 (some ([.agg [.int .i64 x13.k, .int .i64 x13.n, .fr (.ts x13.kids)], .one (.int .i64 x15)], [.cells [.fr (.ts x3)], .cells [.int .i64 x7, .int .i64 x9, .fr (.ts x11)]])))))))))))))))
 (cond (decide (v1 = 5))
 ((FF n 85 [.agg [.fr (.ts v0), .int .i64 v1, .int .i64 v2, .fr (.ts v3), .fn 58 [0, 1]], .one (.int .i64 0), .one (.int .i64 3)] [.cells [.fr (.ts v4)], .cells [.int .i64 v5, .int .i64 v6, .fr (.ts v7)]]).bind fun x0 =>
 (aP x0.2 fun x1 x2 =>
 (tsC x1 fun x3 x4 =>
 (aQ x4
 (aP x2 fun x5 x6 =>
 (aS .i64 x5 fun x7 x8 =>
 (aS .i64 x8 fun x9 x10 =>
 (tsC x10 fun x11 x12 =>
 (aQ x12
 (ag x0.1 fun x13 x14 =>
 (aB .i64 x14 fun x15 x16 =>
 (ai x16 (aj x6
 ((FF n 87 [.agg [.int .i64 x13.k, .int .i64 x13.n, .fr (.ts x13.kids)]] []).bind fun x17 =>
 (ag x17.1 fun x18 x19 =>
 (ai x19 (aj x17.2
 ((FF n 86 [.agg [.fr (.ts v0), .int .i64 v1, .int .i64 v2, .fr (.ts v3), .fn 58 [0, 1]], .one (.int .i64 1), .agg [.int .i64 x18.k, .int .i64 x18.n, .fr (.ts x18.kids)], .one (.int .i64 x15)] [.cells [.fr (.ts x3)], .cells [.int .i64 x7, .int .i64 x9, .fr (.ts x11)]]).bind fun x20 =>
 (aP x20.2 fun x21 x22 =>
 (tsC x21 fun x23 x24 =>
 (aQ x24
 (aP x22 fun x25 x26 =>
 (aS .i64 x25 fun x27 x28 =>
 (aS .i64 x28 fun x29 x30 =>
 (tsC x30 fun x31 x32 =>
 (aQ x32
 (aB .i64 x20.1 fun x33 x34 =>
 (ai x34 (aj x26
 (cond (!decide (x33 = 0))
 (some ([.agg [.int .i64 0, .int .i64 0, .fr (.ts [])], .one (.int .i64 x33)], [.cells [.fr (.ts x23)], .cells [.int .i64 x27, .int .i64 x29, .fr (.ts x31)]]))
 ((x13.kids)[(1 : Int).toNat]?.bind fun x35 =>
 (v3[(1 : Int).toNat]?.bind fun x36 =>
 ((FF n 88 [.agg [.int .i64 x35.k, .int .i64 x35.n, .fr (.ts x35.kids)], .one (.int .i64 0), .agg [.int .i64 x36.k, .int .i64 x36.n, .fr (.ts x36.kids)]] []).bind fun x37 =>
 (ag x37.1 fun x38 x39 =>
 (aD x39 fun x40 x41 =>
 (ai x41 (aj x37.2
 ((FF n 79 [.agg [.int .i64 x38.k, .int .i64 x38.n, .fr (.ts x38.kids)], .one (.bool x40)] []).bind fun x42 =>
 (ag x42.1 fun x43 x44 =>
 (aB .i64 x44 fun x45 x46 =>
 (ai x46 (aj x42.2
 (some ([.agg [.int .i64 x43.k, .int .i64 x43.n, .fr (.ts x43.kids)], .one (.int .i64 x45)], [.cells [.fr (.ts x23)], .cells [.int .i64 x27, .int .i64 x29, .fr (.ts x31)]]))))))))))))))))))))))))))))))))))))))))))))
 (cond (decide (v1 = 9))
 ((FF n 89 [.agg [.fr (.ts v0), .int .i64 v1, .int .i64 v2, .fr (.ts v3), .fn 58 [0, 1]]] [.cells [.fr (.ts v4)], .cells [.int .i64 v5, .int .i64 v6, .fr (.ts v7)]]).bind fun x0 =>
 (aP x0.2 fun x1 x2 =>
 (tsC x1 fun x3 x4 =>
 (aQ x4
 (aP x2 fun x5 x6 =>
 (aS .i64 x5 fun x7 x8 =>
 (aS .i64 x8 fun x9 x10 =>
 (tsC x10 fun x11 x12 =>
 (aQ x12
 (ag x0.1 fun x13 x14 =>
 (aB .i64 x14 fun x15 x16 =>
 (ai x16 (aj x6
 (some ([.agg [.int .i64 x13.k, .int .i64 x13.n, .fr (.ts x13.kids)], .one (.int .i64 x15)], [.cells [.fr (.ts x3)], .cells [.int .i64 x7, .int .i64 x9, .fr (.ts x11)]])))))))))))))))
 (cond (decide (v1 = 10))
 ((FF n 90 [.agg [.fr (.ts v0), .int .i64 v1, .int .i64 v2, .fr (.ts v3), .fn 58 [0, 1]]] [.cells [.fr (.ts v4)], .cells [.int .i64 v5, .int .i64 v6, .fr (.ts v7)]]).bind fun x0 =>
 (aP x0.2 fun x1 x2 =>
 (tsC x1 fun x3 x4 =>
 (aQ x4
 (aP x2 fun x5 x6 =>
 (aS .i64 x5 fun x7 x8 =>
 (aS .i64 x8 fun x9 x10 =>
 (tsC x10 fun x11 x12 =>
 (aQ x12
 (ag x0.1 fun x13 x14 =>
 (aB .i64 x14 fun x15 x16 =>
 (ai x16 (aj x6
 (some ([.agg [.int .i64 x13.k, .int .i64 x13.n, .fr (.ts x13.kids)], .one (.int .i64 x15)], [.cells [.fr (.ts x3)], .cells [.int .i64 x7, .int .i64 x9, .fr (.ts x11)]])))))))))))))))
 (cond (decide (v1 = 11))
 ((FF n 58 [.one (.int .i64 0), .one (.ptr 0 0), .one (.ptr 1 0)] [.cells [.fr (.ts v4)], .cells [.int .i64 v5, .int .i64 v6, .fr (.ts v7)]]).bind fun x0 =>
 (aP x0.2 fun x1 x2 =>
 (tsC x1 fun x3 x4 =>
 (aQ x4
 (aP x2 fun x5 x6 =>
 (aS .i64 x5 fun x7 x8 =>
 (aS .i64 x8 fun x9 x10 =>
 (tsC x10 fun x11 x12 =>
 (aQ x12
 (ag x0.1 fun x13 x14 =>
 (aB .i64 x14 fun x15 x16 =>
 (ai x16 (aj x6
 (cond (!decide (x15 = 0))
 (some ([.agg [.int .i64 0, .int .i64 0, .fr (.ts [])], .one (.int .i64 x15)], [.cells [.fr (.ts x3)], .cells [.int .i64 x7, .int .i64 x9, .fr (.ts x11)]]))
 ((FF n 24 [.one (.fr (.ts v0)), .agg [.int .i64 x13.k, .int .i64 x13.n, .fr (.ts x13.kids)]] []).bind fun x17 =>
 (aB .i64 x17.1 fun x18 x19 =>
 (aB .i64 x19 fun x20 x21 =>
 (ai x21 (aj x17.2
 (cond (!decide (x20 = 0))
 (some ([.agg [.int .i64 0, .int .i64 0, .fr (.ts [])], .one (.int .i64 x20)], [.cells [.fr (.ts x3)], .cells [.int .i64 x7, .int .i64 x9, .fr (.ts x11)]]))
 (v3[(0 : Int).toNat]?.bind fun x22 =>
 (v3[(0 : Int).toNat]?.bind fun x23 =>
 ((FF n 50 [.one (.int .i64 10), .one (.fr (.ts [(T.mk x13.k x13.n x13.kids), (T.mk x22.k x22.n x22.kids), (T.mk x23.k x23.n x23.kids)]))] []).bind fun x24 =>
 (ag x24.1 fun x25 x26 =>
 (ai x26 (aj x24.2
 ((FF n 79 [.agg [.int .i64 x25.k, .int .i64 x25.n, .fr (.ts x25.kids)], .one (.bool true)] []).bind fun x27 =>
 (ag x27.1 fun x28 x29 =>
 (aB .i64 x29 fun x30 x31 =>
 (ai x31 (aj x27.2
 (some ([.agg [.int .i64 x28.k, .int .i64 x28.n, .fr (.ts x28.kids)], .one (.int .i64 x30)], [.cells [.fr (.ts x3)], .cells [.int .i64 x7, .int .i64 x9, .fr (.ts x11)]])))))))))))))))))))))))))))))))))
 (cond (decide (v1 = 12))
 ((FF n 91 [.agg [.fr (.ts v0), .int .i64 v1, .int .i64 v2, .fr (.ts v3), .fn 58 [0, 1]]] [.cells [.fr (.ts v4)], .cells [.int .i64 v5, .int .i64 v6, .fr (.ts v7)]]).bind fun x0 =>
 (aP x0.2 fun x1 x2 =>
 (tsC x1 fun x3 x4 =>
 (aQ x4
 (aP x2 fun x5 x6 =>
 (aS .i64 x5 fun x7 x8 =>
 (aS .i64 x8 fun x9 x10 =>
 (tsC x10 fun x11 x12 =>
 (aQ x12
 (ag x0.1 fun x13 x14 =>
 (aB .i64 x14 fun x15 x16 =>
 (ai x16 (aj x6
 (some ([.agg [.int .i64 x13.k, .int .i64 x13.n, .fr (.ts x13.kids)], .one (.int .i64 x15)], [.cells [.fr (.ts x3)], .cells [.int .i64 x7, .int .i64 x9, .fr (.ts x11)]])))))))))))))))
 (cond (decide (v1 = 14))
 ((FF n 92 [.agg [.fr (.ts v0), .int .i64 v1, .int .i64 v2, .fr (.ts v3), .fn 58 [0, 1]]] [.cells [.fr (.ts v4)], .cells [.int .i64 v5, .int .i64 v6, .fr (.ts v7)]]).bind fun x0 =>
 (aP x0.2 fun x1 x2 =>
 (tsC x1 fun x3 x4 =>
 (aQ x4
 (aP x2 fun x5 x6 =>
 (aS .i64 x5 fun x7 x8 =>
 (aS .i64 x8 fun x9 x10 =>
 (tsC x10 fun x11 x12 =>
 (aQ x12
 (ag x0.1 fun x13 x14 =>
 (aB .i64 x14 fun x15 x16 =>
 (ai x16 (aj x6
 (some ([.agg [.int .i64 x13.k, .int .i64 x13.n, .fr (.ts x13.kids)], .one (.int .i64 x15)], [.cells [.fr (.ts x3)], .cells [.int .i64 x7, .int .i64 x9, .fr (.ts x11)]])))))))))))))))
 ((FF n 93 [.agg [.fr (.ts v0), .int .i64 v1, .int .i64 v2, .fr (.ts v3), .fn 58 [0, 1]]] [.cells [.fr (.ts v4)], .cells [.int .i64 v5, .int .i64 v6, .fr (.ts v7)]]).bind fun x0 =>
 (aP x0.2 fun x1 x2 =>
 (tsC x1 fun x3 x4 =>
 (aQ x4
 (aP x2 fun x5 x6 =>
 (aS .i64 x5 fun x7 x8 =>
 (aS .i64 x8 fun x9 x10 =>
 (tsC x10 fun x11 x12 =>
 (aQ x12
 (ag x0.1 fun x13 x14 =>
 (aB .i64 x14 fun x15 x16 =>
 (ai x16 (aj x6
 (some ([.agg [.int .i64 x13.k, .int .i64 x13.n, .fr (.ts x13.kids)], .one (.int .i64 x15)], [.cells [.fr (.ts x3)], .cells [.int .i64 x7, .int .i64 x9, .fr (.ts x11)]]))))))))))))))))))))))))))))) := by kernel_rfl
theorem kv (n : Nat) (v0 v1 : Int) (v2 : List T) (v3 v4 : Int) (v5 : List T) (v6 : Int) : FF (n + 1) 61 [.agg [.int .i64 v0, .int .i64 v1, .fr (.ts v2)], .agg [.int .i64 v3, .int .i64 v4, .fr (.ts v5)], .one (.int .i64 v6)] [] =
 ((FF n 33 [.agg [.int .i64 v0, .int .i64 v1, .fr (.ts v2)]] []).bind fun x0 =>
 (aD x0.1 fun x1 x2 =>
 (ai x2 (aj x0.2
 (cond (!x1)
 (some ([.one (.int .i64 0)], []))
 ((FF n 33 [.agg [.int .i64 v3, .int .i64 v4, .fr (.ts v5)]] []).bind fun x3 =>
 (aD x3.1 fun x4 x5 =>
 (ai x5 (aj x3.2
 (cond (!x4)
 (some ([.one (.int .i64 0)], []))
 ((FF n 20 [.one (.int .i64 v6), .one (.int .i64 0), .one (.int .i64 200)] []).bind fun x6 =>
 (aD x6.1 fun x7 x8 =>
 (ai x8 (aj x6.2
 (cond (!x7)
 (some ([.one (.int .i64 0)], []))
 ((FF n 15 [.agg [.int .i64 v0, .int .i64 v1, .fr (.ts v2)], .agg [.int .i64 v3, .int .i64 v4, .fr (.ts v5)]] []).bind fun x9 =>
 (aD x9.1 fun x10 x11 =>
 (ai x11 (aj x9.2
 (cond x10
 (some ([.one (.int .i64 1)], []))
 ((FF n 94 [.agg [.int .i64 v0, .int .i64 v1, .fr (.ts v2)], .one (.int .i64 v6)] []).bind fun x12 =>
 (ag x12.1 fun x13 x14 =>
 (aB .i64 x14 fun x15 x16 =>
 (ai x16 (aj x12.2
 ((FF n 94 [.agg [.int .i64 v3, .int .i64 v4, .fr (.ts v5)], .one (.int .i64 v6)] []).bind fun x17 =>
 (ag x17.1 fun x18 x19 =>
 (aB .i64 x19 fun x20 x21 =>
 (ai x21 (aj x17.2
 (cond (!decide (x15 = 0))
 (some ([.one (.int .i64 3)], []))
 (cond (!decide (x20 = 0))
 (some ([.one (.int .i64 3)], []))
 ((FF n 15 [.agg [.int .i64 x13.k, .int .i64 x13.n, .fr (.ts x13.kids)], .agg [.int .i64 x18.k, .int .i64 x18.n, .fr (.ts x18.kids)]] []).bind fun x22 =>
 (aD x22.1 fun x23 x24 =>
 (ai x24 (aj x22.2
 (cond x23
 (some ([.one (.int .i64 1)], []))
 (some ([.one (.int .i64 2)], []))))))))))))))))))))))))))))))))))))))) := by kernel_rfl
theorem oV (n : Nat) (v0 : Int) : FF (n + 1) 63 [.one (.int .i64 v0)] [] =
 (cond (decide (v0 = 0))
 (some ([.one (.fr (.ss [])), .one (.fr (.ss [(bytesOf [91, 42, 48, 93, 91, 35, 48, 93, 35, 48]), (bytesOf [91, 78, 93, 33, 35, 48]), (bytesOf [91, 78, 93, 91, 78, 93, 60, 91, 78, 93, 78, 44, 35, 49, 44, 91, 78, 93, 91, 78, 93, 43, 35, 48, 44, 35, 48, 62]), (bytesOf [40, 78, 62, 42, 48, 41]), (bytesOf [40, 91, 42, 48, 93, 91, 35, 48, 93, 35, 48, 32, 78, 41]), (bytesOf [91, 40, 78, 42, 78, 41, 93, 124, 40, 78, 42, 78, 41, 44, 95, 35, 48, 44, 94, 35, 48, 124]), (bytesOf [91, 78, 93, 124, 40, 78, 42, 123, 78, 44, 35, 48, 44, 35, 49, 125, 41, 44, 35, 48, 44, 33, 35, 48, 124]), (bytesOf [91, 78, 93, 91, 78, 93, 91, 123, 78, 44, 35, 49, 44, 35, 48, 125, 93, 64, 60, 91, 78, 93, 123, 78, 44, 35, 48, 44, 35, 51, 125, 44, 35, 48, 44, 33, 35, 50, 62]), (bytesOf [60, 91, 78, 93, 42, 48, 44, 78, 44, 91, 78, 93, 91, 42, 48, 93, 40, 78, 62, 35, 49, 41, 44, 43, 43, 48, 62]), (bytesOf [40, 42, 48, 62, 40, 35, 48, 62, 35, 49, 41, 41]), (bytesOf [91, 42, 48, 93, 91, 40, 35, 48, 62, 35, 49, 41, 93, 35, 48]), (bytesOf [42, 50])]))], []))
 (cond (decide (v0 = 1))
 (some ([.one (.fr (.ss [(bytesOf [42, 48]), (bytesOf [35, 48]), (bytesOf [40, 35, 49, 62, 35, 50, 41])])), .one (.fr (.ss [(bytesOf [40, 35, 48, 32, 35, 49, 41]), (bytesOf [33, 35, 49]), (bytesOf [123, 35, 50, 44, 35, 49, 44, 40, 35, 48, 32, 35, 49, 41, 125]), (bytesOf [91, 35, 50, 93, 35, 49]), (bytesOf [124, 40, 35, 50, 42, 35, 51, 41, 44, 35, 49, 44, 40, 35, 48, 32, 35, 49, 41, 124]), (bytesOf [91, 123, 35, 50, 44, 35, 49, 44, 40, 35, 48, 32, 35, 49, 41, 125, 93, 64, 60, 91, 35, 51, 93, 35, 52, 44, 35, 48, 44, 35, 50, 62])]))], []))
 (cond (decide (v0 = 2))
 (some ([.one (.fr (.ss [(bytesOf [78]), (bytesOf [123, 78, 44, 35, 48, 44, 43, 48, 125])])), .one (.fr (.ss [(bytesOf [35, 48]), (bytesOf [64, 60, 91, 78, 93, 123, 78, 44, 43, 35, 50, 44, 43, 35, 48, 125, 44, 35, 48, 44, 33, 43, 35, 49, 62]), (bytesOf [43, 35, 49]), (bytesOf [64, 60, 91, 78, 93, 78, 44, 35, 48, 44, 35, 49, 62]), (bytesOf [60, 91, 78, 93, 78, 44, 48, 44, 91, 78, 93, 91, 78, 93, 35, 49, 44, 35, 49, 62])]))], []))
 (some ([.one (.fr (.ss [(bytesOf [40, 78, 62, 42, 48, 41]), (bytesOf [40, 78, 62, 40, 35, 49, 32, 35, 48, 41, 41])])), .one (.fr (.ss [(bytesOf [40, 35, 48, 32, 48, 41]), (bytesOf [91, 78, 93, 40, 35, 49, 32, 35, 48, 41]), (bytesOf [40, 35, 49, 32, 43, 43, 48, 41]), (bytesOf [91, 78, 93, 91, 123, 78, 44, 35, 48, 44, 48, 125, 93, 64, 60, 35, 51, 44, 35, 48, 44, 40, 35, 50, 32, 35, 49, 41, 62])]))], []))))) := by kernel_rfl
noncomputable def cN (n c : Nat) (v0 : List ByteArray) (v1 : Int) (v2 : List T) : OR := aJ Try.prog SS n 64 0 [1, 1, 0, 1, 0] [] c ⟨[.v (.one (.fr (.ss v0))), aa, aa, .v (.one (.own 0 0)), .v (.one (.int .i64 v1)), aa, aa, aa, aa, aa, aa, aa, aa, aa, aa, aa, aa, aa, aa, aa, aa, aa, aa, aa, aa, aa, aa, aa],
 [.arr 29 (.ts v2) 0 false]⟩
theorem fT (n c : Nat) (v0 : List ByteArray) (v1 : Int) (v2 : List T) : cN n (c + 1) v0 v1 v2 =
 (cond (decide (v1 < (v0.length : Int)))
 (cond (decide (0 ≤ v1))
 (v0[(v1 : Int).toNat]?.bind fun x0 =>
 ((FF n 95 [.one (.str x0)] []).bind fun x1 =>
 (ag x1.1 fun x2 x3 =>
 (aD x3 fun x4 x5 =>
 (ai x5 (aj x1.2
 (cond x4
 (cond (b8 (v2 ++ [(T.mk x2.k x2.n x2.kids)]).length)
 (cN n c v0 (IntKind.i64.wrap (v1 + 1)) (v2 ++ [(T.mk x2.k x2.n x2.kids)]))
 none)
 (cN n c v0 (IntKind.i64.wrap (v1 + 1)) v2))))))))
 none)
 (some ([.one (.fr (.ts v2))], []))) := by kernel_rfl
theorem q8 (n : Nat) (v0 : List ByteArray) : FF (n + 1) 64 [.one (.fr (.ss v0))] [] =
 cN n n v0 0 ([]) := by kernel_rfl
theorem lx (n : Nat) (v0 v1 : Int) (v2 : List UInt8) (v3 : Int) : FF (n + 1) 62 [.one (.ptr 0 0), .one (.int .i64 v0), .one (.int .i64 v1)] [.cells [.fr (.bs v2), .int .i64 v3]] =
 ((FF n 22 [.one (.int .i64 7), .one (.int .i64 0)] []).bind fun x0 =>
 (ag x0.1 fun x1 x2 =>
 (ai x2 (aj x0.2
 ((FF n 22 [.one (.int .i64 6), .one (.int .i64 0)] []).bind fun x3 =>
 (ag x3.1 fun x4 x5 =>
 (ai x5 (aj x3.2
 (cond (decide (v1 < 1))
 (cond (decide (0 < v0))
 ((FF n 35 [.one (.ptr 0 0), .one (.int .i64 2)] [.cells [.fr (.bs v2), .int .i64 v3]]).bind fun x6 =>
 (aP x6.2 fun x7 x8 =>
 (bsC x7 fun x9 x10 =>
 (aS .i64 x10 fun x11 x12 =>
 (aQ x12
 (aB .i64 x6.1 fun x13 x14 =>
 (ai x14 (aj x8
 (cond (decide (x13 = 0))
 ((FF n 35 [.one (.ptr 0 0), .one (.int .i64 v0)] [.cells [.fr (.bs x9), .int .i64 x11]]).bind fun x15 =>
 (aP x15.2 fun x16 x17 =>
 (bsC x16 fun x18 x19 =>
 (aS .i64 x19 fun x20 x21 =>
 (aQ x21
 (aB .i64 x15.1 fun x22 x23 =>
 (ai x23 (aj x17
 ((FF n 22 [.one (.int .i64 1), .one (.int .i64 x22)] []).bind fun x24 =>
 (ag x24.1 fun x25 x26 =>
 (ai x26 (aj x24.2
 (some ([.agg [.int .i64 x25.k, .int .i64 x25.n, .fr (.ts x25.kids)]], [.cells [.fr (.bs x18), .int .i64 x20]]))))))))))))))
 (some ([.agg [.int .i64 x1.k, .int .i64 x1.n, .fr (.ts x1.kids)]], [.cells [.fr (.bs x9), .int .i64 x11]])))))))))))
 (some ([.agg [.int .i64 x1.k, .int .i64 x1.n, .fr (.ts x1.kids)]], [.cells [.fr (.bs v2), .int .i64 v3]])))
 ((FF n 35 [.one (.ptr 0 0), .one (.int .i64 7)] [.cells [.fr (.bs v2), .int .i64 v3]]).bind fun x6 =>
 (aP x6.2 fun x7 x8 =>
 (bsC x7 fun x9 x10 =>
 (aS .i64 x10 fun x11 x12 =>
 (aQ x12
 (aB .i64 x6.1 fun x13 x14 =>
 (ai x14 (aj x8
 (cond (decide (x13 = 0))
 ((FF n 62 [.one (.ptr 0 0), .one (.int .i64 (IntKind.i64.wrap (v0 + 1))), .one (.int .i64 (IntKind.i64.wrap (v1 - 1)))] [.cells [.fr (.bs x9), .int .i64 x11]]).bind fun x15 =>
 (aP x15.2 fun x16 x17 =>
 (bsC x16 fun x18 x19 =>
 (aS .i64 x19 fun x20 x21 =>
 (aQ x21
 (ag x15.1 fun x22 x23 =>
 (ai x23 (aj x17
 ((FF n 45 [.one (.int .i64 4), .one (.fr (.ts [(T.mk x4.k x4.n x4.kids), (T.mk x22.k x22.n x22.kids)]))] []).bind fun x24 =>
 (ag x24.1 fun x25 x26 =>
 (ai x26 (aj x24.2
 ((FF n 62 [.one (.ptr 0 0), .one (.int .i64 v0), .one (.int .i64 (IntKind.i64.wrap (v1 - 1)))] [.cells [.fr (.bs x18), .int .i64 x20]]).bind fun x27 =>
 (aP x27.2 fun x28 x29 =>
 (bsC x28 fun x30 x31 =>
 (aS .i64 x31 fun x32 x33 =>
 (aQ x33
 (ag x27.1 fun x34 x35 =>
 (ai x35 (aj x29
 ((FF n 45 [.one (.int .i64 5), .one (.fr (.ts [(T.mk x25.k x25.n x25.kids), (T.mk x34.k x34.n x34.kids)]))] []).bind fun x36 =>
 (ag x36.1 fun x37 x38 =>
 (ai x38 (aj x36.2
 (some ([.agg [.int .i64 x37.k, .int .i64 x37.n, .fr (.ts x37.kids)]], [.cells [.fr (.bs x30), .int .i64 x32]]))))))))))))))))))))))))))
 (cond (decide (x13 = 1))
 ((FF n 62 [.one (.ptr 0 0), .one (.int .i64 (IntKind.i64.wrap (v0 + 2))), .one (.int .i64 (IntKind.i64.wrap (v1 - 2)))] [.cells [.fr (.bs x9), .int .i64 x11]]).bind fun x15 =>
 (aP x15.2 fun x16 x17 =>
 (bsC x16 fun x18 x19 =>
 (aS .i64 x19 fun x20 x21 =>
 (aQ x21
 (ag x15.1 fun x22 x23 =>
 (ai x23 (aj x17
 ((FF n 45 [.one (.int .i64 4), .one (.fr (.ts [(T.mk x4.k x4.n x4.kids), (T.mk x22.k x22.n x22.kids)]))] []).bind fun x24 =>
 (ag x24.1 fun x25 x26 =>
 (ai x26 (aj x24.2
 ((FF n 45 [.one (.int .i64 4), .one (.fr (.ts [(T.mk x4.k x4.n x4.kids), (T.mk x25.k x25.n x25.kids)]))] []).bind fun x27 =>
 (ag x27.1 fun x28 x29 =>
 (ai x29 (aj x27.2
 ((FF n 45 [.one (.int .i64 4), .one (.fr (.ts [(T.mk x4.k x4.n x4.kids), (T.mk x4.k x4.n x4.kids)]))] []).bind fun x30 =>
 (ag x30.1 fun x31 x32 =>
 (ai x32 (aj x30.2
 ((FF n 62 [.one (.ptr 0 0), .one (.int .i64 v0), .one (.int .i64 (IntKind.i64.wrap (v1 - 2)))] [.cells [.fr (.bs x18), .int .i64 x20]]).bind fun x33 =>
 (aP x33.2 fun x34 x35 =>
 (bsC x34 fun x36 x37 =>
 (aS .i64 x37 fun x38 x39 =>
 (aQ x39
 (ag x33.1 fun x40 x41 =>
 (ai x41 (aj x35
 ((FF n 62 [.one (.ptr 0 0), .one (.int .i64 v0), .one (.int .i64 (IntKind.i64.wrap (v1 - 1)))] [.cells [.fr (.bs x36), .int .i64 x38]]).bind fun x42 =>
 (aP x42.2 fun x43 x44 =>
 (bsC x43 fun x45 x46 =>
 (aS .i64 x46 fun x47 x48 =>
 (aQ x48
 (ag x42.1 fun x49 x50 =>
 (ai x50 (aj x44
 ((FF n 45 [.one (.int .i64 9), .one (.fr (.ts [(T.mk x31.k x31.n x31.kids), (T.mk x40.k x40.n x40.kids), (T.mk x28.k x28.n x28.kids), (T.mk x49.k x49.n x49.kids)]))] []).bind fun x51 =>
 (ag x51.1 fun x52 x53 =>
 (ai x53 (aj x51.2
 (some ([.agg [.int .i64 x52.k, .int .i64 x52.n, .fr (.ts x52.kids)]], [.cells [.fr (.bs x45), .int .i64 x47]]))))))))))))))))))))))))))))))))))))))))))
 (cond (decide (x13 = 2))
 ((FF n 45 [.one (.int .i64 13), .one (.fr (.ts [(T.mk x4.k x4.n x4.kids), (T.mk x4.k x4.n x4.kids)]))] []).bind fun x15 =>
 (ag x15.1 fun x16 x17 =>
 (ai x17 (aj x15.2
 ((FF n 62 [.one (.ptr 0 0), .one (.int .i64 v0), .one (.int .i64 (IntKind.i64.wrap (v1 - 1)))] [.cells [.fr (.bs x9), .int .i64 x11]]).bind fun x18 =>
 (aP x18.2 fun x19 x20 =>
 (bsC x19 fun x21 x22 =>
 (aS .i64 x22 fun x23 x24 =>
 (aQ x24
 (ag x18.1 fun x25 x26 =>
 (ai x26 (aj x20
 ((FF n 62 [.one (.ptr 0 0), .one (.int .i64 v0), .one (.int .i64 (IntKind.i64.wrap (v1 - 2)))] [.cells [.fr (.bs x21), .int .i64 x23]]).bind fun x27 =>
 (aP x27.2 fun x28 x29 =>
 (bsC x28 fun x30 x31 =>
 (aS .i64 x31 fun x32 x33 =>
 (aQ x33
 (ag x27.1 fun x34 x35 =>
 (ai x35 (aj x29
 ((FF n 45 [.one (.int .i64 14), .one (.fr (.ts [(T.mk x16.k x16.n x16.kids), (T.mk x25.k x25.n x25.kids), (T.mk x34.k x34.n x34.kids)]))] []).bind fun x36 =>
 (ag x36.1 fun x37 x38 =>
 (ai x38 (aj x36.2
 ((FF n 19 [.one (.ptr 0 0), .one (.fr (.is [15, 16]))] [.cells [.fr (.bs x30), .int .i64 x32]]).bind fun x39 =>
 (aP x39.2 fun x40 x41 =>
 (bsC x40 fun x42 x43 =>
 (aS .i64 x43 fun x44 x45 =>
 (aQ x45
 (aB .i64 x39.1 fun x46 x47 =>
 (ai x47 (aj x41
 ((FF n 45 [.one (.int .i64 x46), .one (.fr (.ts [(T.mk x37.k x37.n x37.kids)]))] []).bind fun x48 =>
 (ag x48.1 fun x49 x50 =>
 (ai x50 (aj x48.2
 (some ([.agg [.int .i64 x49.k, .int .i64 x49.n, .fr (.ts x49.kids)]], [.cells [.fr (.bs x42), .int .i64 x44]]))))))))))))))))))))))))))))))))))))))
 (cond (decide (x13 = 3))
 ((FF n 45 [.one (.int .i64 4), .one (.fr (.ts [(T.mk x4.k x4.n x4.kids), (T.mk x4.k x4.n x4.kids)]))] []).bind fun x15 =>
 (ag x15.1 fun x16 x17 =>
 (ai x17 (aj x15.2
 ((FF n 62 [.one (.ptr 0 0), .one (.int .i64 v0), .one (.int .i64 (IntKind.i64.wrap (v1 - 2)))] [.cells [.fr (.bs x9), .int .i64 x11]]).bind fun x18 =>
 (aP x18.2 fun x19 x20 =>
 (bsC x19 fun x21 x22 =>
 (aS .i64 x22 fun x23 x24 =>
 (aQ x24
 (ag x18.1 fun x25 x26 =>
 (ai x26 (aj x20
 ((FF n 45 [.one (.int .i64 11), .one (.fr (.ts [(T.mk x25.k x25.n x25.kids)]))] []).bind fun x27 =>
 (ag x27.1 fun x28 x29 =>
 (ai x29 (aj x27.2
 ((FF n 62 [.one (.ptr 0 0), .one (.int .i64 v0), .one (.int .i64 (IntKind.i64.wrap (v1 - 1)))] [.cells [.fr (.bs x21), .int .i64 x23]]).bind fun x30 =>
 (aP x30.2 fun x31 x32 =>
 (bsC x31 fun x33 x34 =>
 (aS .i64 x34 fun x35 x36 =>
 (aQ x36
 (ag x30.1 fun x37 x38 =>
 (ai x38 (aj x32
 ((FF n 45 [.one (.int .i64 12), .one (.fr (.ts [(T.mk x16.k x16.n x16.kids), (T.mk x28.k x28.n x28.kids), (T.mk x37.k x37.n x37.kids)]))] []).bind fun x39 =>
 (ag x39.1 fun x40 x41 =>
 (ai x41 (aj x39.2
 (some ([.agg [.int .i64 x40.k, .int .i64 x40.n, .fr (.ts x40.kids)]], [.cells [.fr (.bs x33), .int .i64 x35]]))))))))))))))))))))))))))))))
 (cond (decide (x13 = 4))
 ((FF n 62 [.one (.ptr 0 0), .one (.int .i64 v0), .one (.int .i64 0)] [.cells [.fr (.bs x9), .int .i64 x11]]).bind fun x15 =>
 (aP x15.2 fun x16 x17 =>
 (bsC x16 fun x18 x19 =>
 (aS .i64 x19 fun x20 x21 =>
 (aQ x21
 (ag x15.1 fun x22 x23 =>
 (ai x23 (aj x17
 (some ([.agg [.int .i64 x22.k, .int .i64 x22.n, .fr (.ts x22.kids)]], [.cells [.fr (.bs x18), .int .i64 x20]]))))))))))
 ((FF n 62 [.one (.ptr 0 0), .one (.int .i64 v0), .one (.int .i64 (IntKind.i64.wrap (v1 - 1)))] [.cells [.fr (.bs x9), .int .i64 x11]]).bind fun x15 =>
 (aP x15.2 fun x16 x17 =>
 (bsC x16 fun x18 x19 =>
 (aS .i64 x19 fun x20 x21 =>
 (aQ x21
 (ag x15.1 fun x22 x23 =>
 (ai x23 (aj x17
 ((FF n 45 [.one (.int .i64 8), .one (.fr (.ts [(T.mk x22.k x22.n x22.kids)]))] []).bind fun x24 =>
 (ag x24.1 fun x25 x26 =>
 (ai x26 (aj x24.2
 (some ([.agg [.int .i64 x25.k, .int .i64 x25.n, .fr (.ts x25.kids)]], [.cells [.fr (.bs x18), .int .i64 x20]])))))))))))))))))))))))))))))))))))) := by kernel_rfl
end Go.Proofs.Ytajlknlnmmbfcaa
end
