/- Part 3 of the proof. -/
import Derived.Test.YtajlknlnmmbfcaaGreatK01
import Derived.Test.YtajlknlnmmbfcaaGreatK02
import Derived.Test.YtajlknlnmmbfcaaGreatRows
import Derived.KernelRfl
set_option linter.unusedVariables false
set_option linter.unusedSimpArgs false
section
namespace Go.Ab
open Go Go.Dk
section
variable {P : Program} {F : Callee} {D : Dec}
theorem lN {α : Type} {ρ ρ' : Operand → α} {a : Array Operand} (h : ∀ x ∈ a, ρ x = ρ' x) : a.toList.map ρ = a.toList.map ρ' :=
 List.map_congr_left fun x hx => h x (by simpa using hx)
theorem mM {ρ ρ' : Operand → AV} {o : Oper} (h : ∀ x ∈ o.op.operands, ρ x = ρ' x) (hp : List av) (sl : Nat) (k : AV → List av → OR) :
   qG P F D o ρ hp sl k = qG P F D o ρ' hp sl k := by
 obtain ⟨dst, op, ty, pos, aft, gd⟩ := o
 cases op <;> simp only [Op.operands] at h <;> simp only [qG]
 case build t ps =>
  have : ps.toList.map (fun p => (p.1, ρ p.2)) = ps.toList.map fun p => (p.1, ρ' p.2) :=
   List.map_congr_left fun p hp' => by rw [h p.2 (by simp only [List.mem_toArray]; exact List.mem_map.2 ⟨p, hp', rfl⟩)]
  rw [this]
 case buildSlice t n ps =>
  have : ps.toList.map (fun p => ρ p.2) = ps.toList.map fun p => ρ' p.2 :=
   List.map_congr_left fun p hp' => h p.2 (by simp only [List.mem_toArray]; exact List.mem_map.2 ⟨p, hp', rfl⟩)
  rw [this]
 case makeFunc fn first caps =>
  rw [lN fun x hx => h x (by simp [hx])]
 case slice t x lo hi mx =>
  have e1 : ρ x = ρ' x := h x (by simp)
  have e2 : lo.map ρ = lo.map ρ' := by cases lo with | none => rfl | some l => simp [h l (by simp)]
  have e3 : hi.map ρ = hi.map ρ' := by cases hi with | none => rfl | some l => simp [h l (by simp)]
  have e4 : mx.map ρ = mx.map ρ' := by cases mx with | none => rfl | some l => simp [h l (by simp)]
  rw [e1, e2, e3, e4]
 case call c =>
  obtain ⟨callee, args, tys⟩ := c
  have ea : args.toList.map ρ = args.toList.map ρ' := lN fun x hx => h x (by simp [Call.operands, hx])
  cases callee with
  | builtin bi => simp only [ea]
  | invoke q m => rfl
  | value f =>
   have ef : ρ f = ρ' f := h f (by simp [Call.operands])
   cases f <;> simp only [ea, ef]
 all_goals (first | rfl | (simp_all; done))
def KO (js : List Nat) : Nat → List av → List av
 | _, [] => []
 | i, o :: h => cond (dA i js) .dead o :: KO js (i + 1) h
def oC (js : List Nat) (b : Nat) : Nat → List GO → List GO
 | _, [] => []
 | i, g :: G => cond (dA i js) g (cond (Nat.blt i b) .gone .fresh) :: oC js b (i + 1) G
def sG (js : List Nat) : Nat → List GO → List GO → List GO
 | i, o :: h, o' :: h' => cond (dA i js) o' o :: sG js (i + 1) h h'
 | _, h, _ => h
theorem iN (js : List Nat) : ∀ (h : List av) (i j : Nat), (eK js i h)[j]? = h[j]?.map fun o => cond (dA (i + j) js) o .dead
 | [], i, j => by simp [eK]
 | o :: h, i, 0 => by simp [eK]
 | o :: h, i, j + 1 => by simp only [eK, List.getElem?_cons_succ]; rw [iN js h (i + 1) j, show i + 1 + j = i + (j + 1) by omega]
theorem jU (js : List Nat) (b : Nat) : ∀ (h : List GO) (i j : Nat), (oC js b i h)[j]? = h[j]?.map fun o => cond (dA (i + j) js) o (cond (Nat.blt (i + j) b) .gone .fresh)
 | [], i, j => by simp [oC]
 | o :: h, i, 0 => by simp [oC]
 | o :: h, i, j + 1 => by simp only [oC, List.getElem?_cons_succ]; rw [jU js b h (i + 1) j, show i + 1 + j = i + (j + 1) by omega]
theorem fK (js : List Nat) : ∀ (h : List av) (i : Nat), (eK js i h).length = h.length
 | [], _ => rfl
 | o :: h, i => by simp only [eK, List.length_cons, fK js h]
theorem jH (js : List Nat) (b : Nat) : ∀ (h : List GO) (i : Nat), (oC js b i h).length = h.length
 | [], _ => rfl
 | o :: h, i => by simp only [oC, List.length_cons, jH js b h]
theorem lu (js : List Nat) : ∀ (h h' : List av) (i : Nat), (kl js i h h').length = h.length
 | [], _, _ => by simp [kl]
 | o :: h, [], _ => by simp [kl]
 | o :: h, o' :: h', i => by simp only [kl, List.length_cons, lu js h]
theorem qw (js : List Nat) : ∀ (h h' : List GO) (i : Nat), (sG js i h h').length = h.length
 | [], _, _ => by simp [sG]
 | o :: h, [], _ => by simp [sG]
 | o :: h, o' :: h', i => by simp only [sG, List.length_cons, qw js h]
theorem yL {js : List Nat} : ∀ {h h' : List av} {i j : Nat}, dA (i + j) js = true → h'.length = h.length → (kl js i h h')[j]? = h'[j]?
 | [], [], i, j, _, _ => by simp [kl]
 | [], _ :: _, i, j, _, hl => by simp at hl
 | _ :: _, [], i, j, _, hl => by simp at hl
 | o :: h, o' :: h', i, 0, hj, _ => by simp only [Nat.add_zero] at hj; simp [kl, hj]
 | o :: h, o' :: h', i, j + 1, hj, hl => by
  simp only [kl, List.getElem?_cons_succ]
  exact yL (by rw [show i + 1 + j = i + (j + 1) by omega]; exact hj) (by simpa using hl)
theorem oX {js : List Nat} : ∀ {h h' : List av} {i j : Nat}, dA (i + j) js = false → (kl js i h h')[j]? = h[j]?
 | [], _, i, j, _ => by simp [kl]
 | o :: h, [], i, j, _ => by simp [kl]
 | o :: h, o' :: h', i, 0, hj => by simp only [Nat.add_zero] at hj; simp [kl, hj]
 | o :: h, o' :: h', i, j + 1, hj => by
  simp only [kl, List.getElem?_cons_succ]
  exact oX (by rw [show i + 1 + j = i + (j + 1) by omega]; exact hj)
theorem EP {js : List Nat} : ∀ {h h' : List GO} {i j : Nat}, dA (i + j) js = true → h'.length = h.length → (sG js i h h')[j]? = h'[j]?
 | [], [], i, j, _, _ => by simp [sG]
 | [], _ :: _, i, j, _, hl => by simp at hl
 | _ :: _, [], i, j, _, hl => by simp at hl
 | o :: h, o' :: h', i, 0, hj, _ => by simp only [Nat.add_zero] at hj; simp [sG, hj]
 | o :: h, o' :: h', i, j + 1, hj, hl => by
  simp only [sG, List.getElem?_cons_succ]
  exact EP (by rw [show i + 1 + j = i + (j + 1) by omega]; exact hj) (by simpa using hl)
theorem BK {js : List Nat} : ∀ {h h' : List GO} {i j : Nat}, dA (i + j) js = false → (sG js i h h')[j]? = h[j]?
 | [], _, i, j, _ => by simp [sG]
 | o :: h, [], i, j, _ => by simp [sG]
 | o :: h, o' :: h', i, 0, hj => by simp only [Nat.add_zero] at hj; simp [sG, hj]
 | o :: h, o' :: h', i, j + 1, hj => by
  simp only [sG, List.getElem?_cons_succ]
  exact BK (by rw [show i + 1 + j = i + (j + 1) by omega]; exact hj)
theorem sM (js : List Nat) (b : Nat) : ∀ (h : List av) (G : List GO) (i : Nat), (a0 h G).Perm (a0 (eK js i h) (oC js b i G) ++ a0 (KO js i h) G)
 | [], _, _ => List.Perm.refl _
 | o :: h, [], i => List.Perm.refl _
 | o :: h, g :: G, i => by
  have ih := sM js b h G (i + 1)
  simp only [eK, oC, KO, a0]
  cases dA i js with
  | true =>
   simp only [cond_true, cU, List.nil_append, List.append_assoc]
   exact ih.append_left _
  | false =>
   simp only [cond_false, cU, List.nil_append]
   refine (ih.append_left _).trans ?_
   rw [← List.append_assoc, ← List.append_assoc]
   exact List.perm_append_comm.append_right _
theorem Bq (js : List Nat) : ∀ (h h' : List av) (G G' : List GO) (i : Nat), h'.length = h.length → h.length = G.length → G'.length = G.length →
   (a0 (kl js i h h') (sG js i G G')).Perm (a0 (eK js i h') G' ++ a0 (KO js i h) G)
 | [], [], G, G', i, _, _, _ => List.Perm.refl _
 | [], _ :: _, _, _, _, hl, _, _ => by simp at hl
 | _ :: _, [], _, _, _, hl, _, _ => by simp at hl
 | _ :: _, _ :: _, [], _, _, _, hl, _ => by simp at hl
 | _ :: _, _ :: _, _ :: _, [], _, _, _, hl => by simp at hl
 | o :: h, o' :: h', g :: G, g' :: G', i, h1, h2, h3 => by
  have ih := Bq js h h' G G' (i + 1) (by simpa using h1) (by simpa using h2) (by simpa using h3)
  simp only [eK, sG, kl, KO, a0]
  cases dA i js with
  | true =>
   simp only [cond_true, cU, List.nil_append, List.append_assoc]
   exact ih.append_left _
  | false =>
   simp only [cond_false, cU, List.nil_append]
   refine (ih.append_left _).trans ?_
   rw [← List.append_assoc, ← List.append_assoc]
   exact List.perm_append_comm.append_right _
theorem pD (js : List Nat) : ∀ (h : List av) (G : List GO) (i : Nat), (a0 (eK js i h) G).Sublist (a0 h G)
 | [], _, _ => List.Sublist.refl _
 | o :: h, [], i => List.Sublist.refl _
 | o :: h, g :: G, i => by
  simp only [eK, a0]
  cases dA i js with
  | true => exact (pD js h G (i + 1)).append_left _
  | false => simp only [cond_false, cU, List.nil_append]; exact (pD js h G (i + 1)).trans (List.sublist_append_right _ _)
theorem RS.on {G G' : List GO} {Z : bx} {w : World} {v : SV} {X : Value} (h : RS G Z w v X) (hr : ∀ j ∈ mT v, ∀ g, G[j]? = some g → G'[j]? = some g) : RS G' Z w v X := by
 cases v with
 | own j v =>
  have := hr j (by simp [mT])
  rcases h with h | ⟨ver, val, sz, xs, hg, hh⟩
  ·exact .inl (this _ h)
  ·exact .inr ⟨ver, val, sz, xs, this _ hg, hh⟩
 | ptr j o =>
  have := hr j (by simp [mT])
  rcases h with h | ⟨bb, T, vs, hg, hh⟩
  ·exact .inl (this _ h)
  ·exact .inr ⟨bb, T, vs, this _ hg, hh⟩
 | op j v i o =>
  have := hr j (by simp [mT])
  rcases h with h | ⟨ver, val, sz, xs, hg, hh⟩
  ·exact .inl (this _ h)
  ·exact .inr ⟨ver, val, sz, xs, this _ hg, hh⟩
 | fn f l =>
  obtain ⟨bs, hX, hh⟩ := h
  refine ⟨bs, hX, hh.mono fun j b hj q => ?_⟩
  have := hr j (by simpa [mT] using hj)
  rcases q with h1 | ⟨T, vs, h1⟩
  ·exact .inl (this _ h1)
  ·exact .inr ⟨T, vs, this _ h1⟩
 | _ => exact h
theorem RV1.on {G G' : List GO} {Z : bx} {w : World} {v : V1} {X : Value} (h : RV1 G Z w v X) (hr : ∀ j ∈ CP v, ∀ g, G[j]? = some g → G'[j]? = some g) : RV1 G' Z w v X := by
 cases v with
 | one s => exact ⟨h.1.on hr, h.2⟩
 | agg l =>
  obtain ⟨xs, hX, hh⟩ := h
  exact ⟨xs, hX, hh.mono fun a _ ha q => ⟨q.1.on fun j hj => hr j (List.mem_flatMap.2 ⟨a, ha, hj⟩), q.2⟩⟩
theorem RV.on {G G' : List GO} {Z : bx} {w : World} {v : AV} {X : Value} (h : RV G Z w v X) (hr : ∀ j ∈ oG v, ∀ g, G[j]? = some g → G'[j]? = some g) : RV G' Z w v X := by
 cases v with
 | v v => exact RV1.on h hr
 | tup l =>
  obtain ⟨xs, hX, hh⟩ := h
  exact ⟨xs, hX, hh.mono fun a _ ha q => q.on fun j hj => hr j (List.mem_flatMap.2 ⟨a, ha, hj⟩)⟩
theorem RO.on {G G' : List GO} {Z : bx} {w : World} {o : av} {g : GO} (h : RO G Z w o g) (hr : ∀ j ∈ uW (some o), ∀ g, G[j]? = some g → G'[j]? = some g) : RO G' Z w o g := by
 cases o with
 | cells l => cases g with
  | cells bb T vs => exact ax.mono h fun a _ ha q => ⟨q.1.on fun j hj => hr j (List.mem_flatMap.2 ⟨a, ha, hj⟩), q.2⟩
  | _ => exact h
 | arr e d ver fz => cases g <;> exact h
 | dead => cases g <;> exact h
end
end Go.Ab
namespace Go.Ab
open Go Go.Dk
section
variable {P : Program} {F : Callee} {D : Dec} {w0 w : World} {M Z0 : bx} {b : Nat} {G : List GO} {s : AS} {tv : List Value}
theorem iX (s : AS) (d : Option Tmp) (v : AV) : (s.put d v).heap = s.heap := by cases d <;> rfl
theorem jO (live : List Nat) : ∀ (l : List AV) (i t : Nat), (jc live i l)[t]? = l[t]?.map fun v => cond (dA (i + t) live) v aa
 | [], i, t => by simp [jc]
 | v :: l, i, 0 => by simp [jc]
 | v :: l, i, t + 1 => by simp only [jc, List.getElem?_cons_succ]; rw [jO live l (i + 1) t, show i + 1 + t = i + (t + 1) by omega]
def opT (o : Oper) : List Nat := o.op.operands.toList.flatMap fun x => match x with | .tmp t => [t] | _ => []
theorem z3 {o : Oper} {t : Nat} : t ∈ opT o ↔ .tmp t ∈ o.op.operands := by
 unfold opT
 rw [List.mem_flatMap]
 constructor
 ·rintro ⟨x, hx, ht⟩
  cases x <;> simp at ht
  subst ht; simpa using hx
 ·intro h
  exact ⟨.tmp t, by simpa using h, by simp⟩
theorem pO {h : List av} {fp rf : List Nat} (hc : oh h fp rf = true) : (∀ j ∈ rf, j ∈ fp) ∧ ∀ j ∈ fp, ∀ i ∈ uW h[j]?, i ∈ fp := by
 simp only [oh, Bool.and_eq_true, List.all_eq_true, aS] at hc
 exact hc
def GD (tv : List Value) (d : Option Tmp) (X : Value) : List Value := match d with | some d => tv.set d X | none => tv
theorem Du {G : List GO} {Z : bx} {tm : List AV} (hh : ax (RV G Z w) tm tv) (d : Option Tmp) {v : AV} {X : Value} (hv : ∀ q, d = some q → q < tm.length → RV G Z w v X) (h : List av) :
   ax (RV G Z w) (AS.put ⟨tm, h⟩ d v).tmps (GD tv d X) := by
 cases d with
 | none => exact hh
 | some d =>
  by_cases hd : d < tm.length
  ·exact hh.set d (hv d rfl hd)
  ·show ax _ (tm.set d v) (tv.set d X)
   rw [List.set_eq_of_length_le (Nat.le_of_not_lt hd), List.set_eq_of_length_le (by rw [← hh.1]; exact Nat.le_of_not_lt hd)]; exact hh
theorem qA (hF : eD P F) (hib : ∀ f, D.ib f = true → l7 P f) (hst : St w0 M Z0 (a0 s.heap G) (FZ s G tv) w) (hm : ∀ k, M k → Z0 k) {o : Oper} {fp : List Nat} {v : AV} {h' : List av} {Q : Exit → Act → World → Prop}
   (hfr : ∀ j, b ≤ j → j < b + gZ P D o → G[j]? = some .fresh) (hb : b + gZ P D o ≤ s.heap.length) (hfp : ∀ j ∈ fp, j < b + gZ P D o) (hcl : oh s.heap fp (refsOf s o) = true)
   (hev : ∀ k', qG P F D o s.ev (eK fp 0 s.heap) b k' = k' v h') (hcl' : oh h' fp (oG v) = true) :
   o.wp P ⟨tv.toArray, []⟩ w (fun a' w' => ∃ G' tv', a' = ⟨tv'.toArray, []⟩ ∧ St w0 M Z0 (a0 (kl fp 0 s.heap h') G') (FZ (AS.put ⟨s.tmps, kl fp 0 s.heap h'⟩ o.dst v) G' tv') w' ∧ (∀ j, dA j fp = false → G'[j]? = G[j]?) ∧ Up G G') Q := by
 obtain ⟨hc1, hc2⟩ := pO hcl
 obtain ⟨hd1, hd2⟩ := pO hcl'
 have hlen : s.heap.length = G.length := hst.per.2.1
 have hp := sM fp b s.heap G 0
 generalize hL1 : a0 (eK fp 0 s.heap) (oC fp b 0 G) = L1 at hp
 have hs := (hst.perm hp).sub (List.sublist_append_left _ _)
 have hk : ∀ k, kr w0 Z0 (a0 s.heap G) k → kr w (fun k => kr w0 Z0 (a0 s.heap G) k ∨ mS L1 k) L1 k := fun k hk =>
  ⟨.inl (.inl hk), fun q hq => hk.2 q (hp.mem_iff.2 (List.mem_append.2 (.inl hq)))⟩
 have hGM : ∀ j ∈ fp, ∀ g, G[j]? = some g → (oC fp b 0 G)[j]? = some g := fun j hj g hg => by
  rw [jU, hg, Nat.zero_add, aS.2 hj]; rfl
 have hIM : bA w (mS L1) (fun k => kr w0 Z0 (a0 s.heap G) k ∨ mS L1 k) b (oC fp b 0 G) ⟨jc (opT o) 0 s.tmps, eK fp 0 s.heap⟩ tv w := by
  refine ⟨⟨Ext.refl _ _, ?_, ?_, ?_, ?_, aY _ _ _, ?_⟩, ?_, fun k hk => .inr hk⟩
  ·rw [hL1]; exact hs.own
  ·rw [hL1]; exact hs.loc
  ·rw [hL1]; exact fun q hq k hf => ⟨.inl ⟨q, hq, hf⟩, (hs.key q hq k hf).2⟩
  ·rw [hL1]; exact hs.dis
  ·have hper := hst.per
   rw [hL1]
   refine ⟨⟨?_, fun t x y hx hy => ?_⟩, ?_, fun j x y hx hy => ?_⟩
   ·have : (jc (opT o) 0 s.tmps).length = s.tmps.length := by
      refine Nat.le_antisymm ?_ ?_ <;> refine Nat.le_of_not_lt fun hlt => ?_
      ·have h1 := jO (opT o) s.tmps 0 s.tmps.length
       rw [List.getElem?_eq_getElem hlt, List.getElem?_eq_none (Nat.le_refl _)] at h1
       cases h1
      ·have h1 := jO (opT o) s.tmps 0 (jc (opT o) 0 s.tmps).length
       rw [List.getElem?_eq_none (Nat.le_refl _), List.getElem?_eq_getElem hlt] at h1
       cases h1
    rw [this]; exact hper.1.1
   ·rw [jO, Nat.zero_add] at hx
    obtain ⟨x', hx', rfl⟩ := Option.map_eq_some_iff.1 hx
    cases ht : dA t (opT o) with
    | false => exact fT y
    | true =>
     have hr := hper.1.2 t x' y hx' hy
     rw [cond_true]
     refine (RV.on (hr.aP (aT hk)) fun j hj g hg => hGM j (hc1 j ?_) g hg)
     refine List.mem_flatMap.2 ⟨.tmp t, by simpa using z3.1 (aS.1 ht), ?_⟩
     show j ∈ oG (s.tmps.getD t aa)
     simp only [List.getD, hx', Option.getD_some]; exact hj
   ·rw [fK, jH]; exact hlen
   ·rw [iN, Nat.zero_add] at hx
    rw [jU, Nat.zero_add] at hy
    obtain ⟨x', hx', rfl⟩ := Option.map_eq_some_iff.1 hx
    obtain ⟨y', hy', rfl⟩ := Option.map_eq_some_iff.1 hy
    cases ht : dA j fp with
    | false => cases Nat.blt j b <;> trivial
    | true =>
     have hr := hper.2.2 j x' y' hx' hy'
     refine RO.on (hr.aP (aT hk)) fun i hi g hg => hGM i (hc2 j (aS.1 ht) i ?_) g hg
     rw [hx']; exact hi
  ·intro j hj hjl
   rw [jH] at hjl
   rw [jU, Nat.zero_add, List.getElem?_eq_getElem hjl, Option.map_some]
   cases ht : dA j fp with
   | true =>
    have := hfr j hj (hfp j (aS.1 ht))
    rw [List.getElem?_eq_getElem hjl] at this
    exact this
   | false =>
    have : Nat.blt j b = false := by
     cases hb' : Nat.blt j b with
     | false => rfl
     | true => rw [Nat.blt_eq] at hb'; omega
    rw [this]; rfl
 have hevM : ∀ x ∈ o.op.operands, (AS.mk (jc (opT o) 0 s.tmps) (eK fp 0 s.heap)).ev x = s.ev x := by
  intro x hx
  cases x with
  | tmp t =>
   show (jc (opT o) 0 s.tmps).getD t aa = s.tmps.getD t aa
   simp only [List.getD, jO, Nat.zero_add, aS.2 (z3.2 hx), cond_true]
   cases s.tmps[t]? <;> rfl
  | _ => rfl
 classical
 have hrun : qG P F D o (AS.mk (jc (opT o) 0 s.tmps) (eK fp 0 s.heap)).ev (AS.mk (jc (opT o) 0 s.tmps) (eK fp 0 s.heap)).heap b (fun v2 h2 => if v2 = v ∧ h2 = h' then some ([], []) else none) = some ([], []) := by
  rw [mM hevM]
  show qG P F D o s.ev (eK fp 0 s.heap) b _ = _
  rw [hev]; simp
 refine Oper.wp_mono (fun a' w' hst' => ?_) (r5 (Q := Q) hF hib hIM (by show _ ≤ (eK fp 0 s.heap).length; rw [fK]; exact hb) hrun)
 obtain ⟨v2, h2, G2, tv2, hk2, ha, hI2, hl2, hu2, X, hX⟩ := hst'
 have hvh : v2 = v ∧ h2 = h' := by
  by_cases hh : v2 = v ∧ h2 = h'
  ·exact hh
  ·simp [hh] at hk2
 obtain ⟨rfl, rfl⟩ := hvh
 replace hX : tv2 = GD tv o.dst X := by rw [hX]; cases o.dst <;> rfl
 have hst2 := hI2.st
 rw [iX] at hst2
 rw [← hL1] at hp
 have hst2' := hst2
 rw [← hL1] at hst2'
 have hfrm := frame hst hm hp hst2'
 have hl : h2.length = s.heap.length := by rw [hl2]; exact fK _ _ _
 have hG2 : G2.length = G.length := by
  have := hI2.len
  rw [iX] at this
  rw [← this]; show h2.length = _; rw [hl, hlen]
 have hperm := Bq fp s.heap h2 G G2 0 hl hlen hG2
 have hS := (hfrm.1.sub ((pD fp h2 G2 0).append_right _)).perm hperm.symm
 have hin : ∀ j ∈ fp, (sG fp 0 G G2)[j]? = G2[j]? := fun j hj => EP (by rw [Nat.zero_add]; exact aS.2 hj) hG2
 have hout : ∀ j, dA j fp = false → (sG fp 0 G G2)[j]? = G[j]? := fun j hj => BK (by rw [Nat.zero_add]; exact hj)
 have hup : Up G (sG fp 0 G G2) := by
  intro j
  cases ht : dA j fp with
  | false => rw [hout j ht]; exact Up.refl G j
  | true =>
   rw [hin j (aS.1 ht)]
   have := hu2 j
   rw [jU, Nat.zero_add, ht] at this
   have he : (G[j]?.map fun o => cond true o (cond (Nat.blt j b) .gone .fresh)) = G[j]? := by cases G[j]? <;> rfl
   rw [he] at this
   exact this
 refine ⟨sG fp 0 G G2, tv2, ha, hS.kW (aY _ _ _) fun hh => ?_, hout, hup⟩
 obtain ⟨hc, hs0⟩ := hh
 refine ⟨?_, ?_⟩
 ·rw [hX]
  refine Du (hs0.1.mono fun _ _ _ q => q.up hup) o.dst (fun d hd hdl => ?_) (kl fp 0 s.heap h2)
  have h1 : (AS.put ⟨jc (opT o) 0 s.tmps, h2⟩ o.dst v2).tmps[d]? = some v2 := by
   have : d < (jc (opT o) 0 s.tmps).length := by
    have h3 := hIM.st.per.1.1
    have h4 := hs0.1.1
    exact Nat.lt_of_lt_of_eq hdl (h4.trans h3.symm)
   rw [hd]; show ((jc (opT o) 0 s.tmps).set d v2)[d]? = _
   simp [this]
  have h2' : tv2[d]? = some X := by
   rw [hX, hd]
   have : d < tv.length := by rw [← hs0.1.1]; exact hdl
   simp [GD, this]
  exact RV.on (hc.1.2 d v2 X h1 h2') fun j hj g hg => by rw [hin j (hd1 j hj)]; exact hg
 ·rw [iX]
  refine ⟨by rw [lu, qw]; exact hlen, fun j x y hx hy => ?_⟩
  cases ht : dA j fp with
  | false =>
   rw [oX (by rw [Nat.zero_add]; exact ht)] at hx
   rw [hout j ht] at hy
   exact (hs0.2.2 j x y hx hy).up hup
  | true =>
   have hx' : h2[j]? = some x := by rw [← hx]; exact (yL (by rw [Nat.zero_add]; exact ht) hl).symm
   rw [hin j (aS.1 ht)] at hy
   have hro := hc.2.2 j x y (by rw [iX]; exact hx') hy
   refine RO.on hro fun i hi g hg => by rw [hin i (hd2 j (aS.1 ht) i (by rw [hx']; exact hi))]; exact hg
theorem I0 {f : (AV → OR) → OR} {h h' : List av} (hf : N1 f) (hh : f (fun v => some ([], h)) = some ([], h')) : h' = h := by
 obtain ⟨a, ha, _⟩ := hf _ _ hh
 injection ha with ha; injection ha with _ ha; exact ha.symm
theorem rq {f : (SV → OR) → OR} {h h' : List av} (hf : N1 f) (hh : f (fun v => some ([], h)) = some ([], h')) : h' = h := by
 obtain ⟨a, ha, _⟩ := hf _ _ hh
 injection ha with ha; injection ha with _ ha; exact ha.symm
theorem El {j b n : Nat} (h : dA j (List.range' b n) = false) : ¬ (b ≤ j ∧ j < b + n) := fun hh => by
 have : j ∈ List.range' b n := by rw [List.mem_range'_1]; exact hh
 rw [aS.2 this] at h; cases h
theorem tJ {h h' : List av} {b j : Nat} {o : av} (hn : dA j (List.range' b 1) = false) (hh : (some ([], h.set b o) : OR) = some ([], h')) : h'[j]? = h[j]? := by
 injection hh with hh; injection hh with _ hh
 rw [← hh, List.getElem?_set_ne]
 have := El hn; omega
theorem yB {j : Nat} {l m : List Nat} (h : dA j (l ++ m) = false) : dA j l = false ∧ dA j m = false := by
 have h1 : j ∉ l ++ m := fun hm => by rw [aS.2 hm] at h; cases h
 rw [List.mem_append, not_or] at h1
 refine ⟨?_, ?_⟩
 ·cases hh : dA j l with
  | false => rfl
  | true => exact absurd (aS.1 hh) h1.1
 ·cases hh : dA j m with
  | false => rfl
  | true => exact absurd (aS.1 hh) h1.2
theorem Ci {o : Oper} {ρ : Operand → AV} {h h' : List av} {v : AV} {fp : List Nat} {j : Nat} (hev : ∀ k', qG P F D o ρ h b k' = k' v h') (hj : dA j fp = true)
   (hn : dA j (writes o fp b (gZ P D o)) = false) : h'[j]? = h[j]? := by
 have hk := hev fun _ h => some ([], h)
 obtain ⟨dst, op, ty, pos, aft, gd⟩ := o
 unfold writes at hn
 obtain ⟨hn1, hn2⟩ := yB hn
 have same : ∀ {h1 : List av}, h1 = h → h1[j]? = h[j]? := fun e => by rw [e]
 have same' : (some ([], h) : OR) = some ([], h') → h'[j]? = h[j]? := fun e => by injection e with e; injection e with _ e; rw [e]
 cases op <;> simp only [qG] at hk <;> simp only [gZ] at hn2
 case move => exact same' hk
 case assign => exact same' hk
 case pick =>
  split at hk
  ·rcases cD hk with ⟨_, hk⟩ | ⟨_, hk⟩ <;> exact same' hk
  ·cases hk
 case alloc => obtain ⟨z, _, hk⟩ := bind_some hk; exact tJ hn2 hk
 case box => obtain ⟨z, _, hk⟩ := bind_some hk; exact tJ hn2 hk
 case build => exact same (I0 (vp P _ _) hk)
 case buildSlice => rw [hj] at hn1; cases hn1
 case load => exact same (I0 (Bm P _ _ _) hk)
 case store => rw [hj] at hn1; cases hn1
 case nilCheck => exact same (rq (Fo _ _) hk)
 case binOp => exact same (rq (D7 P _ _ _ _) hk)
 case unOp => exact same (rq (Hw _ _) hk)
 case convert => exact same (rq (BL P _ _ _ _) hk)
 case makeFunc =>
  split at hk
  ·obtain ⟨z, _, hk⟩ := bind_some hk; exact same' hk
  ·cases hk
 case makeSlice t x y =>
  unfold rL at hk
  obtain ⟨n, hk, _⟩ := c0 _ _ _ hk
  obtain ⟨m, hk, _⟩ := c0 _ _ _ hk
  obtain ⟨_, hk⟩ := au hk
  split at hk
  ·obtain ⟨_, hk⟩ := au hk
   obtain ⟨d, _, hk⟩ := bind_some hk
   exact tJ hn2 hk
  ·cases hk
 case slice => rw [hj] at hn1; cases hn1
 case fieldAddr =>
  obtain ⟨z, _, hk⟩ := bind_some hk
  exact same (rq (xQ _ _ _) hk)
 case indexAddr => exact same (rq (mI P _ _ _ _) hk)
 case index => exact same (rq (vE P _ _ _) hk)
 case extract => exact same (I0 (qb _ _) hk)
 case call c =>
  obtain ⟨callee, args, tys⟩ := c
  cases callee with
  | builtin bi =>
   simp only at hk
   unfold iH at hk
   split at hk
   ·exact same (rq (C1 P _ _ _) hk)
   ·rw [hj] at hn1; cases hn1
   ·exact same (rq (uM _ _ _) hk)
   ·exact same (rq (uM _ _ _) hk)
   ·cases hk
  | invoke q m => cases hk
  | value f => simp only at hn1; rw [hj] at hn1; cases hn1
 all_goals cases hk
theorem Ca {o : Oper} (hl : qs o = true) (ρ : Operand → AV) (h : List av) (sl : Nat) (k : AV → List av → OR) : qG P F D o ρ h sl k = qG P F D o ρ [] 0 fun v _ => k v h := by
 obtain ⟨dst, op, ty, pos, aft, gd⟩ := o
 cases op <;> first | rfl | (simp [qs] at hl; done)
theorem r6 {o : Oper} (hl : qs o = true) : gZ P D o = 0 := by
 obtain ⟨dst, op, ty, pos, aft, gd⟩ := o
 cases op <;> first | rfl | (simp [qs] at hl; done)
def xE : GO → Bool | .fresh => false | _ => true
theorem RS.refs {G : List GO} {Z : bx} {v : SV} {X : Value} (h : RS G Z w v X) : ∀ j ∈ mT v, ∃ g, G[j]? = some g ∧ xE g = true := by
 intro j hj
 cases v with
 | own i v =>
  simp only [mT, List.mem_singleton] at hj; subst hj
  rcases h with h | ⟨ver, val, sz, xs, h, _⟩ <;> exact ⟨_, h, rfl⟩
 | ptr i o =>
  simp only [mT, List.mem_singleton] at hj; subst hj
  rcases h with h | ⟨bb, T, vs, h, _⟩ <;> exact ⟨_, h, rfl⟩
 | op i v n o =>
  simp only [mT, List.mem_singleton] at hj; subst hj
  rcases h with h | ⟨ver, val, sz, xs, h, _⟩ <;> exact ⟨_, h, rfl⟩
 | fn f l =>
  obtain ⟨bs, _, hh⟩ := h
  obtain ⟨i, hi⟩ := List.getElem?_of_mem (show j ∈ l from hj)
  obtain ⟨bb, _, hr⟩ := hh.get hi
  rcases hr with h | ⟨T, vs, h⟩ <;> exact ⟨_, h, rfl⟩
 | _ => simp [mT] at hj
theorem RV.refs {G : List GO} {Z : bx} {v : AV} {X : Value} (h : RV G Z w v X) : ∀ j ∈ oG v, ∃ g, G[j]? = some g ∧ xE g = true := by
 have one : ∀ {v : V1} {X : Value}, RV1 G Z w v X → ∀ j ∈ CP v, ∃ g, G[j]? = some g ∧ xE g = true := by
  intro v X h j hj
  cases v with
  | one x => exact h.1.refs j hj
  | agg l =>
   obtain ⟨xs, _, hh⟩ := h
   obtain ⟨x, hx, hj⟩ := List.mem_flatMap.1 hj
   obtain ⟨i, hi⟩ := List.getElem?_of_mem hx
   obtain ⟨y, _, hr⟩ := hh.get hi
   exact hr.1.refs j hj
 intro j hj
 cases v with
 | v x => exact one h j hj
 | tup l =>
  obtain ⟨xs, _, hh⟩ := h
  obtain ⟨x, hx, hj⟩ := List.mem_flatMap.1 hj
  obtain ⟨i, hi⟩ := List.getElem?_of_mem hx
  obtain ⟨y, _, hr⟩ := hh.get hi
  exact one hr j hj
def jt (G : List GO) : List Nat := (List.range G.length).filter fun j => match G[j]? with | some g => xE g | none => false
theorem oO {G : List GO} {j : Nat} : j ∈ jt G ↔ ∃ g, G[j]? = some g ∧ xE g = true := by
 unfold jt
 rw [List.mem_filter, List.mem_range]
 constructor
 ·rintro ⟨h1, h2⟩
  rw [List.getElem?_eq_getElem h1] at h2 ⊢
  exact ⟨_, rfl, h2⟩
 ·rintro ⟨g, h1, h2⟩
  have hl := aF h1
  rw [h1]
  exact ⟨hl, h2⟩
theorem EU (hF : eD P F) (hib : ∀ f, D.ib f = true → l7 P f) (hst : St w0 M Z0 (a0 s.heap G) (FZ s G tv) w) (hm : ∀ k, M k → Z0 k) {o : Oper} {v : AV} {h' : List av} {Q : Exit → Act → World → Prop}
   (hl : qs o = true) (hev : ∀ k', qG P F D o s.ev [] 0 k' = k' v h') (hr : (oG v).all (dA · (refsOf s o)) = true) :
   o.wp P ⟨tv.toArray, []⟩ w (fun a' w' => ∃ G' tv', a' = ⟨tv'.toArray, []⟩ ∧ St w0 M Z0 (a0 s.heap G') (FZ (AS.put s o.dst v) G' tv') w' ∧ (∀ j : Nat, G[j]? = some GO.fresh → G'[j]? = some GO.fresh) ∧ Up G G') Q := by
 have hper := hst.per
 have hop : ∀ j ∈ refsOf s o, j ∈ jt G := by
  intro j hj
  obtain ⟨x, _, hj⟩ := List.mem_flatMap.1 hj
  have hI : bA w0 M Z0 s.heap.length G s tv w := ⟨hst, fun j h1 h2 => by rw [hper.2.1] at h1; omega, hm⟩
  exact oO.2 ((hI.ev x).refs j hj)
 have hheap : ∀ (h2 : List av), (∀ j : Nat, j ∈ jt G → h2[j]? = s.heap[j]?) → ∀ j ∈ jt G, ∀ i ∈ uW h2[j]?, i ∈ jt G := by
  intro h2 he j hj i hi
  rw [he j hj] at hi
  cases ho : s.heap[j]? with
  | none => rw [ho] at hi; simp [uW] at hi
  | some ob =>
   rw [ho] at hi
   obtain ⟨g, hg, hro⟩ := hper.2.get ho
   cases ob with
   | cells l =>
    cases g with
    | cells bb T vs =>
     obtain ⟨x, hx, hi⟩ := List.mem_flatMap.1 hi
     obtain ⟨q, hq⟩ := List.getElem?_of_mem hx
     obtain ⟨y, _, hr⟩ := ax.get hro hq
     exact oO.2 (hr.1.refs i hi)
    | _ => exact hro.elim
   | arr e d ver fz => simp [uW] at hi
   | dead => simp [uW] at hi
 have honly : ∀ j ∈ jt G, (eK (jt G) 0 s.heap)[j]? = s.heap[j]? := by
  intro j hj
  rw [iN, Nat.zero_add, aS.2 hj]
  cases s.heap[j]? <;> rfl
 have hmix : kl (jt G) 0 s.heap (eK (jt G) 0 s.heap) = s.heap := by
  refine List.ext_getElem? fun j => ?_
  cases hj : dA j (jt G) with
  | false => exact oX (by rw [Nat.zero_add]; exact hj)
  | true => rw [yL (by rw [Nat.zero_add]; exact hj) (fK _ _ _)]; exact honly j (aS.1 hj)
 have clos : ∀ (h2 : List av) (rf : List Nat), (∀ j ∈ rf, j ∈ jt G) → (∀ j : Nat, j ∈ jt G → h2[j]? = s.heap[j]?) → oh h2 (jt G) rf = true := by
  intro h2 rf h1 he
  simp only [oh, Bool.and_eq_true, List.all_eq_true, aS]
  exact ⟨h1, hheap h2 he⟩
 have hrf : ∀ j ∈ oG v, j ∈ jt G := by
  intro j hj
  rw [List.all_eq_true] at hr
  exact hop j (aS.1 (hr j hj))
 have := qA (b := s.heap.length) (fp := jt G) (h' := eK (jt G) 0 s.heap) (v := v) (Q := Q) (P := P) (F := F) (D := D) (o := o) hF hib hst hm
  (fun j h1 h2 => by rw [r6 hl] at h2; omega) (by rw [r6 hl]; exact Nat.le_refl _)
  (fun j hj => by
   obtain ⟨g, hg, _⟩ := oO.1 hj
   have := aF hg
   have := hper.2.1
   omega)
  (clos _ _ hop fun _ _ => rfl)
  (fun k' => by rw [Ca hl, hev]) (clos _ _ hrf honly)
 rw [hmix] at this
 refine Oper.wp_mono (fun a' w' hh => ?_) this
 obtain ⟨G', tv', h1, h2, h3, h4⟩ := hh
 refine ⟨G', tv', h1, h2, fun j hj => ?_, h4⟩
 rw [h3 j ?_]; exact hj
 cases hh : dA j (jt G) with
 | false => rfl
 | true =>
  obtain ⟨g, hg, ht⟩ := oO.1 (aS.1 hh)
  rw [hj] at hg
  obtain rfl := Option.some.inj hg
  cases ht
end
end Go.Ab
namespace Go.Ab
open Go Go.Dk
structure Eff where
 want : Bool
 on : Bool
 fp : List Nat
 wr : List Nat
 b : Nat
 v : AV
 h : List av
def Eff.app (d : Option Tmp) (e : Eff) (s : AS) : AS := AS.put { s with heap := kl e.wr 0 s.heap e.h } d e.v
def di : List (Oper × Eff) → Nat → (Nat → Bool) → AS → AS
 | [], _, _, s => s
 | x :: l, i, L, s => di l (i + 1) L (cond (L i) (x.2.app x.1.dst s) s)
theorem mD (js : List Nat) : ∀ (h h' : List av) (i j : Nat), (kl js i h h')[j]? = cond (dA (i + j) js) (h[j]?.map fun o => h'[j]?.getD o) h[j]?
 | [], _, i, j => by simp [kl]
 | o :: h, [], i, j => by
  have : (fun o : av => ([] : List av)[j]?.getD o) = id := by funext o; simp
  rw [this, kl]
  ·cases dA (i + j) js <;> simp
  ·simp
 | o :: h, o' :: h', i, 0 => by simp only [Nat.add_zero, kl, List.getElem?_cons_zero, Option.map_some, Option.getD_some]; cases dA i js <;> rfl
 | o :: h, o' :: h', i, j + 1 => by
  simp only [kl, List.getElem?_cons_succ]
  rw [mD js h h' (i + 1) j, show i + 1 + j = i + (j + 1) by omega]
theorem AS.ext {s t : AS} (h1 : s.tmps = t.tmps) (h2 : s.heap = t.heap) : s = t := by cases s; cases t; simp_all
theorem oR (d : Option Tmp) (e : Eff) (s : AS) : (e.app d s).heap = kl e.wr 0 s.heap e.h := iX _ _ _
theorem oW (d : Option Tmp) (e : Eff) (s : AS) : (e.app d s).tmps = (match d with | some d => s.tmps.set d e.v | none => s.tmps) := by cases d <;> rfl
def LK (d : Option Tmp) (e : Eff) (d' : Option Tmp) (e' : Eff) : Prop := (∀ q, d = some q → d' ≠ some q) ∧ ∀ j, j ∈ e.wr → j ∉ e'.wr
theorem Ge {d d' : Option Tmp} {e e' : Eff} (h : LK d e d' e') (s : AS) : e.app d (e'.app d' s) = e'.app d' (e.app d s) := by
 refine AS.ext ?_ ?_
 ·simp only [oW]
  cases d with
  | none => cases d' <;> rfl
  | some q => cases d' with
   | none => rfl
   | some q' => exact List.set_comm _ _ fun hq => h.1 q rfl (by rw [← hq])
 ·simp only [oR]
  refine List.ext_getElem? fun j => ?_
  simp only [mD, Nat.zero_add]
  cases h1 : dA j e.wr with
  | false => cases h2 : dA j e'.wr <;> rfl
  | true => cases h2 : dA j e'.wr with
   | false => rfl
   | true => exact absurd (aS.1 h2) (h.2 j (aS.1 h1))
theorem nd {L : Nat → Bool} : ∀ {l : List (Oper × Eff)} {i : Nat} {s : AS}, (∀ q, i ≤ q → L q = false) → di l i L s = s
 | [], _, _, _ => rfl
 | x :: l, i, s, h => by simp only [di, h i (Nat.le_refl i), cond_false]; exact nd fun q hq => h q (by omega)
theorem kK {L L' : Nat → Bool} : ∀ {l : List (Oper × Eff)} {i : Nat} {s : AS}, (∀ q, i ≤ q → q < i + l.length → L q = L' q) → di l i L s = di l i L' s
 | [], _, _, _ => rfl
 | x :: l, i, s, h => by
  simp only [di, h i (Nat.le_refl i) (by simp)]
  exact kK fun q hq hl => h q (by omega) (by simp only [List.length_cons]; omega)
theorem qa {L : Nat → Bool} : ∀ {l : List (Oper × Eff)} {i : Nat} {s : AS}, (di l i L s).heap.length = s.heap.length
 | [], _, _ => rfl
 | x :: l, i, s => by
  simp only [di]; rw [qa]
  cases L i with
  | false => rfl
  | true => rw [cond_true, oR, lu]
theorem mY {L : Nat → Bool} {d : Option Tmp} {e : Eff} : ∀ {l : List (Oper × Eff)} {i : Nat} {s : AS},
   (∀ q x, l[q]? = some x → L (i + q) = true → LK d e x.1.dst x.2) → di l i L (e.app d s) = e.app d (di l i L s)
 | [], _, _, _ => rfl
 | x :: l, i, s, h => by
  simp only [di]
  have h' : ∀ q y, l[q]? = some y → L (i + 1 + q) = true → LK d e y.1.dst y.2 := fun q y hy hL => h (q + 1) y (by simpa using hy) (by rw [show i + (q + 1) = i + 1 + q by omega]; exact hL)
  cases hL : L i with
  | false => exact mY h'
  | true =>
   simp only [cond_true]
   rw [← Ge (h 0 x rfl hL), mY h']
theorem vS {L : Nat → Bool} {o : Oper} {e : Eff} : ∀ {l : List (Oper × Eff)} {i p : Nat} {s : AS}, l[p]? = some (o, e) → L (i + p) = false →
   (∀ q x, p < q → l[q]? = some x → L (i + q) = true → LK o.dst e x.1.dst x.2) → di l i (fun q => L q || Nat.beq q (i + p)) s = e.app o.dst (di l i L s)
 | [], _, _, _, h, _, _ => by simp at h
 | x :: l, i, 0, s, h, hL, hf => by
  simp only [List.getElem?_cons_zero, Option.some.injEq] at h
  subst h
  simp only [Nat.add_zero] at hL
  simp only [di, Nat.add_zero, hL, Nat.beq_refl, Bool.or_true, cond_true, cond_false]
  rw [← mY fun q x hx hLq => hf (q + 1) x (by omega) (by simpa using hx) (by rw [show i + (q + 1) = i + 1 + q by omega]; exact hLq)]
  refine kK fun q hq _ => ?_
  have : Nat.beq q i = false := by cases hb : Nat.beq q i with | false => rfl | true => simp only [Nat.beq_eq] at hb; omega
  simp [this]
 | x :: l, i, p + 1, s, h, hL, hf => by
  have hb : Nat.beq i (i + (p + 1)) = false := by cases hb : Nat.beq i (i + (p + 1)) with | false => rfl | true => simp only [Nat.beq_eq] at hb; omega
  simp only [di, hb, Bool.or_false]
  have he : i + (p + 1) = i + 1 + p := by omega
  rw [he]
  exact vS (by simpa using h) (by rw [← he]; exact hL) fun q x hq hx hLq => hf (q + 1) x (by omega) (by simpa using hx) (by rw [show i + (q + 1) = i + 1 + q by omega]; exact hLq)
theorem sJ {L L' : Nat → Bool} {j : Nat} : ∀ {l : List (Oper × Eff)} {i : Nat} {s s' : AS}, s.heap[j]? = s'.heap[j]? →
   (∀ q x, l[q]? = some x → L (i + q) ≠ L' (i + q) → j ∉ x.2.wr) → (di l i L s).heap[j]? = (di l i L' s').heap[j]?
 | [], _, _, _, hs, _ => hs
 | x :: l, i, s, s', hs, h => by
  simp only [di]
  refine sJ ?_ fun q y hy hne => h (q + 1) y (by simpa using hy) (by rw [show i + (q + 1) = i + 1 + q by omega]; exact hne)
  have hap : ∀ t : AS, j ∉ x.2.wr → (x.2.app x.1.dst t).heap[j]? = t.heap[j]? := fun t hj => by
   rw [oR]; exact oX (by cases hh : dA (0 + j) x.2.wr with | false => rfl | true => rw [Nat.zero_add] at hh; exact absurd (aS.1 hh) hj)
  cases h1 : L i <;> cases h2 : L' i <;> simp only [cond_true, cond_false]
  ·exact hs
  ·rw [hap _ (h 0 x rfl (by simp [h1, h2]))]; exact hs
  ·rw [hap _ (h 0 x rfl (by simp [h1, h2]))]; exact hs
  ·simp only [oR, mD, hs]
theorem rH {L L' : Nat → Bool} {t : Nat} : ∀ {l : List (Oper × Eff)} {i : Nat} {s s' : AS}, s.tmps[t]? = s'.tmps[t]? →
   (∀ q x, l[q]? = some x → L (i + q) ≠ L' (i + q) → x.1.dst ≠ some t) → (di l i L s).tmps[t]? = (di l i L' s').tmps[t]?
 | [], _, _, _, hs, _ => hs
 | x :: l, i, s, s', hs, h => by
  simp only [di]
  refine rH ?_ fun q y hy hne => h (q + 1) y (by simpa using hy) (by rw [show i + (q + 1) = i + 1 + q by omega]; exact hne)
  have hap : ∀ u : AS, x.1.dst ≠ some t → (x.2.app x.1.dst u).tmps[t]? = u.tmps[t]? := fun u hj => by
   rw [oW]
   split
   ·rename_i d hd; rw [List.getElem?_set_ne (fun e => hj (by rw [hd]; exact congrArg some e))]
   ·rfl
  have hap2 : (x.2.app x.1.dst s).tmps[t]? = (x.2.app x.1.dst s').tmps[t]? := by
   rw [oW, oW]
   split
   ·rename_i d hd
    by_cases hdt : d = t
    ·subst hdt
     rw [List.getElem?_set_self', List.getElem?_set_self', hs]
    ·rw [List.getElem?_set_ne hdt, List.getElem?_set_ne hdt]; exact hs
   ·exact hs
  cases h1 : L i <;> cases h2 : L' i <;> simp only [cond_true, cond_false]
  ·exact hs
  ·rw [hap _ (h 0 x rfl (by simp [h1, h2]))]; exact hs
  ·rw [hap _ (h 0 x rfl (by simp [h1, h2]))]; exact hs
  ·exact hap2
def Guard (ops : List Oper) (o : Oper) (s : AS) (on : Bool) : Prop :=
 match o.guard with
 | none => on = true
 | some (j, want) => ∃ d, ops[j]?.bind (·.dst) = some d ∧ ((∃ bb, s.tmps[d]? = some (kx bb) ∧ on = (bb == want)) ∨ (s.tmps[d]? = some Iu ∧ on = false))
theorem Dp {ops : List Oper} {o : Oper} {s : AS} {yes no : AS → OR} {r : List V1 × List av} (h : BU ops s o.guard yes no = some r) :
   ∃ on, Guard ops o s on ∧ (on = true → yes s = some r) ∧ (on = false → no s = some r) := by
 unfold BU at h
 unfold Guard
 split at h
 ·rename_i hg; exact ⟨true, by rw [hg], fun _ => h, nofun⟩
 ·rename_i j want hg
  rw [hg]
  split at h
  ·rename_i d hd
   split at h
   ·rename_i bb hb
    have hdl : s.tmps[d]? = some (.v (.one (.bool bb))) := by
     cases hs : s.tmps[d]? with
     | none => simp [List.getD, hs, aa] at hb
     | some v => simp [List.getD, hs] at hb; rw [hb]
    have hput : ∀ c, c = bb → s.put (some d) (kx c) = s := by
     rintro c rfl
     show AS.mk (s.tmps.set d _) s.heap = s
     have : s.tmps.set d (kx c) = s.tmps := ko hdl
     rw [this]
    refine ⟨bb == want, ⟨d, hd, .inl ⟨bb, hdl, rfl⟩⟩, ?_, ?_⟩
    ·cases bb <;> cases want <;> simp only [cond_true, cond_false] at h <;> intro he <;> first | (cases he; done) | (rw [hput _ rfl] at h; exact h)
    ·cases bb <;> cases want <;> simp only [cond_true, cond_false] at h <;> intro he <;> first | (cases he; done) | (rw [hput _ rfl] at h; exact h)
   ·rename_i hb
    have hdl : s.tmps[d]? = some Iu := by
     cases hs : s.tmps[d]? with
     | none => simp [List.getD, hs, aa] at hb
     | some v => simp [List.getD, hs] at hb; rw [hb]; rfl
    exact ⟨false, ⟨d, hd, .inr ⟨hdl, rfl⟩⟩, nofun, fun _ => h⟩
   ·cases h
  ·cases h
def AU (P : Program) (F : Callee) (D : Dec) (ops : List Oper) (o : Oper) (e : Eff) (s : AS) : Prop :=
 Guard ops o s e.want ∧
 (e.on = true → e.want = true ∧ e.wr = writes o e.fp e.b (gZ P D o) ∧ (∀ j, e.b ≤ j → j < e.b + gZ P D o → j ∈ e.fp) ∧ (∀ j ∈ e.fp, j < e.b + gZ P D o) ∧
  oh s.heap e.fp (refsOf s o) = true ∧ (∀ k', qG P F D o s.ev (eK e.fp 0 s.heap) e.b k' = k' e.v e.h) ∧ oh e.h e.fp (oG e.v) = true) ∧
 (e.on = false → e.wr = [] ∧ (e.want = false → e.v = Iu) ∧ (e.want = true → qs o = true ∧ (oG e.v).all (dA · (refsOf s o)) = true ∧ ∃ h', ∀ k', qG P F D o s.ev [] 0 k' = k' e.v h'))
theorem o5 : ∀ (i : Nat) (h h' : List av), kl [] i h h' = h
 | _, [], _ => by simp [kl]
 | _, _ :: _, [] => by simp [kl]
 | i, o :: h, o' :: h' => by simp only [kl, dA, cond_false, o5 (i + 1) h h']
theorem rT {P : Program} {F : Callee} {D : Dec} {ops : List Oper} {an : List (List Nat)} {k : AS → OR} {r : List V1 × List av} : ∀ {l : List Oper} {i : Nat} {ds : List JU} {b : Nat} {s : AS},
   Hu P F D ops an l i ds b s k = some r → ∃ es : List Eff, es.length = l.length ∧ k (di (l.zip es) i (fun _ => true) s) = some r ∧
    (∀ p o e, (l.zip es)[p]? = some (o, e) → e.b = b + room P D (l.take p) ∧ AU P F D ops o e (di (l.zip es) i (fun q => Nat.blt q (i + p)) s)) ∧
    (∀ p o e, (l.zip es)[p]? = some (o, e) → e.on = true → ∀ d ∈ ds, ml (an.getD (i + p) []) e.fp e.wr d = true) ∧
    (∀ p q o e o' e', p < q → (l.zip es)[p]? = some (o, e) → (l.zip es)[q]? = some (o', e') → e.on = true → e'.on = true → ml (an.getD (i + q) []) e'.fp e'.wr ⟨i + p, e.fp, e.wr⟩ = true)
 | [], i, ds, b, s, h => ⟨[], rfl, h, fun p o e hp => by simp at hp, fun p o e hp => by simp at hp, fun p q o e o' e' _ hp => by simp at hp⟩
 | o :: l, i, ds, b, s, h => by
  unfold Hu at h
  obtain ⟨on, hg, h1, h2⟩ := Dp h
  -- what is left, behind the first
  have rest : ∀ (e : Eff) (ds' : List JU), e.b = b → AU P F D ops o e s → (∀ d ∈ ds, d ∈ ds') → (e.on = true → (∀ d ∈ ds, ml (an.getD i []) e.fp e.wr d = true) ∧ (⟨i, e.fp, e.wr⟩ : JU) ∈ ds') →
     Hu P F D ops an l (i + 1) ds' (b + gZ P D o) (e.app o.dst s) k = some r → ∃ es : List Eff, es.length = (o :: l).length ∧ k (di ((o :: l).zip es) i (fun _ => true) s) = some r ∧
   (∀ p o' e, ((o :: l).zip es)[p]? = some (o', e) → e.b = b + room P D ((o :: l).take p) ∧ AU P F D ops o' e (di ((o :: l).zip es) i (fun q => Nat.blt q (i + p)) s)) ∧
   (∀ p o' e, ((o :: l).zip es)[p]? = some (o', e) → e.on = true → ∀ d ∈ ds, ml (an.getD (i + p) []) e.fp e.wr d = true) ∧
   (∀ p q o1 e o' e', p < q → ((o :: l).zip es)[p]? = some (o1, e) → ((o :: l).zip es)[q]? = some (o', e') → e.on = true → e'.on = true → ml (an.getD (i + q) []) e'.fp e'.wr ⟨i + p, e.fp, e.wr⟩ = true) := by
   intro e ds' heb hst hds hok hrun
   obtain ⟨es, a1, a2, a3, a4, a5⟩ := rT hrun
   refine ⟨e :: es, by simp [a1], ?_, ?_, ?_, ?_⟩
   ·simpa only [List.zip_cons_cons, di, cond_true] using a2
   ·intro p o' e' hp
    cases p with
    | zero =>
     simp only [List.zip_cons_cons, List.getElem?_cons_zero, Option.some.injEq, Prod.mk.injEq] at hp
     obtain ⟨rfl, rfl⟩ := hp
     refine ⟨by simp [heb, room], ?_⟩
     rw [nd]
     ·exact hst
     ·intro q hq
      cases hb : Nat.blt q (i + 0) with
      | false => rfl
      | true => rw [Nat.blt_eq] at hb; omega
    | succ p =>
     simp only [List.zip_cons_cons, List.getElem?_cons_succ] at hp
     obtain ⟨c1, c2⟩ := a3 p o' e' hp
     refine ⟨by rw [c1]; simp only [List.take_succ_cons, room]; omega, ?_⟩
     have hbl : Nat.blt i (i + (p + 1)) = true := by rw [Nat.blt_eq]; omega
     simp only [List.zip_cons_cons, di, hbl, cond_true]
     rw [show i + (p + 1) = i + 1 + p by omega]; exact c2
   ·intro p o' e' hp hon' d hd
    cases p with
    | zero =>
     simp only [List.zip_cons_cons, List.getElem?_cons_zero, Option.some.injEq, Prod.mk.injEq] at hp
     obtain ⟨rfl, rfl⟩ := hp
     exact (hok hon').1 d hd
    | succ p =>
     simp only [List.zip_cons_cons, List.getElem?_cons_succ] at hp
     have := a4 p o' e' hp hon' d (hds d hd)
     rw [show i + (p + 1) = i + 1 + p by omega]; exact this
   ·intro p q o1 e1 o' e' hpq hp hq hon1 hon'
    cases q with
    | zero => omega
    | succ q =>
     simp only [List.zip_cons_cons, List.getElem?_cons_succ] at hq
     rw [show i + (q + 1) = i + 1 + q by omega]
     cases p with
     | zero =>
      simp only [List.zip_cons_cons, List.getElem?_cons_zero, Option.some.injEq, Prod.mk.injEq] at hp
      obtain ⟨rfl, rfl⟩ := hp
      exact a4 q o' e' hq hon' _ (hok hon1).2
     | succ p =>
      simp only [List.zip_cons_cons, List.getElem?_cons_succ] at hp
      have := a5 p q o1 e1 o' e' (by omega) hp hq hon1 hon'
      rw [show i + (p + 1) = i + 1 + p by omega]; exact this
  cases on with
  | false =>
   have h := h2 rfl
   refine rest ⟨false, false, [], [], b, Iu, []⟩ ds rfl ⟨hg, nofun, fun _ => ⟨rfl, fun _ => rfl, nofun⟩⟩ (fun d hd => hd) nofun ?_
   unfold Eff.app
   simp only [o5]
   exact h
  | true =>
   have h := h1 rfl
   simp only at h
   rcases cD h with ⟨hl, h⟩ | ⟨_, h⟩
   ·obtain ⟨v, h', h, hk⟩ := HU P F D o s.ev _ _ _ _ h
    obtain ⟨hr, h⟩ := au h
    refine rest ⟨true, false, [], [], b, v, []⟩ ds rfl ⟨hg, nofun, fun _ => ⟨rfl, nofun, fun _ => ⟨hl, hr, h', hk⟩⟩⟩ (fun d hd => hd) nofun ?_
    unfold Eff.app
    simp only [o5]
    exact h
   obtain ⟨hc, h⟩ := au h
   simp only [Bool.and_eq_true, List.all_eq_true, Nat.blt_eq] at hc
   obtain ⟨hc1, hc2, hc3⟩ := hc
   obtain ⟨v, h', h, hk⟩ := HU P F D o s.ev _ b _ _ h
   obtain ⟨hcl, h⟩ := au h
   refine rest ⟨true, true, _, _, b, v, h'⟩ _ rfl ⟨hg, fun _ => ⟨rfl, rfl, fun j hj hl => ?_, fun j hj => ?_, hc1, hk, hcl⟩, nofun⟩ (fun d hd => List.mem_cons_of_mem _ hd) (fun _ => ⟨hc3, List.mem_cons_self ..⟩) h
   ·exact List.mem_append.2 (.inr (by rw [List.mem_range'_1]; exact ⟨hj, hl⟩))
   ·rcases List.mem_append.1 hj with hj | hj
    ·exact Nat.lt_of_lt_of_le (hc2 j hj) (Nat.le_add_right _ _)
    ·rw [List.mem_range'_1] at hj; exact hj.2
end Go.Ab
namespace Go.Ab
open Go Go.Dk
theorem gE {a b : List Nat} (h : meets a b = false) {j : Nat} (hj : j ∈ a) : j ∉ b := fun hb => by
 simp only [meets, List.any_eq_false] at h
 exact h j hj (aS.2 hb)
theorem nV {ops : List Oper} {anc : List Nat} {i : Nat} {o : Oper} : ∀ {l : List Oper} {k : Nat}, mv ops anc i o l k = true → ∀ p x, l[p]? = some x → k + p < i → dA (k + p) anc = true ∨ wH ops x o = true
 | [], k, h, p, x, hx, hp => by simp at hx
 | y :: l, k, h, p, x, hx, hp => by
  unfold mv at h
  have : Nat.blt k i = true := by rw [Nat.blt_eq]; omega
  rw [this, cond_true, Bool.and_eq_true, Bool.or_eq_true] at h
  cases p with
  | zero => simp only [List.getElem?_cons_zero, Option.some.injEq] at hx; subst hx; exact h.1
  | succ p =>
   have := nV h.2 p x (by simpa using hx) (by omega)
   rw [show k + (p + 1) = k + 1 + p by omega]; exact this
theorem qx {ops : List Oper} {an : List (List Nat)} : ∀ {l : List Oper} {i : Nat}, xF ops an l i = true → ∀ p o, l[p]? = some o → Hv o = true ∧ Bz an (i + p) o = true ∧ mv ops (an.getD (i + p) []) (i + p) o ops 0 = true
 | [], i, h, p, o, ho => by simp at ho
 | y :: l, i, h, p, o, ho => by
  unfold xF at h
  simp only [Bool.and_eq_true] at h
  cases p with
  | zero => simp only [List.getElem?_cons_zero, Option.some.injEq] at ho; subst ho; exact ⟨h.1, h.2.1, h.2.2.1⟩
  | succ p =>
   have := qx h.2.2.2 p o (by simpa using ho)
   rw [show i + (p + 1) = i + 1 + p by omega]; exact this
theorem rO {an : List (List Nat)} {i : Nat} {o : Oper} (h : Bz an i o = true) : (∀ e ∈ o.after, Region.binds .any e = true → e.on < i) ∧
   ∀ a ∈ an.getD i [], ∃ e ∈ o.after, Region.binds .any e = true ∧ (a = e.on ∨ a ∈ an.getD e.on []) := by
 simp only [Bz, Bool.and_eq_true, List.all_eq_true, List.any_eq_true, Bool.or_eq_true, Nat.beq_eq, aS] at h
 refine ⟨fun e he hb => ?_, fun a ha => ?_⟩
 ·have := h.1 e (by simpa using he)
  rw [hb, cond_true, Nat.blt_eq] at this; exact this
 ·obtain ⟨e, he, hb, hh⟩ := h.2 a ha
  exact ⟨e, by simpa using he, hb, hh⟩
theorem rX {ops : List Oper} {x y : Oper} (h : wH ops x y = true) : (∀ d, x.dst = some d → d ∉ nR ops y) ∧ (∀ d, x.dst = some d → y.dst ≠ some d) ∧ (∀ d, y.dst = some d → d ∉ nR ops x) := by
 simp only [wH, Bool.and_eq_true, Bool.not_eq_true'] at h
 refine ⟨fun d hd => gE h.1 (by simp [H2, hd]), fun d hd he => ?_, fun d hd => gE h.2.2 (by simp [H2, hd])⟩
 exact gE h.2.1 (j := d) (by simp [H2, hd]) (by simp [H2, he])
theorem qv {P : Program} {D : Dec} : ∀ {l : List Oper} {p : Nat} {o : Oper}, l[p]? = some o → ∀ q, p < q → room P D (l.take p) + gZ P D o ≤ room P D (l.take q)
 | [], p, o, h, q, hq => by simp at h
 | x :: l, 0, o, h, q + 1, hq => by
  simp only [List.getElem?_cons_zero, Option.some.injEq] at h; subst h
  simp only [List.take_zero, room, List.take_succ_cons]; omega
 | x :: l, p + 1, o, h, q + 1, hq => by
  have := qv (P := P) (D := D) (l := l) (p := p) (by simpa using h) q (by omega)
  simp only [List.take_succ_cons, room]; omega
theorem room_le {P : Program} {D : Dec} : ∀ {l : List Oper} {p : Nat} {o : Oper}, l[p]? = some o → room P D (l.take p) + gZ P D o ≤ room P D l
 | l, p, o, h => by
  have hp : p < l.length := by
   rcases Nat.lt_or_ge p l.length with h' | h'
   ·exact h'
   ·rw [List.getElem?_eq_none h'] at h; cases h
  have := qv (P := P) (D := D) h l.length hp
  rwa [List.take_length] at this
theorem KP {P : Program} {D : Dec} {o : Oper} {fp : List Nat} {b : Nat} (h : ∀ j, b ≤ j → j < b + gZ P D o → j ∈ fp) : ∀ j ∈ writes o fp b (gZ P D o), j ∈ fp := by
 intro j hj
 unfold writes at hj
 rcases List.mem_append.1 hj with hj | hj
 ·split at hj
  ·exact hj
  ·exact hj
  ·exact hj
  ·split at hj
   ·exact hj
   ·cases hj
   ·exact hj
  ·cases hj
 ·rw [List.mem_range'_1] at hj; exact h j hj.1 hj.2
theorem GV {P : Program} {D : Dec} {o : Oper} {fp : List Nat} {b j : Nat} (h1 : b ≤ j) (h2 : j < b + gZ P D o) : j ∈ writes o fp b (gZ P D o) :=
 List.mem_append.2 (.inr (by rw [List.mem_range'_1]; exact ⟨h1, h2⟩))
section
variable {P : Program} {F : Callee} {D : Dec} {w0 : World} {M Z0 : bx} {ops : List Oper} {an : List (List Nat)} {k : AS → OR} {r : List V1 × List av} {s0 : AS} {es : List Eff} {b0 : Nat} {G0 : List GO} {Q : Exit → Act → World → Prop}
structure Trace (P : Program) (F : Callee) (D : Dec) (ops : List Oper) (an : List (List Nat)) (b0 : Nat) (s0 : AS) (es : List Eff) : Prop where
 len : es.length = ops.length
 step : ∀ p o e, (ops.zip es)[p]? = some (o, e) → e.b = b0 + room P D (ops.take p) ∧ AU P F D ops o e (di (ops.zip es) 0 (fun q => Nat.blt q p) s0)
 ok : ∀ p q o e o' e', p < q → (ops.zip es)[p]? = some (o, e) → (ops.zip es)[q]? = some (o', e') → e.on = true → e'.on = true → ml (an.getD q []) e'.fp e'.wr ⟨p, e.fp, e.wr⟩ = true
structure KN (P : Program) (D : Dec) (w0 : World) (M Z0 : bx) (ops : List Oper) (an : List (List Nat)) (s0 : AS) (es : List Eff) (G0 : List GO) (L : Nat → Bool) (G : List GO) (tv : List Value) (w : World) : Prop where
 st : St w0 M Z0 (a0 (di (ops.zip es) 0 L s0).heap G) (FZ (di (ops.zip es) 0 L s0) G tv) w
 mz : ∀ k, M k → Z0 k
 fresh : ∀ p o e, (ops.zip es)[p]? = some (o, e) → e.on = true → L p = false → ∀ j, e.b ≤ j → j < e.b + gZ P D o → G[j]? = some .fresh
 down : ∀ p, L p = true → ∀ a ∈ an.getD p [], L a = true
 up : Up G0 G
theorem FX {p : Nat} {o : Oper} {e : Eff} (h : (ops.zip es)[p]? = some (o, e)) : ops[p]? = some o ∧ es[p]? = some e := by
 rw [List.getElem?_zip_eq_some] at h; exact h
theorem GG (hl : es.length = ops.length) {p : Nat} {o : Oper} (h : ops[p]? = some o) : ∃ e, (ops.zip es)[p]? = some (o, e) := by
 have hp : p < es.length := by
  rw [hl]
  rcases Nat.lt_or_ge p ops.length with h' | h'
  ·exact h'
  ·rw [List.getElem?_eq_none h'] at h; cases h
 exact ⟨es[p], by rw [List.getElem?_zip_eq_some]; exact ⟨h, List.getElem?_eq_getElem hp⟩⟩
theorem KN.step (hF : eD P F) (hib : ∀ f, D.ib f = true → l7 P f) (hd : xF ops an ops 0 = true) (ht : Trace P F D ops an b0 s0 es) (hroom : b0 + room P D ops ≤ s0.heap.length)
   {L : Nat → Bool} {G : List GO} {tv : List Value} {w : World} (hh : KN P D w0 M Z0 ops an s0 es G0 L G tv w) {i : Nat} {o : Oper} (hi : ops[i]? = some o) (hL : L i = false) (hanc : ∀ e ∈ o.after, Region.binds .any e = true → L e.on = true) :
   wpOp P ops.toArray Q i (fun a' w' => ∃ G' tv', a' = ⟨tv'.toArray, []⟩ ∧ KN P D w0 M Z0 ops an s0 es G0 (fun q => L q || Nat.beq q i) G' tv' w') ⟨tv.toArray, []⟩ w := by
 obtain ⟨e, he⟩ := GG ht.len hi
 obtain ⟨heb, hguard, hon, hoff⟩ := ht.step i o e he
 have hstat := fun p x (hp : ops[p]? = some x) => by have := qx hd p x hp; rw [Nat.zero_add] at this; exact this
 have hancL : ∀ a ∈ an.getD i [], L a = true := by
  intro a ha
  obtain ⟨ed, hed, hb, h⟩ := (rO (hstat i o hi).2.1).2 a ha
  rcases h with rfl | h
  ·exact hanc ed hed hb
  ·exact hh.down _ (hanc ed hed hb) a h
 -- two of them, one ahead of the other in the text
 have hpair : ∀ (p q : Nat) (x y : Oper), p < q → ops[p]? = some x → ops[q]? = some y → p ∈ an.getD q [] ∨ wH ops x y = true := by
  intro p q x y hpq hp hq
  have := nV (hstat q y hq).2.2 p x hp (by omega)
  rw [Nat.zero_add] at this
  exact this.imp aS.1 id
 have hwrOff : ∀ (p : Nat) (x : Oper) (y : Eff), (ops.zip es)[p]? = some (x, y) → y.on = false → y.wr = [] := fun p x y hp hy => ((ht.step p x y hp).2.2.2 hy).1
 have hwrfp : ∀ (p : Nat) (x : Oper) (y : Eff), (ops.zip es)[p]? = some (x, y) → y.on = true → ∀ j ∈ y.wr, j ∈ y.fp := by
  intro p x y hp hy
  obtain ⟨_, c1, c2, _⟩ := (ht.step p x y hp).2.2.1 hy
  rw [c1]; exact KP c2
 -- whom it does not meet
 have hfar : ∀ (p : Nat) (x : Oper) (y : Eff), (ops.zip es)[p]? = some (x, y) → p ≠ i → L p = decide (i < p) →
    (∀ d, x.dst = some d → d ∉ nR ops o) ∧ (∀ d, o.dst = some d → x.dst ≠ some d) ∧ (y.on = true → e.on = true → (∀ j ∈ y.wr, j ∉ e.fp) ∧ ∀ j ∈ e.wr, j ∉ y.fp) := by
  intro p x y hp hne hLp
  obtain ⟨hpo, _⟩ := FX hp
  rcases Nat.lt_or_gt_of_ne hne with hlt | hgt
  ·have hLf : L p = false := by rw [hLp]; simp; omega
   have hna : p ∉ an.getD i [] := fun ha => by rw [hancL p ha] at hLf; cases hLf
   have hap := rX ((hpair p i x o hlt hpo hi).resolve_left hna)
   refine ⟨hap.1, fun d hd hx => hap.2.1 d hx hd, fun h1 h2 => ?_⟩
   have := ht.ok p i x y o e hlt hp he h1 h2
   simp only [ml, Bool.or_eq_true, Bool.and_eq_true, Bool.not_eq_true'] at this
   obtain ⟨c1, c2⟩ := this.resolve_left fun hm => hna (aS.1 hm)
   exact ⟨fun j hj => gE c1 hj, fun j hj => gE c2 hj⟩
  ·have hLt : L p = true := by rw [hLp]; simp; omega
   have hna : i ∉ an.getD p [] := fun ha => by rw [hh.down p hLt i ha] at hL; cases hL
   have hap := rX ((hpair i p o x hgt hi hpo).resolve_left hna)
   refine ⟨hap.2.2, hap.2.1, fun h1 h2 => ?_⟩
   have := ht.ok i p o e x y hgt he hp h2 h1
   simp only [ml, Bool.or_eq_true, Bool.and_eq_true, Bool.not_eq_true'] at this
   obtain ⟨c1, c2⟩ := this.resolve_left fun hm => hna (aS.1 hm)
   exact ⟨fun j hj => gE c2 hj, fun j hj => gE c1 hj⟩
 have hdiff : ∀ (p : Nat) (x : Oper) (y : Eff), (ops.zip es)[p]? = some (x, y) → Nat.blt p i ≠ L p → p ≠ i ∧ L p = decide (i < p) := by
  intro p x y hp hne
  have hpi : p ≠ i := fun h => by
   subst h
   apply hne; rw [hL]
   cases hb : Nat.blt p p with | false => rfl | true => rw [Nat.blt_eq] at hb; omega
  refine ⟨hpi, ?_⟩
  rcases Nat.lt_or_gt_of_ne hpi with hlt | hgt
  ·have : Nat.blt p i = true := by rw [Nat.blt_eq]; exact hlt
   rw [this] at hne
   have : L p = false := by cases hLp : L p with | false => rfl | true => exact absurd hLp.symm hne
   rw [this]; symm; simp; omega
  ·have : Nat.blt p i = false := by cases hb : Nat.blt p i with | false => rfl | true => rw [Nat.blt_eq] at hb; omega
   rw [this] at hne
   have : L p = true := by cases hLp : L p with | true => rfl | false => exact absurd hLp.symm hne
   rw [this]; symm; simp; omega
 generalize hS : di (ops.zip es) 0 L s0 = S
 generalize hT : di (ops.zip es) 0 (fun q => Nat.blt q i) s0 = T at hguard hon hoff
 have hst := hh.st
 rw [hS] at hst
 have hlenS : S.heap.length = s0.heap.length := by rw [← hS]; exact qa
 have hlenT : T.heap.length = s0.heap.length := by rw [← hT]; exact qa
 have htm : ∀ t ∈ nR ops o, T.tmps[t]? = S.tmps[t]? := by
  intro t htl
  rw [← hS, ← hT]
  refine rH rfl fun q x hx hne hd => ?_
  rw [Nat.zero_add] at hne
  obtain ⟨h1, h2⟩ := hdiff q x.1 x.2 hx hne
  exact (hfar q x.1 x.2 hx h1 h2).1 t hd htl
 have hheap : e.on = true → ∀ j ∈ e.fp, T.heap[j]? = S.heap[j]? := by
  intro hone j hj
  rw [← hS, ← hT]
  refine sJ rfl fun q x hx hne hw => ?_
  rw [Nat.zero_add] at hne
  obtain ⟨h1, h2⟩ := hdiff q x.1 x.2 hx hne
  cases hxo : x.2.on with
  | false => rw [hwrOff q x.1 x.2 hx hxo] at hw; cases hw
  | true => exact ((hfar q x.1 x.2 hx h1 h2).2.2 hxo hone).1 j hw hj
 have hadd : di (ops.zip es) 0 (fun q => L q || Nat.beq q i) s0 = e.app o.dst S := by
  have := vS (L := L) (l := ops.zip es) (i := 0) (p := i) (s := s0) he (by rw [Nat.zero_add]; exact hL) (fun q x hq hx hLq => by
   rw [Nat.zero_add] at hLq
   have h2 := hfar q x.1 x.2 hx (by omega) (by rw [hLq]; symm; simpa using hq)
   refine ⟨h2.2.1, fun j hj hj' => ?_⟩
   cases hxo : x.2.on with
   | false => rw [hwrOff q x.1 x.2 hx hxo] at hj'; cases hj'
   | true => cases heo : e.on with
    | false => rw [hwrOff i o e he heo] at hj; cases hj
    | true => exact (h2.2.2 hxo heo).2 j hj (hwrfp q x.1 x.2 hx hxo j hj'))
  rw [hS] at this
  rw [← this]
  simp only [Nat.zero_add]
 have hdown : ∀ p, (fun q => L q || Nat.beq q i) p = true → ∀ a ∈ an.getD p [], (fun q => L q || Nat.beq q i) a = true := by
  intro p hp a ha
  simp only [Bool.or_eq_true, Nat.beq_eq] at hp ⊢
  rcases hp with hp | rfl
  ·exact .inl (hh.down p hp a ha)
  ·exact .inl (hancL a ha)
 -- is it carried out?
 have hwant : Region.wanted o (yielded ops.toArray tv.toArray) = e.want := by
  unfold Guard at hguard
  split at hguard
  ·rename_i hg; rw [hguard]; simp [Region.wanted, hg]
  ·rename_i j want hg
   obtain ⟨d, hdd, hguard⟩ := hguard
   have hdS : ∀ v, T.tmps[d]? = some v → S.tmps[d]? = some v := fun v hv => by
    rw [← htm d ?_]; exact hv
    unfold nR
    refine List.mem_append.2 (.inr ?_)
    simp [hg, hdd]
   have hd' : (ops.toArray[j]?).bind (·.dst) = some d := by simpa using hdd
   rcases hguard with ⟨bb, hdt, hon'⟩ | ⟨hdt, hon'⟩
   ·obtain ⟨X, hX, hr⟩ := hst.per.1.get (hdS _ hdt)
    have hX' := dq hr
    subst hX'
    have hy : yielded ops.toArray tv.toArray j = some bb := by
     simp only [yielded, hd', Option.bind_some]
     have : tv.toArray[d]? = some (.bool bb) := by simpa using hX
     rw [this]
    rw [hon']
    simp only [Region.wanted, hg, hy]; rfl
   ·obtain ⟨X, hX, xs, hXe, hr⟩ := hst.per.1.get (hdS _ hdt)
    obtain rfl := hr.a7
    subst hXe
    have hy : yielded ops.toArray tv.toArray j = none := by
     simp only [yielded, hd', Option.bind_some]
     have : tv.toArray[d]? = some (.tuple #[]) := by simpa using hX
     rw [this]
    rw [hon']
    simp only [Region.wanted, hg, hy]; rfl
 unfold wpOp
 have hi' : ops.toArray[i]? = some o := by simpa using hi
 rw [hi']
 simp only [hwant]
 have hevx : ∀ x ∈ o.op.operands, T.ev x = S.ev x := by
  intro x hx
  cases x with
  | tmp t =>
   show T.tmps.getD t aa = S.tmps.getD t aa
   have : t ∈ nR ops o := List.mem_append.2 (.inl (z3.2 hx))
   simp only [List.getD, htm t this]
  | _ => rfl
 have hrefs : refsOf S o = refsOf T o := by
  unfold refsOf
  simp only [List.flatMap_def]
  congr 1
  refine List.map_congr_left fun x hx => ?_
  rw [hevx x (by simpa using hx)]
 cases heo : e.on with
 | false =>
  obtain ⟨c1, c2, c3⟩ := hoff heo
  have happ : e.app o.dst S = S.put o.dst e.v := by unfold Eff.app; rw [c1, o5]
  have hp : ∀ d : Option Tmp, (S.put d e.v).heap = S.heap := fun d => iX _ _ _
  cases hwn : e.want with
  | false =>
   simp only [Bool.false_eq_true, if_false]
   refine ⟨G, GD tv o.dst undef, by rw [pj]; cases o.dst <;> rfl, ?_⟩
   refine ⟨?_, hh.mz, ?_, hdown, hh.up⟩
   ·rw [hadd, happ, hp]
    refine hst.kW (aY _ _ _) fun q => ⟨?_, by rw [hp]; exact q.2⟩
    have := Du q.1 o.dst (v := e.v) (X := undef) (fun _ _ _ => by rw [c2 hwn]; exact Fu) S.heap
    exact this
   ·intro p x y hp hy hLp j h1 h2
    simp only [Bool.or_eq_false_iff] at hLp
    exact hh.fresh p x y hp hy hLp.1 j h1 h2
  | true =>
   simp only [if_true]
   obtain ⟨hl, hrf, h', hlev⟩ := c3 hwn
   refine .inl (Oper.wp_mono (fun a' w' hst' => ?_) (EU (Q := Q) (v := e.v) (h' := h') hF hib hst hh.mz hl (fun k' => by rw [← mM hevx]; exact hlev k') (by rw [hrefs]; exact hrf)))
   obtain ⟨G', tv', ha, hst', hfr, hup⟩ := hst'
   refine ⟨G', tv', ha, ?_, hh.mz, ?_, hdown, hh.up.trans hup⟩
   ·rw [hadd, happ, hp]; exact hst'
   ·intro p x y hp hy hLp j h1 h2
    simp only [Bool.or_eq_false_iff] at hLp
    exact hfr j (hh.fresh p x y hp hy hLp.1 j h1 h2)
 | true =>
  obtain ⟨hwn, c1, c2, c3, c4, c5, c6⟩ := hon heo
  rw [hwn]
  simp only [if_true]
  have hcl : oh S.heap e.fp (refsOf S o) = true := by
   rw [hrefs]
   obtain ⟨d1, d2⟩ := pO c4
   simp only [oh, Bool.and_eq_true, List.all_eq_true, aS]
   exact ⟨d1, fun j hj i hi => d2 j hj i (by rw [hheap heo j hj]; exact hi)⟩
  have honly : eK e.fp 0 T.heap = eK e.fp 0 S.heap := by
   refine List.ext_getElem? fun j => ?_
   rw [iN, iN, Nat.zero_add]
   cases hj : dA j e.fp with
   | true => rw [hheap heo j (aS.1 hj)]
   | false =>
    rcases Nat.lt_or_ge j s0.heap.length with hlt | hge
    ·rw [List.getElem?_eq_getElem (by rw [hlenT]; exact hlt), List.getElem?_eq_getElem (by rw [hlenS]; exact hlt)]; rfl
    ·rw [List.getElem?_eq_none (by rw [hlenT]; exact hge), List.getElem?_eq_none (by rw [hlenS]; exact hge)]
  have hev : ∀ k', qG P F D o S.ev (eK e.fp 0 S.heap) e.b k' = k' e.v e.h := by
   intro k'
   rw [← honly, ← mM hevx]; exact c5 k'
  have hbl : e.b + gZ P D o ≤ S.heap.length := by
   rw [hlenS, heb]
   have := room_le (P := P) (D := D) hi
   omega
  refine .inl (Oper.wp_mono (fun a' w' hst' => ?_) (qA (Q := Q) hF hib hst hh.mz (hh.fresh i o e he heo hL) hbl c3 hcl hev c6))
  obtain ⟨G', tv', ha, hst', hout, hup⟩ := hst'
  refine ⟨G', tv', ha, ?_, hh.mz, ?_, hdown, hh.up.trans hup⟩
  ·rw [hadd]
   have hmix : kl e.fp 0 S.heap e.h = kl e.wr 0 S.heap e.h := by
    refine List.ext_getElem? fun j => ?_
    rw [mD, mD, Nat.zero_add]
    cases h1 : dA j e.fp with
    | false =>
     have : dA j e.wr = false := by
      cases h2 : dA j e.wr with
      | false => rfl
      | true => rw [aS.2 (hwrfp i o e he heo j (aS.1 h2))] at h1; cases h1
     rw [this]
    | true =>
     cases h2 : dA j e.wr with
     | true => rfl
     | false =>
      rw [c1] at h2
      have := Ci hev h1 h2
      rw [this, iN, Nat.zero_add, h1]
      cases S.heap[j]? <;> rfl
   rw [hmix] at hst'
   unfold Eff.app
   rw [iX]
   exact hst'
  ·intro p x y hp hy hLp j h1 h2
   simp only [Bool.or_eq_false_iff] at hLp
   have hpi : p ≠ i := fun h => by rw [h] at hLp; simp at hLp
   have hjf : dA j e.fp = false := by
    cases hj : dA j e.fp with
    | false => rfl
    | true =>
     have hj := aS.1 hj
     rcases Nat.lt_or_gt_of_ne hpi with hlt | hgt
     ·have hw : j ∈ y.wr := by rw [((ht.step p x y hp).2.2.1 hy).2.1]; exact GV h1 h2
      have hLd : L p = decide (i < p) := by rw [hLp.1]; symm; simp; omega
      exact absurd hj (((hfar p x y hp hpi hLd).2.2 hy heo).1 j hw)
     ·have a1 := c3 j hj
      have a2 := (ht.step p x y hp).1
      have a3 := qv (P := P) (D := D) hi p hgt
      omega
   rw [hout j hjf]
   exact hh.fresh p x y hp hy hLp.1 j h1 h2
end
end Go.Ab
namespace Go.Ab
open Go Go.Dk
section
variable {P : Program} {F : Callee} {D : Dec} {w0 : World} {M Z0 : bx} {ops : List Oper} {an : List (List Nat)} {s0 : AS} {es : List Eff} {b0 : Nat} {G0 : List GO} {Q : Exit → Act → World → Prop}
theorem BZ (hd : xF ops an ops 0 = true) {listed : Array Bool} (hs : listed.size = ops.length) (hr : Region.ready .any ops.toArray listed = []) : ∀ i, i < ops.length → listed.getD i false = true := by
 intro i
 induction i using Nat.strongRecOn with
 | ind i ih =>
  intro hi
  cases hL : listed.getD i false with
  | true => rfl
  | false =>
   exfalso
   have hmem : i ∈ Region.ready .any ops.toArray listed := by
    rw [mem_ready]
    refine ⟨?_, ops[i], by simp [hi], fun e he hb => ?_⟩
    ·have hlt : i < listed.size := by omega
     simp only [Array.getD_eq_getD_getElem?, Array.getElem?_eq_getElem hlt, Option.getD_some] at hL ⊢; exact hL
    ·have hst := qx hd i ops[i] (List.getElem?_eq_getElem hi)
     have := (rO hst.2.1).1 e he hb
     rw [Nat.zero_add] at this
     exact ih e.on this (by omega)
   rw [hr] at hmem; cases hmem
theorem BD (hF : eD P F) (hib : ∀ f, D.ib f = true → l7 P f) (hd : xF ops an ops 0 = true) (ht : Trace P F D ops an b0 s0 es) (hroom : b0 + room P D ops ≤ s0.heap.length)
   (hQ : ∀ (L : Nat → Bool) G tv w, (∀ i, i < ops.length → L i = true) → KN P D w0 M Z0 ops an s0 es G0 L G tv w → Q .normal ⟨tv.toArray, []⟩ w) :
   ∀ (fuel : Nat) (listed : Array Bool) G tv w, listed.size = ops.length → listed.toList.count false ≤ fuel → KN P D w0 M Z0 ops an s0 es G0 (fun q => listed.getD q false) G tv w →
    wpAny P .any ops.toArray Q fuel listed ⟨tv.toArray, []⟩ w
 | 0, listed, G, tv, w, hs, hc, hh => by
  have hall : ∀ i, i < ops.length → listed.getD i false = true := by
   intro i hi
   have hlt : i < listed.size := by omega
   have : false ∉ listed.toList := List.count_eq_zero.1 (by omega)
   simp only [Array.getD_eq_getD_getElem?, Array.getElem?_eq_getElem hlt, Option.getD_some]
   cases hb : listed[i] with
   | true => rfl
   | false => exact absurd (by rw [← hb]; simp) this
  refine ⟨?_, hQ _ G tv w hall hh⟩
  cases hr : Region.ready .any ops.toArray listed with
  | nil => rfl
  | cons i l =>
   have hm : i ∈ Region.ready .any ops.toArray listed := by rw [hr]; exact List.mem_cons_self ..
   obtain ⟨h1, o, ho, _⟩ := mem_ready.1 hm
   have hi : i < ops.length := by
    have := (Array.getElem?_eq_some_iff.1 ho).1; simpa using this
   have h2 := hall i hi
   have hlt : i < listed.size := by omega
   simp only [Array.getD_eq_getD_getElem?, Array.getElem?_eq_getElem hlt, Option.getD_some] at h1 h2
   rw [h1] at h2; cases h2
 | fuel + 1, listed, G, tv, w, hs, hc, hh => by
  refine ⟨fun hr => hQ _ G tv w (BZ hd hs hr) hh, fun i hi => ?_⟩
  obtain ⟨h1, o, ho, h2⟩ := mem_ready.1 hi
  have hil : i < ops.length := by have := (Array.getElem?_eq_some_iff.1 ho).1; simpa using this
  have hlt : i < listed.size := by omega
  have hLi : listed.getD i false = false := by
   simp only [Array.getD_eq_getD_getElem?, Array.getElem?_eq_getElem hlt, Option.getD_some] at h1 ⊢; exact h1
  refine wpOp_mono (fun a' w' hh' => ?_) (hh.step (Q := Q) hF hib hd ht hroom (i := i) (o := o) (by simpa using ho) hLi h2)
  obtain ⟨G', tv', ha, hh'⟩ := hh'
  subst ha
  refine BD hF hib hd ht hroom hQ fuel _ G' tv' w' (by simpa using hs) ?_ ?_
  ·have hlt' : i < listed.toList.length := by simpa using hlt
   have h3 : listed[i] = false := by
    simp only [Array.getD_eq_getD_getElem?, Array.getElem?_eq_getElem hlt, Option.getD_some] at hLi; exact hLi
   rw [Array.toList_setIfInBounds, List.count_set hlt']
   have h4 : listed.toList[i] = false := by simpa using h3
   rw [h4]
   show List.count false listed.toList - 1 + 0 ≤ fuel
   omega
  ·have : (fun q => (listed.setIfInBounds i true).getD q false) = fun q => listed.getD q false || Nat.beq q i := by
     funext q
     by_cases hq : q = i
     ·subst hq
      simp [hlt]
     ·have hb : Nat.beq q i = false := by cases hb : Nat.beq q i with | false => rfl | true => simp only [Nat.beq_eq] at hb; exact absurd hb hq
      rw [_root_.Go.getD_set_ne false (Ne.symm hq), hb, Bool.or_false]
   rw [this]; exact hh'
end
theorem _root_.Go.Dk.St.drawn {w0 w : World} {M Z0 : bx} {L : List Res} {φ : Fact} (h : St w0 M Z0 L φ w) (n : Nat) : St w0 M Z0 L φ { w with drawn := n } :=
 ⟨⟨h.ext.os, h.ext.tape, h.ext.output, h.ext.size, h.ext.block⟩, fun q hq => h.loc q hq w _ (fun _ _ => rfl) (h.own q hq), h.loc, h.key, h.dis, h.stab, h.stab _ _ w _ (fun b hz _ => ⟨hz, rfl⟩) h.per⟩
theorem KZ {P : Program} [hm : DrM P] {F : Callee} {D : Dec} (hib : ∀ f, D.ib f = true → l7 P f) (hF : eD P F) : Dm P F D := by
 intro w0 M Z0 G s tv w ops id k r Q hI hd h hQ
 obtain ⟨es, h1, h2, h3, _, h5⟩ := rT h
 refine wp_region_any hm.out ?_
 have hlen : ops.toArray.size = ops.length := by simp
 have hg := hI.grow (room P D ops)
 have ht : Trace P F D ops (JI ops []) s.heap.length (grow (room P D ops) s) es := by
  refine ⟨h1, fun p o e hp => ?_, fun p q o e o' e' hpq hp hq a c => ?_⟩
  ·have := h3 p o e hp; simp only [Nat.zero_add] at this; exact this
  ·have := h5 p q o e o' e' hpq hp hq a c; simp only [Nat.zero_add] at this; exact this
 have hrep : (fun q => (Array.replicate ops.toArray.size false).getD q false) = fun _ => false := by
  funext q
  simp only [Array.getD_eq_getD_getElem?, Array.getElem?_replicate]
  split <;> rfl
 refine BD (w0 := w0) (M := M) (Z0 := Z0) (G0 := G ++ List.replicate (room P D ops) .fresh) hF hib hd ht (by simp [grow]) ?_ ops.toArray.size _ (G ++ List.replicate (room P D ops) .fresh) tv _ (by simp) (by simp) ?_
 ·intro L G' tv' w' hL hh
  have he : di (ops.zip es) 0 L (grow (room P D ops) s) = di (ops.zip es) 0 (fun _ => true) (grow (room P D ops) s) :=
   kK fun q _ hq => by
    refine hL q ?_
    have : (ops.zip es).length ≤ ops.length := by rw [List.length_zip]; omega
    omega
  have hst := hh.st
  rw [he] at hst
  refine hQ _ G' tv' w' h2 ⟨hst, fun j hj hl => ?_, hh.mz⟩ ((Up.append _ _).trans hh.up).kW
  rw [hst.per.2.1] at hj; omega
 ·rw [hrep]
  have hs : di (ops.zip es) 0 (fun _ => false) (grow (room P D ops) s) = grow (room P D ops) s := nd fun _ _ => rfl
  refine ⟨by rw [hs]; exact hg.st.drawn _, hg.mz, fun p o e hp _ _ j hj hl => ?_, nofun, Up.refl _⟩
  refine hg.fresh j ?_ ?_
  ·have := (ht.step p o e hp).1; omega
  ·have a1 := (ht.step p o e hp).1
   have a2 := room_le (P := P) (D := D) (FX hp).1
   have a3 := hI.len
   simp only [List.length_append, List.length_replicate]
   omega
theorem FP {P : Program} [hm : DrM P] {S : Say} (hp : tf P S) (hib : ∀ f, S.D.ib f = true → l7 P f) (n : Nat) : eD P (evF P S n) :=
 xq hp hib (fun F hF => KZ hib hF) n
end Go.Ab
end
section
namespace Go.Ab
open Go Go.Dk
def bytesOf (l : List UInt8) : ByteArray := ⟨l.toArray⟩
noncomputable def spot (E : Env) : List Nat → List Nat → Nat → Code → Aa → Option (Nat × Code × Aa)
 | [], _, i, c, k => some (i, c, k)
 | 0 :: p, cs, i, .seq a b, k => spot E p cs i a (Kn E (evC E i b) k)
 | 1 :: p, cs, i, .seq _ b, k => spot E p cs i b k
 | 0 :: p, cs, i, .cond _ a _, k => spot E p cs i a k
 | 1 :: p, cs, i, .cond _ _ b, k => spot E p cs i b k
 | 0 :: p, cs, _, .block id b, k => spot E p cs id b (DA id k)
 | 9 :: p, c :: cs, i, .loop b, k => spot E p cs i b fun e s => match e with
    | .normal => evL (evC E i b) (n6 E.m (E.live i)) c (n6 E.m (E.live i) s) k
    | e => k e s
 | _, _, _, _, _ => none
noncomputable def aR (P : Program) (S : Say) (n : Nat) (f : FuncId) (m : Nat) (p cs : List Nat) (c : Nat) (s : AS) : OR :=
 match P.funcs[f]? with
 | some fn => (match fn.body with
  | some b => (match spot ⟨P, evF P S n, S.D, n, m, S.live f⟩ p cs 0 b (Mz P (S.D.own f) fn m) with
   | some (i, .loop b, k) => evL (evC ⟨P, evF P S n, S.D, n, m, S.live f⟩ i b) (n6 m (S.live f i)) c s k
   | _ => none)
  | none => none)
 | none => none
end Go.Ab
end
section
namespace Go.Proofs.YtajlknlnmmbfcaaGreat
open Go Go.Ab Go.Dk
def live : FuncId → Nat → Option (List Nat)
 | 6, 0 => some [3, 5]
 | 33, 0 => some [4, 5]
 | 34, 0 => some [4, 6, 19, 20, 21]
 | 36, 2 => some [0, 22, 23, 24]
 | 36, 0 => some [0, 12, 13, 14]
 | 37, 0 => some [0, 3]
 | 49, 0 => some [0, 3, 4, 5, 6]
 | 50, 3 => some [0, 5, 7, 8]
 | 50, 0 => some [0, 1, 5, 7, 8, 9]
 | 51, 0 => some [1, 2, 3, 6]
 | 52, 0 => some [1, 2, 15, 16, 17]
 | 58, 0 => some [2, 3, 12, 13, 14]
 | 62, 0 => some [12, 13, 14]
 | 63, 0 => some [0, 1, 6, 8, 9]
 | 64, 0 => some [0, 3]
 | 67, 0 => some [0, 1, 6, 7, 8]
 | 76, 0 => some [1, 2, 3, 6, 9]
 | 83, 0 => some [1, 2, 3, 6, 7, 8]
 | 89, 0 => some [0, 3, 4]
 | 90, 0 => some [1, 2, 3, 4]
 | 91, 0 => some [1, 3, 5, 6, 7, 8]
 | 101, 0 => some [1, 2, 41, 42, 43]
 | 102, 0 => some [1, 2, 3, 24, 25, 26]
 | 105, 0 => some [1, 2, 5]
 | 106, 0 => some [1, 2, 5, 6]
 | 109, 0 => some [1, 2, 3, 6, 7, 24, 25, 26]
 | 78, 0 => some [1, 9, 10, 11]
 | 113, 0 => some [0, 1, 4, 5, 6, 7]
 | 117, 0 => some [1, 2, 4, 6]
 | 118, 0 => some [0, 1, 7, 8]
 | 132, 0 => some [1, 2, 4, 5, 6]
 | 140, 0 => some [1, 2, 4]
 | 150, 0 => some [2, 4, 7, 8, 9]
 | 168, 0 => some [1, 3, 4, 6, 8, 9, 10]
 | 172, 0 => some [2, 3, 5]
 | 173, 0 => some [0, 1, 2, 8]
 | 180, 0 => some [0, 4, 5, 6]
 | 181, 0 => some [0, 1, 2, 3, 4, 12, 13]
 | 182, 0 => some [0, 3]
 | 183, 0 => some [0, 3, 4]
 | _, _ => none
def MM (f : FuncId) : Bool := dA f [90, 160]
def ibF (f : FuncId) : Bool := false
noncomputable def SS : Say := ⟨⟨MM, ibF⟩, live, fun _ => none⟩
noncomputable def FF := evF Tryz.prog SS
end Go.Proofs.YtajlknlnmmbfcaaGreat
end
section
namespace Go.Proofs.YtajlknlnmmbfcaaGreat
open Go Go.Ab Go.Dk
theorem kv (n : Nat) (v0 : List UInt8) : FF (n + 1) 19 [.one (.fr (.bs v0))] [] =
 ((FF n 48 [.one (.fr (.bs v0))] []).bind fun x0 =>
 (Hq 0 x0.1 fun x1 =>
 (ba x0.2 fun x2 x3 =>
 (bsC x2 fun x4 x5 =>
 (bj .i64 x5 fun x6 x7 =>
 (bh x7
 (ai x1 (aj x3
 ((FF n 49 [.one (.ptr 0 0)] [.cells [.fr (.bs x4), .int .i64 x6]]).bind fun x8 =>
 (ba x8.2 fun x9 x10 =>
 (bsC x9 fun x11 x12 =>
 (bj .i64 x12 fun x13 x14 =>
 (bh x14
 (rTs x8.1 fun x15 x16 =>
 (ah x16 fun x17 x18 =>
 (ai x18 (aj x10
 ((FF n 50 [.one (.ptr 0 0), .one (.fr (.ts x15)), .agg [.int .i64 x17.k, .int .i64 x17.n, .fr (.ts x17.kids)]] [.cells [.fr (.bs x11), .int .i64 x13]]).bind fun x19 =>
 (ba x19.2 fun x20 x21 =>
 (bsC x20 fun x22 x23 =>
 (bj .i64 x23 fun x24 x25 =>
 (bh x25
 (rTs x19.1 fun x26 x27 =>
 (ah x27 fun x28 x29 =>
 (ai x29 (aj x21
 (some ([.one (.fr (.ts x26)), .agg [.int .i64 x28.k, .int .i64 x28.n, .fr (.ts x28.kids)]], [])))))))))))))))))))))))))))) := by kernel_rfl
theorem mh (n : Nat) (v0 : List T) (v1 v2 : Int) (v3 : List T) : FF (n + 1) 20 [.one (.fr (.ts v0)), .agg [.int .i64 v1, .int .i64 v2, .fr (.ts v3)]] [] =
 ((FF n 25 [.one (.fr (.ts v0)), .agg [.int .i64 v1, .int .i64 v2, .fr (.ts v3)]] []).bind fun x0 =>
 (ah x0.1 fun x1 x2 =>
 (aw .i64 x2 fun x3 x4 =>
 (ai x4 (aj x0.2
 (cond (!decide (x3 = 0))
 (some ([.agg [.int .i64 0, .int .i64 0, .fr (.ts [])], .one (.int .i64 x3)], []))
 ((FF n 41 [.agg [.int .i64 x1.k, .int .i64 x1.n, .fr (.ts x1.kids)], .one (.int .i64 200)] []).bind fun x5 =>
 (ah x5.1 fun x6 x7 =>
 (aw .i64 x7 fun x8 x9 =>
 (ai x9 (aj x5.2
 (cond (!decide (x8 = 0))
 (some ([.agg [.int .i64 0, .int .i64 0, .fr (.ts [])], .one (.int .i64 2)], []))
 (some ([.agg [.int .i64 x6.k, .int .i64 x6.n, .fr (.ts x6.kids)], .one (.int .i64 0)], [])))))))))))))) := by kernel_rfl
theorem mn (n : Nat) (v0 : List T) (v1 v2 : Int) (v3 : List T) : FF (n + 1) 21 [.one (.fr (.ts v0)), .agg [.int .i64 v1, .int .i64 v2, .fr (.ts v3)]] [] =
 ((FF n 40 [.one (.fr (.ts v0)), .agg [.int .i64 v1, .int .i64 v2, .fr (.ts v3)]] []).bind fun x0 =>
 (ah x0.1 fun x1 x2 =>
 (aw .i64 x2 fun x3 x4 =>
 (ai x4 (aj x0.2
 (cond (!decide (x3 = 0))
 (some ([.agg [.int .i64 0, .int .i64 0, .fr (.ts [])], .one (.int .i64 x3)], []))
 ((FF n 51 [.agg [.int .i64 x1.k, .int .i64 x1.n, .fr (.ts x1.kids)], .one (.int .i64 200), .one (.bool false)] []).bind fun x5 =>
 (ah x5.1 fun x6 x7 =>
 (aw .i64 x7 fun x8 x9 =>
 (ai x9 (aj x5.2
 (cond (!decide (x8 = 0))
 (some ([.agg [.int .i64 0, .int .i64 0, .fr (.ts [])], .one (.int .i64 2)], []))
 (some ([.agg [.int .i64 x6.k, .int .i64 x6.n, .fr (.ts x6.kids)], .one (.int .i64 0)], [])))))))))))))) := by kernel_rfl
theorem pT (n : Nat) (v0 v1 : Int) (v2 : List T) (v3 v4 : Int) (v5 : List T) : FF (n + 1) 22 [.agg [.int .i64 v0, .int .i64 v1, .fr (.ts v2)], .agg [.int .i64 v3, .int .i64 v4, .fr (.ts v5)]] [] =
 (cond (decide (v0 = v3))
 (cond (decide (v1 = v4))
 ((FF n 52 [.one (.fr (.ts v2)), .one (.fr (.ts v5)), .one (.fn 22 [])] []).bind fun x0 =>
 (ar x0.1 fun x1 x2 =>
 (ai x2 (aj x0.2
 (some ([.one (.bool x1)], []))))))
 (some ([.one (.bool false)], [])))
 (some ([.one (.bool false)], []))) := by kernel_rfl
theorem dO (n : Nat) (v0 : List T) (v1 v2 : Int) (v3 : List T) (v4 v5 : Int) (v6 : List T) : FF (n + 1) 23 [.one (.fr (.ts v0)), .agg [.int .i64 v1, .int .i64 v2, .fr (.ts v3)], .agg [.int .i64 v4, .int .i64 v5, .fr (.ts v6)]] [] =
 ((FF n 53 [.one (.fr (.ts v0)), .one (.fr (.ts [(T.mk v1 v2 v3), (T.mk v4 v5 v6)]))] []).bind fun x0 =>
 (aw .i64 x0.1 fun x1 x2 =>
 (ai x2 (aj x0.2
 (cond (!decide (x1 = 0))
 (some ([.one (.int .i64 x1)], []))
 ((FF n 54 [.one (.fr (.ts v0)), .agg [.int .i64 v4, .int .i64 v5, .fr (.ts v6)]] []).bind fun x3 =>
 (aw .i64 x3.1 fun x4 x5 =>
 (aw .i64 x5 fun x6 x7 =>
 (ai x7 (aj x3.2
 (cond (!decide (x6 = 0))
 (some ([.one (.int .i64 x6)], []))
 ((FF n 55 [.one (.fr (.ts v0)), .agg [.int .i64 v1, .int .i64 v2, .fr (.ts v3)], .agg [.int .i64 v4, .int .i64 v5, .fr (.ts v6)]] []).bind fun x8 =>
 (aw .i64 x8.1 fun x9 x10 =>
 (ai x10 (aj x8.2
 (some ([.one (.int .i64 x9)], []))))))))))))))))) := by kernel_rfl
theorem lZ (n : Nat) (v0 v1 : Int) (v2 : List T) (v3 v4 : Int) (v5 : List T) : FF (n + 1) 24 [.agg [.int .i64 v0, .int .i64 v1, .fr (.ts v2)], .agg [.int .i64 v3, .int .i64 v4, .fr (.ts v5)]] [] =
 ((FF n 56 [.agg [.int .i64 v0, .int .i64 v1, .fr (.ts v2)], .one (.int .i64 0), .agg [.int .i64 v3, .int .i64 v4, .fr (.ts v5)]] []).bind fun x0 =>
 (ah x0.1 fun x1 x2 =>
 (ar x2 fun x3 x4 =>
 (ai x4 (aj x0.2
 (some ([.agg [.int .i64 x1.k, .int .i64 x1.n, .fr (.ts x1.kids)], .one (.bool x3)], []))))))) := by kernel_rfl
theorem dI (n : Nat) (v0 : List T) (v1 v2 : Int) (v3 : List T) : FF (n + 1) 25 [.one (.fr (.ts v0)), .agg [.int .i64 v1, .int .i64 v2, .fr (.ts v3)]] [] =
 ((FF n 53 [.one (.fr (.ts v0)), .one (.fr (.ts [(T.mk v1 v2 v3)]))] []).bind fun x0 =>
 (aw .i64 x0.1 fun x1 x2 =>
 (ai x2 (aj x0.2
 (cond (!decide (x1 = 0))
 (some ([.agg [.int .i64 0, .int .i64 0, .fr (.ts [])], .one (.int .i64 x1)], []))
 ((FF n 57 [.one (.fr (.ts v0)), .agg [.int .i64 v1, .int .i64 v2, .fr (.ts v3)]] []).bind fun x3 =>
 (ah x3.1 fun x4 x5 =>
 (aw .i64 x5 fun x6 x7 =>
 (ai x7 (aj x3.2
 (cond (!decide (x6 = 0))
 (some ([.agg [.int .i64 0, .int .i64 0, .fr (.ts [])], .one (.int .i64 x6)], []))
 ((FF n 58 [.agg [.int .i64 x4.k, .int .i64 x4.n, .fr (.ts x4.kids)]] []).bind fun x8 =>
 (ah x8.1 fun x9 x10 =>
 (ai x10 (aj x8.2
 (some ([.agg [.int .i64 x9.k, .int .i64 x9.n, .fr (.ts x9.kids)], .one (.int .i64 0)], []))))))))))))))))) := by kernel_rfl
theorem mq (n : Nat) (v0 v1 : Int) (v2 : List T) (v3 v4 : Int) (v5 : List T) (v6 : Int) : FF (n + 1) 26 [.agg [.int .i64 v0, .int .i64 v1, .fr (.ts v2)], .agg [.int .i64 v3, .int .i64 v4, .fr (.ts v5)], .one (.int .i64 v6)] [] =
 ((FF n 59 [.agg [.int .i64 v0, .int .i64 v1, .fr (.ts v2)]] []).bind fun x0 =>
 (ar x0.1 fun x1 x2 =>
 (ai x2 (aj x0.2
 (cond (!x1)
 (some ([.one (.int .i64 0)], []))
 ((FF n 59 [.agg [.int .i64 v3, .int .i64 v4, .fr (.ts v5)]] []).bind fun x3 =>
 (ar x3.1 fun x4 x5 =>
 (ai x5 (aj x3.2
 (cond (!x4)
 (some ([.one (.int .i64 0)], []))
 ((FF n 60 [.one (.int .i64 v6), .one (.int .i64 0), .one (.int .i64 200)] []).bind fun x6 =>
 (ar x6.1 fun x7 x8 =>
 (ai x8 (aj x6.2
 (cond (!x7)
 (some ([.one (.int .i64 0)], []))
 ((FF n 22 [.agg [.int .i64 v0, .int .i64 v1, .fr (.ts v2)], .agg [.int .i64 v3, .int .i64 v4, .fr (.ts v5)]] []).bind fun x9 =>
 (ar x9.1 fun x10 x11 =>
 (ai x11 (aj x9.2
 (cond x10
 (some ([.one (.int .i64 1)], []))
 ((FF n 41 [.agg [.int .i64 v0, .int .i64 v1, .fr (.ts v2)], .one (.int .i64 v6)] []).bind fun x12 =>
 (ah x12.1 fun x13 x14 =>
 (aw .i64 x14 fun x15 x16 =>
 (ai x16 (aj x12.2
 ((FF n 41 [.agg [.int .i64 v3, .int .i64 v4, .fr (.ts v5)], .one (.int .i64 v6)] []).bind fun x17 =>
 (ah x17.1 fun x18 x19 =>
 (aw .i64 x19 fun x20 x21 =>
 (ai x21 (aj x17.2
 (cond (!decide (x15 = 0))
 (some ([.one (.int .i64 3)], []))
 (cond (!decide (x20 = 0))
 (some ([.one (.int .i64 3)], []))
 ((FF n 22 [.agg [.int .i64 x13.k, .int .i64 x13.n, .fr (.ts x13.kids)], .agg [.int .i64 x18.k, .int .i64 x18.n, .fr (.ts x18.kids)]] []).bind fun x22 =>
 (ar x22.1 fun x23 x24 =>
 (ai x24 (aj x22.2
 (cond x23
 (some ([.one (.int .i64 1)], []))
 (some ([.one (.int .i64 2)], []))))))))))))))))))))))))))))))))))))))) := by kernel_rfl
theorem jv (n : Nat) (v0 : List UInt8) : FF (n + 1) 27 [.one (.fr (.bs v0))] [] =
 ((FF n 19 [.one (.fr (.bs v0))] []).bind fun x0 =>
 (rTs x0.1 fun x1 x2 =>
 (ah x2 fun x3 x4 =>
 (ai x4 (aj x0.2
 (some ([.one (.fr (.ts x1)), .agg [.int .i64 x3.k, .int .i64 x3.n, .fr (.ts x3.kids)]], []))))))) := by kernel_rfl
theorem rr (n : Nat) (v0 v1 : Int) (v2 : List T) : FF (n + 1) 28 [.agg [.int .i64 v0, .int .i64 v1, .fr (.ts v2)]] [] =
 ((FF n 59 [.agg [.int .i64 v0, .int .i64 v1, .fr (.ts v2)]] []).bind fun x0 =>
 (ar x0.1 fun x1 x2 =>
 (ai x2 (aj x0.2
 (cond (!x1)
 (some ([.one (.int .i64 (-1))], []))
 ((FF n 61 [.agg [.int .i64 v0, .int .i64 v1, .fr (.ts v2)]] []).bind fun x3 =>
 (aw .i64 x3.1 fun x4 x5 =>
 (ai x5 (aj x3.2
 (some ([.one (.int .i64 x4)], []))))))))))) := by kernel_rfl
theorem mX (n : Nat) (v0 v1 : Int) (v2 : List T) : FF (n + 1) 29 [.agg [.int .i64 v0, .int .i64 v1, .fr (.ts v2)]] [] =
 ((FF n 59 [.agg [.int .i64 v0, .int .i64 v1, .fr (.ts v2)]] []).bind fun x0 =>
 (ar x0.1 fun x1 x2 =>
 (ai x2 (aj x0.2
 (cond (!x1)
 (some ([.one (.bool false)], []))
 ((FF n 62 [.agg [.int .i64 v0, .int .i64 v1, .fr (.ts v2)]] []).bind fun x3 =>
 (rIs x3.1 fun x4 x5 =>
 (ar x5 fun x6 x7 =>
 (ai x7 (aj x3.2
 (some ([.one (.bool (!x6))], [])))))))))))) := by kernel_rfl
theorem lS (n : Nat) (v0 : List UInt8) : FF (n + 1) 30 [.one (.fr (.bs v0))] [] =
 ((FF n 19 [.one (.fr (.bs v0))] []).bind fun x0 =>
 (rTs x0.1 fun x1 x2 =>
 (ah x2 fun x3 x4 =>
 (ai x4 (aj x0.2
 (some ([.one (.fr (.ts x1)), .agg [.int .i64 x3.k, .int .i64 x3.n, .fr (.ts x3.kids)]], []))))))) := by kernel_rfl
theorem re (n : Nat) (v0 : List T) (v1 v2 : Int) (v3 : List T) : FF (n + 1) 31 [.one (.fr (.ts v0)), .agg [.int .i64 v1, .int .i64 v2, .fr (.ts v3)]] [] =
 ((FF n 63 [.one (.int .i64 4), .one (.fr (.ts v0)), .agg [.int .i64 v1, .int .i64 v2, .fr (.ts v3)]] []).bind fun x0 =>
 (ah x0.1 fun x1 x2 =>
 (ar x2 fun x3 x4 =>
 (ai x4 (aj x0.2
 (some ([.agg [.int .i64 x1.k, .int .i64 x1.n, .fr (.ts x1.kids)], .one (.bool x3)], []))))))) := by kernel_rfl
theorem qY (n : Nat) (v0 : List T) (v1 v2 : Int) (v3 : List T) : FF (n + 1) 32 [.one (.fr (.ts v0)), .agg [.int .i64 v1, .int .i64 v2, .fr (.ts v3)]] [] =
 ((FF n 64 [.one (.fr (.ts v0))] []).bind fun x0 =>
 (ar x0.1 fun x1 x2 =>
 (ai x2 (aj x0.2
 (cond (!x1)
 (some ([.agg [.int .i64 0, .int .i64 0, .fr (.ts [])], .one (.bool false)], []))
 ((FF n 65 [.agg [.int .i64 v1, .int .i64 v2, .fr (.ts v3)]] []).bind fun x3 =>
 (ar x3.1 fun x4 x5 =>
 (ai x5 (aj x3.2
 (cond (!x4)
 (some ([.agg [.int .i64 0, .int .i64 0, .fr (.ts [])], .one (.bool false)], []))
 ((FF n 67 [.one (.int .i64 4), .one (.fr (.ts v0)), .agg [.int .i64 v1, .int .i64 v2, .fr (.ts v3)]] []).bind fun x6 =>
 (ah x6.1 fun x7 x8 =>
 (ai x8 (aj x6.2
 ((FF n 66 [.agg [.int .i64 x7.k, .int .i64 x7.n, .fr (.ts x7.kids)]] []).bind fun x9 =>
 (ah x9.1 fun x10 x11 =>
 (ar x11 fun x12 x13 =>
 (ai x13 (aj x9.2
 (some ([.agg [.int .i64 x10.k, .int .i64 x10.n, .fr (.ts x10.kids)], .one (.bool x12)], []))))))))))))))))))))) := by kernel_rfl
noncomputable def cz (n c : Nat) (v0 : Int) (v1 : List T) : OR := aR Tryz.prog SS n 33 0 [1, 1, 1, 0, 1, 0] [] c ⟨[aa, aa, aa, aa, .v (.one (.own 0 0)), .v (.one (.int .i64 v0)), aa, aa, aa, aa, aa, aa, aa, aa, aa, aa, aa, aa, aa, aa, aa],
 [.arr 25 (.ts v1) 0 false]⟩
theorem eO (n c : Nat) (v0 : Int) (v1 : List T) : cz n (c + 1) v0 v1 =
 (cond (decide (0 ≤ v0))
 ((FF n 68 [.one (.int .i64 v0)] []).bind fun x0 =>
 (ah x0.1 fun x1 x2 =>
 (ai x2 (aj x0.2
 (cond (cn (v1 ++ [(T.mk x1.k x1.n x1.kids)]).length)
 (cz n c (IntKind.i64.wrap (v0 - 1)) (v1 ++ [(T.mk x1.k x1.n x1.kids)]))
 none)))))
 (some ([.one (.fr (.ts v1)), .one (.bool true)], []))) := by kernel_rfl
theorem lR (n : Nat) (v0 : Int) : FF (n + 1) 33 [.one (.int .i64 v0)] [] =
 ((FF n 60 [.one (.int .i64 v0), .one (.int .i64 0), .one (.int .i64 8)] []).bind fun x0 =>
 (ar x0.1 fun x1 x2 =>
 (ai x2 (aj x0.2
 (cond (!x1)
 (some ([.one (.fr (.ts [])), .one (.bool false)], []))
 (cz n n (IntKind.i64.wrap (v0 - 1)) ([]))))))) := by kernel_rfl
noncomputable def cC (n c : Nat) (v0 : List T) (v1 v2 v3 v4 : Int) (v5 : List T) (v6 v7 : Int) (v8 : List T) : OR := aR Tryz.prog SS n 34 0 [1, 1, 1, 0, 1, 0] [] c ⟨[aa, aa, aa, aa, .v (.one (.ptr 0 0)), aa, .v (.one (.ptr 2 0)), aa, aa, aa, aa, aa, aa, aa, aa, aa, aa, aa, aa, .v (.one (.fr (.ts v0))), .v (.one (.int .i64 v1)), .v (.one (.int .i64 v2)), aa, aa, aa, aa, aa, aa, aa, aa, aa, aa, aa, aa, aa],
 [.cells [.int .i64 v3, .int .i64 v4, .own 1 0], .arr 25 (.ts v5) 0 false, .cells [.int .i64 v6, .int .i64 v7, .fr (.ts v8)]]⟩
theorem ez (n c : Nat) (v0 : List T) (v1 v2 v3 v4 : Int) (v5 : List T) (v6 v7 : Int) (v8 : List T) : cC n (c + 1) v0 v1 v2 v3 v4 v5 v6 v7 v8 =
 (cond (decide (v2 < v1))
 (cond (decide (0 ≤ v2))
 (v0[(v2 : Int).toNat]?.bind fun x0 =>
 ((FF n 70 [.one (.int .i64 5), .one (.fr (.ts [(T.mk v6 v7 v8), (T.mk x0.k x0.n x0.kids)]))] []).bind fun x1 =>
 (ah x1.1 fun x2 x3 =>
 (ai x3 (aj x1.2
 (cC n c v0 v1 (IntKind.i64.wrap (v2 + 1)) v3 v4 v5 (x2.k) (x2.n) (x2.kids)))))))
 none)
 ((FF n 58 [.agg [.int .i64 v6, .int .i64 v7, .fr (.ts v8)]] []).bind fun x0 =>
 (ah x0.1 fun x1 x2 =>
 (ai x2 (aj x0.2
 ((FF n 71 [.agg [.int .i64 x1.k, .int .i64 x1.n, .fr (.ts x1.kids)]] []).bind fun x3 =>
 (ah x3.1 fun x4 x5 =>
 (ar x5 fun x6 x7 =>
 (ai x7 (aj x3.2
 (some ([.agg [.int .i64 x4.k, .int .i64 x4.n, .fr (.ts x4.kids)], .one (.bool x6)], [])))))))))))) := by kernel_rfl
theorem ph (n : Nat) (v0 v1 : Int) (v2 v3 : List T) : FF (n + 1) 34 [.agg [.int .i64 v0, .int .i64 v1, .fr (.ts v2)], .one (.fr (.ts v3))] [] =
 ((FF n 59 [.agg [.int .i64 v0, .int .i64 v1, .fr (.ts v2)]] []).bind fun x0 =>
 (ar x0.1 fun x1 x2 =>
 (ai x2 (aj x0.2
 (cond (!x1)
 (some ([.agg [.int .i64 0, .int .i64 0, .fr (.ts [])], .one (.bool false)], []))
 ((FF n 69 [.one (.fr (.ts v3))] []).bind fun x3 =>
 (ar x3.1 fun x4 x5 =>
 (ai x5 (aj x3.2
 (cond (!x4)
 (some ([.agg [.int .i64 0, .int .i64 0, .fr (.ts [])], .one (.bool false)], []))
 (cC n n v3 ((v3.length : Int) : Int) 0 0 0 ([]) v0 v1 v2))))))))))) := by kernel_rfl
theorem iY (n : Nat) (v0 : List UInt8) : FF (n + 1) 35 [.one (.fr (.bs v0))] [] =
 ((FF n 48 [.one (.fr (.bs v0))] []).bind fun x0 =>
 (Hq 0 x0.1 fun x1 =>
 (ba x0.2 fun x2 x3 =>
 (bsC x2 fun x4 x5 =>
 (bj .i64 x5 fun x6 x7 =>
 (bh x7
 (ai x1 (aj x3
 ((FF n 49 [.one (.ptr 0 0)] [.cells [.fr (.bs x4), .int .i64 x6]]).bind fun x8 =>
 (ba x8.2 fun x9 x10 =>
 (bsC x9 fun x11 x12 =>
 (bj .i64 x12 fun x13 x14 =>
 (bh x14
 (rTs x8.1 fun x15 x16 =>
 (ah x16 fun x17 x18 =>
 (ai x18 (aj x10
 ((FF n 50 [.one (.ptr 0 0), .one (.fr (.ts x15)), .agg [.int .i64 x17.k, .int .i64 x17.n, .fr (.ts x17.kids)]] [.cells [.fr (.bs x11), .int .i64 x13]]).bind fun x19 =>
 (ba x19.2 fun x20 x21 =>
 (bsC x20 fun x22 x23 =>
 (bj .i64 x23 fun x24 x25 =>
 (bh x25
 (rTs x19.1 fun x26 x27 =>
 (ah x27 fun x28 x29 =>
 (ai x29 (aj x21
 (some ([.one (.fr (.ts x26))], [])))))))))))))))))))))))))))) := by kernel_rfl
noncomputable def cj (n c : Nat) (v0 v1 : List T) (v2 v3 : Int) : OR := aR Tryz.prog SS n 36 0 [1, 1, 0, 1, 0] [] c ⟨[.v (.one (.fr (.ts v0))), aa, aa, aa, aa, aa, aa, aa, aa, aa, aa, aa, .v (.one (.fr (.ts v1))), .v (.one (.int .i64 v2)), .v (.one (.int .i64 v3)), aa, aa, aa, aa, aa, aa, aa, aa, aa, aa, aa, aa, aa, aa, aa, aa, aa, aa, aa, aa, aa, aa, aa, aa, aa, aa],
 []⟩
noncomputable def bq (n c : Nat) (v0 v1 : List T) (v2 v3 : Int) : OR := aR Tryz.prog SS n 36 0 [1, 1, 1, 0, 1, 0] [] c ⟨[.v (.one (.fr (.ts v0))), aa, aa, aa, aa, aa, aa, aa, aa, aa, aa, aa, aa, aa, aa, aa, aa, aa, aa, aa, aa, aa, .v (.one (.fr (.ts v1))), .v (.one (.int .i64 v2)), .v (.one (.int .i64 v3)), aa, aa, aa, aa, aa, aa, aa, aa, aa, aa, aa, aa, aa, aa, aa, aa],
 []⟩
theorem dV (n c : Nat) (v0 v1 : List T) (v2 v3 : Int) : cj n (c + 1) v0 v1 v2 v3 =
 (cond (decide (v3 < v2))
 (cond (decide (0 ≤ v3))
 (v1[(v3 : Int).toNat]?.bind fun x0 =>
 ((FF n 59 [.agg [.int .i64 x0.k, .int .i64 x0.n, .fr (.ts x0.kids)]] []).bind fun x1 =>
 (ar x1.1 fun x2 x3 =>
 (ai x3 (aj x1.2
 (cond (!x2)
 (some ([.one (.int .i64 3)], []))
 (cj n c v0 v1 v2 (IntKind.i64.wrap (v3 + 1)))))))))
 none)
 (bq n n v0 v0 ((v0.length : Int) : Int) 0)) := by kernel_rfl
theorem dY (n c : Nat) (v0 v1 : List T) (v2 v3 : Int) : bq n (c + 1) v0 v1 v2 v3 =
 (cond (decide (v3 < v2))
 (cond (decide (0 ≤ v3))
 (v1[(v3 : Int).toNat]?.bind fun x0 =>
 (cond (Go.Ab.inB 0 v3 v0.length)
 ((FF n 54 [.one (.fr (.ts ((v0.take (v3 : Int).toNat).drop (0 : Int).toNat))), .agg [.int .i64 x0.k, .int .i64 x0.n, .fr (.ts x0.kids)]] []).bind fun x1 =>
 (aw .i64 x1.1 fun x2 x3 =>
 (aw .i64 x3 fun x4 x5 =>
 (ai x5 (aj x1.2
 (cond (!decide (x4 = 0))
 (some ([.one (.int .i64 x4)], []))
 (bq n c v0 v1 v2 (IntKind.i64.wrap (v3 + 1)))))))))
 none))
 none)
 (some ([.one (.int .i64 0)], []))) := by kernel_rfl
theorem gL (n : Nat) (v0 : List T) : FF (n + 1) 36 [.one (.fr (.ts v0))] [] =
 (cond (decide (8 < (v0.length : Int)))
 (some ([.one (.int .i64 3)], []))
 (cj n n v0 v0 ((v0.length : Int) : Int) 0)) := by kernel_rfl
noncomputable def bC (n c : Nat) (v0 : List T) (v1 : Int) : OR := aR Tryz.prog SS n 37 0 [1, 1, 0, 1, 0] [] c ⟨[.v (.one (.fr (.ts v0))), aa, aa, .v (.one (.int .i64 v1)), aa, aa, aa, aa, aa, aa, aa, aa, aa, aa, aa, aa, aa, aa, aa, aa, aa, aa, aa, aa, aa, aa, aa, aa, aa],
 []⟩
theorem dX (n c : Nat) (v0 : List T) (v1 : Int) : bC n (c + 1) v0 v1 =
 (cond (decide (v1 < (v0.length : Int)))
 (cond (Go.Ab.inB 0 v1 v0.length)
 (cond (decide (0 ≤ v1))
 (v0[(v1 : Int).toNat]?.bind fun x0 =>
 ((FF n 72 [.one (.fr (.ts ((v0.take (v1 : Int).toNat).drop (0 : Int).toNat))), .agg [.int .i64 x0.k, .int .i64 x0.n, .fr (.ts x0.kids)]] []).bind fun x1 =>
 (aw .i64 x1.1 fun x2 x3 =>
 (aw .i64 x3 fun x4 x5 =>
 (ai x5 (aj x1.2
 (cond (!decide (x4 = 0))
 (some ([.one (.int .i64 x4)], []))
 (bC n c v0 (IntKind.i64.wrap (v1 + 1))))))))))
 none)
 none)
 (some ([.one (.int .i64 0)], []))) := by kernel_rfl
theorem gF (n : Nat) (v0 : List T) : FF (n + 1) 37 [.one (.fr (.ts v0))] [] =
 ((FF n 64 [.one (.fr (.ts v0))] []).bind fun x0 =>
 (ar x0.1 fun x1 x2 =>
 (ai x2 (aj x0.2
 (cond (!x1)
 (some ([.one (.int .i64 3)], []))
 (bC n n v0 0)))))) := by kernel_rfl
theorem gm (n : Nat) (v0 : List T) (v1 v2 : Int) (v3 : List T) : FF (n + 1) 38 [.one (.fr (.ts v0)), .agg [.int .i64 v1, .int .i64 v2, .fr (.ts v3)]] [] =
 ((FF n 53 [.one (.fr (.ts v0)), .one (.fr (.ts [(T.mk v1 v2 v3)]))] []).bind fun x0 =>
 (aw .i64 x0.1 fun x1 x2 =>
 (ai x2 (aj x0.2
 (cond (!decide (x1 = 0))
 (some ([.one (.int .i64 0), .one (.int .i64 x1)], []))
 ((FF n 54 [.one (.fr (.ts v0)), .agg [.int .i64 v1, .int .i64 v2, .fr (.ts v3)]] []).bind fun x3 =>
 (aw .i64 x3.1 fun x4 x5 =>
 (aw .i64 x5 fun x6 x7 =>
 (ai x7 (aj x3.2
 (cond (!decide (x6 = 0))
 (some ([.one (.int .i64 0), .one (.int .i64 x6)], []))
 (some ([.one (.int .i64 x4), .one (.int .i64 0)], []))))))))))))) := by kernel_rfl
theorem ov (n : Nat) (v0 v1 : Int) (v2 : List T) (v3 v4 : Int) : FF (n + 1) 39 [.agg [.int .i64 v0, .int .i64 v1, .fr (.ts v2)], .one (.int .i64 v3), .one (.int .i64 v4)] [] =
 ((FF n 59 [.agg [.int .i64 v0, .int .i64 v1, .fr (.ts v2)]] []).bind fun x0 =>
 (ar x0.1 fun x1 x2 =>
 (ai x2 (aj x0.2
 (cond (!x1)
 (some ([.agg [.int .i64 0, .int .i64 0, .fr (.ts [])], .one (.bool false)], []))
 ((FF n 60 [.one (.int .i64 v3), .one (.int .i64 (-20)), .one (.int .i64 20)] []).bind fun x3 =>
 (ar x3.1 fun x4 x5 =>
 (ai x5 (aj x3.2
 (cond (!x4)
 (some ([.agg [.int .i64 0, .int .i64 0, .fr (.ts [])], .one (.bool false)], []))
 ((FF n 60 [.one (.int .i64 v4), .one (.int .i64 0), .one (.int .i64 20)] []).bind fun x6 =>
 (ar x6.1 fun x7 x8 =>
 (ai x8 (aj x6.2
 (cond (!x7)
 (some ([.agg [.int .i64 0, .int .i64 0, .fr (.ts [])], .one (.bool false)], []))
 ((FF n 73 [.agg [.int .i64 v0, .int .i64 v1, .fr (.ts v2)], .one (.int .i64 v3), .one (.int .i64 v4)] []).bind fun x9 =>
 (ah x9.1 fun x10 x11 =>
 (ar x11 fun x12 x13 =>
 (ai x13 (aj x9.2
 (some ([.agg [.int .i64 x10.k, .int .i64 x10.n, .fr (.ts x10.kids)], .one (.bool x12)], [])))))))))))))))))))))) := by kernel_rfl
theorem dQ (n : Nat) (v0 : List T) (v1 v2 : Int) (v3 : List T) : FF (n + 1) 40 [.one (.fr (.ts v0)), .agg [.int .i64 v1, .int .i64 v2, .fr (.ts v3)]] [] =
 ((FF n 64 [.one (.fr (.ts v0))] []).bind fun x0 =>
 (ar x0.1 fun x1 x2 =>
 (ai x2 (aj x0.2
 (cond (!x1)
 (some ([.agg [.int .i64 0, .int .i64 0, .fr (.ts [])], .one (.int .i64 3)], []))
 ((FF n 65 [.agg [.int .i64 v1, .int .i64 v2, .fr (.ts v3)]] []).bind fun x3 =>
 (ar x3.1 fun x4 x5 =>
 (ai x5 (aj x3.2
 (cond (!x4)
 (some ([.agg [.int .i64 0, .int .i64 0, .fr (.ts [])], .one (.int .i64 3)], []))
 ((FF n 37 [.one (.fr (.ts v0))] []).bind fun x6 =>
 (aw .i64 x6.1 fun x7 x8 =>
 (ai x8 (aj x6.2
 (cond (!decide (x7 = 0))
 (some ([.agg [.int .i64 0, .int .i64 0, .fr (.ts [])], .one (.int .i64 x7)], []))
 ((FF n 74 [.one (.fr (.ts v0)), .agg [.int .i64 v1, .int .i64 v2, .fr (.ts v3)]] []).bind fun x9 =>
 (ah x9.1 fun x10 x11 =>
 (aw .i64 x11 fun x12 x13 =>
 (ai x13 (aj x9.2
 ((FF n 75 [.agg [.int .i64 x10.k, .int .i64 x10.n, .fr (.ts x10.kids)], .one (.int .i64 x12)] []).bind fun x14 =>
 (ah x14.1 fun x15 x16 =>
 (aw .i64 x16 fun x17 x18 =>
 (ai x18 (aj x14.2
 (some ([.agg [.int .i64 x15.k, .int .i64 x15.n, .fr (.ts x15.kids)], .one (.int .i64 x17)], []))))))))))))))))))))))))))) := by kernel_rfl
theorem oD (n : Nat) (v0 v1 : Int) (v2 : List T) (v3 : Int) : FF (n + 1) 41 [.agg [.int .i64 v0, .int .i64 v1, .fr (.ts v2)], .one (.int .i64 v3)] [] =
 ((FF n 76 [.agg [.int .i64 v0, .int .i64 v1, .fr (.ts v2)], .one (.int .i64 v3), .one (.fn 62 [])] []).bind fun x0 =>
 (ah x0.1 fun x1 x2 =>
 (aw .i64 x2 fun x3 x4 =>
 (aw .i64 x4 fun x5 x6 =>
 (ai x6 (aj x0.2
 (some ([.agg [.int .i64 x1.k, .int .i64 x1.n, .fr (.ts x1.kids)], .one (.int .i64 x5)], [])))))))) := by kernel_rfl
theorem qi (n : Nat) (v0 v1 : Int) (v2 : List T) : FF (n + 1) 42 [.agg [.int .i64 v0, .int .i64 v1, .fr (.ts v2)]] [] =
 ((FF n 77 [.agg [.int .i64 v0, .int .i64 v1, .fr (.ts v2)], .one (.fn 62 [])] []).bind fun x0 =>
 (ah x0.1 fun x1 x2 =>
 (aw .i64 x2 fun x3 x4 =>
 (ai x4 (aj x0.2
 (some ([.agg [.int .i64 x1.k, .int .i64 x1.n, .fr (.ts x1.kids)], .one (.int .i64 x3)], []))))))) := by kernel_rfl
theorem oj (n : Nat) (v0 v1 : Int) (v2 : List T) : FF (n + 1) 43 [.agg [.int .i64 v0, .int .i64 v1, .fr (.ts v2)]] [] =
 ((FF n 77 [.agg [.int .i64 v0, .int .i64 v1, .fr (.ts v2)], .one (.fn 78 [])] []).bind fun x0 =>
 (ah x0.1 fun x1 x2 =>
 (aw .i64 x2 fun x3 x4 =>
 (ai x4 (aj x0.2
 (some ([.agg [.int .i64 x1.k, .int .i64 x1.n, .fr (.ts x1.kids)], .one (.int .i64 x3)], []))))))) := by kernel_rfl
theorem iQ (n : Nat) (v0 : List T) (v1 v2 : Int) (v3 : List T) : FF (n + 1) 45 [.one (.fr (.ts v0)), .agg [.int .i64 v1, .int .i64 v2, .fr (.ts v3)]] [] =
 ((FF n 64 [.one (.fr (.ts v0))] []).bind fun x0 =>
 (ar x0.1 fun x1 x2 =>
 (ai x2 (aj x0.2
 (cond (!x1)
 (some ([.one (.int .i64 0), .one (.int .i64 3)], []))
 ((FF n 65 [.agg [.int .i64 v1, .int .i64 v2, .fr (.ts v3)]] []).bind fun x3 =>
 (ar x3.1 fun x4 x5 =>
 (ai x5 (aj x3.2
 (cond (!x4)
 (some ([.one (.int .i64 0), .one (.int .i64 3)], []))
 ((FF n 37 [.one (.fr (.ts v0))] []).bind fun x6 =>
 (aw .i64 x6.1 fun x7 x8 =>
 (ai x8 (aj x6.2
 (cond (!decide (x7 = 0))
 (some ([.one (.int .i64 0), .one (.int .i64 x7)], []))
 ((FF n 72 [.one (.fr (.ts v0)), .agg [.int .i64 v1, .int .i64 v2, .fr (.ts v3)]] []).bind fun x9 =>
 (aw .i64 x9.1 fun x10 x11 =>
 (aw .i64 x11 fun x12 x13 =>
 (ai x13 (aj x9.2
 (some ([.one (.int .i64 x10), .one (.int .i64 x12)], [])))))))))))))))))))))) := by kernel_rfl
theorem oE (n : Nat) (v0 : List T) (v1 v2 : Int) (v3 : List T) (v4 v5 : Int) (v6 : List T) : FF (n + 1) 47 [.one (.fr (.ts v0)), .agg [.int .i64 v1, .int .i64 v2, .fr (.ts v3)], .agg [.int .i64 v4, .int .i64 v5, .fr (.ts v6)]] [] =
 ((FF n 64 [.one (.fr (.ts v0))] []).bind fun x0 =>
 (ar x0.1 fun x1 x2 =>
 (ai x2 (aj x0.2
 (cond (!x1)
 (some ([.one (.int .i64 3)], []))
 ((FF n 65 [.agg [.int .i64 v1, .int .i64 v2, .fr (.ts v3)]] []).bind fun x3 =>
 (ar x3.1 fun x4 x5 =>
 (ai x5 (aj x3.2
 (cond (!x4)
 (some ([.one (.int .i64 3)], []))
 ((FF n 65 [.agg [.int .i64 v4, .int .i64 v5, .fr (.ts v6)]] []).bind fun x6 =>
 (ar x6.1 fun x7 x8 =>
 (ai x8 (aj x6.2
 (cond (!x7)
 (some ([.one (.int .i64 3)], []))
 ((FF n 45 [.one (.fr (.ts v0)), .agg [.int .i64 v4, .int .i64 v5, .fr (.ts v6)]] []).bind fun x9 =>
 (aw .i64 x9.1 fun x10 x11 =>
 (aw .i64 x11 fun x12 x13 =>
 (ai x13 (aj x9.2
 (cond (!decide (x12 = 0))
 (some ([.one (.int .i64 x12)], []))
 ((FF n 85 [.one (.fr (.ts v0)), .agg [.int .i64 v1, .int .i64 v2, .fr (.ts v3)], .agg [.int .i64 v4, .int .i64 v5, .fr (.ts v6)]] []).bind fun x14 =>
 (aw .i64 x14.1 fun x15 x16 =>
 (ai x16 (aj x14.2
 (some ([.one (.int .i64 x15)], []))))))))))))))))))))))))))) := by kernel_rfl
theorem kC (n : Nat) (v0 : List UInt8) : FF (n + 1) 48 [.one (.fr (.bs v0))] [] =
 (cond (decide (2000 < (v0.length : Int)))
 (cond (Go.Ab.inB 0 2000 v0.length)
 (some ([.one (.ptr 0 0)], [.cells [.fr (.bs ((v0.take (2000 : Int).toNat).drop (0 : Int).toNat)), .int .i64 0]]))
 none)
 (some ([.one (.ptr 0 0)], [.cells [.fr (.bs v0), .int .i64 0]]))) := by kernel_rfl
noncomputable def df (n c : Nat) (v0 v1 : Int) (v2 : List UInt8) (v3 v4 v5 : Int) (v6 v7 : List T) : OR := aR Tryz.prog SS n 49 1 [1, 0, 1, 0, 1, 1, 0, 1, 0] [] c ⟨[.v (.one (.ptr 0 0)), aa, aa, .v (.one (.ptr 1 0)), .v (.one (.int .i64 v0)), .v (.one (.own 3 0)), .v (.one (.int .i64 v1)), aa, aa, aa, aa, aa, aa, aa, aa, aa, aa, aa, aa, aa, aa, aa, aa, aa, aa, aa, aa, aa, aa, aa, aa, aa, aa, aa, aa, aa, aa, aa, aa, aa, aa, aa, aa, aa, aa, aa, aa, aa, aa, aa, aa, aa, aa, aa],
 [.cells [.fr (.bs v2), .int .i64 v3], .cells [.int .i64 v4, .int .i64 v5, .own 2 0], .arr 25 (.ts v6) 0 false, .arr 25 (.ts v7) 0 false]⟩
theorem fO (n c : Nat) (v0 v1 : Int) (v2 : List UInt8) (v3 v4 v5 : Int) (v6 v7 : List T) : df n (c + 1) v0 v1 v2 v3 v4 v5 v6 v7 =
 (cond (decide (v1 < v0))
 ((FF n 82 [.one (.int .i64 6), .one (.int .i64 0)] []).bind fun x0 =>
 (ah x0.1 fun x1 x2 =>
 (ai x2 (aj x0.2
 (cond (cn (v7 ++ [(T.mk x1.k x1.n x1.kids)]).length)
 (df n c v0 (IntKind.i64.wrap (v1 + 1)) v2 v3 v4 v5 v6 (v7 ++ [(T.mk x1.k x1.n x1.kids)]))
 none)))))
 ((FF n 86 [.one (.ptr 0 0), .one (.fr (.is [3, 2, 4, 1]))] [.cells [.fr (.bs v2), .int .i64 v3]]).bind fun x0 =>
 (ba x0.2 fun x1 x2 =>
 (bsC x1 fun x3 x4 =>
 (bj .i64 x4 fun x5 x6 =>
 (bh x6
 (aw .i64 x0.1 fun x7 x8 =>
 (ai x8 (aj x2
 ((FF n 87 [.one (.ptr 0 0), .one (.int .i64 v0), .one (.int .i64 x7)] [.cells [.fr (.bs x3), .int .i64 x5]]).bind fun x9 =>
 (ba x9.2 fun x10 x11 =>
 (bsC x10 fun x12 x13 =>
 (bj .i64 x13 fun x14 x15 =>
 (bh x15
 (ah x9.1 fun x16 x17 =>
 (ai x17 (aj x11
 ((FF n 65 [.agg [.int .i64 x16.k, .int .i64 x16.n, .fr (.ts x16.kids)]] []).bind fun x18 =>
 (ar x18.1 fun x19 x20 =>
 (ai x20 (aj x18.2
 (cond x19
 (some ([.one (.fr (.ts v7)), .agg [.int .i64 x16.k, .int .i64 x16.n, .fr (.ts x16.kids)]], [.cells [.fr (.bs x12), .int .i64 x14]]))
 ((FF n 79 [.one (.ptr 0 0), .one (.int .i64 4)] [.cells [.fr (.bs x12), .int .i64 x14]]).bind fun x21 =>
 (ba x21.2 fun x22 x23 =>
 (bsC x22 fun x24 x25 =>
 (bj .i64 x25 fun x26 x27 =>
 (bh x27
 (aw .i64 x21.1 fun x28 x29 =>
 (ai x29 (aj x23
 ((FF n 88 [.one (.int .i64 x28)] []).bind fun x30 =>
 (rSs x30.1 fun x31 x32 =>
 (rSs x32 fun x33 x34 =>
 (ai x34 (aj x30.2
 ((FF n 89 [.one (.fr (.ss x33))] []).bind fun x35 =>
 (rTs x35.1 fun x36 x37 =>
 (ai x37 (aj x35.2
 ((FF n 89 [.one (.fr (.ss x31))] []).bind fun x38 =>
 (rTs x38.1 fun x39 x40 =>
 (ai x40 (aj x38.2
 ((FF n 79 [.one (.ptr 0 0), .one (.int .i64 (x36.length : Int))] [.cells [.fr (.bs x24), .int .i64 x26]]).bind fun x41 =>
 (ba x41.2 fun x42 x43 =>
 (bsC x42 fun x44 x45 =>
 (bj .i64 x45 fun x46 x47 =>
 (bh x47
 (aw .i64 x41.1 fun x48 x49 =>
 (ai x49 (aj x43
 (cond (decide (0 ≤ x48))
 (x36[(x48 : Int).toNat]?.bind fun x50 =>
 some ([.one (.fr (.ts x39)), .agg [.int .i64 x50.k, .int .i64 x50.n, .fr (.ts x50.kids)]], [.cells [.fr (.bs x44), .int .i64 x46]]))
 none)))))))))))))))))))))))))))))))))))))))))))))))))))) := by kernel_rfl
theorem uv (n : Nat) (v0 : List UInt8) (v1 : Int) : FF (n + 1) 49 [.one (.ptr 0 0)] [.cells [.fr (.bs v0), .int .i64 v1]] =
 ((FF n 79 [.one (.ptr 0 0), .one (.int .i64 2)] [.cells [.fr (.bs v0), .int .i64 v1]]).bind fun x0 =>
 (ba x0.2 fun x1 x2 =>
 (bsC x1 fun x3 x4 =>
 (bj .i64 x4 fun x5 x6 =>
 (bh x6
 (aw .i64 x0.1 fun x7 x8 =>
 (ai x8 (aj x2
 (cond (decide (x7 = 0))
 ((FF n 86 [.one (.ptr 0 0), .one (.fr (.is [0, 1, 2, 0]))] [.cells [.fr (.bs x3), .int .i64 x5]]).bind fun x9 =>
 (ba x9.2 fun x10 x11 =>
 (bsC x10 fun x12 x13 =>
 (bj .i64 x13 fun x14 x15 =>
 (bh x15
 (aw .i64 x9.1 fun x16 x17 =>
 (ai x17 (aj x11
 (df n n x16 0 x12 x14 0 0 ([]) ([]))))))))))
 ((FF n 79 [.one (.ptr 0 0), .one (.int .i64 4)] [.cells [.fr (.bs x3), .int .i64 x5]]).bind fun x9 =>
 (ba x9.2 fun x10 x11 =>
 (bsC x10 fun x12 x13 =>
 (bj .i64 x13 fun x14 x15 =>
 (bh x15
 (aw .i64 x9.1 fun x16 x17 =>
 (ai x17 (aj x11
 ((FF n 88 [.one (.int .i64 x16)] []).bind fun x18 =>
 (rSs x18.1 fun x19 x20 =>
 (rSs x20 fun x21 x22 =>
 (ai x22 (aj x18.2
 ((FF n 89 [.one (.fr (.ss x21))] []).bind fun x23 =>
 (rTs x23.1 fun x24 x25 =>
 (ai x25 (aj x23.2
 ((FF n 89 [.one (.fr (.ss x19))] []).bind fun x26 =>
 (rTs x26.1 fun x27 x28 =>
 (ai x28 (aj x26.2
 ((FF n 79 [.one (.ptr 0 0), .one (.int .i64 (x24.length : Int))] [.cells [.fr (.bs x12), .int .i64 x14]]).bind fun x29 =>
 (ba x29.2 fun x30 x31 =>
 (bsC x30 fun x32 x33 =>
 (bj .i64 x33 fun x34 x35 =>
 (bh x35
 (aw .i64 x29.1 fun x36 x37 =>
 (ai x37 (aj x31
 (cond (decide (0 ≤ x36))
 (x24[(x36 : Int).toNat]?.bind fun x38 =>
 some ([.one (.fr (.ts x27)), .agg [.int .i64 x38.k, .int .i64 x38.n, .fr (.ts x38.kids)]], [.cells [.fr (.bs x32), .int .i64 x34]]))
 none))))))))))))))))))))))))))))))))))))))) := by kernel_rfl
noncomputable def ck (n c : Nat) (v0 : List T) (v1 : Int) (v2 : List UInt8) (v3 v4 v5 : Int) (v6 : List T) (v7 v8 : Int) (v9 v10 : List T) : OR := aR Tryz.prog SS n 50 1 [1, 1, 0, 1, 0] [] c ⟨[.v (.one (.ptr 0 0)), .v (.one (.fr (.ts v0))), aa, aa, aa, .v (.one (.ptr 1 0)), aa, .v (.one (.ptr 2 0)), .v (.one (.own 4 0)), .v (.one (.int .i64 v1)), aa, aa, aa, aa, aa, aa, aa, aa, aa, aa, aa, aa, aa, aa, aa, aa, aa, aa, aa, aa, aa, aa, aa, aa, aa, aa, aa, aa, aa, aa, aa, aa, aa, aa, aa, aa, aa, aa, aa, aa, aa, aa, aa, aa, aa, aa, aa, aa, aa, aa, aa, aa, aa, aa, aa, aa, aa, aa, aa, aa, aa, aa, aa, aa, aa],
 [.cells [.fr (.bs v2), .int .i64 v3], .cells [.int .i64 v4, .int .i64 v5, .fr (.ts v6)], .cells [.int .i64 v7, .int .i64 v8, .own 3 0], .arr 25 (.ts v9) 0 false, .arr 25 (.ts v10) 0 false]⟩
noncomputable def cq (n c : Nat) (v0 : List UInt8) (v1 v2 v3 : Int) (v4 : List T) (v5 v6 : Int) (v7 v8 : List T) : OR := aR Tryz.prog SS n 50 1 [1, 1, 1, 0, 1, 0, 1, 1, 1, 1, 1, 0, 0] [] c ⟨[.v (.one (.ptr 0 0)), aa, aa, aa, aa, .v (.one (.ptr 1 0)), aa, .v (.one (.ptr 2 0)), .v (.one (.own 4 0)), aa, aa, aa, aa, aa, aa, aa, aa, aa, aa, aa, aa, aa, aa, aa, aa, aa, aa, aa, aa, aa, aa, aa, aa, aa, aa, aa, aa, aa, aa, aa, aa, aa, aa, aa, aa, aa, aa, aa, aa, aa, aa, aa, aa, aa, aa, aa, aa, aa, aa, aa, aa, aa, aa, aa, aa, aa, aa, aa, aa, aa, aa, aa, aa, aa, aa],
 [.cells [.fr (.bs v0), .int .i64 v1], .cells [.int .i64 v2, .int .i64 v3, .fr (.ts v4)], .cells [.int .i64 v5, .int .i64 v6, .own 3 0], .arr 25 (.ts v7) 0 false, .arr 25 (.ts v8) 0 false]⟩
theorem dT (n c : Nat) (v0 : List T) (v1 : Int) (v2 : List UInt8) (v3 v4 v5 : Int) (v6 : List T) (v7 v8 : Int) (v9 v10 : List T) : ck n (c + 1) v0 v1 v2 v3 v4 v5 v6 v7 v8 v9 v10 =
 (cond (decide (v1 < (v0.length : Int)))
 (cond (decide (0 ≤ v1))
 (v0[(v1 : Int).toNat]?.bind fun x0 =>
 ((FF n 90 [.agg [.int .i64 x0.k, .int .i64 x0.n, .fr (.ts x0.kids)]] []).bind fun x1 =>
 (fL 0 x1.1 fun x2 x3 x4 =>
 (cf 25 x1.2 fun x5 x6 =>
 (ai x4 (aj x6
 (cond (cn (v10 ++ [(T.mk x2 x3 x5)]).length)
 (ck n c v0 (IntKind.i64.wrap (v1 + 1)) v2 v3 v4 v5 v6 v7 v8 v9 (v10 ++ [(T.mk x2 x3 x5)]))
 none)))))))
 none)
 ((FF n 79 [.one (.ptr 0 0), .one (.int .i64 30)] [.cells [.fr (.bs v2), .int .i64 v3]]).bind fun x0 =>
 (ba x0.2 fun x1 x2 =>
 (bsC x1 fun x3 x4 =>
 (bj .i64 x4 fun x5 x6 =>
 (bh x6
 (aw .i64 x0.1 fun x7 x8 =>
 (ai x8 (aj x2
 (cond (decide (x7 = 0))
 (cond (decide (0 < (v10.length : Int)))
 (cond (Go.Ab.inB 1 v10.length v10.length)
 ((FF n 84 [.one (.ptr 0 0), .agg [.int .i64 v4, .int .i64 v5, .fr (.ts v6)]] [.cells [.fr (.bs x3), .int .i64 x5]]).bind fun x9 =>
 (ba x9.2 fun x10 x11 =>
 (bsC x10 fun x12 x13 =>
 (bj .i64 x13 fun x14 x15 =>
 (bh x15
 (ah x9.1 fun x16 x17 =>
 (ai x17 (aj x11
 (some ([.one (.fr (.ts ((v10.take (v10.length : Int).toNat).drop (1 : Int).toNat))), .agg [.int .i64 x16.k, .int .i64 x16.n, .fr (.ts x16.kids)]], [.cells [.fr (.bs x12), .int .i64 x14]]))))))))))
 none)
 ((FF n 84 [.one (.ptr 0 0), .agg [.int .i64 v4, .int .i64 v5, .fr (.ts v6)]] [.cells [.fr (.bs x3), .int .i64 x5]]).bind fun x9 =>
 (ba x9.2 fun x10 x11 =>
 (bsC x10 fun x12 x13 =>
 (bj .i64 x13 fun x14 x15 =>
 (bh x15
 (ah x9.1 fun x16 x17 =>
 (ai x17 (aj x11
 (some ([.one (.fr (.ts v10)), .agg [.int .i64 x16.k, .int .i64 x16.n, .fr (.ts x16.kids)]], [.cells [.fr (.bs x12), .int .i64 x14]])))))))))))
 (cond (decide (x7 = 1))
 ((FF n 80 [.one (.ptr 0 0)] [.cells [.fr (.bs x3), .int .i64 x5]]).bind fun x9 =>
 (ba x9.2 fun x10 x11 =>
 (bsC x10 fun x12 x13 =>
 (bj .i64 x13 fun x14 x15 =>
 (bh x15
 (ah x9.1 fun x16 x17 =>
 (ai x17 (aj x11
 (cond (cn (v10 ++ [(T.mk x16.k x16.n x16.kids)]).length)
 ((FF n 84 [.one (.ptr 0 0), .agg [.int .i64 v4, .int .i64 v5, .fr (.ts v6)]] [.cells [.fr (.bs x12), .int .i64 x14]]).bind fun x18 =>
 (ba x18.2 fun x19 x20 =>
 (bsC x19 fun x21 x22 =>
 (bj .i64 x22 fun x23 x24 =>
 (bh x24
 (ah x18.1 fun x25 x26 =>
 (ai x26 (aj x20
 (some ([.one (.fr (.ts (v10 ++ [(T.mk x16.k x16.n x16.kids)]))), .agg [.int .i64 x25.k, .int .i64 x25.n, .fr (.ts x25.kids)]], [.cells [.fr (.bs x21), .int .i64 x23]]))))))))))
 none)))))))))
 (cond (decide (x7 = 2))
 (cq n n x3 x5 v4 v5 v6 v7 v8 v9 v10)
 (cond (decide (x7 = 3))
 ((FF n 80 [.one (.ptr 0 0)] [.cells [.fr (.bs x3), .int .i64 x5]]).bind fun x9 =>
 (ba x9.2 fun x10 x11 =>
 (bsC x10 fun x12 x13 =>
 (bj .i64 x13 fun x14 x15 =>
 (bh x15
 (ah x9.1 fun x16 x17 =>
 (ai x17 (aj x11
 (some ([.one (.fr (.ts v10)), .agg [.int .i64 x16.k, .int .i64 x16.n, .fr (.ts x16.kids)]], [.cells [.fr (.bs x12), .int .i64 x14]]))))))))))
 (cond (decide (x7 = 4))
 (cond (decide (0 < (v6.length : Int)))
 ((FF n 79 [.one (.ptr 0 0), .one (.int .i64 (v6.length : Int))] [.cells [.fr (.bs x3), .int .i64 x5]]).bind fun x9 =>
 (ba x9.2 fun x10 x11 =>
 (bsC x10 fun x12 x13 =>
 (bj .i64 x13 fun x14 x15 =>
 (bh x15
 (aw .i64 x9.1 fun x16 x17 =>
 (ai x17 (aj x11
 ((FF n 80 [.one (.ptr 0 0)] [.cells [.fr (.bs x12), .int .i64 x14]]).bind fun x18 =>
 (ba x18.2 fun x19 x20 =>
 (bsC x19 fun x21 x22 =>
 (bj .i64 x22 fun x23 x24 =>
 (bh x24
 (ah x18.1 fun x25 x26 =>
 (ai x26 (aj x20
 ((FF n 91 [.agg [.int .i64 v4, .int .i64 v5, .fr (.ts v6)], .one (.int .i64 x16), .agg [.int .i64 x25.k, .int .i64 x25.n, .fr (.ts x25.kids)]] []).bind fun x27 =>
 (ah x27.1 fun x28 x29 =>
 (ai x29 (aj x27.2
 (some ([.one (.fr (.ts v10)), .agg [.int .i64 x28.k, .int .i64 x28.n, .fr (.ts x28.kids)]], [.cells [.fr (.bs x21), .int .i64 x23]]))))))))))))))))))))))
 ((FF n 84 [.one (.ptr 0 0), .agg [.int .i64 v4, .int .i64 v5, .fr (.ts v6)]] [.cells [.fr (.bs x3), .int .i64 x5]]).bind fun x9 =>
 (ba x9.2 fun x10 x11 =>
 (bsC x10 fun x12 x13 =>
 (bj .i64 x13 fun x14 x15 =>
 (bh x15
 (ah x9.1 fun x16 x17 =>
 (ai x17 (aj x11
 (some ([.one (.fr (.ts v10)), .agg [.int .i64 x16.k, .int .i64 x16.n, .fr (.ts x16.kids)]], [.cells [.fr (.bs x12), .int .i64 x14]])))))))))))
 ((FF n 84 [.one (.ptr 0 0), .agg [.int .i64 v4, .int .i64 v5, .fr (.ts v6)]] [.cells [.fr (.bs x3), .int .i64 x5]]).bind fun x9 =>
 (ba x9.2 fun x10 x11 =>
 (bsC x10 fun x12 x13 =>
 (bj .i64 x13 fun x14 x15 =>
 (bh x15
 (ah x9.1 fun x16 x17 =>
 (ai x17 (aj x11
 (some ([.one (.fr (.ts v10)), .agg [.int .i64 x16.k, .int .i64 x16.n, .fr (.ts x16.kids)]], [.cells [.fr (.bs x12), .int .i64 x14]])))))))))))))))))))))))) := by kernel_rfl
theorem dU (n c : Nat) (v0 : List UInt8) (v1 v2 v3 : Int) (v4 : List T) (v5 v6 : Int) (v7 v8 : List T) : cq n (c + 1) v0 v1 v2 v3 v4 v5 v6 v7 v8 =
 (cond (decide ((v8.length : Int) ≤ 8))
 ((FF n 82 [.one (.int .i64 6), .one (.int .i64 0)] []).bind fun x0 =>
 (ah x0.1 fun x1 x2 =>
 (ai x2 (aj x0.2
 (cond (cn (v8 ++ [(T.mk x1.k x1.n x1.kids)]).length)
 (cq n c v0 v1 v2 v3 v4 v5 v6 v7 (v8 ++ [(T.mk x1.k x1.n x1.kids)]))
 none)))))
 ((FF n 84 [.one (.ptr 0 0), .agg [.int .i64 v2, .int .i64 v3, .fr (.ts v4)]] [.cells [.fr (.bs v0), .int .i64 v1]]).bind fun x0 =>
 (ba x0.2 fun x1 x2 =>
 (bsC x1 fun x3 x4 =>
 (bj .i64 x4 fun x5 x6 =>
 (bh x6
 (ah x0.1 fun x7 x8 =>
 (ai x8 (aj x2
 (some ([.one (.fr (.ts v8)), .agg [.int .i64 x7.k, .int .i64 x7.n, .fr (.ts x7.kids)]], [.cells [.fr (.bs x3), .int .i64 x5]]))))))))))) := by kernel_rfl
theorem qD (n : Nat) (v0 : List T) (v1 v2 : Int) (v3 : List T) (v4 : List UInt8) (v5 : Int) : FF (n + 1) 50 [.one (.ptr 0 0), .one (.fr (.ts v0)), .agg [.int .i64 v1, .int .i64 v2, .fr (.ts v3)]] [.cells [.fr (.bs v4), .int .i64 v5]] =
 ck n n v0 0 v4 v5 v1 v2 v3 0 0 ([]) ([]) := by kernel_rfl
end Go.Proofs.YtajlknlnmmbfcaaGreat
end
section
namespace Go.Proofs.YtajlknlnmmbfcaaGreat
open Go Go.Ab Go.Dk
noncomputable def cY (n c : Nat) (v0 : Int) (v1 : Bool) (v2 v3 : Int) (v4 : List T) (v5 v6 : Int) (v7 : List T) : OR := aR Tryz.prog SS n 51 0 [1, 0] [] c ⟨[aa, .v (.one (.int .i64 v0)), .v (.one (.bool v1)), .v (.one (.ptr 0 0)), aa, aa, .v (.one (.ptr 1 0)), aa, aa, aa, aa, aa, aa, aa, aa, aa, aa, aa, aa, aa, aa, aa, aa, aa, aa, aa, aa, aa],
 [.cells [.int .i64 v2, .int .i64 v3, .fr (.ts v4)], .cells [.int .i64 v5, .int .i64 v6, .own 2 0], .arr 25 (.ts v7) 0 false]⟩
theorem jA (n c : Nat) (v0 : Int) (v1 : Bool) (v2 v3 : Int) (v4 : List T) (v5 v6 : Int) (v7 : List T) : cY n (c + 1) v0 v1 v2 v3 v4 v5 v6 v7 =
 ((FF n 92 [.agg [.int .i64 v2, .int .i64 v3, .fr (.ts v4)], .one (.bool v1)] []).bind fun x0 =>
 (ah x0.1 fun x1 x2 =>
 (aw .i64 x2 fun x3 x4 =>
 (ai x4 (aj x0.2
 (cond (decide (x3 = 0))
 (some ([.agg [.int .i64 x1.k, .int .i64 x1.n, .fr (.ts x1.kids)], .one (.int .i64 0)], []))
 (cond (decide (v0 < 1))
 (some ([.agg [.int .i64 0, .int .i64 0, .fr (.ts [])], .one (.int .i64 1)], []))
 (cond (decide (x3 = 2))
 (some ([.agg [.int .i64 0, .int .i64 0, .fr (.ts [])], .one (.int .i64 2)], []))
 (cY n c (IntKind.i64.wrap (v0 - 1)) v1 (x1.k) (x1.n) (x1.kids) v5 v6 v7))))))))) := by kernel_rfl
theorem uj (n : Nat) (v0 v1 : Int) (v2 : List T) (v3 : Int) (v4 : Bool) : FF (n + 1) 51 [.agg [.int .i64 v0, .int .i64 v1, .fr (.ts v2)], .one (.int .i64 v3), .one (.bool v4)] [] =
 cY n n v3 v4 v0 v1 v2 0 0 ([]) := by kernel_rfl
noncomputable def bf (n c : Nat) (v0 v1 : List T) (v2 v3 : Int) : OR := aR Tryz.prog SS n 52 0 [1, 1, 0, 1, 0] [] c ⟨[aa, .v (.one (.fr (.ts v0))), .v (.one (.fn 22 [])), aa, aa, aa, aa, aa, aa, aa, aa, aa, aa, aa, aa, .v (.one (.fr (.ts v1))), .v (.one (.int .i64 v2)), .v (.one (.int .i64 v3)), aa, aa, aa, aa, aa, aa, aa, aa, aa, aa, aa, aa, aa, aa],
 []⟩
theorem bU (n c : Nat) (v0 v1 : List T) (v2 v3 : Int) : bf n (c + 1) v0 v1 v2 v3 =
 (cond (decide (v3 < v2))
 (cond (decide (0 ≤ v3))
 (v1[(v3 : Int).toNat]?.bind fun x0 =>
 (cond (decide (0 ≤ v3))
 (v0[(v3 : Int).toNat]?.bind fun x1 =>
 ((FF n 22 [.agg [.int .i64 x0.k, .int .i64 x0.n, .fr (.ts x0.kids)], .agg [.int .i64 x1.k, .int .i64 x1.n, .fr (.ts x1.kids)]] []).bind fun x2 =>
 (ar x2.1 fun x3 x4 =>
 (ai x4 (aj x2.2
 (cond (!x3)
 (some ([.one (.bool false)], []))
 (bf n c v0 v1 v2 (IntKind.i64.wrap (v3 + 1)))))))))
 none))
 none)
 (some ([.one (.bool true)], []))) := by kernel_rfl
theorem eV (n : Nat) (v0 v1 : List T) : FF (n + 1) 52 [.one (.fr (.ts v0)), .one (.fr (.ts v1)), .one (.fn 22 [])] [] =
 (cond (!decide ((v0.length : Int) = (v1.length : Int)))
 (some ([.one (.bool false)], []))
 (bf n n v1 v0 ((v0.length : Int) : Int) 0)) := by kernel_rfl
theorem u6 (n : Nat) (v0 v1 : List T) : FF (n + 1) 53 [.one (.fr (.ts v0)), .one (.fr (.ts v1))] [] =
 ((FF n 36 [.one (.fr (.ts v0))] []).bind fun x0 =>
 (aw .i64 x0.1 fun x1 x2 =>
 (ai x2 (aj x0.2
 ((FF n 93 [.one (.fr (.ts v1)), .one (.fn 94 [])] []).bind fun x3 =>
 (ar x3.1 fun x4 x5 =>
 (ai x5 (aj x3.2
 (cond x4
 (some ([.one (.int .i64 3)], []))
 (some ([.one (.int .i64 x1)], []))))))))))) := by kernel_rfl
theorem yb (n : Nat) (v0 : List T) (v1 v2 : Int) (v3 : List T) : FF (n + 1) 54 [.one (.fr (.ts v0)), .agg [.int .i64 v1, .int .i64 v2, .fr (.ts v3)]] [] =
 ((FF n 95 [.one (.fr (.ts v0)), .agg [.int .i64 v1, .int .i64 v2, .fr (.ts v3)], .one (.int .i64 2)] []).bind fun x0 =>
 (ah x0.1 fun x1 x2 =>
 (aw .i64 x2 fun x3 x4 =>
 (ai x4 (aj x0.2
 (some ([.one (.int .i64 x1.n), .one (.int .i64 x3)], []))))))) := by kernel_rfl
theorem xw (n : Nat) (v0 : List T) (v1 v2 : Int) (v3 : List T) (v4 v5 : Int) (v6 : List T) : FF (n + 1) 55 [.one (.fr (.ts v0)), .agg [.int .i64 v1, .int .i64 v2, .fr (.ts v3)], .agg [.int .i64 v4, .int .i64 v5, .fr (.ts v6)]] [] =
 ((FF n 57 [.one (.fr (.ts v0)), .agg [.int .i64 v1, .int .i64 v2, .fr (.ts v3)]] []).bind fun x0 =>
 (ah x0.1 fun x1 x2 =>
 (aw .i64 x2 fun x3 x4 =>
 (ai x4 (aj x0.2
 (cond (!decide (x3 = 0))
 (some ([.one (.int .i64 x3)], []))
 ((FF n 96 [.agg [.int .i64 x1.k, .int .i64 x1.n, .fr (.ts x1.kids)], .agg [.int .i64 v4, .int .i64 v5, .fr (.ts v6)]] []).bind fun x5 =>
 (aw .i64 x5.1 fun x6 x7 =>
 (ai x7 (aj x5.2
 (some ([.one (.int .i64 x6)], [])))))))))))) := by kernel_rfl
theorem oc (n : Nat) (v0 v1 : Int) (v2 : List T) (v3 v4 v5 : Int) (v6 : List T) : FF (n + 1) 56 [.agg [.int .i64 v0, .int .i64 v1, .fr (.ts v2)], .one (.int .i64 v3), .agg [.int .i64 v4, .int .i64 v5, .fr (.ts v6)]] [] =
 ((FF n 59 [.agg [.int .i64 v0, .int .i64 v1, .fr (.ts v2)]] []).bind fun x0 =>
 (ar x0.1 fun x1 x2 =>
 (ai x2 (aj x0.2
 (cond (!x1)
 (some ([.agg [.int .i64 0, .int .i64 0, .fr (.ts [])], .one (.bool false)], []))
 ((FF n 59 [.agg [.int .i64 v4, .int .i64 v5, .fr (.ts v6)]] []).bind fun x3 =>
 (ar x3.1 fun x4 x5 =>
 (ai x5 (aj x3.2
 (cond (!x4)
 (some ([.agg [.int .i64 0, .int .i64 0, .fr (.ts [])], .one (.bool false)], []))
 ((FF n 60 [.one (.int .i64 v3), .one (.int .i64 0), .one (.int .i64 20)] []).bind fun x6 =>
 (ar x6.1 fun x7 x8 =>
 (ai x8 (aj x6.2
 (cond (!x7)
 (some ([.agg [.int .i64 0, .int .i64 0, .fr (.ts [])], .one (.bool false)], []))
 ((FF n 97 [.agg [.int .i64 v0, .int .i64 v1, .fr (.ts v2)], .one (.int .i64 v3), .agg [.int .i64 v4, .int .i64 v5, .fr (.ts v6)]] []).bind fun x9 =>
 (ah x9.1 fun x10 x11 =>
 (ar x11 fun x12 x13 =>
 (ai x13 (aj x9.2
 (some ([.agg [.int .i64 x10.k, .int .i64 x10.n, .fr (.ts x10.kids)], .one (.bool x12)], [])))))))))))))))))))))) := by kernel_rfl
theorem xo (n : Nat) (v0 : List T) (v1 v2 : Int) (v3 : List T) : FF (n + 1) 57 [.one (.fr (.ts v0)), .agg [.int .i64 v1, .int .i64 v2, .fr (.ts v3)]] [] =
 ((FF n 100 [.agg [.fr (.ts v0), .int .i64 v1, .int .i64 v2, .fr (.ts v3), .fn 98 [0, 1]]] [.cells [.fr (.ts v0)], .cells [.int .i64 v1, .int .i64 v2, .fr (.ts v3)]]).bind fun x0 =>
 (ba x0.2 fun x1 x2 =>
 (tsC x1 fun x3 x4 =>
 (bh x4
 (ba x2 fun x5 x6 =>
 (bj .i64 x5 fun x7 x8 =>
 (bj .i64 x8 fun x9 x10 =>
 (tsC x10 fun x11 x12 =>
 (bh x12
 (ah x0.1 fun x13 x14 =>
 (aw .i64 x14 fun x15 x16 =>
 (ai x16 (aj x6
 (some ([.agg [.int .i64 x13.k, .int .i64 x13.n, .fr (.ts x13.kids)], .one (.int .i64 x15)], []))))))))))))))) := by kernel_rfl
noncomputable def eI (n c : Nat) (v0 : List T) (v1 v2 v3 v4 : Int) (v5 : List T) (v6 v7 : Int) (v8 : List T) : OR := aR Tryz.prog SS n 58 0 [1, 1, 0, 1, 0] [] c ⟨[aa, aa, .v (.one (.ptr 0 0)), .v (.one (.ptr 2 0)), aa, aa, aa, aa, aa, aa, aa, aa, .v (.one (.fr (.ts v0))), .v (.one (.int .i64 v1)), .v (.one (.int .i64 v2)), aa, aa, aa, aa, aa, aa, aa, aa, aa, aa, aa, aa],
 [.cells [.int .i64 v3, .int .i64 v4, .own 1 0], .arr 25 (.ts v5) 0 false, .cells [.int .i64 v6, .int .i64 v7, .own 3 0], .arr 25 (.ts v8) 0 false]⟩
theorem g7 (n c : Nat) (v0 : List T) (v1 v2 v3 v4 : Int) (v5 : List T) (v6 v7 : Int) (v8 : List T) : eI n (c + 1) v0 v1 v2 v3 v4 v5 v6 v7 v8 =
 (cond (decide (v2 < v1))
 (cond (decide (0 ≤ v2))
 (v0[(v2 : Int).toNat]?.bind fun x0 =>
 ((FF n 58 [.agg [.int .i64 x0.k, .int .i64 x0.n, .fr (.ts x0.kids)]] []).bind fun x1 =>
 (ah x1.1 fun x2 x3 =>
 (ai x3 (aj x1.2
 (cond (cn (v8 ++ [(T.mk x2.k x2.n x2.kids)]).length)
 (eI n c v0 v1 (IntKind.i64.wrap (v2 + 1)) v3 v4 v5 v6 v7 (v8 ++ [(T.mk x2.k x2.n x2.kids)]))
 none))))))
 none)
 (some ([.agg [.int .i64 v6, .int .i64 v7, .fr (.ts v8)]], []))) := by kernel_rfl
theorem CD (n : Nat) (v0 v1 : Int) (v2 : List T) : FF (n + 1) 58 [.agg [.int .i64 v0, .int .i64 v1, .fr (.ts v2)]] [] =
 eI n n v2 ((v2.length : Int) : Int) 0 0 0 ([]) v0 v1 ([]) := by kernel_rfl
theorem og (n : Nat) (v0 v1 : Int) (v2 : List T) : FF (n + 1) 59 [.agg [.int .i64 v0, .int .i64 v1, .fr (.ts v2)]] [] =
 ((FF n 101 [.agg [.int .i64 v0, .int .i64 v1, .fr (.ts v2)], .one (.int .i64 1), .one (.ptr 0 0)] [.cells [.int .i64 0]]).bind fun x0 =>
 (ba x0.2 fun x1 x2 =>
 (bj .i64 x1 fun x3 x4 =>
 (bh x4
 (ar x0.1 fun x5 x6 =>
 (ai x6 (aj x2
 (some ([.one (.bool x5)], []))))))))) := by kernel_rfl
theorem ud (n : Nat) (v0 v1 v2 : Int) : FF (n + 1) 60 [.one (.int .i64 v0), .one (.int .i64 v1), .one (.int .i64 v2)] [] =
 (cond (decide (v1 ≤ v0))
 (some ([.one (.bool (decide (v0 ≤ v2)))], []))
 (some ([.one (.bool false)], []))) := by kernel_rfl
theorem qI (n : Nat) (v0 v1 : Int) (v2 : List T) : FF (n + 1) 61 [.agg [.int .i64 v0, .int .i64 v1, .fr (.ts v2)]] [] =
 ((FF n 102 [.agg [.int .i64 v0, .int .i64 v1, .fr (.ts v2)], .one (.int .i64 0), .one (.fn 103 [0])] [.cells [.int .i64 0]]).bind fun x0 =>
 (ba x0.2 fun x1 x2 =>
 (bj .i64 x1 fun x3 x4 =>
 (bh x4
 (ai x0.1 (aj x2
 (some ([.one (.int .i64 x3)], [])))))))) := by kernel_rfl
noncomputable def fG (n c : Nat) (v0 : List T) (v1 v2 : Int) : OR := aR Tryz.prog SS n 62 0 [1, 1, 0, 1, 0] [] c ⟨[aa, aa, aa, aa, aa, aa, aa, aa, aa, aa, aa, aa, .v (.one (.fr (.ts v0))), .v (.one (.int .i64 v1)), .v (.one (.int .i64 v2)), aa, aa, aa, aa, aa, aa, aa, aa, aa, aa, aa, aa, aa, aa, aa],
 []⟩
theorem iC (n c : Nat) (v0 : List T) (v1 v2 : Int) : fG n (c + 1) v0 v1 v2 =
 (cond (decide (v2 < v1))
 (cond (decide (0 ≤ v2))
 (v0[(v2 : Int).toNat]?.bind fun x0 =>
 ((FF n 62 [.agg [.int .i64 x0.k, .int .i64 x0.n, .fr (.ts x0.kids)]] []).bind fun x1 =>
 (rIs x1.1 fun x2 x3 =>
 (ar x3 fun x4 x5 =>
 (ai x5 (aj x1.2
 (cond x4
 (cond (cn ([v2] ++ x2).length)
 (some ([.one (.fr (.is ([v2] ++ x2))), .one (.bool true)], []))
 none)
 (fG n c v0 v1 (IntKind.i64.wrap (v2 + 1))))))))))
 none)
 (some ([.one (.fr (.is [])), .one (.bool false)], []))) := by kernel_rfl
theorem xW (n : Nat) (v0 v1 : Int) (v2 : List T) : FF (n + 1) 62 [.agg [.int .i64 v0, .int .i64 v1, .fr (.ts v2)]] [] =
 ((FF n 104 [.agg [.int .i64 v0, .int .i64 v1, .fr (.ts v2)]] []).bind fun x0 =>
 (aw .i64 x0.1 fun x1 x2 =>
 (ai x2 (aj x0.2
 (cond (!decide (x1 = 0))
 (some ([.one (.fr (.is [])), .one (.bool true)], []))
 (fG n n v2 ((v2.length : Int) : Int) 0)))))) := by kernel_rfl
noncomputable def dE (n c : Nat) (v0 : Int) (v1 : List T) (v2 v3 v4 : Int) (v5 : List T) (v6 v7 : Int) (v8 : List T) : OR := aR Tryz.prog SS n 63 0 [1, 1, 1, 0, 1, 0] [] c ⟨[.v (.one (.int .i64 v0)), .v (.one (.fr (.ts v1))), aa, aa, aa, aa, .v (.one (.ptr 0 0)), aa, .v (.one (.ptr 2 0)), .v (.one (.int .i64 v2)), aa, aa, aa, aa, aa, aa, aa, aa, aa, aa, aa, aa, aa, aa, aa, aa, aa, aa, aa, aa, aa, aa, aa, aa, aa, aa, aa, aa, aa, aa],
 [.cells [.int .i64 v3, .int .i64 v4, .own 1 0], .arr 25 (.ts v5) 0 false, .cells [.int .i64 v6, .int .i64 v7, .fr (.ts v8)]]⟩
theorem gR (n c : Nat) (v0 : Int) (v1 : List T) (v2 v3 v4 : Int) (v5 : List T) (v6 v7 : Int) (v8 : List T) : dE n (c + 1) v0 v1 v2 v3 v4 v5 v6 v7 v8 =
 (cond (decide (0 ≤ v2))
 (cond (decide (0 ≤ v2))
 (v1[(v2 : Int).toNat]?.bind fun x0 =>
 ((FF n 70 [.one (.int .i64 v0), .one (.fr (.ts [(T.mk x0.k x0.n x0.kids), (T.mk v6 v7 v8)]))] []).bind fun x1 =>
 (ah x1.1 fun x2 x3 =>
 (ai x3 (aj x1.2
 (dE n c v0 v1 (IntKind.i64.wrap (v2 - 1)) v3 v4 v5 (x2.k) (x2.n) (x2.kids)))))))
 none)
 ((FF n 58 [.agg [.int .i64 v6, .int .i64 v7, .fr (.ts v8)]] []).bind fun x0 =>
 (ah x0.1 fun x1 x2 =>
 (ai x2 (aj x0.2
 ((FF n 71 [.agg [.int .i64 x1.k, .int .i64 x1.n, .fr (.ts x1.kids)]] []).bind fun x3 =>
 (ah x3.1 fun x4 x5 =>
 (ar x5 fun x6 x7 =>
 (ai x7 (aj x3.2
 (some ([.agg [.int .i64 x4.k, .int .i64 x4.n, .fr (.ts x4.kids)], .one (.bool x6)], [])))))))))))) := by kernel_rfl
theorem zV (n : Nat) (v0 : Int) (v1 : List T) (v2 v3 : Int) (v4 : List T) : FF (n + 1) 63 [.one (.int .i64 v0), .one (.fr (.ts v1)), .agg [.int .i64 v2, .int .i64 v3, .fr (.ts v4)]] [] =
 ((FF n 69 [.one (.fr (.ts v1))] []).bind fun x0 =>
 (ar x0.1 fun x1 x2 =>
 (ai x2 (aj x0.2
 (cond (!x1)
 (some ([.agg [.int .i64 0, .int .i64 0, .fr (.ts [])], .one (.bool false)], []))
 ((FF n 59 [.agg [.int .i64 v2, .int .i64 v3, .fr (.ts v4)]] []).bind fun x3 =>
 (ar x3.1 fun x4 x5 =>
 (ai x5 (aj x3.2
 (cond (!x4)
 (some ([.agg [.int .i64 0, .int .i64 0, .fr (.ts [])], .one (.bool false)], []))
 (dE n n v0 v1 (IntKind.i64.wrap ((v1.length : Int) - 1)) 0 0 ([]) v2 v3 v4))))))))))) := by kernel_rfl
noncomputable def eN (n c : Nat) (v0 : List T) (v1 : Int) : OR := aR Tryz.prog SS n 64 0 [1, 0, 1, 0] [] c ⟨[.v (.one (.fr (.ts v0))), aa, aa, .v (.one (.int .i64 v1)), aa, aa, aa, aa, aa, aa, aa, aa, aa, aa, aa, aa, aa, aa, aa],
 []⟩
theorem g9 (n c : Nat) (v0 : List T) (v1 : Int) : eN n (c + 1) v0 v1 =
 (cond (decide (v1 < (v0.length : Int)))
 (cond (decide (0 ≤ v1))
 (v0[(v1 : Int).toNat]?.bind fun x0 =>
 ((FF n 65 [.agg [.int .i64 x0.k, .int .i64 x0.n, .fr (.ts x0.kids)]] []).bind fun x1 =>
 (ar x1.1 fun x2 x3 =>
 (ai x3 (aj x1.2
 (cond (!x2)
 (some ([.one (.bool false)], []))
 (eN n c v0 (IntKind.i64.wrap (v1 + 1)))))))))
 none)
 (some ([.one (.bool (decide ((v0.length : Int) ≤ 8)))], []))) := by kernel_rfl
theorem tt (n : Nat) (v0 : List T) : FF (n + 1) 64 [.one (.fr (.ts v0))] [] =
 eN n n v0 0 := by kernel_rfl
theorem oe (n : Nat) (v0 v1 : Int) (v2 : List T) : FF (n + 1) 65 [.agg [.int .i64 v0, .int .i64 v1, .fr (.ts v2)]] [] =
 ((FF n 105 [.agg [.int .i64 v0, .int .i64 v1, .fr (.ts v2)], .one (.int .i64 30)] []).bind fun x0 =>
 (ar x0.1 fun x1 x2 =>
 (ai x2 (aj x0.2
 (cond x1
 ((FF n 106 [.agg [.int .i64 v0, .int .i64 v1, .fr (.ts v2)], .one (.int .i64 400)] []).bind fun x3 =>
 (aw .i64 x3.1 fun x4 x5 =>
 (ai x5 (aj x3.2
 (some ([.one (.bool (decide (x4 ≤ 400)))], []))))))
 (some ([.one (.bool false)], []))))))) := by kernel_rfl
noncomputable def eC (n c : Nat) (v0 : Int) (v1 : List T) (v2 v3 v4 : Int) (v5 : List T) (v6 v7 : Int) (v8 : List T) : OR := aR Tryz.prog SS n 67 0 [1, 1, 0, 1, 0] [] c ⟨[.v (.one (.int .i64 v0)), .v (.one (.fr (.ts v1))), aa, aa, aa, aa, .v (.one (.ptr 0 0)), .v (.one (.ptr 2 0)), .v (.one (.int .i64 v2)), aa, aa, aa, aa, aa, aa, aa, aa, aa, aa, aa, aa, aa, aa, aa, aa, aa, aa, aa],
 [.cells [.int .i64 v3, .int .i64 v4, .own 1 0], .arr 25 (.ts v5) 0 false, .cells [.int .i64 v6, .int .i64 v7, .own 3 0], .arr 25 (.ts v8) 0 false]⟩
noncomputable def dc (n c : Nat) (v0 : Int) (v1 : List T) (v2 v3 v4 : Int) (v5 : List T) (v6 v7 : Int) (v8 : List T) : OR := aR Tryz.prog SS n 67 0 [1, 1, 0, 1, 0] [] c ⟨[.v (.one (.int .i64 v0)), .v (.one (.fr (.ts v1))), aa, aa, aa, aa, .v (.one (.ptr 0 0)), .v (.one (.ptr 2 0)), .v (.one (.int .i64 v2)), aa, aa, aa, aa, aa, aa, aa, aa, aa, aa, aa, aa, aa, aa, aa, aa, aa, aa, aa],
 [.cells [.int .i64 v3, .int .i64 v4, .own 1 0], .arr 25 (.ts v5) 0 false, .cells [.int .i64 v6, .int .i64 v7, .fr (.ts v8)]]⟩
theorem fJ (n c : Nat) (v0 : Int) (v1 : List T) (v2 v3 v4 : Int) (v5 : List T) (v6 v7 : Int) (v8 : List T) : eC n (c + 1) v0 v1 v2 v3 v4 v5 v6 v7 v8 =
 (cond (decide (0 ≤ v2))
 (cond (decide (0 ≤ v2))
 (v1[(v2 : Int).toNat]?.bind fun x0 =>
 ((FF n 90 [.agg [.int .i64 x0.k, .int .i64 x0.n, .fr (.ts x0.kids)]] []).bind fun x1 =>
 (fL 0 x1.1 fun x2 x3 x4 =>
 (cf 25 x1.2 fun x5 x6 =>
 (ai x4 (aj x6
 ((FF n 81 [.one (.int .i64 v0), .one (.fr (.ts [(T.mk x2 x3 x5), (T.mk v6 v7 v8)]))] []).bind fun x7 =>
 (ah x7.1 fun x8 x9 =>
 (ai x9 (aj x7.2
 (dc n c v0 v1 (IntKind.i64.wrap (v2 - 1)) v3 v4 v5 (x8.k) (x8.n) (x8.kids))))))))))))
 none)
 (some ([.agg [.int .i64 v6, .int .i64 v7, .fr (.ts v8)]], []))) := by kernel_rfl
theorem fI (n c : Nat) (v0 : Int) (v1 : List T) (v2 v3 v4 : Int) (v5 : List T) (v6 v7 : Int) (v8 : List T) : dc n (c + 1) v0 v1 v2 v3 v4 v5 v6 v7 v8 =
 (cond (decide (0 ≤ v2))
 (cond (decide (0 ≤ v2))
 (v1[(v2 : Int).toNat]?.bind fun x0 =>
 ((FF n 90 [.agg [.int .i64 x0.k, .int .i64 x0.n, .fr (.ts x0.kids)]] []).bind fun x1 =>
 (fL 0 x1.1 fun x2 x3 x4 =>
 (cf 25 x1.2 fun x5 x6 =>
 (ai x4 (aj x6
 ((FF n 81 [.one (.int .i64 v0), .one (.fr (.ts [(T.mk x2 x3 x5), (T.mk v6 v7 v8)]))] []).bind fun x7 =>
 (ah x7.1 fun x8 x9 =>
 (ai x9 (aj x7.2
 (dc n c v0 v1 (IntKind.i64.wrap (v2 - 1)) v3 v4 v5 (x8.k) (x8.n) (x8.kids))))))))))))
 none)
 (some ([.agg [.int .i64 v6, .int .i64 v7, .fr (.ts v8)]], []))) := by kernel_rfl
theorem s8 (n : Nat) (v0 : Int) (v1 : List T) (v2 v3 : Int) (v4 : List T) : FF (n + 1) 67 [.one (.int .i64 v0), .one (.fr (.ts v1)), .agg [.int .i64 v2, .int .i64 v3, .fr (.ts v4)]] [] =
 ((FF n 90 [.agg [.int .i64 v2, .int .i64 v3, .fr (.ts v4)]] []).bind fun x0 =>
 (fL 0 x0.1 fun x1 x2 x3 =>
 (cf 25 x0.2 fun x4 x5 =>
 (ai x3 (aj x5
 (eC n n v0 v1 (IntKind.i64.wrap ((v1.length : Int) - 1)) 0 0 ([]) x1 x2 x4)))))) := by kernel_rfl
theorem uc (n : Nat) (v0 v1 : Int) (v2 : List T) : FF (n + 1) 66 [.agg [.int .i64 v0, .int .i64 v1, .fr (.ts v2)]] [] =
 ((FF n 65 [.agg [.int .i64 v0, .int .i64 v1, .fr (.ts v2)]] []).bind fun x0 =>
 (ar x0.1 fun x1 x2 =>
 (ai x2 (aj x0.2
 (cond (!x1)
 (some ([.agg [.int .i64 0, .int .i64 0, .fr (.ts [])], .one (.bool false)], []))
 (some ([.agg [.int .i64 v0, .int .i64 v1, .fr (.ts v2)], .one (.bool true)], []))))))) := by kernel_rfl
theorem jC (n : Nat) (v0 : Int) : FF (n + 1) 68 [.one (.int .i64 v0)] [] =
 some ([.agg [.int .i64 1, .int .i64 v0, .fr (.ts [])]], []) := by kernel_rfl
theorem py (n : Nat) (v0 : List T) : FF (n + 1) 69 [.one (.fr (.ts v0))] [] =
 (cond (decide ((v0.length : Int) ≤ 8))
 ((FF n 93 [.one (.fr (.ts v0)), .one (.fn 107 [])] []).bind fun x0 =>
 (ar x0.1 fun x1 x2 =>
 (ai x2 (aj x0.2
 (some ([.one (.bool (!x1))], []))))))
 (some ([.one (.bool false)], []))) := by kernel_rfl
theorem zU (n : Nat) (v0 : Int) (v1 : List T) : FF (n + 1) 70 [.one (.int .i64 v0), .one (.fr (.ts v1))] [] =
 some ([.agg [.int .i64 v0, .int .i64 0, .fr (.ts v1)]], []) := by kernel_rfl
theorem xt (n : Nat) (v0 v1 : Int) (v2 : List T) : FF (n + 1) 71 [.agg [.int .i64 v0, .int .i64 v1, .fr (.ts v2)]] [] =
 ((FF n 59 [.agg [.int .i64 v0, .int .i64 v1, .fr (.ts v2)]] []).bind fun x0 =>
 (ar x0.1 fun x1 x2 =>
 (ai x2 (aj x0.2
 (cond (!x1)
 (some ([.agg [.int .i64 0, .int .i64 0, .fr (.ts [])], .one (.bool false)], []))
 (some ([.agg [.int .i64 v0, .int .i64 v1, .fr (.ts v2)], .one (.bool true)], []))))))) := by kernel_rfl
theorem lJ (n : Nat) (v0 : List T) (v1 v2 : Int) (v3 : List T) : FF (n + 1) 72 [.one (.fr (.ts v0)), .agg [.int .i64 v1, .int .i64 v2, .fr (.ts v3)]] [] =
 ((FF n 74 [.one (.fr (.ts v0)), .agg [.int .i64 v1, .int .i64 v2, .fr (.ts v3)]] []).bind fun x0 =>
 (ah x0.1 fun x1 x2 =>
 (aw .i64 x2 fun x3 x4 =>
 (ai x4 (aj x0.2
 (cond (!decide (x3 = 0))
 (some ([.one (.int .i64 0), .one (.int .i64 x3)], []))
 ((FF n 108 [.agg [.int .i64 x1.k, .int .i64 x1.n, .fr (.ts x1.kids)]] []).bind fun x5 =>
 (ah x5.1 fun x6 x7 =>
 (aw .i64 x7 fun x8 x9 =>
 (ai x9 (aj x5.2
 (cond (!decide (x8 = 0))
 (some ([.one (.int .i64 0), .one (.int .i64 x8)], []))
 (cond (!decide (x6.k = 2))
 (some ([.one (.int .i64 0), .one (.int .i64 1)], []))
 (some ([.one (.int .i64 x6.n), .one (.int .i64 0)], []))))))))))))))) := by kernel_rfl
theorem xD (n : Nat) (v0 v1 : Int) (v2 : List T) (v3 v4 : Int) : FF (n + 1) 73 [.agg [.int .i64 v0, .int .i64 v1, .fr (.ts v2)], .one (.int .i64 v3), .one (.int .i64 v4)] [] =
 ((FF n 109 [.agg [.int .i64 v0, .int .i64 v1, .fr (.ts v2)], .one (.int .i64 0), .one (.fn 110 [0, 1, 2])] [.cells [.int .i64 v4], .cells [.int .i64 v3], .cells [.bool true]]).bind fun x0 =>
 (ba x0.2 fun x1 x2 =>
 (bj .i64 x1 fun x3 x4 =>
 (bh x4
 (ba x2 fun x5 x6 =>
 (bj .i64 x5 fun x7 x8 =>
 (bh x8
 (ba x6 fun x9 x10 =>
 (oq x9 fun x11 x12 =>
 (bh x12
 (ah x0.1 fun x13 x14 =>
 (ai x14 (aj x10
 (cond (!x11)
 (some ([.agg [.int .i64 0, .int .i64 0, .fr (.ts [])], .one (.bool false)], []))
 ((FF n 71 [.agg [.int .i64 x13.k, .int .i64 x13.n, .fr (.ts x13.kids)]] []).bind fun x15 =>
 (ah x15.1 fun x16 x17 =>
 (ar x17 fun x18 x19 =>
 (ai x19 (aj x15.2
 (some ([.agg [.int .i64 x16.k, .int .i64 x16.n, .fr (.ts x16.kids)], .one (.bool x18)], []))))))))))))))))))))) := by kernel_rfl
theorem rE (n : Nat) (v0 : List T) (v1 v2 : Int) (v3 : List T) : FF (n + 1) 74 [.one (.fr (.ts v0)), .agg [.int .i64 v1, .int .i64 v2, .fr (.ts v3)]] [] =
 ((FF n 65 [.agg [.int .i64 v1, .int .i64 v2, .fr (.ts v3)]] []).bind fun x0 =>
 (ar x0.1 fun x1 x2 =>
 (ai x2 (aj x0.2
 (cond (!x1)
 (some ([.agg [.int .i64 0, .int .i64 0, .fr (.ts [])], .one (.int .i64 2)], []))
 (cond (decide (20 < (v0.length : Int)))
 (some ([.agg [.int .i64 0, .int .i64 0, .fr (.ts [])], .one (.int .i64 2)], []))
 ((FF n 111 [.one (.fr (.ts v0)), .agg [.int .i64 v1, .int .i64 v2, .fr (.ts v3)]] []).bind fun x3 =>
 (ah x3.1 fun x4 x5 =>
 (aw .i64 x5 fun x6 x7 =>
 (ai x7 (aj x3.2
 (cond (!decide (x6 = 0))
 (some ([.agg [.int .i64 0, .int .i64 0, .fr (.ts [])], .one (.int .i64 x6)], []))
 ((FF n 65 [.agg [.int .i64 x4.k, .int .i64 x4.n, .fr (.ts x4.kids)]] []).bind fun x8 =>
 (ar x8.1 fun x9 x10 =>
 (ai x10 (aj x8.2
 (cond (!x9)
 (some ([.agg [.int .i64 0, .int .i64 0, .fr (.ts [])], .one (.int .i64 2)], []))
 (some ([.agg [.int .i64 x4.k, .int .i64 x4.n, .fr (.ts x4.kids)], .one (.int .i64 0)], []))))))))))))))))))) := by kernel_rfl
theorem jg (n : Nat) (v0 v1 : Int) (v2 : List T) (v3 : Int) : FF (n + 1) 75 [.agg [.int .i64 v0, .int .i64 v1, .fr (.ts v2)], .one (.int .i64 v3)] [] =
 (cond (!decide (v3 = 0))
 (some ([.agg [.int .i64 0, .int .i64 0, .fr (.ts [])], .one (.int .i64 v3)], []))
 ((FF n 90 [.agg [.int .i64 v0, .int .i64 v1, .fr (.ts v2)]] []).bind fun x0 =>
 (fL 0 x0.1 fun x1 x2 x3 =>
 (cf 25 x0.2 fun x4 x5 =>
 (ai x3 (aj x5
 (some ([.agg [.int .i64 x1, .int .i64 x2, .fr (.ts x4)], .one (.int .i64 v3)], [])))))))) := by kernel_rfl
noncomputable def bz (n c : Nat) (v0 v1 v2 v3 : Int) (v4 : List T) (v5 v6 : Int) (v7 : List T) : OR := aR Tryz.prog SS n 76 0 [1, 1, 1, 0] [] c ⟨[aa, .v (.one (.int .i64 v0)), .v (.one (.fn 62 [])), .v (.one (.ptr 0 0)), aa, aa, .v (.one (.ptr 1 0)), aa, aa, .v (.one (.int .i64 v1)), aa, aa, aa, aa, aa, aa, aa, aa, aa, aa, aa, aa, aa, aa, aa, aa, aa, aa, aa, aa, aa, aa, aa, aa, aa, aa, aa, aa, aa, aa, aa, aa, aa, aa, aa, aa, aa, aa, aa, aa, aa],
 [.cells [.int .i64 v2, .int .i64 v3, .fr (.ts v4)], .cells [.int .i64 v5, .int .i64 v6, .own 2 0], .arr 25 (.ts v7) 0 false]⟩
theorem eT (n c : Nat) (v0 v1 v2 v3 : Int) (v4 : List T) (v5 v6 : Int) (v7 : List T) : bz n (c + 1) v0 v1 v2 v3 v4 v5 v6 v7 =
 ((FF n 62 [.agg [.int .i64 v2, .int .i64 v3, .fr (.ts v4)]] []).bind fun x0 =>
 (rIs x0.1 fun x1 x2 =>
 (ar x2 fun x3 x4 =>
 (ai x4 (aj x0.2
 (cond (!x3)
 ((FF n 58 [.agg [.int .i64 v2, .int .i64 v3, .fr (.ts v4)]] []).bind fun x5 =>
 (ah x5.1 fun x6 x7 =>
 (ai x7 (aj x5.2
 (some ([.agg [.int .i64 x6.k, .int .i64 x6.n, .fr (.ts x6.kids)], .one (.int .i64 v1), .one (.int .i64 0)], []))))))
 (cond (decide (v1 = v0))
 (some ([.agg [.int .i64 0, .int .i64 0, .fr (.ts [])], .one (.int .i64 v1), .one (.int .i64 1)], []))
 ((FF n 112 [.agg [.int .i64 v2, .int .i64 v3, .fr (.ts v4)], .one (.fr (.is x1))] []).bind fun x5 =>
 (ah x5.1 fun x6 x7 =>
 (ar x7 fun x8 x9 =>
 (ai x9 (aj x5.2
 (cond (!x8)
 (some ([.agg [.int .i64 0, .int .i64 0, .fr (.ts [])], .one (.int .i64 v1), .one (.int .i64 2)], []))
 (bz n c v0 (IntKind.i64.wrap (v1 + 1)) (x6.k) (x6.n) (x6.kids) v5 v6 v7)))))))))))))) := by kernel_rfl
theorem iD (n : Nat) (v0 v1 : Int) (v2 : List T) (v3 : Int) : FF (n + 1) 76 [.agg [.int .i64 v0, .int .i64 v1, .fr (.ts v2)], .one (.int .i64 v3), .one (.fn 62 [])] [] =
 ((FF n 59 [.agg [.int .i64 v0, .int .i64 v1, .fr (.ts v2)]] []).bind fun x0 =>
 (ar x0.1 fun x1 x2 =>
 (ai x2 (aj x0.2
 (cond (!x1)
 (some ([.agg [.int .i64 0, .int .i64 0, .fr (.ts [])], .one (.int .i64 0), .one (.int .i64 3)], []))
 ((FF n 60 [.one (.int .i64 v3), .one (.int .i64 0), .one (.int .i64 200)] []).bind fun x3 =>
 (ar x3.1 fun x4 x5 =>
 (ai x5 (aj x3.2
 (cond (!x4)
 (some ([.agg [.int .i64 0, .int .i64 0, .fr (.ts [])], .one (.int .i64 0), .one (.int .i64 3)], []))
 (bz n n v3 0 v0 v1 v2 0 0 ([])))))))))))) := by kernel_rfl
theorem jw (n : Nat) (v0 v1 : Int) (v2 : List T) : FF (n + 1) 77 [.agg [.int .i64 v0, .int .i64 v1, .fr (.ts v2)], .one (.fn 62 [])] [] =
 ((FF n 59 [.agg [.int .i64 v0, .int .i64 v1, .fr (.ts v2)]] []).bind fun x0 =>
 (ar x0.1 fun x1 x2 =>
 (ai x2 (aj x0.2
 (cond (!x1)
 (some ([.agg [.int .i64 0, .int .i64 0, .fr (.ts [])], .one (.int .i64 3)], []))
 ((FF n 62 [.agg [.int .i64 v0, .int .i64 v1, .fr (.ts v2)]] []).bind fun x3 =>
 (rIs x3.1 fun x4 x5 =>
 (ar x5 fun x6 x7 =>
 (ai x7 (aj x3.2
 (cond (!x6)
 ((FF n 58 [.agg [.int .i64 v0, .int .i64 v1, .fr (.ts v2)]] []).bind fun x8 =>
 (ah x8.1 fun x9 x10 =>
 (ai x10 (aj x8.2
 (some ([.agg [.int .i64 x9.k, .int .i64 x9.n, .fr (.ts x9.kids)], .one (.int .i64 0)], []))))))
 ((FF n 112 [.agg [.int .i64 v0, .int .i64 v1, .fr (.ts v2)], .one (.fr (.is x4))] []).bind fun x8 =>
 (ah x8.1 fun x9 x10 =>
 (ar x10 fun x11 x12 =>
 (ai x12 (aj x8.2
 (cond (!x11)
 (some ([.agg [.int .i64 0, .int .i64 0, .fr (.ts [])], .one (.int .i64 2)], []))
 (some ([.agg [.int .i64 x9.k, .int .i64 x9.n, .fr (.ts x9.kids)], .one (.int .i64 1)], []))))))))))))))))))) := by kernel_rfl
theorem jr (n : Nat) (v0 v1 : Int) (v2 : List T) : FF (n + 1) 77 [.agg [.int .i64 v0, .int .i64 v1, .fr (.ts v2)], .one (.fn 78 [])] [] =
 ((FF n 59 [.agg [.int .i64 v0, .int .i64 v1, .fr (.ts v2)]] []).bind fun x0 =>
 (ar x0.1 fun x1 x2 =>
 (ai x2 (aj x0.2
 (cond (!x1)
 (some ([.agg [.int .i64 0, .int .i64 0, .fr (.ts [])], .one (.int .i64 3)], []))
 ((FF n 78 [.agg [.int .i64 v0, .int .i64 v1, .fr (.ts v2)]] []).bind fun x3 =>
 (rIs x3.1 fun x4 x5 =>
 (ar x5 fun x6 x7 =>
 (ai x7 (aj x3.2
 (cond (!x6)
 ((FF n 58 [.agg [.int .i64 v0, .int .i64 v1, .fr (.ts v2)]] []).bind fun x8 =>
 (ah x8.1 fun x9 x10 =>
 (ai x10 (aj x8.2
 (some ([.agg [.int .i64 x9.k, .int .i64 x9.n, .fr (.ts x9.kids)], .one (.int .i64 0)], []))))))
 ((FF n 112 [.agg [.int .i64 v0, .int .i64 v1, .fr (.ts v2)], .one (.fr (.is x4))] []).bind fun x8 =>
 (ah x8.1 fun x9 x10 =>
 (ar x10 fun x11 x12 =>
 (ai x12 (aj x8.2
 (cond (!x11)
 (some ([.agg [.int .i64 0, .int .i64 0, .fr (.ts [])], .one (.int .i64 2)], []))
 (some ([.agg [.int .i64 x9.k, .int .i64 x9.n, .fr (.ts x9.kids)], .one (.int .i64 1)], []))))))))))))))))))) := by kernel_rfl
theorem vV (n : Nat) (v0 : List UInt8) (v1 : Int) : FF (n + 1) 80 [.one (.ptr 0 0)] [.cells [.fr (.bs v0), .int .i64 v1]] =
 ((FF n 86 [.one (.ptr 0 0), .one (.fr (.is [3, 4, 2, 3, 1]))] [.cells [.fr (.bs v0), .int .i64 v1]]).bind fun x0 =>
 (ba x0.2 fun x1 x2 =>
 (bsC x1 fun x3 x4 =>
 (bj .i64 x4 fun x5 x6 =>
 (bh x6
 (aw .i64 x0.1 fun x7 x8 =>
 (ai x8 (aj x2
 ((FF n 113 [.one (.ptr 0 0), .one (.int .i64 x7)] [.cells [.fr (.bs x3), .int .i64 x5]]).bind fun x9 =>
 (ba x9.2 fun x10 x11 =>
 (bsC x10 fun x12 x13 =>
 (bj .i64 x13 fun x14 x15 =>
 (bh x15
 (ah x9.1 fun x16 x17 =>
 (ai x17 (aj x11
 ((FF n 65 [.agg [.int .i64 x16.k, .int .i64 x16.n, .fr (.ts x16.kids)]] []).bind fun x18 =>
 (ar x18.1 fun x19 x20 =>
 (ai x20 (aj x18.2
 (cond x19
 (some ([.agg [.int .i64 x16.k, .int .i64 x16.n, .fr (.ts x16.kids)]], [.cells [.fr (.bs x12), .int .i64 x14]]))
 ((FF n 82 [.one (.int .i64 7), .one (.int .i64 0)] []).bind fun x21 =>
 (ah x21.1 fun x22 x23 =>
 (ai x23 (aj x21.2
 (some ([.agg [.int .i64 x22.k, .int .i64 x22.n, .fr (.ts x22.kids)]], [.cells [.fr (.bs x12), .int .i64 x14]]))))))))))))))))))))))))))) := by kernel_rfl
theorem dv (n : Nat) (v0 : Int) (v1 : List UInt8) (v2 : Int) : FF (n + 1) 79 [.one (.ptr 0 0), .one (.int .i64 v0)] [.cells [.fr (.bs v1), .int .i64 v2]] =
 (cond (decide (v0 < 1))
 (some ([.one (.int .i64 0)], [.cells [.fr (.bs v1), .int .i64 (IntKind.i64.wrap (v2 + 1))]]))
 (cond (decide ((v1.length : Int) = 0))
 (some ([.one (.int .i64 0)], [.cells [.fr (.bs v1), .int .i64 (IntKind.i64.wrap (v2 + 1))]]))
 (cond (decide ((IntKind.i64.wrap ((IntKind.i64.wrap (v2 + 1)) - 1)) < (v1.length : Int)))
 (cond (decide (0 ≤ (IntKind.i64.wrap ((IntKind.i64.wrap (v2 + 1)) - 1))))
 (v1[((IntKind.i64.wrap ((IntKind.i64.wrap (v2 + 1)) - 1)) : Int).toNat]?.bind fun x0 =>
 (cond (decide (v0 = 0))
 none
 (some ([.one (.int .i64 (Int.tmod (IntKind.i64.wrap (x0.toNat : Int)) v0))], [.cells [.fr (.bs v1), .int .i64 (IntKind.i64.wrap (v2 + 1))]]))))
 none)
 (cond (decide ((v1.length : Int) = 0))
 none
 (cond (decide (0 ≤ (Int.tmod (IntKind.i64.wrap ((IntKind.i64.wrap (v2 + 1)) - 1)) (v1.length : Int))))
 (v1[((Int.tmod (IntKind.i64.wrap ((IntKind.i64.wrap (v2 + 1)) - 1)) (v1.length : Int)) : Int).toNat]?.bind fun x0 =>
 (cond (decide ((v1.length : Int) = 0))
 none
 (cond (decide (0 ≤ (Int.tmod (IntKind.i64.wrap ((IntKind.i64.wrap ((IntKind.i64.wrap ((IntKind.i64.wrap (v2 + 1)) - 1)) * 7)) + 3)) (v1.length : Int))))
 (v1[((Int.tmod (IntKind.i64.wrap ((IntKind.i64.wrap ((IntKind.i64.wrap ((IntKind.i64.wrap (v2 + 1)) - 1)) * 7)) + 3)) (v1.length : Int)) : Int).toNat]?.bind fun x1 =>
 (cond (decide ((v1.length : Int) = 0))
 none
 (cond (decide (v0 = 0))
 none
 (some ([.one (.int .i64 (Int.tmod (IntKind.i64.wrap (BitVec.ofInt IntKind.i64.bits (IntKind.i64.wrap ((IntKind.i64.wrap ((IntKind.i64.wrap ((IntKind.i64.wrap ((IntKind.i64.wrap (x0.toNat : Int)) * 131)) + (IntKind.i64.wrap ((IntKind.i64.wrap (x1.toNat : Int)) * 1117)))) + (IntKind.i64.wrap ((IntKind.i64.wrap ((IntKind.i64.wrap (v2 + 1)) - 1)) * 29)))) + (IntKind.i64.wrap ((IntKind.i64.wrap (Int.tdiv (IntKind.i64.wrap ((IntKind.i64.wrap (v2 + 1)) - 1)) (v1.length : Int))) * 53)))) ^^^ BitVec.ofInt IntKind.i64.bits (IntKind.i64.wrap (Int.tdiv (IntKind.i64.wrap ((IntKind.i64.wrap ((IntKind.i64.wrap ((IntKind.i64.wrap ((IntKind.i64.wrap (x0.toNat : Int)) * 131)) + (IntKind.i64.wrap ((IntKind.i64.wrap (x1.toNat : Int)) * 1117)))) + (IntKind.i64.wrap ((IntKind.i64.wrap ((IntKind.i64.wrap (v2 + 1)) - 1)) * 29)))) + (IntKind.i64.wrap ((IntKind.i64.wrap (Int.tdiv (IntKind.i64.wrap ((IntKind.i64.wrap (v2 + 1)) - 1)) (v1.length : Int))) * 53)))) 64))).toNat) v0))], [.cells [.fr (.bs v1), .int .i64 (IntKind.i64.wrap (v2 + 1))]])))))
 none)))
 none))))) := by kernel_rfl
theorem um (n : Nat) (v0 v1 : Int) : FF (n + 1) 82 [.one (.int .i64 v0), .one (.int .i64 v1)] [] =
 some ([.agg [.int .i64 v0, .int .i64 v1, .fr (.ts [])]], []) := by kernel_rfl
noncomputable def bw (n c : Nat) (v0 v1 v2 v3 v4 : Int) (v5 : List T) (v6 v7 : Int) (v8 : List T) (v9 v10 : Int) (v11 : List T) : OR := aR Tryz.prog SS n 83 0 [1, 1, 1, 0, 1, 0] [] c ⟨[aa, .v (.one (.int .i64 v0)), .v (.one (.int .i64 v1)), .v (.one (.ptr 0 0)), aa, aa, .v (.one (.ptr 1 0)), .v (.one (.ptr 3 0)), .v (.one (.int .i64 v2)), aa, aa, aa, aa, aa, aa, aa, aa, aa, aa, aa, aa, aa, aa, aa, aa, aa, aa, aa, aa, aa, aa, aa, aa, aa, aa, aa, aa, aa, aa, aa, aa, aa, aa, aa, aa, aa, aa, aa, aa, aa, aa, aa, aa, aa],
 [.cells [.int .i64 v3, .int .i64 v4, .fr (.ts v5)], .cells [.int .i64 v6, .int .i64 v7, .own 2 0], .arr 25 (.ts v8) 0 false, .cells [.int .i64 v9, .int .i64 v10, .own 4 0], .arr 25 (.ts v11) 0 false]⟩
theorem eL (n c : Nat) (v0 v1 v2 v3 v4 : Int) (v5 : List T) (v6 v7 : Int) (v8 : List T) (v9 v10 : Int) (v11 : List T) : bw n (c + 1) v0 v1 v2 v3 v4 v5 v6 v7 v8 v9 v10 v11 =
 (cond (decide (v2 < (v5.length : Int)))
 (cond (decide (0 ≤ v2))
 (v5[(v2 : Int).toNat]?.bind fun x0 =>
 ((FF n 114 [.one (.int .i64 v3), .one (.int .i64 v2)] []).bind fun x1 =>
 (aw .i64 x1.1 fun x2 x3 =>
 (ai x3 (aj x1.2
 ((FF n 83 [.agg [.int .i64 x0.k, .int .i64 x0.n, .fr (.ts x0.kids)], .one (.int .i64 v0), .one (.int .i64 (IntKind.i64.wrap (v1 + x2)))] []).bind fun x4 =>
 (ah x4.1 fun x5 x6 =>
 (ai x6 (aj x4.2
 (cond (cn (v11 ++ [(T.mk x5.k x5.n x5.kids)]).length)
 (bw n c v0 v1 (IntKind.i64.wrap (v2 + 1)) v3 v4 v5 v6 v7 v8 v9 v10 (v11 ++ [(T.mk x5.k x5.n x5.kids)]))
 none))))))))))
 none)
 (some ([.agg [.int .i64 v9, .int .i64 v10, .fr (.ts v11)]], []))) := by kernel_rfl
theorem rl (n : Nat) (v0 v1 : Int) (v2 : List T) (v3 v4 : Int) : FF (n + 1) 83 [.agg [.int .i64 v0, .int .i64 v1, .fr (.ts v2)], .one (.int .i64 v3), .one (.int .i64 v4)] [] =
 (cond (decide (v0 = 1))
 (cond (decide (v4 ≤ v1))
 (bw n n v3 v4 0 v0 v1 v2 0 0 ([]) v0 (IntKind.i64.wrap (v1 + v3)) ([]))
 (bw n n v3 v4 0 v0 v1 v2 0 0 ([]) v0 v1 ([])))
 (bw n n v3 v4 0 v0 v1 v2 0 0 ([]) v0 v1 ([]))) := by kernel_rfl
theorem tZ (n : Nat) (v0 : Int) (v1 : List T) : FF (n + 1) 81 [.one (.int .i64 v0), .one (.fr (.ts v1))] [] =
 (cond (cn ([] ++ v1).length)
 (some ([.agg [.int .i64 v0, .int .i64 0, .fr (.ts ([] ++ v1))]], []))
 none) := by kernel_rfl
theorem o7 (n : Nat) (v0 v1 : Int) (v2 : List T) (v3 : List UInt8) (v4 : Int) : FF (n + 1) 84 [.one (.ptr 0 0), .agg [.int .i64 v0, .int .i64 v1, .fr (.ts v2)]] [.cells [.fr (.bs v3), .int .i64 v4]] =
 ((FF n 90 [.agg [.int .i64 v0, .int .i64 v1, .fr (.ts v2)]] []).bind fun x0 =>
 (fL 0 x0.1 fun x1 x2 x3 =>
 (cf 25 x0.2 fun x4 x5 =>
 (ai x3 (aj x5
 ((FF n 79 [.one (.ptr 0 0), .one (.int .i64 50)] [.cells [.fr (.bs v3), .int .i64 v4]]).bind fun x6 =>
 (ba x6.2 fun x7 x8 =>
 (bsC x7 fun x9 x10 =>
 (bj .i64 x10 fun x11 x12 =>
 (bh x12
 (aw .i64 x6.1 fun x13 x14 =>
 (ai x14 (aj x8
 (cond (decide (x13 = 0))
 ((FF n 86 [.one (.ptr 0 0), .one (.fr (.is [0, 17, 1, 5, 6]))] [.cells [.fr (.bs x9), .int .i64 x11]]).bind fun x15 =>
 (ba x15.2 fun x16 x17 =>
 (bsC x16 fun x18 x19 =>
 (bj .i64 x19 fun x20 x21 =>
 (bh x21
 (aw .i64 x15.1 fun x22 x23 =>
 (ai x23 (aj x17
 (some ([.agg [.int .i64 x22, .int .i64 x2, .fr (.ts x4)]], [.cells [.fr (.bs x18), .int .i64 x20]]))))))))))
 (cond (decide (x13 = 1))
 ((FF n 86 [.one (.ptr 0 0), .one (.fr (.is [21, (-1), 1, 9223372036854775807]))] [.cells [.fr (.bs x9), .int .i64 x11]]).bind fun x15 =>
 (ba x15.2 fun x16 x17 =>
 (bsC x16 fun x18 x19 =>
 (bj .i64 x19 fun x20 x21 =>
 (bh x21
 (aw .i64 x15.1 fun x22 x23 =>
 (ai x23 (aj x17
 (some ([.agg [.int .i64 x1, .int .i64 x22, .fr (.ts x4)]], [.cells [.fr (.bs x18), .int .i64 x20]]))))))))))
 (cond (decide (x13 = 2))
 ((FF n 82 [.one (.int .i64 7), .one (.int .i64 0)] []).bind fun x15 =>
 (ah x15.1 fun x16 x17 =>
 (ai x17 (aj x15.2
 (cond (cn (x4 ++ [(T.mk x16.k x16.n x16.kids)]).length)
 (some ([.agg [.int .i64 x1, .int .i64 x2, .fr (.ts (x4 ++ [(T.mk x16.k x16.n x16.kids)]))]], [.cells [.fr (.bs x9), .int .i64 x11]]))
 none)))))
 (cond (decide (x13 = 3))
 ((FF n 81 [.one (.int .i64 8), .one (.fr (.ts [(T.mk x1 x2 x4)]))] []).bind fun x15 =>
 (ah x15.1 fun x16 x17 =>
 (ai x17 (aj x15.2
 (some ([.agg [.int .i64 x16.k, .int .i64 x16.n, .fr (.ts x16.kids)]], [.cells [.fr (.bs x9), .int .i64 x11]]))))))
 (cond (decide (x13 = 4))
 (cond (decide (0 < (x4.length : Int)))
 ((FF n 82 [.one (.int .i64 1), .one (.int .i64 25)] []).bind fun x15 =>
 (ah x15.1 fun x16 x17 =>
 (ai x17 (aj x15.2
 (cond (decide (0 < (x4.length : Int)))
 (some ([.agg [.int .i64 x1, .int .i64 x2, .fr (.ts (x4.set (0 : Int).toNat (T.mk x16.k x16.n x16.kids)))]], [.cells [.fr (.bs x9), .int .i64 x11]]))
 none)))))
 (some ([.agg [.int .i64 x1, .int .i64 x2, .fr (.ts x4)]], [.cells [.fr (.bs x9), .int .i64 x11]])))
 (some ([.agg [.int .i64 x1, .int .i64 x2, .fr (.ts x4)]], [.cells [.fr (.bs x9), .int .i64 x11]])))))))))))))))))))) := by kernel_rfl
theorem rp (n : Nat) (v0 : List T) (v1 v2 : Int) (v3 : List T) (v4 v5 : Int) (v6 : List T) : FF (n + 1) 85 [.one (.fr (.ts v0)), .agg [.int .i64 v1, .int .i64 v2, .fr (.ts v3)], .agg [.int .i64 v4, .int .i64 v5, .fr (.ts v6)]] [] =
 ((FF n 74 [.one (.fr (.ts v0)), .agg [.int .i64 v1, .int .i64 v2, .fr (.ts v3)]] []).bind fun x0 =>
 (ah x0.1 fun x1 x2 =>
 (aw .i64 x2 fun x3 x4 =>
 (ai x4 (aj x0.2
 (cond (!decide (x3 = 0))
 (some ([.one (.int .i64 x3)], []))
 ((FF n 115 [.agg [.int .i64 x1.k, .int .i64 x1.n, .fr (.ts x1.kids)], .agg [.int .i64 v4, .int .i64 v5, .fr (.ts v6)]] []).bind fun x5 =>
 (aw .i64 x5.1 fun x6 x7 =>
 (ai x7 (aj x5.2
 (some ([.one (.int .i64 x6)], [])))))))))))) := by kernel_rfl
theorem oH (n : Nat) (v0 : List Int) (v1 : List UInt8) (v2 : Int) : FF (n + 1) 86 [.one (.ptr 0 0), .one (.fr (.is v0))] [.cells [.fr (.bs v1), .int .i64 v2]] =
 ((FF n 79 [.one (.ptr 0 0), .one (.int .i64 (v0.length : Int))] [.cells [.fr (.bs v1), .int .i64 v2]]).bind fun x0 =>
 (ba x0.2 fun x1 x2 =>
 (bsC x1 fun x3 x4 =>
 (bj .i64 x4 fun x5 x6 =>
 (bh x6
 (aw .i64 x0.1 fun x7 x8 =>
 (ai x8 (aj x2
 (cond (decide (0 ≤ x7))
 (v0[(x7 : Int).toNat]?.bind fun x9 =>
 some ([.one (.int .i64 x9)], [.cells [.fr (.bs x3), .int .i64 x5]]))
 none))))))))) := by kernel_rfl
theorem qN (n : Nat) (v0 : Int) : FF (n + 1) 88 [.one (.int .i64 v0)] [] =
 (cond (decide (v0 = 0))
 (some ([.one (.fr (.ss [])), .one (.fr (.ss [(bytesOf [91, 42, 48, 93, 91, 35, 48, 93, 35, 48]), (bytesOf [91, 78, 93, 33, 35, 48]), (bytesOf [91, 78, 93, 91, 78, 93, 60, 91, 78, 93, 78, 44, 35, 49, 44, 91, 78, 93, 91, 78, 93, 43, 35, 48, 44, 35, 48, 62]), (bytesOf [40, 78, 62, 42, 48, 41]), (bytesOf [40, 91, 42, 48, 93, 91, 35, 48, 93, 35, 48, 32, 78, 41]), (bytesOf [91, 40, 78, 42, 78, 41, 93, 124, 40, 78, 42, 78, 41, 44, 95, 35, 48, 44, 94, 35, 48, 124]), (bytesOf [91, 78, 93, 124, 40, 78, 42, 123, 78, 44, 35, 48, 44, 35, 49, 125, 41, 44, 35, 48, 44, 33, 35, 48, 124]), (bytesOf [91, 78, 93, 91, 78, 93, 91, 123, 78, 44, 35, 49, 44, 35, 48, 125, 93, 64, 60, 91, 78, 93, 123, 78, 44, 35, 48, 44, 35, 51, 125, 44, 35, 48, 44, 33, 35, 50, 62]), (bytesOf [60, 91, 78, 93, 42, 48, 44, 78, 44, 91, 78, 93, 91, 42, 48, 93, 40, 78, 62, 35, 49, 41, 44, 43, 43, 48, 62]), (bytesOf [40, 42, 48, 62, 40, 35, 48, 62, 35, 49, 41, 41]), (bytesOf [91, 42, 48, 93, 91, 40, 35, 48, 62, 35, 49, 41, 93, 35, 48]), (bytesOf [42, 50])]))], []))
 (cond (decide (v0 = 1))
 (some ([.one (.fr (.ss [(bytesOf [42, 48]), (bytesOf [35, 48]), (bytesOf [40, 35, 49, 62, 35, 50, 41])])), .one (.fr (.ss [(bytesOf [40, 35, 48, 32, 35, 49, 41]), (bytesOf [33, 35, 49]), (bytesOf [123, 35, 50, 44, 35, 49, 44, 40, 35, 48, 32, 35, 49, 41, 125]), (bytesOf [91, 35, 50, 93, 35, 49]), (bytesOf [124, 40, 35, 50, 42, 35, 51, 41, 44, 35, 49, 44, 40, 35, 48, 32, 35, 49, 41, 124]), (bytesOf [91, 123, 35, 50, 44, 35, 49, 44, 40, 35, 48, 32, 35, 49, 41, 125, 93, 64, 60, 91, 35, 51, 93, 35, 52, 44, 35, 48, 44, 35, 50, 62])]))], []))
 (cond (decide (v0 = 2))
 (some ([.one (.fr (.ss [(bytesOf [78]), (bytesOf [123, 78, 44, 35, 48, 44, 43, 48, 125])])), .one (.fr (.ss [(bytesOf [35, 48]), (bytesOf [64, 60, 91, 78, 93, 123, 78, 44, 43, 35, 50, 44, 43, 35, 48, 125, 44, 35, 48, 44, 33, 43, 35, 49, 62]), (bytesOf [43, 35, 49]), (bytesOf [64, 60, 91, 78, 93, 78, 44, 35, 48, 44, 35, 49, 62]), (bytesOf [60, 91, 78, 93, 78, 44, 48, 44, 91, 78, 93, 91, 78, 93, 35, 49, 44, 35, 49, 62])]))], []))
 (some ([.one (.fr (.ss [(bytesOf [40, 78, 62, 42, 48, 41]), (bytesOf [40, 78, 62, 40, 35, 49, 32, 35, 48, 41, 41])])), .one (.fr (.ss [(bytesOf [40, 35, 48, 32, 48, 41]), (bytesOf [91, 78, 93, 40, 35, 49, 32, 35, 48, 41]), (bytesOf [40, 35, 49, 32, 43, 43, 48, 41]), (bytesOf [91, 78, 93, 91, 123, 78, 44, 35, 48, 44, 48, 125, 93, 64, 60, 35, 51, 44, 35, 48, 44, 40, 35, 50, 32, 35, 49, 41, 62])]))], []))))) := by kernel_rfl
noncomputable def cI (n c : Nat) (v0 : List ByteArray) (v1 : Int) (v2 : List T) : OR := aR Tryz.prog SS n 89 0 [1, 1, 0, 1, 0] [] c ⟨[.v (.one (.fr (.ss v0))), aa, aa, .v (.one (.own 0 0)), .v (.one (.int .i64 v1)), aa, aa, aa, aa, aa, aa, aa, aa, aa, aa, aa, aa, aa, aa, aa, aa, aa, aa, aa, aa, aa, aa, aa],
 [.arr 25 (.ts v2) 0 false]⟩
theorem cZ (n c : Nat) (v0 : List ByteArray) (v1 : Int) (v2 : List T) : cI n (c + 1) v0 v1 v2 =
 (cond (decide (v1 < (v0.length : Int)))
 (cond (decide (0 ≤ v1))
 (v0[(v1 : Int).toNat]?.bind fun x0 =>
 ((FF n 116 [.one (.str x0)] []).bind fun x1 =>
 (ah x1.1 fun x2 x3 =>
 (ar x3 fun x4 x5 =>
 (ai x5 (aj x1.2
 (cond x4
 (cond (cn (v2 ++ [(T.mk x2.k x2.n x2.kids)]).length)
 (cI n c v0 (IntKind.i64.wrap (v1 + 1)) (v2 ++ [(T.mk x2.k x2.n x2.kids)]))
 none)
 (cI n c v0 (IntKind.i64.wrap (v1 + 1)) v2))))))))
 none)
 (some ([.one (.fr (.ts v2))], []))) := by kernel_rfl
theorem mf (n : Nat) (v0 : List ByteArray) : FF (n + 1) 89 [.one (.fr (.ss v0))] [] =
 cI n n v0 0 ([]) := by kernel_rfl
theorem nX (n : Nat) (v0 v1 : Int) (v2 : List UInt8) (v3 : Int) : FF (n + 1) 87 [.one (.ptr 0 0), .one (.int .i64 v0), .one (.int .i64 v1)] [.cells [.fr (.bs v2), .int .i64 v3]] =
 ((FF n 82 [.one (.int .i64 7), .one (.int .i64 0)] []).bind fun x0 =>
 (ah x0.1 fun x1 x2 =>
 (ai x2 (aj x0.2
 ((FF n 82 [.one (.int .i64 6), .one (.int .i64 0)] []).bind fun x3 =>
 (ah x3.1 fun x4 x5 =>
 (ai x5 (aj x3.2
 (cond (decide (v1 < 1))
 (cond (decide (0 < v0))
 ((FF n 79 [.one (.ptr 0 0), .one (.int .i64 2)] [.cells [.fr (.bs v2), .int .i64 v3]]).bind fun x6 =>
 (ba x6.2 fun x7 x8 =>
 (bsC x7 fun x9 x10 =>
 (bj .i64 x10 fun x11 x12 =>
 (bh x12
 (aw .i64 x6.1 fun x13 x14 =>
 (ai x14 (aj x8
 (cond (decide (x13 = 0))
 ((FF n 79 [.one (.ptr 0 0), .one (.int .i64 v0)] [.cells [.fr (.bs x9), .int .i64 x11]]).bind fun x15 =>
 (ba x15.2 fun x16 x17 =>
 (bsC x16 fun x18 x19 =>
 (bj .i64 x19 fun x20 x21 =>
 (bh x21
 (aw .i64 x15.1 fun x22 x23 =>
 (ai x23 (aj x17
 ((FF n 82 [.one (.int .i64 1), .one (.int .i64 x22)] []).bind fun x24 =>
 (ah x24.1 fun x25 x26 =>
 (ai x26 (aj x24.2
 (some ([.agg [.int .i64 x25.k, .int .i64 x25.n, .fr (.ts x25.kids)]], [.cells [.fr (.bs x18), .int .i64 x20]]))))))))))))))
 (some ([.agg [.int .i64 x1.k, .int .i64 x1.n, .fr (.ts x1.kids)]], [.cells [.fr (.bs x9), .int .i64 x11]])))))))))))
 (some ([.agg [.int .i64 x1.k, .int .i64 x1.n, .fr (.ts x1.kids)]], [.cells [.fr (.bs v2), .int .i64 v3]])))
 ((FF n 79 [.one (.ptr 0 0), .one (.int .i64 7)] [.cells [.fr (.bs v2), .int .i64 v3]]).bind fun x6 =>
 (ba x6.2 fun x7 x8 =>
 (bsC x7 fun x9 x10 =>
 (bj .i64 x10 fun x11 x12 =>
 (bh x12
 (aw .i64 x6.1 fun x13 x14 =>
 (ai x14 (aj x8
 (cond (decide (x13 = 0))
 ((FF n 87 [.one (.ptr 0 0), .one (.int .i64 (IntKind.i64.wrap (v0 + 1))), .one (.int .i64 (IntKind.i64.wrap (v1 - 1)))] [.cells [.fr (.bs x9), .int .i64 x11]]).bind fun x15 =>
 (ba x15.2 fun x16 x17 =>
 (bsC x16 fun x18 x19 =>
 (bj .i64 x19 fun x20 x21 =>
 (bh x21
 (ah x15.1 fun x22 x23 =>
 (ai x23 (aj x17
 ((FF n 81 [.one (.int .i64 4), .one (.fr (.ts [(T.mk x4.k x4.n x4.kids), (T.mk x22.k x22.n x22.kids)]))] []).bind fun x24 =>
 (ah x24.1 fun x25 x26 =>
 (ai x26 (aj x24.2
 ((FF n 87 [.one (.ptr 0 0), .one (.int .i64 v0), .one (.int .i64 (IntKind.i64.wrap (v1 - 1)))] [.cells [.fr (.bs x18), .int .i64 x20]]).bind fun x27 =>
 (ba x27.2 fun x28 x29 =>
 (bsC x28 fun x30 x31 =>
 (bj .i64 x31 fun x32 x33 =>
 (bh x33
 (ah x27.1 fun x34 x35 =>
 (ai x35 (aj x29
 ((FF n 81 [.one (.int .i64 5), .one (.fr (.ts [(T.mk x25.k x25.n x25.kids), (T.mk x34.k x34.n x34.kids)]))] []).bind fun x36 =>
 (ah x36.1 fun x37 x38 =>
 (ai x38 (aj x36.2
 (some ([.agg [.int .i64 x37.k, .int .i64 x37.n, .fr (.ts x37.kids)]], [.cells [.fr (.bs x30), .int .i64 x32]]))))))))))))))))))))))))))
 (cond (decide (x13 = 1))
 ((FF n 87 [.one (.ptr 0 0), .one (.int .i64 (IntKind.i64.wrap (v0 + 2))), .one (.int .i64 (IntKind.i64.wrap (v1 - 2)))] [.cells [.fr (.bs x9), .int .i64 x11]]).bind fun x15 =>
 (ba x15.2 fun x16 x17 =>
 (bsC x16 fun x18 x19 =>
 (bj .i64 x19 fun x20 x21 =>
 (bh x21
 (ah x15.1 fun x22 x23 =>
 (ai x23 (aj x17
 ((FF n 81 [.one (.int .i64 4), .one (.fr (.ts [(T.mk x4.k x4.n x4.kids), (T.mk x22.k x22.n x22.kids)]))] []).bind fun x24 =>
 (ah x24.1 fun x25 x26 =>
 (ai x26 (aj x24.2
 ((FF n 81 [.one (.int .i64 4), .one (.fr (.ts [(T.mk x4.k x4.n x4.kids), (T.mk x25.k x25.n x25.kids)]))] []).bind fun x27 =>
 (ah x27.1 fun x28 x29 =>
 (ai x29 (aj x27.2
 ((FF n 81 [.one (.int .i64 4), .one (.fr (.ts [(T.mk x4.k x4.n x4.kids), (T.mk x4.k x4.n x4.kids)]))] []).bind fun x30 =>
 (ah x30.1 fun x31 x32 =>
 (ai x32 (aj x30.2
 ((FF n 87 [.one (.ptr 0 0), .one (.int .i64 v0), .one (.int .i64 (IntKind.i64.wrap (v1 - 2)))] [.cells [.fr (.bs x18), .int .i64 x20]]).bind fun x33 =>
 (ba x33.2 fun x34 x35 =>
 (bsC x34 fun x36 x37 =>
 (bj .i64 x37 fun x38 x39 =>
 (bh x39
 (ah x33.1 fun x40 x41 =>
 (ai x41 (aj x35
 ((FF n 87 [.one (.ptr 0 0), .one (.int .i64 v0), .one (.int .i64 (IntKind.i64.wrap (v1 - 1)))] [.cells [.fr (.bs x36), .int .i64 x38]]).bind fun x42 =>
 (ba x42.2 fun x43 x44 =>
 (bsC x43 fun x45 x46 =>
 (bj .i64 x46 fun x47 x48 =>
 (bh x48
 (ah x42.1 fun x49 x50 =>
 (ai x50 (aj x44
 ((FF n 81 [.one (.int .i64 9), .one (.fr (.ts [(T.mk x31.k x31.n x31.kids), (T.mk x40.k x40.n x40.kids), (T.mk x28.k x28.n x28.kids), (T.mk x49.k x49.n x49.kids)]))] []).bind fun x51 =>
 (ah x51.1 fun x52 x53 =>
 (ai x53 (aj x51.2
 (some ([.agg [.int .i64 x52.k, .int .i64 x52.n, .fr (.ts x52.kids)]], [.cells [.fr (.bs x45), .int .i64 x47]]))))))))))))))))))))))))))))))))))))))))))
 (cond (decide (x13 = 2))
 ((FF n 81 [.one (.int .i64 13), .one (.fr (.ts [(T.mk x4.k x4.n x4.kids), (T.mk x4.k x4.n x4.kids)]))] []).bind fun x15 =>
 (ah x15.1 fun x16 x17 =>
 (ai x17 (aj x15.2
 ((FF n 87 [.one (.ptr 0 0), .one (.int .i64 v0), .one (.int .i64 (IntKind.i64.wrap (v1 - 1)))] [.cells [.fr (.bs x9), .int .i64 x11]]).bind fun x18 =>
 (ba x18.2 fun x19 x20 =>
 (bsC x19 fun x21 x22 =>
 (bj .i64 x22 fun x23 x24 =>
 (bh x24
 (ah x18.1 fun x25 x26 =>
 (ai x26 (aj x20
 ((FF n 87 [.one (.ptr 0 0), .one (.int .i64 v0), .one (.int .i64 (IntKind.i64.wrap (v1 - 2)))] [.cells [.fr (.bs x21), .int .i64 x23]]).bind fun x27 =>
 (ba x27.2 fun x28 x29 =>
 (bsC x28 fun x30 x31 =>
 (bj .i64 x31 fun x32 x33 =>
 (bh x33
 (ah x27.1 fun x34 x35 =>
 (ai x35 (aj x29
 ((FF n 81 [.one (.int .i64 14), .one (.fr (.ts [(T.mk x16.k x16.n x16.kids), (T.mk x25.k x25.n x25.kids), (T.mk x34.k x34.n x34.kids)]))] []).bind fun x36 =>
 (ah x36.1 fun x37 x38 =>
 (ai x38 (aj x36.2
 ((FF n 86 [.one (.ptr 0 0), .one (.fr (.is [15, 16]))] [.cells [.fr (.bs x30), .int .i64 x32]]).bind fun x39 =>
 (ba x39.2 fun x40 x41 =>
 (bsC x40 fun x42 x43 =>
 (bj .i64 x43 fun x44 x45 =>
 (bh x45
 (aw .i64 x39.1 fun x46 x47 =>
 (ai x47 (aj x41
 ((FF n 81 [.one (.int .i64 x46), .one (.fr (.ts [(T.mk x37.k x37.n x37.kids)]))] []).bind fun x48 =>
 (ah x48.1 fun x49 x50 =>
 (ai x50 (aj x48.2
 (some ([.agg [.int .i64 x49.k, .int .i64 x49.n, .fr (.ts x49.kids)]], [.cells [.fr (.bs x42), .int .i64 x44]]))))))))))))))))))))))))))))))))))))))
 (cond (decide (x13 = 3))
 ((FF n 81 [.one (.int .i64 4), .one (.fr (.ts [(T.mk x4.k x4.n x4.kids), (T.mk x4.k x4.n x4.kids)]))] []).bind fun x15 =>
 (ah x15.1 fun x16 x17 =>
 (ai x17 (aj x15.2
 ((FF n 87 [.one (.ptr 0 0), .one (.int .i64 v0), .one (.int .i64 (IntKind.i64.wrap (v1 - 2)))] [.cells [.fr (.bs x9), .int .i64 x11]]).bind fun x18 =>
 (ba x18.2 fun x19 x20 =>
 (bsC x19 fun x21 x22 =>
 (bj .i64 x22 fun x23 x24 =>
 (bh x24
 (ah x18.1 fun x25 x26 =>
 (ai x26 (aj x20
 ((FF n 81 [.one (.int .i64 11), .one (.fr (.ts [(T.mk x25.k x25.n x25.kids)]))] []).bind fun x27 =>
 (ah x27.1 fun x28 x29 =>
 (ai x29 (aj x27.2
 ((FF n 87 [.one (.ptr 0 0), .one (.int .i64 v0), .one (.int .i64 (IntKind.i64.wrap (v1 - 1)))] [.cells [.fr (.bs x21), .int .i64 x23]]).bind fun x30 =>
 (ba x30.2 fun x31 x32 =>
 (bsC x31 fun x33 x34 =>
 (bj .i64 x34 fun x35 x36 =>
 (bh x36
 (ah x30.1 fun x37 x38 =>
 (ai x38 (aj x32
 ((FF n 81 [.one (.int .i64 12), .one (.fr (.ts [(T.mk x16.k x16.n x16.kids), (T.mk x28.k x28.n x28.kids), (T.mk x37.k x37.n x37.kids)]))] []).bind fun x39 =>
 (ah x39.1 fun x40 x41 =>
 (ai x41 (aj x39.2
 (some ([.agg [.int .i64 x40.k, .int .i64 x40.n, .fr (.ts x40.kids)]], [.cells [.fr (.bs x33), .int .i64 x35]]))))))))))))))))))))))))))))))
 (cond (decide (x13 = 4))
 ((FF n 87 [.one (.ptr 0 0), .one (.int .i64 v0), .one (.int .i64 0)] [.cells [.fr (.bs x9), .int .i64 x11]]).bind fun x15 =>
 (ba x15.2 fun x16 x17 =>
 (bsC x16 fun x18 x19 =>
 (bj .i64 x19 fun x20 x21 =>
 (bh x21
 (ah x15.1 fun x22 x23 =>
 (ai x23 (aj x17
 (some ([.agg [.int .i64 x22.k, .int .i64 x22.n, .fr (.ts x22.kids)]], [.cells [.fr (.bs x18), .int .i64 x20]]))))))))))
 ((FF n 87 [.one (.ptr 0 0), .one (.int .i64 v0), .one (.int .i64 (IntKind.i64.wrap (v1 - 1)))] [.cells [.fr (.bs x9), .int .i64 x11]]).bind fun x15 =>
 (ba x15.2 fun x16 x17 =>
 (bsC x16 fun x18 x19 =>
 (bj .i64 x19 fun x20 x21 =>
 (bh x21
 (ah x15.1 fun x22 x23 =>
 (ai x23 (aj x17
 ((FF n 81 [.one (.int .i64 8), .one (.fr (.ts [(T.mk x22.k x22.n x22.kids)]))] []).bind fun x24 =>
 (ah x24.1 fun x25 x26 =>
 (ai x26 (aj x24.2
 (some ([.agg [.int .i64 x25.k, .int .i64 x25.n, .fr (.ts x25.kids)]], [.cells [.fr (.bs x18), .int .i64 x20]])))))))))))))))))))))))))))))))))))) := by kernel_rfl
end Go.Proofs.YtajlknlnmmbfcaaGreat
end
section
namespace Go.Proofs.YtajlknlnmmbfcaaGreat
open Go Go.Ab Go.Dk
noncomputable def cR (n c : Nat) (v0 v1 v2 : Int) (v3 : List T) (v4 v5 : Int) (v6 : List T) (v7 v8 : Int) (v9 : List T) : OR := aR Tryz.prog SS n 90 0 [1, 1, 0, 1, 0] [] c ⟨[aa, .v (.one (.ptr 0 0)), .v (.one (.ptr 1 0)), .v (.one (.ptr 3 0)), .v (.one (.int .i64 v0)), aa, aa, aa, aa, aa, aa, aa, aa, aa, aa, aa, aa, aa, aa, aa, aa, aa, aa, aa, aa, aa, aa, aa, aa],
 [.cells [.int .i64 v1, .int .i64 v2, .fr (.ts v3)], .cells [.int .i64 v4, .int .i64 v5, .own 2 0], .arr 25 (.ts v6) 0 false, .cells [.int .i64 v7, .int .i64 v8, .own 4 0], .arr 25 (.ts v9) 0 false]⟩
theorem eY (n c : Nat) (v0 v1 v2 : Int) (v3 : List T) (v4 v5 : Int) (v6 : List T) (v7 v8 : Int) (v9 : List T) : cR n (c + 1) v0 v1 v2 v3 v4 v5 v6 v7 v8 v9 =
 (cond (decide (v0 < (v3.length : Int)))
 (cond (decide (0 ≤ v0))
 (v3[(v0 : Int).toNat]?.bind fun x0 =>
 ((FF n 90 [.agg [.int .i64 x0.k, .int .i64 x0.n, .fr (.ts x0.kids)]] []).bind fun x1 =>
 (fL 0 x1.1 fun x2 x3 x4 =>
 (cf 25 x1.2 fun x5 x6 =>
 (ai x4 (aj x6
 (cond (cn (v9 ++ [(T.mk x2 x3 x5)]).length)
 (cR n c (IntKind.i64.wrap (v0 + 1)) v1 v2 v3 v4 v5 v6 v7 v8 (v9 ++ [(T.mk x2 x3 x5)]))
 none)))))))
 none)
 (some ([.agg [.int .i64 v7, .int .i64 v8, .own 0 0]], [.arr 25 (.ts v9) 0 false]))) := by kernel_rfl
theorem sQ (n : Nat) (v0 v1 : Int) (v2 : List T) : FF (n + 1) 90 [.agg [.int .i64 v0, .int .i64 v1, .fr (.ts v2)]] [] =
 cR n n 0 v0 v1 v2 0 0 ([]) v0 v1 ([]) := by kernel_rfl
noncomputable def bV (n c : Nat) (v0 v1 v2 v3 : Int) (v4 : List T) (v5 v6 : Int) (v7 : List T) (v8 v9 : Int) (v10 : List T) (v11 v12 : Int) (v13 : List T) : OR := aR Tryz.prog SS n 91 0 [1, 1, 0, 1, 0] [] c ⟨[aa, .v (.one (.int .i64 v0)), aa, .v (.one (.ptr 0 0)), aa, .v (.one (.ptr 1 0)), .v (.one (.ptr 2 0)), .v (.one (.ptr 4 0)), .v (.one (.int .i64 v1)), aa, aa, aa, aa, aa, aa, aa, aa, aa, aa, aa, aa, aa, aa, aa, aa, aa, aa, aa, aa, aa, aa, aa, aa, aa, aa, aa, aa, aa, aa, aa, aa, aa],
 [.cells [.int .i64 v2, .int .i64 v3, .fr (.ts v4)], .cells [.int .i64 v5, .int .i64 v6, .fr (.ts v7)], .cells [.int .i64 v8, .int .i64 v9, .own 3 0], .arr 25 (.ts v10) 0 false, .cells [.int .i64 v11, .int .i64 v12, .own 5 0], .arr 25 (.ts v13) 0 false]⟩
theorem eJ (n c : Nat) (v0 v1 v2 v3 : Int) (v4 : List T) (v5 v6 : Int) (v7 : List T) (v8 v9 : Int) (v10 : List T) (v11 v12 : Int) (v13 : List T) : bV n (c + 1) v0 v1 v2 v3 v4 v5 v6 v7 v8 v9 v10 v11 v12 v13 =
 (cond (decide (v1 < (v4.length : Int)))
 (cond (decide (v1 = v0))
 (cond (cn (v13 ++ [(T.mk v5 v6 v7)]).length)
 (bV n c v0 (IntKind.i64.wrap (v1 + 1)) v2 v3 v4 v5 v6 v7 v8 v9 v10 v11 v12 (v13 ++ [(T.mk v5 v6 v7)]))
 none)
 (cond (decide (0 ≤ v1))
 (v4[(v1 : Int).toNat]?.bind fun x0 =>
 ((FF n 90 [.agg [.int .i64 x0.k, .int .i64 x0.n, .fr (.ts x0.kids)]] []).bind fun x1 =>
 (fL 0 x1.1 fun x2 x3 x4 =>
 (cf 25 x1.2 fun x5 x6 =>
 (ai x4 (aj x6
 (cond (cn (v13 ++ [(T.mk x2 x3 x5)]).length)
 (bV n c v0 (IntKind.i64.wrap (v1 + 1)) v2 v3 v4 v5 v6 v7 v8 v9 v10 v11 v12 (v13 ++ [(T.mk x2 x3 x5)]))
 none)))))))
 none))
 (some ([.agg [.int .i64 v11, .int .i64 v12, .fr (.ts v13)]], []))) := by kernel_rfl
theorem uF (n : Nat) (v0 v1 : Int) (v2 : List T) (v3 v4 v5 : Int) (v6 : List T) : FF (n + 1) 91 [.agg [.int .i64 v0, .int .i64 v1, .fr (.ts v2)], .one (.int .i64 v3), .agg [.int .i64 v4, .int .i64 v5, .fr (.ts v6)]] [] =
 bV n n v3 0 v0 v1 v2 v4 v5 v6 0 0 ([]) v0 v1 ([]) := by kernel_rfl
theorem yd (n : Nat) (v0 v1 : Int) (v2 : List T) (v3 : Bool) : FF (n + 1) 92 [.agg [.int .i64 v0, .int .i64 v1, .fr (.ts v2)], .one (.bool v3)] [] =
 ((FF n 117 [.agg [.int .i64 v0, .int .i64 v1, .fr (.ts v2)], .one (.bool v3)] []).bind fun x0 =>
 (ah x0.1 fun x1 x2 =>
 (ar x2 fun x3 x4 =>
 (ai x4 (aj x0.2
 (cond (!x3)
 ((FF n 90 [.agg [.int .i64 v0, .int .i64 v1, .fr (.ts v2)]] []).bind fun x5 =>
 (fL 0 x5.1 fun x6 x7 x8 =>
 (cf 25 x5.2 fun x9 x10 =>
 (ai x8 (aj x10
 (some ([.agg [.int .i64 x6, .int .i64 x7, .fr (.ts x9)], .one (.int .i64 0)], [])))))))
 ((FF n 65 [.agg [.int .i64 x1.k, .int .i64 x1.n, .fr (.ts x1.kids)]] []).bind fun x5 =>
 (ar x5.1 fun x6 x7 =>
 (ai x7 (aj x5.2
 (cond (!x6)
 (some ([.agg [.int .i64 0, .int .i64 0, .fr (.ts [])], .one (.int .i64 2)], []))
 (some ([.agg [.int .i64 x1.k, .int .i64 x1.n, .fr (.ts x1.kids)], .one (.int .i64 1)], []))))))))))))) := by kernel_rfl
theorem dZ (n : Nat) (v0 : List T) : FF (n + 1) 93 [.one (.fr (.ts v0)), .one (.fn 94 [])] [] =
 ((FF n 118 [.one (.fr (.ts v0)), .one (.fn 94 [])] []).bind fun x0 =>
 (aw .i64 x0.1 fun x1 x2 =>
 (ai x2 (aj x0.2
 (some ([.one (.bool (decide (0 ≤ x1)))], [])))))) := by kernel_rfl
theorem oB (n : Nat) (v0 : List T) (v1 v2 : Int) (v3 : List T) (v4 : Int) : FF (n + 1) 95 [.one (.fr (.ts v0)), .agg [.int .i64 v1, .int .i64 v2, .fr (.ts v3)], .one (.int .i64 v4)] [] =
 ((FF n 57 [.one (.fr (.ts v0)), .agg [.int .i64 v1, .int .i64 v2, .fr (.ts v3)]] []).bind fun x0 =>
 (ah x0.1 fun x1 x2 =>
 (aw .i64 x2 fun x3 x4 =>
 (ai x4 (aj x0.2
 (cond (!decide (x3 = 0))
 (some ([.agg [.int .i64 0, .int .i64 0, .fr (.ts [])], .one (.int .i64 x3)], []))
 ((FF n 119 [.agg [.int .i64 x1.k, .int .i64 x1.n, .fr (.ts x1.kids)], .one (.int .i64 v4)] []).bind fun x5 =>
 (ah x5.1 fun x6 x7 =>
 (aw .i64 x7 fun x8 x9 =>
 (ai x9 (aj x5.2
 (some ([.agg [.int .i64 x6.k, .int .i64 x6.n, .fr (.ts x6.kids)], .one (.int .i64 x8)], []))))))))))))) := by kernel_rfl
theorem pE (n : Nat) (v0 v1 : Int) (v2 : List T) (v3 v4 : Int) (v5 : List T) : FF (n + 1) 96 [.agg [.int .i64 v0, .int .i64 v1, .fr (.ts v2)], .agg [.int .i64 v3, .int .i64 v4, .fr (.ts v5)]] [] =
 ((FF n 26 [.agg [.int .i64 v0, .int .i64 v1, .fr (.ts v2)], .agg [.int .i64 v3, .int .i64 v4, .fr (.ts v5)], .one (.int .i64 200)] []).bind fun x0 =>
 (aw .i64 x0.1 fun x1 x2 =>
 (ai x2 (aj x0.2
 (cond (decide (x1 = 1))
 (some ([.one (.int .i64 0)], []))
 (cond (decide (x1 = 2))
 (some ([.one (.int .i64 1)], []))
 (some ([.one (.int .i64 2)], [])))))))) := by kernel_rfl
theorem xU (n : Nat) (v0 v1 : Int) (v2 : List T) (v3 v4 v5 : Int) (v6 : List T) : FF (n + 1) 97 [.agg [.int .i64 v0, .int .i64 v1, .fr (.ts v2)], .one (.int .i64 v3), .agg [.int .i64 v4, .int .i64 v5, .fr (.ts v6)]] [] =
 ((FF n 109 [.agg [.int .i64 v0, .int .i64 v1, .fr (.ts v2)], .one (.int .i64 0), .one (.fn 120 [0, 1, 2])] [.cells [.int .i64 v3], .cells [.int .i64 v4, .int .i64 v5, .fr (.ts v6)], .cells [.bool true]]).bind fun x0 =>
 (ba x0.2 fun x1 x2 =>
 (bj .i64 x1 fun x3 x4 =>
 (bh x4
 (ba x2 fun x5 x6 =>
 (bj .i64 x5 fun x7 x8 =>
 (bj .i64 x8 fun x9 x10 =>
 (tsC x10 fun x11 x12 =>
 (bh x12
 (ba x6 fun x13 x14 =>
 (oq x13 fun x15 x16 =>
 (bh x16
 (ah x0.1 fun x17 x18 =>
 (ai x18 (aj x14
 (cond (!x15)
 (some ([.agg [.int .i64 0, .int .i64 0, .fr (.ts [])], .one (.bool false)], []))
 ((FF n 71 [.agg [.int .i64 x17.k, .int .i64 x17.n, .fr (.ts x17.kids)]] []).bind fun x19 =>
 (ah x19.1 fun x20 x21 =>
 (ar x21 fun x22 x23 =>
 (ai x23 (aj x19.2
 (some ([.agg [.int .i64 x20.k, .int .i64 x20.n, .fr (.ts x20.kids)], .one (.bool x22)], []))))))))))))))))))))))) := by kernel_rfl
theorem eU (n : Nat) (v0 : List T) (v1 v2 : Int) (v3 v4 : List T) (v5 v6 : Int) (v7 : List T) : FF (n + 1) 100 [.agg [.fr (.ts v0), .int .i64 v1, .int .i64 v2, .fr (.ts v3), .fn 98 [0, 1]]] [.cells [.fr (.ts v4)], .cells [.int .i64 v5, .int .i64 v6, .fr (.ts v7)]] =
 (cond (decide (v1 = 1))
 (cond (decide ((v0.length : Int) ≤ v2))
 (some ([.agg [.int .i64 0, .int .i64 0, .fr (.ts [])], .one (.int .i64 1)], [.cells [.fr (.ts v4)], .cells [.int .i64 v5, .int .i64 v6, .fr (.ts v7)]]))
 (cond (decide (0 ≤ (IntKind.i64.wrap ((IntKind.i64.wrap ((v0.length : Int) - 1)) - v2))))
 (v0[((IntKind.i64.wrap ((IntKind.i64.wrap ((v0.length : Int) - 1)) - v2)) : Int).toNat]?.bind fun x0 =>
 ((FF n 73 [.agg [.int .i64 x0.k, .int .i64 x0.n, .fr (.ts x0.kids)], .one (.int .i64 (IntKind.i64.wrap (v2 + 1))), .one (.int .i64 0)] []).bind fun x1 =>
 (ah x1.1 fun x2 x3 =>
 (ar x3 fun x4 x5 =>
 (ai x5 (aj x1.2
 ((FF n 123 [.agg [.int .i64 x2.k, .int .i64 x2.n, .fr (.ts x2.kids)], .one (.bool x4)] []).bind fun x6 =>
 (ah x6.1 fun x7 x8 =>
 (aw .i64 x8 fun x9 x10 =>
 (ai x10 (aj x6.2
 (some ([.agg [.int .i64 x7.k, .int .i64 x7.n, .fr (.ts x7.kids)], .one (.int .i64 x9)], [.cells [.fr (.ts v4)], .cells [.int .i64 v5, .int .i64 v6, .fr (.ts v7)]])))))))))))))
 none))
 (cond (decide (v1 = 2))
 (cond (decide (v2 = 3))
 (some ([.agg [.int .i64 0, .int .i64 0, .fr (.ts [])], .one (.int .i64 1)], [.cells [.fr (.ts v4)], .cells [.int .i64 v5, .int .i64 v6, .fr (.ts v7)]]))
 ((FF n 124 [.one (.int .i64 (IntKind.i64.wrap (v2 + 1)))] []).bind fun x0 =>
 (ah x0.1 fun x1 x2 =>
 (ai x2 (aj x0.2
 (some ([.agg [.int .i64 x1.k, .int .i64 x1.n, .fr (.ts x1.kids)], .one (.int .i64 0)], [.cells [.fr (.ts v4)], .cells [.int .i64 v5, .int .i64 v6, .fr (.ts v7)]])))))))
 (cond (decide (v1 = 6))
 ((FF n 124 [.one (.int .i64 0)] []).bind fun x0 =>
 (ah x0.1 fun x1 x2 =>
 (ai x2 (aj x0.2
 (some ([.agg [.int .i64 x1.k, .int .i64 x1.n, .fr (.ts x1.kids)], .one (.int .i64 0)], [.cells [.fr (.ts v4)], .cells [.int .i64 v5, .int .i64 v6, .fr (.ts v7)]]))))))
 (cond (decide (v1 = 7))
 ((FF n 70 [.one (.int .i64 6), .one (.emp none)] []).bind fun x0 =>
 (ah x0.1 fun x1 x2 =>
 (ai x2 (aj x0.2
 (some ([.agg [.int .i64 x1.k, .int .i64 x1.n, .fr (.ts x1.kids)], .one (.int .i64 0)], [.cells [.fr (.ts v4)], .cells [.int .i64 v5, .int .i64 v6, .fr (.ts v7)]]))))))
 (cond (decide (v1 = 8))
 ((FF n 70 [.one (.int .i64 6), .one (.emp none)] []).bind fun x0 =>
 (ah x0.1 fun x1 x2 =>
 (ai x2 (aj x0.2
 ((FF n 125 [.agg [.fr (.ts v0), .int .i64 v1, .int .i64 v2, .fr (.ts v3), .fn 98 [0, 1]], .one (.int .i64 0), .agg [.int .i64 x1.k, .int .i64 x1.n, .fr (.ts x1.kids)]] [.cells [.fr (.ts v4)], .cells [.int .i64 v5, .int .i64 v6, .fr (.ts v7)]]).bind fun x3 =>
 (ba x3.2 fun x4 x5 =>
 (tsC x4 fun x6 x7 =>
 (bh x7
 (ba x5 fun x8 x9 =>
 (bj .i64 x8 fun x10 x11 =>
 (bj .i64 x11 fun x12 x13 =>
 (tsC x13 fun x14 x15 =>
 (bh x15
 (aw .i64 x3.1 fun x16 x17 =>
 (ai x17 (aj x9
 (cond (!decide (x16 = 0))
 (some ([.agg [.int .i64 0, .int .i64 0, .fr (.ts [])], .one (.int .i64 x16)], [.cells [.fr (.ts x6)], .cells [.int .i64 x10, .int .i64 x12, .fr (.ts x14)]]))
 ((FF n 70 [.one (.int .i64 6), .one (.emp none)] []).bind fun x18 =>
 (ah x18.1 fun x19 x20 =>
 (ai x20 (aj x18.2
 (some ([.agg [.int .i64 x19.k, .int .i64 x19.n, .fr (.ts x19.kids)], .one (.int .i64 0)], [.cells [.fr (.ts x6)], .cells [.int .i64 x10, .int .i64 x12, .fr (.ts x14)]])))))))))))))))))))))))
 (cond (decide (v1 = 3))
 ((FF n 126 [.agg [.fr (.ts v0), .int .i64 v1, .int .i64 v2, .fr (.ts v3), .fn 98 [0, 1]]] [.cells [.fr (.ts v4)], .cells [.int .i64 v5, .int .i64 v6, .fr (.ts v7)]]).bind fun x0 =>
 (ba x0.2 fun x1 x2 =>
 (tsC x1 fun x3 x4 =>
 (bh x4
 (ba x2 fun x5 x6 =>
 (bj .i64 x5 fun x7 x8 =>
 (bj .i64 x8 fun x9 x10 =>
 (tsC x10 fun x11 x12 =>
 (bh x12
 (ah x0.1 fun x13 x14 =>
 (aw .i64 x14 fun x15 x16 =>
 (ai x16 (aj x6
 (some ([.agg [.int .i64 x13.k, .int .i64 x13.n, .fr (.ts x13.kids)], .one (.int .i64 x15)], [.cells [.fr (.ts x3)], .cells [.int .i64 x7, .int .i64 x9, .fr (.ts x11)]])))))))))))))))
 (cond (decide (v1 = 13))
 ((FF n 126 [.agg [.fr (.ts v0), .int .i64 v1, .int .i64 v2, .fr (.ts v3), .fn 98 [0, 1]]] [.cells [.fr (.ts v4)], .cells [.int .i64 v5, .int .i64 v6, .fr (.ts v7)]]).bind fun x0 =>
 (ba x0.2 fun x1 x2 =>
 (tsC x1 fun x3 x4 =>
 (bh x4
 (ba x2 fun x5 x6 =>
 (bj .i64 x5 fun x7 x8 =>
 (bj .i64 x8 fun x9 x10 =>
 (tsC x10 fun x11 x12 =>
 (bh x12
 (ah x0.1 fun x13 x14 =>
 (aw .i64 x14 fun x15 x16 =>
 (ai x16 (aj x6
 (some ([.agg [.int .i64 x13.k, .int .i64 x13.n, .fr (.ts x13.kids)], .one (.int .i64 x15)], [.cells [.fr (.ts x3)], .cells [.int .i64 x7, .int .i64 x9, .fr (.ts x11)]])))))))))))))))
 (cond (decide (v1 = 4))
 ((FF n 127 [.agg [.fr (.ts v0), .int .i64 v1, .int .i64 v2, .fr (.ts v3), .fn 98 [0, 1]]] [.cells [.fr (.ts v4)], .cells [.int .i64 v5, .int .i64 v6, .fr (.ts v7)]]).bind fun x0 =>
 (ba x0.2 fun x1 x2 =>
 (tsC x1 fun x3 x4 =>
 (bh x4
 (ba x2 fun x5 x6 =>
 (bj .i64 x5 fun x7 x8 =>
 (bj .i64 x8 fun x9 x10 =>
 (tsC x10 fun x11 x12 =>
 (bh x12
 (ah x0.1 fun x13 x14 =>
 (aw .i64 x14 fun x15 x16 =>
 (ai x16 (aj x6
 (some ([.agg [.int .i64 x13.k, .int .i64 x13.n, .fr (.ts x13.kids)], .one (.int .i64 x15)], [.cells [.fr (.ts x3)], .cells [.int .i64 x7, .int .i64 x9, .fr (.ts x11)]])))))))))))))))
 (cond (decide (v1 = 5))
 ((FF n 128 [.agg [.fr (.ts v0), .int .i64 v1, .int .i64 v2, .fr (.ts v3), .fn 98 [0, 1]], .one (.int .i64 0), .one (.int .i64 3)] [.cells [.fr (.ts v4)], .cells [.int .i64 v5, .int .i64 v6, .fr (.ts v7)]]).bind fun x0 =>
 (ba x0.2 fun x1 x2 =>
 (tsC x1 fun x3 x4 =>
 (bh x4
 (ba x2 fun x5 x6 =>
 (bj .i64 x5 fun x7 x8 =>
 (bj .i64 x8 fun x9 x10 =>
 (tsC x10 fun x11 x12 =>
 (bh x12
 (ah x0.1 fun x13 x14 =>
 (aw .i64 x14 fun x15 x16 =>
 (ai x16 (aj x6
 ((FF n 130 [.agg [.int .i64 x13.k, .int .i64 x13.n, .fr (.ts x13.kids)]] []).bind fun x17 =>
 (ah x17.1 fun x18 x19 =>
 (ai x19 (aj x17.2
 ((FF n 129 [.agg [.fr (.ts v0), .int .i64 v1, .int .i64 v2, .fr (.ts v3), .fn 98 [0, 1]], .one (.int .i64 1), .agg [.int .i64 x18.k, .int .i64 x18.n, .fr (.ts x18.kids)], .one (.int .i64 x15)] [.cells [.fr (.ts x3)], .cells [.int .i64 x7, .int .i64 x9, .fr (.ts x11)]]).bind fun x20 =>
 (ba x20.2 fun x21 x22 =>
 (tsC x21 fun x23 x24 =>
 (bh x24
 (ba x22 fun x25 x26 =>
 (bj .i64 x25 fun x27 x28 =>
 (bj .i64 x28 fun x29 x30 =>
 (tsC x30 fun x31 x32 =>
 (bh x32
 (aw .i64 x20.1 fun x33 x34 =>
 (ai x34 (aj x26
 (cond (!decide (x33 = 0))
 (some ([.agg [.int .i64 0, .int .i64 0, .fr (.ts [])], .one (.int .i64 x33)], [.cells [.fr (.ts x23)], .cells [.int .i64 x27, .int .i64 x29, .fr (.ts x31)]]))
 ((x13.kids)[(1 : Int).toNat]?.bind fun x35 =>
 (v3[(1 : Int).toNat]?.bind fun x36 =>
 ((FF n 97 [.agg [.int .i64 x35.k, .int .i64 x35.n, .fr (.ts x35.kids)], .one (.int .i64 0), .agg [.int .i64 x36.k, .int .i64 x36.n, .fr (.ts x36.kids)]] []).bind fun x37 =>
 (ah x37.1 fun x38 x39 =>
 (ar x39 fun x40 x41 =>
 (ai x41 (aj x37.2
 ((FF n 123 [.agg [.int .i64 x38.k, .int .i64 x38.n, .fr (.ts x38.kids)], .one (.bool x40)] []).bind fun x42 =>
 (ah x42.1 fun x43 x44 =>
 (aw .i64 x44 fun x45 x46 =>
 (ai x46 (aj x42.2
 (some ([.agg [.int .i64 x43.k, .int .i64 x43.n, .fr (.ts x43.kids)], .one (.int .i64 x45)], [.cells [.fr (.ts x23)], .cells [.int .i64 x27, .int .i64 x29, .fr (.ts x31)]]))))))))))))))))))))))))))))))))))))))))))))
 (cond (decide (v1 = 9))
 ((FF n 131 [.agg [.fr (.ts v0), .int .i64 v1, .int .i64 v2, .fr (.ts v3), .fn 98 [0, 1]]] [.cells [.fr (.ts v4)], .cells [.int .i64 v5, .int .i64 v6, .fr (.ts v7)]]).bind fun x0 =>
 (ba x0.2 fun x1 x2 =>
 (tsC x1 fun x3 x4 =>
 (bh x4
 (ba x2 fun x5 x6 =>
 (bj .i64 x5 fun x7 x8 =>
 (bj .i64 x8 fun x9 x10 =>
 (tsC x10 fun x11 x12 =>
 (bh x12
 (ah x0.1 fun x13 x14 =>
 (aw .i64 x14 fun x15 x16 =>
 (ai x16 (aj x6
 (some ([.agg [.int .i64 x13.k, .int .i64 x13.n, .fr (.ts x13.kids)], .one (.int .i64 x15)], [.cells [.fr (.ts x3)], .cells [.int .i64 x7, .int .i64 x9, .fr (.ts x11)]])))))))))))))))
 (cond (decide (v1 = 10))
 ((FF n 132 [.agg [.fr (.ts v0), .int .i64 v1, .int .i64 v2, .fr (.ts v3), .fn 98 [0, 1]]] [.cells [.fr (.ts v4)], .cells [.int .i64 v5, .int .i64 v6, .fr (.ts v7)]]).bind fun x0 =>
 (ba x0.2 fun x1 x2 =>
 (tsC x1 fun x3 x4 =>
 (bh x4
 (ba x2 fun x5 x6 =>
 (bj .i64 x5 fun x7 x8 =>
 (bj .i64 x8 fun x9 x10 =>
 (tsC x10 fun x11 x12 =>
 (bh x12
 (ah x0.1 fun x13 x14 =>
 (aw .i64 x14 fun x15 x16 =>
 (ai x16 (aj x6
 (some ([.agg [.int .i64 x13.k, .int .i64 x13.n, .fr (.ts x13.kids)], .one (.int .i64 x15)], [.cells [.fr (.ts x3)], .cells [.int .i64 x7, .int .i64 x9, .fr (.ts x11)]])))))))))))))))
 (cond (decide (v1 = 11))
 ((FF n 98 [.one (.int .i64 0), .one (.ptr 0 0), .one (.ptr 1 0)] [.cells [.fr (.ts v4)], .cells [.int .i64 v5, .int .i64 v6, .fr (.ts v7)]]).bind fun x0 =>
 (ba x0.2 fun x1 x2 =>
 (tsC x1 fun x3 x4 =>
 (bh x4
 (ba x2 fun x5 x6 =>
 (bj .i64 x5 fun x7 x8 =>
 (bj .i64 x8 fun x9 x10 =>
 (tsC x10 fun x11 x12 =>
 (bh x12
 (ah x0.1 fun x13 x14 =>
 (aw .i64 x14 fun x15 x16 =>
 (ai x16 (aj x6
 (cond (!decide (x15 = 0))
 (some ([.agg [.int .i64 0, .int .i64 0, .fr (.ts [])], .one (.int .i64 x15)], [.cells [.fr (.ts x3)], .cells [.int .i64 x7, .int .i64 x9, .fr (.ts x11)]]))
 ((FF n 54 [.one (.fr (.ts v0)), .agg [.int .i64 x13.k, .int .i64 x13.n, .fr (.ts x13.kids)]] []).bind fun x17 =>
 (aw .i64 x17.1 fun x18 x19 =>
 (aw .i64 x19 fun x20 x21 =>
 (ai x21 (aj x17.2
 (cond (!decide (x20 = 0))
 (some ([.agg [.int .i64 0, .int .i64 0, .fr (.ts [])], .one (.int .i64 x20)], [.cells [.fr (.ts x3)], .cells [.int .i64 x7, .int .i64 x9, .fr (.ts x11)]]))
 (v3[(0 : Int).toNat]?.bind fun x22 =>
 (v3[(0 : Int).toNat]?.bind fun x23 =>
 ((FF n 70 [.one (.int .i64 10), .one (.fr (.ts [(T.mk x13.k x13.n x13.kids), (T.mk x22.k x22.n x22.kids), (T.mk x23.k x23.n x23.kids)]))] []).bind fun x24 =>
 (ah x24.1 fun x25 x26 =>
 (ai x26 (aj x24.2
 ((FF n 123 [.agg [.int .i64 x25.k, .int .i64 x25.n, .fr (.ts x25.kids)], .one (.bool true)] []).bind fun x27 =>
 (ah x27.1 fun x28 x29 =>
 (aw .i64 x29 fun x30 x31 =>
 (ai x31 (aj x27.2
 (some ([.agg [.int .i64 x28.k, .int .i64 x28.n, .fr (.ts x28.kids)], .one (.int .i64 x30)], [.cells [.fr (.ts x3)], .cells [.int .i64 x7, .int .i64 x9, .fr (.ts x11)]])))))))))))))))))))))))))))))))))
 (cond (decide (v1 = 12))
 ((FF n 133 [.agg [.fr (.ts v0), .int .i64 v1, .int .i64 v2, .fr (.ts v3), .fn 98 [0, 1]]] [.cells [.fr (.ts v4)], .cells [.int .i64 v5, .int .i64 v6, .fr (.ts v7)]]).bind fun x0 =>
 (ba x0.2 fun x1 x2 =>
 (tsC x1 fun x3 x4 =>
 (bh x4
 (ba x2 fun x5 x6 =>
 (bj .i64 x5 fun x7 x8 =>
 (bj .i64 x8 fun x9 x10 =>
 (tsC x10 fun x11 x12 =>
 (bh x12
 (ah x0.1 fun x13 x14 =>
 (aw .i64 x14 fun x15 x16 =>
 (ai x16 (aj x6
 (some ([.agg [.int .i64 x13.k, .int .i64 x13.n, .fr (.ts x13.kids)], .one (.int .i64 x15)], [.cells [.fr (.ts x3)], .cells [.int .i64 x7, .int .i64 x9, .fr (.ts x11)]])))))))))))))))
 (cond (decide (v1 = 14))
 ((FF n 134 [.agg [.fr (.ts v0), .int .i64 v1, .int .i64 v2, .fr (.ts v3), .fn 98 [0, 1]]] [.cells [.fr (.ts v4)], .cells [.int .i64 v5, .int .i64 v6, .fr (.ts v7)]]).bind fun x0 =>
 (ba x0.2 fun x1 x2 =>
 (tsC x1 fun x3 x4 =>
 (bh x4
 (ba x2 fun x5 x6 =>
 (bj .i64 x5 fun x7 x8 =>
 (bj .i64 x8 fun x9 x10 =>
 (tsC x10 fun x11 x12 =>
 (bh x12
 (ah x0.1 fun x13 x14 =>
 (aw .i64 x14 fun x15 x16 =>
 (ai x16 (aj x6
 (some ([.agg [.int .i64 x13.k, .int .i64 x13.n, .fr (.ts x13.kids)], .one (.int .i64 x15)], [.cells [.fr (.ts x3)], .cells [.int .i64 x7, .int .i64 x9, .fr (.ts x11)]])))))))))))))))
 ((FF n 135 [.agg [.fr (.ts v0), .int .i64 v1, .int .i64 v2, .fr (.ts v3), .fn 98 [0, 1]]] [.cells [.fr (.ts v4)], .cells [.int .i64 v5, .int .i64 v6, .fr (.ts v7)]]).bind fun x0 =>
 (ba x0.2 fun x1 x2 =>
 (tsC x1 fun x3 x4 =>
 (bh x4
 (ba x2 fun x5 x6 =>
 (bj .i64 x5 fun x7 x8 =>
 (bj .i64 x8 fun x9 x10 =>
 (tsC x10 fun x11 x12 =>
 (bh x12
 (ah x0.1 fun x13 x14 =>
 (aw .i64 x14 fun x15 x16 =>
 (ai x16 (aj x6
 (some ([.agg [.int .i64 x13.k, .int .i64 x13.n, .fr (.ts x13.kids)], .one (.int .i64 x15)], [.cells [.fr (.ts x3)], .cells [.int .i64 x7, .int .i64 x9, .fr (.ts x11)]]))))))))))))))))))))))))))))) := by kernel_rfl
noncomputable def gg (n c : Nat) (v0 : Int) (v1 : List T) (v2 v3 v4 : Int) : OR := aR Tryz.prog SS n 101 1 [1, 1, 1, 0, 1, 0] [] c ⟨[aa, .v (.one (.int .i64 v0)), .v (.one (.ptr 0 0)), aa, aa, aa, aa, aa, aa, aa, aa, aa, aa, aa, aa, aa, aa, aa, aa, aa, aa, aa, aa, aa, aa, aa, aa, aa, aa, aa, aa, aa, aa, aa, aa, aa, aa, aa, aa, aa, aa, .v (.one (.fr (.ts v1))), .v (.one (.int .i64 v2)), .v (.one (.int .i64 v3)), aa, aa, aa, aa, aa, aa, aa, aa, aa, aa],
 [.cells [.int .i64 v4]]⟩
theorem fQ (n c : Nat) (v0 : Int) (v1 : List T) (v2 v3 v4 : Int) : gg n (c + 1) v0 v1 v2 v3 v4 =
 (cond (decide (v3 < v2))
 (cond (decide (0 ≤ v3))
 (v1[(v3 : Int).toNat]?.bind fun x0 =>
 ((FF n 101 [.agg [.int .i64 x0.k, .int .i64 x0.n, .fr (.ts x0.kids)], .one (.int .i64 (IntKind.i64.wrap (v0 + 1))), .one (.ptr 0 0)] [.cells [.int .i64 v4]]).bind fun x1 =>
 (ba x1.2 fun x2 x3 =>
 (bj .i64 x2 fun x4 x5 =>
 (bh x5
 (ar x1.1 fun x6 x7 =>
 (ai x7 (aj x3
 (cond (!x6)
 (some ([.one (.bool false)], [.cells [.int .i64 x4]]))
 (gg n c v0 v1 v2 (IntKind.i64.wrap (v3 + 1)) x4))))))))))
 none)
 (some ([.one (.bool true)], [.cells [.int .i64 v4]]))) := by kernel_rfl
theorem zP (n : Nat) (v0 v1 : Int) (v2 : List T) (v3 v4 : Int) : FF (n + 1) 101 [.agg [.int .i64 v0, .int .i64 v1, .fr (.ts v2)], .one (.int .i64 v3), .one (.ptr 0 0)] [.cells [.int .i64 v4]] =
 (cond (decide (400 < (IntKind.i64.wrap (v4 + 1))))
 (some ([.one (.bool false)], [.cells [.int .i64 (IntKind.i64.wrap (v4 + 1))]]))
 (cond (decide (30 < v3))
 (some ([.one (.bool false)], [.cells [.int .i64 (IntKind.i64.wrap (v4 + 1))]]))
 ((FF n 136 [.one (.int .i64 v0)] []).bind fun x0 =>
 (aw .i64 x0.1 fun x1 x2 =>
 (ai x2 (aj x0.2
 (cond (!decide (x1 = (v2.length : Int)))
 (some ([.one (.bool false)], [.cells [.int .i64 (IntKind.i64.wrap (v4 + 1))]]))
 ((FF n 137 [.one (.int .i64 v0)] []).bind fun x3 =>
 (aw .i64 x3.1 fun x4 x5 =>
 (ai x5 (aj x3.2
 ((FF n 60 [.one (.int .i64 v1), .one (.int .i64 0), .one (.int .i64 x4)] []).bind fun x6 =>
 (ar x6.1 fun x7 x8 =>
 (ai x8 (aj x6.2
 (cond (!x7)
 (some ([.one (.bool false)], [.cells [.int .i64 (IntKind.i64.wrap (v4 + 1))]]))
 (gg n n v3 v2 ((v2.length : Int) : Int) 0 (IntKind.i64.wrap (v4 + 1))))))))))))))))))) := by kernel_rfl
noncomputable def aM (n c : Nat) (v0 : Int) (v1 : List T) (v2 v3 v4 v5 v6 : Int) (v7 : List T) : OR := aR Tryz.prog SS n 102 1 [1, 1, 1, 0] [] c ⟨[aa, .v (.one (.int .i64 v0)), .v (.one (.fn 103 [0])), .v (.one (.ptr 1 0)), aa, aa, aa, aa, aa, aa, aa, aa, aa, aa, aa, aa, aa, aa, aa, aa, aa, aa, aa, aa, .v (.one (.fr (.ts v1))), .v (.one (.int .i64 v2)), .v (.one (.int .i64 v3)), aa, aa, aa, aa, aa, aa, aa, aa, aa, aa, aa, aa, aa, aa],
 [.cells [.int .i64 v4], .cells [.int .i64 v5, .int .i64 v6, .fr (.ts v7)]]⟩
theorem cF (n c : Nat) (v0 : Int) (v1 : List T) (v2 v3 v4 v5 v6 : Int) (v7 : List T) : aM n (c + 1) v0 v1 v2 v3 v4 v5 v6 v7 =
 (cond (decide (v3 < v2))
 (cond (decide (0 ≤ v3))
 (v1[(v3 : Int).toNat]?.bind fun x0 =>
 ((FF n 121 [.one (.int .i64 v5), .one (.int .i64 v3)] []).bind fun x1 =>
 (aw .i64 x1.1 fun x2 x3 =>
 (ai x3 (aj x1.2
 ((FF n 102 [.agg [.int .i64 x0.k, .int .i64 x0.n, .fr (.ts x0.kids)], .one (.int .i64 (IntKind.i64.wrap (v0 + x2))), .one (.fn 103 [0])] [.cells [.int .i64 v4]]).bind fun x4 =>
 (ba x4.2 fun x5 x6 =>
 (bj .i64 x5 fun x7 x8 =>
 (bh x8
 (ai x4.1 (aj x6
 (aM n c v0 v1 v2 (IntKind.i64.wrap (v3 + 1)) x7 v5 v6 v7))))))))))))
 none)
 (some ([], [.cells [.int .i64 v4]]))) := by kernel_rfl
theorem gW (n : Nat) (v0 v1 : Int) (v2 : List T) (v3 v4 : Int) : FF (n + 1) 102 [.agg [.int .i64 v0, .int .i64 v1, .fr (.ts v2)], .one (.int .i64 v3), .one (.fn 103 [0])] [.cells [.int .i64 v4]] =
 (cond (decide (v0 = 1))
 (cond (decide (v3 ≤ v1))
 ((FF n 103 [.one (.int .i64 (IntKind.i64.wrap (v1 - v3))), .one (.ptr 0 0)] [.cells [.int .i64 v4]]).bind fun x0 =>
 (ba x0.2 fun x1 x2 =>
 (bj .i64 x1 fun x3 x4 =>
 (bh x4
 (ai x0.1 (aj x2
 (aM n n v3 v2 ((v2.length : Int) : Int) 0 x3 v0 v1 v2)))))))
 (aM n n v3 v2 ((v2.length : Int) : Int) 0 v4 v0 v1 v2))
 (aM n n v3 v2 ((v2.length : Int) : Int) 0 v4 v0 v1 v2)) := by kernel_rfl
theorem ya (n : Nat) (v0 v1 : Int) (v2 : List T) : FF (n + 1) 104 [.agg [.int .i64 v0, .int .i64 v1, .fr (.ts v2)]] [] =
 (cond (decide (v0 = 5))
 (v2[(0 : Int).toNat]?.bind fun x0 =>
 (cond (decide (x0.k = 4))
 (some ([.one (.int .i64 1)], []))
 (some ([.one (.int .i64 0)], []))))
 (cond (decide (v0 = 9))
 (v2[(3 : Int).toNat]?.bind fun x0 =>
 (cond (decide (x0.k = 7))
 (some ([.one (.int .i64 2)], []))
 (cond (decide (x0.k = 8))
 (some ([.one (.int .i64 3)], []))
 (some ([.one (.int .i64 0)], [])))))
 (cond (decide (v0 = 12))
 (v2[(1 : Int).toNat]?.bind fun x0 =>
 (cond (decide (x0.k = 11))
 (some ([.one (.int .i64 4)], []))
 (some ([.one (.int .i64 0)], []))))
 (cond (decide (v0 = 15))
 (v2[(0 : Int).toNat]?.bind fun x0 =>
 (cond (decide (x0.k = 14))
 (some ([.one (.int .i64 (IntKind.i64.wrap ((IntKind.i64.wrap (5 + v0)) - 15)))], []))
 (some ([.one (.int .i64 0)], []))))
 (cond (decide (v0 = 16))
 (v2[(0 : Int).toNat]?.bind fun x0 =>
 (cond (decide (x0.k = 14))
 (some ([.one (.int .i64 (IntKind.i64.wrap ((IntKind.i64.wrap (5 + v0)) - 15)))], []))
 (some ([.one (.int .i64 0)], []))))
 (some ([.one (.int .i64 0)], []))))))) := by kernel_rfl
noncomputable def dJ (n c : Nat) (v0 v1 v2 v3 : Int) (v4 : List T) : OR := aR Tryz.prog SS n 105 0 [1, 1, 0, 1, 0] [] c ⟨[aa, .v (.one (.int .i64 v0)), .v (.one (.ptr 0 0)), aa, aa, .v (.one (.int .i64 v1)), aa, aa, aa, aa, aa, aa, aa, aa, aa, aa, aa, aa, aa, aa, aa, aa, aa, aa, aa, aa, aa, aa, aa, aa, aa, aa, aa, aa, aa, aa, aa, aa, aa, aa, aa, aa, aa, aa, aa, aa],
 [.cells [.int .i64 v2, .int .i64 v3, .fr (.ts v4)]]⟩
theorem gN (n c : Nat) (v0 v1 v2 v3 : Int) (v4 : List T) : dJ n (c + 1) v0 v1 v2 v3 v4 =
 (cond (decide (v1 < (v4.length : Int)))
 (cond (decide (0 ≤ v1))
 (v4[(v1 : Int).toNat]?.bind fun x0 =>
 ((FF n 105 [.agg [.int .i64 x0.k, .int .i64 x0.n, .fr (.ts x0.kids)], .one (.int .i64 (IntKind.i64.wrap (v0 - 1)))] []).bind fun x1 =>
 (ar x1.1 fun x2 x3 =>
 (ai x3 (aj x1.2
 (cond (!x2)
 (some ([.one (.bool false)], []))
 (dJ n c v0 (IntKind.i64.wrap (v1 + 1)) v2 v3 v4)))))))
 none)
 (some ([.one (.bool true)], []))) := by kernel_rfl
theorem q7 (n : Nat) (v0 v1 : Int) (v2 : List T) (v3 : Int) : FF (n + 1) 105 [.agg [.int .i64 v0, .int .i64 v1, .fr (.ts v2)], .one (.int .i64 v3)] [] =
 (cond (decide (v3 < 1))
 (some ([.one (.bool false)], []))
 ((FF n 138 [.one (.int .i64 v0)] []).bind fun x0 =>
 (aw .i64 x0.1 fun x1 x2 =>
 (ai x2 (aj x0.2
 (cond (!decide (x1 = (v2.length : Int)))
 (some ([.one (.bool false)], []))
 (cond (decide (v1 < 0))
 (some ([.one (.bool false)], []))
 ((FF n 139 [.one (.int .i64 v0)] []).bind fun x3 =>
 (aw .i64 x3.1 fun x4 x5 =>
 (ai x5 (aj x3.2
 (cond (decide (x4 < v1))
 (some ([.one (.bool false)], []))
 (dJ n n v3 0 v0 v1 v2))))))))))))) := by kernel_rfl
noncomputable def dF (n c : Nat) (v0 v1 v2 v3 v4 : Int) (v5 : List T) : OR := aR Tryz.prog SS n 106 0 [1, 1, 0, 1, 0] [] c ⟨[aa, .v (.one (.int .i64 v0)), .v (.one (.ptr 0 0)), aa, aa, .v (.one (.int .i64 v1)), .v (.one (.int .i64 v2)), aa, aa, aa, aa, aa, aa, aa, aa, aa, aa, aa, aa, aa, aa, aa, aa, aa, aa, aa, aa, aa, aa, aa, aa],
 [.cells [.int .i64 v3, .int .i64 v4, .fr (.ts v5)]]⟩
theorem dS (n c : Nat) (v0 v1 v2 v3 v4 : Int) (v5 : List T) : dF n (c + 1) v0 v1 v2 v3 v4 v5 =
 (cond (decide (v2 < (v5.length : Int)))
 (cond (decide (v1 ≤ v0))
 (cond (decide (0 ≤ v2))
 (v5[(v2 : Int).toNat]?.bind fun x0 =>
 ((FF n 106 [.agg [.int .i64 x0.k, .int .i64 x0.n, .fr (.ts x0.kids)], .one (.int .i64 (IntKind.i64.wrap (v0 - v1)))] []).bind fun x1 =>
 (aw .i64 x1.1 fun x2 x3 =>
 (ai x3 (aj x1.2
 (dF n c v0 (IntKind.i64.wrap (v1 + x2)) (IntKind.i64.wrap (v2 + 1)) v3 v4 v5))))))
 none)
 (some ([.one (.int .i64 v1)], [])))
 (some ([.one (.int .i64 v1)], []))) := by kernel_rfl
theorem qO (n : Nat) (v0 v1 : Int) (v2 : List T) (v3 : Int) : FF (n + 1) 106 [.agg [.int .i64 v0, .int .i64 v1, .fr (.ts v2)], .one (.int .i64 v3)] [] =
 dF n n v3 1 0 v0 v1 v2 := by kernel_rfl
theorem dB (n : Nat) (v0 : List T) : FF (n + 1) 93 [.one (.fr (.ts v0)), .one (.fn 107 [])] [] =
 ((FF n 118 [.one (.fr (.ts v0)), .one (.fn 107 [])] []).bind fun x0 =>
 (aw .i64 x0.1 fun x1 x2 =>
 (ai x2 (aj x0.2
 (some ([.one (.bool (decide (0 ≤ x1)))], [])))))) := by kernel_rfl
theorem tH (n : Nat) (v0 v1 : Int) (v2 : List T) : FF (n + 1) 108 [.agg [.int .i64 v0, .int .i64 v1, .fr (.ts v2)]] [] =
 ((FF n 65 [.agg [.int .i64 v0, .int .i64 v1, .fr (.ts v2)]] []).bind fun x0 =>
 (ar x0.1 fun x1 x2 =>
 (ai x2 (aj x0.2
 (cond (!x1)
 (some ([.agg [.int .i64 0, .int .i64 0, .fr (.ts [])], .one (.int .i64 2)], []))
 ((FF n 140 [.agg [.int .i64 v0, .int .i64 v1, .fr (.ts v2)], .one (.int .i64 200)] []).bind fun x3 =>
 (ah x3.1 fun x4 x5 =>
 (aw .i64 x5 fun x6 x7 =>
 (ai x7 (aj x3.2
 (cond (!decide (x6 = 0))
 (some ([.agg [.int .i64 0, .int .i64 0, .fr (.ts [])], .one (.int .i64 2)], []))
 (some ([.agg [.int .i64 x4.k, .int .i64 x4.n, .fr (.ts x4.kids)], .one (.int .i64 0)], []))))))))))))) := by kernel_rfl
noncomputable def bk (n c : Nat) (v0 : Int) (v1 : List T) (v2 v3 v4 v5 : Int) (v6 : Bool) (v7 v8 : Int) (v9 : List T) (v10 v11 : Int) (v12 : List T) (v13 v14 : Int) (v15 : List T) : OR := aR Tryz.prog SS n 109 3 [1, 1, 1, 0, 1, 0] [] c ⟨[aa, .v (.one (.int .i64 v0)), .v (.one (.fn 110 [0, 1, 2])), .v (.one (.ptr 3 0)), aa, aa, .v (.one (.ptr 4 0)), .v (.one (.ptr 6 0)), aa, aa, aa, aa, aa, aa, aa, aa, aa, aa, aa, aa, aa, aa, aa, aa, .v (.one (.fr (.ts v1))), .v (.one (.int .i64 v2)), .v (.one (.int .i64 v3)), aa, aa, aa, aa, aa, aa, aa, aa, aa, aa, aa, aa, aa, aa, aa, aa, aa, aa, aa, aa],
 [.cells [.int .i64 v4], .cells [.int .i64 v5], .cells [.bool v6], .cells [.int .i64 v7, .int .i64 v8, .fr (.ts v9)], .cells [.int .i64 v10, .int .i64 v11, .own 5 0], .arr 25 (.ts v12) 0 false, .cells [.int .i64 v13, .int .i64 v14, .own 7 0], .arr 25 (.ts v15) 0 false]⟩
theorem b7 (n c : Nat) (v0 : Int) (v1 : List T) (v2 v3 v4 v5 : Int) (v6 : Bool) (v7 v8 : Int) (v9 : List T) (v10 v11 : Int) (v12 : List T) (v13 v14 : Int) (v15 : List T) : bk n (c + 1) v0 v1 v2 v3 v4 v5 v6 v7 v8 v9 v10 v11 v12 v13 v14 v15 =
 (cond (decide (v3 < v2))
 (cond (decide (0 ≤ v3))
 (v1[(v3 : Int).toNat]?.bind fun x0 =>
 ((FF n 121 [.one (.int .i64 v7), .one (.int .i64 v3)] []).bind fun x1 =>
 (aw .i64 x1.1 fun x2 x3 =>
 (ai x3 (aj x1.2
 ((FF n 109 [.agg [.int .i64 x0.k, .int .i64 x0.n, .fr (.ts x0.kids)], .one (.int .i64 (IntKind.i64.wrap (v0 + x2))), .one (.fn 110 [0, 1, 2])] [.cells [.int .i64 v4], .cells [.int .i64 v5], .cells [.bool v6]]).bind fun x4 =>
 (ba x4.2 fun x5 x6 =>
 (bj .i64 x5 fun x7 x8 =>
 (bh x8
 (ba x6 fun x9 x10 =>
 (bj .i64 x9 fun x11 x12 =>
 (bh x12
 (ba x10 fun x13 x14 =>
 (oq x13 fun x15 x16 =>
 (bh x16
 (ah x4.1 fun x17 x18 =>
 (ai x18 (aj x14
 (cond (cn (v15 ++ [(T.mk x17.k x17.n x17.kids)]).length)
 (bk n c v0 v1 v2 (IntKind.i64.wrap (v3 + 1)) x7 x11 x15 v7 v8 v9 v10 v11 v12 v13 v14 (v15 ++ [(T.mk x17.k x17.n x17.kids)]))
 none)))))))))))))))))))
 none)
 (some ([.agg [.int .i64 v13, .int .i64 v14, .fr (.ts v15)]], [.cells [.int .i64 v4], .cells [.int .i64 v5], .cells [.bool v6]]))) := by kernel_rfl
theorem gC (n : Nat) (v0 v1 : Int) (v2 : List T) (v3 v4 v5 : Int) (v6 : Bool) : FF (n + 1) 109 [.agg [.int .i64 v0, .int .i64 v1, .fr (.ts v2)], .one (.int .i64 v3), .one (.fn 110 [0, 1, 2])] [.cells [.int .i64 v4], .cells [.int .i64 v5], .cells [.bool v6]] =
 (cond (decide (v0 = 1))
 ((FF n 110 [.one (.int .i64 v1), .one (.int .i64 v3), .one (.ptr 0 0), .one (.ptr 1 0), .one (.ptr 2 0)] [.cells [.int .i64 v4], .cells [.int .i64 v5], .cells [.bool v6]]).bind fun x0 =>
 (ba x0.2 fun x1 x2 =>
 (bj .i64 x1 fun x3 x4 =>
 (bh x4
 (ba x2 fun x5 x6 =>
 (bj .i64 x5 fun x7 x8 =>
 (bh x8
 (ba x6 fun x9 x10 =>
 (oq x9 fun x11 x12 =>
 (bh x12
 (ah x0.1 fun x13 x14 =>
 (ai x14 (aj x10
 (some ([.agg [.int .i64 x13.k, .int .i64 x13.n, .fr (.ts x13.kids)]], [.cells [.int .i64 x3], .cells [.int .i64 x7], .cells [.bool x11]])))))))))))))))
 (bk n n v3 v2 ((v2.length : Int) : Int) 0 v4 v5 v6 v0 v1 v2 0 0 ([]) v0 v1 ([]))) := by kernel_rfl
theorem tO (n : Nat) (v0 : List T) (v1 v2 : Int) (v3 : List T) : FF (n + 1) 111 [.one (.fr (.ts v0)), .agg [.int .i64 v1, .int .i64 v2, .fr (.ts v3)]] [] =
 (cond (decide (v1 = 3))
 ((FF n 141 [.one (.fr (.ts v0)), .agg [.int .i64 v1, .int .i64 v2, .fr (.ts v3)]] []).bind fun x0 =>
 (ah x0.1 fun x1 x2 =>
 (aw .i64 x2 fun x3 x4 =>
 (ai x4 (aj x0.2
 (some ([.agg [.int .i64 x1.k, .int .i64 x1.n, .fr (.ts x1.kids)], .one (.int .i64 x3)], [])))))))
 (cond (decide (v1 = 13))
 ((FF n 141 [.one (.fr (.ts v0)), .agg [.int .i64 v1, .int .i64 v2, .fr (.ts v3)]] []).bind fun x0 =>
 (ah x0.1 fun x1 x2 =>
 (aw .i64 x2 fun x3 x4 =>
 (ai x4 (aj x0.2
 (some ([.agg [.int .i64 x1.k, .int .i64 x1.n, .fr (.ts x1.kids)], .one (.int .i64 x3)], [])))))))
 (cond (decide (v1 = 4))
 ((FF n 142 [.one (.fr (.ts v0)), .agg [.int .i64 v1, .int .i64 v2, .fr (.ts v3)]] []).bind fun x0 =>
 (ah x0.1 fun x1 x2 =>
 (aw .i64 x2 fun x3 x4 =>
 (ai x4 (aj x0.2
 (some ([.agg [.int .i64 x1.k, .int .i64 x1.n, .fr (.ts x1.kids)], .one (.int .i64 x3)], [])))))))
 (cond (decide (v1 = 5))
 ((FF n 143 [.one (.fr (.ts v0)), .agg [.int .i64 v1, .int .i64 v2, .fr (.ts v3)]] []).bind fun x0 =>
 (ah x0.1 fun x1 x2 =>
 (aw .i64 x2 fun x3 x4 =>
 (ai x4 (aj x0.2
 (some ([.agg [.int .i64 x1.k, .int .i64 x1.n, .fr (.ts x1.kids)], .one (.int .i64 x3)], [])))))))
 (cond (decide (v1 = 9))
 ((FF n 144 [.one (.fr (.ts v0)), .agg [.int .i64 v1, .int .i64 v2, .fr (.ts v3)]] []).bind fun x0 =>
 (ah x0.1 fun x1 x2 =>
 (aw .i64 x2 fun x3 x4 =>
 (ai x4 (aj x0.2
 (some ([.agg [.int .i64 x1.k, .int .i64 x1.n, .fr (.ts x1.kids)], .one (.int .i64 x3)], [])))))))
 (cond (decide (v1 = 10))
 ((FF n 145 [.one (.fr (.ts v0)), .agg [.int .i64 v1, .int .i64 v2, .fr (.ts v3)]] []).bind fun x0 =>
 (ah x0.1 fun x1 x2 =>
 (aw .i64 x2 fun x3 x4 =>
 (ai x4 (aj x0.2
 (some ([.agg [.int .i64 x1.k, .int .i64 x1.n, .fr (.ts x1.kids)], .one (.int .i64 x3)], [])))))))
 (cond (decide (v1 = 12))
 ((FF n 146 [.one (.fr (.ts v0)), .agg [.int .i64 v1, .int .i64 v2, .fr (.ts v3)]] []).bind fun x0 =>
 (ah x0.1 fun x1 x2 =>
 (aw .i64 x2 fun x3 x4 =>
 (ai x4 (aj x0.2
 (some ([.agg [.int .i64 x1.k, .int .i64 x1.n, .fr (.ts x1.kids)], .one (.int .i64 x3)], [])))))))
 (cond (decide (v1 = 14))
 ((FF n 147 [.one (.fr (.ts v0)), .agg [.int .i64 v1, .int .i64 v2, .fr (.ts v3)]] []).bind fun x0 =>
 (ah x0.1 fun x1 x2 =>
 (aw .i64 x2 fun x3 x4 =>
 (ai x4 (aj x0.2
 (some ([.agg [.int .i64 x1.k, .int .i64 x1.n, .fr (.ts x1.kids)], .one (.int .i64 x3)], [])))))))
 ((FF n 148 [.one (.fr (.ts v0)), .agg [.int .i64 v1, .int .i64 v2, .fr (.ts v3)]] []).bind fun x0 =>
 (ah x0.1 fun x1 x2 =>
 (aw .i64 x2 fun x3 x4 =>
 (ai x4 (aj x0.2
 (some ([.agg [.int .i64 x1.k, .int .i64 x1.n, .fr (.ts x1.kids)], .one (.int .i64 x3)], []))))))))))))))) := by kernel_rfl
theorem iM (n : Nat) (v0 v1 : Int) (v2 : List T) (v3 : List Int) : FF (n + 1) 112 [.agg [.int .i64 v0, .int .i64 v1, .fr (.ts v2)], .one (.fr (.is v3))] [] =
 ((FF n 150 [.agg [.int .i64 v0, .int .i64 v1, .fr (.ts v2)], .one (.fr (.is v3))] []).bind fun x0 =>
 (ah x0.1 fun x1 x2 =>
 (ai x2 (aj x0.2
 ((FF n 149 [.agg [.int .i64 x1.k, .int .i64 x1.n, .fr (.ts x1.kids)]] []).bind fun x3 =>
 (ah x3.1 fun x4 x5 =>
 (ar x5 fun x6 x7 =>
 (ai x7 (aj x3.2
 (cond (!x6)
 (some ([.agg [.int .i64 0, .int .i64 0, .fr (.ts [])], .one (.bool false)], []))
 ((FF n 151 [.agg [.int .i64 v0, .int .i64 v1, .fr (.ts v2)], .one (.fr (.is v3)), .agg [.int .i64 x4.k, .int .i64 x4.n, .fr (.ts x4.kids)]] []).bind fun x8 =>
 (ah x8.1 fun x9 x10 =>
 (ai x10 (aj x8.2
 ((FF n 58 [.agg [.int .i64 x9.k, .int .i64 x9.n, .fr (.ts x9.kids)]] []).bind fun x11 =>
 (ah x11.1 fun x12 x13 =>
 (ai x13 (aj x11.2
 ((FF n 71 [.agg [.int .i64 x12.k, .int .i64 x12.n, .fr (.ts x12.kids)]] []).bind fun x14 =>
 (ah x14.1 fun x15 x16 =>
 (ar x16 fun x17 x18 =>
 (ai x18 (aj x14.2
 (some ([.agg [.int .i64 x15.k, .int .i64 x15.n, .fr (.ts x15.kids)], .one (.bool x17)], []))))))))))))))))))))))))) := by kernel_rfl
noncomputable def fC (n c : Nat) (v0 : List T) (v1 v2 v3 v4 : Int) (v5 : List T) : OR := aR Tryz.prog SS n 78 0 [1, 0, 1, 0] [] c ⟨[aa, .v (.one (.ptr 0 0)), aa, aa, aa, aa, aa, aa, aa, .v (.one (.fr (.ts v0))), .v (.one (.int .i64 v1)), .v (.one (.int .i64 v2)), aa, aa, aa, aa, aa, aa, aa, aa, aa, aa, aa, aa, aa, aa, aa, aa, aa, aa],
 [.cells [.int .i64 v3, .int .i64 v4, .fr (.ts v5)]]⟩
theorem iG (n c : Nat) (v0 : List T) (v1 v2 v3 v4 : Int) (v5 : List T) : fC n (c + 1) v0 v1 v2 v3 v4 v5 =
 (cond (decide (v2 < v1))
 (cond (decide (0 ≤ v2))
 (v0[(v2 : Int).toNat]?.bind fun x0 =>
 ((FF n 78 [.agg [.int .i64 x0.k, .int .i64 x0.n, .fr (.ts x0.kids)]] []).bind fun x1 =>
 (rIs x1.1 fun x2 x3 =>
 (ar x3 fun x4 x5 =>
 (ai x5 (aj x1.2
 (cond x4
 (cond (cn ([v2] ++ x2).length)
 (some ([.one (.fr (.is ([v2] ++ x2))), .one (.bool true)], []))
 none)
 (fC n c v0 v1 (IntKind.i64.wrap (v2 + 1)) v3 v4 v5))))))))
 none)
 ((FF n 104 [.agg [.int .i64 v3, .int .i64 v4, .fr (.ts v5)]] []).bind fun x0 =>
 (aw .i64 x0.1 fun x1 x2 =>
 (ai x2 (aj x0.2
 (some ([.one (.fr (.is [])), .one (.bool (!decide (x1 = 0)))], []))))))) := by kernel_rfl
theorem wO (n : Nat) (v0 v1 : Int) (v2 : List T) : FF (n + 1) 78 [.agg [.int .i64 v0, .int .i64 v1, .fr (.ts v2)]] [] =
 fC n n v2 ((v2.length : Int) : Int) 0 v0 v1 v2 := by kernel_rfl
noncomputable def bp (n c : Nat) (v0 v1 v2 : Int) (v3 : List UInt8) (v4 v5 v6 : Int) (v7 : List T) (v8 v9 : Int) (v10 : List T) : OR := aR Tryz.prog SS n 113 1 [1, 1, 1, 1, 1, 0, 1, 0] [] c ⟨[.v (.one (.ptr 0 0)), .v (.one (.int .i64 v0)), aa, aa, .v (.one (.ptr 1 0)), .v (.one (.int .i64 v1)), .v (.one (.ptr 3 0)), .v (.one (.int .i64 v2)), aa, aa, aa, aa, aa, aa, aa, aa, aa, aa, aa, aa, aa, aa, aa, aa, aa, aa, aa, aa, aa, aa, aa, aa, aa, aa, aa, aa, aa, aa, aa, aa, aa],
 [.cells [.fr (.bs v3), .int .i64 v4], .cells [.int .i64 v5, .int .i64 v6, .own 2 0], .arr 25 (.ts v7) 0 false, .cells [.int .i64 v8, .int .i64 v9, .own 4 0], .arr 25 (.ts v10) 0 false]⟩
theorem cX (n c : Nat) (v0 v1 v2 : Int) (v3 : List UInt8) (v4 v5 v6 : Int) (v7 : List T) (v8 v9 : Int) (v10 : List T) : bp n (c + 1) v0 v1 v2 v3 v4 v5 v6 v7 v8 v9 v10 =
 ((FF n 138 [.one (.int .i64 v1)] []).bind fun x0 =>
 (aw .i64 x0.1 fun x1 x2 =>
 (ai x2 (aj x0.2
 (cond (decide (v2 < x1))
 ((FF n 113 [.one (.ptr 0 0), .one (.int .i64 (IntKind.i64.wrap (v0 - 1)))] [.cells [.fr (.bs v3), .int .i64 v4]]).bind fun x3 =>
 (ba x3.2 fun x4 x5 =>
 (bsC x4 fun x6 x7 =>
 (bj .i64 x7 fun x8 x9 =>
 (bh x9
 (ah x3.1 fun x10 x11 =>
 (ai x11 (aj x5
 (cond (cn (v10 ++ [(T.mk x10.k x10.n x10.kids)]).length)
 (bp n c v0 v1 (IntKind.i64.wrap (v2 + 1)) x6 x8 v5 v6 v7 v8 v9 (v10 ++ [(T.mk x10.k x10.n x10.kids)]))
 none)))))))))
 (some ([.agg [.int .i64 v8, .int .i64 v9, .fr (.ts v10)]], [.cells [.fr (.bs v3), .int .i64 v4]]))))))) := by kernel_rfl
theorem tN (n : Nat) (v0 : Int) (v1 : List UInt8) (v2 : Int) : FF (n + 1) 113 [.one (.ptr 0 0), .one (.int .i64 v0)] [.cells [.fr (.bs v1), .int .i64 v2]] =
 ((FF n 86 [.one (.ptr 0 0), .one (.fr (.is [1, 5, 4, 8, 9, 3, 6, 7, 11, 15, 14, 10, 12, 13, 16, 2]))] [.cells [.fr (.bs v1), .int .i64 v2]]).bind fun x0 =>
 (ba x0.2 fun x1 x2 =>
 (bsC x1 fun x3 x4 =>
 (bj .i64 x4 fun x5 x6 =>
 (bh x6
 (aw .i64 x0.1 fun x7 x8 =>
 (ai x8 (aj x2
 (cond (decide (v0 < 2))
 ((FF n 86 [.one (.ptr 0 0), .one (.fr (.is [1, 7, 6, 2, 1]))] [.cells [.fr (.bs x3), .int .i64 x5]]).bind fun x9 =>
 (ba x9.2 fun x10 x11 =>
 (bsC x10 fun x12 x13 =>
 (bj .i64 x13 fun x14 x15 =>
 (bh x15
 (aw .i64 x9.1 fun x16 x17 =>
 (ai x17 (aj x11
 ((FF n 139 [.one (.int .i64 x16)] []).bind fun x18 =>
 (aw .i64 x18.1 fun x19 x20 =>
 (ai x20 (aj x18.2
 (cond (decide (0 < x19))
 ((FF n 86 [.one (.ptr 0 0), .one (.fr (.is [0, 1, 0, 2, 1, 3]))] [.cells [.fr (.bs x12), .int .i64 x14]]).bind fun x21 =>
 (ba x21.2 fun x22 x23 =>
 (bsC x22 fun x24 x25 =>
 (bj .i64 x25 fun x26 x27 =>
 (bh x27
 (aw .i64 x21.1 fun x28 x29 =>
 (ai x29 (aj x23
 (bp n n v0 x16 0 x24 x26 0 0 ([]) x16 x28 ([]))))))))))
 (bp n n v0 x16 0 x12 x14 0 0 ([]) x16 0 ([])))))))))))))))
 ((FF n 139 [.one (.int .i64 x7)] []).bind fun x9 =>
 (aw .i64 x9.1 fun x10 x11 =>
 (ai x11 (aj x9.2
 (cond (decide (0 < x10))
 ((FF n 86 [.one (.ptr 0 0), .one (.fr (.is [0, 1, 0, 2, 1, 3]))] [.cells [.fr (.bs x3), .int .i64 x5]]).bind fun x12 =>
 (ba x12.2 fun x13 x14 =>
 (bsC x13 fun x15 x16 =>
 (bj .i64 x16 fun x17 x18 =>
 (bh x18
 (aw .i64 x12.1 fun x19 x20 =>
 (ai x20 (aj x14
 (bp n n v0 x7 0 x15 x17 0 0 ([]) x7 x19 ([]))))))))))
 (bp n n v0 x7 0 x3 x5 0 0 ([]) x7 0 ([])))))))))))))))) := by kernel_rfl
theorem qU (n : Nat) (v0 v1 : Int) : FF (n + 1) 114 [.one (.int .i64 v0), .one (.int .i64 v1)] [] =
 ((FF n 152 [.one (.int .i64 v0), .one (.int .i64 v1)] []).bind fun x0 =>
 (ar x0.1 fun x1 x2 =>
 (ai x2 (aj x0.2
 (cond x1
 (some ([.one (.int .i64 1)], []))
 (some ([.one (.int .i64 0)], []))))))) := by kernel_rfl
theorem tF (n : Nat) (v0 v1 : Int) (v2 : List T) (v3 v4 : Int) (v5 : List T) : FF (n + 1) 115 [.agg [.int .i64 v0, .int .i64 v1, .fr (.ts v2)], .agg [.int .i64 v3, .int .i64 v4, .fr (.ts v5)]] [] =
 ((FF n 65 [.agg [.int .i64 v0, .int .i64 v1, .fr (.ts v2)]] []).bind fun x0 =>
 (ar x0.1 fun x1 x2 =>
 (ai x2 (aj x0.2
 (cond (!x1)
 (some ([.one (.int .i64 2)], []))
 ((FF n 65 [.agg [.int .i64 v3, .int .i64 v4, .fr (.ts v5)]] []).bind fun x3 =>
 (ar x3.1 fun x4 x5 =>
 (ai x5 (aj x3.2
 (cond (!x4)
 (some ([.one (.int .i64 2)], []))
 ((FF n 153 [.agg [.int .i64 v0, .int .i64 v1, .fr (.ts v2)], .agg [.int .i64 v3, .int .i64 v4, .fr (.ts v5)], .one (.int .i64 200)] []).bind fun x6 =>
 (aw .i64 x6.1 fun x7 x8 =>
 (ai x8 (aj x6.2
 (cond (decide (x7 = 1))
 (some ([.one (.int .i64 0)], []))
 (cond (decide (x7 = 2))
 (some ([.one (.int .i64 1)], []))
 (some ([.one (.int .i64 2)], [])))))))))))))))))) := by kernel_rfl
theorem jl (n : Nat) (v0 : ByteArray) : FF (n + 1) 116 [.one (.str v0)] [] =
 ((FF n 154 [.one (.str v0), .one (.int .i64 0), .one (.int .i64 30)] []).bind fun x0 =>
 (ah x0.1 fun x1 x2 =>
 (aw .i64 x2 fun x3 x4 =>
 (ai x4 (aj x0.2
 (cond (v0.toList == (bytesOf []).toList)
 (some ([.agg [.int .i64 0, .int .i64 0, .fr (.ts [])], .one (.bool false)], []))
 (cond (!decide (x3 = (v0.size : Int)))
 (some ([.agg [.int .i64 0, .int .i64 0, .fr (.ts [])], .one (.bool false)], []))
 ((FF n 155 [.agg [.int .i64 x1.k, .int .i64 x1.n, .fr (.ts x1.kids)]] []).bind fun x5 =>
 (mL x5.1 fun x6 x7 =>
 (ai x7 (aj x5.2
 (cond (!(x6.toList == v0.toList))
 (some ([.agg [.int .i64 0, .int .i64 0, .fr (.ts [])], .one (.bool false)], []))
 (some ([.agg [.int .i64 x1.k, .int .i64 x1.n, .fr (.ts x1.kids)], .one (.bool true)], [])))))))))))))) := by kernel_rfl
noncomputable def bQ (n c : Nat) (v0 : Bool) (v1 v2 v3 : Int) (v4 : List T) (v5 v6 : Int) (v7 : List T) : OR := aR Tryz.prog SS n 117 0 [1, 1, 0, 1, 0] [] c ⟨[aa, .v (.one (.bool v0)), .v (.one (.ptr 0 0)), aa, .v (.one (.ptr 1 0)), aa, .v (.one (.int .i64 v1)), aa, aa, aa, aa, aa, aa, aa, aa, aa, aa, aa, aa, aa, aa, aa, aa, aa, aa, aa, aa, aa, aa, aa, aa, aa, aa, aa, aa, aa, aa, aa, aa, aa, aa, aa, aa, aa, aa, aa, aa, aa, aa],
 [.cells [.int .i64 v2, .int .i64 v3, .fr (.ts v4)], .cells [.int .i64 v5, .int .i64 v6, .own 2 0], .arr 25 (.ts v7) 0 false]⟩
theorem fN (n c : Nat) (v0 : Bool) (v1 v2 v3 : Int) (v4 : List T) (v5 v6 : Int) (v7 : List T) : bQ n (c + 1) v0 v1 v2 v3 v4 v5 v6 v7 =
 (cond (decide (v1 < (v4.length : Int)))
 (cond (decide (0 ≤ v1))
 (v4[(v1 : Int).toNat]?.bind fun x0 =>
 ((FF n 117 [.agg [.int .i64 x0.k, .int .i64 x0.n, .fr (.ts x0.kids)], .one (.bool v0)] []).bind fun x1 =>
 (ah x1.1 fun x2 x3 =>
 (ar x3 fun x4 x5 =>
 (ai x5 (aj x1.2
 (cond x4
 ((FF n 91 [.agg [.int .i64 v2, .int .i64 v3, .fr (.ts v4)], .one (.int .i64 v1), .agg [.int .i64 x2.k, .int .i64 x2.n, .fr (.ts x2.kids)]] []).bind fun x6 =>
 (ah x6.1 fun x7 x8 =>
 (ai x8 (aj x6.2
 (some ([.agg [.int .i64 x7.k, .int .i64 x7.n, .fr (.ts x7.kids)], .one (.bool true)], []))))))
 (bQ n c v0 (IntKind.i64.wrap (v1 + 1)) v2 v3 v4 v5 v6 v7))))))))
 none)
 (cond v0
 ((FF n 156 [.agg [.int .i64 v2, .int .i64 v3, .fr (.ts v4)]] []).bind fun x0 =>
 (aw .i64 x0.1 fun x1 x2 =>
 (ai x2 (aj x0.2
 (cond (!decide (x1 = 0))
 ((FF n 157 [.agg [.int .i64 v2, .int .i64 v3, .fr (.ts v4)]] []).bind fun x3 =>
 (ah x3.1 fun x4 x5 =>
 (ai x5 (aj x3.2
 (some ([.agg [.int .i64 x4.k, .int .i64 x4.n, .fr (.ts x4.kids)], .one (.bool true)], []))))))
 (some ([.agg [.int .i64 v2, .int .i64 v3, .fr (.ts v4)], .one (.bool false)], [])))))))
 (some ([.agg [.int .i64 v2, .int .i64 v3, .fr (.ts v4)], .one (.bool false)], [])))) := by kernel_rfl
theorem uV (n : Nat) (v0 v1 : Int) (v2 : List T) (v3 : Bool) : FF (n + 1) 117 [.agg [.int .i64 v0, .int .i64 v1, .fr (.ts v2)], .one (.bool v3)] [] =
 (cond (!v3)
 ((FF n 156 [.agg [.int .i64 v0, .int .i64 v1, .fr (.ts v2)]] []).bind fun x0 =>
 (aw .i64 x0.1 fun x1 x2 =>
 (ai x2 (aj x0.2
 (cond (!decide (x1 = 0))
 ((FF n 157 [.agg [.int .i64 v0, .int .i64 v1, .fr (.ts v2)]] []).bind fun x3 =>
 (ah x3.1 fun x4 x5 =>
 (ai x5 (aj x3.2
 (some ([.agg [.int .i64 x4.k, .int .i64 x4.n, .fr (.ts x4.kids)], .one (.bool true)], []))))))
 (bQ n n v3 0 v0 v1 v2 0 0 ([])))))))
 (bQ n n v3 0 v0 v1 v2 0 0 ([]))) := by kernel_rfl
noncomputable def aQ (n c : Nat) (v0 : List T) (v1 v2 : Int) : OR := aR Tryz.prog SS n 118 0 [1, 0, 1, 0] [] c ⟨[.v (.one (.fr (.ts v0))), .v (.one (.fn 94 [])), aa, aa, aa, aa, aa, .v (.one (.int .i64 v1)), .v (.one (.int .i64 v2)), aa, aa, aa, aa, aa, aa, aa, aa, aa, aa],
 []⟩
theorem b6 (n c : Nat) (v0 : List T) (v1 v2 : Int) : aQ n (c + 1) v0 v1 v2 =
 (cond (decide (v2 < v1))
 (cond (decide (0 ≤ v2))
 (v0[(v2 : Int).toNat]?.bind fun x0 =>
 ((FF n 94 [.agg [.int .i64 x0.k, .int .i64 x0.n, .fr (.ts x0.kids)]] []).bind fun x1 =>
 (ar x1.1 fun x2 x3 =>
 (ai x3 (aj x1.2
 (cond x2
 (some ([.one (.int .i64 v2)], []))
 (aQ n c v0 v1 (IntKind.i64.wrap (v2 + 1)))))))))
 none)
 (some ([.one (.int .i64 (-1))], []))) := by kernel_rfl
theorem fh (n : Nat) (v0 : List T) : FF (n + 1) 118 [.one (.fr (.ts v0)), .one (.fn 94 [])] [] =
 aQ n n v0 ((v0.length : Int) : Int) 0 := by kernel_rfl
theorem uA (n : Nat) (v0 v1 : Int) (v2 : List T) (v3 : Int) : FF (n + 1) 119 [.agg [.int .i64 v0, .int .i64 v1, .fr (.ts v2)], .one (.int .i64 v3)] [] =
 ((FF n 158 [.agg [.int .i64 v0, .int .i64 v1, .fr (.ts v2)], .one (.int .i64 200)] []).bind fun x0 =>
 (ah x0.1 fun x1 x2 =>
 (aw .i64 x2 fun x3 x4 =>
 (ai x4 (aj x0.2
 (cond (!decide (x3 = 0))
 (some ([.agg [.int .i64 0, .int .i64 0, .fr (.ts [])], .one (.int .i64 2)], []))
 (cond (!decide (x1.k = v3))
 (some ([.agg [.int .i64 0, .int .i64 0, .fr (.ts [])], .one (.int .i64 1)], []))
 (some ([.agg [.int .i64 x1.k, .int .i64 x1.n, .fr (.ts x1.kids)], .one (.int .i64 0)], []))))))))) := by kernel_rfl
end Go.Proofs.YtajlknlnmmbfcaaGreat
end
