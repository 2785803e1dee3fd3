/- Part 4 of the proof. -/
import Derived.Test.YtgchmppmecnniaaP01
import Derived.Test.YtgchmppmecnniaaP02
import Derived.Test.YtgchmppmecnniaaP03
import Derived.Test.YtgchmppmecnniaaRows
import Derived.KernelRfl
import Derived.ChangeArms
import Derived.Deep.Slices
import Derived.Deep.Strs
import Derived.WalkKit
import Derived.ProofKit
import Derived.OpenShut
import Derived.ShutString
import Derived.ChangeOld
import Derived.Below
set_option linter.unusedVariables false
set_option linter.unusedSimpArgs false
section
namespace Go.Ab
open Go Go.Dk
section
variable {P : Program} {F : Callee} {D : Dec}
theorem map_congr_ops {α : Type} {ρ ρ' : Operand → α} {a : Array Operand} (h : ∀ x ∈ a, ρ x = ρ' x) : a.toList.map ρ = a.toList.map ρ' :=
 List.map_congr_left fun x hx => h x (by simpa using hx)
theorem evOp_congr {ρ ρ' : Operand → AV} {o : Oper} (h : ∀ x ∈ o.op.operands, ρ x = ρ' x) (hp : List AObj) (sl : Nat) (k : AV → List AObj → OR) :
   evOp P F D o ρ hp sl k = evOp P F D o ρ' hp sl k := by
 obtain ⟨dst, op, ty, pos, aft, gd⟩ := o
 cases op <;> simp only [Op.operands] at h <;> simp only [evOp]
 case build t ps =>
  have : ps.toList.map (fun p => (p.1, ρ p.2)) = ps.toList.map fun p => (p.1, ρ' p.2) :=
   List.map_congr_left fun p hp' => by rw [h p.2 (by simp only [List.mem_toArray]; exact List.mem_map.2 ⟨p, hp', rfl⟩)]
  rw [this]
 case buildSlice t n ps =>
  have : ps.toList.map (fun p => ρ p.2) = ps.toList.map fun p => ρ' p.2 :=
   List.map_congr_left fun p hp' => h p.2 (by simp only [List.mem_toArray]; exact List.mem_map.2 ⟨p, hp', rfl⟩)
  rw [this]
 case makeFunc fn first caps =>
  rw [map_congr_ops fun x hx => h x (by simp [hx])]
 case slice t x lo hi mx =>
  have e1 : ρ x = ρ' x := h x (by simp)
  have e2 : lo.map ρ = lo.map ρ' := by cases lo with | none => rfl | some l => simp [h l (by simp)]
  have e3 : hi.map ρ = hi.map ρ' := by cases hi with | none => rfl | some l => simp [h l (by simp)]
  have e4 : mx.map ρ = mx.map ρ' := by cases mx with | none => rfl | some l => simp [h l (by simp)]
  rw [e1, e2, e3, e4]
 case call c =>
  obtain ⟨callee, args, tys⟩ := c
  have ea : args.toList.map ρ = args.toList.map ρ' := map_congr_ops fun x hx => h x (by simp [Call.operands, hx])
  cases callee with
  | builtin bi => simp only [ea]
  | invoke q m => rfl
  | value f =>
   have ef : ρ f = ρ' f := h f (by simp [Call.operands])
   cases f <;> simp only [ea, ef]
 all_goals (first | rfl | (simp_all; done))
def notH (js : List Nat) : Nat → List AObj → List AObj
 | _, [] => []
 | i, o :: h => cond (hasN i js) .dead o :: notH js (i + 1) h
def maskG (js : List Nat) (b : Nat) : Nat → List GO → List GO
 | _, [] => []
 | i, g :: G => cond (hasN i js) g (cond (Nat.blt i b) .gone .fresh) :: maskG js b (i + 1) G
def mixG (js : List Nat) : Nat → List GO → List GO → List GO
 | i, o :: h, o' :: h' => cond (hasN i js) o' o :: mixG js (i + 1) h h'
 | _, h, _ => h
theorem onlyH_get (js : List Nat) : ∀ (h : List AObj) (i j : Nat), (onlyH js i h)[j]? = h[j]?.map fun o => cond (hasN (i + j) js) o .dead
 | [], i, j => by simp [onlyH]
 | o :: h, i, 0 => by simp [onlyH]
 | o :: h, i, j + 1 => by simp only [onlyH, List.getElem?_cons_succ]; rw [onlyH_get js h (i + 1) j, show i + 1 + j = i + (j + 1) by omega]
theorem maskG_get (js : List Nat) (b : Nat) : ∀ (h : List GO) (i j : Nat), (maskG js b i h)[j]? = h[j]?.map fun o => cond (hasN (i + j) js) o (cond (Nat.blt (i + j) b) .gone .fresh)
 | [], i, j => by simp [maskG]
 | o :: h, i, 0 => by simp [maskG]
 | o :: h, i, j + 1 => by simp only [maskG, List.getElem?_cons_succ]; rw [maskG_get js b h (i + 1) j, show i + 1 + j = i + (j + 1) by omega]
theorem onlyH_length (js : List Nat) : ∀ (h : List AObj) (i : Nat), (onlyH js i h).length = h.length
 | [], _ => rfl
 | o :: h, i => by simp only [onlyH, List.length_cons, onlyH_length js h]
theorem maskG_length (js : List Nat) (b : Nat) : ∀ (h : List GO) (i : Nat), (maskG js b i h).length = h.length
 | [], _ => rfl
 | o :: h, i => by simp only [maskG, List.length_cons, maskG_length js b h]
theorem mixH_length (js : List Nat) : ∀ (h h' : List AObj) (i : Nat), (mixH js i h h').length = h.length
 | [], _, _ => by simp [mixH]
 | o :: h, [], _ => by simp [mixH]
 | o :: h, o' :: h', i => by simp only [mixH, List.length_cons, mixH_length js h]
theorem mixG_length (js : List Nat) : ∀ (h h' : List GO) (i : Nat), (mixG js i h h').length = h.length
 | [], _, _ => by simp [mixG]
 | o :: h, [], _ => by simp [mixG]
 | o :: h, o' :: h', i => by simp only [mixG, List.length_cons, mixG_length js h]
theorem mixH_in {js : List Nat} : ∀ {h h' : List AObj} {i j : Nat}, hasN (i + j) js = true → h'.length = h.length → (mixH js i h h')[j]? = h'[j]?
 | [], [], i, j, _, _ => by simp [mixH]
 | [], _ :: _, i, j, _, hl => by simp at hl
 | _ :: _, [], i, j, _, hl => by simp at hl
 | o :: h, o' :: h', i, 0, hj, _ => by simp only [Nat.add_zero] at hj; simp [mixH, hj]
 | o :: h, o' :: h', i, j + 1, hj, hl => by
  simp only [mixH, List.getElem?_cons_succ]
  exact mixH_in (by rw [show i + 1 + j = i + (j + 1) by omega]; exact hj) (by simpa using hl)
theorem mixH_out {js : List Nat} : ∀ {h h' : List AObj} {i j : Nat}, hasN (i + j) js = false → (mixH js i h h')[j]? = h[j]?
 | [], _, i, j, _ => by simp [mixH]
 | o :: h, [], i, j, _ => by simp [mixH]
 | o :: h, o' :: h', i, 0, hj => by simp only [Nat.add_zero] at hj; simp [mixH, hj]
 | o :: h, o' :: h', i, j + 1, hj => by
  simp only [mixH, List.getElem?_cons_succ]
  exact mixH_out (by rw [show i + 1 + j = i + (j + 1) by omega]; exact hj)
theorem mixG_in {js : List Nat} : ∀ {h h' : List GO} {i j : Nat}, hasN (i + j) js = true → h'.length = h.length → (mixG js i h h')[j]? = h'[j]?
 | [], [], i, j, _, _ => by simp [mixG]
 | [], _ :: _, i, j, _, hl => by simp at hl
 | _ :: _, [], i, j, _, hl => by simp at hl
 | o :: h, o' :: h', i, 0, hj, _ => by simp only [Nat.add_zero] at hj; simp [mixG, hj]
 | o :: h, o' :: h', i, j + 1, hj, hl => by
  simp only [mixG, List.getElem?_cons_succ]
  exact mixG_in (by rw [show i + 1 + j = i + (j + 1) by omega]; exact hj) (by simpa using hl)
theorem mixG_out {js : List Nat} : ∀ {h h' : List GO} {i j : Nat}, hasN (i + j) js = false → (mixG js i h h')[j]? = h[j]?
 | [], _, i, j, _ => by simp [mixG]
 | o :: h, [], i, j, _ => by simp [mixG]
 | o :: h, o' :: h', i, 0, hj => by simp only [Nat.add_zero] at hj; simp [mixG, hj]
 | o :: h, o' :: h', i, j + 1, hj => by
  simp only [mixG, List.getElem?_cons_succ]
  exact mixG_out (by rw [show i + 1 + j = i + (j + 1) by omega]; exact hj)
theorem resL_split (js : List Nat) (b : Nat) : ∀ (h : List AObj) (G : List GO) (i : Nat), (resL h G).Perm (resL (onlyH js i h) (maskG js b i G) ++ resL (notH js i h) G)
 | [], _, _ => List.Perm.refl _
 | o :: h, [], i => List.Perm.refl _
 | o :: h, g :: G, i => by
  have ih := resL_split js b h G (i + 1)
  simp only [onlyH, maskG, notH, resL]
  cases hasN i js with
  | true =>
   simp only [cond_true, resO_dead, List.nil_append, List.append_assoc]
   exact ih.append_left _
  | false =>
   simp only [cond_false, resO_dead, List.nil_append]
   refine (ih.append_left _).trans ?_
   rw [← List.append_assoc, ← List.append_assoc]
   exact List.perm_append_comm.append_right _
theorem resL_mix (js : List Nat) : ∀ (h h' : List AObj) (G G' : List GO) (i : Nat), h'.length = h.length → h.length = G.length → G'.length = G.length →
   (resL (mixH js i h h') (mixG js i G G')).Perm (resL (onlyH js i h') G' ++ resL (notH js i h) G)
 | [], [], G, G', i, _, _, _ => List.Perm.refl _
 | [], _ :: _, _, _, _, hl, _, _ => by simp at hl
 | _ :: _, [], _, _, _, hl, _, _ => by simp at hl
 | _ :: _, _ :: _, [], _, _, _, hl, _ => by simp at hl
 | _ :: _, _ :: _, _ :: _, [], _, _, _, hl => by simp at hl
 | o :: h, o' :: h', g :: G, g' :: G', i, h1, h2, h3 => by
  have ih := resL_mix js h h' G G' (i + 1) (by simpa using h1) (by simpa using h2) (by simpa using h3)
  simp only [onlyH, mixG, mixH, notH, resL]
  cases hasN i js with
  | true =>
   simp only [cond_true, resO_dead, List.nil_append, List.append_assoc]
   exact ih.append_left _
  | false =>
   simp only [cond_false, resO_dead, List.nil_append]
   refine (ih.append_left _).trans ?_
   rw [← List.append_assoc, ← List.append_assoc]
   exact List.perm_append_comm.append_right _
theorem resL_only (js : List Nat) : ∀ (h : List AObj) (G : List GO) (i : Nat), (resL (onlyH js i h) G).Sublist (resL h G)
 | [], _, _ => List.Sublist.refl _
 | o :: h, [], i => List.Sublist.refl _
 | o :: h, g :: G, i => by
  simp only [onlyH, resL]
  cases hasN i js with
  | true => exact (resL_only js h G (i + 1)).append_left _
  | false => simp only [cond_false, resO_dead, List.nil_append]; exact (resL_only js h G (i + 1)).trans (List.sublist_append_right _ _)
theorem RS.on {G G' : List GO} {Z : Zone} {w : World} {v : SV} {X : Value} (h : RS G Z w v X) (hr : ∀ j ∈ refsS v, ∀ g, G[j]? = some g → G'[j]? = some g) : RS G' Z w v X := by
 cases v with
 | own j v =>
  have := hr j (by simp [refsS])
  rcases h with h | ⟨ver, val, sz, xs, hg, hh⟩
  ·exact .inl (this _ h)
  ·exact .inr ⟨ver, val, sz, xs, this _ hg, hh⟩
 | ptr j o =>
  have := hr j (by simp [refsS])
  rcases h with h | ⟨bb, T, vs, hg, hh⟩
  ·exact .inl (this _ h)
  ·exact .inr ⟨bb, T, vs, this _ hg, hh⟩
 | op j v i o =>
  have := hr j (by simp [refsS])
  rcases h with h | ⟨ver, val, sz, xs, hg, hh⟩
  ·exact .inl (this _ h)
  ·exact .inr ⟨ver, val, sz, xs, this _ hg, hh⟩
 | fn f l =>
  obtain ⟨bs, hX, hh⟩ := h
  refine ⟨bs, hX, hh.mono fun j b hj q => ?_⟩
  have := hr j (by simpa [refsS] using hj)
  rcases q with h1 | ⟨T, vs, h1⟩
  ·exact .inl (this _ h1)
  ·exact .inr ⟨T, vs, this _ h1⟩
 | _ => exact h
theorem RV1.on {G G' : List GO} {Z : Zone} {w : World} {v : V1} {X : Value} (h : RV1 G Z w v X) (hr : ∀ j ∈ refsV v, ∀ g, G[j]? = some g → G'[j]? = some g) : RV1 G' Z w v X := by
 cases v with
 | one s => exact ⟨h.1.on hr, h.2⟩
 | agg l =>
  obtain ⟨xs, hX, hh⟩ := h
  exact ⟨xs, hX, hh.mono fun a _ ha q => ⟨q.1.on fun j hj => hr j (List.mem_flatMap.2 ⟨a, ha, hj⟩), q.2⟩⟩
theorem RV.on {G G' : List GO} {Z : Zone} {w : World} {v : AV} {X : Value} (h : RV G Z w v X) (hr : ∀ j ∈ refsA v, ∀ g, G[j]? = some g → G'[j]? = some g) : RV G' Z w v X := by
 cases v with
 | v v => exact RV1.on h hr
 | tup l =>
  obtain ⟨xs, hX, hh⟩ := h
  exact ⟨xs, hX, hh.mono fun a _ ha q => q.on fun j hj => hr j (List.mem_flatMap.2 ⟨a, ha, hj⟩)⟩
theorem RO.on {G G' : List GO} {Z : Zone} {w : World} {o : AObj} {g : GO} (h : RO G Z w o g) (hr : ∀ j ∈ refsO (some o), ∀ g, G[j]? = some g → G'[j]? = some g) : RO G' Z w o g := by
 cases o with
 | cells l => cases g with
  | cells bb T vs => exact All2.mono h fun a _ ha q => ⟨q.1.on fun j hj => hr j (List.mem_flatMap.2 ⟨a, ha, hj⟩), q.2⟩
  | _ => exact h
 | arr e d ver fz => cases g <;> exact h
 | dead => cases g <;> exact h
end
end Go.Ab
namespace Go.Ab
open Go Go.Dk
section
variable {P : Program} {F : Callee} {D : Dec} {w0 w : World} {M Z0 : Zone} {b : Nat} {G : List GO} {s : AS} {tv : List Value}
theorem put_heap (s : AS) (d : Option Tmp) (v : AV) : (s.put d v).heap = s.heap := by cases d <;> rfl
theorem maskT_get (live : List Nat) : ∀ (l : List AV) (i t : Nat), (maskT live i l)[t]? = l[t]?.map fun v => cond (hasN (i + t) live) v anyV
 | [], i, t => by simp [maskT]
 | v :: l, i, 0 => by simp [maskT]
 | v :: l, i, t + 1 => by simp only [maskT, List.getElem?_cons_succ]; rw [maskT_get live l (i + 1) t, show i + 1 + t = i + (t + 1) by omega]
def opT (o : Oper) : List Nat := o.op.operands.toList.flatMap fun x => match x with | .tmp t => [t] | _ => []
theorem mem_opT {o : Oper} {t : Nat} : t ∈ opT o ↔ .tmp t ∈ o.op.operands := by
 unfold opT
 rw [List.mem_flatMap]
 constructor
 ·rintro ⟨x, hx, ht⟩
  cases x <;> simp at ht
  subst ht; simpa using hx
 ·intro h
  exact ⟨.tmp t, by simpa using h, by simp⟩
theorem closB_out {h : List AObj} {fp rf : List Nat} (hc : closB h fp rf = true) : (∀ j ∈ rf, j ∈ fp) ∧ ∀ j ∈ fp, ∀ i ∈ refsO h[j]?, i ∈ fp := by
 simp only [closB, Bool.and_eq_true, List.all_eq_true, hasN_iff] at hc
 exact hc
def putVs (tv : List Value) (d : Option Tmp) (X : Value) : List Value := match d with | some d => tv.set d X | none => tv
theorem rel_put {G : List GO} {Z : Zone} {tm : List AV} (hh : All2 (RV G Z w) tm tv) (d : Option Tmp) {v : AV} {X : Value} (hv : ∀ q, d = some q → q < tm.length → RV G Z w v X) (h : List AObj) :
   All2 (RV G Z w) (AS.put ⟨tm, h⟩ d v).tmps (putVs tv d X) := by
 cases d with
 | none => exact hh
 | some d =>
  by_cases hd : d < tm.length
  ·exact hh.set d (hv d rfl hd)
  ·show All2 _ (tm.set d v) (tv.set d X)
   rw [List.set_eq_of_length_le (Nat.le_of_not_lt hd), List.set_eq_of_length_le (by rw [← hh.1]; exact Nat.le_of_not_lt hd)]; exact hh
theorem evOp_masked (hF : CallsOK P F) (hib : ∀ f, D.ib f = true → extIB P f) (hst : St w0 M Z0 (resL s.heap G) (relF s G tv) w) (hm : ∀ k, M k → Z0 k) {o : Oper} {fp : List Nat} {v : AV} {h' : List AObj} {Q : Exit → Act → World → Prop}
   (hfr : ∀ j, b ≤ j → j < b + nObj P D o → G[j]? = some .fresh) (hb : b + nObj P D o ≤ s.heap.length) (hfp : ∀ j ∈ fp, j < b + nObj P D o) (hcl : closB s.heap fp (refsOf s o) = true)
   (hev : ∀ k', evOp P F D o s.ev (onlyH fp 0 s.heap) b k' = k' v h') (hcl' : closB h' fp (refsA v) = true) :
   o.wp P ⟨tv.toArray, []⟩ w (fun a' w' => ∃ G' tv', a' = ⟨tv'.toArray, []⟩ ∧ St w0 M Z0 (resL (mixH fp 0 s.heap h') G') (relF (AS.put ⟨s.tmps, mixH fp 0 s.heap h'⟩ o.dst v) G' tv') w' ∧ (∀ j, hasN j fp = false → G'[j]? = G[j]?) ∧ Up G G') Q := by
 obtain ⟨hc1, hc2⟩ := closB_out hcl
 obtain ⟨hd1, hd2⟩ := closB_out hcl'
 have hlen : s.heap.length = G.length := hst.per.2.1
 have hp := resL_split fp b s.heap G 0
 generalize hL1 : resL (onlyH fp 0 s.heap) (maskG fp b 0 G) = L1 at hp
 have hs := (hst.perm hp).sub (List.sublist_append_left _ _)
 have hk : ∀ k, zone w0 Z0 (resL s.heap G) k → zone w (fun k => zone w0 Z0 (resL s.heap G) k ∨ footL L1 k) L1 k := fun k hk =>
  ⟨.inl (.inl hk), fun q hq => hk.2 q (hp.mem_iff.2 (List.mem_append.2 (.inl hq)))⟩
 have hGM : ∀ j ∈ fp, ∀ g, G[j]? = some g → (maskG fp b 0 G)[j]? = some g := fun j hj g hg => by
  rw [maskG_get, hg, Nat.zero_add, hasN_iff.2 hj]; rfl
 have hIM : InvG w (footL L1) (fun k => zone w0 Z0 (resL s.heap G) k ∨ footL L1 k) b (maskG fp b 0 G) ⟨maskT (opT o) 0 s.tmps, onlyH fp 0 s.heap⟩ tv w := by
  refine ⟨⟨Ext.refl _ _, ?_, ?_, ?_, ?_, relF_stable _ _ _, ?_⟩, ?_, fun k hk => .inr hk⟩
  ·rw [hL1]; exact hs.own
  ·rw [hL1]; exact hs.loc
  ·rw [hL1]; exact fun q hq k hf => ⟨.inl ⟨q, hq, hf⟩, (hs.key q hq k hf).2⟩
  ·rw [hL1]; exact hs.dis
  ·have hper := hst.per
   rw [hL1]
   refine ⟨⟨?_, fun t x y hx hy => ?_⟩, ?_, fun j x y hx hy => ?_⟩
   ·have : (maskT (opT o) 0 s.tmps).length = s.tmps.length := by
      refine Nat.le_antisymm ?_ ?_ <;> refine Nat.le_of_not_lt fun hlt => ?_
      ·have h1 := maskT_get (opT o) s.tmps 0 s.tmps.length
       rw [List.getElem?_eq_getElem hlt, List.getElem?_eq_none (Nat.le_refl _)] at h1
       cases h1
      ·have h1 := maskT_get (opT o) s.tmps 0 (maskT (opT o) 0 s.tmps).length
       rw [List.getElem?_eq_none (Nat.le_refl _), List.getElem?_eq_getElem hlt] at h1
       cases h1
    rw [this]; exact hper.1.1
   ·rw [maskT_get, Nat.zero_add] at hx
    obtain ⟨x', hx', rfl⟩ := Option.map_eq_some_iff.1 hx
    cases ht : hasN t (opT o) with
    | false => exact any_rel y
    | true =>
     have hr := hper.1.2 t x' y hx' hy
     rw [cond_true]
     refine (RV.on (hr.stable (keeps_le hk)) fun j hj g hg => hGM j (hc1 j ?_) g hg)
     refine List.mem_flatMap.2 ⟨.tmp t, by simpa using mem_opT.1 (hasN_iff.1 ht), ?_⟩
     show j ∈ refsA (s.tmps.getD t anyV)
     simp only [List.getD, hx', Option.getD_some]; exact hj
   ·rw [onlyH_length, maskG_length]; exact hlen
   ·rw [onlyH_get, Nat.zero_add] at hx
    rw [maskG_get, Nat.zero_add] at hy
    obtain ⟨x', hx', rfl⟩ := Option.map_eq_some_iff.1 hx
    obtain ⟨y', hy', rfl⟩ := Option.map_eq_some_iff.1 hy
    cases ht : hasN j fp with
    | false => cases Nat.blt j b <;> trivial
    | true =>
     have hr := hper.2.2 j x' y' hx' hy'
     refine RO.on (hr.stable (keeps_le hk)) fun i hi g hg => hGM i (hc2 j (hasN_iff.1 ht) i ?_) g hg
     rw [hx']; exact hi
  ·intro j hj hjl
   rw [maskG_length] at hjl
   rw [maskG_get, Nat.zero_add, List.getElem?_eq_getElem hjl, Option.map_some]
   cases ht : hasN j fp with
   | true =>
    have := hfr j hj (hfp j (hasN_iff.1 ht))
    rw [List.getElem?_eq_getElem hjl] at this
    exact this
   | false =>
    have : Nat.blt j b = false := by
     cases hb' : Nat.blt j b with
     | false => rfl
     | true => rw [Nat.blt_eq] at hb'; omega
    rw [this]; rfl
 have hevM : ∀ x ∈ o.op.operands, (AS.mk (maskT (opT o) 0 s.tmps) (onlyH fp 0 s.heap)).ev x = s.ev x := by
  intro x hx
  cases x with
  | tmp t =>
   show (maskT (opT o) 0 s.tmps).getD t anyV = s.tmps.getD t anyV
   simp only [List.getD, maskT_get, Nat.zero_add, hasN_iff.2 (mem_opT.2 hx), cond_true]
   cases s.tmps[t]? <;> rfl
  | _ => rfl
 classical
 have hrun : evOp P F D o (AS.mk (maskT (opT o) 0 s.tmps) (onlyH fp 0 s.heap)).ev (AS.mk (maskT (opT o) 0 s.tmps) (onlyH fp 0 s.heap)).heap b (fun v2 h2 => if v2 = v ∧ h2 = h' then some ([], []) else none) = some ([], []) := by
  rw [evOp_congr hevM]
  show evOp P F D o s.ev (onlyH fp 0 s.heap) b _ = _
  rw [hev]; simp
 refine Oper.wp_mono (fun a' w' hst' => ?_) (evOp_sound (Q := Q) hF hib hIM (by show _ ≤ (onlyH fp 0 s.heap).length; rw [onlyH_length]; exact hb) hrun)
 obtain ⟨v2, h2, G2, tv2, hk2, ha, hI2, hl2, hu2, X, hX⟩ := hst'
 have hvh : v2 = v ∧ h2 = h' := by
  by_cases hh : v2 = v ∧ h2 = h'
  ·exact hh
  ·simp [hh] at hk2
 obtain ⟨rfl, rfl⟩ := hvh
 replace hX : tv2 = putVs tv o.dst X := by rw [hX]; cases o.dst <;> rfl
 have hst2 := hI2.st
 rw [put_heap] at hst2
 rw [← hL1] at hp
 have hst2' := hst2
 rw [← hL1] at hst2'
 have hfrm := frame hst hm hp hst2'
 have hl : h2.length = s.heap.length := by rw [hl2]; exact onlyH_length _ _ _
 have hG2 : G2.length = G.length := by
  have := hI2.len
  rw [put_heap] at this
  rw [← this]; show h2.length = _; rw [hl, hlen]
 have hperm := resL_mix fp s.heap h2 G G2 0 hl hlen hG2
 have hS := (hfrm.1.sub ((resL_only fp h2 G2 0).append_right _)).perm hperm.symm
 have hin : ∀ j ∈ fp, (mixG fp 0 G G2)[j]? = G2[j]? := fun j hj => mixG_in (by rw [Nat.zero_add]; exact hasN_iff.2 hj) hG2
 have hout : ∀ j, hasN j fp = false → (mixG fp 0 G G2)[j]? = G[j]? := fun j hj => mixG_out (by rw [Nat.zero_add]; exact hj)
 have hup : Up G (mixG fp 0 G G2) := by
  intro j
  cases ht : hasN j fp with
  | false => rw [hout j ht]; exact Up.refl G j
  | true =>
   rw [hin j (hasN_iff.1 ht)]
   have := hu2 j
   rw [maskG_get, Nat.zero_add, ht] at this
   have he : (G[j]?.map fun o => cond true o (cond (Nat.blt j b) .gone .fresh)) = G[j]? := by cases G[j]? <;> rfl
   rw [he] at this
   exact this
 refine ⟨mixG fp 0 G G2, tv2, ha, hS.weak (relF_stable _ _ _) fun hh => ?_, hout, hup⟩
 obtain ⟨hc, hs0⟩ := hh
 refine ⟨?_, ?_⟩
 ·rw [hX]
  refine rel_put (hs0.1.mono fun _ _ _ q => q.up hup) o.dst (fun d hd hdl => ?_) (mixH fp 0 s.heap h2)
  have h1 : (AS.put ⟨maskT (opT o) 0 s.tmps, h2⟩ o.dst v2).tmps[d]? = some v2 := by
   have : d < (maskT (opT o) 0 s.tmps).length := by
    have h3 := hIM.st.per.1.1
    have h4 := hs0.1.1
    exact Nat.lt_of_lt_of_eq hdl (h4.trans h3.symm)
   rw [hd]; show ((maskT (opT o) 0 s.tmps).set d v2)[d]? = _
   simp [this]
  have h2' : tv2[d]? = some X := by
   rw [hX, hd]
   have : d < tv.length := by rw [← hs0.1.1]; exact hdl
   simp [putVs, this]
  exact RV.on (hc.1.2 d v2 X h1 h2') fun j hj g hg => by rw [hin j (hd1 j hj)]; exact hg
 ·rw [put_heap]
  refine ⟨by rw [mixH_length, mixG_length]; exact hlen, fun j x y hx hy => ?_⟩
  cases ht : hasN j fp with
  | false =>
   rw [mixH_out (by rw [Nat.zero_add]; exact ht)] at hx
   rw [hout j ht] at hy
   exact (hs0.2.2 j x y hx hy).up hup
  | true =>
   have hx' : h2[j]? = some x := by rw [← hx]; exact (mixH_in (by rw [Nat.zero_add]; exact ht) hl).symm
   rw [hin j (hasN_iff.1 ht)] at hy
   have hro := hc.2.2 j x y (by rw [put_heap]; exact hx') hy
   refine RO.on hro fun i hi g hg => by rw [hin i (hd2 j (hasN_iff.1 ht) i (by rw [hx']; exact hi))]; exact hg
theorem keep1 {f : (AV → OR) → OR} {h h' : List AObj} (hf : N1 f) (hh : f (fun v => some ([], h)) = some ([], h')) : h' = h := by
 obtain ⟨a, ha, _⟩ := hf _ _ hh
 injection ha with ha; injection ha with _ ha; exact ha.symm
theorem keepS {f : (SV → OR) → OR} {h h' : List AObj} (hf : N1 f) (hh : f (fun v => some ([], h)) = some ([], h')) : h' = h := by
 obtain ⟨a, ha, _⟩ := hf _ _ hh
 injection ha with ha; injection ha with _ ha; exact ha.symm
theorem out_range {j b n : Nat} (h : hasN j (List.range' b n) = false) : ¬ (b ≤ j ∧ j < b + n) := fun hh => by
 have : j ∈ List.range' b n := by rw [List.mem_range'_1]; exact hh
 rw [hasN_iff.2 this] at h; cases h
theorem set_keep {h h' : List AObj} {b j : Nat} {o : AObj} (hn : hasN j (List.range' b 1) = false) (hh : (some ([], h.set b o) : OR) = some ([], h')) : h'[j]? = h[j]? := by
 injection hh with hh; injection hh with _ hh
 rw [← hh, List.getElem?_set_ne]
 have := out_range hn; omega
theorem hasN_append {j : Nat} {l m : List Nat} (h : hasN j (l ++ m) = false) : hasN j l = false ∧ hasN j m = false := by
 have h1 : j ∉ l ++ m := fun hm => by rw [hasN_iff.2 hm] at h; cases h
 rw [List.mem_append, not_or] at h1
 refine ⟨?_, ?_⟩
 ·cases hh : hasN j l with
  | false => rfl
  | true => exact absurd (hasN_iff.1 hh) h1.1
 ·cases hh : hasN j m with
  | false => rfl
  | true => exact absurd (hasN_iff.1 hh) h1.2
theorem evOp_keeps {o : Oper} {ρ : Operand → AV} {h h' : List AObj} {v : AV} {fp : List Nat} {j : Nat} (hev : ∀ k', evOp P F D o ρ h b k' = k' v h') (hj : hasN j fp = true)
   (hn : hasN j (writes o fp b (nObj P D o)) = false) : h'[j]? = h[j]? := by
 have hk := hev fun _ h => some ([], h)
 obtain ⟨dst, op, ty, pos, aft, gd⟩ := o
 unfold writes at hn
 obtain ⟨hn1, hn2⟩ := hasN_append hn
 have same : ∀ {h1 : List AObj}, h1 = h → h1[j]? = h[j]? := fun e => by rw [e]
 have same' : (some ([], h) : OR) = some ([], h') → h'[j]? = h[j]? := fun e => by injection e with e; injection e with _ e; rw [e]
 cases op <;> simp only [evOp] at hk <;> simp only [nObj] at hn2
 case move => exact same' hk
 case assign => exact same' hk
 case pick =>
  split at hk
  ·rcases cond_some hk with ⟨_, hk⟩ | ⟨_, hk⟩ <;> exact same' hk
  ·cases hk
 case alloc => obtain ⟨z, _, hk⟩ := bind_some hk; exact set_keep hn2 hk
 case box => obtain ⟨z, _, hk⟩ := bind_some hk; exact set_keep hn2 hk
 case build => exact same (keep1 (evBuild_N P _ _) hk)
 case buildSlice => rw [hj] at hn1; cases hn1
 case load => exact same (keep1 (evLoad_N P _ _ _) hk)
 case store => rw [hj] at hn1; cases hn1
 case nilCheck => exact same (keepS (evNil_N _ _) hk)
 case binOp => exact same (keepS (evBin_N P _ _ _ _) hk)
 case unOp => exact same (keepS (evUn_N _ _) hk)
 case convert => exact same (keepS (evConv_N P _ _ _ _) hk)
 case makeFunc =>
  split at hk
  ·obtain ⟨z, _, hk⟩ := bind_some hk; exact same' hk
  ·cases hk
 case makeSlice t x y =>
  unfold evMake at hk
  obtain ⟨n, hk, _⟩ := optInt_N _ _ _ hk
  obtain ⟨m, hk, _⟩ := optInt_N _ _ _ hk
  obtain ⟨_, hk⟩ := cond_left hk
  split at hk
  ·obtain ⟨_, hk⟩ := cond_left hk
   obtain ⟨d, _, hk⟩ := bind_some hk
   exact set_keep hn2 hk
  ·cases hk
 case slice => rw [hj] at hn1; cases hn1
 case fieldAddr =>
  obtain ⟨z, _, hk⟩ := bind_some hk
  exact same (keepS (evField_N _ _ _) hk)
 case indexAddr => exact same (keepS (evIndexAddr_N P _ _ _ _) hk)
 case index => exact same (keepS (evIndex_N P _ _ _) hk)
 case extract => exact same (keep1 (evExtract_N _ _) hk)
 case call c =>
  obtain ⟨callee, args, tys⟩ := c
  cases callee with
  | builtin bi =>
   simp only at hk
   unfold evBuiltin at hk
   split at hk
   ·exact same (keepS (evLen_N P _ _ _) hk)
   ·rw [hj] at hn1; cases hn1
   ·exact same (keepS (evMax_N _ _ _) hk)
   ·exact same (keepS (evMax_N _ _ _) hk)
   ·cases hk
  | invoke q m => cases hk
  | value f => simp only at hn1; rw [hj] at hn1; cases hn1
 all_goals cases hk
theorem evOp_light {o : Oper} (hl : lightB o = true) (ρ : Operand → AV) (h : List AObj) (sl : Nat) (k : AV → List AObj → OR) : evOp P F D o ρ h sl k = evOp P F D o ρ [] 0 fun v _ => k v h := by
 obtain ⟨dst, op, ty, pos, aft, gd⟩ := o
 cases op <;> first | rfl | (simp [lightB] at hl; done)
theorem nObj_light {o : Oper} (hl : lightB o = true) : nObj P D o = 0 := by
 obtain ⟨dst, op, ty, pos, aft, gd⟩ := o
 cases op <;> first | rfl | (simp [lightB] at hl; done)
def takenG : GO → Bool | .fresh => false | _ => true
theorem RS.refs {G : List GO} {Z : Zone} {v : SV} {X : Value} (h : RS G Z w v X) : ∀ j ∈ refsS v, ∃ g, G[j]? = some g ∧ takenG g = true := by
 intro j hj
 cases v with
 | own i v =>
  simp only [refsS, List.mem_singleton] at hj; subst hj
  rcases h with h | ⟨ver, val, sz, xs, h, _⟩ <;> exact ⟨_, h, rfl⟩
 | ptr i o =>
  simp only [refsS, List.mem_singleton] at hj; subst hj
  rcases h with h | ⟨bb, T, vs, h, _⟩ <;> exact ⟨_, h, rfl⟩
 | op i v n o =>
  simp only [refsS, List.mem_singleton] at hj; subst hj
  rcases h with h | ⟨ver, val, sz, xs, h, _⟩ <;> exact ⟨_, h, rfl⟩
 | fn f l =>
  obtain ⟨bs, _, hh⟩ := h
  obtain ⟨i, hi⟩ := List.getElem?_of_mem (show j ∈ l from hj)
  obtain ⟨bb, _, hr⟩ := hh.get hi
  rcases hr with h | ⟨T, vs, h⟩ <;> exact ⟨_, h, rfl⟩
 | _ => simp [refsS] at hj
theorem RV.refs {G : List GO} {Z : Zone} {v : AV} {X : Value} (h : RV G Z w v X) : ∀ j ∈ refsA v, ∃ g, G[j]? = some g ∧ takenG g = true := by
 have one : ∀ {v : V1} {X : Value}, RV1 G Z w v X → ∀ j ∈ refsV v, ∃ g, G[j]? = some g ∧ takenG g = true := by
  intro v X h j hj
  cases v with
  | one x => exact h.1.refs j hj
  | agg l =>
   obtain ⟨xs, _, hh⟩ := h
   obtain ⟨x, hx, hj⟩ := List.mem_flatMap.1 hj
   obtain ⟨i, hi⟩ := List.getElem?_of_mem hx
   obtain ⟨y, _, hr⟩ := hh.get hi
   exact hr.1.refs j hj
 intro j hj
 cases v with
 | v x => exact one h j hj
 | tup l =>
  obtain ⟨xs, _, hh⟩ := h
  obtain ⟨x, hx, hj⟩ := List.mem_flatMap.1 hj
  obtain ⟨i, hi⟩ := List.getElem?_of_mem hx
  obtain ⟨y, _, hr⟩ := hh.get hi
  exact one hr j hj
def madeL (G : List GO) : List Nat := (List.range G.length).filter fun j => match G[j]? with | some g => takenG g | none => false
theorem mem_made {G : List GO} {j : Nat} : j ∈ madeL G ↔ ∃ g, G[j]? = some g ∧ takenG g = true := by
 unfold madeL
 rw [List.mem_filter, List.mem_range]
 constructor
 ·rintro ⟨h1, h2⟩
  rw [List.getElem?_eq_getElem h1] at h2 ⊢
  exact ⟨_, rfl, h2⟩
 ·rintro ⟨g, h1, h2⟩
  have hl := lt_of_some h1
  rw [h1]
  exact ⟨hl, h2⟩
theorem evOp_free (hF : CallsOK P F) (hib : ∀ f, D.ib f = true → extIB P f) (hst : St w0 M Z0 (resL s.heap G) (relF s G tv) w) (hm : ∀ k, M k → Z0 k) {o : Oper} {v : AV} {h' : List AObj} {Q : Exit → Act → World → Prop}
   (hl : lightB o = true) (hev : ∀ k', evOp P F D o s.ev [] 0 k' = k' v h') (hr : (refsA v).all (hasN · (refsOf s o)) = true) :
   o.wp P ⟨tv.toArray, []⟩ w (fun a' w' => ∃ G' tv', a' = ⟨tv'.toArray, []⟩ ∧ St w0 M Z0 (resL s.heap G') (relF (AS.put s o.dst v) G' tv') w' ∧ (∀ j : Nat, G[j]? = some GO.fresh → G'[j]? = some GO.fresh) ∧ Up G G') Q := by
 have hper := hst.per
 have hop : ∀ j ∈ refsOf s o, j ∈ madeL G := by
  intro j hj
  obtain ⟨x, _, hj⟩ := List.mem_flatMap.1 hj
  have hI : InvG w0 M Z0 s.heap.length G s tv w := ⟨hst, fun j h1 h2 => by rw [hper.2.1] at h1; omega, hm⟩
  exact mem_made.2 ((hI.ev x).refs j hj)
 have hheap : ∀ (h2 : List AObj), (∀ j : Nat, j ∈ madeL G → h2[j]? = s.heap[j]?) → ∀ j ∈ madeL G, ∀ i ∈ refsO h2[j]?, i ∈ madeL G := by
  intro h2 he j hj i hi
  rw [he j hj] at hi
  cases ho : s.heap[j]? with
  | none => rw [ho] at hi; simp [refsO] at hi
  | some ob =>
   rw [ho] at hi
   obtain ⟨g, hg, hro⟩ := hper.2.get ho
   cases ob with
   | cells l =>
    cases g with
    | cells bb T vs =>
     obtain ⟨x, hx, hi⟩ := List.mem_flatMap.1 hi
     obtain ⟨q, hq⟩ := List.getElem?_of_mem hx
     obtain ⟨y, _, hr⟩ := All2.get hro hq
     exact mem_made.2 (hr.1.refs i hi)
    | _ => exact hro.elim
   | arr e d ver fz => simp [refsO] at hi
   | dead => simp [refsO] at hi
 have honly : ∀ j ∈ madeL G, (onlyH (madeL G) 0 s.heap)[j]? = s.heap[j]? := by
  intro j hj
  rw [onlyH_get, Nat.zero_add, hasN_iff.2 hj]
  cases s.heap[j]? <;> rfl
 have hmix : mixH (madeL G) 0 s.heap (onlyH (madeL G) 0 s.heap) = s.heap := by
  refine List.ext_getElem? fun j => ?_
  cases hj : hasN j (madeL G) with
  | false => exact mixH_out (by rw [Nat.zero_add]; exact hj)
  | true => rw [mixH_in (by rw [Nat.zero_add]; exact hj) (onlyH_length _ _ _)]; exact honly j (hasN_iff.1 hj)
 have clos : ∀ (h2 : List AObj) (rf : List Nat), (∀ j ∈ rf, j ∈ madeL G) → (∀ j : Nat, j ∈ madeL G → h2[j]? = s.heap[j]?) → closB h2 (madeL G) rf = true := by
  intro h2 rf h1 he
  simp only [closB, Bool.and_eq_true, List.all_eq_true, hasN_iff]
  exact ⟨h1, hheap h2 he⟩
 have hrf : ∀ j ∈ refsA v, j ∈ madeL G := by
  intro j hj
  rw [List.all_eq_true] at hr
  exact hop j (hasN_iff.1 (hr j hj))
 have := evOp_masked (b := s.heap.length) (fp := madeL G) (h' := onlyH (madeL G) 0 s.heap) (v := v) (Q := Q) (P := P) (F := F) (D := D) (o := o) hF hib hst hm
  (fun j h1 h2 => by rw [nObj_light hl] at h2; omega) (by rw [nObj_light hl]; exact Nat.le_refl _)
  (fun j hj => by
   obtain ⟨g, hg, _⟩ := mem_made.1 hj
   have := lt_of_some hg
   have := hper.2.1
   omega)
  (clos _ _ hop fun _ _ => rfl)
  (fun k' => by rw [evOp_light hl, hev]) (clos _ _ hrf honly)
 rw [hmix] at this
 refine Oper.wp_mono (fun a' w' hh => ?_) this
 obtain ⟨G', tv', h1, h2, h3, h4⟩ := hh
 refine ⟨G', tv', h1, h2, fun j hj => ?_, h4⟩
 rw [h3 j ?_]; exact hj
 cases hh : hasN j (madeL G) with
 | false => rfl
 | true =>
  obtain ⟨g, hg, ht⟩ := mem_made.1 (hasN_iff.1 hh)
  rw [hj] at hg
  obtain rfl := Option.some.inj hg
  cases ht
end
end Go.Ab
namespace Go.Ab
open Go Go.Dk
structure Eff where
 want : Bool
 on : Bool
 fp : List Nat
 wr : List Nat
 b : Nat
 v : AV
 h : List AObj
def Eff.app (d : Option Tmp) (e : Eff) (s : AS) : AS := AS.put { s with heap := mixH e.wr 0 s.heap e.h } d e.v
def foldE : List (Oper × Eff) → Nat → (Nat → Bool) → AS → AS
 | [], _, _, s => s
 | x :: l, i, L, s => foldE l (i + 1) L (cond (L i) (x.2.app x.1.dst s) s)
theorem mixH_get (js : List Nat) : ∀ (h h' : List AObj) (i j : Nat), (mixH js i h h')[j]? = cond (hasN (i + j) js) (h[j]?.map fun o => h'[j]?.getD o) h[j]?
 | [], _, i, j => by simp [mixH]
 | o :: h, [], i, j => by
  have : (fun o : AObj => ([] : List AObj)[j]?.getD o) = id := by funext o; simp
  rw [this, mixH]
  ·cases hasN (i + j) js <;> simp
  ·simp
 | o :: h, o' :: h', i, 0 => by simp only [Nat.add_zero, mixH, List.getElem?_cons_zero, Option.map_some, Option.getD_some]; cases hasN i js <;> rfl
 | o :: h, o' :: h', i, j + 1 => by
  simp only [mixH, List.getElem?_cons_succ]
  rw [mixH_get js h h' (i + 1) j, show i + 1 + j = i + (j + 1) by omega]
theorem AS.ext {s t : AS} (h1 : s.tmps = t.tmps) (h2 : s.heap = t.heap) : s = t := by cases s; cases t; simp_all
theorem app_heap (d : Option Tmp) (e : Eff) (s : AS) : (e.app d s).heap = mixH e.wr 0 s.heap e.h := put_heap _ _ _
theorem app_tmps (d : Option Tmp) (e : Eff) (s : AS) : (e.app d s).tmps = (match d with | some d => s.tmps.set d e.v | none => s.tmps) := by cases d <;> rfl
def Free (d : Option Tmp) (e : Eff) (d' : Option Tmp) (e' : Eff) : Prop := (∀ q, d = some q → d' ≠ some q) ∧ ∀ j, j ∈ e.wr → j ∉ e'.wr
theorem app_comm {d d' : Option Tmp} {e e' : Eff} (h : Free d e d' e') (s : AS) : e.app d (e'.app d' s) = e'.app d' (e.app d s) := by
 refine AS.ext ?_ ?_
 ·simp only [app_tmps]
  cases d with
  | none => cases d' <;> rfl
  | some q => cases d' with
   | none => rfl
   | some q' => exact List.set_comm _ _ fun hq => h.1 q rfl (by rw [← hq])
 ·simp only [app_heap]
  refine List.ext_getElem? fun j => ?_
  simp only [mixH_get, Nat.zero_add]
  cases h1 : hasN j e.wr with
  | false => cases h2 : hasN j e'.wr <;> rfl
  | true => cases h2 : hasN j e'.wr with
   | false => rfl
   | true => exact absurd (hasN_iff.1 h2) (h.2 j (hasN_iff.1 h1))
theorem foldE_skip {L : Nat → Bool} : ∀ {l : List (Oper × Eff)} {i : Nat} {s : AS}, (∀ q, i ≤ q → L q = false) → foldE l i L s = s
 | [], _, _, _ => rfl
 | x :: l, i, s, h => by simp only [foldE, h i (Nat.le_refl i), cond_false]; exact foldE_skip fun q hq => h q (by omega)
theorem foldE_congr {L L' : Nat → Bool} : ∀ {l : List (Oper × Eff)} {i : Nat} {s : AS}, (∀ q, i ≤ q → q < i + l.length → L q = L' q) → foldE l i L s = foldE l i L' s
 | [], _, _, _ => rfl
 | x :: l, i, s, h => by
  simp only [foldE, h i (Nat.le_refl i) (by simp)]
  exact foldE_congr fun q hq hl => h q (by omega) (by simp only [List.length_cons]; omega)
theorem foldE_len {L : Nat → Bool} : ∀ {l : List (Oper × Eff)} {i : Nat} {s : AS}, (foldE l i L s).heap.length = s.heap.length
 | [], _, _ => rfl
 | x :: l, i, s => by
  simp only [foldE]; rw [foldE_len]
  cases L i with
  | false => rfl
  | true => rw [cond_true, app_heap, mixH_length]
theorem foldE_comm {L : Nat → Bool} {d : Option Tmp} {e : Eff} : ∀ {l : List (Oper × Eff)} {i : Nat} {s : AS},
   (∀ q x, l[q]? = some x → L (i + q) = true → Free d e x.1.dst x.2) → foldE l i L (e.app d s) = e.app d (foldE l i L s)
 | [], _, _, _ => rfl
 | x :: l, i, s, h => by
  simp only [foldE]
  have h' : ∀ q y, l[q]? = some y → L (i + 1 + q) = true → Free d e y.1.dst y.2 := fun q y hy hL => h (q + 1) y (by simpa using hy) (by rw [show i + (q + 1) = i + 1 + q by omega]; exact hL)
  cases hL : L i with
  | false => exact foldE_comm h'
  | true =>
   simp only [cond_true]
   rw [← app_comm (h 0 x rfl hL), foldE_comm h']
theorem foldE_add {L : Nat → Bool} {o : Oper} {e : Eff} : ∀ {l : List (Oper × Eff)} {i p : Nat} {s : AS}, l[p]? = some (o, e) → L (i + p) = false →
   (∀ q x, p < q → l[q]? = some x → L (i + q) = true → Free o.dst e x.1.dst x.2) → foldE l i (fun q => L q || Nat.beq q (i + p)) s = e.app o.dst (foldE l i L s)
 | [], _, _, _, h, _, _ => by simp at h
 | x :: l, i, 0, s, h, hL, hf => by
  simp only [List.getElem?_cons_zero, Option.some.injEq] at h
  subst h
  simp only [Nat.add_zero] at hL
  simp only [foldE, Nat.add_zero, hL, Nat.beq_refl, Bool.or_true, cond_true, cond_false]
  rw [← foldE_comm fun q x hx hLq => hf (q + 1) x (by omega) (by simpa using hx) (by rw [show i + (q + 1) = i + 1 + q by omega]; exact hLq)]
  refine foldE_congr fun q hq _ => ?_
  have : Nat.beq q i = false := by cases hb : Nat.beq q i with | false => rfl | true => simp only [Nat.beq_eq] at hb; omega
  simp [this]
 | x :: l, i, p + 1, s, h, hL, hf => by
  have hb : Nat.beq i (i + (p + 1)) = false := by cases hb : Nat.beq i (i + (p + 1)) with | false => rfl | true => simp only [Nat.beq_eq] at hb; omega
  simp only [foldE, hb, Bool.or_false]
  have he : i + (p + 1) = i + 1 + p := by omega
  rw [he]
  exact foldE_add (by simpa using h) (by rw [← he]; exact hL) fun q x hq hx hLq => hf (q + 1) x (by omega) (by simpa using hx) (by rw [show i + (q + 1) = i + 1 + q by omega]; exact hLq)
theorem foldE_heap {L L' : Nat → Bool} {j : Nat} : ∀ {l : List (Oper × Eff)} {i : Nat} {s s' : AS}, s.heap[j]? = s'.heap[j]? →
   (∀ q x, l[q]? = some x → L (i + q) ≠ L' (i + q) → j ∉ x.2.wr) → (foldE l i L s).heap[j]? = (foldE l i L' s').heap[j]?
 | [], _, _, _, hs, _ => hs
 | x :: l, i, s, s', hs, h => by
  simp only [foldE]
  refine foldE_heap ?_ fun q y hy hne => h (q + 1) y (by simpa using hy) (by rw [show i + (q + 1) = i + 1 + q by omega]; exact hne)
  have hap : ∀ t : AS, j ∉ x.2.wr → (x.2.app x.1.dst t).heap[j]? = t.heap[j]? := fun t hj => by
   rw [app_heap]; exact mixH_out (by cases hh : hasN (0 + j) x.2.wr with | false => rfl | true => rw [Nat.zero_add] at hh; exact absurd (hasN_iff.1 hh) hj)
  cases h1 : L i <;> cases h2 : L' i <;> simp only [cond_true, cond_false]
  ·exact hs
  ·rw [hap _ (h 0 x rfl (by simp [h1, h2]))]; exact hs
  ·rw [hap _ (h 0 x rfl (by simp [h1, h2]))]; exact hs
  ·simp only [app_heap, mixH_get, hs]
theorem foldE_tmps {L L' : Nat → Bool} {t : Nat} : ∀ {l : List (Oper × Eff)} {i : Nat} {s s' : AS}, s.tmps[t]? = s'.tmps[t]? →
   (∀ q x, l[q]? = some x → L (i + q) ≠ L' (i + q) → x.1.dst ≠ some t) → (foldE l i L s).tmps[t]? = (foldE l i L' s').tmps[t]?
 | [], _, _, _, hs, _ => hs
 | x :: l, i, s, s', hs, h => by
  simp only [foldE]
  refine foldE_tmps ?_ fun q y hy hne => h (q + 1) y (by simpa using hy) (by rw [show i + (q + 1) = i + 1 + q by omega]; exact hne)
  have hap : ∀ u : AS, x.1.dst ≠ some t → (x.2.app x.1.dst u).tmps[t]? = u.tmps[t]? := fun u hj => by
   rw [app_tmps]
   split
   ·rename_i d hd; rw [List.getElem?_set_ne (fun e => hj (by rw [hd]; exact congrArg some e))]
   ·rfl
  have hap2 : (x.2.app x.1.dst s).tmps[t]? = (x.2.app x.1.dst s').tmps[t]? := by
   rw [app_tmps, app_tmps]
   split
   ·rename_i d hd
    by_cases hdt : d = t
    ·subst hdt
     rw [List.getElem?_set_self', List.getElem?_set_self', hs]
    ·rw [List.getElem?_set_ne hdt, List.getElem?_set_ne hdt]; exact hs
   ·exact hs
  cases h1 : L i <;> cases h2 : L' i <;> simp only [cond_true, cond_false]
  ·exact hs
  ·rw [hap _ (h 0 x rfl (by simp [h1, h2]))]; exact hs
  ·rw [hap _ (h 0 x rfl (by simp [h1, h2]))]; exact hs
  ·exact hap2
def Guard (ops : List Oper) (o : Oper) (s : AS) (on : Bool) : Prop :=
 match o.guard with
 | none => on = true
 | some (j, want) => ∃ d, ops[j]?.bind (·.dst) = some d ∧ ((∃ bb, s.tmps[d]? = some (boolV bb) ∧ on = (bb == want)) ∨ (s.tmps[d]? = some undV ∧ on = false))
theorem wantK_out {ops : List Oper} {o : Oper} {s : AS} {yes no : AS → OR} {r : List V1 × List AObj} (h : wantK ops s o.guard yes no = some r) :
   ∃ on, Guard ops o s on ∧ (on = true → yes s = some r) ∧ (on = false → no s = some r) := by
 unfold wantK at h
 unfold Guard
 split at h
 ·rename_i hg; exact ⟨true, by rw [hg], fun _ => h, nofun⟩
 ·rename_i j want hg
  rw [hg]
  split at h
  ·rename_i d hd
   split at h
   ·rename_i bb hb
    have hdl : s.tmps[d]? = some (.v (.one (.bool bb))) := by
     cases hs : s.tmps[d]? with
     | none => simp [List.getD, hs, anyV] at hb
     | some v => simp [List.getD, hs] at hb; rw [hb]
    have hput : ∀ c, c = bb → s.put (some d) (boolV c) = s := by
     rintro c rfl
     show AS.mk (s.tmps.set d _) s.heap = s
     have : s.tmps.set d (boolV c) = s.tmps := set_same hdl
     rw [this]
    refine ⟨bb == want, ⟨d, hd, .inl ⟨bb, hdl, rfl⟩⟩, ?_, ?_⟩
    ·cases bb <;> cases want <;> simp only [cond_true, cond_false] at h <;> intro he <;> first | (cases he; done) | (rw [hput _ rfl] at h; exact h)
    ·cases bb <;> cases want <;> simp only [cond_true, cond_false] at h <;> intro he <;> first | (cases he; done) | (rw [hput _ rfl] at h; exact h)
   ·rename_i hb
    have hdl : s.tmps[d]? = some undV := by
     cases hs : s.tmps[d]? with
     | none => simp [List.getD, hs, anyV] at hb
     | some v => simp [List.getD, hs] at hb; rw [hb]; rfl
    exact ⟨false, ⟨d, hd, .inr ⟨hdl, rfl⟩⟩, nofun, fun _ => h⟩
   ·cases h
  ·cases h
def StepOk (P : Program) (F : Callee) (D : Dec) (ops : List Oper) (o : Oper) (e : Eff) (s : AS) : Prop :=
 Guard ops o s e.want ∧
 (e.on = true → e.want = true ∧ e.wr = writes o e.fp e.b (nObj P D o) ∧ (∀ j, e.b ≤ j → j < e.b + nObj P D o → j ∈ e.fp) ∧ (∀ j ∈ e.fp, j < e.b + nObj P D o) ∧
  closB s.heap e.fp (refsOf s o) = true ∧ (∀ k', evOp P F D o s.ev (onlyH e.fp 0 s.heap) e.b k' = k' e.v e.h) ∧ closB e.h e.fp (refsA e.v) = true) ∧
 (e.on = false → e.wr = [] ∧ (e.want = false → e.v = undV) ∧ (e.want = true → lightB o = true ∧ (refsA e.v).all (hasN · (refsOf s o)) = true ∧ ∃ h', ∀ k', evOp P F D o s.ev [] 0 k' = k' e.v h'))
theorem mixH_nil : ∀ (i : Nat) (h h' : List AObj), mixH [] i h h' = h
 | _, [], _ => by simp [mixH]
 | _, _ :: _, [] => by simp [mixH]
 | i, o :: h, o' :: h' => by simp only [mixH, hasN, cond_false, mixH_nil (i + 1) h h']
theorem evDr_trace {P : Program} {F : Callee} {D : Dec} {ops : List Oper} {an : List (List Nat)} {k : AS → OR} {r : List V1 × List AObj} : ∀ {l : List Oper} {i : Nat} {ds : List Done} {b : Nat} {s : AS},
   evDr P F D ops an l i ds b s k = some r → ∃ es : List Eff, es.length = l.length ∧ k (foldE (l.zip es) i (fun _ => true) s) = some r ∧
    (∀ p o e, (l.zip es)[p]? = some (o, e) → e.b = b + room P D (l.take p) ∧ StepOk P F D ops o e (foldE (l.zip es) i (fun q => Nat.blt q (i + p)) s)) ∧
    (∀ p o e, (l.zip es)[p]? = some (o, e) → e.on = true → ∀ d ∈ ds, okDone (an.getD (i + p) []) e.fp e.wr d = true) ∧
    (∀ p q o e o' e', p < q → (l.zip es)[p]? = some (o, e) → (l.zip es)[q]? = some (o', e') → e.on = true → e'.on = true → okDone (an.getD (i + q) []) e'.fp e'.wr ⟨i + p, e.fp, e.wr⟩ = true)
 | [], i, ds, b, s, h => ⟨[], rfl, h, fun p o e hp => by simp at hp, fun p o e hp => by simp at hp, fun p q o e o' e' _ hp => by simp at hp⟩
 | o :: l, i, ds, b, s, h => by
  unfold evDr at h
  obtain ⟨on, hg, h1, h2⟩ := wantK_out h
  -- what is left, behind the first
  have rest : ∀ (e : Eff) (ds' : List Done), e.b = b → StepOk P F D ops o e s → (∀ d ∈ ds, d ∈ ds') → (e.on = true → (∀ d ∈ ds, okDone (an.getD i []) e.fp e.wr d = true) ∧ (⟨i, e.fp, e.wr⟩ : Done) ∈ ds') →
     evDr P F D ops an l (i + 1) ds' (b + nObj P D o) (e.app o.dst s) k = some r → ∃ es : List Eff, es.length = (o :: l).length ∧ k (foldE ((o :: l).zip es) i (fun _ => true) s) = some r ∧
   (∀ p o' e, ((o :: l).zip es)[p]? = some (o', e) → e.b = b + room P D ((o :: l).take p) ∧ StepOk P F D ops o' e (foldE ((o :: l).zip es) i (fun q => Nat.blt q (i + p)) s)) ∧
   (∀ p o' e, ((o :: l).zip es)[p]? = some (o', e) → e.on = true → ∀ d ∈ ds, okDone (an.getD (i + p) []) e.fp e.wr d = true) ∧
   (∀ p q o1 e o' e', p < q → ((o :: l).zip es)[p]? = some (o1, e) → ((o :: l).zip es)[q]? = some (o', e') → e.on = true → e'.on = true → okDone (an.getD (i + q) []) e'.fp e'.wr ⟨i + p, e.fp, e.wr⟩ = true) := by
   intro e ds' heb hst hds hok hrun
   obtain ⟨es, a1, a2, a3, a4, a5⟩ := evDr_trace hrun
   refine ⟨e :: es, by simp [a1], ?_, ?_, ?_, ?_⟩
   ·simpa only [List.zip_cons_cons, foldE, cond_true] using a2
   ·intro p o' e' hp
    cases p with
    | zero =>
     simp only [List.zip_cons_cons, List.getElem?_cons_zero, Option.some.injEq, Prod.mk.injEq] at hp
     obtain ⟨rfl, rfl⟩ := hp
     refine ⟨by simp [heb, room], ?_⟩
     rw [foldE_skip]
     ·exact hst
     ·intro q hq
      cases hb : Nat.blt q (i + 0) with
      | false => rfl
      | true => rw [Nat.blt_eq] at hb; omega
    | succ p =>
     simp only [List.zip_cons_cons, List.getElem?_cons_succ] at hp
     obtain ⟨c1, c2⟩ := a3 p o' e' hp
     refine ⟨by rw [c1]; simp only [List.take_succ_cons, room]; omega, ?_⟩
     have hbl : Nat.blt i (i + (p + 1)) = true := by rw [Nat.blt_eq]; omega
     simp only [List.zip_cons_cons, foldE, hbl, cond_true]
     rw [show i + (p + 1) = i + 1 + p by omega]; exact c2
   ·intro p o' e' hp hon' d hd
    cases p with
    | zero =>
     simp only [List.zip_cons_cons, List.getElem?_cons_zero, Option.some.injEq, Prod.mk.injEq] at hp
     obtain ⟨rfl, rfl⟩ := hp
     exact (hok hon').1 d hd
    | succ p =>
     simp only [List.zip_cons_cons, List.getElem?_cons_succ] at hp
     have := a4 p o' e' hp hon' d (hds d hd)
     rw [show i + (p + 1) = i + 1 + p by omega]; exact this
   ·intro p q o1 e1 o' e' hpq hp hq hon1 hon'
    cases q with
    | zero => omega
    | succ q =>
     simp only [List.zip_cons_cons, List.getElem?_cons_succ] at hq
     rw [show i + (q + 1) = i + 1 + q by omega]
     cases p with
     | zero =>
      simp only [List.zip_cons_cons, List.getElem?_cons_zero, Option.some.injEq, Prod.mk.injEq] at hp
      obtain ⟨rfl, rfl⟩ := hp
      exact a4 q o' e' hq hon' _ (hok hon1).2
     | succ p =>
      simp only [List.zip_cons_cons, List.getElem?_cons_succ] at hp
      have := a5 p q o1 e1 o' e' (by omega) hp hq hon1 hon'
      rw [show i + (p + 1) = i + 1 + p by omega]; exact this
  cases on with
  | false =>
   have h := h2 rfl
   refine rest ⟨false, false, [], [], b, undV, []⟩ ds rfl ⟨hg, nofun, fun _ => ⟨rfl, fun _ => rfl, nofun⟩⟩ (fun d hd => hd) nofun ?_
   unfold Eff.app
   simp only [mixH_nil]
   exact h
  | true =>
   have h := h1 rfl
   simp only at h
   rcases cond_some h with ⟨hl, h⟩ | ⟨_, h⟩
   ·obtain ⟨v, h', h, hk⟩ := evOp_N P F D o s.ev _ _ _ _ h
    obtain ⟨hr, h⟩ := cond_left h
    refine rest ⟨true, false, [], [], b, v, []⟩ ds rfl ⟨hg, nofun, fun _ => ⟨rfl, nofun, fun _ => ⟨hl, hr, h', hk⟩⟩⟩ (fun d hd => hd) nofun ?_
    unfold Eff.app
    simp only [mixH_nil]
    exact h
   obtain ⟨hc, h⟩ := cond_left h
   simp only [Bool.and_eq_true, List.all_eq_true, Nat.blt_eq] at hc
   obtain ⟨hc1, hc2, hc3⟩ := hc
   obtain ⟨v, h', h, hk⟩ := evOp_N P F D o s.ev _ b _ _ h
   obtain ⟨hcl, h⟩ := cond_left h
   refine rest ⟨true, true, _, _, b, v, h'⟩ _ rfl ⟨hg, fun _ => ⟨rfl, rfl, fun j hj hl => ?_, fun j hj => ?_, hc1, hk, hcl⟩, nofun⟩ (fun d hd => List.mem_cons_of_mem _ hd) (fun _ => ⟨hc3, List.mem_cons_self ..⟩) h
   ·exact List.mem_append.2 (.inr (by rw [List.mem_range'_1]; exact ⟨hj, hl⟩))
   ·rcases List.mem_append.1 hj with hj | hj
    ·exact Nat.lt_of_lt_of_le (hc2 j hj) (Nat.le_add_right _ _)
    ·rw [List.mem_range'_1] at hj; exact hj.2
end Go.Ab
namespace Go.Ab
open Go Go.Dk
theorem meets_out {a b : List Nat} (h : meets a b = false) {j : Nat} (hj : j ∈ a) : j ∉ b := fun hb => by
 simp only [meets, List.any_eq_false] at h
 exact h j hj (hasN_iff.2 hb)
theorem earlierB_out {ops : List Oper} {anc : List Nat} {i : Nat} {o : Oper} : ∀ {l : List Oper} {k : Nat}, earlierB ops anc i o l k = true → ∀ p x, l[p]? = some x → k + p < i → hasN (k + p) anc = true ∨ apartT ops x o = true
 | [], k, h, p, x, hx, hp => by simp at hx
 | y :: l, k, h, p, x, hx, hp => by
  unfold earlierB at h
  have : Nat.blt k i = true := by rw [Nat.blt_eq]; omega
  rw [this, cond_true, Bool.and_eq_true, Bool.or_eq_true] at h
  cases p with
  | zero => simp only [List.getElem?_cons_zero, Option.some.injEq] at hx; subst hx; exact h.1
  | succ p =>
   have := earlierB_out h.2 p x (by simpa using hx) (by omega)
   rw [show k + (p + 1) = k + 1 + p by omega]; exact this
theorem drawB_out {ops : List Oper} {an : List (List Nat)} : ∀ {l : List Oper} {i : Nat}, drawB ops an l i = true → ∀ p o, l[p]? = some o → plainB o = true ∧ edgesB an (i + p) o = true ∧ earlierB ops (an.getD (i + p) []) (i + p) o ops 0 = true
 | [], i, h, p, o, ho => by simp at ho
 | y :: l, i, h, p, o, ho => by
  unfold drawB at h
  simp only [Bool.and_eq_true] at h
  cases p with
  | zero => simp only [List.getElem?_cons_zero, Option.some.injEq] at ho; subst ho; exact ⟨h.1, h.2.1, h.2.2.1⟩
  | succ p =>
   have := drawB_out h.2.2.2 p o (by simpa using ho)
   rw [show i + (p + 1) = i + 1 + p by omega]; exact this
theorem edgesB_out {an : List (List Nat)} {i : Nat} {o : Oper} (h : edgesB an i o = true) : (∀ e ∈ o.after, Region.binds .any e = true → e.on < i) ∧
   ∀ a ∈ an.getD i [], ∃ e ∈ o.after, Region.binds .any e = true ∧ (a = e.on ∨ a ∈ an.getD e.on []) := by
 simp only [edgesB, Bool.and_eq_true, List.all_eq_true, List.any_eq_true, Bool.or_eq_true, Nat.beq_eq, hasN_iff] at h
 refine ⟨fun e he hb => ?_, fun a ha => ?_⟩
 ·have := h.1 e (by simpa using he)
  rw [hb, cond_true, Nat.blt_eq] at this; exact this
 ·obtain ⟨e, he, hb, hh⟩ := h.2 a ha
  exact ⟨e, by simpa using he, hb, hh⟩
theorem apartT_out {ops : List Oper} {x y : Oper} (h : apartT ops x y = true) : (∀ d, x.dst = some d → d ∉ looksT ops y) ∧ (∀ d, x.dst = some d → y.dst ≠ some d) ∧ (∀ d, y.dst = some d → d ∉ looksT ops x) := by
 simp only [apartT, Bool.and_eq_true, Bool.not_eq_true'] at h
 refine ⟨fun d hd => meets_out h.1 (by simp [dstL, hd]), fun d hd he => ?_, fun d hd => meets_out h.2.2 (by simp [dstL, hd])⟩
 exact meets_out h.2.1 (j := d) (by simp [dstL, hd]) (by simp [dstL, he])
theorem room_take {P : Program} {D : Dec} : ∀ {l : List Oper} {p : Nat} {o : Oper}, l[p]? = some o → ∀ q, p < q → room P D (l.take p) + nObj P D o ≤ room P D (l.take q)
 | [], p, o, h, q, hq => by simp at h
 | x :: l, 0, o, h, q + 1, hq => by
  simp only [List.getElem?_cons_zero, Option.some.injEq] at h; subst h
  simp only [List.take_zero, room, List.take_succ_cons]; omega
 | x :: l, p + 1, o, h, q + 1, hq => by
  have := room_take (P := P) (D := D) (l := l) (p := p) (by simpa using h) q (by omega)
  simp only [List.take_succ_cons, room]; omega
theorem room_le {P : Program} {D : Dec} : ∀ {l : List Oper} {p : Nat} {o : Oper}, l[p]? = some o → room P D (l.take p) + nObj P D o ≤ room P D l
 | l, p, o, h => by
  have hp : p < l.length := by
   rcases Nat.lt_or_ge p l.length with h' | h'
   ·exact h'
   ·rw [List.getElem?_eq_none h'] at h; cases h
  have := room_take (P := P) (D := D) h l.length hp
  rwa [List.take_length] at this
theorem wr_sub {P : Program} {D : Dec} {o : Oper} {fp : List Nat} {b : Nat} (h : ∀ j, b ≤ j → j < b + nObj P D o → j ∈ fp) : ∀ j ∈ writes o fp b (nObj P D o), j ∈ fp := by
 intro j hj
 unfold writes at hj
 rcases List.mem_append.1 hj with hj | hj
 ·split at hj
  ·exact hj
  ·exact hj
  ·exact hj
  ·split at hj
   ·exact hj
   ·cases hj
   ·exact hj
  ·cases hj
 ·rw [List.mem_range'_1] at hj; exact h j hj.1 hj.2
theorem slots_wr {P : Program} {D : Dec} {o : Oper} {fp : List Nat} {b j : Nat} (h1 : b ≤ j) (h2 : j < b + nObj P D o) : j ∈ writes o fp b (nObj P D o) :=
 List.mem_append.2 (.inr (by rw [List.mem_range'_1]; exact ⟨h1, h2⟩))
section
variable {P : Program} {F : Callee} {D : Dec} {w0 : World} {M Z0 : Zone} {ops : List Oper} {an : List (List Nat)} {k : AS → OR} {r : List V1 × List AObj} {s0 : AS} {es : List Eff} {b0 : Nat} {G0 : List GO} {Q : Exit → Act → World → Prop}
structure Trace (P : Program) (F : Callee) (D : Dec) (ops : List Oper) (an : List (List Nat)) (b0 : Nat) (s0 : AS) (es : List Eff) : Prop where
 len : es.length = ops.length
 step : ∀ p o e, (ops.zip es)[p]? = some (o, e) → e.b = b0 + room P D (ops.take p) ∧ StepOk P F D ops o e (foldE (ops.zip es) 0 (fun q => Nat.blt q p) s0)
 ok : ∀ p q o e o' e', p < q → (ops.zip es)[p]? = some (o, e) → (ops.zip es)[q]? = some (o', e') → e.on = true → e'.on = true → okDone (an.getD q []) e'.fp e'.wr ⟨p, e.fp, e.wr⟩ = true
structure Here (P : Program) (D : Dec) (w0 : World) (M Z0 : Zone) (ops : List Oper) (an : List (List Nat)) (s0 : AS) (es : List Eff) (G0 : List GO) (L : Nat → Bool) (G : List GO) (tv : List Value) (w : World) : Prop where
 st : St w0 M Z0 (resL (foldE (ops.zip es) 0 L s0).heap G) (relF (foldE (ops.zip es) 0 L s0) G tv) w
 mz : ∀ k, M k → Z0 k
 fresh : ∀ p o e, (ops.zip es)[p]? = some (o, e) → e.on = true → L p = false → ∀ j, e.b ≤ j → j < e.b + nObj P D o → G[j]? = some .fresh
 down : ∀ p, L p = true → ∀ a ∈ an.getD p [], L a = true
 up : Up G0 G
theorem zip_fst {p : Nat} {o : Oper} {e : Eff} (h : (ops.zip es)[p]? = some (o, e)) : ops[p]? = some o ∧ es[p]? = some e := by
 rw [List.getElem?_zip_eq_some] at h; exact h
theorem zip_some (hl : es.length = ops.length) {p : Nat} {o : Oper} (h : ops[p]? = some o) : ∃ e, (ops.zip es)[p]? = some (o, e) := by
 have hp : p < es.length := by
  rw [hl]
  rcases Nat.lt_or_ge p ops.length with h' | h'
  ·exact h'
  ·rw [List.getElem?_eq_none h'] at h; cases h
 exact ⟨es[p], by rw [List.getElem?_zip_eq_some]; exact ⟨h, List.getElem?_eq_getElem hp⟩⟩
theorem Here.step (hF : CallsOK P F) (hib : ∀ f, D.ib f = true → extIB P f) (hd : drawB ops an ops 0 = true) (ht : Trace P F D ops an b0 s0 es) (hroom : b0 + room P D ops ≤ s0.heap.length)
   {L : Nat → Bool} {G : List GO} {tv : List Value} {w : World} (hh : Here P D w0 M Z0 ops an s0 es G0 L G tv w) {i : Nat} {o : Oper} (hi : ops[i]? = some o) (hL : L i = false) (hanc : ∀ e ∈ o.after, Region.binds .any e = true → L e.on = true) :
   wpOp P ops.toArray Q i (fun a' w' => ∃ G' tv', a' = ⟨tv'.toArray, []⟩ ∧ Here P D w0 M Z0 ops an s0 es G0 (fun q => L q || Nat.beq q i) G' tv' w') ⟨tv.toArray, []⟩ w := by
 obtain ⟨e, he⟩ := zip_some ht.len hi
 obtain ⟨heb, hguard, hon, hoff⟩ := ht.step i o e he
 have hstat := fun p x (hp : ops[p]? = some x) => by have := drawB_out hd p x hp; rw [Nat.zero_add] at this; exact this
 have hancL : ∀ a ∈ an.getD i [], L a = true := by
  intro a ha
  obtain ⟨ed, hed, hb, h⟩ := (edgesB_out (hstat i o hi).2.1).2 a ha
  rcases h with rfl | h
  ·exact hanc ed hed hb
  ·exact hh.down _ (hanc ed hed hb) a h
 -- two of them, one ahead of the other in the text
 have hpair : ∀ (p q : Nat) (x y : Oper), p < q → ops[p]? = some x → ops[q]? = some y → p ∈ an.getD q [] ∨ apartT ops x y = true := by
  intro p q x y hpq hp hq
  have := earlierB_out (hstat q y hq).2.2 p x hp (by omega)
  rw [Nat.zero_add] at this
  exact this.imp hasN_iff.1 id
 have hwrOff : ∀ (p : Nat) (x : Oper) (y : Eff), (ops.zip es)[p]? = some (x, y) → y.on = false → y.wr = [] := fun p x y hp hy => ((ht.step p x y hp).2.2.2 hy).1
 have hwrfp : ∀ (p : Nat) (x : Oper) (y : Eff), (ops.zip es)[p]? = some (x, y) → y.on = true → ∀ j ∈ y.wr, j ∈ y.fp := by
  intro p x y hp hy
  obtain ⟨_, c1, c2, _⟩ := (ht.step p x y hp).2.2.1 hy
  rw [c1]; exact wr_sub c2
 -- whom it does not meet
 have hfar : ∀ (p : Nat) (x : Oper) (y : Eff), (ops.zip es)[p]? = some (x, y) → p ≠ i → L p = decide (i < p) →
    (∀ d, x.dst = some d → d ∉ looksT ops o) ∧ (∀ d, o.dst = some d → x.dst ≠ some d) ∧ (y.on = true → e.on = true → (∀ j ∈ y.wr, j ∉ e.fp) ∧ ∀ j ∈ e.wr, j ∉ y.fp) := by
  intro p x y hp hne hLp
  obtain ⟨hpo, _⟩ := zip_fst hp
  rcases Nat.lt_or_gt_of_ne hne with hlt | hgt
  ·have hLf : L p = false := by rw [hLp]; simp; omega
   have hna : p ∉ an.getD i [] := fun ha => by rw [hancL p ha] at hLf; cases hLf
   have hap := apartT_out ((hpair p i x o hlt hpo hi).resolve_left hna)
   refine ⟨hap.1, fun d hd hx => hap.2.1 d hx hd, fun h1 h2 => ?_⟩
   have := ht.ok p i x y o e hlt hp he h1 h2
   simp only [okDone, Bool.or_eq_true, Bool.and_eq_true, Bool.not_eq_true'] at this
   obtain ⟨c1, c2⟩ := this.resolve_left fun hm => hna (hasN_iff.1 hm)
   exact ⟨fun j hj => meets_out c1 hj, fun j hj => meets_out c2 hj⟩
  ·have hLt : L p = true := by rw [hLp]; simp; omega
   have hna : i ∉ an.getD p [] := fun ha => by rw [hh.down p hLt i ha] at hL; cases hL
   have hap := apartT_out ((hpair i p o x hgt hi hpo).resolve_left hna)
   refine ⟨hap.2.2, hap.2.1, fun h1 h2 => ?_⟩
   have := ht.ok i p o e x y hgt he hp h2 h1
   simp only [okDone, Bool.or_eq_true, Bool.and_eq_true, Bool.not_eq_true'] at this
   obtain ⟨c1, c2⟩ := this.resolve_left fun hm => hna (hasN_iff.1 hm)
   exact ⟨fun j hj => meets_out c2 hj, fun j hj => meets_out c1 hj⟩
 have hdiff : ∀ (p : Nat) (x : Oper) (y : Eff), (ops.zip es)[p]? = some (x, y) → Nat.blt p i ≠ L p → p ≠ i ∧ L p = decide (i < p) := by
  intro p x y hp hne
  have hpi : p ≠ i := fun h => by
   subst h
   apply hne; rw [hL]
   cases hb : Nat.blt p p with | false => rfl | true => rw [Nat.blt_eq] at hb; omega
  refine ⟨hpi, ?_⟩
  rcases Nat.lt_or_gt_of_ne hpi with hlt | hgt
  ·have : Nat.blt p i = true := by rw [Nat.blt_eq]; exact hlt
   rw [this] at hne
   have : L p = false := by cases hLp : L p with | false => rfl | true => exact absurd hLp.symm hne
   rw [this]; symm; simp; omega
  ·have : Nat.blt p i = false := by cases hb : Nat.blt p i with | false => rfl | true => rw [Nat.blt_eq] at hb; omega
   rw [this] at hne
   have : L p = true := by cases hLp : L p with | true => rfl | false => exact absurd hLp.symm hne
   rw [this]; symm; simp; omega
 generalize hS : foldE (ops.zip es) 0 L s0 = S
 generalize hT : foldE (ops.zip es) 0 (fun q => Nat.blt q i) s0 = T at hguard hon hoff
 have hst := hh.st
 rw [hS] at hst
 have hlenS : S.heap.length = s0.heap.length := by rw [← hS]; exact foldE_len
 have hlenT : T.heap.length = s0.heap.length := by rw [← hT]; exact foldE_len
 have htm : ∀ t ∈ looksT ops o, T.tmps[t]? = S.tmps[t]? := by
  intro t htl
  rw [← hS, ← hT]
  refine foldE_tmps rfl fun q x hx hne hd => ?_
  rw [Nat.zero_add] at hne
  obtain ⟨h1, h2⟩ := hdiff q x.1 x.2 hx hne
  exact (hfar q x.1 x.2 hx h1 h2).1 t hd htl
 have hheap : e.on = true → ∀ j ∈ e.fp, T.heap[j]? = S.heap[j]? := by
  intro hone j hj
  rw [← hS, ← hT]
  refine foldE_heap rfl fun q x hx hne hw => ?_
  rw [Nat.zero_add] at hne
  obtain ⟨h1, h2⟩ := hdiff q x.1 x.2 hx hne
  cases hxo : x.2.on with
  | false => rw [hwrOff q x.1 x.2 hx hxo] at hw; cases hw
  | true => exact ((hfar q x.1 x.2 hx h1 h2).2.2 hxo hone).1 j hw hj
 have hadd : foldE (ops.zip es) 0 (fun q => L q || Nat.beq q i) s0 = e.app o.dst S := by
  have := foldE_add (L := L) (l := ops.zip es) (i := 0) (p := i) (s := s0) he (by rw [Nat.zero_add]; exact hL) (fun q x hq hx hLq => by
   rw [Nat.zero_add] at hLq
   have h2 := hfar q x.1 x.2 hx (by omega) (by rw [hLq]; symm; simpa using hq)
   refine ⟨h2.2.1, fun j hj hj' => ?_⟩
   cases hxo : x.2.on with
   | false => rw [hwrOff q x.1 x.2 hx hxo] at hj'; cases hj'
   | true => cases heo : e.on with
    | false => rw [hwrOff i o e he heo] at hj; cases hj
    | true => exact (h2.2.2 hxo heo).2 j hj (hwrfp q x.1 x.2 hx hxo j hj'))
  rw [hS] at this
  rw [← this]
  simp only [Nat.zero_add]
 have hdown : ∀ p, (fun q => L q || Nat.beq q i) p = true → ∀ a ∈ an.getD p [], (fun q => L q || Nat.beq q i) a = true := by
  intro p hp a ha
  simp only [Bool.or_eq_true, Nat.beq_eq] at hp ⊢
  rcases hp with hp | rfl
  ·exact .inl (hh.down p hp a ha)
  ·exact .inl (hancL a ha)
 -- is it carried out?
 have hwant : Region.wanted o (yielded ops.toArray tv.toArray) = e.want := by
  unfold Guard at hguard
  split at hguard
  ·rename_i hg; rw [hguard]; simp [Region.wanted, hg]
  ·rename_i j want hg
   obtain ⟨d, hdd, hguard⟩ := hguard
   have hdS : ∀ v, T.tmps[d]? = some v → S.tmps[d]? = some v := fun v hv => by
    rw [← htm d ?_]; exact hv
    unfold looksT
    refine List.mem_append.2 (.inr ?_)
    simp [hg, hdd]
   have hd' : (ops.toArray[j]?).bind (·.dst) = some d := by simpa using hdd
   rcases hguard with ⟨bb, hdt, hon'⟩ | ⟨hdt, hon'⟩
   ·obtain ⟨X, hX, hr⟩ := hst.per.1.get (hdS _ hdt)
    have hX' := bool_inv hr
    subst hX'
    have hy : yielded ops.toArray tv.toArray j = some bb := by
     simp only [yielded, hd', Option.bind_some]
     have : tv.toArray[d]? = some (.bool bb) := by simpa using hX
     rw [this]
    rw [hon']
    simp only [Region.wanted, hg, hy]; rfl
   ·obtain ⟨X, hX, xs, hXe, hr⟩ := hst.per.1.get (hdS _ hdt)
    obtain rfl := hr.nil_inv
    subst hXe
    have hy : yielded ops.toArray tv.toArray j = none := by
     simp only [yielded, hd', Option.bind_some]
     have : tv.toArray[d]? = some (.tuple #[]) := by simpa using hX
     rw [this]
    rw [hon']
    simp only [Region.wanted, hg, hy]; rfl
 unfold wpOp
 have hi' : ops.toArray[i]? = some o := by simpa using hi
 rw [hi']
 simp only [hwant]
 have hevx : ∀ x ∈ o.op.operands, T.ev x = S.ev x := by
  intro x hx
  cases x with
  | tmp t =>
   show T.tmps.getD t anyV = S.tmps.getD t anyV
   have : t ∈ looksT ops o := List.mem_append.2 (.inl (mem_opT.2 hx))
   simp only [List.getD, htm t this]
  | _ => rfl
 have hrefs : refsOf S o = refsOf T o := by
  unfold refsOf
  simp only [List.flatMap_def]
  congr 1
  refine List.map_congr_left fun x hx => ?_
  rw [hevx x (by simpa using hx)]
 cases heo : e.on with
 | false =>
  obtain ⟨c1, c2, c3⟩ := hoff heo
  have happ : e.app o.dst S = S.put o.dst e.v := by unfold Eff.app; rw [c1, mixH_nil]
  have hp : ∀ d : Option Tmp, (S.put d e.v).heap = S.heap := fun d => put_heap _ _ _
  cases hwn : e.want with
  | false =>
   simp only [Bool.false_eq_true, if_false]
   refine ⟨G, putVs tv o.dst undef, by rw [put_act]; cases o.dst <;> rfl, ?_⟩
   refine ⟨?_, hh.mz, ?_, hdown, hh.up⟩
   ·rw [hadd, happ, hp]
    refine hst.weak (relF_stable _ _ _) fun q => ⟨?_, by rw [hp]; exact q.2⟩
    have := rel_put q.1 o.dst (v := e.v) (X := undef) (fun _ _ _ => by rw [c2 hwn]; exact und_rel) S.heap
    exact this
   ·intro p x y hp hy hLp j h1 h2
    simp only [Bool.or_eq_false_iff] at hLp
    exact hh.fresh p x y hp hy hLp.1 j h1 h2
  | true =>
   simp only [if_true]
   obtain ⟨hl, hrf, h', hlev⟩ := c3 hwn
   refine .inl (Oper.wp_mono (fun a' w' hst' => ?_) (evOp_free (Q := Q) (v := e.v) (h' := h') hF hib hst hh.mz hl (fun k' => by rw [← evOp_congr hevx]; exact hlev k') (by rw [hrefs]; exact hrf)))
   obtain ⟨G', tv', ha, hst', hfr, hup⟩ := hst'
   refine ⟨G', tv', ha, ?_, hh.mz, ?_, hdown, hh.up.trans hup⟩
   ·rw [hadd, happ, hp]; exact hst'
   ·intro p x y hp hy hLp j h1 h2
    simp only [Bool.or_eq_false_iff] at hLp
    exact hfr j (hh.fresh p x y hp hy hLp.1 j h1 h2)
 | true =>
  obtain ⟨hwn, c1, c2, c3, c4, c5, c6⟩ := hon heo
  rw [hwn]
  simp only [if_true]
  have hcl : closB S.heap e.fp (refsOf S o) = true := by
   rw [hrefs]
   obtain ⟨d1, d2⟩ := closB_out c4
   simp only [closB, Bool.and_eq_true, List.all_eq_true, hasN_iff]
   exact ⟨d1, fun j hj i hi => d2 j hj i (by rw [hheap heo j hj]; exact hi)⟩
  have honly : onlyH e.fp 0 T.heap = onlyH e.fp 0 S.heap := by
   refine List.ext_getElem? fun j => ?_
   rw [onlyH_get, onlyH_get, Nat.zero_add]
   cases hj : hasN j e.fp with
   | true => rw [hheap heo j (hasN_iff.1 hj)]
   | false =>
    rcases Nat.lt_or_ge j s0.heap.length with hlt | hge
    ·rw [List.getElem?_eq_getElem (by rw [hlenT]; exact hlt), List.getElem?_eq_getElem (by rw [hlenS]; exact hlt)]; rfl
    ·rw [List.getElem?_eq_none (by rw [hlenT]; exact hge), List.getElem?_eq_none (by rw [hlenS]; exact hge)]
  have hev : ∀ k', evOp P F D o S.ev (onlyH e.fp 0 S.heap) e.b k' = k' e.v e.h := by
   intro k'
   rw [← honly, ← evOp_congr hevx]; exact c5 k'
  have hbl : e.b + nObj P D o ≤ S.heap.length := by
   rw [hlenS, heb]
   have := room_le (P := P) (D := D) hi
   omega
  refine .inl (Oper.wp_mono (fun a' w' hst' => ?_) (evOp_masked (Q := Q) hF hib hst hh.mz (hh.fresh i o e he heo hL) hbl c3 hcl hev c6))
  obtain ⟨G', tv', ha, hst', hout, hup⟩ := hst'
  refine ⟨G', tv', ha, ?_, hh.mz, ?_, hdown, hh.up.trans hup⟩
  ·rw [hadd]
   have hmix : mixH e.fp 0 S.heap e.h = mixH e.wr 0 S.heap e.h := by
    refine List.ext_getElem? fun j => ?_
    rw [mixH_get, mixH_get, Nat.zero_add]
    cases h1 : hasN j e.fp with
    | false =>
     have : hasN j e.wr = false := by
      cases h2 : hasN j e.wr with
      | false => rfl
      | true => rw [hasN_iff.2 (hwrfp i o e he heo j (hasN_iff.1 h2))] at h1; cases h1
     rw [this]
    | true =>
     cases h2 : hasN j e.wr with
     | true => rfl
     | false =>
      rw [c1] at h2
      have := evOp_keeps hev h1 h2
      rw [this, onlyH_get, Nat.zero_add, h1]
      cases S.heap[j]? <;> rfl
   rw [hmix] at hst'
   unfold Eff.app
   rw [put_heap]
   exact hst'
  ·intro p x y hp hy hLp j h1 h2
   simp only [Bool.or_eq_false_iff] at hLp
   have hpi : p ≠ i := fun h => by rw [h] at hLp; simp at hLp
   have hjf : hasN j e.fp = false := by
    cases hj : hasN j e.fp with
    | false => rfl
    | true =>
     have hj := hasN_iff.1 hj
     rcases Nat.lt_or_gt_of_ne hpi with hlt | hgt
     ·have hw : j ∈ y.wr := by rw [((ht.step p x y hp).2.2.1 hy).2.1]; exact slots_wr h1 h2
      have hLd : L p = decide (i < p) := by rw [hLp.1]; symm; simp; omega
      exact absurd hj (((hfar p x y hp hpi hLd).2.2 hy heo).1 j hw)
     ·have a1 := c3 j hj
      have a2 := (ht.step p x y hp).1
      have a3 := room_take (P := P) (D := D) hi p hgt
      omega
   rw [hout j hjf]
   exact hh.fresh p x y hp hy hLp.1 j h1 h2
end
end Go.Ab
namespace Go.Ab
open Go Go.Dk
section
variable {P : Program} {F : Callee} {D : Dec} {w0 : World} {M Z0 : Zone} {ops : List Oper} {an : List (List Nat)} {s0 : AS} {es : List Eff} {b0 : Nat} {G0 : List GO} {Q : Exit → Act → World → Prop}
theorem all_listed (hd : drawB ops an ops 0 = true) {listed : Array Bool} (hs : listed.size = ops.length) (hr : Region.ready .any ops.toArray listed = []) : ∀ i, i < ops.length → listed.getD i false = true := by
 intro i
 induction i using Nat.strongRecOn with
 | ind i ih =>
  intro hi
  cases hL : listed.getD i false with
  | true => rfl
  | false =>
   exfalso
   have hmem : i ∈ Region.ready .any ops.toArray listed := by
    rw [mem_ready]
    refine ⟨?_, ops[i], by simp [hi], fun e he hb => ?_⟩
    ·have hlt : i < listed.size := by omega
     simp only [Array.getD_eq_getD_getElem?, Array.getElem?_eq_getElem hlt, Option.getD_some] at hL ⊢; exact hL
    ·have hst := drawB_out hd i ops[i] (List.getElem?_eq_getElem hi)
     have := (edgesB_out hst.2.1).1 e he hb
     rw [Nat.zero_add] at this
     exact ih e.on this (by omega)
   rw [hr] at hmem; cases hmem
theorem draw_any (hF : CallsOK P F) (hib : ∀ f, D.ib f = true → extIB P f) (hd : drawB ops an ops 0 = true) (ht : Trace P F D ops an b0 s0 es) (hroom : b0 + room P D ops ≤ s0.heap.length)
   (hQ : ∀ (L : Nat → Bool) G tv w, (∀ i, i < ops.length → L i = true) → Here P D w0 M Z0 ops an s0 es G0 L G tv w → Q .normal ⟨tv.toArray, []⟩ w) :
   ∀ (fuel : Nat) (listed : Array Bool) G tv w, listed.size = ops.length → listed.toList.count false ≤ fuel → Here P D w0 M Z0 ops an s0 es G0 (fun q => listed.getD q false) G tv w →
    wpAny P .any ops.toArray Q fuel listed ⟨tv.toArray, []⟩ w
 | 0, listed, G, tv, w, hs, hc, hh => by
  have hall : ∀ i, i < ops.length → listed.getD i false = true := by
   intro i hi
   have hlt : i < listed.size := by omega
   have : false ∉ listed.toList := List.count_eq_zero.1 (by omega)
   simp only [Array.getD_eq_getD_getElem?, Array.getElem?_eq_getElem hlt, Option.getD_some]
   cases hb : listed[i] with
   | true => rfl
   | false => exact absurd (by rw [← hb]; simp) this
  refine ⟨?_, hQ _ G tv w hall hh⟩
  cases hr : Region.ready .any ops.toArray listed with
  | nil => rfl
  | cons i l =>
   have hm : i ∈ Region.ready .any ops.toArray listed := by rw [hr]; exact List.mem_cons_self ..
   obtain ⟨h1, o, ho, _⟩ := mem_ready.1 hm
   have hi : i < ops.length := by
    have := (Array.getElem?_eq_some_iff.1 ho).1; simpa using this
   have h2 := hall i hi
   have hlt : i < listed.size := by omega
   simp only [Array.getD_eq_getD_getElem?, Array.getElem?_eq_getElem hlt, Option.getD_some] at h1 h2
   rw [h1] at h2; cases h2
 | fuel + 1, listed, G, tv, w, hs, hc, hh => by
  refine ⟨fun hr => hQ _ G tv w (all_listed hd hs hr) hh, fun i hi => ?_⟩
  obtain ⟨h1, o, ho, h2⟩ := mem_ready.1 hi
  have hil : i < ops.length := by have := (Array.getElem?_eq_some_iff.1 ho).1; simpa using this
  have hlt : i < listed.size := by omega
  have hLi : listed.getD i false = false := by
   simp only [Array.getD_eq_getD_getElem?, Array.getElem?_eq_getElem hlt, Option.getD_some] at h1 ⊢; exact h1
  refine wpOp_mono (fun a' w' hh' => ?_) (hh.step (Q := Q) hF hib hd ht hroom (i := i) (o := o) (by simpa using ho) hLi h2)
  obtain ⟨G', tv', ha, hh'⟩ := hh'
  subst ha
  refine draw_any hF hib hd ht hroom hQ fuel _ G' tv' w' (by simpa using hs) ?_ ?_
  ·have hlt' : i < listed.toList.length := by simpa using hlt
   have h3 : listed[i] = false := by
    simp only [Array.getD_eq_getD_getElem?, Array.getElem?_eq_getElem hlt, Option.getD_some] at hLi; exact hLi
   rw [Array.toList_setIfInBounds, List.count_set hlt']
   have h4 : listed.toList[i] = false := by simpa using h3
   rw [h4]
   show List.count false listed.toList - 1 + 0 ≤ fuel
   omega
  ·have : (fun q => (listed.setIfInBounds i true).getD q false) = fun q => listed.getD q false || Nat.beq q i := by
     funext q
     by_cases hq : q = i
     ·subst hq
      simp [hlt]
     ·have hb : Nat.beq q i = false := by cases hb : Nat.beq q i with | false => rfl | true => simp only [Nat.beq_eq] at hb; exact absurd hb hq
      rw [_root_.Go.getD_set_ne false (Ne.symm hq), hb, Bool.or_false]
   rw [this]; exact hh'
end
theorem _root_.Go.Dk.St.drawn {w0 w : World} {M Z0 : Zone} {L : List Res} {φ : Fact} (h : St w0 M Z0 L φ w) (n : Nat) : St w0 M Z0 L φ { w with drawn := n } :=
 ⟨⟨h.ext.os, h.ext.tape, h.ext.output, h.ext.size, h.ext.block⟩, fun q hq => h.loc q hq w _ (fun _ _ => rfl) (h.own q hq), h.loc, h.key, h.dis, h.stab, h.stab _ _ w _ (fun b hz _ => ⟨hz, rfl⟩) h.per⟩
theorem drawOK {P : Program} [hm : DrM P] {F : Callee} {D : Dec} (hib : ∀ f, D.ib f = true → extIB P f) (hF : CallsOK P F) : DrawOK P F D := by
 intro w0 M Z0 G s tv w ops id k r Q hI hd h hQ
 obtain ⟨es, h1, h2, h3, _, h5⟩ := evDr_trace h
 refine wp_region_any hm.out ?_
 have hlen : ops.toArray.size = ops.length := by simp
 have hg := hI.grow (room P D ops)
 have ht : Trace P F D ops (ancL ops []) s.heap.length (grow (room P D ops) s) es := by
  refine ⟨h1, fun p o e hp => ?_, fun p q o e o' e' hpq hp hq a c => ?_⟩
  ·have := h3 p o e hp; simp only [Nat.zero_add] at this; exact this
  ·have := h5 p q o e o' e' hpq hp hq a c; simp only [Nat.zero_add] at this; exact this
 have hrep : (fun q => (Array.replicate ops.toArray.size false).getD q false) = fun _ => false := by
  funext q
  simp only [Array.getD_eq_getD_getElem?, Array.getElem?_replicate]
  split <;> rfl
 refine draw_any (w0 := w0) (M := M) (Z0 := Z0) (G0 := G ++ List.replicate (room P D ops) .fresh) hF hib hd ht (by simp [grow]) ?_ ops.toArray.size _ (G ++ List.replicate (room P D ops) .fresh) tv _ (by simp) (by simp) ?_
 ·intro L G' tv' w' hL hh
  have he : foldE (ops.zip es) 0 L (grow (room P D ops) s) = foldE (ops.zip es) 0 (fun _ => true) (grow (room P D ops) s) :=
   foldE_congr fun q _ hq => by
    refine hL q ?_
    have : (ops.zip es).length ≤ ops.length := by rw [List.length_zip]; omega
    omega
  have hst := hh.st
  rw [he] at hst
  refine hQ _ G' tv' w' h2 ⟨hst, fun j hj hl => ?_, hh.mz⟩ ((Up.append _ _).trans hh.up).weak
  rw [hst.per.2.1] at hj; omega
 ·rw [hrep]
  have hs : foldE (ops.zip es) 0 (fun _ => false) (grow (room P D ops) s) = grow (room P D ops) s := foldE_skip fun _ _ => rfl
  refine ⟨by rw [hs]; exact hg.st.drawn _, hg.mz, fun p o e hp _ _ j hj hl => ?_, nofun, Up.refl _⟩
  refine hg.fresh j ?_ ?_
  ·have := (ht.step p o e hp).1; omega
  ·have a1 := (ht.step p o e hp).1
   have a2 := room_le (P := P) (D := D) (zip_fst hp).1
   have a3 := hI.len
   simp only [List.length_append, List.length_replicate]
   omega
theorem abs_sound {P : Program} [hm : DrM P] {S : Say} (hp : PrimsOK P S) (hib : ∀ f, S.D.ib f = true → extIB P f) (n : Nat) : CallsOK P (evF P S n) :=
 evF_sound hp hib (fun F hF => drawOK hib hF) n
end Go.Ab
end
section
namespace Go.Ab
open Go Go.Dk
noncomputable def spot (E : Env) : List Nat → List Nat → Nat → Code → Kont → Option (Nat × Code × Kont)
 | [], _, i, c, k => some (i, c, k)
 | 0 :: p, cs, i, .seq a b, k => spot E p cs i a (thenK E (evC E i b) k)
 | 1 :: p, cs, i, .seq _ b, k => spot E p cs i b k
 | 0 :: p, cs, i, .cond _ a _, k => spot E p cs i a k
 | 1 :: p, cs, i, .cond _ _ b, k => spot E p cs i b k
 | 0 :: p, cs, _, .block id b, k => spot E p cs id b (blockK id k)
 | 9 :: p, c :: cs, i, .loop b, k => spot E p cs i b fun e s => match e with
    | .normal => evL (evC E i b) (atHead E.m (E.live i)) c (atHead E.m (E.live i) s) k
    | e => k e s
 | _, _, _, _, _ => none
noncomputable def runLoop (P : Program) (S : Say) (n : Nat) (f : FuncId) (m : Nat) (p cs : List Nat) (c : Nat) (s : AS) : OR :=
 match P.funcs[f]? with
 | some fn => (match fn.body with
  | some b => (match spot ⟨P, evF P S n, S.D, n, m, S.live f⟩ p cs 0 b (finK P (S.D.own f) fn m) with
   | some (i, .loop b, k) => evL (evC ⟨P, evF P S n, S.D, n, m, S.live f⟩ i b) (atHead m (S.live f i)) c s k
   | _ => none)
  | none => none)
 | none => none
end Go.Ab
end
section
namespace Go.Proofs.Ytgchmppmecnniaa
open Go Go.Dk
def opsOf : Int → Int := fun k => if k = 1 ∨ k = 2 ∨ k = 6 ∨ k = 7 then 0 else if k = 8 ∨ k = 11 ∨ k = 15 ∨ k = 16 then 1 else if k = 3 ∨ k = 4 ∨ k = 5 ∨ k = 13 then 2 else if k = 10 ∨ k = 12 ∨ k = 14 then 3 else if k = 9 then 4 else -1
def mostOf : Int → Int := fun k => if k = 1 then 20 else if k = 2 then 3 else 0
mutual
def scanF : T → Int → Int → Bool × Int
 | .mk k n kids, deep, c => if 400 < c + 1 ∨ 30 < deep ∨ opsOf k ≠ kids.length ∨ ¬ (0 ≤ n ∧ n ≤ mostOf k) then (false, c + 1) else scanL kids (deep + 1) (c + 1)
def scanL : List T → Int → Int → Bool × Int
 | [], _, c => (true, c)
 | t :: ts, d, c => if (scanF t d c).1 then scanL ts d (scanF t d c).2 else (false, (scanF t d c).2)
end
theorem scanF_eq (t : T) (d c : Int) : scanF t d c = if 400 < c + 1 ∨ 30 < d ∨ opsOf t.k ≠ t.kids.length ∨ ¬ (0 ≤ t.n ∧ t.n ≤ mostOf t.k) then (false, c + 1) else scanL t.kids (d + 1) (c + 1) := by
 cases t; simp only [scanF]; rfl
mutual
theorem scanF_bd (t : T) (d c : Int) : (scanF t d c).1 = true → c + 1 ≤ (scanF t d c).2 ∧ (scanF t d c).2 ≤ 400 := by
 cases t with
 | mk k n kids =>
  unfold scanF
  split
  ·intro h; cases h
  ·rename_i h
   intro h1
   have h2 : c + 1 ≤ 400 := by simp only [not_or] at h; omega
   have := scanL_bd kids (d + 1) (c + 1) h2 h1
   omega
theorem scanL_bd (ts : List T) (d c : Int) (hc : c ≤ 400) : (scanL ts d c).1 = true → c ≤ (scanL ts d c).2 ∧ (scanL ts d c).2 ≤ 400 := by
 cases ts with
 | nil => intro _; simp [scanL, hc]
 | cons t ts =>
  unfold scanL
  split
  ·rename_i h
   intro h1
   have a := scanF_bd t d c h
   have b := scanL_bd ts d _ a.2 h1
   omega
  ·intro h; cases h
end
mutual
def shapeF : T → Nat → Bool
 | .mk k n kids, d => decide (1 ≤ d) && (decide (opsOf k = kids.length) && (decide (0 ≤ n ∧ n ≤ mostOf k) && shapeL kids (d - 1)))
def shapeL : List T → Nat → Bool
 | [], _ => true
 | t :: ts, d => shapeF t d && shapeL ts d
end
theorem shapeF_eq (t : T) (d : Nat) : shapeF t d = (decide (1 ≤ d) && (decide (opsOf t.k = t.kids.length) && (decide (0 ≤ t.n ∧ t.n ≤ mostOf t.k) && shapeL t.kids (d - 1)))) := by cases t; simp only [shapeF]; rfl
def validB (t : T) : Bool := shapeF t 30 && decide (t.size ≤ 400)
def cntF (t : T) (m : Nat) : Nat := min t.size (m + 1)
mutual
theorem scanF_iff (t : T) (d c : Nat) (hc : c ≤ 400) (hd : d ≤ 31) : ((scanF t d c).1 = true ↔ shapeF t (31 - d) = true ∧ c + t.size ≤ 400) ∧ ((scanF t d c).1 = true → (scanF t d c).2 = c + t.size) := by
 cases t with
 | mk k n kids =>
  have hs : T.size (.mk k n kids) = 1 + T.sizeL kids := rfl
  unfold scanF shapeF
  by_cases hcond : 400 < (c : Int) + 1 ∨ 30 < (d : Int) ∨ opsOf k ≠ (kids.length : Int) ∨ ¬ (0 ≤ n ∧ n ≤ mostOf k)
  ·rw [if_pos hcond]
   refine ⟨⟨fun h => (by cases h), fun h => ?_⟩, fun h => (by cases h)⟩
   simp only [Bool.and_eq_true, decide_eq_true_eq] at h
   obtain ⟨⟨h1, h2, h3, h4⟩, h5⟩ := h
   exfalso
   rcases hcond with h | h | h | h
   ·omega
   ·omega
   ·exact h h2
   ·exact h h3
  ·rw [if_neg hcond]
   simp only [not_or, Decidable.not_not] at hcond
   have hk : ((c : Int) + 1) = ((c + 1 : Nat) : Int) := by omega
   have hk2 : ((d : Int) + 1) = ((d + 1 : Nat) : Int) := by omega
   rw [hk, hk2]
   have ih := scanL_iff kids (d + 1) (c + 1) (by omega) (by omega)
   rw [decide_eq_true (by omega : 1 ≤ 31 - d), decide_eq_true hcond.2.2.1, decide_eq_true hcond.2.2.2, Bool.true_and, Bool.true_and, Bool.true_and, show 31 - d - 1 = 31 - (d + 1) by omega, hs]
   refine ⟨⟨fun h => ?_, fun h => ?_⟩, fun h => ?_⟩
   ·have := ih.1.1 h; exact ⟨this.1, by omega⟩
   ·exact ih.1.2 ⟨h.1, by omega⟩
   ·have := ih.2 h; omega
theorem scanL_iff (ts : List T) (d c : Nat) (hc : c ≤ 400) (hd : d ≤ 31) : ((scanL ts d c).1 = true ↔ shapeL ts (31 - d) = true ∧ c + T.sizeL ts ≤ 400) ∧ ((scanL ts d c).1 = true → (scanL ts d c).2 = c + T.sizeL ts) := by
 cases ts with
 | nil => simp [scanL, shapeL, T.sizeL, hc]
 | cons t ts =>
  have ih := scanF_iff t d c hc hd
  have hs : T.sizeL (t :: ts) = t.size + T.sizeL ts := rfl
  unfold scanL shapeL
  by_cases h1 : (scanF t d c).1 = true
  ·have h2 := ih.2 h1
   have h3 := ih.1.1 h1
   have ih2 := scanL_iff ts d (c + t.size) h3.2 hd
   have hk : ((c : Int) + (t.size : Int)) = ((c + t.size : Nat) : Int) := by omega
   rw [if_pos h1, h2, hk, h3.1, Bool.true_and, hs]
   refine ⟨⟨fun h => ?_, fun h => ?_⟩, fun h => ?_⟩
   ·have := ih2.1.1 h; exact ⟨this.1, by omega⟩
   ·exact ih2.1.2 ⟨h.1, by omega⟩
   ·have := ih2.2 h; omega
  ·rw [if_neg h1, hs]
   refine ⟨⟨fun h => (by cases h), fun h => ?_⟩, fun h => (by cases h)⟩
   exfalso
   rw [Bool.and_eq_true] at h
   exact h1 (ih.1.2 ⟨h.1.1, by omega⟩)
end
theorem scan_valid (t : T) : (scanF t 1 0).1 = validB t := by
 have := (scanF_iff t 1 0 (by omega) (by omega)).1
 unfold validB
 rw [Bool.eq_iff_iff, Bool.and_eq_true, decide_eq_true_eq]
 simpa using this
theorem shapeL_mem {u : T} {d : Nat} : ∀ {ts : List T}, shapeL ts d = true → u ∈ ts → shapeF u d = true
 | t :: ts, h, hu => by
  simp only [shapeL, Bool.and_eq_true] at h
  rcases List.mem_cons.1 hu with rfl | hu
  ·exact h.1
  ·exact shapeL_mem h.2 hu
mutual
theorem shapeF_up : ∀ (t : T) (d : Nat), shapeF t d = true → shapeF t (d + 1) = true
 | .mk k n kids, d, h => by
  simp only [shapeF, Bool.and_eq_true, decide_eq_true_eq] at h ⊢
  refine ⟨by omega, h.2.1, h.2.2.1, ?_⟩
  have := shapeL_up kids (d - 1) h.2.2.2
  rwa [show d - 1 + 1 = d + 1 - 1 by omega] at this
theorem shapeL_up : ∀ (ts : List T) (d : Nat), shapeL ts d = true → shapeL ts (d + 1) = true
 | [], _, _ => rfl
 | t :: ts, d, h => by
  simp only [shapeL, Bool.and_eq_true] at h ⊢
  exact ⟨shapeF_up t d h.1, shapeL_up ts d h.2⟩
end
theorem validB_kid {t u : T} (h : validB t = true) (hu : u ∈ t.kids) : validB u = true := by
 unfold validB at h ⊢
 rw [Bool.and_eq_true, decide_eq_true_eq] at h ⊢
 rw [shapeF_eq] at h
 simp only [Bool.and_eq_true, decide_eq_true_eq] at h
 have h1 := shapeF_up _ _ (shapeL_mem h.1.2.2.2 hu)
 have h2 := T.sizeL_mem hu
 have h3 := T.size_eq t
 exact ⟨h1, by omega⟩
theorem validB_ops {t : T} (h : validB t = true) : opsOf t.k = t.kids.length ∧ 0 ≤ t.n ∧ t.n ≤ mostOf t.k := by
 unfold validB at h
 rw [Bool.and_eq_true, shapeF_eq] at h
 simp only [Bool.and_eq_true, decide_eq_true_eq] at h
 exact ⟨h.1.2.1, h.1.2.2.1⟩
theorem validB_size {t : T} (h : validB t = true) : t.size ≤ 400 := by
 unfold validB at h
 rw [Bool.and_eq_true, decide_eq_true_eq] at h
 exact h.2
end Go.Proofs.Ytgchmppmecnniaa
end
section
namespace Go.Proofs.Ytgchmppmecnniaa
open Go Go.Dk
def under (k : Int) (i : Nat) : Int := if i = 1 ∧ (k = 3 ∨ k = 4 ∨ k = 13) then 1 else 0
theorem under_bd (k : Int) (i : Nat) : 0 ≤ under k i ∧ under k i ≤ 1 := by unfold under; split <;> omega
mutual
def shT (a : Int) : T → Int → T
 | .mk k n ts, c => .mk k (if k = 1 ∧ c ≤ n then n + a else n) (shL a k 0 ts c)
def shL (a k : Int) : Nat → List T → Int → List T
 | _, [], _ => []
 | i, t :: ts, c => shT a t (c + under k i) :: shL a k (i + 1) ts c
end
mutual
def sbT (u : T) : T → Int → Int → T
 | .mk k n ts, x, d => if k = 1 ∧ n = x then shT d u 0 else .mk k (if k = 1 ∧ x < n then n - 1 else n) (sbL u k 0 ts x d)
def sbL (u : T) (k : Int) : Nat → List T → Int → Int → List T
 | _, [], _, _ => []
 | i, t :: ts, x, d => sbT u t (x + under k i) (d + under k i) :: sbL u k (i + 1) ts x d
end
mutual
theorem sh_comm {a b : Int} (ha : 0 ≤ a) (hb : 0 ≤ b) : ∀ (t : T) (c e : Int), c ≤ e → shT a (shT b t c) (e + b) = shT b (shT a t e) c
 | .mk k n ts, c, e, h => by
  simp only [shT]
  rw [sh_commL ha hb k ts 0 c e h]
  congr 1
  by_cases hk : k = 1 <;> simp only [hk, true_and, false_and, if_false]
  repeat' split
  all_goals omega
theorem sh_commL {a b : Int} (ha : 0 ≤ a) (hb : 0 ≤ b) (k : Int) : ∀ (ts : List T) (i : Nat) (c e : Int), c ≤ e → shL a k i (shL b k i ts c) (e + b) = shL b k i (shL a k i ts e) c
 | [], i, c, e, h => rfl
 | t :: ts, i, c, e, h => by
  simp only [shL]
  rw [show e + b + under k i = e + under k i + b by omega, sh_comm ha hb t (c + under k i) (e + under k i) (by omega), sh_commL ha hb k ts (i + 1) c e h]
end
mutual
theorem sh_add {a b : Int} (ha : 0 ≤ a) (hb : 0 ≤ b) : ∀ (t : T) (c e : Int), c ≤ e → e ≤ c + b → shT a (shT b t c) e = shT (a + b) t c
 | .mk k n ts, c, e, h, h2 => by
  simp only [shT]
  rw [sh_addL ha hb k ts 0 c e h h2]
  congr 1
  by_cases hk : k = 1 <;> simp only [hk, true_and, false_and, if_false]
  repeat' split
  all_goals omega
theorem sh_addL {a b : Int} (ha : 0 ≤ a) (hb : 0 ≤ b) (k : Int) : ∀ (ts : List T) (i : Nat) (c e : Int), c ≤ e → e ≤ c + b → shL a k i (shL b k i ts c) e = shL (a + b) k i ts c
 | [], i, c, e, h, h2 => rfl
 | t :: ts, i, c, e, h, h2 => by
  simp only [shL]
  rw [sh_add ha hb t (c + under k i) (e + under k i) (by omega) (by omega), sh_addL ha hb k ts (i + 1) c e h h2]
end
mutual
theorem sb_sh (u : T) {b : Int} (hb : 0 ≤ b) : ∀ (t : T) (c x d : Int), c ≤ x → x ≤ c + b → sbT u (shT (b + 1) t c) x d = shT b t c
 | .mk k n ts, c, x, d, h, h2 => by
  simp only [shT, sbT]
  rw [sb_shL u hb k ts 0 c x d h h2]
  by_cases hk : k = 1 <;> simp only [hk, true_and, false_and, if_false]
  by_cases hn : c ≤ n
  ·rw [if_pos hn, if_neg (by omega), if_pos (by omega), if_pos hn]; congr 1; omega
  ·rw [if_neg hn, if_neg (by omega), if_neg (by omega), if_neg hn]
theorem sb_shL (u : T) {b : Int} (hb : 0 ≤ b) (k : Int) : ∀ (ts : List T) (i : Nat) (c x d : Int), c ≤ x → x ≤ c + b → sbL u k i (shL (b + 1) k i ts c) x d = shL b k i ts c
 | [], i, c, x, d, h, h2 => rfl
 | t :: ts, i, c, x, d, h, h2 => by
  simp only [shL, sbL]
  rw [sb_sh u hb t (c + under k i) (x + under k i) (d + under k i) (by omega) (by omega), sb_shL u hb k ts (i + 1) c x d h h2]
end
mutual
theorem sh_sb (u : T) {a : Int} (ha : 0 ≤ a) : ∀ (t : T) (c x d : Int), 0 ≤ d → d ≤ x → x ≤ c → shT a (sbT u t x d) c = sbT (shT a u (c - d)) (shT a t (c + 1)) x d
 | .mk k n ts, c, x, d, h0, h1, h2 => by
  simp only [shT, sbT]
  by_cases hk : k = 1
  ·subst hk
   simp only [true_and]
   by_cases hn : n = x
   ·subst hn
    rw [if_pos rfl, if_neg (show ¬ c + 1 ≤ n by omega), if_pos rfl]
    have := sh_comm ha h0 u 0 (c - d) (by omega)
    rw [show c - d + d = c by omega] at this
    exact this
   ·rw [if_neg hn, shT]
    by_cases hn2 : x < n
    ·by_cases hn3 : c + 1 ≤ n
     ·rw [if_pos hn3, if_neg (show ¬ n + a = x by omega), if_pos hn2, if_pos (show x < n + a by omega)]
      simp only [true_and, if_pos (show c ≤ n - 1 by omega), sh_sbL u ha 1 ts 0 c x d h0 h1 h2]
      congr 1; omega
     ·rw [if_neg hn3, if_neg hn, if_pos hn2]
      simp only [true_and, if_neg (show ¬ c ≤ n - 1 by omega), sh_sbL u ha 1 ts 0 c x d h0 h1 h2]
    ·rw [if_neg hn2, if_neg (show ¬ c + 1 ≤ n by omega), if_neg hn, if_neg hn2]
     simp only [true_and, if_neg (show ¬ c ≤ n by omega), sh_sbL u ha 1 ts 0 c x d h0 h1 h2]
  ·simp only [hk, false_and, if_false, shT]
   rw [sh_sbL u ha k ts 0 c x d h0 h1 h2]
theorem sh_sbL (u : T) {a : Int} (ha : 0 ≤ a) (k : Int) : ∀ (ts : List T) (i : Nat) (c x d : Int), 0 ≤ d → d ≤ x → x ≤ c → shL a k i (sbL u k i ts x d) c = sbL (shT a u (c - d)) k i (shL a k i ts (c + 1)) x d
 | [], i, c, x, d, h0, h1, h2 => rfl
 | t :: ts, i, c, x, d, h0, h1, h2 => by
  have hu := under_bd k i
  simp only [shL, sbL]
  rw [sh_sb u ha t (c + under k i) (x + under k i) (d + under k i) (by omega) (by omega) (by omega), sh_sbL u ha k ts (i + 1) c x d h0 h1 h2,
   show c + under k i - (d + under k i) = c - d by omega, show c + 1 + under k i = c + under k i + 1 by omega]
end
mutual
theorem sb_shift (u : T) {a : Int} (ha : 0 ≤ a) : ∀ (t : T) (c x d : Int), 0 ≤ c → c ≤ d → d ≤ x → shT a (sbT u t x d) c = sbT u (shT a t c) (x + a) (d + a)
 | .mk k n ts, c, x, d, h0, h1, h2 => by
  simp only [shT, sbT]
  by_cases hk : k = 1
  ·subst hk
   simp only [true_and]
   by_cases hn : n = x
   ·subst hn
    rw [if_pos rfl, if_pos (show c ≤ n by omega), if_pos rfl]
    rw [sh_add ha (by omega) u 0 c h0 (by omega), Int.add_comm]
   ·rw [if_neg hn, shT]
    by_cases hn2 : c ≤ n
    ·rw [if_pos hn2, if_neg (show ¬ n + a = x + a by omega)]
     by_cases hn3 : x < n
     ·rw [if_pos hn3, if_pos (show x + a < n + a by omega)]
      simp only [true_and, if_pos (show c ≤ n - 1 by omega), sb_shiftL u ha 1 ts 0 c x d h0 h1 h2]
      congr 1; omega
     ·rw [if_neg hn3, if_neg (show ¬ x + a < n + a by omega)]
      simp only [true_and, if_pos hn2, sb_shiftL u ha 1 ts 0 c x d h0 h1 h2]
    ·rw [if_neg (show ¬ x < n by omega), if_neg hn2, if_neg (show ¬ n = x + a by omega), if_neg (show ¬ x + a < n by omega)]
     simp only [true_and, if_neg hn2, sb_shiftL u ha 1 ts 0 c x d h0 h1 h2]
  ·simp only [hk, false_and, if_false, shT]
   rw [sb_shiftL u ha k ts 0 c x d h0 h1 h2]
theorem sb_shiftL (u : T) {a : Int} (ha : 0 ≤ a) (k : Int) : ∀ (ts : List T) (i : Nat) (c x d : Int), 0 ≤ c → c ≤ d → d ≤ x → shL a k i (sbL u k i ts x d) c = sbL u k i (shL a k i ts c) (x + a) (d + a)
 | [], i, c, x, d, h0, h1, h2 => rfl
 | t :: ts, i, c, x, d, h0, h1, h2 => by
  have hu := under_bd k i
  simp only [shL, sbL]
  rw [sb_shift u ha t (c + under k i) (x + under k i) (d + under k i) (by omega) (by omega) (by omega), sb_shiftL u ha k ts (i + 1) c x d h0 h1 h2,
   show x + under k i + a = x + a + under k i by omega, show d + under k i + a = d + a + under k i by omega]
end
mutual
theorem sb_sb (u v : T) : ∀ (t : T) (x d y e : Int), 0 ≤ d → d ≤ x → x ≤ e → e ≤ y → sbT v (sbT u t x d) y e = sbT (sbT v u (y - d) (e - d)) (sbT v t (y + 1) (e + 1)) x d
 | .mk k n ts, x, d, y, e, h0, h1, h2, h3 => by
  by_cases hk : k = 1
  ·subst hk
   by_cases hn : n = x
   ·subst hn
    rw [sbT, if_pos ⟨rfl, rfl⟩, sbT, if_neg (show ¬ ((1 : Int) = 1 ∧ n = y + 1) by omega), if_neg (show ¬ ((1 : Int) = 1 ∧ y + 1 < n) by omega), sbT, if_pos ⟨rfl, rfl⟩]
    have := sb_shift v h0 u 0 (y - d) (e - d) (by omega) (by omega) (by omega)
    rw [show y - d + d = y by omega, show e - d + d = e by omega] at this
    exact this.symm
   ·rw [sbT, if_neg (show ¬ ((1 : Int) = 1 ∧ n = x) by omega)]
    by_cases hn2 : n = y + 1
    ·subst hn2
     rw [if_pos (show (1 : Int) = 1 ∧ x < y + 1 by omega), sbT, if_pos (show (1 : Int) = 1 ∧ y + 1 - 1 = y by omega), sbT, if_pos ⟨rfl, rfl⟩]
     exact (sb_sh _ (by omega) v 0 x d (by omega) (by omega)).symm
    ·have e2 : sbT v (.mk 1 n ts) (y + 1) (e + 1) = .mk 1 (if (1 : Int) = 1 ∧ y + 1 < n then n - 1 else n) (sbL v 1 0 ts (y + 1) (e + 1)) := by
       rw [sbT, if_neg (show ¬ ((1 : Int) = 1 ∧ n = y + 1) by omega)]
     rw [e2]
     by_cases hn3 : x < n
     ·rw [if_pos (show (1 : Int) = 1 ∧ x < n by omega), sbT, if_neg (show ¬ ((1 : Int) = 1 ∧ n - 1 = y) by omega), sbT]
      by_cases hn4 : y + 1 < n
      ·rw [if_pos (show (1 : Int) = 1 ∧ y < n - 1 by omega), if_pos (show (1 : Int) = 1 ∧ y + 1 < n by omega), if_neg (show ¬ ((1 : Int) = 1 ∧ n - 1 = x) by omega), if_pos (show (1 : Int) = 1 ∧ x < n - 1 by omega), sb_sbL u v 1 ts 0 x d y e h0 h1 h2 h3]
      ·rw [if_neg (show ¬ ((1 : Int) = 1 ∧ y < n - 1) by omega), if_neg (show ¬ ((1 : Int) = 1 ∧ y + 1 < n) by omega), if_neg (show ¬ ((1 : Int) = 1 ∧ n = x) by omega), if_pos (show (1 : Int) = 1 ∧ x < n by omega), sb_sbL u v 1 ts 0 x d y e h0 h1 h2 h3]
     ·rw [if_neg (show ¬ ((1 : Int) = 1 ∧ x < n) by omega), sbT, if_neg (show ¬ ((1 : Int) = 1 ∧ n = y) by omega), if_neg (show ¬ ((1 : Int) = 1 ∧ y < n) by omega), if_neg (show ¬ ((1 : Int) = 1 ∧ y + 1 < n) by omega), sbT, if_neg (show ¬ ((1 : Int) = 1 ∧ n = x) by omega), if_neg (show ¬ ((1 : Int) = 1 ∧ x < n) by omega), sb_sbL u v 1 ts 0 x d y e h0 h1 h2 h3]
  ·simp only [sbT, hk, false_and, if_false]
   rw [sb_sbL u v k ts 0 x d y e h0 h1 h2 h3]
theorem sb_sbL (u v : T) (k : Int) : ∀ (ts : List T) (i : Nat) (x d y e : Int), 0 ≤ d → d ≤ x → x ≤ e → e ≤ y → sbL v k i (sbL u k i ts x d) y e = sbL (sbT v u (y - d) (e - d)) k i (sbL v k i ts (y + 1) (e + 1)) x d
 | [], i, x, d, y, e, h0, h1, h2, h3 => rfl
 | t :: ts, i, x, d, y, e, h0, h1, h2, h3 => by
  have hu := under_bd k i
  simp only [sbL]
  rw [sb_sb u v t (x + under k i) (d + under k i) (y + under k i) (e + under k i) (by omega) (by omega) (by omega) (by omega), sb_sbL u v k ts (i + 1) x d y e h0 h1 h2 h3,
   show y + under k i - (d + under k i) = y - d by omega, show e + under k i - (d + under k i) = e - d by omega, show y + 1 + under k i = y + under k i + 1 by omega, show e + 1 + under k i = e + under k i + 1 by omega]
end
def junk : T := .mk 0 0 []
def kd (t : T) (i : Nat) : T := t.kids.getD i junk
theorem sh_get (a k : Int) : ∀ (ts : List T) (i j : Nat) (c : Int), (shL a k i ts c).getD j junk = shT a (ts.getD j junk) (c + under k (i + j))
 | [], i, j, c => by simp [shL, junk, shT]
 | t :: ts, i, 0, c => by simp [shL]
 | t :: ts, i, j + 1, c => by
  simp only [shL, List.getD_cons_succ]
  rw [sh_get a k ts (i + 1) j c, show i + 1 + j = i + (j + 1) by omega]
theorem sb_get (u : T) (k : Int) : ∀ (ts : List T) (i j : Nat) (x d : Int), (sbL u k i ts x d).getD j junk = sbT u (ts.getD j junk) (x + under k (i + j)) (d + under k (i + j))
 | [], i, j, x, d => by simp [sbL, junk, sbT]
 | t :: ts, i, 0, x, d => by simp [sbL]
 | t :: ts, i, j + 1, x, d => by
  simp only [sbL, List.getD_cons_succ]
  rw [sb_get u k ts (i + 1) j x d, show i + 1 + j = i + (j + 1) by omega]
theorem sh_k (a : Int) (t : T) (c : Int) : (shT a t c).k = t.k := by cases t; rfl
theorem kd_sh (a : Int) (t : T) (c : Int) (j : Nat) : kd (shT a t c) j = shT a (kd t j) (c + under t.k j) := by
 cases t with | mk k n ts =>
 unfold kd
 rw [shT]
 show (shL a k 0 ts c).getD j junk = _
 rw [sh_get, Nat.zero_add]; rfl
theorem sb_k {u t : T} {x d : Int} (h : t.k ≠ 1) : (sbT u t x d).k = t.k := by
 cases t with | mk k n ts =>
 rw [sbT, if_neg (fun hh => h hh.1)]; rfl
theorem kd_sb {u t : T} {x d : Int} (h : t.k ≠ 1) (j : Nat) : kd (sbT u t x d) j = sbT u (kd t j) (x + under t.k j) (d + under t.k j) := by
 cases t with | mk k n ts =>
 have h' : k ≠ 1 := h
 unfold kd
 rw [sbT, if_neg (fun hh => h' hh.1)]
 show (sbL u k 0 ts x d).getD j junk = _
 rw [sb_get, Nat.zero_add]; rfl
def redexT (t : T) : Int :=
 if t.k = 5 then (if (kd t 0).k = 4 then 1 else 0)
 else if t.k = 9 then (if (kd t 3).k = 7 then 2 else if (kd t 3).k = 8 then 3 else 0)
 else if t.k = 12 then (if (kd t 1).k = 11 then 4 else 0)
 else if t.k = 15 then (if (kd t 0).k = 14 then 5 else 0)
 else if t.k = 16 then (if (kd t 0).k = 14 then 6 else 0) else 0
def contractT (t : T) : T :=
 if t.k = 5 then sbT (kd t 1) (kd (kd t 0) 1) 0 0
 else if t.k = 9 then (if (kd t 3).k = 7 then kd t 1 else .mk 5 0 [.mk 5 0 [kd t 2, kd (kd t 3) 0], .mk 9 0 [kd t 0, kd t 1, kd t 2, kd (kd t 3) 0]])
 else if t.k = 12 then kd t 2
 else if t.k = 15 then kd (kd t 0) 1
 else kd (kd t 0) 2
inductive Rx : T → Prop
 | app {t} (h : t.k = 5) (h' : (kd t 0).k = 4) : Rx t
 | zero {t} (h : t.k = 9) (h' : (kd t 3).k = 7) : Rx t
 | succ {t} (h : t.k = 9) (h' : (kd t 3).k = 8) : Rx t
 | move {t} (h : t.k = 12) (h' : (kd t 1).k = 11) : Rx t
 | fst {t} (h : t.k = 15) (h' : (kd t 0).k = 14) : Rx t
 | snd {t} (h : t.k = 16) (h' : (kd t 0).k = 14) : Rx t
theorem rx_iff (t : T) : redexT t ≠ 0 ↔ Rx t := by
 constructor
 ·intro h
  unfold redexT at h
  split at h
  ·split at h
   ·exact .app ‹_› ‹_›
   ·exact absurd rfl h
  ·split at h
   ·split at h
    ·exact .zero ‹_› ‹_›
    ·split at h
     ·exact .succ ‹_› ‹_›
     ·exact absurd rfl h
   ·split at h
    ·split at h
     ·exact .move ‹_› ‹_›
     ·exact absurd rfl h
    ·split at h
     ·split at h
      ·exact .fst ‹_› ‹_›
      ·exact absurd rfl h
     ·split at h
      ·split at h
       ·exact .snd ‹_› ‹_›
       ·exact absurd rfl h
      ·exact absurd rfl h
 ·intro h
  cases h with
  | app h h' => simp [redexT, h, h']
  | zero h h' => simp [redexT, h, h']
  | succ h h' => simp [redexT, h, h']
  | move h h' => simp [redexT, h, h']
  | fst h h' => simp [redexT, h, h']
  | snd h h' => simp [redexT, h, h']
theorem Rx.k {t : T} (h : Rx t) : t.k = 5 ∨ t.k = 9 ∨ t.k = 12 ∨ t.k = 15 ∨ t.k = 16 := by cases h <;> omega
theorem Rx.sh {t : T} (h : Rx t) (a c : Int) : Rx (shT a t c) := by
 cases h with
 | app h h' => exact .app (by rw [sh_k, h]) (by rw [kd_sh, sh_k, h'])
 | zero h h' => exact .zero (by rw [sh_k, h]) (by rw [kd_sh, sh_k, h'])
 | succ h h' => exact .succ (by rw [sh_k, h]) (by rw [kd_sh, sh_k, h'])
 | move h h' => exact .move (by rw [sh_k, h]) (by rw [kd_sh, sh_k, h'])
 | fst h h' => exact .fst (by rw [sh_k, h]) (by rw [kd_sh, sh_k, h'])
 | snd h h' => exact .snd (by rw [sh_k, h]) (by rw [kd_sh, sh_k, h'])
theorem Rx.sb {t : T} (h : Rx t) (u : T) (x d : Int) : Rx (sbT u t x d) := by
 cases h with
 | app h h' => exact .app (by rw [sb_k (by omega), h]) (by rw [kd_sb (by omega), sb_k (by omega), h'])
 | zero h h' => exact .zero (by rw [sb_k (by omega), h]) (by rw [kd_sb (by omega), sb_k (by omega), h'])
 | succ h h' => exact .succ (by rw [sb_k (by omega), h]) (by rw [kd_sb (by omega), sb_k (by omega), h'])
 | move h h' => exact .move (by rw [sb_k (by omega), h]) (by rw [kd_sb (by omega), sb_k (by omega), h'])
 | fst h h' => exact .fst (by rw [sb_k (by omega), h]) (by rw [kd_sb (by omega), sb_k (by omega), h'])
 | snd h h' => exact .snd (by rw [sb_k (by omega), h]) (by rw [kd_sb (by omega), sb_k (by omega), h'])
theorem con_app {t : T} (h : t.k = 5) : contractT t = sbT (kd t 1) (kd (kd t 0) 1) 0 0 := by simp [contractT, h]
theorem con_zero {t : T} (h : t.k = 9) (h' : (kd t 3).k = 7) : contractT t = kd t 1 := by simp [contractT, h, h']
theorem con_succ {t : T} (h : t.k = 9) (h' : (kd t 3).k = 8) : contractT t = .mk 5 0 [.mk 5 0 [kd t 2, kd (kd t 3) 0], .mk 9 0 [kd t 0, kd t 1, kd t 2, kd (kd t 3) 0]] := by simp [contractT, h, h']
theorem con_move {t : T} (h : t.k = 12) : contractT t = kd t 2 := by simp [contractT, h]
theorem con_fst {t : T} (h : t.k = 15) : contractT t = kd (kd t 0) 1 := by simp [contractT, h]
theorem con_snd {t : T} (h : t.k = 16) : contractT t = kd (kd t 0) 2 := by simp [contractT, h]
theorem und0 {k : Int} {i : Nat} (h : k ≠ 3 ∧ k ≠ 4 ∧ k ≠ 13) : under k i = 0 := by unfold under; rw [if_neg (by omega)]
theorem con_sh {t : T} (h : Rx t) {a : Int} (ha : 0 ≤ a) {c : Int} (hc : 0 ≤ c) : shT a (contractT t) c = contractT (shT a t c) := by
 cases h with
 | app h h' =>
  rw [con_app h, con_app (by rw [sh_k, h]), sh_sb _ ha _ c 0 0 (by omega) (by omega) hc]
  simp only [kd_sh, h, h', und0 (show (5 : Int) ≠ 3 ∧ (5 : Int) ≠ 4 ∧ (5 : Int) ≠ 13 by decide), show under 4 1 = 1 from rfl, Int.add_zero, Int.sub_zero]
 | zero h h' => rw [con_zero h h', con_zero (by rw [sh_k, h]) (by rw [kd_sh, sh_k, h']), kd_sh, und0 (by omega), Int.add_zero]
 | succ h h' =>
  rw [con_succ h h', con_succ (by rw [sh_k, h]) (by rw [kd_sh, sh_k, h'])]
  simp only [kd_sh, h, h', shT, shL, und0 (show (5 : Int) ≠ 3 ∧ (5 : Int) ≠ 4 ∧ (5 : Int) ≠ 13 by decide), und0 (show (9 : Int) ≠ 3 ∧ (9 : Int) ≠ 4 ∧ (9 : Int) ≠ 13 by decide), und0 (show (8 : Int) ≠ 3 ∧ (8 : Int) ≠ 4 ∧ (8 : Int) ≠ 13 by decide), Int.add_zero]
  simp
 | move h h' => rw [con_move h, con_move (by rw [sh_k, h]), kd_sh, und0 (by omega), Int.add_zero]
 | fst h h' => rw [con_fst h, con_fst (by rw [sh_k, h]), kd_sh, kd_sh, und0 (by omega), und0 (by omega), Int.add_zero, Int.add_zero]
 | snd h h' => rw [con_snd h, con_snd (by rw [sh_k, h]), kd_sh, kd_sh, und0 (by omega), und0 (by omega), Int.add_zero, Int.add_zero]
theorem con_sb {t : T} (h : Rx t) (u : T) {x d : Int} (h0 : 0 ≤ d) (h1 : d ≤ x) : sbT u (contractT t) x d = contractT (sbT u t x d) := by
 cases h with
 | app h h' =>
  rw [con_app h, con_app (by rw [sb_k (by omega), h]), sb_sb _ _ _ 0 0 x d (by omega) (by omega) h0 h1]
  simp only [kd_sb (show t.k ≠ 1 by omega), h, kd_sb (show (kd t 0).k ≠ 1 by omega), h', und0 (show (5 : Int) ≠ 3 ∧ (5 : Int) ≠ 4 ∧ (5 : Int) ≠ 13 by decide), show under 4 1 = 1 from rfl, Int.add_zero, Int.sub_zero]
 | zero h h' => rw [con_zero h h', con_zero (by rw [sb_k (by omega), h]) (by rw [kd_sb (by omega), sb_k (by omega), h']), kd_sb (by omega), und0 (by omega), Int.add_zero, Int.add_zero]
 | succ h h' =>
  rw [con_succ h h', con_succ (by rw [sb_k (by omega), h]) (by rw [kd_sb (by omega), sb_k (by omega), h'])]
  simp only [kd_sb (show t.k ≠ 1 by omega), kd_sb (show (kd t 3).k ≠ 1 by omega), h, h', sbT, sbL, und0 (show (5 : Int) ≠ 3 ∧ (5 : Int) ≠ 4 ∧ (5 : Int) ≠ 13 by decide), und0 (show (9 : Int) ≠ 3 ∧ (9 : Int) ≠ 4 ∧ (9 : Int) ≠ 13 by decide), und0 (show (8 : Int) ≠ 3 ∧ (8 : Int) ≠ 4 ∧ (8 : Int) ≠ 13 by decide), Int.add_zero]
  simp
 | move h h' => rw [con_move h, con_move (by rw [sb_k (by omega), h]), kd_sb (by omega), und0 (by omega), Int.add_zero, Int.add_zero]
 | fst h h' => rw [con_fst h, con_fst (by rw [sb_k (by omega), h]), kd_sb (by omega), kd_sb (by omega), und0 (by omega), und0 (by omega)]; simp only [Int.add_zero]
 | snd h h' => rw [con_snd h, con_snd (by rw [sb_k (by omega), h]), kd_sb (by omega), kd_sb (by omega), und0 (by omega), und0 (by omega)]; simp only [Int.add_zero]
mutual
inductive Par : T → T → Prop
 | node {k n ts us} (h : ParL ts us) : Par (.mk k n ts) (.mk k n us)
 | red {k n ts us} (h : ParL ts us) (hr : Rx (.mk k n ts)) : Par (.mk k n ts) (contractT (.mk k n us))
inductive ParL : List T → List T → Prop
 | nil : ParL [] []
 | cons {t u ts us} (h : Par t u) (hs : ParL ts us) : ParL (t :: ts) (u :: us)
end
mutual
theorem Par.refl : ∀ t : T, Par t t
 | .mk k n ts => .node (ParL.refl ts)
theorem ParL.refl : ∀ ts : List T, ParL ts ts
 | [] => .nil
 | t :: ts => .cons (Par.refl t) (ParL.refl ts)
end
theorem ParL.get : ∀ {ts us : List T}, ParL ts us → ∀ j, Par (ts.getD j junk) (us.getD j junk)
 | _, _, .nil, j => by simpa using Par.refl junk
 | _, _, .cons h hs, 0 => by simpa using h
 | _, _, .cons h hs, j + 1 => by simpa using hs.get j
theorem ParL.len : ∀ {ts us : List T}, ParL ts us → ts.length = us.length
 | _, _, .nil => rfl
 | _, _, .cons h hs => by simp [hs.len]
theorem ParL.kd {k n : Int} {ts us : List T} (h : ParL ts us) (j : Nat) : Par (kd (.mk k n ts) j) (kd (.mk k n us) j) := h.get j
theorem Par.head {t u : T} (h : Par t u) (hk : t.k ≠ 5 ∧ t.k ≠ 9 ∧ t.k ≠ 12 ∧ t.k ≠ 15 ∧ t.k ≠ 16) : u.k = t.k ∧ ∀ j, Par (kd t j) (kd u j) := by
 cases h with
 | node h => exact ⟨rfl, h.kd⟩
 | red h hr => have := hr.k; simp only [T.k] at this hk; omega
theorem Rx.par {k n : Int} {ts us : List T} (hp : ParL ts us) (h : Rx (.mk k n ts)) : Rx (.mk k n us) := by
 cases h with
 | app h h' => exact .app h (by rw [((hp.kd (k := k) (n := n) 0).head (by omega)).1, h'])
 | zero h h' => exact .zero h (by rw [((hp.kd (k := k) (n := n) 3).head (by omega)).1, h'])
 | succ h h' => exact .succ h (by rw [((hp.kd (k := k) (n := n) 3).head (by omega)).1, h'])
 | move h h' => exact .move h (by rw [((hp.kd (k := k) (n := n) 1).head (by omega)).1, h'])
 | fst h h' => exact .fst h (by rw [((hp.kd (k := k) (n := n) 0).head (by omega)).1, h'])
 | snd h h' => exact .snd h (by rw [((hp.kd (k := k) (n := n) 0).head (by omega)).1, h'])
mutual
theorem Par.sh {a : Int} (ha : 0 ≤ a) : ∀ {t u : T}, Par t u → ∀ c : Int, 0 ≤ c → Par (shT a t c) (shT a u c)
 | _, _, .node h, c, hc => by
  simp only [shT]
  exact .node (ParL.sh ha h _ 0 c hc)
 | _, _, .red (k := k) (n := n) (us := us) h hr, c, hc => by
  rw [con_sh (Rx.par h hr) ha hc]
  simp only [shT]
  exact .red (ParL.sh ha h _ 0 c hc) (by have := hr.sh a c; rwa [shT] at this)
theorem ParL.sh {a : Int} (ha : 0 ≤ a) : ∀ {ts us : List T}, ParL ts us → ∀ (k : Int) (i : Nat) (c : Int), 0 ≤ c → ParL (shL a k i ts c) (shL a k i us c)
 | _, _, .nil, k, i, c, hc => .nil
 | _, _, .cons h hs, k, i, c, hc => by
  have := under_bd k i
  simp only [shL]
  exact .cons (Par.sh ha h _ (by omega)) (ParL.sh ha hs k (i + 1) c hc)
end
mutual
theorem Par.sb {v w : T} (hv : Par v w) : ∀ {t u : T}, Par t u → ∀ x d : Int, 0 ≤ d → d ≤ x → Par (sbT v t x d) (sbT w u x d)
 | _, _, .node (k := k) (n := n) h, x, d, h0, h1 => by
  simp only [sbT]
  split
  ·exact hv.sh h0 0 (by omega)
  ·exact .node (ParL.sb hv h _ 0 x d h0 h1)
 | _, _, .red (k := k) (n := n) (us := us) h hr, x, d, h0, h1 => by
  have hk : k ≠ 1 := by have := hr.k; simp only [T.k] at this; omega
  rw [con_sb (Rx.par h hr) w h0 h1]
  simp only [sbT, hk, false_and, if_false]
  exact .red (ParL.sb hv h _ 0 x d h0 h1) (by have := hr.sb v x d; rwa [sbT, if_neg (fun hh => hk hh.1), if_neg (fun hh => hk hh.1)] at this)
theorem ParL.sb {v w : T} (hv : Par v w) : ∀ {ts us : List T}, ParL ts us → ∀ (k : Int) (i : Nat) (x d : Int), 0 ≤ d → d ≤ x → ParL (sbL v k i ts x d) (sbL w k i us x d)
 | _, _, .nil, k, i, x, d, h0, h1 => .nil
 | _, _, .cons h hs, k, i, x, d, h0, h1 => by
  have := under_bd k i
  simp only [sbL]
  exact .cons (Par.sb hv h _ _ (by omega) (by omega)) (ParL.sb hv hs k (i + 1) x d h0 h1)
end
instance (t : T) : Decidable (Rx t) := decidable_of_iff _ (rx_iff t)
inductive Red : T → T → Prop
 | refl {t} : Red t t
 | step {t u v} (h : Par t u) (hs : Red u v) : Red t v
theorem Red.one {t u : T} (h : Par t u) : Red t u := .step h .refl
theorem Red.trans {t u v : T} (h : Red t u) (h' : Red u v) : Red t v := by
 induction h with
 | refl => exact h'
 | step h _ ih => exact .step h (ih h')
theorem size_pos (t : T) : 1 ≤ t.size := by have := T.size_eq t; omega
def atT : T → List Nat → T
 | t, [] => t
 | t, i :: w => atT (kd t i) w
def puT : T → List Nat → T → T
 | _, [], u => u
 | t, i :: w, u => .mk t.k t.n (t.kids.set i (puT (kd t i) w u))
def wyOk : T → List Nat → Prop
 | _, [] => True
 | t, i :: w => i < t.kids.length ∧ wyOk (kd t i) w
theorem kd_mem {t : T} {i : Nat} (h : i < t.kids.length) : kd t i ∈ t.kids := by
 rw [show kd t i = t.kids[i] by unfold kd; simp [List.getD, h]]
 exact List.getElem_mem h
theorem put_size : ∀ {w : List Nat} {t u : T}, wyOk t w → (puT t w u).size ≤ t.size + u.size
 | [], t, u, _ => by simp [puT]
 | i :: w, t, u, hw => by
  rw [puT, T.size, T.size_eq t]
  have h1 := put_size (u := u) hw.2
  have h2 : ∀ (ts : List T) (i : Nat) (v : T) (s : Nat), i < ts.length → v.size ≤ (ts.getD i junk).size + s → T.sizeL (ts.set i v) ≤ T.sizeL ts + s := by
   intro ts
   induction ts with
   | nil => intro i v s h; simp at h
   | cons t ts ih =>
    intro i v s hi hv
    cases i with
    | zero => simp only [List.set_cons_zero, T.sizeL, List.getD_cons_zero] at hv ⊢; omega
    | succ i =>
     simp only [List.set_cons_succ, T.sizeL, List.getD_cons_succ] at hv ⊢
     have := ih i v s (by simpa using hi) hv
     omega
  have := h2 t.kids i _ u.size hw.1 h1
  omega
end Go.Proofs.Ytgchmppmecnniaa
end
section
namespace Go.Proofs.Ytgchmppmecnniaa
open Go
open Go.Dk (T)
def saT : Nat → T → List T → T × List T
 | 0, t, acc => (t, acc)
 | g + 1, t, acc => if t.k = 5 then saT g (kd t 0) (kd t 1 :: acc) else (t, acc)
def saR (t : T) : (T × List T) × Bool := if validB t = true then (saT 400 t [], true) else ((.mk 0 0 [], []), false)
theorem app_kids {t : T} (h : validB t = true) (hk : t.k = 5) : t.kids = [kd t 0, kd t 1] ∧ validB (kd t 0) = true ∧ validB (kd t 1) = true ∧ (kd t 0).size + (kd t 1).size < t.size := by
 have h1 := (validB_ops h).1
 rw [hk, show opsOf 5 = 2 from by decide] at h1
 obtain ⟨a, b, hab⟩ : ∃ a b, t.kids = [a, b] := by
  match hh : t.kids, h1 with
  | [a, b], _ => exact ⟨a, b, rfl⟩
 have e0 : kd t 0 = a := by unfold kd; rw [hab]; rfl
 have e1 : kd t 1 = b := by unfold kd; rw [hab]; rfl
 rw [e0, e1]
 refine ⟨hab, validB_kid h (by rw [hab]; simp), validB_kid h (by rw [hab]; simp), ?_⟩
 rw [Go.Dk.T.size_eq t, hab]; simp only [Go.Dk.T.sizeL]; omega
theorem sa_valid : ∀ (g : Nat) (t : T) (acc : List T), validB t = true → (∀ u ∈ acc, validB u = true) → validB (saT g t acc).1 = true ∧ (∀ u ∈ (saT g t acc).2, validB u = true) ∧ Go.Dk.T.sizeL (saT g t acc).2 ≤ t.size + Go.Dk.T.sizeL acc ∧ (saT g t acc).2.length ≤ g + acc.length
 | 0, t, acc, h, ha => ⟨h, ha, by show Go.Dk.T.sizeL acc ≤ _; omega, by show acc.length ≤ _; omega⟩
 | g + 1, t, acc, h, ha => by
  rw [saT]
  by_cases hk : t.k = 5
  ·obtain ⟨h1, h2, h3, h4⟩ := app_kids h hk
   rw [if_pos hk]
   obtain ⟨i1, i2, i3, i4⟩ := sa_valid g (kd t 0) (kd t 1 :: acc) h2 (by intro u hu; rcases List.mem_cons.1 hu with rfl | hu; exact h3; exact ha u hu)
   simp only [Go.Dk.T.sizeL, List.length_cons] at i3 i4
   exact ⟨i1, i2, by omega, by omega⟩
  ·rw [if_neg hk]; exact ⟨h, ha, by show Go.Dk.T.sizeL acc ≤ _; omega, by show acc.length ≤ _; omega⟩
end Go.Proofs.Ytgchmppmecnniaa
end
section
namespace Go.Proofs.Ytgchmppmecnniaa
open Go Go.Ab Go.Dk
def live : FuncId → Nat → Option (List Nat)
 | 26, 0 => some [0, 3, 4]
 | 29, 0 => some [0, 1, 5]
 | 58, 0 => some [0, 1, 5]
 | 61, 0 => some [0, 3, 4]
 | 62, 0 => some [2, 4, 7, 10, 11, 12]
 | 64, 0 => some [0, 1, 5]
 | 99, 0 => some [2, 4, 7, 8, 9]
 | 8, 0 => some [2, 4, 5, 6, 7]
 | 9, 0 => some [4, 6, 19, 20, 21]
 | 10, 0 => some [1, 4, 6, 7]
 | 12, 0 => some [1, 2, 5]
 | 13, 0 => some [0, 1, 5]
 | 15, 0 => some [1, 2, 5]
 | 42, 0 => some [2, 3, 12, 13, 14]
 | 88, 0 => some [1, 2, 4, 6]
 | 45, 0 => some [1, 2, 3, 4]
 | 89, 0 => some [1, 3, 5, 6, 7, 8]
 | 37, 0 => some [0, 1, 4, 5, 6, 7]
 | 44, 0 => some [0, 3]
 | 48, 0 => some [1, 2, 15, 16, 17]
 | 49, 0 => some [0, 2, 3]
 | 51, 0 => some [1, 2, 4, 15, 16, 17]
 | 52, 0 => some [1, 2, 4, 5, 6]
 | 53, 0 => some [1, 2, 3, 6, 9]
 | 54, 0 => some [12, 13, 14]
 | 78, 0 => some [1, 2, 5]
 | 79, 0 => some [1, 2, 5, 6]
 | 75, 0 => some [1, 2, 41, 42, 43]
 | 86, 0 => some [1, 2, 3, 24, 25, 26]
 | 57, 0 => some [1, 9, 10, 11]
 | 96, 0 => some [0, 1, 7, 8]
 | 101, 0 => some [0, 1, 2, 8]
 | 106, 0 => some [1, 2, 3, 6, 7, 24, 25, 26]
 | 110, 0 => some [1, 3, 4, 6, 8, 9, 10]
 | 111, 0 => some [0, 4, 5, 6]
 | 112, 0 => some [0, 1, 2, 3, 4, 12, 13]
 | 113, 0 => some [0, 3]
 | 114, 0 => some [0, 3, 4]
 | 116, 0 => some [1, 2, 3, 6, 7, 8]
 | 52, 1000012 => some []
 | _, _ => none
def ownF (f : FuncId) : Bool := hasN f [45, 91]
def ibF (f : FuncId) : Bool := false
def saP (args : List V1) : OR := match args with
 | [.agg [.int .i64 k, .int .i64 n, .fr (.ts ks)]] => if T.sizeL ks ≤ 1048576 then some ([.agg [.int .i64 (saR (.mk k n ks)).1.1.k, .int .i64 (saR (.mk k n ks)).1.1.n, .fr (.ts (saR (.mk k n ks)).1.1.kids)], .one (.fr (.ts (saR (.mk k n ks)).1.2)), .one (.bool (saR (.mk k n ks)).2)], []) else none
 | _ => none
def primF (f : FuncId) : Option (List V1 → OR) := cond (Nat.beq f 12) (some saP) none
noncomputable def SS : Say := ⟨⟨ownF, ibF⟩, live, primF⟩
noncomputable def FF := evF Try.prog SS
end Go.Proofs.Ytgchmppmecnniaa
end
section
namespace Go.Proofs.Ytgchmppmecnniaa
open Go Go.Ab Go.Dk
theorem E_spec_PutAt (n : Nat) (v0 v1 : Int) (v2 : List T) (v3 : List Int) (v4 v5 : Int) (v6 : List T) : FF (n + 1) 24 [.agg [.int .i64 v0, .int .i64 v1, .fr (.ts v2)], .one (.fr (.is v3)), .agg [.int .i64 v4, .int .i64 v5, .fr (.ts v6)]] [] =
 ((FF n 59 [.agg [.int .i64 v0, .int .i64 v1, .fr (.ts v2)], .one (.fr (.is v3))] []).bind fun x0 =>
 (rTerm x0.1 fun x1 x2 =>
 (rBool x2 fun x3 x4 =>
 (nilV x4 (nilO x0.2
 (cond (!x3)
 (some ([.agg [.int .i64 0, .int .i64 0, .fr (.ts [])], .one (.bool false)], []))
 ((FF n 43 [.agg [.int .i64 v4, .int .i64 v5, .fr (.ts v6)]] []).bind fun x5 =>
 (rBool x5.1 fun x6 x7 =>
 (nilV x7 (nilO x5.2
 (cond (!x6)
 (some ([.agg [.int .i64 0, .int .i64 0, .fr (.ts [])], .one (.bool false)], []))
 ((FF n 60 [.agg [.int .i64 v0, .int .i64 v1, .fr (.ts v2)], .one (.fr (.is v3)), .agg [.int .i64 v4, .int .i64 v5, .fr (.ts v6)]] []).bind fun x8 =>
 (rTerm x8.1 fun x9 x10 =>
 (nilV x10 (nilO x8.2
 ((FF n 47 [.agg [.int .i64 x9.k, .int .i64 x9.n, .fr (.ts x9.kids)]] []).bind fun x11 =>
 (rTerm x11.1 fun x12 x13 =>
 (rBool x13 fun x14 x15 =>
 (nilV x15 (nilO x11.2
 (some ([.agg [.int .i64 x12.k, .int .i64 x12.n, .fr (.ts x12.kids)], .one (.bool x14)], [])))))))))))))))))))))) := by kernel_rfl
theorem E_spec_TermAt (n : Nat) (v0 v1 : Int) (v2 : List T) (v3 : List Int) : FF (n + 1) 59 [.agg [.int .i64 v0, .int .i64 v1, .fr (.ts v2)], .one (.fr (.is v3))] [] =
 ((FF n 43 [.agg [.int .i64 v0, .int .i64 v1, .fr (.ts v2)]] []).bind fun x0 =>
 (rBool x0.1 fun x1 x2 =>
 (nilV x2 (nilO x0.2
 (cond (!x1)
 (some ([.agg [.int .i64 0, .int .i64 0, .fr (.ts [])], .one (.bool false)], []))
 ((FF n 88 [.agg [.int .i64 v0, .int .i64 v1, .fr (.ts v2)], .one (.fr (.is v3))] []).bind fun x3 =>
 (rTerm x3.1 fun x4 x5 =>
 (rBool x5 fun x6 x7 =>
 (nilV x7 (nilO x3.2
 (cond (!x6)
 (some ([.agg [.int .i64 0, .int .i64 0, .fr (.ts [])], .one (.bool false)], []))
 ((FF n 45 [.agg [.int .i64 x4.k, .int .i64 x4.n, .fr (.ts x4.kids)]] []).bind fun x8 =>
 (rOwnT 0 x8.1 fun x9 x10 x11 =>
 (arrTsC 25 x8.2 fun x12 x13 =>
 (nilV x11 (nilO x13
 (some ([.agg [.int .i64 x9, .int .i64 x10, .fr (.ts x12)], .one (.bool true)], [])))))))))))))))))) := by kernel_rfl
theorem E_spec_l8Put (n : Nat) (v0 v1 : Int) (v2 : List T) (v3 : List Int) (v4 v5 : Int) (v6 : List T) : FF (n + 1) 60 [.agg [.int .i64 v0, .int .i64 v1, .fr (.ts v2)], .one (.fr (.is v3)), .agg [.int .i64 v4, .int .i64 v5, .fr (.ts v6)]] [] =
 (cond (decide ((v3.length : Int) = 0))
 ((FF n 45 [.agg [.int .i64 v4, .int .i64 v5, .fr (.ts v6)]] []).bind fun x0 =>
 (rOwnT 0 x0.1 fun x1 x2 x3 =>
 (arrTsC 25 x0.2 fun x4 x5 =>
 (nilV x3 (nilO x5
 (some ([.agg [.int .i64 x1, .int .i64 x2, .fr (.ts x4)]], [])))))))
 (v3[(0 : Int).toNat]?.bind fun x0 =>
 (v3[(0 : Int).toNat]?.bind fun x1 =>
 (cond (decide (0 ≤ x1))
 (v2[(x1 : Int).toNat]?.bind fun x2 =>
 (cond (Go.Ab.inB 1 v3.length v3.length)
 ((FF n 60 [.agg [.int .i64 x2.k, .int .i64 x2.n, .fr (.ts x2.kids)], .one (.fr (.is ((v3.take (v3.length : Int).toNat).drop (1 : Int).toNat))), .agg [.int .i64 v4, .int .i64 v5, .fr (.ts v6)]] []).bind fun x3 =>
 (rTerm x3.1 fun x4 x5 =>
 (nilV x5 (nilO x3.2
 ((FF n 89 [.agg [.int .i64 v0, .int .i64 v1, .fr (.ts v2)], .one (.int .i64 x0), .agg [.int .i64 x4.k, .int .i64 x4.n, .fr (.ts x4.kids)]] []).bind fun x6 =>
 (rTerm x6.1 fun x7 x8 =>
 (nilV x8 (nilO x6.2
 (some ([.agg [.int .i64 x7.k, .int .i64 x7.n, .fr (.ts x7.kids)]], []))))))))))
 none))
 none)))) := by kernel_rfl
noncomputable def L_impl_walked_0_fo (n c : Nat) (v0 : List Int) (v1 v2 v3 v4 : Int) (v5 : List T) (v6 v7 : Int) (v8 v9 : List T) : OR := runLoop Try.prog SS n 62 0 [1, 1, 0, 1, 0] [] c ⟨[anyV, anyV, .v (.one (.ptr 0 0)), anyV, .v (.one (.ptr 1 0)), anyV, anyV, .v (.one (.own 3 0)), anyV, anyV, .v (.one (.fr (.is v0))), .v (.one (.int .i64 v1)), .v (.one (.int .i64 v2)), anyV, anyV, anyV, anyV, anyV, anyV, anyV, anyV, anyV, anyV, anyV, anyV, anyV, anyV, anyV, anyV, anyV, anyV, anyV, anyV, anyV, anyV, anyV, anyV, anyV, anyV, anyV, anyV, anyV, anyV, anyV],
 [.cells [.int .i64 v3, .int .i64 v4, .fr (.ts v5)], .cells [.int .i64 v6, .int .i64 v7, .own 2 0], .arr 25 (.ts v8) 0 false, .arr 25 (.ts v9) 0 false]⟩
theorem L_impl_walked_0_fo_eq (n c : Nat) (v0 : List Int) (v1 v2 v3 v4 : Int) (v5 : List T) (v6 v7 : Int) (v8 v9 : List T) : L_impl_walked_0_fo n (c + 1) v0 v1 v2 v3 v4 v5 v6 v7 v8 v9 =
 (cond (decide (v2 < v1))
 (cond (decide (0 ≤ v2))
 (v0[(v2 : Int).toNat]?.bind fun x0 =>
 ((FF n 84 [.one (.int .i64 x0), .one (.int .i64 0), .one (.int .i64 (IntKind.i64.wrap ((v5.length : Int) - 1)))] []).bind fun x1 =>
 (rBool x1.1 fun x2 x3 =>
 (nilV x3 (nilO x1.2
 (cond (!x2)
 (some ([.agg [.int .i64 0, .int .i64 0, .fr (.ts [])], .one (.fr (.ts [])), .one (.bool false)], []))
 ((FF n 90 [.one (.int .i64 v3), .one (.int .i64 x0)] []).bind fun x4 =>
 (rInt .i64 x4.1 fun x5 x6 =>
 (nilV x6 (nilO x4.2
 (cond (decide (0 < x5))
 (v5[(0 : Int).toNat]?.bind fun x7 =>
 (cond (roomB (v9 ++ [(T.mk x7.k x7.n x7.kids)]).length)
 (cond (decide (0 ≤ x0))
 (v5[(x0 : Int).toNat]?.bind fun x8 =>
 L_impl_walked_0_fo n c v0 v1 (IntKind.i64.wrap (v2 + 1)) (x8.k) (x8.n) (x8.kids) v6 v7 v8 (v9 ++ [(T.mk x7.k x7.n x7.kids)]))
 none)
 none))
 (cond (decide (0 ≤ x0))
 (v5[(x0 : Int).toNat]?.bind fun x7 =>
 L_impl_walked_0_fo n c v0 v1 (IntKind.i64.wrap (v2 + 1)) (x7.k) (x7.n) (x7.kids) v6 v7 v8 v9)
 none))))))))))))
 none)
 (some ([.agg [.int .i64 v3, .int .i64 v4, .fr (.ts v5)], .one (.fr (.ts v9)), .one (.bool true)], []))) := by kernel_rfl
theorem E_impl_walked (n : Nat) (v0 v1 : Int) (v2 : List T) (v3 : List Int) : FF (n + 1) 62 [.agg [.int .i64 v0, .int .i64 v1, .fr (.ts v2)], .one (.fr (.is v3))] [] =
 L_impl_walked_0_fo n n v3 ((v3.length : Int) : Int) 0 v0 v1 v2 0 0 ([]) ([]) := by kernel_rfl
theorem E_impl_put (n : Nat) (v0 v1 : Int) (v2 : List T) (v3 : List Int) (v4 v5 : Int) (v6 : List T) : FF (n + 1) 63 [.agg [.int .i64 v0, .int .i64 v1, .fr (.ts v2)], .one (.fr (.is v3)), .agg [.int .i64 v4, .int .i64 v5, .fr (.ts v6)]] [] =
 (cond (decide ((v3.length : Int) = 0))
 (some ([.agg [.int .i64 v4, .int .i64 v5, .fr (.ts v6)]], []))
 ((FF n 91 [.one (.fr (.ts v2))] []).bind fun x0 =>
 (rOwn 0 x0.1 fun x1 =>
 (arrTsC 25 x0.2 fun x2 x3 =>
 (nilV x1 (nilO x3
 (v3[(0 : Int).toNat]?.bind fun x4 =>
 (v3[(0 : Int).toNat]?.bind fun x5 =>
 (cond (decide (0 ≤ x5))
 (v2[(x5 : Int).toNat]?.bind fun x6 =>
 (cond (Go.Ab.inB 1 v3.length v3.length)
 ((FF n 63 [.agg [.int .i64 x6.k, .int .i64 x6.n, .fr (.ts x6.kids)], .one (.fr (.is ((v3.take (v3.length : Int).toNat).drop (1 : Int).toNat))), .agg [.int .i64 v4, .int .i64 v5, .fr (.ts v6)]] []).bind fun x7 =>
 (rTerm x7.1 fun x8 x9 =>
 (nilV x9 (nilO x7.2
 (cond (decide (0 ≤ x4))
 (cond (decide (x4 < (x2.length : Int)))
 (some ([.agg [.int .i64 v0, .int .i64 v1, .fr (.ts (x2.set (x4 : Int).toNat (T.mk x8.k x8.n x8.kids)))]], []))
 none)
 none)))))
 none))
 none))))))))) := by kernel_rfl
theorem E_spec_TermValid (n : Nat) (v0 v1 : Int) (v2 : List T) : FF (n + 1) 43 [.agg [.int .i64 v0, .int .i64 v1, .fr (.ts v2)]] [] =
 ((FF n 78 [.agg [.int .i64 v0, .int .i64 v1, .fr (.ts v2)], .one (.int .i64 30)] []).bind fun x0 =>
 (rBool x0.1 fun x1 x2 =>
 (nilV x2 (nilO x0.2
 (cond x1
 ((FF n 79 [.agg [.int .i64 v0, .int .i64 v1, .fr (.ts v2)], .one (.int .i64 400)] []).bind fun x3 =>
 (rInt .i64 x3.1 fun x4 x5 =>
 (nilV x5 (nilO x3.2
 (some ([.one (.bool (decide (x4 ≤ 400)))], []))))))
 (some ([.one (.bool false)], []))))))) := by kernel_rfl
theorem E_spec_l7Made (n : Nat) (v0 v1 : Int) (v2 : List T) : FF (n + 1) 47 [.agg [.int .i64 v0, .int .i64 v1, .fr (.ts v2)]] [] =
 ((FF n 43 [.agg [.int .i64 v0, .int .i64 v1, .fr (.ts v2)]] []).bind fun x0 =>
 (rBool x0.1 fun x1 x2 =>
 (nilV x2 (nilO x0.2
 (cond (!x1)
 (some ([.agg [.int .i64 0, .int .i64 0, .fr (.ts [])], .one (.bool false)], []))
 (some ([.agg [.int .i64 v0, .int .i64 v1, .fr (.ts v2)], .one (.bool true)], []))))))) := by kernel_rfl
theorem E_impl_TermValid (n : Nat) (v0 v1 : Int) (v2 : List T) : FF (n + 1) 38 [.agg [.int .i64 v0, .int .i64 v1, .fr (.ts v2)]] [] =
 ((FF n 75 [.agg [.int .i64 v0, .int .i64 v1, .fr (.ts v2)], .one (.int .i64 1), .one (.ptr 0 0)] [.cells [.int .i64 0]]).bind fun x0 =>
 (objC x0.2 fun x1 x2 =>
 (intC .i64 x1 fun x3 x4 =>
 (nilC x4
 (rBool x0.1 fun x5 x6 =>
 (nilV x6 (nilO x2
 (some ([.one (.bool x5)], []))))))))) := by kernel_rfl
noncomputable def L_spec_l8At_0_fo (n c : Nat) (v0 : List Int) (v1 v2 v3 : Int) (v4 : List T) (v5 v6 : Int) (v7 : List T) : OR := runLoop Try.prog SS n 88 0 [1, 0, 1, 0] [] c ⟨[anyV, .v (.one (.fr (.is v0))), .v (.one (.ptr 0 0)), anyV, .v (.one (.ptr 1 0)), anyV, .v (.one (.int .i64 v1)), anyV, anyV, anyV, anyV, anyV, anyV, anyV, anyV, anyV, anyV, anyV, anyV, anyV, anyV, anyV, anyV, anyV, anyV, anyV, anyV, anyV, anyV, anyV, anyV, anyV, anyV, anyV, anyV, anyV, anyV, anyV],
 [.cells [.int .i64 v2, .int .i64 v3, .fr (.ts v4)], .cells [.int .i64 v5, .int .i64 v6, .own 2 0], .arr 25 (.ts v7) 0 false]⟩
theorem L_spec_l8At_0_fo_eq (n c : Nat) (v0 : List Int) (v1 v2 v3 : Int) (v4 : List T) (v5 v6 : Int) (v7 : List T) : L_spec_l8At_0_fo n (c + 1) v0 v1 v2 v3 v4 v5 v6 v7 =
 (cond (decide (v1 < (v0.length : Int)))
 (cond (decide (0 ≤ v1))
 (v0[(v1 : Int).toNat]?.bind fun x0 =>
 (cond (decide (x0 < 0))
 (some ([.agg [.int .i64 0, .int .i64 0, .fr (.ts [])], .one (.bool false)], []))
 (cond (decide (0 ≤ v1))
 (v0[(v1 : Int).toNat]?.bind fun x1 =>
 (cond (decide ((v4.length : Int) ≤ x1))
 (some ([.agg [.int .i64 0, .int .i64 0, .fr (.ts [])], .one (.bool false)], []))
 (cond (decide (0 ≤ v1))
 (v0[(v1 : Int).toNat]?.bind fun x2 =>
 (cond (decide (0 ≤ x2))
 (v4[(x2 : Int).toNat]?.bind fun x3 =>
 L_spec_l8At_0_fo n c v0 (IntKind.i64.wrap (v1 + 1)) (x3.k) (x3.n) (x3.kids) v5 v6 v7)
 none))
 none)))
 none)))
 none)
 (some ([.agg [.int .i64 v2, .int .i64 v3, .fr (.ts v4)], .one (.bool true)], []))) := by kernel_rfl
theorem E_spec_l8At (n : Nat) (v0 v1 : Int) (v2 : List T) (v3 : List Int) : FF (n + 1) 88 [.agg [.int .i64 v0, .int .i64 v1, .fr (.ts v2)], .one (.fr (.is v3))] [] =
 L_spec_l8At_0_fo n n v3 0 v0 v1 v2 0 0 ([]) := by kernel_rfl
noncomputable def L_spec_l1Copy_0_foo (n c : Nat) (v0 v1 v2 : Int) (v3 : List T) (v4 v5 : Int) (v6 : List T) (v7 v8 : Int) (v9 : List T) : OR := runLoop Try.prog SS n 45 0 [1, 1, 0, 1, 0] [] c ⟨[anyV, .v (.one (.ptr 0 0)), .v (.one (.ptr 1 0)), .v (.one (.ptr 3 0)), .v (.one (.int .i64 v0)), anyV, anyV, anyV, anyV, anyV, anyV, anyV, anyV, anyV, anyV, anyV, anyV, anyV, anyV, anyV, anyV, anyV, anyV, anyV, anyV, anyV, anyV, anyV, anyV],
 [.cells [.int .i64 v1, .int .i64 v2, .fr (.ts v3)], .cells [.int .i64 v4, .int .i64 v5, .own 2 0], .arr 25 (.ts v6) 0 false, .cells [.int .i64 v7, .int .i64 v8, .own 4 0], .arr 25 (.ts v9) 0 false]⟩
theorem L_spec_l1Copy_0_foo_eq (n c : Nat) (v0 v1 v2 : Int) (v3 : List T) (v4 v5 : Int) (v6 : List T) (v7 v8 : Int) (v9 : List T) : L_spec_l1Copy_0_foo n (c + 1) v0 v1 v2 v3 v4 v5 v6 v7 v8 v9 =
 (cond (decide (v0 < (v3.length : Int)))
 (cond (decide (0 ≤ v0))
 (v3[(v0 : Int).toNat]?.bind fun x0 =>
 ((FF n 45 [.agg [.int .i64 x0.k, .int .i64 x0.n, .fr (.ts x0.kids)]] []).bind fun x1 =>
 (rOwnT 0 x1.1 fun x2 x3 x4 =>
 (arrTsC 25 x1.2 fun x5 x6 =>
 (nilV x4 (nilO x6
 (cond (roomB (v9 ++ [(T.mk x2 x3 x5)]).length)
 (L_spec_l1Copy_0_foo n c (IntKind.i64.wrap (v0 + 1)) v1 v2 v3 v4 v5 v6 v7 v8 (v9 ++ [(T.mk x2 x3 x5)]))
 none)))))))
 none)
 (some ([.agg [.int .i64 v7, .int .i64 v8, .own 0 0]], [.arr 25 (.ts v9) 0 false]))) := by kernel_rfl
theorem E_spec_l1Copy (n : Nat) (v0 v1 : Int) (v2 : List T) : FF (n + 1) 45 [.agg [.int .i64 v0, .int .i64 v1, .fr (.ts v2)]] [] =
 L_spec_l1Copy_0_foo n n 0 v0 v1 v2 0 0 ([]) v0 v1 ([]) := by kernel_rfl
noncomputable def L_spec_l3With_0_ffoo (n c : Nat) (v0 v1 v2 v3 : Int) (v4 : List T) (v5 v6 : Int) (v7 : List T) (v8 v9 : Int) (v10 : List T) (v11 v12 : Int) (v13 : List T) : OR := runLoop Try.prog SS n 89 0 [1, 1, 0, 1, 0] [] c ⟨[anyV, .v (.one (.int .i64 v0)), anyV, .v (.one (.ptr 0 0)), anyV, .v (.one (.ptr 1 0)), .v (.one (.ptr 2 0)), .v (.one (.ptr 4 0)), .v (.one (.int .i64 v1)), anyV, anyV, anyV, anyV, anyV, anyV, anyV, anyV, anyV, anyV, anyV, anyV, anyV, anyV, anyV, anyV, anyV, anyV, anyV, anyV, anyV, anyV, anyV, anyV, anyV, anyV, anyV, anyV, anyV, anyV, anyV, anyV, anyV],
 [.cells [.int .i64 v2, .int .i64 v3, .fr (.ts v4)], .cells [.int .i64 v5, .int .i64 v6, .fr (.ts v7)], .cells [.int .i64 v8, .int .i64 v9, .own 3 0], .arr 25 (.ts v10) 0 false, .cells [.int .i64 v11, .int .i64 v12, .own 5 0], .arr 25 (.ts v13) 0 false]⟩
theorem L_spec_l3With_0_ffoo_eq (n c : Nat) (v0 v1 v2 v3 : Int) (v4 : List T) (v5 v6 : Int) (v7 : List T) (v8 v9 : Int) (v10 : List T) (v11 v12 : Int) (v13 : List T) : L_spec_l3With_0_ffoo n (c + 1) v0 v1 v2 v3 v4 v5 v6 v7 v8 v9 v10 v11 v12 v13 =
 (cond (decide (v1 < (v4.length : Int)))
 (cond (decide (v1 = v0))
 (cond (roomB (v13 ++ [(T.mk v5 v6 v7)]).length)
 (L_spec_l3With_0_ffoo n c v0 (IntKind.i64.wrap (v1 + 1)) v2 v3 v4 v5 v6 v7 v8 v9 v10 v11 v12 (v13 ++ [(T.mk v5 v6 v7)]))
 none)
 (cond (decide (0 ≤ v1))
 (v4[(v1 : Int).toNat]?.bind fun x0 =>
 ((FF n 45 [.agg [.int .i64 x0.k, .int .i64 x0.n, .fr (.ts x0.kids)]] []).bind fun x1 =>
 (rOwnT 0 x1.1 fun x2 x3 x4 =>
 (arrTsC 25 x1.2 fun x5 x6 =>
 (nilV x4 (nilO x6
 (cond (roomB (v13 ++ [(T.mk x2 x3 x5)]).length)
 (L_spec_l3With_0_ffoo n c v0 (IntKind.i64.wrap (v1 + 1)) v2 v3 v4 v5 v6 v7 v8 v9 v10 v11 v12 (v13 ++ [(T.mk x2 x3 x5)]))
 none)))))))
 none))
 (some ([.agg [.int .i64 v11, .int .i64 v12, .fr (.ts v13)]], []))) := by kernel_rfl
theorem E_spec_l3With (n : Nat) (v0 v1 : Int) (v2 : List T) (v3 v4 v5 : Int) (v6 : List T) : FF (n + 1) 89 [.agg [.int .i64 v0, .int .i64 v1, .fr (.ts v2)], .one (.int .i64 v3), .agg [.int .i64 v4, .int .i64 v5, .fr (.ts v6)]] [] =
 L_spec_l3With_0_ffoo n n v3 0 v0 v1 v2 v4 v5 v6 0 0 ([]) v0 v1 ([]) := by kernel_rfl
theorem E_impl_within (n : Nat) (v0 v1 v2 : Int) : FF (n + 1) 84 [.one (.int .i64 v0), .one (.int .i64 v1), .one (.int .i64 v2)] [] =
 (cond (decide (v1 ≤ v0))
 (some ([.one (.bool (decide (v0 ≤ v2)))], []))
 (some ([.one (.bool false)], []))) := by kernel_rfl
theorem E_impl_under (n : Nat) (v0 v1 : Int) : FF (n + 1) 90 [.one (.int .i64 v0), .one (.int .i64 v1)] [] =
 (cond (decide (v1 = 1))
 ((FF n 100 [.one (.int .i64 v0)] []).bind fun x0 =>
 (rBool x0.1 fun x1 x2 =>
 (nilV x2 (nilO x0.2
 (cond x1
 (some ([.one (.int .i64 1)], []))
 (some ([.one (.int .i64 0)], [])))))))
 (some ([.one (.int .i64 0)], []))) := by kernel_rfl
theorem E_slices_Clone (n : Nat) (v0 : List T) : FF (n + 1) 91 [.one (.fr (.ts v0))] [] =
 (cond (Nat.beq v0.length 0)
 (same (some ([.one (.own 0 0)], [.arr 25 (.ts []) 0 false]))
 (cond (roomB ([] ++ v0).length)
 (some ([.one (.own 0 0)], [.arr 25 (.ts ([] ++ v0)) 0 false]))
 none))
 (cond (roomB ([] ++ v0).length)
 (some ([.one (.own 0 0)], [.arr 25 (.ts ([] ++ v0)) 0 false]))
 none)) := by kernel_rfl
end Go.Proofs.Ytgchmppmecnniaa
end
section
namespace Go.Proofs.Ytgchmppmecnniaa
open Go Go.Ab Go.Dk
noncomputable def L_spec_l1Shape_0 (n c : Nat) (v0 v1 v2 v3 : Int) (v4 : List T) : OR := runLoop Try.prog SS n 78 0 [1, 1, 0, 1, 0] [] c ⟨[anyV, .v (.one (.int .i64 v0)), .v (.one (.ptr 0 0)), anyV, anyV, .v (.one (.int .i64 v1)), anyV, anyV, anyV, anyV, anyV, anyV, anyV, anyV, anyV, anyV, anyV, anyV, anyV, anyV, anyV, anyV, anyV, anyV, anyV, anyV, anyV, anyV, anyV, anyV, anyV, anyV, anyV, anyV, anyV, anyV, anyV, anyV, anyV, anyV, anyV, anyV, anyV, anyV, anyV, anyV],
 [.cells [.int .i64 v2, .int .i64 v3, .fr (.ts v4)]]⟩
theorem L_spec_l1Shape_0_eq (n c : Nat) (v0 v1 v2 v3 : Int) (v4 : List T) : L_spec_l1Shape_0 n (c + 1) v0 v1 v2 v3 v4 =
 (cond (decide (v1 < (v4.length : Int)))
 (cond (decide (0 ≤ v1))
 (v4[(v1 : Int).toNat]?.bind fun x0 =>
 ((FF n 78 [.agg [.int .i64 x0.k, .int .i64 x0.n, .fr (.ts x0.kids)], .one (.int .i64 (IntKind.i64.wrap (v0 - 1)))] []).bind fun x1 =>
 (rBool x1.1 fun x2 x3 =>
 (nilV x3 (nilO x1.2
 (cond (!x2)
 (some ([.one (.bool false)], []))
 (L_spec_l1Shape_0 n c v0 (IntKind.i64.wrap (v1 + 1)) v2 v3 v4)))))))
 none)
 (some ([.one (.bool true)], []))) := by kernel_rfl
theorem E_spec_l1Shape (n : Nat) (v0 v1 : Int) (v2 : List T) (v3 : Int) : FF (n + 1) 78 [.agg [.int .i64 v0, .int .i64 v1, .fr (.ts v2)], .one (.int .i64 v3)] [] =
 (cond (decide (v3 < 1))
 (some ([.one (.bool false)], []))
 ((FF n 74 [.one (.int .i64 v0)] []).bind fun x0 =>
 (rInt .i64 x0.1 fun x1 x2 =>
 (nilV x2 (nilO x0.2
 (cond (!decide (x1 = (v2.length : Int)))
 (some ([.one (.bool false)], []))
 (cond (decide (v1 < 0))
 (some ([.one (.bool false)], []))
 ((FF n 73 [.one (.int .i64 v0)] []).bind fun x3 =>
 (rInt .i64 x3.1 fun x4 x5 =>
 (nilV x5 (nilO x3.2
 (cond (decide (x4 < v1))
 (some ([.one (.bool false)], []))
 (L_spec_l1Shape_0 n n v3 0 v0 v1 v2))))))))))))) := by kernel_rfl
noncomputable def L_spec_l1Count_0 (n c : Nat) (v0 v1 v2 v3 v4 : Int) (v5 : List T) : OR := runLoop Try.prog SS n 79 0 [1, 1, 0, 1, 0] [] c ⟨[anyV, .v (.one (.int .i64 v0)), .v (.one (.ptr 0 0)), anyV, anyV, .v (.one (.int .i64 v1)), .v (.one (.int .i64 v2)), anyV, anyV, anyV, anyV, anyV, anyV, anyV, anyV, anyV, anyV, anyV, anyV, anyV, anyV, anyV, anyV, anyV, anyV, anyV, anyV, anyV, anyV, anyV, anyV],
 [.cells [.int .i64 v3, .int .i64 v4, .fr (.ts v5)]]⟩
theorem L_spec_l1Count_0_eq (n c : Nat) (v0 v1 v2 v3 v4 : Int) (v5 : List T) : L_spec_l1Count_0 n (c + 1) v0 v1 v2 v3 v4 v5 =
 (cond (decide (v2 < (v5.length : Int)))
 (cond (decide (v1 ≤ v0))
 (cond (decide (0 ≤ v2))
 (v5[(v2 : Int).toNat]?.bind fun x0 =>
 ((FF n 79 [.agg [.int .i64 x0.k, .int .i64 x0.n, .fr (.ts x0.kids)], .one (.int .i64 (IntKind.i64.wrap (v0 - v1)))] []).bind fun x1 =>
 (rInt .i64 x1.1 fun x2 x3 =>
 (nilV x3 (nilO x1.2
 (L_spec_l1Count_0 n c v0 (IntKind.i64.wrap (v1 + x2)) (IntKind.i64.wrap (v2 + 1)) v3 v4 v5))))))
 none)
 (some ([.one (.int .i64 v1)], [])))
 (some ([.one (.int .i64 v1)], []))) := by kernel_rfl
theorem E_spec_l1Count (n : Nat) (v0 v1 : Int) (v2 : List T) (v3 : Int) : FF (n + 1) 79 [.agg [.int .i64 v0, .int .i64 v1, .fr (.ts v2)], .one (.int .i64 v3)] [] =
 L_spec_l1Count_0 n n v3 1 0 v0 v1 v2 := by kernel_rfl
noncomputable def L_impl_scan_0 (n c : Nat) (v0 : Int) (v1 : List T) (v2 v3 v4 : Int) : OR := runLoop Try.prog SS n 75 1 [1, 1, 1, 0, 1, 0] [] c ⟨[anyV, .v (.one (.int .i64 v0)), .v (.one (.ptr 0 0)), anyV, anyV, anyV, anyV, anyV, anyV, anyV, anyV, anyV, anyV, anyV, anyV, anyV, anyV, anyV, anyV, anyV, anyV, anyV, anyV, anyV, anyV, anyV, anyV, anyV, anyV, anyV, anyV, anyV, anyV, anyV, anyV, anyV, anyV, anyV, anyV, anyV, anyV, .v (.one (.fr (.ts v1))), .v (.one (.int .i64 v2)), .v (.one (.int .i64 v3)), anyV, anyV, anyV, anyV, anyV, anyV, anyV, anyV, anyV, anyV],
 [.cells [.int .i64 v4]]⟩
theorem L_impl_scan_0_eq (n c : Nat) (v0 : Int) (v1 : List T) (v2 v3 v4 : Int) : L_impl_scan_0 n (c + 1) v0 v1 v2 v3 v4 =
 (cond (decide (v3 < v2))
 (cond (decide (0 ≤ v3))
 (v1[(v3 : Int).toNat]?.bind fun x0 =>
 ((FF n 75 [.agg [.int .i64 x0.k, .int .i64 x0.n, .fr (.ts x0.kids)], .one (.int .i64 (IntKind.i64.wrap (v0 + 1))), .one (.ptr 0 0)] [.cells [.int .i64 v4]]).bind fun x1 =>
 (objC x1.2 fun x2 x3 =>
 (intC .i64 x2 fun x4 x5 =>
 (nilC x5
 (rBool x1.1 fun x6 x7 =>
 (nilV x7 (nilO x3
 (cond (!x6)
 (some ([.one (.bool false)], [.cells [.int .i64 x4]]))
 (L_impl_scan_0 n c v0 v1 v2 (IntKind.i64.wrap (v3 + 1)) x4))))))))))
 none)
 (some ([.one (.bool true)], [.cells [.int .i64 v4]]))) := by kernel_rfl
theorem E_impl_scan (n : Nat) (v0 v1 : Int) (v2 : List T) (v3 v4 : Int) : FF (n + 1) 75 [.agg [.int .i64 v0, .int .i64 v1, .fr (.ts v2)], .one (.int .i64 v3), .one (.ptr 0 0)] [.cells [.int .i64 v4]] =
 (cond (decide (400 < (IntKind.i64.wrap (v4 + 1))))
 (some ([.one (.bool false)], [.cells [.int .i64 (IntKind.i64.wrap (v4 + 1))]]))
 (cond (decide (30 < v3))
 (some ([.one (.bool false)], [.cells [.int .i64 (IntKind.i64.wrap (v4 + 1))]]))
 ((FF n 94 [.one (.int .i64 v0)] []).bind fun x0 =>
 (rInt .i64 x0.1 fun x1 x2 =>
 (nilV x2 (nilO x0.2
 (cond (!decide (x1 = (v2.length : Int)))
 (some ([.one (.bool false)], [.cells [.int .i64 (IntKind.i64.wrap (v4 + 1))]]))
 ((FF n 95 [.one (.int .i64 v0)] []).bind fun x3 =>
 (rInt .i64 x3.1 fun x4 x5 =>
 (nilV x5 (nilO x3.2
 ((FF n 84 [.one (.int .i64 v1), .one (.int .i64 0), .one (.int .i64 x4)] []).bind fun x6 =>
 (rBool x6.1 fun x7 x8 =>
 (nilV x8 (nilO x6.2
 (cond (!x7)
 (some ([.one (.bool false)], [.cells [.int .i64 (IntKind.i64.wrap (v4 + 1))]]))
 (L_impl_scan_0 n n v3 v2 ((v2.length : Int) : Int) 0 (IntKind.i64.wrap (v4 + 1))))))))))))))))))) := by kernel_rfl
theorem E_impl_isBinder (n : Nat) (v0 : Int) : FF (n + 1) 100 [.one (.int .i64 v0)] [] =
 (cond (decide (v0 = 3))
 (some ([.one (.bool true)], []))
 (cond (decide (v0 = 4))
 (some ([.one (.bool true)], []))
 (some ([.one (.bool (decide (v0 = 13)))], [])))) := by kernel_rfl
theorem E_spec_l1Most (n : Nat) (v0 : Int) : FF (n + 1) 73 [.one (.int .i64 v0)] [] =
 (cond (decide (v0 = 1))
 (some ([.one (.int .i64 20)], []))
 (cond (decide (v0 = 2))
 (some ([.one (.int .i64 3)], []))
 (some ([.one (.int .i64 0)], [])))) := by kernel_rfl
theorem E_spec_l1Kids (n : Nat) (v0 : Int) : FF (n + 1) 74 [.one (.int .i64 v0)] [] =
 (cond (decide (v0 = 1))
 (some ([.one (.int .i64 0)], []))
 (cond (decide (v0 = 2))
 (some ([.one (.int .i64 0)], []))
 (cond (decide (v0 = 6))
 (some ([.one (.int .i64 0)], []))
 (cond (decide (v0 = 7))
 (some ([.one (.int .i64 0)], []))
 (cond (decide (v0 = 8))
 (some ([.one (.int .i64 1)], []))
 (cond (decide (v0 = 11))
 (some ([.one (.int .i64 1)], []))
 (cond (decide (v0 = 15))
 (some ([.one (.int .i64 1)], []))
 (cond (decide (v0 = 16))
 (some ([.one (.int .i64 1)], []))
 (cond (decide (v0 = 3))
 (some ([.one (.int .i64 2)], []))
 (cond (decide (v0 = 4))
 (some ([.one (.int .i64 2)], []))
 (cond (decide (v0 = 5))
 (some ([.one (.int .i64 2)], []))
 (cond (decide (v0 = 13))
 (some ([.one (.int .i64 2)], []))
 (cond (decide (v0 = 10))
 (some ([.one (.int .i64 3)], []))
 (cond (decide (v0 = 12))
 (some ([.one (.int .i64 3)], []))
 (cond (decide (v0 = 14))
 (some ([.one (.int .i64 3)], []))
 (cond (decide (v0 = 9))
 (some ([.one (.int .i64 4)], []))
 (some ([.one (.int .i64 (-1))], [])))))))))))))))))) := by kernel_rfl
theorem E_impl_operands (n : Nat) (v0 : Int) : FF (n + 1) 94 [.one (.int .i64 v0)] [] =
 ((FF n 84 [.one (.int .i64 v0), .one (.int .i64 1), .one (.int .i64 16)] []).bind fun x0 =>
 (rBool x0.1 fun x1 x2 =>
 (nilV x2 (nilO x0.2
 (cond (!x1)
 (some ([.one (.int .i64 (-1))], []))
 (cond (decide (0 ≤ (IntKind.i64.wrap (v0 - 1))))
 (cond (decide ((IntKind.i64.wrap (v0 - 1)) < (([0, 0, 2, 2, 2, 0, 0, 1, 4, 3, 1, 3, 2, 3, 1, 1]).length : Int)))
 (([0, 0, 2, 2, 2, 0, 0, 1, 4, 3, 1, 3, 2, 3, 1, 1])[((IntKind.i64.wrap (v0 - 1)) : Int).toNat]?.bind fun x3 =>
 some ([.one (.int .i64 x3)], []))
 none)
 none)))))) := by kernel_rfl
theorem E_impl_most (n : Nat) (v0 : Int) : FF (n + 1) 95 [.one (.int .i64 v0)] [] =
 (cond (decide (v0 = 1))
 (some ([.one (.int .i64 20)], []))
 (cond (decide (v0 = 2))
 (some ([.one (.int .i64 3)], []))
 (some ([.one (.int .i64 0)], [])))) := by kernel_rfl
end Go.Proofs.Ytgchmppmecnniaa
end
section
namespace Go.Proofs.Ytgchmppmecnniaa
open Go Go.Ab Go.Dk
end Go.Proofs.Ytgchmppmecnniaa
end
section
namespace Go.Proofs.Ytgchmppmecnniaa
open Go Go.Ab Go.Dk
end Go.Proofs.Ytgchmppmecnniaa
end
section

end
section
namespace Go.Ab
open Go Go.Dk
open Go.ChangeShapes Go.WideShapes Go.ChangeAt Go.RowKit
abbrev anyB : Zone := fun _ => True
end Go.Ab
end
section
namespace Go.Proofs.Ytgchmppmecnniaa
open Go Go.Dk
set_option maxRecDepth 100000 in
set_option maxHeartbeats 1000000 in
theorem iw_within (n l h : Int) (w : World) :
   Calls Try.prog 84 #[.int .i64 n, .int .i64 l, .int .i64 h] w fun e w' => e = .returned (.bool (decide (l ≤ n) && decide (n ≤ h))) ∧ Grow w w' := by
 have H := St.init w noneZ noneZ Stable.true trivial
 go_enter Try.func84, Try.ntmps84
 repeat' ((first | (refine T_nil ?_) | ((first | apply U0 | (apply U1; (case hd => decide +kernel)) | (apply U2 (hw := H); (case hd => decide +kernel)) | (apply U3 1; (case hp => rfl); (case hd => decide +kernel)) | (apply U3 2; (case hp => rfl); (case hd => decide +kernel)) | (apply U3 3; (case hp => rfl); (case hd => decide +kernel)) | (apply U3 4; (case hp => rfl); (case hd => decide +kernel)) | (apply U3 5; (case hp => rfl); (case hd => decide +kernel)) | (apply U3 6; (case hp => rfl); (case hd => decide +kernel)) | (apply U3 7; (case hp => rfl); (case hd => decide +kernel)) | (apply U3 8; (case hp => rfl); (case hd => decide +kernel)) | (apply U3 9; (case hp => rfl); (case hd => decide +kernel)) | (apply U3 10; (case hp => rfl); (case hd => decide +kernel)) | (apply U3 11; (case hp => rfl); (case hd => decide +kernel))); (case hg => rfl); (case hy => (first | (apply Yi.a; constructor; all_goals (first | rfl | (constructor <;> omega) | (apply CellIs.own; (case h => repeat constructor); rfl) | (apply Cell3.own; (case h => repeat constructor); all_goals rfl))) | (apply Yi.b; constructor; all_goals (first | rfl | (constructor <;> omega) | (apply CellIs.own; (case h => repeat constructor); rfl) | (apply Cell3.own; (case h => repeat constructor); all_goals rfl))) | (apply Yi.c; constructor; all_goals (first | rfl | (constructor <;> omega) | (apply CellIs.own; (case h => repeat constructor); rfl) | (apply Cell3.own; (case h => repeat constructor); all_goals rfl)))))) | ((first | apply V0 | apply V1 | apply V2 (hw := H)); (case hg => rfl); try decide +kernel) | ((first | refine G0 H ?_ | (refine G1 H (fun _ _ _ _ h => h) (by decide +kernel) ?_; clear H; intro _ H)); simp only [enum, Nat.reduceAdd]) | (apply B0 (hw := H); (case hg => rfl); (case hd => first | exact hd_false | decide +kernel); (case hx => rfl); (case hc => rfl); clear H; intro bx _ H) | (apply B1 (hw := H); (case hg => rfl); (case hd => first | exact hd_false | decide +kernel); clear H; intro ax _ H) | go_step | (apply X0; (case hy => rfl); all_goals (intro hb; simp only [hb]; (try simp only [decide_eq_true_eq, decide_eq_false_iff_not, Bool.not_eq_true', Bool.not_eq_false', Bool.and_eq_true, Bool.or_eq_true, Bool.and_eq_false_iff, Bool.or_eq_false_iff] at hb); try (exfalso; omega)))) <;> try simp only [List.getElem_toArray, List.getElem_cons_zero, List.getElem_cons_succ, Act.put, evalT, evalC, evalF, List.setIfInBounds_toArray, List.set_cons_succ, List.set_cons_zero, List.getD_cons_succ, List.getD_cons_zero, Nat.reduceAdd, Nat.reduceMul, Nat.add_zero, Nat.zero_add, Int.toNat_natCast, Int.reduceToNat, List.eraseIdx_cons_succ, List.eraseIdx_cons_zero, cond_true, cond_false])
 all_goals ((try simp only [Exit.inBlock, Exit.then]); refine ret_post (res1 rfl (R_tmp rfl)) ?_; try simp only [List.getD_cons_succ, List.getD_cons_zero])
 all_goals (refine ⟨?_, H.ext⟩; simp [*])
set_option maxRecDepth 100000 in
set_option maxHeartbeats 1000000 in
theorem iw_most (k : Int) (w : World) :
   Calls Try.prog 95 #[.int .i64 k] w fun e w' => e = .returned (.int .i64 (mostOf k)) ∧ Grow w w' := by
 have H := St.init w noneZ noneZ Stable.true trivial
 go_enter Try.func95, Try.ntmps95
 repeat' ((first | (refine T_nil ?_) | ((first | apply U0 | (apply U1; (case hd => decide +kernel)) | (apply U2 (hw := H); (case hd => decide +kernel)) | (apply U3 1; (case hp => rfl); (case hd => decide +kernel)) | (apply U3 2; (case hp => rfl); (case hd => decide +kernel)) | (apply U3 3; (case hp => rfl); (case hd => decide +kernel)) | (apply U3 4; (case hp => rfl); (case hd => decide +kernel)) | (apply U3 5; (case hp => rfl); (case hd => decide +kernel)) | (apply U3 6; (case hp => rfl); (case hd => decide +kernel)) | (apply U3 7; (case hp => rfl); (case hd => decide +kernel)) | (apply U3 8; (case hp => rfl); (case hd => decide +kernel)) | (apply U3 9; (case hp => rfl); (case hd => decide +kernel)) | (apply U3 10; (case hp => rfl); (case hd => decide +kernel)) | (apply U3 11; (case hp => rfl); (case hd => decide +kernel))); (case hg => rfl); (case hy => (first | (apply Yi.a; constructor; all_goals (first | rfl | (constructor <;> omega) | (apply CellIs.own; (case h => repeat constructor); rfl) | (apply Cell3.own; (case h => repeat constructor); all_goals rfl))) | (apply Yi.b; constructor; all_goals (first | rfl | (constructor <;> omega) | (apply CellIs.own; (case h => repeat constructor); rfl) | (apply Cell3.own; (case h => repeat constructor); all_goals rfl))) | (apply Yi.c; constructor; all_goals (first | rfl | (constructor <;> omega) | (apply CellIs.own; (case h => repeat constructor); rfl) | (apply Cell3.own; (case h => repeat constructor); all_goals rfl)))))) | ((first | apply V0 | apply V1 | apply V2 (hw := H)); (case hg => rfl); try decide +kernel) | ((first | refine G0 H ?_ | (refine G1 H (fun _ _ _ _ h => h) (by decide +kernel) ?_; clear H; intro _ H)); simp only [enum, Nat.reduceAdd]) | (apply B0 (hw := H); (case hg => rfl); (case hd => first | exact hd_false | decide +kernel); (case hx => rfl); (case hc => rfl); clear H; intro bx _ H) | (apply B1 (hw := H); (case hg => rfl); (case hd => first | exact hd_false | decide +kernel); clear H; intro ax _ H) | go_step | (apply X0; (case hy => rfl); all_goals (intro hb; simp only [hb]; (try simp only [decide_eq_true_eq, decide_eq_false_iff_not, Bool.not_eq_true', Bool.not_eq_false', Bool.and_eq_true, Bool.or_eq_true, Bool.and_eq_false_iff, Bool.or_eq_false_iff] at hb); try (exfalso; omega)))) <;> try simp only [List.getElem_toArray, List.getElem_cons_zero, List.getElem_cons_succ, Act.put, evalT, evalC, evalF, List.setIfInBounds_toArray, List.set_cons_succ, List.set_cons_zero, List.getD_cons_succ, List.getD_cons_zero, Nat.reduceAdd, Nat.reduceMul, Nat.add_zero, Nat.zero_add, Int.toNat_natCast, Int.reduceToNat, List.eraseIdx_cons_succ, List.eraseIdx_cons_zero, cond_true, cond_false])
 all_goals ((try simp only [Exit.inBlock, Exit.then]); refine ret_post (res1 rfl (R_tmp rfl)) ?_; try simp only [List.getD_cons_succ, List.getD_cons_zero])
 all_goals (refine ⟨?_, H.ext⟩; unfold mostOf; simp [*])
set_option maxRecDepth 100000 in
set_option maxHeartbeats 1000000 in
theorem iw_operands (k : Int) (w : World) :
   Calls Try.prog 94 #[.int .i64 k] w fun e w' => e = .returned (.int .i64 (opsOf k)) ∧ Grow w w' := by
 have H := St.init w noneZ noneZ Stable.true trivial
 by_cases hk : 1 ≤ k ∧ k ≤ 16
 ·obtain ⟨m, rfl⟩ : ∃ m : Nat, k = (m : Int) + 1 := ⟨(k - 1).toNat, by omega⟩
  have hm : m < 16 := by omega
  have h1 : (decide ((1 : Int) ≤ (m : Int) + 1) && decide ((m : Int) + 1 ≤ 16)) = true := by simp; omega
  have h2 : (m : Int) + 1 - 1 = (m : Int) := by omega
  go_enter Try.func94, Try.ntmps94
  have hcell : [Value.int .i64 0, .int .i64 0, .int .i64 2, .int .i64 2, .int .i64 2, .int .i64 0, .int .i64 0, .int .i64 1, .int .i64 4, .int .i64 3, .int .i64 1, .int .i64 3, .int .i64 2, .int .i64 3, .int .i64 1, .int .i64 1][m * 1]? = some (.int .i64 (opsOf ((m : Int) + 1))) := by
   have : m = 0 ∨ m = 1 ∨ m = 2 ∨ m = 3 ∨ m = 4 ∨ m = 5 ∨ m = 6 ∨ m = 7 ∨ m = 8 ∨ m = 9 ∨ m = 10 ∨ m = 11 ∨ m = 12 ∨ m = 13 ∨ m = 14 ∨ m = 15 := by omega
   rcases this with rfl | rfl | rfl | rfl | rfl | rfl | rfl | rfl | rfl | rfl | rfl | rfl | rfl | rfl | rfl | rfl <;> rfl
  repeat' ((first | (refine T_nil ?_) | ((first | apply U0 | (apply U1; (case hd => decide +kernel)) | (apply U2 (hw := H); (case hd => decide +kernel)) | (apply U3 1; (case hp => rfl); (case hd => decide +kernel)) | (apply U3 2; (case hp => rfl); (case hd => decide +kernel)) | (apply U3 3; (case hp => rfl); (case hd => decide +kernel)) | (apply U3 4; (case hp => rfl); (case hd => decide +kernel)) | (apply U3 5; (case hp => rfl); (case hd => decide +kernel)) | (apply U3 6; (case hp => rfl); (case hd => decide +kernel)) | (apply U3 7; (case hp => rfl); (case hd => decide +kernel)) | (apply U3 8; (case hp => rfl); (case hd => decide +kernel)) | (apply U3 9; (case hp => rfl); (case hd => decide +kernel)) | (apply U3 10; (case hp => rfl); (case hd => decide +kernel)) | (apply U3 11; (case hp => rfl); (case hd => decide +kernel))); (case hg => rfl); (case hy => (first | (apply Yi.a; constructor; all_goals (first | rfl | (constructor <;> omega) | (apply CellIs.own; (case h => repeat constructor); rfl) | (apply Cell3.own; (case h => repeat constructor); all_goals rfl) | exact .own .here hcell)) | (apply Yi.b; constructor; all_goals (first | rfl | (constructor <;> omega) | (apply CellIs.own; (case h => repeat constructor); rfl) | (apply Cell3.own; (case h => repeat constructor); all_goals rfl) | exact .own .here hcell)) | (apply Yi.c; constructor; all_goals (first | rfl | (constructor <;> omega) | (apply CellIs.own; (case h => repeat constructor); rfl) | (apply Cell3.own; (case h => repeat constructor); all_goals rfl) | exact .own .here hcell))))) | ((first | apply V0 | apply V1 | apply V2 (hw := H)); (case hg => rfl); try decide +kernel) | ((first | refine G0 H ?_ | (refine G1 H (fun _ _ _ _ h => h) (by decide +kernel) ?_; clear H; intro _ H)); simp only [enum, Nat.reduceAdd]) | (apply B0 (hw := H); (case hg => rfl); (case hd => first | exact hd_false | decide +kernel); (case hx => rfl); (case hc => rfl); clear H; intro bx _ H) | (apply B1 (hw := H); (case hg => rfl); (case hd => first | exact hd_false | decide +kernel); clear H; intro ax _ H) | ((apply B2 (hw := H); (case hg => rfl); (case hd => first | exact hd_false | decide +kernel); (case hvs => (simp only [List.map_cons, List.map_nil, evalT, evalC, List.getD_cons_succ, List.getD_cons_zero]; rfl)); (case hcs => (simp only [flatC, List.flatMap_cons, List.flatMap_nil, Value.cells, HT.val, List.cons_append, List.nil_append, List.append_nil]; rfl)); (case hix => rfl); (case hn => rfl); (case hsz => rfl); (case hb => rfl); clear H; intro sx _ H)) | ((apply C0 (hw := H); (case hg => rfl); (case hd => first | exact hd_false | decide +kernel); (case hxs => rfl); (case hc => exact iw_within _ _ _ _); clear H; intro _ H)) | ((simp only [h1, Bool.not_true, h2])) | go_step | (apply X0; (case hy => rfl); all_goals (intro hb; simp only [hb]; (try simp only [decide_eq_true_eq, decide_eq_false_iff_not, Bool.not_eq_true', Bool.not_eq_false', Bool.and_eq_true, Bool.or_eq_true, Bool.and_eq_false_iff, Bool.or_eq_false_iff] at hb); try (exfalso; omega)))) <;> try simp only [List.getElem_toArray, List.getElem_cons_zero, List.getElem_cons_succ, Act.put, evalT, evalC, evalF, List.setIfInBounds_toArray, List.set_cons_succ, List.set_cons_zero, List.getD_cons_succ, List.getD_cons_zero, Nat.reduceAdd, Nat.reduceMul, Nat.add_zero, Nat.zero_add, Int.toNat_natCast, Int.reduceToNat, List.eraseIdx_cons_succ, List.eraseIdx_cons_zero, cond_true, cond_false])
  ((try simp only [Exit.inBlock, Exit.then]); refine ret_post (res1 rfl (R_tmp rfl)) ?_; try simp only [List.getD_cons_succ, List.getD_cons_zero])
  exact ⟨trivial, H.ext⟩
 ·have h1 : (decide ((1 : Int) ≤ k) && decide (k ≤ 16)) = false := by simp; omega
  go_enter Try.func94, Try.ntmps94
  repeat' ((first | (refine T_nil ?_) | ((first | apply U0 | (apply U1; (case hd => decide +kernel)) | (apply U2 (hw := H); (case hd => decide +kernel)) | (apply U3 1; (case hp => rfl); (case hd => decide +kernel)) | (apply U3 2; (case hp => rfl); (case hd => decide +kernel)) | (apply U3 3; (case hp => rfl); (case hd => decide +kernel)) | (apply U3 4; (case hp => rfl); (case hd => decide +kernel)) | (apply U3 5; (case hp => rfl); (case hd => decide +kernel)) | (apply U3 6; (case hp => rfl); (case hd => decide +kernel)) | (apply U3 7; (case hp => rfl); (case hd => decide +kernel)) | (apply U3 8; (case hp => rfl); (case hd => decide +kernel)) | (apply U3 9; (case hp => rfl); (case hd => decide +kernel)) | (apply U3 10; (case hp => rfl); (case hd => decide +kernel)) | (apply U3 11; (case hp => rfl); (case hd => decide +kernel))); (case hg => rfl); (case hy => (first | (apply Yi.a; constructor; all_goals (first | rfl | (constructor <;> omega) | (apply CellIs.own; (case h => repeat constructor); rfl) | (apply Cell3.own; (case h => repeat constructor); all_goals rfl))) | (apply Yi.b; constructor; all_goals (first | rfl | (constructor <;> omega) | (apply CellIs.own; (case h => repeat constructor); rfl) | (apply Cell3.own; (case h => repeat constructor); all_goals rfl))) | (apply Yi.c; constructor; all_goals (first | rfl | (constructor <;> omega) | (apply CellIs.own; (case h => repeat constructor); rfl) | (apply Cell3.own; (case h => repeat constructor); all_goals rfl)))))) | ((first | apply V0 | apply V1 | apply V2 (hw := H)); (case hg => rfl); try decide +kernel) | ((first | refine G0 H ?_ | (refine G1 H (fun _ _ _ _ h => h) (by decide +kernel) ?_; clear H; intro _ H)); simp only [enum, Nat.reduceAdd]) | (apply B0 (hw := H); (case hg => rfl); (case hd => first | exact hd_false | decide +kernel); (case hx => rfl); (case hc => rfl); clear H; intro bx _ H) | (apply B1 (hw := H); (case hg => rfl); (case hd => first | exact hd_false | decide +kernel); clear H; intro ax _ H) | ((apply C0 (hw := H); (case hg => rfl); (case hd => first | exact hd_false | decide +kernel); (case hxs => rfl); (case hc => exact iw_within _ _ _ _); clear H; intro _ H)) | ((simp only [h1, Bool.not_false])) | go_step | (apply X0; (case hy => rfl); all_goals (intro hb; simp only [hb]; (try simp only [decide_eq_true_eq, decide_eq_false_iff_not, Bool.not_eq_true', Bool.not_eq_false', Bool.and_eq_true, Bool.or_eq_true, Bool.and_eq_false_iff, Bool.or_eq_false_iff] at hb); try (exfalso; omega)))) <;> try simp only [List.getElem_toArray, List.getElem_cons_zero, List.getElem_cons_succ, Act.put, evalT, evalC, evalF, List.setIfInBounds_toArray, List.set_cons_succ, List.set_cons_zero, List.getD_cons_succ, List.getD_cons_zero, Nat.reduceAdd, Nat.reduceMul, Nat.add_zero, Nat.zero_add, Int.toNat_natCast, Int.reduceToNat, List.eraseIdx_cons_succ, List.eraseIdx_cons_zero, cond_true, cond_false])
  all_goals ((try simp only [Exit.inBlock, Exit.then]); refine ret_post (res1 rfl (R_tmp rfl)) ?_; try simp only [List.getD_cons_succ, List.getD_cons_zero])
  refine ⟨?_, H.ext⟩
  unfold opsOf
  rw [if_neg (by omega), if_neg (by omega), if_neg (by omega), if_neg (by omega), if_neg (by omega)]
set_option maxRecDepth 100000 in
set_option maxHeartbeats 1000000 in
theorem iw_scan (t : HT) : ∀ (deep c : Int) (p : Nat) (Z : Zone) (w : World), Rd Z w t → w.heap[p]? = some (.cells #[.int .i64 c] 3 (0, 0)) → ¬ Z p → 0 ≤ c → c ≤ 400 → 0 ≤ deep → deep ≤ 31 →
   Calls Try.prog 75 #[t.val, .int .i64 deep, .pointer (some ⟨p, 0, none⟩)] w fun e w' =>
    e = .returned (.bool (scanF t.er deep c).1) ∧ Ext (· = p) w w' ∧ w'.heap[p]? = some (.cells #[.int .i64 (scanF t.er deep c).2] 3 (0, 0)) := by
 induction t using HT.ind with | h t ih =>
 intro deep c p Z w hr hp hz hc0 hc1 hd0 hd1
 have H := St.init1 (r := blk p [.int .i64 c] 3) w (· = p) Z (rdF_stable t) hr (blk_local _ _ _) hp (fun b hb => ⟨hb, by cases hb; exact lt_of_get hp⟩) (fun b hb hz' => hz (by cases hb; exact hz'))
 have hlen := hr.len
 clear hp
 go_enter Try.func75, Try.ntmps75
 repeat' ((first | (refine T_nil ?_) | ((first | apply U0 | (apply U1; (case hd => decide +kernel)) | (apply U2 (hw := H); (case hd => decide +kernel)) | (apply U3 1; (case hp => rfl); (case hd => decide +kernel)) | (apply U3 2; (case hp => rfl); (case hd => decide +kernel)) | (apply U3 3; (case hp => rfl); (case hd => decide +kernel)) | (apply U3 4; (case hp => rfl); (case hd => decide +kernel)) | (apply U3 5; (case hp => rfl); (case hd => decide +kernel)) | (apply U3 6; (case hp => rfl); (case hd => decide +kernel)) | (apply U3 7; (case hp => rfl); (case hd => decide +kernel)) | (apply U3 8; (case hp => rfl); (case hd => decide +kernel)) | (apply U3 9; (case hp => rfl); (case hd => decide +kernel)) | (apply U3 10; (case hp => rfl); (case hd => decide +kernel)) | (apply U3 11; (case hp => rfl); (case hd => decide +kernel))); (case hg => rfl); (case hy => (first | (apply Yi.a; constructor; all_goals (first | rfl | (constructor <;> omega) | (apply CellIs.own; (case h => repeat constructor); rfl) | (apply Cell3.own; (case h => repeat constructor); all_goals rfl))) | (apply Yi.b; constructor; all_goals (first | rfl | (constructor <;> omega) | (apply CellIs.own; (case h => repeat constructor); rfl) | (apply Cell3.own; (case h => repeat constructor); all_goals rfl))) | (apply Yi.c; constructor; all_goals (first | rfl | (constructor <;> omega) | (apply CellIs.own; (case h => repeat constructor); rfl) | (apply Cell3.own; (case h => repeat constructor); all_goals rfl)))))) | ((first | apply V0 | apply V1 | apply V2 (hw := H)); (case hg => rfl); try decide +kernel) | ((first | refine G0 H ?_ | (refine G1 H (fun _ _ _ _ h => h) (by decide +kernel) ?_; clear H; intro _ H)); simp only [enum, Nat.reduceAdd]) | (apply B0 (hw := H); (case hg => rfl); (case hd => first | exact hd_false | decide +kernel); (case hx => rfl); (case hc => rfl); clear H; intro bx _ H) | (apply B1 (hw := H); (case hg => rfl); (case hd => first | exact hd_false | decide +kernel); clear H; intro ax _ H) | ((apply W0 (hw := H); (case hg => rfl); (case hd => first | exact hd_false | decide +kernel); (case hx => rfl); (case hy => rfl); (case hc => rfl); (case hn => repeat constructor); (case h1 => rfl); clear H; intro _ H; (try dsimp only at H); try simp only [putL, List.set_cons_succ, List.set_cons_zero, evalT, evalC, List.getD_cons_succ, List.getD_cons_zero, Nat.zero_add, Nat.reduceAdd] at H)) | ((apply C0 (hw := H); (case hg => rfl); (case hd => first | exact hd_false | decide +kernel); (case hxs => rfl); (case hc => exact iw_operands _ _); clear H; intro _ H)) | ((apply C0 (hw := H); (case hg => rfl); (case hd => first | exact hd_false | decide +kernel); (case hxs => rfl); (case hc => exact iw_most _ _); clear H; intro _ H)) | ((apply C0 (hw := H); (case hg => rfl); (case hd => first | exact hd_false | decide +kernel); (case hxs => rfl); (case hc => exact iw_within _ _ _ _); clear H; intro _ H)) | go_step | (apply X0; (case hy => rfl); all_goals (intro hb; simp only [hb]; (try simp only [decide_eq_true_eq, decide_eq_false_iff_not, Bool.not_eq_true', Bool.not_eq_false', Bool.and_eq_true, Bool.or_eq_true, Bool.and_eq_false_iff, Bool.or_eq_false_iff] at hb); try (exfalso; omega)))) <;> try simp only [List.getElem_toArray, List.getElem_cons_zero, List.getElem_cons_succ, Act.put, evalT, evalC, evalF, List.setIfInBounds_toArray, List.set_cons_succ, List.set_cons_zero, List.getD_cons_succ, List.getD_cons_zero, Nat.reduceAdd, Nat.reduceMul, Nat.add_zero, Nat.zero_add, Int.toNat_natCast, Int.reduceToNat, List.eraseIdx_cons_succ, List.eraseIdx_cons_zero, cond_true, cond_false])
 ·((try simp only [Exit.inBlock, Exit.then]); refine ret_post (res1 rfl (R_tmp rfl)) ?_; try simp only [List.getD_cons_succ, List.getD_cons_zero])
  rw [scanF_eq, if_pos (by omega)]
  exact ⟨rfl, H.ext, H.get at1⟩
 ·((try simp only [Exit.inBlock, Exit.then]); refine ret_post (res1 rfl (R_tmp rfl)) ?_; try simp only [List.getD_cons_succ, List.getD_cons_zero])
  rw [scanF_eq, if_pos (by omega)]
  exact ⟨rfl, H.ext, H.get at1⟩
 ·((try simp only [Exit.inBlock, Exit.then]); refine ret_post (res1 rfl (R_tmp rfl)) ?_; try simp only [List.getD_cons_succ, List.getD_cons_zero])
  rw [scanF_eq, if_pos (by rw [HT.er_k, HT.er_kids]; simp; omega)]
  exact ⟨rfl, H.ext, H.get at1⟩
 ·have hc : (!(decide (0 ≤ t.n) && decide (t.n ≤ mostOf t.k))) = true := by assumption
  simp only [Bool.not_eq_true', Bool.and_eq_false_iff, decide_eq_false_iff_not] at hc
  ((try simp only [Exit.inBlock, Exit.then]); refine ret_post (res1 rfl (R_tmp rfl)) ?_; try simp only [List.getD_cons_succ, List.getD_cons_zero])
  rw [scanF_eq, if_pos (by rw [HT.er_k, HT.er_n]; omega)]
  exact ⟨rfl, H.ext, H.get at1⟩
 ·have hc : (!(decide (0 ≤ t.n) && decide (t.n ≤ mostOf t.k))) = false := by assumption
  simp only [Bool.not_eq_false', Bool.and_eq_true, decide_eq_true_eq] at hc
  have hs : scanF t.er deep c = scanL t.er.kids (deep + 1) (c + 1) := by
   rw [scanF_eq, if_neg (by rw [HT.er_k, HT.er_n, HT.er_kids]; simp; omega)]
  go_loopg [43] t.kids.length (fun g v wr => ∃ (i : Nat) (ci : Int), v = .int .i64 i ∧ i + g = t.kids.length ∧ c + 1 ≤ ci ∧ ci ≤ 400 ∧ scanL t.er.kids (deep + 1) (c + 1) = scanL (t.er.kids.drop i) (deep + 1) ci ∧
   St w (· = p) Z [blk bx [.int .i64 t.k, .int .i64 t.n, .slice t.a t.kids.length t.cap] 25, blk p [.int .i64 ci] 3] (rdF t) wr)
  case atStart => exact ⟨0, c + 1, rfl, by omega, by omega, by omega, rfl, H⟩
  case round =>
   clear H
   obtain ⟨i, ci, rfl, hi, hci, hci2, hsc, H⟩ := hrel
   by_cases hlt : i < t.kids.length
   ·have hu : t.kids[i]? = some t.kids[i] := List.getElem?_eq_getElem hlt
    obtain ⟨b, off, ha⟩ := hr.addr hu
    generalize t.kids[i] = u at hu
    have hmem : u ∈ t.kids := List.mem_of_getElem? hu
    have hdrop : t.er.kids.drop i = u.er :: t.er.kids.drop (i + 1) := by
     rw [HT.er_kids, List.drop_eq_getElem_cons (by simpa using hlt)]
     congr 1
     rw [List.getElem_map]
     rw [List.getElem?_eq_getElem hlt] at hu
     rw [Option.some.inj hu]
    have hb := scanF_bd u.er (deep + 1) ci
    rw [hdrop, scanL] at hsc
    repeat' ((first | (refine T_nil ?_) | ((first | apply U0 | (apply U1; (case hd => decide +kernel)) | (apply U2 (hw := H); (case hd => decide +kernel)) | (apply U3 1; (case hp => rfl); (case hd => decide +kernel)) | (apply U3 2; (case hp => rfl); (case hd => decide +kernel)) | (apply U3 3; (case hp => rfl); (case hd => decide +kernel)) | (apply U3 4; (case hp => rfl); (case hd => decide +kernel)) | (apply U3 5; (case hp => rfl); (case hd => decide +kernel)) | (apply U3 6; (case hp => rfl); (case hd => decide +kernel)) | (apply U3 7; (case hp => rfl); (case hd => decide +kernel)) | (apply U3 8; (case hp => rfl); (case hd => decide +kernel)) | (apply U3 9; (case hp => rfl); (case hd => decide +kernel)) | (apply U3 10; (case hp => rfl); (case hd => decide +kernel)) | (apply U3 11; (case hp => rfl); (case hd => decide +kernel))); (case hg => rfl); (case hy => (first | (apply Yi.a; constructor; all_goals (first | rfl | (constructor <;> omega) | (apply CellIs.own; (case h => repeat constructor); rfl) | (apply Cell3.own; (case h => repeat constructor); all_goals rfl) | exact ha | exact .mk fun w h => (Rd.elem h.per ha hu).1)) | (apply Yi.b; constructor; all_goals (first | rfl | (constructor <;> omega) | (apply CellIs.own; (case h => repeat constructor); rfl) | (apply Cell3.own; (case h => repeat constructor); all_goals rfl) | exact ha | exact .mk fun w h => (Rd.elem h.per ha hu).1)) | (apply Yi.c; constructor; all_goals (first | rfl | (constructor <;> omega) | (apply CellIs.own; (case h => repeat constructor); rfl) | (apply Cell3.own; (case h => repeat constructor); all_goals rfl) | exact ha | exact .mk fun w h => (Rd.elem h.per ha hu).1))))) | ((first | apply V0 | apply V1 | apply V2 (hw := H)); (case hg => rfl); try decide +kernel) | ((first | refine G0 H ?_ | (refine G1 H (fun _ _ _ _ h => h) (by decide +kernel) ?_; clear H; intro _ H)); simp only [enum, Nat.reduceAdd]) | (apply B0 (hw := H); (case hg => rfl); (case hd => first | exact hd_false | decide +kernel); (case hx => rfl); (case hc => rfl); clear H; intro bx _ H) | (apply B1 (hw := H); (case hg => rfl); (case hd => first | exact hd_false | decide +kernel); clear H; intro ax _ H) | ((apply W0 (hw := H); (case hg => rfl); (case hd => first | exact hd_false | decide +kernel); (case hx => rfl); (case hy => rfl); (case hc => rfl); (case hn => repeat constructor); (case h1 => rfl); clear H; intro _ H; (try dsimp only at H); try simp only [putL, List.set_cons_succ, List.set_cons_zero, evalT, evalC, List.getD_cons_succ, List.getD_cons_zero, Nat.zero_add, Nat.reduceAdd] at H)) | ((apply C1; (case hg => rfl); (case hd => first | exact hd_false | decide +kernel); (case hxs => rfl); (case hc => exact ih u hmem (deep + 1) ci p _ _ (Rd.elem H.per ha hu).2 (H.get at2) (fun hz => hz.2 _ (List.mem_of_getElem? at2) rfl) (by omega) (by omega) (by omega) (by omega)); rintro _ _ ⟨rfl, hx, hp⟩; replace H := (H.upd at2 hx (blk_local _ _ _) hp (fun b hb => ⟨.inl hb, by cases hb; exact lt_of_get hp⟩)); (try simp only [List.set_cons_succ, List.set_cons_zero] at H); refine ⟨_, rfl, _, (by first | exact fun _ _ h => h | exact fun _ _ h => h.tail | exact fun _ _ h => h.unfact (by repeat' (first | exact Stable.true | exact rdF_stable _ | exact iF_stable _ _ | apply Stable.and)) (fun _ _ h => h.2) | exact nofun), H, ?_⟩)) | go_step | (apply X0; (case hy => rfl); all_goals (intro hb; simp only [hb]; (try simp only [decide_eq_true_eq, decide_eq_false_iff_not, Bool.not_eq_true', Bool.not_eq_false', Bool.and_eq_true, Bool.or_eq_true, Bool.and_eq_false_iff, Bool.or_eq_false_iff] at hb); try (exfalso; omega)))) <;> try simp only [List.getElem_toArray, List.getElem_cons_zero, List.getElem_cons_succ, Act.put, evalT, evalC, evalF, List.setIfInBounds_toArray, List.set_cons_succ, List.set_cons_zero, List.getD_cons_succ, List.getD_cons_zero, Nat.reduceAdd, Nat.reduceMul, Nat.add_zero, Nat.zero_add, Int.toNat_natCast, Int.reduceToNat, List.eraseIdx_cons_succ, List.eraseIdx_cons_zero, cond_true, cond_false])
    ·have hf : (!(scanF u.er (deep + 1) ci).1) = true := by assumption
     ((try simp only [Exit.inBlock, Exit.then]); refine ret_post (res1 rfl (R_tmp rfl)) ?_; try simp only [List.getD_cons_succ, List.getD_cons_zero])
     rw [hs, hsc, if_neg (by simpa using hf)]
     exact ⟨rfl, H.ext, H.get at2⟩
    ·have hf : (!(scanF u.er (deep + 1) ci).1) = false := by assumption
     simp only [Bool.not_eq_false'] at hf
     rw [if_pos hf] at hsc
     have hb2 := hb hf
     go_roundg (gk - 1)
     case measure => omega
     case rel => exact ⟨i + 1, (scanF u.er (deep + 1) ci).2, by simp, by omega, by omega, by omega, hsc, H.tail⟩
   ·have h0 : i = t.kids.length := by omega
    rw [List.drop_of_length_le (by rw [HT.er_kids]; simp; omega), scanL] at hsc
    have hlt' : ¬ ((i : Int) < t.kids.length) := by omega
    repeat' ((first | (refine T_nil ?_) | ((first | apply U0 | (apply U1; (case hd => decide +kernel)) | (apply U2 (hw := H); (case hd => decide +kernel)) | (apply U3 1; (case hp => rfl); (case hd => decide +kernel)) | (apply U3 2; (case hp => rfl); (case hd => decide +kernel)) | (apply U3 3; (case hp => rfl); (case hd => decide +kernel)) | (apply U3 4; (case hp => rfl); (case hd => decide +kernel)) | (apply U3 5; (case hp => rfl); (case hd => decide +kernel)) | (apply U3 6; (case hp => rfl); (case hd => decide +kernel)) | (apply U3 7; (case hp => rfl); (case hd => decide +kernel)) | (apply U3 8; (case hp => rfl); (case hd => decide +kernel)) | (apply U3 9; (case hp => rfl); (case hd => decide +kernel)) | (apply U3 10; (case hp => rfl); (case hd => decide +kernel)) | (apply U3 11; (case hp => rfl); (case hd => decide +kernel))); (case hg => rfl); (case hy => (first | (apply Yi.a; constructor; all_goals (first | rfl | (constructor <;> omega) | (apply CellIs.own; (case h => repeat constructor); rfl) | (apply Cell3.own; (case h => repeat constructor); all_goals rfl))) | (apply Yi.b; constructor; all_goals (first | rfl | (constructor <;> omega) | (apply CellIs.own; (case h => repeat constructor); rfl) | (apply Cell3.own; (case h => repeat constructor); all_goals rfl))) | (apply Yi.c; constructor; all_goals (first | rfl | (constructor <;> omega) | (apply CellIs.own; (case h => repeat constructor); rfl) | (apply Cell3.own; (case h => repeat constructor); all_goals rfl)))))) | ((first | apply V0 | apply V1 | apply V2 (hw := H)); (case hg => rfl); try decide +kernel) | ((first | refine G0 H ?_ | (refine G1 H (fun _ _ _ _ h => h) (by decide +kernel) ?_; clear H; intro _ H)); simp only [enum, Nat.reduceAdd]) | (apply B0 (hw := H); (case hg => rfl); (case hd => first | exact hd_false | decide +kernel); (case hx => rfl); (case hc => rfl); clear H; intro bx _ H) | (apply B1 (hw := H); (case hg => rfl); (case hd => first | exact hd_false | decide +kernel); clear H; intro ax _ H) | go_step | (apply X0; (case hy => rfl); all_goals (intro hb; simp only [hb]; (try simp only [decide_eq_true_eq, decide_eq_false_iff_not, Bool.not_eq_true', Bool.not_eq_false', Bool.and_eq_true, Bool.or_eq_true, Bool.and_eq_false_iff, Bool.or_eq_false_iff] at hb); try (exfalso; omega)))) <;> try simp only [List.getElem_toArray, List.getElem_cons_zero, List.getElem_cons_succ, Act.put, evalT, evalC, evalF, List.setIfInBounds_toArray, List.set_cons_succ, List.set_cons_zero, List.getD_cons_succ, List.getD_cons_zero, Nat.reduceAdd, Nat.reduceMul, Nat.add_zero, Nat.zero_add, Int.toNat_natCast, Int.reduceToNat, List.eraseIdx_cons_succ, List.eraseIdx_cons_zero, cond_true, cond_false])
    ((try simp only [Exit.inBlock, Exit.then]); refine ret_post (res1 rfl (R_tmp rfl)) ?_; try simp only [List.getD_cons_succ, List.getD_cons_zero])
    rw [hs, hsc]
    exact ⟨rfl, H.ext, H.get at1⟩
set_option maxRecDepth 100000 in
set_option maxHeartbeats 1000000 in
theorem iw_TermValid (t : HT) (Z : Zone) (w : World) (hr : Rd Z w t) : Calls Try.prog 38 #[t.val] w fun e w' => e = .returned (.bool (validB t.er)) ∧ Grow w w' := by
 have H := St.init w noneZ Z (rdF_stable t) hr
 go_enter Try.func38, Try.ntmps38
 repeat' ((first | (refine T_nil ?_) | ((first | apply U0 | (apply U1; (case hd => decide +kernel)) | (apply U2 (hw := H); (case hd => decide +kernel)) | (apply U3 1; (case hp => rfl); (case hd => decide +kernel)) | (apply U3 2; (case hp => rfl); (case hd => decide +kernel)) | (apply U3 3; (case hp => rfl); (case hd => decide +kernel)) | (apply U3 4; (case hp => rfl); (case hd => decide +kernel)) | (apply U3 5; (case hp => rfl); (case hd => decide +kernel)) | (apply U3 6; (case hp => rfl); (case hd => decide +kernel)) | (apply U3 7; (case hp => rfl); (case hd => decide +kernel)) | (apply U3 8; (case hp => rfl); (case hd => decide +kernel)) | (apply U3 9; (case hp => rfl); (case hd => decide +kernel)) | (apply U3 10; (case hp => rfl); (case hd => decide +kernel)) | (apply U3 11; (case hp => rfl); (case hd => decide +kernel))); (case hg => rfl); (case hy => (first | (apply Yi.a; constructor; all_goals (first | rfl | (constructor <;> omega) | (apply CellIs.own; (case h => repeat constructor); rfl) | (apply Cell3.own; (case h => repeat constructor); all_goals rfl))) | (apply Yi.b; constructor; all_goals (first | rfl | (constructor <;> omega) | (apply CellIs.own; (case h => repeat constructor); rfl) | (apply Cell3.own; (case h => repeat constructor); all_goals rfl))) | (apply Yi.c; constructor; all_goals (first | rfl | (constructor <;> omega) | (apply CellIs.own; (case h => repeat constructor); rfl) | (apply Cell3.own; (case h => repeat constructor); all_goals rfl)))))) | ((first | apply V0 | apply V1 | apply V2 (hw := H)); (case hg => rfl); try decide +kernel) | ((first | refine G0 H ?_ | (refine G1 H (fun _ _ _ _ h => h) (by decide +kernel) ?_; clear H; intro _ H)); simp only [enum, Nat.reduceAdd]) | (apply B0 (hw := H); (case hg => rfl); (case hd => first | exact hd_false | decide +kernel); (case hx => rfl); (case hc => rfl); clear H; intro bx _ H) | (apply B1 (hw := H); (case hg => rfl); (case hd => first | exact hd_false | decide +kernel); clear H; intro ax _ H) | ((apply W0 (hw := H); (case hg => rfl); (case hd => first | exact hd_false | decide +kernel); (case hx => rfl); (case hy => rfl); (case hc => rfl); (case hn => repeat constructor); (case h1 => rfl); clear H; intro _ H; (try dsimp only at H); try simp only [putL, List.set_cons_succ, List.set_cons_zero, evalT, evalC, List.getD_cons_succ, List.getD_cons_zero, Nat.zero_add, Nat.reduceAdd] at H)) | ((apply C1; (case hg => rfl); (case hd => first | exact hd_false | decide +kernel); (case hxs => rfl); (case hc => exact iw_scan t 1 0 _ _ _ H.per (H.get at0) (fun hz => hz.2 _ (List.mem_of_getElem? at0) rfl) (by omega) (by omega) (by omega) (by omega)); rintro _ _ ⟨rfl, hx, hp⟩; replace H := (H.upd at0 hx (blk_local _ _ _) hp (fun b hb => ⟨.inl hb, by cases hb; exact lt_of_get hp⟩)); (try simp only [List.set_cons_succ, List.set_cons_zero] at H); refine ⟨_, rfl, _, (by first | exact fun _ _ h => h | exact fun _ _ h => h.tail | exact fun _ _ h => h.unfact (by repeat' (first | exact Stable.true | exact rdF_stable _ | exact iF_stable _ _ | apply Stable.and)) (fun _ _ h => h.2) | exact nofun), H, ?_⟩)) | go_step | (apply X0; (case hy => rfl); all_goals (intro hb; simp only [hb]; (try simp only [decide_eq_true_eq, decide_eq_false_iff_not, Bool.not_eq_true', Bool.not_eq_false', Bool.and_eq_true, Bool.or_eq_true, Bool.and_eq_false_iff, Bool.or_eq_false_iff] at hb); try (exfalso; omega)))) <;> try simp only [List.getElem_toArray, List.getElem_cons_zero, List.getElem_cons_succ, Act.put, evalT, evalC, evalF, List.setIfInBounds_toArray, List.set_cons_succ, List.set_cons_zero, List.getD_cons_succ, List.getD_cons_zero, Nat.reduceAdd, Nat.reduceMul, Nat.add_zero, Nat.zero_add, Int.toNat_natCast, Int.reduceToNat, List.eraseIdx_cons_succ, List.eraseIdx_cons_zero, cond_true, cond_false])
 ((try simp only [Exit.inBlock, Exit.then]); refine ret_post (res1 rfl (R_tmp rfl)) ?_; try simp only [List.getD_cons_succ, List.getD_cons_zero])
 rw [scan_valid]
 (first | exact ⟨rfl, H.ext⟩ | exact ⟨trivial, H.ext⟩)
end Go.Proofs.Ytgchmppmecnniaa
end
section
namespace Go.Dk
open Go
section
variable {P : Program} {ops : Array Oper} {Q : Exit → Act → World → Prop} {dr : Bool} {fu k : Nat} {rest : List (Nat × Oper)} {a : Act} {w w0 : World} {M Z0 : Zone} {L : List Res} {φ : Fact}
 {d : Option Tmp} {ty : TypeId} {pos : String} {aft : Array Edge} {gd : Option (Nat × Bool)} {x y : Operand} {t t' : TypeId}
theorem A0 {e sz by_ i n m c : Nat} {v : Value} {ad : Addr} {xs news : List Value} [hp : AP P t e sz by_] (hw : St w0 M Z0 L φ w)
   (hg : Region.wanted ⟨d, .call ⟨.builtin .append, #[x, y], #[t, t]⟩, ty, pos, aft, gd⟩ (yielded ops a.tmps) = true)
   (hd : (!dr || (soleB ops ((k, ⟨d, .call ⟨.builtin .append, #[x, y], #[t, t]⟩, ty, pos, aft, gd⟩) :: rest) k ⟨d, .call ⟨.builtin .append, #[x, y], #[t, t]⟩, ty, pos, aft, gd⟩ && covB ops ((k, ⟨d, .call ⟨.builtin .append, #[x, y], #[t, t]⟩, ty, pos, aft, gd⟩) :: rest) ⟨d, .call ⟨.builtin .append, #[x, y], #[t, t]⟩, ty, pos, aft, gd⟩)) = true)
   (hx : a.eval x = v) (hy : a.eval y = .slice (some ad) m c) (hi : L[i]? = some (rowR e sz v n xs)) (hl : news.length = m * sz)
   (hnews : ∀ j u, news[j]? = some u → w.cell? (ad.add j) = some u) (h1 : news.all (·.oneCell') = true) (hbytes : (n + m) * by_ ≤ 140737488355328) (h63 : n + m ≤ 9223372036854775807)
   (h : ∀ a' c' w', St w0 M Z0 (L.set i (rowR e sz (.slice a' (n + m) c') (n + m) (xs ++ news))) φ w' → wpT P ops Q dr fu (St w0 M Z0 (L.set i (rowR e sz (.slice a' (n + m) c') (n + m) (xs ++ news))) φ) rest (a.put d (.slice a' (n + m) c')) w') :
   wpT P ops Q dr (fu + 1) (St w0 M Z0 L φ) ((k, ⟨d, .call ⟨.builtin .append, #[x, y], #[t, t]⟩, ty, pos, aft, gd⟩) :: rest) a w := by
 have hown : w.ownsRow 0 e sz v n xs := hw.own _ (List.mem_of_getElem? hi)
 obtain ⟨v', w', hr, ho, hgb, hfb⟩ := run_append_row (P := P) w t ty hp.out v n xs hown ad m c news hl hnews (by simpa using h1) hbytes h63
 have hs : St w0 M Z0 (L.set i (rowR e sz v' (n + m) (xs ++ news))) φ w' := hw.upd hi (grownBy_ext hgb) (rowR_local e sz v' _ _) ho (fun b hb => ⟨hfb b hb, (ho.lt b hb).2⟩)
 obtain ⟨a', c', rfl⟩ : ∃ a' c', v' = .slice a' (n + m) c' := by
  rcases ho.2 with ⟨rfl, h0⟩ | ⟨g, cap, cur, rfl, _⟩
  ·exact ⟨_, _, by rw [h0]⟩
  ·exact ⟨_, _, rfl⟩
 refine T_goC (v := .slice a' (n + m) c') (w' := w') hd hg ?_ hs (h _ _ _ hs)
 have hev : (#[x, y] : Array Operand).map a.eval = #[v, .slice (some ad) m c] := by simp [hx, hy]
 unfold execOp
 simp only [resolve, invoke, builtin, Sem.run_bind, Sem.run_pure, Result.andThen_ok, List.map_toArray, List.map_cons, List.map_nil, hx, hy, hr]
theorem A1 {e sz by_ i p sb n m c : Nat} {v : Value} {xs news : List Value} [hp : AP P t e sz by_] (hw : St w0 M Z0 L φ w)
   (hg : Region.wanted ⟨d, .call ⟨.builtin .append, #[x, y], #[t, t]⟩, ty, pos, aft, gd⟩ (yielded ops a.tmps) = true)
   (hd : (!dr || (soleB ops ((k, ⟨d, .call ⟨.builtin .append, #[x, y], #[t, t]⟩, ty, pos, aft, gd⟩) :: rest) k ⟨d, .call ⟨.builtin .append, #[x, y], #[t, t]⟩, ty, pos, aft, gd⟩ && covB ops ((k, ⟨d, .call ⟨.builtin .append, #[x, y], #[t, t]⟩, ty, pos, aft, gd⟩) :: rest) ⟨d, .call ⟨.builtin .append, #[x, y], #[t, t]⟩, ty, pos, aft, gd⟩)) = true)
   (hx : a.eval x = v) (hy : a.eval y = .slice (some ⟨sb, 0, none⟩) m c) (hi : L[i]? = some (rowR e sz v n xs)) (hq : L[p]? = some (blk sb news e)) (hl : news.length = m * sz)
   (h1 : news.all (·.oneCell') = true) (hbytes : (n + m) * by_ ≤ 140737488355328) (h63 : n + m ≤ 9223372036854775807)
   (h : ∀ a' c' w', St w0 M Z0 (L.set i (rowR e sz (.slice a' (n + m) c') (n + m) (xs ++ news))) φ w' → wpT P ops Q dr fu (St w0 M Z0 (L.set i (rowR e sz (.slice a' (n + m) c') (n + m) (xs ++ news))) φ) rest (a.put d (.slice a' (n + m) c')) w') :
   wpT P ops Q dr (fu + 1) (St w0 M Z0 L φ) ((k, ⟨d, .call ⟨.builtin .append, #[x, y], #[t, t]⟩, ty, pos, aft, gd⟩) :: rest) a w :=
 A0 hw hg hd hx hy hi hl (fun j u hj => by rw [addr_add, Nat.zero_add]; exact hw.cell hq hj) h1 hbytes h63 h
theorem C2 {f : FuncId} {xs : List Operand} {ats : Array TypeId} {vs : List Value} {R : Ending → World → Prop} {S : World → Prop} [hf : CB P f]
   (hg : Region.wanted ⟨d, .call ⟨.value (.func f), xs.toArray, ats⟩, ty, pos, aft, gd⟩ (yielded ops a.tmps) = true) (hd : (!dr || (soleB ops ((k, ⟨d, .call ⟨.value (.func f), xs.toArray, ats⟩, ty, pos, aft, gd⟩) :: rest) k ⟨d, .call ⟨.value (.func f), xs.toArray, ats⟩, ty, pos, aft, gd⟩ && covB ops ((k, ⟨d, .call ⟨.value (.func f), xs.toArray, ats⟩, ty, pos, aft, gd⟩) :: rest) ⟨d, .call ⟨.value (.func f), xs.toArray, ats⟩, ty, pos, aft, gd⟩)) = true)
   (hxs : xs.map a.eval = vs) (hc : Calls P f vs.toArray w R)
   (h : ∀ e w', R e w' → ∃ v, e = .returned v ∧ ∃ S' : World → Prop, S' w' ∧ wpT P ops Q dr fu S' rest (a.put d v) w') :
   wpT P ops Q dr (fu + 1) S ((k, ⟨d, .call ⟨.value (.func f), xs.toArray, ats⟩, ty, pos, aft, gd⟩) :: rest) a w := .inr (.inl ⟨by cases dr <;> simp_all, by
 unfold wpO; rw [if_pos hg]; refine .inl ?_
 have hx : (execOp a.eval ⟨d, .call ⟨.value (.func f), xs.toArray, ats⟩, ty, pos, aft, gd⟩).run P w = .ok (.enter f vs.toArray) w := by
  rw [run_call_op (first := #[]) (cap := #[]) rfl hf.out, ← hxs]
  simp
 simp only [Oper.wp, hx, Oper.upon]
 refine hc.mono fun e w' hr => ?_
 obtain ⟨v, rfl, S', h1, h2⟩ := h e w' hr
 exact ⟨S', fun e => .inl (by subst e; simp_all), h1, h2⟩⟩)
def wpD (P : Program) (ops : Array Oper) (Q : Exit → Act → World → Prop) (fu : Nat) (S : World → Prop) (o : Oper) (rest : List (Nat × Oper)) (a : Act) (w : World) : Prop :=
 wpO P ops Q o (fun a' w' => ∃ S' : World → Prop, (∀ w, S' w → S w) ∧ S' w' ∧ wpT P ops Q true fu S' rest a' w') a w
theorem T_duo {S : World → Prop} {o : Oper} (p : Nat) {kk : Nat} (hp : rest[p]? = some (kk, ⟨d, .alloc t, ty, pos, aft, gd⟩)) (hd : duoB ops ((k, o) :: rest) k o kk ⟨d, .alloc t, ty, pos, aft, gd⟩ = true) (h1 : wpD P ops Q fu S o rest a w) (h2 : wpD P ops Q fu S ⟨d, .alloc t, ty, pos, aft, gd⟩ ((k, o) :: rest.eraseIdx p) a w) :
   wpT P ops Q true (fu + 1) S ((k, o) :: rest) a w := .inr (.inr ⟨rfl, p, (kk, ⟨d, .alloc t, ty, pos, aft, gd⟩), hp, hd, h1, h2⟩)
theorem B4 {cs : List Value} [hz : ZR P t cs] (hw : St w0 M Z0 L φ w) (hg : Region.wanted ⟨d, .alloc t, ty, pos, aft, gd⟩ (yielded ops a.tmps) = true)
   (h : ∀ b w', St w0 M Z0 (blk b cs t :: L) φ w' → wpT P ops Q true fu (St w0 M Z0 (blk b cs t :: L) φ) rest (a.put d (.pointer (some ⟨b, 0, none⟩))) w') : wpD P ops Q fu (St w0 M Z0 L φ) ⟨d, .alloc t, ty, pos, aft, gd⟩ rest a w := by
 have hs := hw.alloc cs t
 have hzz := hz.out
 have hx : (execOp a.eval ⟨d, .alloc t, ty, pos, aft, gd⟩).run P w = .ok (.value (.pointer (some ⟨w.heap.size, 0, none⟩))) (w.alloc (.cells cs.toArray t (0, 0))) := by
  unfold zeroB at hzz
  split at hzz
  ·rename_i i hi
   split at hzz
   ·rename_i z hz0
    obtain rfl := Option.some.inj hzz
    have hzv : (zeroValue t).run P w = .ok z w := by
     simp only [zeroValue, Sem.run_bind, run_typeInfo hi, Result.andThen_ok, hz0, Sem.run_pure]
    simp only [execOp, Instr.alloc, Sem.run_bind, hzv, run_newVar, Result.andThen_ok, Sem.run_pure, Array.toArray_toList]
   ·cases hzz
  ·cases hzz
 unfold wpD wpO
 rw [if_pos hg]
 refine .inl ?_
 simp only [Oper.wp, hx, Oper.upon]
 exact ⟨_, fun _ h => h.tail, hs, h _ _ hs⟩
theorem C3 {f : FuncId} {xs : List Operand} {ats : Array TypeId} {vs : List Value} {R : Ending → World → Prop} {S : World → Prop} [hf : CB P f]
   (hg : Region.wanted ⟨d, .call ⟨.value (.func f), xs.toArray, ats⟩, ty, pos, aft, gd⟩ (yielded ops a.tmps) = true) (hxs : xs.map a.eval = vs) (hc : Calls P f vs.toArray w R)
   (h : ∀ e w', R e w' → ∃ v, e = .returned v ∧ ∃ S' : World → Prop, (∀ w, S' w → S w) ∧ S' w' ∧ wpT P ops Q true fu S' rest (a.put d v) w') : wpD P ops Q fu S ⟨d, .call ⟨.value (.func f), xs.toArray, ats⟩, ty, pos, aft, gd⟩ rest a w := by
 unfold wpD wpO
 rw [if_pos hg]; refine .inl ?_
 have hx : (execOp a.eval ⟨d, .call ⟨.value (.func f), xs.toArray, ats⟩, ty, pos, aft, gd⟩).run P w = .ok (.enter f vs.toArray) w := by
  rw [run_call_op (first := #[]) (cap := #[]) rfl hf.out, ← hxs]
  simp
 simp only [Oper.wp, hx, Oper.upon]
 refine hc.mono fun e w' hr => ?_
 obtain ⟨v, rfl, S', h1, h2⟩ := h e w' hr
 exact ⟨S', h1, h2⟩
end
end Go.Dk
namespace Go.Dk
open Go
theorem merge4 {G : Prop} {Q : Exit → Act → World → Prop} {F : HT → Nat → HT → HT → Nat → Act} {w0 : World} {M Z0 : Zone} {L : List Res} {E : TypeId} (Φ : HT → Nat → HT → HT → Fact) (p : HT → Nat → HT → HT → Prop)
   (h1 : (∀ a n b c ax w', p a n b c → St w0 M Z0 (blk ax [.int .i64 c.k, .int .i64 c.n, .slice c.a c.kids.length c.cap] E :: L) (Φ a n b c) w' → Q .normal (F a n b c ax) w') → G)
   (h2 : ∀ a n b c ax w', p a n b c → St w0 M Z0 (blk ax [.int .i64 c.k, .int .i64 c.n, .slice c.a c.kids.length c.cap] E :: L) (Φ a n b c) w' → Q .normal (F a n b c ax) w') : G := h1 h2
end Go.Dk
end
section
namespace Go.Proofs.Ytgchmppmecnniaa
open Go Go.Dk
set_option maxRecDepth 100000 in
set_option maxHeartbeats 1000000 in
theorem iw_own (t : HT) : ∀ (Z : Zone) (w : World), Rd Z w t → t.er.size ≤ 1000000 →
   Calls Try.prog 42 #[t.val] w fun e w' => ∃ u : HT, e = .returned u.val ∧ Grow w w' ∧ Own w w' u ∧ u.er = t.er := by
 induction t using HT.ind with | h t ih =>
 intro Z w hr hsz
 have H := St.init w noneZ Z (rdF_stable t) hr
 have hlen := hr.len
 have hsl := T.sizeL_len t.er.kids
 rw [T.size_eq] at hsz
 rw [HT.er_len] at hsl
 go_enter Try.func42, Try.ntmps42
 repeat' ((first | (refine T_nil ?_) | ((first | apply U0 | (apply U1; (case hd => decide +kernel)) | (apply U2 (hw := H); (case hd => decide +kernel)) | (apply U3 1; (case hp => rfl); (case hd => decide +kernel)) | (apply U3 2; (case hp => rfl); (case hd => decide +kernel)) | (apply U3 3; (case hp => rfl); (case hd => decide +kernel)) | (apply U3 4; (case hp => rfl); (case hd => decide +kernel)) | (apply U3 5; (case hp => rfl); (case hd => decide +kernel)) | (apply U3 6; (case hp => rfl); (case hd => decide +kernel)) | (apply U3 7; (case hp => rfl); (case hd => decide +kernel)) | (apply U3 8; (case hp => rfl); (case hd => decide +kernel)) | (apply U3 9; (case hp => rfl); (case hd => decide +kernel)) | (apply U3 10; (case hp => rfl); (case hd => decide +kernel)) | (apply U3 11; (case hp => rfl); (case hd => decide +kernel))); (case hg => rfl); (case hy => (first | (apply Yi.a; constructor; all_goals (first | rfl | (constructor <;> omega) | (apply CellIs.own; (case h => repeat constructor); rfl) | (apply Cell3.own; (case h => repeat constructor); all_goals rfl))) | (apply Yi.b; constructor; all_goals (first | rfl | (constructor <;> omega) | (apply CellIs.own; (case h => repeat constructor); rfl) | (apply Cell3.own; (case h => repeat constructor); all_goals rfl))) | (apply Yi.c; constructor; all_goals (first | rfl | (constructor <;> omega) | (apply CellIs.own; (case h => repeat constructor); rfl) | (apply Cell3.own; (case h => repeat constructor); all_goals rfl)))))) | ((first | apply V0 | apply V1 | apply V2 (hw := H)); (case hg => rfl); try decide +kernel) | ((first | refine G0 H ?_ | (refine G1 H (fun _ _ _ _ h => h) (by decide +kernel) ?_; clear H; intro _ H)); simp only [enum, Nat.reduceAdd]) | (apply B0 (hw := H); (case hg => rfl); (case hd => first | exact hd_false | decide +kernel); (case hx => rfl); (case hc => rfl); clear H; intro bx _ H) | (apply B1 (hw := H); (case hg => rfl); (case hd => first | exact hd_false | decide +kernel); clear H; intro ax _ H) | ((apply W0 (hw := H); (case hg => rfl); (case hd => first | exact hd_false | decide +kernel); (case hx => rfl); (case hy => rfl); (case hc => rfl); (case hn => repeat constructor); (case h1 => rfl); clear H; intro _ H; (try dsimp only at H); try simp only [putL, List.set_cons_succ, List.set_cons_zero, evalT, evalC, List.getD_cons_succ, List.getD_cons_zero, Nat.zero_add, Nat.reduceAdd] at H)) | go_step | (apply X0; (case hy => rfl); all_goals (intro hb; simp only [hb]; (try simp only [decide_eq_true_eq, decide_eq_false_iff_not, Bool.not_eq_true', Bool.not_eq_false', Bool.and_eq_true, Bool.or_eq_true, Bool.and_eq_false_iff, Bool.or_eq_false_iff] at hb); try (exfalso; omega)))) <;> try simp only [List.getElem_toArray, List.getElem_cons_zero, List.getElem_cons_succ, Act.put, evalT, evalC, evalF, List.setIfInBounds_toArray, List.set_cons_succ, List.set_cons_zero, List.getD_cons_succ, List.getD_cons_zero, Nat.reduceAdd, Nat.reduceMul, Nat.add_zero, Nat.zero_add, Int.toNat_natCast, Int.reduceToNat, List.eraseIdx_cons_succ, List.eraseIdx_cons_zero, cond_true, cond_false])
 rename_i rb _ _ _ _ _
 have H := (H.pushRow 25 3).pushNone
 go_loopg [14] t.kids.length (fun g v wr => ∃ (i : Nat) (us : List HT) (sa : Option Addr) (sc : Nat), v = .int .i64 i ∧ i + g = t.kids.length ∧ us.length = i ∧ us.map HT.er ++ t.er.kids.drop i = t.er.kids ∧
  St w noneZ Z [kidsR us, rowR 25 3 (.slice sa i sc) i (flatT us), blk ax [.int .i64 t.k, .int .i64 t.n, .slice sa i sc] 25, blk rb [.int .i64 0, .int .i64 0, .slice none 0 0] 25] (rdF t) wr)
 case atStart => exact ⟨0, [], _, _, rfl, by omega, rfl, by simp, H.drop 4⟩
 case round =>
  clear H
  obtain ⟨i, us, sa, sc, rfl, hi, hus, hsum, H⟩ := hrel
  by_cases hlt : i < t.kids.length
  ·have hu : t.kids[i]? = some t.kids[i] := List.getElem?_eq_getElem hlt
   obtain ⟨b, off, ha⟩ := hr.addr hu
   generalize t.kids[i] = u at hu
   have hmem : u ∈ t.kids := List.mem_of_getElem? hu
   have hsub := ih u hmem
   have hsu : u.er.size ≤ 1000000 := by have := HT.sizeL_kid hmem; rw [T.size_eq]; omega
   subst hus
   repeat' ((first | (refine T_nil ?_) | ((first | apply U0 | (apply U1; (case hd => decide +kernel)) | (apply U2 (hw := H); (case hd => decide +kernel)) | (apply U3 1; (case hp => rfl); (case hd => decide +kernel)) | (apply U3 2; (case hp => rfl); (case hd => decide +kernel)) | (apply U3 3; (case hp => rfl); (case hd => decide +kernel)) | (apply U3 4; (case hp => rfl); (case hd => decide +kernel)) | (apply U3 5; (case hp => rfl); (case hd => decide +kernel)) | (apply U3 6; (case hp => rfl); (case hd => decide +kernel)) | (apply U3 7; (case hp => rfl); (case hd => decide +kernel)) | (apply U3 8; (case hp => rfl); (case hd => decide +kernel)) | (apply U3 9; (case hp => rfl); (case hd => decide +kernel)) | (apply U3 10; (case hp => rfl); (case hd => decide +kernel)) | (apply U3 11; (case hp => rfl); (case hd => decide +kernel))); (case hg => rfl); (case hy => (first | (apply Yi.a; constructor; all_goals (first | rfl | (constructor <;> omega) | (apply CellIs.own; (case h => repeat constructor); rfl) | (apply Cell3.own; (case h => repeat constructor); all_goals rfl) | exact ha | exact .mk fun w h => (Rd.elem h.per ha hu).1)) | (apply Yi.b; constructor; all_goals (first | rfl | (constructor <;> omega) | (apply CellIs.own; (case h => repeat constructor); rfl) | (apply Cell3.own; (case h => repeat constructor); all_goals rfl) | exact ha | exact .mk fun w h => (Rd.elem h.per ha hu).1)) | (apply Yi.c; constructor; all_goals (first | rfl | (constructor <;> omega) | (apply CellIs.own; (case h => repeat constructor); rfl) | (apply Cell3.own; (case h => repeat constructor); all_goals rfl) | exact ha | exact .mk fun w h => (Rd.elem h.per ha hu).1))))) | ((first | apply V0 | apply V1 | apply V2 (hw := H)); (case hg => rfl); try decide +kernel) | ((first | refine G0 H ?_ | (refine G1 H (fun _ _ _ _ h => h) (by decide +kernel) ?_; clear H; intro _ H)); simp only [enum, Nat.reduceAdd]) | (apply B0 (hw := H); (case hg => rfl); (case hd => first | exact hd_false | decide +kernel); (case hx => rfl); (case hc => rfl); clear H; intro bx _ H) | (apply B1 (hw := H); (case hg => rfl); (case hd => first | exact hd_false | decide +kernel); clear H; intro ax _ H) | ((apply W0 (hw := H); (case hg => rfl); (case hd => first | exact hd_false | decide +kernel); (case hx => rfl); (case hy => rfl); (case hc => rfl); (case hn => repeat constructor); (case h1 => rfl); clear H; intro _ H; (try dsimp only at H); try simp only [putL, List.set_cons_succ, List.set_cons_zero, evalT, evalC, List.getD_cons_succ, List.getD_cons_zero, Nat.zero_add, Nat.reduceAdd] at H)) | ((apply C1; (case hg => rfl); (case hd => first | exact hd_false | decide +kernel); (case hxs => rfl); (case hc => exact hsub _ _ (Rd.elem H.per ha hu).2 hsu); rintro _ _ ⟨x, rfl, hg, ho, he⟩; replace H := H.pushTree hg ho; (try simp only [List.set_cons_succ, List.set_cons_zero] at H); refine ⟨_, rfl, _, (by first | exact fun _ _ h => h | exact fun _ _ h => h.tail | exact fun _ _ h => h.unfact (by repeat' (first | exact Stable.true | exact rdF_stable _ | exact iF_stable _ _ | apply Stable.and)) (fun _ _ h => h.2) | exact nofun), H, ?_⟩)) | ((apply B2 (hw := H); (case hg => rfl); (case hd => first | exact hd_false | decide +kernel); (case hvs => (simp only [List.map_cons, List.map_nil, evalT, evalC, List.getD_cons_succ, List.getD_cons_zero]; rfl)); (case hcs => (simp only [flatC, List.flatMap_cons, List.flatMap_nil, Value.cells, HT.val, List.cons_append, List.nil_append, List.append_nil]; rfl)); (case hix => rfl); (case hn => rfl); (case hsz => rfl); (case hb => rfl); clear H; intro sx _ H)) | ((apply A1 (hw := H) (i := 4) (p := 0); (case hg => rfl); (case hd => first | exact hd_false | decide +kernel); (case hx => rfl); (case hy => rfl); (case hi => rfl); (case hq => rfl); (case hl => rfl); (case h1 => rfl); (case hbytes => omega); (case h63 => omega); clear H; intro ra rc _ H; (try simp only [List.set_cons_succ, List.set_cons_zero] at H))) | go_step | (apply X0; (case hy => rfl); all_goals (intro hb; simp only [hb]; (try simp only [decide_eq_true_eq, decide_eq_false_iff_not, Bool.not_eq_true', Bool.not_eq_false', Bool.and_eq_true, Bool.or_eq_true, Bool.and_eq_false_iff, Bool.or_eq_false_iff] at hb); try (exfalso; omega)))) <;> try simp only [List.getElem_toArray, List.getElem_cons_zero, List.getElem_cons_succ, Act.put, evalT, evalC, evalF, List.setIfInBounds_toArray, List.set_cons_succ, List.set_cons_zero, List.getD_cons_succ, List.getD_cons_zero, Nat.reduceAdd, Nat.reduceMul, Nat.add_zero, Nat.zero_add, Int.toNat_natCast, Int.reduceToNat, List.eraseIdx_cons_succ, List.eraseIdx_cons_zero, cond_true, cond_false])
   rw [HT.er_drop hu] at hsum
   have H := (H.tail.drop 1).snoc
   go_roundg (gk - 1)
   case measure => omega
   case rel => exact ⟨us.length + 1, us ++ [x], _, _, by simp, by omega, by simp, by rw [List.map_append, List.append_assoc, List.map_cons, List.map_nil, he]; exact hsum, by rw [flatT_append]; exact H⟩
  ·have h0 : i = t.kids.length := by omega
   rw [List.drop_of_length_le (by rw [HT.er_len]; omega), List.append_nil] at hsum
   have hlt' : ¬ ((i : Int) < t.kids.length) := by omega
   obtain ⟨a, cap, hv, H⟩ := H.swap.plantRow rfl hus.symm t.k t.n
   obtain ⟨rfl, -, rfl⟩ : sa = a ∧ i = us.length ∧ sc = cap := by injection hv with h1 h2 h3; exact ⟨h1, h2, h3⟩
   repeat' ((first | (refine T_nil ?_) | ((first | apply U0 | (apply U1; (case hd => decide +kernel)) | (apply U2 (hw := H); (case hd => decide +kernel)) | (apply U3 1; (case hp => rfl); (case hd => decide +kernel)) | (apply U3 2; (case hp => rfl); (case hd => decide +kernel)) | (apply U3 3; (case hp => rfl); (case hd => decide +kernel)) | (apply U3 4; (case hp => rfl); (case hd => decide +kernel)) | (apply U3 5; (case hp => rfl); (case hd => decide +kernel)) | (apply U3 6; (case hp => rfl); (case hd => decide +kernel)) | (apply U3 7; (case hp => rfl); (case hd => decide +kernel)) | (apply U3 8; (case hp => rfl); (case hd => decide +kernel)) | (apply U3 9; (case hp => rfl); (case hd => decide +kernel)) | (apply U3 10; (case hp => rfl); (case hd => decide +kernel)) | (apply U3 11; (case hp => rfl); (case hd => decide +kernel))); (case hg => rfl); (case hy => (first | (apply Yi.a; constructor; all_goals (first | rfl | (constructor <;> omega) | (apply CellIs.own; (case h => repeat constructor); rfl) | (apply Cell3.own; (case h => repeat constructor); all_goals rfl))) | (apply Yi.b; constructor; all_goals (first | rfl | (constructor <;> omega) | (apply CellIs.own; (case h => repeat constructor); rfl) | (apply Cell3.own; (case h => repeat constructor); all_goals rfl))) | (apply Yi.c; constructor; all_goals (first | rfl | (constructor <;> omega) | (apply CellIs.own; (case h => repeat constructor); rfl) | (apply Cell3.own; (case h => repeat constructor); all_goals rfl)))))) | ((first | apply V0 | apply V1 | apply V2 (hw := H)); (case hg => rfl); try decide +kernel) | ((first | refine G0 H ?_ | (refine G1 H (fun _ _ _ _ h => h) (by decide +kernel) ?_; clear H; intro _ H)); simp only [enum, Nat.reduceAdd]) | (apply B0 (hw := H); (case hg => rfl); (case hd => first | exact hd_false | decide +kernel); (case hx => rfl); (case hc => rfl); clear H; intro bx _ H) | (apply B1 (hw := H); (case hg => rfl); (case hd => first | exact hd_false | decide +kernel); clear H; intro ax _ H) | ((apply W0 (hw := H); (case hg => rfl); (case hd => first | exact hd_false | decide +kernel); (case hx => rfl); (case hy => rfl); (case hc => rfl); (case hn => repeat constructor); (case h1 => rfl); clear H; intro _ H; (try dsimp only at H); try simp only [putL, List.set_cons_succ, List.set_cons_zero, evalT, evalC, List.getD_cons_succ, List.getD_cons_zero, Nat.zero_add, Nat.reduceAdd] at H)) | go_step | (apply X0; (case hy => rfl); all_goals (intro hb; simp only [hb]; (try simp only [decide_eq_true_eq, decide_eq_false_iff_not, Bool.not_eq_true', Bool.not_eq_false', Bool.and_eq_true, Bool.or_eq_true, Bool.and_eq_false_iff, Bool.or_eq_false_iff] at hb); try (exfalso; omega)))) <;> try simp only [List.getElem_toArray, List.getElem_cons_zero, List.getElem_cons_succ, Act.put, evalT, evalC, evalF, List.setIfInBounds_toArray, List.set_cons_succ, List.set_cons_zero, List.getD_cons_succ, List.getD_cons_zero, Nat.reduceAdd, Nat.reduceMul, Nat.add_zero, Nat.zero_add, Int.toNat_natCast, Int.reduceToNat, List.eraseIdx_cons_succ, List.eraseIdx_cons_zero, cond_true, cond_false])
   ((try simp only [Exit.inBlock, Exit.then]); refine ret_post (res1 rfl (R_cell rfl (load3 (ST3.out) (H.cell at2 rfl) (H.cell at2 rfl) (H.cell at2 rfl)))) ?_)
   refine ⟨.mk t.k t.n sa sc us, ?_, H.ext, H.outTree, ?_⟩
   ·simp only [HT.val, HT.k, HT.n, HT.a, HT.kids, HT.cap, hus]
   ·rw [HT.er_eq, HT.er_eq t]
    show T.mk t.k t.n (us.map HT.er) = _
    rw [hsum, HT.er_kids]
end Go.Proofs.Ytgchmppmecnniaa
end
