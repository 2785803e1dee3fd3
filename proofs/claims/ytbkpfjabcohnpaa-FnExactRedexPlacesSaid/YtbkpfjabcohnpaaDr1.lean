/- One operation over a memory of some objects alone. No program in sight. -/
import Derived.Test.YtbkpfjabcohnpaaNat
import Derived.Test.YtbkpfjabcohnpaaOp4
set_option linter.unusedVariables false
set_option linter.unusedSimpArgs false
namespace Go.Ab
open Go Go.Dk

section
variable {P : Program} {F : Callee} {D : Dec}
theorem map_congr_ops {α : Type} {ρ ρ' : Operand → α} {a : Array Operand} (h : ∀ x ∈ a, ρ x = ρ' x) : a.toList.map ρ = a.toList.map ρ' :=
  List.map_congr_left fun x hx => h x (by simpa using hx)
theorem evOp_congr {ρ ρ' : Operand → AV} {o : Oper} (h : ∀ x ∈ o.op.operands, ρ x = ρ' x) (hp : List AObj) (sl : Nat) (k : AV → List AObj → OR) :
    evOp P F D o ρ hp sl k = evOp P F D o ρ' hp sl k := by
  obtain ⟨dst, op, ty, pos, aft, gd⟩ := o
  cases op <;> simp only [Op.operands] at h <;> simp only [evOp]
  case build t ps =>
    have : ps.toList.map (fun p => (p.1, ρ p.2)) = ps.toList.map fun p => (p.1, ρ' p.2) :=
      List.map_congr_left fun p hp' => by rw [h p.2 (by simp only [List.mem_toArray]; exact List.mem_map.2 ⟨p, hp', rfl⟩)]
    rw [this]
  case buildSlice t n ps =>
    have : ps.toList.map (fun p => ρ p.2) = ps.toList.map fun p => ρ' p.2 :=
      List.map_congr_left fun p hp' => h p.2 (by simp only [List.mem_toArray]; exact List.mem_map.2 ⟨p, hp', rfl⟩)
    rw [this]
  case makeFunc fn first caps =>
    rw [map_congr_ops fun x hx => h x (by simp [hx])]
  case slice t x lo hi mx =>
    have e1 : ρ x = ρ' x := h x (by simp)
    have e2 : lo.map ρ = lo.map ρ' := by cases lo with | none => rfl | some l => simp [h l (by simp)]
    have e3 : hi.map ρ = hi.map ρ' := by cases hi with | none => rfl | some l => simp [h l (by simp)]
    have e4 : mx.map ρ = mx.map ρ' := by cases mx with | none => rfl | some l => simp [h l (by simp)]
    rw [e1, e2, e3, e4]
  case call c =>
    obtain ⟨callee, args, tys⟩ := c
    have ea : args.toList.map ρ = args.toList.map ρ' := map_congr_ops fun x hx => h x (by simp [Call.operands, hx])
    cases callee with
    | builtin bi => simp only [ea]
    | invoke q m => rfl
    | value f =>
      have ef : ρ f = ρ' f := h f (by simp [Call.operands])
      cases f <;> simp only [ea, ef]
  all_goals (first | rfl | (simp_all; done))

/-! Memories of some objects. -/
def notH (js : List Nat) : Nat → List AObj → List AObj
  | _, [] => []
  | i, o :: h => cond (hasN i js) .dead o :: notH js (i + 1) h
def maskG (js : List Nat) (b : Nat) : Nat → List GO → List GO
  | _, [] => []
  | i, g :: G => cond (hasN i js) g (cond (Nat.blt i b) .gone .fresh) :: maskG js b (i + 1) G
def mixG (js : List Nat) : Nat → List GO → List GO → List GO
  | i, o :: h, o' :: h' => cond (hasN i js) o' o :: mixG js (i + 1) h h'
  | _, h, _ => h
theorem onlyH_get (js : List Nat) : ∀ (h : List AObj) (i j : Nat), (onlyH js i h)[j]? = h[j]?.map fun o => cond (hasN (i + j) js) o .dead
  | [], i, j => by simp [onlyH]
  | o :: h, i, 0 => by simp [onlyH]
  | o :: h, i, j + 1 => by simp only [onlyH, List.getElem?_cons_succ]; rw [onlyH_get js h (i + 1) j, show i + 1 + j = i + (j + 1) by omega]
theorem maskG_get (js : List Nat) (b : Nat) : ∀ (h : List GO) (i j : Nat), (maskG js b i h)[j]? = h[j]?.map fun o => cond (hasN (i + j) js) o (cond (Nat.blt (i + j) b) .gone .fresh)
  | [], i, j => by simp [maskG]
  | o :: h, i, 0 => by simp [maskG]
  | o :: h, i, j + 1 => by simp only [maskG, List.getElem?_cons_succ]; rw [maskG_get js b h (i + 1) j, show i + 1 + j = i + (j + 1) by omega]
theorem onlyH_length (js : List Nat) : ∀ (h : List AObj) (i : Nat), (onlyH js i h).length = h.length
  | [], _ => rfl
  | o :: h, i => by simp only [onlyH, List.length_cons, onlyH_length js h]
theorem maskG_length (js : List Nat) (b : Nat) : ∀ (h : List GO) (i : Nat), (maskG js b i h).length = h.length
  | [], _ => rfl
  | o :: h, i => by simp only [maskG, List.length_cons, maskG_length js b h]
theorem mixH_length (js : List Nat) : ∀ (h h' : List AObj) (i : Nat), (mixH js i h h').length = h.length
  | [], _, _ => by simp [mixH]
  | o :: h, [], _ => by simp [mixH]
  | o :: h, o' :: h', i => by simp only [mixH, List.length_cons, mixH_length js h]
theorem mixG_length (js : List Nat) : ∀ (h h' : List GO) (i : Nat), (mixG js i h h').length = h.length
  | [], _, _ => by simp [mixG]
  | o :: h, [], _ => by simp [mixG]
  | o :: h, o' :: h', i => by simp only [mixG, List.length_cons, mixG_length js h]
theorem mixH_in {js : List Nat} : ∀ {h h' : List AObj} {i j : Nat}, hasN (i + j) js = true → h'.length = h.length → (mixH js i h h')[j]? = h'[j]?
  | [], [], i, j, _, _ => by simp [mixH]
  | [], _ :: _, i, j, _, hl => by simp at hl
  | _ :: _, [], i, j, _, hl => by simp at hl
  | o :: h, o' :: h', i, 0, hj, _ => by simp only [Nat.add_zero] at hj; simp [mixH, hj]
  | o :: h, o' :: h', i, j + 1, hj, hl => by
    simp only [mixH, List.getElem?_cons_succ]
    exact mixH_in (by rw [show i + 1 + j = i + (j + 1) by omega]; exact hj) (by simpa using hl)
theorem mixH_out {js : List Nat} : ∀ {h h' : List AObj} {i j : Nat}, hasN (i + j) js = false → (mixH js i h h')[j]? = h[j]?
  | [], _, i, j, _ => by simp [mixH]
  | o :: h, [], i, j, _ => by simp [mixH]
  | o :: h, o' :: h', i, 0, hj => by simp only [Nat.add_zero] at hj; simp [mixH, hj]
  | o :: h, o' :: h', i, j + 1, hj => by
    simp only [mixH, List.getElem?_cons_succ]
    exact mixH_out (by rw [show i + 1 + j = i + (j + 1) by omega]; exact hj)
theorem mixG_in {js : List Nat} : ∀ {h h' : List GO} {i j : Nat}, hasN (i + j) js = true → h'.length = h.length → (mixG js i h h')[j]? = h'[j]?
  | [], [], i, j, _, _ => by simp [mixG]
  | [], _ :: _, i, j, _, hl => by simp at hl
  | _ :: _, [], i, j, _, hl => by simp at hl
  | o :: h, o' :: h', i, 0, hj, _ => by simp only [Nat.add_zero] at hj; simp [mixG, hj]
  | o :: h, o' :: h', i, j + 1, hj, hl => by
    simp only [mixG, List.getElem?_cons_succ]
    exact mixG_in (by rw [show i + 1 + j = i + (j + 1) by omega]; exact hj) (by simpa using hl)
theorem mixG_out {js : List Nat} : ∀ {h h' : List GO} {i j : Nat}, hasN (i + j) js = false → (mixG js i h h')[j]? = h[j]?
  | [], _, i, j, _ => by simp [mixG]
  | o :: h, [], i, j, _ => by simp [mixG]
  | o :: h, o' :: h', i, 0, hj => by simp only [Nat.add_zero] at hj; simp [mixG, hj]
  | o :: h, o' :: h', i, j + 1, hj => by
    simp only [mixG, List.getElem?_cons_succ]
    exact mixG_out (by rw [show i + 1 + j = i + (j + 1) by omega]; exact hj)
theorem resL_split (js : List Nat) (b : Nat) : ∀ (h : List AObj) (G : List GO) (i : Nat), (resL h G).Perm (resL (onlyH js i h) (maskG js b i G) ++ resL (notH js i h) G)
  | [], _, _ => List.Perm.refl _
  | o :: h, [], i => List.Perm.refl _
  | o :: h, g :: G, i => by
    have ih := resL_split js b h G (i + 1)
    simp only [onlyH, maskG, notH, resL]
    cases hasN i js with
    | true =>
      simp only [cond_true, resO_dead, List.nil_append, List.append_assoc]
      exact ih.append_left _
    | false =>
      simp only [cond_false, resO_dead, List.nil_append]
      refine (ih.append_left _).trans ?_
      rw [← List.append_assoc, ← List.append_assoc]
      exact List.perm_append_comm.append_right _
theorem resL_mix (js : List Nat) : ∀ (h h' : List AObj) (G G' : List GO) (i : Nat), h'.length = h.length → h.length = G.length → G'.length = G.length →
    (resL (mixH js i h h') (mixG js i G G')).Perm (resL (onlyH js i h') G' ++ resL (notH js i h) G)
  | [], [], G, G', i, _, _, _ => List.Perm.refl _
  | [], _ :: _, _, _, _, hl, _, _ => by simp at hl
  | _ :: _, [], _, _, _, hl, _, _ => by simp at hl
  | _ :: _, _ :: _, [], _, _, _, hl, _ => by simp at hl
  | _ :: _, _ :: _, _ :: _, [], _, _, _, hl => by simp at hl
  | o :: h, o' :: h', g :: G, g' :: G', i, h1, h2, h3 => by
    have ih := resL_mix js h h' G G' (i + 1) (by simpa using h1) (by simpa using h2) (by simpa using h3)
    simp only [onlyH, mixG, mixH, notH, resL]
    cases hasN i js with
    | true =>
      simp only [cond_true, resO_dead, List.nil_append, List.append_assoc]
      exact ih.append_left _
    | false =>
      simp only [cond_false, resO_dead, List.nil_append]
      refine (ih.append_left _).trans ?_
      rw [← List.append_assoc, ← List.append_assoc]
      exact List.perm_append_comm.append_right _
theorem resL_only (js : List Nat) : ∀ (h : List AObj) (G : List GO) (i : Nat), (resL (onlyH js i h) G).Sublist (resL h G)
  | [], _, _ => List.Sublist.refl _
  | o :: h, [], i => List.Sublist.refl _
  | o :: h, g :: G, i => by
    simp only [onlyH, resL]
    cases hasN i js with
    | true => exact (resL_only js h G (i + 1)).append_left _
    | false => simp only [cond_false, resO_dead, List.nil_append]; exact (resL_only js h G (i + 1)).trans (List.sublist_append_right _ _)

/-! What speaks of the objects js alone. -/
theorem RS.on {G G' : List GO} {Z : Zone} {w : World} {v : SV} {X : Value} (h : RS G Z w v X) (hr : ∀ j ∈ refsS v, ∀ g, G[j]? = some g → G'[j]? = some g) : RS G' Z w v X := by
  cases v with
  | own j v =>
    have := hr j (by simp [refsS])
    rcases h with h | ⟨ver, val, sz, xs, hg, hh⟩
    · exact .inl (this _ h)
    · exact .inr ⟨ver, val, sz, xs, this _ hg, hh⟩
  | ptr j o =>
    have := hr j (by simp [refsS])
    rcases h with h | ⟨bb, T, vs, hg, hh⟩
    · exact .inl (this _ h)
    · exact .inr ⟨bb, T, vs, this _ hg, hh⟩
  | op j v i o =>
    have := hr j (by simp [refsS])
    rcases h with h | ⟨ver, val, sz, xs, hg, hh⟩
    · exact .inl (this _ h)
    · exact .inr ⟨ver, val, sz, xs, this _ hg, hh⟩
  | fn f l =>
    obtain ⟨bs, hX, hh⟩ := h
    refine ⟨bs, hX, hh.mono fun j b hj q => ?_⟩
    have := hr j (by simpa [refsS] using hj)
    rcases q with h1 | ⟨T, vs, h1⟩
    · exact .inl (this _ h1)
    · exact .inr ⟨T, vs, this _ h1⟩
  | _ => exact h
theorem RV1.on {G G' : List GO} {Z : Zone} {w : World} {v : V1} {X : Value} (h : RV1 G Z w v X) (hr : ∀ j ∈ refsV v, ∀ g, G[j]? = some g → G'[j]? = some g) : RV1 G' Z w v X := by
  cases v with
  | one s => exact ⟨h.1.on hr, h.2⟩
  | agg l =>
    obtain ⟨xs, hX, hh⟩ := h
    exact ⟨xs, hX, hh.mono fun a _ ha q => ⟨q.1.on fun j hj => hr j (List.mem_flatMap.2 ⟨a, ha, hj⟩), q.2⟩⟩
theorem RV.on {G G' : List GO} {Z : Zone} {w : World} {v : AV} {X : Value} (h : RV G Z w v X) (hr : ∀ j ∈ refsA v, ∀ g, G[j]? = some g → G'[j]? = some g) : RV G' Z w v X := by
  cases v with
  | v v => exact RV1.on h hr
  | tup l =>
    obtain ⟨xs, hX, hh⟩ := h
    exact ⟨xs, hX, hh.mono fun a _ ha q => q.on fun j hj => hr j (List.mem_flatMap.2 ⟨a, ha, hj⟩)⟩
theorem RO.on {G G' : List GO} {Z : Zone} {w : World} {o : AObj} {g : GO} (h : RO G Z w o g) (hr : ∀ j ∈ refsO (some o), ∀ g, G[j]? = some g → G'[j]? = some g) : RO G' Z w o g := by
  cases o with
  | cells l => cases g with
    | cells bb T vs => exact All2.mono h fun a _ ha q => ⟨q.1.on fun j hj => hr j (List.mem_flatMap.2 ⟨a, ha, hj⟩), q.2⟩
    | _ => exact h
  | arr e d ver fz => cases g <;> exact h
  | dead => cases g <;> exact h
end
end Go.Ab
namespace Go.Ab
open Go Go.Dk

section
variable {P : Program} {F : Callee} {D : Dec} {w0 w : World} {M Z0 : Zone} {b : Nat} {G : List GO} {s : AS} {tv : List Value}
theorem put_heap (s : AS) (d : Option Tmp) (v : AV) : (s.put d v).heap = s.heap := by cases d <;> rfl
theorem maskT_get (live : List Nat) : ∀ (l : List AV) (i t : Nat), (maskT live i l)[t]? = l[t]?.map fun v => cond (hasN (i + t) live) v anyV
  | [], i, t => by simp [maskT]
  | v :: l, i, 0 => by simp [maskT]
  | v :: l, i, t + 1 => by simp only [maskT, List.getElem?_cons_succ]; rw [maskT_get live l (i + 1) t, show i + 1 + t = i + (t + 1) by omega]
def opT (o : Oper) : List Nat := o.op.operands.toList.flatMap fun x => match x with | .tmp t => [t] | _ => []
theorem mem_opT {o : Oper} {t : Nat} : t ∈ opT o ↔ .tmp t ∈ o.op.operands := by
  unfold opT
  rw [List.mem_flatMap]
  constructor
  · rintro ⟨x, hx, ht⟩
    cases x <;> simp at ht
    subst ht; simpa using hx
  · intro h
    exact ⟨.tmp t, by simpa using h, by simp⟩
theorem closB_out {h : List AObj} {fp rf : List Nat} (hc : closB h fp rf = true) : (∀ j ∈ rf, j ∈ fp) ∧ ∀ j ∈ fp, ∀ i ∈ refsO h[j]?, i ∈ fp := by
  simp only [closB, Bool.and_eq_true, List.all_eq_true, hasN_iff] at hc
  exact hc
theorem put_act' (tv : List Value) (d : Option Tmp) (X : Value) : (Act.mk tv.toArray []).put d X = ⟨(match d with | some d => tv.set d X | none => tv).toArray, []⟩ := put_act tv d X
def putVs (tv : List Value) (d : Option Tmp) (X : Value) : List Value := match d with | some d => tv.set d X | none => tv
theorem rel_put {G : List GO} {Z : Zone} {tm : List AV} (hh : All2 (RV G Z w) tm tv) (d : Option Tmp) {v : AV} {X : Value} (hv : ∀ q, d = some q → q < tm.length → RV G Z w v X) (h : List AObj) :
    All2 (RV G Z w) (AS.put ⟨tm, h⟩ d v).tmps (putVs tv d X) := by
  cases d with
  | none => exact hh
  | some d =>
    by_cases hd : d < tm.length
    · exact hh.set d (hv d rfl hd)
    · show All2 _ (tm.set d v) (tv.set d X)
      rw [List.set_eq_of_length_le (Nat.le_of_not_lt hd), List.set_eq_of_length_le (by rw [← hh.1]; exact Nat.le_of_not_lt hd)]; exact hh
/-- What an operation does with the objects fp, all else apart. -/
theorem evOp_masked (hF : CallsOK P F) (hib : ∀ f, D.ib f = true → extIB P f) (hst : St w0 M Z0 (resL s.heap G) (relF s G tv) w) (hm : MZ M Z0 w0) {o : Oper} {fp : List Nat} {v : AV} {h' : List AObj} {Q : Exit → Act → World → Prop}
    (hfr : ∀ j, b ≤ j → j < b + nObj P D o → G[j]? = some .fresh) (hb : b + nObj P D o ≤ s.heap.length) (hfp : ∀ j ∈ fp, j < b + nObj P D o) (hcl : closB s.heap fp (refsOf s o) = true)
    (hev : ∀ k', evOp P F D o s.ev (onlyH fp 0 s.heap) b k' = k' v h') (hcl' : closB h' fp (refsA v) = true) :
    o.wp P ⟨tv.toArray, []⟩ w (fun a' w' => ∃ G' tv', a' = ⟨tv'.toArray, []⟩ ∧ St w0 M Z0 (resL (mixH fp 0 s.heap h') G') (relF (AS.put ⟨s.tmps, mixH fp 0 s.heap h'⟩ o.dst v) G' tv') w' ∧ (∀ j, hasN j fp = false → G'[j]? = G[j]?) ∧ Up G G') Q := by
  obtain ⟨hc1, hc2⟩ := closB_out hcl
  obtain ⟨hd1, hd2⟩ := closB_out hcl'
  have hlen : s.heap.length = G.length := hst.per.2.1
  have hp := resL_split fp b s.heap G 0
  generalize hL1 : resL (onlyH fp 0 s.heap) (maskG fp b 0 G) = L1 at hp
  have hs := (hst.perm hp).sub (List.sublist_append_left _ _)
  have hk : ∀ k, zone w0 Z0 (resL s.heap G) k → zone w (fun k => zone w0 Z0 (resL s.heap G) k ∨ footL L1 k) L1 k := fun k hk =>
    ⟨.inl (.inl hk), fun q hq => hk.2 q (hp.mem_iff.2 (List.mem_append.2 (.inl hq)))⟩
  have hGM : ∀ j ∈ fp, ∀ g, G[j]? = some g → (maskG fp b 0 G)[j]? = some g := fun j hj g hg => by
    rw [maskG_get, hg, Nat.zero_add, hasN_iff.2 hj]; rfl
  have hIM : InvG w (footL L1) (fun k => zone w0 Z0 (resL s.heap G) k ∨ footL L1 k) b (maskG fp b 0 G) ⟨maskT (opT o) 0 s.tmps, onlyH fp 0 s.heap⟩ tv w := by
    refine ⟨⟨Ext.refl _ _, ?_, ?_, ?_, ?_, relF_stable _ _ _, ?_⟩, ?_, fun k hk => .inr hk, hm.2.sub hst.ext fun k ⟨q, hq, hf⟩ => (hs.key q hq k hf).1⟩
    · rw [hL1]; exact hs.own
    · rw [hL1]; exact hs.loc
    · rw [hL1]; exact fun q hq k hf => ⟨.inl ⟨q, hq, hf⟩, (hs.key q hq k hf).2⟩
    · rw [hL1]; exact hs.dis
    · have hper := hst.per
      rw [hL1]
      refine ⟨⟨?_, fun t x y hx hy => ?_⟩, ?_, fun j x y hx hy => ?_⟩
      · have : (maskT (opT o) 0 s.tmps).length = s.tmps.length := by
          refine Nat.le_antisymm ?_ ?_ <;> refine Nat.le_of_not_lt fun hlt => ?_
          · have h1 := maskT_get (opT o) s.tmps 0 s.tmps.length
            rw [List.getElem?_eq_getElem hlt, List.getElem?_eq_none (Nat.le_refl _)] at h1
            cases h1
          · have h1 := maskT_get (opT o) s.tmps 0 (maskT (opT o) 0 s.tmps).length
            rw [List.getElem?_eq_none (Nat.le_refl _), List.getElem?_eq_getElem hlt] at h1
            cases h1
        rw [this]; exact hper.1.1
      · rw [maskT_get, Nat.zero_add] at hx
        obtain ⟨x', hx', rfl⟩ := Option.map_eq_some_iff.1 hx
        cases ht : hasN t (opT o) with
        | false => exact any_rel y
        | true =>
          have hr := hper.1.2 t x' y hx' hy
          rw [cond_true]
          refine (RV.on (hr.stable (keeps_le hk)) fun j hj g hg => hGM j (hc1 j ?_) g hg)
          refine List.mem_flatMap.2 ⟨.tmp t, by simpa using mem_opT.1 (hasN_iff.1 ht), ?_⟩
          show j ∈ refsA (s.tmps.getD t anyV)
          simp only [List.getD, hx', Option.getD_some]; exact hj
      · rw [onlyH_length, maskG_length]; exact hlen
      · rw [onlyH_get, Nat.zero_add] at hx
        rw [maskG_get, Nat.zero_add] at hy
        obtain ⟨x', hx', rfl⟩ := Option.map_eq_some_iff.1 hx
        obtain ⟨y', hy', rfl⟩ := Option.map_eq_some_iff.1 hy
        cases ht : hasN j fp with
        | false => cases Nat.blt j b <;> trivial
        | true =>
          have hr := hper.2.2 j x' y' hx' hy'
          refine RO.on (hr.stable (keeps_le hk)) fun i hi g hg => hGM i (hc2 j (hasN_iff.1 ht) i ?_) g hg
          rw [hx']; exact hi
    · intro j hj hjl
      rw [maskG_length] at hjl
      rw [maskG_get, Nat.zero_add, List.getElem?_eq_getElem hjl, Option.map_some]
      cases ht : hasN j fp with
      | true =>
        have := hfr j hj (hfp j (hasN_iff.1 ht))
        rw [List.getElem?_eq_getElem hjl] at this
        exact this
      | false =>
        have : Nat.blt j b = false := by
          cases hb' : Nat.blt j b with
          | false => rfl
          | true => rw [Nat.blt_eq] at hb'; omega
        rw [this]; rfl
  have hevM : ∀ x ∈ o.op.operands, (AS.mk (maskT (opT o) 0 s.tmps) (onlyH fp 0 s.heap)).ev x = s.ev x := by
    intro x hx
    cases x with
    | tmp t =>
      show (maskT (opT o) 0 s.tmps).getD t anyV = s.tmps.getD t anyV
      simp only [List.getD, maskT_get, Nat.zero_add, hasN_iff.2 (mem_opT.2 hx), cond_true]
      cases s.tmps[t]? <;> rfl
    | _ => rfl
  classical
  have hrun : evOp P F D o (AS.mk (maskT (opT o) 0 s.tmps) (onlyH fp 0 s.heap)).ev (AS.mk (maskT (opT o) 0 s.tmps) (onlyH fp 0 s.heap)).heap b (fun v2 h2 => if v2 = v ∧ h2 = h' then some ([], []) else none) = some ([], []) := by
    rw [evOp_congr hevM]
    show evOp P F D o s.ev (onlyH fp 0 s.heap) b _ = _
    rw [hev]; simp
  refine Oper.wp_mono (fun a' w' hst' => ?_) (evOp_sound (Q := Q) hF hib hIM (by show _ ≤ (onlyH fp 0 s.heap).length; rw [onlyH_length]; exact hb) hrun)
  obtain ⟨v2, h2, G2, tv2, hk2, ha, hI2, hl2, hu2, X, hX⟩ := hst'
  have hvh : v2 = v ∧ h2 = h' := by
    by_cases hh : v2 = v ∧ h2 = h'
    · exact hh
    · simp [hh] at hk2
  obtain ⟨rfl, rfl⟩ := hvh
  replace hX : tv2 = putVs tv o.dst X := by rw [hX]; cases o.dst <;> rfl
  have hst2 := hI2.st
  rw [put_heap] at hst2
  rw [← hL1] at hp
  have hst2' := hst2
  rw [← hL1] at hst2'
  have hfrm := frame hst hm.1 hp hst2'
  have hl : h2.length = s.heap.length := by rw [hl2]; exact onlyH_length _ _ _
  have hG2 : G2.length = G.length := by
    have := hI2.len
    rw [put_heap] at this
    rw [← this]; show h2.length = _; rw [hl, hlen]
  have hperm := resL_mix fp s.heap h2 G G2 0 hl hlen hG2
  have hS := (hfrm.1.sub ((resL_only fp h2 G2 0).append_right _)).perm hperm.symm
  have hin : ∀ j ∈ fp, (mixG fp 0 G G2)[j]? = G2[j]? := fun j hj => mixG_in (by rw [Nat.zero_add]; exact hasN_iff.2 hj) hG2
  have hout : ∀ j, hasN j fp = false → (mixG fp 0 G G2)[j]? = G[j]? := fun j hj => mixG_out (by rw [Nat.zero_add]; exact hj)
  have hup : Up G (mixG fp 0 G G2) := by
    intro j
    cases ht : hasN j fp with
    | false => rw [hout j ht]; exact Up.refl G j
    | true =>
      rw [hin j (hasN_iff.1 ht)]
      have := hu2 j
      rw [maskG_get, Nat.zero_add, ht] at this
      have he : (G[j]?.map fun o => cond true o (cond (Nat.blt j b) .gone .fresh)) = G[j]? := by cases G[j]? <;> rfl
      rw [he] at this
      exact this
  refine ⟨mixG fp 0 G G2, tv2, ha, hS.weak (relF_stable _ _ _) fun hh => ?_, hout, hup⟩
  obtain ⟨hc, hs0⟩ := hh
  refine ⟨?_, ?_⟩
  · rw [hX]
    refine rel_put (hs0.1.mono fun _ _ _ q => q.up hup) o.dst (fun d hd hdl => ?_) (mixH fp 0 s.heap h2)
    have h1 : (AS.put ⟨maskT (opT o) 0 s.tmps, h2⟩ o.dst v2).tmps[d]? = some v2 := by
      have : d < (maskT (opT o) 0 s.tmps).length := by
        have h3 := hIM.st.per.1.1
        have h4 := hs0.1.1
        exact Nat.lt_of_lt_of_eq hdl (h4.trans h3.symm)
      rw [hd]; show ((maskT (opT o) 0 s.tmps).set d v2)[d]? = _
      simp [this]
    have h2' : tv2[d]? = some X := by
      rw [hX, hd]
      have : d < tv.length := by rw [← hs0.1.1]; exact hdl
      simp [putVs, this]
    exact RV.on (hc.1.2 d v2 X h1 h2') fun j hj g hg => by rw [hin j (hd1 j hj)]; exact hg
  · rw [put_heap]
    refine ⟨by rw [mixH_length, mixG_length]; exact hlen, fun j x y hx hy => ?_⟩
    cases ht : hasN j fp with
    | false =>
      rw [mixH_out (by rw [Nat.zero_add]; exact ht)] at hx
      rw [hout j ht] at hy
      exact (hs0.2.2 j x y hx hy).up hup
    | true =>
      have hx' : h2[j]? = some x := by rw [← hx]; exact (mixH_in (by rw [Nat.zero_add]; exact ht) hl).symm
      rw [hin j (hasN_iff.1 ht)] at hy
      have hro := hc.2.2 j x y (by rw [put_heap]; exact hx') hy
      refine RO.on hro fun i hi g hg => by rw [hin i (hd2 j (hasN_iff.1 ht) i (by rw [hx']; exact hi))]; exact hg

/-! What an operation leaves as it was. -/
theorem keep1 {f : (AV → OR) → OR} {h h' : List AObj} (hf : N1 f) (hh : f (fun v => some ([], h)) = some ([], h')) : h' = h := by
  obtain ⟨a, ha, _⟩ := hf _ _ hh
  injection ha with ha; injection ha with _ ha; exact ha.symm
theorem keepS {f : (SV → OR) → OR} {h h' : List AObj} (hf : N1 f) (hh : f (fun v => some ([], h)) = some ([], h')) : h' = h := by
  obtain ⟨a, ha, _⟩ := hf _ _ hh
  injection ha with ha; injection ha with _ ha; exact ha.symm
theorem out_range {j b n : Nat} (h : hasN j (List.range' b n) = false) : ¬ (b ≤ j ∧ j < b + n) := fun hh => by
  have : j ∈ List.range' b n := by rw [List.mem_range'_1]; exact hh
  rw [hasN_iff.2 this] at h; cases h
theorem set_keep {h h' : List AObj} {b j : Nat} {o : AObj} (hn : hasN j (List.range' b 1) = false) (hh : (some ([], h.set b o) : OR) = some ([], h')) : h'[j]? = h[j]? := by
  injection hh with hh; injection hh with _ hh
  rw [← hh, List.getElem?_set_ne]
  have := out_range hn; omega
theorem hasN_append {j : Nat} {l m : List Nat} (h : hasN j (l ++ m) = false) : hasN j l = false ∧ hasN j m = false := by
  have h1 : j ∉ l ++ m := fun hm => by rw [hasN_iff.2 hm] at h; cases h
  rw [List.mem_append, not_or] at h1
  refine ⟨?_, ?_⟩
  · cases hh : hasN j l with
    | false => rfl
    | true => exact absurd (hasN_iff.1 hh) h1.1
  · cases hh : hasN j m with
    | false => rfl
    | true => exact absurd (hasN_iff.1 hh) h1.2
theorem evOp_keeps {o : Oper} {ρ : Operand → AV} {h h' : List AObj} {v : AV} {fp : List Nat} {j : Nat} (hev : ∀ k', evOp P F D o ρ h b k' = k' v h') (hj : hasN j fp = true)
    (hn : hasN j (writes o fp b (nObj P D o)) = false) : h'[j]? = h[j]? := by
  have hk := hev fun _ h => some ([], h)
  obtain ⟨dst, op, ty, pos, aft, gd⟩ := o
  unfold writes at hn
  obtain ⟨hn1, hn2⟩ := hasN_append hn
  have same : ∀ {h1 : List AObj}, h1 = h → h1[j]? = h[j]? := fun e => by rw [e]
  have same' : (some ([], h) : OR) = some ([], h') → h'[j]? = h[j]? := fun e => by injection e with e; injection e with _ e; rw [e]
  cases op <;> simp only [evOp] at hk <;> simp only [nObj] at hn2
  case move => exact same' hk
  case assign => exact same' hk
  case pick =>
    split at hk
    · rcases cond_some hk with ⟨_, hk⟩ | ⟨_, hk⟩ <;> exact same' hk
    · cases hk
  case alloc => obtain ⟨z, _, hk⟩ := bind_some hk; exact set_keep hn2 hk
  case box => obtain ⟨z, _, hk⟩ := bind_some hk; exact set_keep hn2 hk
  case build => exact same (keep1 (evBuild_N P _ _) hk)
  case buildSlice => rw [hj] at hn1; cases hn1
  case load => exact same (keep1 (evLoad_N P _ _ _) hk)
  case store => rw [hj] at hn1; cases hn1
  case nilCheck => exact same (keepS (evNil_N _ _) hk)
  case binOp => exact same (keepS (evBin_N P _ _ _ _) hk)
  case unOp => exact same (keepS (evUn_N _ _) hk)
  case convert => exact same (keepS (evConv_N P _ _ _ _) hk)
  case makeFunc =>
    split at hk
    · obtain ⟨z, _, hk⟩ := bind_some hk; exact same' hk
    · cases hk
  case makeSlice t x y =>
    unfold evMake at hk
    obtain ⟨n, hk, _⟩ := optInt_N _ _ _ hk
    obtain ⟨m, hk, _⟩ := optInt_N _ _ _ hk
    obtain ⟨_, hk⟩ := cond_left hk
    split at hk
    · obtain ⟨_, hk⟩ := cond_left hk
      obtain ⟨d, _, hk⟩ := bind_some hk
      exact set_keep hn2 hk
    · cases hk
  case slice => rw [hj] at hn1; cases hn1
  case fieldAddr =>
    obtain ⟨z, _, hk⟩ := bind_some hk
    exact same (keepS (evField_N _ _ _) hk)
  case indexAddr => exact same (keepS (evIndexAddr_N P _ _ _ _) hk)
  case index => exact same (keepS (evIndex_N P _ _ _) hk)
  case extract => exact same (keep1 (evExtract_N _ _) hk)
  case call c =>
    obtain ⟨callee, args, tys⟩ := c
    cases callee with
    | builtin bi =>
      simp only at hk
      unfold evBuiltin at hk
      split at hk
      · exact same (keepS (evLen_N P _ _ _) hk)
      · rw [hj] at hn1; cases hn1
      · exact same (keepS (evMax_N _ _ _) hk)
      · exact same (keepS (evMax_N _ _ _) hk)
      · cases hk
    | invoke q m => cases hk
    | value f => simp only at hn1; rw [hj] at hn1; cases hn1
  all_goals cases hk
/-! Operations that look at no memory. -/
theorem evOp_light {o : Oper} (hl : lightB o = true) (ρ : Operand → AV) (h : List AObj) (sl : Nat) (k : AV → List AObj → OR) : evOp P F D o ρ h sl k = evOp P F D o ρ [] 0 fun v _ => k v h := by
  obtain ⟨dst, op, ty, pos, aft, gd⟩ := o
  cases op <;> first | rfl | (simp [lightB] at hl; done)
theorem nObj_light {o : Oper} (hl : lightB o = true) : nObj P D o = 0 := by
  obtain ⟨dst, op, ty, pos, aft, gd⟩ := o
  cases op <;> first | rfl | (simp [lightB] at hl; done)
def takenG : GO → Bool | .fresh => false | _ => true
theorem RS.refs {G : List GO} {Z : Zone} {v : SV} {X : Value} (h : RS G Z w v X) : ∀ j ∈ refsS v, ∃ g, G[j]? = some g ∧ takenG g = true := by
  intro j hj
  cases v with
  | own i v =>
    simp only [refsS, List.mem_singleton] at hj; subst hj
    rcases h with h | ⟨ver, val, sz, xs, h, _⟩ <;> exact ⟨_, h, rfl⟩
  | ptr i o =>
    simp only [refsS, List.mem_singleton] at hj; subst hj
    rcases h with h | ⟨bb, T, vs, h, _⟩ <;> exact ⟨_, h, rfl⟩
  | op i v n o =>
    simp only [refsS, List.mem_singleton] at hj; subst hj
    rcases h with h | ⟨ver, val, sz, xs, h, _⟩ <;> exact ⟨_, h, rfl⟩
  | fn f l =>
    obtain ⟨bs, _, hh⟩ := h
    obtain ⟨i, hi⟩ := List.getElem?_of_mem (show j ∈ l from hj)
    obtain ⟨bb, _, hr⟩ := hh.get hi
    rcases hr with h | ⟨T, vs, h⟩ <;> exact ⟨_, h, rfl⟩
  | _ => simp [refsS] at hj
theorem RV.refs {G : List GO} {Z : Zone} {v : AV} {X : Value} (h : RV G Z w v X) : ∀ j ∈ refsA v, ∃ g, G[j]? = some g ∧ takenG g = true := by
  have one : ∀ {v : V1} {X : Value}, RV1 G Z w v X → ∀ j ∈ refsV v, ∃ g, G[j]? = some g ∧ takenG g = true := by
    intro v X h j hj
    cases v with
    | one x => exact h.1.refs j hj
    | agg l =>
      obtain ⟨xs, _, hh⟩ := h
      obtain ⟨x, hx, hj⟩ := List.mem_flatMap.1 hj
      obtain ⟨i, hi⟩ := List.getElem?_of_mem hx
      obtain ⟨y, _, hr⟩ := hh.get hi
      exact hr.1.refs j hj
  intro j hj
  cases v with
  | v x => exact one h j hj
  | tup l =>
    obtain ⟨xs, _, hh⟩ := h
    obtain ⟨x, hx, hj⟩ := List.mem_flatMap.1 hj
    obtain ⟨i, hi⟩ := List.getElem?_of_mem hx
    obtain ⟨y, _, hr⟩ := hh.get hi
    exact one hr j hj
/-- The objects that have been made. -/
def madeL (G : List GO) : List Nat := (List.range G.length).filter fun j => match G[j]? with | some g => takenG g | none => false
theorem mem_made {G : List GO} {j : Nat} : j ∈ madeL G ↔ ∃ g, G[j]? = some g ∧ takenG g = true := by
  unfold madeL
  rw [List.mem_filter, List.mem_range]
  constructor
  · rintro ⟨h1, h2⟩
    rw [List.getElem?_eq_getElem h1] at h2 ⊢
    exact ⟨_, rfl, h2⟩
  · rintro ⟨g, h1, h2⟩
    have hl := lt_of_some h1
    rw [h1]
    exact ⟨hl, h2⟩
theorem evOp_free (hF : CallsOK P F) (hib : ∀ f, D.ib f = true → extIB P f) (hst : St w0 M Z0 (resL s.heap G) (relF s G tv) w) (hm : MZ M Z0 w0) {o : Oper} {v : AV} {h' : List AObj} {Q : Exit → Act → World → Prop}
    (hl : lightB o = true) (hev : ∀ k', evOp P F D o s.ev [] 0 k' = k' v h') (hr : (refsA v).all (hasN · (refsOf s o)) = true) :
    o.wp P ⟨tv.toArray, []⟩ w (fun a' w' => ∃ G' tv', a' = ⟨tv'.toArray, []⟩ ∧ St w0 M Z0 (resL s.heap G') (relF (AS.put s o.dst v) G' tv') w' ∧ (∀ j : Nat, G[j]? = some GO.fresh → G'[j]? = some GO.fresh) ∧ Up G G') Q := by
  have hper := hst.per
  have hop : ∀ j ∈ refsOf s o, j ∈ madeL G := by
    intro j hj
    obtain ⟨x, _, hj⟩ := List.mem_flatMap.1 hj
    have hI : InvG w0 M Z0 s.heap.length G s tv w := ⟨hst, fun j h1 h2 => by rw [hper.2.1] at h1; omega, hm⟩
    exact mem_made.2 ((hI.ev x).refs j hj)
  have hheap : ∀ (h2 : List AObj), (∀ j : Nat, j ∈ madeL G → h2[j]? = s.heap[j]?) → ∀ j ∈ madeL G, ∀ i ∈ refsO h2[j]?, i ∈ madeL G := by
    intro h2 he j hj i hi
    rw [he j hj] at hi
    cases ho : s.heap[j]? with
    | none => rw [ho] at hi; simp [refsO] at hi
    | some ob =>
      rw [ho] at hi
      obtain ⟨g, hg, hro⟩ := hper.2.get ho
      cases ob with
      | cells l =>
        cases g with
        | cells bb T vs =>
          obtain ⟨x, hx, hi⟩ := List.mem_flatMap.1 hi
          obtain ⟨q, hq⟩ := List.getElem?_of_mem hx
          obtain ⟨y, _, hr⟩ := All2.get hro hq
          exact mem_made.2 (hr.1.refs i hi)
        | _ => exact hro.elim
      | arr e d ver fz => simp [refsO] at hi
      | dead => simp [refsO] at hi
  have honly : ∀ j ∈ madeL G, (onlyH (madeL G) 0 s.heap)[j]? = s.heap[j]? := by
    intro j hj
    rw [onlyH_get, Nat.zero_add, hasN_iff.2 hj]
    cases s.heap[j]? <;> rfl
  have hmix : mixH (madeL G) 0 s.heap (onlyH (madeL G) 0 s.heap) = s.heap := by
    refine List.ext_getElem? fun j => ?_
    cases hj : hasN j (madeL G) with
    | false => exact mixH_out (by rw [Nat.zero_add]; exact hj)
    | true => rw [mixH_in (by rw [Nat.zero_add]; exact hj) (onlyH_length _ _ _)]; exact honly j (hasN_iff.1 hj)
  have clos : ∀ (h2 : List AObj) (rf : List Nat), (∀ j ∈ rf, j ∈ madeL G) → (∀ j : Nat, j ∈ madeL G → h2[j]? = s.heap[j]?) → closB h2 (madeL G) rf = true := by
    intro h2 rf h1 he
    simp only [closB, Bool.and_eq_true, List.all_eq_true, hasN_iff]
    exact ⟨h1, hheap h2 he⟩
  have hrf : ∀ j ∈ refsA v, j ∈ madeL G := by
    intro j hj
    rw [List.all_eq_true] at hr
    exact hop j (hasN_iff.1 (hr j hj))
  have := evOp_masked (b := s.heap.length) (fp := madeL G) (h' := onlyH (madeL G) 0 s.heap) (v := v) (Q := Q) (P := P) (F := F) (D := D) (o := o) hF hib hst hm
    (fun j h1 h2 => by rw [nObj_light hl] at h2; omega) (by rw [nObj_light hl]; exact Nat.le_refl _)
    (fun j hj => by
      obtain ⟨g, hg, _⟩ := mem_made.1 hj
      have := lt_of_some hg
      have := hper.2.1
      omega)
    (clos _ _ hop fun _ _ => rfl)
    (fun k' => by rw [evOp_light hl, hev]) (clos _ _ hrf honly)
  rw [hmix] at this
  refine Oper.wp_mono (fun a' w' hh => ?_) this
  obtain ⟨G', tv', h1, h2, h3, h4⟩ := hh
  refine ⟨G', tv', h1, h2, fun j hj => ?_, h4⟩
  rw [h3 j ?_]; exact hj
  cases hh : hasN j (madeL G) with
  | false => rfl
  | true =>
    obtain ⟨g, hg, ht⟩ := mem_made.1 (hasN_iff.1 hh)
    rw [hj] at hg
    obtain rfl := Option.some.inj hg
    cases ht
end
end Go.Ab
namespace Go.Ab
open Go Go.Dk

/-- What one operation did. -/
structure Eff where
  /-- carried out -/
  want : Bool
  /-- carried out, and looked at memory -/
  on : Bool
  fp : List Nat
  wr : List Nat
  b : Nat
  v : AV
  h : List AObj
def Eff.app (d : Option Tmp) (e : Eff) (s : AS) : AS := AS.put { s with heap := mixH e.wr 0 s.heap e.h } d e.v
def foldE : List (Oper × Eff) → Nat → (Nat → Bool) → AS → AS
  | [], _, _, s => s
  | x :: l, i, L, s => foldE l (i + 1) L (cond (L i) (x.2.app x.1.dst s) s)
theorem mixH_get (js : List Nat) : ∀ (h h' : List AObj) (i j : Nat), (mixH js i h h')[j]? = cond (hasN (i + j) js) (h[j]?.map fun o => h'[j]?.getD o) h[j]?
  | [], _, i, j => by simp [mixH]
  | o :: h, [], i, j => by
    have : (fun o : AObj => ([] : List AObj)[j]?.getD o) = id := by funext o; simp
    rw [this, mixH]
    · cases hasN (i + j) js <;> simp
    · simp
  | o :: h, o' :: h', i, 0 => by simp only [Nat.add_zero, mixH, List.getElem?_cons_zero, Option.map_some, Option.getD_some]; cases hasN i js <;> rfl
  | o :: h, o' :: h', i, j + 1 => by
    simp only [mixH, List.getElem?_cons_succ]
    rw [mixH_get js h h' (i + 1) j, show i + 1 + j = i + (j + 1) by omega]
theorem AS.ext {s t : AS} (h1 : s.tmps = t.tmps) (h2 : s.heap = t.heap) : s = t := by cases s; cases t; simp_all
theorem app_heap (d : Option Tmp) (e : Eff) (s : AS) : (e.app d s).heap = mixH e.wr 0 s.heap e.h := put_heap _ _ _
theorem app_tmps (d : Option Tmp) (e : Eff) (s : AS) : (e.app d s).tmps = (match d with | some d => s.tmps.set d e.v | none => s.tmps) := by cases d <;> rfl
/-- Two that may change places. -/
def Free (d : Option Tmp) (e : Eff) (d' : Option Tmp) (e' : Eff) : Prop := (∀ q, d = some q → d' ≠ some q) ∧ ∀ j, j ∈ e.wr → j ∉ e'.wr
theorem app_comm {d d' : Option Tmp} {e e' : Eff} (h : Free d e d' e') (s : AS) : e.app d (e'.app d' s) = e'.app d' (e.app d s) := by
  refine AS.ext ?_ ?_
  · simp only [app_tmps]
    cases d with
    | none => cases d' <;> rfl
    | some q => cases d' with
      | none => rfl
      | some q' => exact List.set_comm _ _ fun hq => h.1 q rfl (by rw [← hq])
  · simp only [app_heap]
    refine List.ext_getElem? fun j => ?_
    simp only [mixH_get, Nat.zero_add]
    cases h1 : hasN j e.wr with
    | false => cases h2 : hasN j e'.wr <;> rfl
    | true => cases h2 : hasN j e'.wr with
      | false => rfl
      | true => exact absurd (hasN_iff.1 h2) (h.2 j (hasN_iff.1 h1))
theorem foldE_skip {L : Nat → Bool} : ∀ {l : List (Oper × Eff)} {i : Nat} {s : AS}, (∀ q, i ≤ q → L q = false) → foldE l i L s = s
  | [], _, _, _ => rfl
  | x :: l, i, s, h => by simp only [foldE, h i (Nat.le_refl i), cond_false]; exact foldE_skip fun q hq => h q (by omega)
theorem foldE_congr {L L' : Nat → Bool} : ∀ {l : List (Oper × Eff)} {i : Nat} {s : AS}, (∀ q, i ≤ q → q < i + l.length → L q = L' q) → foldE l i L s = foldE l i L' s
  | [], _, _, _ => rfl
  | x :: l, i, s, h => by
    simp only [foldE, h i (Nat.le_refl i) (by simp)]
    exact foldE_congr fun q hq hl => h q (by omega) (by simp only [List.length_cons]; omega)
theorem foldE_len {L : Nat → Bool} : ∀ {l : List (Oper × Eff)} {i : Nat} {s : AS}, (foldE l i L s).heap.length = s.heap.length
  | [], _, _ => rfl
  | x :: l, i, s => by
    simp only [foldE]; rw [foldE_len]
    cases L i with
    | false => rfl
    | true => rw [cond_true, app_heap, mixH_length]
theorem foldE_comm {L : Nat → Bool} {d : Option Tmp} {e : Eff} : ∀ {l : List (Oper × Eff)} {i : Nat} {s : AS},
    (∀ q x, l[q]? = some x → L (i + q) = true → Free d e x.1.dst x.2) → foldE l i L (e.app d s) = e.app d (foldE l i L s)
  | [], _, _, _ => rfl
  | x :: l, i, s, h => by
    simp only [foldE]
    have h' : ∀ q y, l[q]? = some y → L (i + 1 + q) = true → Free d e y.1.dst y.2 := fun q y hy hL => h (q + 1) y (by simpa using hy) (by rw [show i + (q + 1) = i + 1 + q by omega]; exact hL)
    cases hL : L i with
    | false => exact foldE_comm h'
    | true =>
      simp only [cond_true]
      rw [← app_comm (h 0 x rfl hL), foldE_comm h']
theorem foldE_add {L : Nat → Bool} {o : Oper} {e : Eff} : ∀ {l : List (Oper × Eff)} {i p : Nat} {s : AS}, l[p]? = some (o, e) → L (i + p) = false →
    (∀ q x, p < q → l[q]? = some x → L (i + q) = true → Free o.dst e x.1.dst x.2) → foldE l i (fun q => L q || Nat.beq q (i + p)) s = e.app o.dst (foldE l i L s)
  | [], _, _, _, h, _, _ => by simp at h
  | x :: l, i, 0, s, h, hL, hf => by
    simp only [List.getElem?_cons_zero, Option.some.injEq] at h
    subst h
    simp only [Nat.add_zero] at hL
    simp only [foldE, Nat.add_zero, hL, Nat.beq_refl, Bool.or_true, cond_true, cond_false]
    rw [← foldE_comm fun q x hx hLq => hf (q + 1) x (by omega) (by simpa using hx) (by rw [show i + (q + 1) = i + 1 + q by omega]; exact hLq)]
    refine foldE_congr fun q hq _ => ?_
    have : Nat.beq q i = false := by cases hb : Nat.beq q i with | false => rfl | true => simp only [Nat.beq_eq] at hb; omega
    simp [this]
  | x :: l, i, p + 1, s, h, hL, hf => by
    have hb : Nat.beq i (i + (p + 1)) = false := by cases hb : Nat.beq i (i + (p + 1)) with | false => rfl | true => simp only [Nat.beq_eq] at hb; omega
    simp only [foldE, hb, Bool.or_false]
    have he : i + (p + 1) = i + 1 + p := by omega
    rw [he]
    exact foldE_add (by simpa using h) (by rw [← he]; exact hL) fun q x hq hx hLq => hf (q + 1) x (by omega) (by simpa using hx) (by rw [show i + (q + 1) = i + 1 + q by omega]; exact hLq)
theorem foldE_heap {L L' : Nat → Bool} {j : Nat} : ∀ {l : List (Oper × Eff)} {i : Nat} {s s' : AS}, s.heap[j]? = s'.heap[j]? →
    (∀ q x, l[q]? = some x → L (i + q) ≠ L' (i + q) → j ∉ x.2.wr) → (foldE l i L s).heap[j]? = (foldE l i L' s').heap[j]?
  | [], _, _, _, hs, _ => hs
  | x :: l, i, s, s', hs, h => by
    simp only [foldE]
    refine foldE_heap ?_ fun q y hy hne => h (q + 1) y (by simpa using hy) (by rw [show i + (q + 1) = i + 1 + q by omega]; exact hne)
    have hap : ∀ t : AS, j ∉ x.2.wr → (x.2.app x.1.dst t).heap[j]? = t.heap[j]? := fun t hj => by
      rw [app_heap]; exact mixH_out (by cases hh : hasN (0 + j) x.2.wr with | false => rfl | true => rw [Nat.zero_add] at hh; exact absurd (hasN_iff.1 hh) hj)
    cases h1 : L i <;> cases h2 : L' i <;> simp only [cond_true, cond_false]
    · exact hs
    · rw [hap _ (h 0 x rfl (by simp [h1, h2]))]; exact hs
    · rw [hap _ (h 0 x rfl (by simp [h1, h2]))]; exact hs
    · simp only [app_heap, mixH_get, hs]
theorem foldE_tmps {L L' : Nat → Bool} {t : Nat} : ∀ {l : List (Oper × Eff)} {i : Nat} {s s' : AS}, s.tmps[t]? = s'.tmps[t]? →
    (∀ q x, l[q]? = some x → L (i + q) ≠ L' (i + q) → x.1.dst ≠ some t) → (foldE l i L s).tmps[t]? = (foldE l i L' s').tmps[t]?
  | [], _, _, _, hs, _ => hs
  | x :: l, i, s, s', hs, h => by
    simp only [foldE]
    refine foldE_tmps ?_ fun q y hy hne => h (q + 1) y (by simpa using hy) (by rw [show i + (q + 1) = i + 1 + q by omega]; exact hne)
    have hap : ∀ u : AS, x.1.dst ≠ some t → (x.2.app x.1.dst u).tmps[t]? = u.tmps[t]? := fun u hj => by
      rw [app_tmps]
      split
      · rename_i d hd; rw [List.getElem?_set_ne (fun e => hj (by rw [hd]; exact congrArg some e))]
      · rfl
    have hap2 : (x.2.app x.1.dst s).tmps[t]? = (x.2.app x.1.dst s').tmps[t]? := by
      rw [app_tmps, app_tmps]
      split
      · rename_i d hd
        by_cases hdt : d = t
        · subst hdt
          rw [List.getElem?_set_self', List.getElem?_set_self', hs]
        · rw [List.getElem?_set_ne hdt, List.getElem?_set_ne hdt]; exact hs
      · exact hs
    cases h1 : L i <;> cases h2 : L' i <;> simp only [cond_true, cond_false]
    · exact hs
    · rw [hap _ (h 0 x rfl (by simp [h1, h2]))]; exact hs
    · rw [hap _ (h 0 x rfl (by simp [h1, h2]))]; exact hs
    · exact hap2

/-! The run in the order of the text, taken apart. -/
def Guard (ops : List Oper) (o : Oper) (s : AS) (on : Bool) : Prop :=
  match o.guard with
  | none => on = true
  | some (j, want) => ∃ d, ops[j]?.bind (·.dst) = some d ∧ ((∃ bb, s.tmps[d]? = some (boolV bb) ∧ on = (bb == want)) ∨ (s.tmps[d]? = some undV ∧ on = false))
theorem wantK_out {ops : List Oper} {o : Oper} {s : AS} {yes no : AS → OR} {r : List V1 × List AObj} (h : wantK ops s o.guard yes no = some r) :
    ∃ on, Guard ops o s on ∧ (on = true → yes s = some r) ∧ (on = false → no s = some r) := by
  unfold wantK at h
  unfold Guard
  split at h
  · rename_i hg; exact ⟨true, by rw [hg], fun _ => h, nofun⟩
  · rename_i j want hg
    rw [hg]
    split at h
    · rename_i d hd
      split at h
      · rename_i bb hb
        have hdl : s.tmps[d]? = some (.v (.one (.bool bb))) := by
          cases hs : s.tmps[d]? with
          | none => simp [List.getD, hs, anyV] at hb
          | some v => simp [List.getD, hs] at hb; rw [hb]
        have hput : ∀ c, c = bb → s.put (some d) (boolV c) = s := by
          rintro c rfl
          show AS.mk (s.tmps.set d _) s.heap = s
          have : s.tmps.set d (boolV c) = s.tmps := set_same hdl
          rw [this]
        refine ⟨bb == want, ⟨d, hd, .inl ⟨bb, hdl, rfl⟩⟩, ?_, ?_⟩
        · cases bb <;> cases want <;> simp only [cond_true, cond_false] at h <;> intro he <;> first | (cases he; done) | (rw [hput _ rfl] at h; exact h)
        · cases bb <;> cases want <;> simp only [cond_true, cond_false] at h <;> intro he <;> first | (cases he; done) | (rw [hput _ rfl] at h; exact h)
      · rename_i hb
        have hdl : s.tmps[d]? = some undV := by
          cases hs : s.tmps[d]? with
          | none => simp [List.getD, hs, anyV] at hb
          | some v => simp [List.getD, hs] at hb; rw [hb]; rfl
        exact ⟨false, ⟨d, hd, .inr ⟨hdl, rfl⟩⟩, nofun, fun _ => h⟩
      · cases h
    · cases h
def StepOk (P : Program) (F : Callee) (D : Dec) (ops : List Oper) (o : Oper) (e : Eff) (s : AS) : Prop :=
  Guard ops o s e.want ∧
  (e.on = true → e.want = true ∧ e.wr = writes o e.fp e.b (nObj P D o) ∧ (∀ j, e.b ≤ j → j < e.b + nObj P D o → j ∈ e.fp) ∧ (∀ j ∈ e.fp, j < e.b + nObj P D o) ∧
    closB s.heap e.fp (refsOf s o) = true ∧ (∀ k', evOp P F D o s.ev (onlyH e.fp 0 s.heap) e.b k' = k' e.v e.h) ∧ closB e.h e.fp (refsA e.v) = true) ∧
  (e.on = false → e.wr = [] ∧ (e.want = false → e.v = undV) ∧ (e.want = true → lightB o = true ∧ (refsA e.v).all (hasN · (refsOf s o)) = true ∧ ∃ h', ∀ k', evOp P F D o s.ev [] 0 k' = k' e.v h'))
theorem mixH_nil : ∀ (i : Nat) (h h' : List AObj), mixH [] i h h' = h
  | _, [], _ => by simp [mixH]
  | _, _ :: _, [] => by simp [mixH]
  | i, o :: h, o' :: h' => by simp only [mixH, hasN, cond_false, mixH_nil (i + 1) h h']
theorem evDr_trace {P : Program} {F : Callee} {D : Dec} {ops : List Oper} {an : List (List Nat)} {k : AS → OR} {r : List V1 × List AObj} : ∀ {l : List Oper} {i : Nat} {ds : List Done} {b : Nat} {s : AS},
    evDr P F D ops an l i ds b s k = some r → ∃ es : List Eff, es.length = l.length ∧ k (foldE (l.zip es) i (fun _ => true) s) = some r ∧
      (∀ p o e, (l.zip es)[p]? = some (o, e) → e.b = b + room P D (l.take p) ∧ StepOk P F D ops o e (foldE (l.zip es) i (fun q => Nat.blt q (i + p)) s)) ∧
      (∀ p o e, (l.zip es)[p]? = some (o, e) → e.on = true → ∀ d ∈ ds, okDone (an.getD (i + p) []) e.fp e.wr d = true) ∧
      (∀ p q o e o' e', p < q → (l.zip es)[p]? = some (o, e) → (l.zip es)[q]? = some (o', e') → e.on = true → e'.on = true → okDone (an.getD (i + q) []) e'.fp e'.wr ⟨i + p, e.fp, e.wr⟩ = true)
  | [], i, ds, b, s, h => ⟨[], rfl, h, fun p o e hp => by simp at hp, fun p o e hp => by simp at hp, fun p q o e o' e' _ hp => by simp at hp⟩
  | o :: l, i, ds, b, s, h => by
    unfold evDr at h
    obtain ⟨on, hg, h1, h2⟩ := wantK_out h
    -- what is left, behind the first
    have rest : ∀ (e : Eff) (ds' : List Done), e.b = b → StepOk P F D ops o e s → (∀ d ∈ ds, d ∈ ds') → (e.on = true → (∀ d ∈ ds, okDone (an.getD i []) e.fp e.wr d = true) ∧ (⟨i, e.fp, e.wr⟩ : Done) ∈ ds') →
        evDr P F D ops an l (i + 1) ds' (b + nObj P D o) (e.app o.dst s) k = some r → ∃ es : List Eff, es.length = (o :: l).length ∧ k (foldE ((o :: l).zip es) i (fun _ => true) s) = some r ∧
      (∀ p o' e, ((o :: l).zip es)[p]? = some (o', e) → e.b = b + room P D ((o :: l).take p) ∧ StepOk P F D ops o' e (foldE ((o :: l).zip es) i (fun q => Nat.blt q (i + p)) s)) ∧
      (∀ p o' e, ((o :: l).zip es)[p]? = some (o', e) → e.on = true → ∀ d ∈ ds, okDone (an.getD (i + p) []) e.fp e.wr d = true) ∧
      (∀ p q o1 e o' e', p < q → ((o :: l).zip es)[p]? = some (o1, e) → ((o :: l).zip es)[q]? = some (o', e') → e.on = true → e'.on = true → okDone (an.getD (i + q) []) e'.fp e'.wr ⟨i + p, e.fp, e.wr⟩ = true) := by
      intro e ds' heb hst hds hok hrun
      obtain ⟨es, a1, a2, a3, a4, a5⟩ := evDr_trace hrun
      refine ⟨e :: es, by simp [a1], ?_, ?_, ?_, ?_⟩
      · simpa only [List.zip_cons_cons, foldE, cond_true] using a2
      · intro p o' e' hp
        cases p with
        | zero =>
          simp only [List.zip_cons_cons, List.getElem?_cons_zero, Option.some.injEq, Prod.mk.injEq] at hp
          obtain ⟨rfl, rfl⟩ := hp
          refine ⟨by simp [heb, room], ?_⟩
          rw [foldE_skip]
          · exact hst
          · intro q hq
            cases hb : Nat.blt q (i + 0) with
            | false => rfl
            | true => rw [Nat.blt_eq] at hb; omega
        | succ p =>
          simp only [List.zip_cons_cons, List.getElem?_cons_succ] at hp
          obtain ⟨c1, c2⟩ := a3 p o' e' hp
          refine ⟨by rw [c1]; simp only [List.take_succ_cons, room]; omega, ?_⟩
          have hbl : Nat.blt i (i + (p + 1)) = true := by rw [Nat.blt_eq]; omega
          simp only [List.zip_cons_cons, foldE, hbl, cond_true]
          rw [show i + (p + 1) = i + 1 + p by omega]; exact c2
      · intro p o' e' hp hon' d hd
        cases p with
        | zero =>
          simp only [List.zip_cons_cons, List.getElem?_cons_zero, Option.some.injEq, Prod.mk.injEq] at hp
          obtain ⟨rfl, rfl⟩ := hp
          exact (hok hon').1 d hd
        | succ p =>
          simp only [List.zip_cons_cons, List.getElem?_cons_succ] at hp
          have := a4 p o' e' hp hon' d (hds d hd)
          rw [show i + (p + 1) = i + 1 + p by omega]; exact this
      · intro p q o1 e1 o' e' hpq hp hq hon1 hon'
        cases q with
        | zero => omega
        | succ q =>
          simp only [List.zip_cons_cons, List.getElem?_cons_succ] at hq
          rw [show i + (q + 1) = i + 1 + q by omega]
          cases p with
          | zero =>
            simp only [List.zip_cons_cons, List.getElem?_cons_zero, Option.some.injEq, Prod.mk.injEq] at hp
            obtain ⟨rfl, rfl⟩ := hp
            exact a4 q o' e' hq hon' _ (hok hon1).2
          | succ p =>
            simp only [List.zip_cons_cons, List.getElem?_cons_succ] at hp
            have := a5 p q o1 e1 o' e' (by omega) hp hq hon1 hon'
            rw [show i + (p + 1) = i + 1 + p by omega]; exact this
    cases on with
    | false =>
      have h := h2 rfl
      refine rest ⟨false, false, [], [], b, undV, []⟩ ds rfl ⟨hg, nofun, fun _ => ⟨rfl, fun _ => rfl, nofun⟩⟩ (fun d hd => hd) nofun ?_
      unfold Eff.app
      simp only [mixH_nil]
      exact h
    | true =>
      have h := h1 rfl
      simp only at h
      rcases cond_some h with ⟨hl, h⟩ | ⟨_, h⟩
      · obtain ⟨v, h', h, hk⟩ := evOp_N P F D o s.ev _ _ _ _ h
        obtain ⟨hr, h⟩ := cond_left h
        refine rest ⟨true, false, [], [], b, v, []⟩ ds rfl ⟨hg, nofun, fun _ => ⟨rfl, nofun, fun _ => ⟨hl, hr, h', hk⟩⟩⟩ (fun d hd => hd) nofun ?_
        unfold Eff.app
        simp only [mixH_nil]
        exact h
      obtain ⟨hc, h⟩ := cond_left h
      simp only [Bool.and_eq_true, List.all_eq_true, Nat.blt_eq] at hc
      obtain ⟨hc1, hc2, hc3⟩ := hc
      obtain ⟨v, h', h, hk⟩ := evOp_N P F D o s.ev _ b _ _ h
      obtain ⟨hcl, h⟩ := cond_left h
      refine rest ⟨true, true, _, _, b, v, h'⟩ _ rfl ⟨hg, fun _ => ⟨rfl, rfl, fun j hj hl => ?_, fun j hj => ?_, hc1, hk, hcl⟩, nofun⟩ (fun d hd => List.mem_cons_of_mem _ hd) (fun _ => ⟨hc3, List.mem_cons_self ..⟩) h
      · exact List.mem_append.2 (.inr (by rw [List.mem_range'_1]; exact ⟨hj, hl⟩))
      · rcases List.mem_append.1 hj with hj | hj
        · exact Nat.lt_of_lt_of_le (hc2 j hj) (Nat.le_add_right _ _)
        · rw [List.mem_range'_1] at hj; exact hj.2
end Go.Ab
namespace Go.Ab
open Go Go.Dk

theorem meets_out {a b : List Nat} (h : meets a b = false) {j : Nat} (hj : j ∈ a) : j ∉ b := fun hb => by
  simp only [meets, List.any_eq_false] at h
  exact h j hj (hasN_iff.2 hb)
theorem earlierB_out {ops : List Oper} {anc : List Nat} {i : Nat} {o : Oper} : ∀ {l : List Oper} {k : Nat}, earlierB ops anc i o l k = true → ∀ p x, l[p]? = some x → k + p < i → hasN (k + p) anc = true ∨ apartT ops x o = true
  | [], k, h, p, x, hx, hp => by simp at hx
  | y :: l, k, h, p, x, hx, hp => by
    unfold earlierB at h
    have : Nat.blt k i = true := by rw [Nat.blt_eq]; omega
    rw [this, cond_true, Bool.and_eq_true, Bool.or_eq_true] at h
    cases p with
    | zero => simp only [List.getElem?_cons_zero, Option.some.injEq] at hx; subst hx; exact h.1
    | succ p =>
      have := earlierB_out h.2 p x (by simpa using hx) (by omega)
      rw [show k + (p + 1) = k + 1 + p by omega]; exact this
theorem drawB_out {ops : List Oper} {an : List (List Nat)} : ∀ {l : List Oper} {i : Nat}, drawB ops an l i = true → ∀ p o, l[p]? = some o → plainB o = true ∧ edgesB an (i + p) o = true ∧ earlierB ops (an.getD (i + p) []) (i + p) o ops 0 = true
  | [], i, h, p, o, ho => by simp at ho
  | y :: l, i, h, p, o, ho => by
    unfold drawB at h
    simp only [Bool.and_eq_true] at h
    cases p with
    | zero => simp only [List.getElem?_cons_zero, Option.some.injEq] at ho; subst ho; exact ⟨h.1, h.2.1, h.2.2.1⟩
    | succ p =>
      have := drawB_out h.2.2.2 p o (by simpa using ho)
      rw [show i + (p + 1) = i + 1 + p by omega]; exact this
theorem edgesB_out {an : List (List Nat)} {i : Nat} {o : Oper} (h : edgesB an i o = true) : (∀ e ∈ o.after, Region.binds .any e = true → e.on < i) ∧
    ∀ a ∈ an.getD i [], ∃ e ∈ o.after, Region.binds .any e = true ∧ (a = e.on ∨ a ∈ an.getD e.on []) := by
  simp only [edgesB, Bool.and_eq_true, List.all_eq_true, List.any_eq_true, Bool.or_eq_true, Nat.beq_eq, hasN_iff] at h
  refine ⟨fun e he hb => ?_, fun a ha => ?_⟩
  · have := h.1 e (by simpa using he)
    rw [hb, cond_true, Nat.blt_eq] at this; exact this
  · obtain ⟨e, he, hb, hh⟩ := h.2 a ha
    exact ⟨e, by simpa using he, hb, hh⟩
theorem apartT_out {ops : List Oper} {x y : Oper} (h : apartT ops x y = true) : (∀ d, x.dst = some d → d ∉ looksT ops y) ∧ (∀ d, x.dst = some d → y.dst ≠ some d) ∧ (∀ d, y.dst = some d → d ∉ looksT ops x) := by
  simp only [apartT, Bool.and_eq_true, Bool.not_eq_true'] at h
  refine ⟨fun d hd => meets_out h.1 (by simp [dstL, hd]), fun d hd he => ?_, fun d hd => meets_out h.2.2 (by simp [dstL, hd])⟩
  exact meets_out h.2.1 (j := d) (by simp [dstL, hd]) (by simp [dstL, he])
theorem room_take {P : Program} {D : Dec} : ∀ {l : List Oper} {p : Nat} {o : Oper}, l[p]? = some o → ∀ q, p < q → room P D (l.take p) + nObj P D o ≤ room P D (l.take q)
  | [], p, o, h, q, hq => by simp at h
  | x :: l, 0, o, h, q + 1, hq => by
    simp only [List.getElem?_cons_zero, Option.some.injEq] at h; subst h
    simp only [List.take_zero, room, List.take_succ_cons]; omega
  | x :: l, p + 1, o, h, q + 1, hq => by
    have := room_take (P := P) (D := D) (l := l) (p := p) (by simpa using h) q (by omega)
    simp only [List.take_succ_cons, room]; omega
theorem room_le {P : Program} {D : Dec} : ∀ {l : List Oper} {p : Nat} {o : Oper}, l[p]? = some o → room P D (l.take p) + nObj P D o ≤ room P D l
  | l, p, o, h => by
    have hp : p < l.length := by
      rcases Nat.lt_or_ge p l.length with h' | h'
      · exact h'
      · rw [List.getElem?_eq_none h'] at h; cases h
    have := room_take (P := P) (D := D) h l.length hp
    rwa [List.take_length] at this
theorem wr_sub {P : Program} {D : Dec} {o : Oper} {fp : List Nat} {b : Nat} (h : ∀ j, b ≤ j → j < b + nObj P D o → j ∈ fp) : ∀ j ∈ writes o fp b (nObj P D o), j ∈ fp := by
  intro j hj
  unfold writes at hj
  rcases List.mem_append.1 hj with hj | hj
  · split at hj
    · exact hj
    · exact hj
    · exact hj
    · split at hj
      · exact hj
      · cases hj
      · exact hj
    · cases hj
  · rw [List.mem_range'_1] at hj; exact h j hj.1 hj.2
theorem slots_wr {P : Program} {D : Dec} {o : Oper} {fp : List Nat} {b j : Nat} (h1 : b ≤ j) (h2 : j < b + nObj P D o) : j ∈ writes o fp b (nObj P D o) :=
  List.mem_append.2 (.inr (by rw [List.mem_range'_1]; exact ⟨h1, h2⟩))

section
variable {P : Program} {F : Callee} {D : Dec} {w0 : World} {M Z0 : Zone} {ops : List Oper} {an : List (List Nat)} {k : AS → OR} {r : List V1 × List AObj} {s0 : AS} {es : List Eff} {b0 : Nat} {G0 : List GO} {Q : Exit → Act → World → Prop}
/-- The run in the order of the text, with what is known of each operation. -/
structure Trace (P : Program) (F : Callee) (D : Dec) (ops : List Oper) (an : List (List Nat)) (b0 : Nat) (s0 : AS) (es : List Eff) : Prop where
  len : es.length = ops.length
  step : ∀ p o e, (ops.zip es)[p]? = some (o, e) → e.b = b0 + room P D (ops.take p) ∧ StepOk P F D ops o e (foldE (ops.zip es) 0 (fun q => Nat.blt q p) s0)
  ok : ∀ p q o e o' e', p < q → (ops.zip es)[p]? = some (o, e) → (ops.zip es)[q]? = some (o', e') → e.on = true → e'.on = true → okDone (an.getD q []) e'.fp e'.wr ⟨p, e.fp, e.wr⟩ = true
/-- Behind the operations that are listed. -/
structure Here (P : Program) (D : Dec) (w0 : World) (M Z0 : Zone) (ops : List Oper) (an : List (List Nat)) (s0 : AS) (es : List Eff) (G0 : List GO) (L : Nat → Bool) (G : List GO) (tv : List Value) (w : World) : Prop where
  st : St w0 M Z0 (resL (foldE (ops.zip es) 0 L s0).heap G) (relF (foldE (ops.zip es) 0 L s0) G tv) w
  mz : MZ M Z0 w0
  fresh : ∀ p o e, (ops.zip es)[p]? = some (o, e) → e.on = true → L p = false → ∀ j, e.b ≤ j → j < e.b + nObj P D o → G[j]? = some .fresh
  down : ∀ p, L p = true → ∀ a ∈ an.getD p [], L a = true
  up : Up G0 G
theorem zip_fst {p : Nat} {o : Oper} {e : Eff} (h : (ops.zip es)[p]? = some (o, e)) : ops[p]? = some o ∧ es[p]? = some e := by
  rw [List.getElem?_zip_eq_some] at h; exact h
theorem zip_some (hl : es.length = ops.length) {p : Nat} {o : Oper} (h : ops[p]? = some o) : ∃ e, (ops.zip es)[p]? = some (o, e) := by
  have hp : p < es.length := by
    rw [hl]
    rcases Nat.lt_or_ge p ops.length with h' | h'
    · exact h'
    · rw [List.getElem?_eq_none h'] at h; cases h
  exact ⟨es[p], by rw [List.getElem?_zip_eq_some]; exact ⟨h, List.getElem?_eq_getElem hp⟩⟩
/-- One step, wherever it comes. -/
theorem Here.step (hF : CallsOK P F) (hib : ∀ f, D.ib f = true → extIB P f) (hd : drawB ops an ops 0 = true) (ht : Trace P F D ops an b0 s0 es) (hroom : b0 + room P D ops ≤ s0.heap.length)
    {L : Nat → Bool} {G : List GO} {tv : List Value} {w : World} (hh : Here P D w0 M Z0 ops an s0 es G0 L G tv w) {i : Nat} {o : Oper} (hi : ops[i]? = some o) (hL : L i = false) (hanc : ∀ e ∈ o.after, Region.binds .any e = true → L e.on = true) :
    wpOp P ops.toArray Q i (fun a' w' => ∃ G' tv', a' = ⟨tv'.toArray, []⟩ ∧ Here P D w0 M Z0 ops an s0 es G0 (fun q => L q || Nat.beq q i) G' tv' w') ⟨tv.toArray, []⟩ w := by
  obtain ⟨e, he⟩ := zip_some ht.len hi
  obtain ⟨heb, hguard, hon, hoff⟩ := ht.step i o e he
  have hstat := fun p x (hp : ops[p]? = some x) => by have := drawB_out hd p x hp; rw [Nat.zero_add] at this; exact this
  have hancL : ∀ a ∈ an.getD i [], L a = true := by
    intro a ha
    obtain ⟨ed, hed, hb, h⟩ := (edgesB_out (hstat i o hi).2.1).2 a ha
    rcases h with rfl | h
    · exact hanc ed hed hb
    · exact hh.down _ (hanc ed hed hb) a h
  -- two of them, one ahead of the other in the text
  have hpair : ∀ (p q : Nat) (x y : Oper), p < q → ops[p]? = some x → ops[q]? = some y → p ∈ an.getD q [] ∨ apartT ops x y = true := by
    intro p q x y hpq hp hq
    have := earlierB_out (hstat q y hq).2.2 p x hp (by omega)
    rw [Nat.zero_add] at this
    exact this.imp hasN_iff.1 id
  have hwrOff : ∀ (p : Nat) (x : Oper) (y : Eff), (ops.zip es)[p]? = some (x, y) → y.on = false → y.wr = [] := fun p x y hp hy => ((ht.step p x y hp).2.2.2 hy).1
  have hwrfp : ∀ (p : Nat) (x : Oper) (y : Eff), (ops.zip es)[p]? = some (x, y) → y.on = true → ∀ j ∈ y.wr, j ∈ y.fp := by
    intro p x y hp hy
    obtain ⟨_, c1, c2, _⟩ := (ht.step p x y hp).2.2.1 hy
    rw [c1]; exact wr_sub c2
  -- whom it does not meet
  have hfar : ∀ (p : Nat) (x : Oper) (y : Eff), (ops.zip es)[p]? = some (x, y) → p ≠ i → L p = decide (i < p) →
      (∀ d, x.dst = some d → d ∉ looksT ops o) ∧ (∀ d, o.dst = some d → x.dst ≠ some d) ∧ (y.on = true → e.on = true → (∀ j ∈ y.wr, j ∉ e.fp) ∧ ∀ j ∈ e.wr, j ∉ y.fp) := by
    intro p x y hp hne hLp
    obtain ⟨hpo, _⟩ := zip_fst hp
    rcases Nat.lt_or_gt_of_ne hne with hlt | hgt
    · have hLf : L p = false := by rw [hLp]; simp; omega
      have hna : p ∉ an.getD i [] := fun ha => by rw [hancL p ha] at hLf; cases hLf
      have hap := apartT_out ((hpair p i x o hlt hpo hi).resolve_left hna)
      refine ⟨hap.1, fun d hd hx => hap.2.1 d hx hd, fun h1 h2 => ?_⟩
      have := ht.ok p i x y o e hlt hp he h1 h2
      simp only [okDone, Bool.or_eq_true, Bool.and_eq_true, Bool.not_eq_true'] at this
      obtain ⟨c1, c2⟩ := this.resolve_left fun hm => hna (hasN_iff.1 hm)
      exact ⟨fun j hj => meets_out c1 hj, fun j hj => meets_out c2 hj⟩
    · have hLt : L p = true := by rw [hLp]; simp; omega
      have hna : i ∉ an.getD p [] := fun ha => by rw [hh.down p hLt i ha] at hL; cases hL
      have hap := apartT_out ((hpair i p o x hgt hi hpo).resolve_left hna)
      refine ⟨hap.2.2, hap.2.1, fun h1 h2 => ?_⟩
      have := ht.ok i p o e x y hgt he hp h2 h1
      simp only [okDone, Bool.or_eq_true, Bool.and_eq_true, Bool.not_eq_true'] at this
      obtain ⟨c1, c2⟩ := this.resolve_left fun hm => hna (hasN_iff.1 hm)
      exact ⟨fun j hj => meets_out c2 hj, fun j hj => meets_out c1 hj⟩
  have hdiff : ∀ (p : Nat) (x : Oper) (y : Eff), (ops.zip es)[p]? = some (x, y) → Nat.blt p i ≠ L p → p ≠ i ∧ L p = decide (i < p) := by
    intro p x y hp hne
    have hpi : p ≠ i := fun h => by
      subst h
      apply hne; rw [hL]
      cases hb : Nat.blt p p with | false => rfl | true => rw [Nat.blt_eq] at hb; omega
    refine ⟨hpi, ?_⟩
    rcases Nat.lt_or_gt_of_ne hpi with hlt | hgt
    · have : Nat.blt p i = true := by rw [Nat.blt_eq]; exact hlt
      rw [this] at hne
      have : L p = false := by cases hLp : L p with | false => rfl | true => exact absurd hLp.symm hne
      rw [this]; symm; simp; omega
    · have : Nat.blt p i = false := by cases hb : Nat.blt p i with | false => rfl | true => rw [Nat.blt_eq] at hb; omega
      rw [this] at hne
      have : L p = true := by cases hLp : L p with | true => rfl | false => exact absurd hLp.symm hne
      rw [this]; symm; simp; omega
  generalize hS : foldE (ops.zip es) 0 L s0 = S
  generalize hT : foldE (ops.zip es) 0 (fun q => Nat.blt q i) s0 = T at hguard hon hoff
  have hst := hh.st
  rw [hS] at hst
  have hlenS : S.heap.length = s0.heap.length := by rw [← hS]; exact foldE_len
  have hlenT : T.heap.length = s0.heap.length := by rw [← hT]; exact foldE_len
  have htm : ∀ t ∈ looksT ops o, T.tmps[t]? = S.tmps[t]? := by
    intro t htl
    rw [← hS, ← hT]
    refine foldE_tmps rfl fun q x hx hne hd => ?_
    rw [Nat.zero_add] at hne
    obtain ⟨h1, h2⟩ := hdiff q x.1 x.2 hx hne
    exact (hfar q x.1 x.2 hx h1 h2).1 t hd htl
  have hheap : e.on = true → ∀ j ∈ e.fp, T.heap[j]? = S.heap[j]? := by
    intro hone j hj
    rw [← hS, ← hT]
    refine foldE_heap rfl fun q x hx hne hw => ?_
    rw [Nat.zero_add] at hne
    obtain ⟨h1, h2⟩ := hdiff q x.1 x.2 hx hne
    cases hxo : x.2.on with
    | false => rw [hwrOff q x.1 x.2 hx hxo] at hw; cases hw
    | true => exact ((hfar q x.1 x.2 hx h1 h2).2.2 hxo hone).1 j hw hj
  have hadd : foldE (ops.zip es) 0 (fun q => L q || Nat.beq q i) s0 = e.app o.dst S := by
    have := foldE_add (L := L) (l := ops.zip es) (i := 0) (p := i) (s := s0) he (by rw [Nat.zero_add]; exact hL) (fun q x hq hx hLq => by
      rw [Nat.zero_add] at hLq
      have h2 := hfar q x.1 x.2 hx (by omega) (by rw [hLq]; symm; simpa using hq)
      refine ⟨h2.2.1, fun j hj hj' => ?_⟩
      cases hxo : x.2.on with
      | false => rw [hwrOff q x.1 x.2 hx hxo] at hj'; cases hj'
      | true => cases heo : e.on with
        | false => rw [hwrOff i o e he heo] at hj; cases hj
        | true => exact (h2.2.2 hxo heo).2 j hj (hwrfp q x.1 x.2 hx hxo j hj'))
    rw [hS] at this
    rw [← this]
    simp only [Nat.zero_add]
  have hdown : ∀ p, (fun q => L q || Nat.beq q i) p = true → ∀ a ∈ an.getD p [], (fun q => L q || Nat.beq q i) a = true := by
    intro p hp a ha
    simp only [Bool.or_eq_true, Nat.beq_eq] at hp ⊢
    rcases hp with hp | rfl
    · exact .inl (hh.down p hp a ha)
    · exact .inl (hancL a ha)
  -- is it carried out?
  have hwant : Region.wanted o (yielded ops.toArray tv.toArray) = e.want := by
    unfold Guard at hguard
    split at hguard
    · rename_i hg; rw [hguard]; simp [Region.wanted, hg]
    · rename_i j want hg
      obtain ⟨d, hdd, hguard⟩ := hguard
      have hdS : ∀ v, T.tmps[d]? = some v → S.tmps[d]? = some v := fun v hv => by
        rw [← htm d ?_]; exact hv
        unfold looksT
        refine List.mem_append.2 (.inr ?_)
        simp [hg, hdd]
      have hd' : (ops.toArray[j]?).bind (·.dst) = some d := by simpa using hdd
      rcases hguard with ⟨bb, hdt, hon'⟩ | ⟨hdt, hon'⟩
      · obtain ⟨X, hX, hr⟩ := hst.per.1.get (hdS _ hdt)
        have hX' := bool_inv hr
        subst hX'
        have hy : yielded ops.toArray tv.toArray j = some bb := by
          simp only [yielded, hd', Option.bind_some]
          have : tv.toArray[d]? = some (.bool bb) := by simpa using hX
          rw [this]
        rw [hon']
        simp only [Region.wanted, hg, hy]; rfl
      · obtain ⟨X, hX, xs, hXe, hr⟩ := hst.per.1.get (hdS _ hdt)
        obtain rfl := hr.nil_inv
        subst hXe
        have hy : yielded ops.toArray tv.toArray j = none := by
          simp only [yielded, hd', Option.bind_some]
          have : tv.toArray[d]? = some (.tuple #[]) := by simpa using hX
          rw [this]
        rw [hon']
        simp only [Region.wanted, hg, hy]; rfl
  unfold wpOp
  have hi' : ops.toArray[i]? = some o := by simpa using hi
  rw [hi']
  simp only [hwant]
  have hevx : ∀ x ∈ o.op.operands, T.ev x = S.ev x := by
    intro x hx
    cases x with
    | tmp t =>
      show T.tmps.getD t anyV = S.tmps.getD t anyV
      have : t ∈ looksT ops o := List.mem_append.2 (.inl (mem_opT.2 hx))
      simp only [List.getD, htm t this]
    | _ => rfl
  have hrefs : refsOf S o = refsOf T o := by
    unfold refsOf
    simp only [List.flatMap_def]
    congr 1
    refine List.map_congr_left fun x hx => ?_
    rw [hevx x (by simpa using hx)]
  cases heo : e.on with
  | false =>
    obtain ⟨c1, c2, c3⟩ := hoff heo
    have happ : e.app o.dst S = S.put o.dst e.v := by unfold Eff.app; rw [c1, mixH_nil]
    have hp : ∀ d : Option Tmp, (S.put d e.v).heap = S.heap := fun d => put_heap _ _ _
    cases hwn : e.want with
    | false =>
      simp only [Bool.false_eq_true, if_false]
      refine ⟨G, putVs tv o.dst undef, by rw [put_act]; cases o.dst <;> rfl, ?_⟩
      refine ⟨?_, hh.mz, ?_, hdown, hh.up⟩
      · rw [hadd, happ, hp]
        refine hst.weak (relF_stable _ _ _) fun q => ⟨?_, by rw [hp]; exact q.2⟩
        have := rel_put q.1 o.dst (v := e.v) (X := undef) (fun _ _ _ => by rw [c2 hwn]; exact und_rel) S.heap
        exact this
      · intro p x y hp hy hLp j h1 h2
        simp only [Bool.or_eq_false_iff] at hLp
        exact hh.fresh p x y hp hy hLp.1 j h1 h2
    | true =>
      simp only [if_true]
      obtain ⟨hl, hrf, h', hlev⟩ := c3 hwn
      refine .inl (Oper.wp_mono (fun a' w' hst' => ?_) (evOp_free (Q := Q) (v := e.v) (h' := h') hF hib hst hh.mz hl (fun k' => by rw [← evOp_congr hevx]; exact hlev k') (by rw [hrefs]; exact hrf)))
      obtain ⟨G', tv', ha, hst', hfr, hup⟩ := hst'
      refine ⟨G', tv', ha, ?_, hh.mz, ?_, hdown, hh.up.trans hup⟩
      · rw [hadd, happ, hp]; exact hst'
      · intro p x y hp hy hLp j h1 h2
        simp only [Bool.or_eq_false_iff] at hLp
        exact hfr j (hh.fresh p x y hp hy hLp.1 j h1 h2)
  | true =>
    obtain ⟨hwn, c1, c2, c3, c4, c5, c6⟩ := hon heo
    rw [hwn]
    simp only [if_true]
    have hcl : closB S.heap e.fp (refsOf S o) = true := by
      rw [hrefs]
      obtain ⟨d1, d2⟩ := closB_out c4
      simp only [closB, Bool.and_eq_true, List.all_eq_true, hasN_iff]
      exact ⟨d1, fun j hj i hi => d2 j hj i (by rw [hheap heo j hj]; exact hi)⟩
    have honly : onlyH e.fp 0 T.heap = onlyH e.fp 0 S.heap := by
      refine List.ext_getElem? fun j => ?_
      rw [onlyH_get, onlyH_get, Nat.zero_add]
      cases hj : hasN j e.fp with
      | true => rw [hheap heo j (hasN_iff.1 hj)]
      | false =>
        rcases Nat.lt_or_ge j s0.heap.length with hlt | hge
        · rw [List.getElem?_eq_getElem (by rw [hlenT]; exact hlt), List.getElem?_eq_getElem (by rw [hlenS]; exact hlt)]; rfl
        · rw [List.getElem?_eq_none (by rw [hlenT]; exact hge), List.getElem?_eq_none (by rw [hlenS]; exact hge)]
    have hev : ∀ k', evOp P F D o S.ev (onlyH e.fp 0 S.heap) e.b k' = k' e.v e.h := by
      intro k'
      rw [← honly, ← evOp_congr hevx]; exact c5 k'
    have hbl : e.b + nObj P D o ≤ S.heap.length := by
      rw [hlenS, heb]
      have := room_le (P := P) (D := D) hi
      omega
    refine .inl (Oper.wp_mono (fun a' w' hst' => ?_) (evOp_masked (Q := Q) hF hib hst hh.mz (hh.fresh i o e he heo hL) hbl c3 hcl hev c6))
    obtain ⟨G', tv', ha, hst', hout, hup⟩ := hst'
    refine ⟨G', tv', ha, ?_, hh.mz, ?_, hdown, hh.up.trans hup⟩
    · rw [hadd]
      have hmix : mixH e.fp 0 S.heap e.h = mixH e.wr 0 S.heap e.h := by
        refine List.ext_getElem? fun j => ?_
        rw [mixH_get, mixH_get, Nat.zero_add]
        cases h1 : hasN j e.fp with
        | false =>
          have : hasN j e.wr = false := by
            cases h2 : hasN j e.wr with
            | false => rfl
            | true => rw [hasN_iff.2 (hwrfp i o e he heo j (hasN_iff.1 h2))] at h1; cases h1
          rw [this]
        | true =>
          cases h2 : hasN j e.wr with
          | true => rfl
          | false =>
            rw [c1] at h2
            have := evOp_keeps hev h1 h2
            rw [this, onlyH_get, Nat.zero_add, h1]
            cases S.heap[j]? <;> rfl
      rw [hmix] at hst'
      unfold Eff.app
      rw [put_heap]
      exact hst'
    · intro p x y hp hy hLp j h1 h2
      simp only [Bool.or_eq_false_iff] at hLp
      have hpi : p ≠ i := fun h => by rw [h] at hLp; simp at hLp
      have hjf : hasN j e.fp = false := by
        cases hj : hasN j e.fp with
        | false => rfl
        | true =>
          have hj := hasN_iff.1 hj
          rcases Nat.lt_or_gt_of_ne hpi with hlt | hgt
          · have hw : j ∈ y.wr := by rw [((ht.step p x y hp).2.2.1 hy).2.1]; exact slots_wr h1 h2
            have hLd : L p = decide (i < p) := by rw [hLp.1]; symm; simp; omega
            exact absurd hj (((hfar p x y hp hpi hLd).2.2 hy heo).1 j hw)
          · have a1 := c3 j hj
            have a2 := (ht.step p x y hp).1
            have a3 := room_take (P := P) (D := D) hi p hgt
            omega
      rw [hout j hjf]
      exact hh.fresh p x y hp hy hLp.1 j h1 h2
end
end Go.Ab
namespace Go.Ab
open Go Go.Dk

section
variable {P : Program} {F : Callee} {D : Dec} {w0 : World} {M Z0 : Zone} {ops : List Oper} {an : List (List Nat)} {s0 : AS} {es : List Eff} {b0 : Nat} {G0 : List GO} {Q : Exit → Act → World → Prop}
theorem all_listed (hd : drawB ops an ops 0 = true) {listed : Array Bool} (hs : listed.size = ops.length) (hr : Region.ready .any ops.toArray listed = []) : ∀ i, i < ops.length → listed.getD i false = true := by
  intro i
  induction i using Nat.strongRecOn with
  | ind i ih =>
    intro hi
    cases hL : listed.getD i false with
    | true => rfl
    | false =>
      exfalso
      have hmem : i ∈ Region.ready .any ops.toArray listed := by
        rw [mem_ready]
        refine ⟨?_, ops[i], by simp [hi], fun e he hb => ?_⟩
        · have hlt : i < listed.size := by omega
          simp only [Array.getD_eq_getD_getElem?, Array.getElem?_eq_getElem hlt, Option.getD_some] at hL ⊢; exact hL
        · have hst := drawB_out hd i ops[i] (List.getElem?_eq_getElem hi)
          have := (edgesB_out hst.2.1).1 e he hb
          rw [Nat.zero_add] at this
          exact ih e.on this (by omega)
      rw [hr] at hmem; cases hmem
theorem draw_any (hF : CallsOK P F) (hib : ∀ f, D.ib f = true → extIB P f) (hd : drawB ops an ops 0 = true) (ht : Trace P F D ops an b0 s0 es) (hroom : b0 + room P D ops ≤ s0.heap.length)
    (hQ : ∀ (L : Nat → Bool) G tv w, (∀ i, i < ops.length → L i = true) → Here P D w0 M Z0 ops an s0 es G0 L G tv w → Q .normal ⟨tv.toArray, []⟩ w) :
    ∀ (fuel : Nat) (listed : Array Bool) G tv w, listed.size = ops.length → listed.toList.count false ≤ fuel → Here P D w0 M Z0 ops an s0 es G0 (fun q => listed.getD q false) G tv w →
      wpAny P .any ops.toArray Q fuel listed ⟨tv.toArray, []⟩ w
  | 0, listed, G, tv, w, hs, hc, hh => by
    have hall : ∀ i, i < ops.length → listed.getD i false = true := by
      intro i hi
      have hlt : i < listed.size := by omega
      have : false ∉ listed.toList := List.count_eq_zero.1 (by omega)
      simp only [Array.getD_eq_getD_getElem?, Array.getElem?_eq_getElem hlt, Option.getD_some]
      cases hb : listed[i] with
      | true => rfl
      | false => exact absurd (by rw [← hb]; simp) this
    refine ⟨?_, hQ _ G tv w hall hh⟩
    cases hr : Region.ready .any ops.toArray listed with
    | nil => rfl
    | cons i l =>
      have hm : i ∈ Region.ready .any ops.toArray listed := by rw [hr]; exact List.mem_cons_self ..
      obtain ⟨h1, o, ho, _⟩ := mem_ready.1 hm
      have hi : i < ops.length := by
        have := (Array.getElem?_eq_some_iff.1 ho).1; simpa using this
      have h2 := hall i hi
      have hlt : i < listed.size := by omega
      simp only [Array.getD_eq_getD_getElem?, Array.getElem?_eq_getElem hlt, Option.getD_some] at h1 h2
      rw [h1] at h2; cases h2
  | fuel + 1, listed, G, tv, w, hs, hc, hh => by
    refine ⟨fun hr => hQ _ G tv w (all_listed hd hs hr) hh, fun i hi => ?_⟩
    obtain ⟨h1, o, ho, h2⟩ := mem_ready.1 hi
    have hil : i < ops.length := by have := (Array.getElem?_eq_some_iff.1 ho).1; simpa using this
    have hlt : i < listed.size := by omega
    have hLi : listed.getD i false = false := by
      simp only [Array.getD_eq_getD_getElem?, Array.getElem?_eq_getElem hlt, Option.getD_some] at h1 ⊢; exact h1
    refine wpOp_mono (fun a' w' hh' => ?_) (hh.step (Q := Q) hF hib hd ht hroom (i := i) (o := o) (by simpa using ho) hLi h2)
    obtain ⟨G', tv', ha, hh'⟩ := hh'
    subst ha
    refine draw_any hF hib hd ht hroom hQ fuel _ G' tv' w' (by simpa using hs) ?_ ?_
    · have hlt' : i < listed.toList.length := by simpa using hlt
      have h3 : listed[i] = false := by
        simp only [Array.getD_eq_getD_getElem?, Array.getElem?_eq_getElem hlt, Option.getD_some] at hLi; exact hLi
      rw [Array.toList_setIfInBounds, List.count_set hlt']
      have h4 : listed.toList[i] = false := by simpa using h3
      rw [h4]
      show List.count false listed.toList - 1 + 0 ≤ fuel
      omega
    · have : (fun q => (listed.setIfInBounds i true).getD q false) = fun q => listed.getD q false || Nat.beq q i := by
        funext q
        by_cases hq : q = i
        · subst hq
          simp [hlt]
        · have hb : Nat.beq q i = false := by cases hb : Nat.beq q i with | false => rfl | true => simp only [Nat.beq_eq] at hb; exact absurd hb hq
          rw [_root_.Go.getD_set_ne false (Ne.symm hq), hb, Bool.or_false]
      rw [this]; exact hh'
end
theorem _root_.Go.Dk.St.drawn {w0 w : World} {M Z0 : Zone} {L : List Res} {φ : Fact} (h : St w0 M Z0 L φ w) (n : Nat) : St w0 M Z0 L φ { w with drawn := n } :=
  ⟨⟨h.ext.os, h.ext.tape, h.ext.output, h.ext.size, h.ext.block⟩, fun q hq => h.loc q hq w _ (fun _ _ => rfl) (h.own q hq), h.loc, h.key, h.dis, h.stab, h.stab _ _ w _ (fun b hz _ => ⟨hz, rfl⟩) h.per⟩
theorem drawOK {P : Program} [hm : DrM P] {F : Callee} {D : Dec} (hib : ∀ f, D.ib f = true → extIB P f) (hF : CallsOK P F) : DrawOK P F D := by
  intro w0 M Z0 G s tv w ops id k r Q hI hd h hQ
  obtain ⟨es, h1, h2, h3, _, h5⟩ := evDr_trace h
  refine wp_region_any hm.out ?_
  have hlen : ops.toArray.size = ops.length := by simp
  have hg := hI.grow (room P D ops)
  have ht : Trace P F D ops (ancL ops []) s.heap.length (grow (room P D ops) s) es := by
    refine ⟨h1, fun p o e hp => ?_, fun p q o e o' e' hpq hp hq a c => ?_⟩
    · have := h3 p o e hp; simp only [Nat.zero_add] at this; exact this
    · have := h5 p q o e o' e' hpq hp hq a c; simp only [Nat.zero_add] at this; exact this
  have hrep : (fun q => (Array.replicate ops.toArray.size false).getD q false) = fun _ => false := by
    funext q
    simp only [Array.getD_eq_getD_getElem?, Array.getElem?_replicate]
    split <;> rfl
  refine draw_any (w0 := w0) (M := M) (Z0 := Z0) (G0 := G ++ List.replicate (room P D ops) .fresh) hF hib hd ht (by simp [grow]) ?_ ops.toArray.size _ (G ++ List.replicate (room P D ops) .fresh) tv _ (by simp) (by simp) ?_
  · intro L G' tv' w' hL hh
    have he : foldE (ops.zip es) 0 L (grow (room P D ops) s) = foldE (ops.zip es) 0 (fun _ => true) (grow (room P D ops) s) :=
      foldE_congr fun q _ hq => by
        refine hL q ?_
        have : (ops.zip es).length ≤ ops.length := by rw [List.length_zip]; omega
        omega
    have hst := hh.st
    rw [he] at hst
    refine hQ _ G' tv' w' h2 ⟨hst, fun j hj hl => ?_, hh.mz⟩ ((Up.append _ _).trans hh.up).weak
    rw [hst.per.2.1] at hj; omega
  · rw [hrep]
    have hs : foldE (ops.zip es) 0 (fun _ => false) (grow (room P D ops) s) = grow (room P D ops) s := foldE_skip fun _ _ => rfl
    refine ⟨by rw [hs]; exact hg.st.drawn _, hg.mz, fun p o e hp _ _ j hj hl => ?_, nofun, Up.refl _⟩
    refine hg.fresh j ?_ ?_
    · have := (ht.step p o e hp).1; omega
    · have a1 := (ht.step p o e hp).1
      have a2 := room_le (P := P) (D := D) (zip_fst hp).1
      have a3 := hI.len
      simp only [List.length_append, List.length_replicate]
      omega
theorem abs_sound {P : Program} [hm : DrM P] {S : Say} (hp : PrimsOK P S) (hib : ∀ f, S.D.ib f = true → extIB P f) (n : Nat) : CallsOK P (evF P S n) :=
  evF_sound hp hib (fun F hF => drawOK hib hF) n
end Go.Ab
