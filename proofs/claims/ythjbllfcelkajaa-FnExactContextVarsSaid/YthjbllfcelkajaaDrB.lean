/- One operation over a memory of some objects alone is sound. No program in sight. -/
import Derived.Test.YthjbllfcelkajaaDrA
set_option linter.unusedVariables false
set_option linter.unusedSimpArgs false
namespace Go.Ab
open Go Go.Dk

section
variable {P : Program} {F : Callee} {D : Dec} {w0 w : World} {M Z0 : Zone} {b : Nat} {G : List GO} {s : AS} {tv : List Value}
theorem put_heap (s : AS) (d : Option Tmp) (v : AV) : (s.put d v).heap = s.heap := by cases d <;> rfl
theorem maskT_get (live : List Nat) : ∀ (l : List AV) (i t : Nat), (maskT live i l)[t]? = l[t]?.map fun v => cond (hasN (i + t) live) v anyV
  | [], i, t => by simp [maskT]
  | v :: l, i, 0 => by simp [maskT]
  | v :: l, i, t + 1 => by simp only [maskT, List.getElem?_cons_succ]; rw [maskT_get live l (i + 1) t, show i + 1 + t = i + (t + 1) by omega]
def opT (o : Oper) : List Nat := o.op.operands.toList.flatMap fun x => match x with | .tmp t => [t] | _ => []
theorem mem_opT {o : Oper} {t : Nat} : t ∈ opT o ↔ .tmp t ∈ o.op.operands := by
  unfold opT
  rw [List.mem_flatMap]
  constructor
  · rintro ⟨x, hx, ht⟩
    cases x <;> simp at ht
    subst ht; simpa using hx
  · intro h
    exact ⟨.tmp t, by simpa using h, by simp⟩
theorem closB_out {h : List AObj} {fp rf : List Nat} (hc : closB h fp rf = true) : (∀ j ∈ rf, j ∈ fp) ∧ ∀ j ∈ fp, ∀ i ∈ refsO h[j]?, i ∈ fp := by
  simp only [closB, Bool.and_eq_true, List.all_eq_true, hasN_iff] at hc
  exact hc
theorem put_act' (tv : List Value) (d : Option Tmp) (X : Value) : (Act.mk tv.toArray []).put d X = ⟨(match d with | some d => tv.set d X | none => tv).toArray, []⟩ := put_act tv d X
def putVs (tv : List Value) (d : Option Tmp) (X : Value) : List Value := match d with | some d => tv.set d X | none => tv
theorem rel_put {G : List GO} {Z : Zone} {tm : List AV} (hh : All2 (RV G Z w) tm tv) (d : Option Tmp) {v : AV} {X : Value} (hv : ∀ q, d = some q → q < tm.length → RV G Z w v X) (h : List AObj) :
    All2 (RV G Z w) (AS.put ⟨tm, h⟩ d v).tmps (putVs tv d X) := by
  cases d with
  | none => exact hh
  | some d =>
    by_cases hd : d < tm.length
    · exact hh.set d (hv d rfl hd)
    · show All2 _ (tm.set d v) (tv.set d X)
      rw [List.set_eq_of_length_le (Nat.le_of_not_lt hd), List.set_eq_of_length_le (by rw [← hh.1]; exact Nat.le_of_not_lt hd)]; exact hh
/-- What an operation does with the objects fp, all else apart. -/
theorem evOp_masked (hF : CallsOK P F) (hib : ∀ f, D.ib f = true → extIB P f) (hst : St w0 M Z0 (resL s.heap G) (relF s G tv) w) (hm : ∀ k, M k → Z0 k) {o : Oper} {fp : List Nat} {v : AV} {h' : List AObj} {Q : Exit → Act → World → Prop}
    (hfr : ∀ j, b ≤ j → j < b + nObj P D o → G[j]? = some .fresh) (hb : b + nObj P D o ≤ s.heap.length) (hfp : ∀ j ∈ fp, j < b + nObj P D o) (hcl : closB s.heap fp (refsOf s o) = true)
    (hev : ∀ k', evOp P F D o s.ev (onlyH fp 0 s.heap) b k' = k' v h') (hcl' : closB h' fp (refsA v) = true) :
    o.wp P ⟨tv.toArray, []⟩ w (fun a' w' => ∃ G' tv', a' = ⟨tv'.toArray, []⟩ ∧ St w0 M Z0 (resL (mixH fp 0 s.heap h') G') (relF (AS.put ⟨s.tmps, mixH fp 0 s.heap h'⟩ o.dst v) G' tv') w' ∧ (∀ j, hasN j fp = false → G'[j]? = G[j]?) ∧ Up G G') Q := by
  obtain ⟨hc1, hc2⟩ := closB_out hcl
  obtain ⟨hd1, hd2⟩ := closB_out hcl'
  have hlen : s.heap.length = G.length := hst.per.2.1
  have hp := resL_split fp b s.heap G 0
  generalize hL1 : resL (onlyH fp 0 s.heap) (maskG fp b 0 G) = L1 at hp
  have hs := (hst.perm hp).sub (List.sublist_append_left _ _)
  have hk : ∀ k, zone w0 Z0 (resL s.heap G) k → zone w (fun k => zone w0 Z0 (resL s.heap G) k ∨ footL L1 k) L1 k := fun k hk =>
    ⟨.inl (.inl hk), fun q hq => hk.2 q (hp.mem_iff.2 (List.mem_append.2 (.inl hq)))⟩
  have hGM : ∀ j ∈ fp, ∀ g, G[j]? = some g → (maskG fp b 0 G)[j]? = some g := fun j hj g hg => by
    rw [maskG_get, hg, Nat.zero_add, hasN_iff.2 hj]; rfl
  have hIM : InvG w (footL L1) (fun k => zone w0 Z0 (resL s.heap G) k ∨ footL L1 k) b (maskG fp b 0 G) ⟨maskT (opT o) 0 s.tmps, onlyH fp 0 s.heap⟩ tv w := by
    refine ⟨⟨Ext.refl _ _, ?_, ?_, ?_, ?_, relF_stable _ _ _, ?_⟩, ?_, fun k hk => .inr hk⟩
    · rw [hL1]; exact hs.own
    · rw [hL1]; exact hs.loc
    · rw [hL1]; exact fun q hq k hf => ⟨.inl ⟨q, hq, hf⟩, (hs.key q hq k hf).2⟩
    · rw [hL1]; exact hs.dis
    · have hper := hst.per
      rw [hL1]
      refine ⟨⟨?_, fun t x y hx hy => ?_⟩, ?_, fun j x y hx hy => ?_⟩
      · have : (maskT (opT o) 0 s.tmps).length = s.tmps.length := by
          refine Nat.le_antisymm ?_ ?_ <;> refine Nat.le_of_not_lt fun hlt => ?_
          · have h1 := maskT_get (opT o) s.tmps 0 s.tmps.length
            rw [List.getElem?_eq_getElem hlt, List.getElem?_eq_none (Nat.le_refl _)] at h1
            cases h1
          · have h1 := maskT_get (opT o) s.tmps 0 (maskT (opT o) 0 s.tmps).length
            rw [List.getElem?_eq_none (Nat.le_refl _), List.getElem?_eq_getElem hlt] at h1
            cases h1
        rw [this]; exact hper.1.1
      · rw [maskT_get, Nat.zero_add] at hx
        obtain ⟨x', hx', rfl⟩ := Option.map_eq_some_iff.1 hx
        cases ht : hasN t (opT o) with
        | false => exact any_rel y
        | true =>
          have hr := hper.1.2 t x' y hx' hy
          rw [cond_true]
          refine (RV.on (hr.stable (keeps_le hk)) fun j hj g hg => hGM j (hc1 j ?_) g hg)
          refine List.mem_flatMap.2 ⟨.tmp t, by simpa using mem_opT.1 (hasN_iff.1 ht), ?_⟩
          show j ∈ refsA (s.tmps.getD t anyV)
          simp only [List.getD, hx', Option.getD_some]; exact hj
      · rw [onlyH_length, maskG_length]; exact hlen
      · rw [onlyH_get, Nat.zero_add] at hx
        rw [maskG_get, Nat.zero_add] at hy
        obtain ⟨x', hx', rfl⟩ := Option.map_eq_some_iff.1 hx
        obtain ⟨y', hy', rfl⟩ := Option.map_eq_some_iff.1 hy
        cases ht : hasN j fp with
        | false => cases Nat.blt j b <;> trivial
        | true =>
          have hr := hper.2.2 j x' y' hx' hy'
          refine RO.on (hr.stable (keeps_le hk)) fun i hi g hg => hGM i (hc2 j (hasN_iff.1 ht) i ?_) g hg
          rw [hx']; exact hi
    · intro j hj hjl
      rw [maskG_length] at hjl
      rw [maskG_get, Nat.zero_add, List.getElem?_eq_getElem hjl, Option.map_some]
      cases ht : hasN j fp with
      | true =>
        have := hfr j hj (hfp j (hasN_iff.1 ht))
        rw [List.getElem?_eq_getElem hjl] at this
        exact this
      | false =>
        have : Nat.blt j b = false := by
          cases hb' : Nat.blt j b with
          | false => rfl
          | true => rw [Nat.blt_eq] at hb'; omega
        rw [this]; rfl
  have hevM : ∀ x ∈ o.op.operands, (AS.mk (maskT (opT o) 0 s.tmps) (onlyH fp 0 s.heap)).ev x = s.ev x := by
    intro x hx
    cases x with
    | tmp t =>
      show (maskT (opT o) 0 s.tmps).getD t anyV = s.tmps.getD t anyV
      simp only [List.getD, maskT_get, Nat.zero_add, hasN_iff.2 (mem_opT.2 hx), cond_true]
      cases s.tmps[t]? <;> rfl
    | _ => rfl
  classical
  have hrun : evOp P F D o (AS.mk (maskT (opT o) 0 s.tmps) (onlyH fp 0 s.heap)).ev (AS.mk (maskT (opT o) 0 s.tmps) (onlyH fp 0 s.heap)).heap b (fun v2 h2 => if v2 = v ∧ h2 = h' then some ([], []) else none) = some ([], []) := by
    rw [evOp_congr hevM]
    show evOp P F D o s.ev (onlyH fp 0 s.heap) b _ = _
    rw [hev]; simp
  refine Oper.wp_mono (fun a' w' hst' => ?_) (evOp_sound (Q := Q) hF hib hIM (by show _ ≤ (onlyH fp 0 s.heap).length; rw [onlyH_length]; exact hb) hrun)
  obtain ⟨v2, h2, G2, tv2, hk2, ha, hI2, hl2, hu2, X, hX⟩ := hst'
  have hvh : v2 = v ∧ h2 = h' := by
    by_cases hh : v2 = v ∧ h2 = h'
    · exact hh
    · simp [hh] at hk2
  obtain ⟨rfl, rfl⟩ := hvh
  replace hX : tv2 = putVs tv o.dst X := by rw [hX]; cases o.dst <;> rfl
  have hst2 := hI2.st
  rw [put_heap] at hst2
  rw [← hL1] at hp
  have hst2' := hst2
  rw [← hL1] at hst2'
  have hfrm := frame hst hm hp hst2'
  have hl : h2.length = s.heap.length := by rw [hl2]; exact onlyH_length _ _ _
  have hG2 : G2.length = G.length := by
    have := hI2.len
    rw [put_heap] at this
    rw [← this]; show h2.length = _; rw [hl, hlen]
  have hperm := resL_mix fp s.heap h2 G G2 0 hl hlen hG2
  have hS := (hfrm.1.sub ((resL_only fp h2 G2 0).append_right _)).perm hperm.symm
  have hin : ∀ j ∈ fp, (mixG fp 0 G G2)[j]? = G2[j]? := fun j hj => mixG_in (by rw [Nat.zero_add]; exact hasN_iff.2 hj) hG2
  have hout : ∀ j, hasN j fp = false → (mixG fp 0 G G2)[j]? = G[j]? := fun j hj => mixG_out (by rw [Nat.zero_add]; exact hj)
  have hup : Up G (mixG fp 0 G G2) := by
    intro j
    cases ht : hasN j fp with
    | false => rw [hout j ht]; exact Up.refl G j
    | true =>
      rw [hin j (hasN_iff.1 ht)]
      have := hu2 j
      rw [maskG_get, Nat.zero_add, ht] at this
      have he : (G[j]?.map fun o => cond true o (cond (Nat.blt j b) .gone .fresh)) = G[j]? := by cases G[j]? <;> rfl
      rw [he] at this
      exact this
  refine ⟨mixG fp 0 G G2, tv2, ha, hS.weak (relF_stable _ _ _) fun hh => ?_, hout, hup⟩
  obtain ⟨hc, hs0⟩ := hh
  refine ⟨?_, ?_⟩
  · rw [hX]
    refine rel_put (hs0.1.mono fun _ _ _ q => q.up hup) o.dst (fun d hd hdl => ?_) (mixH fp 0 s.heap h2)
    have h1 : (AS.put ⟨maskT (opT o) 0 s.tmps, h2⟩ o.dst v2).tmps[d]? = some v2 := by
      have : d < (maskT (opT o) 0 s.tmps).length := by
        have h3 := hIM.st.per.1.1
        have h4 := hs0.1.1
        exact Nat.lt_of_lt_of_eq hdl (h4.trans h3.symm)
      rw [hd]; show ((maskT (opT o) 0 s.tmps).set d v2)[d]? = _
      simp [this]
    have h2' : tv2[d]? = some X := by
      rw [hX, hd]
      have : d < tv.length := by rw [← hs0.1.1]; exact hdl
      simp [putVs, this]
    exact RV.on (hc.1.2 d v2 X h1 h2') fun j hj g hg => by rw [hin j (hd1 j hj)]; exact hg
  · rw [put_heap]
    refine ⟨by rw [mixH_length, mixG_length]; exact hlen, fun j x y hx hy => ?_⟩
    cases ht : hasN j fp with
    | false =>
      rw [mixH_out (by rw [Nat.zero_add]; exact ht)] at hx
      rw [hout j ht] at hy
      exact (hs0.2.2 j x y hx hy).up hup
    | true =>
      have hx' : h2[j]? = some x := by rw [← hx]; exact (mixH_in (by rw [Nat.zero_add]; exact ht) hl).symm
      rw [hin j (hasN_iff.1 ht)] at hy
      have hro := hc.2.2 j x y (by rw [put_heap]; exact hx') hy
      refine RO.on hro fun i hi g hg => by rw [hin i (hd2 j (hasN_iff.1 ht) i (by rw [hx']; exact hi))]; exact hg

/-! What an operation leaves as it was. -/
theorem keep1 {f : (AV → OR) → OR} {h h' : List AObj} (hf : N1 f) (hh : f (fun v => some ([], h)) = some ([], h')) : h' = h := by
  obtain ⟨a, ha, _⟩ := hf _ _ hh
  injection ha with ha; injection ha with _ ha; exact ha.symm
theorem keepS {f : (SV → OR) → OR} {h h' : List AObj} (hf : N1 f) (hh : f (fun v => some ([], h)) = some ([], h')) : h' = h := by
  obtain ⟨a, ha, _⟩ := hf _ _ hh
  injection ha with ha; injection ha with _ ha; exact ha.symm
theorem out_range {j b n : Nat} (h : hasN j (List.range' b n) = false) : ¬ (b ≤ j ∧ j < b + n) := fun hh => by
  have : j ∈ List.range' b n := by rw [List.mem_range'_1]; exact hh
  rw [hasN_iff.2 this] at h; cases h
theorem set_keep {h h' : List AObj} {b j : Nat} {o : AObj} (hn : hasN j (List.range' b 1) = false) (hh : (some ([], h.set b o) : OR) = some ([], h')) : h'[j]? = h[j]? := by
  injection hh with hh; injection hh with _ hh
  rw [← hh, List.getElem?_set_ne]
  have := out_range hn; omega
theorem hasN_append {j : Nat} {l m : List Nat} (h : hasN j (l ++ m) = false) : hasN j l = false ∧ hasN j m = false := by
  have h1 : j ∉ l ++ m := fun hm => by rw [hasN_iff.2 hm] at h; cases h
  rw [List.mem_append, not_or] at h1
  refine ⟨?_, ?_⟩
  · cases hh : hasN j l with
    | false => rfl
    | true => exact absurd (hasN_iff.1 hh) h1.1
  · cases hh : hasN j m with
    | false => rfl
    | true => exact absurd (hasN_iff.1 hh) h1.2
theorem evOp_keeps {o : Oper} {ρ : Operand → AV} {h h' : List AObj} {v : AV} {fp : List Nat} {j : Nat} (hev : ∀ k', evOp P F D o ρ h b k' = k' v h') (hj : hasN j fp = true)
    (hn : hasN j (writes o fp b (nObj P D o)) = false) : h'[j]? = h[j]? := by
  have hk := hev fun _ h => some ([], h)
  obtain ⟨dst, op, ty, pos, aft, gd⟩ := o
  unfold writes at hn
  obtain ⟨hn1, hn2⟩ := hasN_append hn
  have same : ∀ {h1 : List AObj}, h1 = h → h1[j]? = h[j]? := fun e => by rw [e]
  have same' : (some ([], h) : OR) = some ([], h') → h'[j]? = h[j]? := fun e => by injection e with e; injection e with _ e; rw [e]
  cases op <;> simp only [evOp] at hk <;> simp only [nObj] at hn2
  case move => exact same' hk
  case assign => exact same' hk
  case pick =>
    split at hk
    · rcases cond_some hk with ⟨_, hk⟩ | ⟨_, hk⟩ <;> exact same' hk
    · cases hk
  case alloc => obtain ⟨z, _, hk⟩ := bind_some hk; exact set_keep hn2 hk
  case box => obtain ⟨z, _, hk⟩ := bind_some hk; exact set_keep hn2 hk
  case build => exact same (keep1 (evBuild_N P _ _) hk)
  case buildSlice => rw [hj] at hn1; cases hn1
  case load => exact same (keep1 (evLoad_N P _ _ _) hk)
  case store => rw [hj] at hn1; cases hn1
  case nilCheck => exact same (keepS (evNil_N _ _) hk)
  case binOp => exact same (keepS (evBin_N P _ _ _ _) hk)
  case unOp => exact same (keepS (evUn_N _ _) hk)
  case convert => exact same (keepS (evConv_N P _ _ _ _) hk)
  case makeFunc =>
    split at hk
    · obtain ⟨z, _, hk⟩ := bind_some hk; exact same' hk
    · cases hk
  case makeSlice t x y =>
    unfold evMake at hk
    obtain ⟨n, hk, _⟩ := optInt_N _ _ _ hk
    obtain ⟨m, hk, _⟩ := optInt_N _ _ _ hk
    obtain ⟨_, hk⟩ := cond_left hk
    split at hk
    · obtain ⟨_, hk⟩ := cond_left hk
      obtain ⟨d, _, hk⟩ := bind_some hk
      exact set_keep hn2 hk
    · cases hk
  case slice => rw [hj] at hn1; cases hn1
  case fieldAddr =>
    obtain ⟨z, _, hk⟩ := bind_some hk
    exact same (keepS (evField_N _ _ _) hk)
  case indexAddr => exact same (keepS (evIndexAddr_N P _ _ _ _) hk)
  case index => exact same (keepS (evIndex_N P _ _ _) hk)
  case extract => exact same (keep1 (evExtract_N _ _) hk)
  case call c =>
    obtain ⟨callee, args, tys⟩ := c
    cases callee with
    | builtin bi =>
      simp only at hk
      unfold evBuiltin at hk
      split at hk
      · exact same (keepS (evLen_N P _ _ _) hk)
      · rw [hj] at hn1; cases hn1
      · exact same (keepS (evMax_N _ _ _) hk)
      · exact same (keepS (evMax_N _ _ _) hk)
      · cases hk
    | invoke q m => cases hk
    | value f => simp only at hn1; rw [hj] at hn1; cases hn1
  all_goals cases hk
/-! Operations that look at no memory. -/
theorem evOp_light {o : Oper} (hl : lightB o = true) (ρ : Operand → AV) (h : List AObj) (sl : Nat) (k : AV → List AObj → OR) : evOp P F D o ρ h sl k = evOp P F D o ρ [] 0 fun v _ => k v h := by
  obtain ⟨dst, op, ty, pos, aft, gd⟩ := o
  cases op <;> first | rfl | (simp [lightB] at hl; done)
theorem nObj_light {o : Oper} (hl : lightB o = true) : nObj P D o = 0 := by
  obtain ⟨dst, op, ty, pos, aft, gd⟩ := o
  cases op <;> first | rfl | (simp [lightB] at hl; done)
def takenG : GO → Bool | .fresh => false | _ => true
theorem RS.refs {G : List GO} {Z : Zone} {v : SV} {X : Value} (h : RS G Z w v X) : ∀ j ∈ refsS v, ∃ g, G[j]? = some g ∧ takenG g = true := by
  intro j hj
  cases v with
  | own i v =>
    simp only [refsS, List.mem_singleton] at hj; subst hj
    rcases h with h | ⟨ver, val, sz, xs, h, _⟩ <;> exact ⟨_, h, rfl⟩
  | ptr i o =>
    simp only [refsS, List.mem_singleton] at hj; subst hj
    rcases h with h | ⟨bb, T, vs, h, _⟩ <;> exact ⟨_, h, rfl⟩
  | op i v n o =>
    simp only [refsS, List.mem_singleton] at hj; subst hj
    rcases h with h | ⟨ver, val, sz, xs, h, _⟩ <;> exact ⟨_, h, rfl⟩
  | fn f l =>
    obtain ⟨bs, _, hh⟩ := h
    obtain ⟨i, hi⟩ := List.getElem?_of_mem (show j ∈ l from hj)
    obtain ⟨bb, _, hr⟩ := hh.get hi
    rcases hr with h | ⟨T, vs, h⟩ <;> exact ⟨_, h, rfl⟩
  | _ => simp [refsS] at hj
theorem RV.refs {G : List GO} {Z : Zone} {v : AV} {X : Value} (h : RV G Z w v X) : ∀ j ∈ refsA v, ∃ g, G[j]? = some g ∧ takenG g = true := by
  have one : ∀ {v : V1} {X : Value}, RV1 G Z w v X → ∀ j ∈ refsV v, ∃ g, G[j]? = some g ∧ takenG g = true := by
    intro v X h j hj
    cases v with
    | one x => exact h.1.refs j hj
    | agg l =>
      obtain ⟨xs, _, hh⟩ := h
      obtain ⟨x, hx, hj⟩ := List.mem_flatMap.1 hj
      obtain ⟨i, hi⟩ := List.getElem?_of_mem hx
      obtain ⟨y, _, hr⟩ := hh.get hi
      exact hr.1.refs j hj
  intro j hj
  cases v with
  | v x => exact one h j hj
  | tup l =>
    obtain ⟨xs, _, hh⟩ := h
    obtain ⟨x, hx, hj⟩ := List.mem_flatMap.1 hj
    obtain ⟨i, hi⟩ := List.getElem?_of_mem hx
    obtain ⟨y, _, hr⟩ := hh.get hi
    exact one hr j hj
/-- The objects that have been made. -/
def madeL (G : List GO) : List Nat := (List.range G.length).filter fun j => match G[j]? with | some g => takenG g | none => false
theorem mem_made {G : List GO} {j : Nat} : j ∈ madeL G ↔ ∃ g, G[j]? = some g ∧ takenG g = true := by
  unfold madeL
  rw [List.mem_filter, List.mem_range]
  constructor
  · rintro ⟨h1, h2⟩
    rw [List.getElem?_eq_getElem h1] at h2 ⊢
    exact ⟨_, rfl, h2⟩
  · rintro ⟨g, h1, h2⟩
    have hl := lt_of_some h1
    rw [h1]
    exact ⟨hl, h2⟩
theorem evOp_free (hF : CallsOK P F) (hib : ∀ f, D.ib f = true → extIB P f) (hst : St w0 M Z0 (resL s.heap G) (relF s G tv) w) (hm : ∀ k, M k → Z0 k) {o : Oper} {v : AV} {h' : List AObj} {Q : Exit → Act → World → Prop}
    (hl : lightB o = true) (hev : ∀ k', evOp P F D o s.ev [] 0 k' = k' v h') (hr : (refsA v).all (hasN · (refsOf s o)) = true) :
    o.wp P ⟨tv.toArray, []⟩ w (fun a' w' => ∃ G' tv', a' = ⟨tv'.toArray, []⟩ ∧ St w0 M Z0 (resL s.heap G') (relF (AS.put s o.dst v) G' tv') w' ∧ (∀ j : Nat, G[j]? = some GO.fresh → G'[j]? = some GO.fresh) ∧ Up G G') Q := by
  have hper := hst.per
  have hop : ∀ j ∈ refsOf s o, j ∈ madeL G := by
    intro j hj
    obtain ⟨x, _, hj⟩ := List.mem_flatMap.1 hj
    have hI : InvG w0 M Z0 s.heap.length G s tv w := ⟨hst, fun j h1 h2 => by rw [hper.2.1] at h1; omega, hm⟩
    exact mem_made.2 ((hI.ev x).refs j hj)
  have hheap : ∀ (h2 : List AObj), (∀ j : Nat, j ∈ madeL G → h2[j]? = s.heap[j]?) → ∀ j ∈ madeL G, ∀ i ∈ refsO h2[j]?, i ∈ madeL G := by
    intro h2 he j hj i hi
    rw [he j hj] at hi
    cases ho : s.heap[j]? with
    | none => rw [ho] at hi; simp [refsO] at hi
    | some ob =>
      rw [ho] at hi
      obtain ⟨g, hg, hro⟩ := hper.2.get ho
      cases ob with
      | cells l =>
        cases g with
        | cells bb T vs =>
          obtain ⟨x, hx, hi⟩ := List.mem_flatMap.1 hi
          obtain ⟨q, hq⟩ := List.getElem?_of_mem hx
          obtain ⟨y, _, hr⟩ := All2.get hro hq
          exact mem_made.2 (hr.1.refs i hi)
        | _ => exact hro.elim
      | arr e d ver fz => simp [refsO] at hi
      | dead => simp [refsO] at hi
  have honly : ∀ j ∈ madeL G, (onlyH (madeL G) 0 s.heap)[j]? = s.heap[j]? := by
    intro j hj
    rw [onlyH_get, Nat.zero_add, hasN_iff.2 hj]
    cases s.heap[j]? <;> rfl
  have hmix : mixH (madeL G) 0 s.heap (onlyH (madeL G) 0 s.heap) = s.heap := by
    refine List.ext_getElem? fun j => ?_
    cases hj : hasN j (madeL G) with
    | false => exact mixH_out (by rw [Nat.zero_add]; exact hj)
    | true => rw [mixH_in (by rw [Nat.zero_add]; exact hj) (onlyH_length _ _ _)]; exact honly j (hasN_iff.1 hj)
  have clos : ∀ (h2 : List AObj) (rf : List Nat), (∀ j ∈ rf, j ∈ madeL G) → (∀ j : Nat, j ∈ madeL G → h2[j]? = s.heap[j]?) → closB h2 (madeL G) rf = true := by
    intro h2 rf h1 he
    simp only [closB, Bool.and_eq_true, List.all_eq_true, hasN_iff]
    exact ⟨h1, hheap h2 he⟩
  have hrf : ∀ j ∈ refsA v, j ∈ madeL G := by
    intro j hj
    rw [List.all_eq_true] at hr
    exact hop j (hasN_iff.1 (hr j hj))
  have := evOp_masked (b := s.heap.length) (fp := madeL G) (h' := onlyH (madeL G) 0 s.heap) (v := v) (Q := Q) (P := P) (F := F) (D := D) (o := o) hF hib hst hm
    (fun j h1 h2 => by rw [nObj_light hl] at h2; omega) (by rw [nObj_light hl]; exact Nat.le_refl _)
    (fun j hj => by
      obtain ⟨g, hg, _⟩ := mem_made.1 hj
      have := lt_of_some hg
      have := hper.2.1
      omega)
    (clos _ _ hop fun _ _ => rfl)
    (fun k' => by rw [evOp_light hl, hev]) (clos _ _ hrf honly)
  rw [hmix] at this
  refine Oper.wp_mono (fun a' w' hh => ?_) this
  obtain ⟨G', tv', h1, h2, h3, h4⟩ := hh
  refine ⟨G', tv', h1, h2, fun j hj => ?_, h4⟩
  rw [h3 j ?_]; exact hj
  cases hh : hasN j (madeL G) with
  | false => rfl
  | true =>
    obtain ⟨g, hg, ht⟩ := mem_made.1 (hasN_iff.1 hh)
    rw [hj] at hg
    obtain rfl := Option.some.inj hg
    cases ht
end
end Go.Ab
