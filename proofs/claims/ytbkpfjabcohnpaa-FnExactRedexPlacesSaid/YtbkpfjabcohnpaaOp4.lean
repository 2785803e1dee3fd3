/- The abstract run is sound: the heads of loops. No program in sight. -/
import Derived.Test.YtbkpfjabcohnpaaOp3
set_option linter.unusedVariables false
set_option linter.unusedSimpArgs false
namespace Go.Ab
open Go Go.Dk

section
variable {P : Program} {w0 w w' : World} {M Z0 Z : Zone} {b : Nat} {G G0 : List GO} {s : AS} {tv : List Value} {r : List V1 × List AObj}
theorem mask_rel (live : List Nat) : ∀ (i : Nat) {l : List AV} {xs : List Value}, All2 (RV G Z w) l xs → All2 (RV G Z w) (maskT live i l) xs
  | i, [], xs, h => h
  | i, v :: l, xs, h => by
    obtain ⟨X, xs', rfl, h1, h2⟩ := h.cons_inv
    refine All2.cons ?_ (mask_rel live (i + 1) h2)
    cases hasN i live
    · exact any_rel X
    · exact h1
theorem mask_sound (hI : InvG w0 M Z0 b G s tv w) (live : List Nat) : InvG w0 M Z0 b G ⟨maskT live 0 s.tmps, s.heap⟩ tv w :=
  ⟨hI.st.weak (relF_stable _ _ _) fun hh => ⟨mask_rel live 0 hh.1, hh.2⟩, hI.fresh, hI.mz⟩
theorem sameL_eq : ∀ {l m : List Nat}, sameL l m = true → l = m
  | [], [], _ => rfl
  | a :: l, c :: m, h => by simp only [sameL, Bool.and_eq_true, Nat.beq_eq] at h; rw [h.1, sameL_eq h.2]
  | [], _ :: _, h => by cases h
  | _ :: _, [], h => by cases h
theorem UpW.sel {js : List Nat} {m : Nat} (h : UpW G0 G) (hm : G0.length = m) (hj : js.take m = List.range m) : UpW G0 (selG js G) := by
  have key : ∀ j g, j < m → G[j]? = some g → (selG js G)[j]? = some g := by
    intro j g hjm hg
    have : js[j]? = some j := by
      have := congrArg (fun l => l[j]?) hj
      simp only [List.getElem?_take, if_pos hjm] at this
      rw [this]; simp [hjm]
    exact selG_get this hg
  intro j
  refine ⟨fun hh => ?_, fun b T vs hh => ?_, fun ver val sz xs hh => ?_⟩
  · exact key j _ (by rw [← hm]; exact lt_of_some hh) ((h j).1 hh)
  · have hl : j < m := by rw [← hm]; exact lt_of_some hh
    rcases (h j).2.1 b T vs hh with h1 | ⟨T', vs', h1⟩
    · exact .inl (key j _ hl h1)
    · exact .inr ⟨T', vs', key j _ hl h1⟩
  · have hl : j < m := by rw [← hm]; exact lt_of_some hh
    rcases (h j).2.2 _ _ _ _ hh with h1 | ⟨a, c, d, h1⟩
    · exact .inl (key j _ hl h1)
    · exact .inr ⟨a, c, d, key j _ hl h1⟩
theorem gc_sound {m : Nat} (hI : InvG w0 M Z0 s.heap.length G s tv w) (hu : UpW G0 G) (hm : G0.length = m) : ∃ G', InvG w0 M Z0 (gc m s).heap.length G' (gc m s) tv w ∧ UpW G0 G' := by
  have hg : gc m s = s ∨ ∃ js, okJs js s.heap.length = true ∧ sameL (js.take m) (List.range m) = true ∧ gc m s = ⟨s.tmps.map (renA js), selH js s.heap⟩ := by
    unfold gc
    generalize reach s.heap 64 _ _ = js
    cases hc : (okJs js s.heap.length && sameL (js.take m) (List.range m)) with
    | false => exact .inl (by simp [hc])
    | true =>
      have hc' := hc
      simp only [Bool.and_eq_true] at hc'
      exact .inr ⟨js, hc'.1, hc'.2, by simp [hc]⟩
  rcases hg with hg | ⟨js, h1, h2, hg⟩
  · rw [hg]; exact ⟨G, hI, hu⟩
  · rw [hg]
    exact ⟨selG js G, (hI.sel h1).raise (by simp [selH]), hu.sel hm (sameL_eq h2)⟩

/-! Empty slices as rows of the call's own. -/
def NewOk (o : AObj) (g : GO) : Prop := ∃ (e : TypeId × SK) (a : Option Addr), o = .arr e.1 e.2.nil 0 false ∧ g = .arr 0 (.slice a 0 0) e.2.size []
def At_ (b : Nat) (N G' : List GO) : Prop := ∀ (i : Nat) g, N[i]? = some g → G'[b + i]? = some g
theorem At_.left {N N' G' : List GO} (h : At_ b (N ++ N') G') : At_ b N G' := fun i g hg => h i g (by rw [List.getElem?_append_left (lt_of_some hg)]; exact hg)
theorem At_.right {N N' G' : List GO} (h : At_ b (N ++ N') G') : At_ (b + N.length) N' G' := fun i g hg => by
  have := h (N.length + i) g (by rw [List.getElem?_append_right (by omega)]; simpa using hg)
  rw [Nat.add_assoc]; exact this
theorem ownS_sound {v : SV} {X : Value} (h : OneR G Z w v X) : ∃ N, All2 NewOk (ownS b v).2 N ∧ ∀ G', At_ b N G' → Up G G' → OneR G' Z w (ownS b v).1 X := by
  unfold ownS
  split
  · rename_i e
    obtain ⟨⟨a, rfl⟩, h2⟩ := h
    refine ⟨[.arr 0 (.slice a 0 0) e.2.size []], All2.cons ⟨e, a, rfl, rfl⟩ All2.nil, fun G' hA hu => ⟨.inr ⟨0, _, _, _, hA 0 _ rfl, Nat.le_refl _, fun _ => rfl⟩, h2⟩⟩
  · exact ⟨[], All2.nil, fun G' _ hu => ⟨h.1.up hu, h.2⟩⟩
theorem ownL_sound : ∀ {l : List SV} {xs : List Value} {b : Nat}, All2 (OneR G Z w) l xs → ∃ N, All2 NewOk (ownL b l).2 N ∧ ∀ G', At_ b N G' → Up G G' → All2 (OneR G' Z w) (ownL b l).1 xs
  | [], xs, b, h => ⟨[], All2.nil, fun _ _ _ => by obtain rfl := h.nil_inv; exact All2.nil⟩
  | v :: l, xs, b, h => by
    obtain ⟨X, xs', rfl, h1, h2⟩ := h.cons_inv
    obtain ⟨N1, a1, c1⟩ := ownS_sound (b := b) h1
    obtain ⟨N2, a2, c2⟩ := ownL_sound (b := b + (ownS b v).2.length) h2
    refine ⟨N1 ++ N2, All2.append a1 a2, fun G' hA hu => All2.cons (c1 G' hA.left hu) (c2 G' (by rw [a1.1]; exact hA.right) hu)⟩
theorem ownA_sound {v : AV} {X : Value} {b : Nat} (h : RV G Z w v X) : ∃ N, All2 NewOk (ownA b v).2 N ∧ ∀ G', At_ b N G' → Up G G' → RV G' Z w (ownA b v).1 X := by
  cases v with
  | v x => cases x with
    | one x =>
      by_cases hx : x = .any
      · subst hx
        exact ⟨[], All2.nil, fun G' _ _ => any_rel X⟩
      · obtain ⟨N, a, c⟩ := ownS_sound (b := b) ⟨h.1, h.2 hx⟩
        exact ⟨N, a, fun G' hA hu => (c G' hA hu).rv⟩
    | agg l =>
      obtain ⟨xs, hX, hh⟩ := h
      obtain ⟨N, a, c⟩ := ownL_sound (b := b) hh
      exact ⟨N, a, fun G' hA hu => ⟨xs, hX, c G' hA hu⟩⟩
  | tup l => exact ⟨[], All2.nil, fun G' _ hu => RV.up hu h⟩
theorem ownTs_sound : ∀ {l : List AV} {xs : List Value} {b : Nat}, All2 (RV G Z w) l xs → ∃ N, All2 NewOk (ownTs b l).2 N ∧ ∀ G', At_ b N G' → Up G G' → All2 (RV G' Z w) (ownTs b l).1 xs
  | [], xs, b, h => ⟨[], All2.nil, fun _ _ _ => by obtain rfl := h.nil_inv; exact All2.nil⟩
  | v :: l, xs, b, h => by
    obtain ⟨X, xs', rfl, h1, h2⟩ := h.cons_inv
    obtain ⟨N1, a1, c1⟩ := ownA_sound (b := b) h1
    obtain ⟨N2, a2, c2⟩ := ownTs_sound (b := b + (ownA b v).2.length) h2
    refine ⟨N1 ++ N2, All2.append a1 a2, fun G' hA hu => All2.cons (c1 G' hA.left hu) (c2 G' (by rw [a1.1]; exact hA.right) hu)⟩
theorem ownH_sound : ∀ {h : List AObj} {gs : List GO} {b : Nat}, All2 (RO G Z w) h gs → ∃ N, All2 NewOk (ownH b h).2 N ∧ (∀ G', At_ b N G' → Up G G' → All2 (RO G' Z w) (ownH b h).1 gs) ∧ resL (ownH b h).1 gs = resL h gs
  | [], gs, b, h => ⟨[], All2.nil, fun _ _ _ => by obtain rfl := h.nil_inv; exact All2.nil, rfl⟩
  | o :: h, gs, b, hh => by
    obtain ⟨g, gs', rfl, h1, h2⟩ := hh.cons_inv
    cases o with
    | cells c =>
      cases g with
      | cells bb T vs =>
        obtain ⟨N1, a1, c1⟩ := ownL_sound (b := b) h1
        obtain ⟨N2, a2, c2, e2⟩ := ownH_sound (b := b + (ownL b c).2.length) h2
        refine ⟨N1 ++ N2, All2.append a1 a2, fun G' hA hu => All2.cons (c1 G' hA.left hu) (c2 G' (by rw [a1.1]; exact hA.right) hu), ?_⟩
        simp only [ownH, resL, resO, e2]
      | _ => exact h1.elim
    | arr e D v z =>
      obtain ⟨N2, a2, c2, e2⟩ := ownH_sound (b := b) h2
      exact ⟨N2, a2, fun G' hA hu => All2.cons (RO.up hu h1) (c2 G' hA hu), by simp only [ownH, resL, e2]⟩
    | dead =>
      obtain ⟨N2, a2, c2, e2⟩ := ownH_sound (b := b) h2
      exact ⟨N2, a2, fun G' hA hu => All2.cons (RO.up hu h1) (c2 G' hA hu), by simp only [ownH, resL, e2]⟩
theorem new_res : ∀ {o : List AObj} {N : List GO}, All2 NewOk o N → ∀ q ∈ resL o N, (∀ k, ¬ q.foot k) ∧ q.own w ∧ q.Local
  | [], N, h, q, hq => by simp [resL] at hq
  | o :: os, N, h, q, hq => by
    obtain ⟨g, N', rfl, ⟨e, a, rfl, rfl⟩, h2⟩ := h.cons_inv
    simp only [resL, List.mem_append, resO, List.mem_singleton] at hq
    rcases hq with rfl | hq
    · rw [SK.nil_len]
      exact ⟨fun k h => h, ⟨rfl, rfl, rfl⟩, fun _ _ _ h => h⟩
    · exact new_res h2 q hq
theorem new_RO {o : List AObj} {N : List GO} (h : All2 NewOk o N) : All2 (RO G Z w) o N :=
  h.mono fun o g _ ⟨e, a, ho, hg⟩ => by
    subst ho hg
    exact ⟨rfl, by rw [SK.nil_kind], ElemsR_nil e.2, a, 0, by rw [SK.nil_len]⟩
theorem _root_.Go.Dk.St.empties {L L' : List Res} {φ : Fact} (h : St w0 M Z0 L φ w) (h' : ∀ q ∈ L', (∀ k, ¬ q.foot k) ∧ q.own w ∧ q.Local) : St w0 M Z0 (L ++ L') φ w := by
  refine ⟨h.ext, ?_, ?_, ?_, ?_, h.stab, ?_⟩
  · intro q hq; exact (List.mem_append.1 hq).elim (h.own q) (fun hq => (h' q hq).2.1)
  · intro q hq; exact (List.mem_append.1 hq).elim (h.loc q) (fun hq => (h' q hq).2.2)
  · intro q hq k hk; exact (List.mem_append.1 hq).elim (fun hq => h.key q hq k hk) (fun hq => ((h' q hq).1 k hk).elim)
  · refine List.pairwise_append.2 ⟨h.dis, ?_, fun q hq p hp k _ hk => (h' p hp).1 k hk⟩
    exact List.Pairwise.imp_of_mem (fun ha _ _ k hk _ => (h' _ ha).1 k hk) (List.pairwise_of_forall (fun _ _ => trivial) : List.Pairwise (fun _ _ => True) L')
  · refine h.stab _ _ w w (fun k hz _ => ⟨⟨hz.1, fun q hq hf => ?_⟩, rfl⟩) h.per
    exact (List.mem_append.1 hq).elim (fun hq => hz.2 q hq hf) (fun hq => (h' q hq).1 k hf)
theorem ownAll_sound (hI : InvG w0 M Z0 s.heap.length G s tv w) (hu : UpW G0 G) : ∃ G', InvG w0 M Z0 (ownAll s).heap.length G' (ownAll s) tv w ∧ UpW G0 G' := by
  obtain ⟨N1, a1, c1⟩ := ownTs_sound (b := s.heap.length) hI.st.per.1
  obtain ⟨N2, a2, c2, e2⟩ := ownH_sound (b := s.heap.length + (ownTs s.heap.length s.tmps).2.length) hI.st.per.2
  have hup := Up.append G (N1 ++ N2)
  refine ⟨G ++ (N1 ++ N2), ⟨?_, fun j hj hl => ?_, hI.mz⟩, hu.trans hup.weak⟩
  · have hnew := All2.append a1 a2
    have hL : resL (ownAll s).heap (G ++ (N1 ++ N2)) = resL s.heap G ++ resL ((ownTs s.heap.length s.tmps).2 ++ (ownH (s.heap.length + (ownTs s.heap.length s.tmps).2.length) s.heap).2) (N1 ++ N2) := by
      show resL ((ownH (s.heap.length + (ownTs s.heap.length s.tmps).2.length) s.heap).1 ++ _) _ = _
      have hlen : (ownH (s.heap.length + (ownTs s.heap.length s.tmps).2.length) s.heap).1.length = G.length := by
        have := c2 (G ++ (N1 ++ N2)) (fun i g hg => by
          have hl := lt_of_some hg
          rw [a1.1, hI.len, List.getElem?_append_right (by omega), List.getElem?_append_right (by omega)]
          rw [show G.length + N1.length + i - G.length - N1.length = i by omega]; exact hg) hup
        exact this.1
      rw [resL_append hlen, e2]
    have hS := hI.st.empties (new_res (w := w) hnew)
    rw [← hL] at hS
    refine hS.weak (relF_stable _ _ _) fun hh => ?_
    obtain ⟨N1', a1', c1'⟩ := ownTs_sound (b := s.heap.length) hh.1
    have hk : ∀ k, zn w0 Z0 s G k → zone w0 Z0 (resL (ownAll s).heap (G ++ (N1 ++ N2))) k := fun k hk => ⟨hk.1, fun q hq hf => by
      rw [hL] at hq
      exact (List.mem_append.1 hq).elim (fun hq => hk.2 q hq hf) (fun hq => (new_res (w := w) hnew q hq).1 k hf)⟩
    have hA1 : At_ s.heap.length N1 (G ++ (N1 ++ N2)) := fun i g hg => by
      have hl := lt_of_some hg
      rw [hI.len, List.getElem?_append_right (by omega), show G.length + i - G.length = i by omega, List.getElem?_append_left hl]; exact hg
    have hA2 : At_ (s.heap.length + (ownTs s.heap.length s.tmps).2.length) N2 (G ++ (N1 ++ N2)) := fun i g hg => by
      rw [a1.1, hI.len, List.getElem?_append_right (by omega), List.getElem?_append_right (by omega)]
      rw [show G.length + N1.length + i - G.length - N1.length = i by omega]; exact hg
    refine ⟨(c1 _ hA1 hup).mono fun _ _ _ q => q.stable (keeps_le hk), ?_⟩
    exact All2.append ((c2 _ hA2 hup).mono fun _ _ _ q => q.stable (keeps_le hk)) (new_RO hnew)
  · exfalso
    have h1 : (ownAll s).heap.length = s.heap.length + ((ownTs s.heap.length s.tmps).2.length + (ownH (s.heap.length + (ownTs s.heap.length s.tmps).2.length) s.heap).2.length) := by
      show ((ownH (s.heap.length + (ownTs s.heap.length s.tmps).2.length) s.heap).1 ++ _).length = _
      have := c2 (G ++ (N1 ++ N2)) (fun i g hg => by
          have hl := lt_of_some hg
          rw [a1.1, hI.len, List.getElem?_append_right (by omega), List.getElem?_append_right (by omega)]
          rw [show G.length + N1.length + i - G.length - N1.length = i by omega]; exact hg) hup
      rw [List.length_append, List.length_append, this.1, hI.len]
    have e1 := a1.1
    have e2 := a2.1
    have e3 := hI.len
    rw [h1] at hj
    rw [List.length_append, List.length_append] at hl
    omega

/-! Versions from the start. -/
def v0 : GO → GO
  | .arr _ v sz xs => .arr 0 v sz xs
  | g => g
theorem ver0S_rel {h : List AObj} (hh : All2 (RO G Z w) h G) {v : SV} {X : Value} (hx : RS G Z w v X) : RS (G.map v0) Z w (ver0S h v) X := by
  cases v with
  | own j v =>
    show RS _ _ _ (match h[j]? with | some (.arr _ _ ver _) => cond (Nat.beq v ver) (.own j 0) .any | _ => .any) X
    split
    · rename_i hj
      rename_i ver _
      cases hv : Nat.beq v ver with
      | false => trivial
      | true =>
        simp only [Nat.beq_eq] at hv
        obtain ⟨g, hg, hr⟩ := hh.get hj
        cases g with
        | arr ver' val sz xs =>
          obtain ⟨rfl, _⟩ := hr
          exact .inr ⟨0, val, sz, xs, by simp [hg, v0], Nat.le_refl _, fun _ => own_val hx hg hv⟩
        | _ => exact hr.elim
    · trivial
  | ptr j o =>
    rcases hx with hx | ⟨bb, T, vs, hg, he⟩
    · exact .inl (by simp [hx, v0])
    · exact .inr ⟨bb, T, vs, by simp [hg, v0], he⟩
  | op j v i o => trivial
  | fn f l =>
    obtain ⟨bs, hX, hb⟩ := hx
    refine ⟨bs, hX, hb.mono fun j bb _ h => ?_⟩
    rcases h with h | ⟨T, vs, h⟩
    · exact .inl (by simp [h, v0])
    · exact .inr ⟨T, vs, by simp [h, v0]⟩
  | _ => exact hx
theorem ver0_sound (hI : InvG w0 M Z0 s.heap.length G s tv w) (hu : UpW G0 G) : ∃ G', InvG w0 M Z0 (ver0 s).heap.length G' (ver0 s) tv w ∧ UpW G0 G' := by
  have hL : ∀ (h : List AObj) (gs : List GO) (h0 : List AObj), resL (h.map (ver0O h0)) (gs.map v0) = resL h gs := by
    intro h
    induction h with
    | nil => intro gs h0; rfl
    | cons o h ih =>
      intro gs h0
      cases gs with
      | nil => rfl
      | cons g gs =>
        simp only [List.map_cons, resL, ih]
        congr 1
        cases o with
        | arr e D v z => cases g <;> cases z <;> rfl
        | _ => cases g <;> rfl
  refine ⟨G.map v0, ⟨?_, fun j hj hl => ?_, hI.mz⟩, ?_⟩
  · have hS := hI.st
    rw [← hL s.heap G s.heap] at hS
    refine hS.weak (relF_stable _ _ _) fun hh => ⟨?_, ?_⟩
    · refine hh.1.map_left fun v X hx => ?_
      cases v with
      | v x => cases x with
        | one x =>
          refine ⟨ver0S_rel hh.2 hx.1, fun hne => hx.2 ?_⟩
          rintro rfl; exact hne rfl
        | agg l =>
          obtain ⟨xs, hX, hc⟩ := hx
          exact ⟨xs, hX, hc.map_left fun _ _ q => ⟨ver0S_rel hh.2 q.1, q.2⟩⟩
      | tup l => exact any_rel X
    · have hh2 := hh.2
      refine ⟨by simp [ver0, hh2.1], fun i o g ho hg => ?_⟩
      simp only [ver0, List.getElem?_map] at ho hg
      obtain ⟨o', ho', rfl⟩ := Option.map_eq_some_iff.1 ho
      obtain ⟨g', hg', rfl⟩ := Option.map_eq_some_iff.1 hg
      have hr := hh2.2 i o' g' ho' hg'
      cases o' with
      | cells l => cases g' with
        | cells bb T vs => exact All2.map_left hr fun _ _ q => ⟨ver0S_rel hh2 q.1, q.2⟩
        | _ => exact hr.elim
      | arr e D v z => cases g' with
        | arr ver val sz xs => obtain ⟨_, h2, h3⟩ := hr; exact ⟨rfl, h2, h3⟩
        | _ => exact hr.elim
      | dead => cases g' <;> first | trivial | exact hr.elim
  · exfalso
    simp [ver0] at hj hl
    rw [hI.len] at hj; omega
  · refine hu.trans fun j => ⟨fun hh => by simp [hh, v0], fun bb T vs hh => .inr ⟨T, vs, by simp [hh, v0]⟩, fun ver val sz xs hh => .inr ⟨0, val, xs, by simp [hh, v0]⟩⟩
theorem atHead_sound {m : Nat} {live : Option (List Nat)} (hI : InvG w0 M Z0 s.heap.length G s tv w) (hu : UpW G0 G) (hm : G0.length = m) :
    ∃ G', InvG w0 M Z0 (atHead m live s).heap.length G' (atHead m live s) tv w ∧ UpW G0 G' := by
  cases live with
  | none => exact ⟨G, hI, hu⟩
  | some live =>
    obtain ⟨G1, h1, u1⟩ := gc_sound (s := ⟨maskT live 0 s.tmps, s.heap⟩) (mask_sound hI live) hu hm
    obtain ⟨G2, h2, u2⟩ := ownAll_sound h1 u1
    obtain ⟨G3, h3, u3⟩ := gc_sound h2 u2 hm
    exact ver0_sound h3 u3
end
end Go.Ab
namespace Go.Ab
open Go Go.Dk

section
variable {P : Program} {w0 w w' : World} {M Z0 Z : Zone} {b : Nat} {G G0 : List GO} {s : AS} {tv : List Value} {r : List V1 × List AObj}
theorem resC_sound (hI : InvG w0 M Z0 b G s tv w) : ∀ {l : List ResultVar} {k : List V1 → OR}, resC P s l k = some r →
    ∃ vs xs, k vs = some r ∧ All2 (RV1 G (zn w0 Z0 s G) w) vs xs ∧ (l.mapM (resOne tv.toArray)).run P w = .ok xs w
  | [], k, h => ⟨[], [], h, All2.nil, rfl⟩
  | .tmp t :: l, k, h => by
    unfold resC at h
    split at h
    · rename_i x hx
      obtain ⟨vs, xs, hk, hr, hrun⟩ := resC_sound hI h
      have hv := getD_rel (da := anyV) (db := undef) hI.st.per.1 any_rel t
      rw [hx] at hv
      refine ⟨_, tv.getD t undef :: xs, hk, All2.cons hv hr, ?_⟩
      have h1 : (resOne tv.toArray (.tmp t)).run P w = .ok (tv.getD t undef) w := R_tmp rfl
      simp only [List.mapM_cons, Sem.run_bind, h1, Result.andThen_ok, hrun, Sem.run_pure]
    · cases h
  | .cell a t :: l, k, h => by
    unfold resC at h
    obtain ⟨v, X, bb, o, h, hp, hl, hv⟩ := evLoad_addr (VX := tv.getD a undef) hI (getD_rel hI.st.per.1 any_rel a) h
    split at h
    · rename_i x
      obtain ⟨vs, xs, hk, hr, hrun⟩ := resC_sound hI h
      refine ⟨_, X :: xs, hk, All2.cons hv hr, ?_⟩
      have h1 : (resOne tv.toArray (.cell a t)).run P w = .ok X w := R_cell (ad := ⟨bb, o, none⟩) hp hl
      simp only [List.mapM_cons, Sem.run_bind, h1, Result.andThen_ok, hrun, Sem.run_pure]
    · cases h
theorem run_results {fn : Func} {xs : List Value} (h : (fn.results.toList.mapM (resOne tv.toArray)).run P w = .ok xs w) :
    (results fn tv.toArray).run P w = .ok (if h : xs.toArray.size = 1 then xs.toArray[0] else .tuple xs.toArray) w := by
  rw [results_eq, Array.mapM_eq_mapM_toList]
  simp [Sem.run_bind, h, Sem.run_pure]
theorem clean_like (v : SV) : LikeS v (clean v) := by
  intro G G' Z w X h
  cases v <;> first | exact h | exact ⟨trivial, h.2⟩
theorem cleanL_like : ∀ l : List SV, All2 LikeS l (l.map clean)
  | [] => All2.nil
  | v :: l => All2.cons (clean_like v) (cleanL_like l)
/-- An object that speaks of no other. -/
def Alone (o : AObj) (g : GO) : Prop := ∀ (G G' : List GO) (Z : Zone) (w : World), RO G Z w o g → RO G' Z w o g
theorem alone_arr (e : TypeId) (D : SD) (v : Nat) (z : Bool) (g : GO) : Alone (.arr e D v z) g := fun _ _ _ _ h => RO_arr_any h
theorem alone_cells (l : List SV) (g : GO) : Alone (.cells (l.map clean)) g := by
  intro G G' Z w h
  cases g with
  | cells bb T vs =>
    refine All2.mono h fun v X hv hr => ?_
    obtain ⟨v', _, rfl⟩ := List.mem_map.1 hv
    have hr' : OneR G Z w (clean v') X := hr
    have : ∀ v, clean (clean v) = clean v := by intro v; cases v <;> rfl
    have h2 := clean_like (clean v') G G' Z w X hr'
    rw [this] at h2; exact h2
  | _ => exact h
/-- Objects that wait behind the others. -/
structure Parked (w0 : World) (M Z0 : Zone) (m : Nat) (G : List GO) (tm : List AV) (tv : List Value) (w : World) (h acc : List AObj) (A : List GO) : Prop where
  inv : InvG w0 M Z0 (h.length + acc.length) (G ++ A) ⟨tm, h ++ acc⟩ tv w
  len : h.length = G.length
  alone : All2 Alone acc A
theorem Parked.lenA {m : Nat} {tm : List AV} {h acc : List AObj} {A : List GO} (hp : Parked w0 M Z0 m G tm tv w h acc A) : acc.length = A.length := hp.alone.1
/-- An object is parked. -/
theorem Parked.park {m : Nat} {tm : List AV} {h acc : List AObj} {A : List GO} (hp : Parked w0 M Z0 m G tm tv w h acc A) {j : Nat} {o o' : AObj} {g g' : GO} (hj : h[j]? = some o) (hg : G[j]? = some g) (hres : resO o' g' = resO o g) (ha : Alone o' g')
    (hro : ∀ Z' : Zone, (∀ k, zn w0 Z0 ⟨tm, h ++ acc⟩ (G ++ A) k → Z' k) → RO (G ++ A) Z' w o' g') :
    Parked w0 M Z0 m (G.set j .gone) tm tv w (h.set j .dead) (acc ++ [o']) (A ++ [g']) ∧ (∀ k, zn w0 Z0 ⟨tm, h ++ acc⟩ (G ++ A) k → zn w0 Z0 ⟨tm, h.set j .dead ++ (acc ++ [o'])⟩ (G.set j .gone ++ (A ++ [g'])) k) ∧ Up (G ++ A) (G.set j .gone ++ (A ++ [g'])) := by
  have hjl := lt_of_some hj
  have hgl := lt_of_some hg
  have hj' : (h ++ acc)[j]? = some o := by rw [List.getElem?_append_left hjl]; exact hj
  have hg' : (G ++ A)[j]? = some g := by rw [List.getElem?_append_left hgl]; exact hg
  have hset : (h ++ acc).set j .dead = h.set j .dead ++ acc := by rw [List.set_append_left _ _ hjl]
  have hsetG : (G ++ A).set j .gone = G.set j .gone ++ A := by rw [List.set_append_left _ _ hgl]
  have hperm : (resL (h ++ acc) (G ++ A)).Perm (resL (h.set j .dead ++ (acc ++ [o'])) (G.set j .gone ++ (A ++ [g']))) := by
    refine (resL_out (h ++ acc) (G ++ A) j hj' hg').trans ?_
    rw [hset, hsetG]
    rw [resL_append (by simp [hp.len]), resL_append (by simp [hp.len]), resL_append hp.lenA]
    have : resL [o'] [g'] = resO o g := by simp [resL, hres]
    rw [this]
    have hc := List.perm_append_comm (l₁ := resO o g) (l₂ := resL (h.set j .dead) (G.set j .gone) ++ resL acc A)
    simpa [List.append_assoc] using hc
  have hz : ∀ k, zn w0 Z0 ⟨tm, h ++ acc⟩ (G ++ A) k → zn w0 Z0 ⟨tm, h.set j .dead ++ (acc ++ [o'])⟩ (G.set j .gone ++ (A ++ [g'])) k := fun k hk => ⟨hk.1, fun q hq => hk.2 q (hperm.mem_iff.2 hq)⟩
  have hup : Up (G ++ A) (G.set j .gone ++ (A ++ [g'])) := by
    have h1 : Up (G ++ A) ((G ++ A).set j .gone) := Up.set fun g0 h0 => by cases g0 <;> trivial
    rw [hsetG] at h1
    have h2 := Up.append (G.set j .gone ++ A) [g']
    rw [List.append_assoc] at h2
    exact h1.trans h2
  refine ⟨⟨⟨?_, fun i hi hl => ?_, hp.inv.mz⟩, by simp [hp.len], All2.append hp.alone (All2.cons ha All2.nil)⟩, hz, hup⟩
  · refine (hp.inv.st.perm hperm).weak (relF_stable _ _ _) fun hh => ⟨hh.1.mono fun _ _ _ q => q.up hup, ?_⟩
    have hh2 : All2 (RO (G.set j .gone ++ (A ++ [g'])) (zone w0 Z0 (resL (h.set j .dead ++ (acc ++ [o'])) (G.set j .gone ++ (A ++ [g'])))) w) (h ++ acc) (G ++ A) := hh.2.mono fun _ _ _ q => q.up hup
    have hs := hh2.set j (a := .dead) (b := .gone) trivial
    rw [hset, hsetG] at hs
    have hnew : RO (G.set j .gone ++ (A ++ [g'])) (zone w0 Z0 (resL (h.set j .dead ++ (acc ++ [o'])) (G.set j .gone ++ (A ++ [g'])))) w o' g' := ha _ _ _ _ (hro _ hz)
    rw [← List.append_assoc, ← List.append_assoc]
    rw [← List.append_assoc, ← List.append_assoc] at hs hnew
    exact All2.append hs (All2.cons hnew All2.nil)
  · exfalso
    have := hp.len
    have := hp.lenA
    simp at hi hl; omega
/-- A new object that stands on nothing is parked. -/
theorem Parked.parkNew {m : Nat} {tm : List AV} {h acc : List AObj} {A : List GO} (hp : Parked w0 M Z0 m G tm tv w h acc A) {o' : AObj} {g' : GO} (hn : NewOk o' g') :
    Parked w0 M Z0 m G tm tv w h (acc ++ [o']) (A ++ [g']) ∧ (∀ k, zn w0 Z0 ⟨tm, h ++ acc⟩ (G ++ A) k → zn w0 Z0 ⟨tm, h ++ (acc ++ [o'])⟩ (G ++ (A ++ [g'])) k) ∧ Up (G ++ A) (G ++ (A ++ [g'])) := by
  have hall : All2 NewOk [o'] [g'] := All2.cons hn All2.nil
  have hnew := new_res (w := w) hall
  have hL : resL (h ++ (acc ++ [o'])) (G ++ (A ++ [g'])) = resL (h ++ acc) (G ++ A) ++ resL [o'] [g'] := by
    rw [← List.append_assoc, ← List.append_assoc, resL_append (by have := hp.len; have := hp.lenA; simp; omega)]
  have hS := hp.inv.st.empties hnew
  rw [← hL] at hS
  have hz : ∀ k, zn w0 Z0 ⟨tm, h ++ acc⟩ (G ++ A) k → zn w0 Z0 ⟨tm, h ++ (acc ++ [o'])⟩ (G ++ (A ++ [g'])) k := fun k hk => ⟨hk.1, fun q hq hf => by
    rw [hL] at hq
    exact (List.mem_append.1 hq).elim (fun hq => hk.2 q hq hf) (fun hq => (hnew q hq).1 k hf)⟩
  have hup : Up (G ++ A) (G ++ (A ++ [g'])) := by rw [← List.append_assoc]; exact Up.append _ _
  refine ⟨⟨⟨?_, fun i hi hl => ?_, hp.inv.mz⟩, hp.len, All2.append hp.alone (All2.cons ?_ All2.nil)⟩, hz, hup⟩
  · refine hS.weak (relF_stable _ _ _) fun hh => ⟨hh.1.mono fun _ _ _ q => q.up hup, ?_⟩
    have := All2.append (All2.mono hh.2 fun _ _ _ q => RO.up hup q) (new_RO (G := G ++ (A ++ [g'])) (Z := zone w0 Z0 (resL (h ++ (acc ++ [o'])) (G ++ (A ++ [g'])))) (w := w) hall)
    rw [List.append_assoc, List.append_assoc] at this
    exact this
  · exfalso
    have := hp.len
    have := hp.lenA
    simp at hi hl; omega
  · obtain ⟨e, a, rfl, rfl⟩ := hn
    exact alone_arr _ _ _ _ _
/-- Behind taking out some of what is handed back. -/
structure OutTo (w0 : World) (M Z0 : Zone) (m : Nat) (G : List GO) (tm : List AV) (tv : List Value) (w : World) (h acc : List AObj) (A : List GO) (b : Nat) (h' os : List AObj) (G' N : List GO) (Rel : List GO → Prop) : Prop where
  park : Parked w0 M Z0 m G' tm tv w h' (acc ++ os) (A ++ N)
  hl : h'.length = h.length
  zl : ∀ k, zn w0 Z0 ⟨tm, h ++ acc⟩ (G ++ A) k → zn w0 Z0 ⟨tm, h' ++ (acc ++ os)⟩ (G' ++ (A ++ N)) k
  up : Up (G ++ A) (G' ++ (A ++ N))
  nl : os.length = N.length
  rel : ∀ Gf, At_ b N Gf → Rel Gf
theorem Parked.freezeAt {m : Nat} {tm : List AV} {h acc : List AObj} {A : List GO} (hp : Parked w0 M Z0 m G tm tv w h acc A) {j : Nat} {e : TypeId} {D : SD} {ver : Nat} {fz : Bool} (hj : h[j]? = some (.arr e D ver fz)) :
    Parked w0 M Z0 m G tm tv w (h.set j (.arr e D ver true)) acc A ∧ (∀ k, zn w0 Z0 ⟨tm, h ++ acc⟩ (G ++ A) k → zn w0 Z0 ⟨tm, h.set j (.arr e D ver true) ++ acc⟩ (G ++ A) k) := by
  have hjl := lt_of_some hj
  obtain ⟨h1, h2⟩ := hp.inv.freezeAt (j := j) (e := e) (D := D) (ver := ver) (fz := fz) (by show (h ++ acc)[j]? = _; rw [List.getElem?_append_left hjl]; exact hj)
  have hset : (h ++ acc).set j (.arr e D ver true) = h.set j (.arr e D ver true) ++ acc := by rw [List.set_append_left _ _ hjl]
  simp only [hset] at h1 h2
  exact ⟨⟨by simpa using h1, by simp [hp.len], hp.alone⟩, h2⟩
theorem getJ {m : Nat} {tm : List AV} {h acc : List AObj} {A : List GO} (hp : Parked w0 M Z0 m G tm tv w h acc A) {j : Nat} {o : AObj} (hj : h[j]? = some o) : ∃ g, G[j]? = some g ∧ (G ++ A)[j]? = some g ∧ RO (G ++ A) (zn w0 Z0 ⟨tm, h ++ acc⟩ (G ++ A)) w o g := by
  have hjl := lt_of_some hj
  obtain ⟨g, hg, hr⟩ := hp.inv.st.per.2.get (i := j) (a := o) (by show (h ++ acc)[j]? = _; rw [List.getElem?_append_left hjl]; exact hj)
  have hl : j < G.length := by rw [← hp.len]; exact hjl
  exact ⟨g, by rw [List.getElem?_append_left hl] at hg; exact hg, hg, hr⟩
theorem sealS_parked {m : Nat} {tm : List AV} {h acc : List AObj} {A : List GO} (hp : Parked w0 M Z0 m G tm tv w h acc A) {v : SV} {X : Value} {k : SV → List AObj → OR} (hx : OneR (G ++ A) (zn w0 Z0 ⟨tm, h ++ acc⟩ (G ++ A)) w v X) (hk : sealS h v k = some r) :
    ∃ v' h', k v' h' = some r ∧ Parked w0 M Z0 m G tm tv w h' acc A ∧ h'.length = h.length ∧ (∀ k, zn w0 Z0 ⟨tm, h ++ acc⟩ (G ++ A) k → zn w0 Z0 ⟨tm, h' ++ acc⟩ (G ++ A) k) ∧ OneR (G ++ A) (zn w0 Z0 ⟨tm, h' ++ acc⟩ (G ++ A)) w v' X ∧
      ∀ (i : Nat) c, h[i]? = some (.cells c) → h'[i]? = some (.cells c) := by
  unfold sealS at hk
  split at hk
  · rename_i j v
    split at hk
    · rename_i e D ver fz hj
      obtain ⟨hv, hk'⟩ := cond_left hk
      simp only [Nat.beq_eq] at hv
      obtain ⟨q1, q2⟩ := hp.freezeAt hj
      have hjl := lt_of_some hj
      refine ⟨_, _, hk', q1, by simp, q2, ⟨?_, hx.2⟩, fun i c hi => ?_⟩
      · exact q1.inv.frozen_val (j := j) (v := v) (e := e) (D := D) (ver := ver) (X := X) (by show (h.set j _ ++ acc)[j]? = _; rw [List.getElem?_append_left (by simpa using hjl)]; simp [hjl]) hv (hx.1.stable (keeps_le q2))
      · have : j ≠ i := by rintro rfl; rw [hj] at hi; cases hi
        rw [List.getElem?_set_ne this]; exact hi
    · cases hk
  · obtain ⟨⟨a, rfl⟩, h2⟩ := hx
    exact ⟨_, _, hk, hp, rfl, fun _ h => h, ⟨SlR_nil _ _, h2⟩, fun _ _ h => h⟩
  · exact ⟨_, _, hk, hp, rfl, fun _ h => h, hx, fun _ _ h => h⟩
theorem sealL_parked {m : Nat} {tm : List AV} {acc : List AObj} {A : List GO} : ∀ {l : List SV} {h : List AObj} {xs : List Value} {k : List SV → List AObj → OR}, Parked w0 M Z0 m G tm tv w h acc A → All2 (OneR (G ++ A) (zn w0 Z0 ⟨tm, h ++ acc⟩ (G ++ A)) w) l xs → sealL h l k = some r →
    ∃ l' h', k l' h' = some r ∧ Parked w0 M Z0 m G tm tv w h' acc A ∧ h'.length = h.length ∧ (∀ k, zn w0 Z0 ⟨tm, h ++ acc⟩ (G ++ A) k → zn w0 Z0 ⟨tm, h' ++ acc⟩ (G ++ A) k) ∧ All2 (OneR (G ++ A) (zn w0 Z0 ⟨tm, h' ++ acc⟩ (G ++ A)) w) l' xs ∧
      ∀ (i : Nat) c, h[i]? = some (.cells c) → h'[i]? = some (.cells c)
  | [], h, xs, k, hp, ha, hk => by
    obtain rfl := ha.nil_inv
    exact ⟨_, _, hk, hp, rfl, fun _ h => h, All2.nil, fun _ _ h => h⟩
  | v :: l, h, xs, k, hp, ha, hk => by
    obtain ⟨X, xs', rfl, h1, h2⟩ := ha.cons_inv
    unfold sealL at hk
    obtain ⟨v', h', hk1, q1, q2, q3, q4, q5⟩ := sealS_parked hp h1 hk
    obtain ⟨l', h'', hk2, p1, p2, p3, p4, p5⟩ := sealL_parked q1 (h2.mono fun _ _ _ q => q.mono (keeps_le q3) (Up.refl _)) hk1
    exact ⟨_, _, hk2, p1, p2.trans q2, fun k hk => p3 k (q3 k hk), All2.cons (q4.mono (keeps_le p3) (Up.refl _)) p4, fun i c hi => p5 i c (q5 i c hi)⟩
theorem outC_sound {own : Bool} {m : Nat} {tm : List AV} : ∀ {l : List SV} {h acc : List AObj} {G A : List GO} {b : Nat} {xs : List Value} {k : List SV → List AObj → List AObj → OR},
    Parked w0 M Z0 m G tm tv w h acc A → All2 (OneR (G ++ A) (zn w0 Z0 ⟨tm, h ++ acc⟩ (G ++ A)) w) l xs → outC own l h b k = some r →
    ∃ cs h' os G' N, k cs h' os = some r ∧ OutTo w0 M Z0 m G tm tv w h acc A b h' os G' N (fun Gf => All2 (OneR Gf (zn w0 Z0 ⟨tm, h' ++ (acc ++ os)⟩ (G' ++ (A ++ N))) w) cs xs)
  | [], h, acc, G, A, b, xs, k, hp, ha, hk => by
    obtain rfl := ha.nil_inv
    exact ⟨[], h, [], G, [], hk, by simpa using hp, rfl, by simp, by simpa using Up.refl (G ++ A), rfl, fun _ _ => All2.nil⟩
  | v :: l, h, acc, G, A, b, xs, k, hp, ha, hk => by
    obtain ⟨X, xs', rfl, h1, h2⟩ := ha.cons_inv
    -- a cell that stays what it is, or is forgotten
    have same : ∀ v', LikeS v v' → outC own l h b (fun cs h os => k (v' :: cs) h os) = some r → ∃ cs h' os G' N, k cs h' os = some r ∧ OutTo w0 M Z0 m G tm tv w h acc A b h' os G' N (fun Gf => All2 (OneR Gf (zn w0 Z0 ⟨tm, h' ++ (acc ++ os)⟩ (G' ++ (A ++ N))) w) cs (X :: xs')) := by
      intro v' hv hk
      obtain ⟨cs, h', os, G', N, hk', ho⟩ := outC_sound hp h2 hk
      exact ⟨_, h', os, G', N, hk', ho.park, ho.hl, ho.zl, ho.up, ho.nl, fun Gf hA => All2.cons ((hv _ Gf _ _ _ h1).mono (keeps_le ho.zl) (Up.refl _)) (ho.rel Gf hA)⟩
    -- an object is parked
    have parked : ∀ {h2' : List AObj} {G2 : List GO} {o' : AObj} {g' : GO}, Parked w0 M Z0 m G2 tm tv w h2' (acc ++ [o']) (A ++ [g']) → h2'.length = h.length →
        (∀ k, zn w0 Z0 ⟨tm, h ++ acc⟩ (G ++ A) k → zn w0 Z0 ⟨tm, h2' ++ (acc ++ [o'])⟩ (G2 ++ (A ++ [g'])) k) → Up (G ++ A) (G2 ++ (A ++ [g'])) → ∀ v' : SV, (∀ Gf, Gf[b]? = some g' → OneR Gf (zn w0 Z0 ⟨tm, h ++ acc⟩ (G ++ A)) w v' X) →
        outC own l h2' (b + 1) (fun cs h os => k (v' :: cs) h (o' :: os)) = some r → ∃ cs h' os G' N, k cs h' os = some r ∧ OutTo w0 M Z0 m G tm tv w h acc A b h' os G' N (fun Gf => All2 (OneR Gf (zn w0 Z0 ⟨tm, h' ++ (acc ++ os)⟩ (G' ++ (A ++ N))) w) cs (X :: xs')) := by
      intro h2' G2 o' g' hp2 hl2 hz2 hu2 v' hv hk
      obtain ⟨cs, h', os, G', N, hk', ho⟩ := outC_sound hp2 (h2.mono fun _ _ _ q => q.mono (keeps_le hz2) hu2) hk
      have e1 : acc ++ o' :: os = acc ++ [o'] ++ os := by simp
      have e2 : A ++ g' :: N = A ++ [g'] ++ N := by simp
      refine ⟨_, h', o' :: os, G', g' :: N, hk', ?_, ho.hl.trans hl2, ?_, ?_, by simp [ho.nl], fun Gf hA => ?_⟩
      · rw [e1, e2]; exact ho.park
      · rw [e1, e2]; exact fun k hk => ho.zl k (hz2 k hk)
      · rw [e2]; exact hu2.trans ho.up
      · rw [e1, e2]
        refine All2.cons ((hv Gf (hA 0 g' rfl)).mono (keeps_le fun k hk => ho.zl k (hz2 k hk)) (Up.refl _)) (ho.rel Gf fun i g hi => ?_)
        have := hA (i + 1) g (by simpa using hi)
        rw [show b + 1 + i = b + (i + 1) by omega]; exact this
    cases v with
    | own j v0 =>
      simp only [outC] at hk
      split at hk
      · rename_i e D ver fz hj
        replace hk := cond_left hk; obtain ⟨hv, hk⟩ := hk
        simp only [Nat.beq_eq] at hv
        obtain ⟨g, hg, hg', hr⟩ := getJ hp hj
        cases g with
        | arr ver' val sz xs0 =>
          have hverr := hr.1
          subst hverr
          have hX := own_val h1.1 hg' hv
          rcases cond_some hk with ⟨_, hk⟩ | ⟨_, hk⟩
          · obtain ⟨hfz, hk2⟩ := cond_right hk
            subst hfz
            obtain ⟨q1, q2, q3⟩ := hp.park (o' := .arr e D 0 false) (g' := .arr 0 val sz xs0) hj hg rfl (alone_arr _ _ _ _ _) (fun Z' h => ⟨rfl, (RO.stable (keeps_le h) hr).2⟩)
            exact parked q1 (by simp) q2 q3 (.own b 0) (fun Gf hGf => ⟨.inr ⟨0, val, sz, xs0, hGf, Nat.le_refl _, fun _ => hX⟩, h1.2⟩) hk2
          · obtain ⟨q1, q2⟩ := hp.freezeAt hj
            obtain ⟨cs, h', os, G', N, hk', ho⟩ := outC_sound q1 (h2.mono fun _ _ _ q => q.mono (keeps_le q2) (Up.refl _)) hk
            refine ⟨_, h', os, G', N, hk', ho.park, by rw [ho.hl]; simp, fun k hk => ho.zl k (q2 k hk), ho.up, ho.nl, fun Gf hA => All2.cons ?_ (ho.rel Gf hA)⟩
            have hjl := lt_of_some hj
            have hsl := q1.inv.frozen_val (j := j) (v := v0) (e := e) (D := D) (ver := ver) (X := X) (by show (h.set j _ ++ acc)[j]? = _; rw [List.getElem?_append_left (by simpa using hjl)]; simp [hjl]) hv (h1.1.stable (keeps_le q2))
            exact ⟨SlR.stable (keeps_le ho.zl) hsl, h1.2⟩
        | _ => exact hr.elim
      · cases hk
    | emp e => cases e with
      | none => exact same .any (fun _ _ _ _ _ h => ⟨trivial, h.2⟩) (by simpa only [outC] using hk)
      | some e =>
        simp only [outC] at hk
        obtain ⟨⟨a, hXa⟩, hXo⟩ := id h1
        rcases cond_some hk with ⟨_, hk⟩ | ⟨_, hk⟩
        · obtain ⟨q1, q2, q3⟩ := hp.parkNew (o' := .arr e.1 e.2.nil 0 false) (g' := .arr 0 (.slice a 0 0) e.2.size []) ⟨e, a, rfl, rfl⟩
          exact parked q1 rfl q2 q3 (.own b 0) (fun Gf hGf => ⟨.inr ⟨0, _, _, _, hGf, Nat.le_refl _, fun _ => hXa⟩, hXo⟩) hk
        · refine same (.fr e.2.nil) (fun G1 G2 Z w X hX => ?_) hk
          obtain ⟨⟨a, rfl⟩, hX2⟩ := hX
          exact ⟨SlR_nil _ _, hX2⟩
    | ptr j o => cases o with
      | zero =>
        simp only [outC] at hk
        split at hk
        · rename_i c hj
          obtain ⟨g, hg, hg', hr⟩ := getJ hp hj
          cases g with
          | cells bb T vs =>
            have hjl := lt_of_some hj
            obtain ⟨c', h3, hk2, hp3, hl3, hz3, hc3, hj3⟩ := sealL_parked hp hr hk
            obtain ⟨q1, q2, q3⟩ := hp3.park (o' := .cells (c'.map clean)) (g' := .cells bb T vs) (hj3 j _ hj) hg rfl (alone_cells _ _) (fun Z' h => like_one (cleanL_like c') (hc3.mono fun _ _ _ q => q.mono (keeps_le h) (Up.refl _)))
            exact parked q1 (by rw [List.length_set]; exact hl3) (fun k hk => q2 k (hz3 k hk)) q3 (.ptr b 0) (fun Gf hGf => ⟨.inr ⟨bb, T, vs, hGf, ptr_val h1.1 hg'⟩, h1.2⟩) hk2
          | _ => exact hr.elim
        · cases hk
      | succ o => exact same .any (fun _ _ _ _ _ h => ⟨trivial, h.2⟩) (by simpa only [outC] using hk)
    | int a n => exact same (.int a n) (fun _ _ _ _ _ h => h) (by simpa only [outC] using hk)
    | bool x => exact same (.bool x) (fun _ _ _ _ _ h => h) (by simpa only [outC] using hk)
    | str x => exact same (.str x) (fun _ _ _ _ _ h => h) (by simpa only [outC] using hk)
    | fr x => exact same (.fr x) (fun _ _ _ _ _ h => h) (by simpa only [outC] using hk)
    | ep e o => exact same .any (fun _ _ _ _ _ h => ⟨trivial, h.2⟩) (by simpa only [outC] using hk)
    | op j v i o => exact same .any (fun _ _ _ _ _ h => ⟨trivial, h.2⟩) (by simpa only [outC] using hk)
    | fn f l => exact same .any (fun _ _ _ _ _ h => ⟨trivial, h.2⟩) (by simpa only [outC] using hk)
    | nilp => exact same .any (fun _ _ _ _ _ h => ⟨trivial, h.2⟩) (by simpa only [outC] using hk)
    | any => exact same .any (fun _ _ _ _ _ h => ⟨trivial, h.2⟩) (by simpa only [outC] using hk)
end
end Go.Ab
namespace Go.Ab
open Go Go.Dk

section
variable {P : Program} {w0 w w' : World} {M Z0 Z : Zone} {b : Nat} {G G0 : List GO} {s : AS} {tv : List Value} {r : List V1 × List AObj}
theorem outVs_sound {own : Bool} {m : Nat} {tm : List AV} : ∀ {l : List V1} {h acc : List AObj} {G A : List GO} {b : Nat} {xs : List Value} {k : List V1 → List AObj → List AObj → OR},
    Parked w0 M Z0 m G tm tv w h acc A → All2 (RV1 (G ++ A) (zn w0 Z0 ⟨tm, h ++ acc⟩ (G ++ A)) w) l xs → outVs own l h b k = some r →
    ∃ cs h' os G' N, k cs h' os = some r ∧ OutTo w0 M Z0 m G tm tv w h acc A b h' os G' N (fun Gf => All2 (RV1 Gf (zn w0 Z0 ⟨tm, h' ++ (acc ++ os)⟩ (G' ++ (A ++ N))) w) cs xs)
  | [], h, acc, G, A, b, xs, k, hp, ha, hk => by
    obtain rfl := ha.nil_inv
    exact ⟨[], h, [], G, [], hk, by simpa using hp, rfl, by simp, by simpa using Up.refl (G ++ A), rfl, fun _ _ => All2.nil⟩
  | v :: l, h, acc, G, A, b, xs, k, hp, ha, hk => by
    obtain ⟨X, xs', rfl, h1, h2⟩ := ha.cons_inv
    have comb : ∀ {c : List SV} {ys : List Value} {v' : List SV → V1} {k2 : List SV → List AObj → List AObj → OR}, All2 (OneR (G ++ A) (zn w0 Z0 ⟨tm, h ++ acc⟩ (G ++ A)) w) c ys → outC own c h b k2 = some r →
        (∀ cs h' os, k2 cs h' os = some r → ∃ v', (∀ Gf Z, All2 (OneR Gf Z w) cs ys → RV1 Gf Z w v' X) ∧ outVs own l h' (b + os.length) (fun vs h os' => k (v' :: vs) h (os ++ os')) = some r) →
        ∃ cs h' os G' N, k cs h' os = some r ∧ OutTo w0 M Z0 m G tm tv w h acc A b h' os G' N (fun Gf => All2 (RV1 Gf (zn w0 Z0 ⟨tm, h' ++ (acc ++ os)⟩ (G' ++ (A ++ N))) w) cs (X :: xs')) := by
      intro c ys v' k2 hc hk hnext
      obtain ⟨cs, h1', os1, G1, N1, hk1, o1⟩ := outC_sound hp hc hk
      obtain ⟨v', hv', hk2⟩ := hnext _ _ _ hk1
      obtain ⟨vs, h2', os2, G2, N2, hk3, o2⟩ := outVs_sound o1.park (h2.mono fun _ _ _ q => RV1.up o1.up (q.stable (keeps_le o1.zl))) hk2
      have e1 : acc ++ (os1 ++ os2) = acc ++ os1 ++ os2 := by simp
      have e2 : A ++ (N1 ++ N2) = A ++ N1 ++ N2 := by simp
      refine ⟨_, h2', os1 ++ os2, G2, N1 ++ N2, hk3, ?_, o2.hl.trans o1.hl, ?_, ?_, by simp [o1.nl, o2.nl], fun Gf hA => ?_⟩
      · rw [e1, e2]; exact o2.park
      · rw [e1, e2]; exact fun k hk => o2.zl k (o1.zl k hk)
      · rw [e2]; exact o1.up.trans o2.up
      · rw [e1, e2]
        refine All2.cons ((hv' Gf _ (o1.rel Gf hA.left)).stable (keeps_le o2.zl)) (o2.rel Gf ?_)
        rw [o1.nl]; exact hA.right
    cases v with
    | one x =>
      by_cases hx : x = .any
      · subst hx
        simp only [outVs] at hk
        obtain ⟨cs, h', os, G', N, hk', ho⟩ := outVs_sound hp h2 hk
        exact ⟨_, h', os, G', N, hk', ho.park, ho.hl, ho.zl, ho.up, ho.nl, fun Gf hA => All2.cons ⟨trivial, fun h => absurd rfl h⟩ (ho.rel Gf hA)⟩
      · have hk' : outC own [x] h b (fun c h os => (match c with
            | [x] => outVs own l h (b + os.length) fun vs h os' => k (.one x :: vs) h (os ++ os')
            | _ => none)) = some r := by
          cases x <;> first | exact absurd rfl hx | exact hk
        refine comb (v' := fun _ => .one x) (All2.cons ⟨h1.1, h1.2 hx⟩ All2.nil) hk' fun cs h' os hk2 => ?_
        split at hk2
        · exact ⟨_, fun Gf Z hr => by obtain ⟨y, ys, e, hr, _⟩ := hr.cons_inv; simp only [List.cons.injEq] at e; obtain ⟨rfl, _⟩ := e; exact ⟨hr.1, fun _ => hr.2⟩, hk2⟩
        · cases hk2
    | agg c =>
      obtain ⟨ys, hX, hc⟩ := h1
      simp only [outVs] at hk
      exact comb (v' := fun c => .agg c) hc hk fun cs h' os hk2 => ⟨.agg cs, fun Gf Z hr => ⟨ys, hX, hr⟩, hk2⟩
theorem outO_sound {m : Nat} {tm : List AV} {acc : List AObj} {A : List GO} : ∀ {n : Nat} {h : List AObj} {k : List AObj → OR}, Parked w0 M Z0 m G tm tv w h acc A → n ≤ m → m ≤ h.length → outO m n h k = some r →
    ∃ h' ps, k ps = some r ∧ Parked w0 M Z0 m G tm tv w h' acc A ∧ h'.length = h.length ∧ (∀ k, zn w0 Z0 ⟨tm, h ++ acc⟩ (G ++ A) k → zn w0 Z0 ⟨tm, h' ++ acc⟩ (G ++ A) k) ∧ ps.length = n ∧
      (∀ (i : Nat) c, h[i]? = some (.cells c) → h'[i]? = some (.cells c)) ∧
      (∀ (i : Nat) p, ps[i]? = some p → p = .dead ∨ ∃ bb T vs l', G[m - n + i]? = some (.cells bb T vs) ∧ p = .cells (l'.map clean) ∧ All2 (OneR (G ++ A) (zn w0 Z0 ⟨tm, h' ++ acc⟩ (G ++ A)) w) l' vs)
  | 0, h, k, hp, hn, hm, hk => ⟨h, [], hk, hp, rfl, fun _ h => h, rfl, fun _ _ h => h, fun i p hi => by simp at hi⟩
  | n + 1, h, k, hp, hn, hm, hk => by
    unfold outO at hk
    split at hk
    · rename_i c hj
      obtain ⟨g, hg, hg', hr⟩ := getJ hp hj
      cases g with
      | cells bb T vs =>
        obtain ⟨c', h1, hk1, p1, l1, z1, r1, k1⟩ := sealL_parked hp hr hk
        obtain ⟨h2, ps, hk2, p2, l2, z2, e2, k2, q2⟩ := outO_sound p1 (by omega) (by omega) hk1
        refine ⟨h2, _, hk2, p2, l2.trans l1, fun k hk => z2 k (z1 k hk), by simp [e2], fun i c hi => k2 i c (k1 i c hi), fun i p hi => ?_⟩
        cases i with
        | zero =>
          simp only [List.getElem?_cons_zero, Option.some.injEq] at hi
          subst hi
          exact .inr ⟨bb, T, vs, c', by simpa using hg, rfl, r1.mono fun _ _ _ q => q.mono (keeps_le z2) (Up.refl _)⟩
        | succ i =>
          have := q2 i p (by simpa using hi)
          rw [show m - (n + 1) + (i + 1) = m - n + i by omega]; exact this
      | _ => exact hr.elim
    · obtain ⟨h2, ps, hk2, p2, l2, z2, e2, k2, q2⟩ := outO_sound hp (by omega) hm hk
      refine ⟨h2, _, hk2, p2, l2, z2, by simp [e2], k2, fun i p hi => ?_⟩
      cases i with
      | zero =>
        simp only [List.getElem?_cons_zero, Option.some.injEq] at hi
        exact .inl hi.symm
      | succ i =>
        have := q2 i p (by simpa using hi)
        rw [show m - (n + 1) + (i + 1) = m - n + i by omega]; exact this
theorem resL_keep {h : List AObj} : ∀ {ps hs : List AObj} {gs : List GO}, ps.length = hs.length → hs.length = gs.length → (∀ (i : Nat) p, ps[i]? = some p → p = .dead ∨ ∃ l bb T vs c, p = .cells l ∧ gs[i]? = some (.cells bb T vs) ∧ hs[i]? = some (.cells c)) →
    (resL ps (List.zipWith keepG ps gs)).Sublist (resL hs gs)
  | [], hs, gs, h1, h2, hq => by simp [resL]
  | p :: ps, [], gs, h1, _, _ => by simp at h1
  | p :: ps, o :: hs, [], _, h2, _ => by simp at h2
  | p :: ps, o :: hs, g :: gs, h1, h2, hq => by
    have ih := resL_keep (h := h) (ps := ps) (hs := hs) (gs := gs) (by simpa using h1) (by simpa using h2) fun i p hi => by simpa using hq (i + 1) p (by simpa using hi)
    simp only [List.zipWith_cons_cons, resL]
    rcases hq 0 p rfl with rfl | ⟨l, bb, T, vs, c, rfl, hg, ho⟩
    · rw [resO_dead, List.nil_append]; exact ih.trans (List.sublist_append_right _ _)
    · simp only [List.getElem?_cons_zero, Option.some.injEq] at hg ho
      subst hg ho
      simp only [keepG, resO]
      exact ih.append_left _
theorem finish_sound {own : Bool} {fn : Func} {m : Nat} (hI : InvG w0 M Z0 s.heap.length G s tv w) (hu : UpW G0 G) (hm : G0.length = m) (h : finish P own fn m s = some r) :
    ∃ xs G', (results fn tv.toArray).run P w = .ok (if h : xs.toArray.size = 1 then xs.toArray[0] else .tuple xs.toArray) w ∧ InvG w0 M Z0 r.2.length G' ⟨r.1.map .v, r.2⟩ xs w ∧ UpW G0 G' := by
  unfold finish at h
  replace h := cond_left h; obtain ⟨hml, h⟩ := h
  simp only [Nat.ble_eq] at hml
  replace h := resC_sound hI h; obtain ⟨vs, xs, h, hvs, hrun⟩ := h
  have hp : Parked w0 M Z0 m G s.tmps tv w s.heap [] [] := ⟨by simpa using hI, hI.len, All2.nil⟩
  have hz0 : zn w0 Z0 ⟨s.tmps, s.heap ++ []⟩ (G ++ []) = zn w0 Z0 s G := by simp [zn]
  obtain ⟨cs, h1, os, G1, N, hk1, o1⟩ := outVs_sound hp (by rw [hz0, List.append_nil]; exact hvs) h
  simp only [List.nil_append] at o1
  have hp1 := o1.park
  simp only [List.nil_append] at hp1
  obtain ⟨h2, ps, hk2, p2, l2, z2, e2, k2, q2⟩ := outO_sound hp1 (Nat.le_refl m) (by rw [o1.hl]; exact hml) hk1
  have hr := Option.some.inj hk2
  subst hr
  have hNl : os.length = N.length := o1.nl
  have hl2 : h2.length = s.heap.length := l2.trans o1.hl
  have hG1 : h2.length = G1.length := p2.len
  have hmG : m ≤ G1.length := by omega
  have hgl : (G1.take m).length = m := by simp [hmG]
  let PG := List.zipWith keepG ps (G1.take m)
  have hPl : PG.length = m := by simp [PG, e2, hmG]
  have hAt : At_ m N (PG ++ N) := fun i g hi => by rw [List.getElem?_append_right (by omega), hPl]; simpa using hi
  have hps : ∀ (i : Nat) p, ps[i]? = some p → p = .dead ∨ ∃ bb T vs l', G1[i]? = some (.cells bb T vs) ∧ p = .cells (l'.map clean) ∧ All2 (OneR (G1 ++ N) (zn w0 Z0 ⟨s.tmps, h2 ++ os⟩ (G1 ++ N)) w) l' vs := fun i p hi => by
    have := q2 i p hi
    simpa using this
  have hRO := p2.inv.st.per.2
  have hsub : (resL (ps ++ os) (PG ++ N)).Sublist (resL (h2 ++ os) (G1 ++ N)) := by
    rw [resL_append (by rw [hPl, e2]), resL_append hG1]
    have hk : (resL ps PG).Sublist (resL (h2.take m) (G1.take m)) := by
      refine resL_keep (h := h2) (by simp [e2]; omega) (by simp; omega) fun i p hi => ?_
      have him : i < m := by rw [← e2]; exact lt_of_some hi
      rcases hps i p hi with h | ⟨bb, T, vs, l', hg, rfl, _⟩
      · exact .inl h
      · right
        have hg2 : (G1 ++ N)[i]? = some (.cells bb T vs) := by rw [List.getElem?_append_left (by omega)]; exact hg
        obtain ⟨o, ho, hro⟩ := hRO.get' hg2
        have ho' : h2[i]? = some o := by rw [List.getElem?_append_left (by omega)] at ho; exact ho
        cases o with
        | cells c => exact ⟨_, bb, T, vs, c, rfl, by rw [List.getElem?_take, if_pos him]; exact hg, by rw [List.getElem?_take, if_pos him]; exact ho'⟩
        | _ => exact hro.elim
    have hk2 : (resL (h2.take m) (G1.take m)).Sublist (resL h2 G1) := by
      have := resL_append (h := h2.take m) (h' := h2.drop m) (G := G1.take m) (G' := G1.drop m) (by simp; omega)
      rw [List.take_append_drop, List.take_append_drop] at this
      rw [this]; exact List.sublist_append_left _ _
    exact (hk.trans hk2).append_right _
  have hz3 : ∀ k, zn w0 Z0 ⟨s.tmps, h2 ++ os⟩ (G1 ++ N) k → zone w0 Z0 (resL (ps ++ os) (PG ++ N)) k := fun k hk => ⟨hk.1, fun q hq => hk.2 q (hsub.subset hq)⟩
  refine ⟨xs, PG ++ N, run_results hrun, ⟨?_, fun j hj hl => ?_, hI.mz⟩, ?_⟩
  · refine (p2.inv.st.sub hsub).weak (relF_stable _ _ _) fun _ => ⟨?_, ?_⟩
    · have := o1.rel (PG ++ N) hAt
      exact (this.mono fun _ _ _ q => (q.stable (keeps_le z2)).stable (keeps_le hz3)).map_left fun _ _ q => q
    · refine All2.append ⟨by rw [hPl, e2], fun i p g hi hg => ?_⟩ ?_
      · have him : i < m := by rw [← e2]; exact lt_of_some hi
        simp only [PG, List.getElem?_zipWith, hi, List.getElem?_take, if_pos him] at hg
        rcases hps i p hi with rfl | ⟨bb, T, vs, l', hg', rfl, hr⟩
        · cases hg1 : G1[i]? with
          | none => simp [hg1] at hg
          | some g1 => simp [hg1, keepG] at hg; subst hg; trivial
        · simp only [hg', Option.some.injEq, keepG] at hg
          subst hg
          exact like_one (cleanL_like l') (hr.mono fun _ _ _ q => q.mono (keeps_le hz3) (Up.refl _))
      · refine ⟨hNl, fun i o g hi hg => ?_⟩
        have hro := hRO.2 (h2.length + i) o g (by rw [List.getElem?_append_right (by omega)]; simpa using hi) (by rw [List.getElem?_append_right (by omega), hG1]; simpa using hg)
        have hal := p2.alone.2 i o g hi hg
        exact hal _ _ _ _ (RO.stable (keeps_le hz3) hro)
  · exfalso
    simp at hj hl
    rw [e2] at hj
    have : PG.length = m := hPl
    simp only [PG] at this hl
    simp at this hl
    omega
  · have hup1 : Up G (G1 ++ N) := by simpa using o1.up
    intro j
    have key : ∀ g, j < m → (G1 ++ N)[j]? = some g → (PG ++ N)[j]? = some .gone ∨ (PG ++ N)[j]? = some g := by
      intro g hjm hg
      have hg1 : G1[j]? = some g := by rw [List.getElem?_append_left (by omega)] at hg; exact hg
      obtain ⟨p, hp⟩ : ∃ p, ps[j]? = some p := ⟨_, List.getElem?_eq_getElem (by rw [e2]; exact hjm)⟩
      rw [List.getElem?_append_left (by rw [hPl]; exact hjm)]
      simp only [PG, List.getElem?_zipWith, hp, List.getElem?_take, if_pos hjm, hg1]
      cases p <;> first | exact .inr rfl | exact .inl rfl
    have hup2 := (hu.trans hup1.weak) j
    refine ⟨fun hh => ?_, fun b T vs hh => ?_, fun ver val sz xs0 hh => ?_⟩
    · have hjm : j < m := by rw [← hm]; exact lt_of_some hh
      rcases key _ hjm (hup2.1 hh) with h | h <;> exact h
    · have hjm : j < m := by rw [← hm]; exact lt_of_some hh
      rcases hup2.2.1 b T vs hh with h | ⟨T', vs', h⟩
      · rcases key _ hjm h with h | h <;> exact .inl h
      · rcases key _ hjm h with h | h
        · exact .inl h
        · exact .inr ⟨T', vs', h⟩
    · have hjm : j < m := by rw [← hm]; exact lt_of_some hh
      rcases hup2.2.2 ver val sz xs0 hh with h | ⟨a, c, e, h⟩
      · rcases key _ hjm h with h | h <;> exact .inl h
      · rcases key _ hjm h with h | h
        · exact .inl h
        · exact .inr ⟨a, c, e, h⟩
end
end Go.Ab
namespace Go.Ab
open Go Go.Dk

section
variable {P : Program} {w0 w w' : World} {M Z0 Z : Zone} {b : Nat} {G G0 : List GO} {s : AS} {tv : List Value} {r : List V1 × List AObj}
def Ex.out : Ex → Exit | .normal => .normal | .exit i => .exit i | .ret => .ret
/-- Regions that draw their order. -/
def DrawOK (P : Program) (F : Callee) (D : Dec) : Prop := ∀ (w0 : World) (M Z0 : Zone) (G : List GO) (s : AS) (tv : List Value) (w : World) (ops : List Oper) (id : Nat) (k : AS → OR) (r : List V1 × List AObj) (Q : Exit → Act → World → Prop),
  InvG w0 M Z0 s.heap.length G s tv w → drawB ops (ancL ops []) ops 0 = true → evDr P F D ops (ancL ops []) ops 0 [] s.heap.length (grow (room P D ops) s) k = some r →
    (∀ s' G' tv' w', k s' = some r → InvG w0 M Z0 s'.heap.length G' s' tv' w' → UpW G G' → Q .normal ⟨tv'.toArray, []⟩ w') → (Code.region id ops.toArray true).wp P Q ⟨tv.toArray, []⟩ w
theorem resL_cells : ∀ (h : List AObj) (G : List GO) (j : Nat) {l l' : List SV}, h[j]? = some (.cells l) → resL (h.set j (.cells l')) G = resL h G
  | [], G, j, l, l', h => by simp at h
  | o :: h, [], j, l, l', _ => by cases j <;> simp [resL]
  | o :: h, g :: G, 0, l, l', hj => by
    simp only [List.getElem?_cons_zero, Option.some.injEq] at hj
    subst hj
    simp only [List.set_cons_zero, resL]
    cases g <;> rfl
  | o :: h, g :: G, j + 1, l, l', hj => by
    simp only [List.getElem?_cons_succ] at hj
    simp only [List.set_cons_succ, resL, resL_cells h G j hj]
theorem sealH_sound : ∀ (n j : Nat) {s : AS} {k : List AObj → OR}, InvG w0 M Z0 b G s tv w → sealH n j s.heap k = some r → ∃ h', k h' = some r ∧ InvG w0 M Z0 b G ⟨s.tmps, h'⟩ tv w
  | 0, j, s, k, hI, h => ⟨_, h, hI⟩
  | n + 1, j, s, k, hI, h => by
    unfold sealH at h
    split at h
    · rename_i c hj
      obtain ⟨bb, T, vs, hg, hc⟩ := hI.cells hj
      obtain ⟨c', h', hk, hs, hc'⟩ := sealL_sound hI hc.1 h
      have hj' : h'[j]? = some (.cells c) ∨ ∃ c2, h'[j]? = some (.cells c2) := by
        have hl : j < h'.length := by rw [hs.inv.len, ← hI.len]; exact lt_of_some hj
        have hR := hs.inv.st.per.2
        cases ho : h'[j]? with
        | none => rw [List.getElem?_eq_getElem hl] at ho; cases ho
        | some o =>
          obtain ⟨g, hg', hro⟩ := hR.get ho
          rw [hg] at hg'
          obtain rfl := Option.some.inj hg'
          cases o with
          | cells l => exact .inr ⟨l, rfl⟩
          | arr e d ver fz => exact hro.elim
          | dead => exact hro.elim
      have hI2 : InvG w0 M Z0 b G ⟨s.tmps, h'.set j (.cells c')⟩ tv w := by
        obtain ⟨c2, hj2⟩ : ∃ c2, h'[j]? = some (.cells c2) := by rcases hj' with h1 | h1; exact ⟨_, h1⟩; exact h1
        have hr := resL_cells h' G j (l' := c') hj2
        refine ⟨?_, hs.inv.fresh, hs.inv.mz⟩
        have := hs.inv.st
        show St w0 M Z0 (resL (h'.set j (.cells c')) G) _ w
        rw [hr]
        refine this.weak (relF_stable _ _ _) fun hp => ⟨hp.1, ?_⟩
        have h3 := hp.2.set j (a := .cells c') (b := .cells bb T vs) hc'
        rw [set_same hg] at h3
        exact h3
      exact sealH_sound n (j + 1) (s := ⟨s.tmps, h'.set j (.cells c')⟩) hI2 hk
    · exact sealH_sound n (j + 1) hI h
theorem know_heap (s : AS) (c : Operand) (t : Bool) : (s.know c t).heap = s.heap := by cases c <;> rfl
theorem InvG.know (hI : InvG w0 M Z0 b G s tv w) {c : Operand} {t : Bool} (h : s.ev c = .v (.one (.bool t))) : InvG w0 M Z0 b G (s.know c t) tv w := by
  cases c with
  | tmp d =>
    have hb : s.tmps.getD d anyV = .v (.one (.bool t)) := h
    have hdl : s.tmps[d]? = some (.v (.one (.bool t))) := by
      cases hs : s.tmps[d]? with
      | none => simp [List.getD, hs, anyV] at hb
      | some v => simp [List.getD, hs] at hb; rw [hb]
    obtain ⟨X, hX, hr⟩ := hI.st.per.1.get hdl
    have hX' := bool_inv hr
    subst hX'
    have := hI.put (some d) (v := boolV t) (X := .bool t) ⟨rfl, fun _ => rfl⟩
    simp only at this
    rw [set_same hX] at this
    exact this
  | const _ => exact hI
  | func _ => exact hI
  | global _ => exact hI
/-- Behind some code. -/
def CodeTo (w0 : World) (M Z0 : Zone) (G0 : List GO) (k : Kont) (r : List V1 × List AObj) (e : Exit) (a' : Act) (w' : World) : Prop :=
  ∃ e' s' G' tv', e = e'.out ∧ k e' s' = some r ∧ a' = ⟨tv'.toArray, []⟩ ∧ InvG w0 M Z0 s'.heap.length G' s' tv' w' ∧ UpW G0 G'
theorem evC_sound {E : Env} (hF : CallsOK E.P E.F) (hib : ∀ f, E.D.ib f = true → extIB E.P f) (hdr : DrawOK E.P E.F E.D) (hm : G0.length = E.m) : ∀ (c : Code) (i : Nat) {s : AS} {k : Kont} {G : List GO} {tv : List Value} {w : World},
    InvG w0 M Z0 s.heap.length G s tv w → UpW G0 G → evC E i c s k = some r → c.wp E.P (CodeTo w0 M Z0 G0 k r) ⟨tv.toArray, []⟩ w
  | .skip, i, s, k, G, tv, w, hI, hu, h => wp_skip ⟨.normal, s, G, tv, rfl, h, rfl, hI, hu⟩
  | .region id ops draw, i, s, k, G, tv, w, hI, hu, h => by
    simp only [evC] at h
    rcases cond_some h with ⟨rfl, h⟩ | ⟨rfl, h⟩
    · have go : ∀ s : AS, InvG w0 M Z0 s.heap.length G s tv w → drawC E ops.toList s k = some r → (Code.region id ops true).wp E.P (CodeTo w0 M Z0 G0 k r) ⟨tv.toArray, []⟩ w := by
        intro s hI h
        obtain ⟨hd, h⟩ := cond_left h
        have := hdr w0 M Z0 G s tv w ops.toList id _ r (CodeTo w0 M Z0 G0 k r) hI hd h (fun s' G' tv' w' hk hI' hu' => ⟨.normal, s', G', tv', rfl, hk, rfl, hI', hu.trans hu'⟩)
        simpa using this
      split at h
      · obtain ⟨h', hk, hI2⟩ := sealH_sound _ _ hI h
        refine go ⟨s.tmps, h'⟩ ?_ hk
        have e : h'.length = s.heap.length := by have := hI2.len; rw [hI.len]; exact this
        show InvG w0 M Z0 h'.length G _ tv w
        rw [e]; exact hI2
      · exact go s hI h
    · have hl := evOps_sound (Q := CodeTo w0 M Z0 G0 k r) hF hib (hI.grow (room E.P E.D ops.toList)) (by simp [grow]) h (fun s' G' tv' w' hk hI' hu' => ⟨.normal, s', G', tv', rfl, hk, rfl, hI', hu.trans ((Up.append _ _).trans hu').weak⟩)
      have := wp_region_lit (id := id) hl
      simpa using this
  | .seq a c, i, s, k, G, tv, w, hI, hu, h => by
    simp only [evC] at h
    refine wp_seq (wp_mono (evC_sound hF hib hdr hm a i hI hu h) fun e a' w' ⟨e', s', G', tv', he, hk, ha, hI', hu'⟩ => ?_)
    subst ha he
    cases e' with
    | normal => exact evC_sound hF hib hdr hm c i hI' hu' hk
    | exit j => exact ⟨.exit j, s', G', tv', rfl, hk, rfl, hI', hu'⟩
    | ret => exact ⟨.ret, s', G', tv', rfl, hk, rfl, hI', hu'⟩
  | .cond x a c, i, s, k, G, tv, w, hI, hu, h => by
    simp only [evC] at h
    split at h
    · rename_i t hx
      have hv := hI.ev x
      rw [hx] at hv
      rcases cond_some h with ⟨rfl, h⟩ | ⟨rfl, h⟩
      · exact wp_cond_true (bool_inv hv) (evC_sound hF hib hdr hm a i (s := s.know x true) (by rw [know_heap]; exact hI.know hx) hu h)
      · exact wp_cond_false (bool_inv hv) (evC_sound hF hib hdr hm c i (s := s.know x false) (by rw [know_heap]; exact hI.know hx) hu h)
    · cases h
  | .block id c, i, s, k, G, tv, w, hI, hu, h => by
    simp only [evC] at h
    refine wp_block (wp_mono (evC_sound hF hib hdr hm c id hI hu h) fun e a' w' ⟨e', s', G', tv', he, hk, ha, hI', hu'⟩ => ?_)
    subst ha he
    cases e' with
    | normal => exact ⟨.normal, s', G', tv', rfl, hk, rfl, hI', hu'⟩
    | ret => exact ⟨.ret, s', G', tv', rfl, hk, rfl, hI', hu'⟩
    | exit j =>
      simp only [blockK] at hk
      simp only [Ex.out, Exit.inBlock]
      rcases cond_some hk with ⟨hj, hk⟩ | ⟨hj, hk⟩
      · simp only [Nat.beq_eq] at hj
        rw [if_pos hj]
        exact ⟨.normal, s', G', tv', rfl, hk, rfl, hI', hu'⟩
      · rw [if_neg (fun e => by rw [e] at hj; simp at hj)]
        exact ⟨.exit j, s', G', tv', rfl, hk, rfl, hI', hu'⟩
  | .loop c, i, s, k, G, tv, w, hI, hu, h => by
    simp only [evC] at h
    obtain ⟨G1, hI1, hu1⟩ := atHead_sound (live := E.live i) hI hu hm
    refine wp_loop_ghost (fun n a w => ∃ s G tv, evL (evC E i c) (atHead E.m (E.live i)) n s k = some r ∧ a = ⟨tv.toArray, []⟩ ∧ InvG w0 M Z0 s.heap.length G s tv w ∧ UpW G0 G) E.n ⟨_, G1, tv, h, rfl, hI1, hu1⟩ ?_
    intro n a w ⟨s, G, tv, h, ha, hI, hu⟩
    subst ha
    cases n with
    | zero => cases h
    | succ n =>
      simp only [evL] at h
      refine wp_mono (evC_sound hF hib hdr hm c i hI hu h) fun e a' w' ⟨e', s', G', tv', he, hk, ha, hI', hu'⟩ => ?_
      subst ha he
      cases e' with
      | normal =>
        obtain ⟨G2, hI2, hu2⟩ := atHead_sound (live := E.live i) hI' hu' hm
        exact ⟨n, Nat.lt_succ_self n, _, G2, tv', hk, rfl, hI2, hu2⟩
      | exit j => exact ⟨.exit j, s', G', tv', rfl, hk, rfl, hI', hu'⟩
      | ret => exact ⟨.ret, s', G', tv', rfl, hk, rfl, hI', hu'⟩
  | .exit id, i, s, k, G, tv, w, hI, hu, h => wp_exit ⟨.exit id, s, G, tv, rfl, h, rfl, hI, hu⟩
  | .ret, i, s, k, G, tv, w, hI, hu, h => wp_ret ⟨.ret, s, G, tv, rfl, h, rfl, hI, hu⟩
  | .rangeFunc _ _ _ _, i, s, k, G, tv, w, hI, hu, h => by simp [evC] at h
  | .scope _, i, s, k, G, tv, w, hI, hu, h => by simp [evC] at h
  | .label _, i, s, k, G, tv, w, hI, hu, h => by simp [evC] at h
  | .goto _, i, s, k, G, tv, w, hI, hu, h => by simp [evC] at h
  | .refuse _, i, s, k, G, tv, w, hI, hu, h => by simp [evC] at h
/-- What is said of functions that are taken as known. -/
def PrimsOK (P : Program) (S : Say) : Prop := ∀ f g args out, S.prim f = some g → g args = some out →
  ∀ w0 M Z0 G vals w, InvG w0 M Z0 0 G ⟨args.map .v, []⟩ vals w →
    Calls P f vals.toArray w fun e w' => ∃ xs G', e = .returned (if h : xs.toArray.size = 1 then xs.toArray[0] else .tuple xs.toArray) ∧ InvG w0 M Z0 out.2.length G' ⟨out.1.map .v, out.2⟩ xs w' ∧ UpW G G'
theorem evF_sound {S : Say} (hp : PrimsOK P S) (hib : ∀ f, S.D.ib f = true → extIB P f) (hdr : ∀ F, CallsOK P F → DrawOK P F S.D) : ∀ n, CallsOK P (evF P S n)
  | 0 => fun f fn args h out _ _ ho => by cases ho
  | n + 1 => by
    intro f fn args h out hfn hb ho w0 M Z0 G vals w hI
    have hF := evF_sound hp hib hdr n
    unfold evF at ho
    split at ho
    · rename_i g hg
      split at ho
      · exact hp f g args out hg ho w0 M Z0 G vals w hI
      · cases ho
    · rw [hfn] at ho
      simp only at ho
      split at ho
      · rename_i c hc
        have hlen : args.length = vals.length := by have := hI.st.per.1.1; simpa using this
        refine calls_of_wp hfn hc ?_
        have hI2 : InvG w0 M Z0 h.length G ⟨args.map .v ++ List.replicate (fn.ntmps - args.length) anyV, h⟩ (vals ++ List.replicate (fn.ntmps - args.length) undef) w :=
          ⟨hI.st.weak (relF_stable _ _ _) fun hh => ⟨All2.append hh.1 (All2.replicate (any_rel undef) _), hh.2⟩, hI.fresh, hI.mz⟩
        have hwp := evC_sound (E := ⟨P, evF P S n, S.D, n, h.length, S.live f⟩) (G0 := G) hF hib (hdr _ hF) hI.len.symm c 0 hI2 (UpW.refl G) ho
        have harr : vals.toArray ++ Array.replicate (fn.ntmps - vals.toArray.size) undef = (vals ++ List.replicate (fn.ntmps - args.length) undef).toArray := by
          rw [hlen]; simp
        rw [harr]
        refine wp_mono hwp fun e a' w' ⟨e', s', G', tv', he, hk, ha, hI', hu'⟩ => ?_
        subst ha he
        have fin : finish P (S.D.own f) fn h.length s' = some out → ∃ v, (results fn tv'.toArray).run P w' = .ok v w' ∧ ∃ xs G'', (.returned v : Ending) = .returned (if h : xs.toArray.size = 1 then xs.toArray[0] else .tuple xs.toArray) ∧ InvG w0 M Z0 out.2.length G'' ⟨out.1.map .v, out.2⟩ xs w' ∧ UpW G G'' := by
          intro hk
          obtain ⟨xs, G'', h1, h2, h3⟩ := finish_sound hI' hu' hI.len.symm hk
          exact ⟨_, h1, xs, G'', rfl, h2, h3⟩
        cases e' with
        | normal => exact ⟨rfl, fin hk⟩
        | ret => exact ⟨rfl, fin hk⟩
        | exit j => cases hk
      · cases ho
end
end Go.Ab
