/- The abstract run is sound: the heads of loops. No program in sight. -/
import Derived.Test.YthjbllfcelkajaaOpI
set_option linter.unusedVariables false
set_option linter.unusedSimpArgs false
namespace Go.Ab
open Go Go.Dk

section
variable {P : Program} {w0 w w' : World} {M Z0 Z : Zone} {b : Nat} {G G0 : List GO} {s : AS} {tv : List Value} {r : List V1 × List AObj}
theorem mask_rel (live : List Nat) : ∀ (i : Nat) {l : List AV} {xs : List Value}, All2 (RV G Z w) l xs → All2 (RV G Z w) (maskT live i l) xs
  | i, [], xs, h => h
  | i, v :: l, xs, h => by
    obtain ⟨X, xs', rfl, h1, h2⟩ := h.cons_inv
    refine All2.cons ?_ (mask_rel live (i + 1) h2)
    cases hasN i live
    · exact any_rel X
    · exact h1
theorem mask_sound (hI : InvG w0 M Z0 b G s tv w) (live : List Nat) : InvG w0 M Z0 b G ⟨maskT live 0 s.tmps, s.heap⟩ tv w :=
  ⟨hI.st.weak (relF_stable _ _ _) fun hh => ⟨mask_rel live 0 hh.1, hh.2⟩, hI.fresh, hI.mz⟩
theorem sameL_eq : ∀ {l m : List Nat}, sameL l m = true → l = m
  | [], [], _ => rfl
  | a :: l, c :: m, h => by simp only [sameL, Bool.and_eq_true, Nat.beq_eq] at h; rw [h.1, sameL_eq h.2]
  | [], _ :: _, h => by cases h
  | _ :: _, [], h => by cases h
theorem UpW.sel {js : List Nat} {m : Nat} (h : UpW G0 G) (hm : G0.length = m) (hj : js.take m = List.range m) : UpW G0 (selG js G) := by
  have key : ∀ j g, j < m → G[j]? = some g → (selG js G)[j]? = some g := by
    intro j g hjm hg
    have : js[j]? = some j := by
      have := congrArg (fun l => l[j]?) hj
      simp only [List.getElem?_take, if_pos hjm] at this
      rw [this]; simp [hjm]
    exact selG_get this hg
  intro j
  refine ⟨fun hh => ?_, fun b T vs hh => ?_, fun ver val sz xs hh => ?_⟩
  · exact key j _ (by rw [← hm]; exact lt_of_some hh) ((h j).1 hh)
  · have hl : j < m := by rw [← hm]; exact lt_of_some hh
    rcases (h j).2.1 b T vs hh with h1 | ⟨T', vs', h1⟩
    · exact .inl (key j _ hl h1)
    · exact .inr ⟨T', vs', key j _ hl h1⟩
  · have hl : j < m := by rw [← hm]; exact lt_of_some hh
    rcases (h j).2.2 _ _ _ _ hh with h1 | ⟨a, c, d, h1⟩
    · exact .inl (key j _ hl h1)
    · exact .inr ⟨a, c, d, key j _ hl h1⟩
theorem gc_sound {m : Nat} (hI : InvG w0 M Z0 s.heap.length G s tv w) (hu : UpW G0 G) (hm : G0.length = m) : ∃ G', InvG w0 M Z0 (gc m s).heap.length G' (gc m s) tv w ∧ UpW G0 G' := by
  have hg : gc m s = s ∨ ∃ js, okJs js s.heap.length = true ∧ sameL (js.take m) (List.range m) = true ∧ gc m s = ⟨s.tmps.map (renA js), selH js s.heap⟩ := by
    unfold gc
    generalize reach s.heap 64 _ _ = js
    cases hc : (okJs js s.heap.length && sameL (js.take m) (List.range m)) with
    | false => exact .inl (by simp [hc])
    | true =>
      have hc' := hc
      simp only [Bool.and_eq_true] at hc'
      exact .inr ⟨js, hc'.1, hc'.2, by simp [hc]⟩
  rcases hg with hg | ⟨js, h1, h2, hg⟩
  · rw [hg]; exact ⟨G, hI, hu⟩
  · rw [hg]
    exact ⟨selG js G, (hI.sel h1).raise (by simp [selH]), hu.sel hm (sameL_eq h2)⟩

/-! Empty slices as rows of the call's own. -/
def NewOk (o : AObj) (g : GO) : Prop := ∃ (e : TypeId × SK) (a : Option Addr), o = .arr e.1 e.2.nil 0 false ∧ g = .arr 0 (.slice a 0 0) e.2.size []
def At_ (b : Nat) (N G' : List GO) : Prop := ∀ (i : Nat) g, N[i]? = some g → G'[b + i]? = some g
theorem At_.left {N N' G' : List GO} (h : At_ b (N ++ N') G') : At_ b N G' := fun i g hg => h i g (by rw [List.getElem?_append_left (lt_of_some hg)]; exact hg)
theorem At_.right {N N' G' : List GO} (h : At_ b (N ++ N') G') : At_ (b + N.length) N' G' := fun i g hg => by
  have := h (N.length + i) g (by rw [List.getElem?_append_right (by omega)]; simpa using hg)
  rw [Nat.add_assoc]; exact this
theorem ownS_sound {v : SV} {X : Value} (h : OneR G Z w v X) : ∃ N, All2 NewOk (ownS b v).2 N ∧ ∀ G', At_ b N G' → Up G G' → OneR G' Z w (ownS b v).1 X := by
  unfold ownS
  split
  · rename_i e
    obtain ⟨⟨a, rfl⟩, h2⟩ := h
    refine ⟨[.arr 0 (.slice a 0 0) e.2.size []], All2.cons ⟨e, a, rfl, rfl⟩ All2.nil, fun G' hA hu => ⟨.inr ⟨0, _, _, _, hA 0 _ rfl, Nat.le_refl _, fun _ => rfl⟩, h2⟩⟩
  · exact ⟨[], All2.nil, fun G' _ hu => ⟨h.1.up hu, h.2⟩⟩
theorem ownL_sound : ∀ {l : List SV} {xs : List Value} {b : Nat}, All2 (OneR G Z w) l xs → ∃ N, All2 NewOk (ownL b l).2 N ∧ ∀ G', At_ b N G' → Up G G' → All2 (OneR G' Z w) (ownL b l).1 xs
  | [], xs, b, h => ⟨[], All2.nil, fun _ _ _ => by obtain rfl := h.nil_inv; exact All2.nil⟩
  | v :: l, xs, b, h => by
    obtain ⟨X, xs', rfl, h1, h2⟩ := h.cons_inv
    obtain ⟨N1, a1, c1⟩ := ownS_sound (b := b) h1
    obtain ⟨N2, a2, c2⟩ := ownL_sound (b := b + (ownS b v).2.length) h2
    refine ⟨N1 ++ N2, All2.append a1 a2, fun G' hA hu => All2.cons (c1 G' hA.left hu) (c2 G' (by rw [a1.1]; exact hA.right) hu)⟩
theorem ownA_sound {v : AV} {X : Value} {b : Nat} (h : RV G Z w v X) : ∃ N, All2 NewOk (ownA b v).2 N ∧ ∀ G', At_ b N G' → Up G G' → RV G' Z w (ownA b v).1 X := by
  cases v with
  | v x => cases x with
    | one x =>
      by_cases hx : x = .any
      · subst hx
        exact ⟨[], All2.nil, fun G' _ _ => any_rel X⟩
      · obtain ⟨N, a, c⟩ := ownS_sound (b := b) ⟨h.1, h.2 hx⟩
        exact ⟨N, a, fun G' hA hu => (c G' hA hu).rv⟩
    | agg l =>
      obtain ⟨xs, hX, hh⟩ := h
      obtain ⟨N, a, c⟩ := ownL_sound (b := b) hh
      exact ⟨N, a, fun G' hA hu => ⟨xs, hX, c G' hA hu⟩⟩
  | tup l => exact ⟨[], All2.nil, fun G' _ hu => RV.up hu h⟩
theorem ownTs_sound : ∀ {l : List AV} {xs : List Value} {b : Nat}, All2 (RV G Z w) l xs → ∃ N, All2 NewOk (ownTs b l).2 N ∧ ∀ G', At_ b N G' → Up G G' → All2 (RV G' Z w) (ownTs b l).1 xs
  | [], xs, b, h => ⟨[], All2.nil, fun _ _ _ => by obtain rfl := h.nil_inv; exact All2.nil⟩
  | v :: l, xs, b, h => by
    obtain ⟨X, xs', rfl, h1, h2⟩ := h.cons_inv
    obtain ⟨N1, a1, c1⟩ := ownA_sound (b := b) h1
    obtain ⟨N2, a2, c2⟩ := ownTs_sound (b := b + (ownA b v).2.length) h2
    refine ⟨N1 ++ N2, All2.append a1 a2, fun G' hA hu => All2.cons (c1 G' hA.left hu) (c2 G' (by rw [a1.1]; exact hA.right) hu)⟩
theorem ownH_sound : ∀ {h : List AObj} {gs : List GO} {b : Nat}, All2 (RO G Z w) h gs → ∃ N, All2 NewOk (ownH b h).2 N ∧ (∀ G', At_ b N G' → Up G G' → All2 (RO G' Z w) (ownH b h).1 gs) ∧ resL (ownH b h).1 gs = resL h gs
  | [], gs, b, h => ⟨[], All2.nil, fun _ _ _ => by obtain rfl := h.nil_inv; exact All2.nil, rfl⟩
  | o :: h, gs, b, hh => by
    obtain ⟨g, gs', rfl, h1, h2⟩ := hh.cons_inv
    cases o with
    | cells c =>
      cases g with
      | cells bb T vs =>
        obtain ⟨N1, a1, c1⟩ := ownL_sound (b := b) h1
        obtain ⟨N2, a2, c2, e2⟩ := ownH_sound (b := b + (ownL b c).2.length) h2
        refine ⟨N1 ++ N2, All2.append a1 a2, fun G' hA hu => All2.cons (c1 G' hA.left hu) (c2 G' (by rw [a1.1]; exact hA.right) hu), ?_⟩
        simp only [ownH, resL, resO, e2]
      | _ => exact h1.elim
    | arr e D v z =>
      obtain ⟨N2, a2, c2, e2⟩ := ownH_sound (b := b) h2
      exact ⟨N2, a2, fun G' hA hu => All2.cons (RO.up hu h1) (c2 G' hA hu), by simp only [ownH, resL, e2]⟩
    | dead =>
      obtain ⟨N2, a2, c2, e2⟩ := ownH_sound (b := b) h2
      exact ⟨N2, a2, fun G' hA hu => All2.cons (RO.up hu h1) (c2 G' hA hu), by simp only [ownH, resL, e2]⟩
theorem new_res : ∀ {o : List AObj} {N : List GO}, All2 NewOk o N → ∀ q ∈ resL o N, (∀ k, ¬ q.foot k) ∧ q.own w ∧ q.Local
  | [], N, h, q, hq => by simp [resL] at hq
  | o :: os, N, h, q, hq => by
    obtain ⟨g, N', rfl, ⟨e, a, rfl, rfl⟩, h2⟩ := h.cons_inv
    simp only [resL, List.mem_append, resO, List.mem_singleton] at hq
    rcases hq with rfl | hq
    · rw [SK.nil_len]
      exact ⟨fun k h => h, ⟨rfl, rfl, rfl⟩, fun _ _ _ h => h⟩
    · exact new_res h2 q hq
theorem new_RO {o : List AObj} {N : List GO} (h : All2 NewOk o N) : All2 (RO G Z w) o N :=
  h.mono fun o g _ ⟨e, a, ho, hg⟩ => by
    subst ho hg
    exact ⟨rfl, by rw [SK.nil_kind], ElemsR_nil e.2, a, 0, by rw [SK.nil_len]⟩
theorem _root_.Go.Dk.St.empties {L L' : List Res} {φ : Fact} (h : St w0 M Z0 L φ w) (h' : ∀ q ∈ L', (∀ k, ¬ q.foot k) ∧ q.own w ∧ q.Local) : St w0 M Z0 (L ++ L') φ w := by
  refine ⟨h.ext, ?_, ?_, ?_, ?_, h.stab, ?_⟩
  · intro q hq; exact (List.mem_append.1 hq).elim (h.own q) (fun hq => (h' q hq).2.1)
  · intro q hq; exact (List.mem_append.1 hq).elim (h.loc q) (fun hq => (h' q hq).2.2)
  · intro q hq k hk; exact (List.mem_append.1 hq).elim (fun hq => h.key q hq k hk) (fun hq => ((h' q hq).1 k hk).elim)
  · refine List.pairwise_append.2 ⟨h.dis, ?_, fun q hq p hp k _ hk => (h' p hp).1 k hk⟩
    exact List.Pairwise.imp_of_mem (fun ha _ _ k hk _ => (h' _ ha).1 k hk) (List.pairwise_of_forall (fun _ _ => trivial) : List.Pairwise (fun _ _ => True) L')
  · refine h.stab _ _ w w (fun k hz _ => ⟨⟨hz.1, fun q hq hf => ?_⟩, rfl⟩) h.per
    exact (List.mem_append.1 hq).elim (fun hq => hz.2 q hq hf) (fun hq => (h' q hq).1 k hf)
theorem ownAll_sound (hI : InvG w0 M Z0 s.heap.length G s tv w) (hu : UpW G0 G) : ∃ G', InvG w0 M Z0 (ownAll s).heap.length G' (ownAll s) tv w ∧ UpW G0 G' := by
  obtain ⟨N1, a1, c1⟩ := ownTs_sound (b := s.heap.length) hI.st.per.1
  obtain ⟨N2, a2, c2, e2⟩ := ownH_sound (b := s.heap.length + (ownTs s.heap.length s.tmps).2.length) hI.st.per.2
  have hup := Up.append G (N1 ++ N2)
  refine ⟨G ++ (N1 ++ N2), ⟨?_, fun j hj hl => ?_, hI.mz⟩, hu.trans hup.weak⟩
  · have hnew := All2.append a1 a2
    have hL : resL (ownAll s).heap (G ++ (N1 ++ N2)) = resL s.heap G ++ resL ((ownTs s.heap.length s.tmps).2 ++ (ownH (s.heap.length + (ownTs s.heap.length s.tmps).2.length) s.heap).2) (N1 ++ N2) := by
      show resL ((ownH (s.heap.length + (ownTs s.heap.length s.tmps).2.length) s.heap).1 ++ _) _ = _
      have hlen : (ownH (s.heap.length + (ownTs s.heap.length s.tmps).2.length) s.heap).1.length = G.length := by
        have := c2 (G ++ (N1 ++ N2)) (fun i g hg => by
          have hl := lt_of_some hg
          rw [a1.1, hI.len, List.getElem?_append_right (by omega), List.getElem?_append_right (by omega)]
          rw [show G.length + N1.length + i - G.length - N1.length = i by omega]; exact hg) hup
        exact this.1
      rw [resL_append hlen, e2]
    have hS := hI.st.empties (new_res (w := w) hnew)
    rw [← hL] at hS
    refine hS.weak (relF_stable _ _ _) fun hh => ?_
    obtain ⟨N1', a1', c1'⟩ := ownTs_sound (b := s.heap.length) hh.1
    have hk : ∀ k, zn w0 Z0 s G k → zone w0 Z0 (resL (ownAll s).heap (G ++ (N1 ++ N2))) k := fun k hk => ⟨hk.1, fun q hq hf => by
      rw [hL] at hq
      exact (List.mem_append.1 hq).elim (fun hq => hk.2 q hq hf) (fun hq => (new_res (w := w) hnew q hq).1 k hf)⟩
    have hA1 : At_ s.heap.length N1 (G ++ (N1 ++ N2)) := fun i g hg => by
      have hl := lt_of_some hg
      rw [hI.len, List.getElem?_append_right (by omega), show G.length + i - G.length = i by omega, List.getElem?_append_left hl]; exact hg
    have hA2 : At_ (s.heap.length + (ownTs s.heap.length s.tmps).2.length) N2 (G ++ (N1 ++ N2)) := fun i g hg => by
      rw [a1.1, hI.len, List.getElem?_append_right (by omega), List.getElem?_append_right (by omega)]
      rw [show G.length + N1.length + i - G.length - N1.length = i by omega]; exact hg
    refine ⟨(c1 _ hA1 hup).mono fun _ _ _ q => q.stable (keeps_le hk), ?_⟩
    exact All2.append ((c2 _ hA2 hup).mono fun _ _ _ q => q.stable (keeps_le hk)) (new_RO hnew)
  · exfalso
    have h1 : (ownAll s).heap.length = s.heap.length + ((ownTs s.heap.length s.tmps).2.length + (ownH (s.heap.length + (ownTs s.heap.length s.tmps).2.length) s.heap).2.length) := by
      show ((ownH (s.heap.length + (ownTs s.heap.length s.tmps).2.length) s.heap).1 ++ _).length = _
      have := c2 (G ++ (N1 ++ N2)) (fun i g hg => by
          have hl := lt_of_some hg
          rw [a1.1, hI.len, List.getElem?_append_right (by omega), List.getElem?_append_right (by omega)]
          rw [show G.length + N1.length + i - G.length - N1.length = i by omega]; exact hg) hup
      rw [List.length_append, List.length_append, this.1, hI.len]
    have e1 := a1.1
    have e2 := a2.1
    have e3 := hI.len
    rw [h1] at hj
    rw [List.length_append, List.length_append] at hl
    omega

/-! Versions from the start. -/
def v0 : GO → GO
  | .arr _ v sz xs => .arr 0 v sz xs
  | g => g
theorem ver0S_rel {h : List AObj} (hh : All2 (RO G Z w) h G) {v : SV} {X : Value} (hx : RS G Z w v X) : RS (G.map v0) Z w (ver0S h v) X := by
  cases v with
  | own j v =>
    show RS _ _ _ (match h[j]? with | some (.arr _ _ ver _) => cond (Nat.beq v ver) (.own j 0) .any | _ => .any) X
    split
    · rename_i hj
      rename_i ver _
      cases hv : Nat.beq v ver with
      | false => trivial
      | true =>
        simp only [Nat.beq_eq] at hv
        obtain ⟨g, hg, hr⟩ := hh.get hj
        cases g with
        | arr ver' val sz xs =>
          obtain ⟨rfl, _⟩ := hr
          exact .inr ⟨0, val, sz, xs, by simp [hg, v0], Nat.le_refl _, fun _ => own_val hx hg hv⟩
        | _ => exact hr.elim
    · trivial
  | ptr j o =>
    rcases hx with hx | ⟨bb, T, vs, hg, he⟩
    · exact .inl (by simp [hx, v0])
    · exact .inr ⟨bb, T, vs, by simp [hg, v0], he⟩
  | op j v i o => trivial
  | fn f l =>
    obtain ⟨bs, hX, hb⟩ := hx
    refine ⟨bs, hX, hb.mono fun j bb _ h => ?_⟩
    rcases h with h | ⟨T, vs, h⟩
    · exact .inl (by simp [h, v0])
    · exact .inr ⟨T, vs, by simp [h, v0]⟩
  | _ => exact hx
theorem ver0_sound (hI : InvG w0 M Z0 s.heap.length G s tv w) (hu : UpW G0 G) : ∃ G', InvG w0 M Z0 (ver0 s).heap.length G' (ver0 s) tv w ∧ UpW G0 G' := by
  have hL : ∀ (h : List AObj) (gs : List GO) (h0 : List AObj), resL (h.map (ver0O h0)) (gs.map v0) = resL h gs := by
    intro h
    induction h with
    | nil => intro gs h0; rfl
    | cons o h ih =>
      intro gs h0
      cases gs with
      | nil => rfl
      | cons g gs =>
        simp only [List.map_cons, resL, ih]
        congr 1
        cases o with
        | arr e D v z => cases g <;> cases z <;> rfl
        | _ => cases g <;> rfl
  refine ⟨G.map v0, ⟨?_, fun j hj hl => ?_, hI.mz⟩, ?_⟩
  · have hS := hI.st
    rw [← hL s.heap G s.heap] at hS
    refine hS.weak (relF_stable _ _ _) fun hh => ⟨?_, ?_⟩
    · refine hh.1.map_left fun v X hx => ?_
      cases v with
      | v x => cases x with
        | one x =>
          refine ⟨ver0S_rel hh.2 hx.1, fun hne => hx.2 ?_⟩
          rintro rfl; exact hne rfl
        | agg l =>
          obtain ⟨xs, hX, hc⟩ := hx
          exact ⟨xs, hX, hc.map_left fun _ _ q => ⟨ver0S_rel hh.2 q.1, q.2⟩⟩
      | tup l => exact any_rel X
    · have hh2 := hh.2
      refine ⟨by simp [ver0, hh2.1], fun i o g ho hg => ?_⟩
      simp only [ver0, List.getElem?_map] at ho hg
      obtain ⟨o', ho', rfl⟩ := Option.map_eq_some_iff.1 ho
      obtain ⟨g', hg', rfl⟩ := Option.map_eq_some_iff.1 hg
      have hr := hh2.2 i o' g' ho' hg'
      cases o' with
      | cells l => cases g' with
        | cells bb T vs => exact All2.map_left hr fun _ _ q => ⟨ver0S_rel hh2 q.1, q.2⟩
        | _ => exact hr.elim
      | arr e D v z => cases g' with
        | arr ver val sz xs => obtain ⟨_, h2, h3⟩ := hr; exact ⟨rfl, h2, h3⟩
        | _ => exact hr.elim
      | dead => cases g' <;> first | trivial | exact hr.elim
  · exfalso
    simp [ver0] at hj hl
    rw [hI.len] at hj; omega
  · refine hu.trans fun j => ⟨fun hh => by simp [hh, v0], fun bb T vs hh => .inr ⟨T, vs, by simp [hh, v0]⟩, fun ver val sz xs hh => .inr ⟨0, val, xs, by simp [hh, v0]⟩⟩
theorem atHead_sound {m : Nat} {live : Option (List Nat)} (hI : InvG w0 M Z0 s.heap.length G s tv w) (hu : UpW G0 G) (hm : G0.length = m) :
    ∃ G', InvG w0 M Z0 (atHead m live s).heap.length G' (atHead m live s) tv w ∧ UpW G0 G' := by
  cases live with
  | none => exact ⟨G, hI, hu⟩
  | some live =>
    obtain ⟨G1, h1, u1⟩ := gc_sound (s := ⟨maskT live 0 s.tmps, s.heap⟩) (mask_sound hI live) hu hm
    obtain ⟨G2, h2, u2⟩ := ownAll_sound h1 u1
    obtain ⟨G3, h3, u3⟩ := gc_sound h2 u2 hm
    exact ver0_sound h3 u3
end
end Go.Ab
