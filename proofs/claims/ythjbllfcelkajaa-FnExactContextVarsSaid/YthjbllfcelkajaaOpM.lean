/- The abstract run is sound: whole functions. No program in sight. -/
import Derived.Test.YthjbllfcelkajaaOpL
set_option linter.unusedVariables false
set_option linter.unusedSimpArgs false
namespace Go.Ab
open Go Go.Dk

section
variable {P : Program} {w0 w w' : World} {M Z0 Z : Zone} {b : Nat} {G G0 : List GO} {s : AS} {tv : List Value} {r : List V1 × List AObj}
def Ex.out : Ex → Exit | .normal => .normal | .exit i => .exit i | .ret => .ret
/-- Regions that draw their order. -/
def DrawOK (P : Program) (F : Callee) (D : Dec) : Prop := ∀ (w0 : World) (M Z0 : Zone) (G : List GO) (s : AS) (tv : List Value) (w : World) (ops : List Oper) (id : Nat) (k : AS → OR) (r : List V1 × List AObj) (Q : Exit → Act → World → Prop),
  InvG w0 M Z0 s.heap.length G s tv w → drawB ops (ancL ops []) ops 0 = true → evDr P F D ops (ancL ops []) ops 0 [] s.heap.length (grow (room P D ops) s) k = some r →
    (∀ s' G' tv' w', k s' = some r → InvG w0 M Z0 s'.heap.length G' s' tv' w' → UpW G G' → Q .normal ⟨tv'.toArray, []⟩ w') → (Code.region id ops.toArray true).wp P Q ⟨tv.toArray, []⟩ w
theorem resL_cells : ∀ (h : List AObj) (G : List GO) (j : Nat) {l l' : List SV}, h[j]? = some (.cells l) → resL (h.set j (.cells l')) G = resL h G
  | [], G, j, l, l', h => by simp at h
  | o :: h, [], j, l, l', _ => by cases j <;> simp [resL]
  | o :: h, g :: G, 0, l, l', hj => by
    simp only [List.getElem?_cons_zero, Option.some.injEq] at hj
    subst hj
    simp only [List.set_cons_zero, resL]
    cases g <;> rfl
  | o :: h, g :: G, j + 1, l, l', hj => by
    simp only [List.getElem?_cons_succ] at hj
    simp only [List.set_cons_succ, resL, resL_cells h G j hj]
theorem sealH_sound : ∀ (n j : Nat) {s : AS} {k : List AObj → OR}, InvG w0 M Z0 b G s tv w → sealH n j s.heap k = some r → ∃ h', k h' = some r ∧ InvG w0 M Z0 b G ⟨s.tmps, h'⟩ tv w
  | 0, j, s, k, hI, h => ⟨_, h, hI⟩
  | n + 1, j, s, k, hI, h => by
    unfold sealH at h
    split at h
    · rename_i c hj
      obtain ⟨bb, T, vs, hg, hc⟩ := hI.cells hj
      obtain ⟨c', h', hk, hs, hc'⟩ := sealL_sound hI hc.1 h
      have hj' : h'[j]? = some (.cells c) ∨ ∃ c2, h'[j]? = some (.cells c2) := by
        have hl : j < h'.length := by rw [hs.inv.len, ← hI.len]; exact lt_of_some hj
        have hR := hs.inv.st.per.2
        cases ho : h'[j]? with
        | none => rw [List.getElem?_eq_getElem hl] at ho; cases ho
        | some o =>
          obtain ⟨g, hg', hro⟩ := hR.get ho
          rw [hg] at hg'
          obtain rfl := Option.some.inj hg'
          cases o with
          | cells l => exact .inr ⟨l, rfl⟩
          | arr e d ver fz => exact hro.elim
          | dead => exact hro.elim
      have hI2 : InvG w0 M Z0 b G ⟨s.tmps, h'.set j (.cells c')⟩ tv w := by
        obtain ⟨c2, hj2⟩ : ∃ c2, h'[j]? = some (.cells c2) := by rcases hj' with h1 | h1; exact ⟨_, h1⟩; exact h1
        have hr := resL_cells h' G j (l' := c') hj2
        refine ⟨?_, hs.inv.fresh, hs.inv.mz⟩
        have := hs.inv.st
        show St w0 M Z0 (resL (h'.set j (.cells c')) G) _ w
        rw [hr]
        refine this.weak (relF_stable _ _ _) fun hp => ⟨hp.1, ?_⟩
        have h3 := hp.2.set j (a := .cells c') (b := .cells bb T vs) hc'
        rw [set_same hg] at h3
        exact h3
      exact sealH_sound n (j + 1) (s := ⟨s.tmps, h'.set j (.cells c')⟩) hI2 hk
    · exact sealH_sound n (j + 1) hI h
theorem know_heap (s : AS) (c : Operand) (t : Bool) : (s.know c t).heap = s.heap := by cases c <;> rfl
theorem InvG.know (hI : InvG w0 M Z0 b G s tv w) {c : Operand} {t : Bool} (h : s.ev c = .v (.one (.bool t))) : InvG w0 M Z0 b G (s.know c t) tv w := by
  cases c with
  | tmp d =>
    have hb : s.tmps.getD d anyV = .v (.one (.bool t)) := h
    have hdl : s.tmps[d]? = some (.v (.one (.bool t))) := by
      cases hs : s.tmps[d]? with
      | none => simp [List.getD, hs, anyV] at hb
      | some v => simp [List.getD, hs] at hb; rw [hb]
    obtain ⟨X, hX, hr⟩ := hI.st.per.1.get hdl
    have hX' := bool_inv hr
    subst hX'
    have := hI.put (some d) (v := boolV t) (X := .bool t) ⟨rfl, fun _ => rfl⟩
    simp only at this
    rw [set_same hX] at this
    exact this
  | const _ => exact hI
  | func _ => exact hI
  | global _ => exact hI
/-- Behind some code. -/
def CodeTo (w0 : World) (M Z0 : Zone) (G0 : List GO) (k : Kont) (r : List V1 × List AObj) (e : Exit) (a' : Act) (w' : World) : Prop :=
  ∃ e' s' G' tv', e = e'.out ∧ k e' s' = some r ∧ a' = ⟨tv'.toArray, []⟩ ∧ InvG w0 M Z0 s'.heap.length G' s' tv' w' ∧ UpW G0 G'
theorem evC_sound {E : Env} (hF : CallsOK E.P E.F) (hib : ∀ f, E.D.ib f = true → extIB E.P f) (hdr : DrawOK E.P E.F E.D) (hm : G0.length = E.m) : ∀ (c : Code) (i : Nat) {s : AS} {k : Kont} {G : List GO} {tv : List Value} {w : World},
    InvG w0 M Z0 s.heap.length G s tv w → UpW G0 G → evC E i c s k = some r → c.wp E.P (CodeTo w0 M Z0 G0 k r) ⟨tv.toArray, []⟩ w
  | .skip, i, s, k, G, tv, w, hI, hu, h => wp_skip ⟨.normal, s, G, tv, rfl, h, rfl, hI, hu⟩
  | .region id ops draw, i, s, k, G, tv, w, hI, hu, h => by
    simp only [evC] at h
    rcases cond_some h with ⟨rfl, h⟩ | ⟨rfl, h⟩
    · have go : ∀ s : AS, InvG w0 M Z0 s.heap.length G s tv w → drawC E ops.toList s k = some r → (Code.region id ops true).wp E.P (CodeTo w0 M Z0 G0 k r) ⟨tv.toArray, []⟩ w := by
        intro s hI h
        obtain ⟨hd, h⟩ := cond_left h
        have := hdr w0 M Z0 G s tv w ops.toList id _ r (CodeTo w0 M Z0 G0 k r) hI hd h (fun s' G' tv' w' hk hI' hu' => ⟨.normal, s', G', tv', rfl, hk, rfl, hI', hu.trans hu'⟩)
        simpa using this
      split at h
      · obtain ⟨h', hk, hI2⟩ := sealH_sound _ _ hI h
        refine go ⟨s.tmps, h'⟩ ?_ hk
        have e : h'.length = s.heap.length := by have := hI2.len; rw [hI.len]; exact this
        show InvG w0 M Z0 h'.length G _ tv w
        rw [e]; exact hI2
      · exact go s hI h
    · have hl := evOps_sound (Q := CodeTo w0 M Z0 G0 k r) hF hib (hI.grow (room E.P E.D ops.toList)) (by simp [grow]) h (fun s' G' tv' w' hk hI' hu' => ⟨.normal, s', G', tv', rfl, hk, rfl, hI', hu.trans ((Up.append _ _).trans hu').weak⟩)
      have := wp_region_lit (id := id) hl
      simpa using this
  | .seq a c, i, s, k, G, tv, w, hI, hu, h => by
    simp only [evC] at h
    refine wp_seq (wp_mono (evC_sound hF hib hdr hm a i hI hu h) fun e a' w' ⟨e', s', G', tv', he, hk, ha, hI', hu'⟩ => ?_)
    subst ha he
    cases e' with
    | normal => exact evC_sound hF hib hdr hm c i hI' hu' hk
    | exit j => exact ⟨.exit j, s', G', tv', rfl, hk, rfl, hI', hu'⟩
    | ret => exact ⟨.ret, s', G', tv', rfl, hk, rfl, hI', hu'⟩
  | .cond x a c, i, s, k, G, tv, w, hI, hu, h => by
    simp only [evC] at h
    split at h
    · rename_i t hx
      have hv := hI.ev x
      rw [hx] at hv
      rcases cond_some h with ⟨rfl, h⟩ | ⟨rfl, h⟩
      · exact wp_cond_true (bool_inv hv) (evC_sound hF hib hdr hm a i (s := s.know x true) (by rw [know_heap]; exact hI.know hx) hu h)
      · exact wp_cond_false (bool_inv hv) (evC_sound hF hib hdr hm c i (s := s.know x false) (by rw [know_heap]; exact hI.know hx) hu h)
    · cases h
  | .block id c, i, s, k, G, tv, w, hI, hu, h => by
    simp only [evC] at h
    refine wp_block (wp_mono (evC_sound hF hib hdr hm c id hI hu h) fun e a' w' ⟨e', s', G', tv', he, hk, ha, hI', hu'⟩ => ?_)
    subst ha he
    cases e' with
    | normal => exact ⟨.normal, s', G', tv', rfl, hk, rfl, hI', hu'⟩
    | ret => exact ⟨.ret, s', G', tv', rfl, hk, rfl, hI', hu'⟩
    | exit j =>
      simp only [blockK] at hk
      simp only [Ex.out, Exit.inBlock]
      rcases cond_some hk with ⟨hj, hk⟩ | ⟨hj, hk⟩
      · simp only [Nat.beq_eq] at hj
        rw [if_pos hj]
        exact ⟨.normal, s', G', tv', rfl, hk, rfl, hI', hu'⟩
      · rw [if_neg (fun e => by rw [e] at hj; simp at hj)]
        exact ⟨.exit j, s', G', tv', rfl, hk, rfl, hI', hu'⟩
  | .loop c, i, s, k, G, tv, w, hI, hu, h => by
    simp only [evC] at h
    obtain ⟨G1, hI1, hu1⟩ := atHead_sound (live := E.live i) hI hu hm
    refine wp_loop_ghost (fun n a w => ∃ s G tv, evL (evC E i c) (atHead E.m (E.live i)) n s k = some r ∧ a = ⟨tv.toArray, []⟩ ∧ InvG w0 M Z0 s.heap.length G s tv w ∧ UpW G0 G) E.n ⟨_, G1, tv, h, rfl, hI1, hu1⟩ ?_
    intro n a w ⟨s, G, tv, h, ha, hI, hu⟩
    subst ha
    cases n with
    | zero => cases h
    | succ n =>
      simp only [evL] at h
      refine wp_mono (evC_sound hF hib hdr hm c i hI hu h) fun e a' w' ⟨e', s', G', tv', he, hk, ha, hI', hu'⟩ => ?_
      subst ha he
      cases e' with
      | normal =>
        obtain ⟨G2, hI2, hu2⟩ := atHead_sound (live := E.live i) hI' hu' hm
        exact ⟨n, Nat.lt_succ_self n, _, G2, tv', hk, rfl, hI2, hu2⟩
      | exit j => exact ⟨.exit j, s', G', tv', rfl, hk, rfl, hI', hu'⟩
      | ret => exact ⟨.ret, s', G', tv', rfl, hk, rfl, hI', hu'⟩
  | .exit id, i, s, k, G, tv, w, hI, hu, h => wp_exit ⟨.exit id, s, G, tv, rfl, h, rfl, hI, hu⟩
  | .ret, i, s, k, G, tv, w, hI, hu, h => wp_ret ⟨.ret, s, G, tv, rfl, h, rfl, hI, hu⟩
  | .rangeFunc _ _ _ _, i, s, k, G, tv, w, hI, hu, h => by simp [evC] at h
  | .scope _, i, s, k, G, tv, w, hI, hu, h => by simp [evC] at h
  | .label _, i, s, k, G, tv, w, hI, hu, h => by simp [evC] at h
  | .goto _, i, s, k, G, tv, w, hI, hu, h => by simp [evC] at h
  | .refuse _, i, s, k, G, tv, w, hI, hu, h => by simp [evC] at h
/-- What is said of functions that are taken as known. -/
def PrimsOK (P : Program) (S : Say) : Prop := ∀ f g args out, S.prim f = some g → g args = some out →
  ∀ w0 M Z0 G vals w, InvG w0 M Z0 0 G ⟨args.map .v, []⟩ vals w →
    Calls P f vals.toArray w fun e w' => ∃ xs G', e = .returned (if h : xs.toArray.size = 1 then xs.toArray[0] else .tuple xs.toArray) ∧ InvG w0 M Z0 out.2.length G' ⟨out.1.map .v, out.2⟩ xs w' ∧ UpW G G'
theorem evF_sound {S : Say} (hp : PrimsOK P S) (hib : ∀ f, S.D.ib f = true → extIB P f) (hdr : ∀ F, CallsOK P F → DrawOK P F S.D) : ∀ n, CallsOK P (evF P S n)
  | 0 => fun f fn args h out _ _ ho => by cases ho
  | n + 1 => by
    intro f fn args h out hfn hb ho w0 M Z0 G vals w hI
    have hF := evF_sound hp hib hdr n
    unfold evF at ho
    split at ho
    · rename_i g hg
      split at ho
      · exact hp f g args out hg ho w0 M Z0 G vals w hI
      · cases ho
    · rw [hfn] at ho
      simp only at ho
      split at ho
      · rename_i c hc
        have hlen : args.length = vals.length := by have := hI.st.per.1.1; simpa using this
        refine calls_of_wp hfn hc ?_
        have hI2 : InvG w0 M Z0 h.length G ⟨args.map .v ++ List.replicate (fn.ntmps - args.length) anyV, h⟩ (vals ++ List.replicate (fn.ntmps - args.length) undef) w :=
          ⟨hI.st.weak (relF_stable _ _ _) fun hh => ⟨All2.append hh.1 (All2.replicate (any_rel undef) _), hh.2⟩, hI.fresh, hI.mz⟩
        have hwp := evC_sound (E := ⟨P, evF P S n, S.D, n, h.length, S.live f⟩) (G0 := G) hF hib (hdr _ hF) hI.len.symm c 0 hI2 (UpW.refl G) ho
        have harr : vals.toArray ++ Array.replicate (fn.ntmps - vals.toArray.size) undef = (vals ++ List.replicate (fn.ntmps - args.length) undef).toArray := by
          rw [hlen]; simp
        rw [harr]
        refine wp_mono hwp fun e a' w' ⟨e', s', G', tv', he, hk, ha, hI', hu'⟩ => ?_
        subst ha he
        have fin : finish P (S.D.own f) fn h.length s' = some out → ∃ v, (results fn tv'.toArray).run P w' = .ok v w' ∧ ∃ xs G'', (.returned v : Ending) = .returned (if h : xs.toArray.size = 1 then xs.toArray[0] else .tuple xs.toArray) ∧ InvG w0 M Z0 out.2.length G'' ⟨out.1.map .v, out.2⟩ xs w' ∧ UpW G G'' := by
          intro hk
          obtain ⟨xs, G'', h1, h2, h3⟩ := finish_sound hI' hu' hI.len.symm hk
          exact ⟨_, h1, xs, G'', rfl, h2, h3⟩
        cases e' with
        | normal => exact ⟨rfl, fin hk⟩
        | ret => exact ⟨rfl, fin hk⟩
        | exit j => cases hk
      · cases ho
end
end Go.Ab
