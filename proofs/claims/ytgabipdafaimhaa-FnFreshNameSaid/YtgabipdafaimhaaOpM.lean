/- The abstract run is sound: whole functions. No program in sight. -/
import Derived.Test.YtgabipdafaimhaaOpL
set_option linter.unusedVariables false
set_option linter.unusedSimpArgs false
namespace Go.Ab
open Go Go.Dk

section
variable {P : Program} {w0 w w' : World} {M Z0 Z : Zone} {b : Nat} {G G0 : List GO} {s : AS} {tv : List Value} {r : List V1 × List AObj}
def Ex.out : Ex → Exit | .normal => .normal | .exit i => .exit i | .ret => .ret
/-- Regions that draw their order. -/
def DrawOK (P : Program) (F : Callee) (D : Dec) : Prop := ∀ (w0 : World) (M Z0 : Zone) (G : List GO) (s : AS) (tv : List Value) (w : World) (ops : List Oper) (id : Nat) (k : AS → OR) (r : List V1 × List AObj) (Q : Exit → Act → World → Prop),
  InvG w0 M Z0 s.heap.length G s tv w → drawB ops (ancL ops []) ops 0 = true → evDr P F D ops (ancL ops []) ops 0 [] s.heap.length (grow (room P D ops) s) k = some r →
    (∀ s' G' tv' w', k s' = some r → InvG w0 M Z0 s'.heap.length G' s' tv' w' → UpW G G' → Q .normal ⟨tv'.toArray, []⟩ w') → (Code.region id ops.toArray true).wp P Q ⟨tv.toArray, []⟩ w
/-- Behind some code. -/
def CodeTo (w0 : World) (M Z0 : Zone) (G0 : List GO) (k : Kont) (r : List V1 × List AObj) (e : Exit) (a' : Act) (w' : World) : Prop :=
  ∃ e' s' G' tv', e = e'.out ∧ k e' s' = some r ∧ a' = ⟨tv'.toArray, []⟩ ∧ InvG w0 M Z0 s'.heap.length G' s' tv' w' ∧ UpW G0 G'
theorem evC_sound {E : Env} (hF : CallsOK E.P E.F) (hib : ∀ f, E.D.ib f = true → extIB E.P f) (hdr : DrawOK E.P E.F E.D) (hm : G0.length = E.m) : ∀ (c : Code) (i : Nat) {s : AS} {k : Kont} {G : List GO} {tv : List Value} {w : World},
    InvG w0 M Z0 s.heap.length G s tv w → UpW G0 G → evC E i c s k = some r → c.wp E.P (CodeTo w0 M Z0 G0 k r) ⟨tv.toArray, []⟩ w
  | .skip, i, s, k, G, tv, w, hI, hu, h => wp_skip ⟨.normal, s, G, tv, rfl, h, rfl, hI, hu⟩
  | .region id ops draw, i, s, k, G, tv, w, hI, hu, h => by
    simp only [evC] at h
    rcases cond_some h with ⟨rfl, h⟩ | ⟨rfl, h⟩
    · obtain ⟨hd, h⟩ := cond_left h
      have := hdr w0 M Z0 G s tv w ops.toList id _ r (CodeTo w0 M Z0 G0 k r) hI hd h (fun s' G' tv' w' hk hI' hu' => ⟨.normal, s', G', tv', rfl, hk, rfl, hI', hu.trans hu'⟩)
      simpa using this
    · have hl := evOps_sound (Q := CodeTo w0 M Z0 G0 k r) hF hib (hI.grow (room E.P E.D ops.toList)) (by simp [grow]) h (fun s' G' tv' w' hk hI' hu' => ⟨.normal, s', G', tv', rfl, hk, rfl, hI', hu.trans ((Up.append _ _).trans hu').weak⟩)
      have := wp_region_lit (id := id) hl
      simpa using this
  | .seq a c, i, s, k, G, tv, w, hI, hu, h => by
    simp only [evC] at h
    refine wp_seq (wp_mono (evC_sound hF hib hdr hm a i hI hu h) fun e a' w' ⟨e', s', G', tv', he, hk, ha, hI', hu'⟩ => ?_)
    subst ha he
    cases e' with
    | normal => exact evC_sound hF hib hdr hm c i hI' hu' hk
    | exit j => exact ⟨.exit j, s', G', tv', rfl, hk, rfl, hI', hu'⟩
    | ret => exact ⟨.ret, s', G', tv', rfl, hk, rfl, hI', hu'⟩
  | .cond x a c, i, s, k, G, tv, w, hI, hu, h => by
    simp only [evC] at h
    split at h
    · rename_i t hx
      have hv := hI.ev x
      rw [hx] at hv
      rcases cond_some h with ⟨rfl, h⟩ | ⟨rfl, h⟩
      · exact wp_cond_true (bool_inv hv) (evC_sound hF hib hdr hm a i hI hu h)
      · exact wp_cond_false (bool_inv hv) (evC_sound hF hib hdr hm c i hI hu h)
    · cases h
  | .block id c, i, s, k, G, tv, w, hI, hu, h => by
    simp only [evC] at h
    refine wp_block (wp_mono (evC_sound hF hib hdr hm c id hI hu h) fun e a' w' ⟨e', s', G', tv', he, hk, ha, hI', hu'⟩ => ?_)
    subst ha he
    cases e' with
    | normal => exact ⟨.normal, s', G', tv', rfl, hk, rfl, hI', hu'⟩
    | ret => exact ⟨.ret, s', G', tv', rfl, hk, rfl, hI', hu'⟩
    | exit j =>
      simp only [blockK] at hk
      simp only [Ex.out, Exit.inBlock]
      rcases cond_some hk with ⟨hj, hk⟩ | ⟨hj, hk⟩
      · simp only [Nat.beq_eq] at hj
        rw [if_pos hj]
        exact ⟨.normal, s', G', tv', rfl, hk, rfl, hI', hu'⟩
      · rw [if_neg (fun e => by rw [e] at hj; simp at hj)]
        exact ⟨.exit j, s', G', tv', rfl, hk, rfl, hI', hu'⟩
  | .loop c, i, s, k, G, tv, w, hI, hu, h => by
    simp only [evC] at h
    obtain ⟨G1, hI1, hu1⟩ := atHead_sound (live := E.live i) hI hu hm
    refine wp_loop_ghost (fun n a w => ∃ s G tv, evL (evC E i c) (atHead E.m (E.live i)) n s k = some r ∧ a = ⟨tv.toArray, []⟩ ∧ InvG w0 M Z0 s.heap.length G s tv w ∧ UpW G0 G) E.n ⟨_, G1, tv, h, rfl, hI1, hu1⟩ ?_
    intro n a w ⟨s, G, tv, h, ha, hI, hu⟩
    subst ha
    cases n with
    | zero => cases h
    | succ n =>
      simp only [evL] at h
      refine wp_mono (evC_sound hF hib hdr hm c i hI hu h) fun e a' w' ⟨e', s', G', tv', he, hk, ha, hI', hu'⟩ => ?_
      subst ha he
      cases e' with
      | normal =>
        obtain ⟨G2, hI2, hu2⟩ := atHead_sound (live := E.live i) hI' hu' hm
        exact ⟨n, Nat.lt_succ_self n, _, G2, tv', hk, rfl, hI2, hu2⟩
      | exit j => exact ⟨.exit j, s', G', tv', rfl, hk, rfl, hI', hu'⟩
      | ret => exact ⟨.ret, s', G', tv', rfl, hk, rfl, hI', hu'⟩
  | .exit id, i, s, k, G, tv, w, hI, hu, h => wp_exit ⟨.exit id, s, G, tv, rfl, h, rfl, hI, hu⟩
  | .ret, i, s, k, G, tv, w, hI, hu, h => wp_ret ⟨.ret, s, G, tv, rfl, h, rfl, hI, hu⟩
  | .rangeFunc _ _ _ _, i, s, k, G, tv, w, hI, hu, h => by simp [evC] at h
  | .scope _, i, s, k, G, tv, w, hI, hu, h => by simp [evC] at h
  | .label _, i, s, k, G, tv, w, hI, hu, h => by simp [evC] at h
  | .goto _, i, s, k, G, tv, w, hI, hu, h => by simp [evC] at h
  | .refuse _, i, s, k, G, tv, w, hI, hu, h => by simp [evC] at h
/-- What is said of functions that are taken as known. -/
def PrimsOK (P : Program) (S : Say) : Prop := ∀ f g args out, S.prim f = some g → g args = some out →
  ∀ w0 M Z0 G vals w, InvG w0 M Z0 0 G ⟨args.map .v, []⟩ vals w →
    Calls P f vals.toArray w fun e w' => ∃ xs G', e = .returned (if h : xs.toArray.size = 1 then xs.toArray[0] else .tuple xs.toArray) ∧ InvG w0 M Z0 out.2.length G' ⟨out.1.map .v, out.2⟩ xs w' ∧ UpW G G'
theorem evF_sound {S : Say} (hp : PrimsOK P S) (hib : ∀ f, S.D.ib f = true → extIB P f) (hdr : ∀ F, CallsOK P F → DrawOK P F S.D) : ∀ n, CallsOK P (evF P S n)
  | 0 => fun f fn args h out _ _ ho => by cases ho
  | n + 1 => by
    intro f fn args h out hfn hb ho w0 M Z0 G vals w hI
    have hF := evF_sound hp hib hdr n
    unfold evF at ho
    split at ho
    · rename_i g hg
      split at ho
      · exact hp f g args out hg ho w0 M Z0 G vals w hI
      · cases ho
    · rw [hfn] at ho
      simp only at ho
      split at ho
      · rename_i c hc
        have hlen : args.length = vals.length := by have := hI.st.per.1.1; simpa using this
        refine calls_of_wp hfn hc ?_
        have hI2 : InvG w0 M Z0 h.length G ⟨args.map .v ++ List.replicate (fn.ntmps - args.length) anyV, h⟩ (vals ++ List.replicate (fn.ntmps - args.length) undef) w :=
          ⟨hI.st.weak (relF_stable _ _ _) fun hh => ⟨All2.append hh.1 (All2.replicate (any_rel undef) _), hh.2⟩, hI.fresh, hI.mz⟩
        have hwp := evC_sound (E := ⟨P, evF P S n, S.D, n, h.length, S.live f⟩) (G0 := G) hF hib (hdr _ hF) hI.len.symm c 0 hI2 (UpW.refl G) ho
        have harr : vals.toArray ++ Array.replicate (fn.ntmps - vals.toArray.size) undef = (vals ++ List.replicate (fn.ntmps - args.length) undef).toArray := by
          rw [hlen]; simp
        rw [harr]
        refine wp_mono hwp fun e a' w' ⟨e', s', G', tv', he, hk, ha, hI', hu'⟩ => ?_
        subst ha he
        have fin : finish P (S.D.own f) fn h.length s' = some out → ∃ v, (results fn tv'.toArray).run P w' = .ok v w' ∧ ∃ xs G'', (.returned v : Ending) = .returned (if h : xs.toArray.size = 1 then xs.toArray[0] else .tuple xs.toArray) ∧ InvG w0 M Z0 out.2.length G'' ⟨out.1.map .v, out.2⟩ xs w' ∧ UpW G G'' := by
          intro hk
          obtain ⟨xs, G'', h1, h2, h3⟩ := finish_sound hI' hu' hI.len.symm hk
          exact ⟨_, h1, xs, G'', rfl, h2, h3⟩
        cases e' with
        | normal => exact ⟨rfl, fin hk⟩
        | ret => exact ⟨rfl, fin hk⟩
        | exit j => cases hk
      · cases ho
end
end Go.Ab
