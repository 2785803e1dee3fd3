/- FnShowNamed: for every code, the law of names answers true. No condition. -/
import Derived.Test.YtnogehmgpfpjmaaGreatDoorJ01
import Derived.Test.YtnogehmgpfpjmaaGreatDoorJ02
import Derived.Test.YtnogehmgpfpjmaaGreatDoorJ03
import Derived.Test.YtnogehmgpfpjmaaGreatDoorJ04
import Derived.Test.YtnogehmgpfpjmaaGreatDoorJ05
import Derived.Test.YtnogehmgpfpjmaaGreatDoorJ06
import Derived.WalkKit
import Derived.ProofKit
import Derived.OpenShut
import Derived.ShutString
import Derived.ChangeOld
import Derived.Below
set_option linter.unusedVariables false
set_option linter.unusedSimpArgs false
section
namespace Go.Proofs.YtnogehmgpfpjmaaGreatDoor
open Go Go.Ab Go.Dk
theorem E_laws_FnShowNamed (n : Nat) (v0 : List UInt8) : FF (n + 1) 7 [.one (.fr (.bs v0))] [] =
 (cond (decide (1048576 < (v0.length : Int)))
 (some ([.one (.bool true)], []))
 ((FF n 22 [.one (.fr (.bs v0))] []).bind fun x0 =>
 (rTerm x0.1 fun x1 x2 =>
 (rStr x2 fun x3 x4 =>
 (nilV x4 (nilO x0.2
 ((FF n 16 [.agg [.int .i64 x1.k, .int .i64 x1.n, .fr (.ts x1.kids)], .one (.str x3)] []).bind fun x5 =>
 (rStr x5.1 fun x6 x7 =>
 (nilV x7 (nilO x5.2
 ((FF n 23 [.agg [.int .i64 x1.k, .int .i64 x1.n, .fr (.ts x1.kids)], .one (.str x3)] []).bind fun x8 =>
 (rStr x8.1 fun x9 x10 =>
 (nilV x10 (nilO x8.2
 (cond (!(x6.toList == x9.toList))
 ((FF n 23 [.agg [.int .i64 x1.k, .int .i64 x1.n, .fr (.ts x1.kids)], .one (.str x3)] []).bind fun x11 =>
 (rStr x11.1 fun x12 x13 =>
 (nilV x13 (nilO x11.2
 (some ([.one (.bool (x6.toList == x12.toList))], []))))))
 (cond (x6.toList == (bytesOf []).toList)
 ((FF n 23 [.agg [.int .i64 x1.k, .int .i64 x1.n, .fr (.ts x1.kids)], .one (.str x3)] []).bind fun x11 =>
 (rStr x11.1 fun x12 x13 =>
 (nilV x13 (nilO x11.2
 (some ([.one (.bool (x6.toList == x12.toList))], []))))))
 ((FF n 10 [.one (.str x6), .one (.str x3)] []).bind fun x11 =>
 (rTerm x11.1 fun x12 x13 =>
 (rBool x13 fun x14 x15 =>
 (nilV x15 (nilO x11.2
 (cond x14
 ((FF n 15 [.agg [.int .i64 x12.k, .int .i64 x12.n, .fr (.ts x12.kids)], .agg [.int .i64 x1.k, .int .i64 x1.n, .fr (.ts x1.kids)]] []).bind fun x16 =>
 (rBool x16.1 fun x17 x18 =>
 (nilV x18 (nilO x16.2
 (some ([.one (.bool x17)], []))))))
 (some ([.one (.bool false)], [])))))))))))))))))))))))) := by kernel_rfl
end Go.Proofs.YtnogehmgpfpjmaaGreatDoor
end
section
namespace Go.Proofs.YtnogehmgpfpjmaaGreatDoor
open Go.ChangeShapes Go.WideShapes Go.ChangeAt Go.RowKit
open Go.ChangeMaps (open_string shut_string)
open Go.Ab Go.Dk
theorem e_FnShowNamed (l : List UInt8) : Ev 7 [.one (.fr (.bs l))] [] ([.one (.bool true)], []) := by
 refine law_of (C := 5000301) fun n hn => ?_
 refine tot_step (C := 5000300) hn fun n hn _ => ?_
 rw [E_laws_FnShowNamed]
 refine tot_cond (fun _ => ⟨_, rfl, rfl⟩) (fun _ => ?_)
 refine tot_call (t_DrawShowNamed (by omega) l) ?_
 rintro _ ⟨t, names, rfl, hz, hm⟩
 obtain ⟨names, rfl⟩ := as_list names
 rw [by_size] at hm
 simp only [evt]
 have h1 := f_ShowNamedI (n := n) (t := t) (names := names) (by omega) (by omega) (by omega)
 have h2 := f_ShowNamedS (n := n) (t := t) (names := names) (by omega) (by omega) (by omega)
 simp only [sr] at h1 h2
 rw [h1]
 simp only [evt]
 rw [h2]
 simp only [evt, beq_self_eq_true]
 rw [by_toList, by_toList]
 refine tot_cond (fun _ => ⟨_, rfl, rfl⟩) (fun hq => ?_)
 have hne : shX t names ≠ [] := fun h => by rw [h] at hq; cases hq
 have h4 := (sh_ps hne).1
 have h3 := f_ParseNamedI (n := n) (s := shX t names) (names := names) (by omega) (by have := shX_len t names; omega) (by omega)
 rw [h4] at h3
 simp only [sr] at h3
 rw [h3]
 simp only [evt]
 rw [f_TermSame t (by omega) (by omega), (T.beq_iff t t).2 rfl]
 simp only [evt]
 exact ⟨_, rfl, rfl⟩
set_option maxRecDepth 100000 in
theorem lifted_FnShowNamed (os : Os) (started : os.Started) (H : Type) (enc : TypeId × Value → H) :
   ReturnsInHanded {} Tryz.checked os 7 .any (fun w args => (Rows.fnShowNamedSpec.pre enc Tryz.prog Tryz.f7 [] false w args ∧ laidMetH Tryz.prog Rows.fnShowNamedRow.laid w) ∧ sizedMet enc Tryz.prog Tryz.f7 (OpenSpec.ofChange Rows.fnShowNamedSpec) false w args) (Rows.fnShowNamedSpec.post enc Tryz.prog Tryz.f7 false true false false) := by
 refine change_and_shaped (C := Tryz.checked) (X := fun w _ => laidMetH Tryz.prog Rows.fnShowNamedRow.laid w) (fun _ _ _ hh h => h.of_heap hh) own started (by kernel_rfl) Tryz.func7
  (ChangeSpec.witness_shaped (enc := enc) (C := Tryz.checked) (os := os) (X := fun w _ => laidMetH Tryz.prog Rows.fnShowNamedRow.laid w) false (World.laidAll Tryz.prog os Rows.fnShowNamedRow.laid) #[.slice none 0 0] 8 (World.laidAll_os _ _ _)
   (World.shaped_of_ZipB (by kernel_rfl) (by kernel_rfl)) (by kernel_rfl) (by kernel_rfl) (by kernel_rfl)
   (by rw [MakeChecks.laidMetH_plain _ _ _ (by kernel_rfl)]; exact laidMet_laidAll _ (by kernel_rfl) (by kernel_rfl))) ?_
 intro W base args ds gs before hval0 hW hL hsh
 have hL2 : laidMet Tryz.prog Rows.fnShowNamedRow.laid W := by rw [MakeChecks.laidMetH_plain _ _ _ (by kernel_rfl)] at hL; exact hL
 have hgl : Go.Ab.GL noneZ W := gl_of hL2 hsh (by simp [Rows.fnShowNamedRow]) (by simp [Rows.fnShowNamedRow]) (by simp [Rows.fnShowNamedRow])
 have hval : ∀ (j : Nat) t v, Tryz.f7.params[j]? = some t → args[j]? = some v → Value.okWide Tryz.prog W .any base t v := hval0
 have hW' := hW
 obtain ⟨p, q, hA0, hV, rfl, hfz, hnd⟩ := hW
 have hA : DataW.TrodAll enc Tryz.prog W 0 (fun _ => true) true Tryz.f7.params.toList args.toList ds p := hA0
 rw [Tryz.params7] at hA hval
 obtain ⟨v0, vs0, d0, ds0, p0, q0, hargs, rfl, rfl, h0, r0⟩ := trodAll_cons hA
 obtain ⟨rfl, rfl, rfl⟩ := trodAll_nil r0
 obtain rfl : args = #[v0] := by cases args; simp_all
 obtain ⟨rfl, rfl⟩ := trodVars_none hV
 have k0 := h0
 have lt0 : ∀ x ∈ p0, x.block < W.heap.size := by obtain ⟨m, hm⟩ := k0; exact DataW.trod_lt m _ _ _ hm
 obtain ⟨l0, w0⟩ := open_bytes Tryz.underlying30 Tryz.underlying5 (by kernel_rfl) (hval 0 30 v0 rfl rfl) h0
 clear hA0 hval0
 refine (ev_law Tryz.func7 (by kernel_rfl) (args := [.one (.fr (.bs l0))]) (All2.cons (bytes_arg w0) (All2.nil)) hgl (e_FnShowNamed l0)).mono fun e W' ⟨he, hg⟩ => ?_
 have bel := hg.below
 subst he
 exact ⟨_, rfl, _, _, _, [], _, [], hW', trodAll_mk1 (shut_bool Tryz.underlying4 _), (trodAll_cons_mk (Below.trod laidOut (by kernel_rfl) (of_decide_eq_true (by kernel_rfl)) k0 bel lt0) trodAll_mk0), rfl, bel.frame _, fun h => by cases h⟩
theorem FnShowNamed_holds : Rows.FnShowNamedSaid :=
 OpenClaim.holds_of_wide 7 Tryz.f7 rfl rfl rfl rfl rfl rfl rfl ⟨rfl, rfl, rfl, rfl, rfl⟩ rfl rfl rfl rfl rfl (by kernel_rfl) Tryz.func7 (by kernel_rfl)
  (of_decide_eq_true (by kernel_rfl)) (by unfold Func.isWrapper; first | (rw [if_pos (by decide +kernel)]; kernel_rfl) | (rw [if_neg (by decide +kernel)]; exact ⟨rfl, rfl⟩))
  (fun os started H enc _ => lifted_FnShowNamed os started H enc)
theorem FnShowNamed_card : Rows.FnShowNamedCardSaid :=
 Claim7.holds_tied_plain_at .later [] Rows.fnShowNamedCard.laidKinds true Rows.fnShowNamedCard.stood.harness Rows.fnShowNamedCard.stood.looks FnShowNamed_holds (fun _ h => by cases h) (by kernel_rfl) (fun _ h => by cases h) fnShowNamed_row_tie rfl ⟨rfl, rfl⟩ (by kernel_rfl) rfl
  (fun f fn hf hfn => by
   obtain rfl : f = 7 := Option.some.inj ((show Tryz.prog.funcNamed "loop.example/depkernel/laws.FnShowNamed" = some 7 by kernel_rfl).symm.trans hf) |>.symm
   obtain rfl : fn = Tryz.f7 := (Option.some.inj (Tryz.func7.symm.trans hfn)).symm
   exact ⟨by kernel_rfl, fun j t ht => by
    rw [Tryz.params7] at ht
    have hm : t ∈ [30] := by simpa using Array.mem_of_getElem? ht
    have hall : ([30].all fun u => !Tryz.prog.wantsStandIn u) = true := by kernel_rfl
    exact (show Tryz.prog.wantsStandIn t = false by simpa using List.all_eq_true.1 hall t hm)⟩)
  (by kernel_rfl)
#print axioms FnShowNamed_card
end Go.Proofs.YtnogehmgpfpjmaaGreatDoor
end
