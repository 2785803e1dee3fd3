/- FnNamedWide: for every code, the law of names answers true. No condition. -/
import Derived.Test.YtnogehmgpfpjmaaGreatDoorJ01
import Derived.Test.YtnogehmgpfpjmaaGreatDoorJ02
import Derived.Test.YtnogehmgpfpjmaaGreatDoorJ03
import Derived.Test.YtnogehmgpfpjmaaGreatDoorJ04
import Derived.Test.YtnogehmgpfpjmaaGreatDoorJ05
import Derived.Test.YtnogehmgpfpjmaaGreatDoorJ06
import Derived.WalkKit
import Derived.ProofKit
import Derived.OpenShut
import Derived.ShutString
import Derived.ChangeOld
import Derived.Below
set_option linter.unusedVariables false
set_option linter.unusedSimpArgs false
section
namespace Go.Proofs.YtnogehmgpfpjmaaGreatDoor
open Go Go.Ab Go.Dk
theorem E_laws_FnNamedWide (n : Nat) (v0 : List UInt8) : FF (n + 1) 8 [.one (.fr (.bs v0))] [] =
 (cond (decide (1048576 < (v0.length : Int)))
 (some ([.one (.bool true)], []))
 ((FF n 22 [.one (.fr (.bs v0))] []).bind fun x0 =>
 (rTerm x0.1 fun x1 x2 =>
 (rStr x2 fun x3 x4 =>
 (nilV x4 (nilO x0.2
 ((FF n 16 [.agg [.int .i64 x1.k, .int .i64 x1.n, .fr (.ts x1.kids)], .one (.str x3)] []).bind fun x5 =>
 (rStr x5.1 fun x6 x7 =>
 (nilV x7 (nilO x5.2
 ((FF n 23 [.agg [.int .i64 x1.k, .int .i64 x1.n, .fr (.ts x1.kids)], .one (.str x3)] []).bind fun x8 =>
 (rStr x8.1 fun x9 x10 =>
 (nilV x10 (nilO x8.2
 (cond (!(x6.toList == x9.toList))
 ((FF n 23 [.agg [.int .i64 x1.k, .int .i64 x1.n, .fr (.ts x1.kids)], .one (.str x3)] []).bind fun x11 =>
 (rStr x11.1 fun x12 x13 =>
 (nilV x13 (nilO x11.2
 (some ([.one (.bool (x6.toList == x12.toList))], []))))))
 (cond (x6.toList == (bytesOf []).toList)
 ((FF n 23 [.agg [.int .i64 x1.k, .int .i64 x1.n, .fr (.ts x1.kids)], .one (.str x3)] []).bind fun x11 =>
 (rStr x11.1 fun x12 x13 =>
 (nilV x13 (nilO x11.2
 (some ([.one (.bool (x6.toList == x12.toList))], []))))))
 ((FF n 18 [.agg [.int .i64 x1.k, .int .i64 x1.n, .fr (.ts x1.kids)]] []).bind fun x11 =>
 (rInt .i64 x11.1 fun x12 x13 =>
 (nilV x13 (nilO x11.2
 (cond (decide (0 < x12))
 ((FF n 23 [.agg [.int .i64 x1.k, .int .i64 x1.n, .fr (.ts x1.kids)], .one (.str x3)] []).bind fun x14 =>
 (rStr x14.1 fun x15 x16 =>
 (nilV x16 (nilO x14.2
 (some ([.one (.bool (x6.toList == x15.toList))], []))))))
 ((FF n 16 [.agg [.int .i64 x1.k, .int .i64 x1.n, .fr (.ts x1.kids)], .one (.str (bytesOf []))] []).bind fun x14 =>
 (rStr x14.1 fun x15 x16 =>
 (nilV x16 (nilO x14.2
 ((FF n 10 [.one (.str x15), .one (.str (bytesOf []))] []).bind fun x17 =>
 (rTerm x17.1 fun x18 x19 =>
 (rBool x19 fun x20 x21 =>
 (nilV x21 (nilO x17.2
 (cond (!(x15.toList == (bytesOf []).toList))
 (cond x20
 ((FF n 15 [.agg [.int .i64 x18.k, .int .i64 x18.n, .fr (.ts x18.kids)], .agg [.int .i64 x1.k, .int .i64 x1.n, .fr (.ts x1.kids)]] []).bind fun x22 =>
 (rBool x22.1 fun x23 x24 =>
 (nilV x24 (nilO x22.2
 (some ([.one (.bool x23)], []))))))
 (some ([.one (.bool false)], [])))
 (some ([.one (.bool false)], []))))))))))))))))))))))))))))))))) := by kernel_rfl
end Go.Proofs.YtnogehmgpfpjmaaGreatDoor
end
section
namespace Go.Proofs.YtnogehmgpfpjmaaGreatDoor
open Go.ChangeShapes Go.WideShapes Go.ChangeAt Go.RowKit
open Go.ChangeMaps (open_string shut_string)
open Go.Ab Go.Dk
theorem e_FnNamedWide (l : List UInt8) : Ev 8 [.one (.fr (.bs l))] [] ([.one (.bool true)], []) := by
 refine law_of (C := 5000301) fun n hn => ?_
 refine tot_step (C := 5000300) hn fun n hn _ => ?_
 rw [E_laws_FnNamedWide]
 refine tot_cond (fun _ => ⟨_, rfl, rfl⟩) (fun _ => ?_)
 refine tot_call (t_DrawShowNamed (by omega) l) ?_
 rintro _ ⟨t, names, rfl, hz, hm⟩
 obtain ⟨names, rfl⟩ := as_list names
 rw [by_size] at hm
 simp only [evt]
 have h1 := f_ShowNamedI (n := n) (t := t) (names := names) (by omega) (by omega) (by omega)
 have h2 := f_ShowNamedS (n := n) (t := t) (names := names) (by omega) (by omega) (by omega)
 simp only [sr] at h1 h2
 rw [h1]
 simp only [evt]
 rw [h2]
 simp only [evt, beq_self_eq_true]
 rw [by_toList, by_toList]
 refine tot_cond (fun _ => ⟨_, rfl, rfl⟩) (fun hq => ?_)
 have hne : shX t names ≠ [] := fun h => by rw [h] at hq; cases hq
 obtain ⟨h4, hv, hf, hnv, hmb⟩ := sh_ps hne
 rw [f_MaxFreeI (by omega) hv]
 simp only [evt]
 refine tot_cond (fun _ => ⟨_, rfl, rfl⟩) (fun hq2 => ?_)
 have hmf : mfN t = 0 := by have := of_decide_eq_false hq2; omega
 have e0 : shX t [] = shN [] t := by
  unfold shX
  rw [if_pos ⟨hv, by decide +kernel, by omega, by simp; omega⟩]; rfl
 have hne0 : shX t [] ≠ [] := by rw [e0]; exact shn_ne t []
 have h5 := f_ShowNamedI (n := n) (t := t) (names := []) (by omega) (by omega) (by simp)
 have h6 := f_ParseNamedI (n := n) (s := shX t []) (names := []) (by omega) (by have := shX_len t []; omega) (by simp)
 rw [(sh_ps hne0).1] at h6
 simp only [sr] at h5 h6
 rw [h5]
 simp only [evt]
 rw [h6]
 simp only [evt]
 rw [f_TermSame t (by omega) (by omega), (T.beq_iff t t).2 rfl]
 simp only [evt]
 rw [by_toList, ne_nil, decide_eq_false hne0]
 exact ⟨_, rfl, rfl⟩
set_option maxRecDepth 100000 in
theorem lifted_FnNamedWide (os : Os) (started : os.Started) (H : Type) (enc : TypeId × Value → H) :
   ReturnsInHanded {} Tryz.checked os 8 .any (fun w args => (Rows.fnNamedWideSpec.pre enc Tryz.prog Tryz.f8 [] false w args ∧ laidMetH Tryz.prog Rows.fnNamedWideRow.laid w) ∧ sizedMet enc Tryz.prog Tryz.f8 (OpenSpec.ofChange Rows.fnNamedWideSpec) false w args) (Rows.fnNamedWideSpec.post enc Tryz.prog Tryz.f8 false true false false) := by
 refine change_and_shaped (C := Tryz.checked) (X := fun w _ => laidMetH Tryz.prog Rows.fnNamedWideRow.laid w) (fun _ _ _ hh h => h.of_heap hh) own started (by kernel_rfl) Tryz.func8
  (ChangeSpec.witness_shaped (enc := enc) (C := Tryz.checked) (os := os) (X := fun w _ => laidMetH Tryz.prog Rows.fnNamedWideRow.laid w) false (World.laidAll Tryz.prog os Rows.fnNamedWideRow.laid) #[.slice none 0 0] 8 (World.laidAll_os _ _ _)
   (World.shaped_of_ZipB (by kernel_rfl) (by kernel_rfl)) (by kernel_rfl) (by kernel_rfl) (by kernel_rfl)
   (by rw [MakeChecks.laidMetH_plain _ _ _ (by kernel_rfl)]; exact laidMet_laidAll _ (by kernel_rfl) (by kernel_rfl))) ?_
 intro W base args ds gs before hval0 hW hL hsh
 have hL2 : laidMet Tryz.prog Rows.fnNamedWideRow.laid W := by rw [MakeChecks.laidMetH_plain _ _ _ (by kernel_rfl)] at hL; exact hL
 have hgl : Go.Ab.GL noneZ W := gl_of hL2 hsh (by simp [Rows.fnNamedWideRow]) (by simp [Rows.fnNamedWideRow]) (by simp [Rows.fnNamedWideRow])
 have hval : ∀ (j : Nat) t v, Tryz.f8.params[j]? = some t → args[j]? = some v → Value.okWide Tryz.prog W .any base t v := hval0
 have hW' := hW
 obtain ⟨p, q, hA0, hV, rfl, hfz, hnd⟩ := hW
 have hA : DataW.TrodAll enc Tryz.prog W 0 (fun _ => true) true Tryz.f8.params.toList args.toList ds p := hA0
 rw [Tryz.params8] at hA hval
 obtain ⟨v0, vs0, d0, ds0, p0, q0, hargs, rfl, rfl, h0, r0⟩ := trodAll_cons hA
 obtain ⟨rfl, rfl, rfl⟩ := trodAll_nil r0
 obtain rfl : args = #[v0] := by cases args; simp_all
 obtain ⟨rfl, rfl⟩ := trodVars_none hV
 have k0 := h0
 have lt0 : ∀ x ∈ p0, x.block < W.heap.size := by obtain ⟨m, hm⟩ := k0; exact DataW.trod_lt m _ _ _ hm
 obtain ⟨l0, w0⟩ := open_bytes Tryz.underlying30 Tryz.underlying5 (by kernel_rfl) (hval 0 30 v0 rfl rfl) h0
 clear hA0 hval0
 refine (ev_law Tryz.func8 (by kernel_rfl) (args := [.one (.fr (.bs l0))]) (All2.cons (bytes_arg w0) (All2.nil)) hgl (e_FnNamedWide l0)).mono fun e W' ⟨he, hg⟩ => ?_
 have bel := hg.below
 subst he
 exact ⟨_, rfl, _, _, _, [], _, [], hW', trodAll_mk1 (shut_bool Tryz.underlying4 _), (trodAll_cons_mk (Below.trod laidOut (by kernel_rfl) (of_decide_eq_true (by kernel_rfl)) k0 bel lt0) trodAll_mk0), rfl, bel.frame _, fun h => by cases h⟩
theorem FnNamedWide_holds : Rows.FnNamedWideSaid :=
 OpenClaim.holds_of_wide 8 Tryz.f8 rfl rfl rfl rfl rfl rfl rfl ⟨rfl, rfl, rfl, rfl, rfl⟩ rfl rfl rfl rfl rfl (by kernel_rfl) Tryz.func8 (by kernel_rfl)
  (of_decide_eq_true (by kernel_rfl)) (by unfold Func.isWrapper; first | (rw [if_pos (by decide +kernel)]; kernel_rfl) | (rw [if_neg (by decide +kernel)]; exact ⟨rfl, rfl⟩))
  (fun os started H enc _ => lifted_FnNamedWide os started H enc)
theorem FnNamedWide_card : Rows.FnNamedWideCardSaid :=
 Claim7.holds_tied_plain_at .later [] Rows.fnNamedWideCard.laidKinds true Rows.fnNamedWideCard.stood.harness Rows.fnNamedWideCard.stood.looks FnNamedWide_holds (fun _ h => by cases h) (by kernel_rfl) (fun _ h => by cases h) fnNamedWide_row_tie rfl ⟨rfl, rfl⟩ (by kernel_rfl) rfl
  (fun f fn hf hfn => by
   obtain rfl : f = 8 := Option.some.inj ((show Tryz.prog.funcNamed "loop.example/depkernel/laws.FnNamedWide" = some 8 by kernel_rfl).symm.trans hf) |>.symm
   obtain rfl : fn = Tryz.f8 := (Option.some.inj (Tryz.func8.symm.trans hfn)).symm
   exact ⟨by kernel_rfl, fun j t ht => by
    rw [Tryz.params8] at ht
    have hm : t ∈ [30] := by simpa using Array.mem_of_getElem? ht
    have hall : ([30].all fun u => !Tryz.prog.wantsStandIn u) = true := by kernel_rfl
    exact (show Tryz.prog.wantsStandIn t = false by simpa using List.all_eq_true.1 hall t hm)⟩)
  (by kernel_rfl)
#print axioms FnNamedWide_card
end Go.Proofs.YtnogehmgpfpjmaaGreatDoor
end
