/- FnNamedSame: for every code, the law of names answers true. No condition. -/
import Derived.Test.YtnogehmgpfpjmaaGreatDoorJ01
import Derived.Test.YtnogehmgpfpjmaaGreatDoorJ02
import Derived.Test.YtnogehmgpfpjmaaGreatDoorJ03
import Derived.Test.YtnogehmgpfpjmaaGreatDoorJ04
import Derived.Test.YtnogehmgpfpjmaaGreatDoorJ05
import Derived.Test.YtnogehmgpfpjmaaGreatDoorJ06
import Derived.WalkKit
import Derived.ProofKit
import Derived.OpenShut
import Derived.ShutString
import Derived.ChangeOld
import Derived.Below
set_option linter.unusedVariables false
set_option linter.unusedSimpArgs false
section
namespace Go.Proofs.YtnogehmgpfpjmaaGreatDoor
open Go Go.Ab Go.Dk
theorem E_laws_FnNamedSame (n : Nat) (v0 : List UInt8) : FF (n + 1) 5 [.one (.fr (.bs v0))] [] =
 (cond (decide (1048576 < (v0.length : Int)))
 (some ([.one (.bool true)], []))
 ((FF n 20 [.one (.fr (.bs v0))] []).bind fun x0 =>
 (rStr x0.1 fun x1 x2 =>
 (rStr x2 fun x3 x4 =>
 (rStr x4 fun x5 x6 =>
 (nilV x6 (nilO x0.2
 ((FF n 19 [.one (.str x1), .one (.str x3), .one (.str x5)] []).bind fun x7 =>
 (rBool x7.1 fun x8 x9 =>
 (nilV x9 (nilO x7.2
 ((FF n 10 [.one (.str x1), .one (.str x5)] []).bind fun x10 =>
 (rTerm x10.1 fun x11 x12 =>
 (rBool x12 fun x13 x14 =>
 (nilV x14 (nilO x10.2
 ((FF n 21 [.one (.str x1), .one (.str x3), .one (.str x5)] []).bind fun x15 =>
 (rBool x15.1 fun x16 x17 =>
 (nilV x17 (nilO x15.2
 (cond (decide (x8 = x16))
 ((FF n 19 [.one (.str x3), .one (.str x1), .one (.str x5)] []).bind fun x18 =>
 (rBool x18.1 fun x19 x20 =>
 (nilV x20 (nilO x18.2
 (cond (decide (x8 = x19))
 ((FF n 19 [.one (.str x1), .one (.str x1), .one (.str x5)] []).bind fun x21 =>
 (rBool x21.1 fun x22 x23 =>
 (nilV x23 (nilO x21.2
 (some ([.one (.bool (decide (x22 = x13)))], []))))))
 (some ([.one (.bool false)], [])))))))
 (some ([.one (.bool false)], []))))))))))))))))))))))) := by kernel_rfl
end Go.Proofs.YtnogehmgpfpjmaaGreatDoor
end
section
namespace Go.Proofs.YtnogehmgpfpjmaaGreatDoor
open Go.ChangeShapes Go.WideShapes Go.ChangeAt Go.RowKit
open Go.ChangeMaps (open_string shut_string)
open Go.Ab Go.Dk
theorem e_FnNamedSame (l : List UInt8) : Ev 5 [.one (.fr (.bs l))] [] ([.one (.bool true)], []) := by
 refine law_of (C := 5000301) fun n hn => ?_
 refine tot_step (C := 5000300) hn fun n hn _ => ?_
 rw [E_laws_FnNamedSame]
 refine tot_cond (fun _ => ⟨_, rfl, rfl⟩) (fun _ => ?_)
 refine tot_call (t_DrawNamedSame (by omega) l) ?_
 rintro _ ⟨a, b, names, rfl, ha, hb, hm⟩
 obtain ⟨a, rfl⟩ := as_list a
 obtain ⟨b, rfl⟩ := as_list b
 obtain ⟨names, rfl⟩ := as_list names
 rw [by_size] at ha hb hm
 simp only [evt]
 have h1 := f_ParseNamedI (n := n) (s := a) (names := names) (by omega) (by omega) (by omega)
 have h2 := f_NamedSameI (n := n) (a := a) (b := b) (names := names) (by omega) (by omega) (by omega) (by omega)
 have h3 := f_NamedSameS (n := n) (a := a) (b := b) (names := names) (by omega) (by omega) (by omega) (by omega)
 have h4 := f_NamedSameI (n := n) (a := b) (b := a) (names := names) (by omega) (by omega) (by omega) (by omega)
 have h5 := f_NamedSameI (n := n) (a := a) (b := a) (names := names) (by omega) (by omega) (by omega) (by omega)
 simp only [sr] at h1 h2 h3 h4 h5
 rw [h1, h2, h3, h4, h5]
 simp only [evt]
 rw [ns_comm b a, ns_refl]
 simp only [decide_true, cond_true]
 exact ⟨_, rfl, rfl⟩
set_option maxRecDepth 100000 in
theorem lifted_FnNamedSame (os : Os) (started : os.Started) (H : Type) (enc : TypeId × Value → H) :
   ReturnsInHanded {} Tryz.checked os 5 .any (fun w args => (Rows.fnNamedSameSpec.pre enc Tryz.prog Tryz.f5 [] false w args ∧ laidMetH Tryz.prog Rows.fnNamedSameRow.laid w) ∧ sizedMet enc Tryz.prog Tryz.f5 (OpenSpec.ofChange Rows.fnNamedSameSpec) false w args) (Rows.fnNamedSameSpec.post enc Tryz.prog Tryz.f5 false true false false) := by
 refine change_and_shaped (C := Tryz.checked) (X := fun w _ => laidMetH Tryz.prog Rows.fnNamedSameRow.laid w) (fun _ _ _ hh h => h.of_heap hh) own started (by kernel_rfl) Tryz.func5
  (ChangeSpec.witness_shaped (enc := enc) (C := Tryz.checked) (os := os) (X := fun w _ => laidMetH Tryz.prog Rows.fnNamedSameRow.laid w) false (World.laidAll Tryz.prog os Rows.fnNamedSameRow.laid) #[.slice none 0 0] 8 (World.laidAll_os _ _ _)
   (World.shaped_of_ZipB (by kernel_rfl) (by kernel_rfl)) (by kernel_rfl) (by kernel_rfl) (by kernel_rfl)
   (by rw [MakeChecks.laidMetH_plain _ _ _ (by kernel_rfl)]; exact laidMet_laidAll _ (by kernel_rfl) (by kernel_rfl))) ?_
 intro W base args ds gs before hval0 hW hL hsh
 have hL2 : laidMet Tryz.prog Rows.fnNamedSameRow.laid W := by rw [MakeChecks.laidMetH_plain _ _ _ (by kernel_rfl)] at hL; exact hL
 have hgl : Go.Ab.GL noneZ W := gl_of hL2 hsh (by simp [Rows.fnNamedSameRow]) (by simp [Rows.fnNamedSameRow]) (by simp [Rows.fnNamedSameRow])
 have hval : ∀ (j : Nat) t v, Tryz.f5.params[j]? = some t → args[j]? = some v → Value.okWide Tryz.prog W .any base t v := hval0
 have hW' := hW
 obtain ⟨p, q, hA0, hV, rfl, hfz, hnd⟩ := hW
 have hA : DataW.TrodAll enc Tryz.prog W 0 (fun _ => true) true Tryz.f5.params.toList args.toList ds p := hA0
 rw [Tryz.params5] at hA hval
 obtain ⟨v0, vs0, d0, ds0, p0, q0, hargs, rfl, rfl, h0, r0⟩ := trodAll_cons hA
 obtain ⟨rfl, rfl, rfl⟩ := trodAll_nil r0
 obtain rfl : args = #[v0] := by cases args; simp_all
 obtain ⟨rfl, rfl⟩ := trodVars_none hV
 have k0 := h0
 have lt0 : ∀ x ∈ p0, x.block < W.heap.size := by obtain ⟨m, hm⟩ := k0; exact DataW.trod_lt m _ _ _ hm
 obtain ⟨l0, w0⟩ := open_bytes Tryz.underlying30 Tryz.underlying5 (by kernel_rfl) (hval 0 30 v0 rfl rfl) h0
 clear hA0 hval0
 refine (ev_law Tryz.func5 (by kernel_rfl) (args := [.one (.fr (.bs l0))]) (All2.cons (bytes_arg w0) (All2.nil)) hgl (e_FnNamedSame l0)).mono fun e W' ⟨he, hg⟩ => ?_
 have bel := hg.below
 subst he
 exact ⟨_, rfl, _, _, _, [], _, [], hW', trodAll_mk1 (shut_bool Tryz.underlying4 _), (trodAll_cons_mk (Below.trod laidOut (by kernel_rfl) (of_decide_eq_true (by kernel_rfl)) k0 bel lt0) trodAll_mk0), rfl, bel.frame _, fun h => by cases h⟩
theorem FnNamedSame_holds : Rows.FnNamedSameSaid :=
 OpenClaim.holds_of_wide 5 Tryz.f5 rfl rfl rfl rfl rfl rfl rfl ⟨rfl, rfl, rfl, rfl, rfl⟩ rfl rfl rfl rfl rfl (by kernel_rfl) Tryz.func5 (by kernel_rfl)
  (of_decide_eq_true (by kernel_rfl)) (by unfold Func.isWrapper; first | (rw [if_pos (by decide +kernel)]; kernel_rfl) | (rw [if_neg (by decide +kernel)]; exact ⟨rfl, rfl⟩))
  (fun os started H enc _ => lifted_FnNamedSame os started H enc)
theorem FnNamedSame_card : Rows.FnNamedSameCardSaid :=
 Claim7.holds_tied_plain_at .later [] Rows.fnNamedSameCard.laidKinds true Rows.fnNamedSameCard.stood.harness Rows.fnNamedSameCard.stood.looks FnNamedSame_holds (fun _ h => by cases h) (by kernel_rfl) (fun _ h => by cases h) fnNamedSame_row_tie rfl ⟨rfl, rfl⟩ (by kernel_rfl) rfl
  (fun f fn hf hfn => by
   obtain rfl : f = 5 := Option.some.inj ((show Tryz.prog.funcNamed "loop.example/depkernel/laws.FnNamedSame" = some 5 by kernel_rfl).symm.trans hf) |>.symm
   obtain rfl : fn = Tryz.f5 := (Option.some.inj (Tryz.func5.symm.trans hfn)).symm
   exact ⟨by kernel_rfl, fun j t ht => by
    rw [Tryz.params5] at ht
    have hm : t ∈ [30] := by simpa using Array.mem_of_getElem? ht
    have hall : ([30].all fun u => !Tryz.prog.wantsStandIn u) = true := by kernel_rfl
    exact (show Tryz.prog.wantsStandIn t = false by simpa using List.all_eq_true.1 hall t hm)⟩)
  (by kernel_rfl)
#print axioms FnNamedSame_card
end Go.Proofs.YtnogehmgpfpjmaaGreatDoor
end
