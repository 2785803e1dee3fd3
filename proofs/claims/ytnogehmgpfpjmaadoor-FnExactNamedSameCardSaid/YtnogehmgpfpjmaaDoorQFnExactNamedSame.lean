/- FnExactNamedSame: for all texts and names, the program's NamedSame answers what the reference's does. No condition beyond the card's: the program's variables hold what the card lays. -/
import Derived.Test.YtnogehmgpfpjmaaDoorK01
import Derived.Test.YtnogehmgpfpjmaaDoorK02
import Derived.Test.YtnogehmgpfpjmaaDoorK03
import Derived.Test.YtnogehmgpfpjmaaDoorK04
import Derived.Test.YtnogehmgpfpjmaaDoorK05
import Derived.WalkKit
import Derived.ProofKit
import Derived.OpenShut
import Derived.ShutString
import Derived.ChangeOld
import Derived.Below
set_option linter.unusedVariables false
set_option linter.unusedSimpArgs false
section
namespace Go.Proofs.YtnogehmgpfpjmaaDoor
open Go Go.Ab Go.Dk
theorem E_laws_FnExactNamedSame (n : Nat) (v0 v1 v2 : ByteArray) : FF (n + 1) 4 [.one (.str v0), .one (.str v1), .one (.str v2)] [] =
 (cond (decide (1048576 < (v0.size : Int)))
 (some ([.one (.bool true)], []))
 (cond (decide (1048576 < (v1.size : Int)))
 (some ([.one (.bool true)], []))
 (cond (decide (1048576 < (v2.size : Int)))
 (some ([.one (.bool true)], []))
 ((FF n 10 [.one (.str v0), .one (.str v1), .one (.str v2)] []).bind fun x0 =>
 (rBool x0.1 fun x1 x2 =>
 (nilV x2 (nilO x0.2
 ((FF n 11 [.one (.str v0), .one (.str v1), .one (.str v2)] []).bind fun x3 =>
 (rBool x3.1 fun x4 x5 =>
 (nilV x5 (nilO x3.2
 (cond (!decide (x4 = x1))
 (some ([.one (.bool false)], []))
 (some ([.one (.bool true)], [])))))))))))))) := by kernel_rfl
end Go.Proofs.YtnogehmgpfpjmaaDoor
end
section
namespace Go.Proofs.YtnogehmgpfpjmaaDoor
open Go.ChangeShapes Go.WideShapes Go.ChangeAt Go.RowKit
open Go.ChangeMaps (open_string shut_string)
open Go.Ab Go.Dk
theorem e_FnExactNamedSame (x y z : ByteArray) : Ev 4 [.one (.str x), .one (.str y), .one (.str z)] [] ([.one (.bool true)], []) := by
 have len : ∀ b : ByteArray, b.toList.length = b.size := fun b => by rw [ByteArray.toList_eq, Array.length_toList]; rfl
 have id : ∀ b : ByteArray, sr b.toList = .one (.str b) := fun b => by unfold sr bytesOf; congr 2; apply ByteArray.ext; simp [ByteArray.toList_eq]
 refine ⟨5000301, fun n hn => ?_⟩
 obtain ⟨n, rfl⟩ := pos_succ (show 0 < n by omega)
 rw [E_laws_FnExactNamedSame]
 by_cases hx : (1048576 : Int) < (x.size : Int)
 ·rw [decide_eq_true hx, cond_true]
 rw [decide_eq_false hx, cond_false]
 by_cases hy : (1048576 : Int) < (y.size : Int)
 ·rw [decide_eq_true hy, cond_true]
 rw [decide_eq_false hy, cond_false]
 by_cases hz : (1048576 : Int) < (z.size : Int)
 ·rw [decide_eq_true hz, cond_true]
 rw [decide_eq_false hz, cond_false]
 have e1 := f_NamedSameS (n := n) (a := x.toList) (b := y.toList) (names := z.toList) (by omega) (by rw [len]; omega) (by rw [len]; omega) (by rw [len]; omega)
 have e2 := f_NamedSameI (n := n) (a := x.toList) (b := y.toList) (names := z.toList) (by omega) (by rw [len]; omega) (by rw [len]; omega) (by rw [len]; omega)
 rw [id, id, id] at e1 e2
 rw [e1]
 simp only [evt]
 rw [e2]
 simp only [evt]
set_option maxRecDepth 100000 in
theorem lifted_FnExactNamedSame (os : Os) (started : os.Started) (H : Type) (enc : TypeId × Value → H) :
   ReturnsInHanded {} Tryd.checked os 4 .any (fun w args => (Rows.fnExactNamedSameSpec.pre enc Tryd.prog Tryd.f4 [] false w args ∧ laidMetH Tryd.prog Rows.fnExactNamedSameRow.laid w) ∧ sizedMet enc Tryd.prog Tryd.f4 (OpenSpec.ofChange Rows.fnExactNamedSameSpec) false w args) (Rows.fnExactNamedSameSpec.post enc Tryd.prog Tryd.f4 false true false false) := by
 refine change_and_shaped (C := Tryd.checked) (X := fun w _ => laidMetH Tryd.prog Rows.fnExactNamedSameRow.laid w) (fun _ _ _ hh h => h.of_heap hh) own started (by kernel_rfl) Tryd.func4
  (ChangeSpec.witness_shaped (enc := enc) (C := Tryd.checked) (os := os) (X := fun w _ => laidMetH Tryd.prog Rows.fnExactNamedSameRow.laid w) false (World.laidAll Tryd.prog os Rows.fnExactNamedSameRow.laid) #[.string ByteArray.empty, .string ByteArray.empty, .string ByteArray.empty] 8 (World.laidAll_os _ _ _)
   (World.shaped_of_ZipB (by kernel_rfl) (by kernel_rfl)) (by kernel_rfl) (by kernel_rfl) (by kernel_rfl)
   (by rw [MakeChecks.laidMetH_plain _ _ _ (by kernel_rfl)]; exact laidMet_laidAll _ (by kernel_rfl) (by kernel_rfl))) ?_
 intro W base args ds gs before hval0 hW hL hsh
 have hL2 : laidMet Tryd.prog Rows.fnExactNamedSameRow.laid W := by rw [MakeChecks.laidMetH_plain _ _ _ (by kernel_rfl)] at hL; exact hL
 have hgl : Go.Ab.GL noneZ W := gl_of hL2 hsh (by simp [Rows.fnExactNamedSameRow]) (by simp [Rows.fnExactNamedSameRow]) (by simp [Rows.fnExactNamedSameRow])
 have hval : ∀ (j : Nat) t v, Tryd.f4.params[j]? = some t → args[j]? = some v → Value.okWide Tryd.prog W .any base t v := hval0
 have hW' := hW
 obtain ⟨p, q, hA0, hV, rfl, hfz, hnd⟩ := hW
 have hA : DataW.TrodAll enc Tryd.prog W 0 (fun _ => true) true Tryd.f4.params.toList args.toList ds p := hA0
 rw [Tryd.params4] at hA hval
 obtain ⟨v0, vs0, d0, ds0, p0, q0, hargs, rfl, rfl, h0, r0⟩ := trodAll_cons hA
 obtain ⟨v1, vs1, d1, ds1, p1, q1, rfl, rfl, rfl, h1, r1⟩ := trodAll_cons r0
 obtain ⟨v2, vs2, d2, ds2, p2, q2, rfl, rfl, rfl, h2, r2⟩ := trodAll_cons r1
 obtain ⟨rfl, rfl, rfl⟩ := trodAll_nil r2
 obtain rfl : args = #[v0, v1, v2] := by cases args; simp_all
 obtain ⟨rfl, rfl⟩ := trodVars_none hV
 have k0 := h0
 have lt0 : ∀ x ∈ p0, x.block < W.heap.size := by obtain ⟨m, hm⟩ := k0; exact DataW.trod_lt m _ _ _ hm
 obtain ⟨a0, rfl, rfl, rfl, w0⟩ := open_string Tryd.underlying9 (hval 0 9 v0 rfl rfl) h0
 have k1 := h1
 have lt1 : ∀ x ∈ p1, x.block < W.heap.size := by obtain ⟨m, hm⟩ := k1; exact DataW.trod_lt m _ _ _ hm
 obtain ⟨a1, rfl, rfl, rfl, w1⟩ := open_string Tryd.underlying9 (hval 1 9 v1 rfl rfl) h1
 have k2 := h2
 have lt2 : ∀ x ∈ p2, x.block < W.heap.size := by obtain ⟨m, hm⟩ := k2; exact DataW.trod_lt m _ _ _ hm
 obtain ⟨a2, rfl, rfl, rfl, w2⟩ := open_string Tryd.underlying9 (hval 2 9 v2 rfl rfl) h2
 clear hA0 hval0
 refine (ev_law Tryd.func4 (by kernel_rfl) (args := [.one (.str a0), .one (.str a1), .one (.str a2)]) (All2.cons str_arg (All2.cons str_arg (All2.cons str_arg All2.nil))) hgl (e_FnExactNamedSame a0 a1 a2)).mono fun e W' ⟨he, hg⟩ => ?_
 have bel := hg.below
 subst he
 exact ⟨_, rfl, _, _, _, [], _, [], hW', trodAll_mk1 (shut_bool Tryd.underlying4 _), (trodAll_cons_mk (Below.trod laidOut (by kernel_rfl) (of_decide_eq_true (by kernel_rfl)) k0 bel lt0) (trodAll_cons_mk (Below.trod laidOut (by kernel_rfl) (of_decide_eq_true (by kernel_rfl)) k1 bel lt1) (trodAll_cons_mk (Below.trod laidOut (by kernel_rfl) (of_decide_eq_true (by kernel_rfl)) k2 bel lt2) trodAll_mk0))), rfl, bel.frame _, fun h => by cases h⟩
theorem FnExactNamedSame_holds : Rows.FnExactNamedSameSaid :=
 OpenClaim.holds_of_wide 4 Tryd.f4 rfl rfl rfl rfl rfl rfl rfl ⟨rfl, rfl, rfl, rfl, rfl⟩ rfl rfl rfl rfl rfl (by kernel_rfl) Tryd.func4 (by kernel_rfl)
  (of_decide_eq_true (by kernel_rfl)) (by unfold Func.isWrapper; first | (rw [if_pos (by decide +kernel)]; kernel_rfl) | (rw [if_neg (by decide +kernel)]; exact ⟨rfl, rfl⟩))
  (fun os started H enc _ => lifted_FnExactNamedSame os started H enc)
theorem FnExactNamedSame_card : Rows.FnExactNamedSameCardSaid :=
 Claim7.holds_tied_plain_at .later [] Rows.fnExactNamedSameCard.laidKinds true Rows.fnExactNamedSameCard.stood.harness Rows.fnExactNamedSameCard.stood.looks FnExactNamedSame_holds (fun _ h => by cases h) (by kernel_rfl) (fun _ h => by cases h) fnExactNamedSame_row_tie rfl ⟨rfl, rfl⟩ (by kernel_rfl) rfl
  (fun f fn hf hfn => by
   obtain rfl : f = 4 := Option.some.inj ((show Tryd.prog.funcNamed "loop.example/depkernel/laws.FnExactNamedSame" = some 4 by kernel_rfl).symm.trans hf) |>.symm
   obtain rfl : fn = Tryd.f4 := (Option.some.inj (Tryd.func4.symm.trans hfn)).symm
   exact ⟨by kernel_rfl, fun j t ht => by
    rw [Tryd.params4] at ht
    have hm : t ∈ [9] := by simpa using Array.mem_of_getElem? ht
    have hall : ([9].all fun u => !Tryd.prog.wantsStandIn u) = true := by kernel_rfl
    exact (show Tryd.prog.wantsStandIn t = false by simpa using List.all_eq_true.1 hall t hm)⟩)
  (by kernel_rfl)
#print axioms FnExactNamedSame_card
end Go.Proofs.YtnogehmgpfpjmaaDoor
end
