/- FnApplyOne: for all codes, the law of applications answers true. No condition. -/
import Derived.Test.YtmioieikbpemoaaEvA
import Derived.Test.YtmioieikbpemoaaEvC
import Derived.Test.YtmioieikbpemoaaRunFnApplyOne
import Derived.Test.YtmioieikbpemoaaBase
import Derived.WalkKit
import Derived.ProofKit
import Derived.OpenShut
import Derived.ShutString
import Derived.ChangeOld
import Derived.Below
namespace Go.Proofs.Ytmioieikbpemoaa
open Go.ChangeShapes Go.WideShapes Go.ChangeAt Go.RowKit
open Go.ChangeMaps (open_string shut_string)
set_option linter.unusedVariables false
set_option linter.unusedSimpArgs false
open Go.Ab Go.Dk
theorem e_FnApplyOne (l l2 : List UInt8) : Ev 3 [.one (.fr (.bs l)), .one (.fr (.bs l2))] [] ([.one (.bool true)], []) := by
  refine conv_law (C := 8000001) fun n hn => ?_
  refine tot_step (C := 8000000) hn fun n hn _ => ?_
  rw [E_laws_FnApplyOne]
  refine tot_cond (fun _ => ⟨_, rfl, rfl⟩) (fun _ => ?_)
  refine tot_cond (fun _ => ⟨_, rfl, rfl⟩) (fun hl2 => ?_)
  have hl2 : (l2.length : Int) ≤ 1048576 := by simpa using hl2
  refine tot_call (t_DrawApplyAll (by omega) l) ?_
  rintro _ ⟨t, xs, rfl, ht, hl, hz⟩
  simp only [Option.bind_some, c_rInt, c_rBool, c_rStr, c_rTs, c_rIs, c_rIss, c_rSs, c_rBs, c_rTerm, c_rOwnT, c_rOwn, c_rPtr, c_nilV, c_nilO, c_objC, c_dropC, c_intC, c_boolC, c_strC, c_tsC, c_isC, c_issC, c_ssC, c_bsC, c_anyC, c_nilC, c_arrTs, c_arrIs, c_arrIss, c_arrSs, c_arrBs, ik_self, nb_self, cond_true, cond_false, rTerm_tm, T.eta, mk_k, mk_n, mk_kids, Option.bind_none, Bool.not_true, Bool.not_false, Bool.true_and, Bool.and_true, Bool.and_false, Bool.false_and, Bool.and_self, decide_true, decide_false]
  have hz' : ∀ u ∈ xs, u.size ≤ 1000000 := fun u hu => by have := hz u hu; omega
  rw [f_ApplyAll (by omega) (by omega) (by omega) hz']
  simp only [Option.bind_some, c_rInt, c_rBool, c_rStr, c_rTs, c_rIs, c_rIss, c_rSs, c_rBs, c_rTerm, c_rOwnT, c_rOwn, c_rPtr, c_nilV, c_nilO, c_objC, c_dropC, c_intC, c_boolC, c_strC, c_tsC, c_isC, c_issC, c_ssC, c_bsC, c_anyC, c_nilC, c_arrTs, c_arrIs, c_arrIss, c_arrSs, c_arrBs, ik_self, nb_self, cond_true, cond_false, rTerm_tm, T.eta, mk_k, mk_n, mk_kids, Option.bind_none, Bool.not_true, Bool.not_false, Bool.true_and, Bool.and_true, Bool.and_false, Bool.false_and, Bool.and_self, decide_true, decide_false]
  rw [f_ApplyAllS (by omega) (by omega) (by omega) hz']
  simp only [Option.bind_some, c_rInt, c_rBool, c_rStr, c_rTs, c_rIs, c_rIss, c_rSs, c_rBs, c_rTerm, c_rOwnT, c_rOwn, c_rPtr, c_nilV, c_nilO, c_objC, c_dropC, c_intC, c_boolC, c_strC, c_tsC, c_isC, c_issC, c_ssC, c_bsC, c_anyC, c_nilC, c_arrTs, c_arrIs, c_arrIss, c_arrSs, c_arrBs, ik_self, nb_self, cond_true, cond_false, rTerm_tm, T.eta, mk_k, mk_n, mk_kids, Option.bind_none, Bool.not_true, Bool.not_false, Bool.true_and, Bool.and_true, Bool.and_false, Bool.false_and, Bool.and_self, decide_true, decide_false]
  have hR : (appR t xs).1.size ≤ 5000 := by
    unfold appR
    split
    · rename_i hh
      rw [Bool.and_eq_true] at hh
      unfold okT
      split
      · exact app_bound hh.1 hh.2
      · exact (by decide +kernel : (T.mk 0 0 []).size ≤ 5000)
    · exact (by decide +kernel : (T.mk 0 0 []).size ≤ 5000)
  have hs := f_TermSame (appR t xs).1 (n := n) (by omega) (by omega) (appR t xs).1
  rw [T.beq_refl] at hs
  simp only [hs, decide_true, Bool.not_true, Option.bind_some, c_rInt, c_rBool, c_rStr, c_rTs, c_rIs, c_rIss, c_rSs, c_rBs, c_rTerm, c_rOwnT, c_rOwn, c_rPtr, c_nilV, c_nilO, c_objC, c_dropC, c_intC, c_boolC, c_strC, c_tsC, c_isC, c_issC, c_ssC, c_bsC, c_anyC, c_nilC, c_arrTs, c_arrIs, c_arrIss, c_arrSs, c_arrBs, ik_self, nb_self, cond_true, cond_false, rTerm_tm, T.eta, mk_k, mk_n, mk_kids, Option.bind_none, Bool.not_true, Bool.not_false, Bool.true_and, Bool.and_true, Bool.and_false, Bool.false_and, Bool.and_self, decide_true, decide_false]
  cases hr : (appR t xs).2 with
  | false => exact ⟨_, rfl, rfl⟩
  | true =>
    obtain ⟨h1, h2, h3, h4⟩ := appR_true hr
    rw [h4] at hs hR
    rw [h4]
    simp only [Bool.not_true, cond_false]
    have w : IntKind.i64.wrap ((xs.length : Int) + 1) = (xs.length : Int) + 1 := wrap64 (by omega)
    have hk0 : 0 ≤ Int.tmod (l2.length : Int) ((xs.length : Int) + 1) := Int.tmod_nonneg _ (by omega)
    have hk1 : Int.tmod (l2.length : Int) ((xs.length : Int) + 1) < (xs.length : Int) + 1 := Int.tmod_lt_of_pos _ (by omega)
    rw [w]
    generalize Int.tmod (l2.length : Int) ((xs.length : Int) + 1) = k at hk0 hk1 ⊢
    obtain ⟨k, rfl⟩ : ∃ j : Nat, k = j := ⟨k.toNat, by omega⟩
    have e := List.take_append_drop k xs
    have hok := okA_sub (a := xs.take k) (b := xs.drop k) (by rw [e]; exact h2)
    have hva : validB (appF t (xs.take k)) = true := app_valid (b := xs.drop k) (by rw [e]; exact h3)
    have r1 := appR_ok h1 hok.1 hva
    have r2 := appR_ok hva hok.2 (by rw [app_app, e]; exact h3)
    rw [app_app, e] at r2
    have hza : ∀ u ∈ xs.take k, u.size ≤ 1000000 := fun u hu => hz' u (List.mem_of_mem_take hu)
    have hzb : ∀ u ∈ xs.drop k, u.size ≤ 1000000 := fun u hu => hz' u (List.mem_of_mem_drop hu)
    have c1 := f_ApplyAll (n := n) (f := t) (l := xs.take k) (by omega) (by omega) (by rw [List.length_take]; omega) hza
    rw [r1] at c1
    have hsz := validB_size hva
    have c2 := f_ApplyAll (n := n) (f := appF t (xs.take k)) (l := xs.drop k) (by omega) (by omega) (by rw [List.length_drop]; omega) hzb
    rw [r2] at c2
    rw [decide_eq_false (show ¬ (xs.length : Int) + 1 = 0 by omega)]
    simp only [inB, cond_false, Int.toNat_natCast, Int.toNat_zero, List.drop_zero, List.take_length, decide_eq_true (show (0 : Int) ≤ k by omega), decide_eq_true (show (k : Int) ≤ xs.length by omega), decide_eq_true (show (0 : Int) ≤ 0 by omega), decide_eq_true (show (xs.length : Int) ≤ xs.length by omega), Bool.and_self, cond_true]
    rw [c1]
    simp only [Option.bind_some, c_rInt, c_rBool, c_rStr, c_rTs, c_rIs, c_rIss, c_rSs, c_rBs, c_rTerm, c_rOwnT, c_rOwn, c_rPtr, c_nilV, c_nilO, c_objC, c_dropC, c_intC, c_boolC, c_strC, c_tsC, c_isC, c_issC, c_ssC, c_bsC, c_anyC, c_nilC, c_arrTs, c_arrIs, c_arrIss, c_arrSs, c_arrBs, ik_self, nb_self, cond_true, cond_false, rTerm_tm, T.eta, mk_k, mk_n, mk_kids, Option.bind_none, Bool.not_true, Bool.not_false, Bool.true_and, Bool.and_true, Bool.and_false, Bool.false_and, Bool.and_self, decide_true, decide_false]
    rw [c2]
    simp only [Option.bind_some, c_rInt, c_rBool, c_rStr, c_rTs, c_rIs, c_rIss, c_rSs, c_rBs, c_rTerm, c_rOwnT, c_rOwn, c_rPtr, c_nilV, c_nilO, c_objC, c_dropC, c_intC, c_boolC, c_strC, c_tsC, c_isC, c_issC, c_ssC, c_bsC, c_anyC, c_nilC, c_arrTs, c_arrIs, c_arrIss, c_arrSs, c_arrBs, ik_self, nb_self, cond_true, cond_false, rTerm_tm, T.eta, mk_k, mk_n, mk_kids, Option.bind_none, Bool.not_true, Bool.not_false, Bool.true_and, Bool.and_true, Bool.and_false, Bool.false_and, Bool.and_self, decide_true, decide_false, hs]
    exact ⟨_, rfl, rfl⟩
set_option maxRecDepth 100000 in
theorem lifted_FnApplyOne (os : Os) (started : os.Started) (H : Type) (enc : TypeId × Value → H) :
    ReturnsInHanded {} Try.checked os 3 .any (Rows.fnApplyOneSpec.pre6 enc Try.prog Try.f3 Rows.fnApplyOneRow.domain false) (Rows.fnApplyOneSpec.post enc Try.prog Try.f3 false true false false) := by
  refine returnsInHanded_of_change (C := Try.checked) own started (by kernel_rfl) Try.func3
    (ChangeSpec.witness6 (enc := enc) (C := Try.checked) false ⟨#[], #[.slice none 0 0, .slice none 0 0], []⟩ 8 (by kernel_rfl) (by kernel_rfl) (by kernel_rfl) (by kernel_rfl)) ?_
  intro W base args ds gs before hval0 hW hcnd _
  have hval : ∀ (j : Nat) t v, Try.f3.params[j]? = some t → args[j]? = some v → Value.okWide Try.prog W .any base t v := hval0
  have hW' := hW
  obtain ⟨p, q, hA0, hV, rfl, hfz, hnd⟩ := hW
  have hA : DataW.TrodAll enc Try.prog W 0 (fun _ => true) true Try.f3.params.toList args.toList ds p := hA0
  rw [Try.params3] at hA hval
  obtain ⟨v0, vs0, d0, ds0, p0, q0, hargs, rfl, rfl, h0, r0⟩ := trodAll_cons hA
  obtain ⟨v1, vs1, d1, ds1, p1, q1, rfl, rfl, rfl, h1, r1⟩ := trodAll_cons r0
  obtain ⟨rfl, rfl, rfl⟩ := trodAll_nil r1
  obtain rfl : args = #[v0, v1] := by cases args; simp_all
  obtain ⟨rfl, rfl⟩ := trodVars_none hV
  have k0 := h0
  have lt0 : ∀ x ∈ p0, x.block < W.heap.size := by obtain ⟨m, hm⟩ := k0; exact DataW.trod_lt m _ _ _ hm
  obtain ⟨l0, w0⟩ := open_bytes Try.underlying22 Try.underlying5 (by kernel_rfl) (hval 0 22 v0 rfl rfl) h0
  have k1 := h1
  have lt1 : ∀ x ∈ p1, x.block < W.heap.size := by obtain ⟨m, hm⟩ := k1; exact DataW.trod_lt m _ _ _ hm
  obtain ⟨l1, w1⟩ := open_bytes Try.underlying22 Try.underlying5 (by kernel_rfl) (hval 1 22 v1 rfl rfl) h1
  clear hA0 hval0
  refine (ev_law Try.func3 (by kernel_rfl) (args := [.one (.fr (.bs l0)), .one (.fr (.bs l1))]) (All2.cons (bytes_arg w0) (All2.cons (bytes_arg w1) (All2.nil))) (e_FnApplyOne l0 l1)).mono fun e W' ⟨he, hg⟩ => ?_
  have bel := hg.below
  subst he
  exact ⟨_, rfl, _, _, _, [], _, [], hW', trodAll_mk1 (shut_bool Try.underlying4 _), (trodAll_cons_mk (Below.trod laidOut (by kernel_rfl) (of_decide_eq_true (by kernel_rfl)) k0 bel lt0) (trodAll_cons_mk (Below.trod laidOut (by kernel_rfl) (of_decide_eq_true (by kernel_rfl)) k1 bel lt1) trodAll_mk0)), rfl, bel.frame _, fun h => by cases h⟩
theorem FnApplyOne_holds : Rows.FnApplyOneSaid :=
  OpenClaim.holds_of_wide 3 Try.f3 rfl rfl rfl rfl rfl rfl rfl ⟨rfl, rfl, rfl, rfl, rfl⟩ rfl rfl rfl rfl rfl (by kernel_rfl) Try.func3 (by kernel_rfl)
    (of_decide_eq_true (by kernel_rfl)) (by unfold Func.isWrapper; first | (rw [if_pos (by decide +kernel)]; kernel_rfl) | (rw [if_neg (by decide +kernel)]; exact ⟨rfl, rfl⟩))
    (fun os started H enc _ => lifted_FnApplyOne os started H enc)
#print axioms FnApplyOne_holds
end Go.Proofs.Ytmioieikbpemoaa
