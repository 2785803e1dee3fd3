/- FnConvCongruent: for all codes, the law of congruence answers true. No condition. -/
import Derived.Test.YtmioieikbpemoaaEvC
import Derived.Test.YtmioieikbpemoaaEvD
import Derived.Test.YtmioieikbpemoaaRunFnConvCongruent
import Derived.Test.YtmioieikbpemoaaBase
import Derived.WalkKit
import Derived.ProofKit
import Derived.OpenShut
import Derived.ShutString
import Derived.ChangeOld
import Derived.Below
namespace Go.Proofs.Ytmioieikbpemoaa
open Go.ChangeShapes Go.WideShapes Go.ChangeAt Go.RowKit
open Go.ChangeMaps (open_string shut_string)
set_option linter.unusedVariables false
set_option linter.unusedSimpArgs false
open Go.Ab Go.Dk
theorem e_FnConvCongruent (l l2 : List UInt8) : Ev 12 [.one (.fr (.bs l)), .one (.fr (.bs l2))] [] ([.one (.bool true)], []) := by
  refine conv_law (C := 8000001) fun n hn => ?_
  refine tot_step (C := 8000000) hn fun n hn _ => ?_
  rw [E_laws_FnConvCongruent]
  refine tot_cond (fun _ => ⟨_, rfl, rfl⟩) (fun _ => ?_)
  refine tot_cond (fun _ => ⟨_, rfl, rfl⟩) (fun _ => ?_)
  refine tot_call (t_DrawConvertible (by omega) l) ?_
  rintro _ ⟨a, b, f, rfl, ha, hb⟩
  simp only [Option.bind_some, c_rInt, c_rBool, c_rStr, c_rTs, c_rIs, c_rIss, c_rSs, c_rBs, c_rTerm, c_rOwnT, c_rOwn, c_rPtr, c_nilV, c_nilO, c_objC, c_dropC, c_intC, c_boolC, c_strC, c_tsC, c_isC, c_issC, c_ssC, c_bsC, c_anyC, c_nilC, c_arrTs, c_arrIs, c_arrIss, c_arrSs, c_arrBs, ik_self, nb_self, cond_true, cond_false, rTerm_tm, T.eta, mk_k, mk_n, mk_kids, Option.bind_none, Bool.not_true, Bool.not_false, Bool.true_and, Bool.and_true, Bool.and_false, Bool.false_and, Bool.and_self, decide_true, decide_false]
  have c1 := f_Convertible (n := n) (a := a) (b := b) (f := f) (by omega) (by omega) (by omega)
  have c2 := f_ConvertibleS (n := n) (a := a) (b := b) (f := f) (by omega) (by omega) (by omega)
  simp only [c1, c2, Option.bind_some, c_rInt, c_rBool, c_rStr, c_rTs, c_rIs, c_rIss, c_rSs, c_rBs, c_rTerm, c_rOwnT, c_rOwn, c_rPtr, c_nilV, c_nilO, c_objC, c_dropC, c_intC, c_boolC, c_strC, c_tsC, c_isC, c_issC, c_ssC, c_bsC, c_anyC, c_nilC, c_arrTs, c_arrIs, c_arrIss, c_arrSs, c_arrBs, ik_self, nb_self, cond_true, cond_false, rTerm_tm, T.eta, mk_k, mk_n, mk_kids, Option.bind_none, Bool.not_true, Bool.not_false, Bool.true_and, Bool.and_true, Bool.and_false, Bool.false_and, Bool.and_self, decide_true, decide_false]
  refine tot_cond (fun _ => ⟨_, rfl, rfl⟩) (fun h1 => ?_)
  simp only [Bool.not_eq_false', decide_eq_true_eq] at h1
  have c3 := f_Convertible (n := n) (a := .mk 8 0 [a]) (b := .mk 8 0 [b]) (f := 200) (by omega) (by simp only [T.size, T.sizeL]; omega) (by simp only [T.size, T.sizeL]; omega)
  have c4 := f_Convertible (n := n) (a := .mk 5 0 [.mk 1 (Int.tmod (l2.length : Int) 3) [], a]) (b := .mk 5 0 [.mk 1 (Int.tmod (l2.length : Int) 3) [], b]) (f := 200) (by omega) (by simp only [T.size, T.sizeL]; omega) (by simp only [T.size, T.sizeL]; omega)
  simp only [tm, mk_k, mk_n, mk_kids] at c3 c4
  rw [c3]
  simp only [Option.bind_some, c_rInt, c_rBool, c_rStr, c_rTs, c_rIs, c_rIss, c_rSs, c_rBs, c_rTerm, c_rOwnT, c_rOwn, c_rPtr, c_nilV, c_nilO, c_objC, c_dropC, c_intC, c_boolC, c_strC, c_tsC, c_isC, c_issC, c_ssC, c_bsC, c_anyC, c_nilC, c_arrTs, c_arrIs, c_arrIss, c_arrSs, c_arrBs, ik_self, nb_self, cond_true, cond_false, rTerm_tm, T.eta, mk_k, mk_n, mk_kids, Option.bind_none, Bool.not_true, Bool.not_false, Bool.true_and, Bool.and_true, Bool.and_false, Bool.false_and, Bool.and_self, decide_true, decide_false, decide_eq_false (conv_succ h1), Bool.not_false, cond_true]
  rw [c4]
  simp only [Option.bind_some, c_rInt, c_rBool, c_rStr, c_rTs, c_rIs, c_rIss, c_rSs, c_rBs, c_rTerm, c_rOwnT, c_rOwn, c_rPtr, c_nilV, c_nilO, c_objC, c_dropC, c_intC, c_boolC, c_strC, c_tsC, c_isC, c_issC, c_ssC, c_bsC, c_anyC, c_nilC, c_arrTs, c_arrIs, c_arrIss, c_arrSs, c_arrBs, ik_self, nb_self, cond_true, cond_false, rTerm_tm, T.eta, mk_k, mk_n, mk_kids, Option.bind_none, Bool.not_true, Bool.not_false, Bool.true_and, Bool.and_true, Bool.and_false, Bool.false_and, Bool.and_self, decide_true, decide_false, decide_eq_false (conv_app h1), Bool.not_false, cond_true]
  exact ⟨_, rfl, rfl⟩
set_option maxRecDepth 100000 in
theorem lifted_FnConvCongruent (os : Os) (started : os.Started) (H : Type) (enc : TypeId × Value → H) :
    ReturnsInHanded {} Try.checked os 12 .any (Rows.fnConvCongruentSpec.pre6 enc Try.prog Try.f12 Rows.fnConvCongruentRow.domain false) (Rows.fnConvCongruentSpec.post enc Try.prog Try.f12 false true false false) := by
  refine returnsInHanded_of_change (C := Try.checked) own started (by kernel_rfl) Try.func12
    (ChangeSpec.witness6 (enc := enc) (C := Try.checked) false ⟨#[], #[.slice none 0 0, .slice none 0 0], []⟩ 8 (by kernel_rfl) (by kernel_rfl) (by kernel_rfl) (by kernel_rfl)) ?_
  intro W base args ds gs before hval0 hW hcnd _
  have hval : ∀ (j : Nat) t v, Try.f12.params[j]? = some t → args[j]? = some v → Value.okWide Try.prog W .any base t v := hval0
  have hW' := hW
  obtain ⟨p, q, hA0, hV, rfl, hfz, hnd⟩ := hW
  have hA : DataW.TrodAll enc Try.prog W 0 (fun _ => true) true Try.f12.params.toList args.toList ds p := hA0
  rw [Try.params12] at hA hval
  obtain ⟨v0, vs0, d0, ds0, p0, q0, hargs, rfl, rfl, h0, r0⟩ := trodAll_cons hA
  obtain ⟨v1, vs1, d1, ds1, p1, q1, rfl, rfl, rfl, h1, r1⟩ := trodAll_cons r0
  obtain ⟨rfl, rfl, rfl⟩ := trodAll_nil r1
  obtain rfl : args = #[v0, v1] := by cases args; simp_all
  obtain ⟨rfl, rfl⟩ := trodVars_none hV
  have k0 := h0
  have lt0 : ∀ x ∈ p0, x.block < W.heap.size := by obtain ⟨m, hm⟩ := k0; exact DataW.trod_lt m _ _ _ hm
  obtain ⟨l0, w0⟩ := open_bytes Try.underlying22 Try.underlying5 (by kernel_rfl) (hval 0 22 v0 rfl rfl) h0
  have k1 := h1
  have lt1 : ∀ x ∈ p1, x.block < W.heap.size := by obtain ⟨m, hm⟩ := k1; exact DataW.trod_lt m _ _ _ hm
  obtain ⟨l1, w1⟩ := open_bytes Try.underlying22 Try.underlying5 (by kernel_rfl) (hval 1 22 v1 rfl rfl) h1
  clear hA0 hval0
  refine (ev_law Try.func12 (by kernel_rfl) (args := [.one (.fr (.bs l0)), .one (.fr (.bs l1))]) (All2.cons (bytes_arg w0) (All2.cons (bytes_arg w1) (All2.nil))) (e_FnConvCongruent l0 l1)).mono fun e W' ⟨he, hg⟩ => ?_
  have bel := hg.below
  subst he
  exact ⟨_, rfl, _, _, _, [], _, [], hW', trodAll_mk1 (shut_bool Try.underlying4 _), (trodAll_cons_mk (Below.trod laidOut (by kernel_rfl) (of_decide_eq_true (by kernel_rfl)) k0 bel lt0) (trodAll_cons_mk (Below.trod laidOut (by kernel_rfl) (of_decide_eq_true (by kernel_rfl)) k1 bel lt1) trodAll_mk0)), rfl, bel.frame _, fun h => by cases h⟩
theorem FnConvCongruent_holds : Rows.FnConvCongruentSaid :=
  OpenClaim.holds_of_wide 12 Try.f12 rfl rfl rfl rfl rfl rfl rfl ⟨rfl, rfl, rfl, rfl, rfl⟩ rfl rfl rfl rfl rfl (by kernel_rfl) Try.func12 (by kernel_rfl)
    (of_decide_eq_true (by kernel_rfl)) (by unfold Func.isWrapper; first | (rw [if_pos (by decide +kernel)]; kernel_rfl) | (rw [if_neg (by decide +kernel)]; exact ⟨rfl, rfl⟩))
    (fun os started H enc _ => lifted_FnConvCongruent os started H enc)
#print axioms FnConvCongruent_holds
end Go.Proofs.Ytmioieikbpemoaa
