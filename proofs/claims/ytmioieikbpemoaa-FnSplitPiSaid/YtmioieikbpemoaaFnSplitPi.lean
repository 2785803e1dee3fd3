/- FnSplitPi: for every code, the law of split function types answers true. No condition. -/
import Derived.Test.YtmioieikbpemoaaEvE
import Derived.Test.YtmioieikbpemoaaEvTr
import Derived.Test.YtmioieikbpemoaaRunFnSplitPi
import Derived.Test.YtmioieikbpemoaaBase
import Derived.WalkKit
import Derived.ProofKit
import Derived.OpenShut
import Derived.ShutString
import Derived.ChangeOld
import Derived.Below
namespace Go.Proofs.Ytmioieikbpemoaa
open Go.ChangeShapes Go.WideShapes Go.ChangeAt Go.RowKit
open Go.ChangeMaps (open_string shut_string)
set_option linter.unusedVariables false
set_option linter.unusedSimpArgs false
open Go.Ab Go.Dk
theorem e_FnSplitPi (l : List UInt8) : Ev 6 [.one (.fr (.bs l))] [] ([.one (.bool true)], []) := by
  refine conv_law (C := 8000001) fun n hn => ?_
  refine tot_step (C := 8000000) hn fun n hn _ => ?_
  rw [E_laws_FnSplitPi]
  refine tot_cond (fun _ => ⟨_, rfl, rfl⟩) (fun _ => ?_)
  refine tot_call (t_DrawSplitPi (by omega) l) ?_
  rintro _ ⟨t, k, rfl, ht⟩
  simp only [Option.bind_some, c_rInt, c_rBool, c_rStr, c_rTs, c_rIs, c_rIss, c_rSs, c_rBs, c_rTerm, c_rOwnT, c_rOwn, c_rPtr, c_nilV, c_nilO, c_objC, c_dropC, c_intC, c_boolC, c_strC, c_tsC, c_isC, c_issC, c_ssC, c_bsC, c_anyC, c_nilC, c_arrTs, c_arrIs, c_arrIss, c_arrSs, c_arrBs, ik_self, nb_self, cond_true, cond_false, rTerm_tm, T.eta, mk_k, mk_n, mk_kids, Option.bind_none, Bool.not_true, Bool.not_false, Bool.true_and, Bool.and_true, Bool.and_false, Bool.false_and, Bool.and_self, decide_true, decide_false]
  rw [f_SplitPi (by omega) (by omega)]
  simp only [Option.bind_some, c_rInt, c_rBool, c_rStr, c_rTs, c_rIs, c_rIss, c_rSs, c_rBs, c_rTerm, c_rOwnT, c_rOwn, c_rPtr, c_nilV, c_nilO, c_objC, c_dropC, c_intC, c_boolC, c_strC, c_tsC, c_isC, c_issC, c_ssC, c_bsC, c_anyC, c_nilC, c_arrTs, c_arrIs, c_arrIss, c_arrSs, c_arrBs, ik_self, nb_self, cond_true, cond_false, rTerm_tm, T.eta, mk_k, mk_n, mk_kids, Option.bind_none, Bool.not_true, Bool.not_false, Bool.true_and, Bool.and_true, Bool.and_false, Bool.false_and, Bool.and_self, decide_true, decide_false]
  rw [f_SplitPiS (by omega) (by omega)]
  simp only [Option.bind_some, c_rInt, c_rBool, c_rStr, c_rTs, c_rIs, c_rIss, c_rSs, c_rBs, c_rTerm, c_rOwnT, c_rOwn, c_rPtr, c_nilV, c_nilO, c_objC, c_dropC, c_intC, c_boolC, c_strC, c_tsC, c_isC, c_issC, c_ssC, c_bsC, c_anyC, c_nilC, c_arrTs, c_arrIs, c_arrIss, c_arrSs, c_arrBs, ik_self, nb_self, cond_true, cond_false, rTerm_tm, T.eta, mk_k, mk_n, mk_kids, Option.bind_none, Bool.not_true, Bool.not_false, Bool.true_and, Bool.and_true, Bool.and_false, Bool.false_and, Bool.and_self, decide_true, decide_false]
  have key : (splR t k).1.1.length ≤ 8 ∧ (∀ u ∈ (splR t k).1.1, u.size ≤ 400) ∧ (splR t k).1.2.size ≤ 400 ∧ ((splR t k).2 = true → overR (splR t k).1.1 (splR t k).1.2 = (t, true) ∧ ((splR t k).1.1.length : Int) = k) := by
    by_cases h : (validB t && decide (0 ≤ k ∧ k ≤ 8 ∧ k ≤ (countP t : Nat))) = true
    · have e : splR t k = (splT k.toNat t [], true) := if_pos h
      rw [Bool.and_eq_true, decide_eq_true_eq] at h
      have hc : k.toNat ≤ cntP 400 t := by have : countP t = cntP 400 t := if_pos h.1; omega
      obtain ⟨h1, h2, h3, h4⟩ := spl_over k.toNat 400 t [] h.1 hc
      have h3 := h3 (by simp)
      simp only [List.length_nil, Nat.zero_add] at h2
      rw [e]
      refine ⟨by show (splT k.toNat t []).1.length ≤ 8; omega, fun u hu => validB_size (h3 u hu), validB_size h4, fun _ => ⟨?_, by show ((splT k.toNat t []).1.length : Int) = k; omega⟩⟩
      show overR (splT k.toNat t []).1 (splT k.toNat t []).2 = (t, true)
      have hok : okA (splT k.toNat t []).1 = true := by
        unfold okA
        simp only [Bool.and_eq_true, decide_eq_true_eq, List.all_eq_true]
        exact ⟨by omega, h3⟩
      have h1 : overF (splT k.toNat t []).1 (splT k.toNat t []).2 = t := h1
      unfold overR
      rw [hok, h4, h1, okT_valid' h.1, h.1]
      rfl
    · have e : splR t k = (([], .mk 0 0 []), false) := if_neg h
      rw [e]
      exact ⟨by simp, by simp, by decide +kernel, fun hh => by cases hh⟩
  obtain ⟨k1, k2, k3, k4⟩ := key
  generalize splR t k = R at k1 k2 k3 k4
  obtain ⟨⟨ps, u⟩, b⟩ := R
  simp only at k1 k2 k3 k4
  have s1 := f_dkTerms (n := n) (ts := ps) (us := ps) (by omega) (by omega) (fun x hx => by have := k2 x hx; omega)
  have s2 := f_TermSame u (n := n) (by omega) (by omega) u
  rw [T.beqL_refl] at s1
  rw [T.beq_refl] at s2
  simp only [decide_true, Bool.not_true, cond_false]
  rw [s1]
  simp only [Option.bind_some, c_rInt, c_rBool, c_rStr, c_rTs, c_rIs, c_rIss, c_rSs, c_rBs, c_rTerm, c_rOwnT, c_rOwn, c_rPtr, c_nilV, c_nilO, c_objC, c_dropC, c_intC, c_boolC, c_strC, c_tsC, c_isC, c_issC, c_ssC, c_bsC, c_anyC, c_nilC, c_arrTs, c_arrIs, c_arrIss, c_arrSs, c_arrBs, ik_self, nb_self, cond_true, cond_false, rTerm_tm, T.eta, mk_k, mk_n, mk_kids, Option.bind_none, Bool.not_true, Bool.not_false, Bool.true_and, Bool.and_true, Bool.and_false, Bool.false_and, Bool.and_self, decide_true, decide_false]
  rw [s2]
  simp only [Option.bind_some, c_rInt, c_rBool, c_rStr, c_rTs, c_rIs, c_rIss, c_rSs, c_rBs, c_rTerm, c_rOwnT, c_rOwn, c_rPtr, c_nilV, c_nilO, c_objC, c_dropC, c_intC, c_boolC, c_strC, c_tsC, c_isC, c_issC, c_ssC, c_bsC, c_anyC, c_nilC, c_arrTs, c_arrIs, c_arrIss, c_arrSs, c_arrBs, ik_self, nb_self, cond_true, cond_false, rTerm_tm, T.eta, mk_k, mk_n, mk_kids, Option.bind_none, Bool.not_true, Bool.not_false, Bool.true_and, Bool.and_true, Bool.and_false, Bool.false_and, Bool.and_self, decide_true, decide_false]
  cases b with
  | false => exact ⟨_, rfl, rfl⟩
  | true =>
    obtain ⟨h1, h2⟩ := k4 rfl
    have hp := f_PiOver (n := n) (ps := ps) (t := u) (by omega) (by omega) (by omega) (fun x hx => by have := k2 x hx; omega)
    rw [h1] at hp
    simp only [Bool.not_true, cond_false]
    rw [hp]
    simp only [Option.bind_some, c_rInt, c_rBool, c_rStr, c_rTs, c_rIs, c_rIss, c_rSs, c_rBs, c_rTerm, c_rOwnT, c_rOwn, c_rPtr, c_nilV, c_nilO, c_objC, c_dropC, c_intC, c_boolC, c_strC, c_tsC, c_isC, c_issC, c_ssC, c_bsC, c_anyC, c_nilC, c_arrTs, c_arrIs, c_arrIss, c_arrSs, c_arrBs, ik_self, nb_self, cond_true, cond_false, rTerm_tm, T.eta, mk_k, mk_n, mk_kids, Option.bind_none, Bool.not_true, Bool.not_false, Bool.true_and, Bool.and_true, Bool.and_false, Bool.false_and, Bool.and_self, decide_true, decide_false]
    have s3 := f_TermSame t (n := n) (by omega) (by omega) t
    rw [T.beq_refl] at s3
    rw [s3]
    simp only [Option.bind_some, c_rInt, c_rBool, c_rStr, c_rTs, c_rIs, c_rIss, c_rSs, c_rBs, c_rTerm, c_rOwnT, c_rOwn, c_rPtr, c_nilV, c_nilO, c_objC, c_dropC, c_intC, c_boolC, c_strC, c_tsC, c_isC, c_issC, c_ssC, c_bsC, c_anyC, c_nilC, c_arrTs, c_arrIs, c_arrIss, c_arrSs, c_arrBs, ik_self, nb_self, cond_true, cond_false, rTerm_tm, T.eta, mk_k, mk_n, mk_kids, Option.bind_none, Bool.not_true, Bool.not_false, Bool.true_and, Bool.and_true, Bool.and_false, Bool.false_and, Bool.and_self, decide_true, decide_false]
    rw [decide_eq_true h2]
    exact ⟨_, rfl, rfl⟩
set_option maxRecDepth 100000 in
theorem lifted_FnSplitPi (os : Os) (started : os.Started) (H : Type) (enc : TypeId × Value → H) :
    ReturnsInHanded {} Try.checked os 6 .any (Rows.fnSplitPiSpec.pre6 enc Try.prog Try.f6 Rows.fnSplitPiRow.domain false) (Rows.fnSplitPiSpec.post enc Try.prog Try.f6 false true false false) := by
  refine returnsInHanded_of_change (C := Try.checked) own started (by kernel_rfl) Try.func6
    (ChangeSpec.witness6 (enc := enc) (C := Try.checked) false ⟨#[], #[.slice none 0 0], []⟩ 8 (by kernel_rfl) (by kernel_rfl) (by kernel_rfl) (by kernel_rfl)) ?_
  intro W base args ds gs before hval0 hW hcnd _
  have hval : ∀ (j : Nat) t v, Try.f6.params[j]? = some t → args[j]? = some v → Value.okWide Try.prog W .any base t v := hval0
  have hW' := hW
  obtain ⟨p, q, hA0, hV, rfl, hfz, hnd⟩ := hW
  have hA : DataW.TrodAll enc Try.prog W 0 (fun _ => true) true Try.f6.params.toList args.toList ds p := hA0
  rw [Try.params6] at hA hval
  obtain ⟨v0, vs0, d0, ds0, p0, q0, hargs, rfl, rfl, h0, r0⟩ := trodAll_cons hA
  obtain ⟨rfl, rfl, rfl⟩ := trodAll_nil r0
  obtain rfl : args = #[v0] := by cases args; simp_all
  obtain ⟨rfl, rfl⟩ := trodVars_none hV
  have k0 := h0
  have lt0 : ∀ x ∈ p0, x.block < W.heap.size := by obtain ⟨m, hm⟩ := k0; exact DataW.trod_lt m _ _ _ hm
  obtain ⟨l0, w0⟩ := open_bytes Try.underlying22 Try.underlying5 (by kernel_rfl) (hval 0 22 v0 rfl rfl) h0
  clear hA0 hval0
  refine (ev_law Try.func6 (by kernel_rfl) (args := [.one (.fr (.bs l0))]) (All2.cons (bytes_arg w0) (All2.nil)) (e_FnSplitPi l0)).mono fun e W' ⟨he, hg⟩ => ?_
  have bel := hg.below
  subst he
  exact ⟨_, rfl, _, _, _, [], _, [], hW', trodAll_mk1 (shut_bool Try.underlying4 _), (trodAll_cons_mk (Below.trod laidOut (by kernel_rfl) (of_decide_eq_true (by kernel_rfl)) k0 bel lt0) trodAll_mk0), rfl, bel.frame _, fun h => by cases h⟩
theorem FnSplitPi_holds : Rows.FnSplitPiSaid :=
  OpenClaim.holds_of_wide 6 Try.f6 rfl rfl rfl rfl rfl rfl rfl ⟨rfl, rfl, rfl, rfl, rfl⟩ rfl rfl rfl rfl rfl (by kernel_rfl) Try.func6 (by kernel_rfl)
    (of_decide_eq_true (by kernel_rfl)) (by unfold Func.isWrapper; first | (rw [if_pos (by decide +kernel)]; kernel_rfl) | (rw [if_neg (by decide +kernel)]; exact ⟨rfl, rfl⟩))
    (fun os started H enc _ => lifted_FnSplitPi os started H enc)
#print axioms FnSplitPi_holds
end Go.Proofs.Ytmioieikbpemoaa
