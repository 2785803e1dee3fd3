/- FnSplitApp: for every code, the law that splits are joined answers true. No condition. -/
import Derived.Test.YtgchmppmecnniaaK01
import Derived.Test.YtgchmppmecnniaaK02
import Derived.Test.YtgchmppmecnniaaK03
import Derived.Test.YtgchmppmecnniaaK04
import Derived.Test.YtgchmppmecnniaaK05
import Derived.Test.YtgchmppmecnniaaK06
import Derived.Test.YtgchmppmecnniaaK07
import Derived.WalkKit
import Derived.ProofKit
import Derived.OpenShut
import Derived.ShutString
import Derived.ChangeOld
import Derived.Below
set_option linter.unusedVariables false
set_option linter.unusedSimpArgs false
section
namespace Go.Proofs.Ytgchmppmecnniaa
open Go Go.Ab Go.Dk
theorem E_laws_FnSplitApp (n : Nat) (v0 : List UInt8) : FF (n + 1) 4 [.one (.fr (.bs v0))] [] =
 (cond (decide (1048576 < (v0.length : Int)))
 (some ([.one (.bool true)], []))
 ((FF n 14 [.one (.fr (.bs v0))] []).bind fun x0 =>
 (rTerm x0.1 fun x1 x2 =>
 (nilV x2 (nilO x0.2
 ((FF n 12 [.agg [.int .i64 x1.k, .int .i64 x1.n, .fr (.ts x1.kids)]] []).bind fun x3 =>
 (rTerm x3.1 fun x4 x5 =>
 (rTs x5 fun x6 x7 =>
 (rBool x7 fun x8 x9 =>
 (nilV x9 (nilO x3.2
 ((FF n 15 [.agg [.int .i64 x1.k, .int .i64 x1.n, .fr (.ts x1.kids)]] []).bind fun x10 =>
 (rTerm x10.1 fun x11 x12 =>
 (rTs x12 fun x13 x14 =>
 (rBool x14 fun x15 x16 =>
 (nilV x16 (nilO x10.2
 (cond (!decide (x8 = x15))
 (cond (decide (x8 = x15))
 ((FF n 11 [.agg [.int .i64 x4.k, .int .i64 x4.n, .fr (.ts x4.kids)], .agg [.int .i64 x11.k, .int .i64 x11.n, .fr (.ts x11.kids)]] []).bind fun x17 =>
 (rBool x17.1 fun x18 x19 =>
 (nilV x19 (nilO x17.2
 (cond x18
 ((FF n 13 [.one (.fr (.ts x6)), .one (.fr (.ts x13))] []).bind fun x20 =>
 (rBool x20.1 fun x21 x22 =>
 (nilV x22 (nilO x20.2
 (some ([.one (.bool x21)], []))))))
 (some ([.one (.bool false)], [])))))))
 (some ([.one (.bool false)], [])))
 ((FF n 11 [.agg [.int .i64 x4.k, .int .i64 x4.n, .fr (.ts x4.kids)], .agg [.int .i64 x11.k, .int .i64 x11.n, .fr (.ts x11.kids)]] []).bind fun x17 =>
 (rBool x17.1 fun x18 x19 =>
 (nilV x19 (nilO x17.2
 (cond (!x18)
 (cond (decide (x8 = x15))
 ((FF n 11 [.agg [.int .i64 x4.k, .int .i64 x4.n, .fr (.ts x4.kids)], .agg [.int .i64 x11.k, .int .i64 x11.n, .fr (.ts x11.kids)]] []).bind fun x20 =>
 (rBool x20.1 fun x21 x22 =>
 (nilV x22 (nilO x20.2
 (cond x21
 ((FF n 13 [.one (.fr (.ts x6)), .one (.fr (.ts x13))] []).bind fun x23 =>
 (rBool x23.1 fun x24 x25 =>
 (nilV x25 (nilO x23.2
 (some ([.one (.bool x24)], []))))))
 (some ([.one (.bool false)], [])))))))
 (some ([.one (.bool false)], [])))
 ((FF n 13 [.one (.fr (.ts x6)), .one (.fr (.ts x13))] []).bind fun x20 =>
 (rBool x20.1 fun x21 x22 =>
 (nilV x22 (nilO x20.2
 (cond (!x21)
 (cond (decide (x8 = x15))
 ((FF n 11 [.agg [.int .i64 x4.k, .int .i64 x4.n, .fr (.ts x4.kids)], .agg [.int .i64 x11.k, .int .i64 x11.n, .fr (.ts x11.kids)]] []).bind fun x23 =>
 (rBool x23.1 fun x24 x25 =>
 (nilV x25 (nilO x23.2
 (cond x24
 ((FF n 13 [.one (.fr (.ts x6)), .one (.fr (.ts x13))] []).bind fun x26 =>
 (rBool x26.1 fun x27 x28 =>
 (nilV x28 (nilO x26.2
 (some ([.one (.bool x27)], []))))))
 (some ([.one (.bool false)], [])))))))
 (some ([.one (.bool false)], [])))
 (cond (!x8)
 (cond (decide (x8 = x15))
 ((FF n 11 [.agg [.int .i64 x4.k, .int .i64 x4.n, .fr (.ts x4.kids)], .agg [.int .i64 x11.k, .int .i64 x11.n, .fr (.ts x11.kids)]] []).bind fun x23 =>
 (rBool x23.1 fun x24 x25 =>
 (nilV x25 (nilO x23.2
 (cond x24
 ((FF n 13 [.one (.fr (.ts x6)), .one (.fr (.ts x13))] []).bind fun x26 =>
 (rBool x26.1 fun x27 x28 =>
 (nilV x28 (nilO x26.2
 (some ([.one (.bool x27)], []))))))
 (some ([.one (.bool false)], [])))))))
 (some ([.one (.bool false)], [])))
 ((FF n 9 [.agg [.int .i64 x4.k, .int .i64 x4.n, .fr (.ts x4.kids)], .one (.fr (.ts x6))] []).bind fun x23 =>
 (rTerm x23.1 fun x24 x25 =>
 (rBool x25 fun x26 x27 =>
 (nilV x27 (nilO x23.2
 (cond (!decide (x4.k = 5))
 (cond (decide (8 < (x6.length : Int)))
 (some ([.one (.bool true)], []))
 (cond x26
 ((FF n 11 [.agg [.int .i64 x24.k, .int .i64 x24.n, .fr (.ts x24.kids)], .agg [.int .i64 x1.k, .int .i64 x1.n, .fr (.ts x1.kids)]] []).bind fun x28 =>
 (rBool x28.1 fun x29 x30 =>
 (nilV x30 (nilO x28.2
 (some ([.one (.bool x29)], []))))))
 (some ([.one (.bool false)], []))))
 (some ([.one (.bool false)], []))))))))))))))))))))))))))))))))))))) := by kernel_rfl
end Go.Proofs.Ytgchmppmecnniaa
end
section
namespace Go.Proofs.Ytgchmppmecnniaa
open Go.ChangeShapes Go.WideShapes Go.ChangeAt Go.RowKit
open Go.ChangeMaps (open_string shut_string)
open Go.Ab Go.Dk
theorem t_DrawSplitApp {n : Nat} (hn : 6000000 ≤ n) (l : List UInt8) : Tot (FF n 14 [.one (.fr (.bs l))] []) (fun r => ∃ t : T, r = ([tm t], []) ∧ t.size ≤ 5000) := by
 refine tot_step (C := 5999999) (by omega) fun n hn e => ?_
 rw [E_spec_DrawSplitApp]
 refine tot_call (t_DrawApplyAll (by omega) l) ?_
 rintro _ ⟨f, bs, rfl, hf, hl, hz⟩
 simp only [evt]
 rw [f_ApplyAllS (by omega) (by omega) (by omega) (fun u hu => by have := hz u hu; omega)]
 simp only [evt]
 have hs : (appR f bs).1.size ≤ 5000 := by
  cases hb : (appR f bs).2 with
  | true => obtain ⟨h1, h2, h3, h4⟩ := appR_true hb; rw [h4]; exact app_bound h1 h2
  | false =>
   unfold appR at hb ⊢
   split
   ·rename_i h
    rw [if_pos h] at hb
    have hb : validB (appF f bs) = false := hb
    unfold okT
    rw [hb, if_neg (by simp)]; decide
   ·decide
 refine tot_cond (fun _ => ?_) (fun _ => ?_)
 ·exact tot_some ⟨_, rfl, hs⟩
 ·exact tot_some ⟨f, rfl, by omega⟩
theorem p_same {n : Nat} {a : T} (hn : 100000 ≤ n) (hz : a.size ≤ 10000) : Tot (FF n 11 [tm a, tm a] []) (fun r => r = ([bl true], [])) := by
 have := f_TermSame a (n := n) (by omega) (by omega) a
 rw [T.beq_refl] at this
 exact ⟨_, this, rfl⟩
theorem p_eq {f : FuncId} {args : List V1} {n : Nat} {x : List V1 × List AObj} (h : FF n f args [] = some x) : Tot (FF n f args []) (fun r => r = x) := ⟨_, h, rfl⟩
theorem e_FnSplitApp (l : List UInt8) : Ev 4 [.one (.fr (.bs l))] [] ([.one (.bool true)], []) := by
 refine conv_law (C := 10000001) fun n hn => ?_
 refine tot_step (C := 10000000) hn fun n hn _ => ?_
 rw [E_laws_FnSplitApp]
 refine tot_cond (fun _ => ⟨_, rfl, rfl⟩) (fun _ => ?_)
 refine tot_call (t_DrawSplitApp (by omega) l) ?_
 rintro _ ⟨t, rfl, ht⟩
 simp only [evt]
 obtain ⟨z1, z2, z3⟩ := saR_sz t
 rw [f_SplitApp (by omega) (by omega)]
 simp only [evt]
 rw [f_SplitAppS (by omega) (by omega)]
 simp only [evt]
 have s1 := p_same (n := n) (a := (saR t).1.1) (by omega) (by omega)
 have d1 := f_dkTerms (n := n) (ts := (saR t).1.2) (us := (saR t).1.2) (by omega) (by omega) (fun u hu => by have := z3 u hu; omega)
 rw [T.beqL_refl] at d1
 have d1 := p_eq d1
 cases hv : validB t with
 | false =>
  rw [saR_not hv] at s1 d1 ⊢
  simp only [tm, mk_k, mk_n, mk_kids] at s1 ⊢
  repeat' (first | (simp (disch := omega) only [wrap64]; done) | (simp (disch := omega) only [wrap64]) | (with_reducible refine tot_cond (fun hq => ?_) (fun hq => ?_) <;> (try simp (disch := omega) only [wrap64] at hq) <;> (try simp only [decide_eq_true_eq, decide_eq_false_iff_not, Bool.not_eq_true', Bool.not_eq_false', Bool.and_eq_true, Bool.and_eq_false_iff, inB, Bool.not_true, Bool.not_false] at hq) <;> try (exfalso; omega; done)) | (with_reducible refine tot_call (s1) ?_; rintro _ rfl; simp only [evt]) | (with_reducible refine tot_call (d1) ?_; rintro _ rfl; simp only [evt]) | ((with_reducible refine tot_some ?_); (exact rfl)) | ((with_reducible refine tot_some ?_); (exact (by simp))))
 | true =>
  have hzt := validB_size hv
  have hk := sa_kind 400 t [] hv (by omega)
  have hj := sa_join 400 t [] hv (by omega)
  have hsv := sa_valid 400 t [] hv (by simp)
  have a1 := p_eq (f_ApplyAll (n := n) (f := (saR t).1.1) (l := (saR t).1.2) (by omega) (by omega) (by omega) (fun u hu => by have := z3 u hu; omega))
  rw [saR_valid hv] at s1 d1 a1 z1 z2 z3 ⊢
  generalize saT 400 t [] = R at *
  obtain ⟨f, bs⟩ := R
  have hk : f.k ≠ 5 := hk
  have hj : appF f bs = t := hj
  have st := p_same (n := n) (a := t) (by omega) (by omega)
  by_cases h8 : bs.length ≤ 8
  ·have ho : okA bs = true := by
     unfold okA
     simp only [Bool.and_eq_true, decide_eq_true_eq, List.all_eq_true]
     exact ⟨h8, hsv.2.1⟩
   have ea : appR f bs = (t, true) := by rw [appR_ok hsv.1 ho (by rw [hj]; exact hv), hj]
   rw [ea] at a1
   repeat' (first | (simp (disch := omega) only [wrap64]; done) | (simp (disch := omega) only [wrap64]) | (with_reducible refine tot_cond (fun hq => ?_) (fun hq => ?_) <;> (try simp (disch := omega) only [wrap64] at hq) <;> (try simp only [decide_eq_true_eq, decide_eq_false_iff_not, Bool.not_eq_true', Bool.not_eq_false', Bool.and_eq_true, Bool.and_eq_false_iff, inB, Bool.not_true, Bool.not_false] at hq) <;> try (exfalso; omega; done)) | (with_reducible refine tot_call (s1) ?_; rintro _ rfl; simp only [evt]) | (with_reducible refine tot_call (d1) ?_; rintro _ rfl; simp only [evt]) | (with_reducible refine tot_call (a1) ?_; rintro _ rfl; simp only [evt]) | (with_reducible refine tot_call (st) ?_; rintro _ rfl; simp only [evt]) | ((with_reducible refine tot_some ?_); (exact rfl)) | ((with_reducible refine tot_some ?_); (exact (by simp [hk]))))
  ·have h8' : ¬ ((bs.length : Int) ≤ 8) := by omega
   repeat' (first | (simp (disch := omega) only [wrap64]; done) | (simp (disch := omega) only [wrap64]) | (with_reducible refine tot_cond (fun hq => ?_) (fun hq => ?_) <;> (try simp (disch := omega) only [wrap64] at hq) <;> (try simp only [decide_eq_true_eq, decide_eq_false_iff_not, Bool.not_eq_true', Bool.not_eq_false', Bool.and_eq_true, Bool.and_eq_false_iff, inB, Bool.not_true, Bool.not_false] at hq) <;> try (exfalso; omega; done)) | (with_reducible refine tot_call (s1) ?_; rintro _ rfl; simp only [evt]) | (with_reducible refine tot_call (d1) ?_; rintro _ rfl; simp only [evt]) | (with_reducible refine tot_call (a1) ?_; rintro _ rfl; simp only [evt]) | (with_reducible refine tot_call (st) ?_; rintro _ rfl; simp only [evt]) | ((with_reducible refine tot_some ?_); (exact rfl)) | ((with_reducible refine tot_some ?_); (exact (by simp [hk, h8']))))
set_option maxRecDepth 100000 in
theorem lifted_FnSplitApp (os : Os) (started : os.Started) (H : Type) (enc : TypeId × Value → H) :
   ReturnsInHanded {} Try.checked os 4 .any (Rows.fnSplitAppSpec.pre6 enc Try.prog Try.f4 Rows.fnSplitAppRow.domain false) (Rows.fnSplitAppSpec.post enc Try.prog Try.f4 false true false false) := by
 refine returnsInHanded_of_change (C := Try.checked) own started (by kernel_rfl) Try.func4
  (ChangeSpec.witness6 (enc := enc) (C := Try.checked) false ⟨#[], #[.slice none 0 0], []⟩ 8 (by kernel_rfl) (by kernel_rfl) (by kernel_rfl) (by kernel_rfl)) ?_
 intro W base args ds gs before hval0 hW hcnd _
 have hval : ∀ (j : Nat) t v, Try.f4.params[j]? = some t → args[j]? = some v → Value.okWide Try.prog W .any base t v := hval0
 have hW' := hW
 obtain ⟨p, q, hA0, hV, rfl, hfz, hnd⟩ := hW
 have hA : DataW.TrodAll enc Try.prog W 0 (fun _ => true) true Try.f4.params.toList args.toList ds p := hA0
 rw [Try.params4] at hA hval
 obtain ⟨v0, vs0, d0, ds0, p0, q0, hargs, rfl, rfl, h0, r0⟩ := trodAll_cons hA
 obtain ⟨rfl, rfl, rfl⟩ := trodAll_nil r0
 obtain rfl : args = #[v0] := by cases args; simp_all
 obtain ⟨rfl, rfl⟩ := trodVars_none hV
 have k0 := h0
 have lt0 : ∀ x ∈ p0, x.block < W.heap.size := by obtain ⟨m, hm⟩ := k0; exact DataW.trod_lt m _ _ _ hm
 obtain ⟨l0, w0⟩ := open_bytes Try.underlying22 Try.underlying5 (by kernel_rfl) (hval 0 22 v0 rfl rfl) h0
 clear hA0 hval0
 refine (ev_law Try.func4 (by kernel_rfl) (args := [.one (.fr (.bs l0))]) (All2.cons (bytes_arg w0) (All2.nil)) (e_FnSplitApp l0)).mono fun e W' ⟨he, hg⟩ => ?_
 have bel := hg.below
 subst he
 exact ⟨_, rfl, _, _, _, [], _, [], hW', trodAll_mk1 (shut_bool Try.underlying4 _), (trodAll_cons_mk (Below.trod laidOut (by kernel_rfl) (of_decide_eq_true (by kernel_rfl)) k0 bel lt0) trodAll_mk0), rfl, bel.frame _, fun h => by cases h⟩
theorem FnSplitApp_holds : Rows.FnSplitAppSaid :=
 OpenClaim.holds_of_wide 4 Try.f4 rfl rfl rfl rfl rfl rfl rfl ⟨rfl, rfl, rfl, rfl, rfl⟩ rfl rfl rfl rfl rfl (by kernel_rfl) Try.func4 (by kernel_rfl)
  (of_decide_eq_true (by kernel_rfl)) (by unfold Func.isWrapper; first | (rw [if_pos (by decide +kernel)]; kernel_rfl) | (rw [if_neg (by decide +kernel)]; exact ⟨rfl, rfl⟩))
  (fun os started H enc _ => lifted_FnSplitApp os started H enc)
#print axioms FnSplitApp_holds
end Go.Proofs.Ytgchmppmecnniaa
end
