/- FnApplyAll: for every code, the law that applications are split answers true. No condition. -/
import Derived.Test.YtgchmppmecnniaaK01
import Derived.Test.YtgchmppmecnniaaK02
import Derived.Test.YtgchmppmecnniaaK03
import Derived.Test.YtgchmppmecnniaaK04
import Derived.Test.YtgchmppmecnniaaK05
import Derived.Test.YtgchmppmecnniaaK06
import Derived.Test.YtgchmppmecnniaaK07
import Derived.WalkKit
import Derived.ProofKit
import Derived.OpenShut
import Derived.ShutString
import Derived.ChangeOld
import Derived.Below
set_option linter.unusedVariables false
set_option linter.unusedSimpArgs false
section
namespace Go.Proofs.Ytgchmppmecnniaa
open Go Go.Ab Go.Dk
theorem E_laws_FnApplyAll (n : Nat) (v0 : List UInt8) : FF (n + 1) 3 [.one (.fr (.bs v0))] [] =
 (cond (decide (1048576 < (v0.length : Int)))
 (some ([.one (.bool true)], []))
 ((FF n 8 [.one (.fr (.bs v0))] []).bind fun x0 =>
 (rTerm x0.1 fun x1 x2 =>
 (rTs x2 fun x3 x4 =>
 (nilV x4 (nilO x0.2
 ((FF n 9 [.agg [.int .i64 x1.k, .int .i64 x1.n, .fr (.ts x1.kids)], .one (.fr (.ts x3))] []).bind fun x5 =>
 (rTerm x5.1 fun x6 x7 =>
 (rBool x7 fun x8 x9 =>
 (nilV x9 (nilO x5.2
 ((FF n 10 [.agg [.int .i64 x1.k, .int .i64 x1.n, .fr (.ts x1.kids)], .one (.fr (.ts x3))] []).bind fun x10 =>
 (rTerm x10.1 fun x11 x12 =>
 (rBool x12 fun x13 x14 =>
 (nilV x14 (nilO x10.2
 (cond (!decide (x8 = x13))
 (cond (decide (x8 = x13))
 ((FF n 11 [.agg [.int .i64 x6.k, .int .i64 x6.n, .fr (.ts x6.kids)], .agg [.int .i64 x11.k, .int .i64 x11.n, .fr (.ts x11.kids)]] []).bind fun x15 =>
 (rBool x15.1 fun x16 x17 =>
 (nilV x17 (nilO x15.2
 (some ([.one (.bool x16)], []))))))
 (some ([.one (.bool false)], [])))
 ((FF n 11 [.agg [.int .i64 x6.k, .int .i64 x6.n, .fr (.ts x6.kids)], .agg [.int .i64 x11.k, .int .i64 x11.n, .fr (.ts x11.kids)]] []).bind fun x15 =>
 (rBool x15.1 fun x16 x17 =>
 (nilV x17 (nilO x15.2
 (cond (!x16)
 (cond (decide (x8 = x13))
 ((FF n 11 [.agg [.int .i64 x6.k, .int .i64 x6.n, .fr (.ts x6.kids)], .agg [.int .i64 x11.k, .int .i64 x11.n, .fr (.ts x11.kids)]] []).bind fun x18 =>
 (rBool x18.1 fun x19 x20 =>
 (nilV x20 (nilO x18.2
 (some ([.one (.bool x19)], []))))))
 (some ([.one (.bool false)], [])))
 (cond (!x8)
 (cond (decide (x8 = x13))
 ((FF n 11 [.agg [.int .i64 x6.k, .int .i64 x6.n, .fr (.ts x6.kids)], .agg [.int .i64 x11.k, .int .i64 x11.n, .fr (.ts x11.kids)]] []).bind fun x18 =>
 (rBool x18.1 fun x19 x20 =>
 (nilV x20 (nilO x18.2
 (some ([.one (.bool x19)], []))))))
 (some ([.one (.bool false)], [])))
 ((FF n 12 [.agg [.int .i64 x6.k, .int .i64 x6.n, .fr (.ts x6.kids)]] []).bind fun x18 =>
 (rTerm x18.1 fun x19 x20 =>
 (rTs x20 fun x21 x22 =>
 (rBool x22 fun x23 x24 =>
 (nilV x24 (nilO x18.2
 ((FF n 12 [.agg [.int .i64 x1.k, .int .i64 x1.n, .fr (.ts x1.kids)]] []).bind fun x25 =>
 (rTerm x25.1 fun x26 x27 =>
 (rTs x27 fun x28 x29 =>
 (rBool x29 fun x30 x31 =>
 (nilV x31 (nilO x25.2
 (cond x23
 (cond x30
 ((FF n 11 [.agg [.int .i64 x19.k, .int .i64 x19.n, .fr (.ts x19.kids)], .agg [.int .i64 x26.k, .int .i64 x26.n, .fr (.ts x26.kids)]] []).bind fun x32 =>
 (rBool x32.1 fun x33 x34 =>
 (nilV x34 (nilO x32.2
 (cond x33
 (cond (roomB ([] ++ x28).length)
 (cond (roomB (([] ++ x28) ++ x3).length)
 ((FF n 13 [.one (.fr (.ts x21)), .one (.fr (.ts (([] ++ x28) ++ x3)))] []).bind fun x35 =>
 (rBool x35.1 fun x36 x37 =>
 (nilV x37 (nilO x35.2
 (some ([.one (.bool x36)], []))))))
 none)
 none)
 (some ([.one (.bool false)], [])))))))
 (some ([.one (.bool false)], [])))
 (some ([.one (.bool false)], [])))))))))))))))))))))))))))))))))))))) := by kernel_rfl
end Go.Proofs.Ytgchmppmecnniaa
end
section
namespace Go.Proofs.Ytgchmppmecnniaa
open Go.ChangeShapes Go.WideShapes Go.ChangeAt Go.RowKit
open Go.ChangeMaps (open_string shut_string)
open Go.Ab Go.Dk
theorem p_same {n : Nat} {a : T} (hn : 100000 ≤ n) (hz : a.size ≤ 10000) : Tot (FF n 11 [tm a, tm a] []) (fun r => r = ([bl true], [])) := by
 have := f_TermSame a (n := n) (by omega) (by omega) a
 rw [T.beq_refl] at this
 exact ⟨_, this, rfl⟩
theorem p_eq {f : FuncId} {args : List V1} {n : Nat} {x : List V1 × List AObj} (h : FF n f args [] = some x) : Tot (FF n f args []) (fun r => r = x) := ⟨_, h, rfl⟩
theorem appR_size {f : T} {bs : List T} : (appR f bs).1.size ≤ 5000 := by
 unfold appR
 split
 ·rename_i h
  rw [Bool.and_eq_true] at h
  unfold okT
  split
  ·exact app_bound h.1 h.2
  ·exact (by decide : (T.mk 0 0 []).size ≤ 5000)
 ·exact (by decide : (T.mk 0 0 []).size ≤ 5000)
theorem e_FnApplyAll (l : List UInt8) : Ev 3 [.one (.fr (.bs l))] [] ([.one (.bool true)], []) := by
 refine conv_law (C := 10000001) fun n hn => ?_
 refine tot_step (C := 10000000) hn fun n hn _ => ?_
 rw [E_laws_FnApplyAll]
 refine tot_cond (fun _ => ⟨_, rfl, rfl⟩) (fun _ => ?_)
 refine tot_call (t_DrawApplyAll (by omega) l) ?_
 rintro _ ⟨f, bs, rfl, hf, hl, hz⟩
 have hz' : ∀ u ∈ bs, u.size ≤ 4000000 := fun u hu => by have := hz u hu; omega
 simp only [evt]
 rw [f_ApplyAll (by omega) (by omega) (by omega) hz']
 simp only [evt]
 rw [f_ApplyAllS (by omega) (by omega) (by omega) hz']
 simp only [evt]
 have zx := appR_size (f := f) (bs := bs)
 have s1 := p_same (n := n) (a := (appR f bs).1) (by omega) (by omega)
 cases hb : (appR f bs).2 with
 | false => repeat' (first | (simp (disch := omega) only [wrap64]; done) | (simp (disch := omega) only [wrap64]) | (with_reducible refine tot_cond (fun hq => ?_) (fun hq => ?_) <;> (try simp (disch := omega) only [wrap64] at hq) <;> (try simp only [decide_eq_true_eq, decide_eq_false_iff_not, Bool.not_eq_true', Bool.not_eq_false', Bool.and_eq_true, Bool.and_eq_false_iff, inB, Bool.not_true, Bool.not_false] at hq) <;> try (exfalso; omega; done)) | (with_reducible refine tot_call (s1) ?_; rintro _ rfl; simp only [evt]) | ((with_reducible refine tot_some ?_); (exact rfl)) | ((with_reducible refine tot_some ?_); (exact (by simp))))
 | true =>
  obtain ⟨hv, ho, hvx, ex⟩ := appR_true hb
  have hzx := validB_size hvx
  obtain ⟨z1, z2, z3⟩ := saR_sz f
  have g1 := p_eq (f_SplitApp (n := n) (t := (appR f bs).1) (by omega) (by omega))
  have g2 := p_eq (f_SplitApp (n := n) (t := f) (by omega) (by omega))
  have e1 : saR (appF f bs) = (((saR f).1.1, (saR f).1.2 ++ bs), true) := by
   rw [saR_valid hvx, sa_app bs f [] hvx, List.append_nil, sa_acc 400 f bs, saR_valid hv]
  have e2 : (saR f).2 = true := by rw [saR_valid hv]
  rw [ex, e1] at g1
  rw [e2] at g2
  rw [ex] at s1 ⊢
  generalize (saR f).1.1 = h at *
  generalize (saR f).1.2 = own at *
  have s2 := p_same (n := n) (a := h) (by omega) (by omega)
  have d1 := f_dkTerms (n := n) (ts := own ++ bs) (us := own ++ bs) (by omega) (by rw [List.length_append]; omega) (fun u hu => by
   rcases List.mem_append.1 hu with hu | hu
   ·have := z3 u hu; omega
   ·have := hz u hu; omega)
  rw [T.beqL_refl] at d1
  have d1 := p_eq d1
  repeat' (first | (simp (disch := omega) only [wrap64]; done) | (simp (disch := omega) only [wrap64]) | (with_reducible refine tot_cond (fun hq => ?_) (fun hq => ?_) <;> (try simp (disch := omega) only [wrap64] at hq) <;> (try simp only [decide_eq_true_eq, decide_eq_false_iff_not, Bool.not_eq_true', Bool.not_eq_false', Bool.and_eq_true, Bool.and_eq_false_iff, inB, Bool.not_true, Bool.not_false] at hq) <;> try (exfalso; omega; done)) | (with_reducible refine tot_call (s1) ?_; rintro _ rfl; simp only [evt]) | (with_reducible refine tot_call (g1) ?_; rintro _ rfl; simp only [evt]) | (with_reducible refine tot_call (g2) ?_; rintro _ rfl; simp only [evt]) | (with_reducible refine tot_call (s2) ?_; rintro _ rfl; simp only [evt]) | ((rw [List.nil_append])) | ((exact absurd hq (by rw [roomB_ok (by simp; omega)]; decide))) | (with_reducible refine tot_call (d1) ?_; rintro _ rfl; simp only [evt]) | ((with_reducible refine tot_some ?_); (exact rfl)) | ((with_reducible refine tot_some ?_); (exact (by simp))))
set_option maxRecDepth 100000 in
theorem lifted_FnApplyAll (os : Os) (started : os.Started) (H : Type) (enc : TypeId × Value → H) :
   ReturnsInHanded {} Try.checked os 3 .any (Rows.fnApplyAllSpec.pre6 enc Try.prog Try.f3 Rows.fnApplyAllRow.domain false) (Rows.fnApplyAllSpec.post enc Try.prog Try.f3 false true false false) := by
 refine returnsInHanded_of_change (C := Try.checked) own started (by kernel_rfl) Try.func3
  (ChangeSpec.witness6 (enc := enc) (C := Try.checked) false ⟨#[], #[.slice none 0 0], []⟩ 8 (by kernel_rfl) (by kernel_rfl) (by kernel_rfl) (by kernel_rfl)) ?_
 intro W base args ds gs before hval0 hW hcnd _
 have hval : ∀ (j : Nat) t v, Try.f3.params[j]? = some t → args[j]? = some v → Value.okWide Try.prog W .any base t v := hval0
 have hW' := hW
 obtain ⟨p, q, hA0, hV, rfl, hfz, hnd⟩ := hW
 have hA : DataW.TrodAll enc Try.prog W 0 (fun _ => true) true Try.f3.params.toList args.toList ds p := hA0
 rw [Try.params3] at hA hval
 obtain ⟨v0, vs0, d0, ds0, p0, q0, hargs, rfl, rfl, h0, r0⟩ := trodAll_cons hA
 obtain ⟨rfl, rfl, rfl⟩ := trodAll_nil r0
 obtain rfl : args = #[v0] := by cases args; simp_all
 obtain ⟨rfl, rfl⟩ := trodVars_none hV
 have k0 := h0
 have lt0 : ∀ x ∈ p0, x.block < W.heap.size := by obtain ⟨m, hm⟩ := k0; exact DataW.trod_lt m _ _ _ hm
 obtain ⟨l0, w0⟩ := open_bytes Try.underlying22 Try.underlying5 (by kernel_rfl) (hval 0 22 v0 rfl rfl) h0
 clear hA0 hval0
 refine (ev_law Try.func3 (by kernel_rfl) (args := [.one (.fr (.bs l0))]) (All2.cons (bytes_arg w0) (All2.nil)) (e_FnApplyAll l0)).mono fun e W' ⟨he, hg⟩ => ?_
 have bel := hg.below
 subst he
 exact ⟨_, rfl, _, _, _, [], _, [], hW', trodAll_mk1 (shut_bool Try.underlying4 _), (trodAll_cons_mk (Below.trod laidOut (by kernel_rfl) (of_decide_eq_true (by kernel_rfl)) k0 bel lt0) trodAll_mk0), rfl, bel.frame _, fun h => by cases h⟩
theorem FnApplyAll_holds : Rows.FnApplyAllSaid :=
 OpenClaim.holds_of_wide 3 Try.f3 rfl rfl rfl rfl rfl rfl rfl ⟨rfl, rfl, rfl, rfl, rfl⟩ rfl rfl rfl rfl rfl (by kernel_rfl) Try.func3 (by kernel_rfl)
  (of_decide_eq_true (by kernel_rfl)) (by unfold Func.isWrapper; first | (rw [if_pos (by decide +kernel)]; kernel_rfl) | (rw [if_neg (by decide +kernel)]; exact ⟨rfl, rfl⟩))
  (fun os started H enc _ => lifted_FnApplyAll os started H enc)
#print axioms FnApplyAll_holds
end Go.Proofs.Ytgchmppmecnniaa
end
