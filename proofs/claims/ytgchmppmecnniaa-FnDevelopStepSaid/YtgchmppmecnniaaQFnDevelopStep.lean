/- FnDevelopStep: for every code, the law that developments commute with steps answers true. No condition. -/
import Derived.Test.YtgchmppmecnniaaK01
import Derived.Test.YtgchmppmecnniaaK02
import Derived.Test.YtgchmppmecnniaaK03
import Derived.Test.YtgchmppmecnniaaK04
import Derived.Test.YtgchmppmecnniaaK05
import Derived.Test.YtgchmppmecnniaaK06
import Derived.Test.YtgchmppmecnniaaK07
import Derived.WalkKit
import Derived.ProofKit
import Derived.OpenShut
import Derived.ShutString
import Derived.ChangeOld
import Derived.Below
set_option linter.unusedVariables false
set_option linter.unusedSimpArgs false
section
namespace Go.Proofs.Ytgchmppmecnniaa
open Go Go.Ab Go.Dk
theorem E_laws_FnDevelopStep (n : Nat) (v0 : List UInt8) : FF (n + 1) 6 [.one (.fr (.bs v0))] [] =
 (cond (decide (1048576 < (v0.length : Int)))
 (some ([.one (.bool true)], []))
 ((FF n 16 [.one (.fr (.bs v0))] []).bind fun x0 =>
 (rTerm x0.1 fun x1 x2 =>
 (nilV x2 (nilO x0.2
 ((FF n 17 [.agg [.int .i64 x1.k, .int .i64 x1.n, .fr (.ts x1.kids)]] []).bind fun x3 =>
 (rTerm x3.1 fun x4 x5 =>
 (rBool x5 fun x6 x7 =>
 (nilV x7 (nilO x3.2
 ((FF n 18 [.agg [.int .i64 x1.k, .int .i64 x1.n, .fr (.ts x1.kids)]] []).bind fun x8 =>
 (rTerm x8.1 fun x9 x10 =>
 (rBool x10 fun x11 x12 =>
 (nilV x12 (nilO x8.2
 ((FF n 22 [.agg [.int .i64 x1.k, .int .i64 x1.n, .fr (.ts x1.kids)]] []).bind fun x13 =>
 (rTerm x13.1 fun x14 x15 =>
 (rInt .i64 x15 fun x16 x17 =>
 (nilV x17 (nilO x13.2
 (cond (!decide (x6 = x11))
 (cond (decide (x6 = x11))
 ((FF n 11 [.agg [.int .i64 x4.k, .int .i64 x4.n, .fr (.ts x4.kids)], .agg [.int .i64 x9.k, .int .i64 x9.n, .fr (.ts x9.kids)]] []).bind fun x18 =>
 (rBool x18.1 fun x19 x20 =>
 (nilV x20 (nilO x18.2
 (some ([.one (.bool x19)], []))))))
 (some ([.one (.bool false)], [])))
 ((FF n 11 [.agg [.int .i64 x4.k, .int .i64 x4.n, .fr (.ts x4.kids)], .agg [.int .i64 x9.k, .int .i64 x9.n, .fr (.ts x9.kids)]] []).bind fun x18 =>
 (rBool x18.1 fun x19 x20 =>
 (nilV x20 (nilO x18.2
 (cond (!x19)
 (cond (decide (x6 = x11))
 ((FF n 11 [.agg [.int .i64 x4.k, .int .i64 x4.n, .fr (.ts x4.kids)], .agg [.int .i64 x9.k, .int .i64 x9.n, .fr (.ts x9.kids)]] []).bind fun x21 =>
 (rBool x21.1 fun x22 x23 =>
 (nilV x23 (nilO x21.2
 (some ([.one (.bool x22)], []))))))
 (some ([.one (.bool false)], [])))
 (cond (!x6)
 (cond (decide (x6 = x11))
 ((FF n 11 [.agg [.int .i64 x4.k, .int .i64 x4.n, .fr (.ts x4.kids)], .agg [.int .i64 x9.k, .int .i64 x9.n, .fr (.ts x9.kids)]] []).bind fun x21 =>
 (rBool x21.1 fun x22 x23 =>
 (nilV x23 (nilO x21.2
 (some ([.one (.bool x22)], []))))))
 (some ([.one (.bool false)], [])))
 (cond (!decide (x16 = 1))
 (cond (decide (x6 = x11))
 ((FF n 11 [.agg [.int .i64 x4.k, .int .i64 x4.n, .fr (.ts x4.kids)], .agg [.int .i64 x9.k, .int .i64 x9.n, .fr (.ts x9.kids)]] []).bind fun x21 =>
 (rBool x21.1 fun x22 x23 =>
 (nilV x23 (nilO x21.2
 (some ([.one (.bool x22)], []))))))
 (some ([.one (.bool false)], [])))
 ((FF n 17 [.agg [.int .i64 x14.k, .int .i64 x14.n, .fr (.ts x14.kids)]] []).bind fun x21 =>
 (rTerm x21.1 fun x22 x23 =>
 (rBool x23 fun x24 x25 =>
 (nilV x25 (nilO x21.2
 ((FF n 19 [.agg [.int .i64 x4.k, .int .i64 x4.n, .fr (.ts x4.kids)], .one (.int .i64 200)] []).bind fun x26 =>
 (rTerm x26.1 fun x27 x28 =>
 (rInt .i64 x28 fun x29 x30 =>
 (nilV x30 (nilO x26.2
 ((FF n 19 [.agg [.int .i64 x22.k, .int .i64 x22.n, .fr (.ts x22.kids)], .one (.int .i64 200)] []).bind fun x31 =>
 (rTerm x31.1 fun x32 x33 =>
 (rInt .i64 x33 fun x34 x35 =>
 (nilV x35 (nilO x31.2
 (cond (!x24)
 (some ([.one (.bool true)], []))
 (cond (!decide (x29 = 0))
 (some ([.one (.bool true)], []))
 (cond (!decide (x34 = 0))
 (some ([.one (.bool true)], []))
 ((FF n 11 [.agg [.int .i64 x27.k, .int .i64 x27.n, .fr (.ts x27.kids)], .agg [.int .i64 x32.k, .int .i64 x32.n, .fr (.ts x32.kids)]] []).bind fun x36 =>
 (rBool x36.1 fun x37 x38 =>
 (nilV x38 (nilO x36.2
 (some ([.one (.bool x37)], [])))))))))))))))))))))))))))))))))))))))))))))))))))) := by kernel_rfl
end Go.Proofs.Ytgchmppmecnniaa
end
section
namespace Go.Proofs.Ytgchmppmecnniaa
open Go.ChangeShapes Go.WideShapes Go.ChangeAt Go.RowKit
open Go.ChangeMaps (open_string shut_string)
open Go.Ab Go.Dk
theorem p_same {n : Nat} {a : T} (hn : 100000 ≤ n) (hz : a.size ≤ 10000) : Tot (FF n 11 [tm a, tm a] []) (fun r => r = ([bl true], [])) := by
 have := f_TermSame a (n := n) (by omega) (by omega) a
 rw [T.beq_refl] at this
 exact ⟨_, this, rfl⟩
theorem p_eq {f : FuncId} {args : List V1} {n : Nat} {x : List V1 × List AObj} (h : FF n f args [] = some x) : Tot (FF n f args []) (fun r => r = x) := ⟨_, h, rfl⟩
theorem step_t {inn : Bool} {t : T} (h : (stepR inn t).2 = 1) : Par t (stepR inn t).1 ∧ validB (stepR inn t).1 = true := by
 unfold stepR at h ⊢
 split at h
 ·rename_i hv
  rw [if_pos hv]
  unfold oneR at h ⊢
  cases hs : stT inn t with
  | none => rw [hs] at h; cases h
  | some u =>
   rw [hs] at h
   simp only at h ⊢
   cases hv : validB u with
   | true => exact ⟨st_par hs, hv⟩
   | false => rw [hv] at h; cases h
 ·cases h
theorem norm_t {t : T} (v : validB t = true) (h : (redR false t 200).2.2 = 0) : Red t (redR false t 200).1 ∧ nfB (redR false t 200).1 = true ∧ validB (redR false t 200).1 = true := by
 unfold redR at h ⊢
 rw [if_pos ⟨v, by decide, by decide⟩] at h ⊢
 obtain ⟨h1, h2⟩ := redF_red _ _ _ h
 exact ⟨h1, h2, redF_valid _ _ _ v h⟩
theorem dvR_some {t x : T} (h : dvR t = some x) : x = devT t ∧ validB x = true := by
 unfold dvR at h
 split at h
 ·exact dvI_dev t x h
 ·cases h
theorem dvR_size {t : T} : ((dvR t).getD junk0).size ≤ 400 := by
 cases h : dvR t with
 | none => exact (by decide : (T.mk 0 0 []).size ≤ 400)
 | some x => exact validB_size (dvR_some h).2
theorem e_FnDevelopStep (l : List UInt8) : Ev 6 [.one (.fr (.bs l))] [] ([.one (.bool true)], []) := by
 refine conv_law (C := 10000001) fun n hn => ?_
 refine tot_step (C := 10000000) hn fun n hn _ => ?_
 rw [E_laws_FnDevelopStep]
 refine tot_cond (fun _ => ⟨_, rfl, rfl⟩) (fun _ => ?_)
 refine tot_call (x_DrawDevelopTerm (by omega) l) ?_
 rintro _ ⟨t, rfl, ht, hd⟩
 simp only [evt]
 have z1 := dvR_size (t := t)
 have f1 := f_DevelopTerm (n := n) (t := t) (by omega)
 have f2 := f_DevelopTermS (n := n) (t := t) (by omega) (by omega) (fun h => (hd h).1)
 unfold dvA at f1 f2
 rw [f1]
 simp only [evt]
 rw [f2]
 simp only [evt]
 rw [f_StepInner (by omega)]
 simp only [evt]
 have s1 := p_same (n := n) (a := (dvR t).getD junk0) (by omega) (by omega)
 cases hx : dvR t with
 | none =>
  rw [hx] at s1
  simp only [Option.isSome_none, Option.getD_none, junk0, tm, mk_k, mk_n, mk_kids] at s1 ⊢
  repeat' (first | (simp (disch := omega) only [wrap64]; done) | (simp (disch := omega) only [wrap64]) | (with_reducible refine tot_cond (fun hq => ?_) (fun hq => ?_) <;> (try simp (disch := omega) only [wrap64] at hq) <;> (try simp only [decide_eq_true_eq, decide_eq_false_iff_not, Bool.not_eq_true', Bool.not_eq_false', Bool.and_eq_true, Bool.and_eq_false_iff, inB, Bool.not_true, Bool.not_false] at hq) <;> try (exfalso; omega; done)) | (with_reducible refine tot_call (s1) ?_; rintro _ rfl; simp only [evt]) | ((with_reducible refine tot_some ?_); (exact rfl)) | ((with_reducible refine tot_some ?_); (exact (by simp))))
 | some x =>
  rw [hx] at s1 z1
  obtain ⟨rfl, vx⟩ := dvR_some hx
  simp only [Option.isSome_some, Option.getD_some] at s1 z1 ⊢
  by_cases hk : (stepR true t).2 = 1
  ·obtain ⟨ps, vs⟩ := step_t hk
   generalize (stepR true t).1 = s at *
   have zs := validB_size vs
   have f3 := f_DevelopTerm (n := n) (t := s) (by omega)
   unfold dvA at f3
   have f3 := p_eq f3
   have z3 := dvR_size (t := s)
   have n1 := p_eq (f_Normalize (n := n) (t := devT t) (fuel := 200) (by omega))
   have n2 := p_eq (f_Normalize (n := n) (t := (dvR s).getD junk0) (fuel := 200) (by omega))
   cases hy : dvR s with
   | none =>
    rw [hy] at f3 n2
    simp only [Option.isSome_none, Option.getD_none, junk0, tm, mk_k, mk_n, mk_kids] at f3 n2 ⊢
    repeat' (first | (simp (disch := omega) only [wrap64]; done) | (simp (disch := omega) only [wrap64]) | (with_reducible refine tot_cond (fun hq => ?_) (fun hq => ?_) <;> (try simp (disch := omega) only [wrap64] at hq) <;> (try simp only [decide_eq_true_eq, decide_eq_false_iff_not, Bool.not_eq_true', Bool.not_eq_false', Bool.and_eq_true, Bool.and_eq_false_iff, inB, Bool.not_true, Bool.not_false] at hq) <;> try (exfalso; omega; done)) | (with_reducible refine tot_call (s1) ?_; rintro _ rfl; simp only [evt]) | (with_reducible refine tot_call (f3) ?_; rintro _ rfl; simp only [evt]) | (with_reducible refine tot_call (n1) ?_; rintro _ rfl; simp only [evt]) | (with_reducible refine tot_call (n2) ?_; rintro _ rfl; simp only [evt]) | ((with_reducible refine tot_some ?_); (exact rfl)) | ((with_reducible refine tot_some ?_); (exact (by simp))))
   | some y =>
    rw [hy] at f3 n2 z3
    obtain ⟨rfl, vy⟩ := dvR_some hy
    simp only [Option.isSome_some, Option.getD_some] at f3 n2 z3 ⊢
    by_cases h1 : (redR false (devT t) 200).2.2 = 0
    ·by_cases h2 : (redR false (devT s) 200).2.2 = 0
     ·obtain ⟨r1, q1, v1⟩ := norm_t vx h1
      obtain ⟨r2, q2, v2⟩ := norm_t vy h2
      have e : (redR false (devT t) 200).1 = (redR false (devT s) 200).1 := nf_uniq ((Red.one (par_dev t)).trans r1) ((Red.one ps).trans ((Red.one (par_dev s)).trans r2)) q1 q2
      have zz := validB_size v2
      have s2 := p_same (n := n) (a := (redR false (devT s) 200).1) (by omega) (by omega)
      rw [e] at n1
      repeat' (first | (simp (disch := omega) only [wrap64]; done) | (simp (disch := omega) only [wrap64]) | (with_reducible refine tot_cond (fun hq => ?_) (fun hq => ?_) <;> (try simp (disch := omega) only [wrap64] at hq) <;> (try simp only [decide_eq_true_eq, decide_eq_false_iff_not, Bool.not_eq_true', Bool.not_eq_false', Bool.and_eq_true, Bool.and_eq_false_iff, inB, Bool.not_true, Bool.not_false] at hq) <;> try (exfalso; omega; done)) | (with_reducible refine tot_call (s1) ?_; rintro _ rfl; simp only [evt]) | (with_reducible refine tot_call (f3) ?_; rintro _ rfl; simp only [evt]) | (with_reducible refine tot_call (n1) ?_; rintro _ rfl; simp only [evt]) | (with_reducible refine tot_call (n2) ?_; rintro _ rfl; simp only [evt]) | (with_reducible refine tot_call (s2) ?_; rintro _ rfl; simp only [evt]) | ((with_reducible refine tot_some ?_); (exact rfl)) | ((with_reducible refine tot_some ?_); (exact (by simp))))
     ·repeat' (first | (simp (disch := omega) only [wrap64]; done) | (simp (disch := omega) only [wrap64]) | (with_reducible refine tot_cond (fun hq => ?_) (fun hq => ?_) <;> (try simp (disch := omega) only [wrap64] at hq) <;> (try simp only [decide_eq_true_eq, decide_eq_false_iff_not, Bool.not_eq_true', Bool.not_eq_false', Bool.and_eq_true, Bool.and_eq_false_iff, inB, Bool.not_true, Bool.not_false] at hq) <;> try (exfalso; omega; done)) | (with_reducible refine tot_call (s1) ?_; rintro _ rfl; simp only [evt]) | (with_reducible refine tot_call (f3) ?_; rintro _ rfl; simp only [evt]) | (with_reducible refine tot_call (n1) ?_; rintro _ rfl; simp only [evt]) | (with_reducible refine tot_call (n2) ?_; rintro _ rfl; simp only [evt]) | ((with_reducible refine tot_some ?_); (exact rfl)) | ((with_reducible refine tot_some ?_); (exact (by simp))))
    ·repeat' (first | (simp (disch := omega) only [wrap64]; done) | (simp (disch := omega) only [wrap64]) | (with_reducible refine tot_cond (fun hq => ?_) (fun hq => ?_) <;> (try simp (disch := omega) only [wrap64] at hq) <;> (try simp only [decide_eq_true_eq, decide_eq_false_iff_not, Bool.not_eq_true', Bool.not_eq_false', Bool.and_eq_true, Bool.and_eq_false_iff, inB, Bool.not_true, Bool.not_false] at hq) <;> try (exfalso; omega; done)) | (with_reducible refine tot_call (s1) ?_; rintro _ rfl; simp only [evt]) | (with_reducible refine tot_call (f3) ?_; rintro _ rfl; simp only [evt]) | (with_reducible refine tot_call (n1) ?_; rintro _ rfl; simp only [evt]) | (with_reducible refine tot_call (n2) ?_; rintro _ rfl; simp only [evt]) | ((with_reducible refine tot_some ?_); (exact rfl)) | ((with_reducible refine tot_some ?_); (exact (by simp))))
  ·repeat' (first | (simp (disch := omega) only [wrap64]; done) | (simp (disch := omega) only [wrap64]) | (with_reducible refine tot_cond (fun hq => ?_) (fun hq => ?_) <;> (try simp (disch := omega) only [wrap64] at hq) <;> (try simp only [decide_eq_true_eq, decide_eq_false_iff_not, Bool.not_eq_true', Bool.not_eq_false', Bool.and_eq_true, Bool.and_eq_false_iff, inB, Bool.not_true, Bool.not_false] at hq) <;> try (exfalso; omega; done)) | (with_reducible refine tot_call (s1) ?_; rintro _ rfl; simp only [evt]) | ((with_reducible refine tot_some ?_); (exact rfl)) | ((with_reducible refine tot_some ?_); (exact (by simp))))
set_option maxRecDepth 100000 in
theorem lifted_FnDevelopStep (os : Os) (started : os.Started) (H : Type) (enc : TypeId × Value → H) :
   ReturnsInHanded {} Try.checked os 6 .any (Rows.fnDevelopStepSpec.pre6 enc Try.prog Try.f6 Rows.fnDevelopStepRow.domain false) (Rows.fnDevelopStepSpec.post enc Try.prog Try.f6 false true false false) := by
 refine returnsInHanded_of_change (C := Try.checked) own started (by kernel_rfl) Try.func6
  (ChangeSpec.witness6 (enc := enc) (C := Try.checked) false ⟨#[], #[.slice none 0 0], []⟩ 8 (by kernel_rfl) (by kernel_rfl) (by kernel_rfl) (by kernel_rfl)) ?_
 intro W base args ds gs before hval0 hW hcnd _
 have hval : ∀ (j : Nat) t v, Try.f6.params[j]? = some t → args[j]? = some v → Value.okWide Try.prog W .any base t v := hval0
 have hW' := hW
 obtain ⟨p, q, hA0, hV, rfl, hfz, hnd⟩ := hW
 have hA : DataW.TrodAll enc Try.prog W 0 (fun _ => true) true Try.f6.params.toList args.toList ds p := hA0
 rw [Try.params6] at hA hval
 obtain ⟨v0, vs0, d0, ds0, p0, q0, hargs, rfl, rfl, h0, r0⟩ := trodAll_cons hA
 obtain ⟨rfl, rfl, rfl⟩ := trodAll_nil r0
 obtain rfl : args = #[v0] := by cases args; simp_all
 obtain ⟨rfl, rfl⟩ := trodVars_none hV
 have k0 := h0
 have lt0 : ∀ x ∈ p0, x.block < W.heap.size := by obtain ⟨m, hm⟩ := k0; exact DataW.trod_lt m _ _ _ hm
 obtain ⟨l0, w0⟩ := open_bytes Try.underlying22 Try.underlying5 (by kernel_rfl) (hval 0 22 v0 rfl rfl) h0
 clear hA0 hval0
 refine (ev_law Try.func6 (by kernel_rfl) (args := [.one (.fr (.bs l0))]) (All2.cons (bytes_arg w0) (All2.nil)) (e_FnDevelopStep l0)).mono fun e W' ⟨he, hg⟩ => ?_
 have bel := hg.below
 subst he
 exact ⟨_, rfl, _, _, _, [], _, [], hW', trodAll_mk1 (shut_bool Try.underlying4 _), (trodAll_cons_mk (Below.trod laidOut (by kernel_rfl) (of_decide_eq_true (by kernel_rfl)) k0 bel lt0) trodAll_mk0), rfl, bel.frame _, fun h => by cases h⟩
theorem FnDevelopStep_holds : Rows.FnDevelopStepSaid :=
 OpenClaim.holds_of_wide 6 Try.f6 rfl rfl rfl rfl rfl rfl rfl ⟨rfl, rfl, rfl, rfl, rfl⟩ rfl rfl rfl rfl rfl (by kernel_rfl) Try.func6 (by kernel_rfl)
  (of_decide_eq_true (by kernel_rfl)) (by unfold Func.isWrapper; first | (rw [if_pos (by decide +kernel)]; kernel_rfl) | (rw [if_neg (by decide +kernel)]; exact ⟨rfl, rfl⟩))
  (fun os started H enc _ => lifted_FnDevelopStep os started H enc)
#print axioms FnDevelopStep_holds
end Go.Proofs.Ytgchmppmecnniaa
end
