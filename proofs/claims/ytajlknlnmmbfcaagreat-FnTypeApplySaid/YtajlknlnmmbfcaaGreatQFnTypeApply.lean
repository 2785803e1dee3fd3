/- FnTypeApply: for every code, the law that functions can be applied answers true. No condition. -/
import Derived.Test.YtajlknlnmmbfcaaGreatK01
import Derived.Test.YtajlknlnmmbfcaaGreatK02
import Derived.Test.YtajlknlnmmbfcaaGreatK03
import Derived.Test.YtajlknlnmmbfcaaGreatK04
import Derived.Test.YtajlknlnmmbfcaaGreatK05
import Derived.Test.YtajlknlnmmbfcaaGreatK06
import Derived.Test.YtajlknlnmmbfcaaGreatK07
import Derived.Test.YtajlknlnmmbfcaaGreatK08
import Derived.WalkKit
import Derived.ProofKit
import Derived.OpenShut
import Derived.ShutString
import Derived.ChangeOld
import Derived.Below
set_option linter.unusedVariables false
set_option linter.unusedSimpArgs false
section
namespace Go.Proofs.YtajlknlnmmbfcaaGreat
open Go Go.Ab Go.Dk
theorem mr (n : Nat) (v0 : List UInt8) : FF (n + 1) 3 [.one (.fr (.bs v0))] [] =
 (cond (decide (1048576 < (v0.length : Int)))
 (some ([.one (.bool true)], []))
 ((FF n 19 [.one (.fr (.bs v0))] []).bind fun x0 =>
 (rTs x0.1 fun x1 x2 =>
 (ah x2 fun x3 x4 =>
 (ai x4 (aj x0.2
 ((FF n 20 [.one (.fr (.ts x1)), .agg [.int .i64 x3.k, .int .i64 x3.n, .fr (.ts x3.kids)]] []).bind fun x5 =>
 (ah x5.1 fun x6 x7 =>
 (aw .i64 x7 fun x8 x9 =>
 (ai x9 (aj x5.2
 ((FF n 21 [.one (.fr (.ts x1)), .agg [.int .i64 x3.k, .int .i64 x3.n, .fr (.ts x3.kids)]] []).bind fun x10 =>
 (ah x10.1 fun x11 x12 =>
 (aw .i64 x12 fun x13 x14 =>
 (ai x14 (aj x10.2
 (cond (!decide (x8 = x13))
 (cond (decide (x8 = x13))
 ((FF n 22 [.agg [.int .i64 x6.k, .int .i64 x6.n, .fr (.ts x6.kids)], .agg [.int .i64 x11.k, .int .i64 x11.n, .fr (.ts x11.kids)]] []).bind fun x15 =>
 (ar x15.1 fun x16 x17 =>
 (ai x17 (aj x15.2
 (some ([.one (.bool x16)], []))))))
 (some ([.one (.bool false)], [])))
 ((FF n 22 [.agg [.int .i64 x6.k, .int .i64 x6.n, .fr (.ts x6.kids)], .agg [.int .i64 x11.k, .int .i64 x11.n, .fr (.ts x11.kids)]] []).bind fun x15 =>
 (ar x15.1 fun x16 x17 =>
 (ai x17 (aj x15.2
 (cond (!x16)
 (cond (decide (x8 = x13))
 ((FF n 22 [.agg [.int .i64 x6.k, .int .i64 x6.n, .fr (.ts x6.kids)], .agg [.int .i64 x11.k, .int .i64 x11.n, .fr (.ts x11.kids)]] []).bind fun x18 =>
 (ar x18.1 fun x19 x20 =>
 (ai x20 (aj x18.2
 (some ([.one (.bool x19)], []))))))
 (some ([.one (.bool false)], [])))
 (cond (!decide (x8 = 0))
 (cond (decide (x8 = x13))
 ((FF n 22 [.agg [.int .i64 x6.k, .int .i64 x6.n, .fr (.ts x6.kids)], .agg [.int .i64 x11.k, .int .i64 x11.n, .fr (.ts x11.kids)]] []).bind fun x18 =>
 (ar x18.1 fun x19 x20 =>
 (ai x20 (aj x18.2
 (some ([.one (.bool x19)], []))))))
 (some ([.one (.bool false)], [])))
 (cond (!decide (x6.k = 3))
 (cond (decide (x8 = x13))
 ((FF n 22 [.agg [.int .i64 x6.k, .int .i64 x6.n, .fr (.ts x6.kids)], .agg [.int .i64 x11.k, .int .i64 x11.n, .fr (.ts x11.kids)]] []).bind fun x18 =>
 (ar x18.1 fun x19 x20 =>
 (ai x20 (aj x18.2
 (some ([.one (.bool x19)], []))))))
 (some ([.one (.bool false)], [])))
 ((x6.kids)[(0 : Int).toNat]?.bind fun x18 =>
 ((FF n 23 [.one (.fr (.ts x1)), .agg [.int .i64 7, .int .i64 0, .fr (.ts [])], .agg [.int .i64 x18.k, .int .i64 x18.n, .fr (.ts x18.kids)]] []).bind fun x19 =>
 (aw .i64 x19.1 fun x20 x21 =>
 (ai x21 (aj x19.2
 (cond (!decide (x20 = 0))
 (some ([.one (.bool true)], []))
 ((x6.kids)[(1 : Int).toNat]?.bind fun x22 =>
 ((FF n 24 [.agg [.int .i64 x22.k, .int .i64 x22.n, .fr (.ts x22.kids)], .agg [.int .i64 7, .int .i64 0, .fr (.ts [])]] []).bind fun x23 =>
 (ah x23.1 fun x24 x25 =>
 (ar x25 fun x26 x27 =>
 (ai x27 (aj x23.2
 ((FF n 25 [.one (.fr (.ts x1)), .agg [.int .i64 5, .int .i64 0, .fr (.ts [(T.mk x3.k x3.n x3.kids), (T.mk 7 0 [])])]] []).bind fun x28 =>
 (ah x28.1 fun x29 x30 =>
 (aw .i64 x30 fun x31 x32 =>
 (ai x32 (aj x28.2
 (cond (!x26)
 (some ([.one (.bool true)], []))
 (cond (decide (x31 = 2))
 (some ([.one (.bool true)], []))
 (cond (decide (x31 = 3))
 (some ([.one (.bool true)], []))
 (cond (decide (x31 = 0))
 ((FF n 26 [.agg [.int .i64 x29.k, .int .i64 x29.n, .fr (.ts x29.kids)], .agg [.int .i64 x24.k, .int .i64 x24.n, .fr (.ts x24.kids)], .one (.int .i64 200)] []).bind fun x33 =>
 (aw .i64 x33.1 fun x34 x35 =>
 (ai x35 (aj x33.2
 (some ([.one (.bool (!decide (x34 = 2)))], []))))))
 (some ([.one (.bool false)], []))))))))))))))))))))))))))))))))))))))))))))))) := by kernel_rfl
end Go.Proofs.YtajlknlnmmbfcaaGreat
end
section
namespace Go.Proofs.YtajlknlnmmbfcaaGreat
open Go.ChangeShapes Go.WideShapes Go.ChangeAt Go.RowKit
open Go.ChangeMaps (open_string shut_string)
open Go.Ab Go.Dk
open Tm (tI)
theorem tj (l : List UInt8) : Ev 3 [.one (.fr (.bs l))] [] ([.one (.bool true)], []) := by
 have hB := iV
 have hS := lq
 refine dn (C := BB + BS + 20) fun n hn => ?_
 refine aK (C := BB + BS + 19) hn fun n hn _ => ?_
 rw [mr]
 refine al (fun _ => ⟨_, rfl, rfl⟩) (fun _ => ?_)
 refine af (bo (by omega) l) ?_
 rintro _ ⟨g, t, rfl, ⟨ht, hd⟩, hg, hgl⟩
 have hgz : ∀ u ∈ g, u.size ≤ 4000000 := fun u hu => by have := ae (hg u hu); omega
 simp only [evt]
 rw [iT (by omega) (by omega) hgz (by omega)]
 simp only [evt]
 rw [iz (by omega) (by omega) hgz (by omega) (iy hd)]
 simp only [evt]
 by_cases h0 : (nmR (itI g t)).2 = 0
 ·obtain ⟨G, m, A, u, rfl, rfl, e0, e, k, r, vu, nu, er⟩ := td h0
  rw [e]
  have zu := ae vu
  have zm := ae k.v
  have s1 := eW (n := n) (a := of u) (by omega) (by omega)
  have tu := FJ k.ty k.w r
  by_cases hk : (of u).k = 3
  ·obtain ⟨a, b, rfl⟩ : ∃ a b, u = .pi a b := by cases u <;> first | exact ⟨_, _, rfl⟩ | (exfalso; simp only [of, cL] at hk; omega)
   obtain ⟨va, vb⟩ := aH.v_pi (show vdM _ = true from vu)
   have za := ae va
   have v0 : vdM .zero = true := by decide +kernel
   have g1 := nH (lC (n := n) (l := cx G) (t := of .zero) (u := of a) (by omega) (by omega) hgz (by decide) (by omega))
   have i1 := nH (iS (n := n) (b := b) (u := .zero) (by omega) vb v0)
   have g2 := nH (aZ (n := n) (l := cx G) (t := of (.app m .zero)) (by omega) (by omega) hgz (by simp only [of, T.size, T.aE]; omega))
   by_cases h1 : ctI (cx G) (of .zero) (of a) = 0
   ·obtain ⟨_, _, _, _, _, tz, _⟩ := DK k.hG k.h8 k.c k.w v0 va h1
    cases vi : vdM (b.inst .zero) with
    | false =>
     rw [vi] at i1
     simp only [of, tm, cL, cP, ay] at g1 g2 i1 s1 ⊢
     repeat' (first | (simp (disch := omega) only [wrap64]; done) | (simp (disch := omega) only [wrap64]) | (with_reducible refine al (fun hq => ?_) (fun hq => ?_) <;> (try simp (disch := omega) only [wrap64] at hq) <;> (try simp only [decide_eq_true_eq, decide_eq_false_iff_not, Bool.not_eq_true', Bool.not_eq_false', Bool.and_eq_true, Bool.and_eq_false_iff, inB, Bool.not_true, Bool.not_false] at hq) <;> try (exfalso; omega; done)) | (with_reducible refine af (s1) ?_; rintro _ rfl; simp only [evt]) | (with_reducible refine af (g1) ?_; rintro _ rfl; simp only [evt]) | ((rw [show [of a, of b][Int.toNat 0]? = some (of a) from rfl, Option.bind_some])) | ((rw [show [of a, of b][Int.toNat 1]? = some (of b) from rfl, Option.bind_some])) | (with_reducible refine af (i1) ?_; rintro _ rfl; simp only [evt]) | (with_reducible refine af (g2) ?_; rintro _ rfl; simp only [evt]) | ((with_reducible refine aq ?_); (exact (by simp))))
    | true =>
     rw [vi, cE (show ak (of (b.inst .zero)) = true from vi)] at i1
     rcases y6 k.hG k.h8 k.c k.w (.app tu tz) with h2 | h2 | ⟨B, h2, _, vB, _, cB⟩
     ·simp only [of] at h2
      simp only [of, tm, cL, cP, ay] at g1 g2 i1 s1 ⊢
      repeat' (first | (simp (disch := omega) only [wrap64]; done) | (simp (disch := omega) only [wrap64]) | (with_reducible refine al (fun hq => ?_) (fun hq => ?_) <;> (try simp (disch := omega) only [wrap64] at hq) <;> (try simp only [decide_eq_true_eq, decide_eq_false_iff_not, Bool.not_eq_true', Bool.not_eq_false', Bool.and_eq_true, Bool.and_eq_false_iff, inB, Bool.not_true, Bool.not_false] at hq) <;> try (exfalso; omega; done)) | (with_reducible refine af (s1) ?_; rintro _ rfl; simp only [evt]) | (with_reducible refine af (g1) ?_; rintro _ rfl; simp only [evt]) | ((rw [show [of a, of b][Int.toNat 0]? = some (of a) from rfl, Option.bind_some])) | ((rw [show [of a, of b][Int.toNat 1]? = some (of b) from rfl, Option.bind_some])) | (with_reducible refine af (i1) ?_; rintro _ rfl; simp only [evt]) | (with_reducible refine af (g2) ?_; rintro _ rfl; simp only [evt]) | ((with_reducible refine aq ?_); (exact (by simp [h2]))))
     ·simp only [of] at h2
      simp only [of, tm, cL, cP, ay] at g1 g2 i1 s1 ⊢
      repeat' (first | (simp (disch := omega) only [wrap64]; done) | (simp (disch := omega) only [wrap64]) | (with_reducible refine al (fun hq => ?_) (fun hq => ?_) <;> (try simp (disch := omega) only [wrap64] at hq) <;> (try simp only [decide_eq_true_eq, decide_eq_false_iff_not, Bool.not_eq_true', Bool.not_eq_false', Bool.and_eq_true, Bool.and_eq_false_iff, inB, Bool.not_true, Bool.not_false] at hq) <;> try (exfalso; omega; done)) | (with_reducible refine af (s1) ?_; rintro _ rfl; simp only [evt]) | (with_reducible refine af (g1) ?_; rintro _ rfl; simp only [evt]) | ((rw [show [of a, of b][Int.toNat 0]? = some (of a) from rfl, Option.bind_some])) | ((rw [show [of a, of b][Int.toNat 1]? = some (of b) from rfl, Option.bind_some])) | (with_reducible refine af (i1) ?_; rintro _ rfl; simp only [evt]) | (with_reducible refine af (g2) ?_; rintro _ rfl; simp only [evt]) | ((with_reducible refine aq ?_); (exact (by simp [h2]))))
     ·rw [h2] at g2
      have zB := ae vB
      have zi := ae vi
      have cv := nH (bZ (n := n) (a := of B) (b := of (b.inst .zero)) (f := 200) (by omega) (by omega) (by omega))
      have nc := lz cB
      simp only [of, tm, cL, cP, ay] at g1 g2 i1 s1 cv ⊢
      repeat' (first | (simp (disch := omega) only [wrap64]; done) | (simp (disch := omega) only [wrap64]) | (with_reducible refine al (fun hq => ?_) (fun hq => ?_) <;> (try simp (disch := omega) only [wrap64] at hq) <;> (try simp only [decide_eq_true_eq, decide_eq_false_iff_not, Bool.not_eq_true', Bool.not_eq_false', Bool.and_eq_true, Bool.and_eq_false_iff, inB, Bool.not_true, Bool.not_false] at hq) <;> try (exfalso; omega; done)) | (with_reducible refine af (s1) ?_; rintro _ rfl; simp only [evt]) | (with_reducible refine af (g1) ?_; rintro _ rfl; simp only [evt]) | ((rw [show [of a, of b][Int.toNat 0]? = some (of a) from rfl, Option.bind_some])) | ((rw [show [of a, of b][Int.toNat 1]? = some (of b) from rfl, Option.bind_some])) | (with_reducible refine af (i1) ?_; rintro _ rfl; simp only [evt]) | (with_reducible refine af (g2) ?_; rintro _ rfl; simp only [evt]) | (with_reducible refine af (cv) ?_; rintro _ rfl; simp only [evt]) | ((with_reducible refine aq ?_); (exact (by simp [nc]))))
   ·simp only [of] at h1
    simp only [of, tm, cL, cP, ay] at g1 s1 ⊢
    repeat' (first | (simp (disch := omega) only [wrap64]; done) | (simp (disch := omega) only [wrap64]) | (with_reducible refine al (fun hq => ?_) (fun hq => ?_) <;> (try simp (disch := omega) only [wrap64] at hq) <;> (try simp only [decide_eq_true_eq, decide_eq_false_iff_not, Bool.not_eq_true', Bool.not_eq_false', Bool.and_eq_true, Bool.and_eq_false_iff, inB, Bool.not_true, Bool.not_false] at hq) <;> try (exfalso; omega; done)) | (with_reducible refine af (s1) ?_; rintro _ rfl; simp only [evt]) | (with_reducible refine af (g1) ?_; rintro _ rfl; simp only [evt]) | ((rw [show [of a, of b][Int.toNat 0]? = some (of a) from rfl, Option.bind_some])) | ((rw [show [of a, of b][Int.toNat 1]? = some (of b) from rfl, Option.bind_some])) | ((with_reducible refine aq ?_); (exact rfl)))
  ·repeat' (first | (simp (disch := omega) only [wrap64]; done) | (simp (disch := omega) only [wrap64]) | (with_reducible refine al (fun hq => ?_) (fun hq => ?_) <;> (try simp (disch := omega) only [wrap64] at hq) <;> (try simp only [decide_eq_true_eq, decide_eq_false_iff_not, Bool.not_eq_true', Bool.not_eq_false', Bool.and_eq_true, Bool.and_eq_false_iff, inB, Bool.not_true, Bool.not_false] at hq) <;> try (exfalso; omega; done)) | (with_reducible refine af (s1) ?_; rintro _ rfl; simp only [evt]) | ((with_reducible refine aq ?_); (exact rfl)))
 ·have hj := zF h0
  rw [hj]
  have s1 := eW (n := n) (a := .mk 0 0 []) (by omega) (by decide)
  simp only [tm, cL, cP, ay] at s1 ⊢
  repeat' (first | (simp (disch := omega) only [wrap64]; done) | (simp (disch := omega) only [wrap64]) | (with_reducible refine al (fun hq => ?_) (fun hq => ?_) <;> (try simp (disch := omega) only [wrap64] at hq) <;> (try simp only [decide_eq_true_eq, decide_eq_false_iff_not, Bool.not_eq_true', Bool.not_eq_false', Bool.and_eq_true, Bool.and_eq_false_iff, inB, Bool.not_true, Bool.not_false] at hq) <;> try (exfalso; omega; done)) | (with_reducible refine af (s1) ?_; rintro _ rfl; simp only [evt]) | ((with_reducible refine aq ?_); (exact rfl)))
set_option maxRecDepth 100000 in
theorem mG (os : Os) (started : os.Started) (H : Type) (enc : TypeId × Value → H) :
   ReturnsInHanded {} Tryz.checked os 3 .any (Rows.fnTypeApplySpec.pre6 enc Tryz.prog Tryz.f3 Rows.fnTypeApplyRow.domain false) (Rows.fnTypeApplySpec.post enc Tryz.prog Tryz.f3 false true false false) := by
 refine returnsInHanded_of_change (C := Tryz.checked) own started (by kernel_rfl) Tryz.func3
  (ChangeSpec.witness6 (enc := enc) (C := Tryz.checked) false ⟨#[], #[.slice none 0 0], []⟩ 8 (by kernel_rfl) (by kernel_rfl) (by kernel_rfl) (by kernel_rfl)) ?_
 intro W base args ds gs before hval0 hW hcnd _
 have hval : ∀ (j : Nat) t v, Tryz.f3.params[j]? = some t → args[j]? = some v → Value.okWide Tryz.prog W .any base t v := hval0
 have hW' := hW
 obtain ⟨p, q, hA0, hV, rfl, hfz, hnd⟩ := hW
 have hA : DataW.TrodAll enc Tryz.prog W 0 (fun _ => true) true Tryz.f3.params.toList args.toList ds p := hA0
 rw [Tryz.params3] at hA hval
 obtain ⟨v0, vs0, d0, ds0, p0, q0, hargs, rfl, rfl, h0, r0⟩ := trodAll_cons hA
 obtain ⟨rfl, rfl, rfl⟩ := trodAll_nil r0
 obtain rfl : args = #[v0] := by cases args; simp_all
 obtain ⟨rfl, rfl⟩ := trodVars_none hV
 have k0 := h0
 have lt0 : ∀ x ∈ p0, x.block < W.heap.size := by obtain ⟨m, hm⟩ := k0; exact DataW.trod_lt m _ _ _ hm
 obtain ⟨l0, w0⟩ := bM Tryz.underlying22 Tryz.underlying5 (by kernel_rfl) (hval 0 22 v0 rfl rfl) h0
 clear hA0 hval0
 refine (iP Tryz.func3 (by kernel_rfl) (args := [.one (.fr (.bs l0))]) (ax.cons (b9 w0) (ax.nil)) (tj l0)).mono fun e W' ⟨he, hg⟩ => ?_
 have bel := hg.below
 subst he
 exact ⟨_, rfl, _, _, _, [], _, [], hW', trodAll_mk1 (shut_bool Tryz.underlying4 _), (trodAll_cons_mk (Below.trod laidOut (by kernel_rfl) (of_decide_eq_true (by kernel_rfl)) k0 bel lt0) trodAll_mk0), rfl, bel.frame _, fun h => by cases h⟩
theorem FnTypeApply_holds : Rows.FnTypeApplySaid :=
 OpenClaim.holds_of_wide 3 Tryz.f3 rfl rfl rfl rfl rfl rfl rfl ⟨rfl, rfl, rfl, rfl, rfl⟩ rfl rfl rfl rfl rfl (by kernel_rfl) Tryz.func3 (by unfold joinedFacts; rw [iJ, iI, fe]; kernel_rfl)
  (of_decide_eq_true (by kernel_rfl)) (by unfold Func.isWrapper; first | (rw [if_pos (by decide +kernel)]; kernel_rfl) | (rw [if_neg (by decide +kernel)]; exact ⟨rfl, rfl⟩))
  (fun os started H enc _ => mG os started H enc)
#print axioms FnTypeApply_holds
end Go.Proofs.YtajlknlnmmbfcaaGreat
end
