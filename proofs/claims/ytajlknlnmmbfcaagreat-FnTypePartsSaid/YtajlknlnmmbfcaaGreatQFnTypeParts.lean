/- FnTypeParts: for every code, the law that the parts of a pair have their types answers true. No condition. -/
import Derived.Test.YtajlknlnmmbfcaaGreatK01
import Derived.Test.YtajlknlnmmbfcaaGreatK02
import Derived.Test.YtajlknlnmmbfcaaGreatK03
import Derived.Test.YtajlknlnmmbfcaaGreatK04
import Derived.Test.YtajlknlnmmbfcaaGreatK05
import Derived.Test.YtajlknlnmmbfcaaGreatK06
import Derived.Test.YtajlknlnmmbfcaaGreatK07
import Derived.Test.YtajlknlnmmbfcaaGreatK08
import Derived.WalkKit
import Derived.ProofKit
import Derived.OpenShut
import Derived.ShutString
import Derived.ChangeOld
import Derived.Below
set_option linter.unusedVariables false
set_option linter.unusedSimpArgs false
section
namespace Go.Proofs.YtajlknlnmmbfcaaGreat
open Go Go.Ab Go.Dk
theorem my (n : Nat) (v0 : List UInt8) : FF (n + 1) 13 [.one (.fr (.bs v0))] [] =
 (cond (decide (1048576 < (v0.length : Int)))
 (some ([.one (.bool true)], []))
 ((FF n 19 [.one (.fr (.bs v0))] []).bind fun x0 =>
 (rTs x0.1 fun x1 x2 =>
 (ah x2 fun x3 x4 =>
 (ai x4 (aj x0.2
 ((FF n 20 [.one (.fr (.ts x1)), .agg [.int .i64 x3.k, .int .i64 x3.n, .fr (.ts x3.kids)]] []).bind fun x5 =>
 (ah x5.1 fun x6 x7 =>
 (aw .i64 x7 fun x8 x9 =>
 (ai x9 (aj x5.2
 ((FF n 21 [.one (.fr (.ts x1)), .agg [.int .i64 x3.k, .int .i64 x3.n, .fr (.ts x3.kids)]] []).bind fun x10 =>
 (ah x10.1 fun x11 x12 =>
 (aw .i64 x12 fun x13 x14 =>
 (ai x14 (aj x10.2
 (cond (!decide (x8 = x13))
 (cond (decide (x8 = x13))
 ((FF n 22 [.agg [.int .i64 x6.k, .int .i64 x6.n, .fr (.ts x6.kids)], .agg [.int .i64 x11.k, .int .i64 x11.n, .fr (.ts x11.kids)]] []).bind fun x15 =>
 (ar x15.1 fun x16 x17 =>
 (ai x17 (aj x15.2
 (some ([.one (.bool x16)], []))))))
 (some ([.one (.bool false)], [])))
 ((FF n 22 [.agg [.int .i64 x6.k, .int .i64 x6.n, .fr (.ts x6.kids)], .agg [.int .i64 x11.k, .int .i64 x11.n, .fr (.ts x11.kids)]] []).bind fun x15 =>
 (ar x15.1 fun x16 x17 =>
 (ai x17 (aj x15.2
 (cond (!x16)
 (cond (decide (x8 = x13))
 ((FF n 22 [.agg [.int .i64 x6.k, .int .i64 x6.n, .fr (.ts x6.kids)], .agg [.int .i64 x11.k, .int .i64 x11.n, .fr (.ts x11.kids)]] []).bind fun x18 =>
 (ar x18.1 fun x19 x20 =>
 (ai x20 (aj x18.2
 (some ([.one (.bool x19)], []))))))
 (some ([.one (.bool false)], [])))
 (cond (!decide (x8 = 0))
 (cond (decide (x8 = x13))
 ((FF n 22 [.agg [.int .i64 x6.k, .int .i64 x6.n, .fr (.ts x6.kids)], .agg [.int .i64 x11.k, .int .i64 x11.n, .fr (.ts x11.kids)]] []).bind fun x18 =>
 (ar x18.1 fun x19 x20 =>
 (ai x20 (aj x18.2
 (some ([.one (.bool x19)], []))))))
 (some ([.one (.bool false)], [])))
 (cond (!decide (x6.k = 13))
 (cond (decide (x8 = x13))
 ((FF n 22 [.agg [.int .i64 x6.k, .int .i64 x6.n, .fr (.ts x6.kids)], .agg [.int .i64 x11.k, .int .i64 x11.n, .fr (.ts x11.kids)]] []).bind fun x18 =>
 (ar x18.1 fun x19 x20 =>
 (ai x20 (aj x18.2
 (some ([.one (.bool x19)], []))))))
 (some ([.one (.bool false)], [])))
 ((FF n 25 [.one (.fr (.ts x1)), .agg [.int .i64 15, .int .i64 0, .fr (.ts [(T.mk x3.k x3.n x3.kids)])]] []).bind fun x18 =>
 (ah x18.1 fun x19 x20 =>
 (aw .i64 x20 fun x21 x22 =>
 (ai x22 (aj x18.2
 ((FF n 25 [.one (.fr (.ts x1)), .agg [.int .i64 16, .int .i64 0, .fr (.ts [(T.mk x3.k x3.n x3.kids)])]] []).bind fun x23 =>
 (ah x23.1 fun x24 x25 =>
 (aw .i64 x25 fun x26 x27 =>
 (ai x27 (aj x23.2
 (cond (!decide (x21 = 1))
 (cond (!decide (x26 = 1))
 (cond (!decide (x21 = 0))
 (some ([.one (.bool true)], []))
 ((x6.kids)[(0 : Int).toNat]?.bind fun x28 =>
 ((FF n 26 [.agg [.int .i64 x19.k, .int .i64 x19.n, .fr (.ts x19.kids)], .agg [.int .i64 x28.k, .int .i64 x28.n, .fr (.ts x28.kids)], .one (.int .i64 200)] []).bind fun x29 =>
 (aw .i64 x29.1 fun x30 x31 =>
 (ai x31 (aj x29.2
 (some ([.one (.bool (!decide (x30 = 2)))], []))))))))
 (some ([.one (.bool false)], [])))
 (some ([.one (.bool false)], []))))))))))))))))))))))))))))))))))))) := by kernel_rfl
end Go.Proofs.YtajlknlnmmbfcaaGreat
end
section
namespace Go.Proofs.YtajlknlnmmbfcaaGreat
open Go.ChangeShapes Go.WideShapes Go.ChangeAt Go.RowKit
open Go.ChangeMaps (open_string shut_string)
open Go.Ab Go.Dk
open Tm (tI)
theorem tT (l : List UInt8) : Ev 13 [.one (.fr (.bs l))] [] ([.one (.bool true)], []) := by
 have hB := iV
 have hS := lq
 refine dn (C := BB + BS + 20) fun n hn => ?_
 refine aK (C := BB + BS + 19) hn fun n hn _ => ?_
 rw [my]
 refine al (fun _ => ⟨_, rfl, rfl⟩) (fun _ => ?_)
 refine af (bo (by omega) l) ?_
 rintro _ ⟨g, t, rfl, ⟨ht, hd⟩, hg, hgl⟩
 have hgz : ∀ u ∈ g, u.size ≤ 4000000 := fun u hu => by have := ae (hg u hu); omega
 simp only [evt]
 rw [iT (by omega) (by omega) hgz (by omega)]
 simp only [evt]
 rw [iz (by omega) (by omega) hgz (by omega) (iy hd)]
 simp only [evt]
 by_cases h0 : (nmR (itI g t)).2 = 0
 ·obtain ⟨G, m, A, u, rfl, rfl, e0, e, k, r, vu, nu, er⟩ := td h0
  rw [e]
  have zu := ae vu
  have zm := ae k.v
  have s1 := eW (n := n) (a := of u) (by omega) (by omega)
  have tu := FJ k.ty k.w r
  by_cases hk : (of u).k = 13
  ·obtain ⟨a, b, rfl⟩ : ∃ a b, u = .sig a b := by cases u <;> first | exact ⟨_, _, rfl⟩ | (exfalso; simp only [of, cL] at hk; omega)
   obtain ⟨va, vb⟩ := aH.v_sig (show vdM _ = true from vu)
   have za := ae va
   have h1 := y6 k.hG k.h8 k.c k.w (.fst tu)
   have h2 := y6 k.hG k.h8 k.c k.w (.snd tu)
   have sz : ∀ j, (T.mk j 0 [of m]).size ≤ 500 := fun j => by simp only [T.size, T.aE]; omega
   have g1 := nH (aZ (n := n) (l := cx G) (t := of (.fst m)) (by omega) (by omega) hgz (by have := sz 15; show (T.mk 15 0 [of m]).size ≤ _; omega))
   have g2 := nH (aZ (n := n) (l := cx G) (t := of (.snd m)) (by omega) (by omega) hgz (by have := sz 16; show (T.mk 16 0 [of m]).size ≤ _; omega))
   have q2 : (itI (cx G) (of (.snd m))).2 ≠ 1 := by rcases h2 with h | h | ⟨B, h, _⟩ <;> simp [h]
   simp only [of, tm, cL, cP, ay] at g1 g2 s1 ⊢
   by_cases h3 : (itI (cx G) (of (.fst m))).2 = 0
   ·obtain ⟨B, eB, _, vB, _, cB⟩ : ∃ B, itI (cx G) (of (.fst m)) = (of B, 0) ∧ tI O G (.fst m) = .ok B ∧ vdM B = true ∧ Tm.Ty G (.fst m) B ∧ Tm.Conv B a := by
      rcases h1 with h | h | h
      ·rw [h] at h3; cases h3
      ·rw [h] at h3; cases h3
      ·exact h
    have zB := ae vB
    simp only [of] at eB q2
    rw [eB] at g1
    have cv := nH (bZ (n := n) (a := of B) (b := of a) (f := 200) (by omega) (by omega) (by omega))
    have nc := lz cB
    repeat' (first | (simp (disch := omega) only [wrap64]; done) | (simp (disch := omega) only [wrap64]) | (with_reducible refine al (fun hq => ?_) (fun hq => ?_) <;> (try simp (disch := omega) only [wrap64] at hq) <;> (try simp only [decide_eq_true_eq, decide_eq_false_iff_not, Bool.not_eq_true', Bool.not_eq_false', Bool.and_eq_true, Bool.and_eq_false_iff, inB, Bool.not_true, Bool.not_false] at hq) <;> try (exfalso; omega; done)) | (with_reducible refine af (s1) ?_; rintro _ rfl; simp only [evt]) | (with_reducible refine af (g1) ?_; rintro _ rfl; simp only [evt]) | (with_reducible refine af (g2) ?_; rintro _ rfl; simp only [evt]) | (with_reducible refine af (cv) ?_; rintro _ rfl; simp only [evt]) | ((rw [show [of a, of b][Int.toNat 0]? = some (of a) from rfl, Option.bind_some])) | ((with_reducible refine aq ?_); (exact (by simp [nc, q2]))))
   ·have q1 : (itI (cx G) (of (.fst m))).2 ≠ 1 := by rcases h1 with h | h | ⟨B, h, _⟩ <;> simp [h]
    simp only [of] at q1 q2 h3
    repeat' (first | (simp (disch := omega) only [wrap64]; done) | (simp (disch := omega) only [wrap64]) | (with_reducible refine al (fun hq => ?_) (fun hq => ?_) <;> (try simp (disch := omega) only [wrap64] at hq) <;> (try simp only [decide_eq_true_eq, decide_eq_false_iff_not, Bool.not_eq_true', Bool.not_eq_false', Bool.and_eq_true, Bool.and_eq_false_iff, inB, Bool.not_true, Bool.not_false] at hq) <;> try (exfalso; omega; done)) | (with_reducible refine af (s1) ?_; rintro _ rfl; simp only [evt]) | (with_reducible refine af (g1) ?_; rintro _ rfl; simp only [evt]) | (with_reducible refine af (g2) ?_; rintro _ rfl; simp only [evt]) | ((rw [show [of a, of b][Int.toNat 0]? = some (of a) from rfl, Option.bind_some])) | ((with_reducible refine aq ?_); (exact (by simp [q1, q2, h3]))))
  ·repeat' (first | (simp (disch := omega) only [wrap64]; done) | (simp (disch := omega) only [wrap64]) | (with_reducible refine al (fun hq => ?_) (fun hq => ?_) <;> (try simp (disch := omega) only [wrap64] at hq) <;> (try simp only [decide_eq_true_eq, decide_eq_false_iff_not, Bool.not_eq_true', Bool.not_eq_false', Bool.and_eq_true, Bool.and_eq_false_iff, inB, Bool.not_true, Bool.not_false] at hq) <;> try (exfalso; omega; done)) | (with_reducible refine af (s1) ?_; rintro _ rfl; simp only [evt]) | ((with_reducible refine aq ?_); (exact rfl)))
 ·have hj := zF h0
  rw [hj]
  have s1 := eW (n := n) (a := .mk 0 0 []) (by omega) (by decide)
  simp only [tm, cL, cP, ay] at s1 ⊢
  repeat' (first | (simp (disch := omega) only [wrap64]; done) | (simp (disch := omega) only [wrap64]) | (with_reducible refine al (fun hq => ?_) (fun hq => ?_) <;> (try simp (disch := omega) only [wrap64] at hq) <;> (try simp only [decide_eq_true_eq, decide_eq_false_iff_not, Bool.not_eq_true', Bool.not_eq_false', Bool.and_eq_true, Bool.and_eq_false_iff, inB, Bool.not_true, Bool.not_false] at hq) <;> try (exfalso; omega; done)) | (with_reducible refine af (s1) ?_; rintro _ rfl; simp only [evt]) | ((with_reducible refine aq ?_); (exact rfl)))
set_option maxRecDepth 100000 in
theorem lT (os : Os) (started : os.Started) (H : Type) (enc : TypeId × Value → H) :
   ReturnsInHanded {} Tryz.checked os 13 .any (Rows.fnTypePartsSpec.pre6 enc Tryz.prog Tryz.f13 Rows.fnTypePartsRow.domain false) (Rows.fnTypePartsSpec.post enc Tryz.prog Tryz.f13 false true false false) := by
 refine returnsInHanded_of_change (C := Tryz.checked) own started (by kernel_rfl) Tryz.func13
  (ChangeSpec.witness6 (enc := enc) (C := Tryz.checked) false ⟨#[], #[.slice none 0 0], []⟩ 8 (by kernel_rfl) (by kernel_rfl) (by kernel_rfl) (by kernel_rfl)) ?_
 intro W base args ds gs before hval0 hW hcnd _
 have hval : ∀ (j : Nat) t v, Tryz.f13.params[j]? = some t → args[j]? = some v → Value.okWide Tryz.prog W .any base t v := hval0
 have hW' := hW
 obtain ⟨p, q, hA0, hV, rfl, hfz, hnd⟩ := hW
 have hA : DataW.TrodAll enc Tryz.prog W 0 (fun _ => true) true Tryz.f13.params.toList args.toList ds p := hA0
 rw [Tryz.params13] at hA hval
 obtain ⟨v0, vs0, d0, ds0, p0, q0, hargs, rfl, rfl, h0, r0⟩ := trodAll_cons hA
 obtain ⟨rfl, rfl, rfl⟩ := trodAll_nil r0
 obtain rfl : args = #[v0] := by cases args; simp_all
 obtain ⟨rfl, rfl⟩ := trodVars_none hV
 have k0 := h0
 have lt0 : ∀ x ∈ p0, x.block < W.heap.size := by obtain ⟨m, hm⟩ := k0; exact DataW.trod_lt m _ _ _ hm
 obtain ⟨l0, w0⟩ := bM Tryz.underlying22 Tryz.underlying5 (by kernel_rfl) (hval 0 22 v0 rfl rfl) h0
 clear hA0 hval0
 refine (iP Tryz.func13 (by kernel_rfl) (args := [.one (.fr (.bs l0))]) (ax.cons (b9 w0) (ax.nil)) (tT l0)).mono fun e W' ⟨he, hg⟩ => ?_
 have bel := hg.below
 subst he
 exact ⟨_, rfl, _, _, _, [], _, [], hW', trodAll_mk1 (shut_bool Tryz.underlying4 _), (trodAll_cons_mk (Below.trod laidOut (by kernel_rfl) (of_decide_eq_true (by kernel_rfl)) k0 bel lt0) trodAll_mk0), rfl, bel.frame _, fun h => by cases h⟩
theorem FnTypeParts_holds : Rows.FnTypePartsSaid :=
 OpenClaim.holds_of_wide 13 Tryz.f13 rfl rfl rfl rfl rfl rfl rfl ⟨rfl, rfl, rfl, rfl, rfl⟩ rfl rfl rfl rfl rfl (by kernel_rfl) Tryz.func13 (by unfold joinedFacts; rw [iJ, iI, fe]; kernel_rfl)
  (of_decide_eq_true (by kernel_rfl)) (by unfold Func.isWrapper; first | (rw [if_pos (by decide +kernel)]; kernel_rfl) | (rw [if_neg (by decide +kernel)]; exact ⟨rfl, rfl⟩))
  (fun os started H enc _ => lT os started H enc)
#print axioms FnTypeParts_holds
end Go.Proofs.YtajlknlnmmbfcaaGreat
end
