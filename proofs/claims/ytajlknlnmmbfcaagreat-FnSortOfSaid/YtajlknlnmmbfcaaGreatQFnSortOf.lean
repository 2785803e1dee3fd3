/- FnSortOf: for every code, the law that levels are sorts answers true. No condition. -/
import Derived.Test.YtajlknlnmmbfcaaGreatJ01
import Derived.Test.YtajlknlnmmbfcaaGreatJ02
import Derived.Test.YtajlknlnmmbfcaaGreatJ03
import Derived.Test.YtajlknlnmmbfcaaGreatJ04
import Derived.Test.YtajlknlnmmbfcaaGreatJ05
import Derived.Test.YtajlknlnmmbfcaaGreatJ06
import Derived.Test.YtajlknlnmmbfcaaGreatJ07
import Derived.Test.YtajlknlnmmbfcaaGreatJ08
import Derived.WalkKit
import Derived.ProofKit
import Derived.OpenShut
import Derived.ShutString
import Derived.ChangeOld
import Derived.Below
set_option linter.unusedVariables false
set_option linter.unusedSimpArgs false
section
namespace Go.Proofs.YtajlknlnmmbfcaaGreat
open Go Go.Ab Go.Dk
theorem n9 (n : Nat) (v0 : List UInt8) : FF (n + 1) 17 [.one (.fr (.bs v0))] [] =
 (cond (decide (1048576 < (v0.length : Int)))
 (some ([.one (.bool true)], []))
 ((FF n 44 [.one (.fr (.bs v0))] []).bind fun x0 =>
 (rTs x0.1 fun x1 x2 =>
 (ag x2 fun x3 x4 =>
 (ai x4 (aj x0.2
 ((FF n 38 [.one (.fr (.ts x1)), .agg [.int .i64 x3.k, .int .i64 x3.n, .fr (.ts x3.kids)]] []).bind fun x5 =>
 (aC .i64 x5.1 fun x6 x7 =>
 (aC .i64 x7 fun x8 x9 =>
 (ai x9 (aj x5.2
 ((FF n 45 [.one (.fr (.ts x1)), .agg [.int .i64 x3.k, .int .i64 x3.n, .fr (.ts x3.kids)]] []).bind fun x10 =>
 (aC .i64 x10.1 fun x11 x12 =>
 (aC .i64 x12 fun x13 x14 =>
 (ai x14 (aj x10.2
 (cond (!decide (x8 = x13))
 (cond (decide (x8 = x13))
 (cond (decide (x6 = x11))
 (cond (decide (x8 = 0))
 (some ([.one (.bool true)], []))
 (some ([.one (.bool (decide (x6 = 0)))], [])))
 (some ([.one (.bool false)], [])))
 (some ([.one (.bool false)], [])))
 (cond (!decide (x6 = x11))
 (cond (decide (x8 = x13))
 (cond (decide (x6 = x11))
 (cond (decide (x8 = 0))
 (some ([.one (.bool true)], []))
 (some ([.one (.bool (decide (x6 = 0)))], [])))
 (some ([.one (.bool false)], [])))
 (some ([.one (.bool false)], [])))
 (cond (!decide (x8 = 0))
 (cond (decide (x8 = x13))
 (cond (decide (x6 = x11))
 (cond (decide (x8 = 0))
 (some ([.one (.bool true)], []))
 (some ([.one (.bool (decide (x6 = 0)))], [])))
 (some ([.one (.bool false)], [])))
 (some ([.one (.bool false)], [])))
 ((FF n 25 [.one (.fr (.ts x1)), .agg [.int .i64 x3.k, .int .i64 x3.n, .fr (.ts x3.kids)]] []).bind fun x15 =>
 (ag x15.1 fun x16 x17 =>
 (aC .i64 x17 fun x18 x19 =>
 (ai x19 (aj x15.2
 (cond (decide (x18 = 0))
 (cond (decide (0 ≤ x6))
 (cond (decide (x6 ≤ 3))
 ((FF n 26 [.agg [.int .i64 x16.k, .int .i64 x16.n, .fr (.ts x16.kids)], .agg [.int .i64 2, .int .i64 x6, .fr (.ts [])], .one (.int .i64 200)] []).bind fun x20 =>
 (aC .i64 x20.1 fun x21 x22 =>
 (ai x22 (aj x20.2
 (some ([.one (.bool (!decide (x21 = 2)))], []))))))
 (some ([.one (.bool false)], [])))
 (some ([.one (.bool false)], [])))
 (some ([.one (.bool false)], []))))))))))))))))))))))))))) := by kernel_rfl
end Go.Proofs.YtajlknlnmmbfcaaGreat
end
section
namespace Go.Proofs.YtajlknlnmmbfcaaGreat
open Go.ChangeShapes Go.WideShapes Go.ChangeAt Go.RowKit
open Go.ChangeMaps (open_string shut_string)
open Go.Ab Go.Dk
theorem AA (l : List UInt8) : Ev 17 [.one (.fr (.bs l))] [] ([.one (.bool true)], []) := by
 have hB := sW
 have hS := wL
 refine sD (C := BB + BS + 200) fun n hn => ?_
 refine bf (C := BB + BS + 199) hn fun n hn _ => ?_
 rw [n9]
 refine al (fun _ => ⟨_, rfl, rfl⟩) (fun _ => ?_)
 refine ak (lX (by omega) l) ?_
 rintro _ ⟨g, t, rfl, ⟨ht, hd⟩, hg, hgl⟩
 have hgz : ∀ u ∈ g, u.size ≤ 4000000 := fun u hu => by have := ae (hg u hu); omega
 simp only [evt]
 rw [sj (by omega) (by omega) hgz (by omega)]
 simp only [evt]
 rw [vK (by omega) (by omega) hgz (by omega), BU hd]
 simp only [evt]
 by_cases h0 : (soI g t).2 = 0
 ·obtain ⟨G, m, S, i, rfl, rfl, e1, e2, hi, cv, vS, ty, vm, k⟩ := IA h0
  have g1 := Gh (oJ (n := n) (l := cx G) (t := of m) (by omega) (by omega) hgz (by omega))
  rw [e2] at g1
  rw [e1]
  have zS := ae (t := of S) vS
  have c1 := Gh (iu (n := n) (a := of S) (b := of (.sort i)) (f := 200) (by omega) (by omega) (by simp [of, T.size, T.aE]))
  have nc := GV cv
  simp only [of, tm, cP, cQ, az] at c1 g1 nc ⊢
  repeat' (first | (simp (disch := omega) only [wrap64]; done) | (simp (disch := omega) only [wrap64]) | (with_reducible refine al (fun hq => ?_) (fun hq => ?_) <;> (try simp (disch := omega) only [wrap64] at hq) <;> (try simp only [decide_eq_true_eq, decide_eq_false_iff_not, Bool.not_eq_true', Bool.not_eq_false', Bool.and_eq_true, Bool.and_eq_false_iff, inB, Bool.not_true, Bool.not_false] at hq) <;> try (exfalso; omega; done)) | (with_reducible refine ak (g1) ?_; rintro _ rfl; simp only [evt]) | (with_reducible refine ak (c1) ?_; rintro _ rfl; simp only [evt]) | ((with_reducible refine aq ?_); (exact (by simp_all))))
 ·have hj := Gl h0
  repeat' (first | (simp (disch := omega) only [wrap64]; done) | (simp (disch := omega) only [wrap64]) | (with_reducible refine al (fun hq => ?_) (fun hq => ?_) <;> (try simp (disch := omega) only [wrap64] at hq) <;> (try simp only [decide_eq_true_eq, decide_eq_false_iff_not, Bool.not_eq_true', Bool.not_eq_false', Bool.and_eq_true, Bool.and_eq_false_iff, inB, Bool.not_true, Bool.not_false] at hq) <;> try (exfalso; omega; done)) | ((with_reducible refine aq ?_); (exact rfl)) | ((with_reducible refine aq ?_); (exact (by simp [hj]))))
set_option maxRecDepth 100000 in
theorem ox (os : Os) (started : os.Started) (H : Type) (enc : TypeId × Value → H) :
   ReturnsInHanded {} Tryz.checked os 17 .any (Rows.fnSortOfSpec.pre6 enc Tryz.prog Tryz.f17 Rows.fnSortOfRow.domain false) (Rows.fnSortOfSpec.post enc Tryz.prog Tryz.f17 false true false false) := by
 refine returnsInHanded_of_change (C := Tryz.checked) own started (by kernel_rfl) Tryz.func17
  (ChangeSpec.witness6 (enc := enc) (C := Tryz.checked) false ⟨#[], #[.slice none 0 0], []⟩ 8 (by kernel_rfl) (by kernel_rfl) (by kernel_rfl) (by kernel_rfl)) ?_
 intro W base args ds gs before hval0 hW hcnd _
 have hval : ∀ (j : Nat) t v, Tryz.f17.params[j]? = some t → args[j]? = some v → Value.okWide Tryz.prog W .any base t v := hval0
 have hW' := hW
 obtain ⟨p, q, hA0, hV, rfl, hfz, hnd⟩ := hW
 have hA : DataW.TrodAll enc Tryz.prog W 0 (fun _ => true) true Tryz.f17.params.toList args.toList ds p := hA0
 rw [Tryz.params17] at hA hval
 obtain ⟨v0, vs0, d0, ds0, p0, q0, hargs, rfl, rfl, h0, r0⟩ := trodAll_cons hA
 obtain ⟨rfl, rfl, rfl⟩ := trodAll_nil r0
 obtain rfl : args = #[v0] := by cases args; simp_all
 obtain ⟨rfl, rfl⟩ := trodVars_none hV
 have k0 := h0
 have lt0 : ∀ x ∈ p0, x.block < W.heap.size := by obtain ⟨m, hm⟩ := k0; exact DataW.trod_lt m _ _ _ hm
 obtain ⟨l0, w0⟩ := lI Tryz.underlying22 Tryz.underlying5 (by kernel_rfl) (hval 0 22 v0 rfl rfl) h0
 clear hA0 hval0
 refine (Bd Tryz.func17 (by kernel_rfl) (args := [.one (.fr (.bs l0))]) (aw.cons (oa w0) (aw.nil)) (AA l0)).mono fun e W' ⟨he, hg⟩ => ?_
 have bel := hg.below
 subst he
 exact ⟨_, rfl, _, _, _, [], _, [], hW', trodAll_mk1 (shut_bool Tryz.underlying4 _), (trodAll_cons_mk (Below.trod laidOut (by kernel_rfl) (of_decide_eq_true (by kernel_rfl)) k0 bel lt0) trodAll_mk0), rfl, bel.frame _, fun h => by cases h⟩
theorem FnSortOf_holds : Rows.FnSortOfSaid :=
 OpenClaim.holds_of_wide 17 Tryz.f17 rfl rfl rfl rfl rfl rfl rfl ⟨rfl, rfl, rfl, rfl, rfl⟩ rfl rfl rfl rfl rfl (by kernel_rfl) Tryz.func17 (by unfold joinedFacts; rw [Cd, CE, xq]; kernel_rfl)
  (of_decide_eq_true (by kernel_rfl)) (by unfold Func.isWrapper; first | (rw [if_pos (by decide +kernel)]; kernel_rfl) | (rw [if_neg (by decide +kernel)]; exact ⟨rfl, rfl⟩))
  (fun os started H enc _ => ox os started H enc)
#print axioms FnSortOf_holds
end Go.Proofs.YtajlknlnmmbfcaaGreat
end
