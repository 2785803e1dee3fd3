/- FnCheckType: for every code, the law that types are unique answers true. No condition. -/
import Derived.Test.YtajlknlnmmbfcaaGreatJ01
import Derived.Test.YtajlknlnmmbfcaaGreatJ02
import Derived.Test.YtajlknlnmmbfcaaGreatJ03
import Derived.Test.YtajlknlnmmbfcaaGreatJ04
import Derived.Test.YtajlknlnmmbfcaaGreatJ05
import Derived.Test.YtajlknlnmmbfcaaGreatJ06
import Derived.Test.YtajlknlnmmbfcaaGreatJ07
import Derived.Test.YtajlknlnmmbfcaaGreatJ08
import Derived.WalkKit
import Derived.ProofKit
import Derived.OpenShut
import Derived.ShutString
import Derived.ChangeOld
import Derived.Below
set_option linter.unusedVariables false
set_option linter.unusedSimpArgs false
section
namespace Go.Proofs.YtajlknlnmmbfcaaGreat
open Go Go.Ab Go.Dk
theorem kp (n : Nat) (v0 : List UInt8) : FF (n + 1) 18 [.one (.fr (.bs v0))] [] =
 (cond (decide (1048576 < (v0.length : Int)))
 (some ([.one (.bool true)], []))
 ((FF n 46 [.one (.fr (.bs v0))] []).bind fun x0 =>
 (rTs x0.1 fun x1 x2 =>
 (ag x2 fun x3 x4 =>
 (ag x4 fun x5 x6 =>
 (ai x6 (aj x0.2
 ((FF n 23 [.one (.fr (.ts x1)), .agg [.int .i64 x3.k, .int .i64 x3.n, .fr (.ts x3.kids)], .agg [.int .i64 x5.k, .int .i64 x5.n, .fr (.ts x5.kids)]] []).bind fun x7 =>
 (aC .i64 x7.1 fun x8 x9 =>
 (ai x9 (aj x7.2
 ((FF n 25 [.one (.fr (.ts x1)), .agg [.int .i64 x3.k, .int .i64 x3.n, .fr (.ts x3.kids)]] []).bind fun x10 =>
 (ag x10.1 fun x11 x12 =>
 (aC .i64 x12 fun x13 x14 =>
 (ai x14 (aj x10.2
 ((FF n 47 [.one (.fr (.ts x1)), .agg [.int .i64 x3.k, .int .i64 x3.n, .fr (.ts x3.kids)], .agg [.int .i64 x5.k, .int .i64 x5.n, .fr (.ts x5.kids)]] []).bind fun x15 =>
 (aC .i64 x15.1 fun x16 x17 =>
 (ai x17 (aj x15.2
 (cond (!decide (x8 = x16))
 ((FF n 47 [.one (.fr (.ts x1)), .agg [.int .i64 x3.k, .int .i64 x3.n, .fr (.ts x3.kids)], .agg [.int .i64 x5.k, .int .i64 x5.n, .fr (.ts x5.kids)]] []).bind fun x18 =>
 (aC .i64 x18.1 fun x19 x20 =>
 (ai x20 (aj x18.2
 (some ([.one (.bool (decide (x8 = x19)))], []))))))
 (cond (!decide (x8 = 0))
 ((FF n 47 [.one (.fr (.ts x1)), .agg [.int .i64 x3.k, .int .i64 x3.n, .fr (.ts x3.kids)], .agg [.int .i64 x5.k, .int .i64 x5.n, .fr (.ts x5.kids)]] []).bind fun x18 =>
 (aC .i64 x18.1 fun x19 x20 =>
 (ai x20 (aj x18.2
 (some ([.one (.bool (decide (x8 = x19)))], []))))))
 ((FF n 23 [.one (.fr (.ts x1)), .agg [.int .i64 x3.k, .int .i64 x3.n, .fr (.ts x3.kids)], .agg [.int .i64 x11.k, .int .i64 x11.n, .fr (.ts x11.kids)]] []).bind fun x18 =>
 (aC .i64 x18.1 fun x19 x20 =>
 (ai x20 (aj x18.2
 (cond (decide (x13 = 0))
 ((FF n 26 [.agg [.int .i64 x11.k, .int .i64 x11.n, .fr (.ts x11.kids)], .agg [.int .i64 x5.k, .int .i64 x5.n, .fr (.ts x5.kids)], .one (.int .i64 200)] []).bind fun x21 =>
 (aC .i64 x21.1 fun x22 x23 =>
 (ai x23 (aj x21.2
 (cond (decide (x22 = 1))
 (cond (decide (x19 = 0))
 (some ([.one (.bool true)], []))
 (some ([.one (.bool (decide (x19 = 2)))], [])))
 (some ([.one (.bool false)], [])))))))
 (some ([.one (.bool false)], []))))))))))))))))))))))))))))) := by kernel_rfl
end Go.Proofs.YtajlknlnmmbfcaaGreat
end
section
namespace Go.Proofs.YtajlknlnmmbfcaaGreat
open Go.ChangeShapes Go.WideShapes Go.ChangeAt Go.RowKit
open Go.ChangeMaps (open_string shut_string)
open Go.Ab Go.Dk
open Tm (tI)
theorem G6 {G : List Tm} {m u : Tm} (k : OkC G) (vm : vdM m = true) (vu : vdM u = true) (h : ctI (cx G) (of m) (of u) = 0) : ∃ A, itI (cx G) (of m) = (of A, 0) ∧ vdM A = true ∧ qO (of A) (of u) 200 = 1 ∧ (ctI (cx G) (of m) (of A) = 0 ∨ ctI (cx G) (of m) (of A) = 2) := by
 obtain ⟨A, i, y, e, tu, tmu, cv, sm, _⟩ := GP k.hG k.h8 k.c k.w vm vu h
 have vA := Tm.As aF k.w vm e
 have tA := (Tm.An aF k.w e).sound k.w
 refine ⟨A, by rw [I9 k.hG k.h8 k.c vm, e]; rfl, vA, HL sm, ?_⟩
 rw [ID k.hG k.h8 k.c vm vA, e]
 rcases tA.valid k.w with rfl | ⟨j, hj⟩
 ·exact (JB k.w tu cv).elim
 ·rcases xY k.h8 k.w vA hj with e2 | e2
  ·rw [e2]; exact .inr rfl
  ·rw [e2]
   left
   show sts (Tm.ckr O (.ok A) A) = 0
   unfold Tm.ckr Tm.chk Tm.sq
   simp only [G8 vA]; rfl
theorem rX (l : List UInt8) : Ev 18 [.one (.fr (.bs l))] [] ([.one (.bool true)], []) := by
 have hB := sW
 have hS := wL
 refine sD (C := BB + BS + 200) fun n hn => ?_
 refine bf (C := BB + BS + 199) hn fun n hn _ => ?_
 rw [kp]
 refine al (fun _ => ⟨_, rfl, rfl⟩) (fun _ => ?_)
 refine ak (jf (by omega) l) ?_
 rintro _ ⟨g, x, y, rfl, ⟨hx, dx⟩, ⟨hy, dy⟩, hg, hgl⟩
 have hgz : ∀ u ∈ g, u.size ≤ 4000000 := fun u hu => by have := ae (hg u hu); omega
 have zi := Ez (l := g) (t := x)
 simp only [evt]
 rw [oT (by omega) (by omega) hgz (by omega) (by omega)]
 simp only [evt]
 rw [oJ (by omega) (by omega) hgz (by omega)]
 simp only [evt]
 have g2 := td (n := n) (l := g) (t := x) (u := y) (by omega) (by omega) hgz (by omega) (by omega)
 rw [Gz dx dy] at g2
 rw [g2]
 simp only [evt]
 have g2 := Gh g2
 have g1 := Gh (oT (n := n) (l := g) (t := x) (u := (itI g x).1) (by omega) (by omega) hgz (by omega) (by omega))
 have c1 := Gh (iu (n := n) (a := (itI g x).1) (b := y) (f := 200) (by omega) (by omega) (by omega))
 by_cases h0 : ctI g x y = 0
 ·obtain ⟨G, m, u, rfl, rfl, rfl, vm, vu, k⟩ := Ib h0
  obtain ⟨A, e, vA, e2, e3⟩ := G6 k vm vu h0
  rw [e] at g1 c1 ⊢
  rw [e2] at c1
  rcases e3 with e3 | e3
  ·rw [e3] at g1
   repeat' (first | (simp (disch := omega) only [wrap64]; done) | (simp (disch := omega) only [wrap64]) | (with_reducible refine al (fun hq => ?_) (fun hq => ?_) <;> (try simp (disch := omega) only [wrap64] at hq) <;> (try simp only [decide_eq_true_eq, decide_eq_false_iff_not, Bool.not_eq_true', Bool.not_eq_false', Bool.and_eq_true, Bool.and_eq_false_iff, inB, Bool.not_true, Bool.not_false] at hq) <;> try (exfalso; omega; done)) | (with_reducible refine ak (g1) ?_; rintro _ rfl; simp only [evt]) | (with_reducible refine ak (c1) ?_; rintro _ rfl; simp only [evt]) | ((with_reducible refine aq ?_); (exact rfl)))
  ·rw [e3] at g1
   repeat' (first | (simp (disch := omega) only [wrap64]; done) | (simp (disch := omega) only [wrap64]) | (with_reducible refine al (fun hq => ?_) (fun hq => ?_) <;> (try simp (disch := omega) only [wrap64] at hq) <;> (try simp only [decide_eq_true_eq, decide_eq_false_iff_not, Bool.not_eq_true', Bool.not_eq_false', Bool.and_eq_true, Bool.and_eq_false_iff, inB, Bool.not_true, Bool.not_false] at hq) <;> try (exfalso; omega; done)) | (with_reducible refine ak (g1) ?_; rintro _ rfl; simp only [evt]) | (with_reducible refine ak (c1) ?_; rintro _ rfl; simp only [evt]) | ((with_reducible refine aq ?_); (exact rfl)))
 ·repeat' (first | (simp (disch := omega) only [wrap64]; done) | (simp (disch := omega) only [wrap64]) | (with_reducible refine al (fun hq => ?_) (fun hq => ?_) <;> (try simp (disch := omega) only [wrap64] at hq) <;> (try simp only [decide_eq_true_eq, decide_eq_false_iff_not, Bool.not_eq_true', Bool.not_eq_false', Bool.and_eq_true, Bool.and_eq_false_iff, inB, Bool.not_true, Bool.not_false] at hq) <;> try (exfalso; omega; done)) | (with_reducible refine ak (g2) ?_; rintro _ rfl; simp only [evt]) | ((with_reducible refine aq ?_); (exact (by simp))))
set_option maxRecDepth 100000 in
theorem kf (os : Os) (started : os.Started) (H : Type) (enc : TypeId × Value → H) :
   ReturnsInHanded {} Tryz.checked os 18 .any (Rows.fnCheckTypeSpec.pre6 enc Tryz.prog Tryz.f18 Rows.fnCheckTypeRow.domain false) (Rows.fnCheckTypeSpec.post enc Tryz.prog Tryz.f18 false true false false) := by
 refine returnsInHanded_of_change (C := Tryz.checked) own started (by kernel_rfl) Tryz.func18
  (ChangeSpec.witness6 (enc := enc) (C := Tryz.checked) false ⟨#[], #[.slice none 0 0], []⟩ 8 (by kernel_rfl) (by kernel_rfl) (by kernel_rfl) (by kernel_rfl)) ?_
 intro W base args ds gs before hval0 hW hcnd _
 have hval : ∀ (j : Nat) t v, Tryz.f18.params[j]? = some t → args[j]? = some v → Value.okWide Tryz.prog W .any base t v := hval0
 have hW' := hW
 obtain ⟨p, q, hA0, hV, rfl, hfz, hnd⟩ := hW
 have hA : DataW.TrodAll enc Tryz.prog W 0 (fun _ => true) true Tryz.f18.params.toList args.toList ds p := hA0
 rw [Tryz.params18] at hA hval
 obtain ⟨v0, vs0, d0, ds0, p0, q0, hargs, rfl, rfl, h0, r0⟩ := trodAll_cons hA
 obtain ⟨rfl, rfl, rfl⟩ := trodAll_nil r0
 obtain rfl : args = #[v0] := by cases args; simp_all
 obtain ⟨rfl, rfl⟩ := trodVars_none hV
 have k0 := h0
 have lt0 : ∀ x ∈ p0, x.block < W.heap.size := by obtain ⟨m, hm⟩ := k0; exact DataW.trod_lt m _ _ _ hm
 obtain ⟨l0, w0⟩ := lI Tryz.underlying22 Tryz.underlying5 (by kernel_rfl) (hval 0 22 v0 rfl rfl) h0
 clear hA0 hval0
 refine (Bd Tryz.func18 (by kernel_rfl) (args := [.one (.fr (.bs l0))]) (aw.cons (oa w0) (aw.nil)) (rX l0)).mono fun e W' ⟨he, hg⟩ => ?_
 have bel := hg.below
 subst he
 exact ⟨_, rfl, _, _, _, [], _, [], hW', trodAll_mk1 (shut_bool Tryz.underlying4 _), (trodAll_cons_mk (Below.trod laidOut (by kernel_rfl) (of_decide_eq_true (by kernel_rfl)) k0 bel lt0) trodAll_mk0), rfl, bel.frame _, fun h => by cases h⟩
theorem FnCheckType_holds : Rows.FnCheckTypeSaid :=
 OpenClaim.holds_of_wide 18 Tryz.f18 rfl rfl rfl rfl rfl rfl rfl ⟨rfl, rfl, rfl, rfl, rfl⟩ rfl rfl rfl rfl rfl (by kernel_rfl) Tryz.func18 (by unfold joinedFacts; rw [Cd, CE, xq]; kernel_rfl)
  (of_decide_eq_true (by kernel_rfl)) (by unfold Func.isWrapper; first | (rw [if_pos (by decide +kernel)]; kernel_rfl) | (rw [if_neg (by decide +kernel)]; exact ⟨rfl, rfl⟩))
  (fun os started H enc _ => kf os started H enc)
#print axioms FnCheckType_holds
end Go.Proofs.YtajlknlnmmbfcaaGreat
end
