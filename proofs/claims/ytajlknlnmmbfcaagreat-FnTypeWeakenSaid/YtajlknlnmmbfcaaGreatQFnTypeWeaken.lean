/- FnTypeWeaken: for every code, the law that contexts can be extended answers true. No condition. -/
import Derived.Test.YtajlknlnmmbfcaaGreatK01
import Derived.Test.YtajlknlnmmbfcaaGreatK02
import Derived.Test.YtajlknlnmmbfcaaGreatK03
import Derived.Test.YtajlknlnmmbfcaaGreatK04
import Derived.Test.YtajlknlnmmbfcaaGreatK05
import Derived.Test.YtajlknlnmmbfcaaGreatK06
import Derived.Test.YtajlknlnmmbfcaaGreatK07
import Derived.Test.YtajlknlnmmbfcaaGreatK08
import Derived.WalkKit
import Derived.ProofKit
import Derived.OpenShut
import Derived.ShutString
import Derived.ChangeOld
import Derived.Below
set_option linter.unusedVariables false
set_option linter.unusedSimpArgs false
section
namespace Go.Proofs.YtajlknlnmmbfcaaGreat
open Go Go.Ab Go.Dk
theorem lD (n : Nat) (v0 : List UInt8) : FF (n + 1) 9 [.one (.fr (.bs v0))] [] =
 (cond (decide (1048576 < (v0.length : Int)))
 (some ([.one (.bool true)], []))
 ((FF n 19 [.one (.fr (.bs v0))] []).bind fun x0 =>
 (rTs x0.1 fun x1 x2 =>
 (ah x2 fun x3 x4 =>
 (ai x4 (aj x0.2
 ((FF n 25 [.one (.fr (.ts x1)), .agg [.int .i64 x3.k, .int .i64 x3.n, .fr (.ts x3.kids)]] []).bind fun x5 =>
 (ah x5.1 fun x6 x7 =>
 (aw .i64 x7 fun x8 x9 =>
 (ai x9 (aj x5.2
 ((FF n 40 [.one (.fr (.ts x1)), .agg [.int .i64 x3.k, .int .i64 x3.n, .fr (.ts x3.kids)]] []).bind fun x10 =>
 (ah x10.1 fun x11 x12 =>
 (aw .i64 x12 fun x13 x14 =>
 (ai x14 (aj x10.2
 (cond (!decide (x8 = x13))
 (cond (decide (x8 = x13))
 ((FF n 22 [.agg [.int .i64 x6.k, .int .i64 x6.n, .fr (.ts x6.kids)], .agg [.int .i64 x11.k, .int .i64 x11.n, .fr (.ts x11.kids)]] []).bind fun x15 =>
 (ar x15.1 fun x16 x17 =>
 (ai x17 (aj x15.2
 (some ([.one (.bool x16)], []))))))
 (some ([.one (.bool false)], [])))
 ((FF n 22 [.agg [.int .i64 x6.k, .int .i64 x6.n, .fr (.ts x6.kids)], .agg [.int .i64 x11.k, .int .i64 x11.n, .fr (.ts x11.kids)]] []).bind fun x15 =>
 (ar x15.1 fun x16 x17 =>
 (ai x17 (aj x15.2
 (cond (!x16)
 (cond (decide (x8 = x13))
 ((FF n 22 [.agg [.int .i64 x6.k, .int .i64 x6.n, .fr (.ts x6.kids)], .agg [.int .i64 x11.k, .int .i64 x11.n, .fr (.ts x11.kids)]] []).bind fun x18 =>
 (ar x18.1 fun x19 x20 =>
 (ai x20 (aj x18.2
 (some ([.one (.bool x19)], []))))))
 (some ([.one (.bool false)], [])))
 (cond (!decide (x8 = 0))
 (cond (decide (x8 = x13))
 ((FF n 22 [.agg [.int .i64 x6.k, .int .i64 x6.n, .fr (.ts x6.kids)], .agg [.int .i64 x11.k, .int .i64 x11.n, .fr (.ts x11.kids)]] []).bind fun x18 =>
 (ar x18.1 fun x19 x20 =>
 (ai x20 (aj x18.2
 (some ([.one (.bool x19)], []))))))
 (some ([.one (.bool false)], [])))
 (cond (cn ([] ++ x1).length)
 (cond (cn (([] ++ x1) ++ [(T.mk 6 0 [])]).length)
 ((FF n 39 [.agg [.int .i64 x3.k, .int .i64 x3.n, .fr (.ts x3.kids)], .one (.int .i64 1), .one (.int .i64 0)] []).bind fun x18 =>
 (ah x18.1 fun x19 x20 =>
 (ar x20 fun x21 x22 =>
 (ai x22 (aj x18.2
 ((FF n 39 [.agg [.int .i64 x6.k, .int .i64 x6.n, .fr (.ts x6.kids)], .one (.int .i64 1), .one (.int .i64 0)] []).bind fun x23 =>
 (ah x23.1 fun x24 x25 =>
 (ar x25 fun x26 x27 =>
 (ai x27 (aj x23.2
 ((FF n 25 [.one (.fr (.ts (([] ++ x1) ++ [(T.mk 6 0 [])]))), .agg [.int .i64 x19.k, .int .i64 x19.n, .fr (.ts x19.kids)]] []).bind fun x28 =>
 (ah x28.1 fun x29 x30 =>
 (aw .i64 x30 fun x31 x32 =>
 (ai x32 (aj x28.2
 (cond (!x21)
 (some ([.one (.bool true)], []))
 (cond (!x26)
 (some ([.one (.bool true)], []))
 (cond (decide (x31 = 2))
 (some ([.one (.bool true)], []))
 (cond (decide (x31 = 3))
 (some ([.one (.bool true)], []))
 (cond (decide (x31 = 0))
 ((FF n 22 [.agg [.int .i64 x24.k, .int .i64 x24.n, .fr (.ts x24.kids)], .agg [.int .i64 x29.k, .int .i64 x29.n, .fr (.ts x29.kids)]] []).bind fun x33 =>
 (ar x33.1 fun x34 x35 =>
 (ai x35 (aj x33.2
 (some ([.one (.bool x34)], []))))))
 (some ([.one (.bool false)], []))))))))))))))))))))))
 none)
 none)))))))))))))))))))))))) := by kernel_rfl
end Go.Proofs.YtajlknlnmmbfcaaGreat
end
section
namespace Go.Proofs.YtajlknlnmmbfcaaGreat
open Go.ChangeShapes Go.WideShapes Go.ChangeAt Go.RowKit
open Go.ChangeMaps (open_string shut_string)
open Go.Ab Go.Dk
open Tm (tI cc lvr Wf)
theorem Jr {l : List T} {t : T} (h : 8 < l.length) : itI l t = (.mk 0 0 [], 3) := by
 unfold itI okA; rw [if_neg (by simp; omega)]
theorem C3 {G : List Tm} {m A : Tm} (k : Ok G m A) (vm : vdM m.wk = true) (vA : vdM A.wk = true) : (itI (cx (.nat :: G)) (of m.wk)).2 = 3 ∨ (itI (cx (.nat :: G)) (of m.wk)).2 = 2 ∨ itI (cx (.nat :: G)) (of m.wk) = (of A.wk, 0) := by
 by_cases h : 8 < (cx (.nat :: G)).length
 ·left; rw [Jr h]
 right
 rw [bO, List.length_cons] at h
 have hG : ∀ B ∈ Tm.nat :: G, vdM B = true := fun B hB => by
  rcases List.mem_cons.1 hB with rfl | hB
  ·exact aH.v_nat
  ·exact k.hG B hB
 obtain ⟨C, hc⟩ := k.c
 have c' : ∃ B, cc O (tI O) (.nat :: G) = .ok B := ⟨_, Tm.IP hc (by rw [Tm.H8]; exact Tm.BI AJ)⟩
 have w' : Wf (.nat :: G) := .cons k.w (i := 0) .nat
 rcases kh hG (by simp only [List.length_cons]; omega) c' w' vm (k.ty.wk .nat) with h2 | ⟨B, h2, h3, _⟩
 ·exact .inl h2
 ·right; rw [h2, Tm.I6 aH k.w k.e w' h3]
theorem ri (l : List UInt8) : Ev 9 [.one (.fr (.bs l))] [] ([.one (.bool true)], []) := by
 have hB := iV
 have hS := lq
 refine dn (C := BB + BS + 20) fun n hn => ?_
 refine aK (C := BB + BS + 19) hn fun n hn _ => ?_
 rw [lD]
 refine al (fun _ => ⟨_, rfl, rfl⟩) (fun _ => ?_)
 refine af (bo (by omega) l) ?_
 rintro _ ⟨g, t, rfl, ⟨ht, hd⟩, hg, hgl⟩
 have hgz : ∀ u ∈ g, u.size ≤ 4000000 := fun u hu => by have := ae (hg u hu); omega
 have zi := gl (l := g) (t := t)
 simp only [evt]
 rw [aZ (by omega) (by omega) hgz (by omega)]
 simp only [evt]
 rw [cQ (by omega) (by omega) hgz (by omega), iy hd]
 simp only [evt]
 have s1 := eW (n := n) (a := (itI g t).1) (by omega) (by omega)
 by_cases h0 : (itI g t).2 = 0
 ·obtain ⟨G, m, A, rfl, rfl, e, k⟩ := gp h0
  rw [e] at h0 s1 ⊢
  have zm := ae k.v
  have zA := ae k.vA
  have i1 := nH (ly (n := n) (m := m) (a := 1) (by omega) k.v (by omega))
  have i2 := nH (ly (n := n) (m := A) (a := 1) (by omega) k.vA (by omega))
  have hx : cx (Tm.nat :: G) = cx G ++ [.mk 6 0 []] := by simp [cx, of]
  have hz2 : ∀ u ∈ cx (Tm.nat :: G), u.size ≤ 4000000 := fun u hu => by
   rw [hx] at hu
   rcases List.mem_append.1 hu with h | h
   ·exact hgz u h
   ·rw [List.mem_singleton.1 h]; decide
  have zo : (okT (of m.wk)).size ≤ 400 := by
   unfold okT; split
   ·exact ae ‹_›
   ·decide
  have g2 := nH (aZ (n := n) (l := cx (Tm.nat :: G)) (t := okT (of m.wk)) (by omega) (by rw [hx]; simp; omega) hz2 (by omega))
  rw [hx] at g2
  have i1 : Tot (FF n 39 [tm (of m), nt 1, nt 0] []) (fun r => r = ([tm (okT (of m.wk)), bl (vdM m.wk)], [])) := i1
  have i2 : Tot (FF n 39 [tm (of A), nt 1, nt 0] []) (fun r => r = ([tm (okT (of A.wk)), bl (vdM A.wk)], [])) := i2
  cases vm : vdM m.wk with
  | false => rw [vm] at i1; repeat' (first | (simp (disch := omega) only [wrap64]; done) | (simp (disch := omega) only [wrap64]) | (with_reducible refine al (fun hq => ?_) (fun hq => ?_) <;> (try simp (disch := omega) only [wrap64] at hq) <;> (try simp only [decide_eq_true_eq, decide_eq_false_iff_not, Bool.not_eq_true', Bool.not_eq_false', Bool.and_eq_true, Bool.and_eq_false_iff, inB, Bool.not_true, Bool.not_false] at hq) <;> try (exfalso; omega; done)) | (with_reducible refine af (s1) ?_; rintro _ rfl; simp only [evt]) | (with_reducible refine af (i1) ?_; rintro _ rfl; simp only [evt]) | (with_reducible refine af (i2) ?_; rintro _ rfl; simp only [evt]) | (with_reducible refine af (g2) ?_; rintro _ rfl; simp only [evt]) | ((rw [List.nil_append])) | ((exact absurd hq (by rw [aL (by simp; omega)]; decide))) | ((with_reducible refine aq ?_); (exact (by simp))))
  | true =>
   rw [vm] at i1
   cases vA : vdM A.wk with
   | false => rw [vA] at i2; repeat' (first | (simp (disch := omega) only [wrap64]; done) | (simp (disch := omega) only [wrap64]) | (with_reducible refine al (fun hq => ?_) (fun hq => ?_) <;> (try simp (disch := omega) only [wrap64] at hq) <;> (try simp only [decide_eq_true_eq, decide_eq_false_iff_not, Bool.not_eq_true', Bool.not_eq_false', Bool.and_eq_true, Bool.and_eq_false_iff, inB, Bool.not_true, Bool.not_false] at hq) <;> try (exfalso; omega; done)) | (with_reducible refine af (s1) ?_; rintro _ rfl; simp only [evt]) | (with_reducible refine af (i1) ?_; rintro _ rfl; simp only [evt]) | (with_reducible refine af (i2) ?_; rintro _ rfl; simp only [evt]) | (with_reducible refine af (g2) ?_; rintro _ rfl; simp only [evt]) | ((rw [List.nil_append])) | ((exact absurd hq (by rw [aL (by simp; omega)]; decide))) | ((with_reducible refine aq ?_); (exact (by simp))))
   | true =>
    rw [vA] at i2
    have h1 := C3 k vm vA
    rw [hx] at h1
    rw [cE (show ak (of m.wk) = true from vm)] at i1 g2
    rw [cE (show ak (of A.wk) = true from vA)] at i2
    have zA2 := ae vA
    rcases h1 with h1 | h1 | h1
    ·repeat' (first | (simp (disch := omega) only [wrap64]; done) | (simp (disch := omega) only [wrap64]) | (with_reducible refine al (fun hq => ?_) (fun hq => ?_) <;> (try simp (disch := omega) only [wrap64] at hq) <;> (try simp only [decide_eq_true_eq, decide_eq_false_iff_not, Bool.not_eq_true', Bool.not_eq_false', Bool.and_eq_true, Bool.and_eq_false_iff, inB, Bool.not_true, Bool.not_false] at hq) <;> try (exfalso; omega; done)) | (with_reducible refine af (s1) ?_; rintro _ rfl; simp only [evt]) | (with_reducible refine af (i1) ?_; rintro _ rfl; simp only [evt]) | (with_reducible refine af (i2) ?_; rintro _ rfl; simp only [evt]) | (with_reducible refine af (g2) ?_; rintro _ rfl; simp only [evt]) | ((rw [List.nil_append])) | ((exact absurd hq (by rw [aL (by simp; omega)]; decide))) | ((with_reducible refine aq ?_); (exact (by simp [h1]))))
    ·repeat' (first | (simp (disch := omega) only [wrap64]; done) | (simp (disch := omega) only [wrap64]) | (with_reducible refine al (fun hq => ?_) (fun hq => ?_) <;> (try simp (disch := omega) only [wrap64] at hq) <;> (try simp only [decide_eq_true_eq, decide_eq_false_iff_not, Bool.not_eq_true', Bool.not_eq_false', Bool.and_eq_true, Bool.and_eq_false_iff, inB, Bool.not_true, Bool.not_false] at hq) <;> try (exfalso; omega; done)) | (with_reducible refine af (s1) ?_; rintro _ rfl; simp only [evt]) | (with_reducible refine af (i1) ?_; rintro _ rfl; simp only [evt]) | (with_reducible refine af (i2) ?_; rintro _ rfl; simp only [evt]) | (with_reducible refine af (g2) ?_; rintro _ rfl; simp only [evt]) | ((rw [List.nil_append])) | ((exact absurd hq (by rw [aL (by simp; omega)]; decide))) | ((with_reducible refine aq ?_); (exact (by simp [h1]))))
    ·rw [h1] at g2
     have s2 := eW (n := n) (a := of A.wk) (by omega) (by omega)
     repeat' (first | (simp (disch := omega) only [wrap64]; done) | (simp (disch := omega) only [wrap64]) | (with_reducible refine al (fun hq => ?_) (fun hq => ?_) <;> (try simp (disch := omega) only [wrap64] at hq) <;> (try simp only [decide_eq_true_eq, decide_eq_false_iff_not, Bool.not_eq_true', Bool.not_eq_false', Bool.and_eq_true, Bool.and_eq_false_iff, inB, Bool.not_true, Bool.not_false] at hq) <;> try (exfalso; omega; done)) | (with_reducible refine af (s1) ?_; rintro _ rfl; simp only [evt]) | (with_reducible refine af (i1) ?_; rintro _ rfl; simp only [evt]) | (with_reducible refine af (i2) ?_; rintro _ rfl; simp only [evt]) | (with_reducible refine af (g2) ?_; rintro _ rfl; simp only [evt]) | (with_reducible refine af (s2) ?_; rintro _ rfl; simp only [evt]) | ((rw [List.nil_append])) | ((exact absurd hq (by rw [aL (by simp; omega)]; decide))) | ((with_reducible refine aq ?_); (exact (by simp))))
 ·repeat' (first | (simp (disch := omega) only [wrap64]; done) | (simp (disch := omega) only [wrap64]) | (with_reducible refine al (fun hq => ?_) (fun hq => ?_) <;> (try simp (disch := omega) only [wrap64] at hq) <;> (try simp only [decide_eq_true_eq, decide_eq_false_iff_not, Bool.not_eq_true', Bool.not_eq_false', Bool.and_eq_true, Bool.and_eq_false_iff, inB, Bool.not_true, Bool.not_false] at hq) <;> try (exfalso; omega; done)) | (with_reducible refine af (s1) ?_; rintro _ rfl; simp only [evt]) | ((with_reducible refine aq ?_); (exact rfl)))
set_option maxRecDepth 100000 in
theorem lx (os : Os) (started : os.Started) (H : Type) (enc : TypeId × Value → H) :
   ReturnsInHanded {} Tryz.checked os 9 .any (Rows.fnTypeWeakenSpec.pre6 enc Tryz.prog Tryz.f9 Rows.fnTypeWeakenRow.domain false) (Rows.fnTypeWeakenSpec.post enc Tryz.prog Tryz.f9 false true false false) := by
 refine returnsInHanded_of_change (C := Tryz.checked) own started (by kernel_rfl) Tryz.func9
  (ChangeSpec.witness6 (enc := enc) (C := Tryz.checked) false ⟨#[], #[.slice none 0 0], []⟩ 8 (by kernel_rfl) (by kernel_rfl) (by kernel_rfl) (by kernel_rfl)) ?_
 intro W base args ds gs before hval0 hW hcnd _
 have hval : ∀ (j : Nat) t v, Tryz.f9.params[j]? = some t → args[j]? = some v → Value.okWide Tryz.prog W .any base t v := hval0
 have hW' := hW
 obtain ⟨p, q, hA0, hV, rfl, hfz, hnd⟩ := hW
 have hA : DataW.TrodAll enc Tryz.prog W 0 (fun _ => true) true Tryz.f9.params.toList args.toList ds p := hA0
 rw [Tryz.params9] at hA hval
 obtain ⟨v0, vs0, d0, ds0, p0, q0, hargs, rfl, rfl, h0, r0⟩ := trodAll_cons hA
 obtain ⟨rfl, rfl, rfl⟩ := trodAll_nil r0
 obtain rfl : args = #[v0] := by cases args; simp_all
 obtain ⟨rfl, rfl⟩ := trodVars_none hV
 have k0 := h0
 have lt0 : ∀ x ∈ p0, x.block < W.heap.size := by obtain ⟨m, hm⟩ := k0; exact DataW.trod_lt m _ _ _ hm
 obtain ⟨l0, w0⟩ := bM Tryz.underlying22 Tryz.underlying5 (by kernel_rfl) (hval 0 22 v0 rfl rfl) h0
 clear hA0 hval0
 refine (iP Tryz.func9 (by kernel_rfl) (args := [.one (.fr (.bs l0))]) (ax.cons (b9 w0) (ax.nil)) (ri l0)).mono fun e W' ⟨he, hg⟩ => ?_
 have bel := hg.below
 subst he
 exact ⟨_, rfl, _, _, _, [], _, [], hW', trodAll_mk1 (shut_bool Tryz.underlying4 _), (trodAll_cons_mk (Below.trod laidOut (by kernel_rfl) (of_decide_eq_true (by kernel_rfl)) k0 bel lt0) trodAll_mk0), rfl, bel.frame _, fun h => by cases h⟩
theorem FnTypeWeaken_holds : Rows.FnTypeWeakenSaid :=
 OpenClaim.holds_of_wide 9 Tryz.f9 rfl rfl rfl rfl rfl rfl rfl ⟨rfl, rfl, rfl, rfl, rfl⟩ rfl rfl rfl rfl rfl (by kernel_rfl) Tryz.func9 (by unfold joinedFacts; rw [iJ, iI, fe]; kernel_rfl)
  (of_decide_eq_true (by kernel_rfl)) (by unfold Func.isWrapper; first | (rw [if_pos (by decide +kernel)]; kernel_rfl) | (rw [if_neg (by decide +kernel)]; exact ⟨rfl, rfl⟩))
  (fun os started H enc _ => lx os started H enc)
#print axioms FnTypeWeaken_holds
end Go.Proofs.YtajlknlnmmbfcaaGreat
end
