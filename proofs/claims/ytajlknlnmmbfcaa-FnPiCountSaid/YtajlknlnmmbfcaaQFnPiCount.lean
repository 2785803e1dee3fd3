/- FnPiCount: for every code, the law that empty contexts change nothing answers true. No condition. -/
import Derived.Test.YtajlknlnmmbfcaaK01
import Derived.Test.YtajlknlnmmbfcaaK02
import Derived.Test.YtajlknlnmmbfcaaK03
import Derived.Test.YtajlknlnmmbfcaaK04
import Derived.Test.YtajlknlnmmbfcaaK05
import Derived.Test.YtajlknlnmmbfcaaK06
import Derived.Test.YtajlknlnmmbfcaaK07
import Derived.WalkKit
import Derived.ProofKit
import Derived.OpenShut
import Derived.ShutString
import Derived.ChangeOld
import Derived.Below
set_option linter.unusedVariables false
set_option linter.unusedSimpArgs false
section
namespace Go.Proofs.Ytajlknlnmmbfcaa
open Go Go.Ab Go.Dk
theorem mf (n : Nat) (v0 : List UInt8) : FF (n + 1) 4 [.one (.fr (.bs v0))] [] =
 (cond (decide (1048576 < (v0.length : Int)))
 (some ([.one (.bool true)], []))
 ((FF n 11 [.one (.fr (.bs v0))] []).bind fun x0 =>
 (rTs x0.1 fun x1 x2 =>
 (ag x2 fun x3 x4 =>
 (ai x4 (aj x0.2
 ((FF n 12 [.one (.fr (.ts x1)), .agg [.int .i64 x3.k, .int .i64 x3.n, .fr (.ts x3.kids)]] []).bind fun x5 =>
 (ag x5.1 fun x6 x7 =>
 (aD x7 fun x8 x9 =>
 (ai x9 (aj x5.2
 ((FF n 13 [.one (.fr (.ts x1)), .agg [.int .i64 x3.k, .int .i64 x3.n, .fr (.ts x3.kids)]] []).bind fun x10 =>
 (ag x10.1 fun x11 x12 =>
 (aD x12 fun x13 x14 =>
 (ai x14 (aj x10.2
 ((FF n 12 [.one (.fr (.ts [])), .agg [.int .i64 x3.k, .int .i64 x3.n, .fr (.ts x3.kids)]] []).bind fun x15 =>
 (ag x15.1 fun x16 x17 =>
 (aD x17 fun x18 x19 =>
 (ai x19 (aj x15.2
 ((FF n 14 [.one (.fr (.ts [])), .agg [.int .i64 x3.k, .int .i64 x3.n, .fr (.ts x3.kids)]] []).bind fun x20 =>
 (ag x20.1 fun x21 x22 =>
 (aD x22 fun x23 x24 =>
 (ai x24 (aj x20.2
 (cond (!decide (x8 = x13))
 (some ([.one (.bool false)], []))
 ((FF n 15 [.agg [.int .i64 x6.k, .int .i64 x6.n, .fr (.ts x6.kids)], .agg [.int .i64 x11.k, .int .i64 x11.n, .fr (.ts x11.kids)]] []).bind fun x25 =>
 (aD x25.1 fun x26 x27 =>
 (ai x27 (aj x25.2
 (cond (!x26)
 (some ([.one (.bool false)], []))
 (cond (!decide (x18 = x23))
 (some ([.one (.bool false)], []))
 (cond x18
 ((FF n 15 [.agg [.int .i64 x16.k, .int .i64 x16.n, .fr (.ts x16.kids)], .agg [.int .i64 x3.k, .int .i64 x3.n, .fr (.ts x3.kids)]] []).bind fun x28 =>
 (aD x28.1 fun x29 x30 =>
 (ai x30 (aj x28.2
 (cond (!x29)
 (some ([.one (.bool false)], []))
 ((FF n 15 [.agg [.int .i64 x21.k, .int .i64 x21.n, .fr (.ts x21.kids)], .agg [.int .i64 x3.k, .int .i64 x3.n, .fr (.ts x3.kids)]] []).bind fun x31 =>
 (aD x31.1 fun x32 x33 =>
 (ai x33 (aj x31.2
 (cond (!x32)
 (some ([.one (.bool false)], []))
 (cond (!x8)
 (some ([.one (.bool true)], []))
 ((FF n 16 [.agg [.int .i64 x6.k, .int .i64 x6.n, .fr (.ts x6.kids)]] []).bind fun x34 =>
 (aB .i64 x34.1 fun x35 x36 =>
 (ai x36 (aj x34.2
 ((FF n 16 [.agg [.int .i64 x3.k, .int .i64 x3.n, .fr (.ts x3.kids)]] []).bind fun x37 =>
 (aB .i64 x37.1 fun x38 x39 =>
 (ai x39 (aj x37.2
 (some ([.one (.bool (decide (x35 = (IntKind.i64.wrap (x38 + (x1.length : Int))))))], [])))))))))))))))))))))
 (cond (!x8)
 (some ([.one (.bool true)], []))
 ((FF n 16 [.agg [.int .i64 x6.k, .int .i64 x6.n, .fr (.ts x6.kids)]] []).bind fun x28 =>
 (aB .i64 x28.1 fun x29 x30 =>
 (ai x30 (aj x28.2
 ((FF n 16 [.agg [.int .i64 x3.k, .int .i64 x3.n, .fr (.ts x3.kids)]] []).bind fun x31 =>
 (aB .i64 x31.1 fun x32 x33 =>
 (ai x33 (aj x31.2
 (some ([.one (.bool (decide (x29 = (IntKind.i64.wrap (x32 + (x1.length : Int))))))], []))))))))))))))))))))))))))))))))))))))))))))) := by kernel_rfl
end Go.Proofs.Ytajlknlnmmbfcaa
end
section
namespace Go.Proofs.Ytajlknlnmmbfcaa
open Go.ChangeShapes Go.WideShapes Go.ChangeAt Go.RowKit
open Go.ChangeMaps (open_string shut_string)
open Go.Ab Go.Dk
theorem Ck (t : T) : eg [] t = if ah t = true then (t, true) else (.mk 0 0 [], false) := by
 unfold eg
 rw [show okA [] = true from rfl, Bool.true_and]
 split
 ·rename_i h
  rw [show ee [] t = t from rfl, k8 h, h]
 ·rfl
theorem Fz (t : T) : ovR 4 [] t = if ah t = true then (t, true) else (.mk 0 0 [], false) := by
 unfold ovR
 rw [show okA [] = true from rfl, Bool.true_and]
 split
 ·rename_i h
  rw [show ovF 4 [] t = t from rfl, k8 h, h]
 ·rfl
theorem vX (l : List UInt8) : Ev 4 [.one (.fr (.bs l))] [] ([.one (.bool true)], []) := by
 have hB := Eg
 refine qK (C := BP + 200) fun n hn => ?_
 refine a7 (C := BP + 199) hn fun n hn _ => ?_
 rw [mf]
 refine az (fun _ => ⟨_, rfl, rfl⟩) (fun _ => ?_)
 refine ak (lK (by omega) l) ?_
 rintro _ ⟨g, t, rfl, ht, hg, hgl⟩
 have hgz : ∀ u ∈ g, u.size ≤ 4000000 := fun u hu => by have := ae (hg u hu); omega
 simp only [evt]
 rw [qX (by omega) (by omega) (by omega) hgz]
 simp only [evt]
 rw [tk (by omega) (by omega) (by omega) hgz]
 simp only [evt]
 have g0 := qX (n := n) (ps := []) (t := t) (by omega) (by omega) (by simp) (by simp)
 have g3 := zH (n := n) (ps := []) (t := t) (by omega) (by omega) (by simp) (by simp)
 rw [Ck] at g0
 rw [Fz] at g3
 have zx := pF (ps := g) (t := t)
 have s1 := xM (n := n) (a := (eg g t).1) (by omega) (by omega)
 have s2 := xM (n := n) (a := t) (by omega) (by omega)
 have c1 := Df (iB (n := n) (t := (eg g t).1) (by omega) (by omega))
 have c2 := Df (iB (n := n) (t := t) (by omega) (by omega))
 have hc := countP_le t
 have g0 := Df g0
 have g3 := Df g3
 by_cases hb : (eg g t).2 = true
 ·rw [jF hb] at c1
  rw [(lg hb).2.1, if_pos rfl] at g0 g3
  rw [hb]
  repeat' (first | (simp (disch := omega) only [wrap64]; done) | (simp (disch := omega) only [wrap64]) | (with_reducible refine az (fun hq => ?_) (fun hq => ?_) <;> (try simp (disch := omega) only [wrap64] at hq) <;> (try simp only [decide_eq_true_eq, decide_eq_false_iff_not, Bool.not_eq_true', Bool.not_eq_false', Bool.and_eq_true, Bool.and_eq_false_iff, inB, Bool.not_true, Bool.not_false] at hq) <;> try (exfalso; omega; done)) | (with_reducible refine ak (g0) ?_; rintro _ rfl; simp only [evt]) | (with_reducible refine ak (g3) ?_; rintro _ rfl; simp only [evt]) | (with_reducible refine ak (s1) ?_; rintro _ rfl; simp only [evt]) | (with_reducible refine ak (s2) ?_; rintro _ rfl; simp only [evt]) | (with_reducible refine ak (c1) ?_; rintro _ rfl; simp only [evt]) | (with_reducible refine ak (c2) ?_; rintro _ rfl; simp only [evt]) | ((with_reducible refine ar ?_); (exact rfl)) | ((with_reducible refine ar ?_); (exact (by simp; omega))))
 ·have hb : (eg g t).2 = false := by simpa using hb
  rw [hb]
  cases hv : ah t with
  | false =>
   rw [hv, if_neg (by simp)] at g0 g3
   repeat' (first | (simp (disch := omega) only [wrap64]; done) | (simp (disch := omega) only [wrap64]) | (with_reducible refine az (fun hq => ?_) (fun hq => ?_) <;> (try simp (disch := omega) only [wrap64] at hq) <;> (try simp only [decide_eq_true_eq, decide_eq_false_iff_not, Bool.not_eq_true', Bool.not_eq_false', Bool.and_eq_true, Bool.and_eq_false_iff, inB, Bool.not_true, Bool.not_false] at hq) <;> try (exfalso; omega; done)) | (with_reducible refine ak (g0) ?_; rintro _ rfl; simp only [evt]) | (with_reducible refine ak (g3) ?_; rintro _ rfl; simp only [evt]) | (with_reducible refine ak (s1) ?_; rintro _ rfl; simp only [evt]) | (with_reducible refine ak (s2) ?_; rintro _ rfl; simp only [evt]) | ((with_reducible refine ar ?_); (exact rfl)) | ((with_reducible refine ar ?_); (exact (by simp))))
  | true =>
   rw [hv, if_pos rfl] at g0 g3
   repeat' (first | (simp (disch := omega) only [wrap64]; done) | (simp (disch := omega) only [wrap64]) | (with_reducible refine az (fun hq => ?_) (fun hq => ?_) <;> (try simp (disch := omega) only [wrap64] at hq) <;> (try simp only [decide_eq_true_eq, decide_eq_false_iff_not, Bool.not_eq_true', Bool.not_eq_false', Bool.and_eq_true, Bool.and_eq_false_iff, inB, Bool.not_true, Bool.not_false] at hq) <;> try (exfalso; omega; done)) | (with_reducible refine ak (g0) ?_; rintro _ rfl; simp only [evt]) | (with_reducible refine ak (g3) ?_; rintro _ rfl; simp only [evt]) | (with_reducible refine ak (s1) ?_; rintro _ rfl; simp only [evt]) | (with_reducible refine ak (s2) ?_; rintro _ rfl; simp only [evt]) | ((with_reducible refine ar ?_); (exact rfl)) | ((with_reducible refine ar ?_); (exact (by simp))))
set_option maxRecDepth 100000 in
theorem lY (os : Os) (started : os.Started) (H : Type) (enc : TypeId × Value → H) :
   ReturnsInHanded {} Try.checked os 4 .any (Rows.fnPiCountSpec.pre6 enc Try.prog Try.f4 Rows.fnPiCountRow.domain false) (Rows.fnPiCountSpec.post enc Try.prog Try.f4 false true false false) := by
 refine returnsInHanded_of_change (C := Try.checked) own started (by kernel_rfl) Try.func4
  (ChangeSpec.witness6 (enc := enc) (C := Try.checked) false ⟨#[], #[.slice none 0 0], []⟩ 8 (by kernel_rfl) (by kernel_rfl) (by kernel_rfl) (by kernel_rfl)) ?_
 intro W base args ds gs before hval0 hW hcnd _
 have hval : ∀ (j : Nat) t v, Try.f4.params[j]? = some t → args[j]? = some v → Value.okWide Try.prog W .any base t v := hval0
 have hW' := hW
 obtain ⟨p, q, hA0, hV, rfl, hfz, hnd⟩ := hW
 have hA : DataW.TrodAll enc Try.prog W 0 (fun _ => true) true Try.f4.params.toList args.toList ds p := hA0
 rw [Try.params4] at hA hval
 obtain ⟨v0, vs0, d0, ds0, p0, q0, hargs, rfl, rfl, h0, r0⟩ := trodAll_cons hA
 obtain ⟨rfl, rfl, rfl⟩ := trodAll_nil r0
 obtain rfl : args = #[v0] := by cases args; simp_all
 obtain ⟨rfl, rfl⟩ := trodVars_none hV
 have k0 := h0
 have lt0 : ∀ x ∈ p0, x.block < W.heap.size := by obtain ⟨m, hm⟩ := k0; exact DataW.trod_lt m _ _ _ hm
 obtain ⟨l0, w0⟩ := kJ Try.underlying22 Try.underlying5 (by kernel_rfl) (hval 0 22 v0 rfl rfl) h0
 clear hA0 hval0
 refine (BG Try.func4 (by kernel_rfl) (args := [.one (.fr (.bs l0))]) (aw.cons (np w0) (aw.nil)) (vX l0)).mono fun e W' ⟨he, hg⟩ => ?_
 have bel := hg.below
 subst he
 exact ⟨_, rfl, _, _, _, [], _, [], hW', trodAll_mk1 (shut_bool Try.underlying4 _), (trodAll_cons_mk (Below.trod laidOut (by kernel_rfl) (of_decide_eq_true (by kernel_rfl)) k0 bel lt0) trodAll_mk0), rfl, bel.frame _, fun h => by cases h⟩
theorem FnPiCount_holds : Rows.FnPiCountSaid :=
 OpenClaim.holds_of_wide 4 Try.f4 rfl rfl rfl rfl rfl rfl rfl ⟨rfl, rfl, rfl, rfl, rfl⟩ rfl rfl rfl rfl rfl (by kernel_rfl) Try.func4 (by kernel_rfl)
  (of_decide_eq_true (by kernel_rfl)) (by unfold Func.isWrapper; first | (rw [if_pos (by decide +kernel)]; kernel_rfl) | (rw [if_neg (by decide +kernel)]; exact ⟨rfl, rfl⟩))
  (fun os started H enc _ => lY os started H enc)
#print axioms FnPiCount_holds
end Go.Proofs.Ytajlknlnmmbfcaa
end
