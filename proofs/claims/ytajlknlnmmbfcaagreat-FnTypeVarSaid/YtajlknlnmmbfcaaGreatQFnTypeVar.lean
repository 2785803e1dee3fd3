/- FnTypeVar: for every code, the law that variables have their types answers true. No condition. -/
import Derived.Test.YtajlknlnmmbfcaaGreatK01
import Derived.Test.YtajlknlnmmbfcaaGreatK02
import Derived.Test.YtajlknlnmmbfcaaGreatK03
import Derived.Test.YtajlknlnmmbfcaaGreatK04
import Derived.Test.YtajlknlnmmbfcaaGreatK05
import Derived.Test.YtajlknlnmmbfcaaGreatK06
import Derived.Test.YtajlknlnmmbfcaaGreatK07
import Derived.Test.YtajlknlnmmbfcaaGreatK08
import Derived.WalkKit
import Derived.ProofKit
import Derived.OpenShut
import Derived.ShutString
import Derived.ChangeOld
import Derived.Below
set_option linter.unusedVariables false
set_option linter.unusedSimpArgs false
section
namespace Go.Proofs.YtajlknlnmmbfcaaGreat
open Go Go.Ab Go.Dk
theorem od (n : Nat) (v0 v1 : List UInt8) : FF (n + 1) 7 [.one (.fr (.bs v0)), .one (.fr (.bs v1))] [] =
 (cond (decide (1048576 < (v0.length : Int)))
 (some ([.one (.bool true)], []))
 (cond (decide (1048576 < (v1.length : Int)))
 (some ([.one (.bool true)], []))
 ((FF n 35 [.one (.fr (.bs v0))] []).bind fun x0 =>
 (rTs x0.1 fun x1 x2 =>
 (ai x2 (aj x0.2
 ((FF n 36 [.one (.fr (.ts x1))] []).bind fun x3 =>
 (aw .i64 x3.1 fun x4 x5 =>
 (ai x5 (aj x3.2
 ((FF n 37 [.one (.fr (.ts x1))] []).bind fun x6 =>
 (aw .i64 x6.1 fun x7 x8 =>
 (ai x8 (aj x6.2
 (cond (!decide (x4 = x7))
 ((FF n 37 [.one (.fr (.ts x1))] []).bind fun x9 =>
 (aw .i64 x9.1 fun x10 x11 =>
 (ai x11 (aj x9.2
 (some ([.one (.bool (decide (x4 = x10)))], []))))))
 (cond (!decide (x4 = 0))
 ((FF n 37 [.one (.fr (.ts x1))] []).bind fun x9 =>
 (aw .i64 x9.1 fun x10 x11 =>
 (ai x11 (aj x9.2
 (some ([.one (.bool (decide (x4 = x10)))], []))))))
 (cond (decide ((x1.length : Int) = 0))
 ((FF n 37 [.one (.fr (.ts x1))] []).bind fun x9 =>
 (aw .i64 x9.1 fun x10 x11 =>
 (ai x11 (aj x9.2
 (some ([.one (.bool (decide (x4 = x10)))], []))))))
 (cond (decide ((x1.length : Int) = 0))
 none
 ((FF n 25 [.one (.fr (.ts x1)), .agg [.int .i64 1, .int .i64 (Int.tmod (v1.length : Int) (x1.length : Int)), .fr (.ts [])]] []).bind fun x9 =>
 (ah x9.1 fun x10 x11 =>
 (aw .i64 x11 fun x12 x13 =>
 (ai x13 (aj x9.2
 (cond (decide (0 ≤ (IntKind.i64.wrap ((IntKind.i64.wrap ((x1.length : Int) - 1)) - (Int.tmod (v1.length : Int) (x1.length : Int))))))
 (x1[((IntKind.i64.wrap ((IntKind.i64.wrap ((x1.length : Int) - 1)) - (Int.tmod (v1.length : Int) (x1.length : Int)))) : Int).toNat]?.bind fun x14 =>
 ((FF n 39 [.agg [.int .i64 x14.k, .int .i64 x14.n, .fr (.ts x14.kids)], .one (.int .i64 (IntKind.i64.wrap ((Int.tmod (v1.length : Int) (x1.length : Int)) + 1))), .one (.int .i64 0)] []).bind fun x15 =>
 (ah x15.1 fun x16 x17 =>
 (ar x17 fun x18 x19 =>
 (ai x19 (aj x15.2
 (cond (!x18)
 (some ([.one (.bool true)], []))
 (cond (decide (x12 = 0))
 ((FF n 22 [.agg [.int .i64 x10.k, .int .i64 x10.n, .fr (.ts x10.kids)], .agg [.int .i64 x16.k, .int .i64 x16.n, .fr (.ts x16.kids)]] []).bind fun x20 =>
 (ar x20.1 fun x21 x22 =>
 (ai x22 (aj x20.2
 (some ([.one (.bool x21)], []))))))
 (some ([.one (.bool false)], []))))))))))
 none)))))))))))))))))))))))) := by kernel_rfl
end Go.Proofs.YtajlknlnmmbfcaaGreat
end
section
namespace Go.Proofs.YtajlknlnmmbfcaaGreat
open Go.ChangeShapes Go.WideShapes Go.ChangeAt Go.RowKit
open Go.ChangeMaps (open_string shut_string)
open Go.Ab Go.Dk
open Tm (tI)
theorem zd (l l1 : List UInt8) : Ev 7 [.one (.fr (.bs l)), .one (.fr (.bs l1))] [] ([.one (.bool true)], []) := by
 have hB := iV
 have hS := lq
 refine dn (C := BB + BS + 20) fun n hn => ?_
 refine aK (C := BB + BS + 19) hn fun n hn _ => ?_
 rw [od]
 refine al (fun _ => ⟨_, rfl, rfl⟩) (fun _ => ?_)
 refine al (fun _ => ⟨_, rfl, rfl⟩) (fun _ => ?_)
 refine af (hO (by omega) l) ?_
 rintro _ ⟨g, rfl, hd, hg, hgl⟩
 have hgz : ∀ u ∈ g, u.size ≤ 4000000 := fun u hu => by have := ae (hg u hu); omega
 simp only [evt]
 have g1 := jB (n := n) (l := g) (by omega) (by omega) hgz
 rw [Fh hd] at g1
 rw [fw (by omega) (by omega) hgz]
 simp only [evt]
 rw [g1]
 simp only [evt]
 refine al (fun _ => aq rfl) (fun h => ?_)
 have h0 : coI g = 0 := by simpa using h
 obtain ⟨G, rfl, k⟩ := AR h0
 refine al (fun _ => aq rfl) (fun hl => ?_)
 have hl : ¬ ((cx G).length : Int) = 0 := by simpa using hl
 have h8 := k.h8
 have hcl := bO G
 rw [decide_eq_false hl, cond_false]
 obtain ⟨i, hi, ei⟩ : ∃ i : Nat, i < G.length ∧ Int.tmod (l1.length : Int) ((cx G).length : Int) = i :=
  ⟨l1.length % (cx G).length, by rw [← hcl]; exact Nat.mod_lt _ (by omega), by rw [← Int.ofNat_tmod]⟩
 rw [ei]
 have zv : (T.mk 1 (i : Int) []).size ≤ 4000000 := by simp [T.size, T.aE]
 have gi := aZ (n := n) (l := cx G) (t := .mk 1 (i : Int) []) (by omega) (by omega) hgz zv
 have hlt : (cx G).length - 1 - i < (cx G).length := by omega
 have ex := Mw hi
 have vA := k.hG _ (List.getElem_mem hi)
 have gs := ly (n := n) (m := G[i]) (a := i + 1) (by omega) vA (by omega)
 simp only [tm, cL, cP, ay] at gi gs
 rw [gi]
 simp only [evt]
 rw [wrap64 (show -9223372036854775808 ≤ ((cx G).length : Int) - 1 ∧ ((cx G).length : Int) - 1 ≤ 9223372036854775807 by omega), wrap64 (show -9223372036854775808 ≤ ((cx G).length : Int) - 1 - i ∧ ((cx G).length : Int) - 1 - i ≤ 9223372036854775807 by omega), show ((cx G).length : Int) - 1 - i = (((cx G).length - 1 - i : Nat) : Int) by omega, decide_eq_true (show (0 : Int) ≤ (((cx G).length - 1 - i : Nat) : Int) by omega), cond_true, Int.toNat_natCast, List.getElem?_eq_getElem hlt, ex, wrap64 (show -9223372036854775808 ≤ (i : Int) + 1 ∧ (i : Int) + 1 ≤ 9223372036854775807 by omega), show (i : Int) + 1 = ((i + 1 : Nat) : Int) by omega]
 simp only [Option.bind_some, gs]
 simp only [evt]
 cases v : vdM (G[i].ren (· + (i + 1))) with
 | false => exact aq rfl
 | true =>
  rw [cE (show ak (of (G[i].ren (· + (i + 1)))) = true from v), KU k hi v]
  have zA := ae (t := of (G[i].ren (· + (i + 1)))) v
  have s1 := eW (n := n) (a := of (G[i].ren (· + (i + 1)))) (by omega) (by omega)
  simp only [Bool.not_true, cond_false, cond_true, decide_true]
  refine af s1 ?_
  rintro _ rfl
  simp only [evt]
  exact aq rfl
set_option maxRecDepth 100000 in
theorem oF (os : Os) (started : os.Started) (H : Type) (enc : TypeId × Value → H) :
   ReturnsInHanded {} Tryz.checked os 7 .any (Rows.fnTypeVarSpec.pre6 enc Tryz.prog Tryz.f7 Rows.fnTypeVarRow.domain false) (Rows.fnTypeVarSpec.post enc Tryz.prog Tryz.f7 false true false false) := by
 refine returnsInHanded_of_change (C := Tryz.checked) own started (by kernel_rfl) Tryz.func7
  (ChangeSpec.witness6 (enc := enc) (C := Tryz.checked) false ⟨#[], #[.slice none 0 0, .slice none 0 0], []⟩ 8 (by kernel_rfl) (by kernel_rfl) (by kernel_rfl) (by kernel_rfl)) ?_
 intro W base args ds gs before hval0 hW hcnd _
 have hval : ∀ (j : Nat) t v, Tryz.f7.params[j]? = some t → args[j]? = some v → Value.okWide Tryz.prog W .any base t v := hval0
 have hW' := hW
 obtain ⟨p, q, hA0, hV, rfl, hfz, hnd⟩ := hW
 have hA : DataW.TrodAll enc Tryz.prog W 0 (fun _ => true) true Tryz.f7.params.toList args.toList ds p := hA0
 rw [Tryz.params7] at hA hval
 obtain ⟨v0, vs0, d0, ds0, p0, q0, hargs, rfl, rfl, h0, r0⟩ := trodAll_cons hA
 obtain ⟨v1, vs1, d1, ds1, p1, q1, rfl, rfl, rfl, h1, r1⟩ := trodAll_cons r0
 obtain ⟨rfl, rfl, rfl⟩ := trodAll_nil r1
 obtain rfl : args = #[v0, v1] := by cases args; simp_all
 obtain ⟨rfl, rfl⟩ := trodVars_none hV
 have k0 := h0
 have lt0 : ∀ x ∈ p0, x.block < W.heap.size := by obtain ⟨m, hm⟩ := k0; exact DataW.trod_lt m _ _ _ hm
 obtain ⟨l0, w0⟩ := bM Tryz.underlying22 Tryz.underlying5 (by kernel_rfl) (hval 0 22 v0 rfl rfl) h0
 have k1 := h1
 have lt1 : ∀ x ∈ p1, x.block < W.heap.size := by obtain ⟨m, hm⟩ := k1; exact DataW.trod_lt m _ _ _ hm
 obtain ⟨l1, w1⟩ := bM Tryz.underlying22 Tryz.underlying5 (by kernel_rfl) (hval 1 22 v1 rfl rfl) h1
 clear hA0 hval0
 refine (iP Tryz.func7 (by kernel_rfl) (args := [.one (.fr (.bs l0)), .one (.fr (.bs l1))]) (ax.cons (b9 w0) (ax.cons (b9 w1) (ax.nil))) (zd l0 l1)).mono fun e W' ⟨he, hg⟩ => ?_
 have bel := hg.below
 subst he
 exact ⟨_, rfl, _, _, _, [], _, [], hW', trodAll_mk1 (shut_bool Tryz.underlying4 _), (trodAll_cons_mk (Below.trod laidOut (by kernel_rfl) (of_decide_eq_true (by kernel_rfl)) k0 bel lt0) (trodAll_cons_mk (Below.trod laidOut (by kernel_rfl) (of_decide_eq_true (by kernel_rfl)) k1 bel lt1) trodAll_mk0)), rfl, bel.frame _, fun h => by cases h⟩
theorem FnTypeVar_holds : Rows.FnTypeVarSaid :=
 OpenClaim.holds_of_wide 7 Tryz.f7 rfl rfl rfl rfl rfl rfl rfl ⟨rfl, rfl, rfl, rfl, rfl⟩ rfl rfl rfl rfl rfl (by kernel_rfl) Tryz.func7 (by unfold joinedFacts; rw [iJ, iI, fe]; kernel_rfl)
  (of_decide_eq_true (by kernel_rfl)) (by unfold Func.isWrapper; first | (rw [if_pos (by decide +kernel)]; kernel_rfl) | (rw [if_neg (by decide +kernel)]; exact ⟨rfl, rfl⟩))
  (fun os started H enc _ => oF os started H enc)
#print axioms FnTypeVar_holds
end Go.Proofs.YtajlknlnmmbfcaaGreat
end
