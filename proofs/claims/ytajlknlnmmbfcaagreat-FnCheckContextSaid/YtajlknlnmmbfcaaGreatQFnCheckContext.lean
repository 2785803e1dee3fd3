/- FnCheckContext: for every code, the law that contexts are built from types answers true. No condition. -/
import Derived.Test.YtajlknlnmmbfcaaGreatK01
import Derived.Test.YtajlknlnmmbfcaaGreatK02
import Derived.Test.YtajlknlnmmbfcaaGreatK03
import Derived.Test.YtajlknlnmmbfcaaGreatK04
import Derived.Test.YtajlknlnmmbfcaaGreatK05
import Derived.Test.YtajlknlnmmbfcaaGreatK06
import Derived.Test.YtajlknlnmmbfcaaGreatK07
import Derived.Test.YtajlknlnmmbfcaaGreatK08
import Derived.WalkKit
import Derived.ProofKit
import Derived.OpenShut
import Derived.ShutString
import Derived.ChangeOld
import Derived.Below
set_option linter.unusedVariables false
set_option linter.unusedSimpArgs false
section
namespace Go.Proofs.YtajlknlnmmbfcaaGreat
open Go Go.Ab Go.Dk
noncomputable def b5 (n c : Nat) (v0 : List T) (v1 : Int) : OR := aR Tryz.prog SS n 6 0 [1, 1, 1, 1, 1, 0, 1, 0] [] c ⟨[aa, aa, aa, .v (.one (.fr (.ts v0))), aa, .v (.one (.int .i64 v1)), aa, aa, aa, aa, aa, aa, aa, aa, aa, aa, aa, aa, aa, aa, aa, aa, aa, aa, aa, aa, aa, aa, aa, aa, aa, aa, aa, aa, aa, aa, aa, aa, aa, aa, aa, aa, aa, aa, aa, aa, aa, aa, aa, aa, aa, aa, aa, aa, aa, aa],
 []⟩
theorem dz (n c : Nat) (v0 : List T) (v1 : Int) : b5 n (c + 1) v0 v1 =
 (cond (decide (v1 < (v0.length : Int)))
 (cond (Go.Ab.inB 0 v1 v0.length)
 (cond (decide (0 ≤ v1))
 (v0[(v1 : Int).toNat]?.bind fun x0 =>
 ((FF n 38 [.one (.fr (.ts ((v0.take (v1 : Int).toNat).drop (0 : Int).toNat))), .agg [.int .i64 x0.k, .int .i64 x0.n, .fr (.ts x0.kids)]] []).bind fun x1 =>
 (aw .i64 x1.1 fun x2 x3 =>
 (aw .i64 x3 fun x4 x5 =>
 (ai x5 (aj x1.2
 (cond (!decide (x4 = 0))
 (some ([.one (.bool false)], []))
 (cond (Go.Ab.inB 0 v1 v0.length)
 ((FF n 36 [.one (.fr (.ts ((v0.take (v1 : Int).toNat).drop (0 : Int).toNat)))] []).bind fun x6 =>
 (aw .i64 x6.1 fun x7 x8 =>
 (ai x8 (aj x6.2
 (cond (!decide (x7 = 0))
 (some ([.one (.bool false)], []))
 (b5 n c v0 (IntKind.i64.wrap (v1 + 1))))))))
 none))))))))
 none)
 none)
 (some ([.one (.bool (decide ((v0.length : Int) ≤ 8)))], []))) := by kernel_rfl
theorem jN (n : Nat) (v0 : List UInt8) : FF (n + 1) 6 [.one (.fr (.bs v0))] [] =
 (cond (decide (1048576 < (v0.length : Int)))
 (some ([.one (.bool true)], []))
 ((FF n 35 [.one (.fr (.bs v0))] []).bind fun x0 =>
 (rTs x0.1 fun x1 x2 =>
 (ai x2 (aj x0.2
 ((FF n 36 [.one (.fr (.ts x1))] []).bind fun x3 =>
 (aw .i64 x3.1 fun x4 x5 =>
 (ai x5 (aj x3.2
 ((FF n 37 [.one (.fr (.ts x1))] []).bind fun x6 =>
 (aw .i64 x6.1 fun x7 x8 =>
 (ai x8 (aj x6.2
 (cond (!decide (x4 = x7))
 ((FF n 37 [.one (.fr (.ts x1))] []).bind fun x9 =>
 (aw .i64 x9.1 fun x10 x11 =>
 (ai x11 (aj x9.2
 (some ([.one (.bool (decide (x4 = x10)))], []))))))
 (cond (!decide (x4 = 0))
 ((FF n 37 [.one (.fr (.ts x1))] []).bind fun x9 =>
 (aw .i64 x9.1 fun x10 x11 =>
 (ai x11 (aj x9.2
 (some ([.one (.bool (decide (x4 = x10)))], []))))))
 (b5 n n x1 0)))))))))))))))) := by kernel_rfl
end Go.Proofs.YtajlknlnmmbfcaaGreat
end
section
namespace Go.Proofs.YtajlknlnmmbfcaaGreat
open Go.ChangeShapes Go.WideShapes Go.ChangeAt Go.RowKit
open Go.ChangeMaps (open_string shut_string)
open Go.Ab Go.Dk
open Tm (tI)
theorem Da (n : Nat) (hn : BB + 3 ≤ n) {G : List Tm} (k : OkC G) (zg : ∀ u ∈ cx G, u.size ≤ 4000000) : ∀ (r c i : Nat), r < c → i + r = (cx G).length → b5 n c (cx G) i = some ([.one (.bool true)], [])
 | r, 0, i, h, _ => by omega
 | 0, c + 1, i, _, hi => by
  have h8 := k.h8
  have hl := bO G
  rw [dz, decide_eq_false (show ¬ (i : Int) < (cx G).length by omega), cond_false, decide_eq_true (show ((cx G).length : Int) ≤ 8 by omega)]
 | r + 1, c + 1, i, hc, hi => by
  have hlt : i < (cx G).length := by omega
  have h8 := k.h8
  have hl := bO G
  obtain ⟨A, H, e1, e2, kH, vA, B, hB⟩ := BE k hlt
  have zh : ∀ u ∈ cx H, u.size ≤ 4000000 := fun u hu => zg u (by rw [← e1] at hu; exact List.mem_of_mem_take hu)
  have lh : (cx H).length ≤ 4000000 := by rw [bO]; have := kH.h8; omega
  have zA := ae (t := of A) vA
  have w : IntKind.i64.wrap ((i : Int) + 1) = ((i + 1 : Nat) : Int) := wrap64 (by omega)
  have gs := Ah (n := n) (l := cx H) (t := of A) (by omega) lh zh (by omega)
  rw [KL kH.hG kH.h8 kH.c vA, hB] at gs
  have gc := fw (n := n) (l := cx H) (by omega) lh zh
  rw [L8 kH] at gc
  have nx := Da n hn k zg r c (i + 1) (by omega) (by omega)
  rw [dz, decide_eq_true (show (i : Int) < (cx G).length by omega), cond_true, show Go.Ab.inB 0 (i : Int) (cx G).length = true from by simp [Go.Ab.inB]; omega, cond_true, decide_eq_true (show (0 : Int) ≤ i by omega), cond_true, Int.toNat_natCast, List.getElem?_eq_getElem hlt, e2, show (0 : Int).toNat = 0 from rfl, List.drop_zero, e1, w]
  simp only [tm] at gs
  simp only [Option.bind_some, gs]
  simp only [evt]
  rw [show decide (sts (Tm.Rs.ok B) = 0) = true from rfl]
  simp only [Bool.not_true, cond_false, cond_true]
  rw [gc]
  simp only [evt]
  exact nx
theorem om (l : List UInt8) : Ev 6 [.one (.fr (.bs l))] [] ([.one (.bool true)], []) := by
 have hB := iV
 have hS := lq
 refine dn (C := BB + BS + 20) fun n hn => ?_
 refine aK (C := BB + BS + 19) hn fun n hn _ => ?_
 rw [jN]
 refine al (fun _ => ⟨_, rfl, rfl⟩) (fun _ => ?_)
 refine af (hO (by omega) l) ?_
 rintro _ ⟨g, rfl, hd, hg, hgl⟩
 have hgz : ∀ u ∈ g, u.size ≤ 4000000 := fun u hu => by have := ae (hg u hu); omega
 simp only [evt]
 have g1 := jB (n := n) (l := g) (by omega) (by omega) hgz
 rw [Fh hd] at g1
 rw [fw (by omega) (by omega) hgz]
 simp only [evt]
 rw [g1]
 simp only [evt]
 refine al (fun _ => aq rfl) (fun h => ?_)
 ·have h0 : coI g = 0 := by simpa using h
  obtain ⟨G, rfl, k⟩ := AR h0
  exact ⟨_, Da n (by omega) k hgz (cx G).length n 0 (by omega) (by omega), rfl⟩
set_option maxRecDepth 100000 in
theorem j7 (os : Os) (started : os.Started) (H : Type) (enc : TypeId × Value → H) :
   ReturnsInHanded {} Tryz.checked os 6 .any (Rows.fnCheckContextSpec.pre6 enc Tryz.prog Tryz.f6 Rows.fnCheckContextRow.domain false) (Rows.fnCheckContextSpec.post enc Tryz.prog Tryz.f6 false true false false) := by
 refine returnsInHanded_of_change (C := Tryz.checked) own started (by kernel_rfl) Tryz.func6
  (ChangeSpec.witness6 (enc := enc) (C := Tryz.checked) false ⟨#[], #[.slice none 0 0], []⟩ 8 (by kernel_rfl) (by kernel_rfl) (by kernel_rfl) (by kernel_rfl)) ?_
 intro W base args ds gs before hval0 hW hcnd _
 have hval : ∀ (j : Nat) t v, Tryz.f6.params[j]? = some t → args[j]? = some v → Value.okWide Tryz.prog W .any base t v := hval0
 have hW' := hW
 obtain ⟨p, q, hA0, hV, rfl, hfz, hnd⟩ := hW
 have hA : DataW.TrodAll enc Tryz.prog W 0 (fun _ => true) true Tryz.f6.params.toList args.toList ds p := hA0
 rw [Tryz.params6] at hA hval
 obtain ⟨v0, vs0, d0, ds0, p0, q0, hargs, rfl, rfl, h0, r0⟩ := trodAll_cons hA
 obtain ⟨rfl, rfl, rfl⟩ := trodAll_nil r0
 obtain rfl : args = #[v0] := by cases args; simp_all
 obtain ⟨rfl, rfl⟩ := trodVars_none hV
 have k0 := h0
 have lt0 : ∀ x ∈ p0, x.block < W.heap.size := by obtain ⟨m, hm⟩ := k0; exact DataW.trod_lt m _ _ _ hm
 obtain ⟨l0, w0⟩ := bM Tryz.underlying22 Tryz.underlying5 (by kernel_rfl) (hval 0 22 v0 rfl rfl) h0
 clear hA0 hval0
 refine (iP Tryz.func6 (by kernel_rfl) (args := [.one (.fr (.bs l0))]) (ax.cons (b9 w0) (ax.nil)) (om l0)).mono fun e W' ⟨he, hg⟩ => ?_
 have bel := hg.below
 subst he
 exact ⟨_, rfl, _, _, _, [], _, [], hW', trodAll_mk1 (shut_bool Tryz.underlying4 _), (trodAll_cons_mk (Below.trod laidOut (by kernel_rfl) (of_decide_eq_true (by kernel_rfl)) k0 bel lt0) trodAll_mk0), rfl, bel.frame _, fun h => by cases h⟩
theorem FnCheckContext_holds : Rows.FnCheckContextSaid :=
 OpenClaim.holds_of_wide 6 Tryz.f6 rfl rfl rfl rfl rfl rfl rfl ⟨rfl, rfl, rfl, rfl, rfl⟩ rfl rfl rfl rfl rfl (by kernel_rfl) Tryz.func6 (by unfold joinedFacts; rw [iJ, iI, fe]; kernel_rfl)
  (of_decide_eq_true (by kernel_rfl)) (by unfold Func.isWrapper; first | (rw [if_pos (by decide +kernel)]; kernel_rfl) | (rw [if_neg (by decide +kernel)]; exact ⟨rfl, rfl⟩))
  (fun os started H enc _ => j7 os started H enc)
#print axioms FnCheckContext_holds
end Go.Proofs.YtajlknlnmmbfcaaGreat
end
