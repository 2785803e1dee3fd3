/- FnLamApply: for every code, the law that abstraction is undone by application answers true. No condition. -/
import Derived.Test.YtajlknlnmmbfcaaGreatK01
import Derived.Test.YtajlknlnmmbfcaaGreatK02
import Derived.Test.YtajlknlnmmbfcaaGreatK03
import Derived.Test.YtajlknlnmmbfcaaGreatK04
import Derived.Test.YtajlknlnmmbfcaaGreatK05
import Derived.Test.YtajlknlnmmbfcaaGreatK06
import Derived.Test.YtajlknlnmmbfcaaGreatK07
import Derived.Test.YtajlknlnmmbfcaaGreatK08
import Derived.WalkKit
import Derived.ProofKit
import Derived.OpenShut
import Derived.ShutString
import Derived.ChangeOld
import Derived.Below
set_option linter.unusedVariables false
set_option linter.unusedSimpArgs false
section
namespace Go.Proofs.YtajlknlnmmbfcaaGreat
open Go Go.Ab Go.Dk
theorem mQ (n : Nat) (v0 : List UInt8) : FF (n + 1) 5 [.one (.fr (.bs v0))] [] =
 (cond (decide (1048576 < (v0.length : Int)))
 (some ([.one (.bool true)], []))
 ((FF n 30 [.one (.fr (.bs v0))] []).bind fun x0 =>
 (rTs x0.1 fun x1 x2 =>
 (ah x2 fun x3 x4 =>
 (ai x4 (aj x0.2
 ((FF n 31 [.one (.fr (.ts x1)), .agg [.int .i64 x3.k, .int .i64 x3.n, .fr (.ts x3.kids)]] []).bind fun x5 =>
 (ah x5.1 fun x6 x7 =>
 (ar x7 fun x8 x9 =>
 (ai x9 (aj x5.2
 ((FF n 32 [.one (.fr (.ts x1)), .agg [.int .i64 x3.k, .int .i64 x3.n, .fr (.ts x3.kids)]] []).bind fun x10 =>
 (ah x10.1 fun x11 x12 =>
 (ar x12 fun x13 x14 =>
 (ai x14 (aj x10.2
 ((FF n 25 [.one (.fr (.ts x1)), .agg [.int .i64 x3.k, .int .i64 x3.n, .fr (.ts x3.kids)]] []).bind fun x15 =>
 (ah x15.1 fun x16 x17 =>
 (aw .i64 x17 fun x18 x19 =>
 (ai x19 (aj x15.2
 ((FF n 33 [.one (.int .i64 (x1.length : Int))] []).bind fun x20 =>
 (rTs x20.1 fun x21 x22 =>
 (ar x22 fun x23 x24 =>
 (ai x24 (aj x20.2
 (cond (!decide (x8 = x13))
 (cond (decide (x8 = x13))
 ((FF n 22 [.agg [.int .i64 x6.k, .int .i64 x6.n, .fr (.ts x6.kids)], .agg [.int .i64 x11.k, .int .i64 x11.n, .fr (.ts x11.kids)]] []).bind fun x25 =>
 (ar x25.1 fun x26 x27 =>
 (ai x27 (aj x25.2
 (some ([.one (.bool x26)], []))))))
 (some ([.one (.bool false)], [])))
 ((FF n 22 [.agg [.int .i64 x6.k, .int .i64 x6.n, .fr (.ts x6.kids)], .agg [.int .i64 x11.k, .int .i64 x11.n, .fr (.ts x11.kids)]] []).bind fun x25 =>
 (ar x25.1 fun x26 x27 =>
 (ai x27 (aj x25.2
 (cond (!x26)
 (cond (decide (x8 = x13))
 ((FF n 22 [.agg [.int .i64 x6.k, .int .i64 x6.n, .fr (.ts x6.kids)], .agg [.int .i64 x11.k, .int .i64 x11.n, .fr (.ts x11.kids)]] []).bind fun x28 =>
 (ar x28.1 fun x29 x30 =>
 (ai x30 (aj x28.2
 (some ([.one (.bool x29)], []))))))
 (some ([.one (.bool false)], [])))
 (cond (!x8)
 (cond (decide (x8 = x13))
 ((FF n 22 [.agg [.int .i64 x6.k, .int .i64 x6.n, .fr (.ts x6.kids)], .agg [.int .i64 x11.k, .int .i64 x11.n, .fr (.ts x11.kids)]] []).bind fun x28 =>
 (ar x28.1 fun x29 x30 =>
 (ai x30 (aj x28.2
 (some ([.one (.bool x29)], []))))))
 (some ([.one (.bool false)], [])))
 (cond (!x23)
 (cond (decide (x8 = x13))
 ((FF n 22 [.agg [.int .i64 x6.k, .int .i64 x6.n, .fr (.ts x6.kids)], .agg [.int .i64 x11.k, .int .i64 x11.n, .fr (.ts x11.kids)]] []).bind fun x28 =>
 (ar x28.1 fun x29 x30 =>
 (ai x30 (aj x28.2
 (some ([.one (.bool x29)], []))))))
 (some ([.one (.bool false)], [])))
 (cond (!decide (x18 = 0))
 (cond (decide (x8 = x13))
 ((FF n 22 [.agg [.int .i64 x6.k, .int .i64 x6.n, .fr (.ts x6.kids)], .agg [.int .i64 x11.k, .int .i64 x11.n, .fr (.ts x11.kids)]] []).bind fun x28 =>
 (ar x28.1 fun x29 x30 =>
 (ai x30 (aj x28.2
 (some ([.one (.bool x29)], []))))))
 (some ([.one (.bool false)], [])))
 ((FF n 34 [.agg [.int .i64 x6.k, .int .i64 x6.n, .fr (.ts x6.kids)], .one (.fr (.ts x21))] []).bind fun x28 =>
 (ah x28.1 fun x29 x30 =>
 (ar x30 fun x31 x32 =>
 (ai x32 (aj x28.2
 (cond (!x31)
 (some ([.one (.bool true)], []))
 ((FF n 26 [.agg [.int .i64 x29.k, .int .i64 x29.n, .fr (.ts x29.kids)], .agg [.int .i64 x3.k, .int .i64 x3.n, .fr (.ts x3.kids)], .one (.int .i64 200)] []).bind fun x33 =>
 (aw .i64 x33.1 fun x34 x35 =>
 (ai x35 (aj x33.2
 (some ([.one (.bool (!decide (x34 = 2)))], []))))))))))))))))))))))))))))))))))))))))))))))) := by kernel_rfl
end Go.Proofs.YtajlknlnmmbfcaaGreat
end
section
namespace Go.Proofs.YtajlknlnmmbfcaaGreat
open Go.ChangeShapes Go.WideShapes Go.ChangeAt Go.RowKit
open Go.ChangeMaps (open_string shut_string)
open Go.Ab Go.Dk
open Tm (tI lo aps)
def qT : Nat → List T
 | 0 => []
 | n + 1 => .mk 1 n [] :: qT n
theorem wm : ∀ n, (qT n).length = n
 | 0 => rfl
 | n + 1 => by simp [qT, wm n]
theorem vX (n : Nat) (hn : 1 ≤ n) : ∀ (k c : Nat) (acc : List T), k < c → k ≤ 8 → acc.length + k ≤ 8 → cz n c ((k : Int) - 1) acc = some ([tms (acc ++ qT k), bl true], [])
 | 0, c + 1, acc, _, _, _ => by
  rw [eO, decide_eq_false (by omega)]
  simp only [qT, List.append_nil, cond_false]
 | k + 1, c + 1, acc, hc, hk, hl => by
  obtain ⟨n, rfl⟩ := ag (show 0 < n by omega)
  rw [eO, decide_eq_true (by omega), jC]
  have e1 : (((k + 1 : Nat) : Int) - 1) = k := by omega
  simp only [evt, e1]
  rw [wrap64 (by omega), aL (by simp; omega)]
  simp only [cond_true]
  rw [vX (n + 1) hn k c _ (by omega) (by omega) (by simp; omega)]
  simp [qT]
theorem tV {n k : Nat} (hn : 20 ≤ n) (hk : k ≤ 10) : ∃ vs, FF n 33 [nt (k : Int)] [] = some ([tms vs, bl (decide (k ≤ 8))], []) ∧ (k ≤ 8 → vs = qT k) := by
 obtain ⟨n, rfl⟩ := ag (show 0 < n by omega)
 rw [lR, gu (by omega)]
 by_cases h : k ≤ 8
 ·rw [decide_eq_true (show (0 : Int) ≤ k by omega), decide_eq_true (show (k : Int) ≤ 8 by omega), decide_eq_true h]
  simp only [evt, Bool.and_self]
  rw [wrap64 (by omega), vX n (by omega) k n [] (by omega) (by omega) (by simp; omega)]
  exact ⟨_, rfl, fun _ => by simp⟩
 ·rw [decide_eq_false (show ¬ (k : Int) ≤ 8 by omega), Bool.and_false, decide_eq_false h]
  exact ⟨[], rfl, fun h' => absurd h' h⟩
theorem Bw : ∀ (us : List Tm) (f : Tm), Bt (of f) (us.reverse.map of) = of (aps f us)
 | [], f => rfl
 | u :: us, f => by
  rw [List.reverse_cons, List.map_append, ← IL, Bw us f]; rfl
theorem uD : ∀ n, qT n = ((List.range' 0 n).map Tm.var).reverse.map of
 | 0 => rfl
 | n + 1 => by
  rw [List.range'_concat, List.map_append, List.reverse_append, qT, uD n]
  simp [of]
theorem Lo {G : List Tm} {m A : Tm} {vs : List T} (k : Ok G m A) (hv : vs = qT (cx G).length) (h : (JF (ovR 4 (cx G) (of m)).1 vs).2 = true) :
   ∃ y, (JF (ovR 4 (cx G) (of m)).1 vs).1 = of y ∧ vdM y = true ∧ Tm.Red y m := by
 have ho : (okA (cx G) && ak (of m)) = true := by rw [qR k.hG k.h8]; exact k.v
 have e1 : (ovR 4 (cx G) (of m)).1 = okT (of (lo G m)) := by unfold ovR; rw [if_pos ho, Kr]
 rw [e1] at h ⊢
 unfold JF at h ⊢
 split at h
 ·rename_i hc
  rw [if_pos hc]
  have h : ak (Bt (okT (of (lo G m))) vs) = true := h
  rw [Bool.and_eq_true] at hc
  have e2 : okT (of (lo G m)) = of (lo G m) := by
   unfold okT at hc ⊢
   split at hc
   ·rename_i q; rw [if_pos q]
   ·exact absurd hc.1 (by decide)
  rw [e2, hv, bO, uD, Bw] at h ⊢
  exact ⟨_, cE h, h, Tm.Jk k.ty.cl⟩
 ·cases h
theorem uQ {n : Nat} (hn : 3000001 ≤ n) (l : List UInt8) : Tot (FF n 30 [.one (.fr (.bs l))] []) tW := by
 refine aK (C := 3000000) (by omega) fun n hn e => ?_
 rw [lS]
 refine af (bo (by omega) l) ?_
 rintro _ ⟨g, t, rfl, h1, h2, h3⟩
 simp only [evt]
 exact aq ⟨g, t, rfl, h1, h2, h3⟩
theorem u5 (l : List UInt8) : Ev 5 [.one (.fr (.bs l))] [] ([.one (.bool true)], []) := by
 have hB := iV
 refine dn (C := BB + 10) fun n hn => ?_
 refine aK (C := BB + 9) hn fun n hn _ => ?_
 rw [mQ]
 refine al (fun _ => ⟨_, rfl, rfl⟩) (fun _ => ?_)
 refine af (uQ (by omega) l) ?_
 rintro _ ⟨g, t, rfl, ⟨ht, hd⟩, hg, hgl⟩
 have hgz : ∀ u ∈ g, u.size ≤ 4000000 := fun u hu => by have := ae (hg u hu); omega
 simp only [evt]
 rw [Eb (by omega) (by omega) (by omega) hgz]
 simp only [evt]
 rw [Cj (by omega) (by omega) (by omega) hgz]
 simp only [evt]
 rw [aZ (by omega) (by omega) hgz (by omega)]
 simp only [evt]
 obtain ⟨vs, ev, hvs⟩ := tV (n := n) (k := g.length) (by omega) hgl
 rw [ev]
 have zov : (ovR 4 g t).1.size ≤ 5000 := by
  unfold ovR
  split
  ·rename_i hh
   rw [Bool.and_eq_true] at hh
   unfold okT
   split
   ·exact tp hh.2 hh.1
   ·exact (by decide : (T.mk 0 0 []).size ≤ 5000)
  ·exact (by decide : (T.mk 0 0 []).size ≤ 5000)
 have s2 := km (ovR 4 g t).1 (n := n) (by omega) (by omega) (ovR 4 g t).1
 rw [T.beq_refl] at s2
 simp only [evt]
 rw [s2]
 simp only [evt]
 refine al (fun _ => ⟨_, rfl, rfl⟩) (fun hv => ?_)
 refine al (fun _ => ⟨_, rfl, rfl⟩) (fun hp => ?_)
 refine al (fun _ => ⟨_, rfl, rfl⟩) (fun h0 => ?_)
 have h8 : g.length ≤ 8 := by simpa using hp
 have h0 : (itI g t).2 = 0 := by simpa using h0
 obtain ⟨G, m, A, rfl, rfl, e, k⟩ := gp h0
 have hvs := hvs h8
 have zvl : vs.length ≤ 8 := by rw [hvs, wm]; exact h8
 have zvs : ∀ u ∈ vs, u.size ≤ 4000000 := fun u hu => by
  rw [hvs, uD] at hu
  obtain ⟨x, hx, rfl⟩ := List.mem_map.1 hu
  rw [List.mem_reverse] at hx
  obtain ⟨j, _, rfl⟩ := List.mem_map.1 hx
  simp [of, T.size, T.aE]
 rw [Cb (n := n) (by omega) (by omega) (by omega) zvs]
 simp only [evt]
 refine al (fun _ => ⟨_, rfl, rfl⟩) (fun hq => ?_)
 obtain ⟨y, ey, vy, ry⟩ := Lo k hvs (by simpa using hq)
 rw [ey]
 have zy := ae (t := of y) vy
 have zm := ae k.v
 have cv := nH (bZ (n := n) (a := of y) (b := of m) (f := 200) (by omega) (by omega) (by omega))
 have nc := lz ry.conv
 refine af cv ?_
 rintro _ rfl
 simp only [evt]
 exact aq (by simp [nc])
set_option maxRecDepth 100000 in
theorem mO (os : Os) (started : os.Started) (H : Type) (enc : TypeId × Value → H) :
   ReturnsInHanded {} Tryz.checked os 5 .any (Rows.fnLamApplySpec.pre6 enc Tryz.prog Tryz.f5 Rows.fnLamApplyRow.domain false) (Rows.fnLamApplySpec.post enc Tryz.prog Tryz.f5 false true false false) := by
 refine returnsInHanded_of_change (C := Tryz.checked) own started (by kernel_rfl) Tryz.func5
  (ChangeSpec.witness6 (enc := enc) (C := Tryz.checked) false ⟨#[], #[.slice none 0 0], []⟩ 8 (by kernel_rfl) (by kernel_rfl) (by kernel_rfl) (by kernel_rfl)) ?_
 intro W base args ds gs before hval0 hW hcnd _
 have hval : ∀ (j : Nat) t v, Tryz.f5.params[j]? = some t → args[j]? = some v → Value.okWide Tryz.prog W .any base t v := hval0
 have hW' := hW
 obtain ⟨p, q, hA0, hV, rfl, hfz, hnd⟩ := hW
 have hA : DataW.TrodAll enc Tryz.prog W 0 (fun _ => true) true Tryz.f5.params.toList args.toList ds p := hA0
 rw [Tryz.params5] at hA hval
 obtain ⟨v0, vs0, d0, ds0, p0, q0, hargs, rfl, rfl, h0, r0⟩ := trodAll_cons hA
 obtain ⟨rfl, rfl, rfl⟩ := trodAll_nil r0
 obtain rfl : args = #[v0] := by cases args; simp_all
 obtain ⟨rfl, rfl⟩ := trodVars_none hV
 have k0 := h0
 have lt0 : ∀ x ∈ p0, x.block < W.heap.size := by obtain ⟨m, hm⟩ := k0; exact DataW.trod_lt m _ _ _ hm
 obtain ⟨l0, w0⟩ := bM Tryz.underlying22 Tryz.underlying5 (by kernel_rfl) (hval 0 22 v0 rfl rfl) h0
 clear hA0 hval0
 refine (iP Tryz.func5 (by kernel_rfl) (args := [.one (.fr (.bs l0))]) (ax.cons (b9 w0) (ax.nil)) (u5 l0)).mono fun e W' ⟨he, hg⟩ => ?_
 have bel := hg.below
 subst he
 exact ⟨_, rfl, _, _, _, [], _, [], hW', trodAll_mk1 (shut_bool Tryz.underlying4 _), (trodAll_cons_mk (Below.trod laidOut (by kernel_rfl) (of_decide_eq_true (by kernel_rfl)) k0 bel lt0) trodAll_mk0), rfl, bel.frame _, fun h => by cases h⟩
theorem FnLamApply_holds : Rows.FnLamApplySaid :=
 OpenClaim.holds_of_wide 5 Tryz.f5 rfl rfl rfl rfl rfl rfl rfl ⟨rfl, rfl, rfl, rfl, rfl⟩ rfl rfl rfl rfl rfl (by kernel_rfl) Tryz.func5 (by unfold joinedFacts; rw [iJ, iI, fe]; kernel_rfl)
  (of_decide_eq_true (by kernel_rfl)) (by unfold Func.isWrapper; first | (rw [if_pos (by decide +kernel)]; kernel_rfl) | (rw [if_neg (by decide +kernel)]; exact ⟨rfl, rfl⟩))
  (fun os started H enc _ => mO os started H enc)
#print axioms FnLamApply_holds
end Go.Proofs.YtajlknlnmmbfcaaGreat
end
