/- FnContextVars: for every code, the law that the variables of a context are in order answers true. No condition. -/
import Derived.Test.YtajlknlnmmbfcaaK01
import Derived.Test.YtajlknlnmmbfcaaK02
import Derived.Test.YtajlknlnmmbfcaaK03
import Derived.Test.YtajlknlnmmbfcaaK04
import Derived.Test.YtajlknlnmmbfcaaK05
import Derived.Test.YtajlknlnmmbfcaaK06
import Derived.Test.YtajlknlnmmbfcaaK07
import Derived.WalkKit
import Derived.ProofKit
import Derived.OpenShut
import Derived.ShutString
import Derived.ChangeOld
import Derived.Below
set_option linter.unusedVariables false
set_option linter.unusedSimpArgs false
section
namespace Go.Proofs.Ytajlknlnmmbfcaa
open Go Go.Ab Go.Dk
noncomputable def bU (n c : Nat) (v0 : Int) (v1 : List T) (v2 : Int) (v3 : List T) : OR := aJ Try.prog SS n 3 0 [1, 1, 1, 1, 1, 1, 1, 0, 1, 0] [] c ⟨[aa, aa, aa, .v (.one (.int .i64 v0)), .v (.one (.fr (.ts v1))), aa, aa, aa, .v (.one (.own 0 0)), .v (.one (.int .i64 v2)), aa, aa, aa, aa, aa, aa, aa, aa, aa, aa, aa, aa, aa, aa, aa, aa, aa, aa, aa, aa, aa, aa, aa, aa, aa, aa, aa, aa, aa, aa, aa, aa, aa, aa, aa, aa, aa, aa, aa, aa, aa, aa, aa, aa, aa, aa, aa, aa, aa, aa, aa, aa, aa, aa, aa, aa, aa, aa, aa, aa, aa, aa, aa, aa, aa, aa, aa, aa, aa, aa, aa, aa, aa, aa, aa, aa],
 [.arr 29 (.ts v3) 0 false]⟩
noncomputable def bV (n c : Nat) (v0 : Int) (v1 : List T) (v2 : Int) (v3 : List T) : OR := aJ Try.prog SS n 3 0 [1, 1, 1, 1, 1, 1, 1, 1, 0, 1, 0] [] c ⟨[aa, aa, aa, .v (.one (.int .i64 v0)), .v (.one (.fr (.ts v1))), aa, aa, aa, .v (.one (.own 0 0)), aa, .v (.one (.int .i64 v2)), aa, aa, aa, aa, aa, aa, aa, aa, aa, aa, aa, aa, aa, aa, aa, aa, aa, aa, aa, aa, aa, aa, aa, aa, aa, aa, aa, aa, aa, aa, aa, aa, aa, aa, aa, aa, aa, aa, aa, aa, aa, aa, aa, aa, aa, aa, aa, aa, aa, aa, aa, aa, aa, aa, aa, aa, aa, aa, aa, aa, aa, aa, aa, aa, aa, aa, aa, aa, aa, aa, aa, aa, aa, aa, aa],
 [.arr 29 (.ts v3) 0 false]⟩
noncomputable def bu (n c : Nat) (v0 : Int) (v1 : List T) (v2 : Int) (v3 : List T) : OR := aJ Try.prog SS n 3 0 [1, 1, 1, 1, 1, 1, 1, 1, 0, 1, 0] [] c ⟨[aa, aa, aa, .v (.one (.int .i64 v0)), .v (.one (.fr (.ts v1))), aa, aa, aa, .v (.one (.own 0 0)), aa, .v (.one (.int .i64 v2)), aa, aa, aa, aa, aa, aa, aa, aa, aa, aa, aa, aa, aa, aa, aa, aa, aa, aa, aa, aa, aa, aa, aa, aa, aa, aa, aa, aa, aa, aa, aa, aa, aa, aa, aa, aa, aa, aa, aa, aa, aa, aa, aa, aa, aa, aa, aa, aa, aa, aa, aa, aa, aa, aa, aa, aa, aa, aa, aa, aa, aa, aa, aa, aa, aa, aa, aa, aa, aa, aa, aa, aa, aa, aa, aa],
 [.arr 29 (.ts v3) 0 true]⟩
theorem df (n c : Nat) (v0 : Int) (v1 : List T) (v2 : Int) (v3 : List T) : bU n (c + 1) v0 v1 v2 v3 =
 (cond (decide (v2 < v0))
 (cond (b8 (v3 ++ [(T.mk 6 0 [])]).length)
 (bU n c v0 v1 (IntKind.i64.wrap (v2 + 1)) (v3 ++ [(T.mk 6 0 [])]))
 none)
 (bV n n v0 v1 0 v3)) := by kernel_rfl
theorem fY (n c : Nat) (v0 : Int) (v1 : List T) (v2 : Int) (v3 : List T) : bV n (c + 1) v0 v1 v2 v3 =
 (cond (decide (v2 < v0))
 (cond (decide (0 ≤ v2))
 (v1[(v2 : Int).toNat]?.bind fun x0 =>
 ((FF n 10 [.one (.fr (.ts v3)), .agg [.int .i64 x0.k, .int .i64 x0.n, .fr (.ts x0.kids)], .agg [.int .i64 6, .int .i64 0, .fr (.ts [])]] []).bind fun x1 =>
 (aB .i64 x1.1 fun x2 x3 =>
 (ai x3 (aj x1.2
 (cond (!decide (x2 = 0))
 (some ([.one (.bool false)], []))
 (cond (decide (0 ≤ v2))
 (v1[(v2 : Int).toNat]?.bind fun x4 =>
 (cond (!decide (x4.n = (IntKind.i64.wrap ((IntKind.i64.wrap (v0 - 1)) - v2))))
 (some ([.one (.bool false)], []))
 (bu n c v0 v1 (IntKind.i64.wrap (v2 + 1)) v3)))
 none)))))))
 none)
 (some ([.one (.bool (decide ((v1.length : Int) = v0)))], []))) := by kernel_rfl
theorem bS (n c : Nat) (v0 : Int) (v1 : List T) (v2 : Int) (v3 : List T) : bu n (c + 1) v0 v1 v2 v3 =
 (cond (decide (v2 < v0))
 (cond (decide (0 ≤ v2))
 (v1[(v2 : Int).toNat]?.bind fun x0 =>
 ((FF n 10 [.one (.fr (.ts v3)), .agg [.int .i64 x0.k, .int .i64 x0.n, .fr (.ts x0.kids)], .agg [.int .i64 6, .int .i64 0, .fr (.ts [])]] []).bind fun x1 =>
 (aB .i64 x1.1 fun x2 x3 =>
 (ai x3 (aj x1.2
 (cond (!decide (x2 = 0))
 (some ([.one (.bool false)], []))
 (cond (decide (0 ≤ v2))
 (v1[(v2 : Int).toNat]?.bind fun x4 =>
 (cond (!decide (x4.n = (IntKind.i64.wrap ((IntKind.i64.wrap (v0 - 1)) - v2))))
 (some ([.one (.bool false)], []))
 (bu n c v0 v1 (IntKind.i64.wrap (v2 + 1)) v3)))
 none)))))))
 none)
 (some ([.one (.bool (decide ((v1.length : Int) = v0)))], []))) := by kernel_rfl
theorem jb (n : Nat) (v0 : List UInt8) : FF (n + 1) 3 [.one (.fr (.bs v0))] [] =
 (cond (decide (1048576 < (v0.length : Int)))
 (some ([.one (.bool true)], []))
 ((FF n 6 [.one (.fr (.bs v0))] []).bind fun x0 =>
 (aB .i64 x0.1 fun x1 x2 =>
 (ai x2 (aj x0.2
 ((FF n 7 [.one (.int .i64 x1)] []).bind fun x3 =>
 (rTs x3.1 fun x4 x5 =>
 (aD x5 fun x6 x7 =>
 (ai x7 (aj x3.2
 ((FF n 8 [.one (.int .i64 x1)] []).bind fun x8 =>
 (rTs x8.1 fun x9 x10 =>
 (aD x10 fun x11 x12 =>
 (ai x12 (aj x8.2
 (cond (!decide (x6 = x11))
 (cond (decide (x6 = x11))
 ((FF n 9 [.one (.fr (.ts x4)), .one (.fr (.ts x9))] []).bind fun x13 =>
 (aD x13.1 fun x14 x15 =>
 (ai x15 (aj x13.2
 (some ([.one (.bool x14)], []))))))
 (some ([.one (.bool false)], [])))
 ((FF n 9 [.one (.fr (.ts x4)), .one (.fr (.ts x9))] []).bind fun x13 =>
 (aD x13.1 fun x14 x15 =>
 (ai x15 (aj x13.2
 (cond (!x14)
 (cond (decide (x6 = x11))
 ((FF n 9 [.one (.fr (.ts x4)), .one (.fr (.ts x9))] []).bind fun x16 =>
 (aD x16.1 fun x17 x18 =>
 (ai x18 (aj x16.2
 (some ([.one (.bool x17)], []))))))
 (some ([.one (.bool false)], [])))
 (cond (!x6)
 (cond (decide (x6 = x11))
 ((FF n 9 [.one (.fr (.ts x4)), .one (.fr (.ts x9))] []).bind fun x16 =>
 (aD x16.1 fun x17 x18 =>
 (ai x18 (aj x16.2
 (some ([.one (.bool x17)], []))))))
 (some ([.one (.bool false)], [])))
 (bU n n x1 x4 0 ([])))))))))))))))))))))))) := by kernel_rfl
end Go.Proofs.Ytajlknlnmmbfcaa
end
section
namespace Go.Proofs.Ytajlknlnmmbfcaa
open Go.ChangeShapes Go.WideShapes Go.ChangeAt Go.RowKit
open Go.ChangeMaps (open_string shut_string)
open Go.Ab Go.Dk
open Tm (tI pc ps cc Wf)
theorem r8 : ∃ B, ∀ G : List Tm, (∀ A ∈ G, vdM A = true) → G.length ≤ 8 → ∀ n, B ≤ n → ∀ t, vdM t = true → ∀ u, vdM u = true → FF n 10 [tms (cx G), tm (of t), tm (of u)] [] = some ([nt (sts (pc O (tI O) G t u))], []) := by
 refine Hb (fun G n => ∀ t, vdM t = true → ∀ u, vdM u = true → FF n 10 [tms (cx G), tm (of t), tm (of u)] [] = some ([nt (sts (pc O (tI O) G t u))], [])) fun G hG h8 => ?_
 obtain ⟨B7, h7⟩ := EL (fun t n => ∀ u, vdM u = true → FF n 10 [tms (cx G), tm (of t), tm (of u)] [] = some ([nt (sts (pc O (tI O) G t u))], [])) fun t hv => by
  obtain ⟨B, h⟩ := EL _ fun u hu => wy hG h8 hv hu
  exact ⟨B, fun n hn u hu => h u hu n hn⟩
 exact ⟨B7, fun n hn t hv u hu => h7 t hv n hn u hu⟩
noncomputable def BC : Nat := max (Exists.choose r8) 10000000
theorem GV : 10000000 ≤ BC := by unfold BC; omega
theorem wq {n : Nat} {G : List Tm} {t u : Tm} (hn : BC ≤ n) (hG : ∀ A ∈ G, vdM A = true) (h8 : G.length ≤ 8) (hv : vdM t = true) (hu : vdM u = true) : FF n 10 [tms (cx G), tm (of t), tm (of u)] [] = some ([nt (sts (pc O (tI O) G t u))], []) :=
 (Exists.choose_spec r8) G hG h8 n (by unfold BC at hn; omega) t hv u hu
def nts (k : Nat) : List Tm := List.replicate k .nat
theorem FV (k : Nat) : cx (nts k) = List.replicate k (.mk 6 0 []) := by simp [cx, nts, of]
theorem Ee {k : Nat} : ∀ A ∈ nts k, vdM A = true := fun A h => by
 rw [(List.mem_replicate.1 h).2]; exact bm.v_nat
theorem wY : ∀ {k j : Nat}, j < k → Tm.look (nts k) j = some .nat
 | 0, j, h => by omega
 | k + 1, 0, h => rfl
 | k + 1, j + 1, h => by
  show (Tm.look (nts k) j).map Tm.wk = some .nat
  rw [wY (by omega)]; rfl
theorem Gz : O.hn (.sort 0) = .ok (.sort 0) := by
 have : vdM (.sort 0) = true := BK.2 (by omega)
 simp only [O, this, if_true]; rfl
theorem Dw : ∀ k, ∃ B, cc O (tI O) (nts k) = .ok B
 | 0 => ⟨.nat, rfl⟩
 | k + 1 => by
  obtain ⟨B, h⟩ := Dw k
  exact ⟨_, Tm.EW h (by rw [Tm.D8]; exact Tm.xX Gz)⟩
theorem Ga {j : Nat} (h : j ≤ 8) : vdM (.var j) = true := by
 rw [fm]
 simp only [of, cH, c7, T.size, T.aA, Bool.and_eq_true, decide_eq_true_eq, Bool.and_true]
 exact ⟨⟨by omega, rfl, by omega, by show (j : Int) ≤ ct 1; rw [show ct 1 = 20 from rfl]; omega⟩, by omega⟩
theorem G9 {k j : Nat} (h : j < k) : pc O (tI O) (nts k) (.var j) .nat = .ok .nat := by
 obtain ⟨B, hc⟩ := Dw k
 have vn : O.vd Tm.nat = true := bm.v_nat
 have e1 : ps O (tI O) (nts k) .nat = .ok (.sort 0) := by
  unfold ps; rw [hc, Tm.D8]; exact Tm.xX Gz
 have e2 : tI O (nts k) (.var j) = .ok .nat := by rw [Tm.FQ (wY h), if_pos vn]
 have sm : O.sm .nat .nat = .ok .nat := by
  have hv : vdM .nat = true := vn
  have : gH (of .nat) (of .nat) 200 = 1 := if_pos (T.beq_refl _)
  simp only [O, hv, and_self, if_true, this]
 unfold pc
 rw [e1, e2]
 show Tm.ckr O (.ok .nat) .nat = _
 unfold Tm.ckr Tm.chk Tm.sq
 simp only [sm]; rfl
def gw : Nat → List T
 | 0 => []
 | n + 1 => .mk 1 n [] :: gw n
theorem n8 : ∀ n, (gw n).length = n
 | 0 => rfl
 | n + 1 => by simp [gw, n8 n]
theorem tZ : ∀ (k i : Nat), i < k → (gw k)[i]? = some (.mk 1 ((k - 1 - i : Nat) : Int) [])
 | 0, i, h => by omega
 | k + 1, 0, h => by simp [gw]
 | k + 1, i + 1, h => by
  rw [gw, List.getElem?_cons_succ, tZ k i (by omega), show k - 1 - i = k + 1 - 1 - (i + 1) by omega]
theorem pq : ∀ (k : Nat), ∀ u ∈ gw k, u.size = 1
 | 0, u, h => by cases h
 | k + 1, u, h => by
  rcases List.mem_cons.1 h with rfl | h
  ·rfl
  ·exact pq k u h
theorem tq (n : Nat) (hn : 1 ≤ n) : ∀ (k c : Nat) (acc : List T), k < c → k ≤ 8 → acc.length + k ≤ 8 → ca n c ((k : Int) - 1) acc = some ([tms (acc ++ gw k), bl true], [])
 | 0, c + 1, acc, _, _, _ => by
  rw [dQ, decide_eq_false (by omega)]
  simp only [gw, List.append_nil, cond_false]
 | k + 1, c + 1, acc, hc, hk, hl => by
  obtain ⟨n, rfl⟩ := af (show 0 < n by omega)
  rw [dQ, decide_eq_true (by omega), iJ]
  have e1 : (((k + 1 : Nat) : Int) - 1) = k := by omega
  simp only [evt, e1]
  rw [wrap64 (by omega), aK (by simp; omega)]
  simp only [cond_true]
  rw [tq (n + 1) hn k c _ (by omega) (by omega) (by simp; omega)]
  simp [gw]
theorem pf (n : Nat) (hn : 1 ≤ n) : ∀ (k c : Nat) (acc : List T), k < c → k ≤ 8 → acc.length + k ≤ 8 → cb n c ((k : Int) - 1) acc = some ([tms (acc ++ gw k), bl true], [])
 | 0, c + 1, acc, _, _, _ => by
  rw [dU, decide_eq_false (by omega)]
  simp only [gw, List.append_nil, cond_false]
 | k + 1, c + 1, acc, hc, hk, hl => by
  rw [dU, decide_eq_true (by omega), bo hn]
  have e1 : (((k + 1 : Nat) : Int) - 1) = k := by omega
  simp only [evt, e1]
  rw [wrap64 (by omega), aK (by simp; omega)]
  simp only [cond_true]
  rw [pf n hn k c _ (by omega) (by omega) (by simp; omega)]
  simp [gw]
def oE (v : Int) : List T := if 0 ≤ v ∧ v ≤ 8 then gw v.toNat else []
theorem qM {n : Nat} (hn : 20 ≤ n) (v : Int) : FF n 7 [nt v] [] = some ([tms (oE v), bl (decide (0 ≤ v ∧ v ≤ 8))], []) := by
 obtain ⟨n, rfl⟩ := af (show 0 < n by omega)
 rw [jV, gJ (by omega)]
 unfold oE
 by_cases h : 0 ≤ v ∧ v ≤ 8
 ·rw [decide_eq_true h.1, decide_eq_true h.2, decide_eq_true h, if_pos h]
  obtain ⟨k, rfl⟩ : ∃ k : Nat, v = k := ⟨v.toNat, by omega⟩
  simp only [evt, Bool.and_self]
  rw [wrap64 (by omega), tq n (by omega) k n [] (by omega) (by omega) (by simp; omega)]
  simp
 ·rw [decide_eq_false h, if_neg h, show (decide (0 ≤ v) && decide (v ≤ 8)) = false by
    rw [Bool.and_eq_false_iff, decide_eq_false_iff_not, decide_eq_false_iff_not]; omega]
  rfl
theorem oL {n : Nat} (hn : 20 ≤ n) (v : Int) : FF n 8 [nt v] [] = some ([tms (oE v), bl (decide (0 ≤ v ∧ v ≤ 8))], []) := by
 obtain ⟨n, rfl⟩ := af (show 0 < n by omega)
 rw [j8]
 unfold oE
 by_cases h1 : v < 0
 ·rw [decide_eq_true h1, if_neg (by omega), decide_eq_false (show ¬ (0 ≤ v ∧ v ≤ 8) by omega)]; rfl
 ·by_cases h2 : 8 < v
  ·rw [decide_eq_false h1, decide_eq_true h2, if_neg (by omega), decide_eq_false (show ¬ (0 ≤ v ∧ v ≤ 8) by omega)]; rfl
  ·rw [decide_eq_false h1, decide_eq_false h2, if_pos (by omega), decide_eq_true (show 0 ≤ v ∧ v ≤ 8 by omega)]
   obtain ⟨k, rfl⟩ : ∃ k : Nat, v = k := ⟨v.toNat, by omega⟩
   simp only [cond_false]
   rw [wrap64 (by omega), pf n (by omega) k n [] (by omega) (by omega) (by simp; omega)]
   simp
theorem z8 {n : Nat} (hn : BC ≤ n) {k i : Nat} (hk : k ≤ 8) (hi : i < k) : FF n 10 [tms (List.replicate k (.mk 6 0 [])), tm (.mk 1 ((k - 1 - i : Nat) : Int) []), tm (.mk 6 0 [])] [] = some ([nt 0], []) := by
 have h := wq (n := n) (G := nts k) (t := .var (k - 1 - i)) (u := .nat) hn Ee (by simp [nts]; omega) (Ga (by omega)) bm.v_nat
 rw [G9 (by omega), FV] at h
 exact h
theorem DF (n : Nat) (hn : BC ≤ n) (k : Nat) (hk : k ≤ 8) : ∀ (r c i : Nat), r < c → i + r = k → bu n c k (gw k) i (List.replicate k (.mk 6 0 [])) = some ([.one (.bool true)], [])
 | r, 0, i, h, _ => by omega
 | 0, c + 1, i, _, hi => by
  rw [bS, decide_eq_false (show ¬ (i : Int) < k by omega), cond_false, n8, decide_eq_true rfl]
 | r + 1, c + 1, i, hc, hi => by
  have g : FF n 10 [tms (List.replicate k (.mk 6 0 [])), tm (.mk 1 ((k - 1 - i : Nat) : Int) []), .agg [.int .i64 6, .int .i64 0, .fr (.ts [])]] [] = some ([nt 0], []) := z8 hn hk (show i < k by omega)
  have nx := DF n hn k hk r c (i + 1) (by omega) (by omega)
  rw [bS, decide_eq_true (show (i : Int) < k by omega), cond_true, decide_eq_true (show (0 : Int) ≤ i by omega), cond_true, Int.toNat_natCast, tZ k i (by omega)]
  rw [wrap64 (show -9223372036854775808 ≤ (k : Int) - 1 ∧ (k : Int) - 1 ≤ 9223372036854775807 by omega), wrap64 (show -9223372036854775808 ≤ (k : Int) - 1 - i ∧ (k : Int) - 1 - i ≤ 9223372036854775807 by omega), wrap64 (show -9223372036854775808 ≤ (i : Int) + 1 ∧ (i : Int) + 1 ≤ 9223372036854775807 by omega), show (i : Int) + 1 = ((i + 1 : Nat) : Int) by omega]
  rw [Option.bind_some]
  rw [g]
  have hd : decide ((T.mk 1 ((k - 1 - i : Nat) : Int) []).n = (k : Int) - 1 - i) = true := decide_eq_true (show ((k - 1 - i : Nat) : Int) = (k : Int) - 1 - i by omega)
  simp only [evt]
  show cond (!decide ((T.mk 1 ((k - 1 - i : Nat) : Int) []).n = (k : Int) - 1 - i)) _ _ = _
  rw [hd, Bool.not_true, cond_false]
  exact nx
theorem Fx (n : Nat) (hn : BC ≤ n) (k : Nat) (hk : k ≤ 8) : bV n n k (gw k) 0 (List.replicate k (.mk 6 0 [])) = some ([.one (.bool true)], []) := by
 have hB := GV
 obtain ⟨c, e⟩ : ∃ c, n = c + 1 := ⟨n - 1, by omega⟩
 have key : ∀ c', c' = n → bV n c' k (gw k) 0 (List.replicate k (.mk 6 0 [])) = bu n c' k (gw k) 0 (List.replicate k (.mk 6 0 [])) := fun c' h => by
  rw [show c' = c + 1 by omega, fY, bS]
 rw [key n rfl]
 exact DF n hn k hk k n 0 (by omega) (by omega)
theorem DD (n : Nat) (hn : BC ≤ n) (k : Nat) (hk : k ≤ 8) : ∀ (r c i : Nat), r < c → i + r = k → bU n c k (gw k) i (List.replicate i (.mk 6 0 [])) = some ([.one (.bool true)], [])
 | r, 0, i, h, _ => by omega
 | 0, c + 1, i, _, hi => by
  obtain rfl : i = k := by omega
  rw [df, decide_eq_false (show ¬ (i : Int) < i by omega), cond_false]
  exact Fx n hn i hk
 | r + 1, c + 1, i, hc, hi => by
  have nx := DD n hn k hk r c (i + 1) (by omega) (by omega)
  rw [df, decide_eq_true (show (i : Int) < k by omega), cond_true, aK (by simp; omega), cond_true, wrap64 (show -9223372036854775808 ≤ (i : Int) + 1 ∧ (i : Int) + 1 ≤ 9223372036854775807 by omega), show (i : Int) + 1 = ((i + 1 : Nat) : Int) by omega, ← List.replicate_succ']
  exact nx
theorem nP (l : List UInt8) : Ev 3 [.one (.fr (.bs l))] [] ([.one (.bool true)], []) := by
 have hB := GV
 refine qK (C := BC + 200) fun n hn => ?_
 refine a7 (C := BC + 199) hn fun n hn _ => ?_
 rw [jb]
 refine az (fun _ => ⟨_, rfl, rfl⟩) (fun _ => ?_)
 have hd : Tot (FF n 6 [.one (.fr (.bs l))] []) (fun r => ∃ v : Int, r = ([nt v], [])) := by
  refine a7 (C := BC + 198) (by omega) fun n hn _ => ?_
  rw [gR]
  refine ak (DM (by omega) l) ?_
  rintro _ ⟨l', rfl, hr⟩
  simp only [evt]
  refine ak (kC (by omega) hr (by omega) (by simp) (by simp)) ?_
  rintro _ ⟨w, p, rfl, hw, hr⟩
  simp only [evt]
  exact ar ⟨w, rfl⟩
 refine ak hd ?_
 rintro _ ⟨v, rfl⟩
 simp only [evt]
 rw [qM (by omega)]
 simp only [evt]
 rw [oL (by omega)]
 simp only [evt]
 have hvl : (oE v).length ≤ 8 ∧ ∀ u ∈ oE v, u.size = 1 := by
  unfold oE
  split
  ·rename_i h; exact ⟨by rw [n8]; omega, pq _⟩
  ·exact ⟨by simp, fun u hu => by cases hu⟩
 have d1 := tX (n := n) (ts := oE v) (us := oE v) (by omega) (by omega) (fun u hu => by rw [hvl.2 u hu]; omega)
 rw [T.tp] at d1
 rw [d1]
 simp only [evt]
 refine az (fun _ => ar rfl) (fun h => ?_)
 have h : 0 ≤ v ∧ v ≤ 8 := by simpa using h
 obtain ⟨k, rfl⟩ : ∃ k : Nat, v = k := ⟨v.toNat, by omega⟩
 have := DD n (by omega) k (by omega) k n 0 (by omega) (by omega)
 unfold oE
 rw [if_pos h, Int.toNat_natCast]
 exact ⟨_, this, rfl⟩
set_option maxRecDepth 100000 in
theorem je (os : Os) (started : os.Started) (H : Type) (enc : TypeId × Value → H) :
   ReturnsInHanded {} Try.checked os 3 .any (Rows.fnContextVarsSpec.pre6 enc Try.prog Try.f3 Rows.fnContextVarsRow.domain false) (Rows.fnContextVarsSpec.post enc Try.prog Try.f3 false true false false) := by
 refine returnsInHanded_of_change (C := Try.checked) own started (by kernel_rfl) Try.func3
  (ChangeSpec.witness6 (enc := enc) (C := Try.checked) false ⟨#[], #[.slice none 0 0], []⟩ 8 (by kernel_rfl) (by kernel_rfl) (by kernel_rfl) (by kernel_rfl)) ?_
 intro W base args ds gs before hval0 hW hcnd _
 have hval : ∀ (j : Nat) t v, Try.f3.params[j]? = some t → args[j]? = some v → Value.okWide Try.prog W .any base t v := hval0
 have hW' := hW
 obtain ⟨p, q, hA0, hV, rfl, hfz, hnd⟩ := hW
 have hA : DataW.TrodAll enc Try.prog W 0 (fun _ => true) true Try.f3.params.toList args.toList ds p := hA0
 rw [Try.params3] at hA hval
 obtain ⟨v0, vs0, d0, ds0, p0, q0, hargs, rfl, rfl, h0, r0⟩ := trodAll_cons hA
 obtain ⟨rfl, rfl, rfl⟩ := trodAll_nil r0
 obtain rfl : args = #[v0] := by cases args; simp_all
 obtain ⟨rfl, rfl⟩ := trodVars_none hV
 have k0 := h0
 have lt0 : ∀ x ∈ p0, x.block < W.heap.size := by obtain ⟨m, hm⟩ := k0; exact DataW.trod_lt m _ _ _ hm
 obtain ⟨l0, w0⟩ := kJ Try.underlying22 Try.underlying5 (by kernel_rfl) (hval 0 22 v0 rfl rfl) h0
 clear hA0 hval0
 refine (BG Try.func3 (by kernel_rfl) (args := [.one (.fr (.bs l0))]) (aw.cons (np w0) (aw.nil)) (nP l0)).mono fun e W' ⟨he, hg⟩ => ?_
 have bel := hg.below
 subst he
 exact ⟨_, rfl, _, _, _, [], _, [], hW', trodAll_mk1 (shut_bool Try.underlying4 _), (trodAll_cons_mk (Below.trod laidOut (by kernel_rfl) (of_decide_eq_true (by kernel_rfl)) k0 bel lt0) trodAll_mk0), rfl, bel.frame _, fun h => by cases h⟩
theorem FnContextVars_holds : Rows.FnContextVarsSaid :=
 OpenClaim.holds_of_wide 3 Try.f3 rfl rfl rfl rfl rfl rfl rfl ⟨rfl, rfl, rfl, rfl, rfl⟩ rfl rfl rfl rfl rfl (by kernel_rfl) Try.func3 (by kernel_rfl)
  (of_decide_eq_true (by kernel_rfl)) (by unfold Func.isWrapper; first | (rw [if_pos (by decide +kernel)]; kernel_rfl) | (rw [if_neg (by decide +kernel)]; exact ⟨rfl, rfl⟩))
  (fun os started H enc _ => je os started H enc)
#print axioms FnContextVars_holds
end Go.Proofs.Ytajlknlnmmbfcaa
end
