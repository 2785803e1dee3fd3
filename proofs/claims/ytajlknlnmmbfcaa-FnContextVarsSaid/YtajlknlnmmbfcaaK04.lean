/- Part 4 of the proof. -/
import Derived.Test.YtajlknlnmmbfcaaK01
import Derived.Test.YtajlknlnmmbfcaaK02
import Derived.Test.YtajlknlnmmbfcaaK03
import Derived.ChangeArms
import Derived.Deep.Slices
import Derived.Deep.Strs
import Derived.WalkKit
import Derived.ProofKit
import Derived.OpenShut
import Derived.ShutString
import Derived.ChangeOld
import Derived.Below
set_option linter.unusedVariables false
set_option linter.unusedSimpArgs false
section
namespace Go.Proofs.Ytajlknlnmmbfcaa
open Go Go.Ab Go.Dk
noncomputable def bt (n c : Nat) (v0 : List T) (v1 : Int) : OR := aJ Try.prog SS n 65 0 [1, 1, 0, 1, 0] [] c ⟨[.v (.one (.fr (.ts v0))), aa, aa, .v (.one (.int .i64 v1)), aa, aa, aa, aa, aa, aa, aa, aa, aa, aa, aa, aa, aa, aa, aa, aa, aa, aa, aa, aa, aa, aa, aa, aa, aa],
 []⟩
theorem dC (n c : Nat) (v0 : List T) (v1 : Int) : bt n (c + 1) v0 v1 =
 (cond (decide (v1 < (v0.length : Int)))
 (cond (Go.Ab.inB 0 v1 v0.length)
 (cond (decide (0 ≤ v1))
 (v0[(v1 : Int).toNat]?.bind fun x0 =>
 ((FF n 96 [.one (.fr (.ts ((v0.take (v1 : Int).toNat).drop (0 : Int).toNat))), .agg [.int .i64 x0.k, .int .i64 x0.n, .fr (.ts x0.kids)]] []).bind fun x1 =>
 (aB .i64 x1.1 fun x2 x3 =>
 (aB .i64 x3 fun x4 x5 =>
 (ai x5 (aj x1.2
 (cond (!decide (x4 = 0))
 (some ([.one (.int .i64 x4)], []))
 (bt n c v0 (IntKind.i64.wrap (v1 + 1))))))))))
 none)
 none)
 (some ([.one (.int .i64 0)], []))) := by kernel_rfl
theorem jL (n : Nat) (v0 : List T) : FF (n + 1) 65 [.one (.fr (.ts v0))] [] =
 ((FF n 28 [.one (.fr (.ts v0))] []).bind fun x0 =>
 (aD x0.1 fun x1 x2 =>
 (ai x2 (aj x0.2
 (cond (!x1)
 (some ([.one (.int .i64 3)], []))
 (bt n n v0 0)))))) := by kernel_rfl
theorem oX (n : Nat) (v0 : List T) (v1 v2 : Int) (v3 : List T) : FF (n + 1) 66 [.one (.fr (.ts v0)), .agg [.int .i64 v1, .int .i64 v2, .fr (.ts v3)]] [] =
 ((FF n 29 [.agg [.int .i64 v1, .int .i64 v2, .fr (.ts v3)]] []).bind fun x0 =>
 (aD x0.1 fun x1 x2 =>
 (ai x2 (aj x0.2
 (cond (!x1)
 (some ([.agg [.int .i64 0, .int .i64 0, .fr (.ts [])], .one (.int .i64 2)], []))
 (cond (decide (20 < (v0.length : Int)))
 (some ([.agg [.int .i64 0, .int .i64 0, .fr (.ts [])], .one (.int .i64 2)], []))
 ((FF n 97 [.one (.fr (.ts v0)), .agg [.int .i64 v1, .int .i64 v2, .fr (.ts v3)]] []).bind fun x3 =>
 (ag x3.1 fun x4 x5 =>
 (aB .i64 x5 fun x6 x7 =>
 (ai x7 (aj x3.2
 (cond (!decide (x6 = 0))
 (some ([.agg [.int .i64 0, .int .i64 0, .fr (.ts [])], .one (.int .i64 x6)], []))
 ((FF n 29 [.agg [.int .i64 x4.k, .int .i64 x4.n, .fr (.ts x4.kids)]] []).bind fun x8 =>
 (aD x8.1 fun x9 x10 =>
 (ai x10 (aj x8.2
 (cond (!x9)
 (some ([.agg [.int .i64 0, .int .i64 0, .fr (.ts [])], .one (.int .i64 2)], []))
 (some ([.agg [.int .i64 x4.k, .int .i64 x4.n, .fr (.ts x4.kids)], .one (.int .i64 0)], []))))))))))))))))))) := by kernel_rfl
theorem gE (n : Nat) (v0 v1 : Int) (v2 : List T) (v3 : Int) : FF (n + 1) 67 [.agg [.int .i64 v0, .int .i64 v1, .fr (.ts v2)], .one (.int .i64 v3)] [] =
 (cond (!decide (v3 = 0))
 (some ([.agg [.int .i64 0, .int .i64 0, .fr (.ts [])], .one (.int .i64 v3)], []))
 ((FF n 54 [.agg [.int .i64 v0, .int .i64 v1, .fr (.ts v2)]] []).bind fun x0 =>
 (eK 0 x0.1 fun x1 x2 x3 =>
 (bW 29 x0.2 fun x4 x5 =>
 (ai x3 (aj x5
 (some ([.agg [.int .i64 x1, .int .i64 x2, .fr (.ts x4)], .one (.int .i64 v3)], [])))))))) := by kernel_rfl
noncomputable def aX (n c : Nat) (v0 v1 v2 : Int) (v3 : List UInt8) (v4 v5 v6 : Int) (v7 : List T) (v8 v9 : Int) (v10 : List T) : OR := aJ Try.prog SS n 68 1 [1, 1, 1, 1, 1, 0, 1, 0] [] c ⟨[.v (.one (.ptr 0 0)), .v (.one (.int .i64 v0)), aa, aa, .v (.one (.ptr 1 0)), .v (.one (.int .i64 v1)), .v (.one (.ptr 3 0)), .v (.one (.int .i64 v2)), aa, aa, aa, aa, aa, aa, aa, aa, aa, aa, aa, aa, aa, aa, aa, aa, aa, aa, aa, aa, aa, aa, aa, aa, aa, aa, aa, aa, aa, aa, aa, aa, aa],
 [.cells [.fr (.bs v3), .int .i64 v4], .cells [.int .i64 v5, .int .i64 v6, .own 2 0], .arr 29 (.ts v7) 0 false, .cells [.int .i64 v8, .int .i64 v9, .own 4 0], .arr 29 (.ts v10) 0 false]⟩
theorem cE (n c : Nat) (v0 v1 v2 : Int) (v3 : List UInt8) (v4 v5 v6 : Int) (v7 : List T) (v8 v9 : Int) (v10 : List T) : aX n (c + 1) v0 v1 v2 v3 v4 v5 v6 v7 v8 v9 v10 =
 ((FF n 72 [.one (.int .i64 v1)] []).bind fun x0 =>
 (aB .i64 x0.1 fun x1 x2 =>
 (ai x2 (aj x0.2
 (cond (decide (v2 < x1))
 ((FF n 68 [.one (.ptr 0 0), .one (.int .i64 (IntKind.i64.wrap (v0 - 1)))] [.cells [.fr (.bs v3), .int .i64 v4]]).bind fun x3 =>
 (aP x3.2 fun x4 x5 =>
 (bsC x4 fun x6 x7 =>
 (aS .i64 x7 fun x8 x9 =>
 (aQ x9
 (ag x3.1 fun x10 x11 =>
 (ai x11 (aj x5
 (cond (b8 (v10 ++ [(T.mk x10.k x10.n x10.kids)]).length)
 (aX n c v0 v1 (IntKind.i64.wrap (v2 + 1)) x6 x8 v5 v6 v7 v8 v9 (v10 ++ [(T.mk x10.k x10.n x10.kids)]))
 none)))))))))
 (some ([.agg [.int .i64 v8, .int .i64 v9, .fr (.ts v10)]], [.cells [.fr (.bs v3), .int .i64 v4]]))))))) := by kernel_rfl
theorem ke (n : Nat) (v0 : Int) (v1 : List UInt8) (v2 : Int) : FF (n + 1) 68 [.one (.ptr 0 0), .one (.int .i64 v0)] [.cells [.fr (.bs v1), .int .i64 v2]] =
 ((FF n 19 [.one (.ptr 0 0), .one (.fr (.is [1, 5, 4, 8, 9, 3, 6, 7, 11, 15, 14, 10, 12, 13, 16, 2]))] [.cells [.fr (.bs v1), .int .i64 v2]]).bind fun x0 =>
 (aP x0.2 fun x1 x2 =>
 (bsC x1 fun x3 x4 =>
 (aS .i64 x4 fun x5 x6 =>
 (aQ x6
 (aB .i64 x0.1 fun x7 x8 =>
 (ai x8 (aj x2
 (cond (decide (v0 < 2))
 ((FF n 19 [.one (.ptr 0 0), .one (.fr (.is [1, 7, 6, 2, 1]))] [.cells [.fr (.bs x3), .int .i64 x5]]).bind fun x9 =>
 (aP x9.2 fun x10 x11 =>
 (bsC x10 fun x12 x13 =>
 (aS .i64 x13 fun x14 x15 =>
 (aQ x15
 (aB .i64 x9.1 fun x16 x17 =>
 (ai x17 (aj x11
 ((FF n 73 [.one (.int .i64 x16)] []).bind fun x18 =>
 (aB .i64 x18.1 fun x19 x20 =>
 (ai x20 (aj x18.2
 (cond (decide (0 < x19))
 ((FF n 19 [.one (.ptr 0 0), .one (.fr (.is [0, 1, 0, 2, 1, 3]))] [.cells [.fr (.bs x12), .int .i64 x14]]).bind fun x21 =>
 (aP x21.2 fun x22 x23 =>
 (bsC x22 fun x24 x25 =>
 (aS .i64 x25 fun x26 x27 =>
 (aQ x27
 (aB .i64 x21.1 fun x28 x29 =>
 (ai x29 (aj x23
 (aX n n v0 x16 0 x24 x26 0 0 ([]) x16 x28 ([]))))))))))
 (aX n n v0 x16 0 x12 x14 0 0 ([]) x16 0 ([])))))))))))))))
 ((FF n 73 [.one (.int .i64 x7)] []).bind fun x9 =>
 (aB .i64 x9.1 fun x10 x11 =>
 (ai x11 (aj x9.2
 (cond (decide (0 < x10))
 ((FF n 19 [.one (.ptr 0 0), .one (.fr (.is [0, 1, 0, 2, 1, 3]))] [.cells [.fr (.bs x3), .int .i64 x5]]).bind fun x12 =>
 (aP x12.2 fun x13 x14 =>
 (bsC x13 fun x15 x16 =>
 (aS .i64 x16 fun x17 x18 =>
 (aQ x18
 (aB .i64 x12.1 fun x19 x20 =>
 (ai x20 (aj x14
 (aX n n v0 x7 0 x15 x17 0 0 ([]) x7 x19 ([]))))))))))
 (aX n n v0 x7 0 x3 x5 0 0 ([]) x7 0 ([])))))))))))))))) := by kernel_rfl
theorem oQ (n : Nat) (v0 v1 : Int) : FF (n + 1) 69 [.one (.int .i64 v0), .one (.int .i64 v1)] [] =
 ((FF n 98 [.one (.int .i64 v0), .one (.int .i64 v1)] []).bind fun x0 =>
 (aD x0.1 fun x1 x2 =>
 (ai x2 (aj x0.2
 (cond x1
 (some ([.one (.int .i64 1)], []))
 (some ([.one (.int .i64 0)], []))))))) := by kernel_rfl
noncomputable def bN (n c : Nat) (v0 v1 v2 v3 : Int) (v4 : List T) (v5 v6 : Int) (v7 : List T) (v8 v9 : Int) (v10 : List T) (v11 v12 : Int) (v13 : List T) : OR := aJ Try.prog SS n 70 0 [1, 1, 0, 1, 0] [] c ⟨[aa, .v (.one (.int .i64 v0)), aa, .v (.one (.ptr 0 0)), aa, .v (.one (.ptr 1 0)), .v (.one (.ptr 2 0)), .v (.one (.ptr 4 0)), .v (.one (.int .i64 v1)), aa, aa, aa, aa, aa, aa, aa, aa, aa, aa, aa, aa, aa, aa, aa, aa, aa, aa, aa, aa, aa, aa, aa, aa, aa, aa, aa, aa, aa, aa, aa, aa, aa],
 [.cells [.int .i64 v2, .int .i64 v3, .fr (.ts v4)], .cells [.int .i64 v5, .int .i64 v6, .fr (.ts v7)], .cells [.int .i64 v8, .int .i64 v9, .own 3 0], .arr 29 (.ts v10) 0 false, .cells [.int .i64 v11, .int .i64 v12, .own 5 0], .arr 29 (.ts v13) 0 false]⟩
theorem dO (n c : Nat) (v0 v1 v2 v3 : Int) (v4 : List T) (v5 v6 : Int) (v7 : List T) (v8 v9 : Int) (v10 : List T) (v11 v12 : Int) (v13 : List T) : bN n (c + 1) v0 v1 v2 v3 v4 v5 v6 v7 v8 v9 v10 v11 v12 v13 =
 (cond (decide (v1 < (v4.length : Int)))
 (cond (decide (v1 = v0))
 (cond (b8 (v13 ++ [(T.mk v5 v6 v7)]).length)
 (bN n c v0 (IntKind.i64.wrap (v1 + 1)) v2 v3 v4 v5 v6 v7 v8 v9 v10 v11 v12 (v13 ++ [(T.mk v5 v6 v7)]))
 none)
 (cond (decide (0 ≤ v1))
 (v4[(v1 : Int).toNat]?.bind fun x0 =>
 ((FF n 54 [.agg [.int .i64 x0.k, .int .i64 x0.n, .fr (.ts x0.kids)]] []).bind fun x1 =>
 (eK 0 x1.1 fun x2 x3 x4 =>
 (bW 29 x1.2 fun x5 x6 =>
 (ai x4 (aj x6
 (cond (b8 (v13 ++ [(T.mk x2 x3 x5)]).length)
 (bN n c v0 (IntKind.i64.wrap (v1 + 1)) v2 v3 v4 v5 v6 v7 v8 v9 v10 v11 v12 (v13 ++ [(T.mk x2 x3 x5)]))
 none)))))))
 none))
 (some ([.agg [.int .i64 v11, .int .i64 v12, .fr (.ts v13)]], []))) := by kernel_rfl
theorem qJ (n : Nat) (v0 v1 : Int) (v2 : List T) (v3 v4 v5 : Int) (v6 : List T) : FF (n + 1) 70 [.agg [.int .i64 v0, .int .i64 v1, .fr (.ts v2)], .one (.int .i64 v3), .agg [.int .i64 v4, .int .i64 v5, .fr (.ts v6)]] [] =
 bN n n v3 0 v0 v1 v2 v4 v5 v6 0 0 ([]) v0 v1 ([]) := by kernel_rfl
theorem c9 (n : Nat) (v0 : List T) : FF (n + 1) 37 [.one (.fr (.ts v0)), .one (.fn 71 [])] [] =
 ((FF n 56 [.one (.fr (.ts v0)), .one (.fn 71 [])] []).bind fun x0 =>
 (aB .i64 x0.1 fun x1 x2 =>
 (ai x2 (aj x0.2
 (some ([.one (.bool (decide (0 ≤ x1)))], [])))))) := by kernel_rfl
theorem qq (n : Nat) (v0 : Int) : FF (n + 1) 72 [.one (.int .i64 v0)] [] =
 (cond (decide (v0 = 1))
 (some ([.one (.int .i64 0)], []))
 (cond (decide (v0 = 2))
 (some ([.one (.int .i64 0)], []))
 (cond (decide (v0 = 6))
 (some ([.one (.int .i64 0)], []))
 (cond (decide (v0 = 7))
 (some ([.one (.int .i64 0)], []))
 (cond (decide (v0 = 8))
 (some ([.one (.int .i64 1)], []))
 (cond (decide (v0 = 11))
 (some ([.one (.int .i64 1)], []))
 (cond (decide (v0 = 15))
 (some ([.one (.int .i64 1)], []))
 (cond (decide (v0 = 16))
 (some ([.one (.int .i64 1)], []))
 (cond (decide (v0 = 3))
 (some ([.one (.int .i64 2)], []))
 (cond (decide (v0 = 4))
 (some ([.one (.int .i64 2)], []))
 (cond (decide (v0 = 5))
 (some ([.one (.int .i64 2)], []))
 (cond (decide (v0 = 13))
 (some ([.one (.int .i64 2)], []))
 (cond (decide (v0 = 10))
 (some ([.one (.int .i64 3)], []))
 (cond (decide (v0 = 12))
 (some ([.one (.int .i64 3)], []))
 (cond (decide (v0 = 14))
 (some ([.one (.int .i64 3)], []))
 (cond (decide (v0 = 9))
 (some ([.one (.int .i64 4)], []))
 (some ([.one (.int .i64 (-1))], [])))))))))))))))))) := by kernel_rfl
theorem rj (n : Nat) (v0 : Int) : FF (n + 1) 73 [.one (.int .i64 v0)] [] =
 (cond (decide (v0 = 1))
 (some ([.one (.int .i64 20)], []))
 (cond (decide (v0 = 2))
 (some ([.one (.int .i64 3)], []))
 (some ([.one (.int .i64 0)], [])))) := by kernel_rfl
theorem oj (n : Nat) (v0 : Int) : FF (n + 1) 74 [.one (.int .i64 v0)] [] =
 ((FF n 20 [.one (.int .i64 v0), .one (.int .i64 1), .one (.int .i64 16)] []).bind fun x0 =>
 (aD x0.1 fun x1 x2 =>
 (ai x2 (aj x0.2
 (cond (!x1)
 (some ([.one (.int .i64 (-1))], []))
 (cond (decide (0 ≤ (IntKind.i64.wrap (v0 - 1))))
 (cond (decide ((IntKind.i64.wrap (v0 - 1)) < (([0, 0, 2, 2, 2, 0, 0, 1, 4, 3, 1, 3, 2, 3, 1, 1]).length : Int)))
 (([0, 0, 2, 2, 2, 0, 0, 1, 4, 3, 1, 3, 2, 3, 1, 1])[((IntKind.i64.wrap (v0 - 1)) : Int).toNat]?.bind fun x3 =>
 some ([.one (.int .i64 x3)], []))
 none)
 none)))))) := by kernel_rfl
theorem uO (n : Nat) (v0 : Int) : FF (n + 1) 75 [.one (.int .i64 v0)] [] =
 (cond (decide (v0 = 1))
 (some ([.one (.int .i64 20)], []))
 (cond (decide (v0 = 2))
 (some ([.one (.int .i64 3)], []))
 (some ([.one (.int .i64 0)], [])))) := by kernel_rfl
theorem oK (n : Nat) (v0 v1 : Int) (v2 : List T) : FF (n + 1) 38 [.agg [.int .i64 v0, .int .i64 v1, .fr (.ts v2)]] [] =
 ((FF n 33 [.agg [.int .i64 v0, .int .i64 v1, .fr (.ts v2)]] []).bind fun x0 =>
 (aD x0.1 fun x1 x2 =>
 (ai x2 (aj x0.2
 (some ([.one (.bool (!x1))], [])))))) := by kernel_rfl
theorem lp (n : Nat) (v0 v1 : Int) (v2 : List T) (v3 : Int) : FF (n + 1) 76 [.agg [.int .i64 v0, .int .i64 v1, .fr (.ts v2)], .one (.int .i64 v3)] [] =
 ((FF n 99 [.agg [.int .i64 v0, .int .i64 v1, .fr (.ts v2)], .one (.int .i64 v3), .one (.fn 100 [])] []).bind fun x0 =>
 (ag x0.1 fun x1 x2 =>
 (aB .i64 x2 fun x3 x4 =>
 (aB .i64 x4 fun x5 x6 =>
 (ai x6 (aj x0.2
 (some ([.agg [.int .i64 x1.k, .int .i64 x1.n, .fr (.ts x1.kids)], .one (.int .i64 x5)], [])))))))) := by kernel_rfl
theorem ua (n : Nat) (v0 v1 : Int) (v2 : List T) (v3 v4 : Int) : FF (n + 1) 80 [.agg [.int .i64 v0, .int .i64 v1, .fr (.ts v2)], .one (.int .i64 v3), .one (.int .i64 v4)] [] =
 ((FF n 103 [.agg [.int .i64 v0, .int .i64 v1, .fr (.ts v2)], .one (.int .i64 0), .one (.fn 104 [0, 1, 2])] [.cells [.int .i64 v4], .cells [.int .i64 v3], .cells [.bool true]]).bind fun x0 =>
 (aP x0.2 fun x1 x2 =>
 (aS .i64 x1 fun x3 x4 =>
 (aQ x4
 (aP x2 fun x5 x6 =>
 (aS .i64 x5 fun x7 x8 =>
 (aQ x8
 (aP x6 fun x9 x10 =>
 (lX x9 fun x11 x12 =>
 (aQ x12
 (ag x0.1 fun x13 x14 =>
 (ai x14 (aj x10
 (cond (!x11)
 (some ([.agg [.int .i64 0, .int .i64 0, .fr (.ts [])], .one (.bool false)], []))
 ((FF n 51 [.agg [.int .i64 x13.k, .int .i64 x13.n, .fr (.ts x13.kids)]] []).bind fun x15 =>
 (ag x15.1 fun x16 x17 =>
 (aD x17 fun x18 x19 =>
 (ai x19 (aj x15.2
 (some ([.agg [.int .i64 x16.k, .int .i64 x16.n, .fr (.ts x16.kids)], .one (.bool x18)], []))))))))))))))))))))) := by kernel_rfl
theorem jG (n : Nat) (v0 v1 : Int) (v2 : List T) (v3 : Bool) : FF (n + 1) 79 [.agg [.int .i64 v0, .int .i64 v1, .fr (.ts v2)], .one (.bool v3)] [] =
 (cond (!v3)
 (some ([.agg [.int .i64 0, .int .i64 0, .fr (.ts [])], .one (.int .i64 2)], []))
 ((FF n 33 [.agg [.int .i64 v0, .int .i64 v1, .fr (.ts v2)]] []).bind fun x0 =>
 (aD x0.1 fun x1 x2 =>
 (ai x2 (aj x0.2
 (cond (!x1)
 (some ([.agg [.int .i64 0, .int .i64 0, .fr (.ts [])], .one (.int .i64 2)], []))
 (some ([.agg [.int .i64 v0, .int .i64 v1, .fr (.ts v2)], .one (.int .i64 0)], [])))))))) := by kernel_rfl
theorem uV (n : Nat) (v0 : Int) : FF (n + 1) 81 [.one (.int .i64 v0)] [] =
 some ([.agg [.int .i64 2, .int .i64 v0, .fr (.ts [])]], []) := by kernel_rfl
theorem n5 (n : Nat) (v0 : Int) : FF (n + 1) 50 [.one (.int .i64 v0), .one (.emp none)] [] =
 some ([.agg [.int .i64 v0, .int .i64 0, .fr (.ts [])]], []) := by kernel_rfl
theorem ez (n : Nat) (v0 : List T) (v1 v2 : Int) (v3 : List T) (v4 v5 v6 : Int) (v7 v8 : List T) (v9 v10 : Int) (v11 : List T) : FF (n + 1) 82 [.agg [.fr (.ts v0), .int .i64 v1, .int .i64 v2, .fr (.ts v3), .fn 58 [0, 1]], .one (.int .i64 v4), .agg [.int .i64 v5, .int .i64 v6, .fr (.ts v7)]] [.cells [.fr (.ts v8)], .cells [.int .i64 v9, .int .i64 v10, .fr (.ts v11)]] =
 ((FF n 58 [.one (.int .i64 v4), .one (.ptr 0 0), .one (.ptr 1 0)] [.cells [.fr (.ts v8)], .cells [.int .i64 v9, .int .i64 v10, .fr (.ts v11)]]).bind fun x0 =>
 (aP x0.2 fun x1 x2 =>
 (tsC x1 fun x3 x4 =>
 (aQ x4
 (aP x2 fun x5 x6 =>
 (aS .i64 x5 fun x7 x8 =>
 (aS .i64 x8 fun x9 x10 =>
 (tsC x10 fun x11 x12 =>
 (aQ x12
 (ag x0.1 fun x13 x14 =>
 (aB .i64 x14 fun x15 x16 =>
 (ai x16 (aj x6
 (cond (!decide (x15 = 0))
 (some ([.one (.int .i64 x15)], [.cells [.fr (.ts x3)], .cells [.int .i64 x7, .int .i64 x9, .fr (.ts x11)]]))
 ((FF n 41 [.agg [.int .i64 x13.k, .int .i64 x13.n, .fr (.ts x13.kids)], .agg [.int .i64 v5, .int .i64 v6, .fr (.ts v7)]] []).bind fun x17 =>
 (aB .i64 x17.1 fun x18 x19 =>
 (ai x19 (aj x17.2
 (some ([.one (.int .i64 x18)], [.cells [.fr (.ts x3)], .cells [.int .i64 x7, .int .i64 x9, .fr (.ts x11)]])))))))))))))))))))) := by kernel_rfl
theorem eC (n : Nat) (v0 : List T) (v1 v2 : Int) (v3 v4 : List T) (v5 v6 : Int) (v7 : List T) : FF (n + 1) 83 [.agg [.fr (.ts v0), .int .i64 v1, .int .i64 v2, .fr (.ts v3), .fn 58 [0, 1]]] [.cells [.fr (.ts v4)], .cells [.int .i64 v5, .int .i64 v6, .fr (.ts v7)]] =
 ((FF n 105 [.agg [.fr (.ts v0), .int .i64 v1, .int .i64 v2, .fr (.ts v3), .fn 58 [0, 1]], .one (.int .i64 0)] [.cells [.fr (.ts v4)], .cells [.int .i64 v5, .int .i64 v6, .fr (.ts v7)]]).bind fun x0 =>
 (aP x0.2 fun x1 x2 =>
 (tsC x1 fun x3 x4 =>
 (aQ x4
 (aP x2 fun x5 x6 =>
 (aS .i64 x5 fun x7 x8 =>
 (aS .i64 x8 fun x9 x10 =>
 (tsC x10 fun x11 x12 =>
 (aQ x12
 (aB .i64 x0.1 fun x13 x14 =>
 (aB .i64 x14 fun x15 x16 =>
 (ai x16 (aj x6
 (cond (!decide (x15 = 0))
 (some ([.agg [.int .i64 0, .int .i64 0, .fr (.ts [])], .one (.int .i64 x15)], [.cells [.fr (.ts x3)], .cells [.int .i64 x7, .int .i64 x9, .fr (.ts x11)]]))
 ((FF n 105 [.agg [.fr (.ts v0), .int .i64 v1, .int .i64 v2, .fr (.ts v3), .fn 58 [0, 1]], .one (.int .i64 1)] [.cells [.fr (.ts x3)], .cells [.int .i64 x7, .int .i64 x9, .fr (.ts x11)]]).bind fun x17 =>
 (aP x17.2 fun x18 x19 =>
 (tsC x18 fun x20 x21 =>
 (aQ x21
 (aP x19 fun x22 x23 =>
 (aS .i64 x22 fun x24 x25 =>
 (aS .i64 x25 fun x26 x27 =>
 (tsC x27 fun x28 x29 =>
 (aQ x29
 (aB .i64 x17.1 fun x30 x31 =>
 (aB .i64 x31 fun x32 x33 =>
 (ai x33 (aj x23
 (cond (!decide (x32 = 0))
 (some ([.agg [.int .i64 0, .int .i64 0, .fr (.ts [])], .one (.int .i64 x32)], [.cells [.fr (.ts x20)], .cells [.int .i64 x24, .int .i64 x26, .fr (.ts x28)]]))
 ((FF n 81 [.one (.int .i64 (max x13 x30))] []).bind fun x34 =>
 (ag x34.1 fun x35 x36 =>
 (ai x36 (aj x34.2
 (some ([.agg [.int .i64 x35.k, .int .i64 x35.n, .fr (.ts x35.kids)], .one (.int .i64 0)], [.cells [.fr (.ts x20)], .cells [.int .i64 x24, .int .i64 x26, .fr (.ts x28)]])))))))))))))))))))))))))))))))))) := by kernel_rfl
theorem dH (n : Nat) (v0 : List T) (v1 v2 : Int) (v3 v4 : List T) (v5 v6 : Int) (v7 : List T) : FF (n + 1) 84 [.agg [.fr (.ts v0), .int .i64 v1, .int .i64 v2, .fr (.ts v3), .fn 58 [0, 1]]] [.cells [.fr (.ts v4)], .cells [.int .i64 v5, .int .i64 v6, .fr (.ts v7)]] =
 ((FF n 105 [.agg [.fr (.ts v0), .int .i64 v1, .int .i64 v2, .fr (.ts v3), .fn 58 [0, 1]], .one (.int .i64 0)] [.cells [.fr (.ts v4)], .cells [.int .i64 v5, .int .i64 v6, .fr (.ts v7)]]).bind fun x0 =>
 (aP x0.2 fun x1 x2 =>
 (tsC x1 fun x3 x4 =>
 (aQ x4
 (aP x2 fun x5 x6 =>
 (aS .i64 x5 fun x7 x8 =>
 (aS .i64 x8 fun x9 x10 =>
 (tsC x10 fun x11 x12 =>
 (aQ x12
 (aB .i64 x0.1 fun x13 x14 =>
 (aB .i64 x14 fun x15 x16 =>
 (ai x16 (aj x6
 (cond (!decide (x15 = 0))
 (some ([.agg [.int .i64 0, .int .i64 0, .fr (.ts [])], .one (.int .i64 x15)], [.cells [.fr (.ts x3)], .cells [.int .i64 x7, .int .i64 x9, .fr (.ts x11)]]))
 ((FF n 58 [.one (.int .i64 1), .one (.ptr 0 0), .one (.ptr 1 0)] [.cells [.fr (.ts x3)], .cells [.int .i64 x7, .int .i64 x9, .fr (.ts x11)]]).bind fun x17 =>
 (aP x17.2 fun x18 x19 =>
 (tsC x18 fun x20 x21 =>
 (aQ x21
 (aP x19 fun x22 x23 =>
 (aS .i64 x22 fun x24 x25 =>
 (aS .i64 x25 fun x26 x27 =>
 (tsC x27 fun x28 x29 =>
 (aQ x29
 (ag x17.1 fun x30 x31 =>
 (aB .i64 x31 fun x32 x33 =>
 (ai x33 (aj x23
 (cond (!decide (x32 = 0))
 (some ([.agg [.int .i64 0, .int .i64 0, .fr (.ts [])], .one (.int .i64 x32)], [.cells [.fr (.ts x20)], .cells [.int .i64 x24, .int .i64 x26, .fr (.ts x28)]]))
 (v3[(0 : Int).toNat]?.bind fun x34 =>
 ((FF n 50 [.one (.int .i64 3), .one (.fr (.ts [(T.mk x34.k x34.n x34.kids), (T.mk x30.k x30.n x30.kids)]))] []).bind fun x35 =>
 (ag x35.1 fun x36 x37 =>
 (ai x37 (aj x35.2
 ((FF n 79 [.agg [.int .i64 x36.k, .int .i64 x36.n, .fr (.ts x36.kids)], .one (.bool true)] []).bind fun x38 =>
 (ag x38.1 fun x39 x40 =>
 (aB .i64 x40 fun x41 x42 =>
 (ai x42 (aj x38.2
 (cond (!decide (x41 = 0))
 (some ([.agg [.int .i64 0, .int .i64 0, .fr (.ts [])], .one (.int .i64 x41)], [.cells [.fr (.ts x20)], .cells [.int .i64 x24, .int .i64 x26, .fr (.ts x28)]]))
 ((FF n 40 [.one (.fr (.ts v0)), .agg [.int .i64 x39.k, .int .i64 x39.n, .fr (.ts x39.kids)]] []).bind fun x43 =>
 (ag x43.1 fun x44 x45 =>
 (aB .i64 x45 fun x46 x47 =>
 (ai x47 (aj x43.2
 (cond (!decide (x46 = 0))
 (some ([.agg [.int .i64 0, .int .i64 0, .fr (.ts [])], .one (.int .i64 x46)], [.cells [.fr (.ts x20)], .cells [.int .i64 x24, .int .i64 x26, .fr (.ts x28)]]))
 (some ([.agg [.int .i64 x39.k, .int .i64 x39.n, .fr (.ts x39.kids)], .one (.int .i64 0)], [.cells [.fr (.ts x20)], .cells [.int .i64 x24, .int .i64 x26, .fr (.ts x28)]]))))))))))))))))))))))))))))))))))))))))))))))) := by kernel_rfl
theorem eO (n : Nat) (v0 : List T) (v1 v2 : Int) (v3 : List T) (v4 v5 : Int) (v6 : List T) (v7 v8 : Int) (v9 : List T) : FF (n + 1) 85 [.agg [.fr (.ts v0), .int .i64 v1, .int .i64 v2, .fr (.ts v3), .fn 58 [0, 1]], .one (.int .i64 v4), .one (.int .i64 v5)] [.cells [.fr (.ts v6)], .cells [.int .i64 v7, .int .i64 v8, .fr (.ts v9)]] =
 ((FF n 58 [.one (.int .i64 v4), .one (.ptr 0 0), .one (.ptr 1 0)] [.cells [.fr (.ts v6)], .cells [.int .i64 v7, .int .i64 v8, .fr (.ts v9)]]).bind fun x0 =>
 (aP x0.2 fun x1 x2 =>
 (tsC x1 fun x3 x4 =>
 (aQ x4
 (aP x2 fun x5 x6 =>
 (aS .i64 x5 fun x7 x8 =>
 (aS .i64 x8 fun x9 x10 =>
 (tsC x10 fun x11 x12 =>
 (aQ x12
 (ag x0.1 fun x13 x14 =>
 (aB .i64 x14 fun x15 x16 =>
 (ai x16 (aj x6
 (cond (!decide (x15 = 0))
 (some ([.agg [.int .i64 0, .int .i64 0, .fr (.ts [])], .one (.int .i64 x15)], [.cells [.fr (.ts x3)], .cells [.int .i64 x7, .int .i64 x9, .fr (.ts x11)]]))
 ((FF n 57 [.agg [.int .i64 x13.k, .int .i64 x13.n, .fr (.ts x13.kids)], .one (.int .i64 v5)] []).bind fun x17 =>
 (ag x17.1 fun x18 x19 =>
 (aB .i64 x19 fun x20 x21 =>
 (ai x21 (aj x17.2
 (some ([.agg [.int .i64 x18.k, .int .i64 x18.n, .fr (.ts x18.kids)], .one (.int .i64 x20)], [.cells [.fr (.ts x3)], .cells [.int .i64 x7, .int .i64 x9, .fr (.ts x11)]]))))))))))))))))))))) := by kernel_rfl
theorem kf (n : Nat) (v0 v1 : Int) (v2 : List T) : FF (n + 1) 87 [.agg [.int .i64 v0, .int .i64 v1, .fr (.ts v2)]] [] =
 (cond (decide ((v2.length : Int) = 0))
 (some ([.agg [.int .i64 0, .int .i64 0, .fr (.ts [])]], []))
 (v2[(0 : Int).toNat]?.bind fun x0 =>
 some ([.agg [.int .i64 x0.k, .int .i64 x0.n, .fr (.ts x0.kids)]], []))) := by kernel_rfl
theorem cB (n : Nat) (v0 : List T) (v1 v2 : Int) (v3 : List T) (v4 v5 v6 : Int) (v7 : List T) (v8 : Int) (v9 : List T) (v10 v11 : Int) (v12 : List T) : FF (n + 1) 86 [.agg [.fr (.ts v0), .int .i64 v1, .int .i64 v2, .fr (.ts v3), .fn 58 [0, 1]], .one (.int .i64 v4), .agg [.int .i64 v5, .int .i64 v6, .fr (.ts v7)], .one (.int .i64 v8)] [.cells [.fr (.ts v9)], .cells [.int .i64 v10, .int .i64 v11, .fr (.ts v12)]] =
 (cond (!decide (v8 = 0))
 (some ([.one (.int .i64 v8)], [.cells [.fr (.ts v9)], .cells [.int .i64 v10, .int .i64 v11, .fr (.ts v12)]]))
 ((FF n 82 [.agg [.fr (.ts v0), .int .i64 v1, .int .i64 v2, .fr (.ts v3), .fn 58 [0, 1]], .one (.int .i64 v4), .agg [.int .i64 v5, .int .i64 v6, .fr (.ts v7)]] [.cells [.fr (.ts v9)], .cells [.int .i64 v10, .int .i64 v11, .fr (.ts v12)]]).bind fun x0 =>
 (aP x0.2 fun x1 x2 =>
 (tsC x1 fun x3 x4 =>
 (aQ x4
 (aP x2 fun x5 x6 =>
 (aS .i64 x5 fun x7 x8 =>
 (aS .i64 x8 fun x9 x10 =>
 (tsC x10 fun x11 x12 =>
 (aQ x12
 (aB .i64 x0.1 fun x13 x14 =>
 (ai x14 (aj x6
 (some ([.one (.int .i64 x13)], [.cells [.fr (.ts x3)], .cells [.int .i64 x7, .int .i64 x9, .fr (.ts x11)]]))))))))))))))) := by kernel_rfl
theorem uv (n : Nat) (v0 v1 : Int) (v2 : List T) (v3 v4 v5 : Int) (v6 : List T) : FF (n + 1) 88 [.agg [.int .i64 v0, .int .i64 v1, .fr (.ts v2)], .one (.int .i64 v3), .agg [.int .i64 v4, .int .i64 v5, .fr (.ts v6)]] [] =
 ((FF n 103 [.agg [.int .i64 v0, .int .i64 v1, .fr (.ts v2)], .one (.int .i64 0), .one (.fn 106 [0, 1, 2])] [.cells [.int .i64 v3], .cells [.int .i64 v4, .int .i64 v5, .fr (.ts v6)], .cells [.bool true]]).bind fun x0 =>
 (aP x0.2 fun x1 x2 =>
 (aS .i64 x1 fun x3 x4 =>
 (aQ x4
 (aP x2 fun x5 x6 =>
 (aS .i64 x5 fun x7 x8 =>
 (aS .i64 x8 fun x9 x10 =>
 (tsC x10 fun x11 x12 =>
 (aQ x12
 (aP x6 fun x13 x14 =>
 (lX x13 fun x15 x16 =>
 (aQ x16
 (ag x0.1 fun x17 x18 =>
 (ai x18 (aj x14
 (cond (!x15)
 (some ([.agg [.int .i64 0, .int .i64 0, .fr (.ts [])], .one (.bool false)], []))
 ((FF n 51 [.agg [.int .i64 x17.k, .int .i64 x17.n, .fr (.ts x17.kids)]] []).bind fun x19 =>
 (ag x19.1 fun x20 x21 =>
 (aD x21 fun x22 x23 =>
 (ai x23 (aj x19.2
 (some ([.agg [.int .i64 x20.k, .int .i64 x20.n, .fr (.ts x20.kids)], .one (.bool x22)], []))))))))))))))))))))))) := by kernel_rfl
theorem dy (n : Nat) (v0 : List T) (v1 v2 : Int) (v3 v4 : List T) (v5 v6 : Int) (v7 : List T) : FF (n + 1) 89 [.agg [.fr (.ts v0), .int .i64 v1, .int .i64 v2, .fr (.ts v3), .fn 58 [0, 1]]] [.cells [.fr (.ts v4)], .cells [.int .i64 v5, .int .i64 v6, .fr (.ts v7)]] =
 (v3[(0 : Int).toNat]?.bind fun x0 =>
 ((FF n 50 [.one (.int .i64 6), .one (.emp none)] []).bind fun x1 =>
 (ag x1.1 fun x2 x3 =>
 (ai x3 (aj x1.2
 ((FF n 107 [.agg [.fr (.ts v0), .int .i64 v1, .int .i64 v2, .fr (.ts v3), .fn 58 [0, 1]], .one (.int .i64 0), .agg [.int .i64 x2.k, .int .i64 x2.n, .fr (.ts x2.kids)]] [.cells [.fr (.ts v4)], .cells [.int .i64 v5, .int .i64 v6, .fr (.ts v7)]]).bind fun x4 =>
 (aP x4.2 fun x5 x6 =>
 (tsC x5 fun x7 x8 =>
 (aQ x8
 (aP x6 fun x9 x10 =>
 (aS .i64 x9 fun x11 x12 =>
 (aS .i64 x12 fun x13 x14 =>
 (tsC x14 fun x15 x16 =>
 (aQ x16
 (aB .i64 x4.1 fun x17 x18 =>
 (ai x18 (aj x10
 (cond (!decide (x17 = 0))
 (some ([.agg [.int .i64 0, .int .i64 0, .fr (.ts [])], .one (.int .i64 x17)], [.cells [.fr (.ts x7)], .cells [.int .i64 x11, .int .i64 x13, .fr (.ts x15)]]))
 ((FF n 50 [.one (.int .i64 7), .one (.emp none)] []).bind fun x19 =>
 (ag x19.1 fun x20 x21 =>
 (ai x21 (aj x19.2
 ((FF n 50 [.one (.int .i64 5), .one (.fr (.ts [(T.mk x0.k x0.n x0.kids), (T.mk x20.k x20.n x20.kids)]))] []).bind fun x22 =>
 (ag x22.1 fun x23 x24 =>
 (ai x24 (aj x22.2
 ((FF n 79 [.agg [.int .i64 x23.k, .int .i64 x23.n, .fr (.ts x23.kids)], .one (.bool true)] []).bind fun x25 =>
 (ag x25.1 fun x26 x27 =>
 (aB .i64 x27 fun x28 x29 =>
 (ai x29 (aj x25.2
 ((FF n 86 [.agg [.fr (.ts v0), .int .i64 v1, .int .i64 v2, .fr (.ts v3), .fn 58 [0, 1]], .one (.int .i64 1), .agg [.int .i64 x26.k, .int .i64 x26.n, .fr (.ts x26.kids)], .one (.int .i64 x28)] [.cells [.fr (.ts x7)], .cells [.int .i64 x11, .int .i64 x13, .fr (.ts x15)]]).bind fun x30 =>
 (aP x30.2 fun x31 x32 =>
 (tsC x31 fun x33 x34 =>
 (aQ x34
 (aP x32 fun x35 x36 =>
 (aS .i64 x35 fun x37 x38 =>
 (aS .i64 x38 fun x39 x40 =>
 (tsC x40 fun x41 x42 =>
 (aQ x42
 (aB .i64 x30.1 fun x43 x44 =>
 (ai x44 (aj x36
 (cond (!decide (x43 = 0))
 (some ([.agg [.int .i64 0, .int .i64 0, .fr (.ts [])], .one (.int .i64 x43)], [.cells [.fr (.ts x33)], .cells [.int .i64 x37, .int .i64 x39, .fr (.ts x41)]]))
 ((FF n 108 [.agg [.int .i64 x0.k, .int .i64 x0.n, .fr (.ts x0.kids)]] []).bind fun x45 =>
 (ag x45.1 fun x46 x47 =>
 (aB .i64 x47 fun x48 x49 =>
 (ai x49 (aj x45.2
 ((FF n 86 [.agg [.fr (.ts v0), .int .i64 v1, .int .i64 v2, .fr (.ts v3), .fn 58 [0, 1]], .one (.int .i64 2), .agg [.int .i64 x46.k, .int .i64 x46.n, .fr (.ts x46.kids)], .one (.int .i64 x48)] [.cells [.fr (.ts x33)], .cells [.int .i64 x37, .int .i64 x39, .fr (.ts x41)]]).bind fun x50 =>
 (aP x50.2 fun x51 x52 =>
 (tsC x51 fun x53 x54 =>
 (aQ x54
 (aP x52 fun x55 x56 =>
 (aS .i64 x55 fun x57 x58 =>
 (aS .i64 x58 fun x59 x60 =>
 (tsC x60 fun x61 x62 =>
 (aQ x62
 (aB .i64 x50.1 fun x63 x64 =>
 (ai x64 (aj x56
 (cond (!decide (x63 = 0))
 (some ([.agg [.int .i64 0, .int .i64 0, .fr (.ts [])], .one (.int .i64 x63)], [.cells [.fr (.ts x53)], .cells [.int .i64 x57, .int .i64 x59, .fr (.ts x61)]]))
 ((FF n 50 [.one (.int .i64 6), .one (.emp none)] []).bind fun x65 =>
 (ag x65.1 fun x66 x67 =>
 (ai x67 (aj x65.2
 ((FF n 82 [.agg [.fr (.ts v0), .int .i64 v1, .int .i64 v2, .fr (.ts v3), .fn 58 [0, 1]], .one (.int .i64 3), .agg [.int .i64 x66.k, .int .i64 x66.n, .fr (.ts x66.kids)]] [.cells [.fr (.ts x53)], .cells [.int .i64 x57, .int .i64 x59, .fr (.ts x61)]]).bind fun x68 =>
 (aP x68.2 fun x69 x70 =>
 (tsC x69 fun x71 x72 =>
 (aQ x72
 (aP x70 fun x73 x74 =>
 (aS .i64 x73 fun x75 x76 =>
 (aS .i64 x76 fun x77 x78 =>
 (tsC x78 fun x79 x80 =>
 (aQ x80
 (aB .i64 x68.1 fun x81 x82 =>
 (ai x82 (aj x74
 (cond (!decide (x81 = 0))
 (some ([.agg [.int .i64 0, .int .i64 0, .fr (.ts [])], .one (.int .i64 x81)], [.cells [.fr (.ts x71)], .cells [.int .i64 x75, .int .i64 x77, .fr (.ts x79)]]))
 (v3[(3 : Int).toNat]?.bind fun x83 =>
 ((FF n 50 [.one (.int .i64 5), .one (.fr (.ts [(T.mk x0.k x0.n x0.kids), (T.mk x83.k x83.n x83.kids)]))] []).bind fun x84 =>
 (ag x84.1 fun x85 x86 =>
 (ai x86 (aj x84.2
 ((FF n 79 [.agg [.int .i64 x85.k, .int .i64 x85.n, .fr (.ts x85.kids)], .one (.bool true)] []).bind fun x87 =>
 (ag x87.1 fun x88 x89 =>
 (aB .i64 x89 fun x90 x91 =>
 (ai x91 (aj x87.2
 (some ([.agg [.int .i64 x88.k, .int .i64 x88.n, .fr (.ts x88.kids)], .one (.int .i64 x90)], [.cells [.fr (.ts x71)], .cells [.int .i64 x75, .int .i64 x77, .fr (.ts x79)]]))))))))))))))))))))))))))))))))))))))))))))))))))))))))))))))))))))))))))))))))))))))))))) := by kernel_rfl
noncomputable def av (n c : Nat) (v0 v1 v2 : Int) (v3 : List T) (v4 v5 : Int) (v6 v7 : List T) (v8 v9 : Int) (v10 : List T) (v11 v12 : Int) (v13 : List T) : OR := aJ Try.prog SS n 90 2 [1, 1, 0, 1, 0] [] c ⟨[aa, .v (.one (.ptr 2 0)), .v (.one (.ptr 3 0)), aa, .v (.one (.int .i64 v0)), .v (.one (.int .i64 v1)), .v (.one (.int .i64 v2)), aa, aa, aa, aa, aa, aa, aa, aa, aa, aa, aa, aa, aa, aa, aa, aa, aa, aa, aa, aa, aa, aa, aa, aa, aa, aa, aa],
 [.cells [.fr (.ts v3)], .cells [.int .i64 v4, .int .i64 v5, .fr (.ts v6)], .cells [.fr (.ts v7), .int .i64 v8, .int .i64 v9, .fr (.ts v10), .fn 58 [0, 1]], .cells [.int .i64 v11, .int .i64 v12, .own 4 0], .arr 29 (.ts v13) 0 false]⟩
theorem aF (n c : Nat) (v0 v1 v2 : Int) (v3 : List T) (v4 v5 : Int) (v6 v7 : List T) (v8 v9 : Int) (v10 : List T) (v11 v12 : Int) (v13 : List T) : av n (c + 1) v0 v1 v2 v3 v4 v5 v6 v7 v8 v9 v10 v11 v12 v13 =
 (cond (decide (v2 ≤ 2))
 (cond (decide (v1 = 0))
 (v10[(0 : Int).toNat]?.bind fun x0 =>
 ((FF n 82 [.agg [.fr (.ts v7), .int .i64 v8, .int .i64 v9, .fr (.ts v10), .fn 58 [0, 1]], .one (.int .i64 v2), .agg [.int .i64 x0.k, .int .i64 x0.n, .fr (.ts x0.kids)]] [.cells [.fr (.ts v3)], .cells [.int .i64 v4, .int .i64 v5, .fr (.ts v6)]]).bind fun x1 =>
 (aP x1.2 fun x2 x3 =>
 (tsC x2 fun x4 x5 =>
 (aQ x5
 (aP x3 fun x6 x7 =>
 (aS .i64 x6 fun x8 x9 =>
 (aS .i64 x9 fun x10 x11 =>
 (tsC x11 fun x12 x13 =>
 (aQ x13
 (aB .i64 x1.1 fun x14 x15 =>
 (ai x15 (aj x7
 (av n c v0 x14 (IntKind.i64.wrap (v2 + 1)) x4 x8 x10 x12 v7 v8 v9 v10 v11 v12 v13))))))))))))))
 (cond (!decide (v1 = 0))
 (some ([.agg [.int .i64 0, .int .i64 0, .fr (.ts [])], .one (.int .i64 v1)], [.cells [.fr (.ts v3)], .cells [.int .i64 v4, .int .i64 v5, .fr (.ts v6)]]))
 ((FF n 81 [.one (.int .i64 v0)] []).bind fun x0 =>
 (ag x0.1 fun x1 x2 =>
 (ai x2 (aj x0.2
 (some ([.agg [.int .i64 x1.k, .int .i64 x1.n, .fr (.ts x1.kids)], .one (.int .i64 0)], [.cells [.fr (.ts v3)], .cells [.int .i64 v4, .int .i64 v5, .fr (.ts v6)]]))))))))
 (cond (!decide (v1 = 0))
 (some ([.agg [.int .i64 0, .int .i64 0, .fr (.ts [])], .one (.int .i64 v1)], [.cells [.fr (.ts v3)], .cells [.int .i64 v4, .int .i64 v5, .fr (.ts v6)]]))
 ((FF n 81 [.one (.int .i64 v0)] []).bind fun x0 =>
 (ag x0.1 fun x1 x2 =>
 (ai x2 (aj x0.2
 (some ([.agg [.int .i64 x1.k, .int .i64 x1.n, .fr (.ts x1.kids)], .one (.int .i64 0)], [.cells [.fr (.ts v3)], .cells [.int .i64 v4, .int .i64 v5, .fr (.ts v6)]])))))))) := by kernel_rfl
theorem dG (n : Nat) (v0 : List T) (v1 v2 : Int) (v3 v4 : List T) (v5 v6 : Int) (v7 : List T) : FF (n + 1) 90 [.agg [.fr (.ts v0), .int .i64 v1, .int .i64 v2, .fr (.ts v3), .fn 58 [0, 1]]] [.cells [.fr (.ts v4)], .cells [.int .i64 v5, .int .i64 v6, .fr (.ts v7)]] =
 ((FF n 105 [.agg [.fr (.ts v0), .int .i64 v1, .int .i64 v2, .fr (.ts v3), .fn 58 [0, 1]], .one (.int .i64 0)] [.cells [.fr (.ts v4)], .cells [.int .i64 v5, .int .i64 v6, .fr (.ts v7)]]).bind fun x0 =>
 (aP x0.2 fun x1 x2 =>
 (tsC x1 fun x3 x4 =>
 (aQ x4
 (aP x2 fun x5 x6 =>
 (aS .i64 x5 fun x7 x8 =>
 (aS .i64 x8 fun x9 x10 =>
 (tsC x10 fun x11 x12 =>
 (aQ x12
 (aB .i64 x0.1 fun x13 x14 =>
 (aB .i64 x14 fun x15 x16 =>
 (ai x16 (aj x6
 (av n n x13 x15 1 x3 x7 x9 x11 v0 v1 v2 v3 0 0 ([]))))))))))))))) := by kernel_rfl
theorem jg (n : Nat) (v0 : Int) (v1 : List T) (v2 v3 : Int) (v4 : List T) : FF (n + 1) 58 [.one (.int .i64 v0), .one (.ptr 0 0), .one (.ptr 1 0)] [.cells [.fr (.ts v1)], .cells [.int .i64 v2, .int .i64 v3, .fr (.ts v4)]] =
 ((FF n 59 [.one (.fr (.ts v1)), .agg [.int .i64 v2, .int .i64 v3, .fr (.ts v4)], .one (.int .i64 v0)] []).bind fun x0 =>
 (rTs x0.1 fun x1 x2 =>
 (aB .i64 x2 fun x3 x4 =>
 (ai x4 (aj x0.2
 (cond (!decide (x3 = 0))
 (some ([.agg [.int .i64 0, .int .i64 0, .fr (.ts [])], .one (.int .i64 x3)], [.cells [.fr (.ts v1)], .cells [.int .i64 v2, .int .i64 v3, .fr (.ts v4)]]))
 (cond (decide (0 ≤ v0))
 (v4[(v0 : Int).toNat]?.bind fun x5 =>
 ((FF n 40 [.one (.fr (.ts x1)), .agg [.int .i64 x5.k, .int .i64 x5.n, .fr (.ts x5.kids)]] []).bind fun x6 =>
 (ag x6.1 fun x7 x8 =>
 (aB .i64 x8 fun x9 x10 =>
 (ai x10 (aj x6.2
 (some ([.agg [.int .i64 x7.k, .int .i64 x7.n, .fr (.ts x7.kids)], .one (.int .i64 x9)], [.cells [.fr (.ts v1)], .cells [.int .i64 v2, .int .i64 v3, .fr (.ts v4)]]))))))))
 none))))))) := by kernel_rfl
theorem en (n : Nat) (v0 : List T) (v1 v2 : Int) (v3 v4 : List T) (v5 v6 : Int) (v7 : List T) : FF (n + 1) 91 [.agg [.fr (.ts v0), .int .i64 v1, .int .i64 v2, .fr (.ts v3), .fn 58 [0, 1]]] [.cells [.fr (.ts v4)], .cells [.int .i64 v5, .int .i64 v6, .fr (.ts v7)]] =
 ((FF n 85 [.agg [.fr (.ts v0), .int .i64 v1, .int .i64 v2, .fr (.ts v3), .fn 58 [0, 1]], .one (.int .i64 1), .one (.int .i64 10)] [.cells [.fr (.ts v4)], .cells [.int .i64 v5, .int .i64 v6, .fr (.ts v7)]]).bind fun x0 =>
 (aP x0.2 fun x1 x2 =>
 (tsC x1 fun x3 x4 =>
 (aQ x4
 (aP x2 fun x5 x6 =>
 (aS .i64 x5 fun x7 x8 =>
 (aS .i64 x8 fun x9 x10 =>
 (tsC x10 fun x11 x12 =>
 (aQ x12
 (ag x0.1 fun x13 x14 =>
 (aB .i64 x14 fun x15 x16 =>
 (ai x16 (aj x6
 (cond (!decide (x15 = 0))
 (some ([.agg [.int .i64 0, .int .i64 0, .fr (.ts [])], .one (.int .i64 x15)], [.cells [.fr (.ts x3)], .cells [.int .i64 x7, .int .i64 x9, .fr (.ts x11)]]))
 ((x13.kids)[(0 : Int).toNat]?.bind fun x17 =>
 ((FF n 107 [.agg [.fr (.ts v0), .int .i64 v1, .int .i64 v2, .fr (.ts v3), .fn 58 [0, 1]], .one (.int .i64 0), .agg [.int .i64 x17.k, .int .i64 x17.n, .fr (.ts x17.kids)]] [.cells [.fr (.ts x3)], .cells [.int .i64 x7, .int .i64 x9, .fr (.ts x11)]]).bind fun x18 =>
 (aP x18.2 fun x19 x20 =>
 (tsC x19 fun x21 x22 =>
 (aQ x22
 (aP x20 fun x23 x24 =>
 (aS .i64 x23 fun x25 x26 =>
 (aS .i64 x26 fun x27 x28 =>
 (tsC x28 fun x29 x30 =>
 (aQ x30
 (aB .i64 x18.1 fun x31 x32 =>
 (ai x32 (aj x24
 (cond (!decide (x31 = 0))
 (some ([.agg [.int .i64 0, .int .i64 0, .fr (.ts [])], .one (.int .i64 x31)], [.cells [.fr (.ts x21)], .cells [.int .i64 x25, .int .i64 x27, .fr (.ts x29)]]))
 (v3[(0 : Int).toNat]?.bind fun x33 =>
 ((x13.kids)[(1 : Int).toNat]?.bind fun x34 =>
 ((FF n 50 [.one (.int .i64 5), .one (.fr (.ts [(T.mk x33.k x33.n x33.kids), (T.mk x34.k x34.n x34.kids)]))] []).bind fun x35 =>
 (ag x35.1 fun x36 x37 =>
 (ai x37 (aj x35.2
 ((FF n 79 [.agg [.int .i64 x36.k, .int .i64 x36.n, .fr (.ts x36.kids)], .one (.bool true)] []).bind fun x38 =>
 (ag x38.1 fun x39 x40 =>
 (aB .i64 x40 fun x41 x42 =>
 (ai x42 (aj x38.2
 ((FF n 86 [.agg [.fr (.ts v0), .int .i64 v1, .int .i64 v2, .fr (.ts v3), .fn 58 [0, 1]], .one (.int .i64 2), .agg [.int .i64 x39.k, .int .i64 x39.n, .fr (.ts x39.kids)], .one (.int .i64 x41)] [.cells [.fr (.ts x21)], .cells [.int .i64 x25, .int .i64 x27, .fr (.ts x29)]]).bind fun x43 =>
 (aP x43.2 fun x44 x45 =>
 (tsC x44 fun x46 x47 =>
 (aQ x47
 (aP x45 fun x48 x49 =>
 (aS .i64 x48 fun x50 x51 =>
 (aS .i64 x51 fun x52 x53 =>
 (tsC x53 fun x54 x55 =>
 (aQ x55
 (aB .i64 x43.1 fun x56 x57 =>
 (ai x57 (aj x49
 (cond (!decide (x56 = 0))
 (some ([.agg [.int .i64 0, .int .i64 0, .fr (.ts [])], .one (.int .i64 x56)], [.cells [.fr (.ts x46)], .cells [.int .i64 x50, .int .i64 x52, .fr (.ts x54)]]))
 ((x13.kids)[(2 : Int).toNat]?.bind fun x58 =>
 ((FF n 50 [.one (.int .i64 5), .one (.fr (.ts [(T.mk x33.k x33.n x33.kids), (T.mk x58.k x58.n x58.kids)]))] []).bind fun x59 =>
 (ag x59.1 fun x60 x61 =>
 (ai x61 (aj x59.2
 ((FF n 79 [.agg [.int .i64 x60.k, .int .i64 x60.n, .fr (.ts x60.kids)], .one (.bool true)] []).bind fun x62 =>
 (ag x62.1 fun x63 x64 =>
 (aB .i64 x64 fun x65 x66 =>
 (ai x66 (aj x62.2
 (some ([.agg [.int .i64 x63.k, .int .i64 x63.n, .fr (.ts x63.kids)], .one (.int .i64 x65)], [.cells [.fr (.ts x46)], .cells [.int .i64 x50, .int .i64 x52, .fr (.ts x54)]])))))))))))))))))))))))))))))))))))))))))))))))))))))))))))))))) := by kernel_rfl
theorem dY (n : Nat) (v0 : List T) (v1 v2 : Int) (v3 v4 : List T) (v5 v6 : Int) (v7 : List T) : FF (n + 1) 92 [.agg [.fr (.ts v0), .int .i64 v1, .int .i64 v2, .fr (.ts v3), .fn 58 [0, 1]]] [.cells [.fr (.ts v4)], .cells [.int .i64 v5, .int .i64 v6, .fr (.ts v7)]] =
 ((FF n 105 [.agg [.fr (.ts v0), .int .i64 v1, .int .i64 v2, .fr (.ts v3), .fn 58 [0, 1]], .one (.int .i64 0)] [.cells [.fr (.ts v4)], .cells [.int .i64 v5, .int .i64 v6, .fr (.ts v7)]]).bind fun x0 =>
 (aP x0.2 fun x1 x2 =>
 (tsC x1 fun x3 x4 =>
 (aQ x4
 (aP x2 fun x5 x6 =>
 (aS .i64 x5 fun x7 x8 =>
 (aS .i64 x8 fun x9 x10 =>
 (tsC x10 fun x11 x12 =>
 (aQ x12
 (aB .i64 x0.1 fun x13 x14 =>
 (aB .i64 x14 fun x15 x16 =>
 (ai x16 (aj x6
 (cond (!decide (x15 = 0))
 (some ([.agg [.int .i64 0, .int .i64 0, .fr (.ts [])], .one (.int .i64 x15)], [.cells [.fr (.ts x3)], .cells [.int .i64 x7, .int .i64 x9, .fr (.ts x11)]]))
 (v3[(0 : Int).toNat]?.bind fun x17 =>
 ((FF n 57 [.agg [.int .i64 x17.k, .int .i64 x17.n, .fr (.ts x17.kids)], .one (.int .i64 13)] []).bind fun x18 =>
 (ag x18.1 fun x19 x20 =>
 (aB .i64 x20 fun x21 x22 =>
 (ai x22 (aj x18.2
 ((FF n 87 [.agg [.int .i64 x19.k, .int .i64 x19.n, .fr (.ts x19.kids)]] []).bind fun x23 =>
 (ag x23.1 fun x24 x25 =>
 (ai x25 (aj x23.2
 ((FF n 86 [.agg [.fr (.ts v0), .int .i64 v1, .int .i64 v2, .fr (.ts v3), .fn 58 [0, 1]], .one (.int .i64 1), .agg [.int .i64 x24.k, .int .i64 x24.n, .fr (.ts x24.kids)], .one (.int .i64 x21)] [.cells [.fr (.ts x3)], .cells [.int .i64 x7, .int .i64 x9, .fr (.ts x11)]]).bind fun x26 =>
 (aP x26.2 fun x27 x28 =>
 (tsC x27 fun x29 x30 =>
 (aQ x30
 (aP x28 fun x31 x32 =>
 (aS .i64 x31 fun x33 x34 =>
 (aS .i64 x34 fun x35 x36 =>
 (tsC x36 fun x37 x38 =>
 (aQ x38
 (aB .i64 x26.1 fun x39 x40 =>
 (ai x40 (aj x32
 (cond (!decide (x39 = 0))
 (some ([.agg [.int .i64 0, .int .i64 0, .fr (.ts [])], .one (.int .i64 x39)], [.cells [.fr (.ts x29)], .cells [.int .i64 x33, .int .i64 x35, .fr (.ts x37)]]))
 ((x19.kids)[(1 : Int).toNat]?.bind fun x41 =>
 (v3[(1 : Int).toNat]?.bind fun x42 =>
 ((FF n 88 [.agg [.int .i64 x41.k, .int .i64 x41.n, .fr (.ts x41.kids)], .one (.int .i64 0), .agg [.int .i64 x42.k, .int .i64 x42.n, .fr (.ts x42.kids)]] []).bind fun x43 =>
 (ag x43.1 fun x44 x45 =>
 (aD x45 fun x46 x47 =>
 (ai x47 (aj x43.2
 ((FF n 79 [.agg [.int .i64 x44.k, .int .i64 x44.n, .fr (.ts x44.kids)], .one (.bool x46)] []).bind fun x48 =>
 (ag x48.1 fun x49 x50 =>
 (aB .i64 x50 fun x51 x52 =>
 (ai x52 (aj x48.2
 ((FF n 86 [.agg [.fr (.ts v0), .int .i64 v1, .int .i64 v2, .fr (.ts v3), .fn 58 [0, 1]], .one (.int .i64 2), .agg [.int .i64 x49.k, .int .i64 x49.n, .fr (.ts x49.kids)], .one (.int .i64 x51)] [.cells [.fr (.ts x29)], .cells [.int .i64 x33, .int .i64 x35, .fr (.ts x37)]]).bind fun x53 =>
 (aP x53.2 fun x54 x55 =>
 (tsC x54 fun x56 x57 =>
 (aQ x57
 (aP x55 fun x58 x59 =>
 (aS .i64 x58 fun x60 x61 =>
 (aS .i64 x61 fun x62 x63 =>
 (tsC x63 fun x64 x65 =>
 (aQ x65
 (aB .i64 x53.1 fun x66 x67 =>
 (ai x67 (aj x59
 (cond (!decide (x66 = 0))
 (some ([.agg [.int .i64 0, .int .i64 0, .fr (.ts [])], .one (.int .i64 x66)], [.cells [.fr (.ts x56)], .cells [.int .i64 x60, .int .i64 x62, .fr (.ts x64)]]))
 (v3[(0 : Int).toNat]?.bind fun x68 =>
 some ([.agg [.int .i64 x68.k, .int .i64 x68.n, .fr (.ts x68.kids)], .one (.int .i64 0)], [.cells [.fr (.ts x56)], .cells [.int .i64 x60, .int .i64 x62, .fr (.ts x64)]])))))))))))))))))))))))))))))))))))))))))))))))))))))))))))))))) := by kernel_rfl
theorem cr (n : Nat) (v0 : List T) (v1 v2 : Int) (v3 v4 : List T) (v5 v6 : Int) (v7 : List T) : FF (n + 1) 93 [.agg [.fr (.ts v0), .int .i64 v1, .int .i64 v2, .fr (.ts v3), .fn 58 [0, 1]]] [.cells [.fr (.ts v4)], .cells [.int .i64 v5, .int .i64 v6, .fr (.ts v7)]] =
 ((FF n 85 [.agg [.fr (.ts v0), .int .i64 v1, .int .i64 v2, .fr (.ts v3), .fn 58 [0, 1]], .one (.int .i64 0), .one (.int .i64 13)] [.cells [.fr (.ts v4)], .cells [.int .i64 v5, .int .i64 v6, .fr (.ts v7)]]).bind fun x0 =>
 (aP x0.2 fun x1 x2 =>
 (tsC x1 fun x3 x4 =>
 (aQ x4
 (aP x2 fun x5 x6 =>
 (aS .i64 x5 fun x7 x8 =>
 (aS .i64 x8 fun x9 x10 =>
 (tsC x10 fun x11 x12 =>
 (aQ x12
 (ag x0.1 fun x13 x14 =>
 (aB .i64 x14 fun x15 x16 =>
 (ai x16 (aj x6
 (cond (!decide (x15 = 0))
 (some ([.agg [.int .i64 0, .int .i64 0, .fr (.ts [])], .one (.int .i64 x15)], [.cells [.fr (.ts x3)], .cells [.int .i64 x7, .int .i64 x9, .fr (.ts x11)]]))
 (cond (decide (v1 = 15))
 ((x13.kids)[(0 : Int).toNat]?.bind fun x17 =>
 some ([.agg [.int .i64 x17.k, .int .i64 x17.n, .fr (.ts x17.kids)], .one (.int .i64 0)], [.cells [.fr (.ts x3)], .cells [.int .i64 x7, .int .i64 x9, .fr (.ts x11)]]))
 ((x13.kids)[(1 : Int).toNat]?.bind fun x17 =>
 (v3[(0 : Int).toNat]?.bind fun x18 =>
 ((FF n 50 [.one (.int .i64 15), .one (.fr (.ts [(T.mk x18.k x18.n x18.kids)]))] []).bind fun x19 =>
 (ag x19.1 fun x20 x21 =>
 (ai x21 (aj x19.2
 ((FF n 88 [.agg [.int .i64 x17.k, .int .i64 x17.n, .fr (.ts x17.kids)], .one (.int .i64 0), .agg [.int .i64 x20.k, .int .i64 x20.n, .fr (.ts x20.kids)]] []).bind fun x22 =>
 (ag x22.1 fun x23 x24 =>
 (aD x24 fun x25 x26 =>
 (ai x26 (aj x22.2
 ((FF n 79 [.agg [.int .i64 x23.k, .int .i64 x23.n, .fr (.ts x23.kids)], .one (.bool x25)] []).bind fun x27 =>
 (ag x27.1 fun x28 x29 =>
 (aB .i64 x29 fun x30 x31 =>
 (ai x31 (aj x27.2
 (some ([.agg [.int .i64 x28.k, .int .i64 x28.n, .fr (.ts x28.kids)], .one (.int .i64 x30)], [.cells [.fr (.ts x3)], .cells [.int .i64 x7, .int .i64 x9, .fr (.ts x11)]]))))))))))))))))))))))))))))))))) := by kernel_rfl
theorem l7 (n : Nat) (v0 v1 : Int) (v2 : List T) (v3 : Int) : FF (n + 1) 94 [.agg [.int .i64 v0, .int .i64 v1, .fr (.ts v2)], .one (.int .i64 v3)] [] =
 ((FF n 99 [.agg [.int .i64 v0, .int .i64 v1, .fr (.ts v2)], .one (.int .i64 v3), .one (.fn 109 [])] []).bind fun x0 =>
 (ag x0.1 fun x1 x2 =>
 (aB .i64 x2 fun x3 x4 =>
 (aB .i64 x4 fun x5 x6 =>
 (ai x6 (aj x0.2
 (some ([.agg [.int .i64 x1.k, .int .i64 x1.n, .fr (.ts x1.kids)], .one (.int .i64 x5)], [])))))))) := by kernel_rfl
theorem mc (n : Nat) (v0 : ByteArray) : FF (n + 1) 95 [.one (.str v0)] [] =
 ((FF n 110 [.one (.str v0), .one (.int .i64 0), .one (.int .i64 30)] []).bind fun x0 =>
 (ag x0.1 fun x1 x2 =>
 (aB .i64 x2 fun x3 x4 =>
 (ai x4 (aj x0.2
 (cond (v0.toList == (bytesOf []).toList)
 (some ([.agg [.int .i64 0, .int .i64 0, .fr (.ts [])], .one (.bool false)], []))
 (cond (!decide (x3 = (v0.size : Int)))
 (some ([.agg [.int .i64 0, .int .i64 0, .fr (.ts [])], .one (.bool false)], []))
 ((FF n 111 [.agg [.int .i64 x1.k, .int .i64 x1.n, .fr (.ts x1.kids)]] []).bind fun x5 =>
 (kB x5.1 fun x6 x7 =>
 (ai x7 (aj x5.2
 (cond (!(x6.toList == v0.toList))
 (some ([.agg [.int .i64 0, .int .i64 0, .fr (.ts [])], .one (.bool false)], []))
 (some ([.agg [.int .i64 x1.k, .int .i64 x1.n, .fr (.ts x1.kids)], .one (.bool true)], [])))))))))))))) := by kernel_rfl
theorem rq (n : Nat) (v0 : List T) (v1 v2 : Int) (v3 : List T) : FF (n + 1) 96 [.one (.fr (.ts v0)), .agg [.int .i64 v1, .int .i64 v2, .fr (.ts v3)]] [] =
 ((FF n 66 [.one (.fr (.ts v0)), .agg [.int .i64 v1, .int .i64 v2, .fr (.ts v3)]] []).bind fun x0 =>
 (ag x0.1 fun x1 x2 =>
 (aB .i64 x2 fun x3 x4 =>
 (ai x4 (aj x0.2
 (cond (!decide (x3 = 0))
 (some ([.one (.int .i64 0), .one (.int .i64 x3)], []))
 ((FF n 112 [.agg [.int .i64 x1.k, .int .i64 x1.n, .fr (.ts x1.kids)]] []).bind fun x5 =>
 (ag x5.1 fun x6 x7 =>
 (aB .i64 x7 fun x8 x9 =>
 (ai x9 (aj x5.2
 (cond (!decide (x8 = 0))
 (some ([.one (.int .i64 0), .one (.int .i64 x8)], []))
 (cond (!decide (x6.k = 2))
 (some ([.one (.int .i64 0), .one (.int .i64 1)], []))
 (some ([.one (.int .i64 x6.n), .one (.int .i64 0)], []))))))))))))))) := by kernel_rfl
theorem qC (n : Nat) (v0 : List T) (v1 v2 : Int) (v3 : List T) : FF (n + 1) 97 [.one (.fr (.ts v0)), .agg [.int .i64 v1, .int .i64 v2, .fr (.ts v3)]] [] =
 (cond (decide (v1 = 3))
 ((FF n 113 [.one (.fr (.ts v0)), .agg [.int .i64 v1, .int .i64 v2, .fr (.ts v3)]] []).bind fun x0 =>
 (ag x0.1 fun x1 x2 =>
 (aB .i64 x2 fun x3 x4 =>
 (ai x4 (aj x0.2
 (some ([.agg [.int .i64 x1.k, .int .i64 x1.n, .fr (.ts x1.kids)], .one (.int .i64 x3)], [])))))))
 (cond (decide (v1 = 13))
 ((FF n 113 [.one (.fr (.ts v0)), .agg [.int .i64 v1, .int .i64 v2, .fr (.ts v3)]] []).bind fun x0 =>
 (ag x0.1 fun x1 x2 =>
 (aB .i64 x2 fun x3 x4 =>
 (ai x4 (aj x0.2
 (some ([.agg [.int .i64 x1.k, .int .i64 x1.n, .fr (.ts x1.kids)], .one (.int .i64 x3)], [])))))))
 (cond (decide (v1 = 4))
 ((FF n 114 [.one (.fr (.ts v0)), .agg [.int .i64 v1, .int .i64 v2, .fr (.ts v3)]] []).bind fun x0 =>
 (ag x0.1 fun x1 x2 =>
 (aB .i64 x2 fun x3 x4 =>
 (ai x4 (aj x0.2
 (some ([.agg [.int .i64 x1.k, .int .i64 x1.n, .fr (.ts x1.kids)], .one (.int .i64 x3)], [])))))))
 (cond (decide (v1 = 5))
 ((FF n 115 [.one (.fr (.ts v0)), .agg [.int .i64 v1, .int .i64 v2, .fr (.ts v3)]] []).bind fun x0 =>
 (ag x0.1 fun x1 x2 =>
 (aB .i64 x2 fun x3 x4 =>
 (ai x4 (aj x0.2
 (some ([.agg [.int .i64 x1.k, .int .i64 x1.n, .fr (.ts x1.kids)], .one (.int .i64 x3)], [])))))))
 (cond (decide (v1 = 9))
 ((FF n 116 [.one (.fr (.ts v0)), .agg [.int .i64 v1, .int .i64 v2, .fr (.ts v3)]] []).bind fun x0 =>
 (ag x0.1 fun x1 x2 =>
 (aB .i64 x2 fun x3 x4 =>
 (ai x4 (aj x0.2
 (some ([.agg [.int .i64 x1.k, .int .i64 x1.n, .fr (.ts x1.kids)], .one (.int .i64 x3)], [])))))))
 (cond (decide (v1 = 10))
 ((FF n 117 [.one (.fr (.ts v0)), .agg [.int .i64 v1, .int .i64 v2, .fr (.ts v3)]] []).bind fun x0 =>
 (ag x0.1 fun x1 x2 =>
 (aB .i64 x2 fun x3 x4 =>
 (ai x4 (aj x0.2
 (some ([.agg [.int .i64 x1.k, .int .i64 x1.n, .fr (.ts x1.kids)], .one (.int .i64 x3)], [])))))))
 (cond (decide (v1 = 12))
 ((FF n 118 [.one (.fr (.ts v0)), .agg [.int .i64 v1, .int .i64 v2, .fr (.ts v3)]] []).bind fun x0 =>
 (ag x0.1 fun x1 x2 =>
 (aB .i64 x2 fun x3 x4 =>
 (ai x4 (aj x0.2
 (some ([.agg [.int .i64 x1.k, .int .i64 x1.n, .fr (.ts x1.kids)], .one (.int .i64 x3)], [])))))))
 (cond (decide (v1 = 14))
 ((FF n 119 [.one (.fr (.ts v0)), .agg [.int .i64 v1, .int .i64 v2, .fr (.ts v3)]] []).bind fun x0 =>
 (ag x0.1 fun x1 x2 =>
 (aB .i64 x2 fun x3 x4 =>
 (ai x4 (aj x0.2
 (some ([.agg [.int .i64 x1.k, .int .i64 x1.n, .fr (.ts x1.kids)], .one (.int .i64 x3)], [])))))))
 ((FF n 120 [.one (.fr (.ts v0)), .agg [.int .i64 v1, .int .i64 v2, .fr (.ts v3)]] []).bind fun x0 =>
 (ag x0.1 fun x1 x2 =>
 (aB .i64 x2 fun x3 x4 =>
 (ai x4 (aj x0.2
 (some ([.agg [.int .i64 x1.k, .int .i64 x1.n, .fr (.ts x1.kids)], .one (.int .i64 x3)], []))))))))))))))) := by kernel_rfl
theorem ov (n : Nat) (v0 v1 : Int) : FF (n + 1) 98 [.one (.int .i64 v0), .one (.int .i64 v1)] [] =
 (cond (decide (v1 = 1))
 (cond (decide (v0 = 3))
 (some ([.one (.bool true)], []))
 (cond (decide (v0 = 4))
 (some ([.one (.bool true)], []))
 (some ([.one (.bool (decide (v0 = 13)))], []))))
 (some ([.one (.bool false)], []))) := by kernel_rfl
noncomputable def aH (n c : Nat) (v0 : List T) (v1 v2 : Int) : OR := aJ Try.prog SS n 56 0 [1, 0, 1, 0] [] c ⟨[.v (.one (.fr (.ts v0))), .v (.one (.fn 71 [])), aa, aa, aa, aa, aa, .v (.one (.int .i64 v1)), .v (.one (.int .i64 v2)), aa, aa, aa, aa, aa, aa, aa, aa, aa, aa],
 []⟩
theorem bE (n c : Nat) (v0 : List T) (v1 v2 : Int) : aH n (c + 1) v0 v1 v2 =
 (cond (decide (v2 < v1))
 (cond (decide (0 ≤ v2))
 (v0[(v2 : Int).toNat]?.bind fun x0 =>
 ((FF n 71 [.agg [.int .i64 x0.k, .int .i64 x0.n, .fr (.ts x0.kids)]] []).bind fun x1 =>
 (aD x1.1 fun x2 x3 =>
 (ai x3 (aj x1.2
 (cond x2
 (some ([.one (.int .i64 v2)], []))
 (aH n c v0 v1 (IntKind.i64.wrap (v2 + 1)))))))))
 none)
 (some ([.one (.int .i64 (-1))], []))) := by kernel_rfl
theorem dI (n : Nat) (v0 : List T) : FF (n + 1) 56 [.one (.fr (.ts v0)), .one (.fn 71 [])] [] =
 aH n n v0 ((v0.length : Int) : Int) 0 := by kernel_rfl
noncomputable def a6 (n c : Nat) (v0 v1 v2 v3 : Int) (v4 : List T) (v5 v6 : Int) (v7 : List T) : OR := aJ Try.prog SS n 99 0 [1, 1, 1, 0] [] c ⟨[aa, .v (.one (.int .i64 v0)), .v (.one (.fn 100 [])), .v (.one (.ptr 0 0)), aa, aa, .v (.one (.ptr 1 0)), aa, aa, .v (.one (.int .i64 v1)), aa, aa, aa, aa, aa, aa, aa, aa, aa, aa, aa, aa, aa, aa, aa, aa, aa, aa, aa, aa, aa, aa, aa, aa, aa, aa, aa, aa, aa, aa, aa, aa, aa, aa, aa, aa, aa, aa, aa, aa, aa],
 [.cells [.int .i64 v2, .int .i64 v3, .fr (.ts v4)], .cells [.int .i64 v5, .int .i64 v6, .own 2 0], .arr 29 (.ts v7) 0 false]⟩
theorem eD (n c : Nat) (v0 v1 v2 v3 : Int) (v4 : List T) (v5 v6 : Int) (v7 : List T) : a6 n (c + 1) v0 v1 v2 v3 v4 v5 v6 v7 =
 ((FF n 100 [.agg [.int .i64 v2, .int .i64 v3, .fr (.ts v4)]] []).bind fun x0 =>
 (rIs x0.1 fun x1 x2 =>
 (aD x2 fun x3 x4 =>
 (ai x4 (aj x0.2
 (cond (!x3)
 ((FF n 34 [.agg [.int .i64 v2, .int .i64 v3, .fr (.ts v4)]] []).bind fun x5 =>
 (ag x5.1 fun x6 x7 =>
 (ai x7 (aj x5.2
 (some ([.agg [.int .i64 x6.k, .int .i64 x6.n, .fr (.ts x6.kids)], .one (.int .i64 v1), .one (.int .i64 0)], []))))))
 (cond (decide (v1 = v0))
 (some ([.agg [.int .i64 0, .int .i64 0, .fr (.ts [])], .one (.int .i64 v1), .one (.int .i64 1)], []))
 ((FF n 121 [.agg [.int .i64 v2, .int .i64 v3, .fr (.ts v4)], .one (.fr (.is x1))] []).bind fun x5 =>
 (ag x5.1 fun x6 x7 =>
 (aD x7 fun x8 x9 =>
 (ai x9 (aj x5.2
 (cond (!x8)
 (some ([.agg [.int .i64 0, .int .i64 0, .fr (.ts [])], .one (.int .i64 v1), .one (.int .i64 2)], []))
 (a6 n c v0 (IntKind.i64.wrap (v1 + 1)) (x6.k) (x6.n) (x6.kids) v5 v6 v7)))))))))))))) := by kernel_rfl
theorem gB (n : Nat) (v0 v1 : Int) (v2 : List T) (v3 : Int) : FF (n + 1) 99 [.agg [.int .i64 v0, .int .i64 v1, .fr (.ts v2)], .one (.int .i64 v3), .one (.fn 100 [])] [] =
 ((FF n 33 [.agg [.int .i64 v0, .int .i64 v1, .fr (.ts v2)]] []).bind fun x0 =>
 (aD x0.1 fun x1 x2 =>
 (ai x2 (aj x0.2
 (cond (!x1)
 (some ([.agg [.int .i64 0, .int .i64 0, .fr (.ts [])], .one (.int .i64 0), .one (.int .i64 3)], []))
 ((FF n 20 [.one (.int .i64 v3), .one (.int .i64 0), .one (.int .i64 200)] []).bind fun x3 =>
 (aD x3.1 fun x4 x5 =>
 (ai x5 (aj x3.2
 (cond (!x4)
 (some ([.agg [.int .i64 0, .int .i64 0, .fr (.ts [])], .one (.int .i64 0), .one (.int .i64 3)], []))
 (a6 n n v3 0 v0 v1 v2 0 0 ([])))))))))))) := by kernel_rfl
end Go.Proofs.Ytajlknlnmmbfcaa
end
section
namespace Go.Proofs.Ytajlknlnmmbfcaa
open Go Go.Ab Go.Dk
noncomputable def a8 (n c : Nat) (v0 : Int) (v1 : List T) (v2 v3 v4 v5 : Int) (v6 : Bool) (v7 v8 : Int) (v9 : List T) (v10 v11 : Int) (v12 : List T) (v13 v14 : Int) (v15 : List T) : OR := aJ Try.prog SS n 103 3 [1, 1, 1, 0, 1, 0] [] c ⟨[aa, .v (.one (.int .i64 v0)), .v (.one (.fn 104 [0, 1, 2])), .v (.one (.ptr 3 0)), aa, aa, .v (.one (.ptr 4 0)), .v (.one (.ptr 6 0)), aa, aa, aa, aa, aa, aa, aa, aa, aa, aa, aa, aa, aa, aa, aa, aa, .v (.one (.fr (.ts v1))), .v (.one (.int .i64 v2)), .v (.one (.int .i64 v3)), aa, aa, aa, aa, aa, aa, aa, aa, aa, aa, aa, aa, aa, aa, aa, aa, aa, aa, aa, aa],
 [.cells [.int .i64 v4], .cells [.int .i64 v5], .cells [.bool v6], .cells [.int .i64 v7, .int .i64 v8, .fr (.ts v9)], .cells [.int .i64 v10, .int .i64 v11, .own 5 0], .arr 29 (.ts v12) 0 false, .cells [.int .i64 v13, .int .i64 v14, .own 7 0], .arr 29 (.ts v15) 0 false]⟩
theorem bQ (n c : Nat) (v0 : Int) (v1 : List T) (v2 v3 v4 v5 : Int) (v6 : Bool) (v7 v8 : Int) (v9 : List T) (v10 v11 : Int) (v12 : List T) (v13 v14 : Int) (v15 : List T) : a8 n (c + 1) v0 v1 v2 v3 v4 v5 v6 v7 v8 v9 v10 v11 v12 v13 v14 v15 =
 (cond (decide (v3 < v2))
 (cond (decide (0 ≤ v3))
 (v1[(v3 : Int).toNat]?.bind fun x0 =>
 ((FF n 77 [.one (.int .i64 v7), .one (.int .i64 v3)] []).bind fun x1 =>
 (aB .i64 x1.1 fun x2 x3 =>
 (ai x3 (aj x1.2
 ((FF n 103 [.agg [.int .i64 x0.k, .int .i64 x0.n, .fr (.ts x0.kids)], .one (.int .i64 (IntKind.i64.wrap (v0 + x2))), .one (.fn 104 [0, 1, 2])] [.cells [.int .i64 v4], .cells [.int .i64 v5], .cells [.bool v6]]).bind fun x4 =>
 (aP x4.2 fun x5 x6 =>
 (aS .i64 x5 fun x7 x8 =>
 (aQ x8
 (aP x6 fun x9 x10 =>
 (aS .i64 x9 fun x11 x12 =>
 (aQ x12
 (aP x10 fun x13 x14 =>
 (lX x13 fun x15 x16 =>
 (aQ x16
 (ag x4.1 fun x17 x18 =>
 (ai x18 (aj x14
 (cond (b8 (v15 ++ [(T.mk x17.k x17.n x17.kids)]).length)
 (a8 n c v0 v1 v2 (IntKind.i64.wrap (v3 + 1)) x7 x11 x15 v7 v8 v9 v10 v11 v12 v13 v14 (v15 ++ [(T.mk x17.k x17.n x17.kids)]))
 none)))))))))))))))))))
 none)
 (some ([.agg [.int .i64 v13, .int .i64 v14, .fr (.ts v15)]], [.cells [.int .i64 v4], .cells [.int .i64 v5], .cells [.bool v6]]))) := by kernel_rfl
theorem fL (n : Nat) (v0 v1 : Int) (v2 : List T) (v3 v4 v5 : Int) (v6 : Bool) : FF (n + 1) 103 [.agg [.int .i64 v0, .int .i64 v1, .fr (.ts v2)], .one (.int .i64 v3), .one (.fn 104 [0, 1, 2])] [.cells [.int .i64 v4], .cells [.int .i64 v5], .cells [.bool v6]] =
 (cond (decide (v0 = 1))
 ((FF n 104 [.one (.int .i64 v1), .one (.int .i64 v3), .one (.ptr 0 0), .one (.ptr 1 0), .one (.ptr 2 0)] [.cells [.int .i64 v4], .cells [.int .i64 v5], .cells [.bool v6]]).bind fun x0 =>
 (aP x0.2 fun x1 x2 =>
 (aS .i64 x1 fun x3 x4 =>
 (aQ x4
 (aP x2 fun x5 x6 =>
 (aS .i64 x5 fun x7 x8 =>
 (aQ x8
 (aP x6 fun x9 x10 =>
 (lX x9 fun x11 x12 =>
 (aQ x12
 (ag x0.1 fun x13 x14 =>
 (ai x14 (aj x10
 (some ([.agg [.int .i64 x13.k, .int .i64 x13.n, .fr (.ts x13.kids)]], [.cells [.int .i64 x3], .cells [.int .i64 x7], .cells [.bool x11]])))))))))))))))
 (a8 n n v3 v2 ((v2.length : Int) : Int) 0 v4 v5 v6 v0 v1 v2 0 0 ([]) v0 v1 ([]))) := by kernel_rfl
theorem ej (n : Nat) (v0 : List T) (v1 v2 : Int) (v3 : List T) (v4 : Int) (v5 : List T) (v6 v7 : Int) (v8 : List T) : FF (n + 1) 105 [.agg [.fr (.ts v0), .int .i64 v1, .int .i64 v2, .fr (.ts v3), .fn 58 [0, 1]], .one (.int .i64 v4)] [.cells [.fr (.ts v5)], .cells [.int .i64 v6, .int .i64 v7, .fr (.ts v8)]] =
 ((FF n 85 [.agg [.fr (.ts v0), .int .i64 v1, .int .i64 v2, .fr (.ts v3), .fn 58 [0, 1]], .one (.int .i64 v4), .one (.int .i64 2)] [.cells [.fr (.ts v5)], .cells [.int .i64 v6, .int .i64 v7, .fr (.ts v8)]]).bind fun x0 =>
 (aP x0.2 fun x1 x2 =>
 (tsC x1 fun x3 x4 =>
 (aQ x4
 (aP x2 fun x5 x6 =>
 (aS .i64 x5 fun x7 x8 =>
 (aS .i64 x8 fun x9 x10 =>
 (tsC x10 fun x11 x12 =>
 (aQ x12
 (ag x0.1 fun x13 x14 =>
 (aB .i64 x14 fun x15 x16 =>
 (ai x16 (aj x6
 (some ([.one (.int .i64 x13.n), .one (.int .i64 x15)], [.cells [.fr (.ts x3)], .cells [.int .i64 x7, .int .i64 x9, .fr (.ts x11)]]))))))))))))))) := by kernel_rfl
noncomputable def aZ (n c : Nat) (v0 : Int) (v1 : List T) (v2 v3 v4 v5 v6 : Int) (v7 : List T) (v8 : Bool) (v9 v10 : Int) (v11 : List T) (v12 v13 : Int) (v14 : List T) (v15 v16 : Int) (v17 : List T) : OR := aJ Try.prog SS n 103 3 [1, 1, 1, 0, 1, 0] [] c ⟨[aa, .v (.one (.int .i64 v0)), .v (.one (.fn 106 [0, 1, 2])), .v (.one (.ptr 3 0)), aa, aa, .v (.one (.ptr 4 0)), .v (.one (.ptr 6 0)), aa, aa, aa, aa, aa, aa, aa, aa, aa, aa, aa, aa, aa, aa, aa, aa, .v (.one (.fr (.ts v1))), .v (.one (.int .i64 v2)), .v (.one (.int .i64 v3)), aa, aa, aa, aa, aa, aa, aa, aa, aa, aa, aa, aa, aa, aa, aa, aa, aa, aa, aa, aa],
 [.cells [.int .i64 v4], .cells [.int .i64 v5, .int .i64 v6, .fr (.ts v7)], .cells [.bool v8], .cells [.int .i64 v9, .int .i64 v10, .fr (.ts v11)], .cells [.int .i64 v12, .int .i64 v13, .own 5 0], .arr 29 (.ts v14) 0 false, .cells [.int .i64 v15, .int .i64 v16, .own 7 0], .arr 29 (.ts v17) 0 false]⟩
theorem bM (n c : Nat) (v0 : Int) (v1 : List T) (v2 v3 v4 v5 v6 : Int) (v7 : List T) (v8 : Bool) (v9 v10 : Int) (v11 : List T) (v12 v13 : Int) (v14 : List T) (v15 v16 : Int) (v17 : List T) : aZ n (c + 1) v0 v1 v2 v3 v4 v5 v6 v7 v8 v9 v10 v11 v12 v13 v14 v15 v16 v17 =
 (cond (decide (v3 < v2))
 (cond (decide (0 ≤ v3))
 (v1[(v3 : Int).toNat]?.bind fun x0 =>
 ((FF n 77 [.one (.int .i64 v9), .one (.int .i64 v3)] []).bind fun x1 =>
 (aB .i64 x1.1 fun x2 x3 =>
 (ai x3 (aj x1.2
 ((FF n 103 [.agg [.int .i64 x0.k, .int .i64 x0.n, .fr (.ts x0.kids)], .one (.int .i64 (IntKind.i64.wrap (v0 + x2))), .one (.fn 106 [0, 1, 2])] [.cells [.int .i64 v4], .cells [.int .i64 v5, .int .i64 v6, .fr (.ts v7)], .cells [.bool v8]]).bind fun x4 =>
 (aP x4.2 fun x5 x6 =>
 (aS .i64 x5 fun x7 x8 =>
 (aQ x8
 (aP x6 fun x9 x10 =>
 (aS .i64 x9 fun x11 x12 =>
 (aS .i64 x12 fun x13 x14 =>
 (tsC x14 fun x15 x16 =>
 (aQ x16
 (aP x10 fun x17 x18 =>
 (lX x17 fun x19 x20 =>
 (aQ x20
 (ag x4.1 fun x21 x22 =>
 (ai x22 (aj x18
 (cond (b8 (v17 ++ [(T.mk x21.k x21.n x21.kids)]).length)
 (aZ n c v0 v1 v2 (IntKind.i64.wrap (v3 + 1)) x7 x11 x13 x15 x19 v9 v10 v11 v12 v13 v14 v15 v16 (v17 ++ [(T.mk x21.k x21.n x21.kids)]))
 none)))))))))))))))))))))
 none)
 (some ([.agg [.int .i64 v15, .int .i64 v16, .fr (.ts v17)]], [.cells [.int .i64 v4], .cells [.int .i64 v5, .int .i64 v6, .fr (.ts v7)], .cells [.bool v8]]))) := by kernel_rfl
theorem fG (n : Nat) (v0 v1 : Int) (v2 : List T) (v3 v4 v5 v6 : Int) (v7 : List T) (v8 : Bool) : FF (n + 1) 103 [.agg [.int .i64 v0, .int .i64 v1, .fr (.ts v2)], .one (.int .i64 v3), .one (.fn 106 [0, 1, 2])] [.cells [.int .i64 v4], .cells [.int .i64 v5, .int .i64 v6, .fr (.ts v7)], .cells [.bool v8]] =
 (cond (decide (v0 = 1))
 ((FF n 106 [.one (.int .i64 v1), .one (.int .i64 v3), .one (.ptr 0 0), .one (.ptr 1 0), .one (.ptr 2 0)] [.cells [.int .i64 v4], .cells [.int .i64 v5, .int .i64 v6, .fr (.ts v7)], .cells [.bool v8]]).bind fun x0 =>
 (aP x0.2 fun x1 x2 =>
 (aS .i64 x1 fun x3 x4 =>
 (aQ x4
 (aP x2 fun x5 x6 =>
 (aS .i64 x5 fun x7 x8 =>
 (aS .i64 x8 fun x9 x10 =>
 (tsC x10 fun x11 x12 =>
 (aQ x12
 (aP x6 fun x13 x14 =>
 (lX x13 fun x15 x16 =>
 (aQ x16
 (ag x0.1 fun x17 x18 =>
 (ai x18 (aj x14
 (some ([.agg [.int .i64 x17.k, .int .i64 x17.n, .fr (.ts x17.kids)]], [.cells [.int .i64 x3], .cells [.int .i64 x7, .int .i64 x9, .fr (.ts x11)], .cells [.bool x15]])))))))))))))))))
 (aZ n n v3 v2 ((v2.length : Int) : Int) 0 v4 v5 v6 v7 v8 v0 v1 v2 0 0 ([]) v0 v1 ([]))) := by kernel_rfl
theorem dW (n : Nat) (v0 : List T) (v1 v2 : Int) (v3 : List T) (v4 v5 v6 : Int) (v7 v8 : List T) (v9 v10 : Int) (v11 : List T) : FF (n + 1) 107 [.agg [.fr (.ts v0), .int .i64 v1, .int .i64 v2, .fr (.ts v3), .fn 58 [0, 1]], .one (.int .i64 v4), .agg [.int .i64 v5, .int .i64 v6, .fr (.ts v7)]] [.cells [.fr (.ts v8)], .cells [.int .i64 v9, .int .i64 v10, .fr (.ts v11)]] =
 ((FF n 85 [.agg [.fr (.ts v0), .int .i64 v1, .int .i64 v2, .fr (.ts v3), .fn 58 [0, 1]], .one (.int .i64 v4), .one (.int .i64 3)] [.cells [.fr (.ts v8)], .cells [.int .i64 v9, .int .i64 v10, .fr (.ts v11)]]).bind fun x0 =>
 (aP x0.2 fun x1 x2 =>
 (tsC x1 fun x3 x4 =>
 (aQ x4
 (aP x2 fun x5 x6 =>
 (aS .i64 x5 fun x7 x8 =>
 (aS .i64 x8 fun x9 x10 =>
 (tsC x10 fun x11 x12 =>
 (aQ x12
 (ag x0.1 fun x13 x14 =>
 (aB .i64 x14 fun x15 x16 =>
 (ai x16 (aj x6
 (cond (!decide (x15 = 0))
 (some ([.one (.int .i64 x15)], [.cells [.fr (.ts x3)], .cells [.int .i64 x7, .int .i64 x9, .fr (.ts x11)]]))
 ((x13.kids)[(0 : Int).toNat]?.bind fun x17 =>
 ((FF n 41 [.agg [.int .i64 x17.k, .int .i64 x17.n, .fr (.ts x17.kids)], .agg [.int .i64 v5, .int .i64 v6, .fr (.ts v7)]] []).bind fun x18 =>
 (aB .i64 x18.1 fun x19 x20 =>
 (ai x20 (aj x18.2
 (cond (!decide (x19 = 0))
 (some ([.one (.int .i64 x19)], [.cells [.fr (.ts x3)], .cells [.int .i64 x7, .int .i64 x9, .fr (.ts x11)]]))
 ((x13.kids)[(1 : Int).toNat]?.bind fun x21 =>
 ((FF n 57 [.agg [.int .i64 x21.k, .int .i64 x21.n, .fr (.ts x21.kids)], .one (.int .i64 2)] []).bind fun x22 =>
 (ag x22.1 fun x23 x24 =>
 (aB .i64 x24 fun x25 x26 =>
 (ai x26 (aj x22.2
 (some ([.one (.int .i64 x25)], [.cells [.fr (.ts x3)], .cells [.int .i64 x7, .int .i64 x9, .fr (.ts x11)]])))))))))))))))))))))))))))) := by kernel_rfl
theorem nW (n : Nat) (v0 v1 : Int) (v2 : List T) : FF (n + 1) 108 [.agg [.int .i64 v0, .int .i64 v1, .fr (.ts v2)]] [] =
 ((FF n 80 [.agg [.int .i64 v0, .int .i64 v1, .fr (.ts v2)], .one (.int .i64 1), .one (.int .i64 0)] []).bind fun x0 =>
 (ag x0.1 fun x1 x2 =>
 (aD x2 fun x3 x4 =>
 (ai x4 (aj x0.2
 ((FF n 80 [.agg [.int .i64 v0, .int .i64 v1, .fr (.ts v2)], .one (.int .i64 2), .one (.int .i64 0)] []).bind fun x5 =>
 (ag x5.1 fun x6 x7 =>
 (aD x7 fun x8 x9 =>
 (ai x9 (aj x5.2
 ((FF n 50 [.one (.int .i64 6), .one (.emp none)] []).bind fun x10 =>
 (ag x10.1 fun x11 x12 =>
 (ai x12 (aj x10.2
 ((FF n 21 [.one (.int .i64 0)] []).bind fun x13 =>
 (ag x13.1 fun x14 x15 =>
 (ai x15 (aj x13.2
 ((FF n 50 [.one (.int .i64 5), .one (.fr (.ts [(T.mk x1.k x1.n x1.kids), (T.mk x14.k x14.n x14.kids)]))] []).bind fun x16 =>
 (ag x16.1 fun x17 x18 =>
 (ai x18 (aj x16.2
 ((FF n 21 [.one (.int .i64 1)] []).bind fun x19 =>
 (ag x19.1 fun x20 x21 =>
 (ai x21 (aj x19.2
 ((FF n 50 [.one (.int .i64 8), .one (.fr (.ts [(T.mk x20.k x20.n x20.kids)]))] []).bind fun x22 =>
 (ag x22.1 fun x23 x24 =>
 (ai x24 (aj x22.2
 ((FF n 50 [.one (.int .i64 5), .one (.fr (.ts [(T.mk x6.k x6.n x6.kids), (T.mk x23.k x23.n x23.kids)]))] []).bind fun x25 =>
 (ag x25.1 fun x26 x27 =>
 (ai x27 (aj x25.2
 ((FF n 50 [.one (.int .i64 3), .one (.fr (.ts [(T.mk x17.k x17.n x17.kids), (T.mk x26.k x26.n x26.kids)]))] []).bind fun x28 =>
 (ag x28.1 fun x29 x30 =>
 (ai x30 (aj x28.2
 ((FF n 50 [.one (.int .i64 3), .one (.fr (.ts [(T.mk x11.k x11.n x11.kids), (T.mk x29.k x29.n x29.kids)]))] []).bind fun x31 =>
 (ag x31.1 fun x32 x33 =>
 (ai x33 (aj x31.2
 (cond x3
 ((FF n 79 [.agg [.int .i64 x32.k, .int .i64 x32.n, .fr (.ts x32.kids)], .one (.bool x8)] []).bind fun x34 =>
 (ag x34.1 fun x35 x36 =>
 (aB .i64 x36 fun x37 x38 =>
 (ai x38 (aj x34.2
 (some ([.agg [.int .i64 x35.k, .int .i64 x35.n, .fr (.ts x35.kids)], .one (.int .i64 x37)], [])))))))
 ((FF n 79 [.agg [.int .i64 x32.k, .int .i64 x32.n, .fr (.ts x32.kids)], .one (.bool false)] []).bind fun x34 =>
 (ag x34.1 fun x35 x36 =>
 (aB .i64 x36 fun x37 x38 =>
 (ai x38 (aj x34.2
 (some ([.agg [.int .i64 x35.k, .int .i64 x35.n, .fr (.ts x35.kids)], .one (.int .i64 x37)], [])))))))))))))))))))))))))))))))))))))))))))))))))) := by kernel_rfl
theorem cP (n : Nat) (v0 : List T) (v1 v2 : Int) (v3 : List T) (v4 : Int) : FF (n + 1) 59 [.one (.fr (.ts v0)), .agg [.int .i64 v1, .int .i64 v2, .fr (.ts v3)], .one (.int .i64 v4)] [] =
 ((FF n 77 [.one (.int .i64 v1), .one (.int .i64 v4)] []).bind fun x0 =>
 (aB .i64 x0.1 fun x1 x2 =>
 (ai x2 (aj x0.2
 (cond (decide (x1 = 0))
 (some ([.one (.fr (.ts v0)), .one (.int .i64 0)], []))
 (v3[(0 : Int).toNat]?.bind fun x3 =>
 ((FF n 78 [.one (.fr (.ts v0)), .agg [.int .i64 x3.k, .int .i64 x3.n, .fr (.ts x3.kids)]] []).bind fun x4 =>
 (rTs x4.1 fun x5 x6 =>
 (aB .i64 x6 fun x7 x8 =>
 (ai x8 (aj x4.2
 (some ([.one (.fr (.ts x5)), .one (.int .i64 x7)], []))))))))))))) := by kernel_rfl
noncomputable def bp (n c : Nat) (v0 v1 v2 v3 : Int) (v4 : List T) (v5 v6 : Int) (v7 : List T) : OR := aJ Try.prog SS n 99 0 [1, 1, 1, 0] [] c ⟨[aa, .v (.one (.int .i64 v0)), .v (.one (.fn 109 [])), .v (.one (.ptr 0 0)), aa, aa, .v (.one (.ptr 1 0)), aa, aa, .v (.one (.int .i64 v1)), aa, aa, aa, aa, aa, aa, aa, aa, aa, aa, aa, aa, aa, aa, aa, aa, aa, aa, aa, aa, aa, aa, aa, aa, aa, aa, aa, aa, aa, aa, aa, aa, aa, aa, aa, aa, aa, aa, aa, aa, aa],
 [.cells [.int .i64 v2, .int .i64 v3, .fr (.ts v4)], .cells [.int .i64 v5, .int .i64 v6, .own 2 0], .arr 29 (.ts v7) 0 false]⟩
theorem ec (n c : Nat) (v0 v1 v2 v3 : Int) (v4 : List T) (v5 v6 : Int) (v7 : List T) : bp n (c + 1) v0 v1 v2 v3 v4 v5 v6 v7 =
 ((FF n 109 [.agg [.int .i64 v2, .int .i64 v3, .fr (.ts v4)]] []).bind fun x0 =>
 (rIs x0.1 fun x1 x2 =>
 (aD x2 fun x3 x4 =>
 (ai x4 (aj x0.2
 (cond (!x3)
 ((FF n 34 [.agg [.int .i64 v2, .int .i64 v3, .fr (.ts v4)]] []).bind fun x5 =>
 (ag x5.1 fun x6 x7 =>
 (ai x7 (aj x5.2
 (some ([.agg [.int .i64 x6.k, .int .i64 x6.n, .fr (.ts x6.kids)], .one (.int .i64 v1), .one (.int .i64 0)], []))))))
 (cond (decide (v1 = v0))
 (some ([.agg [.int .i64 0, .int .i64 0, .fr (.ts [])], .one (.int .i64 v1), .one (.int .i64 1)], []))
 ((FF n 121 [.agg [.int .i64 v2, .int .i64 v3, .fr (.ts v4)], .one (.fr (.is x1))] []).bind fun x5 =>
 (ag x5.1 fun x6 x7 =>
 (aD x7 fun x8 x9 =>
 (ai x9 (aj x5.2
 (cond (!x8)
 (some ([.agg [.int .i64 0, .int .i64 0, .fr (.ts [])], .one (.int .i64 v1), .one (.int .i64 2)], []))
 (bp n c v0 (IntKind.i64.wrap (v1 + 1)) (x6.k) (x6.n) (x6.kids) v5 v6 v7)))))))))))))) := by kernel_rfl
theorem gu (n : Nat) (v0 v1 : Int) (v2 : List T) (v3 : Int) : FF (n + 1) 99 [.agg [.int .i64 v0, .int .i64 v1, .fr (.ts v2)], .one (.int .i64 v3), .one (.fn 109 [])] [] =
 ((FF n 33 [.agg [.int .i64 v0, .int .i64 v1, .fr (.ts v2)]] []).bind fun x0 =>
 (aD x0.1 fun x1 x2 =>
 (ai x2 (aj x0.2
 (cond (!x1)
 (some ([.agg [.int .i64 0, .int .i64 0, .fr (.ts [])], .one (.int .i64 0), .one (.int .i64 3)], []))
 ((FF n 20 [.one (.int .i64 v3), .one (.int .i64 0), .one (.int .i64 200)] []).bind fun x3 =>
 (aD x3.1 fun x4 x5 =>
 (ai x5 (aj x3.2
 (cond (!x4)
 (some ([.agg [.int .i64 0, .int .i64 0, .fr (.ts [])], .one (.int .i64 0), .one (.int .i64 3)], []))
 (bp n n v3 0 v0 v1 v2 0 0 ([])))))))))))) := by kernel_rfl
theorem jj (n : Nat) (v0 : ByteArray) (v1 v2 : Int) : FF (n + 1) 110 [.one (.str v0), .one (.int .i64 v1), .one (.int .i64 v2)] [] =
 (cond (decide (v2 < 1))
 (some ([.agg [.int .i64 0, .int .i64 0, .fr (.ts [])], .one (.int .i64 (-1))], []))
 (cond (decide (v1 < 0))
 (some ([.agg [.int .i64 0, .int .i64 0, .fr (.ts [])], .one (.int .i64 (-1))], []))
 (cond (decide ((v0.size : Int) ≤ v1))
 (some ([.agg [.int .i64 0, .int .i64 0, .fr (.ts [])], .one (.int .i64 (-1))], []))
 (cond (decide (0 ≤ v1) && decide (v1 < ((v0.size : Nat) : Int)))
 (cond (decide (((ba v0 (v1 : Int).toNat).toNat : Int) = 35))
 ((FF n 123 [.one (.str v0), .one (.int .i64 (IntKind.i64.wrap (v1 + 1))), .one (.int .i64 2)] []).bind fun x0 =>
 (aB .i64 x0.1 fun x1 x2 =>
 (aB .i64 x2 fun x3 x4 =>
 (ai x4 (aj x0.2
 ((FF n 22 [.one (.int .i64 1), .one (.int .i64 x1)] []).bind fun x5 =>
 (ag x5.1 fun x6 x7 =>
 (ai x7 (aj x5.2
 (some ([.agg [.int .i64 x6.k, .int .i64 x6.n, .fr (.ts x6.kids)], .one (.int .i64 x3)], [])))))))))))
 (cond (decide (((ba v0 (v1 : Int).toNat).toNat : Int) = 42))
 ((FF n 123 [.one (.str v0), .one (.int .i64 (IntKind.i64.wrap (v1 + 1))), .one (.int .i64 1)] []).bind fun x0 =>
 (aB .i64 x0.1 fun x1 x2 =>
 (aB .i64 x2 fun x3 x4 =>
 (ai x4 (aj x0.2
 ((FF n 22 [.one (.int .i64 2), .one (.int .i64 x1)] []).bind fun x5 =>
 (ag x5.1 fun x6 x7 =>
 (ai x7 (aj x5.2
 (some ([.agg [.int .i64 x6.k, .int .i64 x6.n, .fr (.ts x6.kids)], .one (.int .i64 x3)], [])))))))))))
 (cond (decide (((ba v0 (v1 : Int).toNat).toNat : Int) = 78))
 ((FF n 22 [.one (.int .i64 6), .one (.int .i64 0)] []).bind fun x0 =>
 (ag x0.1 fun x1 x2 =>
 (ai x2 (aj x0.2
 (some ([.agg [.int .i64 x1.k, .int .i64 x1.n, .fr (.ts x1.kids)], .one (.int .i64 (IntKind.i64.wrap (v1 + 1)))], []))))))
 (cond (decide (((ba v0 (v1 : Int).toNat).toNat : Int) = 48))
 ((FF n 22 [.one (.int .i64 7), .one (.int .i64 0)] []).bind fun x0 =>
 (ag x0.1 fun x1 x2 =>
 (ai x2 (aj x0.2
 (some ([.agg [.int .i64 x1.k, .int .i64 x1.n, .fr (.ts x1.kids)], .one (.int .i64 (IntKind.i64.wrap (v1 + 1)))], []))))))
 (cond (decide (((ba v0 (v1 : Int).toNat).toNat : Int) = 43))
 ((FF n 124 [.one (.str v0), .one (.int .i64 v1), .one (.int .i64 v2)] []).bind fun x0 =>
 (ag x0.1 fun x1 x2 =>
 (aB .i64 x2 fun x3 x4 =>
 (ai x4 (aj x0.2
 (some ([.agg [.int .i64 x1.k, .int .i64 x1.n, .fr (.ts x1.kids)], .one (.int .i64 x3)], [])))))))
 (cond (decide (((ba v0 (v1 : Int).toNat).toNat : Int) = 33))
 ((FF n 124 [.one (.str v0), .one (.int .i64 v1), .one (.int .i64 v2)] []).bind fun x0 =>
 (ag x0.1 fun x1 x2 =>
 (aB .i64 x2 fun x3 x4 =>
 (ai x4 (aj x0.2
 (some ([.agg [.int .i64 x1.k, .int .i64 x1.n, .fr (.ts x1.kids)], .one (.int .i64 x3)], [])))))))
 (cond (decide (((ba v0 (v1 : Int).toNat).toNat : Int) = 94))
 ((FF n 124 [.one (.str v0), .one (.int .i64 v1), .one (.int .i64 v2)] []).bind fun x0 =>
 (ag x0.1 fun x1 x2 =>
 (aB .i64 x2 fun x3 x4 =>
 (ai x4 (aj x0.2
 (some ([.agg [.int .i64 x1.k, .int .i64 x1.n, .fr (.ts x1.kids)], .one (.int .i64 x3)], [])))))))
 (cond (decide (((ba v0 (v1 : Int).toNat).toNat : Int) = 95))
 ((FF n 124 [.one (.str v0), .one (.int .i64 v1), .one (.int .i64 v2)] []).bind fun x0 =>
 (ag x0.1 fun x1 x2 =>
 (aB .i64 x2 fun x3 x4 =>
 (ai x4 (aj x0.2
 (some ([.agg [.int .i64 x1.k, .int .i64 x1.n, .fr (.ts x1.kids)], .one (.int .i64 x3)], [])))))))
 (cond (decide (((ba v0 (v1 : Int).toNat).toNat : Int) = 40))
 ((FF n 125 [.one (.str v0), .one (.int .i64 (IntKind.i64.wrap (v1 + 1))), .one (.int .i64 (IntKind.i64.wrap (v2 - 1)))] []).bind fun x0 =>
 (ag x0.1 fun x1 x2 =>
 (aB .i64 x2 fun x3 x4 =>
 (ai x4 (aj x0.2
 (some ([.agg [.int .i64 x1.k, .int .i64 x1.n, .fr (.ts x1.kids)], .one (.int .i64 x3)], [])))))))
 (cond (decide (((ba v0 (v1 : Int).toNat).toNat : Int) = 91))
 ((FF n 110 [.one (.str v0), .one (.int .i64 (IntKind.i64.wrap (v1 + 1))), .one (.int .i64 (IntKind.i64.wrap (v2 - 1)))] []).bind fun x0 =>
 (ag x0.1 fun x1 x2 =>
 (aB .i64 x2 fun x3 x4 =>
 (ai x4 (aj x0.2
 (cond (decide (x3 < 0))
 (some ([.agg [.int .i64 0, .int .i64 0, .fr (.ts [])], .one (.int .i64 (-1))], []))
 (cond (decide ((v0.size : Int) ≤ x3))
 (some ([.agg [.int .i64 0, .int .i64 0, .fr (.ts [])], .one (.int .i64 (-1))], []))
 (cond (decide (0 ≤ x3) && decide (x3 < ((v0.size : Nat) : Int)))
 (cond (!decide (((ba v0 (x3 : Int).toNat).toNat : Int) = 93))
 (some ([.agg [.int .i64 0, .int .i64 0, .fr (.ts [])], .one (.int .i64 (-1))], []))
 ((FF n 110 [.one (.str v0), .one (.int .i64 (IntKind.i64.wrap (x3 + 1))), .one (.int .i64 (IntKind.i64.wrap (v2 - 1)))] []).bind fun x5 =>
 (ag x5.1 fun x6 x7 =>
 (aB .i64 x7 fun x8 x9 =>
 (ai x9 (aj x5.2
 ((FF n 45 [.one (.int .i64 4), .one (.fr (.ts [(T.mk x1.k x1.n x1.kids), (T.mk x6.k x6.n x6.kids)]))] []).bind fun x10 =>
 (ag x10.1 fun x11 x12 =>
 (ai x12 (aj x10.2
 (some ([.agg [.int .i64 x11.k, .int .i64 x11.n, .fr (.ts x11.kids)], .one (.int .i64 x8)], []))))))))))))
 none))))))))
 ((FF n 126 [.one (.str v0), .one (.int .i64 v1), .one (.int .i64 v2)] []).bind fun x0 =>
 (ag x0.1 fun x1 x2 =>
 (aB .i64 x2 fun x3 x4 =>
 (ai x4 (aj x0.2
 (some ([.agg [.int .i64 x1.k, .int .i64 x1.n, .fr (.ts x1.kids)], .one (.int .i64 x3)], [])))))))))))))))))
 none)))) := by kernel_rfl
theorem kL (n : Nat) (v0 v1 : Int) (v2 : List T) : FF (n + 1) 111 [.agg [.int .i64 v0, .int .i64 v1, .fr (.ts v2)]] [] =
 ((FF n 29 [.agg [.int .i64 v0, .int .i64 v1, .fr (.ts v2)]] []).bind fun x0 =>
 (aD x0.1 fun x1 x2 =>
 (ai x2 (aj x0.2
 (cond (!x1)
 (some ([.one (.str (bytesOf []))], []))
 ((FF n 127 [.agg [.int .i64 v0, .int .i64 v1, .fr (.ts v2)]] []).bind fun x3 =>
 (kB x3.1 fun x4 x5 =>
 (ai x5 (aj x3.2
 (some ([.one (.str x4)], []))))))))))) := by kernel_rfl
theorem rX (n : Nat) (v0 v1 : Int) (v2 : List T) : FF (n + 1) 112 [.agg [.int .i64 v0, .int .i64 v1, .fr (.ts v2)]] [] =
 ((FF n 29 [.agg [.int .i64 v0, .int .i64 v1, .fr (.ts v2)]] []).bind fun x0 =>
 (aD x0.1 fun x1 x2 =>
 (ai x2 (aj x0.2
 (cond (!x1)
 (some ([.agg [.int .i64 0, .int .i64 0, .fr (.ts [])], .one (.int .i64 2)], []))
 ((FF n 128 [.agg [.int .i64 v0, .int .i64 v1, .fr (.ts v2)], .one (.int .i64 200)] []).bind fun x3 =>
 (ag x3.1 fun x4 x5 =>
 (aB .i64 x5 fun x6 x7 =>
 (ai x7 (aj x3.2
 (cond (!decide (x6 = 0))
 (some ([.agg [.int .i64 0, .int .i64 0, .fr (.ts [])], .one (.int .i64 2)], []))
 (some ([.agg [.int .i64 x4.k, .int .i64 x4.n, .fr (.ts x4.kids)], .one (.int .i64 0)], []))))))))))))) := by kernel_rfl
theorem oC (n : Nat) (v0 : List T) (v1 v2 : Int) (v3 : List T) : FF (n + 1) 113 [.one (.fr (.ts v0)), .agg [.int .i64 v1, .int .i64 v2, .fr (.ts v3)]] [] =
 (v3[(0 : Int).toNat]?.bind fun x0 =>
 ((FF n 96 [.one (.fr (.ts v0)), .agg [.int .i64 x0.k, .int .i64 x0.n, .fr (.ts x0.kids)]] []).bind fun x1 =>
 (aB .i64 x1.1 fun x2 x3 =>
 (aB .i64 x3 fun x4 x5 =>
 (ai x5 (aj x1.2
 (cond (!decide (x4 = 0))
 (some ([.agg [.int .i64 0, .int .i64 0, .fr (.ts [])], .one (.int .i64 x4)], []))
 (v3[(0 : Int).toNat]?.bind fun x6 =>
 ((FF n 129 [.one (.fr (.ts v0)), .agg [.int .i64 x6.k, .int .i64 x6.n, .fr (.ts x6.kids)]] []).bind fun x7 =>
 (rTs x7.1 fun x8 x9 =>
 (ai x9 (aj x7.2
 (v3[(1 : Int).toNat]?.bind fun x10 =>
 ((FF n 96 [.one (.fr (.ts x8)), .agg [.int .i64 x10.k, .int .i64 x10.n, .fr (.ts x10.kids)]] []).bind fun x11 =>
 (aB .i64 x11.1 fun x12 x13 =>
 (aB .i64 x13 fun x14 x15 =>
 (ai x15 (aj x11.2
 (cond (!decide (x14 = 0))
 (some ([.agg [.int .i64 0, .int .i64 0, .fr (.ts [])], .one (.int .i64 x14)], []))
 ((FF n 130 [.one (.int .i64 x2), .one (.int .i64 x12)] []).bind fun x16 =>
 (aB .i64 x16.1 fun x17 x18 =>
 (ai x18 (aj x16.2
 ((FF n 22 [.one (.int .i64 2), .one (.int .i64 x17)] []).bind fun x19 =>
 (ag x19.1 fun x20 x21 =>
 (ai x21 (aj x19.2
 (some ([.agg [.int .i64 x20.k, .int .i64 x20.n, .fr (.ts x20.kids)], .one (.int .i64 0)], []))))))))))))))))))))))))))))) := by kernel_rfl
theorem sS (n : Nat) (v0 : List T) (v1 v2 : Int) (v3 : List T) : FF (n + 1) 114 [.one (.fr (.ts v0)), .agg [.int .i64 v1, .int .i64 v2, .fr (.ts v3)]] [] =
 (v3[(0 : Int).toNat]?.bind fun x0 =>
 ((FF n 96 [.one (.fr (.ts v0)), .agg [.int .i64 x0.k, .int .i64 x0.n, .fr (.ts x0.kids)]] []).bind fun x1 =>
 (aB .i64 x1.1 fun x2 x3 =>
 (aB .i64 x3 fun x4 x5 =>
 (ai x5 (aj x1.2
 (cond (!decide (x4 = 0))
 (some ([.agg [.int .i64 0, .int .i64 0, .fr (.ts [])], .one (.int .i64 x4)], []))
 (v3[(0 : Int).toNat]?.bind fun x6 =>
 ((FF n 129 [.one (.fr (.ts v0)), .agg [.int .i64 x6.k, .int .i64 x6.n, .fr (.ts x6.kids)]] []).bind fun x7 =>
 (rTs x7.1 fun x8 x9 =>
 (ai x9 (aj x7.2
 (v3[(1 : Int).toNat]?.bind fun x10 =>
 ((FF n 66 [.one (.fr (.ts x8)), .agg [.int .i64 x10.k, .int .i64 x10.n, .fr (.ts x10.kids)]] []).bind fun x11 =>
 (ag x11.1 fun x12 x13 =>
 (aB .i64 x13 fun x14 x15 =>
 (ai x15 (aj x11.2
 (cond (!decide (x14 = 0))
 (some ([.agg [.int .i64 0, .int .i64 0, .fr (.ts [])], .one (.int .i64 x14)], []))
 (v3[(0 : Int).toNat]?.bind fun x16 =>
 ((FF n 45 [.one (.int .i64 3), .one (.fr (.ts [(T.mk x16.k x16.n x16.kids), (T.mk x12.k x12.n x12.kids)]))] []).bind fun x17 =>
 (ag x17.1 fun x18 x19 =>
 (ai x19 (aj x17.2
 ((FF n 113 [.one (.fr (.ts v0)), .agg [.int .i64 x18.k, .int .i64 x18.n, .fr (.ts x18.kids)]] []).bind fun x20 =>
 (ag x20.1 fun x21 x22 =>
 (aB .i64 x22 fun x23 x24 =>
 (ai x24 (aj x20.2
 (some ([.agg [.int .i64 x18.k, .int .i64 x18.n, .fr (.ts x18.kids)], .one (.int .i64 x23)], []))))))))))))))))))))))))))))))) := by kernel_rfl
theorem s3 (n : Nat) (v0 : List T) (v1 v2 : Int) (v3 : List T) : FF (n + 1) 115 [.one (.fr (.ts v0)), .agg [.int .i64 v1, .int .i64 v2, .fr (.ts v3)]] [] =
 (v3[(0 : Int).toNat]?.bind fun x0 =>
 ((FF n 131 [.one (.fr (.ts v0)), .agg [.int .i64 x0.k, .int .i64 x0.n, .fr (.ts x0.kids)], .one (.int .i64 3)] []).bind fun x1 =>
 (ag x1.1 fun x2 x3 =>
 (aB .i64 x3 fun x4 x5 =>
 (ai x5 (aj x1.2
 (cond (!decide (x4 = 0))
 (some ([.agg [.int .i64 0, .int .i64 0, .fr (.ts [])], .one (.int .i64 x4)], []))
 (v3[(1 : Int).toNat]?.bind fun x6 =>
 ((x2.kids)[(0 : Int).toNat]?.bind fun x7 =>
 ((FF n 132 [.one (.fr (.ts v0)), .agg [.int .i64 x6.k, .int .i64 x6.n, .fr (.ts x6.kids)], .agg [.int .i64 x7.k, .int .i64 x7.n, .fr (.ts x7.kids)]] []).bind fun x8 =>
 (aB .i64 x8.1 fun x9 x10 =>
 (ai x10 (aj x8.2
 (cond (!decide (x9 = 0))
 (some ([.agg [.int .i64 0, .int .i64 0, .fr (.ts [])], .one (.int .i64 x9)], []))
 ((x2.kids)[(1 : Int).toNat]?.bind fun x11 =>
 (v3[(1 : Int).toNat]?.bind fun x12 =>
 ((FF n 133 [.agg [.int .i64 x11.k, .int .i64 x11.n, .fr (.ts x11.kids)], .one (.int .i64 0), .agg [.int .i64 x12.k, .int .i64 x12.n, .fr (.ts x12.kids)], .one (.int .i64 0)] []).bind fun x13 =>
 (ag x13.1 fun x14 x15 =>
 (ai x15 (aj x13.2
 (some ([.agg [.int .i64 x14.k, .int .i64 x14.n, .fr (.ts x14.kids)], .one (.int .i64 0)], [])))))))))))))))))))))) := by kernel_rfl
theorem qA (n : Nat) (v0 : List T) (v1 v2 : Int) (v3 : List T) : FF (n + 1) 116 [.one (.fr (.ts v0)), .agg [.int .i64 v1, .int .i64 v2, .fr (.ts v3)]] [] =
 (v3[(0 : Int).toNat]?.bind fun x0 =>
 ((FF n 22 [.one (.int .i64 6), .one (.int .i64 0)] []).bind fun x1 =>
 (ag x1.1 fun x2 x3 =>
 (ai x3 (aj x1.2
 ((FF n 134 [.one (.fr (.ts v0)), .agg [.int .i64 x0.k, .int .i64 x0.n, .fr (.ts x0.kids)], .agg [.int .i64 x2.k, .int .i64 x2.n, .fr (.ts x2.kids)]] []).bind fun x4 =>
 (aB .i64 x4.1 fun x5 x6 =>
 (ai x6 (aj x4.2
 (cond (decide (x5 = 0))
 (v3[(1 : Int).toNat]?.bind fun x7 =>
 ((FF n 22 [.one (.int .i64 7), .one (.int .i64 0)] []).bind fun x8 =>
 (ag x8.1 fun x9 x10 =>
 (ai x10 (aj x8.2
 ((FF n 45 [.one (.int .i64 5), .one (.fr (.ts [(T.mk x0.k x0.n x0.kids), (T.mk x9.k x9.n x9.kids)]))] []).bind fun x11 =>
 (ag x11.1 fun x12 x13 =>
 (ai x13 (aj x11.2
 ((FF n 132 [.one (.fr (.ts v0)), .agg [.int .i64 x7.k, .int .i64 x7.n, .fr (.ts x7.kids)], .agg [.int .i64 x12.k, .int .i64 x12.n, .fr (.ts x12.kids)]] []).bind fun x14 =>
 (aB .i64 x14.1 fun x15 x16 =>
 (ai x16 (aj x14.2
 (cond (decide (x15 = 0))
 (v3[(2 : Int).toNat]?.bind fun x17 =>
 ((FF n 135 [.agg [.int .i64 x0.k, .int .i64 x0.n, .fr (.ts x0.kids)]] []).bind fun x18 =>
 (ag x18.1 fun x19 x20 =>
 (ai x20 (aj x18.2
 ((FF n 132 [.one (.fr (.ts v0)), .agg [.int .i64 x17.k, .int .i64 x17.n, .fr (.ts x17.kids)], .agg [.int .i64 x19.k, .int .i64 x19.n, .fr (.ts x19.kids)]] []).bind fun x21 =>
 (aB .i64 x21.1 fun x22 x23 =>
 (ai x23 (aj x21.2
 (cond (decide (x22 = 0))
 (v3[(3 : Int).toNat]?.bind fun x24 =>
 ((FF n 132 [.one (.fr (.ts v0)), .agg [.int .i64 x24.k, .int .i64 x24.n, .fr (.ts x24.kids)], .agg [.int .i64 x2.k, .int .i64 x2.n, .fr (.ts x2.kids)]] []).bind fun x25 =>
 (aB .i64 x25.1 fun x26 x27 =>
 (ai x27 (aj x25.2
 (v3[(3 : Int).toNat]?.bind fun x28 =>
 ((FF n 45 [.one (.int .i64 5), .one (.fr (.ts [(T.mk x0.k x0.n x0.kids), (T.mk x28.k x28.n x28.kids)]))] []).bind fun x29 =>
 (ag x29.1 fun x30 x31 =>
 (ai x31 (aj x29.2
 (some ([.agg [.int .i64 x30.k, .int .i64 x30.n, .fr (.ts x30.kids)], .one (.int .i64 x26)], []))))))))))))
 (v3[(3 : Int).toNat]?.bind fun x24 =>
 ((FF n 45 [.one (.int .i64 5), .one (.fr (.ts [(T.mk x0.k x0.n x0.kids), (T.mk x24.k x24.n x24.kids)]))] []).bind fun x25 =>
 (ag x25.1 fun x26 x27 =>
 (ai x27 (aj x25.2
 (some ([.agg [.int .i64 x26.k, .int .i64 x26.n, .fr (.ts x26.kids)], .one (.int .i64 x22)], [])))))))))))))))))
 (cond (decide (x15 = 0))
 (v3[(3 : Int).toNat]?.bind fun x17 =>
 ((FF n 132 [.one (.fr (.ts v0)), .agg [.int .i64 x17.k, .int .i64 x17.n, .fr (.ts x17.kids)], .agg [.int .i64 x2.k, .int .i64 x2.n, .fr (.ts x2.kids)]] []).bind fun x18 =>
 (aB .i64 x18.1 fun x19 x20 =>
 (ai x20 (aj x18.2
 (v3[(3 : Int).toNat]?.bind fun x21 =>
 ((FF n 45 [.one (.int .i64 5), .one (.fr (.ts [(T.mk x0.k x0.n x0.kids), (T.mk x21.k x21.n x21.kids)]))] []).bind fun x22 =>
 (ag x22.1 fun x23 x24 =>
 (ai x24 (aj x22.2
 (some ([.agg [.int .i64 x23.k, .int .i64 x23.n, .fr (.ts x23.kids)], .one (.int .i64 x19)], []))))))))))))
 (v3[(3 : Int).toNat]?.bind fun x17 =>
 ((FF n 45 [.one (.int .i64 5), .one (.fr (.ts [(T.mk x0.k x0.n x0.kids), (T.mk x17.k x17.n x17.kids)]))] []).bind fun x18 =>
 (ag x18.1 fun x19 x20 =>
 (ai x20 (aj x18.2
 (some ([.agg [.int .i64 x19.k, .int .i64 x19.n, .fr (.ts x19.kids)], .one (.int .i64 x15)], []))))))))))))))))))))))
 (cond (decide (x5 = 0))
 (v3[(2 : Int).toNat]?.bind fun x7 =>
 ((FF n 135 [.agg [.int .i64 x0.k, .int .i64 x0.n, .fr (.ts x0.kids)]] []).bind fun x8 =>
 (ag x8.1 fun x9 x10 =>
 (ai x10 (aj x8.2
 ((FF n 132 [.one (.fr (.ts v0)), .agg [.int .i64 x7.k, .int .i64 x7.n, .fr (.ts x7.kids)], .agg [.int .i64 x9.k, .int .i64 x9.n, .fr (.ts x9.kids)]] []).bind fun x11 =>
 (aB .i64 x11.1 fun x12 x13 =>
 (ai x13 (aj x11.2
 (cond (decide (x12 = 0))
 (v3[(3 : Int).toNat]?.bind fun x14 =>
 ((FF n 132 [.one (.fr (.ts v0)), .agg [.int .i64 x14.k, .int .i64 x14.n, .fr (.ts x14.kids)], .agg [.int .i64 x2.k, .int .i64 x2.n, .fr (.ts x2.kids)]] []).bind fun x15 =>
 (aB .i64 x15.1 fun x16 x17 =>
 (ai x17 (aj x15.2
 (v3[(3 : Int).toNat]?.bind fun x18 =>
 ((FF n 45 [.one (.int .i64 5), .one (.fr (.ts [(T.mk x0.k x0.n x0.kids), (T.mk x18.k x18.n x18.kids)]))] []).bind fun x19 =>
 (ag x19.1 fun x20 x21 =>
 (ai x21 (aj x19.2
 (some ([.agg [.int .i64 x20.k, .int .i64 x20.n, .fr (.ts x20.kids)], .one (.int .i64 x16)], []))))))))))))
 (v3[(3 : Int).toNat]?.bind fun x14 =>
 ((FF n 45 [.one (.int .i64 5), .one (.fr (.ts [(T.mk x0.k x0.n x0.kids), (T.mk x14.k x14.n x14.kids)]))] []).bind fun x15 =>
 (ag x15.1 fun x16 x17 =>
 (ai x17 (aj x15.2
 (some ([.agg [.int .i64 x16.k, .int .i64 x16.n, .fr (.ts x16.kids)], .one (.int .i64 x12)], [])))))))))))))))))
 (cond (decide (x5 = 0))
 (v3[(3 : Int).toNat]?.bind fun x7 =>
 ((FF n 132 [.one (.fr (.ts v0)), .agg [.int .i64 x7.k, .int .i64 x7.n, .fr (.ts x7.kids)], .agg [.int .i64 x2.k, .int .i64 x2.n, .fr (.ts x2.kids)]] []).bind fun x8 =>
 (aB .i64 x8.1 fun x9 x10 =>
 (ai x10 (aj x8.2
 (v3[(3 : Int).toNat]?.bind fun x11 =>
 ((FF n 45 [.one (.int .i64 5), .one (.fr (.ts [(T.mk x0.k x0.n x0.kids), (T.mk x11.k x11.n x11.kids)]))] []).bind fun x12 =>
 (ag x12.1 fun x13 x14 =>
 (ai x14 (aj x12.2
 (some ([.agg [.int .i64 x13.k, .int .i64 x13.n, .fr (.ts x13.kids)], .one (.int .i64 x9)], []))))))))))))
 (v3[(3 : Int).toNat]?.bind fun x7 =>
 ((FF n 45 [.one (.int .i64 5), .one (.fr (.ts [(T.mk x0.k x0.n x0.kids), (T.mk x7.k x7.n x7.kids)]))] []).bind fun x8 =>
 (ag x8.1 fun x9 x10 =>
 (ai x10 (aj x8.2
 (some ([.agg [.int .i64 x9.k, .int .i64 x9.n, .fr (.ts x9.kids)], .one (.int .i64 x5)], []))))))))))))))))))) := by kernel_rfl
theorem uJ (n : Nat) (v0 : List T) (v1 v2 : Int) (v3 : List T) : FF (n + 1) 117 [.one (.fr (.ts v0)), .agg [.int .i64 v1, .int .i64 v2, .fr (.ts v3)]] [] =
 (v3[(0 : Int).toNat]?.bind fun x0 =>
 ((FF n 96 [.one (.fr (.ts v0)), .agg [.int .i64 x0.k, .int .i64 x0.n, .fr (.ts x0.kids)]] []).bind fun x1 =>
 (aB .i64 x1.1 fun x2 x3 =>
 (aB .i64 x3 fun x4 x5 =>
 (ai x5 (aj x1.2
 (cond (decide (x4 = 0))
 (v3[(1 : Int).toNat]?.bind fun x6 =>
 (v3[(0 : Int).toNat]?.bind fun x7 =>
 ((FF n 132 [.one (.fr (.ts v0)), .agg [.int .i64 x6.k, .int .i64 x6.n, .fr (.ts x6.kids)], .agg [.int .i64 x7.k, .int .i64 x7.n, .fr (.ts x7.kids)]] []).bind fun x8 =>
 (aB .i64 x8.1 fun x9 x10 =>
 (ai x10 (aj x8.2
 (cond (decide (x9 = 0))
 (v3[(2 : Int).toNat]?.bind fun x11 =>
 (v3[(0 : Int).toNat]?.bind fun x12 =>
 ((FF n 132 [.one (.fr (.ts v0)), .agg [.int .i64 x11.k, .int .i64 x11.n, .fr (.ts x11.kids)], .agg [.int .i64 x12.k, .int .i64 x12.n, .fr (.ts x12.kids)]] []).bind fun x13 =>
 (aB .i64 x13.1 fun x14 x15 =>
 (ai x15 (aj x13.2
 ((FF n 22 [.one (.int .i64 2), .one (.int .i64 x2)] []).bind fun x16 =>
 (ag x16.1 fun x17 x18 =>
 (ai x18 (aj x16.2
 (some ([.agg [.int .i64 x17.k, .int .i64 x17.n, .fr (.ts x17.kids)], .one (.int .i64 x14)], []))))))))))))
 ((FF n 22 [.one (.int .i64 2), .one (.int .i64 x2)] []).bind fun x11 =>
 (ag x11.1 fun x12 x13 =>
 (ai x13 (aj x11.2
 (some ([.agg [.int .i64 x12.k, .int .i64 x12.n, .fr (.ts x12.kids)], .one (.int .i64 x9)], [])))))))))))))
 (cond (decide (x4 = 0))
 (v3[(2 : Int).toNat]?.bind fun x6 =>
 (v3[(0 : Int).toNat]?.bind fun x7 =>
 ((FF n 132 [.one (.fr (.ts v0)), .agg [.int .i64 x6.k, .int .i64 x6.n, .fr (.ts x6.kids)], .agg [.int .i64 x7.k, .int .i64 x7.n, .fr (.ts x7.kids)]] []).bind fun x8 =>
 (aB .i64 x8.1 fun x9 x10 =>
 (ai x10 (aj x8.2
 ((FF n 22 [.one (.int .i64 2), .one (.int .i64 x2)] []).bind fun x11 =>
 (ag x11.1 fun x12 x13 =>
 (ai x13 (aj x11.2
 (some ([.agg [.int .i64 x12.k, .int .i64 x12.n, .fr (.ts x12.kids)], .one (.int .i64 x9)], []))))))))))))
 ((FF n 22 [.one (.int .i64 2), .one (.int .i64 x2)] []).bind fun x6 =>
 (ag x6.1 fun x7 x8 =>
 (ai x8 (aj x6.2
 (some ([.agg [.int .i64 x7.k, .int .i64 x7.n, .fr (.ts x7.kids)], .one (.int .i64 x4)], [])))))))))))))) := by kernel_rfl
theorem rG (n : Nat) (v0 : List T) (v1 v2 : Int) (v3 : List T) : FF (n + 1) 118 [.one (.fr (.ts v0)), .agg [.int .i64 v1, .int .i64 v2, .fr (.ts v3)]] [] =
 (v3[(1 : Int).toNat]?.bind fun x0 =>
 ((FF n 131 [.one (.fr (.ts v0)), .agg [.int .i64 x0.k, .int .i64 x0.n, .fr (.ts x0.kids)], .one (.int .i64 10)] []).bind fun x1 =>
 (ag x1.1 fun x2 x3 =>
 (aB .i64 x3 fun x4 x5 =>
 (ai x5 (aj x1.2
 (cond (!decide (x4 = 0))
 (some ([.agg [.int .i64 0, .int .i64 0, .fr (.ts [])], .one (.int .i64 x4)], []))
 (v3[(0 : Int).toNat]?.bind fun x6 =>
 ((x2.kids)[(0 : Int).toNat]?.bind fun x7 =>
 ((FF n 134 [.one (.fr (.ts v0)), .agg [.int .i64 x6.k, .int .i64 x6.n, .fr (.ts x6.kids)], .agg [.int .i64 x7.k, .int .i64 x7.n, .fr (.ts x7.kids)]] []).bind fun x8 =>
 (aB .i64 x8.1 fun x9 x10 =>
 (ai x10 (aj x8.2
 (cond (decide (x9 = 0))
 (v3[(2 : Int).toNat]?.bind fun x11 =>
 (v3[(0 : Int).toNat]?.bind fun x12 =>
 ((x2.kids)[(1 : Int).toNat]?.bind fun x13 =>
 ((FF n 45 [.one (.int .i64 5), .one (.fr (.ts [(T.mk x12.k x12.n x12.kids), (T.mk x13.k x13.n x13.kids)]))] []).bind fun x14 =>
 (ag x14.1 fun x15 x16 =>
 (ai x16 (aj x14.2
 ((FF n 132 [.one (.fr (.ts v0)), .agg [.int .i64 x11.k, .int .i64 x11.n, .fr (.ts x11.kids)], .agg [.int .i64 x15.k, .int .i64 x15.n, .fr (.ts x15.kids)]] []).bind fun x17 =>
 (aB .i64 x17.1 fun x18 x19 =>
 (ai x19 (aj x17.2
 (v3[(0 : Int).toNat]?.bind fun x20 =>
 ((x2.kids)[(2 : Int).toNat]?.bind fun x21 =>
 ((FF n 45 [.one (.int .i64 5), .one (.fr (.ts [(T.mk x20.k x20.n x20.kids), (T.mk x21.k x21.n x21.kids)]))] []).bind fun x22 =>
 (ag x22.1 fun x23 x24 =>
 (ai x24 (aj x22.2
 (some ([.agg [.int .i64 x23.k, .int .i64 x23.n, .fr (.ts x23.kids)], .one (.int .i64 x18)], [])))))))))))))))))))
 (v3[(0 : Int).toNat]?.bind fun x11 =>
 ((x2.kids)[(2 : Int).toNat]?.bind fun x12 =>
 ((FF n 45 [.one (.int .i64 5), .one (.fr (.ts [(T.mk x11.k x11.n x11.kids), (T.mk x12.k x12.n x12.kids)]))] []).bind fun x13 =>
 (ag x13.1 fun x14 x15 =>
 (ai x15 (aj x13.2
 (some ([.agg [.int .i64 x14.k, .int .i64 x14.n, .fr (.ts x14.kids)], .one (.int .i64 x9)], [])))))))))))))))))))))) := by kernel_rfl
theorem rp (n : Nat) (v0 : List T) (v1 v2 : Int) (v3 : List T) : FF (n + 1) 119 [.one (.fr (.ts v0)), .agg [.int .i64 v1, .int .i64 v2, .fr (.ts v3)]] [] =
 (v3[(0 : Int).toNat]?.bind fun x0 =>
 ((FF n 96 [.one (.fr (.ts v0)), .agg [.int .i64 x0.k, .int .i64 x0.n, .fr (.ts x0.kids)]] []).bind fun x1 =>
 (aB .i64 x1.1 fun x2 x3 =>
 (aB .i64 x3 fun x4 x5 =>
 (ai x5 (aj x1.2
 (cond (!decide (x4 = 0))
 (some ([.agg [.int .i64 0, .int .i64 0, .fr (.ts [])], .one (.int .i64 x4)], []))
 (v3[(0 : Int).toNat]?.bind fun x6 =>
 ((FF n 112 [.agg [.int .i64 x6.k, .int .i64 x6.n, .fr (.ts x6.kids)]] []).bind fun x7 =>
 (ag x7.1 fun x8 x9 =>
 (aB .i64 x9 fun x10 x11 =>
 (ai x11 (aj x7.2
 (cond (!decide (x10 = 0))
 (some ([.agg [.int .i64 0, .int .i64 0, .fr (.ts [])], .one (.int .i64 x10)], []))
 (cond (!decide (x8.k = 13))
 (some ([.agg [.int .i64 0, .int .i64 0, .fr (.ts [])], .one (.int .i64 1)], []))
 (v3[(1 : Int).toNat]?.bind fun x12 =>
 ((x8.kids)[(0 : Int).toNat]?.bind fun x13 =>
 ((FF n 132 [.one (.fr (.ts v0)), .agg [.int .i64 x12.k, .int .i64 x12.n, .fr (.ts x12.kids)], .agg [.int .i64 x13.k, .int .i64 x13.n, .fr (.ts x13.kids)]] []).bind fun x14 =>
 (aB .i64 x14.1 fun x15 x16 =>
 (ai x16 (aj x14.2
 (cond (decide (x15 = 0))
 (v3[(2 : Int).toNat]?.bind fun x17 =>
 ((x8.kids)[(1 : Int).toNat]?.bind fun x18 =>
 (v3[(1 : Int).toNat]?.bind fun x19 =>
 ((FF n 133 [.agg [.int .i64 x18.k, .int .i64 x18.n, .fr (.ts x18.kids)], .one (.int .i64 0), .agg [.int .i64 x19.k, .int .i64 x19.n, .fr (.ts x19.kids)], .one (.int .i64 0)] []).bind fun x20 =>
 (ag x20.1 fun x21 x22 =>
 (ai x22 (aj x20.2
 ((FF n 132 [.one (.fr (.ts v0)), .agg [.int .i64 x17.k, .int .i64 x17.n, .fr (.ts x17.kids)], .agg [.int .i64 x21.k, .int .i64 x21.n, .fr (.ts x21.kids)]] []).bind fun x23 =>
 (aB .i64 x23.1 fun x24 x25 =>
 (ai x25 (aj x23.2
 (v3[(0 : Int).toNat]?.bind fun x26 =>
 some ([.agg [.int .i64 x26.k, .int .i64 x26.n, .fr (.ts x26.kids)], .one (.int .i64 x24)], [])))))))))))))
 (v3[(0 : Int).toNat]?.bind fun x17 =>
 some ([.agg [.int .i64 x17.k, .int .i64 x17.n, .fr (.ts x17.kids)], .one (.int .i64 x15)], [])))))))))))))))))))))))) := by kernel_rfl
theorem bF (n : Nat) (v0 : List T) (v1 v2 : Int) (v3 : List T) : FF (n + 1) 120 [.one (.fr (.ts v0)), .agg [.int .i64 v1, .int .i64 v2, .fr (.ts v3)]] [] =
 (cond (decide (v1 = 1))
 (cond (decide ((v0.length : Int) ≤ v2))
 (some ([.agg [.int .i64 0, .int .i64 0, .fr (.ts [])], .one (.int .i64 1)], []))
 (cond (decide (0 ≤ (IntKind.i64.wrap ((IntKind.i64.wrap ((v0.length : Int) - 1)) - v2))))
 (v0[((IntKind.i64.wrap ((IntKind.i64.wrap ((v0.length : Int) - 1)) - v2)) : Int).toNat]?.bind fun x0 =>
 ((FF n 46 [.agg [.int .i64 x0.k, .int .i64 x0.n, .fr (.ts x0.kids)], .one (.int .i64 (IntKind.i64.wrap (v2 + 1))), .one (.int .i64 0)] []).bind fun x1 =>
 (ag x1.1 fun x2 x3 =>
 (ai x3 (aj x1.2
 (some ([.agg [.int .i64 x2.k, .int .i64 x2.n, .fr (.ts x2.kids)], .one (.int .i64 0)], [])))))))
 none))
 (cond (decide (v1 = 2))
 (cond (decide (3 ≤ v2))
 (some ([.agg [.int .i64 0, .int .i64 0, .fr (.ts [])], .one (.int .i64 1)], []))
 ((FF n 22 [.one (.int .i64 2), .one (.int .i64 (IntKind.i64.wrap (v2 + 1)))] []).bind fun x0 =>
 (ag x0.1 fun x1 x2 =>
 (ai x2 (aj x0.2
 (some ([.agg [.int .i64 x1.k, .int .i64 x1.n, .fr (.ts x1.kids)], .one (.int .i64 0)], [])))))))
 (cond (decide (v1 = 6))
 ((FF n 22 [.one (.int .i64 2), .one (.int .i64 0)] []).bind fun x0 =>
 (ag x0.1 fun x1 x2 =>
 (ai x2 (aj x0.2
 (some ([.agg [.int .i64 x1.k, .int .i64 x1.n, .fr (.ts x1.kids)], .one (.int .i64 0)], []))))))
 (cond (decide (v1 = 7))
 ((FF n 22 [.one (.int .i64 6), .one (.int .i64 0)] []).bind fun x0 =>
 (ag x0.1 fun x1 x2 =>
 (ai x2 (aj x0.2
 (some ([.agg [.int .i64 x1.k, .int .i64 x1.n, .fr (.ts x1.kids)], .one (.int .i64 0)], []))))))
 (cond (decide (v1 = 8))
 ((FF n 22 [.one (.int .i64 6), .one (.int .i64 0)] []).bind fun x0 =>
 (ag x0.1 fun x1 x2 =>
 (ai x2 (aj x0.2
 (v3[(0 : Int).toNat]?.bind fun x3 =>
 ((FF n 22 [.one (.int .i64 6), .one (.int .i64 0)] []).bind fun x4 =>
 (ag x4.1 fun x5 x6 =>
 (ai x6 (aj x4.2
 ((FF n 132 [.one (.fr (.ts v0)), .agg [.int .i64 x3.k, .int .i64 x3.n, .fr (.ts x3.kids)], .agg [.int .i64 x5.k, .int .i64 x5.n, .fr (.ts x5.kids)]] []).bind fun x7 =>
 (aB .i64 x7.1 fun x8 x9 =>
 (ai x9 (aj x7.2
 (some ([.agg [.int .i64 x1.k, .int .i64 x1.n, .fr (.ts x1.kids)], .one (.int .i64 x8)], [])))))))))))))))
 (cond (decide (v1 = 11))
 (v3[(0 : Int).toNat]?.bind fun x0 =>
 ((FF n 66 [.one (.fr (.ts v0)), .agg [.int .i64 x0.k, .int .i64 x0.n, .fr (.ts x0.kids)]] []).bind fun x1 =>
 (ag x1.1 fun x2 x3 =>
 (aB .i64 x3 fun x4 x5 =>
 (ai x5 (aj x1.2
 (cond (decide (x4 = 0))
 ((FF n 96 [.one (.fr (.ts v0)), .agg [.int .i64 x2.k, .int .i64 x2.n, .fr (.ts x2.kids)]] []).bind fun x6 =>
 (aB .i64 x6.1 fun x7 x8 =>
 (aB .i64 x8 fun x9 x10 =>
 (ai x10 (aj x6.2
 (v3[(0 : Int).toNat]?.bind fun x11 =>
 (v3[(0 : Int).toNat]?.bind fun x12 =>
 ((FF n 45 [.one (.int .i64 10), .one (.fr (.ts [(T.mk x2.k x2.n x2.kids), (T.mk x11.k x11.n x11.kids), (T.mk x12.k x12.n x12.kids)]))] []).bind fun x13 =>
 (ag x13.1 fun x14 x15 =>
 (ai x15 (aj x13.2
 (some ([.agg [.int .i64 x14.k, .int .i64 x14.n, .fr (.ts x14.kids)], .one (.int .i64 x9)], [])))))))))))))
 (v3[(0 : Int).toNat]?.bind fun x6 =>
 (v3[(0 : Int).toNat]?.bind fun x7 =>
 ((FF n 45 [.one (.int .i64 10), .one (.fr (.ts [(T.mk x2.k x2.n x2.kids), (T.mk x6.k x6.n x6.kids), (T.mk x7.k x7.n x7.kids)]))] []).bind fun x8 =>
 (ag x8.1 fun x9 x10 =>
 (ai x10 (aj x8.2
 (some ([.agg [.int .i64 x9.k, .int .i64 x9.n, .fr (.ts x9.kids)], .one (.int .i64 x4)], [])))))))))))))))
 ((FF n 136 [.one (.fr (.ts v0)), .agg [.int .i64 v1, .int .i64 v2, .fr (.ts v3)]] []).bind fun x0 =>
 (ag x0.1 fun x1 x2 =>
 (aB .i64 x2 fun x3 x4 =>
 (ai x4 (aj x0.2
 (some ([.agg [.int .i64 x1.k, .int .i64 x1.n, .fr (.ts x1.kids)], .one (.int .i64 x3)], []))))))))))))) := by kernel_rfl
theorem kD (n : Nat) (v0 v1 : Int) (v2 : List T) : FF (n + 1) 71 [.agg [.int .i64 v0, .int .i64 v1, .fr (.ts v2)]] [] =
 ((FF n 33 [.agg [.int .i64 v0, .int .i64 v1, .fr (.ts v2)]] []).bind fun x0 =>
 (aD x0.1 fun x1 x2 =>
 (ai x2 (aj x0.2
 (some ([.one (.bool (!x1))], [])))))) := by kernel_rfl
theorem wx (n : Nat) (v0 v1 : Int) (v2 : List T) : FF (n + 1) 100 [.agg [.int .i64 v0, .int .i64 v1, .fr (.ts v2)]] [] =
 ((FF n 122 [.agg [.int .i64 v0, .int .i64 v1, .fr (.ts v2)]] []).bind fun x0 =>
 (aB .i64 x0.1 fun x1 x2 =>
 (ai x2 (aj x0.2
 (cond (!decide (x1 = 0))
 (some ([.one (.fr (.is [])), .one (.bool true)], []))
 (cond (decide (v0 = 5))
 (v2[(0 : Int).toNat]?.bind fun x3 =>
 ((FF n 100 [.agg [.int .i64 x3.k, .int .i64 x3.n, .fr (.ts x3.kids)]] []).bind fun x4 =>
 (rIs x4.1 fun x5 x6 =>
 (aD x6 fun x7 x8 =>
 (ai x8 (aj x4.2
 (cond (b8 ([0] ++ x5).length)
 (some ([.one (.fr (.is ([0] ++ x5))), .one (.bool x7)], []))
 none)))))))
 (cond (decide (v0 = 15))
 (v2[(0 : Int).toNat]?.bind fun x3 =>
 ((FF n 100 [.agg [.int .i64 x3.k, .int .i64 x3.n, .fr (.ts x3.kids)]] []).bind fun x4 =>
 (rIs x4.1 fun x5 x6 =>
 (aD x6 fun x7 x8 =>
 (ai x8 (aj x4.2
 (cond (b8 ([0] ++ x5).length)
 (some ([.one (.fr (.is ([0] ++ x5))), .one (.bool x7)], []))
 none)))))))
 (cond (decide (v0 = 16))
 (v2[(0 : Int).toNat]?.bind fun x3 =>
 ((FF n 100 [.agg [.int .i64 x3.k, .int .i64 x3.n, .fr (.ts x3.kids)]] []).bind fun x4 =>
 (rIs x4.1 fun x5 x6 =>
 (aD x6 fun x7 x8 =>
 (ai x8 (aj x4.2
 (cond (b8 ([0] ++ x5).length)
 (some ([.one (.fr (.is ([0] ++ x5))), .one (.bool x7)], []))
 none)))))))
 (cond (decide (v0 = 9))
 (v2[(3 : Int).toNat]?.bind fun x3 =>
 ((FF n 100 [.agg [.int .i64 x3.k, .int .i64 x3.n, .fr (.ts x3.kids)]] []).bind fun x4 =>
 (rIs x4.1 fun x5 x6 =>
 (aD x6 fun x7 x8 =>
 (ai x8 (aj x4.2
 (cond (b8 ([3] ++ x5).length)
 (some ([.one (.fr (.is ([3] ++ x5))), .one (.bool x7)], []))
 none)))))))
 (cond (decide (v0 = 12))
 (v2[(1 : Int).toNat]?.bind fun x3 =>
 ((FF n 100 [.agg [.int .i64 x3.k, .int .i64 x3.n, .fr (.ts x3.kids)]] []).bind fun x4 =>
 (rIs x4.1 fun x5 x6 =>
 (aD x6 fun x7 x8 =>
 (ai x8 (aj x4.2
 (cond (b8 ([1] ++ x5).length)
 (some ([.one (.fr (.is ([1] ++ x5))), .one (.bool x7)], []))
 none)))))))
 (some ([.one (.fr (.is [])), .one (.bool false)], [])))))))))))) := by kernel_rfl
theorem gl (n : Nat) (v0 v1 : Int) (v2 : List T) (v3 : List Int) : FF (n + 1) 121 [.agg [.int .i64 v0, .int .i64 v1, .fr (.ts v2)], .one (.fr (.is v3))] [] =
 ((FF n 138 [.agg [.int .i64 v0, .int .i64 v1, .fr (.ts v2)], .one (.fr (.is v3))] []).bind fun x0 =>
 (ag x0.1 fun x1 x2 =>
 (ai x2 (aj x0.2
 ((FF n 137 [.agg [.int .i64 x1.k, .int .i64 x1.n, .fr (.ts x1.kids)]] []).bind fun x3 =>
 (ag x3.1 fun x4 x5 =>
 (aD x5 fun x6 x7 =>
 (ai x7 (aj x3.2
 (cond (!x6)
 (some ([.agg [.int .i64 0, .int .i64 0, .fr (.ts [])], .one (.bool false)], []))
 ((FF n 139 [.agg [.int .i64 v0, .int .i64 v1, .fr (.ts v2)], .one (.fr (.is v3)), .agg [.int .i64 x4.k, .int .i64 x4.n, .fr (.ts x4.kids)]] []).bind fun x8 =>
 (ag x8.1 fun x9 x10 =>
 (ai x10 (aj x8.2
 ((FF n 34 [.agg [.int .i64 x9.k, .int .i64 x9.n, .fr (.ts x9.kids)]] []).bind fun x11 =>
 (ag x11.1 fun x12 x13 =>
 (ai x13 (aj x11.2
 ((FF n 51 [.agg [.int .i64 x12.k, .int .i64 x12.n, .fr (.ts x12.kids)]] []).bind fun x14 =>
 (ag x14.1 fun x15 x16 =>
 (aD x16 fun x17 x18 =>
 (ai x18 (aj x14.2
 (some ([.agg [.int .i64 x15.k, .int .i64 x15.n, .fr (.ts x15.kids)], .one (.bool x17)], []))))))))))))))))))))))))) := by kernel_rfl
theorem pd (n : Nat) (v0 v1 v2 v3 : Int) (v4 : Bool) : FF (n + 1) 104 [.one (.int .i64 v0), .one (.int .i64 v1), .one (.ptr 0 0), .one (.ptr 1 0), .one (.ptr 2 0)] [.cells [.int .i64 v2], .cells [.int .i64 v3], .cells [.bool v4]] =
 (cond (decide (v2 ≤ (IntKind.i64.wrap (v0 - v1))))
 (cond v4
 (cond (decide (v2 ≤ (IntKind.i64.wrap ((IntKind.i64.wrap (v0 + v3)) - v1))))
 ((FF n 21 [.one (.int .i64 (IntKind.i64.wrap (v0 + v3)))] []).bind fun x0 =>
 (ag x0.1 fun x1 x2 =>
 (ai x2 (aj x0.2
 (some ([.agg [.int .i64 x1.k, .int .i64 x1.n, .fr (.ts x1.kids)]], [.cells [.int .i64 v2], .cells [.int .i64 v3], .cells [.bool (decide ((IntKind.i64.wrap (v0 + v3)) ≤ 20))]]))))))
 ((FF n 21 [.one (.int .i64 (IntKind.i64.wrap (v0 + v3)))] []).bind fun x0 =>
 (ag x0.1 fun x1 x2 =>
 (ai x2 (aj x0.2
 (some ([.agg [.int .i64 x1.k, .int .i64 x1.n, .fr (.ts x1.kids)]], [.cells [.int .i64 v2], .cells [.int .i64 v3], .cells [.bool false]])))))))
 ((FF n 21 [.one (.int .i64 (IntKind.i64.wrap (v0 + v3)))] []).bind fun x0 =>
 (ag x0.1 fun x1 x2 =>
 (ai x2 (aj x0.2
 (some ([.agg [.int .i64 x1.k, .int .i64 x1.n, .fr (.ts x1.kids)]], [.cells [.int .i64 v2], .cells [.int .i64 v3], .cells [.bool false]])))))))
 ((FF n 21 [.one (.int .i64 v0)] []).bind fun x0 =>
 (ag x0.1 fun x1 x2 =>
 (ai x2 (aj x0.2
 (some ([.agg [.int .i64 x1.k, .int .i64 x1.n, .fr (.ts x1.kids)]], [.cells [.int .i64 v2], .cells [.int .i64 v3], .cells [.bool v4]]))))))) := by kernel_rfl
theorem sY (n : Nat) (v0 v1 : Int) : FF (n + 1) 77 [.one (.int .i64 v0), .one (.int .i64 v1)] [] =
 (cond (decide (v1 = 1))
 ((FF n 101 [.one (.int .i64 v0)] []).bind fun x0 =>
 (aD x0.1 fun x1 x2 =>
 (ai x2 (aj x0.2
 (cond x1
 (some ([.one (.int .i64 1)], []))
 (some ([.one (.int .i64 0)], [])))))))
 (some ([.one (.int .i64 0)], []))) := by kernel_rfl
theorem oW (n : Nat) (v0 v1 v2 v3 v4 : Int) (v5 : List T) (v6 : Bool) : FF (n + 1) 106 [.one (.int .i64 v0), .one (.int .i64 v1), .one (.ptr 0 0), .one (.ptr 1 0), .one (.ptr 2 0)] [.cells [.int .i64 v2], .cells [.int .i64 v3, .int .i64 v4, .fr (.ts v5)], .cells [.bool v6]] =
 (cond (decide ((IntKind.i64.wrap (v0 - v1)) = v2))
 ((FF n 80 [.agg [.int .i64 v3, .int .i64 v4, .fr (.ts v5)], .one (.int .i64 v1), .one (.int .i64 0)] []).bind fun x0 =>
 (ag x0.1 fun x1 x2 =>
 (aD x2 fun x3 x4 =>
 (ai x4 (aj x0.2
 (cond v6
 (some ([.agg [.int .i64 x1.k, .int .i64 x1.n, .fr (.ts x1.kids)]], [.cells [.int .i64 v2], .cells [.int .i64 v3, .int .i64 v4, .fr (.ts v5)], .cells [.bool x3]]))
 (some ([.agg [.int .i64 x1.k, .int .i64 x1.n, .fr (.ts x1.kids)]], [.cells [.int .i64 v2], .cells [.int .i64 v3, .int .i64 v4, .fr (.ts v5)], .cells [.bool false]]))))))))
 (cond (decide (v2 < (IntKind.i64.wrap (v0 - v1))))
 ((FF n 21 [.one (.int .i64 (IntKind.i64.wrap (v0 - 1)))] []).bind fun x0 =>
 (ag x0.1 fun x1 x2 =>
 (ai x2 (aj x0.2
 (some ([.agg [.int .i64 x1.k, .int .i64 x1.n, .fr (.ts x1.kids)]], [.cells [.int .i64 v2], .cells [.int .i64 v3, .int .i64 v4, .fr (.ts v5)], .cells [.bool v6]]))))))
 ((FF n 21 [.one (.int .i64 v0)] []).bind fun x0 =>
 (ag x0.1 fun x1 x2 =>
 (ai x2 (aj x0.2
 (some ([.agg [.int .i64 x1.k, .int .i64 x1.n, .fr (.ts x1.kids)]], [.cells [.int .i64 v2], .cells [.int .i64 v3, .int .i64 v4, .fr (.ts v5)], .cells [.bool v6]])))))))) := by kernel_rfl
theorem g6 (n : Nat) (v0 : List T) (v1 v2 : Int) (v3 : List T) : FF (n + 1) 78 [.one (.fr (.ts v0)), .agg [.int .i64 v1, .int .i64 v2, .fr (.ts v3)]] [] =
 (cond (decide (20 ≤ (v0.length : Int)))
 (some ([.one (.fr (.ts [])), .one (.int .i64 2)], []))
 ((FF n 102 [.one (.fr (.ts v0))] []).bind fun x0 =>
 (D6 0 x0.1 fun x1 =>
 (bW 29 x0.2 fun x2 x3 =>
 (ai x1 (aj x3
 (cond (b8 (x2 ++ [(T.mk v1 v2 v3)]).length)
 (some ([.one (.fr (.ts (x2 ++ [(T.mk v1 v2 v3)]))), .one (.int .i64 0)], []))
 none))))))) := by kernel_rfl
noncomputable def eI (n c : Nat) (v0 : List T) (v1 v2 : Int) : OR := aJ Try.prog SS n 109 0 [1, 1, 0, 1, 0] [] c ⟨[aa, aa, aa, aa, aa, aa, aa, aa, aa, aa, aa, aa, .v (.one (.fr (.ts v0))), .v (.one (.int .i64 v1)), .v (.one (.int .i64 v2)), aa, aa, aa, aa, aa, aa, aa, aa, aa, aa, aa, aa, aa, aa, aa],
 []⟩
theorem gr (n c : Nat) (v0 : List T) (v1 v2 : Int) : eI n (c + 1) v0 v1 v2 =
 (cond (decide (v2 < v1))
 (cond (decide (0 ≤ v2))
 (v0[(v2 : Int).toNat]?.bind fun x0 =>
 ((FF n 109 [.agg [.int .i64 x0.k, .int .i64 x0.n, .fr (.ts x0.kids)]] []).bind fun x1 =>
 (rIs x1.1 fun x2 x3 =>
 (aD x3 fun x4 x5 =>
 (ai x5 (aj x1.2
 (cond x4
 (cond (b8 ([v2] ++ x2).length)
 (some ([.one (.fr (.is ([v2] ++ x2))), .one (.bool true)], []))
 none)
 (eI n c v0 v1 (IntKind.i64.wrap (v2 + 1))))))))))
 none)
 (some ([.one (.fr (.is [])), .one (.bool false)], []))) := by kernel_rfl
theorem sK (n : Nat) (v0 v1 : Int) (v2 : List T) : FF (n + 1) 109 [.agg [.int .i64 v0, .int .i64 v1, .fr (.ts v2)]] [] =
 ((FF n 122 [.agg [.int .i64 v0, .int .i64 v1, .fr (.ts v2)]] []).bind fun x0 =>
 (aB .i64 x0.1 fun x1 x2 =>
 (ai x2 (aj x0.2
 (cond (!decide (x1 = 0))
 (some ([.one (.fr (.is [])), .one (.bool true)], []))
 (eI n n v2 ((v2.length : Int) : Int) 0)))))) := by kernel_rfl
end Go.Proofs.Ytajlknlnmmbfcaa
end
section
namespace Go.Proofs.Ytajlknlnmmbfcaa
open Go Go.Ab Go.Dk
noncomputable def cW (n c : Nat) (v0 : ByteArray) (v1 v2 v3 : Int) : OR := aJ Try.prog SS n 123 0 [1, 1, 0, 0] [] c ⟨[.v (.one (.str v0)), .v (.one (.int .i64 v1)), .v (.one (.int .i64 v2)), aa, aa, aa, aa, aa, .v (.one (.int .i64 v3)), aa, aa, aa, aa, aa, aa, aa, aa, aa, aa, aa, aa, aa, aa, aa, aa, aa, aa, aa, aa, aa, aa, aa, aa, aa, aa, aa, aa, aa, aa, aa, aa, aa, aa, aa, aa, aa, aa, aa, aa],
 []⟩
theorem iY (n c : Nat) (v0 : ByteArray) (v1 v2 v3 : Int) : cW n (c + 1) v0 v1 v2 v3 =
 (cond (decide (v3 < (v0.size : Int)))
 (cond (decide (v3 < (IntKind.i64.wrap (v1 + v2))))
 (cond (decide (0 ≤ v3) && decide (v3 < ((v0.size : Nat) : Int)))
 (cond (decide (48 ≤ ((ba v0 (v3 : Int).toNat).toNat : Int)))
 (cond (decide (0 ≤ v3) && decide (v3 < ((v0.size : Nat) : Int)))
 (cond (decide (((ba v0 (v3 : Int).toNat).toNat : Int) ≤ 57))
 (cW n c v0 v1 v2 (IntKind.i64.wrap (v3 + 1)))
 (cond (Go.Ab.inB v1 v3 v0.size)
 ((FF n 140 [.one (.str (v0.extract (v1 : Int).toNat (v3 : Int).toNat))] []).bind fun x0 =>
 (aB .i64 x0.1 fun x1 x2 =>
 (aD x2 fun x3 x4 =>
 (ai x4 (aj x0.2
 (cond (!x3)
 (some ([.one (.int .i64 0), .one (.int .i64 (-1))], []))
 (some ([.one (.int .i64 x1), .one (.int .i64 v3)], []))))))))
 none))
 none)
 (cond (Go.Ab.inB v1 v3 v0.size)
 ((FF n 140 [.one (.str (v0.extract (v1 : Int).toNat (v3 : Int).toNat))] []).bind fun x0 =>
 (aB .i64 x0.1 fun x1 x2 =>
 (aD x2 fun x3 x4 =>
 (ai x4 (aj x0.2
 (cond (!x3)
 (some ([.one (.int .i64 0), .one (.int .i64 (-1))], []))
 (some ([.one (.int .i64 x1), .one (.int .i64 v3)], []))))))))
 none))
 none)
 (cond (Go.Ab.inB v1 v3 v0.size)
 ((FF n 140 [.one (.str (v0.extract (v1 : Int).toNat (v3 : Int).toNat))] []).bind fun x0 =>
 (aB .i64 x0.1 fun x1 x2 =>
 (aD x2 fun x3 x4 =>
 (ai x4 (aj x0.2
 (cond (!x3)
 (some ([.one (.int .i64 0), .one (.int .i64 (-1))], []))
 (some ([.one (.int .i64 x1), .one (.int .i64 v3)], []))))))))
 none))
 (cond (Go.Ab.inB v1 v3 v0.size)
 ((FF n 140 [.one (.str (v0.extract (v1 : Int).toNat (v3 : Int).toNat))] []).bind fun x0 =>
 (aB .i64 x0.1 fun x1 x2 =>
 (aD x2 fun x3 x4 =>
 (ai x4 (aj x0.2
 (cond (!x3)
 (some ([.one (.int .i64 0), .one (.int .i64 (-1))], []))
 (some ([.one (.int .i64 x1), .one (.int .i64 v3)], []))))))))
 none)) := by kernel_rfl
theorem mV (n : Nat) (v0 : ByteArray) (v1 v2 : Int) : FF (n + 1) 123 [.one (.str v0), .one (.int .i64 v1), .one (.int .i64 v2)] [] =
 cW n n v0 v1 v2 v1 := by kernel_rfl
theorem nK (n : Nat) (v0 : ByteArray) (v1 v2 : Int) : FF (n + 1) 124 [.one (.str v0), .one (.int .i64 v1), .one (.int .i64 v2)] [] =
 (cond (decide (0 ≤ v1) && decide (v1 < ((v0.size : Nat) : Int)))
 (cond (decide (((ba v0 (v1 : Int).toNat).toNat : Int) = 33))
 ((FF n 110 [.one (.str v0), .one (.int .i64 (IntKind.i64.wrap (v1 + 1))), .one (.int .i64 (IntKind.i64.wrap (v2 - 1)))] []).bind fun x0 =>
 (ag x0.1 fun x1 x2 =>
 (aB .i64 x2 fun x3 x4 =>
 (ai x4 (aj x0.2
 ((FF n 45 [.one (.int .i64 11), .one (.fr (.ts [(T.mk x1.k x1.n x1.kids)]))] []).bind fun x5 =>
 (ag x5.1 fun x6 x7 =>
 (ai x7 (aj x5.2
 (some ([.agg [.int .i64 x6.k, .int .i64 x6.n, .fr (.ts x6.kids)], .one (.int .i64 x3)], [])))))))))))
 (cond (decide (((ba v0 (v1 : Int).toNat).toNat : Int) = 94))
 ((FF n 110 [.one (.str v0), .one (.int .i64 (IntKind.i64.wrap (v1 + 1))), .one (.int .i64 (IntKind.i64.wrap (v2 - 1)))] []).bind fun x0 =>
 (ag x0.1 fun x1 x2 =>
 (aB .i64 x2 fun x3 x4 =>
 (ai x4 (aj x0.2
 ((FF n 45 [.one (.int .i64 15), .one (.fr (.ts [(T.mk x1.k x1.n x1.kids)]))] []).bind fun x5 =>
 (ag x5.1 fun x6 x7 =>
 (ai x7 (aj x5.2
 (some ([.agg [.int .i64 x6.k, .int .i64 x6.n, .fr (.ts x6.kids)], .one (.int .i64 x3)], [])))))))))))
 (cond (decide (((ba v0 (v1 : Int).toNat).toNat : Int) = 95))
 ((FF n 110 [.one (.str v0), .one (.int .i64 (IntKind.i64.wrap (v1 + 1))), .one (.int .i64 (IntKind.i64.wrap (v2 - 1)))] []).bind fun x0 =>
 (ag x0.1 fun x1 x2 =>
 (aB .i64 x2 fun x3 x4 =>
 (ai x4 (aj x0.2
 ((FF n 45 [.one (.int .i64 16), .one (.fr (.ts [(T.mk x1.k x1.n x1.kids)]))] []).bind fun x5 =>
 (ag x5.1 fun x6 x7 =>
 (ai x7 (aj x5.2
 (some ([.agg [.int .i64 x6.k, .int .i64 x6.n, .fr (.ts x6.kids)], .one (.int .i64 x3)], [])))))))))))
 ((FF n 110 [.one (.str v0), .one (.int .i64 (IntKind.i64.wrap (v1 + 1))), .one (.int .i64 (IntKind.i64.wrap (v2 - 1)))] []).bind fun x0 =>
 (ag x0.1 fun x1 x2 =>
 (aB .i64 x2 fun x3 x4 =>
 (ai x4 (aj x0.2
 ((FF n 45 [.one (.int .i64 8), .one (.fr (.ts [(T.mk x1.k x1.n x1.kids)]))] []).bind fun x5 =>
 (ag x5.1 fun x6 x7 =>
 (ai x7 (aj x5.2
 (some ([.agg [.int .i64 x6.k, .int .i64 x6.n, .fr (.ts x6.kids)], .one (.int .i64 x3)], []))))))))))))))
 none) := by kernel_rfl
theorem oy (n : Nat) (v0 : ByteArray) (v1 v2 : Int) : FF (n + 1) 125 [.one (.str v0), .one (.int .i64 v1), .one (.int .i64 v2)] [] =
 ((FF n 110 [.one (.str v0), .one (.int .i64 v1), .one (.int .i64 v2)] []).bind fun x0 =>
 (ag x0.1 fun x1 x2 =>
 (aB .i64 x2 fun x3 x4 =>
 (ai x4 (aj x0.2
 (cond (decide (x3 < 0))
 (some ([.agg [.int .i64 0, .int .i64 0, .fr (.ts [])], .one (.int .i64 (-1))], []))
 (cond (decide ((v0.size : Int) ≤ x3))
 (some ([.agg [.int .i64 0, .int .i64 0, .fr (.ts [])], .one (.int .i64 (-1))], []))
 (cond (decide (0 ≤ x3) && decide (x3 < ((v0.size : Nat) : Int)))
 (cond (decide (((ba v0 (x3 : Int).toNat).toNat : Int) = 62))
 ((FF n 110 [.one (.str v0), .one (.int .i64 (IntKind.i64.wrap (x3 + 1))), .one (.int .i64 v2)] []).bind fun x5 =>
 (ag x5.1 fun x6 x7 =>
 (aB .i64 x7 fun x8 x9 =>
 (ai x9 (aj x5.2
 (cond (decide (x8 < 0))
 (some ([.agg [.int .i64 0, .int .i64 0, .fr (.ts [])], .one (.int .i64 (-1))], []))
 (cond (decide ((v0.size : Int) ≤ x8))
 (some ([.agg [.int .i64 0, .int .i64 0, .fr (.ts [])], .one (.int .i64 (-1))], []))
 (cond (decide (0 ≤ x8) && decide (x8 < ((v0.size : Nat) : Int)))
 (cond (!decide (((ba v0 (x8 : Int).toNat).toNat : Int) = 41))
 (some ([.agg [.int .i64 0, .int .i64 0, .fr (.ts [])], .one (.int .i64 (-1))], []))
 ((FF n 45 [.one (.int .i64 3), .one (.fr (.ts [(T.mk x1.k x1.n x1.kids), (T.mk x6.k x6.n x6.kids)]))] []).bind fun x10 =>
 (ag x10.1 fun x11 x12 =>
 (ai x12 (aj x10.2
 (some ([.agg [.int .i64 x11.k, .int .i64 x11.n, .fr (.ts x11.kids)], .one (.int .i64 (IntKind.i64.wrap (x8 + 1)))], [])))))))
 none))))))))
 (cond (decide (((ba v0 (x3 : Int).toNat).toNat : Int) = 42))
 ((FF n 110 [.one (.str v0), .one (.int .i64 (IntKind.i64.wrap (x3 + 1))), .one (.int .i64 v2)] []).bind fun x5 =>
 (ag x5.1 fun x6 x7 =>
 (aB .i64 x7 fun x8 x9 =>
 (ai x9 (aj x5.2
 (cond (decide (x8 < 0))
 (some ([.agg [.int .i64 0, .int .i64 0, .fr (.ts [])], .one (.int .i64 (-1))], []))
 (cond (decide ((v0.size : Int) ≤ x8))
 (some ([.agg [.int .i64 0, .int .i64 0, .fr (.ts [])], .one (.int .i64 (-1))], []))
 (cond (decide (0 ≤ x8) && decide (x8 < ((v0.size : Nat) : Int)))
 (cond (!decide (((ba v0 (x8 : Int).toNat).toNat : Int) = 41))
 (some ([.agg [.int .i64 0, .int .i64 0, .fr (.ts [])], .one (.int .i64 (-1))], []))
 ((FF n 45 [.one (.int .i64 13), .one (.fr (.ts [(T.mk x1.k x1.n x1.kids), (T.mk x6.k x6.n x6.kids)]))] []).bind fun x10 =>
 (ag x10.1 fun x11 x12 =>
 (ai x12 (aj x10.2
 (some ([.agg [.int .i64 x11.k, .int .i64 x11.n, .fr (.ts x11.kids)], .one (.int .i64 (IntKind.i64.wrap (x8 + 1)))], [])))))))
 none))))))))
 (cond (decide (((ba v0 (x3 : Int).toNat).toNat : Int) = 32))
 ((FF n 110 [.one (.str v0), .one (.int .i64 (IntKind.i64.wrap (x3 + 1))), .one (.int .i64 v2)] []).bind fun x5 =>
 (ag x5.1 fun x6 x7 =>
 (aB .i64 x7 fun x8 x9 =>
 (ai x9 (aj x5.2
 (cond (decide (x8 < 0))
 (some ([.agg [.int .i64 0, .int .i64 0, .fr (.ts [])], .one (.int .i64 (-1))], []))
 (cond (decide ((v0.size : Int) ≤ x8))
 (some ([.agg [.int .i64 0, .int .i64 0, .fr (.ts [])], .one (.int .i64 (-1))], []))
 (cond (decide (0 ≤ x8) && decide (x8 < ((v0.size : Nat) : Int)))
 (cond (!decide (((ba v0 (x8 : Int).toNat).toNat : Int) = 41))
 (some ([.agg [.int .i64 0, .int .i64 0, .fr (.ts [])], .one (.int .i64 (-1))], []))
 ((FF n 45 [.one (.int .i64 5), .one (.fr (.ts [(T.mk x1.k x1.n x1.kids), (T.mk x6.k x6.n x6.kids)]))] []).bind fun x10 =>
 (ag x10.1 fun x11 x12 =>
 (ai x12 (aj x10.2
 (some ([.agg [.int .i64 x11.k, .int .i64 x11.n, .fr (.ts x11.kids)], .one (.int .i64 (IntKind.i64.wrap (x8 + 1)))], [])))))))
 none))))))))
 ((FF n 110 [.one (.str v0), .one (.int .i64 (IntKind.i64.wrap (x3 + 1))), .one (.int .i64 v2)] []).bind fun x5 =>
 (ag x5.1 fun x6 x7 =>
 (aB .i64 x7 fun x8 x9 =>
 (ai x9 (aj x5.2
 (some ([.agg [.int .i64 0, .int .i64 0, .fr (.ts [])], .one (.int .i64 (-1))], []))))))))))
 none)))))))) := by kernel_rfl
theorem oH (n : Nat) (v0 : ByteArray) (v1 v2 : Int) : FF (n + 1) 126 [.one (.str v0), .one (.int .i64 v1), .one (.int .i64 v2)] [] =
 (cond (decide (0 ≤ v1) && decide (v1 < ((v0.size : Nat) : Int)))
 (cond (decide (((ba v0 (v1 : Int).toNat).toNat : Int) = 60))
 ((FF n 72 [.one (.int .i64 9)] []).bind fun x0 =>
 (aB .i64 x0.1 fun x1 x2 =>
 (ai x2 (aj x0.2
 ((FF n 141 [.one (.str v0), .one (.int .i64 (IntKind.i64.wrap (v1 + 1))), .one (.int .i64 (IntKind.i64.wrap (v2 - 1))), .one (.int .i64 x1), .one (.int .u8 62)] []).bind fun x3 =>
 (rTs x3.1 fun x4 x5 =>
 (aB .i64 x5 fun x6 x7 =>
 (ai x7 (aj x3.2
 (some ([.agg [.int .i64 9, .int .i64 0, .fr (.ts x4)], .one (.int .i64 x6)], [])))))))))))
 (cond (decide (((ba v0 (v1 : Int).toNat).toNat : Int) = 123))
 ((FF n 72 [.one (.int .i64 10)] []).bind fun x0 =>
 (aB .i64 x0.1 fun x1 x2 =>
 (ai x2 (aj x0.2
 ((FF n 141 [.one (.str v0), .one (.int .i64 (IntKind.i64.wrap (v1 + 1))), .one (.int .i64 (IntKind.i64.wrap (v2 - 1))), .one (.int .i64 x1), .one (.int .u8 125)] []).bind fun x3 =>
 (rTs x3.1 fun x4 x5 =>
 (aB .i64 x5 fun x6 x7 =>
 (ai x7 (aj x3.2
 (some ([.agg [.int .i64 10, .int .i64 0, .fr (.ts x4)], .one (.int .i64 x6)], [])))))))))))
 (cond (decide (((ba v0 (v1 : Int).toNat).toNat : Int) = 124))
 ((FF n 72 [.one (.int .i64 14)] []).bind fun x0 =>
 (aB .i64 x0.1 fun x1 x2 =>
 (ai x2 (aj x0.2
 ((FF n 141 [.one (.str v0), .one (.int .i64 (IntKind.i64.wrap (v1 + 1))), .one (.int .i64 (IntKind.i64.wrap (v2 - 1))), .one (.int .i64 x1), .one (.int .u8 124)] []).bind fun x3 =>
 (rTs x3.1 fun x4 x5 =>
 (aB .i64 x5 fun x6 x7 =>
 (ai x7 (aj x3.2
 (some ([.agg [.int .i64 14, .int .i64 0, .fr (.ts x4)], .one (.int .i64 x6)], [])))))))))))
 (cond (decide (((ba v0 (v1 : Int).toNat).toNat : Int) = 64))
 (cond (decide ((v0.size : Int) < (IntKind.i64.wrap (v1 + 2))))
 (some ([.agg [.int .i64 0, .int .i64 0, .fr (.ts [])], .one (.int .i64 (-1))], []))
 (cond (decide (0 ≤ (IntKind.i64.wrap (v1 + 1))) && decide ((IntKind.i64.wrap (v1 + 1)) < ((v0.size : Nat) : Int)))
 (cond (!decide (((ba v0 ((IntKind.i64.wrap (v1 + 1)) : Int).toNat).toNat : Int) = 60))
 (some ([.agg [.int .i64 0, .int .i64 0, .fr (.ts [])], .one (.int .i64 (-1))], []))
 ((FF n 72 [.one (.int .i64 12)] []).bind fun x0 =>
 (aB .i64 x0.1 fun x1 x2 =>
 (ai x2 (aj x0.2
 ((FF n 141 [.one (.str v0), .one (.int .i64 (IntKind.i64.wrap (v1 + 2))), .one (.int .i64 (IntKind.i64.wrap (v2 - 1))), .one (.int .i64 x1), .one (.int .u8 62)] []).bind fun x3 =>
 (rTs x3.1 fun x4 x5 =>
 (aB .i64 x5 fun x6 x7 =>
 (ai x7 (aj x3.2
 (some ([.agg [.int .i64 12, .int .i64 0, .fr (.ts x4)], .one (.int .i64 x6)], []))))))))))))
 none))
 (some ([.agg [.int .i64 0, .int .i64 0, .fr (.ts [])], .one (.int .i64 (-1))], []))))))
 none) := by kernel_rfl
theorem q7 (n : Nat) (v0 v1 : Int) (v2 : List T) : FF (n + 1) 127 [.agg [.int .i64 v0, .int .i64 v1, .fr (.ts v2)]] [] =
 (cond (decide (v0 = 1))
 ((FF n 142 [.one (.int .i64 v1)] []).bind fun x0 =>
 (kB x0.1 fun x1 x2 =>
 (ai x2 (aj x0.2
 (cond (decide ((bytesOf [35]).size + x1.size ≤ 9223372036854775807))
 (some ([.one (.str ((bytesOf [35]) ++ x1))], []))
 none)))))
 (cond (decide (v0 = 2))
 ((FF n 142 [.one (.int .i64 v1)] []).bind fun x0 =>
 (kB x0.1 fun x1 x2 =>
 (ai x2 (aj x0.2
 (cond (decide ((bytesOf [42]).size + x1.size ≤ 9223372036854775807))
 (some ([.one (.str ((bytesOf [42]) ++ x1))], []))
 none)))))
 (cond (decide (v0 = 6))
 (some ([.one (.str (bytesOf [78]))], []))
 (cond (decide (v0 = 7))
 (some ([.one (.str (bytesOf [48]))], []))
 (cond (decide (v0 = 8))
 (v2[(0 : Int).toNat]?.bind fun x0 =>
 ((FF n 127 [.agg [.int .i64 x0.k, .int .i64 x0.n, .fr (.ts x0.kids)]] []).bind fun x1 =>
 (kB x1.1 fun x2 x3 =>
 (ai x3 (aj x1.2
 (cond (decide ((bytesOf [43]).size + x2.size ≤ 9223372036854775807))
 (some ([.one (.str ((bytesOf [43]) ++ x2))], []))
 none))))))
 (cond (decide (v0 = 11))
 (v2[(0 : Int).toNat]?.bind fun x0 =>
 ((FF n 127 [.agg [.int .i64 x0.k, .int .i64 x0.n, .fr (.ts x0.kids)]] []).bind fun x1 =>
 (kB x1.1 fun x2 x3 =>
 (ai x3 (aj x1.2
 (cond (decide ((bytesOf [33]).size + x2.size ≤ 9223372036854775807))
 (some ([.one (.str ((bytesOf [33]) ++ x2))], []))
 none))))))
 (cond (decide (v0 = 15))
 (v2[(0 : Int).toNat]?.bind fun x0 =>
 ((FF n 127 [.agg [.int .i64 x0.k, .int .i64 x0.n, .fr (.ts x0.kids)]] []).bind fun x1 =>
 (kB x1.1 fun x2 x3 =>
 (ai x3 (aj x1.2
 (cond (decide ((bytesOf [94]).size + x2.size ≤ 9223372036854775807))
 (some ([.one (.str ((bytesOf [94]) ++ x2))], []))
 none))))))
 (cond (decide (v0 = 16))
 (v2[(0 : Int).toNat]?.bind fun x0 =>
 ((FF n 127 [.agg [.int .i64 x0.k, .int .i64 x0.n, .fr (.ts x0.kids)]] []).bind fun x1 =>
 (kB x1.1 fun x2 x3 =>
 (ai x3 (aj x1.2
 (cond (decide ((bytesOf [95]).size + x2.size ≤ 9223372036854775807))
 (some ([.one (.str ((bytesOf [95]) ++ x2))], []))
 none))))))
 (cond (decide (v0 = 3))
 (v2[(0 : Int).toNat]?.bind fun x0 =>
 ((FF n 127 [.agg [.int .i64 x0.k, .int .i64 x0.n, .fr (.ts x0.kids)]] []).bind fun x1 =>
 (kB x1.1 fun x2 x3 =>
 (ai x3 (aj x1.2
 (cond (decide ((bytesOf [40]).size + x2.size ≤ 9223372036854775807))
 (cond (decide (((bytesOf [40]) ++ x2).size + (bytesOf [62]).size ≤ 9223372036854775807))
 (v2[(1 : Int).toNat]?.bind fun x4 =>
 ((FF n 127 [.agg [.int .i64 x4.k, .int .i64 x4.n, .fr (.ts x4.kids)]] []).bind fun x5 =>
 (kB x5.1 fun x6 x7 =>
 (ai x7 (aj x5.2
 (cond (decide ((((bytesOf [40]) ++ x2) ++ (bytesOf [62])).size + x6.size ≤ 9223372036854775807))
 (cond (decide (((((bytesOf [40]) ++ x2) ++ (bytesOf [62])) ++ x6).size + (bytesOf [41]).size ≤ 9223372036854775807))
 (some ([.one (.str (((((bytesOf [40]) ++ x2) ++ (bytesOf [62])) ++ x6) ++ (bytesOf [41])))], []))
 none)
 none))))))
 none)
 none))))))
 (cond (decide (v0 = 13))
 (v2[(0 : Int).toNat]?.bind fun x0 =>
 ((FF n 127 [.agg [.int .i64 x0.k, .int .i64 x0.n, .fr (.ts x0.kids)]] []).bind fun x1 =>
 (kB x1.1 fun x2 x3 =>
 (ai x3 (aj x1.2
 (cond (decide ((bytesOf [40]).size + x2.size ≤ 9223372036854775807))
 (cond (decide (((bytesOf [40]) ++ x2).size + (bytesOf [42]).size ≤ 9223372036854775807))
 (v2[(1 : Int).toNat]?.bind fun x4 =>
 ((FF n 127 [.agg [.int .i64 x4.k, .int .i64 x4.n, .fr (.ts x4.kids)]] []).bind fun x5 =>
 (kB x5.1 fun x6 x7 =>
 (ai x7 (aj x5.2
 (cond (decide ((((bytesOf [40]) ++ x2) ++ (bytesOf [42])).size + x6.size ≤ 9223372036854775807))
 (cond (decide (((((bytesOf [40]) ++ x2) ++ (bytesOf [42])) ++ x6).size + (bytesOf [41]).size ≤ 9223372036854775807))
 (some ([.one (.str (((((bytesOf [40]) ++ x2) ++ (bytesOf [42])) ++ x6) ++ (bytesOf [41])))], []))
 none)
 none))))))
 none)
 none))))))
 (cond (decide (v0 = 5))
 (v2[(0 : Int).toNat]?.bind fun x0 =>
 ((FF n 127 [.agg [.int .i64 x0.k, .int .i64 x0.n, .fr (.ts x0.kids)]] []).bind fun x1 =>
 (kB x1.1 fun x2 x3 =>
 (ai x3 (aj x1.2
 (cond (decide ((bytesOf [40]).size + x2.size ≤ 9223372036854775807))
 (cond (decide (((bytesOf [40]) ++ x2).size + (bytesOf [32]).size ≤ 9223372036854775807))
 (v2[(1 : Int).toNat]?.bind fun x4 =>
 ((FF n 127 [.agg [.int .i64 x4.k, .int .i64 x4.n, .fr (.ts x4.kids)]] []).bind fun x5 =>
 (kB x5.1 fun x6 x7 =>
 (ai x7 (aj x5.2
 (cond (decide ((((bytesOf [40]) ++ x2) ++ (bytesOf [32])).size + x6.size ≤ 9223372036854775807))
 (cond (decide (((((bytesOf [40]) ++ x2) ++ (bytesOf [32])) ++ x6).size + (bytesOf [41]).size ≤ 9223372036854775807))
 (some ([.one (.str (((((bytesOf [40]) ++ x2) ++ (bytesOf [32])) ++ x6) ++ (bytesOf [41])))], []))
 none)
 none))))))
 none)
 none))))))
 (cond (decide (v0 = 4))
 (v2[(0 : Int).toNat]?.bind fun x0 =>
 ((FF n 127 [.agg [.int .i64 x0.k, .int .i64 x0.n, .fr (.ts x0.kids)]] []).bind fun x1 =>
 (kB x1.1 fun x2 x3 =>
 (ai x3 (aj x1.2
 (cond (decide ((bytesOf [91]).size + x2.size ≤ 9223372036854775807))
 (cond (decide (((bytesOf [91]) ++ x2).size + (bytesOf [93]).size ≤ 9223372036854775807))
 (v2[(1 : Int).toNat]?.bind fun x4 =>
 ((FF n 127 [.agg [.int .i64 x4.k, .int .i64 x4.n, .fr (.ts x4.kids)]] []).bind fun x5 =>
 (kB x5.1 fun x6 x7 =>
 (ai x7 (aj x5.2
 (cond (decide ((((bytesOf [91]) ++ x2) ++ (bytesOf [93])).size + x6.size ≤ 9223372036854775807))
 (some ([.one (.str ((((bytesOf [91]) ++ x2) ++ (bytesOf [93])) ++ x6))], []))
 none))))))
 none)
 none))))))
 (cond (decide (v0 = 10))
 ((FF n 143 [.one (.fr (.ts v2))] []).bind fun x0 =>
 (kB x0.1 fun x1 x2 =>
 (ai x2 (aj x0.2
 (cond (decide ((bytesOf [123]).size + x1.size ≤ 9223372036854775807))
 (cond (decide (((bytesOf [123]) ++ x1).size + (bytesOf [125]).size ≤ 9223372036854775807))
 (some ([.one (.str (((bytesOf [123]) ++ x1) ++ (bytesOf [125])))], []))
 none)
 none)))))
 (cond (decide (v0 = 14))
 ((FF n 143 [.one (.fr (.ts v2))] []).bind fun x0 =>
 (kB x0.1 fun x1 x2 =>
 (ai x2 (aj x0.2
 (cond (decide ((bytesOf [124]).size + x1.size ≤ 9223372036854775807))
 (cond (decide (((bytesOf [124]) ++ x1).size + (bytesOf [124]).size ≤ 9223372036854775807))
 (some ([.one (.str (((bytesOf [124]) ++ x1) ++ (bytesOf [124])))], []))
 none)
 none)))))
 (cond (decide (v0 = 12))
 ((FF n 143 [.one (.fr (.ts v2))] []).bind fun x0 =>
 (kB x0.1 fun x1 x2 =>
 (ai x2 (aj x0.2
 (cond (decide ((bytesOf [64, 60]).size + x1.size ≤ 9223372036854775807))
 (cond (decide (((bytesOf [64, 60]) ++ x1).size + (bytesOf [62]).size ≤ 9223372036854775807))
 (some ([.one (.str (((bytesOf [64, 60]) ++ x1) ++ (bytesOf [62])))], []))
 none)
 none)))))
 ((FF n 143 [.one (.fr (.ts v2))] []).bind fun x0 =>
 (kB x0.1 fun x1 x2 =>
 (ai x2 (aj x0.2
 (cond (decide ((bytesOf [60]).size + x1.size ≤ 9223372036854775807))
 (cond (decide (((bytesOf [60]) ++ x1).size + (bytesOf [62]).size ≤ 9223372036854775807))
 (some ([.one (.str (((bytesOf [60]) ++ x1) ++ (bytesOf [62])))], []))
 none)
 none)))))))))))))))))))) := by kernel_rfl
noncomputable def b4 (n c : Nat) (v0 v1 v2 : Int) (v3 : List T) (v4 v5 : Int) (v6 : List T) : OR := aJ Try.prog SS n 128 0 [1, 0] [] c ⟨[aa, .v (.one (.int .i64 v0)), .v (.one (.ptr 0 0)), aa, .v (.one (.ptr 1 0)), aa, aa, aa, aa, aa, aa, aa, aa, aa, aa, aa, aa, aa, aa, aa, aa, aa, aa, aa, aa, aa, aa],
 [.cells [.int .i64 v1, .int .i64 v2, .fr (.ts v3)], .cells [.int .i64 v4, .int .i64 v5, .own 2 0], .arr 29 (.ts v6) 0 false]⟩
theorem iD (n c : Nat) (v0 v1 v2 : Int) (v3 : List T) (v4 v5 : Int) (v6 : List T) : b4 n (c + 1) v0 v1 v2 v3 v4 v5 v6 =
 ((FF n 144 [.agg [.int .i64 v1, .int .i64 v2, .fr (.ts v3)]] []).bind fun x0 =>
 (ag x0.1 fun x1 x2 =>
 (aD x2 fun x3 x4 =>
 (ai x4 (aj x0.2
 (cond (!x3)
 ((FF n 54 [.agg [.int .i64 v1, .int .i64 v2, .fr (.ts v3)]] []).bind fun x5 =>
 (eK 0 x5.1 fun x6 x7 x8 =>
 (bW 29 x5.2 fun x9 x10 =>
 (ai x8 (aj x10
 (some ([.agg [.int .i64 x6, .int .i64 x7, .fr (.ts x9)], .one (.int .i64 0)], [])))))))
 (cond (decide (v0 < 1))
 (some ([.agg [.int .i64 0, .int .i64 0, .fr (.ts [])], .one (.int .i64 1)], []))
 ((FF n 29 [.agg [.int .i64 x1.k, .int .i64 x1.n, .fr (.ts x1.kids)]] []).bind fun x5 =>
 (aD x5.1 fun x6 x7 =>
 (ai x7 (aj x5.2
 (cond (!x6)
 (some ([.agg [.int .i64 0, .int .i64 0, .fr (.ts [])], .one (.int .i64 2)], []))
 (b4 n c (IntKind.i64.wrap (v0 - 1)) (x1.k) (x1.n) (x1.kids) v4 v5 v6))))))))))))) := by kernel_rfl
theorem rB (n : Nat) (v0 v1 : Int) (v2 : List T) (v3 : Int) : FF (n + 1) 128 [.agg [.int .i64 v0, .int .i64 v1, .fr (.ts v2)], .one (.int .i64 v3)] [] =
 b4 n n v3 v0 v1 v2 0 0 ([]) := by kernel_rfl
theorem rl (n : Nat) (v0 : List T) (v1 v2 : Int) (v3 : List T) : FF (n + 1) 129 [.one (.fr (.ts v0)), .agg [.int .i64 v1, .int .i64 v2, .fr (.ts v3)]] [] =
 (cond (b8 ([] ++ v0).length)
 (cond (b8 (([] ++ v0) ++ [(T.mk v1 v2 v3)]).length)
 (some ([.one (.fr (.ts (([] ++ v0) ++ [(T.mk v1 v2 v3)])))], []))
 none)
 none) := by kernel_rfl
theorem nS (n : Nat) (v0 v1 : Int) : FF (n + 1) 130 [.one (.int .i64 v0), .one (.int .i64 v1)] [] =
 (cond (decide (v1 < v0))
 (some ([.one (.int .i64 v0)], []))
 (some ([.one (.int .i64 v1)], []))) := by kernel_rfl
theorem oF (n : Nat) (v0 : List T) (v1 v2 : Int) (v3 : List T) (v4 : Int) : FF (n + 1) 131 [.one (.fr (.ts v0)), .agg [.int .i64 v1, .int .i64 v2, .fr (.ts v3)], .one (.int .i64 v4)] [] =
 ((FF n 66 [.one (.fr (.ts v0)), .agg [.int .i64 v1, .int .i64 v2, .fr (.ts v3)]] []).bind fun x0 =>
 (ag x0.1 fun x1 x2 =>
 (aB .i64 x2 fun x3 x4 =>
 (ai x4 (aj x0.2
 (cond (!decide (x3 = 0))
 (some ([.agg [.int .i64 0, .int .i64 0, .fr (.ts [])], .one (.int .i64 x3)], []))
 ((FF n 112 [.agg [.int .i64 x1.k, .int .i64 x1.n, .fr (.ts x1.kids)]] []).bind fun x5 =>
 (ag x5.1 fun x6 x7 =>
 (aB .i64 x7 fun x8 x9 =>
 (ai x9 (aj x5.2
 (cond (!decide (x8 = 0))
 (some ([.agg [.int .i64 0, .int .i64 0, .fr (.ts [])], .one (.int .i64 x8)], []))
 (cond (!decide (x6.k = v4))
 (some ([.agg [.int .i64 0, .int .i64 0, .fr (.ts [])], .one (.int .i64 1)], []))
 (some ([.agg [.int .i64 x6.k, .int .i64 x6.n, .fr (.ts x6.kids)], .one (.int .i64 0)], []))))))))))))))) := by kernel_rfl
theorem oN (n : Nat) (v0 : List T) (v1 v2 : Int) (v3 : List T) (v4 v5 : Int) (v6 : List T) : FF (n + 1) 132 [.one (.fr (.ts v0)), .agg [.int .i64 v1, .int .i64 v2, .fr (.ts v3)], .agg [.int .i64 v4, .int .i64 v5, .fr (.ts v6)]] [] =
 ((FF n 66 [.one (.fr (.ts v0)), .agg [.int .i64 v1, .int .i64 v2, .fr (.ts v3)]] []).bind fun x0 =>
 (ag x0.1 fun x1 x2 =>
 (aB .i64 x2 fun x3 x4 =>
 (ai x4 (aj x0.2
 (cond (!decide (x3 = 0))
 (some ([.one (.int .i64 x3)], []))
 ((FF n 145 [.agg [.int .i64 x1.k, .int .i64 x1.n, .fr (.ts x1.kids)], .agg [.int .i64 v4, .int .i64 v5, .fr (.ts v6)]] []).bind fun x5 =>
 (aB .i64 x5.1 fun x6 x7 =>
 (ai x7 (aj x5.2
 (some ([.one (.int .i64 x6)], [])))))))))))) := by kernel_rfl
noncomputable def aI (n c : Nat) (v0 v1 v2 v3 v4 : Int) (v5 : List T) (v6 v7 : Int) (v8 : List T) (v9 v10 : Int) (v11 : List T) (v12 v13 : Int) (v14 : List T) : OR := aJ Try.prog SS n 133 0 [1, 1, 1, 1, 0, 1, 0] [] c ⟨[aa, .v (.one (.int .i64 v0)), aa, .v (.one (.int .i64 v1)), .v (.one (.ptr 0 0)), aa, .v (.one (.ptr 1 0)), aa, .v (.one (.ptr 2 0)), .v (.one (.ptr 4 0)), .v (.one (.int .i64 v2)), aa, aa, aa, aa, aa, aa, aa, aa, aa, aa, aa, aa, aa, aa, aa, aa, aa, aa, aa, aa, aa, aa, aa, aa, aa, aa, aa, aa, aa, aa, aa, aa, aa, aa, aa, aa, aa, aa, aa, aa, aa, aa, aa, aa, aa, aa, aa, aa, aa, aa, aa, aa, aa, aa, aa, aa, aa, aa, aa, aa, aa],
 [.cells [.int .i64 v3, .int .i64 v4, .fr (.ts v5)], .cells [.int .i64 v6, .int .i64 v7, .fr (.ts v8)], .cells [.int .i64 v9, .int .i64 v10, .own 3 0], .arr 29 (.ts v11) 0 false, .cells [.int .i64 v12, .int .i64 v13, .own 5 0], .arr 29 (.ts v14) 0 false]⟩
theorem dE (n c : Nat) (v0 v1 v2 v3 v4 : Int) (v5 : List T) (v6 v7 : Int) (v8 : List T) (v9 v10 : Int) (v11 : List T) (v12 v13 : Int) (v14 : List T) : aI n (c + 1) v0 v1 v2 v3 v4 v5 v6 v7 v8 v9 v10 v11 v12 v13 v14 =
 (cond (decide (v2 < (v5.length : Int)))
 ((FF n 69 [.one (.int .i64 v3), .one (.int .i64 v2)] []).bind fun x0 =>
 (aB .i64 x0.1 fun x1 x2 =>
 (ai x2 (aj x0.2
 (cond (decide (0 ≤ v2))
 (v5[(v2 : Int).toNat]?.bind fun x3 =>
 ((FF n 133 [.agg [.int .i64 x3.k, .int .i64 x3.n, .fr (.ts x3.kids)], .one (.int .i64 (IntKind.i64.wrap (v0 + x1))), .agg [.int .i64 v6, .int .i64 v7, .fr (.ts v8)], .one (.int .i64 (IntKind.i64.wrap (v1 + x1)))] []).bind fun x4 =>
 (ag x4.1 fun x5 x6 =>
 (ai x6 (aj x4.2
 (cond (b8 (v14 ++ [(T.mk x5.k x5.n x5.kids)]).length)
 (aI n c v0 v1 (IntKind.i64.wrap (v2 + 1)) v3 v4 v5 v6 v7 v8 v9 v10 v11 v12 v13 (v14 ++ [(T.mk x5.k x5.n x5.kids)]))
 none))))))
 none)))))
 (some ([.agg [.int .i64 v12, .int .i64 v13, .fr (.ts v14)]], []))) := by kernel_rfl
theorem oR (n : Nat) (v0 v1 : Int) (v2 : List T) (v3 v4 v5 : Int) (v6 : List T) (v7 : Int) : FF (n + 1) 133 [.agg [.int .i64 v0, .int .i64 v1, .fr (.ts v2)], .one (.int .i64 v3), .agg [.int .i64 v4, .int .i64 v5, .fr (.ts v6)], .one (.int .i64 v7)] [] =
 (cond (decide (v0 = 1))
 (cond (decide (v1 = v3))
 ((FF n 46 [.agg [.int .i64 v4, .int .i64 v5, .fr (.ts v6)], .one (.int .i64 v7), .one (.int .i64 0)] []).bind fun x0 =>
 (ag x0.1 fun x1 x2 =>
 (ai x2 (aj x0.2
 (some ([.agg [.int .i64 x1.k, .int .i64 x1.n, .fr (.ts x1.kids)]], []))))))
 (cond (decide (v0 = 1))
 (cond (decide (v3 < v1))
 (aI n n v3 v7 0 v0 v1 v2 v4 v5 v6 0 0 ([]) v0 (IntKind.i64.wrap (v1 - 1)) ([]))
 (aI n n v3 v7 0 v0 v1 v2 v4 v5 v6 0 0 ([]) v0 v1 ([])))
 (aI n n v3 v7 0 v0 v1 v2 v4 v5 v6 0 0 ([]) v0 v1 ([]))))
 (cond (decide (v0 = 1))
 (cond (decide (v3 < v1))
 (aI n n v3 v7 0 v0 v1 v2 v4 v5 v6 0 0 ([]) v0 (IntKind.i64.wrap (v1 - 1)) ([]))
 (aI n n v3 v7 0 v0 v1 v2 v4 v5 v6 0 0 ([]) v0 v1 ([])))
 (aI n n v3 v7 0 v0 v1 v2 v4 v5 v6 0 0 ([]) v0 v1 ([])))) := by kernel_rfl
theorem H9 (n : Nat) (v0 : List T) (v1 v2 : Int) (v3 : List T) (v4 v5 : Int) (v6 : List T) : FF (n + 1) 134 [.one (.fr (.ts v0)), .agg [.int .i64 v1, .int .i64 v2, .fr (.ts v3)], .agg [.int .i64 v4, .int .i64 v5, .fr (.ts v6)]] [] =
 ((FF n 131 [.one (.fr (.ts v0)), .agg [.int .i64 v1, .int .i64 v2, .fr (.ts v3)], .one (.int .i64 3)] []).bind fun x0 =>
 (ag x0.1 fun x1 x2 =>
 (aB .i64 x2 fun x3 x4 =>
 (ai x4 (aj x0.2
 (cond (!decide (x3 = 0))
 (some ([.one (.int .i64 x3)], []))
 ((x1.kids)[(0 : Int).toNat]?.bind fun x5 =>
 ((FF n 145 [.agg [.int .i64 x5.k, .int .i64 x5.n, .fr (.ts x5.kids)], .agg [.int .i64 v4, .int .i64 v5, .fr (.ts v6)]] []).bind fun x6 =>
 (aB .i64 x6.1 fun x7 x8 =>
 (ai x8 (aj x6.2
 (cond (!decide (x7 = 0))
 (some ([.one (.int .i64 x7)], []))
 ((x1.kids)[(1 : Int).toNat]?.bind fun x9 =>
 ((FF n 112 [.agg [.int .i64 x9.k, .int .i64 x9.n, .fr (.ts x9.kids)]] []).bind fun x10 =>
 (ag x10.1 fun x11 x12 =>
 (aB .i64 x12 fun x13 x14 =>
 (ai x14 (aj x10.2
 (cond (!decide (x13 = 0))
 (some ([.one (.int .i64 x13)], []))
 (cond (!decide (x11.k = 2))
 (some ([.one (.int .i64 1)], []))
 (some ([.one (.int .i64 0)], [])))))))))))))))))))))) := by kernel_rfl
theorem ll (n : Nat) (v0 v1 : Int) (v2 : List T) : FF (n + 1) 135 [.agg [.int .i64 v0, .int .i64 v1, .fr (.ts v2)]] [] =
 ((FF n 22 [.one (.int .i64 6), .one (.int .i64 0)] []).bind fun x0 =>
 (ag x0.1 fun x1 x2 =>
 (ai x2 (aj x0.2
 ((FF n 46 [.agg [.int .i64 v0, .int .i64 v1, .fr (.ts v2)], .one (.int .i64 1), .one (.int .i64 0)] []).bind fun x3 =>
 (ag x3.1 fun x4 x5 =>
 (ai x5 (aj x3.2
 ((FF n 22 [.one (.int .i64 1), .one (.int .i64 0)] []).bind fun x6 =>
 (ag x6.1 fun x7 x8 =>
 (ai x8 (aj x6.2
 ((FF n 45 [.one (.int .i64 5), .one (.fr (.ts [(T.mk x4.k x4.n x4.kids), (T.mk x7.k x7.n x7.kids)]))] []).bind fun x9 =>
 (ag x9.1 fun x10 x11 =>
 (ai x11 (aj x9.2
 ((FF n 46 [.agg [.int .i64 v0, .int .i64 v1, .fr (.ts v2)], .one (.int .i64 2), .one (.int .i64 0)] []).bind fun x12 =>
 (ag x12.1 fun x13 x14 =>
 (ai x14 (aj x12.2
 ((FF n 22 [.one (.int .i64 1), .one (.int .i64 1)] []).bind fun x15 =>
 (ag x15.1 fun x16 x17 =>
 (ai x17 (aj x15.2
 ((FF n 45 [.one (.int .i64 8), .one (.fr (.ts [(T.mk x16.k x16.n x16.kids)]))] []).bind fun x18 =>
 (ag x18.1 fun x19 x20 =>
 (ai x20 (aj x18.2
 ((FF n 45 [.one (.int .i64 5), .one (.fr (.ts [(T.mk x13.k x13.n x13.kids), (T.mk x19.k x19.n x19.kids)]))] []).bind fun x21 =>
 (ag x21.1 fun x22 x23 =>
 (ai x23 (aj x21.2
 ((FF n 45 [.one (.int .i64 3), .one (.fr (.ts [(T.mk x10.k x10.n x10.kids), (T.mk x22.k x22.n x22.kids)]))] []).bind fun x24 =>
 (ag x24.1 fun x25 x26 =>
 (ai x26 (aj x24.2
 ((FF n 45 [.one (.int .i64 3), .one (.fr (.ts [(T.mk x1.k x1.n x1.kids), (T.mk x25.k x25.n x25.kids)]))] []).bind fun x27 =>
 (ag x27.1 fun x28 x29 =>
 (ai x29 (aj x27.2
 (some ([.agg [.int .i64 x28.k, .int .i64 x28.n, .fr (.ts x28.kids)]], [])))))))))))))))))))))))))))))))))))))))))) := by kernel_rfl
theorem jY (n : Nat) (v0 : List T) (v1 v2 : Int) (v3 : List T) : FF (n + 1) 136 [.one (.fr (.ts v0)), .agg [.int .i64 v1, .int .i64 v2, .fr (.ts v3)]] [] =
 (v3[(0 : Int).toNat]?.bind fun x0 =>
 ((FF n 131 [.one (.fr (.ts v0)), .agg [.int .i64 x0.k, .int .i64 x0.n, .fr (.ts x0.kids)], .one (.int .i64 13)] []).bind fun x1 =>
 (ag x1.1 fun x2 x3 =>
 (aB .i64 x3 fun x4 x5 =>
 (ai x5 (aj x1.2
 (cond (!decide (x4 = 0))
 (some ([.agg [.int .i64 0, .int .i64 0, .fr (.ts [])], .one (.int .i64 x4)], []))
 (cond (decide (v1 = 15))
 ((x2.kids)[(0 : Int).toNat]?.bind fun x6 =>
 some ([.agg [.int .i64 x6.k, .int .i64 x6.n, .fr (.ts x6.kids)], .one (.int .i64 0)], []))
 ((x2.kids)[(1 : Int).toNat]?.bind fun x6 =>
 (v3[(0 : Int).toNat]?.bind fun x7 =>
 ((FF n 45 [.one (.int .i64 15), .one (.fr (.ts [(T.mk x7.k x7.n x7.kids)]))] []).bind fun x8 =>
 (ag x8.1 fun x9 x10 =>
 (ai x10 (aj x8.2
 ((FF n 133 [.agg [.int .i64 x6.k, .int .i64 x6.n, .fr (.ts x6.kids)], .one (.int .i64 0), .agg [.int .i64 x9.k, .int .i64 x9.n, .fr (.ts x9.kids)], .one (.int .i64 0)] []).bind fun x11 =>
 (ag x11.1 fun x12 x13 =>
 (ai x13 (aj x11.2
 (some ([.agg [.int .i64 x12.k, .int .i64 x12.n, .fr (.ts x12.kids)], .one (.int .i64 0)], [])))))))))))))))))))) := by kernel_rfl
theorem uG (n : Nat) (v0 v1 : Int) (v2 : List T) : FF (n + 1) 122 [.agg [.int .i64 v0, .int .i64 v1, .fr (.ts v2)]] [] =
 (cond (decide (v0 = 5))
 (v2[(0 : Int).toNat]?.bind fun x0 =>
 (cond (decide (x0.k = 4))
 (some ([.one (.int .i64 1)], []))
 (some ([.one (.int .i64 0)], []))))
 (cond (decide (v0 = 9))
 (v2[(3 : Int).toNat]?.bind fun x0 =>
 (cond (decide (x0.k = 7))
 (some ([.one (.int .i64 2)], []))
 (cond (decide (x0.k = 8))
 (some ([.one (.int .i64 3)], []))
 (some ([.one (.int .i64 0)], [])))))
 (cond (decide (v0 = 12))
 (v2[(1 : Int).toNat]?.bind fun x0 =>
 (cond (decide (x0.k = 11))
 (some ([.one (.int .i64 4)], []))
 (some ([.one (.int .i64 0)], []))))
 (cond (decide (v0 = 15))
 (v2[(0 : Int).toNat]?.bind fun x0 =>
 (cond (decide (x0.k = 14))
 (some ([.one (.int .i64 (IntKind.i64.wrap ((IntKind.i64.wrap (5 + v0)) - 15)))], []))
 (some ([.one (.int .i64 0)], []))))
 (cond (decide (v0 = 16))
 (v2[(0 : Int).toNat]?.bind fun x0 =>
 (cond (decide (x0.k = 14))
 (some ([.one (.int .i64 (IntKind.i64.wrap ((IntKind.i64.wrap (5 + v0)) - 15)))], []))
 (some ([.one (.int .i64 0)], []))))
 (some ([.one (.int .i64 0)], []))))))) := by kernel_rfl
noncomputable def eE (n c : Nat) (v0 : List Int) (v1 v2 v3 v4 : Int) (v5 : List T) (v6 v7 : Int) (v8 : List T) : OR := aJ Try.prog SS n 138 0 [1, 0, 1, 0] [] c ⟨[aa, aa, .v (.one (.ptr 0 0)), aa, .v (.one (.ptr 1 0)), aa, aa, .v (.one (.fr (.is v0))), .v (.one (.int .i64 v1)), .v (.one (.int .i64 v2)), aa, aa, aa, aa, aa, aa, aa, aa, aa, aa],
 [.cells [.int .i64 v3, .int .i64 v4, .fr (.ts v5)], .cells [.int .i64 v6, .int .i64 v7, .own 2 0], .arr 29 (.ts v8) 0 false]⟩
theorem gg (n c : Nat) (v0 : List Int) (v1 v2 v3 v4 : Int) (v5 : List T) (v6 v7 : Int) (v8 : List T) : eE n (c + 1) v0 v1 v2 v3 v4 v5 v6 v7 v8 =
 (cond (decide (v2 < v1))
 (cond (decide (0 ≤ v2))
 (v0[(v2 : Int).toNat]?.bind fun x0 =>
 (cond (decide (0 ≤ x0))
 (v5[(x0 : Int).toNat]?.bind fun x1 =>
 eE n c v0 v1 (IntKind.i64.wrap (v2 + 1)) (x1.k) (x1.n) (x1.kids) v6 v7 v8)
 none))
 none)
 (some ([.agg [.int .i64 v3, .int .i64 v4, .fr (.ts v5)]], []))) := by kernel_rfl
theorem z6 (n : Nat) (v0 v1 : Int) (v2 : List T) (v3 : List Int) : FF (n + 1) 138 [.agg [.int .i64 v0, .int .i64 v1, .fr (.ts v2)], .one (.fr (.is v3))] [] =
 eE n n v3 ((v3.length : Int) : Int) 0 v0 v1 v2 0 0 ([]) := by kernel_rfl
theorem oh (n : Nat) (v0 v1 : Int) (v2 : List T) : FF (n + 1) 137 [.agg [.int .i64 v0, .int .i64 v1, .fr (.ts v2)]] [] =
 ((FF n 122 [.agg [.int .i64 v0, .int .i64 v1, .fr (.ts v2)]] []).bind fun x0 =>
 (aB .i64 x0.1 fun x1 x2 =>
 (ai x2 (aj x0.2
 (cond (decide (x1 = 1))
 (v2[(0 : Int).toNat]?.bind fun x3 =>
 ((x3.kids)[(1 : Int).toNat]?.bind fun x4 =>
 (v2[(1 : Int).toNat]?.bind fun x5 =>
 ((FF n 88 [.agg [.int .i64 x4.k, .int .i64 x4.n, .fr (.ts x4.kids)], .one (.int .i64 0), .agg [.int .i64 x5.k, .int .i64 x5.n, .fr (.ts x5.kids)]] []).bind fun x6 =>
 (ag x6.1 fun x7 x8 =>
 (aD x8 fun x9 x10 =>
 (ai x10 (aj x6.2
 (some ([.agg [.int .i64 x7.k, .int .i64 x7.n, .fr (.ts x7.kids)], .one (.bool x9)], []))))))))))
 (cond (decide (x1 = 2))
 (v2[(1 : Int).toNat]?.bind fun x3 =>
 ((FF n 34 [.agg [.int .i64 x3.k, .int .i64 x3.n, .fr (.ts x3.kids)]] []).bind fun x4 =>
 (ag x4.1 fun x5 x6 =>
 (ai x6 (aj x4.2
 ((FF n 51 [.agg [.int .i64 x5.k, .int .i64 x5.n, .fr (.ts x5.kids)]] []).bind fun x7 =>
 (ag x7.1 fun x8 x9 =>
 (aD x9 fun x10 x11 =>
 (ai x11 (aj x7.2
 (some ([.agg [.int .i64 x8.k, .int .i64 x8.n, .fr (.ts x8.kids)], .one (.bool x10)], []))))))))))))
 (cond (decide (x1 = 3))
 (v2[(0 : Int).toNat]?.bind fun x3 =>
 (v2[(1 : Int).toNat]?.bind fun x4 =>
 (v2[(2 : Int).toNat]?.bind fun x5 =>
 (v2[(3 : Int).toNat]?.bind fun x6 =>
 ((x6.kids)[(0 : Int).toNat]?.bind fun x7 =>
 ((FF n 50 [.one (.int .i64 5), .one (.fr (.ts [(T.mk x5.k x5.n x5.kids), (T.mk x7.k x7.n x7.kids)]))] []).bind fun x8 =>
 (ag x8.1 fun x9 x10 =>
 (ai x10 (aj x8.2
 ((FF n 50 [.one (.int .i64 9), .one (.fr (.ts [(T.mk x3.k x3.n x3.kids), (T.mk x4.k x4.n x4.kids), (T.mk x5.k x5.n x5.kids), (T.mk x7.k x7.n x7.kids)]))] []).bind fun x11 =>
 (ag x11.1 fun x12 x13 =>
 (ai x13 (aj x11.2
 ((FF n 50 [.one (.int .i64 5), .one (.fr (.ts [(T.mk x9.k x9.n x9.kids), (T.mk x12.k x12.n x12.kids)]))] []).bind fun x14 =>
 (ag x14.1 fun x15 x16 =>
 (ai x16 (aj x14.2
 ((FF n 34 [.agg [.int .i64 x15.k, .int .i64 x15.n, .fr (.ts x15.kids)]] []).bind fun x17 =>
 (ag x17.1 fun x18 x19 =>
 (ai x19 (aj x17.2
 ((FF n 51 [.agg [.int .i64 x18.k, .int .i64 x18.n, .fr (.ts x18.kids)]] []).bind fun x20 =>
 (ag x20.1 fun x21 x22 =>
 (aD x22 fun x23 x24 =>
 (ai x24 (aj x20.2
 (some ([.agg [.int .i64 x21.k, .int .i64 x21.n, .fr (.ts x21.kids)], .one (.bool x23)], []))))))))))))))))))))))))))))
 (cond (decide (x1 = 4))
 (v2[(2 : Int).toNat]?.bind fun x3 =>
 ((FF n 34 [.agg [.int .i64 x3.k, .int .i64 x3.n, .fr (.ts x3.kids)]] []).bind fun x4 =>
 (ag x4.1 fun x5 x6 =>
 (ai x6 (aj x4.2
 ((FF n 51 [.agg [.int .i64 x5.k, .int .i64 x5.n, .fr (.ts x5.kids)]] []).bind fun x7 =>
 (ag x7.1 fun x8 x9 =>
 (aD x9 fun x10 x11 =>
 (ai x11 (aj x7.2
 (some ([.agg [.int .i64 x8.k, .int .i64 x8.n, .fr (.ts x8.kids)], .one (.bool x10)], []))))))))))))
 (cond (decide (x1 = 5))
 (v2[(0 : Int).toNat]?.bind fun x3 =>
 ((x3.kids)[(1 : Int).toNat]?.bind fun x4 =>
 ((FF n 34 [.agg [.int .i64 x4.k, .int .i64 x4.n, .fr (.ts x4.kids)]] []).bind fun x5 =>
 (ag x5.1 fun x6 x7 =>
 (ai x7 (aj x5.2
 ((FF n 51 [.agg [.int .i64 x6.k, .int .i64 x6.n, .fr (.ts x6.kids)]] []).bind fun x8 =>
 (ag x8.1 fun x9 x10 =>
 (aD x10 fun x11 x12 =>
 (ai x12 (aj x8.2
 (some ([.agg [.int .i64 x9.k, .int .i64 x9.n, .fr (.ts x9.kids)], .one (.bool x11)], [])))))))))))))
 (cond (decide (x1 = 6))
 (v2[(0 : Int).toNat]?.bind fun x3 =>
 ((x3.kids)[(2 : Int).toNat]?.bind fun x4 =>
 ((FF n 34 [.agg [.int .i64 x4.k, .int .i64 x4.n, .fr (.ts x4.kids)]] []).bind fun x5 =>
 (ag x5.1 fun x6 x7 =>
 (ai x7 (aj x5.2
 ((FF n 51 [.agg [.int .i64 x6.k, .int .i64 x6.n, .fr (.ts x6.kids)]] []).bind fun x8 =>
 (ag x8.1 fun x9 x10 =>
 (aD x10 fun x11 x12 =>
 (ai x12 (aj x8.2
 (some ([.agg [.int .i64 x9.k, .int .i64 x9.n, .fr (.ts x9.kids)], .one (.bool x11)], [])))))))))))))
 (some ([.agg [.int .i64 0, .int .i64 0, .fr (.ts [])], .one (.bool false)], [])))))))))))) := by kernel_rfl
theorem ph (n : Nat) (v0 v1 : Int) (v2 : List T) (v3 : List Int) (v4 v5 : Int) (v6 : List T) : FF (n + 1) 139 [.agg [.int .i64 v0, .int .i64 v1, .fr (.ts v2)], .one (.fr (.is v3)), .agg [.int .i64 v4, .int .i64 v5, .fr (.ts v6)]] [] =
 (cond (decide ((v3.length : Int) = 0))
 (some ([.agg [.int .i64 v4, .int .i64 v5, .fr (.ts v6)]], []))
 ((FF n 102 [.one (.fr (.ts v2))] []).bind fun x0 =>
 (D6 0 x0.1 fun x1 =>
 (bW 29 x0.2 fun x2 x3 =>
 (ai x1 (aj x3
 (v3[(0 : Int).toNat]?.bind fun x4 =>
 (v3[(0 : Int).toNat]?.bind fun x5 =>
 (cond (decide (0 ≤ x5))
 (v2[(x5 : Int).toNat]?.bind fun x6 =>
 (cond (Go.Ab.inB 1 v3.length v3.length)
 ((FF n 139 [.agg [.int .i64 x6.k, .int .i64 x6.n, .fr (.ts x6.kids)], .one (.fr (.is ((v3.take (v3.length : Int).toNat).drop (1 : Int).toNat))), .agg [.int .i64 v4, .int .i64 v5, .fr (.ts v6)]] []).bind fun x7 =>
 (ag x7.1 fun x8 x9 =>
 (ai x9 (aj x7.2
 (cond (decide (0 ≤ x4))
 (cond (decide (x4 < (x2.length : Int)))
 (some ([.agg [.int .i64 v0, .int .i64 v1, .fr (.ts (x2.set (x4 : Int).toNat (T.mk x8.k x8.n x8.kids)))]], []))
 none)
 none)))))
 none))
 none))))))))) := by kernel_rfl
theorem nd (n : Nat) (v0 : Int) : FF (n + 1) 101 [.one (.int .i64 v0)] [] =
 (cond (decide (v0 = 3))
 (some ([.one (.bool true)], []))
 (cond (decide (v0 = 4))
 (some ([.one (.bool true)], []))
 (some ([.one (.bool (decide (v0 = 13)))], [])))) := by kernel_rfl
theorem o5 (n : Nat) (v0 : List T) : FF (n + 1) 102 [.one (.fr (.ts v0))] [] =
 (cond (Nat.beq v0.length 0)
 (same (some ([.one (.own 0 0)], [.arr 29 (.ts []) 0 false]))
 (cond (b8 ([] ++ v0).length)
 (some ([.one (.own 0 0)], [.arr 29 (.ts ([] ++ v0)) 0 false]))
 none))
 (cond (b8 ([] ++ v0).length)
 (some ([.one (.own 0 0)], [.arr 29 (.ts ([] ++ v0)) 0 false]))
 none)) := by kernel_rfl
noncomputable def bf (n c : Nat) (v0 : ByteArray) (v1 : Bool) (v2 v3 : Int) : OR := aJ Try.prog SS n 140 0 [1, 1, 1, 1, 1, 0, 1, 0] [] c ⟨[.v (.one (.str v0)), aa, aa, aa, .v (.one (.bool v1)), .v (.one (.int .i64 v2)), .v (.one (.int .i64 v3)), aa, aa, aa, aa, aa, aa, aa, aa, aa, aa, aa, aa, aa, aa, aa, aa, aa, aa, aa, aa, aa, aa, aa, aa, aa, aa, aa, aa, aa, aa, aa, aa, aa, aa, aa, aa, aa, aa, aa, aa, aa, aa, aa, aa, aa, aa, aa, aa, aa, aa, aa, aa, aa, aa, aa, aa, aa, aa, aa, aa],
 []⟩
theorem fQ (n c : Nat) (v0 : ByteArray) (v1 : Bool) (v2 v3 : Int) : bf n (c + 1) v0 v1 v2 v3 =
 (cond (decide (v3 < (v0.size : Int)))
 (cond (decide (0 ≤ v3) && decide (v3 < ((v0.size : Nat) : Int)))
 (cond (decide (((ba v0 (v3 : Int).toNat).toNat : Int) < 48))
 (some ([.one (.int .i64 0), .one (.bool false)], []))
 (cond (decide (0 ≤ v3) && decide (v3 < ((v0.size : Nat) : Int)))
 (cond (decide (57 < ((ba v0 (v3 : Int).toNat).toNat : Int)))
 (some ([.one (.int .i64 0), .one (.bool false)], []))
 (cond (decide (0 ≤ v3) && decide (v3 < ((v0.size : Nat) : Int)))
 (bf n c v0 v1 (IntKind.i64.wrap ((IntKind.i64.wrap (v2 * 10)) + (IntKind.i64.wrap (IntKind.u8.wrap (((ba v0 (v3 : Int).toNat).toNat : Int) - 48))))) (IntKind.i64.wrap (v3 + 1)))
 none))
 none))
 none)
 (cond v1
 (some ([.one (.int .i64 (IntKind.i64.wrap (0 - v2))), .one (.bool true)], []))
 (some ([.one (.int .i64 v2), .one (.bool true)], [])))) := by kernel_rfl
theorem rF (n : Nat) (v0 : ByteArray) : FF (n + 1) 140 [.one (.str v0)] [] =
 (cond (decide (0 < (v0.size : Int)))
 (cond (decide (0 ≤ 0) && decide (0 < ((v0.size : Nat) : Int)))
 (cond (decide (((ba v0 (0 : Int).toNat).toNat : Int) = 45))
 (cond (Go.Ab.inB 1 v0.size v0.size)
 (cond (decide (((v0.extract (1 : Int).toNat (v0.size : Int).toNat).size : Int) = 0))
 (some ([.one (.int .i64 0), .one (.bool false)], []))
 (cond (decide (17 < ((v0.extract (1 : Int).toNat (v0.size : Int).toNat).size : Int)))
 (some ([.one (.int .i64 0), .one (.bool false)], []))
 (cond (decide (0 ≤ 0) && decide (0 < (((v0.extract (1 : Int).toNat (v0.size : Int).toNat).size : Nat) : Int)))
 (cond (decide (((ba (v0.extract (1 : Int).toNat (v0.size : Int).toNat) (0 : Int).toNat).toNat : Int) = 48))
 (cond (decide (1 < ((v0.extract (1 : Int).toNat (v0.size : Int).toNat).size : Int)))
 (some ([.one (.int .i64 0), .one (.bool false)], []))
 (cond (decide (((ba v0 (0 : Int).toNat).toNat : Int) = 45))
 (some ([.one (.int .i64 0), .one (.bool false)], []))
 (bf n n ((v0.extract (1 : Int).toNat (v0.size : Int).toNat) : ByteArray) ((decide (((ba v0 (0 : Int).toNat).toNat : Int) = 45)) : Bool) 0 0)))
 (bf n n ((v0.extract (1 : Int).toNat (v0.size : Int).toNat) : ByteArray) ((decide (((ba v0 (0 : Int).toNat).toNat : Int) = 45)) : Bool) 0 0))
 none)))
 none)
 (cond (decide ((v0.size : Int) = 0))
 (some ([.one (.int .i64 0), .one (.bool false)], []))
 (cond (decide (17 < (v0.size : Int)))
 (some ([.one (.int .i64 0), .one (.bool false)], []))
 (cond (decide (0 ≤ 0) && decide (0 < ((v0.size : Nat) : Int)))
 (cond (decide (((ba v0 (0 : Int).toNat).toNat : Int) = 48))
 (cond (decide (1 < (v0.size : Int)))
 (some ([.one (.int .i64 0), .one (.bool false)], []))
 (cond (decide (((ba v0 (0 : Int).toNat).toNat : Int) = 45))
 (some ([.one (.int .i64 0), .one (.bool false)], []))
 (bf n n v0 ((decide (((ba v0 (0 : Int).toNat).toNat : Int) = 45)) : Bool) 0 0)))
 (bf n n v0 ((decide (((ba v0 (0 : Int).toNat).toNat : Int) = 45)) : Bool) 0 0))
 none))))
 none)
 (cond (decide ((v0.size : Int) = 0))
 (some ([.one (.int .i64 0), .one (.bool false)], []))
 (cond (decide (17 < (v0.size : Int)))
 (some ([.one (.int .i64 0), .one (.bool false)], []))
 (cond (decide (0 ≤ 0) && decide (0 < ((v0.size : Nat) : Int)))
 (cond (decide (((ba v0 (0 : Int).toNat).toNat : Int) = 48))
 (cond (decide (1 < (v0.size : Int)))
 (some ([.one (.int .i64 0), .one (.bool false)], []))
 (bf n n v0 (false) 0 0))
 (bf n n v0 (false) 0 0))
 none)))) := by kernel_rfl
noncomputable def bx (n c : Nat) (v0 : ByteArray) (v1 v2 v3 v4 v5 : Int) (v6 : List T) : OR := aJ Try.prog SS n 141 0 [1, 1, 0, 1, 0] [] c ⟨[.v (.one (.str v0)), .v (.one (.int .i64 v1)), .v (.one (.int .i64 v2)), .v (.one (.int .i64 v3)), .v (.one (.int .u8 v4)), aa, aa, aa, aa, aa, aa, aa, .v (.one (.own 0 0)), .v (.one (.int .i64 v5)), aa, aa, aa, aa, aa, aa, aa, aa, aa, aa, aa, aa, aa, aa, aa, aa, aa, aa, aa, aa, aa, aa, aa, aa, aa, aa, aa, aa, aa, aa, aa, aa, aa, aa, aa, aa, aa, aa, aa, aa, aa, aa, aa, aa, aa, aa, aa, aa, aa, aa, aa, aa, aa, aa, aa, aa],
 [.arr 29 (.ts v6) 0 false]⟩
theorem ff (n c : Nat) (v0 : ByteArray) (v1 v2 v3 v4 v5 : Int) (v6 : List T) : bx n (c + 1) v0 v1 v2 v3 v4 v5 v6 =
 (cond (decide (v5 < v3))
 ((FF n 110 [.one (.str v0), .one (.int .i64 v1), .one (.int .i64 v2)] []).bind fun x0 =>
 (ag x0.1 fun x1 x2 =>
 (aB .i64 x2 fun x3 x4 =>
 (ai x4 (aj x0.2
 (cond (decide (x3 < 0))
 (some ([.one (.fr (.ts [])), .one (.int .i64 (-1))], []))
 (cond (decide ((v0.size : Int) ≤ x3))
 (some ([.one (.fr (.ts [])), .one (.int .i64 (-1))], []))
 (cond (decide ((IntKind.i64.wrap (v5 + 1)) < v3))
 (cond (decide (0 ≤ x3) && decide (x3 < ((v0.size : Nat) : Int)))
 (cond (!decide (((ba v0 (x3 : Int).toNat).toNat : Int) = 44))
 (some ([.one (.fr (.ts [])), .one (.int .i64 (-1))], []))
 (cond (decide ((IntKind.i64.wrap (v5 + 1)) = v3))
 (cond (decide (0 ≤ x3) && decide (x3 < ((v0.size : Nat) : Int)))
 (cond (!decide (((ba v0 (x3 : Int).toNat).toNat : Int) = v4))
 (some ([.one (.fr (.ts [])), .one (.int .i64 (-1))], []))
 (cond (b8 (v6 ++ [(T.mk x1.k x1.n x1.kids)]).length)
 (bx n c v0 (IntKind.i64.wrap (x3 + 1)) v2 v3 v4 (IntKind.i64.wrap (v5 + 1)) (v6 ++ [(T.mk x1.k x1.n x1.kids)]))
 none))
 none)
 (cond (b8 (v6 ++ [(T.mk x1.k x1.n x1.kids)]).length)
 (bx n c v0 (IntKind.i64.wrap (x3 + 1)) v2 v3 v4 (IntKind.i64.wrap (v5 + 1)) (v6 ++ [(T.mk x1.k x1.n x1.kids)]))
 none)))
 none)
 (cond (decide ((IntKind.i64.wrap (v5 + 1)) = v3))
 (cond (decide (0 ≤ x3) && decide (x3 < ((v0.size : Nat) : Int)))
 (cond (!decide (((ba v0 (x3 : Int).toNat).toNat : Int) = v4))
 (some ([.one (.fr (.ts [])), .one (.int .i64 (-1))], []))
 (cond (b8 (v6 ++ [(T.mk x1.k x1.n x1.kids)]).length)
 (bx n c v0 (IntKind.i64.wrap (x3 + 1)) v2 v3 v4 (IntKind.i64.wrap (v5 + 1)) (v6 ++ [(T.mk x1.k x1.n x1.kids)]))
 none))
 none)
 (cond (b8 (v6 ++ [(T.mk x1.k x1.n x1.kids)]).length)
 (bx n c v0 (IntKind.i64.wrap (x3 + 1)) v2 v3 v4 (IntKind.i64.wrap (v5 + 1)) (v6 ++ [(T.mk x1.k x1.n x1.kids)]))
 none))))))))))
 (some ([.one (.fr (.ts v6)), .one (.int .i64 v1)], []))) := by kernel_rfl
theorem m5 (n : Nat) (v0 : ByteArray) (v1 v2 v3 v4 : Int) : FF (n + 1) 141 [.one (.str v0), .one (.int .i64 v1), .one (.int .i64 v2), .one (.int .i64 v3), .one (.int .u8 v4)] [] =
 bx n n v0 v1 v2 v3 v4 0 ([]) := by kernel_rfl
noncomputable def dS (n c : Nat) (v0 : Int) (v1 : ByteArray) : OR := aJ Try.prog SS n 142 0 [1, 1, 1, 1, 0, 0] [] c ⟨[.v (.one (.int .i64 v0)), aa, aa, .v (.one (.str v1)), aa, aa, aa, aa, aa, aa, aa, aa, aa, aa, aa, aa, aa, aa, aa, aa, aa, aa, aa, aa, aa, aa, aa, aa, aa, aa, aa],
 []⟩
theorem fW (n c : Nat) (v0 : Int) (v1 : ByteArray) : dS n (c + 1) v0 v1 =
 (cond (decide (9 < v0))
 (cond (decide (0 ≤ (IntKind.u8.wrap (IntKind.i64.wrap (48 + (Int.tmod v0 10))))) && decide ((IntKind.u8.wrap (IntKind.i64.wrap (48 + (Int.tmod v0 10)))) ≤ 255))
 (cond (decide ((ByteArray.mk ([(UInt8.ofNat (IntKind.u8.wrap (IntKind.i64.wrap (48 + (Int.tmod v0 10)))).toNat)]).toArray).size + v1.size ≤ 9223372036854775807))
 (dS n c (IntKind.i64.wrap (Int.tdiv v0 10)) (((ByteArray.mk ([(UInt8.ofNat (IntKind.u8.wrap (IntKind.i64.wrap (48 + (Int.tmod v0 10)))).toNat)]).toArray) ++ v1) : ByteArray))
 none)
 none)
 (cond (decide (0 ≤ (IntKind.u8.wrap (IntKind.i64.wrap (48 + v0)))) && decide ((IntKind.u8.wrap (IntKind.i64.wrap (48 + v0))) ≤ 255))
 (cond (decide ((ByteArray.mk ([(UInt8.ofNat (IntKind.u8.wrap (IntKind.i64.wrap (48 + v0))).toNat)]).toArray).size + v1.size ≤ 9223372036854775807))
 (some ([.one (.str ((ByteArray.mk ([(UInt8.ofNat (IntKind.u8.wrap (IntKind.i64.wrap (48 + v0))).toNat)]).toArray) ++ v1))], []))
 none)
 none)) := by kernel_rfl
theorem qB (n : Nat) (v0 : Int) : FF (n + 1) 142 [.one (.int .i64 v0)] [] =
 (cond (decide (v0 < (-9223372036854775807)))
 (some ([.one (.str (bytesOf [45, 57, 50, 50, 51, 51, 55, 50, 48, 51, 54, 56, 53, 52, 55, 55, 53, 56, 48, 56]))], []))
 (cond (decide (v0 < 0))
 ((FF n 142 [.one (.int .i64 (IntKind.i64.wrap (0 - v0)))] []).bind fun x0 =>
 (kB x0.1 fun x1 x2 =>
 (ai x2 (aj x0.2
 (cond (decide ((bytesOf [45]).size + x1.size ≤ 9223372036854775807))
 (some ([.one (.str ((bytesOf [45]) ++ x1))], []))
 none)))))
 (dS n n v0 (bytesOf [])))) := by kernel_rfl
noncomputable def cj (n c : Nat) (v0 : List T) (v1 : ByteArray) (v2 : Int) : OR := aJ Try.prog SS n 143 0 [1, 1, 0, 1, 0] [] c ⟨[.v (.one (.fr (.ts v0))), aa, aa, .v (.one (.str v1)), .v (.one (.int .i64 v2)), aa, aa, aa, aa, aa, aa, aa, aa, aa, aa, aa, aa, aa, aa, aa, aa, aa, aa],
 []⟩
theorem fU (n c : Nat) (v0 : List T) (v1 : ByteArray) (v2 : Int) : cj n (c + 1) v0 v1 v2 =
 (cond (decide (v2 < (v0.length : Int)))
 (cond (decide (0 < v2))
 (cond (decide (v1.size + (bytesOf [44]).size ≤ 9223372036854775807))
 (cond (decide (0 ≤ v2))
 (v0[(v2 : Int).toNat]?.bind fun x0 =>
 ((FF n 127 [.agg [.int .i64 x0.k, .int .i64 x0.n, .fr (.ts x0.kids)]] []).bind fun x1 =>
 (kB x1.1 fun x2 x3 =>
 (ai x3 (aj x1.2
 (cond (decide ((v1 ++ (bytesOf [44])).size + x2.size ≤ 9223372036854775807))
 (cj n c v0 ((v1 ++ (bytesOf [44])) ++ x2) (IntKind.i64.wrap (v2 + 1)))
 none))))))
 none)
 none)
 (cond (decide (0 ≤ v2))
 (v0[(v2 : Int).toNat]?.bind fun x0 =>
 ((FF n 127 [.agg [.int .i64 x0.k, .int .i64 x0.n, .fr (.ts x0.kids)]] []).bind fun x1 =>
 (kB x1.1 fun x2 x3 =>
 (ai x3 (aj x1.2
 (cond (decide (v1.size + x2.size ≤ 9223372036854775807))
 (cj n c v0 (v1 ++ x2) (IntKind.i64.wrap (v2 + 1)))
 none))))))
 none))
 (some ([.one (.str v1)], []))) := by kernel_rfl
theorem qn (n : Nat) (v0 : List T) : FF (n + 1) 143 [.one (.fr (.ts v0))] [] =
 cj n n v0 (bytesOf []) 0 := by kernel_rfl
end Go.Proofs.Ytajlknlnmmbfcaa
end
section
namespace Go.Proofs.Ytajlknlnmmbfcaa
open Go Go.Ab Go.Dk
theorem kY (n : Nat) (v0 v1 : Int) (v2 : List T) : FF (n + 1) 144 [.agg [.int .i64 v0, .int .i64 v1, .fr (.ts v2)]] [] =
 ((FF n 146 [.agg [.int .i64 v0, .int .i64 v1, .fr (.ts v2)]] []).bind fun x0 =>
 (aB .i64 x0.1 fun x1 x2 =>
 (ai x2 (aj x0.2
 (cond (!decide (x1 = 0))
 ((FF n 147 [.agg [.int .i64 v0, .int .i64 v1, .fr (.ts v2)]] []).bind fun x3 =>
 (ag x3.1 fun x4 x5 =>
 (ai x5 (aj x3.2
 (some ([.agg [.int .i64 x4.k, .int .i64 x4.n, .fr (.ts x4.kids)], .one (.bool true)], []))))))
 ((FF n 148 [.one (.int .i64 v0)] []).bind fun x3 =>
 (aB .i64 x3.1 fun x4 x5 =>
 (ai x5 (aj x3.2
 (cond (decide (x4 < 0))
 (some ([.agg [.int .i64 v0, .int .i64 v1, .fr (.ts v2)], .one (.bool false)], []))
 (cond (decide (0 ≤ x4))
 (v2[(x4 : Int).toNat]?.bind fun x6 =>
 ((FF n 144 [.agg [.int .i64 x6.k, .int .i64 x6.n, .fr (.ts x6.kids)]] []).bind fun x7 =>
 (ag x7.1 fun x8 x9 =>
 (aD x9 fun x10 x11 =>
 (ai x11 (aj x7.2
 (cond (!x10)
 (some ([.agg [.int .i64 v0, .int .i64 v1, .fr (.ts v2)], .one (.bool false)], []))
 ((FF n 70 [.agg [.int .i64 v0, .int .i64 v1, .fr (.ts v2)], .one (.int .i64 x4), .agg [.int .i64 x8.k, .int .i64 x8.n, .fr (.ts x8.kids)]] []).bind fun x12 =>
 (ag x12.1 fun x13 x14 =>
 (ai x14 (aj x12.2
 (some ([.agg [.int .i64 x13.k, .int .i64 x13.n, .fr (.ts x13.kids)], .one (.bool true)], [])))))))))))))
 none))))))))))) := by kernel_rfl
theorem qm (n : Nat) (v0 v1 : Int) (v2 : List T) (v3 v4 : Int) (v5 : List T) : FF (n + 1) 145 [.agg [.int .i64 v0, .int .i64 v1, .fr (.ts v2)], .agg [.int .i64 v3, .int .i64 v4, .fr (.ts v5)]] [] =
 ((FF n 29 [.agg [.int .i64 v0, .int .i64 v1, .fr (.ts v2)]] []).bind fun x0 =>
 (aD x0.1 fun x1 x2 =>
 (ai x2 (aj x0.2
 (cond (!x1)
 (some ([.one (.int .i64 2)], []))
 ((FF n 29 [.agg [.int .i64 v3, .int .i64 v4, .fr (.ts v5)]] []).bind fun x3 =>
 (aD x3.1 fun x4 x5 =>
 (ai x5 (aj x3.2
 (cond (!x4)
 (some ([.one (.int .i64 2)], []))
 ((FF n 149 [.agg [.int .i64 v0, .int .i64 v1, .fr (.ts v2)], .agg [.int .i64 v3, .int .i64 v4, .fr (.ts v5)], .one (.int .i64 200)] []).bind fun x6 =>
 (aB .i64 x6.1 fun x7 x8 =>
 (ai x8 (aj x6.2
 (cond (decide (x7 = 1))
 (some ([.one (.int .i64 0)], []))
 (cond (decide (x7 = 2))
 (some ([.one (.int .i64 1)], []))
 (some ([.one (.int .i64 2)], [])))))))))))))))))) := by kernel_rfl
theorem o9 (n : Nat) (v0 v1 : Int) (v2 : List T) : FF (n + 1) 146 [.agg [.int .i64 v0, .int .i64 v1, .fr (.ts v2)]] [] =
 (cond (decide (v0 = 5))
 (v2[(0 : Int).toNat]?.bind fun x0 =>
 (cond (decide (x0.k = 4))
 (some ([.one (.int .i64 1)], []))
 (some ([.one (.int .i64 0)], []))))
 (cond (decide (v0 = 9))
 (v2[(3 : Int).toNat]?.bind fun x0 =>
 (cond (decide (x0.k = 7))
 (some ([.one (.int .i64 2)], []))
 (v2[(3 : Int).toNat]?.bind fun x1 =>
 (cond (decide (x1.k = 8))
 (some ([.one (.int .i64 3)], []))
 (some ([.one (.int .i64 0)], []))))))
 (cond (decide (v0 = 12))
 (v2[(1 : Int).toNat]?.bind fun x0 =>
 (cond (decide (x0.k = 11))
 (some ([.one (.int .i64 4)], []))
 (some ([.one (.int .i64 0)], []))))
 (cond (decide (v0 = 15))
 (v2[(0 : Int).toNat]?.bind fun x0 =>
 (cond (decide (x0.k = 14))
 (some ([.one (.int .i64 5)], []))
 (some ([.one (.int .i64 0)], []))))
 (cond (decide (v0 = 16))
 (v2[(0 : Int).toNat]?.bind fun x0 =>
 (cond (decide (x0.k = 14))
 (some ([.one (.int .i64 6)], []))
 (some ([.one (.int .i64 0)], []))))
 (some ([.one (.int .i64 0)], []))))))) := by kernel_rfl
theorem kT (n : Nat) (v0 v1 : Int) (v2 : List T) : FF (n + 1) 147 [.agg [.int .i64 v0, .int .i64 v1, .fr (.ts v2)]] [] =
 ((FF n 146 [.agg [.int .i64 v0, .int .i64 v1, .fr (.ts v2)]] []).bind fun x0 =>
 (aB .i64 x0.1 fun x1 x2 =>
 (ai x2 (aj x0.2
 (cond (decide (x1 = 1))
 (v2[(0 : Int).toNat]?.bind fun x3 =>
 ((x3.kids)[(1 : Int).toNat]?.bind fun x4 =>
 (v2[(1 : Int).toNat]?.bind fun x5 =>
 ((FF n 133 [.agg [.int .i64 x4.k, .int .i64 x4.n, .fr (.ts x4.kids)], .one (.int .i64 0), .agg [.int .i64 x5.k, .int .i64 x5.n, .fr (.ts x5.kids)], .one (.int .i64 0)] []).bind fun x6 =>
 (ag x6.1 fun x7 x8 =>
 (ai x8 (aj x6.2
 (some ([.agg [.int .i64 x7.k, .int .i64 x7.n, .fr (.ts x7.kids)]], [])))))))))
 (cond (decide (x1 = 2))
 (v2[(1 : Int).toNat]?.bind fun x3 =>
 ((FF n 54 [.agg [.int .i64 x3.k, .int .i64 x3.n, .fr (.ts x3.kids)]] []).bind fun x4 =>
 (eK 0 x4.1 fun x5 x6 x7 =>
 (bW 29 x4.2 fun x8 x9 =>
 (ai x7 (aj x9
 (some ([.agg [.int .i64 x5, .int .i64 x6, .fr (.ts x8)]], []))))))))
 (cond (decide (x1 = 3))
 (v2[(3 : Int).toNat]?.bind fun x3 =>
 ((x3.kids)[(0 : Int).toNat]?.bind fun x4 =>
 (v2[(0 : Int).toNat]?.bind fun x5 =>
 ((FF n 54 [.agg [.int .i64 x5.k, .int .i64 x5.n, .fr (.ts x5.kids)]] []).bind fun x6 =>
 (eK 0 x6.1 fun x7 x8 x9 =>
 (bW 29 x6.2 fun x10 x11 =>
 (ai x9 (aj x11
 (v2[(1 : Int).toNat]?.bind fun x12 =>
 ((FF n 54 [.agg [.int .i64 x12.k, .int .i64 x12.n, .fr (.ts x12.kids)]] []).bind fun x13 =>
 (eK 0 x13.1 fun x14 x15 x16 =>
 (bW 29 x13.2 fun x17 x18 =>
 (ai x16 (aj x18
 (v2[(2 : Int).toNat]?.bind fun x19 =>
 ((FF n 54 [.agg [.int .i64 x19.k, .int .i64 x19.n, .fr (.ts x19.kids)]] []).bind fun x20 =>
 (eK 0 x20.1 fun x21 x22 x23 =>
 (bW 29 x20.2 fun x24 x25 =>
 (ai x23 (aj x25
 ((FF n 54 [.agg [.int .i64 x4.k, .int .i64 x4.n, .fr (.ts x4.kids)]] []).bind fun x26 =>
 (eK 0 x26.1 fun x27 x28 x29 =>
 (bW 29 x26.2 fun x30 x31 =>
 (ai x29 (aj x31
 ((FF n 45 [.one (.int .i64 9), .one (.fr (.ts [(T.mk x7 x8 x10), (T.mk x14 x15 x17), (T.mk x21 x22 x24), (T.mk x27 x28 x30)]))] []).bind fun x32 =>
 (ag x32.1 fun x33 x34 =>
 (ai x34 (aj x32.2
 (v2[(2 : Int).toNat]?.bind fun x35 =>
 ((FF n 54 [.agg [.int .i64 x35.k, .int .i64 x35.n, .fr (.ts x35.kids)]] []).bind fun x36 =>
 (eK 0 x36.1 fun x37 x38 x39 =>
 (bW 29 x36.2 fun x40 x41 =>
 (ai x39 (aj x41
 ((FF n 54 [.agg [.int .i64 x4.k, .int .i64 x4.n, .fr (.ts x4.kids)]] []).bind fun x42 =>
 (eK 0 x42.1 fun x43 x44 x45 =>
 (bW 29 x42.2 fun x46 x47 =>
 (ai x45 (aj x47
 ((FF n 45 [.one (.int .i64 5), .one (.fr (.ts [(T.mk x37 x38 x40), (T.mk x43 x44 x46)]))] []).bind fun x48 =>
 (ag x48.1 fun x49 x50 =>
 (ai x50 (aj x48.2
 ((FF n 45 [.one (.int .i64 5), .one (.fr (.ts [(T.mk x49.k x49.n x49.kids), (T.mk x33.k x33.n x33.kids)]))] []).bind fun x51 =>
 (ag x51.1 fun x52 x53 =>
 (ai x53 (aj x51.2
 (some ([.agg [.int .i64 x52.k, .int .i64 x52.n, .fr (.ts x52.kids)]], []))))))))))))))))))))))))))))))))))))))))))))))))))
 (cond (decide (x1 = 4))
 (v2[(2 : Int).toNat]?.bind fun x3 =>
 ((FF n 54 [.agg [.int .i64 x3.k, .int .i64 x3.n, .fr (.ts x3.kids)]] []).bind fun x4 =>
 (eK 0 x4.1 fun x5 x6 x7 =>
 (bW 29 x4.2 fun x8 x9 =>
 (ai x7 (aj x9
 (some ([.agg [.int .i64 x5, .int .i64 x6, .fr (.ts x8)]], []))))))))
 (cond (decide (x1 = 5))
 (v2[(0 : Int).toNat]?.bind fun x3 =>
 ((x3.kids)[(1 : Int).toNat]?.bind fun x4 =>
 ((FF n 54 [.agg [.int .i64 x4.k, .int .i64 x4.n, .fr (.ts x4.kids)]] []).bind fun x5 =>
 (eK 0 x5.1 fun x6 x7 x8 =>
 (bW 29 x5.2 fun x9 x10 =>
 (ai x8 (aj x10
 (some ([.agg [.int .i64 x6, .int .i64 x7, .fr (.ts x9)]], [])))))))))
 (v2[(0 : Int).toNat]?.bind fun x3 =>
 ((x3.kids)[(2 : Int).toNat]?.bind fun x4 =>
 ((FF n 54 [.agg [.int .i64 x4.k, .int .i64 x4.n, .fr (.ts x4.kids)]] []).bind fun x5 =>
 (eK 0 x5.1 fun x6 x7 x8 =>
 (bW 29 x5.2 fun x9 x10 =>
 (ai x8 (aj x10
 (some ([.agg [.int .i64 x6, .int .i64 x7, .fr (.ts x9)]], [])))))))))))))))))) := by kernel_rfl
theorem rK (n : Nat) (v0 : Int) : FF (n + 1) 148 [.one (.int .i64 v0)] [] =
 (cond (decide (v0 = 5))
 (some ([.one (.int .i64 0)], []))
 (cond (decide (v0 = 15))
 (some ([.one (.int .i64 0)], []))
 (cond (decide (v0 = 16))
 (some ([.one (.int .i64 0)], []))
 (cond (decide (v0 = 12))
 (some ([.one (.int .i64 1)], []))
 (cond (decide (v0 = 9))
 (some ([.one (.int .i64 3)], []))
 (some ([.one (.int .i64 (-1))], []))))))) := by kernel_rfl
theorem rN (n : Nat) (v0 v1 : Int) (v2 : List T) (v3 v4 : Int) (v5 : List T) (v6 : Int) : FF (n + 1) 149 [.agg [.int .i64 v0, .int .i64 v1, .fr (.ts v2)], .agg [.int .i64 v3, .int .i64 v4, .fr (.ts v5)], .one (.int .i64 v6)] [] =
 ((FF n 150 [.agg [.int .i64 v0, .int .i64 v1, .fr (.ts v2)], .agg [.int .i64 v3, .int .i64 v4, .fr (.ts v5)]] []).bind fun x0 =>
 (aD x0.1 fun x1 x2 =>
 (ai x2 (aj x0.2
 (cond x1
 (some ([.one (.int .i64 1)], []))
 ((FF n 151 [.agg [.int .i64 v0, .int .i64 v1, .fr (.ts v2)], .one (.int .i64 v6), .one (.bool false)] []).bind fun x3 =>
 (ag x3.1 fun x4 x5 =>
 (aB .i64 x5 fun x6 x7 =>
 (ai x7 (aj x3.2
 ((FF n 151 [.agg [.int .i64 v3, .int .i64 v4, .fr (.ts v5)], .one (.int .i64 v6), .one (.bool false)] []).bind fun x8 =>
 (ag x8.1 fun x9 x10 =>
 (aB .i64 x10 fun x11 x12 =>
 (ai x12 (aj x8.2
 (cond (!decide (x6 = 0))
 (some ([.one (.int .i64 3)], []))
 (cond (!decide (x11 = 0))
 (some ([.one (.int .i64 3)], []))
 ((FF n 150 [.agg [.int .i64 x4.k, .int .i64 x4.n, .fr (.ts x4.kids)], .agg [.int .i64 x9.k, .int .i64 x9.n, .fr (.ts x9.kids)]] []).bind fun x13 =>
 (aD x13.1 fun x14 x15 =>
 (ai x15 (aj x13.2
 (cond x14
 (some ([.one (.int .i64 1)], []))
 (some ([.one (.int .i64 2)], [])))))))))))))))))))))))) := by kernel_rfl
noncomputable def cZ (n c : Nat) (v0 v1 v2 : Int) (v3 : List T) (v4 v5 : Int) (v6 : List T) : OR := aJ Try.prog SS n 150 0 [1, 1, 0, 1, 0] [] c ⟨[aa, aa, .v (.one (.ptr 0 0)), .v (.one (.ptr 1 0)), aa, .v (.one (.int .i64 v0)), aa, aa, aa, aa, aa, aa, aa, aa, aa, aa, aa, aa, aa, aa, aa, aa, aa, aa, aa, aa, aa, aa, aa, aa, aa, aa, aa, aa, aa, aa, aa, aa, aa, aa, aa, aa, aa, aa, aa, aa],
 [.cells [.int .i64 v1, .int .i64 v2, .fr (.ts v3)], .cells [.int .i64 v4, .int .i64 v5, .fr (.ts v6)]]⟩
theorem fe (n c : Nat) (v0 v1 v2 : Int) (v3 : List T) (v4 v5 : Int) (v6 : List T) : cZ n (c + 1) v0 v1 v2 v3 v4 v5 v6 =
 (cond (decide (v0 < (v3.length : Int)))
 (cond (decide (0 ≤ v0))
 (v3[(v0 : Int).toNat]?.bind fun x0 =>
 (cond (decide (0 ≤ v0))
 (v6[(v0 : Int).toNat]?.bind fun x1 =>
 ((FF n 150 [.agg [.int .i64 x0.k, .int .i64 x0.n, .fr (.ts x0.kids)], .agg [.int .i64 x1.k, .int .i64 x1.n, .fr (.ts x1.kids)]] []).bind fun x2 =>
 (aD x2.1 fun x3 x4 =>
 (ai x4 (aj x2.2
 (cond (!x3)
 (some ([.one (.bool false)], []))
 (cZ n c (IntKind.i64.wrap (v0 + 1)) v1 v2 v3 v4 v5 v6)))))))
 none))
 none)
 (some ([.one (.bool true)], []))) := by kernel_rfl
theorem nC (n : Nat) (v0 v1 : Int) (v2 : List T) (v3 v4 : Int) (v5 : List T) : FF (n + 1) 150 [.agg [.int .i64 v0, .int .i64 v1, .fr (.ts v2)], .agg [.int .i64 v3, .int .i64 v4, .fr (.ts v5)]] [] =
 (cond (!decide (v0 = v3))
 (some ([.one (.bool false)], []))
 (cond (!decide (v1 = v4))
 (some ([.one (.bool false)], []))
 (cond (!decide ((v2.length : Int) = (v5.length : Int)))
 (some ([.one (.bool false)], []))
 (cZ n n 0 v0 v1 v2 v3 v4 v5)))) := by kernel_rfl
noncomputable def cG (n c : Nat) (v0 : Int) (v1 : Bool) (v2 v3 : Int) (v4 : List T) (v5 v6 : Int) (v7 : List T) : OR := aJ Try.prog SS n 151 0 [1, 0] [] c ⟨[aa, .v (.one (.int .i64 v0)), .v (.one (.bool v1)), .v (.one (.ptr 0 0)), aa, aa, .v (.one (.ptr 1 0)), aa, aa, aa, aa, aa, aa, aa, aa, aa, aa, aa, aa, aa, aa, aa, aa, aa, aa, aa, aa, aa],
 [.cells [.int .i64 v2, .int .i64 v3, .fr (.ts v4)], .cells [.int .i64 v5, .int .i64 v6, .own 2 0], .arr 29 (.ts v7) 0 false]⟩
theorem g8 (n c : Nat) (v0 : Int) (v1 : Bool) (v2 v3 : Int) (v4 : List T) (v5 v6 : Int) (v7 : List T) : cG n (c + 1) v0 v1 v2 v3 v4 v5 v6 v7 =
 ((FF n 152 [.agg [.int .i64 v2, .int .i64 v3, .fr (.ts v4)], .one (.bool v1)] []).bind fun x0 =>
 (ag x0.1 fun x1 x2 =>
 (aB .i64 x2 fun x3 x4 =>
 (ai x4 (aj x0.2
 (cond (decide (x3 = 0))
 (some ([.agg [.int .i64 x1.k, .int .i64 x1.n, .fr (.ts x1.kids)], .one (.int .i64 0)], []))
 (cond (decide (v0 < 1))
 (some ([.agg [.int .i64 0, .int .i64 0, .fr (.ts [])], .one (.int .i64 1)], []))
 (cond (decide (x3 = 2))
 (some ([.agg [.int .i64 0, .int .i64 0, .fr (.ts [])], .one (.int .i64 2)], []))
 (cG n c (IntKind.i64.wrap (v0 - 1)) v1 (x1.k) (x1.n) (x1.kids) v5 v6 v7))))))))) := by kernel_rfl
theorem rU (n : Nat) (v0 v1 : Int) (v2 : List T) (v3 : Int) (v4 : Bool) : FF (n + 1) 151 [.agg [.int .i64 v0, .int .i64 v1, .fr (.ts v2)], .one (.int .i64 v3), .one (.bool v4)] [] =
 cG n n v3 v4 v0 v1 v2 0 0 ([]) := by kernel_rfl
theorem s8 (n : Nat) (v0 v1 : Int) (v2 : List T) (v3 : Bool) : FF (n + 1) 152 [.agg [.int .i64 v0, .int .i64 v1, .fr (.ts v2)], .one (.bool v3)] [] =
 ((FF n 153 [.agg [.int .i64 v0, .int .i64 v1, .fr (.ts v2)], .one (.bool v3)] []).bind fun x0 =>
 (ag x0.1 fun x1 x2 =>
 (aD x2 fun x3 x4 =>
 (ai x4 (aj x0.2
 (cond (!x3)
 ((FF n 54 [.agg [.int .i64 v0, .int .i64 v1, .fr (.ts v2)]] []).bind fun x5 =>
 (eK 0 x5.1 fun x6 x7 x8 =>
 (bW 29 x5.2 fun x9 x10 =>
 (ai x8 (aj x10
 (some ([.agg [.int .i64 x6, .int .i64 x7, .fr (.ts x9)], .one (.int .i64 0)], [])))))))
 ((FF n 29 [.agg [.int .i64 x1.k, .int .i64 x1.n, .fr (.ts x1.kids)]] []).bind fun x5 =>
 (aD x5.1 fun x6 x7 =>
 (ai x7 (aj x5.2
 (cond (!x6)
 (some ([.agg [.int .i64 0, .int .i64 0, .fr (.ts [])], .one (.int .i64 2)], []))
 (some ([.agg [.int .i64 x1.k, .int .i64 x1.n, .fr (.ts x1.kids)], .one (.int .i64 1)], []))))))))))))) := by kernel_rfl
noncomputable def bI (n c : Nat) (v0 : Bool) (v1 v2 v3 : Int) (v4 : List T) (v5 v6 : Int) (v7 : List T) : OR := aJ Try.prog SS n 153 0 [1, 1, 0, 1, 0] [] c ⟨[aa, .v (.one (.bool v0)), .v (.one (.ptr 0 0)), aa, .v (.one (.ptr 1 0)), aa, .v (.one (.int .i64 v1)), aa, aa, aa, aa, aa, aa, aa, aa, aa, aa, aa, aa, aa, aa, aa, aa, aa, aa, aa, aa, aa, aa, aa, aa, aa, aa, aa, aa, aa, aa, aa, aa, aa, aa, aa, aa, aa, aa, aa, aa, aa, aa],
 [.cells [.int .i64 v2, .int .i64 v3, .fr (.ts v4)], .cells [.int .i64 v5, .int .i64 v6, .own 2 0], .arr 29 (.ts v7) 0 false]⟩
theorem eL (n c : Nat) (v0 : Bool) (v1 v2 v3 : Int) (v4 : List T) (v5 v6 : Int) (v7 : List T) : bI n (c + 1) v0 v1 v2 v3 v4 v5 v6 v7 =
 (cond (decide (v1 < (v4.length : Int)))
 (cond (decide (0 ≤ v1))
 (v4[(v1 : Int).toNat]?.bind fun x0 =>
 ((FF n 153 [.agg [.int .i64 x0.k, .int .i64 x0.n, .fr (.ts x0.kids)], .one (.bool v0)] []).bind fun x1 =>
 (ag x1.1 fun x2 x3 =>
 (aD x3 fun x4 x5 =>
 (ai x5 (aj x1.2
 (cond x4
 ((FF n 70 [.agg [.int .i64 v2, .int .i64 v3, .fr (.ts v4)], .one (.int .i64 v1), .agg [.int .i64 x2.k, .int .i64 x2.n, .fr (.ts x2.kids)]] []).bind fun x6 =>
 (ag x6.1 fun x7 x8 =>
 (ai x8 (aj x6.2
 (some ([.agg [.int .i64 x7.k, .int .i64 x7.n, .fr (.ts x7.kids)], .one (.bool true)], []))))))
 (bI n c v0 (IntKind.i64.wrap (v1 + 1)) v2 v3 v4 v5 v6 v7))))))))
 none)
 (cond v0
 ((FF n 146 [.agg [.int .i64 v2, .int .i64 v3, .fr (.ts v4)]] []).bind fun x0 =>
 (aB .i64 x0.1 fun x1 x2 =>
 (ai x2 (aj x0.2
 (cond (!decide (x1 = 0))
 ((FF n 147 [.agg [.int .i64 v2, .int .i64 v3, .fr (.ts v4)]] []).bind fun x3 =>
 (ag x3.1 fun x4 x5 =>
 (ai x5 (aj x3.2
 (some ([.agg [.int .i64 x4.k, .int .i64 x4.n, .fr (.ts x4.kids)], .one (.bool true)], []))))))
 (some ([.agg [.int .i64 v2, .int .i64 v3, .fr (.ts v4)], .one (.bool false)], [])))))))
 (some ([.agg [.int .i64 v2, .int .i64 v3, .fr (.ts v4)], .one (.bool false)], [])))) := by kernel_rfl
theorem qD (n : Nat) (v0 v1 : Int) (v2 : List T) (v3 : Bool) : FF (n + 1) 153 [.agg [.int .i64 v0, .int .i64 v1, .fr (.ts v2)], .one (.bool v3)] [] =
 (cond (!v3)
 ((FF n 146 [.agg [.int .i64 v0, .int .i64 v1, .fr (.ts v2)]] []).bind fun x0 =>
 (aB .i64 x0.1 fun x1 x2 =>
 (ai x2 (aj x0.2
 (cond (!decide (x1 = 0))
 ((FF n 147 [.agg [.int .i64 v0, .int .i64 v1, .fr (.ts v2)]] []).bind fun x3 =>
 (ag x3.1 fun x4 x5 =>
 (ai x5 (aj x3.2
 (some ([.agg [.int .i64 x4.k, .int .i64 x4.n, .fr (.ts x4.kids)], .one (.bool true)], []))))))
 (bI n n v3 0 v0 v1 v2 0 0 ([])))))))
 (bI n n v3 0 v0 v1 v2 0 0 ([]))) := by kernel_rfl
end Go.Proofs.Ytajlknlnmmbfcaa
end
section

end
section
namespace Go.Ab
open Go Go.Dk
open Go.ChangeShapes Go.WideShapes Go.ChangeAt Go.RowKit
abbrev Du : bn := fun _ => True
theorem E2 {P : Program} [DrM P] {S : Say} (hp : rH P S) (hib : ∀ f, S.D.ib f = true → jZ P f) {f : FuncId} {fn : Func} {n : Nat} {args : List V1} {vals : List Value} {w : World}
   (hfn : P.funcs[f]? = some fn) (hb : fn.body.isSome = true) (hr : aw (RV [] Du w) (args.map .v) vals) (h : evF P S n f args [] = some ([.one (.bool true)], [])) :
   Calls P f vals.toArray w fun e w' => e = .returned (.bool true) ∧ r4 w w' := by
 have h0 : bq w CD Du 0 [] ⟨args.map .v, []⟩ vals w := by
  refine ⟨St.init w CD Du (aR _ _ _) ⟨hr, aw.nil⟩, fun j _ hl => by simp at hl, fun k hk => trivial⟩
 have := zV hp hib n f fn args [] _ hfn hb h w CD Du [] vals w h0
 refine this.mono fun e w' ⟨xs, G', he, hI, _⟩ => ?_
 obtain ⟨x, xs', rfl, h1, h2⟩ := hI.st.per.1.cons_inv
 obtain rfl := h2.aV
 obtain rfl := cU h1
 exact ⟨he, hI.st.ext⟩
theorem np {d : SD} {v : Value} {w : World} (h : SlR Du w d v) : RV1 [] Du w (.one (.fr d)) v := ⟨h, fun _ => by obtain ⟨a, cap, xs, rfl, _⟩ := h; rfl⟩
theorem kJ {H : Type} {enc : TypeId × Value → H} {P : Program} {W : World} {base : Nat} {tB tU : TypeId} (hB : P.underlying tB = some (.slice tU)) (hU : P.underlying tU = some (.int .u8)) (hc : P.cellsOf tU = 1)
   {v : Value} {d : DataW H} {p : List MemPlace} (hval : Value.okWide P W .any base tB v) (h : DataW.Trod enc P W 0 (fun _ => true) true tB v d p) : ∃ l : List UInt8, SlR Du W (.bs l) v := by
 obtain ⟨a1, len, cap, rfl⟩ := okWide_slice hB hval
 obtain ⟨fuel, hf⟩ := h
 rcases open_ints hB hU hc hf with ⟨hcs, hx⟩ | ⟨a, len', cap', zs, hcs, _, hl, hm, hz, hx, hcell, hwz⟩
 ·simp [Value.cells] at hcs
  obtain ⟨rfl, rfl, rfl⟩ := hcs
  exact ⟨[], none, 0, [], rfl, Nat.zero_le _, Nat.zero_le _, rfl, .inl rfl⟩
 ·simp [Value.cells] at hcs
  obtain ⟨rfl, rfl, rfl⟩ := hcs
  simp only [if_true] at hz
  refine ⟨(zs.take len).map (fun n : Int => UInt8.ofNat n.toNat), ?_⟩
  have hlen : ((zs.take len).map fun n => UInt8.ofNat n.toNat).length = len := by simp; omega
  by_cases h0 : len = 0
  ·subst h0
   exact ⟨some a, cap, [], by simp [SD.len], Nat.zero_le _, Nat.zero_le _, by simp [aE], .inl rfl⟩
  ·obtain ⟨ab, ao, spot⟩ := a
   have hspot : spot = none := by simpa [Addr.add] using World.cell?_spot (hcell 0 (by omega))
   subst hspot
   refine ⟨some ⟨ab, ao, none⟩, cap, ((zs.take len).map (fun n : Int => UInt8.ofNat n.toNat)).map (fun c => Value.int .u8 ((UInt8.toNat c : Nat) : Int)), ?_, ?_, ?_, rfl, .inr ⟨ab, ao, rfl, trivial, fun i x hx => ?_⟩⟩
   ·simp only [SD.len, hlen]
   ·simp only [SD.len, hlen]; exact hl
   ·simp only [SD.len, hlen]; exact Nat.le_trans hl hm
   ·rw [List.getElem?_map, List.getElem?_map] at hx
    cases hzi : (zs.take len)[i]? with
    | none => rw [hzi] at hx; simp at hx
    | some n =>
     rw [hzi] at hx
     simp at hx
     subst hx
     have hil : i < len := by
      rcases Nat.lt_or_ge i len with h' | h'
      ·exact h'
      ·rw [List.getElem?_eq_none (by simp; omega)] at hzi; cases hzi
     have hzi' : zs[i]? = some n := by rw [List.getElem?_take_of_lt hil] at hzi; exact hzi
     have hc' := hcell i (by omega)
     rw [iO] at hc'
     rw [hc']
     have hn : zs.getD i 0 = n := by simp [List.getD, hzi']
     rw [hn]
     have hw := hwz n (List.mem_of_getElem? hzi')
     have hnn : 0 ≤ n ∧ n ≤ 255 := by
      simp [Lit.wf, IntKind.min, IntKind.max, IntKind.signed, IntKind.bits] at hw
      omega
     have hb : max n 0 % 256 = n := by omega
     rw [hb]
end Go.Ab
end
section
namespace Go.Proofs.Ytajlknlnmmbfcaa
open Go Go.Ab Go.Dk
def Ev (f : FuncId) (args : List V1) (h : List aq) (r : List V1 × List aq) : Prop := ∃ N, ∀ n, N ≤ n → FF n f args h = some r
theorem hib : ∀ f, SS.D.ib f = true → jZ Try.prog f := by
 intro f hf
 first
 | exact hibX f hf
 | exact absurd hf (by decide)
 | cases hf
theorem Hv : rH Try.prog SS := fun f g args out h => by cases h
theorem BG {f : FuncId} {fn : Func} {args : List V1} {vals : List Value} {w : World} (hfn : Try.prog.funcs[f]? = some fn) (hb : fn.body.isSome = true) (hr : aw (RV [] Du w) (args.map .v) vals)
   (h : Ev f args [] ([.one (.bool true)], [])) : Calls Try.prog f vals.toArray w fun e w' => e = .returned (.bool true) ∧ r4 w w' := by
 obtain ⟨N, h⟩ := h
 exact E2 Hv hib hfn hb hr (h N (Nat.le_refl N))
theorem Ev.of {f : FuncId} {args : List V1} {h : List aq} {r : List V1 × List aq} (N : Nat) (hh : ∀ n, N ≤ n → FF (n + 1) f args h = some r) : Ev f args h r :=
 ⟨N + 1, fun n hn => by obtain ⟨m, rfl⟩ : ∃ m, n = m + 1 := ⟨n - 1, by omega⟩; exact hh m (by omega)⟩
theorem wrap64 {a : Int} (h : -9223372036854775808 ≤ a ∧ a ≤ 9223372036854775807) : IntKind.i64.wrap a = a := IntWalk.i64_in _ h
theorem zq (a : IntKind) : Cc a a = true := by simp [Cc]
theorem Ao (a : Nat) : Nat.beq a a = true := Nat.beq_refl a
theorem au {α : Type} (p : Prop) [Decidable p] (a b : α) : cond (decide p) a b = if p then a else b := by by_cases h : p <;> simp [h]
theorem iu {α : Type} (p : Prop) [Decidable p] (a b : α) : cond (!decide p) a b = if p then b else a := by by_cases h : p <;> simp [h]
theorem ql (c : UInt8) : 0 ≤ (c.toNat : Int) ∧ (c.toNat : Int) ≤ 255 := by have := c.toNat_lt; omega
theorem Fv (c : UInt8) : IntKind.i64.wrap (c.toNat : Int) = c.toNat := wrap64 (by have := ql c; omega)
section
variable {V W : Type} (l : List V1) (c : List SV) (o : List aq)
theorem Dc (a : IntKind) (n : Int) (k) : aB a (.one (.int a n) :: l) k = k n l := by simp [aB, Cc]
theorem Bl (b : Bool) (k) : aD (.one (.bool b) :: l) k = k b l := rfl
theorem DS (x : ByteArray) (k) : kB (.one (.str x) :: l) k = k x l := rfl
theorem Gd (x : List T) (k) : rTs (.one (.fr (.ts x)) :: l) k = k x l := rfl
theorem GK (x : List Int) (k) : rIs (.one (.fr (.is x)) :: l) k = k x l := rfl
theorem DV (x : List (List Int)) (k) : Fa (.one (.fr (.iss x)) :: l) k = k x l := rfl
theorem Hi (x : List ByteArray) (k) : rSs (.one (.fr (.ss x)) :: l) k = k x l := rfl
theorem GJ (x : List UInt8) (k) : rBs (.one (.fr (.bs x)) :: l) k = k x l := rfl
theorem vm (a b : Int) (x : List T) (k) : ag (.agg [.int .i64 a, .int .i64 b, .fr (.ts x)] :: l) k = k (.mk a b x) l := rfl
theorem zj (j : Nat) (a b : Int) (k) : eK j (.agg [.int .i64 a, .int .i64 b, .own j 0] :: l) k = k a b l := by simp [eK]
theorem DU (j : Nat) (k) : D6 j (.one (.own j 0) :: l) k = k l := by simp [D6]
theorem D3 (j : Nat) (k) : Dr j (.one (.ptr j 0) :: l) k = k l := by simp [Dr]
theorem Dg (k) : ai [] k = k := rfl
theorem D9 (k) : aj [] k = k := rfl
theorem Ds (x : List SV) (k) : aP (.cells x :: o) k = k x o := rfl
theorem Bg (x : aq) (k) : vu (x :: o) k = k o := rfl
theorem Dt (a : IntKind) (n : Int) (k) : aS a (.int a n :: c) k = k n c := by simp [aS, Cc]
theorem zO (b : Bool) (k) : lX (.bool b :: c) k = k b c := rfl
theorem Dj (x : ByteArray) (k) : E9 (.str x :: c) k = k x c := rfl
theorem FR (x : List T) (k) : tsC (.fr (.ts x) :: c) k = k x c := rfl
theorem Fw (x : List Int) (k) : isC (.fr (.is x) :: c) k = k x c := rfl
theorem DE (x : List (List Int)) (k) : Fi (.fr (.iss x) :: c) k = k x c := rfl
theorem FE (x : List ByteArray) (k) : ssC (.fr (.ss x) :: c) k = k x c := rfl
theorem Gb (x : List UInt8) (k) : bsC (.fr (.bs x) :: c) k = k x c := rfl
theorem DJ (x : SV) (k) : Fc (x :: c) k = k c := rfl
theorem De (k) : aQ [] k = k := rfl
theorem zQ (e : TypeId) (x : List T) (k) : bW e (.arr e (.ts x) 0 false :: o) k = k x o := by simp [bW]
theorem B4 (e : TypeId) (x : List Int) (k) : pE e (.arr e (.is x) 0 false :: o) k = k x o := by simp [pE]
theorem xq (e : TypeId) (x : List (List Int)) (k) : kO e (.arr e (.iss x) 0 false :: o) k = k x o := by simp [kO]
theorem B0 (e : TypeId) (x : List ByteArray) (k) : qg e (.arr e (.ss x) 0 false :: o) k = k x o := by simp [qg]
theorem Ae (e : TypeId) (x : List UInt8) (k) : pG e (.arr e (.bs x) 0 false :: o) k = k x o := by simp [pG]
end
theorem evs : type_of% (And.intro @Option.bind_some.{0,0} <| And.intro @Dc <| And.intro @Bl <| And.intro @DS <| And.intro @Gd <| And.intro @GK <| And.intro @DV <| And.intro @Hi <| And.intro @GJ <| And.intro @vm <| And.intro @zj <| And.intro @DU <| And.intro @D3 <| And.intro @Dg <| And.intro @D9 <| And.intro @Ds <| And.intro @Bg <| And.intro @Dt <| And.intro @zO <| And.intro @Dj <| And.intro @FR <| And.intro @Fw <| And.intro @DE <| And.intro @FE <| And.intro @Gb <| And.intro @DJ <| And.intro @De <| And.intro @zQ <| And.intro @B4 <| And.intro @xq <| And.intro @B0 <| And.intro @Ae <| And.intro @zq <| And.intro @Ao <| And.intro @cond_true.{1} @cond_false.{1}) := And.intro @Option.bind_some.{0,0} <| And.intro @Dc <| And.intro @Bl <| And.intro @DS <| And.intro @Gd <| And.intro @GK <| And.intro @DV <| And.intro @Hi <| And.intro @GJ <| And.intro @vm <| And.intro @zj <| And.intro @DU <| And.intro @D3 <| And.intro @Dg <| And.intro @D9 <| And.intro @Ds <| And.intro @Bg <| And.intro @Dt <| And.intro @zO <| And.intro @Dj <| And.intro @FR <| And.intro @Fw <| And.intro @DE <| And.intro @FE <| And.intro @Gb <| And.intro @DJ <| And.intro @De <| And.intro @zQ <| And.intro @B4 <| And.intro @xq <| And.intro @B0 <| And.intro @Ae <| And.intro @zq <| And.intro @Ao <| And.intro @cond_true.{1} @cond_false.{1}
def Tot (o : OR) (Q : List V1 × List aq → Prop) : Prop := ∃ r, o = some r ∧ Q r
theorem ar {r : List V1 × List aq} {Q : List V1 × List aq → Prop} (h : Q r) : Tot (some r) Q := ⟨r, rfl, h⟩
theorem az {b : Bool} {x y : OR} {Q : List V1 × List aq → Prop} (hx : b = true → Tot x Q) (hy : b = false → Tot y Q) : Tot (cond b x y) Q := by
 cases b
 ·exact hy rfl
 ·exact hx rfl
theorem ak {o : OR} {k : List V1 × List aq → OR} {Q R : List V1 × List aq → Prop} (h : Tot o R) (hk : ∀ r, R r → Tot (k r) Q) : Tot (o.bind k) Q := by
 obtain ⟨r, h1, h2⟩ := h
 rw [h1]; exact hk r h2
theorem du {o : OR} {Q R : List V1 × List aq → Prop} (h : Tot o Q) (hk : ∀ r, Q r → R r) : Tot o R := by
 obtain ⟨r, h1, h2⟩ := h
 exact ⟨r, h1, hk r h2⟩
theorem a7 {C : Nat} {f : FuncId} {args : List V1} {h : List aq} {Q : List V1 × List aq → Prop} {n : Nat} (hn : C + 1 ≤ n) (hh : ∀ m, C ≤ m → n = m + 1 → Tot (FF (m + 1) f args h) Q) : Tot (FF n f args h) Q := by
 obtain ⟨m, rfl⟩ : ∃ m, n = m + 1 := ⟨n - 1, by omega⟩
 exact hh m (by omega) rfl
end Go.Proofs.Ytajlknlnmmbfcaa
end
section
namespace Go.Proofs.Ytajlknlnmmbfcaa
open Go Go.Ab Go.Dk
theorem G4 {a b : Int} (ha : 0 ≤ a ∧ a < 4611686018427387904) (hb : 0 ≤ b ∧ b < 4611686018427387904) : 0 ≤ IntKind.i64.wrap (BitVec.ofInt IntKind.i64.bits a ^^^ BitVec.ofInt IntKind.i64.bits b).toNat := by
 obtain ⟨m, rfl⟩ : ∃ m : Nat, a = m := ⟨a.toNat, by omega⟩
 obtain ⟨n, rfl⟩ : ∃ n : Nat, b = n := ⟨b.toNat, by omega⟩
 have hm : m < 2 ^ 62 := by omega
 have hn : n < 2 ^ 62 := by omega
 have hx : m ^^^ n < 2 ^ 62 := Nat.xor_lt_two_pow hm hn
 have e : (BitVec.ofInt 64 (m : Int) ^^^ BitVec.ofInt 64 (n : Int)).toNat = m ^^^ n := by
  rw [BitVec.toNat_xor]
  have h1 : (BitVec.ofInt 64 (m : Int)).toNat = m := by simp; omega
  have h2 : (BitVec.ofInt 64 (n : Int)).toNat = n := by simp; omega
  rw [h1, h2]
 show 0 ≤ IntKind.i64.wrap ((BitVec.ofInt 64 (m : Int) ^^^ BitVec.ofInt 64 (n : Int)).toNat : Int)
 rw [e, IntWalk.i64_in _ (by omega)]
 omega
abbrev rdr (l : List UInt8) (p : Int) : aq := .cells [.fr (.bs l), .int .i64 p]
def gM (l : List UInt8) (p m : Int) : Prop := l.length ≤ 2000 ∧ 0 ≤ p ∧ p ≤ m
theorem gM.mono {l : List UInt8} {p m m' : Int} (h : gM l p m) (hm : m ≤ m') : gM l p m' := ⟨h.1, h.2.1, by have := h.2.2; omega⟩
theorem nv {a b : Int} (ha : 0 ≤ a) (hb : 0 < b) : 0 ≤ a.tmod b ∧ a.tmod b < b := by
 rw [Int.tmod_eq_emod_of_nonneg ha]
 exact ⟨Int.emod_nonneg _ (by omega), Int.emod_lt_of_pos _ hb⟩
theorem vl {a b : Int} (ha : 0 ≤ a) (hb : 0 < b) : 0 ≤ a.tdiv b ∧ a.tdiv b ≤ a := by
 rw [Int.tdiv_eq_ediv_of_nonneg ha]
 exact ⟨Int.ediv_nonneg ha (by omega), Int.ediv_le_self _ ha⟩
theorem AL {l : List UInt8} {i : Int} (h0 : 0 ≤ i) (h1 : i < l.length) : ∃ c, l[i.toNat]? = some c := by
 have : i.toNat < l.length := by omega
 exact ⟨l[i.toNat], List.getElem?_eq_getElem this⟩
def EvA (C : Nat) (f : FuncId) (args : List V1) (h : List aq) (r : List V1 × List aq) : Prop := ∀ n, C ≤ n → FF n f args h = some r
theorem EvA.of {f args h r} (C : Nat) (hh : ∀ n, C ≤ n → FF (n + 1) f args h = some r) : EvA (C + 1) f args h r := fun n hn => by obtain ⟨m, rfl⟩ : ∃ m, n = m + 1 := ⟨n - 1, by omega⟩; exact hh m (by omega)
theorem DA {l : List UInt8} {p m n : Int} (h : gM l p m) (hm : m ≤ 1099511627776) (hn : n ≤ 2147483648) :
   ∃ v, (0 ≤ v ∧ (0 < n → v < n) ∧ (n < 1 → v = 0)) ∧ gM l (p + 1) (m + 1) ∧ EvA 1 35 [.one (.ptr 0 0), .one (.int .i64 n)] [rdr l p] ([.one (.int .i64 v)], [rdr l (p + 1)]) := by
 obtain ⟨hl, h0, hp⟩ := h
 have hr : gM l (p + 1) (m + 1) := ⟨hl, by omega, by omega⟩
 have w1 : IntKind.i64.wrap (p + 1) = p + 1 := wrap64 (by omega)
 have w2 : IntKind.i64.wrap (p + 1 - 1) = p := by rw [wrap64 (by omega)]; omega
 by_cases hn1 : n < 1
 ·refine ⟨0, ⟨by omega, by omega, by omega⟩, hr, EvA.of 0 fun k _ => ?_⟩
  rw [cV]
  simp only [au, if_pos hn1, w1]
 ·by_cases hl0 : (l.length : Int) = 0
  ·refine ⟨0, ⟨by omega, by omega, by omega⟩, hr, EvA.of 0 fun k _ => ?_⟩
   rw [cV]
   simp only [au, if_neg hn1, if_pos hl0, w1]
  ·have hlp : 0 < (l.length : Int) := by omega
   by_cases hk : p < l.length
   ·obtain ⟨c, hc⟩ := AL h0 hk
    have hb := ql c
    have ht := nv hb.1 (show 0 < n by omega)
    refine ⟨Int.tmod c.toNat n, ⟨ht.1, fun _ => ht.2, by omega⟩, hr, EvA.of 0 fun k _ => ?_⟩
    rw [cV]
    simp only [au, if_neg hn1, if_neg hl0, w1, w2, if_pos hk, if_pos h0, hc, Option.bind_some, Fv, if_neg (show ¬ n = 0 by omega)]
   ·have t1 := nv h0 hlp
    obtain ⟨c, hc⟩ := AL t1.1 t1.2
    have w3 : IntKind.i64.wrap (p * 7) = p * 7 := wrap64 (by omega)
    have w4 : IntKind.i64.wrap (p * 7 + 3) = p * 7 + 3 := wrap64 (by omega)
    have t2 := nv (show 0 ≤ p * 7 + 3 by omega) hlp
    obtain ⟨d, hd⟩ := AL t2.1 t2.2
    have hb := ql c
    have hb' := ql d
    have t3 := vl h0 hlp
    have w5 : IntKind.i64.wrap ((c.toNat : Int) * 131) = c.toNat * 131 := wrap64 (by omega)
    have w6 : IntKind.i64.wrap ((d.toNat : Int) * 1117) = d.toNat * 1117 := wrap64 (by omega)
    have w7 : IntKind.i64.wrap ((c.toNat : Int) * 131 + d.toNat * 1117) = c.toNat * 131 + d.toNat * 1117 := wrap64 (by omega)
    have w8 : IntKind.i64.wrap (p * 29) = p * 29 := wrap64 (by omega)
    have w9 : IntKind.i64.wrap ((c.toNat : Int) * 131 + d.toNat * 1117 + p * 29) = c.toNat * 131 + d.toNat * 1117 + p * 29 := wrap64 (by omega)
    have wa : IntKind.i64.wrap (p.tdiv l.length) = p.tdiv l.length := wrap64 (by omega)
    have wb : IntKind.i64.wrap (p.tdiv l.length * 53) = p.tdiv l.length * 53 := wrap64 (by omega)
    have wc : IntKind.i64.wrap ((c.toNat : Int) * 131 + d.toNat * 1117 + p * 29 + p.tdiv l.length * 53) = c.toNat * 131 + d.toNat * 1117 + p * 29 + p.tdiv l.length * 53 := wrap64 (by omega)
    have t4 := vl (show 0 ≤ (c.toNat : Int) * 131 + d.toNat * 1117 + p * 29 + p.tdiv l.length * 53 by omega) (show (0 : Int) < 64 by omega)
    have wd : IntKind.i64.wrap (Int.tdiv ((c.toNat : Int) * 131 + d.toNat * 1117 + p * 29 + p.tdiv l.length * 53) 64) = Int.tdiv ((c.toNat : Int) * 131 + d.toNat * 1117 + p * 29 + p.tdiv l.length * 53) 64 := wrap64 (by omega)
    have hx := G4 (a := (c.toNat : Int) * 131 + d.toNat * 1117 + p * 29 + p.tdiv l.length * 53) (b := Int.tdiv ((c.toNat : Int) * 131 + d.toNat * 1117 + p * 29 + p.tdiv l.length * 53) 64) (by omega) (by omega)
    have ht := nv hx (show 0 < n by omega)
    refine ⟨_, ⟨ht.1, fun _ => ht.2, by omega⟩, hr, EvA.of 0 fun k _ => ?_⟩
    rw [cV]
    simp only [au, if_neg hn1, if_neg hl0, w1, w2, if_neg hk, if_pos t1.1, hc, Option.bind_some, Fv, w3, w4, if_pos t2.1, hd, if_neg (show ¬ n = 0 by omega), w5, w6, w7, w8, w9, wa, wb, wc, wd]
theorem HM {l : List UInt8} {p m : Int} (h : gM l p m) (hm : m ≤ 1099511627776) {ss : List Int} (hs : ss ≠ []) (hs2 : ss.length ≤ 2147483648) :
   ∃ s ∈ ss, gM l (p + 1) (m + 1) ∧ EvA 2 19 [.one (.ptr 0 0), .one (.fr (.is ss))] [rdr l p] ([.one (.int .i64 s)], [rdr l (p + 1)]) := by
 obtain ⟨v, ⟨v0, v1, _⟩, hr, hN⟩ := DA h hm (n := (ss.length : Int)) (by omega)
 have hpos := List.length_pos_iff.2 hs
 have hv := v1 (by omega)
 have hlt : v.toNat < ss.length := by omega
 refine ⟨ss[v.toNat], List.getElem_mem hlt, hr, EvA.of 1 fun n hn => ?_⟩
 rw [mb, hN n hn]
 simp only [evs, au, if_pos v0, List.getElem?_eq_getElem hlt]
theorem Hh (l : List UInt8) : ∃ l', gM l' 0 0 ∧ EvA 1 18 [.one (.fr (.bs l))] [] ([.one (.ptr 0 0)], [rdr l' 0]) := by
 by_cases hl : 2000 < (l.length : Int)
 ·refine ⟨(l.take (2000 : Int).toNat).drop (0 : Int).toNat, ⟨by simp; omega, by omega, by omega⟩, EvA.of 0 fun n _ => ?_⟩
  ·rw [jn]
   simp only [au, if_pos hl, inB, Int.le_refl, decide_true, Bool.true_and, show (0 : Int) ≤ 2000 from by omega, if_pos (show (2000 : Int) ≤ l.length by omega)]
 ·refine ⟨l, ⟨by omega, by omega, by omega⟩, EvA.of 0 fun n _ => ?_⟩
  rw [jn]
  simp only [au, if_neg hl]
end Go.Proofs.Ytajlknlnmmbfcaa
end
section
namespace Go.Proofs.Ytajlknlnmmbfcaa
open Go Go.Dk
def opsOf : Int → Int := fun k => if k = 1 ∨ k = 2 ∨ k = 6 ∨ k = 7 then 0 else if k = 8 ∨ k = 11 ∨ k = 15 ∨ k = 16 then 1 else if k = 3 ∨ k = 4 ∨ k = 5 ∨ k = 13 then 2 else if k = 10 ∨ k = 12 ∨ k = 14 then 3 else if k = 9 then 4 else -1
def ct : Int → Int := fun k => if k = 1 then 20 else if k = 2 then 3 else 0
mutual
def gh : T → Int → Int → Bool × Int
 | .mk k n kids, deep, c => if 400 < c + 1 ∨ 30 < deep ∨ opsOf k ≠ kids.length ∨ ¬ (0 ≤ n ∧ n ≤ ct k) then (false, c + 1) else gQ kids (deep + 1) (c + 1)
def gQ : List T → Int → Int → Bool × Int
 | [], _, c => (true, c)
 | t :: ts, d, c => if (gh t d c).1 then gQ ts d (gh t d c).2 else (false, (gh t d c).2)
end
theorem Db (t : T) (d c : Int) : gh t d c = if 400 < c + 1 ∨ 30 < d ∨ opsOf t.k ≠ t.kids.length ∨ ¬ (0 ≤ t.n ∧ t.n ≤ ct t.k) then (false, c + 1) else gQ t.kids (d + 1) (c + 1) := by
 cases t; simp only [gh]; rfl
mutual
theorem ya (t : T) (d c : Int) : (gh t d c).1 = true → c + 1 ≤ (gh t d c).2 ∧ (gh t d c).2 ≤ 400 := by
 cases t with
 | mk k n kids =>
  unfold gh
  split
  ·intro h; cases h
  ·rename_i h
   intro h1
   have h2 : c + 1 ≤ 400 := by simp only [not_or] at h; omega
   have := xi kids (d + 1) (c + 1) h2 h1
   omega
theorem xi (ts : List T) (d c : Int) (hc : c ≤ 400) : (gQ ts d c).1 = true → c ≤ (gQ ts d c).2 ∧ (gQ ts d c).2 ≤ 400 := by
 cases ts with
 | nil => intro _; simp [gQ, hc]
 | cons t ts =>
  unfold gQ
  split
  ·rename_i h
   intro h1
   have a := ya t d c h
   have b := xi ts d _ a.2 h1
   omega
  ·intro h; cases h
end
mutual
def cH : T → Nat → Bool
 | .mk k n kids, d => decide (1 ≤ d) && (decide (opsOf k = kids.length) && (decide (0 ≤ n ∧ n ≤ ct k) && c7 kids (d - 1)))
def c7 : List T → Nat → Bool
 | [], _ => true
 | t :: ts, d => cH t d && c7 ts d
end
theorem gi (t : T) (d : Nat) : cH t d = (decide (1 ≤ d) && (decide (opsOf t.k = t.kids.length) && (decide (0 ≤ t.n ∧ t.n ≤ ct t.k) && c7 t.kids (d - 1)))) := by cases t; simp only [cH]; rfl
def ah (t : T) : Bool := cH t 30 && decide (t.size ≤ 400)
def wO (t : T) (m : Nat) : Nat := min t.size (m + 1)
mutual
theorem ti (t : T) (d c : Nat) (hc : c ≤ 400) (hd : d ≤ 31) : ((gh t d c).1 = true ↔ cH t (31 - d) = true ∧ c + t.size ≤ 400) ∧ ((gh t d c).1 = true → (gh t d c).2 = c + t.size) := by
 cases t with
 | mk k n kids =>
  have hs : T.size (.mk k n kids) = 1 + T.aA kids := rfl
  unfold gh cH
  by_cases hcond : 400 < (c : Int) + 1 ∨ 30 < (d : Int) ∨ opsOf k ≠ (kids.length : Int) ∨ ¬ (0 ≤ n ∧ n ≤ ct k)
  ·rw [if_pos hcond]
   refine ⟨⟨fun h => (by cases h), fun h => ?_⟩, fun h => (by cases h)⟩
   simp only [Bool.and_eq_true, decide_eq_true_eq] at h
   obtain ⟨⟨h1, h2, h3, h4⟩, h5⟩ := h
   exfalso
   rcases hcond with h | h | h | h
   ·omega
   ·omega
   ·exact h h2
   ·exact h h3
  ·rw [if_neg hcond]
   simp only [not_or, Decidable.not_not] at hcond
   have hk : ((c : Int) + 1) = ((c + 1 : Nat) : Int) := by omega
   have hk2 : ((d : Int) + 1) = ((d + 1 : Nat) : Int) := by omega
   rw [hk, hk2]
   have ih := se kids (d + 1) (c + 1) (by omega) (by omega)
   rw [decide_eq_true (by omega : 1 ≤ 31 - d), decide_eq_true hcond.2.2.1, decide_eq_true hcond.2.2.2, Bool.true_and, Bool.true_and, Bool.true_and, show 31 - d - 1 = 31 - (d + 1) by omega, hs]
   refine ⟨⟨fun h => ?_, fun h => ?_⟩, fun h => ?_⟩
   ·have := ih.1.1 h; exact ⟨this.1, by omega⟩
   ·exact ih.1.2 ⟨h.1, by omega⟩
   ·have := ih.2 h; omega
theorem se (ts : List T) (d c : Nat) (hc : c ≤ 400) (hd : d ≤ 31) : ((gQ ts d c).1 = true ↔ c7 ts (31 - d) = true ∧ c + T.aA ts ≤ 400) ∧ ((gQ ts d c).1 = true → (gQ ts d c).2 = c + T.aA ts) := by
 cases ts with
 | nil => simp [gQ, c7, T.aA, hc]
 | cons t ts =>
  have ih := ti t d c hc hd
  have hs : T.aA (t :: ts) = t.size + T.aA ts := rfl
  unfold gQ c7
  by_cases h1 : (gh t d c).1 = true
  ·have h2 := ih.2 h1
   have h3 := ih.1.1 h1
   have ih2 := se ts d (c + t.size) h3.2 hd
   have hk : ((c : Int) + (t.size : Int)) = ((c + t.size : Nat) : Int) := by omega
   rw [if_pos h1, h2, hk, h3.1, Bool.true_and, hs]
   refine ⟨⟨fun h => ?_, fun h => ?_⟩, fun h => ?_⟩
   ·have := ih2.1.1 h; exact ⟨this.1, by omega⟩
   ·exact ih2.1.2 ⟨h.1, by omega⟩
   ·have := ih2.2 h; omega
  ·rw [if_neg h1, hs]
   refine ⟨⟨fun h => (by cases h), fun h => ?_⟩, fun h => (by cases h)⟩
   exfalso
   rw [Bool.and_eq_true] at h
   exact h1 (ih.1.2 ⟨h.1.1, by omega⟩)
end
theorem yt (t : T) : (gh t 1 0).1 = ah t := by
 have := (ti t 1 0 (by omega) (by omega)).1
 unfold ah
 rw [Bool.eq_iff_iff, Bool.and_eq_true, decide_eq_true_eq]
 simpa using this
theorem ld {u : T} {d : Nat} : ∀ {ts : List T}, c7 ts d = true → u ∈ ts → cH u d = true
 | t :: ts, h, hu => by
  simp only [c7, Bool.and_eq_true] at h
  rcases List.mem_cons.1 hu with rfl | hu
  ·exact h.1
  ·exact ld h.2 hu
mutual
theorem ug : ∀ (t : T) (d : Nat), cH t d = true → cH t (d + 1) = true
 | .mk k n kids, d, h => by
  simp only [cH, Bool.and_eq_true, decide_eq_true_eq] at h ⊢
  refine ⟨by omega, h.2.1, h.2.2.1, ?_⟩
  have := r9 kids (d - 1) h.2.2.2
  rwa [show d - 1 + 1 = d + 1 - 1 by omega] at this
theorem r9 : ∀ (ts : List T) (d : Nat), c7 ts d = true → c7 ts (d + 1) = true
 | [], _, _ => rfl
 | t :: ts, d, h => by
  simp only [c7, Bool.and_eq_true] at h ⊢
  exact ⟨ug t d h.1, r9 ts d h.2⟩
end
theorem bG {t u : T} (h : ah t = true) (hu : u ∈ t.kids) : ah u = true := by
 unfold ah at h ⊢
 rw [Bool.and_eq_true, decide_eq_true_eq] at h ⊢
 rw [gi] at h
 simp only [Bool.and_eq_true, decide_eq_true_eq] at h
 have h1 := ug _ _ (ld h.1.2.2.2 hu)
 have h2 := T.aT hu
 have h3 := T.size_eq t
 exact ⟨h1, by omega⟩
theorem iN {t : T} (h : ah t = true) : opsOf t.k = t.kids.length ∧ 0 ≤ t.n ∧ t.n ≤ ct t.k := by
 unfold ah at h
 rw [Bool.and_eq_true, gi] at h
 simp only [Bool.and_eq_true, decide_eq_true_eq] at h
 exact ⟨h.1.2.1, h.1.2.2.1⟩
theorem ae {t : T} (h : ah t = true) : t.size ≤ 400 := by
 unfold ah at h
 rw [Bool.and_eq_true, decide_eq_true_eq] at h
 exact h.2
end Go.Proofs.Ytajlknlnmmbfcaa
end
