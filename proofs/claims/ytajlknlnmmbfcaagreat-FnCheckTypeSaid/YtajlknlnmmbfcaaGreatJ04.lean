/- Part 4 of the proof. -/
import Derived.Test.YtajlknlnmmbfcaaGreatJ01
import Derived.Test.YtajlknlnmmbfcaaGreatJ02
import Derived.Test.YtajlknlnmmbfcaaGreatJ03
import Derived.ChangeArms
import Derived.Deep.Slices
import Derived.Deep.Strs
import Derived.WalkKit
import Derived.ProofKit
import Derived.OpenShut
import Derived.ShutString
import Derived.ChangeOld
import Derived.Below
set_option linter.unusedVariables false
set_option linter.unusedSimpArgs false
section
namespace Go.Proofs.YtajlknlnmmbfcaaGreat
open Go Go.Ab Go.Dk
noncomputable def a7 (n c : Nat) (v0 : Int) (v1 : List T) (v2 v3 v4 v5 v6 : Int) (v7 : List T) (v8 : Bool) (v9 v10 : Int) (v11 : List T) (v12 v13 : Int) (v14 : List T) (v15 v16 : Int) (v17 : List T) : OR := bj Tryz.prog SS n 109 3 [1, 1, 1, 0, 1, 0] [] c ⟨[aa, .v (.one (.int .i64 v0)), .v (.one (.fn 120 [0, 1, 2])), .v (.one (.ptr 3 0)), aa, aa, .v (.one (.ptr 4 0)), .v (.one (.ptr 6 0)), aa, aa, aa, aa, aa, aa, aa, aa, aa, aa, aa, aa, aa, aa, aa, aa, .v (.one (.fr (.ts v1))), .v (.one (.int .i64 v2)), .v (.one (.int .i64 v3)), aa, aa, aa, aa, aa, aa, aa, aa, aa, aa, aa, aa, aa, aa, aa, aa, aa, aa, aa, aa],
 [.cells [.int .i64 v4], .cells [.int .i64 v5, .int .i64 v6, .fr (.ts v7)], .cells [.bool v8], .cells [.int .i64 v9, .int .i64 v10, .fr (.ts v11)], .cells [.int .i64 v12, .int .i64 v13, .own 5 0], .arr 25 (.ts v14) 0 false, .cells [.int .i64 v15, .int .i64 v16, .own 7 0], .arr 25 (.ts v17) 0 false]⟩
theorem bQ (n c : Nat) (v0 : Int) (v1 : List T) (v2 v3 v4 v5 v6 : Int) (v7 : List T) (v8 : Bool) (v9 v10 : Int) (v11 : List T) (v12 v13 : Int) (v14 : List T) (v15 v16 : Int) (v17 : List T) : a7 n (c + 1) v0 v1 v2 v3 v4 v5 v6 v7 v8 v9 v10 v11 v12 v13 v14 v15 v16 v17 =
 (cond (decide (v3 < v2))
 (cond (decide (0 ≤ v3))
 (v1[(v3 : Int).toNat]?.bind fun x0 =>
 ((FF n 121 [.one (.int .i64 v9), .one (.int .i64 v3)] []).bind fun x1 =>
 (aC .i64 x1.1 fun x2 x3 =>
 (ai x3 (aj x1.2
 ((FF n 109 [.agg [.int .i64 x0.k, .int .i64 x0.n, .fr (.ts x0.kids)], .one (.int .i64 (IntKind.i64.wrap (v0 + x2))), .one (.fn 120 [0, 1, 2])] [.cells [.int .i64 v4], .cells [.int .i64 v5, .int .i64 v6, .fr (.ts v7)], .cells [.bool v8]]).bind fun x4 =>
 (aR x4.2 fun x5 x6 =>
 (aV .i64 x5 fun x7 x8 =>
 (aT x8
 (aR x6 fun x9 x10 =>
 (aV .i64 x9 fun x11 x12 =>
 (aV .i64 x12 fun x13 x14 =>
 (tsC x14 fun x15 x16 =>
 (aT x16
 (aR x10 fun x17 x18 =>
 (mB x17 fun x19 x20 =>
 (aT x20
 (ag x4.1 fun x21 x22 =>
 (ai x22 (aj x18
 (cond (cr (v17 ++ [(T.mk x21.k x21.n x21.kids)]).length)
 (a7 n c v0 v1 v2 (IntKind.i64.wrap (v3 + 1)) x7 x11 x13 x15 x19 v9 v10 v11 v12 v13 v14 v15 v16 (v17 ++ [(T.mk x21.k x21.n x21.kids)]))
 none)))))))))))))))))))))
 none)
 (some ([.agg [.int .i64 v15, .int .i64 v16, .fr (.ts v17)]], [.cells [.int .i64 v4], .cells [.int .i64 v5, .int .i64 v6, .fr (.ts v7)], .cells [.bool v8]]))) := by kernel_rfl
theorem fX (n : Nat) (v0 v1 : Int) (v2 : List T) (v3 v4 v5 v6 : Int) (v7 : List T) (v8 : Bool) : FF (n + 1) 109 [.agg [.int .i64 v0, .int .i64 v1, .fr (.ts v2)], .one (.int .i64 v3), .one (.fn 120 [0, 1, 2])] [.cells [.int .i64 v4], .cells [.int .i64 v5, .int .i64 v6, .fr (.ts v7)], .cells [.bool v8]] =
 (cond (decide (v0 = 1))
 ((FF n 120 [.one (.int .i64 v1), .one (.int .i64 v3), .one (.ptr 0 0), .one (.ptr 1 0), .one (.ptr 2 0)] [.cells [.int .i64 v4], .cells [.int .i64 v5, .int .i64 v6, .fr (.ts v7)], .cells [.bool v8]]).bind fun x0 =>
 (aR x0.2 fun x1 x2 =>
 (aV .i64 x1 fun x3 x4 =>
 (aT x4
 (aR x2 fun x5 x6 =>
 (aV .i64 x5 fun x7 x8 =>
 (aV .i64 x8 fun x9 x10 =>
 (tsC x10 fun x11 x12 =>
 (aT x12
 (aR x6 fun x13 x14 =>
 (mB x13 fun x15 x16 =>
 (aT x16
 (ag x0.1 fun x17 x18 =>
 (ai x18 (aj x14
 (some ([.agg [.int .i64 x17.k, .int .i64 x17.n, .fr (.ts x17.kids)]], [.cells [.int .i64 x3], .cells [.int .i64 x7, .int .i64 x9, .fr (.ts x11)], .cells [.bool x15]])))))))))))))))))
 (a7 n n v3 v2 ((v2.length : Int) : Int) 0 v4 v5 v6 v7 v8 v0 v1 v2 0 0 ([]) v0 v1 ([]))) := by kernel_rfl
theorem jK (n : Nat) (v0 v1 : Int) (v2 : List T) (v3 : Bool) : FF (n + 1) 123 [.agg [.int .i64 v0, .int .i64 v1, .fr (.ts v2)], .one (.bool v3)] [] =
 (cond (!v3)
 (some ([.agg [.int .i64 0, .int .i64 0, .fr (.ts [])], .one (.int .i64 2)], []))
 ((FF n 59 [.agg [.int .i64 v0, .int .i64 v1, .fr (.ts v2)]] []).bind fun x0 =>
 (aK x0.1 fun x1 x2 =>
 (ai x2 (aj x0.2
 (cond (!x1)
 (some ([.agg [.int .i64 0, .int .i64 0, .fr (.ts [])], .one (.int .i64 2)], []))
 (some ([.agg [.int .i64 v0, .int .i64 v1, .fr (.ts v2)], .one (.int .i64 0)], [])))))))) := by kernel_rfl
theorem xm (n : Nat) (v0 : Int) : FF (n + 1) 124 [.one (.int .i64 v0)] [] =
 some ([.agg [.int .i64 2, .int .i64 v0, .fr (.ts [])]], []) := by kernel_rfl
theorem oR (n : Nat) (v0 : Int) : FF (n + 1) 70 [.one (.int .i64 v0), .one (.emp none)] [] =
 some ([.agg [.int .i64 v0, .int .i64 0, .fr (.ts [])]], []) := by kernel_rfl
theorem eE (n : Nat) (v0 : List T) (v1 v2 : Int) (v3 : List T) (v4 v5 v6 : Int) (v7 v8 : List T) (v9 v10 : Int) (v11 : List T) : FF (n + 1) 125 [.agg [.fr (.ts v0), .int .i64 v1, .int .i64 v2, .fr (.ts v3), .fn 98 [0, 1]], .one (.int .i64 v4), .agg [.int .i64 v5, .int .i64 v6, .fr (.ts v7)]] [.cells [.fr (.ts v8)], .cells [.int .i64 v9, .int .i64 v10, .fr (.ts v11)]] =
 ((FF n 98 [.one (.int .i64 v4), .one (.ptr 0 0), .one (.ptr 1 0)] [.cells [.fr (.ts v8)], .cells [.int .i64 v9, .int .i64 v10, .fr (.ts v11)]]).bind fun x0 =>
 (aR x0.2 fun x1 x2 =>
 (tsC x1 fun x3 x4 =>
 (aT x4
 (aR x2 fun x5 x6 =>
 (aV .i64 x5 fun x7 x8 =>
 (aV .i64 x8 fun x9 x10 =>
 (tsC x10 fun x11 x12 =>
 (aT x12
 (ag x0.1 fun x13 x14 =>
 (aC .i64 x14 fun x15 x16 =>
 (ai x16 (aj x6
 (cond (!decide (x15 = 0))
 (some ([.one (.int .i64 x15)], [.cells [.fr (.ts x3)], .cells [.int .i64 x7, .int .i64 x9, .fr (.ts x11)]]))
 ((FF n 96 [.agg [.int .i64 x13.k, .int .i64 x13.n, .fr (.ts x13.kids)], .agg [.int .i64 v5, .int .i64 v6, .fr (.ts v7)]] []).bind fun x17 =>
 (aC .i64 x17.1 fun x18 x19 =>
 (ai x19 (aj x17.2
 (some ([.one (.int .i64 x18)], [.cells [.fr (.ts x3)], .cells [.int .i64 x7, .int .i64 x9, .fr (.ts x11)]])))))))))))))))))))) := by kernel_rfl
theorem eD (n : Nat) (v0 : List T) (v1 v2 : Int) (v3 v4 : List T) (v5 v6 : Int) (v7 : List T) : FF (n + 1) 126 [.agg [.fr (.ts v0), .int .i64 v1, .int .i64 v2, .fr (.ts v3), .fn 98 [0, 1]]] [.cells [.fr (.ts v4)], .cells [.int .i64 v5, .int .i64 v6, .fr (.ts v7)]] =
 ((FF n 161 [.agg [.fr (.ts v0), .int .i64 v1, .int .i64 v2, .fr (.ts v3), .fn 98 [0, 1]], .one (.int .i64 0)] [.cells [.fr (.ts v4)], .cells [.int .i64 v5, .int .i64 v6, .fr (.ts v7)]]).bind fun x0 =>
 (aR x0.2 fun x1 x2 =>
 (tsC x1 fun x3 x4 =>
 (aT x4
 (aR x2 fun x5 x6 =>
 (aV .i64 x5 fun x7 x8 =>
 (aV .i64 x8 fun x9 x10 =>
 (tsC x10 fun x11 x12 =>
 (aT x12
 (aC .i64 x0.1 fun x13 x14 =>
 (aC .i64 x14 fun x15 x16 =>
 (ai x16 (aj x6
 (cond (!decide (x15 = 0))
 (some ([.agg [.int .i64 0, .int .i64 0, .fr (.ts [])], .one (.int .i64 x15)], [.cells [.fr (.ts x3)], .cells [.int .i64 x7, .int .i64 x9, .fr (.ts x11)]]))
 ((FF n 161 [.agg [.fr (.ts v0), .int .i64 v1, .int .i64 v2, .fr (.ts v3), .fn 98 [0, 1]], .one (.int .i64 1)] [.cells [.fr (.ts x3)], .cells [.int .i64 x7, .int .i64 x9, .fr (.ts x11)]]).bind fun x17 =>
 (aR x17.2 fun x18 x19 =>
 (tsC x18 fun x20 x21 =>
 (aT x21
 (aR x19 fun x22 x23 =>
 (aV .i64 x22 fun x24 x25 =>
 (aV .i64 x25 fun x26 x27 =>
 (tsC x27 fun x28 x29 =>
 (aT x29
 (aC .i64 x17.1 fun x30 x31 =>
 (aC .i64 x31 fun x32 x33 =>
 (ai x33 (aj x23
 (cond (!decide (x32 = 0))
 (some ([.agg [.int .i64 0, .int .i64 0, .fr (.ts [])], .one (.int .i64 x32)], [.cells [.fr (.ts x20)], .cells [.int .i64 x24, .int .i64 x26, .fr (.ts x28)]]))
 ((FF n 124 [.one (.int .i64 (max x13 x30))] []).bind fun x34 =>
 (ag x34.1 fun x35 x36 =>
 (ai x36 (aj x34.2
 (some ([.agg [.int .i64 x35.k, .int .i64 x35.n, .fr (.ts x35.kids)], .one (.int .i64 0)], [.cells [.fr (.ts x20)], .cells [.int .i64 x24, .int .i64 x26, .fr (.ts x28)]])))))))))))))))))))))))))))))))))) := by kernel_rfl
theorem dN (n : Nat) (v0 : List T) (v1 v2 : Int) (v3 v4 : List T) (v5 v6 : Int) (v7 : List T) : FF (n + 1) 127 [.agg [.fr (.ts v0), .int .i64 v1, .int .i64 v2, .fr (.ts v3), .fn 98 [0, 1]]] [.cells [.fr (.ts v4)], .cells [.int .i64 v5, .int .i64 v6, .fr (.ts v7)]] =
 ((FF n 161 [.agg [.fr (.ts v0), .int .i64 v1, .int .i64 v2, .fr (.ts v3), .fn 98 [0, 1]], .one (.int .i64 0)] [.cells [.fr (.ts v4)], .cells [.int .i64 v5, .int .i64 v6, .fr (.ts v7)]]).bind fun x0 =>
 (aR x0.2 fun x1 x2 =>
 (tsC x1 fun x3 x4 =>
 (aT x4
 (aR x2 fun x5 x6 =>
 (aV .i64 x5 fun x7 x8 =>
 (aV .i64 x8 fun x9 x10 =>
 (tsC x10 fun x11 x12 =>
 (aT x12
 (aC .i64 x0.1 fun x13 x14 =>
 (aC .i64 x14 fun x15 x16 =>
 (ai x16 (aj x6
 (cond (!decide (x15 = 0))
 (some ([.agg [.int .i64 0, .int .i64 0, .fr (.ts [])], .one (.int .i64 x15)], [.cells [.fr (.ts x3)], .cells [.int .i64 x7, .int .i64 x9, .fr (.ts x11)]]))
 ((FF n 98 [.one (.int .i64 1), .one (.ptr 0 0), .one (.ptr 1 0)] [.cells [.fr (.ts x3)], .cells [.int .i64 x7, .int .i64 x9, .fr (.ts x11)]]).bind fun x17 =>
 (aR x17.2 fun x18 x19 =>
 (tsC x18 fun x20 x21 =>
 (aT x21
 (aR x19 fun x22 x23 =>
 (aV .i64 x22 fun x24 x25 =>
 (aV .i64 x25 fun x26 x27 =>
 (tsC x27 fun x28 x29 =>
 (aT x29
 (ag x17.1 fun x30 x31 =>
 (aC .i64 x31 fun x32 x33 =>
 (ai x33 (aj x23
 (cond (!decide (x32 = 0))
 (some ([.agg [.int .i64 0, .int .i64 0, .fr (.ts [])], .one (.int .i64 x32)], [.cells [.fr (.ts x20)], .cells [.int .i64 x24, .int .i64 x26, .fr (.ts x28)]]))
 (v3[(0 : Int).toNat]?.bind fun x34 =>
 ((FF n 70 [.one (.int .i64 3), .one (.fr (.ts [(T.mk x34.k x34.n x34.kids), (T.mk x30.k x30.n x30.kids)]))] []).bind fun x35 =>
 (ag x35.1 fun x36 x37 =>
 (ai x37 (aj x35.2
 ((FF n 123 [.agg [.int .i64 x36.k, .int .i64 x36.n, .fr (.ts x36.kids)], .one (.bool true)] []).bind fun x38 =>
 (ag x38.1 fun x39 x40 =>
 (aC .i64 x40 fun x41 x42 =>
 (ai x42 (aj x38.2
 (cond (!decide (x41 = 0))
 (some ([.agg [.int .i64 0, .int .i64 0, .fr (.ts [])], .one (.int .i64 x41)], [.cells [.fr (.ts x20)], .cells [.int .i64 x24, .int .i64 x26, .fr (.ts x28)]]))
 ((FF n 57 [.one (.fr (.ts v0)), .agg [.int .i64 x39.k, .int .i64 x39.n, .fr (.ts x39.kids)]] []).bind fun x43 =>
 (ag x43.1 fun x44 x45 =>
 (aC .i64 x45 fun x46 x47 =>
 (ai x47 (aj x43.2
 (cond (!decide (x46 = 0))
 (some ([.agg [.int .i64 0, .int .i64 0, .fr (.ts [])], .one (.int .i64 x46)], [.cells [.fr (.ts x20)], .cells [.int .i64 x24, .int .i64 x26, .fr (.ts x28)]]))
 (some ([.agg [.int .i64 x39.k, .int .i64 x39.n, .fr (.ts x39.kids)], .one (.int .i64 0)], [.cells [.fr (.ts x20)], .cells [.int .i64 x24, .int .i64 x26, .fr (.ts x28)]]))))))))))))))))))))))))))))))))))))))))))))))) := by kernel_rfl
theorem eS (n : Nat) (v0 : List T) (v1 v2 : Int) (v3 : List T) (v4 v5 : Int) (v6 : List T) (v7 v8 : Int) (v9 : List T) : FF (n + 1) 128 [.agg [.fr (.ts v0), .int .i64 v1, .int .i64 v2, .fr (.ts v3), .fn 98 [0, 1]], .one (.int .i64 v4), .one (.int .i64 v5)] [.cells [.fr (.ts v6)], .cells [.int .i64 v7, .int .i64 v8, .fr (.ts v9)]] =
 ((FF n 98 [.one (.int .i64 v4), .one (.ptr 0 0), .one (.ptr 1 0)] [.cells [.fr (.ts v6)], .cells [.int .i64 v7, .int .i64 v8, .fr (.ts v9)]]).bind fun x0 =>
 (aR x0.2 fun x1 x2 =>
 (tsC x1 fun x3 x4 =>
 (aT x4
 (aR x2 fun x5 x6 =>
 (aV .i64 x5 fun x7 x8 =>
 (aV .i64 x8 fun x9 x10 =>
 (tsC x10 fun x11 x12 =>
 (aT x12
 (ag x0.1 fun x13 x14 =>
 (aC .i64 x14 fun x15 x16 =>
 (ai x16 (aj x6
 (cond (!decide (x15 = 0))
 (some ([.agg [.int .i64 0, .int .i64 0, .fr (.ts [])], .one (.int .i64 x15)], [.cells [.fr (.ts x3)], .cells [.int .i64 x7, .int .i64 x9, .fr (.ts x11)]]))
 ((FF n 119 [.agg [.int .i64 x13.k, .int .i64 x13.n, .fr (.ts x13.kids)], .one (.int .i64 v5)] []).bind fun x17 =>
 (ag x17.1 fun x18 x19 =>
 (aC .i64 x19 fun x20 x21 =>
 (ai x21 (aj x17.2
 (some ([.agg [.int .i64 x18.k, .int .i64 x18.n, .fr (.ts x18.kids)], .one (.int .i64 x20)], [.cells [.fr (.ts x3)], .cells [.int .i64 x7, .int .i64 x9, .fr (.ts x11)]]))))))))))))))))))))) := by kernel_rfl
theorem kJ (n : Nat) (v0 v1 : Int) (v2 : List T) : FF (n + 1) 130 [.agg [.int .i64 v0, .int .i64 v1, .fr (.ts v2)]] [] =
 (cond (decide ((v2.length : Int) = 0))
 (some ([.agg [.int .i64 0, .int .i64 0, .fr (.ts [])]], []))
 (v2[(0 : Int).toNat]?.bind fun x0 =>
 some ([.agg [.int .i64 x0.k, .int .i64 x0.n, .fr (.ts x0.kids)]], []))) := by kernel_rfl
theorem cD (n : Nat) (v0 : List T) (v1 v2 : Int) (v3 : List T) (v4 v5 v6 : Int) (v7 : List T) (v8 : Int) (v9 : List T) (v10 v11 : Int) (v12 : List T) : FF (n + 1) 129 [.agg [.fr (.ts v0), .int .i64 v1, .int .i64 v2, .fr (.ts v3), .fn 98 [0, 1]], .one (.int .i64 v4), .agg [.int .i64 v5, .int .i64 v6, .fr (.ts v7)], .one (.int .i64 v8)] [.cells [.fr (.ts v9)], .cells [.int .i64 v10, .int .i64 v11, .fr (.ts v12)]] =
 (cond (!decide (v8 = 0))
 (some ([.one (.int .i64 v8)], [.cells [.fr (.ts v9)], .cells [.int .i64 v10, .int .i64 v11, .fr (.ts v12)]]))
 ((FF n 125 [.agg [.fr (.ts v0), .int .i64 v1, .int .i64 v2, .fr (.ts v3), .fn 98 [0, 1]], .one (.int .i64 v4), .agg [.int .i64 v5, .int .i64 v6, .fr (.ts v7)]] [.cells [.fr (.ts v9)], .cells [.int .i64 v10, .int .i64 v11, .fr (.ts v12)]]).bind fun x0 =>
 (aR x0.2 fun x1 x2 =>
 (tsC x1 fun x3 x4 =>
 (aT x4
 (aR x2 fun x5 x6 =>
 (aV .i64 x5 fun x7 x8 =>
 (aV .i64 x8 fun x9 x10 =>
 (tsC x10 fun x11 x12 =>
 (aT x12
 (aC .i64 x0.1 fun x13 x14 =>
 (ai x14 (aj x6
 (some ([.one (.int .i64 x13)], [.cells [.fr (.ts x3)], .cells [.int .i64 x7, .int .i64 x9, .fr (.ts x11)]]))))))))))))))) := by kernel_rfl
theorem dF (n : Nat) (v0 : List T) (v1 v2 : Int) (v3 v4 : List T) (v5 v6 : Int) (v7 : List T) : FF (n + 1) 131 [.agg [.fr (.ts v0), .int .i64 v1, .int .i64 v2, .fr (.ts v3), .fn 98 [0, 1]]] [.cells [.fr (.ts v4)], .cells [.int .i64 v5, .int .i64 v6, .fr (.ts v7)]] =
 (v3[(0 : Int).toNat]?.bind fun x0 =>
 ((FF n 70 [.one (.int .i64 6), .one (.emp none)] []).bind fun x1 =>
 (ag x1.1 fun x2 x3 =>
 (ai x3 (aj x1.2
 ((FF n 162 [.agg [.fr (.ts v0), .int .i64 v1, .int .i64 v2, .fr (.ts v3), .fn 98 [0, 1]], .one (.int .i64 0), .agg [.int .i64 x2.k, .int .i64 x2.n, .fr (.ts x2.kids)]] [.cells [.fr (.ts v4)], .cells [.int .i64 v5, .int .i64 v6, .fr (.ts v7)]]).bind fun x4 =>
 (aR x4.2 fun x5 x6 =>
 (tsC x5 fun x7 x8 =>
 (aT x8
 (aR x6 fun x9 x10 =>
 (aV .i64 x9 fun x11 x12 =>
 (aV .i64 x12 fun x13 x14 =>
 (tsC x14 fun x15 x16 =>
 (aT x16
 (aC .i64 x4.1 fun x17 x18 =>
 (ai x18 (aj x10
 (cond (!decide (x17 = 0))
 (some ([.agg [.int .i64 0, .int .i64 0, .fr (.ts [])], .one (.int .i64 x17)], [.cells [.fr (.ts x7)], .cells [.int .i64 x11, .int .i64 x13, .fr (.ts x15)]]))
 ((FF n 70 [.one (.int .i64 7), .one (.emp none)] []).bind fun x19 =>
 (ag x19.1 fun x20 x21 =>
 (ai x21 (aj x19.2
 ((FF n 70 [.one (.int .i64 5), .one (.fr (.ts [(T.mk x0.k x0.n x0.kids), (T.mk x20.k x20.n x20.kids)]))] []).bind fun x22 =>
 (ag x22.1 fun x23 x24 =>
 (ai x24 (aj x22.2
 ((FF n 123 [.agg [.int .i64 x23.k, .int .i64 x23.n, .fr (.ts x23.kids)], .one (.bool true)] []).bind fun x25 =>
 (ag x25.1 fun x26 x27 =>
 (aC .i64 x27 fun x28 x29 =>
 (ai x29 (aj x25.2
 ((FF n 129 [.agg [.fr (.ts v0), .int .i64 v1, .int .i64 v2, .fr (.ts v3), .fn 98 [0, 1]], .one (.int .i64 1), .agg [.int .i64 x26.k, .int .i64 x26.n, .fr (.ts x26.kids)], .one (.int .i64 x28)] [.cells [.fr (.ts x7)], .cells [.int .i64 x11, .int .i64 x13, .fr (.ts x15)]]).bind fun x30 =>
 (aR x30.2 fun x31 x32 =>
 (tsC x31 fun x33 x34 =>
 (aT x34
 (aR x32 fun x35 x36 =>
 (aV .i64 x35 fun x37 x38 =>
 (aV .i64 x38 fun x39 x40 =>
 (tsC x40 fun x41 x42 =>
 (aT x42
 (aC .i64 x30.1 fun x43 x44 =>
 (ai x44 (aj x36
 (cond (!decide (x43 = 0))
 (some ([.agg [.int .i64 0, .int .i64 0, .fr (.ts [])], .one (.int .i64 x43)], [.cells [.fr (.ts x33)], .cells [.int .i64 x37, .int .i64 x39, .fr (.ts x41)]]))
 ((FF n 163 [.agg [.int .i64 x0.k, .int .i64 x0.n, .fr (.ts x0.kids)]] []).bind fun x45 =>
 (ag x45.1 fun x46 x47 =>
 (aC .i64 x47 fun x48 x49 =>
 (ai x49 (aj x45.2
 ((FF n 129 [.agg [.fr (.ts v0), .int .i64 v1, .int .i64 v2, .fr (.ts v3), .fn 98 [0, 1]], .one (.int .i64 2), .agg [.int .i64 x46.k, .int .i64 x46.n, .fr (.ts x46.kids)], .one (.int .i64 x48)] [.cells [.fr (.ts x33)], .cells [.int .i64 x37, .int .i64 x39, .fr (.ts x41)]]).bind fun x50 =>
 (aR x50.2 fun x51 x52 =>
 (tsC x51 fun x53 x54 =>
 (aT x54
 (aR x52 fun x55 x56 =>
 (aV .i64 x55 fun x57 x58 =>
 (aV .i64 x58 fun x59 x60 =>
 (tsC x60 fun x61 x62 =>
 (aT x62
 (aC .i64 x50.1 fun x63 x64 =>
 (ai x64 (aj x56
 (cond (!decide (x63 = 0))
 (some ([.agg [.int .i64 0, .int .i64 0, .fr (.ts [])], .one (.int .i64 x63)], [.cells [.fr (.ts x53)], .cells [.int .i64 x57, .int .i64 x59, .fr (.ts x61)]]))
 ((FF n 70 [.one (.int .i64 6), .one (.emp none)] []).bind fun x65 =>
 (ag x65.1 fun x66 x67 =>
 (ai x67 (aj x65.2
 ((FF n 125 [.agg [.fr (.ts v0), .int .i64 v1, .int .i64 v2, .fr (.ts v3), .fn 98 [0, 1]], .one (.int .i64 3), .agg [.int .i64 x66.k, .int .i64 x66.n, .fr (.ts x66.kids)]] [.cells [.fr (.ts x53)], .cells [.int .i64 x57, .int .i64 x59, .fr (.ts x61)]]).bind fun x68 =>
 (aR x68.2 fun x69 x70 =>
 (tsC x69 fun x71 x72 =>
 (aT x72
 (aR x70 fun x73 x74 =>
 (aV .i64 x73 fun x75 x76 =>
 (aV .i64 x76 fun x77 x78 =>
 (tsC x78 fun x79 x80 =>
 (aT x80
 (aC .i64 x68.1 fun x81 x82 =>
 (ai x82 (aj x74
 (cond (!decide (x81 = 0))
 (some ([.agg [.int .i64 0, .int .i64 0, .fr (.ts [])], .one (.int .i64 x81)], [.cells [.fr (.ts x71)], .cells [.int .i64 x75, .int .i64 x77, .fr (.ts x79)]]))
 (v3[(3 : Int).toNat]?.bind fun x83 =>
 ((FF n 70 [.one (.int .i64 5), .one (.fr (.ts [(T.mk x0.k x0.n x0.kids), (T.mk x83.k x83.n x83.kids)]))] []).bind fun x84 =>
 (ag x84.1 fun x85 x86 =>
 (ai x86 (aj x84.2
 ((FF n 123 [.agg [.int .i64 x85.k, .int .i64 x85.n, .fr (.ts x85.kids)], .one (.bool true)] []).bind fun x87 =>
 (ag x87.1 fun x88 x89 =>
 (aC .i64 x89 fun x90 x91 =>
 (ai x91 (aj x87.2
 (some ([.agg [.int .i64 x88.k, .int .i64 x88.n, .fr (.ts x88.kids)], .one (.int .i64 x90)], [.cells [.fr (.ts x71)], .cells [.int .i64 x75, .int .i64 x77, .fr (.ts x79)]]))))))))))))))))))))))))))))))))))))))))))))))))))))))))))))))))))))))))))))))))))))))))))) := by kernel_rfl
noncomputable def av (n c : Nat) (v0 v1 v2 : Int) (v3 : List T) (v4 v5 : Int) (v6 v7 : List T) (v8 v9 : Int) (v10 : List T) (v11 v12 : Int) (v13 : List T) : OR := bj Tryz.prog SS n 132 2 [1, 1, 0, 1, 0] [] c ⟨[aa, .v (.one (.ptr 2 0)), .v (.one (.ptr 3 0)), aa, .v (.one (.int .i64 v0)), .v (.one (.int .i64 v1)), .v (.one (.int .i64 v2)), aa, aa, aa, aa, aa, aa, aa, aa, aa, aa, aa, aa, aa, aa, aa, aa, aa, aa, aa, aa, aa, aa, aa, aa, aa, aa, aa],
 [.cells [.fr (.ts v3)], .cells [.int .i64 v4, .int .i64 v5, .fr (.ts v6)], .cells [.fr (.ts v7), .int .i64 v8, .int .i64 v9, .fr (.ts v10), .fn 98 [0, 1]], .cells [.int .i64 v11, .int .i64 v12, .own 4 0], .arr 25 (.ts v13) 0 false]⟩
theorem aI (n c : Nat) (v0 v1 v2 : Int) (v3 : List T) (v4 v5 : Int) (v6 v7 : List T) (v8 v9 : Int) (v10 : List T) (v11 v12 : Int) (v13 : List T) : av n (c + 1) v0 v1 v2 v3 v4 v5 v6 v7 v8 v9 v10 v11 v12 v13 =
 (cond (decide (v2 ≤ 2))
 (cond (decide (v1 = 0))
 (v10[(0 : Int).toNat]?.bind fun x0 =>
 ((FF n 125 [.agg [.fr (.ts v7), .int .i64 v8, .int .i64 v9, .fr (.ts v10), .fn 98 [0, 1]], .one (.int .i64 v2), .agg [.int .i64 x0.k, .int .i64 x0.n, .fr (.ts x0.kids)]] [.cells [.fr (.ts v3)], .cells [.int .i64 v4, .int .i64 v5, .fr (.ts v6)]]).bind fun x1 =>
 (aR x1.2 fun x2 x3 =>
 (tsC x2 fun x4 x5 =>
 (aT x5
 (aR x3 fun x6 x7 =>
 (aV .i64 x6 fun x8 x9 =>
 (aV .i64 x9 fun x10 x11 =>
 (tsC x11 fun x12 x13 =>
 (aT x13
 (aC .i64 x1.1 fun x14 x15 =>
 (ai x15 (aj x7
 (av n c v0 x14 (IntKind.i64.wrap (v2 + 1)) x4 x8 x10 x12 v7 v8 v9 v10 v11 v12 v13))))))))))))))
 (cond (!decide (v1 = 0))
 (some ([.agg [.int .i64 0, .int .i64 0, .fr (.ts [])], .one (.int .i64 v1)], [.cells [.fr (.ts v3)], .cells [.int .i64 v4, .int .i64 v5, .fr (.ts v6)]]))
 ((FF n 124 [.one (.int .i64 v0)] []).bind fun x0 =>
 (ag x0.1 fun x1 x2 =>
 (ai x2 (aj x0.2
 (some ([.agg [.int .i64 x1.k, .int .i64 x1.n, .fr (.ts x1.kids)], .one (.int .i64 0)], [.cells [.fr (.ts v3)], .cells [.int .i64 v4, .int .i64 v5, .fr (.ts v6)]]))))))))
 (cond (!decide (v1 = 0))
 (some ([.agg [.int .i64 0, .int .i64 0, .fr (.ts [])], .one (.int .i64 v1)], [.cells [.fr (.ts v3)], .cells [.int .i64 v4, .int .i64 v5, .fr (.ts v6)]]))
 ((FF n 124 [.one (.int .i64 v0)] []).bind fun x0 =>
 (ag x0.1 fun x1 x2 =>
 (ai x2 (aj x0.2
 (some ([.agg [.int .i64 x1.k, .int .i64 x1.n, .fr (.ts x1.kids)], .one (.int .i64 0)], [.cells [.fr (.ts v3)], .cells [.int .i64 v4, .int .i64 v5, .fr (.ts v6)]])))))))) := by kernel_rfl
theorem dP (n : Nat) (v0 : List T) (v1 v2 : Int) (v3 v4 : List T) (v5 v6 : Int) (v7 : List T) : FF (n + 1) 132 [.agg [.fr (.ts v0), .int .i64 v1, .int .i64 v2, .fr (.ts v3), .fn 98 [0, 1]]] [.cells [.fr (.ts v4)], .cells [.int .i64 v5, .int .i64 v6, .fr (.ts v7)]] =
 ((FF n 161 [.agg [.fr (.ts v0), .int .i64 v1, .int .i64 v2, .fr (.ts v3), .fn 98 [0, 1]], .one (.int .i64 0)] [.cells [.fr (.ts v4)], .cells [.int .i64 v5, .int .i64 v6, .fr (.ts v7)]]).bind fun x0 =>
 (aR x0.2 fun x1 x2 =>
 (tsC x1 fun x3 x4 =>
 (aT x4
 (aR x2 fun x5 x6 =>
 (aV .i64 x5 fun x7 x8 =>
 (aV .i64 x8 fun x9 x10 =>
 (tsC x10 fun x11 x12 =>
 (aT x12
 (aC .i64 x0.1 fun x13 x14 =>
 (aC .i64 x14 fun x15 x16 =>
 (ai x16 (aj x6
 (av n n x13 x15 1 x3 x7 x9 x11 v0 v1 v2 v3 0 0 ([]))))))))))))))) := by kernel_rfl
theorem jH (n : Nat) (v0 : Int) (v1 : List T) (v2 v3 : Int) (v4 : List T) : FF (n + 1) 98 [.one (.int .i64 v0), .one (.ptr 0 0), .one (.ptr 1 0)] [.cells [.fr (.ts v1)], .cells [.int .i64 v2, .int .i64 v3, .fr (.ts v4)]] =
 ((FF n 99 [.one (.fr (.ts v1)), .agg [.int .i64 v2, .int .i64 v3, .fr (.ts v4)], .one (.int .i64 v0)] []).bind fun x0 =>
 (rTs x0.1 fun x1 x2 =>
 (aC .i64 x2 fun x3 x4 =>
 (ai x4 (aj x0.2
 (cond (!decide (x3 = 0))
 (some ([.agg [.int .i64 0, .int .i64 0, .fr (.ts [])], .one (.int .i64 x3)], [.cells [.fr (.ts v1)], .cells [.int .i64 v2, .int .i64 v3, .fr (.ts v4)]]))
 (cond (decide (0 ≤ v0))
 (v4[(v0 : Int).toNat]?.bind fun x5 =>
 ((FF n 57 [.one (.fr (.ts x1)), .agg [.int .i64 x5.k, .int .i64 x5.n, .fr (.ts x5.kids)]] []).bind fun x6 =>
 (ag x6.1 fun x7 x8 =>
 (aC .i64 x8 fun x9 x10 =>
 (ai x10 (aj x6.2
 (some ([.agg [.int .i64 x7.k, .int .i64 x7.n, .fr (.ts x7.kids)], .one (.int .i64 x9)], [.cells [.fr (.ts v1)], .cells [.int .i64 v2, .int .i64 v3, .fr (.ts v4)]]))))))))
 none))))))) := by kernel_rfl
theorem eL (n : Nat) (v0 : List T) (v1 v2 : Int) (v3 v4 : List T) (v5 v6 : Int) (v7 : List T) : FF (n + 1) 133 [.agg [.fr (.ts v0), .int .i64 v1, .int .i64 v2, .fr (.ts v3), .fn 98 [0, 1]]] [.cells [.fr (.ts v4)], .cells [.int .i64 v5, .int .i64 v6, .fr (.ts v7)]] =
 ((FF n 128 [.agg [.fr (.ts v0), .int .i64 v1, .int .i64 v2, .fr (.ts v3), .fn 98 [0, 1]], .one (.int .i64 1), .one (.int .i64 10)] [.cells [.fr (.ts v4)], .cells [.int .i64 v5, .int .i64 v6, .fr (.ts v7)]]).bind fun x0 =>
 (aR x0.2 fun x1 x2 =>
 (tsC x1 fun x3 x4 =>
 (aT x4
 (aR x2 fun x5 x6 =>
 (aV .i64 x5 fun x7 x8 =>
 (aV .i64 x8 fun x9 x10 =>
 (tsC x10 fun x11 x12 =>
 (aT x12
 (ag x0.1 fun x13 x14 =>
 (aC .i64 x14 fun x15 x16 =>
 (ai x16 (aj x6
 (cond (!decide (x15 = 0))
 (some ([.agg [.int .i64 0, .int .i64 0, .fr (.ts [])], .one (.int .i64 x15)], [.cells [.fr (.ts x3)], .cells [.int .i64 x7, .int .i64 x9, .fr (.ts x11)]]))
 ((x13.kids)[(0 : Int).toNat]?.bind fun x17 =>
 ((FF n 162 [.agg [.fr (.ts v0), .int .i64 v1, .int .i64 v2, .fr (.ts v3), .fn 98 [0, 1]], .one (.int .i64 0), .agg [.int .i64 x17.k, .int .i64 x17.n, .fr (.ts x17.kids)]] [.cells [.fr (.ts x3)], .cells [.int .i64 x7, .int .i64 x9, .fr (.ts x11)]]).bind fun x18 =>
 (aR x18.2 fun x19 x20 =>
 (tsC x19 fun x21 x22 =>
 (aT x22
 (aR x20 fun x23 x24 =>
 (aV .i64 x23 fun x25 x26 =>
 (aV .i64 x26 fun x27 x28 =>
 (tsC x28 fun x29 x30 =>
 (aT x30
 (aC .i64 x18.1 fun x31 x32 =>
 (ai x32 (aj x24
 (cond (!decide (x31 = 0))
 (some ([.agg [.int .i64 0, .int .i64 0, .fr (.ts [])], .one (.int .i64 x31)], [.cells [.fr (.ts x21)], .cells [.int .i64 x25, .int .i64 x27, .fr (.ts x29)]]))
 (v3[(0 : Int).toNat]?.bind fun x33 =>
 ((x13.kids)[(1 : Int).toNat]?.bind fun x34 =>
 ((FF n 70 [.one (.int .i64 5), .one (.fr (.ts [(T.mk x33.k x33.n x33.kids), (T.mk x34.k x34.n x34.kids)]))] []).bind fun x35 =>
 (ag x35.1 fun x36 x37 =>
 (ai x37 (aj x35.2
 ((FF n 123 [.agg [.int .i64 x36.k, .int .i64 x36.n, .fr (.ts x36.kids)], .one (.bool true)] []).bind fun x38 =>
 (ag x38.1 fun x39 x40 =>
 (aC .i64 x40 fun x41 x42 =>
 (ai x42 (aj x38.2
 ((FF n 129 [.agg [.fr (.ts v0), .int .i64 v1, .int .i64 v2, .fr (.ts v3), .fn 98 [0, 1]], .one (.int .i64 2), .agg [.int .i64 x39.k, .int .i64 x39.n, .fr (.ts x39.kids)], .one (.int .i64 x41)] [.cells [.fr (.ts x21)], .cells [.int .i64 x25, .int .i64 x27, .fr (.ts x29)]]).bind fun x43 =>
 (aR x43.2 fun x44 x45 =>
 (tsC x44 fun x46 x47 =>
 (aT x47
 (aR x45 fun x48 x49 =>
 (aV .i64 x48 fun x50 x51 =>
 (aV .i64 x51 fun x52 x53 =>
 (tsC x53 fun x54 x55 =>
 (aT x55
 (aC .i64 x43.1 fun x56 x57 =>
 (ai x57 (aj x49
 (cond (!decide (x56 = 0))
 (some ([.agg [.int .i64 0, .int .i64 0, .fr (.ts [])], .one (.int .i64 x56)], [.cells [.fr (.ts x46)], .cells [.int .i64 x50, .int .i64 x52, .fr (.ts x54)]]))
 ((x13.kids)[(2 : Int).toNat]?.bind fun x58 =>
 ((FF n 70 [.one (.int .i64 5), .one (.fr (.ts [(T.mk x33.k x33.n x33.kids), (T.mk x58.k x58.n x58.kids)]))] []).bind fun x59 =>
 (ag x59.1 fun x60 x61 =>
 (ai x61 (aj x59.2
 ((FF n 123 [.agg [.int .i64 x60.k, .int .i64 x60.n, .fr (.ts x60.kids)], .one (.bool true)] []).bind fun x62 =>
 (ag x62.1 fun x63 x64 =>
 (aC .i64 x64 fun x65 x66 =>
 (ai x66 (aj x62.2
 (some ([.agg [.int .i64 x63.k, .int .i64 x63.n, .fr (.ts x63.kids)], .one (.int .i64 x65)], [.cells [.fr (.ts x46)], .cells [.int .i64 x50, .int .i64 x52, .fr (.ts x54)]])))))))))))))))))))))))))))))))))))))))))))))))))))))))))))))))) := by kernel_rfl
theorem eh (n : Nat) (v0 : List T) (v1 v2 : Int) (v3 v4 : List T) (v5 v6 : Int) (v7 : List T) : FF (n + 1) 134 [.agg [.fr (.ts v0), .int .i64 v1, .int .i64 v2, .fr (.ts v3), .fn 98 [0, 1]]] [.cells [.fr (.ts v4)], .cells [.int .i64 v5, .int .i64 v6, .fr (.ts v7)]] =
 ((FF n 161 [.agg [.fr (.ts v0), .int .i64 v1, .int .i64 v2, .fr (.ts v3), .fn 98 [0, 1]], .one (.int .i64 0)] [.cells [.fr (.ts v4)], .cells [.int .i64 v5, .int .i64 v6, .fr (.ts v7)]]).bind fun x0 =>
 (aR x0.2 fun x1 x2 =>
 (tsC x1 fun x3 x4 =>
 (aT x4
 (aR x2 fun x5 x6 =>
 (aV .i64 x5 fun x7 x8 =>
 (aV .i64 x8 fun x9 x10 =>
 (tsC x10 fun x11 x12 =>
 (aT x12
 (aC .i64 x0.1 fun x13 x14 =>
 (aC .i64 x14 fun x15 x16 =>
 (ai x16 (aj x6
 (cond (!decide (x15 = 0))
 (some ([.agg [.int .i64 0, .int .i64 0, .fr (.ts [])], .one (.int .i64 x15)], [.cells [.fr (.ts x3)], .cells [.int .i64 x7, .int .i64 x9, .fr (.ts x11)]]))
 (v3[(0 : Int).toNat]?.bind fun x17 =>
 ((FF n 119 [.agg [.int .i64 x17.k, .int .i64 x17.n, .fr (.ts x17.kids)], .one (.int .i64 13)] []).bind fun x18 =>
 (ag x18.1 fun x19 x20 =>
 (aC .i64 x20 fun x21 x22 =>
 (ai x22 (aj x18.2
 ((FF n 130 [.agg [.int .i64 x19.k, .int .i64 x19.n, .fr (.ts x19.kids)]] []).bind fun x23 =>
 (ag x23.1 fun x24 x25 =>
 (ai x25 (aj x23.2
 ((FF n 129 [.agg [.fr (.ts v0), .int .i64 v1, .int .i64 v2, .fr (.ts v3), .fn 98 [0, 1]], .one (.int .i64 1), .agg [.int .i64 x24.k, .int .i64 x24.n, .fr (.ts x24.kids)], .one (.int .i64 x21)] [.cells [.fr (.ts x3)], .cells [.int .i64 x7, .int .i64 x9, .fr (.ts x11)]]).bind fun x26 =>
 (aR x26.2 fun x27 x28 =>
 (tsC x27 fun x29 x30 =>
 (aT x30
 (aR x28 fun x31 x32 =>
 (aV .i64 x31 fun x33 x34 =>
 (aV .i64 x34 fun x35 x36 =>
 (tsC x36 fun x37 x38 =>
 (aT x38
 (aC .i64 x26.1 fun x39 x40 =>
 (ai x40 (aj x32
 (cond (!decide (x39 = 0))
 (some ([.agg [.int .i64 0, .int .i64 0, .fr (.ts [])], .one (.int .i64 x39)], [.cells [.fr (.ts x29)], .cells [.int .i64 x33, .int .i64 x35, .fr (.ts x37)]]))
 ((x19.kids)[(1 : Int).toNat]?.bind fun x41 =>
 (v3[(1 : Int).toNat]?.bind fun x42 =>
 ((FF n 97 [.agg [.int .i64 x41.k, .int .i64 x41.n, .fr (.ts x41.kids)], .one (.int .i64 0), .agg [.int .i64 x42.k, .int .i64 x42.n, .fr (.ts x42.kids)]] []).bind fun x43 =>
 (ag x43.1 fun x44 x45 =>
 (aK x45 fun x46 x47 =>
 (ai x47 (aj x43.2
 ((FF n 123 [.agg [.int .i64 x44.k, .int .i64 x44.n, .fr (.ts x44.kids)], .one (.bool x46)] []).bind fun x48 =>
 (ag x48.1 fun x49 x50 =>
 (aC .i64 x50 fun x51 x52 =>
 (ai x52 (aj x48.2
 ((FF n 129 [.agg [.fr (.ts v0), .int .i64 v1, .int .i64 v2, .fr (.ts v3), .fn 98 [0, 1]], .one (.int .i64 2), .agg [.int .i64 x49.k, .int .i64 x49.n, .fr (.ts x49.kids)], .one (.int .i64 x51)] [.cells [.fr (.ts x29)], .cells [.int .i64 x33, .int .i64 x35, .fr (.ts x37)]]).bind fun x53 =>
 (aR x53.2 fun x54 x55 =>
 (tsC x54 fun x56 x57 =>
 (aT x57
 (aR x55 fun x58 x59 =>
 (aV .i64 x58 fun x60 x61 =>
 (aV .i64 x61 fun x62 x63 =>
 (tsC x63 fun x64 x65 =>
 (aT x65
 (aC .i64 x53.1 fun x66 x67 =>
 (ai x67 (aj x59
 (cond (!decide (x66 = 0))
 (some ([.agg [.int .i64 0, .int .i64 0, .fr (.ts [])], .one (.int .i64 x66)], [.cells [.fr (.ts x56)], .cells [.int .i64 x60, .int .i64 x62, .fr (.ts x64)]]))
 (v3[(0 : Int).toNat]?.bind fun x68 =>
 some ([.agg [.int .i64 x68.k, .int .i64 x68.n, .fr (.ts x68.kids)], .one (.int .i64 0)], [.cells [.fr (.ts x56)], .cells [.int .i64 x60, .int .i64 x62, .fr (.ts x64)]])))))))))))))))))))))))))))))))))))))))))))))))))))))))))))))))) := by kernel_rfl
theorem cz (n : Nat) (v0 : List T) (v1 v2 : Int) (v3 v4 : List T) (v5 v6 : Int) (v7 : List T) : FF (n + 1) 135 [.agg [.fr (.ts v0), .int .i64 v1, .int .i64 v2, .fr (.ts v3), .fn 98 [0, 1]]] [.cells [.fr (.ts v4)], .cells [.int .i64 v5, .int .i64 v6, .fr (.ts v7)]] =
 ((FF n 128 [.agg [.fr (.ts v0), .int .i64 v1, .int .i64 v2, .fr (.ts v3), .fn 98 [0, 1]], .one (.int .i64 0), .one (.int .i64 13)] [.cells [.fr (.ts v4)], .cells [.int .i64 v5, .int .i64 v6, .fr (.ts v7)]]).bind fun x0 =>
 (aR x0.2 fun x1 x2 =>
 (tsC x1 fun x3 x4 =>
 (aT x4
 (aR x2 fun x5 x6 =>
 (aV .i64 x5 fun x7 x8 =>
 (aV .i64 x8 fun x9 x10 =>
 (tsC x10 fun x11 x12 =>
 (aT x12
 (ag x0.1 fun x13 x14 =>
 (aC .i64 x14 fun x15 x16 =>
 (ai x16 (aj x6
 (cond (!decide (x15 = 0))
 (some ([.agg [.int .i64 0, .int .i64 0, .fr (.ts [])], .one (.int .i64 x15)], [.cells [.fr (.ts x3)], .cells [.int .i64 x7, .int .i64 x9, .fr (.ts x11)]]))
 (cond (decide (v1 = 15))
 ((x13.kids)[(0 : Int).toNat]?.bind fun x17 =>
 some ([.agg [.int .i64 x17.k, .int .i64 x17.n, .fr (.ts x17.kids)], .one (.int .i64 0)], [.cells [.fr (.ts x3)], .cells [.int .i64 x7, .int .i64 x9, .fr (.ts x11)]]))
 ((x13.kids)[(1 : Int).toNat]?.bind fun x17 =>
 (v3[(0 : Int).toNat]?.bind fun x18 =>
 ((FF n 70 [.one (.int .i64 15), .one (.fr (.ts [(T.mk x18.k x18.n x18.kids)]))] []).bind fun x19 =>
 (ag x19.1 fun x20 x21 =>
 (ai x21 (aj x19.2
 ((FF n 97 [.agg [.int .i64 x17.k, .int .i64 x17.n, .fr (.ts x17.kids)], .one (.int .i64 0), .agg [.int .i64 x20.k, .int .i64 x20.n, .fr (.ts x20.kids)]] []).bind fun x22 =>
 (ag x22.1 fun x23 x24 =>
 (aK x24 fun x25 x26 =>
 (ai x26 (aj x22.2
 ((FF n 123 [.agg [.int .i64 x23.k, .int .i64 x23.n, .fr (.ts x23.kids)], .one (.bool x25)] []).bind fun x27 =>
 (ag x27.1 fun x28 x29 =>
 (aC .i64 x29 fun x30 x31 =>
 (ai x31 (aj x27.2
 (some ([.agg [.int .i64 x28.k, .int .i64 x28.n, .fr (.ts x28.kids)], .one (.int .i64 x30)], [.cells [.fr (.ts x3)], .cells [.int .i64 x7, .int .i64 x9, .fr (.ts x11)]]))))))))))))))))))))))))))))))))) := by kernel_rfl
theorem oC (n : Nat) (v0 : Int) : FF (n + 1) 136 [.one (.int .i64 v0)] [] =
 ((FF n 60 [.one (.int .i64 v0), .one (.int .i64 1), .one (.int .i64 16)] []).bind fun x0 =>
 (aK x0.1 fun x1 x2 =>
 (ai x2 (aj x0.2
 (cond (!x1)
 (some ([.one (.int .i64 (-1))], []))
 (cond (decide (0 ≤ (IntKind.i64.wrap (v0 - 1))))
 (cond (decide ((IntKind.i64.wrap (v0 - 1)) < (([0, 0, 2, 2, 2, 0, 0, 1, 4, 3, 1, 3, 2, 3, 1, 1]).length : Int)))
 (([0, 0, 2, 2, 2, 0, 0, 1, 4, 3, 1, 3, 2, 3, 1, 1])[((IntKind.i64.wrap (v0 - 1)) : Int).toNat]?.bind fun x3 =>
 some ([.one (.int .i64 x3)], []))
 none)
 none)))))) := by kernel_rfl
theorem xl (n : Nat) (v0 : Int) : FF (n + 1) 137 [.one (.int .i64 v0)] [] =
 (cond (decide (v0 = 1))
 (some ([.one (.int .i64 20)], []))
 (cond (decide (v0 = 2))
 (some ([.one (.int .i64 3)], []))
 (some ([.one (.int .i64 0)], [])))) := by kernel_rfl
theorem uZ (n : Nat) (v0 v1 : Int) : FF (n + 1) 121 [.one (.int .i64 v0), .one (.int .i64 v1)] [] =
 (cond (decide (v1 = 1))
 ((FF n 159 [.one (.int .i64 v0)] []).bind fun x0 =>
 (aK x0.1 fun x1 x2 =>
 (ai x2 (aj x0.2
 (cond x1
 (some ([.one (.int .i64 1)], []))
 (some ([.one (.int .i64 0)], [])))))))
 (some ([.one (.int .i64 0)], []))) := by kernel_rfl
theorem rW (n : Nat) (v0 : Int) : FF (n + 1) 138 [.one (.int .i64 v0)] [] =
 (cond (decide (v0 = 1))
 (some ([.one (.int .i64 0)], []))
 (cond (decide (v0 = 2))
 (some ([.one (.int .i64 0)], []))
 (cond (decide (v0 = 6))
 (some ([.one (.int .i64 0)], []))
 (cond (decide (v0 = 7))
 (some ([.one (.int .i64 0)], []))
 (cond (decide (v0 = 8))
 (some ([.one (.int .i64 1)], []))
 (cond (decide (v0 = 11))
 (some ([.one (.int .i64 1)], []))
 (cond (decide (v0 = 15))
 (some ([.one (.int .i64 1)], []))
 (cond (decide (v0 = 16))
 (some ([.one (.int .i64 1)], []))
 (cond (decide (v0 = 3))
 (some ([.one (.int .i64 2)], []))
 (cond (decide (v0 = 4))
 (some ([.one (.int .i64 2)], []))
 (cond (decide (v0 = 5))
 (some ([.one (.int .i64 2)], []))
 (cond (decide (v0 = 13))
 (some ([.one (.int .i64 2)], []))
 (cond (decide (v0 = 10))
 (some ([.one (.int .i64 3)], []))
 (cond (decide (v0 = 12))
 (some ([.one (.int .i64 3)], []))
 (cond (decide (v0 = 14))
 (some ([.one (.int .i64 3)], []))
 (cond (decide (v0 = 9))
 (some ([.one (.int .i64 4)], []))
 (some ([.one (.int .i64 (-1))], [])))))))))))))))))) := by kernel_rfl
theorem sF (n : Nat) (v0 : Int) : FF (n + 1) 139 [.one (.int .i64 v0)] [] =
 (cond (decide (v0 = 1))
 (some ([.one (.int .i64 20)], []))
 (cond (decide (v0 = 2))
 (some ([.one (.int .i64 3)], []))
 (some ([.one (.int .i64 0)], [])))) := by kernel_rfl
noncomputable def b9 (n c : Nat) (v0 v1 v2 : Int) (v3 : List T) (v4 v5 : Int) (v6 : List T) : OR := bj Tryz.prog SS n 140 0 [1, 0] [] c ⟨[aa, .v (.one (.int .i64 v0)), .v (.one (.ptr 0 0)), aa, .v (.one (.ptr 1 0)), aa, aa, aa, aa, aa, aa, aa, aa, aa, aa, aa, aa, aa, aa, aa, aa, aa, aa, aa, aa, aa, aa],
 [.cells [.int .i64 v1, .int .i64 v2, .fr (.ts v3)], .cells [.int .i64 v4, .int .i64 v5, .own 2 0], .arr 25 (.ts v6) 0 false]⟩
theorem iW (n c : Nat) (v0 v1 v2 : Int) (v3 : List T) (v4 v5 : Int) (v6 : List T) : b9 n (c + 1) v0 v1 v2 v3 v4 v5 v6 =
 ((FF n 164 [.agg [.int .i64 v1, .int .i64 v2, .fr (.ts v3)]] []).bind fun x0 =>
 (ag x0.1 fun x1 x2 =>
 (aK x2 fun x3 x4 =>
 (ai x4 (aj x0.2
 (cond (!x3)
 ((FF n 90 [.agg [.int .i64 v1, .int .i64 v2, .fr (.ts v3)]] []).bind fun x5 =>
 (fL 0 x5.1 fun x6 x7 x8 =>
 (ck 25 x5.2 fun x9 x10 =>
 (ai x8 (aj x10
 (some ([.agg [.int .i64 x6, .int .i64 x7, .fr (.ts x9)], .one (.int .i64 0)], [])))))))
 (cond (decide (v0 < 1))
 (some ([.agg [.int .i64 0, .int .i64 0, .fr (.ts [])], .one (.int .i64 1)], []))
 ((FF n 65 [.agg [.int .i64 x1.k, .int .i64 x1.n, .fr (.ts x1.kids)]] []).bind fun x5 =>
 (aK x5.1 fun x6 x7 =>
 (ai x7 (aj x5.2
 (cond (!x6)
 (some ([.agg [.int .i64 0, .int .i64 0, .fr (.ts [])], .one (.int .i64 2)], []))
 (b9 n c (IntKind.i64.wrap (v0 - 1)) (x1.k) (x1.n) (x1.kids) v4 v5 v6))))))))))))) := by kernel_rfl
theorem qG (n : Nat) (v0 v1 : Int) (v2 : List T) (v3 : Int) : FF (n + 1) 140 [.agg [.int .i64 v0, .int .i64 v1, .fr (.ts v2)], .one (.int .i64 v3)] [] =
 b9 n n v3 v0 v1 v2 0 0 ([]) := by kernel_rfl
theorem pE (n : Nat) (v0 v1 v2 v3 : Int) (v4 : Bool) : FF (n + 1) 110 [.one (.int .i64 v0), .one (.int .i64 v1), .one (.ptr 0 0), .one (.ptr 1 0), .one (.ptr 2 0)] [.cells [.int .i64 v2], .cells [.int .i64 v3], .cells [.bool v4]] =
 (cond (decide (v2 ≤ (IntKind.i64.wrap (v0 - v1))))
 (cond v4
 (cond (decide (v2 ≤ (IntKind.i64.wrap ((IntKind.i64.wrap (v0 + v3)) - v1))))
 ((FF n 68 [.one (.int .i64 (IntKind.i64.wrap (v0 + v3)))] []).bind fun x0 =>
 (ag x0.1 fun x1 x2 =>
 (ai x2 (aj x0.2
 (some ([.agg [.int .i64 x1.k, .int .i64 x1.n, .fr (.ts x1.kids)]], [.cells [.int .i64 v2], .cells [.int .i64 v3], .cells [.bool (decide ((IntKind.i64.wrap (v0 + v3)) ≤ 20))]]))))))
 ((FF n 68 [.one (.int .i64 (IntKind.i64.wrap (v0 + v3)))] []).bind fun x0 =>
 (ag x0.1 fun x1 x2 =>
 (ai x2 (aj x0.2
 (some ([.agg [.int .i64 x1.k, .int .i64 x1.n, .fr (.ts x1.kids)]], [.cells [.int .i64 v2], .cells [.int .i64 v3], .cells [.bool false]])))))))
 ((FF n 68 [.one (.int .i64 (IntKind.i64.wrap (v0 + v3)))] []).bind fun x0 =>
 (ag x0.1 fun x1 x2 =>
 (ai x2 (aj x0.2
 (some ([.agg [.int .i64 x1.k, .int .i64 x1.n, .fr (.ts x1.kids)]], [.cells [.int .i64 v2], .cells [.int .i64 v3], .cells [.bool false]])))))))
 ((FF n 68 [.one (.int .i64 v0)] []).bind fun x0 =>
 (ag x0.1 fun x1 x2 =>
 (ai x2 (aj x0.2
 (some ([.agg [.int .i64 x1.k, .int .i64 x1.n, .fr (.ts x1.kids)]], [.cells [.int .i64 v2], .cells [.int .i64 v3], .cells [.bool v4]]))))))) := by kernel_rfl
theorem pD (n : Nat) (v0 : List T) (v1 v2 : Int) (v3 : List T) : FF (n + 1) 141 [.one (.fr (.ts v0)), .agg [.int .i64 v1, .int .i64 v2, .fr (.ts v3)]] [] =
 (v3[(0 : Int).toNat]?.bind fun x0 =>
 ((FF n 72 [.one (.fr (.ts v0)), .agg [.int .i64 x0.k, .int .i64 x0.n, .fr (.ts x0.kids)]] []).bind fun x1 =>
 (aC .i64 x1.1 fun x2 x3 =>
 (aC .i64 x3 fun x4 x5 =>
 (ai x5 (aj x1.2
 (cond (!decide (x4 = 0))
 (some ([.agg [.int .i64 0, .int .i64 0, .fr (.ts [])], .one (.int .i64 x4)], []))
 (v3[(0 : Int).toNat]?.bind fun x6 =>
 ((FF n 165 [.one (.fr (.ts v0)), .agg [.int .i64 x6.k, .int .i64 x6.n, .fr (.ts x6.kids)]] []).bind fun x7 =>
 (rTs x7.1 fun x8 x9 =>
 (ai x9 (aj x7.2
 (v3[(1 : Int).toNat]?.bind fun x10 =>
 ((FF n 72 [.one (.fr (.ts x8)), .agg [.int .i64 x10.k, .int .i64 x10.n, .fr (.ts x10.kids)]] []).bind fun x11 =>
 (aC .i64 x11.1 fun x12 x13 =>
 (aC .i64 x13 fun x14 x15 =>
 (ai x15 (aj x11.2
 (cond (!decide (x14 = 0))
 (some ([.agg [.int .i64 0, .int .i64 0, .fr (.ts [])], .one (.int .i64 x14)], []))
 ((FF n 166 [.one (.int .i64 x2), .one (.int .i64 x12)] []).bind fun x16 =>
 (aC .i64 x16.1 fun x17 x18 =>
 (ai x18 (aj x16.2
 ((FF n 82 [.one (.int .i64 2), .one (.int .i64 x17)] []).bind fun x19 =>
 (ag x19.1 fun x20 x21 =>
 (ai x21 (aj x19.2
 (some ([.agg [.int .i64 x20.k, .int .i64 x20.n, .fr (.ts x20.kids)], .one (.int .i64 0)], []))))))))))))))))))))))))))))) := by kernel_rfl
theorem uy (n : Nat) (v0 : List T) (v1 v2 : Int) (v3 : List T) : FF (n + 1) 142 [.one (.fr (.ts v0)), .agg [.int .i64 v1, .int .i64 v2, .fr (.ts v3)]] [] =
 (v3[(0 : Int).toNat]?.bind fun x0 =>
 ((FF n 72 [.one (.fr (.ts v0)), .agg [.int .i64 x0.k, .int .i64 x0.n, .fr (.ts x0.kids)]] []).bind fun x1 =>
 (aC .i64 x1.1 fun x2 x3 =>
 (aC .i64 x3 fun x4 x5 =>
 (ai x5 (aj x1.2
 (cond (!decide (x4 = 0))
 (some ([.agg [.int .i64 0, .int .i64 0, .fr (.ts [])], .one (.int .i64 x4)], []))
 (v3[(0 : Int).toNat]?.bind fun x6 =>
 ((FF n 165 [.one (.fr (.ts v0)), .agg [.int .i64 x6.k, .int .i64 x6.n, .fr (.ts x6.kids)]] []).bind fun x7 =>
 (rTs x7.1 fun x8 x9 =>
 (ai x9 (aj x7.2
 (v3[(1 : Int).toNat]?.bind fun x10 =>
 ((FF n 74 [.one (.fr (.ts x8)), .agg [.int .i64 x10.k, .int .i64 x10.n, .fr (.ts x10.kids)]] []).bind fun x11 =>
 (ag x11.1 fun x12 x13 =>
 (aC .i64 x13 fun x14 x15 =>
 (ai x15 (aj x11.2
 (cond (!decide (x14 = 0))
 (some ([.agg [.int .i64 0, .int .i64 0, .fr (.ts [])], .one (.int .i64 x14)], []))
 (v3[(0 : Int).toNat]?.bind fun x16 =>
 ((FF n 81 [.one (.int .i64 3), .one (.fr (.ts [(T.mk x16.k x16.n x16.kids), (T.mk x12.k x12.n x12.kids)]))] []).bind fun x17 =>
 (ag x17.1 fun x18 x19 =>
 (ai x19 (aj x17.2
 ((FF n 141 [.one (.fr (.ts v0)), .agg [.int .i64 x18.k, .int .i64 x18.n, .fr (.ts x18.kids)]] []).bind fun x20 =>
 (ag x20.1 fun x21 x22 =>
 (aC .i64 x22 fun x23 x24 =>
 (ai x24 (aj x20.2
 (some ([.agg [.int .i64 x18.k, .int .i64 x18.n, .fr (.ts x18.kids)], .one (.int .i64 x23)], []))))))))))))))))))))))))))))))) := by kernel_rfl
theorem u0 (n : Nat) (v0 : List T) (v1 v2 : Int) (v3 : List T) : FF (n + 1) 143 [.one (.fr (.ts v0)), .agg [.int .i64 v1, .int .i64 v2, .fr (.ts v3)]] [] =
 (v3[(0 : Int).toNat]?.bind fun x0 =>
 ((FF n 167 [.one (.fr (.ts v0)), .agg [.int .i64 x0.k, .int .i64 x0.n, .fr (.ts x0.kids)], .one (.int .i64 3)] []).bind fun x1 =>
 (ag x1.1 fun x2 x3 =>
 (aC .i64 x3 fun x4 x5 =>
 (ai x5 (aj x1.2
 (cond (!decide (x4 = 0))
 (some ([.agg [.int .i64 0, .int .i64 0, .fr (.ts [])], .one (.int .i64 x4)], []))
 (v3[(1 : Int).toNat]?.bind fun x6 =>
 ((x2.kids)[(0 : Int).toNat]?.bind fun x7 =>
 ((FF n 85 [.one (.fr (.ts v0)), .agg [.int .i64 x6.k, .int .i64 x6.n, .fr (.ts x6.kids)], .agg [.int .i64 x7.k, .int .i64 x7.n, .fr (.ts x7.kids)]] []).bind fun x8 =>
 (aC .i64 x8.1 fun x9 x10 =>
 (ai x10 (aj x8.2
 (cond (!decide (x9 = 0))
 (some ([.agg [.int .i64 0, .int .i64 0, .fr (.ts [])], .one (.int .i64 x9)], []))
 ((x2.kids)[(1 : Int).toNat]?.bind fun x11 =>
 (v3[(1 : Int).toNat]?.bind fun x12 =>
 ((FF n 168 [.agg [.int .i64 x11.k, .int .i64 x11.n, .fr (.ts x11.kids)], .one (.int .i64 0), .agg [.int .i64 x12.k, .int .i64 x12.n, .fr (.ts x12.kids)], .one (.int .i64 0)] []).bind fun x13 =>
 (ag x13.1 fun x14 x15 =>
 (ai x15 (aj x13.2
 (some ([.agg [.int .i64 x14.k, .int .i64 x14.n, .fr (.ts x14.kids)], .one (.int .i64 0)], [])))))))))))))))))))))) := by kernel_rfl
theorem rV (n : Nat) (v0 : List T) (v1 v2 : Int) (v3 : List T) : FF (n + 1) 144 [.one (.fr (.ts v0)), .agg [.int .i64 v1, .int .i64 v2, .fr (.ts v3)]] [] =
 (v3[(0 : Int).toNat]?.bind fun x0 =>
 ((FF n 82 [.one (.int .i64 6), .one (.int .i64 0)] []).bind fun x1 =>
 (ag x1.1 fun x2 x3 =>
 (ai x3 (aj x1.2
 ((FF n 169 [.one (.fr (.ts v0)), .agg [.int .i64 x0.k, .int .i64 x0.n, .fr (.ts x0.kids)], .agg [.int .i64 x2.k, .int .i64 x2.n, .fr (.ts x2.kids)]] []).bind fun x4 =>
 (aC .i64 x4.1 fun x5 x6 =>
 (ai x6 (aj x4.2
 (cond (decide (x5 = 0))
 (v3[(1 : Int).toNat]?.bind fun x7 =>
 ((FF n 82 [.one (.int .i64 7), .one (.int .i64 0)] []).bind fun x8 =>
 (ag x8.1 fun x9 x10 =>
 (ai x10 (aj x8.2
 ((FF n 81 [.one (.int .i64 5), .one (.fr (.ts [(T.mk x0.k x0.n x0.kids), (T.mk x9.k x9.n x9.kids)]))] []).bind fun x11 =>
 (ag x11.1 fun x12 x13 =>
 (ai x13 (aj x11.2
 ((FF n 85 [.one (.fr (.ts v0)), .agg [.int .i64 x7.k, .int .i64 x7.n, .fr (.ts x7.kids)], .agg [.int .i64 x12.k, .int .i64 x12.n, .fr (.ts x12.kids)]] []).bind fun x14 =>
 (aC .i64 x14.1 fun x15 x16 =>
 (ai x16 (aj x14.2
 (cond (decide (x15 = 0))
 (v3[(2 : Int).toNat]?.bind fun x17 =>
 ((FF n 170 [.agg [.int .i64 x0.k, .int .i64 x0.n, .fr (.ts x0.kids)]] []).bind fun x18 =>
 (ag x18.1 fun x19 x20 =>
 (ai x20 (aj x18.2
 ((FF n 85 [.one (.fr (.ts v0)), .agg [.int .i64 x17.k, .int .i64 x17.n, .fr (.ts x17.kids)], .agg [.int .i64 x19.k, .int .i64 x19.n, .fr (.ts x19.kids)]] []).bind fun x21 =>
 (aC .i64 x21.1 fun x22 x23 =>
 (ai x23 (aj x21.2
 (cond (decide (x22 = 0))
 (v3[(3 : Int).toNat]?.bind fun x24 =>
 ((FF n 85 [.one (.fr (.ts v0)), .agg [.int .i64 x24.k, .int .i64 x24.n, .fr (.ts x24.kids)], .agg [.int .i64 x2.k, .int .i64 x2.n, .fr (.ts x2.kids)]] []).bind fun x25 =>
 (aC .i64 x25.1 fun x26 x27 =>
 (ai x27 (aj x25.2
 (v3[(3 : Int).toNat]?.bind fun x28 =>
 ((FF n 81 [.one (.int .i64 5), .one (.fr (.ts [(T.mk x0.k x0.n x0.kids), (T.mk x28.k x28.n x28.kids)]))] []).bind fun x29 =>
 (ag x29.1 fun x30 x31 =>
 (ai x31 (aj x29.2
 (some ([.agg [.int .i64 x30.k, .int .i64 x30.n, .fr (.ts x30.kids)], .one (.int .i64 x26)], []))))))))))))
 (v3[(3 : Int).toNat]?.bind fun x24 =>
 ((FF n 81 [.one (.int .i64 5), .one (.fr (.ts [(T.mk x0.k x0.n x0.kids), (T.mk x24.k x24.n x24.kids)]))] []).bind fun x25 =>
 (ag x25.1 fun x26 x27 =>
 (ai x27 (aj x25.2
 (some ([.agg [.int .i64 x26.k, .int .i64 x26.n, .fr (.ts x26.kids)], .one (.int .i64 x22)], [])))))))))))))))))
 (cond (decide (x15 = 0))
 (v3[(3 : Int).toNat]?.bind fun x17 =>
 ((FF n 85 [.one (.fr (.ts v0)), .agg [.int .i64 x17.k, .int .i64 x17.n, .fr (.ts x17.kids)], .agg [.int .i64 x2.k, .int .i64 x2.n, .fr (.ts x2.kids)]] []).bind fun x18 =>
 (aC .i64 x18.1 fun x19 x20 =>
 (ai x20 (aj x18.2
 (v3[(3 : Int).toNat]?.bind fun x21 =>
 ((FF n 81 [.one (.int .i64 5), .one (.fr (.ts [(T.mk x0.k x0.n x0.kids), (T.mk x21.k x21.n x21.kids)]))] []).bind fun x22 =>
 (ag x22.1 fun x23 x24 =>
 (ai x24 (aj x22.2
 (some ([.agg [.int .i64 x23.k, .int .i64 x23.n, .fr (.ts x23.kids)], .one (.int .i64 x19)], []))))))))))))
 (v3[(3 : Int).toNat]?.bind fun x17 =>
 ((FF n 81 [.one (.int .i64 5), .one (.fr (.ts [(T.mk x0.k x0.n x0.kids), (T.mk x17.k x17.n x17.kids)]))] []).bind fun x18 =>
 (ag x18.1 fun x19 x20 =>
 (ai x20 (aj x18.2
 (some ([.agg [.int .i64 x19.k, .int .i64 x19.n, .fr (.ts x19.kids)], .one (.int .i64 x15)], []))))))))))))))))))))))
 (cond (decide (x5 = 0))
 (v3[(2 : Int).toNat]?.bind fun x7 =>
 ((FF n 170 [.agg [.int .i64 x0.k, .int .i64 x0.n, .fr (.ts x0.kids)]] []).bind fun x8 =>
 (ag x8.1 fun x9 x10 =>
 (ai x10 (aj x8.2
 ((FF n 85 [.one (.fr (.ts v0)), .agg [.int .i64 x7.k, .int .i64 x7.n, .fr (.ts x7.kids)], .agg [.int .i64 x9.k, .int .i64 x9.n, .fr (.ts x9.kids)]] []).bind fun x11 =>
 (aC .i64 x11.1 fun x12 x13 =>
 (ai x13 (aj x11.2
 (cond (decide (x12 = 0))
 (v3[(3 : Int).toNat]?.bind fun x14 =>
 ((FF n 85 [.one (.fr (.ts v0)), .agg [.int .i64 x14.k, .int .i64 x14.n, .fr (.ts x14.kids)], .agg [.int .i64 x2.k, .int .i64 x2.n, .fr (.ts x2.kids)]] []).bind fun x15 =>
 (aC .i64 x15.1 fun x16 x17 =>
 (ai x17 (aj x15.2
 (v3[(3 : Int).toNat]?.bind fun x18 =>
 ((FF n 81 [.one (.int .i64 5), .one (.fr (.ts [(T.mk x0.k x0.n x0.kids), (T.mk x18.k x18.n x18.kids)]))] []).bind fun x19 =>
 (ag x19.1 fun x20 x21 =>
 (ai x21 (aj x19.2
 (some ([.agg [.int .i64 x20.k, .int .i64 x20.n, .fr (.ts x20.kids)], .one (.int .i64 x16)], []))))))))))))
 (v3[(3 : Int).toNat]?.bind fun x14 =>
 ((FF n 81 [.one (.int .i64 5), .one (.fr (.ts [(T.mk x0.k x0.n x0.kids), (T.mk x14.k x14.n x14.kids)]))] []).bind fun x15 =>
 (ag x15.1 fun x16 x17 =>
 (ai x17 (aj x15.2
 (some ([.agg [.int .i64 x16.k, .int .i64 x16.n, .fr (.ts x16.kids)], .one (.int .i64 x12)], [])))))))))))))))))
 (cond (decide (x5 = 0))
 (v3[(3 : Int).toNat]?.bind fun x7 =>
 ((FF n 85 [.one (.fr (.ts v0)), .agg [.int .i64 x7.k, .int .i64 x7.n, .fr (.ts x7.kids)], .agg [.int .i64 x2.k, .int .i64 x2.n, .fr (.ts x2.kids)]] []).bind fun x8 =>
 (aC .i64 x8.1 fun x9 x10 =>
 (ai x10 (aj x8.2
 (v3[(3 : Int).toNat]?.bind fun x11 =>
 ((FF n 81 [.one (.int .i64 5), .one (.fr (.ts [(T.mk x0.k x0.n x0.kids), (T.mk x11.k x11.n x11.kids)]))] []).bind fun x12 =>
 (ag x12.1 fun x13 x14 =>
 (ai x14 (aj x12.2
 (some ([.agg [.int .i64 x13.k, .int .i64 x13.n, .fr (.ts x13.kids)], .one (.int .i64 x9)], []))))))))))))
 (v3[(3 : Int).toNat]?.bind fun x7 =>
 ((FF n 81 [.one (.int .i64 5), .one (.fr (.ts [(T.mk x0.k x0.n x0.kids), (T.mk x7.k x7.n x7.kids)]))] []).bind fun x8 =>
 (ag x8.1 fun x9 x10 =>
 (ai x10 (aj x8.2
 (some ([.agg [.int .i64 x9.k, .int .i64 x9.n, .fr (.ts x9.kids)], .one (.int .i64 x5)], []))))))))))))))))))) := by kernel_rfl
theorem wj (n : Nat) (v0 : List T) (v1 v2 : Int) (v3 : List T) : FF (n + 1) 145 [.one (.fr (.ts v0)), .agg [.int .i64 v1, .int .i64 v2, .fr (.ts v3)]] [] =
 (v3[(0 : Int).toNat]?.bind fun x0 =>
 ((FF n 72 [.one (.fr (.ts v0)), .agg [.int .i64 x0.k, .int .i64 x0.n, .fr (.ts x0.kids)]] []).bind fun x1 =>
 (aC .i64 x1.1 fun x2 x3 =>
 (aC .i64 x3 fun x4 x5 =>
 (ai x5 (aj x1.2
 (cond (decide (x4 = 0))
 (v3[(1 : Int).toNat]?.bind fun x6 =>
 (v3[(0 : Int).toNat]?.bind fun x7 =>
 ((FF n 85 [.one (.fr (.ts v0)), .agg [.int .i64 x6.k, .int .i64 x6.n, .fr (.ts x6.kids)], .agg [.int .i64 x7.k, .int .i64 x7.n, .fr (.ts x7.kids)]] []).bind fun x8 =>
 (aC .i64 x8.1 fun x9 x10 =>
 (ai x10 (aj x8.2
 (cond (decide (x9 = 0))
 (v3[(2 : Int).toNat]?.bind fun x11 =>
 (v3[(0 : Int).toNat]?.bind fun x12 =>
 ((FF n 85 [.one (.fr (.ts v0)), .agg [.int .i64 x11.k, .int .i64 x11.n, .fr (.ts x11.kids)], .agg [.int .i64 x12.k, .int .i64 x12.n, .fr (.ts x12.kids)]] []).bind fun x13 =>
 (aC .i64 x13.1 fun x14 x15 =>
 (ai x15 (aj x13.2
 ((FF n 82 [.one (.int .i64 2), .one (.int .i64 x2)] []).bind fun x16 =>
 (ag x16.1 fun x17 x18 =>
 (ai x18 (aj x16.2
 (some ([.agg [.int .i64 x17.k, .int .i64 x17.n, .fr (.ts x17.kids)], .one (.int .i64 x14)], []))))))))))))
 ((FF n 82 [.one (.int .i64 2), .one (.int .i64 x2)] []).bind fun x11 =>
 (ag x11.1 fun x12 x13 =>
 (ai x13 (aj x11.2
 (some ([.agg [.int .i64 x12.k, .int .i64 x12.n, .fr (.ts x12.kids)], .one (.int .i64 x9)], [])))))))))))))
 (cond (decide (x4 = 0))
 (v3[(2 : Int).toNat]?.bind fun x6 =>
 (v3[(0 : Int).toNat]?.bind fun x7 =>
 ((FF n 85 [.one (.fr (.ts v0)), .agg [.int .i64 x6.k, .int .i64 x6.n, .fr (.ts x6.kids)], .agg [.int .i64 x7.k, .int .i64 x7.n, .fr (.ts x7.kids)]] []).bind fun x8 =>
 (aC .i64 x8.1 fun x9 x10 =>
 (ai x10 (aj x8.2
 ((FF n 82 [.one (.int .i64 2), .one (.int .i64 x2)] []).bind fun x11 =>
 (ag x11.1 fun x12 x13 =>
 (ai x13 (aj x11.2
 (some ([.agg [.int .i64 x12.k, .int .i64 x12.n, .fr (.ts x12.kids)], .one (.int .i64 x9)], []))))))))))))
 ((FF n 82 [.one (.int .i64 2), .one (.int .i64 x2)] []).bind fun x6 =>
 (ag x6.1 fun x7 x8 =>
 (ai x8 (aj x6.2
 (some ([.agg [.int .i64 x7.k, .int .i64 x7.n, .fr (.ts x7.kids)], .one (.int .i64 x4)], [])))))))))))))) := by kernel_rfl
end Go.Proofs.YtajlknlnmmbfcaaGreat
end
section
namespace Go.Proofs.YtajlknlnmmbfcaaGreat
open Go Go.Ab Go.Dk
theorem r8 (n : Nat) (v0 : List T) (v1 v2 : Int) (v3 : List T) : FF (n + 1) 146 [.one (.fr (.ts v0)), .agg [.int .i64 v1, .int .i64 v2, .fr (.ts v3)]] [] =
 (v3[(1 : Int).toNat]?.bind fun x0 =>
 ((FF n 167 [.one (.fr (.ts v0)), .agg [.int .i64 x0.k, .int .i64 x0.n, .fr (.ts x0.kids)], .one (.int .i64 10)] []).bind fun x1 =>
 (ag x1.1 fun x2 x3 =>
 (aC .i64 x3 fun x4 x5 =>
 (ai x5 (aj x1.2
 (cond (!decide (x4 = 0))
 (some ([.agg [.int .i64 0, .int .i64 0, .fr (.ts [])], .one (.int .i64 x4)], []))
 (v3[(0 : Int).toNat]?.bind fun x6 =>
 ((x2.kids)[(0 : Int).toNat]?.bind fun x7 =>
 ((FF n 169 [.one (.fr (.ts v0)), .agg [.int .i64 x6.k, .int .i64 x6.n, .fr (.ts x6.kids)], .agg [.int .i64 x7.k, .int .i64 x7.n, .fr (.ts x7.kids)]] []).bind fun x8 =>
 (aC .i64 x8.1 fun x9 x10 =>
 (ai x10 (aj x8.2
 (cond (decide (x9 = 0))
 (v3[(2 : Int).toNat]?.bind fun x11 =>
 (v3[(0 : Int).toNat]?.bind fun x12 =>
 ((x2.kids)[(1 : Int).toNat]?.bind fun x13 =>
 ((FF n 81 [.one (.int .i64 5), .one (.fr (.ts [(T.mk x12.k x12.n x12.kids), (T.mk x13.k x13.n x13.kids)]))] []).bind fun x14 =>
 (ag x14.1 fun x15 x16 =>
 (ai x16 (aj x14.2
 ((FF n 85 [.one (.fr (.ts v0)), .agg [.int .i64 x11.k, .int .i64 x11.n, .fr (.ts x11.kids)], .agg [.int .i64 x15.k, .int .i64 x15.n, .fr (.ts x15.kids)]] []).bind fun x17 =>
 (aC .i64 x17.1 fun x18 x19 =>
 (ai x19 (aj x17.2
 (v3[(0 : Int).toNat]?.bind fun x20 =>
 ((x2.kids)[(2 : Int).toNat]?.bind fun x21 =>
 ((FF n 81 [.one (.int .i64 5), .one (.fr (.ts [(T.mk x20.k x20.n x20.kids), (T.mk x21.k x21.n x21.kids)]))] []).bind fun x22 =>
 (ag x22.1 fun x23 x24 =>
 (ai x24 (aj x22.2
 (some ([.agg [.int .i64 x23.k, .int .i64 x23.n, .fr (.ts x23.kids)], .one (.int .i64 x18)], [])))))))))))))))))))
 (v3[(0 : Int).toNat]?.bind fun x11 =>
 ((x2.kids)[(2 : Int).toNat]?.bind fun x12 =>
 ((FF n 81 [.one (.int .i64 5), .one (.fr (.ts [(T.mk x11.k x11.n x11.kids), (T.mk x12.k x12.n x12.kids)]))] []).bind fun x13 =>
 (ag x13.1 fun x14 x15 =>
 (ai x15 (aj x13.2
 (some ([.agg [.int .i64 x14.k, .int .i64 x14.n, .fr (.ts x14.kids)], .one (.int .i64 x9)], [])))))))))))))))))))))) := by kernel_rfl
theorem sa (n : Nat) (v0 : List T) (v1 v2 : Int) (v3 : List T) : FF (n + 1) 147 [.one (.fr (.ts v0)), .agg [.int .i64 v1, .int .i64 v2, .fr (.ts v3)]] [] =
 (v3[(0 : Int).toNat]?.bind fun x0 =>
 ((FF n 72 [.one (.fr (.ts v0)), .agg [.int .i64 x0.k, .int .i64 x0.n, .fr (.ts x0.kids)]] []).bind fun x1 =>
 (aC .i64 x1.1 fun x2 x3 =>
 (aC .i64 x3 fun x4 x5 =>
 (ai x5 (aj x1.2
 (cond (!decide (x4 = 0))
 (some ([.agg [.int .i64 0, .int .i64 0, .fr (.ts [])], .one (.int .i64 x4)], []))
 (v3[(0 : Int).toNat]?.bind fun x6 =>
 ((FF n 108 [.agg [.int .i64 x6.k, .int .i64 x6.n, .fr (.ts x6.kids)]] []).bind fun x7 =>
 (ag x7.1 fun x8 x9 =>
 (aC .i64 x9 fun x10 x11 =>
 (ai x11 (aj x7.2
 (cond (!decide (x10 = 0))
 (some ([.agg [.int .i64 0, .int .i64 0, .fr (.ts [])], .one (.int .i64 x10)], []))
 (cond (!decide (x8.k = 13))
 (some ([.agg [.int .i64 0, .int .i64 0, .fr (.ts [])], .one (.int .i64 1)], []))
 (v3[(1 : Int).toNat]?.bind fun x12 =>
 ((x8.kids)[(0 : Int).toNat]?.bind fun x13 =>
 ((FF n 85 [.one (.fr (.ts v0)), .agg [.int .i64 x12.k, .int .i64 x12.n, .fr (.ts x12.kids)], .agg [.int .i64 x13.k, .int .i64 x13.n, .fr (.ts x13.kids)]] []).bind fun x14 =>
 (aC .i64 x14.1 fun x15 x16 =>
 (ai x16 (aj x14.2
 (cond (decide (x15 = 0))
 (v3[(2 : Int).toNat]?.bind fun x17 =>
 ((x8.kids)[(1 : Int).toNat]?.bind fun x18 =>
 (v3[(1 : Int).toNat]?.bind fun x19 =>
 ((FF n 168 [.agg [.int .i64 x18.k, .int .i64 x18.n, .fr (.ts x18.kids)], .one (.int .i64 0), .agg [.int .i64 x19.k, .int .i64 x19.n, .fr (.ts x19.kids)], .one (.int .i64 0)] []).bind fun x20 =>
 (ag x20.1 fun x21 x22 =>
 (ai x22 (aj x20.2
 ((FF n 85 [.one (.fr (.ts v0)), .agg [.int .i64 x17.k, .int .i64 x17.n, .fr (.ts x17.kids)], .agg [.int .i64 x21.k, .int .i64 x21.n, .fr (.ts x21.kids)]] []).bind fun x23 =>
 (aC .i64 x23.1 fun x24 x25 =>
 (ai x25 (aj x23.2
 (v3[(0 : Int).toNat]?.bind fun x26 =>
 some ([.agg [.int .i64 x26.k, .int .i64 x26.n, .fr (.ts x26.kids)], .one (.int .i64 x24)], [])))))))))))))
 (v3[(0 : Int).toNat]?.bind fun x17 =>
 some ([.agg [.int .i64 x17.k, .int .i64 x17.n, .fr (.ts x17.kids)], .one (.int .i64 x15)], [])))))))))))))))))))))))) := by kernel_rfl
theorem bJ (n : Nat) (v0 : List T) (v1 v2 : Int) (v3 : List T) : FF (n + 1) 148 [.one (.fr (.ts v0)), .agg [.int .i64 v1, .int .i64 v2, .fr (.ts v3)]] [] =
 (cond (decide (v1 = 1))
 (cond (decide ((v0.length : Int) ≤ v2))
 (some ([.agg [.int .i64 0, .int .i64 0, .fr (.ts [])], .one (.int .i64 1)], []))
 (cond (decide (0 ≤ (IntKind.i64.wrap ((IntKind.i64.wrap ((v0.length : Int) - 1)) - v2))))
 (v0[((IntKind.i64.wrap ((IntKind.i64.wrap ((v0.length : Int) - 1)) - v2)) : Int).toNat]?.bind fun x0 =>
 ((FF n 83 [.agg [.int .i64 x0.k, .int .i64 x0.n, .fr (.ts x0.kids)], .one (.int .i64 (IntKind.i64.wrap (v2 + 1))), .one (.int .i64 0)] []).bind fun x1 =>
 (ag x1.1 fun x2 x3 =>
 (ai x3 (aj x1.2
 (some ([.agg [.int .i64 x2.k, .int .i64 x2.n, .fr (.ts x2.kids)], .one (.int .i64 0)], [])))))))
 none))
 (cond (decide (v1 = 2))
 (cond (decide (3 ≤ v2))
 (some ([.agg [.int .i64 0, .int .i64 0, .fr (.ts [])], .one (.int .i64 1)], []))
 ((FF n 82 [.one (.int .i64 2), .one (.int .i64 (IntKind.i64.wrap (v2 + 1)))] []).bind fun x0 =>
 (ag x0.1 fun x1 x2 =>
 (ai x2 (aj x0.2
 (some ([.agg [.int .i64 x1.k, .int .i64 x1.n, .fr (.ts x1.kids)], .one (.int .i64 0)], [])))))))
 (cond (decide (v1 = 6))
 ((FF n 82 [.one (.int .i64 2), .one (.int .i64 0)] []).bind fun x0 =>
 (ag x0.1 fun x1 x2 =>
 (ai x2 (aj x0.2
 (some ([.agg [.int .i64 x1.k, .int .i64 x1.n, .fr (.ts x1.kids)], .one (.int .i64 0)], []))))))
 (cond (decide (v1 = 7))
 ((FF n 82 [.one (.int .i64 6), .one (.int .i64 0)] []).bind fun x0 =>
 (ag x0.1 fun x1 x2 =>
 (ai x2 (aj x0.2
 (some ([.agg [.int .i64 x1.k, .int .i64 x1.n, .fr (.ts x1.kids)], .one (.int .i64 0)], []))))))
 (cond (decide (v1 = 8))
 ((FF n 82 [.one (.int .i64 6), .one (.int .i64 0)] []).bind fun x0 =>
 (ag x0.1 fun x1 x2 =>
 (ai x2 (aj x0.2
 (v3[(0 : Int).toNat]?.bind fun x3 =>
 ((FF n 82 [.one (.int .i64 6), .one (.int .i64 0)] []).bind fun x4 =>
 (ag x4.1 fun x5 x6 =>
 (ai x6 (aj x4.2
 ((FF n 85 [.one (.fr (.ts v0)), .agg [.int .i64 x3.k, .int .i64 x3.n, .fr (.ts x3.kids)], .agg [.int .i64 x5.k, .int .i64 x5.n, .fr (.ts x5.kids)]] []).bind fun x7 =>
 (aC .i64 x7.1 fun x8 x9 =>
 (ai x9 (aj x7.2
 (some ([.agg [.int .i64 x1.k, .int .i64 x1.n, .fr (.ts x1.kids)], .one (.int .i64 x8)], [])))))))))))))))
 (cond (decide (v1 = 11))
 (v3[(0 : Int).toNat]?.bind fun x0 =>
 ((FF n 74 [.one (.fr (.ts v0)), .agg [.int .i64 x0.k, .int .i64 x0.n, .fr (.ts x0.kids)]] []).bind fun x1 =>
 (ag x1.1 fun x2 x3 =>
 (aC .i64 x3 fun x4 x5 =>
 (ai x5 (aj x1.2
 (cond (decide (x4 = 0))
 ((FF n 72 [.one (.fr (.ts v0)), .agg [.int .i64 x2.k, .int .i64 x2.n, .fr (.ts x2.kids)]] []).bind fun x6 =>
 (aC .i64 x6.1 fun x7 x8 =>
 (aC .i64 x8 fun x9 x10 =>
 (ai x10 (aj x6.2
 (v3[(0 : Int).toNat]?.bind fun x11 =>
 (v3[(0 : Int).toNat]?.bind fun x12 =>
 ((FF n 81 [.one (.int .i64 10), .one (.fr (.ts [(T.mk x2.k x2.n x2.kids), (T.mk x11.k x11.n x11.kids), (T.mk x12.k x12.n x12.kids)]))] []).bind fun x13 =>
 (ag x13.1 fun x14 x15 =>
 (ai x15 (aj x13.2
 (some ([.agg [.int .i64 x14.k, .int .i64 x14.n, .fr (.ts x14.kids)], .one (.int .i64 x9)], [])))))))))))))
 (v3[(0 : Int).toNat]?.bind fun x6 =>
 (v3[(0 : Int).toNat]?.bind fun x7 =>
 ((FF n 81 [.one (.int .i64 10), .one (.fr (.ts [(T.mk x2.k x2.n x2.kids), (T.mk x6.k x6.n x6.kids), (T.mk x7.k x7.n x7.kids)]))] []).bind fun x8 =>
 (ag x8.1 fun x9 x10 =>
 (ai x10 (aj x8.2
 (some ([.agg [.int .i64 x9.k, .int .i64 x9.n, .fr (.ts x9.kids)], .one (.int .i64 x4)], [])))))))))))))))
 ((FF n 171 [.one (.fr (.ts v0)), .agg [.int .i64 v1, .int .i64 v2, .fr (.ts v3)]] []).bind fun x0 =>
 (ag x0.1 fun x1 x2 =>
 (aC .i64 x2 fun x3 x4 =>
 (ai x4 (aj x0.2
 (some ([.agg [.int .i64 x1.k, .int .i64 x1.n, .fr (.ts x1.kids)], .one (.int .i64 x3)], []))))))))))))) := by kernel_rfl
noncomputable def eO (n c : Nat) (v0 : List Int) (v1 v2 v3 v4 : Int) (v5 : List T) (v6 v7 : Int) (v8 : List T) : OR := bj Tryz.prog SS n 150 0 [1, 0, 1, 0] [] c ⟨[aa, aa, .v (.one (.ptr 0 0)), aa, .v (.one (.ptr 1 0)), aa, aa, .v (.one (.fr (.is v0))), .v (.one (.int .i64 v1)), .v (.one (.int .i64 v2)), aa, aa, aa, aa, aa, aa, aa, aa, aa, aa],
 [.cells [.int .i64 v3, .int .i64 v4, .fr (.ts v5)], .cells [.int .i64 v6, .int .i64 v7, .own 2 0], .arr 25 (.ts v8) 0 false]⟩
theorem gN (n c : Nat) (v0 : List Int) (v1 v2 v3 v4 : Int) (v5 : List T) (v6 v7 : Int) (v8 : List T) : eO n (c + 1) v0 v1 v2 v3 v4 v5 v6 v7 v8 =
 (cond (decide (v2 < v1))
 (cond (decide (0 ≤ v2))
 (v0[(v2 : Int).toNat]?.bind fun x0 =>
 (cond (decide (0 ≤ x0))
 (v5[(x0 : Int).toNat]?.bind fun x1 =>
 eO n c v0 v1 (IntKind.i64.wrap (v2 + 1)) (x1.k) (x1.n) (x1.kids) v6 v7 v8)
 none))
 none)
 (some ([.agg [.int .i64 v3, .int .i64 v4, .fr (.ts v5)]], []))) := by kernel_rfl
theorem C3 (n : Nat) (v0 v1 : Int) (v2 : List T) (v3 : List Int) : FF (n + 1) 150 [.agg [.int .i64 v0, .int .i64 v1, .fr (.ts v2)], .one (.fr (.is v3))] [] =
 eO n n v3 ((v3.length : Int) : Int) 0 v0 v1 v2 0 0 ([]) := by kernel_rfl
theorem nP (n : Nat) (v0 v1 : Int) (v2 : List T) : FF (n + 1) 149 [.agg [.int .i64 v0, .int .i64 v1, .fr (.ts v2)]] [] =
 ((FF n 104 [.agg [.int .i64 v0, .int .i64 v1, .fr (.ts v2)]] []).bind fun x0 =>
 (aC .i64 x0.1 fun x1 x2 =>
 (ai x2 (aj x0.2
 (cond (decide (x1 = 1))
 (v2[(0 : Int).toNat]?.bind fun x3 =>
 ((x3.kids)[(1 : Int).toNat]?.bind fun x4 =>
 (v2[(1 : Int).toNat]?.bind fun x5 =>
 ((FF n 97 [.agg [.int .i64 x4.k, .int .i64 x4.n, .fr (.ts x4.kids)], .one (.int .i64 0), .agg [.int .i64 x5.k, .int .i64 x5.n, .fr (.ts x5.kids)]] []).bind fun x6 =>
 (ag x6.1 fun x7 x8 =>
 (aK x8 fun x9 x10 =>
 (ai x10 (aj x6.2
 (some ([.agg [.int .i64 x7.k, .int .i64 x7.n, .fr (.ts x7.kids)], .one (.bool x9)], []))))))))))
 (cond (decide (x1 = 2))
 (v2[(1 : Int).toNat]?.bind fun x3 =>
 ((FF n 58 [.agg [.int .i64 x3.k, .int .i64 x3.n, .fr (.ts x3.kids)]] []).bind fun x4 =>
 (ag x4.1 fun x5 x6 =>
 (ai x6 (aj x4.2
 ((FF n 71 [.agg [.int .i64 x5.k, .int .i64 x5.n, .fr (.ts x5.kids)]] []).bind fun x7 =>
 (ag x7.1 fun x8 x9 =>
 (aK x9 fun x10 x11 =>
 (ai x11 (aj x7.2
 (some ([.agg [.int .i64 x8.k, .int .i64 x8.n, .fr (.ts x8.kids)], .one (.bool x10)], []))))))))))))
 (cond (decide (x1 = 3))
 (v2[(0 : Int).toNat]?.bind fun x3 =>
 (v2[(1 : Int).toNat]?.bind fun x4 =>
 (v2[(2 : Int).toNat]?.bind fun x5 =>
 (v2[(3 : Int).toNat]?.bind fun x6 =>
 ((x6.kids)[(0 : Int).toNat]?.bind fun x7 =>
 ((FF n 70 [.one (.int .i64 5), .one (.fr (.ts [(T.mk x5.k x5.n x5.kids), (T.mk x7.k x7.n x7.kids)]))] []).bind fun x8 =>
 (ag x8.1 fun x9 x10 =>
 (ai x10 (aj x8.2
 ((FF n 70 [.one (.int .i64 9), .one (.fr (.ts [(T.mk x3.k x3.n x3.kids), (T.mk x4.k x4.n x4.kids), (T.mk x5.k x5.n x5.kids), (T.mk x7.k x7.n x7.kids)]))] []).bind fun x11 =>
 (ag x11.1 fun x12 x13 =>
 (ai x13 (aj x11.2
 ((FF n 70 [.one (.int .i64 5), .one (.fr (.ts [(T.mk x9.k x9.n x9.kids), (T.mk x12.k x12.n x12.kids)]))] []).bind fun x14 =>
 (ag x14.1 fun x15 x16 =>
 (ai x16 (aj x14.2
 ((FF n 58 [.agg [.int .i64 x15.k, .int .i64 x15.n, .fr (.ts x15.kids)]] []).bind fun x17 =>
 (ag x17.1 fun x18 x19 =>
 (ai x19 (aj x17.2
 ((FF n 71 [.agg [.int .i64 x18.k, .int .i64 x18.n, .fr (.ts x18.kids)]] []).bind fun x20 =>
 (ag x20.1 fun x21 x22 =>
 (aK x22 fun x23 x24 =>
 (ai x24 (aj x20.2
 (some ([.agg [.int .i64 x21.k, .int .i64 x21.n, .fr (.ts x21.kids)], .one (.bool x23)], []))))))))))))))))))))))))))))
 (cond (decide (x1 = 4))
 (v2[(2 : Int).toNat]?.bind fun x3 =>
 ((FF n 58 [.agg [.int .i64 x3.k, .int .i64 x3.n, .fr (.ts x3.kids)]] []).bind fun x4 =>
 (ag x4.1 fun x5 x6 =>
 (ai x6 (aj x4.2
 ((FF n 71 [.agg [.int .i64 x5.k, .int .i64 x5.n, .fr (.ts x5.kids)]] []).bind fun x7 =>
 (ag x7.1 fun x8 x9 =>
 (aK x9 fun x10 x11 =>
 (ai x11 (aj x7.2
 (some ([.agg [.int .i64 x8.k, .int .i64 x8.n, .fr (.ts x8.kids)], .one (.bool x10)], []))))))))))))
 (cond (decide (x1 = 5))
 (v2[(0 : Int).toNat]?.bind fun x3 =>
 ((x3.kids)[(1 : Int).toNat]?.bind fun x4 =>
 ((FF n 58 [.agg [.int .i64 x4.k, .int .i64 x4.n, .fr (.ts x4.kids)]] []).bind fun x5 =>
 (ag x5.1 fun x6 x7 =>
 (ai x7 (aj x5.2
 ((FF n 71 [.agg [.int .i64 x6.k, .int .i64 x6.n, .fr (.ts x6.kids)]] []).bind fun x8 =>
 (ag x8.1 fun x9 x10 =>
 (aK x10 fun x11 x12 =>
 (ai x12 (aj x8.2
 (some ([.agg [.int .i64 x9.k, .int .i64 x9.n, .fr (.ts x9.kids)], .one (.bool x11)], [])))))))))))))
 (cond (decide (x1 = 6))
 (v2[(0 : Int).toNat]?.bind fun x3 =>
 ((x3.kids)[(2 : Int).toNat]?.bind fun x4 =>
 ((FF n 58 [.agg [.int .i64 x4.k, .int .i64 x4.n, .fr (.ts x4.kids)]] []).bind fun x5 =>
 (ag x5.1 fun x6 x7 =>
 (ai x7 (aj x5.2
 ((FF n 71 [.agg [.int .i64 x6.k, .int .i64 x6.n, .fr (.ts x6.kids)]] []).bind fun x8 =>
 (ag x8.1 fun x9 x10 =>
 (aK x10 fun x11 x12 =>
 (ai x12 (aj x8.2
 (some ([.agg [.int .i64 x9.k, .int .i64 x9.n, .fr (.ts x9.kids)], .one (.bool x11)], [])))))))))))))
 (some ([.agg [.int .i64 0, .int .i64 0, .fr (.ts [])], .one (.bool false)], [])))))))))))) := by kernel_rfl
theorem qx (n : Nat) (v0 v1 : Int) (v2 : List T) (v3 : List Int) (v4 v5 : Int) (v6 : List T) : FF (n + 1) 151 [.agg [.int .i64 v0, .int .i64 v1, .fr (.ts v2)], .one (.fr (.is v3)), .agg [.int .i64 v4, .int .i64 v5, .fr (.ts v6)]] [] =
 (cond (decide ((v3.length : Int) = 0))
 (some ([.agg [.int .i64 v4, .int .i64 v5, .fr (.ts v6)]], []))
 ((FF n 160 [.one (.fr (.ts v2))] []).bind fun x0 =>
 (FB 0 x0.1 fun x1 =>
 (ck 25 x0.2 fun x2 x3 =>
 (ai x1 (aj x3
 (v3[(0 : Int).toNat]?.bind fun x4 =>
 (v3[(0 : Int).toNat]?.bind fun x5 =>
 (cond (decide (0 ≤ x5))
 (v2[(x5 : Int).toNat]?.bind fun x6 =>
 (cond (Go.Ab.inB 1 v3.length v3.length)
 ((FF n 151 [.agg [.int .i64 x6.k, .int .i64 x6.n, .fr (.ts x6.kids)], .one (.fr (.is ((v3.take (v3.length : Int).toNat).drop (1 : Int).toNat))), .agg [.int .i64 v4, .int .i64 v5, .fr (.ts v6)]] []).bind fun x7 =>
 (ag x7.1 fun x8 x9 =>
 (ai x9 (aj x7.2
 (cond (decide (0 ≤ x4))
 (cond (decide (x4 < (x2.length : Int)))
 (some ([.agg [.int .i64 v0, .int .i64 v1, .fr (.ts (x2.set (x4 : Int).toNat (T.mk x8.k x8.n x8.kids)))]], []))
 none)
 none)))))
 none))
 none))))))))) := by kernel_rfl
theorem pw (n : Nat) (v0 v1 : Int) : FF (n + 1) 152 [.one (.int .i64 v0), .one (.int .i64 v1)] [] =
 (cond (decide (v1 = 1))
 (cond (decide (v0 = 3))
 (some ([.one (.bool true)], []))
 (cond (decide (v0 = 4))
 (some ([.one (.bool true)], []))
 (some ([.one (.bool (decide (v0 = 13)))], []))))
 (some ([.one (.bool false)], []))) := by kernel_rfl
theorem su (n : Nat) (v0 v1 : Int) (v2 : List T) (v3 v4 : Int) (v5 : List T) (v6 : Int) : FF (n + 1) 153 [.agg [.int .i64 v0, .int .i64 v1, .fr (.ts v2)], .agg [.int .i64 v3, .int .i64 v4, .fr (.ts v5)], .one (.int .i64 v6)] [] =
 ((FF n 172 [.agg [.int .i64 v0, .int .i64 v1, .fr (.ts v2)], .agg [.int .i64 v3, .int .i64 v4, .fr (.ts v5)]] []).bind fun x0 =>
 (aK x0.1 fun x1 x2 =>
 (ai x2 (aj x0.2
 (cond x1
 (some ([.one (.int .i64 1)], []))
 ((FF n 51 [.agg [.int .i64 v0, .int .i64 v1, .fr (.ts v2)], .one (.int .i64 v6), .one (.bool false)] []).bind fun x3 =>
 (ag x3.1 fun x4 x5 =>
 (aC .i64 x5 fun x6 x7 =>
 (ai x7 (aj x3.2
 ((FF n 51 [.agg [.int .i64 v3, .int .i64 v4, .fr (.ts v5)], .one (.int .i64 v6), .one (.bool false)] []).bind fun x8 =>
 (ag x8.1 fun x9 x10 =>
 (aC .i64 x10 fun x11 x12 =>
 (ai x12 (aj x8.2
 (cond (!decide (x6 = 0))
 (some ([.one (.int .i64 3)], []))
 (cond (!decide (x11 = 0))
 (some ([.one (.int .i64 3)], []))
 ((FF n 172 [.agg [.int .i64 x4.k, .int .i64 x4.n, .fr (.ts x4.kids)], .agg [.int .i64 x9.k, .int .i64 x9.n, .fr (.ts x9.kids)]] []).bind fun x13 =>
 (aK x13.1 fun x14 x15 =>
 (ai x15 (aj x13.2
 (cond x14
 (some ([.one (.int .i64 1)], []))
 (some ([.one (.int .i64 2)], [])))))))))))))))))))))))) := by kernel_rfl
theorem pf (n : Nat) (v0 : ByteArray) (v1 v2 : Int) : FF (n + 1) 154 [.one (.str v0), .one (.int .i64 v1), .one (.int .i64 v2)] [] =
 (cond (decide (v2 < 1))
 (some ([.agg [.int .i64 0, .int .i64 0, .fr (.ts [])], .one (.int .i64 (-1))], []))
 (cond (decide (v1 < 0))
 (some ([.agg [.int .i64 0, .int .i64 0, .fr (.ts [])], .one (.int .i64 (-1))], []))
 (cond (decide ((v0.size : Int) ≤ v1))
 (some ([.agg [.int .i64 0, .int .i64 0, .fr (.ts [])], .one (.int .i64 (-1))], []))
 (cond (decide (0 ≤ v1) && decide (v1 < ((v0.size : Nat) : Int)))
 (cond (decide (((aQ v0 (v1 : Int).toNat).toNat : Int) = 35))
 ((FF n 173 [.one (.str v0), .one (.int .i64 (IntKind.i64.wrap (v1 + 1))), .one (.int .i64 2)] []).bind fun x0 =>
 (aC .i64 x0.1 fun x1 x2 =>
 (aC .i64 x2 fun x3 x4 =>
 (ai x4 (aj x0.2
 ((FF n 82 [.one (.int .i64 1), .one (.int .i64 x1)] []).bind fun x5 =>
 (ag x5.1 fun x6 x7 =>
 (ai x7 (aj x5.2
 (some ([.agg [.int .i64 x6.k, .int .i64 x6.n, .fr (.ts x6.kids)], .one (.int .i64 x3)], [])))))))))))
 (cond (decide (((aQ v0 (v1 : Int).toNat).toNat : Int) = 42))
 ((FF n 173 [.one (.str v0), .one (.int .i64 (IntKind.i64.wrap (v1 + 1))), .one (.int .i64 1)] []).bind fun x0 =>
 (aC .i64 x0.1 fun x1 x2 =>
 (aC .i64 x2 fun x3 x4 =>
 (ai x4 (aj x0.2
 ((FF n 82 [.one (.int .i64 2), .one (.int .i64 x1)] []).bind fun x5 =>
 (ag x5.1 fun x6 x7 =>
 (ai x7 (aj x5.2
 (some ([.agg [.int .i64 x6.k, .int .i64 x6.n, .fr (.ts x6.kids)], .one (.int .i64 x3)], [])))))))))))
 (cond (decide (((aQ v0 (v1 : Int).toNat).toNat : Int) = 78))
 ((FF n 82 [.one (.int .i64 6), .one (.int .i64 0)] []).bind fun x0 =>
 (ag x0.1 fun x1 x2 =>
 (ai x2 (aj x0.2
 (some ([.agg [.int .i64 x1.k, .int .i64 x1.n, .fr (.ts x1.kids)], .one (.int .i64 (IntKind.i64.wrap (v1 + 1)))], []))))))
 (cond (decide (((aQ v0 (v1 : Int).toNat).toNat : Int) = 48))
 ((FF n 82 [.one (.int .i64 7), .one (.int .i64 0)] []).bind fun x0 =>
 (ag x0.1 fun x1 x2 =>
 (ai x2 (aj x0.2
 (some ([.agg [.int .i64 x1.k, .int .i64 x1.n, .fr (.ts x1.kids)], .one (.int .i64 (IntKind.i64.wrap (v1 + 1)))], []))))))
 (cond (decide (((aQ v0 (v1 : Int).toNat).toNat : Int) = 43))
 ((FF n 174 [.one (.str v0), .one (.int .i64 v1), .one (.int .i64 v2)] []).bind fun x0 =>
 (ag x0.1 fun x1 x2 =>
 (aC .i64 x2 fun x3 x4 =>
 (ai x4 (aj x0.2
 (some ([.agg [.int .i64 x1.k, .int .i64 x1.n, .fr (.ts x1.kids)], .one (.int .i64 x3)], [])))))))
 (cond (decide (((aQ v0 (v1 : Int).toNat).toNat : Int) = 33))
 ((FF n 174 [.one (.str v0), .one (.int .i64 v1), .one (.int .i64 v2)] []).bind fun x0 =>
 (ag x0.1 fun x1 x2 =>
 (aC .i64 x2 fun x3 x4 =>
 (ai x4 (aj x0.2
 (some ([.agg [.int .i64 x1.k, .int .i64 x1.n, .fr (.ts x1.kids)], .one (.int .i64 x3)], [])))))))
 (cond (decide (((aQ v0 (v1 : Int).toNat).toNat : Int) = 94))
 ((FF n 174 [.one (.str v0), .one (.int .i64 v1), .one (.int .i64 v2)] []).bind fun x0 =>
 (ag x0.1 fun x1 x2 =>
 (aC .i64 x2 fun x3 x4 =>
 (ai x4 (aj x0.2
 (some ([.agg [.int .i64 x1.k, .int .i64 x1.n, .fr (.ts x1.kids)], .one (.int .i64 x3)], [])))))))
 (cond (decide (((aQ v0 (v1 : Int).toNat).toNat : Int) = 95))
 ((FF n 174 [.one (.str v0), .one (.int .i64 v1), .one (.int .i64 v2)] []).bind fun x0 =>
 (ag x0.1 fun x1 x2 =>
 (aC .i64 x2 fun x3 x4 =>
 (ai x4 (aj x0.2
 (some ([.agg [.int .i64 x1.k, .int .i64 x1.n, .fr (.ts x1.kids)], .one (.int .i64 x3)], [])))))))
 (cond (decide (((aQ v0 (v1 : Int).toNat).toNat : Int) = 40))
 ((FF n 175 [.one (.str v0), .one (.int .i64 (IntKind.i64.wrap (v1 + 1))), .one (.int .i64 (IntKind.i64.wrap (v2 - 1)))] []).bind fun x0 =>
 (ag x0.1 fun x1 x2 =>
 (aC .i64 x2 fun x3 x4 =>
 (ai x4 (aj x0.2
 (some ([.agg [.int .i64 x1.k, .int .i64 x1.n, .fr (.ts x1.kids)], .one (.int .i64 x3)], [])))))))
 (cond (decide (((aQ v0 (v1 : Int).toNat).toNat : Int) = 91))
 ((FF n 154 [.one (.str v0), .one (.int .i64 (IntKind.i64.wrap (v1 + 1))), .one (.int .i64 (IntKind.i64.wrap (v2 - 1)))] []).bind fun x0 =>
 (ag x0.1 fun x1 x2 =>
 (aC .i64 x2 fun x3 x4 =>
 (ai x4 (aj x0.2
 (cond (decide (x3 < 0))
 (some ([.agg [.int .i64 0, .int .i64 0, .fr (.ts [])], .one (.int .i64 (-1))], []))
 (cond (decide ((v0.size : Int) ≤ x3))
 (some ([.agg [.int .i64 0, .int .i64 0, .fr (.ts [])], .one (.int .i64 (-1))], []))
 (cond (decide (0 ≤ x3) && decide (x3 < ((v0.size : Nat) : Int)))
 (cond (!decide (((aQ v0 (x3 : Int).toNat).toNat : Int) = 93))
 (some ([.agg [.int .i64 0, .int .i64 0, .fr (.ts [])], .one (.int .i64 (-1))], []))
 ((FF n 154 [.one (.str v0), .one (.int .i64 (IntKind.i64.wrap (x3 + 1))), .one (.int .i64 (IntKind.i64.wrap (v2 - 1)))] []).bind fun x5 =>
 (ag x5.1 fun x6 x7 =>
 (aC .i64 x7 fun x8 x9 =>
 (ai x9 (aj x5.2
 ((FF n 81 [.one (.int .i64 4), .one (.fr (.ts [(T.mk x1.k x1.n x1.kids), (T.mk x6.k x6.n x6.kids)]))] []).bind fun x10 =>
 (ag x10.1 fun x11 x12 =>
 (ai x12 (aj x10.2
 (some ([.agg [.int .i64 x11.k, .int .i64 x11.n, .fr (.ts x11.kids)], .one (.int .i64 x8)], []))))))))))))
 none))))))))
 ((FF n 176 [.one (.str v0), .one (.int .i64 v1), .one (.int .i64 v2)] []).bind fun x0 =>
 (ag x0.1 fun x1 x2 =>
 (aC .i64 x2 fun x3 x4 =>
 (ai x4 (aj x0.2
 (some ([.agg [.int .i64 x1.k, .int .i64 x1.n, .fr (.ts x1.kids)], .one (.int .i64 x3)], [])))))))))))))))))
 none)))) := by kernel_rfl
theorem lb (n : Nat) (v0 v1 : Int) (v2 : List T) : FF (n + 1) 155 [.agg [.int .i64 v0, .int .i64 v1, .fr (.ts v2)]] [] =
 ((FF n 65 [.agg [.int .i64 v0, .int .i64 v1, .fr (.ts v2)]] []).bind fun x0 =>
 (aK x0.1 fun x1 x2 =>
 (ai x2 (aj x0.2
 (cond (!x1)
 (some ([.one (.str (bytesOf []))], []))
 ((FF n 177 [.agg [.int .i64 v0, .int .i64 v1, .fr (.ts v2)]] []).bind fun x3 =>
 (kW x3.1 fun x4 x5 =>
 (ai x5 (aj x3.2
 (some ([.one (.str x4)], []))))))))))) := by kernel_rfl
theorem pG (n : Nat) (v0 v1 : Int) (v2 : List T) : FF (n + 1) 156 [.agg [.int .i64 v0, .int .i64 v1, .fr (.ts v2)]] [] =
 (cond (decide (v0 = 5))
 (v2[(0 : Int).toNat]?.bind fun x0 =>
 (cond (decide (x0.k = 4))
 (some ([.one (.int .i64 1)], []))
 (some ([.one (.int .i64 0)], []))))
 (cond (decide (v0 = 9))
 (v2[(3 : Int).toNat]?.bind fun x0 =>
 (cond (decide (x0.k = 7))
 (some ([.one (.int .i64 2)], []))
 (v2[(3 : Int).toNat]?.bind fun x1 =>
 (cond (decide (x1.k = 8))
 (some ([.one (.int .i64 3)], []))
 (some ([.one (.int .i64 0)], []))))))
 (cond (decide (v0 = 12))
 (v2[(1 : Int).toNat]?.bind fun x0 =>
 (cond (decide (x0.k = 11))
 (some ([.one (.int .i64 4)], []))
 (some ([.one (.int .i64 0)], []))))
 (cond (decide (v0 = 15))
 (v2[(0 : Int).toNat]?.bind fun x0 =>
 (cond (decide (x0.k = 14))
 (some ([.one (.int .i64 5)], []))
 (some ([.one (.int .i64 0)], []))))
 (cond (decide (v0 = 16))
 (v2[(0 : Int).toNat]?.bind fun x0 =>
 (cond (decide (x0.k = 14))
 (some ([.one (.int .i64 6)], []))
 (some ([.one (.int .i64 0)], []))))
 (some ([.one (.int .i64 0)], []))))))) := by kernel_rfl
theorem lG (n : Nat) (v0 v1 : Int) (v2 : List T) : FF (n + 1) 157 [.agg [.int .i64 v0, .int .i64 v1, .fr (.ts v2)]] [] =
 ((FF n 156 [.agg [.int .i64 v0, .int .i64 v1, .fr (.ts v2)]] []).bind fun x0 =>
 (aC .i64 x0.1 fun x1 x2 =>
 (ai x2 (aj x0.2
 (cond (decide (x1 = 1))
 (v2[(0 : Int).toNat]?.bind fun x3 =>
 ((x3.kids)[(1 : Int).toNat]?.bind fun x4 =>
 (v2[(1 : Int).toNat]?.bind fun x5 =>
 ((FF n 168 [.agg [.int .i64 x4.k, .int .i64 x4.n, .fr (.ts x4.kids)], .one (.int .i64 0), .agg [.int .i64 x5.k, .int .i64 x5.n, .fr (.ts x5.kids)], .one (.int .i64 0)] []).bind fun x6 =>
 (ag x6.1 fun x7 x8 =>
 (ai x8 (aj x6.2
 (some ([.agg [.int .i64 x7.k, .int .i64 x7.n, .fr (.ts x7.kids)]], [])))))))))
 (cond (decide (x1 = 2))
 (v2[(1 : Int).toNat]?.bind fun x3 =>
 ((FF n 90 [.agg [.int .i64 x3.k, .int .i64 x3.n, .fr (.ts x3.kids)]] []).bind fun x4 =>
 (fL 0 x4.1 fun x5 x6 x7 =>
 (ck 25 x4.2 fun x8 x9 =>
 (ai x7 (aj x9
 (some ([.agg [.int .i64 x5, .int .i64 x6, .fr (.ts x8)]], []))))))))
 (cond (decide (x1 = 3))
 (v2[(3 : Int).toNat]?.bind fun x3 =>
 ((x3.kids)[(0 : Int).toNat]?.bind fun x4 =>
 (v2[(0 : Int).toNat]?.bind fun x5 =>
 ((FF n 90 [.agg [.int .i64 x5.k, .int .i64 x5.n, .fr (.ts x5.kids)]] []).bind fun x6 =>
 (fL 0 x6.1 fun x7 x8 x9 =>
 (ck 25 x6.2 fun x10 x11 =>
 (ai x9 (aj x11
 (v2[(1 : Int).toNat]?.bind fun x12 =>
 ((FF n 90 [.agg [.int .i64 x12.k, .int .i64 x12.n, .fr (.ts x12.kids)]] []).bind fun x13 =>
 (fL 0 x13.1 fun x14 x15 x16 =>
 (ck 25 x13.2 fun x17 x18 =>
 (ai x16 (aj x18
 (v2[(2 : Int).toNat]?.bind fun x19 =>
 ((FF n 90 [.agg [.int .i64 x19.k, .int .i64 x19.n, .fr (.ts x19.kids)]] []).bind fun x20 =>
 (fL 0 x20.1 fun x21 x22 x23 =>
 (ck 25 x20.2 fun x24 x25 =>
 (ai x23 (aj x25
 ((FF n 90 [.agg [.int .i64 x4.k, .int .i64 x4.n, .fr (.ts x4.kids)]] []).bind fun x26 =>
 (fL 0 x26.1 fun x27 x28 x29 =>
 (ck 25 x26.2 fun x30 x31 =>
 (ai x29 (aj x31
 ((FF n 81 [.one (.int .i64 9), .one (.fr (.ts [(T.mk x7 x8 x10), (T.mk x14 x15 x17), (T.mk x21 x22 x24), (T.mk x27 x28 x30)]))] []).bind fun x32 =>
 (ag x32.1 fun x33 x34 =>
 (ai x34 (aj x32.2
 (v2[(2 : Int).toNat]?.bind fun x35 =>
 ((FF n 90 [.agg [.int .i64 x35.k, .int .i64 x35.n, .fr (.ts x35.kids)]] []).bind fun x36 =>
 (fL 0 x36.1 fun x37 x38 x39 =>
 (ck 25 x36.2 fun x40 x41 =>
 (ai x39 (aj x41
 ((FF n 90 [.agg [.int .i64 x4.k, .int .i64 x4.n, .fr (.ts x4.kids)]] []).bind fun x42 =>
 (fL 0 x42.1 fun x43 x44 x45 =>
 (ck 25 x42.2 fun x46 x47 =>
 (ai x45 (aj x47
 ((FF n 81 [.one (.int .i64 5), .one (.fr (.ts [(T.mk x37 x38 x40), (T.mk x43 x44 x46)]))] []).bind fun x48 =>
 (ag x48.1 fun x49 x50 =>
 (ai x50 (aj x48.2
 ((FF n 81 [.one (.int .i64 5), .one (.fr (.ts [(T.mk x49.k x49.n x49.kids), (T.mk x33.k x33.n x33.kids)]))] []).bind fun x51 =>
 (ag x51.1 fun x52 x53 =>
 (ai x53 (aj x51.2
 (some ([.agg [.int .i64 x52.k, .int .i64 x52.n, .fr (.ts x52.kids)]], []))))))))))))))))))))))))))))))))))))))))))))))))))
 (cond (decide (x1 = 4))
 (v2[(2 : Int).toNat]?.bind fun x3 =>
 ((FF n 90 [.agg [.int .i64 x3.k, .int .i64 x3.n, .fr (.ts x3.kids)]] []).bind fun x4 =>
 (fL 0 x4.1 fun x5 x6 x7 =>
 (ck 25 x4.2 fun x8 x9 =>
 (ai x7 (aj x9
 (some ([.agg [.int .i64 x5, .int .i64 x6, .fr (.ts x8)]], []))))))))
 (cond (decide (x1 = 5))
 (v2[(0 : Int).toNat]?.bind fun x3 =>
 ((x3.kids)[(1 : Int).toNat]?.bind fun x4 =>
 ((FF n 90 [.agg [.int .i64 x4.k, .int .i64 x4.n, .fr (.ts x4.kids)]] []).bind fun x5 =>
 (fL 0 x5.1 fun x6 x7 x8 =>
 (ck 25 x5.2 fun x9 x10 =>
 (ai x8 (aj x10
 (some ([.agg [.int .i64 x6, .int .i64 x7, .fr (.ts x9)]], [])))))))))
 (v2[(0 : Int).toNat]?.bind fun x3 =>
 ((x3.kids)[(2 : Int).toNat]?.bind fun x4 =>
 ((FF n 90 [.agg [.int .i64 x4.k, .int .i64 x4.n, .fr (.ts x4.kids)]] []).bind fun x5 =>
 (fL 0 x5.1 fun x6 x7 x8 =>
 (ck 25 x5.2 fun x9 x10 =>
 (ai x8 (aj x10
 (some ([.agg [.int .i64 x6, .int .i64 x7, .fr (.ts x9)]], [])))))))))))))))))) := by kernel_rfl
theorem o6 (n : Nat) (v0 v1 : Int) (v2 : List T) : FF (n + 1) 94 [.agg [.int .i64 v0, .int .i64 v1, .fr (.ts v2)]] [] =
 ((FF n 59 [.agg [.int .i64 v0, .int .i64 v1, .fr (.ts v2)]] []).bind fun x0 =>
 (aK x0.1 fun x1 x2 =>
 (ai x2 (aj x0.2
 (some ([.one (.bool (!x1))], [])))))) := by kernel_rfl
theorem lr (n : Nat) (v0 v1 : Int) (v2 : List T) (v3 : Int) : FF (n + 1) 158 [.agg [.int .i64 v0, .int .i64 v1, .fr (.ts v2)], .one (.int .i64 v3)] [] =
 ((FF n 76 [.agg [.int .i64 v0, .int .i64 v1, .fr (.ts v2)], .one (.int .i64 v3), .one (.fn 178 [])] []).bind fun x0 =>
 (ag x0.1 fun x1 x2 =>
 (aC .i64 x2 fun x3 x4 =>
 (aC .i64 x4 fun x5 x6 =>
 (ai x6 (aj x0.2
 (some ([.agg [.int .i64 x1.k, .int .i64 x1.n, .fr (.ts x1.kids)], .one (.int .i64 x5)], [])))))))) := by kernel_rfl
theorem o8 (n : Nat) (v0 v1 v2 v3 v4 : Int) (v5 : List T) (v6 : Bool) : FF (n + 1) 120 [.one (.int .i64 v0), .one (.int .i64 v1), .one (.ptr 0 0), .one (.ptr 1 0), .one (.ptr 2 0)] [.cells [.int .i64 v2], .cells [.int .i64 v3, .int .i64 v4, .fr (.ts v5)], .cells [.bool v6]] =
 (cond (decide ((IntKind.i64.wrap (v0 - v1)) = v2))
 ((FF n 73 [.agg [.int .i64 v3, .int .i64 v4, .fr (.ts v5)], .one (.int .i64 v1), .one (.int .i64 0)] []).bind fun x0 =>
 (ag x0.1 fun x1 x2 =>
 (aK x2 fun x3 x4 =>
 (ai x4 (aj x0.2
 (cond v6
 (some ([.agg [.int .i64 x1.k, .int .i64 x1.n, .fr (.ts x1.kids)]], [.cells [.int .i64 v2], .cells [.int .i64 v3, .int .i64 v4, .fr (.ts v5)], .cells [.bool x3]]))
 (some ([.agg [.int .i64 x1.k, .int .i64 x1.n, .fr (.ts x1.kids)]], [.cells [.int .i64 v2], .cells [.int .i64 v3, .int .i64 v4, .fr (.ts v5)], .cells [.bool false]]))))))))
 (cond (decide (v2 < (IntKind.i64.wrap (v0 - v1))))
 ((FF n 68 [.one (.int .i64 (IntKind.i64.wrap (v0 - 1)))] []).bind fun x0 =>
 (ag x0.1 fun x1 x2 =>
 (ai x2 (aj x0.2
 (some ([.agg [.int .i64 x1.k, .int .i64 x1.n, .fr (.ts x1.kids)]], [.cells [.int .i64 v2], .cells [.int .i64 v3, .int .i64 v4, .fr (.ts v5)], .cells [.bool v6]]))))))
 ((FF n 68 [.one (.int .i64 v0)] []).bind fun x0 =>
 (ag x0.1 fun x1 x2 =>
 (ai x2 (aj x0.2
 (some ([.agg [.int .i64 x1.k, .int .i64 x1.n, .fr (.ts x1.kids)]], [.cells [.int .i64 v2], .cells [.int .i64 v3, .int .i64 v4, .fr (.ts v5)], .cells [.bool v6]])))))))) := by kernel_rfl
theorem eJ (n : Nat) (v0 : List T) (v1 v2 : Int) (v3 : List T) (v4 : Int) (v5 : List T) (v6 v7 : Int) (v8 : List T) : FF (n + 1) 161 [.agg [.fr (.ts v0), .int .i64 v1, .int .i64 v2, .fr (.ts v3), .fn 98 [0, 1]], .one (.int .i64 v4)] [.cells [.fr (.ts v5)], .cells [.int .i64 v6, .int .i64 v7, .fr (.ts v8)]] =
 ((FF n 128 [.agg [.fr (.ts v0), .int .i64 v1, .int .i64 v2, .fr (.ts v3), .fn 98 [0, 1]], .one (.int .i64 v4), .one (.int .i64 2)] [.cells [.fr (.ts v5)], .cells [.int .i64 v6, .int .i64 v7, .fr (.ts v8)]]).bind fun x0 =>
 (aR x0.2 fun x1 x2 =>
 (tsC x1 fun x3 x4 =>
 (aT x4
 (aR x2 fun x5 x6 =>
 (aV .i64 x5 fun x7 x8 =>
 (aV .i64 x8 fun x9 x10 =>
 (tsC x10 fun x11 x12 =>
 (aT x12
 (ag x0.1 fun x13 x14 =>
 (aC .i64 x14 fun x15 x16 =>
 (ai x16 (aj x6
 (some ([.one (.int .i64 x13.n), .one (.int .i64 x15)], [.cells [.fr (.ts x3)], .cells [.int .i64 x7, .int .i64 x9, .fr (.ts x11)]]))))))))))))))) := by kernel_rfl
theorem eg (n : Nat) (v0 : List T) (v1 v2 : Int) (v3 : List T) (v4 v5 v6 : Int) (v7 v8 : List T) (v9 v10 : Int) (v11 : List T) : FF (n + 1) 162 [.agg [.fr (.ts v0), .int .i64 v1, .int .i64 v2, .fr (.ts v3), .fn 98 [0, 1]], .one (.int .i64 v4), .agg [.int .i64 v5, .int .i64 v6, .fr (.ts v7)]] [.cells [.fr (.ts v8)], .cells [.int .i64 v9, .int .i64 v10, .fr (.ts v11)]] =
 ((FF n 128 [.agg [.fr (.ts v0), .int .i64 v1, .int .i64 v2, .fr (.ts v3), .fn 98 [0, 1]], .one (.int .i64 v4), .one (.int .i64 3)] [.cells [.fr (.ts v8)], .cells [.int .i64 v9, .int .i64 v10, .fr (.ts v11)]]).bind fun x0 =>
 (aR x0.2 fun x1 x2 =>
 (tsC x1 fun x3 x4 =>
 (aT x4
 (aR x2 fun x5 x6 =>
 (aV .i64 x5 fun x7 x8 =>
 (aV .i64 x8 fun x9 x10 =>
 (tsC x10 fun x11 x12 =>
 (aT x12
 (ag x0.1 fun x13 x14 =>
 (aC .i64 x14 fun x15 x16 =>
 (ai x16 (aj x6
 (cond (!decide (x15 = 0))
 (some ([.one (.int .i64 x15)], [.cells [.fr (.ts x3)], .cells [.int .i64 x7, .int .i64 x9, .fr (.ts x11)]]))
 ((x13.kids)[(0 : Int).toNat]?.bind fun x17 =>
 ((FF n 96 [.agg [.int .i64 x17.k, .int .i64 x17.n, .fr (.ts x17.kids)], .agg [.int .i64 v5, .int .i64 v6, .fr (.ts v7)]] []).bind fun x18 =>
 (aC .i64 x18.1 fun x19 x20 =>
 (ai x20 (aj x18.2
 (cond (!decide (x19 = 0))
 (some ([.one (.int .i64 x19)], [.cells [.fr (.ts x3)], .cells [.int .i64 x7, .int .i64 x9, .fr (.ts x11)]]))
 ((x13.kids)[(1 : Int).toNat]?.bind fun x21 =>
 ((FF n 119 [.agg [.int .i64 x21.k, .int .i64 x21.n, .fr (.ts x21.kids)], .one (.int .i64 2)] []).bind fun x22 =>
 (ag x22.1 fun x23 x24 =>
 (aC .i64 x24 fun x25 x26 =>
 (ai x26 (aj x22.2
 (some ([.one (.int .i64 x25)], [.cells [.fr (.ts x3)], .cells [.int .i64 x7, .int .i64 x9, .fr (.ts x11)]])))))))))))))))))))))))))))) := by kernel_rfl
theorem nU (n : Nat) (v0 v1 : Int) (v2 : List T) : FF (n + 1) 163 [.agg [.int .i64 v0, .int .i64 v1, .fr (.ts v2)]] [] =
 ((FF n 73 [.agg [.int .i64 v0, .int .i64 v1, .fr (.ts v2)], .one (.int .i64 1), .one (.int .i64 0)] []).bind fun x0 =>
 (ag x0.1 fun x1 x2 =>
 (aK x2 fun x3 x4 =>
 (ai x4 (aj x0.2
 ((FF n 73 [.agg [.int .i64 v0, .int .i64 v1, .fr (.ts v2)], .one (.int .i64 2), .one (.int .i64 0)] []).bind fun x5 =>
 (ag x5.1 fun x6 x7 =>
 (aK x7 fun x8 x9 =>
 (ai x9 (aj x5.2
 ((FF n 70 [.one (.int .i64 6), .one (.emp none)] []).bind fun x10 =>
 (ag x10.1 fun x11 x12 =>
 (ai x12 (aj x10.2
 ((FF n 68 [.one (.int .i64 0)] []).bind fun x13 =>
 (ag x13.1 fun x14 x15 =>
 (ai x15 (aj x13.2
 ((FF n 70 [.one (.int .i64 5), .one (.fr (.ts [(T.mk x1.k x1.n x1.kids), (T.mk x14.k x14.n x14.kids)]))] []).bind fun x16 =>
 (ag x16.1 fun x17 x18 =>
 (ai x18 (aj x16.2
 ((FF n 68 [.one (.int .i64 1)] []).bind fun x19 =>
 (ag x19.1 fun x20 x21 =>
 (ai x21 (aj x19.2
 ((FF n 70 [.one (.int .i64 8), .one (.fr (.ts [(T.mk x20.k x20.n x20.kids)]))] []).bind fun x22 =>
 (ag x22.1 fun x23 x24 =>
 (ai x24 (aj x22.2
 ((FF n 70 [.one (.int .i64 5), .one (.fr (.ts [(T.mk x6.k x6.n x6.kids), (T.mk x23.k x23.n x23.kids)]))] []).bind fun x25 =>
 (ag x25.1 fun x26 x27 =>
 (ai x27 (aj x25.2
 ((FF n 70 [.one (.int .i64 3), .one (.fr (.ts [(T.mk x17.k x17.n x17.kids), (T.mk x26.k x26.n x26.kids)]))] []).bind fun x28 =>
 (ag x28.1 fun x29 x30 =>
 (ai x30 (aj x28.2
 ((FF n 70 [.one (.int .i64 3), .one (.fr (.ts [(T.mk x11.k x11.n x11.kids), (T.mk x29.k x29.n x29.kids)]))] []).bind fun x31 =>
 (ag x31.1 fun x32 x33 =>
 (ai x33 (aj x31.2
 (cond x3
 ((FF n 123 [.agg [.int .i64 x32.k, .int .i64 x32.n, .fr (.ts x32.kids)], .one (.bool x8)] []).bind fun x34 =>
 (ag x34.1 fun x35 x36 =>
 (aC .i64 x36 fun x37 x38 =>
 (ai x38 (aj x34.2
 (some ([.agg [.int .i64 x35.k, .int .i64 x35.n, .fr (.ts x35.kids)], .one (.int .i64 x37)], [])))))))
 ((FF n 123 [.agg [.int .i64 x32.k, .int .i64 x32.n, .fr (.ts x32.kids)], .one (.bool false)] []).bind fun x34 =>
 (ag x34.1 fun x35 x36 =>
 (aC .i64 x36 fun x37 x38 =>
 (ai x38 (aj x34.2
 (some ([.agg [.int .i64 x35.k, .int .i64 x35.n, .fr (.ts x35.kids)], .one (.int .i64 x37)], [])))))))))))))))))))))))))))))))))))))))))))))))))) := by kernel_rfl
theorem cR (n : Nat) (v0 : List T) (v1 v2 : Int) (v3 : List T) (v4 : Int) : FF (n + 1) 99 [.one (.fr (.ts v0)), .agg [.int .i64 v1, .int .i64 v2, .fr (.ts v3)], .one (.int .i64 v4)] [] =
 ((FF n 121 [.one (.int .i64 v1), .one (.int .i64 v4)] []).bind fun x0 =>
 (aC .i64 x0.1 fun x1 x2 =>
 (ai x2 (aj x0.2
 (cond (decide (x1 = 0))
 (some ([.one (.fr (.ts v0)), .one (.int .i64 0)], []))
 (v3[(0 : Int).toNat]?.bind fun x3 =>
 ((FF n 122 [.one (.fr (.ts v0)), .agg [.int .i64 x3.k, .int .i64 x3.n, .fr (.ts x3.kids)]] []).bind fun x4 =>
 (rTs x4.1 fun x5 x6 =>
 (aC .i64 x6 fun x7 x8 =>
 (ai x8 (aj x4.2
 (some ([.one (.fr (.ts x5)), .one (.int .i64 x7)], []))))))))))))) := by kernel_rfl
theorem oc (n : Nat) (v0 : Int) : FF (n + 1) 159 [.one (.int .i64 v0)] [] =
 (cond (decide (v0 = 3))
 (some ([.one (.bool true)], []))
 (cond (decide (v0 = 4))
 (some ([.one (.bool true)], []))
 (some ([.one (.bool (decide (v0 = 13)))], [])))) := by kernel_rfl
theorem ld (n : Nat) (v0 v1 : Int) (v2 : List T) : FF (n + 1) 164 [.agg [.int .i64 v0, .int .i64 v1, .fr (.ts v2)]] [] =
 ((FF n 156 [.agg [.int .i64 v0, .int .i64 v1, .fr (.ts v2)]] []).bind fun x0 =>
 (aC .i64 x0.1 fun x1 x2 =>
 (ai x2 (aj x0.2
 (cond (!decide (x1 = 0))
 ((FF n 157 [.agg [.int .i64 v0, .int .i64 v1, .fr (.ts v2)]] []).bind fun x3 =>
 (ag x3.1 fun x4 x5 =>
 (ai x5 (aj x3.2
 (some ([.agg [.int .i64 x4.k, .int .i64 x4.n, .fr (.ts x4.kids)], .one (.bool true)], []))))))
 ((FF n 179 [.one (.int .i64 v0)] []).bind fun x3 =>
 (aC .i64 x3.1 fun x4 x5 =>
 (ai x5 (aj x3.2
 (cond (decide (x4 < 0))
 (some ([.agg [.int .i64 v0, .int .i64 v1, .fr (.ts v2)], .one (.bool false)], []))
 (cond (decide (0 ≤ x4))
 (v2[(x4 : Int).toNat]?.bind fun x6 =>
 ((FF n 164 [.agg [.int .i64 x6.k, .int .i64 x6.n, .fr (.ts x6.kids)]] []).bind fun x7 =>
 (ag x7.1 fun x8 x9 =>
 (aK x9 fun x10 x11 =>
 (ai x11 (aj x7.2
 (cond (!x10)
 (some ([.agg [.int .i64 v0, .int .i64 v1, .fr (.ts v2)], .one (.bool false)], []))
 ((FF n 91 [.agg [.int .i64 v0, .int .i64 v1, .fr (.ts v2)], .one (.int .i64 x4), .agg [.int .i64 x8.k, .int .i64 x8.n, .fr (.ts x8.kids)]] []).bind fun x12 =>
 (ag x12.1 fun x13 x14 =>
 (ai x14 (aj x12.2
 (some ([.agg [.int .i64 x13.k, .int .i64 x13.n, .fr (.ts x13.kids)], .one (.bool true)], [])))))))))))))
 none))))))))))) := by kernel_rfl
theorem qP (n : Nat) (v0 : List T) (v1 v2 : Int) (v3 : List T) : FF (n + 1) 165 [.one (.fr (.ts v0)), .agg [.int .i64 v1, .int .i64 v2, .fr (.ts v3)]] [] =
 (cond (cr ([] ++ v0).length)
 (cond (cr (([] ++ v0) ++ [(T.mk v1 v2 v3)]).length)
 (some ([.one (.fr (.ts (([] ++ v0) ++ [(T.mk v1 v2 v3)])))], []))
 none)
 none) := by kernel_rfl
theorem oq (n : Nat) (v0 v1 : Int) : FF (n + 1) 166 [.one (.int .i64 v0), .one (.int .i64 v1)] [] =
 (cond (decide (v1 < v0))
 (some ([.one (.int .i64 v0)], []))
 (some ([.one (.int .i64 v1)], []))) := by kernel_rfl
theorem pH (n : Nat) (v0 : List T) (v1 v2 : Int) (v3 : List T) (v4 : Int) : FF (n + 1) 167 [.one (.fr (.ts v0)), .agg [.int .i64 v1, .int .i64 v2, .fr (.ts v3)], .one (.int .i64 v4)] [] =
 ((FF n 74 [.one (.fr (.ts v0)), .agg [.int .i64 v1, .int .i64 v2, .fr (.ts v3)]] []).bind fun x0 =>
 (ag x0.1 fun x1 x2 =>
 (aC .i64 x2 fun x3 x4 =>
 (ai x4 (aj x0.2
 (cond (!decide (x3 = 0))
 (some ([.agg [.int .i64 0, .int .i64 0, .fr (.ts [])], .one (.int .i64 x3)], []))
 ((FF n 108 [.agg [.int .i64 x1.k, .int .i64 x1.n, .fr (.ts x1.kids)]] []).bind fun x5 =>
 (ag x5.1 fun x6 x7 =>
 (aC .i64 x7 fun x8 x9 =>
 (ai x9 (aj x5.2
 (cond (!decide (x8 = 0))
 (some ([.agg [.int .i64 0, .int .i64 0, .fr (.ts [])], .one (.int .i64 x8)], []))
 (cond (!decide (x6.k = v4))
 (some ([.agg [.int .i64 0, .int .i64 0, .fr (.ts [])], .one (.int .i64 1)], []))
 (some ([.agg [.int .i64 x6.k, .int .i64 x6.n, .fr (.ts x6.kids)], .one (.int .i64 0)], []))))))))))))))) := by kernel_rfl
noncomputable def aJ (n c : Nat) (v0 v1 v2 v3 v4 : Int) (v5 : List T) (v6 v7 : Int) (v8 : List T) (v9 v10 : Int) (v11 : List T) (v12 v13 : Int) (v14 : List T) : OR := bj Tryz.prog SS n 168 0 [1, 1, 1, 1, 0, 1, 0] [] c ⟨[aa, .v (.one (.int .i64 v0)), aa, .v (.one (.int .i64 v1)), .v (.one (.ptr 0 0)), aa, .v (.one (.ptr 1 0)), aa, .v (.one (.ptr 2 0)), .v (.one (.ptr 4 0)), .v (.one (.int .i64 v2)), aa, aa, aa, aa, aa, aa, aa, aa, aa, aa, aa, aa, aa, aa, aa, aa, aa, aa, aa, aa, aa, aa, aa, aa, aa, aa, aa, aa, aa, aa, aa, aa, aa, aa, aa, aa, aa, aa, aa, aa, aa, aa, aa, aa, aa, aa, aa, aa, aa, aa, aa, aa, aa, aa, aa, aa, aa, aa, aa, aa, aa],
 [.cells [.int .i64 v3, .int .i64 v4, .fr (.ts v5)], .cells [.int .i64 v6, .int .i64 v7, .fr (.ts v8)], .cells [.int .i64 v9, .int .i64 v10, .own 3 0], .arr 25 (.ts v11) 0 false, .cells [.int .i64 v12, .int .i64 v13, .own 5 0], .arr 25 (.ts v14) 0 false]⟩
theorem dK (n c : Nat) (v0 v1 v2 v3 v4 : Int) (v5 : List T) (v6 v7 : Int) (v8 : List T) (v9 v10 : Int) (v11 : List T) (v12 v13 : Int) (v14 : List T) : aJ n (c + 1) v0 v1 v2 v3 v4 v5 v6 v7 v8 v9 v10 v11 v12 v13 v14 =
 (cond (decide (v2 < (v5.length : Int)))
 ((FF n 114 [.one (.int .i64 v3), .one (.int .i64 v2)] []).bind fun x0 =>
 (aC .i64 x0.1 fun x1 x2 =>
 (ai x2 (aj x0.2
 (cond (decide (0 ≤ v2))
 (v5[(v2 : Int).toNat]?.bind fun x3 =>
 ((FF n 168 [.agg [.int .i64 x3.k, .int .i64 x3.n, .fr (.ts x3.kids)], .one (.int .i64 (IntKind.i64.wrap (v0 + x1))), .agg [.int .i64 v6, .int .i64 v7, .fr (.ts v8)], .one (.int .i64 (IntKind.i64.wrap (v1 + x1)))] []).bind fun x4 =>
 (ag x4.1 fun x5 x6 =>
 (ai x6 (aj x4.2
 (cond (cr (v14 ++ [(T.mk x5.k x5.n x5.kids)]).length)
 (aJ n c v0 v1 (IntKind.i64.wrap (v2 + 1)) v3 v4 v5 v6 v7 v8 v9 v10 v11 v12 v13 (v14 ++ [(T.mk x5.k x5.n x5.kids)]))
 none))))))
 none)))))
 (some ([.agg [.int .i64 v12, .int .i64 v13, .fr (.ts v14)]], []))) := by kernel_rfl
theorem pF (n : Nat) (v0 v1 : Int) (v2 : List T) (v3 v4 v5 : Int) (v6 : List T) (v7 : Int) : FF (n + 1) 168 [.agg [.int .i64 v0, .int .i64 v1, .fr (.ts v2)], .one (.int .i64 v3), .agg [.int .i64 v4, .int .i64 v5, .fr (.ts v6)], .one (.int .i64 v7)] [] =
 (cond (decide (v0 = 1))
 (cond (decide (v1 = v3))
 ((FF n 83 [.agg [.int .i64 v4, .int .i64 v5, .fr (.ts v6)], .one (.int .i64 v7), .one (.int .i64 0)] []).bind fun x0 =>
 (ag x0.1 fun x1 x2 =>
 (ai x2 (aj x0.2
 (some ([.agg [.int .i64 x1.k, .int .i64 x1.n, .fr (.ts x1.kids)]], []))))))
 (cond (decide (v0 = 1))
 (cond (decide (v3 < v1))
 (aJ n n v3 v7 0 v0 v1 v2 v4 v5 v6 0 0 ([]) v0 (IntKind.i64.wrap (v1 - 1)) ([]))
 (aJ n n v3 v7 0 v0 v1 v2 v4 v5 v6 0 0 ([]) v0 v1 ([])))
 (aJ n n v3 v7 0 v0 v1 v2 v4 v5 v6 0 0 ([]) v0 v1 ([]))))
 (cond (decide (v0 = 1))
 (cond (decide (v3 < v1))
 (aJ n n v3 v7 0 v0 v1 v2 v4 v5 v6 0 0 ([]) v0 (IntKind.i64.wrap (v1 - 1)) ([]))
 (aJ n n v3 v7 0 v0 v1 v2 v4 v5 v6 0 0 ([]) v0 v1 ([])))
 (aJ n n v3 v7 0 v0 v1 v2 v4 v5 v6 0 0 ([]) v0 v1 ([])))) := by kernel_rfl
theorem nF (n : Nat) (v0 : List T) (v1 v2 : Int) (v3 : List T) (v4 v5 : Int) (v6 : List T) : FF (n + 1) 169 [.one (.fr (.ts v0)), .agg [.int .i64 v1, .int .i64 v2, .fr (.ts v3)], .agg [.int .i64 v4, .int .i64 v5, .fr (.ts v6)]] [] =
 ((FF n 167 [.one (.fr (.ts v0)), .agg [.int .i64 v1, .int .i64 v2, .fr (.ts v3)], .one (.int .i64 3)] []).bind fun x0 =>
 (ag x0.1 fun x1 x2 =>
 (aC .i64 x2 fun x3 x4 =>
 (ai x4 (aj x0.2
 (cond (!decide (x3 = 0))
 (some ([.one (.int .i64 x3)], []))
 ((x1.kids)[(0 : Int).toNat]?.bind fun x5 =>
 ((FF n 115 [.agg [.int .i64 x5.k, .int .i64 x5.n, .fr (.ts x5.kids)], .agg [.int .i64 v4, .int .i64 v5, .fr (.ts v6)]] []).bind fun x6 =>
 (aC .i64 x6.1 fun x7 x8 =>
 (ai x8 (aj x6.2
 (cond (!decide (x7 = 0))
 (some ([.one (.int .i64 x7)], []))
 ((x1.kids)[(1 : Int).toNat]?.bind fun x9 =>
 ((FF n 108 [.agg [.int .i64 x9.k, .int .i64 x9.n, .fr (.ts x9.kids)]] []).bind fun x10 =>
 (ag x10.1 fun x11 x12 =>
 (aC .i64 x12 fun x13 x14 =>
 (ai x14 (aj x10.2
 (cond (!decide (x13 = 0))
 (some ([.one (.int .i64 x13)], []))
 (cond (!decide (x11.k = 2))
 (some ([.one (.int .i64 1)], []))
 (some ([.one (.int .i64 0)], [])))))))))))))))))))))) := by kernel_rfl
theorem kX (n : Nat) (v0 v1 : Int) (v2 : List T) : FF (n + 1) 170 [.agg [.int .i64 v0, .int .i64 v1, .fr (.ts v2)]] [] =
 ((FF n 82 [.one (.int .i64 6), .one (.int .i64 0)] []).bind fun x0 =>
 (ag x0.1 fun x1 x2 =>
 (ai x2 (aj x0.2
 ((FF n 83 [.agg [.int .i64 v0, .int .i64 v1, .fr (.ts v2)], .one (.int .i64 1), .one (.int .i64 0)] []).bind fun x3 =>
 (ag x3.1 fun x4 x5 =>
 (ai x5 (aj x3.2
 ((FF n 82 [.one (.int .i64 1), .one (.int .i64 0)] []).bind fun x6 =>
 (ag x6.1 fun x7 x8 =>
 (ai x8 (aj x6.2
 ((FF n 81 [.one (.int .i64 5), .one (.fr (.ts [(T.mk x4.k x4.n x4.kids), (T.mk x7.k x7.n x7.kids)]))] []).bind fun x9 =>
 (ag x9.1 fun x10 x11 =>
 (ai x11 (aj x9.2
 ((FF n 83 [.agg [.int .i64 v0, .int .i64 v1, .fr (.ts v2)], .one (.int .i64 2), .one (.int .i64 0)] []).bind fun x12 =>
 (ag x12.1 fun x13 x14 =>
 (ai x14 (aj x12.2
 ((FF n 82 [.one (.int .i64 1), .one (.int .i64 1)] []).bind fun x15 =>
 (ag x15.1 fun x16 x17 =>
 (ai x17 (aj x15.2
 ((FF n 81 [.one (.int .i64 8), .one (.fr (.ts [(T.mk x16.k x16.n x16.kids)]))] []).bind fun x18 =>
 (ag x18.1 fun x19 x20 =>
 (ai x20 (aj x18.2
 ((FF n 81 [.one (.int .i64 5), .one (.fr (.ts [(T.mk x13.k x13.n x13.kids), (T.mk x19.k x19.n x19.kids)]))] []).bind fun x21 =>
 (ag x21.1 fun x22 x23 =>
 (ai x23 (aj x21.2
 ((FF n 81 [.one (.int .i64 3), .one (.fr (.ts [(T.mk x10.k x10.n x10.kids), (T.mk x22.k x22.n x22.kids)]))] []).bind fun x24 =>
 (ag x24.1 fun x25 x26 =>
 (ai x26 (aj x24.2
 ((FF n 81 [.one (.int .i64 3), .one (.fr (.ts [(T.mk x1.k x1.n x1.kids), (T.mk x25.k x25.n x25.kids)]))] []).bind fun x27 =>
 (ag x27.1 fun x28 x29 =>
 (ai x29 (aj x27.2
 (some ([.agg [.int .i64 x28.k, .int .i64 x28.n, .fr (.ts x28.kids)]], [])))))))))))))))))))))))))))))))))))))))))) := by kernel_rfl
theorem kT (n : Nat) (v0 : List T) (v1 v2 : Int) (v3 : List T) : FF (n + 1) 171 [.one (.fr (.ts v0)), .agg [.int .i64 v1, .int .i64 v2, .fr (.ts v3)]] [] =
 (v3[(0 : Int).toNat]?.bind fun x0 =>
 ((FF n 167 [.one (.fr (.ts v0)), .agg [.int .i64 x0.k, .int .i64 x0.n, .fr (.ts x0.kids)], .one (.int .i64 13)] []).bind fun x1 =>
 (ag x1.1 fun x2 x3 =>
 (aC .i64 x3 fun x4 x5 =>
 (ai x5 (aj x1.2
 (cond (!decide (x4 = 0))
 (some ([.agg [.int .i64 0, .int .i64 0, .fr (.ts [])], .one (.int .i64 x4)], []))
 (cond (decide (v1 = 15))
 ((x2.kids)[(0 : Int).toNat]?.bind fun x6 =>
 some ([.agg [.int .i64 x6.k, .int .i64 x6.n, .fr (.ts x6.kids)], .one (.int .i64 0)], []))
 ((x2.kids)[(1 : Int).toNat]?.bind fun x6 =>
 (v3[(0 : Int).toNat]?.bind fun x7 =>
 ((FF n 81 [.one (.int .i64 15), .one (.fr (.ts [(T.mk x7.k x7.n x7.kids)]))] []).bind fun x8 =>
 (ag x8.1 fun x9 x10 =>
 (ai x10 (aj x8.2
 ((FF n 168 [.agg [.int .i64 x6.k, .int .i64 x6.n, .fr (.ts x6.kids)], .one (.int .i64 0), .agg [.int .i64 x9.k, .int .i64 x9.n, .fr (.ts x9.kids)], .one (.int .i64 0)] []).bind fun x11 =>
 (ag x11.1 fun x12 x13 =>
 (ai x13 (aj x11.2
 (some ([.agg [.int .i64 x12.k, .int .i64 x12.n, .fr (.ts x12.kids)], .one (.int .i64 0)], [])))))))))))))))))))) := by kernel_rfl
theorem pj (n : Nat) (v0 : List T) : FF (n + 1) 160 [.one (.fr (.ts v0))] [] =
 (cond (Nat.beq v0.length 0)
 (same (some ([.one (.own 0 0)], [.arr 25 (.ts []) 0 false]))
 (cond (cr ([] ++ v0).length)
 (some ([.one (.own 0 0)], [.arr 25 (.ts ([] ++ v0)) 0 false]))
 none))
 (cond (cr ([] ++ v0).length)
 (some ([.one (.own 0 0)], [.arr 25 (.ts ([] ++ v0)) 0 false]))
 none)) := by kernel_rfl
noncomputable def cZ (n c : Nat) (v0 v1 v2 : Int) (v3 : List T) (v4 v5 : Int) (v6 : List T) : OR := bj Tryz.prog SS n 172 0 [1, 1, 0, 1, 0] [] c ⟨[aa, aa, .v (.one (.ptr 0 0)), .v (.one (.ptr 1 0)), aa, .v (.one (.int .i64 v0)), aa, aa, aa, aa, aa, aa, aa, aa, aa, aa, aa, aa, aa, aa, aa, aa, aa, aa, aa, aa, aa, aa, aa, aa, aa, aa, aa, aa, aa, aa, aa, aa, aa, aa, aa, aa, aa, aa, aa, aa],
 [.cells [.int .i64 v1, .int .i64 v2, .fr (.ts v3)], .cells [.int .i64 v4, .int .i64 v5, .fr (.ts v6)]]⟩
theorem fl (n c : Nat) (v0 v1 v2 : Int) (v3 : List T) (v4 v5 : Int) (v6 : List T) : cZ n (c + 1) v0 v1 v2 v3 v4 v5 v6 =
 (cond (decide (v0 < (v3.length : Int)))
 (cond (decide (0 ≤ v0))
 (v3[(v0 : Int).toNat]?.bind fun x0 =>
 (cond (decide (0 ≤ v0))
 (v6[(v0 : Int).toNat]?.bind fun x1 =>
 ((FF n 172 [.agg [.int .i64 x0.k, .int .i64 x0.n, .fr (.ts x0.kids)], .agg [.int .i64 x1.k, .int .i64 x1.n, .fr (.ts x1.kids)]] []).bind fun x2 =>
 (aK x2.1 fun x3 x4 =>
 (ai x4 (aj x2.2
 (cond (!x3)
 (some ([.one (.bool false)], []))
 (cZ n c (IntKind.i64.wrap (v0 + 1)) v1 v2 v3 v4 v5 v6)))))))
 none))
 none)
 (some ([.one (.bool true)], []))) := by kernel_rfl
theorem ot (n : Nat) (v0 v1 : Int) (v2 : List T) (v3 v4 : Int) (v5 : List T) : FF (n + 1) 172 [.agg [.int .i64 v0, .int .i64 v1, .fr (.ts v2)], .agg [.int .i64 v3, .int .i64 v4, .fr (.ts v5)]] [] =
 (cond (!decide (v0 = v3))
 (some ([.one (.bool false)], []))
 (cond (!decide (v1 = v4))
 (some ([.one (.bool false)], []))
 (cond (!decide ((v2.length : Int) = (v5.length : Int)))
 (some ([.one (.bool false)], []))
 (cZ n n 0 v0 v1 v2 v3 v4 v5)))) := by kernel_rfl
noncomputable def c0 (n c : Nat) (v0 : ByteArray) (v1 v2 v3 : Int) : OR := bj Tryz.prog SS n 173 0 [1, 1, 0, 0] [] c ⟨[.v (.one (.str v0)), .v (.one (.int .i64 v1)), .v (.one (.int .i64 v2)), aa, aa, aa, aa, aa, .v (.one (.int .i64 v3)), aa, aa, aa, aa, aa, aa, aa, aa, aa, aa, aa, aa, aa, aa, aa, aa, aa, aa, aa, aa, aa, aa, aa, aa, aa, aa, aa, aa, aa, aa, aa, aa, aa, aa, aa, aa, aa, aa, aa, aa],
 []⟩
theorem fk (n c : Nat) (v0 : ByteArray) (v1 v2 v3 : Int) : c0 n (c + 1) v0 v1 v2 v3 =
 (cond (decide (v3 < (v0.size : Int)))
 (cond (decide (v3 < (IntKind.i64.wrap (v1 + v2))))
 (cond (decide (0 ≤ v3) && decide (v3 < ((v0.size : Nat) : Int)))
 (cond (decide (48 ≤ ((aQ v0 (v3 : Int).toNat).toNat : Int)))
 (cond (decide (0 ≤ v3) && decide (v3 < ((v0.size : Nat) : Int)))
 (cond (decide (((aQ v0 (v3 : Int).toNat).toNat : Int) ≤ 57))
 (c0 n c v0 v1 v2 (IntKind.i64.wrap (v3 + 1)))
 (cond (Go.Ab.inB v1 v3 v0.size)
 ((FF n 180 [.one (.str (v0.extract (v1 : Int).toNat (v3 : Int).toNat))] []).bind fun x0 =>
 (aC .i64 x0.1 fun x1 x2 =>
 (aK x2 fun x3 x4 =>
 (ai x4 (aj x0.2
 (cond (!x3)
 (some ([.one (.int .i64 0), .one (.int .i64 (-1))], []))
 (some ([.one (.int .i64 x1), .one (.int .i64 v3)], []))))))))
 none))
 none)
 (cond (Go.Ab.inB v1 v3 v0.size)
 ((FF n 180 [.one (.str (v0.extract (v1 : Int).toNat (v3 : Int).toNat))] []).bind fun x0 =>
 (aC .i64 x0.1 fun x1 x2 =>
 (aK x2 fun x3 x4 =>
 (ai x4 (aj x0.2
 (cond (!x3)
 (some ([.one (.int .i64 0), .one (.int .i64 (-1))], []))
 (some ([.one (.int .i64 x1), .one (.int .i64 v3)], []))))))))
 none))
 none)
 (cond (Go.Ab.inB v1 v3 v0.size)
 ((FF n 180 [.one (.str (v0.extract (v1 : Int).toNat (v3 : Int).toNat))] []).bind fun x0 =>
 (aC .i64 x0.1 fun x1 x2 =>
 (aK x2 fun x3 x4 =>
 (ai x4 (aj x0.2
 (cond (!x3)
 (some ([.one (.int .i64 0), .one (.int .i64 (-1))], []))
 (some ([.one (.int .i64 x1), .one (.int .i64 v3)], []))))))))
 none))
 (cond (Go.Ab.inB v1 v3 v0.size)
 ((FF n 180 [.one (.str (v0.extract (v1 : Int).toNat (v3 : Int).toNat))] []).bind fun x0 =>
 (aC .i64 x0.1 fun x1 x2 =>
 (aK x2 fun x3 x4 =>
 (ai x4 (aj x0.2
 (cond (!x3)
 (some ([.one (.int .i64 0), .one (.int .i64 (-1))], []))
 (some ([.one (.int .i64 x1), .one (.int .i64 v3)], []))))))))
 none)) := by kernel_rfl
theorem nX (n : Nat) (v0 : ByteArray) (v1 v2 : Int) : FF (n + 1) 173 [.one (.str v0), .one (.int .i64 v1), .one (.int .i64 v2)] [] =
 c0 n n v0 v1 v2 v1 := by kernel_rfl
end Go.Proofs.YtajlknlnmmbfcaaGreat
end
section
namespace Go.Proofs.YtajlknlnmmbfcaaGreat
open Go Go.Ab Go.Dk
theorem oh (n : Nat) (v0 : ByteArray) (v1 v2 : Int) : FF (n + 1) 174 [.one (.str v0), .one (.int .i64 v1), .one (.int .i64 v2)] [] =
 (cond (decide (0 ≤ v1) && decide (v1 < ((v0.size : Nat) : Int)))
 (cond (decide (((aQ v0 (v1 : Int).toNat).toNat : Int) = 33))
 ((FF n 154 [.one (.str v0), .one (.int .i64 (IntKind.i64.wrap (v1 + 1))), .one (.int .i64 (IntKind.i64.wrap (v2 - 1)))] []).bind fun x0 =>
 (ag x0.1 fun x1 x2 =>
 (aC .i64 x2 fun x3 x4 =>
 (ai x4 (aj x0.2
 ((FF n 81 [.one (.int .i64 11), .one (.fr (.ts [(T.mk x1.k x1.n x1.kids)]))] []).bind fun x5 =>
 (ag x5.1 fun x6 x7 =>
 (ai x7 (aj x5.2
 (some ([.agg [.int .i64 x6.k, .int .i64 x6.n, .fr (.ts x6.kids)], .one (.int .i64 x3)], [])))))))))))
 (cond (decide (((aQ v0 (v1 : Int).toNat).toNat : Int) = 94))
 ((FF n 154 [.one (.str v0), .one (.int .i64 (IntKind.i64.wrap (v1 + 1))), .one (.int .i64 (IntKind.i64.wrap (v2 - 1)))] []).bind fun x0 =>
 (ag x0.1 fun x1 x2 =>
 (aC .i64 x2 fun x3 x4 =>
 (ai x4 (aj x0.2
 ((FF n 81 [.one (.int .i64 15), .one (.fr (.ts [(T.mk x1.k x1.n x1.kids)]))] []).bind fun x5 =>
 (ag x5.1 fun x6 x7 =>
 (ai x7 (aj x5.2
 (some ([.agg [.int .i64 x6.k, .int .i64 x6.n, .fr (.ts x6.kids)], .one (.int .i64 x3)], [])))))))))))
 (cond (decide (((aQ v0 (v1 : Int).toNat).toNat : Int) = 95))
 ((FF n 154 [.one (.str v0), .one (.int .i64 (IntKind.i64.wrap (v1 + 1))), .one (.int .i64 (IntKind.i64.wrap (v2 - 1)))] []).bind fun x0 =>
 (ag x0.1 fun x1 x2 =>
 (aC .i64 x2 fun x3 x4 =>
 (ai x4 (aj x0.2
 ((FF n 81 [.one (.int .i64 16), .one (.fr (.ts [(T.mk x1.k x1.n x1.kids)]))] []).bind fun x5 =>
 (ag x5.1 fun x6 x7 =>
 (ai x7 (aj x5.2
 (some ([.agg [.int .i64 x6.k, .int .i64 x6.n, .fr (.ts x6.kids)], .one (.int .i64 x3)], [])))))))))))
 ((FF n 154 [.one (.str v0), .one (.int .i64 (IntKind.i64.wrap (v1 + 1))), .one (.int .i64 (IntKind.i64.wrap (v2 - 1)))] []).bind fun x0 =>
 (ag x0.1 fun x1 x2 =>
 (aC .i64 x2 fun x3 x4 =>
 (ai x4 (aj x0.2
 ((FF n 81 [.one (.int .i64 8), .one (.fr (.ts [(T.mk x1.k x1.n x1.kids)]))] []).bind fun x5 =>
 (ag x5.1 fun x6 x7 =>
 (ai x7 (aj x5.2
 (some ([.agg [.int .i64 x6.k, .int .i64 x6.n, .fr (.ts x6.kids)], .one (.int .i64 x3)], []))))))))))))))
 none) := by kernel_rfl
theorem po (n : Nat) (v0 : ByteArray) (v1 v2 : Int) : FF (n + 1) 175 [.one (.str v0), .one (.int .i64 v1), .one (.int .i64 v2)] [] =
 ((FF n 154 [.one (.str v0), .one (.int .i64 v1), .one (.int .i64 v2)] []).bind fun x0 =>
 (ag x0.1 fun x1 x2 =>
 (aC .i64 x2 fun x3 x4 =>
 (ai x4 (aj x0.2
 (cond (decide (x3 < 0))
 (some ([.agg [.int .i64 0, .int .i64 0, .fr (.ts [])], .one (.int .i64 (-1))], []))
 (cond (decide ((v0.size : Int) ≤ x3))
 (some ([.agg [.int .i64 0, .int .i64 0, .fr (.ts [])], .one (.int .i64 (-1))], []))
 (cond (decide (0 ≤ x3) && decide (x3 < ((v0.size : Nat) : Int)))
 (cond (decide (((aQ v0 (x3 : Int).toNat).toNat : Int) = 62))
 ((FF n 154 [.one (.str v0), .one (.int .i64 (IntKind.i64.wrap (x3 + 1))), .one (.int .i64 v2)] []).bind fun x5 =>
 (ag x5.1 fun x6 x7 =>
 (aC .i64 x7 fun x8 x9 =>
 (ai x9 (aj x5.2
 (cond (decide (x8 < 0))
 (some ([.agg [.int .i64 0, .int .i64 0, .fr (.ts [])], .one (.int .i64 (-1))], []))
 (cond (decide ((v0.size : Int) ≤ x8))
 (some ([.agg [.int .i64 0, .int .i64 0, .fr (.ts [])], .one (.int .i64 (-1))], []))
 (cond (decide (0 ≤ x8) && decide (x8 < ((v0.size : Nat) : Int)))
 (cond (!decide (((aQ v0 (x8 : Int).toNat).toNat : Int) = 41))
 (some ([.agg [.int .i64 0, .int .i64 0, .fr (.ts [])], .one (.int .i64 (-1))], []))
 ((FF n 81 [.one (.int .i64 3), .one (.fr (.ts [(T.mk x1.k x1.n x1.kids), (T.mk x6.k x6.n x6.kids)]))] []).bind fun x10 =>
 (ag x10.1 fun x11 x12 =>
 (ai x12 (aj x10.2
 (some ([.agg [.int .i64 x11.k, .int .i64 x11.n, .fr (.ts x11.kids)], .one (.int .i64 (IntKind.i64.wrap (x8 + 1)))], [])))))))
 none))))))))
 (cond (decide (((aQ v0 (x3 : Int).toNat).toNat : Int) = 42))
 ((FF n 154 [.one (.str v0), .one (.int .i64 (IntKind.i64.wrap (x3 + 1))), .one (.int .i64 v2)] []).bind fun x5 =>
 (ag x5.1 fun x6 x7 =>
 (aC .i64 x7 fun x8 x9 =>
 (ai x9 (aj x5.2
 (cond (decide (x8 < 0))
 (some ([.agg [.int .i64 0, .int .i64 0, .fr (.ts [])], .one (.int .i64 (-1))], []))
 (cond (decide ((v0.size : Int) ≤ x8))
 (some ([.agg [.int .i64 0, .int .i64 0, .fr (.ts [])], .one (.int .i64 (-1))], []))
 (cond (decide (0 ≤ x8) && decide (x8 < ((v0.size : Nat) : Int)))
 (cond (!decide (((aQ v0 (x8 : Int).toNat).toNat : Int) = 41))
 (some ([.agg [.int .i64 0, .int .i64 0, .fr (.ts [])], .one (.int .i64 (-1))], []))
 ((FF n 81 [.one (.int .i64 13), .one (.fr (.ts [(T.mk x1.k x1.n x1.kids), (T.mk x6.k x6.n x6.kids)]))] []).bind fun x10 =>
 (ag x10.1 fun x11 x12 =>
 (ai x12 (aj x10.2
 (some ([.agg [.int .i64 x11.k, .int .i64 x11.n, .fr (.ts x11.kids)], .one (.int .i64 (IntKind.i64.wrap (x8 + 1)))], [])))))))
 none))))))))
 (cond (decide (((aQ v0 (x3 : Int).toNat).toNat : Int) = 32))
 ((FF n 154 [.one (.str v0), .one (.int .i64 (IntKind.i64.wrap (x3 + 1))), .one (.int .i64 v2)] []).bind fun x5 =>
 (ag x5.1 fun x6 x7 =>
 (aC .i64 x7 fun x8 x9 =>
 (ai x9 (aj x5.2
 (cond (decide (x8 < 0))
 (some ([.agg [.int .i64 0, .int .i64 0, .fr (.ts [])], .one (.int .i64 (-1))], []))
 (cond (decide ((v0.size : Int) ≤ x8))
 (some ([.agg [.int .i64 0, .int .i64 0, .fr (.ts [])], .one (.int .i64 (-1))], []))
 (cond (decide (0 ≤ x8) && decide (x8 < ((v0.size : Nat) : Int)))
 (cond (!decide (((aQ v0 (x8 : Int).toNat).toNat : Int) = 41))
 (some ([.agg [.int .i64 0, .int .i64 0, .fr (.ts [])], .one (.int .i64 (-1))], []))
 ((FF n 81 [.one (.int .i64 5), .one (.fr (.ts [(T.mk x1.k x1.n x1.kids), (T.mk x6.k x6.n x6.kids)]))] []).bind fun x10 =>
 (ag x10.1 fun x11 x12 =>
 (ai x12 (aj x10.2
 (some ([.agg [.int .i64 x11.k, .int .i64 x11.n, .fr (.ts x11.kids)], .one (.int .i64 (IntKind.i64.wrap (x8 + 1)))], [])))))))
 none))))))))
 ((FF n 154 [.one (.str v0), .one (.int .i64 (IntKind.i64.wrap (x3 + 1))), .one (.int .i64 v2)] []).bind fun x5 =>
 (ag x5.1 fun x6 x7 =>
 (aC .i64 x7 fun x8 x9 =>
 (ai x9 (aj x5.2
 (some ([.agg [.int .i64 0, .int .i64 0, .fr (.ts [])], .one (.int .i64 (-1))], []))))))))))
 none)))))))) := by kernel_rfl
theorem o7 (n : Nat) (v0 : ByteArray) (v1 v2 : Int) : FF (n + 1) 176 [.one (.str v0), .one (.int .i64 v1), .one (.int .i64 v2)] [] =
 (cond (decide (0 ≤ v1) && decide (v1 < ((v0.size : Nat) : Int)))
 (cond (decide (((aQ v0 (v1 : Int).toNat).toNat : Int) = 60))
 ((FF n 138 [.one (.int .i64 9)] []).bind fun x0 =>
 (aC .i64 x0.1 fun x1 x2 =>
 (ai x2 (aj x0.2
 ((FF n 181 [.one (.str v0), .one (.int .i64 (IntKind.i64.wrap (v1 + 1))), .one (.int .i64 (IntKind.i64.wrap (v2 - 1))), .one (.int .i64 x1), .one (.int .u8 62)] []).bind fun x3 =>
 (rTs x3.1 fun x4 x5 =>
 (aC .i64 x5 fun x6 x7 =>
 (ai x7 (aj x3.2
 (some ([.agg [.int .i64 9, .int .i64 0, .fr (.ts x4)], .one (.int .i64 x6)], [])))))))))))
 (cond (decide (((aQ v0 (v1 : Int).toNat).toNat : Int) = 123))
 ((FF n 138 [.one (.int .i64 10)] []).bind fun x0 =>
 (aC .i64 x0.1 fun x1 x2 =>
 (ai x2 (aj x0.2
 ((FF n 181 [.one (.str v0), .one (.int .i64 (IntKind.i64.wrap (v1 + 1))), .one (.int .i64 (IntKind.i64.wrap (v2 - 1))), .one (.int .i64 x1), .one (.int .u8 125)] []).bind fun x3 =>
 (rTs x3.1 fun x4 x5 =>
 (aC .i64 x5 fun x6 x7 =>
 (ai x7 (aj x3.2
 (some ([.agg [.int .i64 10, .int .i64 0, .fr (.ts x4)], .one (.int .i64 x6)], [])))))))))))
 (cond (decide (((aQ v0 (v1 : Int).toNat).toNat : Int) = 124))
 ((FF n 138 [.one (.int .i64 14)] []).bind fun x0 =>
 (aC .i64 x0.1 fun x1 x2 =>
 (ai x2 (aj x0.2
 ((FF n 181 [.one (.str v0), .one (.int .i64 (IntKind.i64.wrap (v1 + 1))), .one (.int .i64 (IntKind.i64.wrap (v2 - 1))), .one (.int .i64 x1), .one (.int .u8 124)] []).bind fun x3 =>
 (rTs x3.1 fun x4 x5 =>
 (aC .i64 x5 fun x6 x7 =>
 (ai x7 (aj x3.2
 (some ([.agg [.int .i64 14, .int .i64 0, .fr (.ts x4)], .one (.int .i64 x6)], [])))))))))))
 (cond (decide (((aQ v0 (v1 : Int).toNat).toNat : Int) = 64))
 (cond (decide ((v0.size : Int) < (IntKind.i64.wrap (v1 + 2))))
 (some ([.agg [.int .i64 0, .int .i64 0, .fr (.ts [])], .one (.int .i64 (-1))], []))
 (cond (decide (0 ≤ (IntKind.i64.wrap (v1 + 1))) && decide ((IntKind.i64.wrap (v1 + 1)) < ((v0.size : Nat) : Int)))
 (cond (!decide (((aQ v0 ((IntKind.i64.wrap (v1 + 1)) : Int).toNat).toNat : Int) = 60))
 (some ([.agg [.int .i64 0, .int .i64 0, .fr (.ts [])], .one (.int .i64 (-1))], []))
 ((FF n 138 [.one (.int .i64 12)] []).bind fun x0 =>
 (aC .i64 x0.1 fun x1 x2 =>
 (ai x2 (aj x0.2
 ((FF n 181 [.one (.str v0), .one (.int .i64 (IntKind.i64.wrap (v1 + 2))), .one (.int .i64 (IntKind.i64.wrap (v2 - 1))), .one (.int .i64 x1), .one (.int .u8 62)] []).bind fun x3 =>
 (rTs x3.1 fun x4 x5 =>
 (aC .i64 x5 fun x6 x7 =>
 (ai x7 (aj x3.2
 (some ([.agg [.int .i64 12, .int .i64 0, .fr (.ts x4)], .one (.int .i64 x6)], []))))))))))))
 none))
 (some ([.agg [.int .i64 0, .int .i64 0, .fr (.ts [])], .one (.int .i64 (-1))], []))))))
 none) := by kernel_rfl
theorem sk (n : Nat) (v0 v1 : Int) (v2 : List T) : FF (n + 1) 177 [.agg [.int .i64 v0, .int .i64 v1, .fr (.ts v2)]] [] =
 (cond (decide (v0 = 1))
 ((FF n 182 [.one (.int .i64 v1)] []).bind fun x0 =>
 (kW x0.1 fun x1 x2 =>
 (ai x2 (aj x0.2
 (cond (decide ((bytesOf [35]).size + x1.size ≤ 9223372036854775807))
 (some ([.one (.str ((bytesOf [35]) ++ x1))], []))
 none)))))
 (cond (decide (v0 = 2))
 ((FF n 182 [.one (.int .i64 v1)] []).bind fun x0 =>
 (kW x0.1 fun x1 x2 =>
 (ai x2 (aj x0.2
 (cond (decide ((bytesOf [42]).size + x1.size ≤ 9223372036854775807))
 (some ([.one (.str ((bytesOf [42]) ++ x1))], []))
 none)))))
 (cond (decide (v0 = 6))
 (some ([.one (.str (bytesOf [78]))], []))
 (cond (decide (v0 = 7))
 (some ([.one (.str (bytesOf [48]))], []))
 (cond (decide (v0 = 8))
 (v2[(0 : Int).toNat]?.bind fun x0 =>
 ((FF n 177 [.agg [.int .i64 x0.k, .int .i64 x0.n, .fr (.ts x0.kids)]] []).bind fun x1 =>
 (kW x1.1 fun x2 x3 =>
 (ai x3 (aj x1.2
 (cond (decide ((bytesOf [43]).size + x2.size ≤ 9223372036854775807))
 (some ([.one (.str ((bytesOf [43]) ++ x2))], []))
 none))))))
 (cond (decide (v0 = 11))
 (v2[(0 : Int).toNat]?.bind fun x0 =>
 ((FF n 177 [.agg [.int .i64 x0.k, .int .i64 x0.n, .fr (.ts x0.kids)]] []).bind fun x1 =>
 (kW x1.1 fun x2 x3 =>
 (ai x3 (aj x1.2
 (cond (decide ((bytesOf [33]).size + x2.size ≤ 9223372036854775807))
 (some ([.one (.str ((bytesOf [33]) ++ x2))], []))
 none))))))
 (cond (decide (v0 = 15))
 (v2[(0 : Int).toNat]?.bind fun x0 =>
 ((FF n 177 [.agg [.int .i64 x0.k, .int .i64 x0.n, .fr (.ts x0.kids)]] []).bind fun x1 =>
 (kW x1.1 fun x2 x3 =>
 (ai x3 (aj x1.2
 (cond (decide ((bytesOf [94]).size + x2.size ≤ 9223372036854775807))
 (some ([.one (.str ((bytesOf [94]) ++ x2))], []))
 none))))))
 (cond (decide (v0 = 16))
 (v2[(0 : Int).toNat]?.bind fun x0 =>
 ((FF n 177 [.agg [.int .i64 x0.k, .int .i64 x0.n, .fr (.ts x0.kids)]] []).bind fun x1 =>
 (kW x1.1 fun x2 x3 =>
 (ai x3 (aj x1.2
 (cond (decide ((bytesOf [95]).size + x2.size ≤ 9223372036854775807))
 (some ([.one (.str ((bytesOf [95]) ++ x2))], []))
 none))))))
 (cond (decide (v0 = 3))
 (v2[(0 : Int).toNat]?.bind fun x0 =>
 ((FF n 177 [.agg [.int .i64 x0.k, .int .i64 x0.n, .fr (.ts x0.kids)]] []).bind fun x1 =>
 (kW x1.1 fun x2 x3 =>
 (ai x3 (aj x1.2
 (cond (decide ((bytesOf [40]).size + x2.size ≤ 9223372036854775807))
 (cond (decide (((bytesOf [40]) ++ x2).size + (bytesOf [62]).size ≤ 9223372036854775807))
 (v2[(1 : Int).toNat]?.bind fun x4 =>
 ((FF n 177 [.agg [.int .i64 x4.k, .int .i64 x4.n, .fr (.ts x4.kids)]] []).bind fun x5 =>
 (kW x5.1 fun x6 x7 =>
 (ai x7 (aj x5.2
 (cond (decide ((((bytesOf [40]) ++ x2) ++ (bytesOf [62])).size + x6.size ≤ 9223372036854775807))
 (cond (decide (((((bytesOf [40]) ++ x2) ++ (bytesOf [62])) ++ x6).size + (bytesOf [41]).size ≤ 9223372036854775807))
 (some ([.one (.str (((((bytesOf [40]) ++ x2) ++ (bytesOf [62])) ++ x6) ++ (bytesOf [41])))], []))
 none)
 none))))))
 none)
 none))))))
 (cond (decide (v0 = 13))
 (v2[(0 : Int).toNat]?.bind fun x0 =>
 ((FF n 177 [.agg [.int .i64 x0.k, .int .i64 x0.n, .fr (.ts x0.kids)]] []).bind fun x1 =>
 (kW x1.1 fun x2 x3 =>
 (ai x3 (aj x1.2
 (cond (decide ((bytesOf [40]).size + x2.size ≤ 9223372036854775807))
 (cond (decide (((bytesOf [40]) ++ x2).size + (bytesOf [42]).size ≤ 9223372036854775807))
 (v2[(1 : Int).toNat]?.bind fun x4 =>
 ((FF n 177 [.agg [.int .i64 x4.k, .int .i64 x4.n, .fr (.ts x4.kids)]] []).bind fun x5 =>
 (kW x5.1 fun x6 x7 =>
 (ai x7 (aj x5.2
 (cond (decide ((((bytesOf [40]) ++ x2) ++ (bytesOf [42])).size + x6.size ≤ 9223372036854775807))
 (cond (decide (((((bytesOf [40]) ++ x2) ++ (bytesOf [42])) ++ x6).size + (bytesOf [41]).size ≤ 9223372036854775807))
 (some ([.one (.str (((((bytesOf [40]) ++ x2) ++ (bytesOf [42])) ++ x6) ++ (bytesOf [41])))], []))
 none)
 none))))))
 none)
 none))))))
 (cond (decide (v0 = 5))
 (v2[(0 : Int).toNat]?.bind fun x0 =>
 ((FF n 177 [.agg [.int .i64 x0.k, .int .i64 x0.n, .fr (.ts x0.kids)]] []).bind fun x1 =>
 (kW x1.1 fun x2 x3 =>
 (ai x3 (aj x1.2
 (cond (decide ((bytesOf [40]).size + x2.size ≤ 9223372036854775807))
 (cond (decide (((bytesOf [40]) ++ x2).size + (bytesOf [32]).size ≤ 9223372036854775807))
 (v2[(1 : Int).toNat]?.bind fun x4 =>
 ((FF n 177 [.agg [.int .i64 x4.k, .int .i64 x4.n, .fr (.ts x4.kids)]] []).bind fun x5 =>
 (kW x5.1 fun x6 x7 =>
 (ai x7 (aj x5.2
 (cond (decide ((((bytesOf [40]) ++ x2) ++ (bytesOf [32])).size + x6.size ≤ 9223372036854775807))
 (cond (decide (((((bytesOf [40]) ++ x2) ++ (bytesOf [32])) ++ x6).size + (bytesOf [41]).size ≤ 9223372036854775807))
 (some ([.one (.str (((((bytesOf [40]) ++ x2) ++ (bytesOf [32])) ++ x6) ++ (bytesOf [41])))], []))
 none)
 none))))))
 none)
 none))))))
 (cond (decide (v0 = 4))
 (v2[(0 : Int).toNat]?.bind fun x0 =>
 ((FF n 177 [.agg [.int .i64 x0.k, .int .i64 x0.n, .fr (.ts x0.kids)]] []).bind fun x1 =>
 (kW x1.1 fun x2 x3 =>
 (ai x3 (aj x1.2
 (cond (decide ((bytesOf [91]).size + x2.size ≤ 9223372036854775807))
 (cond (decide (((bytesOf [91]) ++ x2).size + (bytesOf [93]).size ≤ 9223372036854775807))
 (v2[(1 : Int).toNat]?.bind fun x4 =>
 ((FF n 177 [.agg [.int .i64 x4.k, .int .i64 x4.n, .fr (.ts x4.kids)]] []).bind fun x5 =>
 (kW x5.1 fun x6 x7 =>
 (ai x7 (aj x5.2
 (cond (decide ((((bytesOf [91]) ++ x2) ++ (bytesOf [93])).size + x6.size ≤ 9223372036854775807))
 (some ([.one (.str ((((bytesOf [91]) ++ x2) ++ (bytesOf [93])) ++ x6))], []))
 none))))))
 none)
 none))))))
 (cond (decide (v0 = 10))
 ((FF n 183 [.one (.fr (.ts v2))] []).bind fun x0 =>
 (kW x0.1 fun x1 x2 =>
 (ai x2 (aj x0.2
 (cond (decide ((bytesOf [123]).size + x1.size ≤ 9223372036854775807))
 (cond (decide (((bytesOf [123]) ++ x1).size + (bytesOf [125]).size ≤ 9223372036854775807))
 (some ([.one (.str (((bytesOf [123]) ++ x1) ++ (bytesOf [125])))], []))
 none)
 none)))))
 (cond (decide (v0 = 14))
 ((FF n 183 [.one (.fr (.ts v2))] []).bind fun x0 =>
 (kW x0.1 fun x1 x2 =>
 (ai x2 (aj x0.2
 (cond (decide ((bytesOf [124]).size + x1.size ≤ 9223372036854775807))
 (cond (decide (((bytesOf [124]) ++ x1).size + (bytesOf [124]).size ≤ 9223372036854775807))
 (some ([.one (.str (((bytesOf [124]) ++ x1) ++ (bytesOf [124])))], []))
 none)
 none)))))
 (cond (decide (v0 = 12))
 ((FF n 183 [.one (.fr (.ts v2))] []).bind fun x0 =>
 (kW x0.1 fun x1 x2 =>
 (ai x2 (aj x0.2
 (cond (decide ((bytesOf [64, 60]).size + x1.size ≤ 9223372036854775807))
 (cond (decide (((bytesOf [64, 60]) ++ x1).size + (bytesOf [62]).size ≤ 9223372036854775807))
 (some ([.one (.str (((bytesOf [64, 60]) ++ x1) ++ (bytesOf [62])))], []))
 none)
 none)))))
 ((FF n 183 [.one (.fr (.ts v2))] []).bind fun x0 =>
 (kW x0.1 fun x1 x2 =>
 (ai x2 (aj x0.2
 (cond (decide ((bytesOf [60]).size + x1.size ≤ 9223372036854775807))
 (cond (decide (((bytesOf [60]) ++ x1).size + (bytesOf [62]).size ≤ 9223372036854775807))
 (some ([.one (.str (((bytesOf [60]) ++ x1) ++ (bytesOf [62])))], []))
 none)
 none)))))))))))))))))))) := by kernel_rfl
noncomputable def a9 (n c : Nat) (v0 v1 v2 v3 : Int) (v4 : List T) (v5 v6 : Int) (v7 : List T) : OR := bj Tryz.prog SS n 76 0 [1, 1, 1, 0] [] c ⟨[aa, .v (.one (.int .i64 v0)), .v (.one (.fn 178 [])), .v (.one (.ptr 0 0)), aa, aa, .v (.one (.ptr 1 0)), aa, aa, .v (.one (.int .i64 v1)), aa, aa, aa, aa, aa, aa, aa, aa, aa, aa, aa, aa, aa, aa, aa, aa, aa, aa, aa, aa, aa, aa, aa, aa, aa, aa, aa, aa, aa, aa, aa, aa, aa, aa, aa, aa, aa, aa, aa, aa, aa],
 [.cells [.int .i64 v2, .int .i64 v3, .fr (.ts v4)], .cells [.int .i64 v5, .int .i64 v6, .own 2 0], .arr 25 (.ts v7) 0 false]⟩
theorem eH (n c : Nat) (v0 v1 v2 v3 : Int) (v4 : List T) (v5 v6 : Int) (v7 : List T) : a9 n (c + 1) v0 v1 v2 v3 v4 v5 v6 v7 =
 ((FF n 178 [.agg [.int .i64 v2, .int .i64 v3, .fr (.ts v4)]] []).bind fun x0 =>
 (rIs x0.1 fun x1 x2 =>
 (aK x2 fun x3 x4 =>
 (ai x4 (aj x0.2
 (cond (!x3)
 ((FF n 58 [.agg [.int .i64 v2, .int .i64 v3, .fr (.ts v4)]] []).bind fun x5 =>
 (ag x5.1 fun x6 x7 =>
 (ai x7 (aj x5.2
 (some ([.agg [.int .i64 x6.k, .int .i64 x6.n, .fr (.ts x6.kids)], .one (.int .i64 v1), .one (.int .i64 0)], []))))))
 (cond (decide (v1 = v0))
 (some ([.agg [.int .i64 0, .int .i64 0, .fr (.ts [])], .one (.int .i64 v1), .one (.int .i64 1)], []))
 ((FF n 112 [.agg [.int .i64 v2, .int .i64 v3, .fr (.ts v4)], .one (.fr (.is x1))] []).bind fun x5 =>
 (ag x5.1 fun x6 x7 =>
 (aK x7 fun x8 x9 =>
 (ai x9 (aj x5.2
 (cond (!x8)
 (some ([.agg [.int .i64 0, .int .i64 0, .fr (.ts [])], .one (.int .i64 v1), .one (.int .i64 2)], []))
 (a9 n c v0 (IntKind.i64.wrap (v1 + 1)) (x6.k) (x6.n) (x6.kids) v5 v6 v7)))))))))))))) := by kernel_rfl
theorem gV (n : Nat) (v0 v1 : Int) (v2 : List T) (v3 : Int) : FF (n + 1) 76 [.agg [.int .i64 v0, .int .i64 v1, .fr (.ts v2)], .one (.int .i64 v3), .one (.fn 178 [])] [] =
 ((FF n 59 [.agg [.int .i64 v0, .int .i64 v1, .fr (.ts v2)]] []).bind fun x0 =>
 (aK x0.1 fun x1 x2 =>
 (ai x2 (aj x0.2
 (cond (!x1)
 (some ([.agg [.int .i64 0, .int .i64 0, .fr (.ts [])], .one (.int .i64 0), .one (.int .i64 3)], []))
 ((FF n 60 [.one (.int .i64 v3), .one (.int .i64 0), .one (.int .i64 200)] []).bind fun x3 =>
 (aK x3.1 fun x4 x5 =>
 (ai x5 (aj x3.2
 (cond (!x4)
 (some ([.agg [.int .i64 0, .int .i64 0, .fr (.ts [])], .one (.int .i64 0), .one (.int .i64 3)], []))
 (a9 n n v3 0 v0 v1 v2 0 0 ([])))))))))))) := by kernel_rfl
theorem iH (n : Nat) (v0 : List T) (v1 v2 : Int) (v3 : List T) : FF (n + 1) 122 [.one (.fr (.ts v0)), .agg [.int .i64 v1, .int .i64 v2, .fr (.ts v3)]] [] =
 (cond (decide (20 ≤ (v0.length : Int)))
 (some ([.one (.fr (.ts [])), .one (.int .i64 2)], []))
 ((FF n 160 [.one (.fr (.ts v0))] []).bind fun x0 =>
 (FB 0 x0.1 fun x1 =>
 (ck 25 x0.2 fun x2 x3 =>
 (ai x1 (aj x3
 (cond (cr (x2 ++ [(T.mk v1 v2 v3)]).length)
 (some ([.one (.fr (.ts (x2 ++ [(T.mk v1 v2 v3)]))), .one (.int .i64 0)], []))
 none))))))) := by kernel_rfl
theorem q6 (n : Nat) (v0 : Int) : FF (n + 1) 179 [.one (.int .i64 v0)] [] =
 (cond (decide (v0 = 5))
 (some ([.one (.int .i64 0)], []))
 (cond (decide (v0 = 15))
 (some ([.one (.int .i64 0)], []))
 (cond (decide (v0 = 16))
 (some ([.one (.int .i64 0)], []))
 (cond (decide (v0 = 12))
 (some ([.one (.int .i64 1)], []))
 (cond (decide (v0 = 9))
 (some ([.one (.int .i64 3)], []))
 (some ([.one (.int .i64 (-1))], []))))))) := by kernel_rfl
noncomputable def bA (n c : Nat) (v0 : ByteArray) (v1 : Bool) (v2 v3 : Int) : OR := bj Tryz.prog SS n 180 0 [1, 1, 1, 1, 1, 0, 1, 0] [] c ⟨[.v (.one (.str v0)), aa, aa, aa, .v (.one (.bool v1)), .v (.one (.int .i64 v2)), .v (.one (.int .i64 v3)), aa, aa, aa, aa, aa, aa, aa, aa, aa, aa, aa, aa, aa, aa, aa, aa, aa, aa, aa, aa, aa, aa, aa, aa, aa, aa, aa, aa, aa, aa, aa, aa, aa, aa, aa, aa, aa, aa, aa, aa, aa, aa, aa, aa, aa, aa, aa, aa, aa, aa, aa, aa, aa, aa, aa, aa, aa, aa, aa, aa],
 []⟩
theorem gx (n c : Nat) (v0 : ByteArray) (v1 : Bool) (v2 v3 : Int) : bA n (c + 1) v0 v1 v2 v3 =
 (cond (decide (v3 < (v0.size : Int)))
 (cond (decide (0 ≤ v3) && decide (v3 < ((v0.size : Nat) : Int)))
 (cond (decide (((aQ v0 (v3 : Int).toNat).toNat : Int) < 48))
 (some ([.one (.int .i64 0), .one (.bool false)], []))
 (cond (decide (0 ≤ v3) && decide (v3 < ((v0.size : Nat) : Int)))
 (cond (decide (57 < ((aQ v0 (v3 : Int).toNat).toNat : Int)))
 (some ([.one (.int .i64 0), .one (.bool false)], []))
 (cond (decide (0 ≤ v3) && decide (v3 < ((v0.size : Nat) : Int)))
 (bA n c v0 v1 (IntKind.i64.wrap ((IntKind.i64.wrap (v2 * 10)) + (IntKind.i64.wrap (IntKind.u8.wrap (((aQ v0 (v3 : Int).toNat).toNat : Int) - 48))))) (IntKind.i64.wrap (v3 + 1)))
 none))
 none))
 none)
 (cond v1
 (some ([.one (.int .i64 (IntKind.i64.wrap (0 - v2))), .one (.bool true)], []))
 (some ([.one (.int .i64 v2), .one (.bool true)], [])))) := by kernel_rfl
theorem r7 (n : Nat) (v0 : ByteArray) : FF (n + 1) 180 [.one (.str v0)] [] =
 (cond (decide (0 < (v0.size : Int)))
 (cond (decide (0 ≤ 0) && decide (0 < ((v0.size : Nat) : Int)))
 (cond (decide (((aQ v0 (0 : Int).toNat).toNat : Int) = 45))
 (cond (Go.Ab.inB 1 v0.size v0.size)
 (cond (decide (((v0.extract (1 : Int).toNat (v0.size : Int).toNat).size : Int) = 0))
 (some ([.one (.int .i64 0), .one (.bool false)], []))
 (cond (decide (17 < ((v0.extract (1 : Int).toNat (v0.size : Int).toNat).size : Int)))
 (some ([.one (.int .i64 0), .one (.bool false)], []))
 (cond (decide (0 ≤ 0) && decide (0 < (((v0.extract (1 : Int).toNat (v0.size : Int).toNat).size : Nat) : Int)))
 (cond (decide (((aQ (v0.extract (1 : Int).toNat (v0.size : Int).toNat) (0 : Int).toNat).toNat : Int) = 48))
 (cond (decide (1 < ((v0.extract (1 : Int).toNat (v0.size : Int).toNat).size : Int)))
 (some ([.one (.int .i64 0), .one (.bool false)], []))
 (cond (decide (((aQ v0 (0 : Int).toNat).toNat : Int) = 45))
 (some ([.one (.int .i64 0), .one (.bool false)], []))
 (bA n n ((v0.extract (1 : Int).toNat (v0.size : Int).toNat) : ByteArray) ((decide (((aQ v0 (0 : Int).toNat).toNat : Int) = 45)) : Bool) 0 0)))
 (bA n n ((v0.extract (1 : Int).toNat (v0.size : Int).toNat) : ByteArray) ((decide (((aQ v0 (0 : Int).toNat).toNat : Int) = 45)) : Bool) 0 0))
 none)))
 none)
 (cond (decide ((v0.size : Int) = 0))
 (some ([.one (.int .i64 0), .one (.bool false)], []))
 (cond (decide (17 < (v0.size : Int)))
 (some ([.one (.int .i64 0), .one (.bool false)], []))
 (cond (decide (0 ≤ 0) && decide (0 < ((v0.size : Nat) : Int)))
 (cond (decide (((aQ v0 (0 : Int).toNat).toNat : Int) = 48))
 (cond (decide (1 < (v0.size : Int)))
 (some ([.one (.int .i64 0), .one (.bool false)], []))
 (cond (decide (((aQ v0 (0 : Int).toNat).toNat : Int) = 45))
 (some ([.one (.int .i64 0), .one (.bool false)], []))
 (bA n n v0 ((decide (((aQ v0 (0 : Int).toNat).toNat : Int) = 45)) : Bool) 0 0)))
 (bA n n v0 ((decide (((aQ v0 (0 : Int).toNat).toNat : Int) = 45)) : Bool) 0 0))
 none))))
 none)
 (cond (decide ((v0.size : Int) = 0))
 (some ([.one (.int .i64 0), .one (.bool false)], []))
 (cond (decide (17 < (v0.size : Int)))
 (some ([.one (.int .i64 0), .one (.bool false)], []))
 (cond (decide (0 ≤ 0) && decide (0 < ((v0.size : Nat) : Int)))
 (cond (decide (((aQ v0 (0 : Int).toNat).toNat : Int) = 48))
 (cond (decide (1 < (v0.size : Int)))
 (some ([.one (.int .i64 0), .one (.bool false)], []))
 (bA n n v0 (false) 0 0))
 (bA n n v0 (false) 0 0))
 none)))) := by kernel_rfl
noncomputable def bG (n c : Nat) (v0 : ByteArray) (v1 v2 v3 v4 v5 : Int) (v6 : List T) : OR := bj Tryz.prog SS n 181 0 [1, 1, 0, 1, 0] [] c ⟨[.v (.one (.str v0)), .v (.one (.int .i64 v1)), .v (.one (.int .i64 v2)), .v (.one (.int .i64 v3)), .v (.one (.int .u8 v4)), aa, aa, aa, aa, aa, aa, aa, .v (.one (.own 0 0)), .v (.one (.int .i64 v5)), aa, aa, aa, aa, aa, aa, aa, aa, aa, aa, aa, aa, aa, aa, aa, aa, aa, aa, aa, aa, aa, aa, aa, aa, aa, aa, aa, aa, aa, aa, aa, aa, aa, aa, aa, aa, aa, aa, aa, aa, aa, aa, aa, aa, aa, aa, aa, aa, aa, aa, aa, aa, aa, aa, aa, aa],
 [.arr 25 (.ts v6) 0 false]⟩
theorem fo (n c : Nat) (v0 : ByteArray) (v1 v2 v3 v4 v5 : Int) (v6 : List T) : bG n (c + 1) v0 v1 v2 v3 v4 v5 v6 =
 (cond (decide (v5 < v3))
 ((FF n 154 [.one (.str v0), .one (.int .i64 v1), .one (.int .i64 v2)] []).bind fun x0 =>
 (ag x0.1 fun x1 x2 =>
 (aC .i64 x2 fun x3 x4 =>
 (ai x4 (aj x0.2
 (cond (decide (x3 < 0))
 (some ([.one (.fr (.ts [])), .one (.int .i64 (-1))], []))
 (cond (decide ((v0.size : Int) ≤ x3))
 (some ([.one (.fr (.ts [])), .one (.int .i64 (-1))], []))
 (cond (decide ((IntKind.i64.wrap (v5 + 1)) < v3))
 (cond (decide (0 ≤ x3) && decide (x3 < ((v0.size : Nat) : Int)))
 (cond (!decide (((aQ v0 (x3 : Int).toNat).toNat : Int) = 44))
 (some ([.one (.fr (.ts [])), .one (.int .i64 (-1))], []))
 (cond (decide ((IntKind.i64.wrap (v5 + 1)) = v3))
 (cond (decide (0 ≤ x3) && decide (x3 < ((v0.size : Nat) : Int)))
 (cond (!decide (((aQ v0 (x3 : Int).toNat).toNat : Int) = v4))
 (some ([.one (.fr (.ts [])), .one (.int .i64 (-1))], []))
 (cond (cr (v6 ++ [(T.mk x1.k x1.n x1.kids)]).length)
 (bG n c v0 (IntKind.i64.wrap (x3 + 1)) v2 v3 v4 (IntKind.i64.wrap (v5 + 1)) (v6 ++ [(T.mk x1.k x1.n x1.kids)]))
 none))
 none)
 (cond (cr (v6 ++ [(T.mk x1.k x1.n x1.kids)]).length)
 (bG n c v0 (IntKind.i64.wrap (x3 + 1)) v2 v3 v4 (IntKind.i64.wrap (v5 + 1)) (v6 ++ [(T.mk x1.k x1.n x1.kids)]))
 none)))
 none)
 (cond (decide ((IntKind.i64.wrap (v5 + 1)) = v3))
 (cond (decide (0 ≤ x3) && decide (x3 < ((v0.size : Nat) : Int)))
 (cond (!decide (((aQ v0 (x3 : Int).toNat).toNat : Int) = v4))
 (some ([.one (.fr (.ts [])), .one (.int .i64 (-1))], []))
 (cond (cr (v6 ++ [(T.mk x1.k x1.n x1.kids)]).length)
 (bG n c v0 (IntKind.i64.wrap (x3 + 1)) v2 v3 v4 (IntKind.i64.wrap (v5 + 1)) (v6 ++ [(T.mk x1.k x1.n x1.kids)]))
 none))
 none)
 (cond (cr (v6 ++ [(T.mk x1.k x1.n x1.kids)]).length)
 (bG n c v0 (IntKind.i64.wrap (x3 + 1)) v2 v3 v4 (IntKind.i64.wrap (v5 + 1)) (v6 ++ [(T.mk x1.k x1.n x1.kids)]))
 none))))))))))
 (some ([.one (.fr (.ts v6)), .one (.int .i64 v1)], []))) := by kernel_rfl
theorem oW (n : Nat) (v0 : ByteArray) (v1 v2 v3 v4 : Int) : FF (n + 1) 181 [.one (.str v0), .one (.int .i64 v1), .one (.int .i64 v2), .one (.int .i64 v3), .one (.int .u8 v4)] [] =
 bG n n v0 v1 v2 v3 v4 0 ([]) := by kernel_rfl
noncomputable def ec (n c : Nat) (v0 : Int) (v1 : ByteArray) : OR := bj Tryz.prog SS n 182 0 [1, 1, 1, 1, 0, 0] [] c ⟨[.v (.one (.int .i64 v0)), aa, aa, .v (.one (.str v1)), aa, aa, aa, aa, aa, aa, aa, aa, aa, aa, aa, aa, aa, aa, aa, aa, aa, aa, aa, aa, aa, aa, aa, aa, aa, aa, aa],
 []⟩
theorem gl (n c : Nat) (v0 : Int) (v1 : ByteArray) : ec n (c + 1) v0 v1 =
 (cond (decide (9 < v0))
 (cond (decide (0 ≤ (IntKind.u8.wrap (IntKind.i64.wrap (48 + (Int.tmod v0 10))))) && decide ((IntKind.u8.wrap (IntKind.i64.wrap (48 + (Int.tmod v0 10)))) ≤ 255))
 (cond (decide ((ByteArray.mk ([(UInt8.ofNat (IntKind.u8.wrap (IntKind.i64.wrap (48 + (Int.tmod v0 10)))).toNat)]).toArray).size + v1.size ≤ 9223372036854775807))
 (ec n c (IntKind.i64.wrap (Int.tdiv v0 10)) (((ByteArray.mk ([(UInt8.ofNat (IntKind.u8.wrap (IntKind.i64.wrap (48 + (Int.tmod v0 10)))).toNat)]).toArray) ++ v1) : ByteArray))
 none)
 none)
 (cond (decide (0 ≤ (IntKind.u8.wrap (IntKind.i64.wrap (48 + v0)))) && decide ((IntKind.u8.wrap (IntKind.i64.wrap (48 + v0))) ≤ 255))
 (cond (decide ((ByteArray.mk ([(UInt8.ofNat (IntKind.u8.wrap (IntKind.i64.wrap (48 + v0))).toNat)]).toArray).size + v1.size ≤ 9223372036854775807))
 (some ([.one (.str ((ByteArray.mk ([(UInt8.ofNat (IntKind.u8.wrap (IntKind.i64.wrap (48 + v0))).toNat)]).toArray) ++ v1))], []))
 none)
 none)) := by kernel_rfl
theorem qK (n : Nat) (v0 : Int) : FF (n + 1) 182 [.one (.int .i64 v0)] [] =
 (cond (decide (v0 < (-9223372036854775807)))
 (some ([.one (.str (bytesOf [45, 57, 50, 50, 51, 51, 55, 50, 48, 51, 54, 56, 53, 52, 55, 55, 53, 56, 48, 56]))], []))
 (cond (decide (v0 < 0))
 ((FF n 182 [.one (.int .i64 (IntKind.i64.wrap (0 - v0)))] []).bind fun x0 =>
 (kW x0.1 fun x1 x2 =>
 (ai x2 (aj x0.2
 (cond (decide ((bytesOf [45]).size + x1.size ≤ 9223372036854775807))
 (some ([.one (.str ((bytesOf [45]) ++ x1))], []))
 none)))))
 (ec n n v0 (bytesOf [])))) := by kernel_rfl
noncomputable def cg (n c : Nat) (v0 : List T) (v1 : ByteArray) (v2 : Int) : OR := bj Tryz.prog SS n 183 0 [1, 1, 0, 1, 0] [] c ⟨[.v (.one (.fr (.ts v0))), aa, aa, .v (.one (.str v1)), .v (.one (.int .i64 v2)), aa, aa, aa, aa, aa, aa, aa, aa, aa, aa, aa, aa, aa, aa, aa, aa, aa, aa],
 []⟩
theorem gq (n c : Nat) (v0 : List T) (v1 : ByteArray) (v2 : Int) : cg n (c + 1) v0 v1 v2 =
 (cond (decide (v2 < (v0.length : Int)))
 (cond (decide (0 < v2))
 (cond (decide (v1.size + (bytesOf [44]).size ≤ 9223372036854775807))
 (cond (decide (0 ≤ v2))
 (v0[(v2 : Int).toNat]?.bind fun x0 =>
 ((FF n 177 [.agg [.int .i64 x0.k, .int .i64 x0.n, .fr (.ts x0.kids)]] []).bind fun x1 =>
 (kW x1.1 fun x2 x3 =>
 (ai x3 (aj x1.2
 (cond (decide ((v1 ++ (bytesOf [44])).size + x2.size ≤ 9223372036854775807))
 (cg n c v0 ((v1 ++ (bytesOf [44])) ++ x2) (IntKind.i64.wrap (v2 + 1)))
 none))))))
 none)
 none)
 (cond (decide (0 ≤ v2))
 (v0[(v2 : Int).toNat]?.bind fun x0 =>
 ((FF n 177 [.agg [.int .i64 x0.k, .int .i64 x0.n, .fr (.ts x0.kids)]] []).bind fun x1 =>
 (kW x1.1 fun x2 x3 =>
 (ai x3 (aj x1.2
 (cond (decide (v1.size + x2.size ≤ 9223372036854775807))
 (cg n c v0 (v1 ++ x2) (IntKind.i64.wrap (v2 + 1)))
 none))))))
 none))
 (some ([.one (.str v1)], []))) := by kernel_rfl
theorem rT (n : Nat) (v0 : List T) : FF (n + 1) 183 [.one (.fr (.ts v0))] [] =
 cg n n v0 (bytesOf []) 0 := by kernel_rfl
theorem wQ (n : Nat) (v0 v1 : Int) (v2 : List T) : FF (n + 1) 178 [.agg [.int .i64 v0, .int .i64 v1, .fr (.ts v2)]] [] =
 ((FF n 104 [.agg [.int .i64 v0, .int .i64 v1, .fr (.ts v2)]] []).bind fun x0 =>
 (aC .i64 x0.1 fun x1 x2 =>
 (ai x2 (aj x0.2
 (cond (!decide (x1 = 0))
 (some ([.one (.fr (.is [])), .one (.bool true)], []))
 (cond (decide (v0 = 5))
 (v2[(0 : Int).toNat]?.bind fun x3 =>
 ((FF n 178 [.agg [.int .i64 x3.k, .int .i64 x3.n, .fr (.ts x3.kids)]] []).bind fun x4 =>
 (rIs x4.1 fun x5 x6 =>
 (aK x6 fun x7 x8 =>
 (ai x8 (aj x4.2
 (cond (cr ([0] ++ x5).length)
 (some ([.one (.fr (.is ([0] ++ x5))), .one (.bool x7)], []))
 none)))))))
 (cond (decide (v0 = 15))
 (v2[(0 : Int).toNat]?.bind fun x3 =>
 ((FF n 178 [.agg [.int .i64 x3.k, .int .i64 x3.n, .fr (.ts x3.kids)]] []).bind fun x4 =>
 (rIs x4.1 fun x5 x6 =>
 (aK x6 fun x7 x8 =>
 (ai x8 (aj x4.2
 (cond (cr ([0] ++ x5).length)
 (some ([.one (.fr (.is ([0] ++ x5))), .one (.bool x7)], []))
 none)))))))
 (cond (decide (v0 = 16))
 (v2[(0 : Int).toNat]?.bind fun x3 =>
 ((FF n 178 [.agg [.int .i64 x3.k, .int .i64 x3.n, .fr (.ts x3.kids)]] []).bind fun x4 =>
 (rIs x4.1 fun x5 x6 =>
 (aK x6 fun x7 x8 =>
 (ai x8 (aj x4.2
 (cond (cr ([0] ++ x5).length)
 (some ([.one (.fr (.is ([0] ++ x5))), .one (.bool x7)], []))
 none)))))))
 (cond (decide (v0 = 9))
 (v2[(3 : Int).toNat]?.bind fun x3 =>
 ((FF n 178 [.agg [.int .i64 x3.k, .int .i64 x3.n, .fr (.ts x3.kids)]] []).bind fun x4 =>
 (rIs x4.1 fun x5 x6 =>
 (aK x6 fun x7 x8 =>
 (ai x8 (aj x4.2
 (cond (cr ([3] ++ x5).length)
 (some ([.one (.fr (.is ([3] ++ x5))), .one (.bool x7)], []))
 none)))))))
 (cond (decide (v0 = 12))
 (v2[(1 : Int).toNat]?.bind fun x3 =>
 ((FF n 178 [.agg [.int .i64 x3.k, .int .i64 x3.n, .fr (.ts x3.kids)]] []).bind fun x4 =>
 (rIs x4.1 fun x5 x6 =>
 (aK x6 fun x7 x8 =>
 (ai x8 (aj x4.2
 (cond (cr ([1] ++ x5).length)
 (some ([.one (.fr (.is ([1] ++ x5))), .one (.bool x7)], []))
 none)))))))
 (some ([.one (.fr (.is [])), .one (.bool false)], [])))))))))))) := by kernel_rfl
end Go.Proofs.YtajlknlnmmbfcaaGreat
end
section

end
section
namespace Go.Ab
open Go Go.Dk
open Go.ChangeShapes Go.WideShapes Go.ChangeAt Go.RowKit
abbrev FX : bn := fun _ => True
theorem Hl {P : Program} [DrM P] {S : Say} (hp : qR P S) (hib : ∀ f, S.D.ib f = true → kc P f) {f : FuncId} {fn : Func} {n : Nat} {args : List V1} {vals : List Value} {w : World}
   (hfn : P.funcs[f]? = some fn) (hb : fn.body.isSome = true) (hr : aw (RV [] FX w) (args.map .v) vals) (h : evF P S n f args [] = some ([.one (.bool true)], [])) :
   Calls P f vals.toArray w fun e w' => e = .returned (.bool true) ∧ sP w w' := by
 have h0 : bp w D8 FX 0 [] ⟨args.map .v, []⟩ vals w := by
  refine ⟨St.init w D8 FX (aS _ _ _) ⟨hr, aw.nil⟩, fun j _ hl => by simp at hl, fun k hk => trivial⟩
 have := BJ hp hib n f fn args [] _ hfn hb h w D8 FX [] vals w h0
 refine this.mono fun e w' ⟨xs, G', he, hI, _⟩ => ?_
 obtain ⟨x, xs', rfl, h1, h2⟩ := hI.st.per.1.cons_inv
 obtain rfl := h2.a0
 obtain rfl := cX h1
 exact ⟨he, hI.st.ext⟩
theorem oa {d : SD} {v : Value} {w : World} (h : SlR FX w d v) : RV1 [] FX w (.one (.fr d)) v := ⟨h, fun _ => by obtain ⟨a, cap, xs, rfl, _⟩ := h; rfl⟩
theorem lI {H : Type} {enc : TypeId × Value → H} {P : Program} {W : World} {base : Nat} {tB tU : TypeId} (hB : P.underlying tB = some (.slice tU)) (hU : P.underlying tU = some (.int .u8)) (hc : P.cellsOf tU = 1)
   {v : Value} {d : DataW H} {p : List MemPlace} (hval : Value.okWide P W .any base tB v) (h : DataW.Trod enc P W 0 (fun _ => true) true tB v d p) : ∃ l : List UInt8, SlR FX W (.bs l) v := by
 obtain ⟨a1, len, cap, rfl⟩ := okWide_slice hB hval
 obtain ⟨fuel, hf⟩ := h
 rcases open_ints hB hU hc hf with ⟨hcs, hx⟩ | ⟨a, len', cap', zs, hcs, _, hl, hm, hz, hx, hcell, hwz⟩
 ·simp [Value.cells] at hcs
  obtain ⟨rfl, rfl, rfl⟩ := hcs
  exact ⟨[], none, 0, [], rfl, Nat.zero_le _, Nat.zero_le _, rfl, .inl rfl⟩
 ·simp [Value.cells] at hcs
  obtain ⟨rfl, rfl, rfl⟩ := hcs
  simp only [if_true] at hz
  refine ⟨(zs.take len).map (fun n : Int => UInt8.ofNat n.toNat), ?_⟩
  have hlen : ((zs.take len).map fun n => UInt8.ofNat n.toNat).length = len := by simp; omega
  by_cases h0 : len = 0
  ·subst h0
   exact ⟨some a, cap, [], by simp [SD.len], Nat.zero_le _, Nat.zero_le _, by simp [aH], .inl rfl⟩
  ·obtain ⟨ab, ao, spot⟩ := a
   have hspot : spot = none := by simpa [Addr.add] using World.cell?_spot (hcell 0 (by omega))
   subst hspot
   refine ⟨some ⟨ab, ao, none⟩, cap, ((zs.take len).map (fun n : Int => UInt8.ofNat n.toNat)).map (fun c => Value.int .u8 ((UInt8.toNat c : Nat) : Int)), ?_, ?_, ?_, rfl, .inr ⟨ab, ao, rfl, trivial, fun i x hx => ?_⟩⟩
   ·simp only [SD.len, hlen]
   ·simp only [SD.len, hlen]; exact hl
   ·simp only [SD.len, hlen]; exact Nat.le_trans hl hm
   ·rw [List.getElem?_map, List.getElem?_map] at hx
    cases hzi : (zs.take len)[i]? with
    | none => rw [hzi] at hx; simp at hx
    | some n =>
     rw [hzi] at hx
     simp at hx
     subst hx
     have hil : i < len := by
      rcases Nat.lt_or_ge i len with h' | h'
      ·exact h'
      ·rw [List.getElem?_eq_none (by simp; omega)] at hzi; cases hzi
     have hzi' : zs[i]? = some n := by rw [List.getElem?_take_of_lt hil] at hzi; exact hzi
     have hc' := hcell i (by omega)
     rw [ji] at hc'
     rw [hc']
     have hn : zs.getD i 0 = n := by simp [List.getD, hzi']
     rw [hn]
     have hw := hwz n (List.mem_of_getElem? hzi')
     have hnn : 0 ≤ n ∧ n ≤ 255 := by
      simp [Lit.wf, IntKind.min, IntKind.max, IntKind.signed, IntKind.bits] at hw
      omega
     have hb : max n 0 % 256 = n := by omega
     rw [hb]
end Go.Ab
end
section
namespace Go.Proofs.YtajlknlnmmbfcaaGreat
open Go Go.Ab Go.Dk
def Ev (f : FuncId) (args : List V1) (h : List au) (r : List V1 × List au) : Prop := ∃ N, ∀ n, N ≤ n → FF n f args h = some r
theorem hib : ∀ f, SS.D.ib f = true → kc Tryz.prog f := by
 intro f hf
 first
 | exact hibX f hf
 | exact absurd hf (by decide)
 | cases hf
theorem Kn : qR Tryz.prog SS := fun f g args out h => by cases h
theorem Bd {f : FuncId} {fn : Func} {args : List V1} {vals : List Value} {w : World} (hfn : Tryz.prog.funcs[f]? = some fn) (hb : fn.body.isSome = true) (hr : aw (RV [] FX w) (args.map .v) vals)
   (h : Ev f args [] ([.one (.bool true)], [])) : Calls Tryz.prog f vals.toArray w fun e w' => e = .returned (.bool true) ∧ sP w w' := by
 obtain ⟨N, h⟩ := h
 exact Hl Kn hib hfn hb hr (h N (Nat.le_refl N))
theorem Ev.of {f : FuncId} {args : List V1} {h : List au} {r : List V1 × List au} (N : Nat) (hh : ∀ n, N ≤ n → FF (n + 1) f args h = some r) : Ev f args h r :=
 ⟨N + 1, fun n hn => by obtain ⟨m, rfl⟩ : ∃ m, n = m + 1 := ⟨n - 1, by omega⟩; exact hh m (by omega)⟩
theorem wrap64 {a : Int} (h : -9223372036854775808 ≤ a ∧ a ≤ 9223372036854775807) : IntKind.i64.wrap a = a := IntWalk.i64_in _ h
theorem BF (a : IntKind) : Dz a a = true := by simp [Dz]
theorem BK (a : Nat) : Nat.beq a a = true := Nat.beq_refl a
theorem ax {α : Type} (p : Prop) [Decidable p] (a b : α) : cond (decide p) a b = if p then a else b := by by_cases h : p <;> simp [h]
theorem iO {α : Type} (p : Prop) [Decidable p] (a b : α) : cond (!decide p) a b = if p then b else a := by by_cases h : p <;> simp [h]
theorem r9 (c : UInt8) : 0 ≤ (c.toNat : Int) ∧ (c.toNat : Int) ≤ 255 := by have := c.toNat_lt; omega
theorem HP (c : UInt8) : IntKind.i64.wrap (c.toNat : Int) = c.toNat := wrap64 (by have := r9 c; omega)
section
variable {V W : Type} (l : List V1) (c : List SV) (o : List au)
theorem EY (a : IntKind) (n : Int) (k) : aC a (.one (.int a n) :: l) k = k n l := by simp [aC, Dz]
theorem BY (b : Bool) (k) : aK (.one (.bool b) :: l) k = k b l := rfl
theorem E8 (x : ByteArray) (k) : kW (.one (.str x) :: l) k = k x l := rfl
theorem Iq (x : List T) (k) : rTs (.one (.fr (.ts x)) :: l) k = k x l := rfl
theorem Jg (x : List Int) (k) : rIs (.one (.fr (.is x)) :: l) k = k x l := rfl
theorem Fe (x : List (List Int)) (k) : HE (.one (.fr (.iss x)) :: l) k = k x l := rfl
theorem Jv (x : List ByteArray) (k) : rSs (.one (.fr (.ss x)) :: l) k = k x l := rfl
theorem I5 (x : List UInt8) (k) : rBs (.one (.fr (.bs x)) :: l) k = k x l := rfl
theorem vV (a b : Int) (x : List T) (k) : ag (.agg [.int .i64 a, .int .i64 b, .fr (.ts x)] :: l) k = k (.mk a b x) l := rfl
theorem Cb (j : Nat) (a b : Int) (k) : fL j (.agg [.int .i64 a, .int .i64 b, .own j 0] :: l) k = k a b l := by simp [fL]
theorem FT (j : Nat) (k) : FB j (.one (.own j 0) :: l) k = k l := by simp [FB]
theorem Fy (j : Nat) (k) : Gq j (.one (.ptr j 0) :: l) k = k l := by simp [Gq]
theorem EW (k) : ai [] k = k := rfl
theorem FK (k) : aj [] k = k := rfl
theorem FJ (x : List SV) (k) : aR (.cells x :: o) k = k x o := rfl
theorem Bp (x : au) (k) : wZ (x :: o) k = k o := rfl
theorem Fq (a : IntKind) (n : Int) (k) : aV a (.int a n :: c) k = k n c := by simp [aV, Dz]
theorem Cu (b : Bool) (k) : mB (.bool b :: c) k = k b c := rfl
theorem Fk (x : ByteArray) (k) : HB (.str x :: c) k = k x c := rfl
theorem IJ (x : List T) (k) : tsC (.fr (.ts x) :: c) k = k x c := rfl
theorem I2 (x : List Int) (k) : isC (.fr (.is x) :: c) k = k x c := rfl
theorem Fz (x : List (List Int)) (k) : Hz (.fr (.iss x) :: c) k = k x c := rfl
theorem H5 (x : List ByteArray) (k) : ssC (.fr (.ss x) :: c) k = k x c := rfl
theorem I8 (x : List UInt8) (k) : bsC (.fr (.bs x) :: c) k = k x c := rfl
theorem FP (x : SV) (k) : HJ (x :: c) k = k c := rfl
theorem FH (k) : aT [] k = k := rfl
theorem Cg (e : TypeId) (x : List T) (k) : ck e (.arr e (.ts x) 0 false :: o) k = k x o := by simp [ck]
theorem Ce (e : TypeId) (x : List Int) (k) : qC e (.arr e (.is x) 0 false :: o) k = k x o := by simp [qC]
theorem ya (e : TypeId) (x : List (List Int)) (k) : lf e (.arr e (.iss x) 0 false :: o) k = k x o := by simp [lf]
theorem BZ (e : TypeId) (x : List ByteArray) (k) : qD e (.arr e (.ss x) 0 false :: o) k = k x o := by simp [qD]
theorem Bh (e : TypeId) (x : List UInt8) (k) : qi e (.arr e (.bs x) 0 false :: o) k = k x o := by simp [qi]
end
theorem evs : type_of% (And.intro @Option.bind_some.{0,0} <| And.intro @EY <| And.intro @BY <| And.intro @E8 <| And.intro @Iq <| And.intro @Jg <| And.intro @Fe <| And.intro @Jv <| And.intro @I5 <| And.intro @vV <| And.intro @Cb <| And.intro @FT <| And.intro @Fy <| And.intro @EW <| And.intro @FK <| And.intro @FJ <| And.intro @Bp <| And.intro @Fq <| And.intro @Cu <| And.intro @Fk <| And.intro @IJ <| And.intro @I2 <| And.intro @Fz <| And.intro @H5 <| And.intro @I8 <| And.intro @FP <| And.intro @FH <| And.intro @Cg <| And.intro @Ce <| And.intro @ya <| And.intro @BZ <| And.intro @Bh <| And.intro @BF <| And.intro @BK <| And.intro @cond_true.{1} @cond_false.{1}) := And.intro @Option.bind_some.{0,0} <| And.intro @EY <| And.intro @BY <| And.intro @E8 <| And.intro @Iq <| And.intro @Jg <| And.intro @Fe <| And.intro @Jv <| And.intro @I5 <| And.intro @vV <| And.intro @Cb <| And.intro @FT <| And.intro @Fy <| And.intro @EW <| And.intro @FK <| And.intro @FJ <| And.intro @Bp <| And.intro @Fq <| And.intro @Cu <| And.intro @Fk <| And.intro @IJ <| And.intro @I2 <| And.intro @Fz <| And.intro @H5 <| And.intro @I8 <| And.intro @FP <| And.intro @FH <| And.intro @Cg <| And.intro @Ce <| And.intro @ya <| And.intro @BZ <| And.intro @Bh <| And.intro @BF <| And.intro @BK <| And.intro @cond_true.{1} @cond_false.{1}
def Tot (o : OR) (Q : List V1 × List au → Prop) : Prop := ∃ r, o = some r ∧ Q r
theorem aq {r : List V1 × List au} {Q : List V1 × List au → Prop} (h : Q r) : Tot (some r) Q := ⟨r, rfl, h⟩
theorem al {b : Bool} {x y : OR} {Q : List V1 × List au → Prop} (hx : b = true → Tot x Q) (hy : b = false → Tot y Q) : Tot (cond b x y) Q := by
 cases b
 ·exact hy rfl
 ·exact hx rfl
theorem ak {o : OR} {k : List V1 × List au → OR} {Q R : List V1 × List au → Prop} (h : Tot o R) (hk : ∀ r, R r → Tot (k r) Q) : Tot (o.bind k) Q := by
 obtain ⟨r, h1, h2⟩ := h
 rw [h1]; exact hk r h2
theorem hO {o : OR} {Q R : List V1 × List au → Prop} (h : Tot o Q) (hk : ∀ r, Q r → R r) : Tot o R := by
 obtain ⟨r, h1, h2⟩ := h
 exact ⟨r, h1, hk r h2⟩
theorem bf {C : Nat} {f : FuncId} {args : List V1} {h : List au} {Q : List V1 × List au → Prop} {n : Nat} (hn : C + 1 ≤ n) (hh : ∀ m, C ≤ m → n = m + 1 → Tot (FF (m + 1) f args h) Q) : Tot (FF n f args h) Q := by
 obtain ⟨m, rfl⟩ : ∃ m, n = m + 1 := ⟨n - 1, by omega⟩
 exact hh m (by omega) rfl
end Go.Proofs.YtajlknlnmmbfcaaGreat
end
section
namespace Go.Proofs.YtajlknlnmmbfcaaGreat
open Go Go.Ab Go.Dk
theorem Jc {a b : Int} (ha : 0 ≤ a ∧ a < 4611686018427387904) (hb : 0 ≤ b ∧ b < 4611686018427387904) : 0 ≤ IntKind.i64.wrap (BitVec.ofInt IntKind.i64.bits a ^^^ BitVec.ofInt IntKind.i64.bits b).toNat := by
 obtain ⟨m, rfl⟩ : ∃ m : Nat, a = m := ⟨a.toNat, by omega⟩
 obtain ⟨n, rfl⟩ : ∃ n : Nat, b = n := ⟨b.toNat, by omega⟩
 have hm : m < 2 ^ 62 := by omega
 have hn : n < 2 ^ 62 := by omega
 have hx : m ^^^ n < 2 ^ 62 := Nat.xor_lt_two_pow hm hn
 have e : (BitVec.ofInt 64 (m : Int) ^^^ BitVec.ofInt 64 (n : Int)).toNat = m ^^^ n := by
  rw [BitVec.toNat_xor]
  have h1 : (BitVec.ofInt 64 (m : Int)).toNat = m := by simp; omega
  have h2 : (BitVec.ofInt 64 (n : Int)).toNat = n := by simp; omega
  rw [h1, h2]
 show 0 ≤ IntKind.i64.wrap ((BitVec.ofInt 64 (m : Int) ^^^ BitVec.ofInt 64 (n : Int)).toNat : Int)
 rw [e, IntWalk.i64_in _ (by omega)]
 omega
abbrev rdr (l : List UInt8) (p : Int) : au := .cells [.fr (.bs l), .int .i64 p]
def g6 (l : List UInt8) (p m : Int) : Prop := l.length ≤ 2000 ∧ 0 ≤ p ∧ p ≤ m
theorem g6.mono {l : List UInt8} {p m m' : Int} (h : g6 l p m) (hm : m ≤ m') : g6 l p m' := ⟨h.1, h.2.1, by have := h.2.2; omega⟩
theorem nV {a b : Int} (ha : 0 ≤ a) (hb : 0 < b) : 0 ≤ a.tmod b ∧ a.tmod b < b := by
 rw [Int.tmod_eq_emod_of_nonneg ha]
 exact ⟨Int.emod_nonneg _ (by omega), Int.emod_lt_of_pos _ hb⟩
theorem wg {a b : Int} (ha : 0 ≤ a) (hb : 0 < b) : 0 ≤ a.tdiv b ∧ a.tdiv b ≤ a := by
 rw [Int.tdiv_eq_ediv_of_nonneg ha]
 exact ⟨Int.ediv_nonneg ha (by omega), Int.ediv_le_self _ ha⟩
theorem Cm {l : List UInt8} {i : Int} (h0 : 0 ≤ i) (h1 : i < l.length) : ∃ c, l[i.toNat]? = some c := by
 have : i.toNat < l.length := by omega
 exact ⟨l[i.toNat], List.getElem?_eq_getElem this⟩
def EvA (C : Nat) (f : FuncId) (args : List V1) (h : List au) (r : List V1 × List au) : Prop := ∀ n, C ≤ n → FF n f args h = some r
theorem EvA.of {f args h r} (C : Nat) (hh : ∀ n, C ≤ n → FF (n + 1) f args h = some r) : EvA (C + 1) f args h r := fun n hn => by obtain ⟨m, rfl⟩ : ∃ m, n = m + 1 := ⟨n - 1, by omega⟩; exact hh m (by omega)
theorem FU {l : List UInt8} {p m n : Int} (h : g6 l p m) (hm : m ≤ 1099511627776) (hn : n ≤ 2147483648) :
   ∃ v, (0 ≤ v ∧ (0 < n → v < n) ∧ (n < 1 → v = 0)) ∧ g6 l (p + 1) (m + 1) ∧ EvA 1 79 [.one (.ptr 0 0), .one (.int .i64 n)] [rdr l p] ([.one (.int .i64 v)], [rdr l (p + 1)]) := by
 obtain ⟨hl, h0, hp⟩ := h
 have hr : g6 l (p + 1) (m + 1) := ⟨hl, by omega, by omega⟩
 have w1 : IntKind.i64.wrap (p + 1) = p + 1 := wrap64 (by omega)
 have w2 : IntKind.i64.wrap (p + 1 - 1) = p := by rw [wrap64 (by omega)]; omega
 by_cases hn1 : n < 1
 ·refine ⟨0, ⟨by omega, by omega, by omega⟩, hr, EvA.of 0 fun k _ => ?_⟩
  rw [dc]
  simp only [ax, if_pos hn1, w1]
 ·by_cases hl0 : (l.length : Int) = 0
  ·refine ⟨0, ⟨by omega, by omega, by omega⟩, hr, EvA.of 0 fun k _ => ?_⟩
   rw [dc]
   simp only [ax, if_neg hn1, if_pos hl0, w1]
  ·have hlp : 0 < (l.length : Int) := by omega
   by_cases hk : p < l.length
   ·obtain ⟨c, hc⟩ := Cm h0 hk
    have hb := r9 c
    have ht := nV hb.1 (show 0 < n by omega)
    refine ⟨Int.tmod c.toNat n, ⟨ht.1, fun _ => ht.2, by omega⟩, hr, EvA.of 0 fun k _ => ?_⟩
    rw [dc]
    simp only [ax, if_neg hn1, if_neg hl0, w1, w2, if_pos hk, if_pos h0, hc, Option.bind_some, HP, if_neg (show ¬ n = 0 by omega)]
   ·have t1 := nV h0 hlp
    obtain ⟨c, hc⟩ := Cm t1.1 t1.2
    have w3 : IntKind.i64.wrap (p * 7) = p * 7 := wrap64 (by omega)
    have w4 : IntKind.i64.wrap (p * 7 + 3) = p * 7 + 3 := wrap64 (by omega)
    have t2 := nV (show 0 ≤ p * 7 + 3 by omega) hlp
    obtain ⟨d, hd⟩ := Cm t2.1 t2.2
    have hb := r9 c
    have hb' := r9 d
    have t3 := wg h0 hlp
    have w5 : IntKind.i64.wrap ((c.toNat : Int) * 131) = c.toNat * 131 := wrap64 (by omega)
    have w6 : IntKind.i64.wrap ((d.toNat : Int) * 1117) = d.toNat * 1117 := wrap64 (by omega)
    have w7 : IntKind.i64.wrap ((c.toNat : Int) * 131 + d.toNat * 1117) = c.toNat * 131 + d.toNat * 1117 := wrap64 (by omega)
    have w8 : IntKind.i64.wrap (p * 29) = p * 29 := wrap64 (by omega)
    have w9 : IntKind.i64.wrap ((c.toNat : Int) * 131 + d.toNat * 1117 + p * 29) = c.toNat * 131 + d.toNat * 1117 + p * 29 := wrap64 (by omega)
    have wa : IntKind.i64.wrap (p.tdiv l.length) = p.tdiv l.length := wrap64 (by omega)
    have wb : IntKind.i64.wrap (p.tdiv l.length * 53) = p.tdiv l.length * 53 := wrap64 (by omega)
    have wc : IntKind.i64.wrap ((c.toNat : Int) * 131 + d.toNat * 1117 + p * 29 + p.tdiv l.length * 53) = c.toNat * 131 + d.toNat * 1117 + p * 29 + p.tdiv l.length * 53 := wrap64 (by omega)
    have t4 := wg (show 0 ≤ (c.toNat : Int) * 131 + d.toNat * 1117 + p * 29 + p.tdiv l.length * 53 by omega) (show (0 : Int) < 64 by omega)
    have wd : IntKind.i64.wrap (Int.tdiv ((c.toNat : Int) * 131 + d.toNat * 1117 + p * 29 + p.tdiv l.length * 53) 64) = Int.tdiv ((c.toNat : Int) * 131 + d.toNat * 1117 + p * 29 + p.tdiv l.length * 53) 64 := wrap64 (by omega)
    have hx := Jc (a := (c.toNat : Int) * 131 + d.toNat * 1117 + p * 29 + p.tdiv l.length * 53) (b := Int.tdiv ((c.toNat : Int) * 131 + d.toNat * 1117 + p * 29 + p.tdiv l.length * 53) 64) (by omega) (by omega)
    have ht := nV hx (show 0 < n by omega)
    refine ⟨_, ⟨ht.1, fun _ => ht.2, by omega⟩, hr, EvA.of 0 fun k _ => ?_⟩
    rw [dc]
    simp only [ax, if_neg hn1, if_neg hl0, w1, w2, if_neg hk, if_pos t1.1, hc, Option.bind_some, HP, w3, w4, if_pos t2.1, hd, if_neg (show ¬ n = 0 by omega), w5, w6, w7, w8, w9, wa, wb, wc, wd]
theorem Kh {l : List UInt8} {p m : Int} (h : g6 l p m) (hm : m ≤ 1099511627776) {ss : List Int} (hs : ss ≠ []) (hs2 : ss.length ≤ 2147483648) :
   ∃ s ∈ ss, g6 l (p + 1) (m + 1) ∧ EvA 2 86 [.one (.ptr 0 0), .one (.fr (.is ss))] [rdr l p] ([.one (.int .i64 s)], [rdr l (p + 1)]) := by
 obtain ⟨v, ⟨v0, v1, _⟩, hr, hN⟩ := FU h hm (n := (ss.length : Int)) (by omega)
 have hpos := List.length_pos_iff.2 hs
 have hv := v1 (by omega)
 have hlt : v.toNat < ss.length := by omega
 refine ⟨ss[v.toNat], List.getElem_mem hlt, hr, EvA.of 1 fun n hn => ?_⟩
 rw [mE, hN n hn]
 simp only [evs, ax, if_pos v0, List.getElem?_eq_getElem hlt]
theorem IH (l : List UInt8) : ∃ l', g6 l' 0 0 ∧ EvA 1 48 [.one (.fr (.bs l))] [] ([.one (.ptr 0 0)], [rdr l' 0]) := by
 by_cases hl : 2000 < (l.length : Int)
 ·refine ⟨(l.take (2000 : Int).toNat).drop (0 : Int).toNat, ⟨by simp; omega, by omega, by omega⟩, EvA.of 0 fun n _ => ?_⟩
  ·rw [jD]
   simp only [ax, if_pos hl, inB, Int.le_refl, decide_true, Bool.true_and, show (0 : Int) ≤ 2000 from by omega, if_pos (show (2000 : Int) ≤ l.length by omega)]
 ·refine ⟨l, ⟨by omega, by omega, by omega⟩, EvA.of 0 fun n _ => ?_⟩
  rw [jD]
  simp only [ax, if_neg hl]
end Go.Proofs.YtajlknlnmmbfcaaGreat
end
section
namespace Go.Proofs.YtajlknlnmmbfcaaGreat
open Go Go.Dk
def opsOf : Int → Int := fun k => if k = 1 ∨ k = 2 ∨ k = 6 ∨ k = 7 then 0 else if k = 8 ∨ k = 11 ∨ k = 15 ∨ k = 16 then 1 else if k = 3 ∨ k = 4 ∨ k = 5 ∨ k = 13 then 2 else if k = 10 ∨ k = 12 ∨ k = 14 then 3 else if k = 9 then 4 else -1
def cd : Int → Int := fun k => if k = 1 then 20 else if k = 2 then 3 else 0
mutual
def gQ : T → Int → Int → Bool × Int
 | .mk k n kids, deep, c => if 400 < c + 1 ∨ 30 < deep ∨ opsOf k ≠ kids.length ∨ ¬ (0 ≤ n ∧ n ≤ cd k) then (false, c + 1) else iC kids (deep + 1) (c + 1)
def iC : List T → Int → Int → Bool × Int
 | [], _, c => (true, c)
 | t :: ts, d, c => if (gQ t d c).1 then iC ts d (gQ t d c).2 else (false, (gQ t d c).2)
end
theorem EE (t : T) (d c : Int) : gQ t d c = if 400 < c + 1 ∨ 30 < d ∨ opsOf t.k ≠ t.kids.length ∨ ¬ (0 ≤ t.n ∧ t.n ≤ cd t.k) then (false, c + 1) else iC t.kids (d + 1) (c + 1) := by
 cases t; simp only [gQ]; rfl
mutual
theorem y8 (t : T) (d c : Int) : (gQ t d c).1 = true → c + 1 ≤ (gQ t d c).2 ∧ (gQ t d c).2 ≤ 400 := by
 cases t with
 | mk k n kids =>
  unfold gQ
  split
  ·intro h; cases h
  ·rename_i h
   intro h1
   have h2 : c + 1 ≤ 400 := by simp only [not_or] at h; omega
   have := yk kids (d + 1) (c + 1) h2 h1
   omega
theorem yk (ts : List T) (d c : Int) (hc : c ≤ 400) : (iC ts d c).1 = true → c ≤ (iC ts d c).2 ∧ (iC ts d c).2 ≤ 400 := by
 cases ts with
 | nil => intro _; simp [iC, hc]
 | cons t ts =>
  unfold iC
  split
  ·rename_i h
   intro h1
   have a := y8 t d c h
   have b := yk ts d _ a.2 h1
   omega
  ·intro h; cases h
end
mutual
def bu : T → Nat → Bool
 | .mk k n kids, d => decide (1 ≤ d) && (decide (opsOf k = kids.length) && (decide (0 ≤ n ∧ n ≤ cd k) && bD kids (d - 1)))
def bD : List T → Nat → Bool
 | [], _ => true
 | t :: ts, d => bu t d && bD ts d
end
theorem gM (t : T) (d : Nat) : bu t d = (decide (1 ≤ d) && (decide (opsOf t.k = t.kids.length) && (decide (0 ≤ t.n ∧ t.n ≤ cd t.k) && bD t.kids (d - 1)))) := by cases t; simp only [bu]; rfl
def ah (t : T) : Bool := bu t 30 && decide (t.size ≤ 400)
def yB (t : T) (m : Nat) : Nat := min t.size (m + 1)
mutual
theorem vg (t : T) (d c : Nat) (hc : c ≤ 400) (hd : d ≤ 31) : ((gQ t d c).1 = true ↔ bu t (31 - d) = true ∧ c + t.size ≤ 400) ∧ ((gQ t d c).1 = true → (gQ t d c).2 = c + t.size) := by
 cases t with
 | mk k n kids =>
  have hs : T.size (.mk k n kids) = 1 + T.aE kids := rfl
  unfold gQ bu
  by_cases hcond : 400 < (c : Int) + 1 ∨ 30 < (d : Int) ∨ opsOf k ≠ (kids.length : Int) ∨ ¬ (0 ≤ n ∧ n ≤ cd k)
  ·rw [if_pos hcond]
   refine ⟨⟨fun h => (by cases h), fun h => ?_⟩, fun h => (by cases h)⟩
   simp only [Bool.and_eq_true, decide_eq_true_eq] at h
   obtain ⟨⟨h1, h2, h3, h4⟩, h5⟩ := h
   exfalso
   rcases hcond with h | h | h | h
   ·omega
   ·omega
   ·exact h h2
   ·exact h h3
  ·rw [if_neg hcond]
   simp only [not_or, Decidable.not_not] at hcond
   have hk : ((c : Int) + 1) = ((c + 1 : Nat) : Int) := by omega
   have hk2 : ((d : Int) + 1) = ((d + 1 : Nat) : Int) := by omega
   rw [hk, hk2]
   have ih := u6 kids (d + 1) (c + 1) (by omega) (by omega)
   rw [decide_eq_true (by omega : 1 ≤ 31 - d), decide_eq_true hcond.2.2.1, decide_eq_true hcond.2.2.2, Bool.true_and, Bool.true_and, Bool.true_and, show 31 - d - 1 = 31 - (d + 1) by omega, hs]
   refine ⟨⟨fun h => ?_, fun h => ?_⟩, fun h => ?_⟩
   ·have := ih.1.1 h; exact ⟨this.1, by omega⟩
   ·exact ih.1.2 ⟨h.1, by omega⟩
   ·have := ih.2 h; omega
theorem u6 (ts : List T) (d c : Nat) (hc : c ≤ 400) (hd : d ≤ 31) : ((iC ts d c).1 = true ↔ bD ts (31 - d) = true ∧ c + T.aE ts ≤ 400) ∧ ((iC ts d c).1 = true → (iC ts d c).2 = c + T.aE ts) := by
 cases ts with
 | nil => simp [iC, bD, T.aE, hc]
 | cons t ts =>
  have ih := vg t d c hc hd
  have hs : T.aE (t :: ts) = t.size + T.aE ts := rfl
  unfold iC bD
  by_cases h1 : (gQ t d c).1 = true
  ·have h2 := ih.2 h1
   have h3 := ih.1.1 h1
   have ih2 := u6 ts d (c + t.size) h3.2 hd
   have hk : ((c : Int) + (t.size : Int)) = ((c + t.size : Nat) : Int) := by omega
   rw [if_pos h1, h2, hk, h3.1, Bool.true_and, hs]
   refine ⟨⟨fun h => ?_, fun h => ?_⟩, fun h => ?_⟩
   ·have := ih2.1.1 h; exact ⟨this.1, by omega⟩
   ·exact ih2.1.2 ⟨h.1, by omega⟩
   ·have := ih2.2 h; omega
  ·rw [if_neg h1, hs]
   refine ⟨⟨fun h => (by cases h), fun h => ?_⟩, fun h => (by cases h)⟩
   exfalso
   rw [Bool.and_eq_true] at h
   exact h1 (ih.1.2 ⟨h.1.1, by omega⟩)
end
theorem Ay (t : T) : (gQ t 1 0).1 = ah t := by
 have := (vg t 1 0 (by omega) (by omega)).1
 unfold ah
 rw [Bool.eq_iff_iff, Bool.and_eq_true, decide_eq_true_eq]
 simpa using this
theorem lF {u : T} {d : Nat} : ∀ {ts : List T}, bD ts d = true → u ∈ ts → bu u d = true
 | t :: ts, h, hu => by
  simp only [bD, Bool.and_eq_true] at h
  rcases List.mem_cons.1 hu with rfl | hu
  ·exact h.1
  ·exact lF h.2 hu
mutual
theorem oN : ∀ (t : T) (d : Nat), bu t d = true → bu t (d + 1) = true
 | .mk k n kids, d, h => by
  simp only [bu, Bool.and_eq_true, decide_eq_true_eq] at h ⊢
  refine ⟨by omega, h.2.1, h.2.2.1, ?_⟩
  have := vh kids (d - 1) h.2.2.2
  rwa [show d - 1 + 1 = d + 1 - 1 by omega] at this
theorem vh : ∀ (ts : List T) (d : Nat), bD ts d = true → bD ts (d + 1) = true
 | [], _, _ => rfl
 | t :: ts, d, h => by
  simp only [bD, Bool.and_eq_true] at h ⊢
  exact ⟨oN t d h.1, vh ts d h.2⟩
end
theorem bF {t u : T} (h : ah t = true) (hu : u ∈ t.kids) : ah u = true := by
 unfold ah at h ⊢
 rw [Bool.and_eq_true, decide_eq_true_eq] at h ⊢
 rw [gM] at h
 simp only [Bool.and_eq_true, decide_eq_true_eq] at h
 have h1 := oN _ _ (lF h.1.2.2.2 hu)
 have h2 := T.aX hu
 have h3 := T.size_eq t
 exact ⟨h1, by omega⟩
theorem lC {t : T} (h : ah t = true) : opsOf t.k = t.kids.length ∧ 0 ≤ t.n ∧ t.n ≤ cd t.k := by
 unfold ah at h
 rw [Bool.and_eq_true, gM] at h
 simp only [Bool.and_eq_true, decide_eq_true_eq] at h
 exact ⟨h.1.2.1, h.1.2.2.1⟩
theorem ae {t : T} (h : ah t = true) : t.size ≤ 400 := by
 unfold ah at h
 rw [Bool.and_eq_true, decide_eq_true_eq] at h
 exact h.2
end Go.Proofs.YtajlknlnmmbfcaaGreat
end
section
namespace Go.Proofs.YtajlknlnmmbfcaaGreat
open Go Go.Dk
def under (k : Int) (i : Nat) : Int := if i = 1 ∧ (k = 3 ∨ k = 4 ∨ k = 13) then 1 else 0
theorem cY (k : Int) (i : Nat) : 0 ≤ under k i ∧ under k i ≤ 1 := by unfold under; split <;> omega
mutual
def shT (a : Int) : T → Int → T
 | .mk k n ts, c => .mk k (if k = 1 ∧ c ≤ n then n + a else n) (shL a k 0 ts c)
def shL (a k : Int) : Nat → List T → Int → List T
 | _, [], _ => []
 | i, t :: ts, c => shT a t (c + under k i) :: shL a k (i + 1) ts c
end
mutual
def sbT (u : T) : T → Int → Int → T
 | .mk k n ts, x, d => if k = 1 ∧ n = x then shT d u 0 else .mk k (if k = 1 ∧ x < n then n - 1 else n) (sbL u k 0 ts x d)
def sbL (u : T) (k : Int) : Nat → List T → Int → Int → List T
 | _, [], _, _ => []
 | i, t :: ts, x, d => sbT u t (x + under k i) (d + under k i) :: sbL u k (i + 1) ts x d
end
mutual
theorem BQ {a b : Int} (ha : 0 ≤ a) (hb : 0 ≤ b) : ∀ (t : T) (c e : Int), c ≤ e → shT a (shT b t c) (e + b) = shT b (shT a t e) c
 | .mk k n ts, c, e, h => by
  simp only [shT]
  rw [y0 ha hb k ts 0 c e h]
  congr 1
  by_cases hk : k = 1 <;> simp only [hk, true_and, false_and, if_false]
  repeat' split
  all_goals omega
theorem y0 {a b : Int} (ha : 0 ≤ a) (hb : 0 ≤ b) (k : Int) : ∀ (ts : List T) (i : Nat) (c e : Int), c ≤ e → shL a k i (shL b k i ts c) (e + b) = shL b k i (shL a k i ts e) c
 | [], i, c, e, h => rfl
 | t :: ts, i, c, e, h => by
  simp only [shL]
  rw [show e + b + under k i = e + under k i + b by omega, BQ ha hb t (c + under k i) (e + under k i) (by omega), y0 ha hb k ts (i + 1) c e h]
end
mutual
theorem Fg {a b : Int} (ha : 0 ≤ a) (hb : 0 ≤ b) : ∀ (t : T) (c e : Int), c ≤ e → e ≤ c + b → shT a (shT b t c) e = shT (a + b) t c
 | .mk k n ts, c, e, h, h2 => by
  simp only [shT]
  rw [CS ha hb k ts 0 c e h h2]
  congr 1
  by_cases hk : k = 1 <;> simp only [hk, true_and, false_and, if_false]
  repeat' split
  all_goals omega
theorem CS {a b : Int} (ha : 0 ≤ a) (hb : 0 ≤ b) (k : Int) : ∀ (ts : List T) (i : Nat) (c e : Int), c ≤ e → e ≤ c + b → shL a k i (shL b k i ts c) e = shL (a + b) k i ts c
 | [], i, c, e, h, h2 => rfl
 | t :: ts, i, c, e, h, h2 => by
  simp only [shL]
  rw [Fg ha hb t (c + under k i) (e + under k i) (by omega) (by omega), CS ha hb k ts (i + 1) c e h h2]
end
mutual
theorem I1 (u : T) {b : Int} (hb : 0 ≤ b) : ∀ (t : T) (c x d : Int), c ≤ x → x ≤ c + b → sbT u (shT (b + 1) t c) x d = shT b t c
 | .mk k n ts, c, x, d, h, h2 => by
  simp only [shT, sbT]
  rw [Fu u hb k ts 0 c x d h h2]
  by_cases hk : k = 1 <;> simp only [hk, true_and, false_and, if_false]
  by_cases hn : c ≤ n
  ·rw [if_pos hn, if_neg (by omega), if_pos (by omega), if_pos hn]; congr 1; omega
  ·rw [if_neg hn, if_neg (by omega), if_neg (by omega), if_neg hn]
theorem Fu (u : T) {b : Int} (hb : 0 ≤ b) (k : Int) : ∀ (ts : List T) (i : Nat) (c x d : Int), c ≤ x → x ≤ c + b → sbL u k i (shL (b + 1) k i ts c) x d = shL b k i ts c
 | [], i, c, x, d, h, h2 => rfl
 | t :: ts, i, c, x, d, h, h2 => by
  simp only [shL, sbL]
  rw [I1 u hb t (c + under k i) (x + under k i) (d + under k i) (by omega) (by omega), Fu u hb k ts (i + 1) c x d h h2]
end
mutual
theorem Ia (u : T) {a : Int} (ha : 0 ≤ a) : ∀ (t : T) (c x d : Int), 0 ≤ d → d ≤ x → x ≤ c → shT a (sbT u t x d) c = sbT (shT a u (c - d)) (shT a t (c + 1)) x d
 | .mk k n ts, c, x, d, h0, h1, h2 => by
  simp only [shT, sbT]
  by_cases hk : k = 1
  ·subst hk
   simp only [true_and]
   by_cases hn : n = x
   ·subst hn
    rw [if_pos rfl, if_neg (show ¬ c + 1 ≤ n by omega), if_pos rfl]
    have := BQ ha h0 u 0 (c - d) (by omega)
    rw [show c - d + d = c by omega] at this
    exact this
   ·rw [if_neg hn, shT]
    by_cases hn2 : x < n
    ·by_cases hn3 : c + 1 ≤ n
     ·rw [if_pos hn3, if_neg (show ¬ n + a = x by omega), if_pos hn2, if_pos (show x < n + a by omega)]
      simp only [true_and, if_pos (show c ≤ n - 1 by omega), uk u ha 1 ts 0 c x d h0 h1 h2]
      congr 1; omega
     ·rw [if_neg hn3, if_neg hn, if_pos hn2]
      simp only [true_and, if_neg (show ¬ c ≤ n - 1 by omega), uk u ha 1 ts 0 c x d h0 h1 h2]
    ·rw [if_neg hn2, if_neg (show ¬ c + 1 ≤ n by omega), if_neg hn, if_neg hn2]
     simp only [true_and, if_neg (show ¬ c ≤ n by omega), uk u ha 1 ts 0 c x d h0 h1 h2]
  ·simp only [hk, false_and, if_false, shT]
   rw [uk u ha k ts 0 c x d h0 h1 h2]
theorem uk (u : T) {a : Int} (ha : 0 ≤ a) (k : Int) : ∀ (ts : List T) (i : Nat) (c x d : Int), 0 ≤ d → d ≤ x → x ≤ c → shL a k i (sbL u k i ts x d) c = sbL (shT a u (c - d)) k i (shL a k i ts (c + 1)) x d
 | [], i, c, x, d, h0, h1, h2 => rfl
 | t :: ts, i, c, x, d, h0, h1, h2 => by
  have hu := cY k i
  simp only [shL, sbL]
  rw [Ia u ha t (c + under k i) (x + under k i) (d + under k i) (by omega) (by omega) (by omega), uk u ha k ts (i + 1) c x d h0 h1 h2,
   show c + under k i - (d + under k i) = c - d by omega, show c + 1 + under k i = c + under k i + 1 by omega]
end
mutual
theorem yL (u : T) {a : Int} (ha : 0 ≤ a) : ∀ (t : T) (c x d : Int), 0 ≤ c → c ≤ d → d ≤ x → shT a (sbT u t x d) c = sbT u (shT a t c) (x + a) (d + a)
 | .mk k n ts, c, x, d, h0, h1, h2 => by
  simp only [shT, sbT]
  by_cases hk : k = 1
  ·subst hk
   simp only [true_and]
   by_cases hn : n = x
   ·subst hn
    rw [if_pos rfl, if_pos (show c ≤ n by omega), if_pos rfl]
    rw [Fg ha (by omega) u 0 c h0 (by omega), Int.add_comm]
   ·rw [if_neg hn, shT]
    by_cases hn2 : c ≤ n
    ·rw [if_pos hn2, if_neg (show ¬ n + a = x + a by omega)]
     by_cases hn3 : x < n
     ·rw [if_pos hn3, if_pos (show x + a < n + a by omega)]
      simp only [true_and, if_pos (show c ≤ n - 1 by omega), iU u ha 1 ts 0 c x d h0 h1 h2]
      congr 1; omega
     ·rw [if_neg hn3, if_neg (show ¬ x + a < n + a by omega)]
      simp only [true_and, if_pos hn2, iU u ha 1 ts 0 c x d h0 h1 h2]
    ·rw [if_neg (show ¬ x < n by omega), if_neg hn2, if_neg (show ¬ n = x + a by omega), if_neg (show ¬ x + a < n by omega)]
     simp only [true_and, if_neg hn2, iU u ha 1 ts 0 c x d h0 h1 h2]
  ·simp only [hk, false_and, if_false, shT]
   rw [iU u ha k ts 0 c x d h0 h1 h2]
theorem iU (u : T) {a : Int} (ha : 0 ≤ a) (k : Int) : ∀ (ts : List T) (i : Nat) (c x d : Int), 0 ≤ c → c ≤ d → d ≤ x → shL a k i (sbL u k i ts x d) c = sbL u k i (shL a k i ts c) (x + a) (d + a)
 | [], i, c, x, d, h0, h1, h2 => rfl
 | t :: ts, i, c, x, d, h0, h1, h2 => by
  have hu := cY k i
  simp only [shL, sbL]
  rw [yL u ha t (c + under k i) (x + under k i) (d + under k i) (by omega) (by omega) (by omega), iU u ha k ts (i + 1) c x d h0 h1 h2,
   show x + under k i + a = x + a + under k i by omega, show d + under k i + a = d + a + under k i by omega]
end
mutual
theorem IS (u v : T) : ∀ (t : T) (x d y e : Int), 0 ≤ d → d ≤ x → x ≤ e → e ≤ y → sbT v (sbT u t x d) y e = sbT (sbT v u (y - d) (e - d)) (sbT v t (y + 1) (e + 1)) x d
 | .mk k n ts, x, d, y, e, h0, h1, h2, h3 => by
  by_cases hk : k = 1
  ·subst hk
   by_cases hn : n = x
   ·subst hn
    rw [sbT, if_pos ⟨rfl, rfl⟩, sbT, if_neg (show ¬ ((1 : Int) = 1 ∧ n = y + 1) by omega), if_neg (show ¬ ((1 : Int) = 1 ∧ y + 1 < n) by omega), sbT, if_pos ⟨rfl, rfl⟩]
    have := yL v h0 u 0 (y - d) (e - d) (by omega) (by omega) (by omega)
    rw [show y - d + d = y by omega, show e - d + d = e by omega] at this
    exact this.symm
   ·rw [sbT, if_neg (show ¬ ((1 : Int) = 1 ∧ n = x) by omega)]
    by_cases hn2 : n = y + 1
    ·subst hn2
     rw [if_pos (show (1 : Int) = 1 ∧ x < y + 1 by omega), sbT, if_pos (show (1 : Int) = 1 ∧ y + 1 - 1 = y by omega), sbT, if_pos ⟨rfl, rfl⟩]
     exact (I1 _ (by omega) v 0 x d (by omega) (by omega)).symm
    ·have e2 : sbT v (.mk 1 n ts) (y + 1) (e + 1) = .mk 1 (if (1 : Int) = 1 ∧ y + 1 < n then n - 1 else n) (sbL v 1 0 ts (y + 1) (e + 1)) := by
       rw [sbT, if_neg (show ¬ ((1 : Int) = 1 ∧ n = y + 1) by omega)]
     rw [e2]
     by_cases hn3 : x < n
     ·rw [if_pos (show (1 : Int) = 1 ∧ x < n by omega), sbT, if_neg (show ¬ ((1 : Int) = 1 ∧ n - 1 = y) by omega), sbT]
      by_cases hn4 : y + 1 < n
      ·rw [if_pos (show (1 : Int) = 1 ∧ y < n - 1 by omega), if_pos (show (1 : Int) = 1 ∧ y + 1 < n by omega), if_neg (show ¬ ((1 : Int) = 1 ∧ n - 1 = x) by omega), if_pos (show (1 : Int) = 1 ∧ x < n - 1 by omega), sZ u v 1 ts 0 x d y e h0 h1 h2 h3]
      ·rw [if_neg (show ¬ ((1 : Int) = 1 ∧ y < n - 1) by omega), if_neg (show ¬ ((1 : Int) = 1 ∧ y + 1 < n) by omega), if_neg (show ¬ ((1 : Int) = 1 ∧ n = x) by omega), if_pos (show (1 : Int) = 1 ∧ x < n by omega), sZ u v 1 ts 0 x d y e h0 h1 h2 h3]
     ·rw [if_neg (show ¬ ((1 : Int) = 1 ∧ x < n) by omega), sbT, if_neg (show ¬ ((1 : Int) = 1 ∧ n = y) by omega), if_neg (show ¬ ((1 : Int) = 1 ∧ y < n) by omega), if_neg (show ¬ ((1 : Int) = 1 ∧ y + 1 < n) by omega), sbT, if_neg (show ¬ ((1 : Int) = 1 ∧ n = x) by omega), if_neg (show ¬ ((1 : Int) = 1 ∧ x < n) by omega), sZ u v 1 ts 0 x d y e h0 h1 h2 h3]
  ·simp only [sbT, hk, false_and, if_false]
   rw [sZ u v k ts 0 x d y e h0 h1 h2 h3]
theorem sZ (u v : T) (k : Int) : ∀ (ts : List T) (i : Nat) (x d y e : Int), 0 ≤ d → d ≤ x → x ≤ e → e ≤ y → sbL v k i (sbL u k i ts x d) y e = sbL (sbT v u (y - d) (e - d)) k i (sbL v k i ts (y + 1) (e + 1)) x d
 | [], i, x, d, y, e, h0, h1, h2, h3 => rfl
 | t :: ts, i, x, d, y, e, h0, h1, h2, h3 => by
  have hu := cY k i
  simp only [sbL]
  rw [IS u v t (x + under k i) (d + under k i) (y + under k i) (e + under k i) (by omega) (by omega) (by omega) (by omega), sZ u v k ts (i + 1) x d y e h0 h1 h2 h3,
   show y + under k i - (d + under k i) = y - d by omega, show e + under k i - (d + under k i) = e - d by omega, show y + 1 + under k i = y + under k i + 1 by omega, show e + 1 + under k i = e + under k i + 1 by omega]
end
def mQ : T := .mk 0 0 []
def kd (t : T) (i : Nat) : T := t.kids.getD i mQ
theorem FD (a k : Int) : ∀ (ts : List T) (i j : Nat) (c : Int), (shL a k i ts c).getD j mQ = shT a (ts.getD j mQ) (c + under k (i + j))
 | [], i, j, c => by simp [shL, mQ, shT]
 | t :: ts, i, 0, c => by simp [shL]
 | t :: ts, i, j + 1, c => by
  simp only [shL, List.getD_cons_succ]
  rw [FD a k ts (i + 1) j c, show i + 1 + j = i + (j + 1) by omega]
theorem E1 (u : T) (k : Int) : ∀ (ts : List T) (i j : Nat) (x d : Int), (sbL u k i ts x d).getD j mQ = sbT u (ts.getD j mQ) (x + under k (i + j)) (d + under k (i + j))
 | [], i, j, x, d => by simp [sbL, mQ, sbT]
 | t :: ts, i, 0, x, d => by simp [sbL]
 | t :: ts, i, j + 1, x, d => by
  simp only [sbL, List.getD_cons_succ]
  rw [E1 u k ts (i + 1) j x d, show i + 1 + j = i + (j + 1) by omega]
theorem pV (a : Int) (t : T) (c : Int) : (shT a t c).k = t.k := by cases t; rfl
theorem jy (a : Int) (t : T) (c : Int) (j : Nat) : kd (shT a t c) j = shT a (kd t j) (c + under t.k j) := by
 cases t with | mk k n ts =>
 unfold kd
 rw [shT]
 show (shL a k 0 ts c).getD j mQ = _
 rw [FD, Nat.zero_add]; rfl
theorem ql {u t : T} {x d : Int} (h : t.k ≠ 1) : (sbT u t x d).k = t.k := by
 cases t with | mk k n ts =>
 rw [sbT, if_neg (fun hh => h hh.1)]; rfl
theorem iD {u t : T} {x d : Int} (h : t.k ≠ 1) (j : Nat) : kd (sbT u t x d) j = sbT u (kd t j) (x + under t.k j) (d + under t.k j) := by
 cases t with | mk k n ts =>
 have h' : k ≠ 1 := h
 unfold kd
 rw [sbT, if_neg (fun hh => h' hh.1)]
 show (sbL u k 0 ts x d).getD j mQ = _
 rw [E1, Nat.zero_add]; rfl
def bz (t : T) : Int :=
 if t.k = 5 then (if (kd t 0).k = 4 then 1 else 0)
 else if t.k = 9 then (if (kd t 3).k = 7 then 2 else if (kd t 3).k = 8 then 3 else 0)
 else if t.k = 12 then (if (kd t 1).k = 11 then 4 else 0)
 else if t.k = 15 then (if (kd t 0).k = 14 then 5 else 0)
 else if t.k = 16 then (if (kd t 0).k = 14 then 6 else 0) else 0
def ay (t : T) : T :=
 if t.k = 5 then sbT (kd t 1) (kd (kd t 0) 1) 0 0
 else if t.k = 9 then (if (kd t 3).k = 7 then kd t 1 else .mk 5 0 [.mk 5 0 [kd t 2, kd (kd t 3) 0], .mk 9 0 [kd t 0, kd t 1, kd t 2, kd (kd t 3) 0]])
 else if t.k = 12 then kd t 2
 else if t.k = 15 then kd (kd t 0) 1
 else kd (kd t 0) 2
inductive Rx : T → Prop
 | app {t} (h : t.k = 5) (h' : (kd t 0).k = 4) : Rx t
 | zero {t} (h : t.k = 9) (h' : (kd t 3).k = 7) : Rx t
 | succ {t} (h : t.k = 9) (h' : (kd t 3).k = 8) : Rx t
 | move {t} (h : t.k = 12) (h' : (kd t 1).k = 11) : Rx t
 | fst {t} (h : t.k = 15) (h' : (kd t 0).k = 14) : Rx t
 | snd {t} (h : t.k = 16) (h' : (kd t 0).k = 14) : Rx t
theorem nG (t : T) : bz t ≠ 0 ↔ Rx t := by
 constructor
 ·intro h
  unfold bz at h
  split at h
  ·split at h
   ·exact .app ‹_› ‹_›
   ·exact absurd rfl h
  ·split at h
   ·split at h
    ·exact .zero ‹_› ‹_›
    ·split at h
     ·exact .succ ‹_› ‹_›
     ·exact absurd rfl h
   ·split at h
    ·split at h
     ·exact .move ‹_› ‹_›
     ·exact absurd rfl h
    ·split at h
     ·split at h
      ·exact .fst ‹_› ‹_›
      ·exact absurd rfl h
     ·split at h
      ·split at h
       ·exact .snd ‹_› ‹_›
       ·exact absurd rfl h
      ·exact absurd rfl h
 ·intro h
  cases h with
  | app h h' => simp [bz, h, h']
  | zero h h' => simp [bz, h, h']
  | succ h h' => simp [bz, h, h']
  | move h h' => simp [bz, h, h']
  | fst h h' => simp [bz, h, h']
  | snd h h' => simp [bz, h, h']
theorem Rx.k {t : T} (h : Rx t) : t.k = 5 ∨ t.k = 9 ∨ t.k = 12 ∨ t.k = 15 ∨ t.k = 16 := by cases h <;> omega
theorem Rx.sh {t : T} (h : Rx t) (a c : Int) : Rx (shT a t c) := by
 cases h with
 | app h h' => exact .app (by rw [pV, h]) (by rw [jy, pV, h'])
 | zero h h' => exact .zero (by rw [pV, h]) (by rw [jy, pV, h'])
 | succ h h' => exact .succ (by rw [pV, h]) (by rw [jy, pV, h'])
 | move h h' => exact .move (by rw [pV, h]) (by rw [jy, pV, h'])
 | fst h h' => exact .fst (by rw [pV, h]) (by rw [jy, pV, h'])
 | snd h h' => exact .snd (by rw [pV, h]) (by rw [jy, pV, h'])
theorem Rx.sb {t : T} (h : Rx t) (u : T) (x d : Int) : Rx (sbT u t x d) := by
 cases h with
 | app h h' => exact .app (by rw [ql (by omega), h]) (by rw [iD (by omega), ql (by omega), h'])
 | zero h h' => exact .zero (by rw [ql (by omega), h]) (by rw [iD (by omega), ql (by omega), h'])
 | succ h h' => exact .succ (by rw [ql (by omega), h]) (by rw [iD (by omega), ql (by omega), h'])
 | move h h' => exact .move (by rw [ql (by omega), h]) (by rw [iD (by omega), ql (by omega), h'])
 | fst h h' => exact .fst (by rw [ql (by omega), h]) (by rw [iD (by omega), ql (by omega), h'])
 | snd h h' => exact .snd (by rw [ql (by omega), h]) (by rw [iD (by omega), ql (by omega), h'])
theorem fe {t : T} (h : t.k = 5) : ay t = sbT (kd t 1) (kd (kd t 0) 1) 0 0 := by simp [ay, h]
theorem dE {t : T} (h : t.k = 9) (h' : (kd t 3).k = 7) : ay t = kd t 1 := by simp [ay, h, h']
theorem dD {t : T} (h : t.k = 9) (h' : (kd t 3).k = 8) : ay t = .mk 5 0 [.mk 5 0 [kd t 2, kd (kd t 3) 0], .mk 9 0 [kd t 0, kd t 1, kd t 2, kd (kd t 3) 0]] := by simp [ay, h, h']
theorem dp {t : T} (h : t.k = 12) : ay t = kd t 2 := by simp [ay, h]
theorem fg {t : T} (h : t.k = 15) : ay t = kd (kd t 0) 1 := by simp [ay, h]
theorem fj {t : T} (h : t.k = 16) : ay t = kd (kd t 0) 2 := by simp [ay, h]
theorem pX {k : Int} {i : Nat} (h : k ≠ 3 ∧ k ≠ 4 ∧ k ≠ 13) : under k i = 0 := by unfold under; rw [if_neg (by omega)]
theorem I3 {t : T} (h : Rx t) {a : Int} (ha : 0 ≤ a) {c : Int} (hc : 0 ≤ c) : shT a (ay t) c = ay (shT a t c) := by
 cases h with
 | app h h' =>
  rw [fe h, fe (by rw [pV, h]), Ia _ ha _ c 0 0 (by omega) (by omega) hc]
  simp only [jy, h, h', pX (show (5 : Int) ≠ 3 ∧ (5 : Int) ≠ 4 ∧ (5 : Int) ≠ 13 by decide), show under 4 1 = 1 from rfl, Int.add_zero, Int.sub_zero]
 | zero h h' => rw [dE h h', dE (by rw [pV, h]) (by rw [jy, pV, h']), jy, pX (by omega), Int.add_zero]
 | succ h h' =>
  rw [dD h h', dD (by rw [pV, h]) (by rw [jy, pV, h'])]
  simp only [jy, h, h', shT, shL, pX (show (5 : Int) ≠ 3 ∧ (5 : Int) ≠ 4 ∧ (5 : Int) ≠ 13 by decide), pX (show (9 : Int) ≠ 3 ∧ (9 : Int) ≠ 4 ∧ (9 : Int) ≠ 13 by decide), pX (show (8 : Int) ≠ 3 ∧ (8 : Int) ≠ 4 ∧ (8 : Int) ≠ 13 by decide), Int.add_zero]
  simp
 | move h h' => rw [dp h, dp (by rw [pV, h]), jy, pX (by omega), Int.add_zero]
 | fst h h' => rw [fg h, fg (by rw [pV, h]), jy, jy, pX (by omega), pX (by omega), Int.add_zero, Int.add_zero]
 | snd h h' => rw [fj h, fj (by rw [pV, h]), jy, jy, pX (by omega), pX (by omega), Int.add_zero, Int.add_zero]
theorem Jr {t : T} (h : Rx t) (u : T) {x d : Int} (h0 : 0 ≤ d) (h1 : d ≤ x) : sbT u (ay t) x d = ay (sbT u t x d) := by
 cases h with
 | app h h' =>
  rw [fe h, fe (by rw [ql (by omega), h]), IS _ _ _ 0 0 x d (by omega) (by omega) h0 h1]
  simp only [iD (show t.k ≠ 1 by omega), h, iD (show (kd t 0).k ≠ 1 by omega), h', pX (show (5 : Int) ≠ 3 ∧ (5 : Int) ≠ 4 ∧ (5 : Int) ≠ 13 by decide), show under 4 1 = 1 from rfl, Int.add_zero, Int.sub_zero]
 | zero h h' => rw [dE h h', dE (by rw [ql (by omega), h]) (by rw [iD (by omega), ql (by omega), h']), iD (by omega), pX (by omega), Int.add_zero, Int.add_zero]
 | succ h h' =>
  rw [dD h h', dD (by rw [ql (by omega), h]) (by rw [iD (by omega), ql (by omega), h'])]
  simp only [iD (show t.k ≠ 1 by omega), iD (show (kd t 3).k ≠ 1 by omega), h, h', sbT, sbL, pX (show (5 : Int) ≠ 3 ∧ (5 : Int) ≠ 4 ∧ (5 : Int) ≠ 13 by decide), pX (show (9 : Int) ≠ 3 ∧ (9 : Int) ≠ 4 ∧ (9 : Int) ≠ 13 by decide), pX (show (8 : Int) ≠ 3 ∧ (8 : Int) ≠ 4 ∧ (8 : Int) ≠ 13 by decide), Int.add_zero]
  simp
 | move h h' => rw [dp h, dp (by rw [ql (by omega), h]), iD (by omega), pX (by omega), Int.add_zero, Int.add_zero]
 | fst h h' => rw [fg h, fg (by rw [ql (by omega), h]), iD (by omega), iD (by omega), pX (by omega), pX (by omega)]; simp only [Int.add_zero]
 | snd h h' => rw [fj h, fj (by rw [ql (by omega), h]), iD (by omega), iD (by omega), pX (by omega), pX (by omega)]; simp only [Int.add_zero]
mutual
inductive Par : T → T → Prop
 | node {k n ts us} (h : fY ts us) : Par (.mk k n ts) (.mk k n us)
 | red {k n ts us} (h : fY ts us) (hr : Rx (.mk k n ts)) : Par (.mk k n ts) (ay (.mk k n us))
inductive fY : List T → List T → Prop
 | nil : fY [] []
 | cons {t u ts us} (h : Par t u) (hs : fY ts us) : fY (t :: ts) (u :: us)
end
mutual
theorem Par.refl : ∀ t : T, Par t t
 | .mk k n ts => .node (fY.refl ts)
theorem fY.refl : ∀ ts : List T, fY ts ts
 | [] => .nil
 | t :: ts => .cons (Par.refl t) (fY.refl ts)
end
theorem fY.get : ∀ {ts us : List T}, fY ts us → ∀ j, Par (ts.getD j mQ) (us.getD j mQ)
 | _, _, .nil, j => by simpa using Par.refl mQ
 | _, _, .cons h hs, 0 => by simpa using h
 | _, _, .cons h hs, j + 1 => by simpa using hs.get j
theorem fY.kd {k n : Int} {ts us : List T} (h : fY ts us) (j : Nat) : Par (kd (.mk k n ts) j) (kd (.mk k n us) j) := h.get j
theorem Par.head {t u : T} (h : Par t u) (hk : t.k ≠ 5 ∧ t.k ≠ 9 ∧ t.k ≠ 12 ∧ t.k ≠ 15 ∧ t.k ≠ 16) : u.k = t.k ∧ ∀ j, Par (kd t j) (kd u j) := by
 cases h with
 | node h => exact ⟨rfl, h.kd⟩
 | red h hr => have := hr.k; simp only [T.k] at this hk; omega
theorem Rx.par {k n : Int} {ts us : List T} (hp : fY ts us) (h : Rx (.mk k n ts)) : Rx (.mk k n us) := by
 cases h with
 | app h h' => exact .app h (by rw [((hp.kd (k := k) (n := n) 0).head (by omega)).1, h'])
 | zero h h' => exact .zero h (by rw [((hp.kd (k := k) (n := n) 3).head (by omega)).1, h'])
 | succ h h' => exact .succ h (by rw [((hp.kd (k := k) (n := n) 3).head (by omega)).1, h'])
 | move h h' => exact .move h (by rw [((hp.kd (k := k) (n := n) 1).head (by omega)).1, h'])
 | fst h h' => exact .fst h (by rw [((hp.kd (k := k) (n := n) 0).head (by omega)).1, h'])
 | snd h h' => exact .snd h (by rw [((hp.kd (k := k) (n := n) 0).head (by omega)).1, h'])
mutual
theorem Par.sh {a : Int} (ha : 0 ≤ a) : ∀ {t u : T}, Par t u → ∀ c : Int, 0 ≤ c → Par (shT a t c) (shT a u c)
 | _, _, .node h, c, hc => by
  simp only [shT]
  exact .node (fY.sh ha h _ 0 c hc)
 | _, _, .red (k := k) (n := n) (us := us) h hr, c, hc => by
  rw [I3 (Rx.par h hr) ha hc]
  simp only [shT]
  exact .red (fY.sh ha h _ 0 c hc) (by have := hr.sh a c; rwa [shT] at this)
theorem fY.sh {a : Int} (ha : 0 ≤ a) : ∀ {ts us : List T}, fY ts us → ∀ (k : Int) (i : Nat) (c : Int), 0 ≤ c → fY (shL a k i ts c) (shL a k i us c)
 | _, _, .nil, k, i, c, hc => .nil
 | _, _, .cons h hs, k, i, c, hc => by
  have := cY k i
  simp only [shL]
  exact .cons (Par.sh ha h _ (by omega)) (fY.sh ha hs k (i + 1) c hc)
end
mutual
theorem Par.sb {v w : T} (hv : Par v w) : ∀ {t u : T}, Par t u → ∀ x d : Int, 0 ≤ d → d ≤ x → Par (sbT v t x d) (sbT w u x d)
 | _, _, .node (k := k) (n := n) h, x, d, h0, h1 => by
  simp only [sbT]
  split
  ·exact hv.sh h0 0 (by omega)
  ·exact .node (fY.sb hv h _ 0 x d h0 h1)
 | _, _, .red (k := k) (n := n) (us := us) h hr, x, d, h0, h1 => by
  have hk : k ≠ 1 := by have := hr.k; simp only [T.k] at this; omega
  rw [Jr (Rx.par h hr) w h0 h1]
  simp only [sbT, hk, false_and, if_false]
  exact .red (fY.sb hv h _ 0 x d h0 h1) (by have := hr.sb v x d; rwa [sbT, if_neg (fun hh => hk hh.1), if_neg (fun hh => hk hh.1)] at this)
theorem fY.sb {v w : T} (hv : Par v w) : ∀ {ts us : List T}, fY ts us → ∀ (k : Int) (i : Nat) (x d : Int), 0 ≤ d → d ≤ x → fY (sbL v k i ts x d) (sbL w k i us x d)
 | _, _, .nil, k, i, x, d, h0, h1 => .nil
 | _, _, .cons h hs, k, i, x, d, h0, h1 => by
  have := cY k i
  simp only [sbL]
  exact .cons (Par.sb hv h _ _ (by omega) (by omega)) (fY.sb hv hs k (i + 1) x d h0 h1)
end
theorem Par.con {k n : Int} {ts us : List T} (hp : fY ts us) (h : Rx (.mk k n ts)) : Par (ay (.mk k n ts)) (ay (.mk k n us)) := by
 have hk := fun j => hp.kd (k := k) (n := n) j
 have hr := h.par hp
 cases h with
 | app h h' =>
  rw [fe h, fe (t := .mk k n us) h]
  exact Par.sb (hk 1) (((hk 0).head (by omega)).2 1) 0 0 (by omega) (by omega)
 | zero h h' => rw [dE h h', dE (t := .mk k n us) h (by rw [((hk 3).head (by omega)).1, h'])]; exact hk 1
 | succ h h' =>
  rw [dD h h', dD (t := .mk k n us) h (by rw [((hk 3).head (by omega)).1, h'])]
  have h0 := ((hk 3).head (by omega)).2 0
  exact .node (.cons (.node (.cons (hk 2) (.cons h0 .nil))) (.cons (.node (.cons (hk 0) (.cons (hk 1) (.cons (hk 2) (.cons h0 .nil))))) .nil))
 | move h h' => rw [dp h, dp (t := .mk k n us) h]; exact hk 2
 | fst h h' => rw [fg h, fg (t := .mk k n us) h]; exact ((hk 0).head (by omega)).2 1
 | snd h h' => rw [fj h, fj (t := .mk k n us) h]; exact ((hk 0).head (by omega)).2 2
instance (t : T) : Decidable (Rx t) := decidable_of_iff _ (nG t)
mutual
def JP : T → T
 | .mk k n ts => if Rx (.mk k n ts) then ay (.mk k n (JI ts)) else .mk k n (JI ts)
def JI : List T → List T
 | [] => []
 | t :: ts => JP t :: JI ts
end
mutual
theorem Par.tri : ∀ {t u : T}, Par t u → Par u (JP t)
 | _, _, .node (k := k) (n := n) (ts := ts) h => by
  rw [JP]
  split
  ·rename_i hr
   exact .red (fY.tri h) (hr.par h)
  ·exact .node (fY.tri h)
 | _, _, .red h hr => by
  rw [JP, if_pos hr]
  exact Par.con (fY.tri h) (hr.par h)
theorem fY.tri : ∀ {ts us : List T}, fY ts us → fY us (JI ts)
 | _, _, .nil => .nil
 | _, _, .cons h hs => .cons (Par.tri h) (fY.tri hs)
end
inductive Red : T → T → Prop
 | refl {t} : Red t t
 | step {t u v} (h : Par t u) (hs : Red u v) : Red t v
theorem Red.strip {t u v : T} (h : Par t u) (h' : Red t v) : ∃ w, Red u w ∧ Par v w := by
 induction h' generalizing u with
 | refl => exact ⟨u, .refl, h⟩
 | step h1 _ ih =>
  obtain ⟨w, hw, hv⟩ := ih h1.tri
  exact ⟨w, .step h.tri hw, hv⟩
theorem Red.A7 {t u v : T} (h : Red t u) (h' : Red t v) : ∃ w, Red u w ∧ Red v w := by
 induction h generalizing v with
 | refl => exact ⟨v, h', .refl⟩
 | step h1 _ ih =>
  obtain ⟨w, hw, hv⟩ := Red.strip h1 h'
  obtain ⟨z, hz, hz'⟩ := ih hw
  exact ⟨z, hz, .step hv hz'⟩
mutual
def nfB : T → Bool
 | .mk k n ts => !decide (Rx (.mk k n ts)) && nfL ts
def nfL : List T → Bool
 | [] => true
 | t :: ts => nfB t && nfL ts
end
mutual
theorem Fi : ∀ {t u : T}, Par t u → nfB t = true → u = t
 | _, _, .node h, hn => by
  simp only [nfB, Bool.and_eq_true] at hn
  rw [Cj h hn.2]
 | _, _, .red h hr, hn => by
  simp only [nfB, Bool.and_eq_true, Bool.not_eq_true', decide_eq_false_iff_not] at hn
  exact absurd hr hn.1
theorem Cj : ∀ {ts us : List T}, fY ts us → nfL ts = true → us = ts
 | _, _, .nil, _ => rfl
 | _, _, .cons h hs, hn => by
  simp only [nfL, Bool.and_eq_true] at hn
  rw [Fi h hn.1, Cj hs hn.2]
end
theorem yv {t u : T} (h : Red t u) (hn : nfB t = true) : u = t := by
 induction h with
 | refl => rfl
 | step h _ ih =>
  have := Fi h hn
  subst this
  exact ih hn
theorem Gi {t a b : T} (ha : Red t a) (hb : Red t b) (na : nfB a = true) (nb : nfB b = true) : a = b := by
 obtain ⟨w, h1, h2⟩ := Red.A7 ha hb
 rw [← yv h1 na, ← yv h2 nb]
mutual
def stT (inn : Bool) : T → Option T
 | .mk k n ts => if inn = false ∧ Rx (.mk k n ts) then some (ay (.mk k n ts)) else
  match stL inn ts with
  | some us => some (.mk k n us)
  | none => if inn = true ∧ Rx (.mk k n ts) then some (ay (.mk k n ts)) else none
def stL (inn : Bool) : List T → Option (List T)
 | [] => none
 | t :: ts => match stT inn t with
  | some u => some (u :: ts)
  | none => (stL inn ts).map (t :: ·)
end
mutual
theorem FQ {inn : Bool} : ∀ {t u : T}, stT inn t = some u → Par t u
 | .mk k n ts, u, h => by
  rw [stT] at h
  split at h
  ·rename_i hr
   obtain rfl := Option.some.inj h
   exact .red (fY.refl ts) hr.2
  ·split at h
   ·rename_i us hs
    obtain rfl := Option.some.inj h
    exact .node (A4 hs)
   ·split at h
    ·rename_i hr
     obtain rfl := Option.some.inj h
     exact .red (fY.refl ts) hr.2
    ·cases h
theorem A4 {inn : Bool} : ∀ {ts us : List T}, stL inn ts = some us → fY ts us
 | [], us, h => by cases h
 | t :: ts, us, h => by
  rw [stL] at h
  split at h
  ·rename_i u hu
   obtain rfl := Option.some.inj h
   exact .cons (FQ hu) (fY.refl ts)
  ·obtain ⟨vs, hv, rfl⟩ := Option.map_eq_some_iff.1 h
   exact .cons (Par.refl t) (A4 hv)
end
mutual
theorem wN {inn : Bool} : ∀ {t : T}, stT inn t = none ↔ nfB t = true
 | .mk k n ts => by
  rw [stT, nfB]
  have := yC (inn := inn) (ts := ts)
  by_cases hr : Rx (.mk k n ts)
  ·cases inn <;> cases hs : stL _ ts <;> simp [hr]
  ·cases hs : stL inn ts <;> rw [hs] at this <;> simp [hr] at this ⊢ <;> exact this
theorem yC {inn : Bool} : ∀ {ts : List T}, stL inn ts = none ↔ nfL ts = true
 | [] => by simp [stL, nfL]
 | t :: ts => by
  rw [stL, nfL]
  have h1 := wN (inn := inn) (t := t)
  have h2 := yC (inn := inn) (ts := ts)
  cases hs : stT inn t <;> rw [hs] at h1 <;> simp at h1
  ·cases ht : stL inn ts <;> rw [ht] at h2 <;> simp at h2 <;> simp [h1, h2]
  ·simp [h1]
end
mutual
theorem lj (a : Int) : ∀ (t : T) (c : Int), (shT a t c).size = t.size
 | .mk k n ts, c => by rw [shT, T.size, T.size, yE a k ts 0 c]
theorem yE (a k : Int) : ∀ (ts : List T) (i : Nat) (c : Int), T.aE (shL a k i ts c) = T.aE ts
 | [], i, c => rfl
 | t :: ts, i, c => by rw [shL, T.aE, T.aE, lj a t, yE a k ts]
end
theorem size_pos (t : T) : 1 ≤ t.size := by have := T.size_eq t; omega
mutual
theorem qV (u : T) : ∀ (t : T) (x d : Int), (sbT u t x d).size ≤ t.size * u.size
 | .mk k n ts, x, d => by
  have hu := size_pos u
  rw [sbT]
  split
  ·rw [lj, T.size]; exact Nat.le_mul_of_pos_left _ (by omega)
  ·rw [T.size, T.size, Nat.add_mul, Nat.one_mul]
   have := ym u k ts 0 x d
   omega
theorem ym (u : T) (k : Int) : ∀ (ts : List T) (i : Nat) (x d : Int), T.aE (sbL u k i ts x d) ≤ T.aE ts * u.size
 | [], i, x, d => by simp [sbL, T.aE]
 | t :: ts, i, x, d => by
  rw [sbL, T.aE, T.aE, Nat.add_mul]
  have h1 := qV u t (x + under k i) (d + under k i)
  have h2 := ym u k ts (i + 1) x d
  omega
end
theorem oe (a k : Int) : ∀ (ts : List T) (i : Nat) (c : Int), (shL a k i ts c).length = ts.length
 | [], i, c => rfl
 | t :: ts, i, c => by rw [shL, List.length_cons, List.length_cons, oe a k ts]
theorem vM (u : T) (k : Int) : ∀ (ts : List T) (i : Nat) (x d : Int), (sbL u k i ts x d).length = ts.length
 | [], i, x, d => rfl
 | t :: ts, i, x, d => by rw [sbL, List.length_cons, List.length_cons, vM u k ts]
theorem AT (a k : Int) : ∀ (ts : List T) (i j : Nat) (c : Int) (h : j < ts.length), (shL a k i ts c)[j]'(by rw [oe]; exact h) = shT a ts[j] (c + under k (i + j))
 | t :: ts, i, 0, c, h => rfl
 | t :: ts, i, j + 1, c, h => by
  have := AT a k ts (i + 1) j c (by simpa using h)
  simp only [shL, List.getElem_cons_succ]
  rw [this, show i + 1 + j = i + (j + 1) by omega]
theorem CM (u : T) (k : Int) : ∀ (ts : List T) (i j : Nat) (x d : Int) (h : j < ts.length), (sbL u k i ts x d)[j]'(by rw [vM]; exact h) = sbT u ts[j] (x + under k (i + j)) (d + under k (i + j))
 | t :: ts, i, 0, x, d, h => rfl
 | t :: ts, i, j + 1, x, d, h => by
  have := CM u k ts (i + 1) j x d (by simpa using h)
  simp only [sbL, List.getElem_cons_succ]
  rw [this, show i + 1 + j = i + (j + 1) by omega]
mutual
def gdB : T → Bool
 | .mk k n ts => decide (0 ≤ n ∧ n ≤ 20 ∧ (k = 1 → ts = [])) && gdL ts
def gdL : List T → Bool
 | [] => true
 | t :: ts => gdB t && gdL ts
end
theorem CK {u : T} : ∀ {ts : List T}, gdL ts = true → u ∈ ts → gdB u = true
 | t :: ts, h, hu => by
  simp only [gdL, Bool.and_eq_true] at h
  rcases List.mem_cons.1 hu with rfl | hu
  ·exact h.1
  ·exact CK h.2 hu
theorem nT {t : T} (h : gdB t = true) : 0 ≤ t.n ∧ t.n ≤ 20 ∧ (t.k = 1 → t.kids = []) ∧ ∀ u ∈ t.kids, gdB u = true := by
 cases t with | mk k n ts =>
 simp only [gdB, Bool.and_eq_true, decide_eq_true_eq] at h
 exact ⟨h.1.1, h.1.2.1, h.1.2.2, fun u hu => CK h.2 hu⟩
mutual
theorem yW : ∀ (t : T) (d : Nat), bu t d = true → gdB t = true
 | .mk k n ts, d, h => by
  simp only [bu, Bool.and_eq_true, decide_eq_true_eq] at h
  simp only [gdB, Bool.and_eq_true, decide_eq_true_eq]
  refine ⟨⟨h.2.2.1.1, ?_, fun hk => ?_⟩, s7 ts _ h.2.2.2⟩
  ·have := h.2.2.1.2
   unfold cd at this
   split at this
   ·exact this
   ·split at this <;> omega
  ·subst hk
   have h0 := h.2.1
   have : (ts.length : Int) = 0 := by rw [← h0]; rfl
   exact List.eq_nil_of_length_eq_zero (by omega)
theorem s7 : ∀ (ts : List T) (d : Nat), bD ts d = true → gdL ts = true
 | [], d, _ => rfl
 | t :: ts, d, h => by
  simp only [bD, Bool.and_eq_true] at h
  rw [gdL, yW t d h.1, s7 ts d h.2]; rfl
end
theorem gw {t : T} (h : ah t = true) : gdB t = true := by
 unfold ah at h
 rw [Bool.and_eq_true] at h
 exact yW t 30 h.1
mutual
def okS (a : Int) : T → Int → Bool
 | .mk k n ts, c => if k = 1 then (if c ≤ n then decide (c ≤ n + a) && decide (n + a ≤ 20) else true) else FR a k 0 ts c
def FR (a k : Int) : Nat → List T → Int → Bool
 | _, [], _ => true
 | i, t :: ts, c => okS a t (c + under k i) && FR a k (i + 1) ts c
end
theorem FN {k n : Int} {ts : List T} (h : ah (.mk k n ts) = true) {u : T} (hu : u ∈ ts) : ah u = true := bF h hu
mutual
theorem sV {a : Int} (ha : 0 ≤ a) : ∀ (t : T) (c : Int), ah (shT a t c) = true → okS a t c = true
 | .mk k n ts, c, h => by
  rw [okS]
  rw [shT] at h
  split
  ·rename_i hk
   subst hk
   split
   ·rename_i hc
    have := (lC h).2.2
    simp only [T.n, T.k, true_and, if_pos hc] at this
    have h3 : cd 1 = 20 := rfl
    rw [h3] at this
    simp; omega
   ·rfl
  ·exact qw ha k ts 0 c fun u hu => FN h hu
theorem qw {a : Int} (ha : 0 ≤ a) (k : Int) : ∀ (ts : List T) (i : Nat) (c : Int), (∀ u ∈ shL a k i ts c, ah u = true) → FR a k i ts c = true
 | [], i, c, _ => rfl
 | t :: ts, i, c, h => by
  rw [shL] at h
  rw [FR, sV ha t _ (h _ (List.mem_cons_self ..)), qw ha k ts (i + 1) c fun u hu => h u (List.mem_cons_of_mem _ hu)]; rfl
end
mutual
def okB (u : T) : T → Int → Int → Bool
 | .mk k n ts, x, d => if k = 1 then (if n = x then ah (shT d u 0) else true) else Dy u k 0 ts x d
def Dy (u : T) (k : Int) : Nat → List T → Int → Int → Bool
 | _, [], _, _ => true
 | i, t :: ts, x, d => okB u t (x + under k i) (d + under k i) && Dy u k (i + 1) ts x d
end
mutual
theorem ti (u : T) : ∀ (t : T) (x d : Int), ah (sbT u t x d) = true → okB u t x d = true
 | .mk k n ts, x, d, h => by
  rw [okB]
  rw [sbT] at h
  split
  ·rename_i hk
   subst hk
   split
   ·rename_i hn
    rwa [if_pos ⟨rfl, hn⟩] at h
   ·rfl
  ·rename_i hk
   rw [if_neg (fun hh => hk hh.1)] at h
   exact qe u k ts 0 x d fun u hu => FN h hu
theorem qe (u : T) (k : Int) : ∀ (ts : List T) (i : Nat) (x d : Int), (∀ v ∈ sbL u k i ts x d, ah v = true) → Dy u k i ts x d = true
 | [], i, x, d, _ => rfl
 | t :: ts, i, x, d, h => by
  rw [sbL] at h
  rw [Dy, ti u t _ _ (h _ (List.mem_cons_self ..)), qe u k ts (i + 1) x d fun u hu => h u (List.mem_cons_of_mem _ hu)]; rfl
end
mutual
def wyT (inn : Bool) : T → Option (List Nat)
 | .mk k n ts => if inn = false ∧ Rx (.mk k n ts) then some [] else
  match wyL inn 0 ts with
  | some w => some w
  | none => if inn = true ∧ Rx (.mk k n ts) then some [] else none
def wyL (inn : Bool) : Nat → List T → Option (List Nat)
 | _, [] => none
 | i, t :: ts => match wyT inn t with
  | some w => some (i :: w)
  | none => wyL inn (i + 1) ts
end
def atT : T → List Nat → T
 | t, [] => t
 | t, i :: w => atT (kd t i) w
def puT : T → List Nat → T → T
 | _, [], u => u
 | t, i :: w, u => .mk t.k t.n (t.kids.set i (puT (kd t i) w u))
def AI : T → List Nat → Prop
 | _, [] => True
 | t, i :: w => i < t.kids.length ∧ AI (kd t i) w
mutual
theorem n6 {inn : Bool} : ∀ {t : T} {w : List Nat}, wyT inn t = some w → AI t w ∧ Rx (atT t w) ∧ stT inn t = some (puT t w (ay (atT t w)))
 | .mk k n ts, w, h => by
  rw [wyT] at h
  rw [stT]
  split at h
  ·rename_i hr
   obtain rfl := Option.some.inj h
   exact ⟨trivial, hr.2, by rw [if_pos hr]; rfl⟩
  ·rename_i hr
   rw [if_neg hr]
   split at h
   ·rename_i w' hw
    obtain rfl := Option.some.inj h
    obtain ⟨i, v, rfl, hi, h1, h2, h3⟩ := yf hw
    refine ⟨⟨by simpa [T.kids] using hi, by simpa [kd, T.kids] using h1⟩, by simpa [atT, kd, T.kids] using h2, ?_⟩
    rw [h3]
    simp [puT, T.k, T.n, T.kids, kd, atT]
   ·rename_i hw
    split at h
    ·rename_i hr2
     obtain rfl := Option.some.inj h
     have hn : stL inn ts = none := rU hw
     refine ⟨trivial, hr2.2, ?_⟩
     rw [hn]
     simp only
     rw [if_pos hr2]; rfl
    ·cases h
theorem yf {inn : Bool} : ∀ {ts : List T} {j : Nat} {w : List Nat}, wyL inn j ts = some w → ∃ i v, w = (j + i) :: v ∧ i < ts.length ∧ AI (ts.getD i mQ) v ∧ Rx (atT (ts.getD i mQ) v) ∧ stL inn ts = some (ts.set i (puT (ts.getD i mQ) v (ay (atT (ts.getD i mQ) v))))
 | [], j, w, h => by cases h
 | t :: ts, j, w, h => by
  rw [wyL] at h
  rw [stL]
  split at h
  ·rename_i v hv
   obtain rfl := Option.some.inj h
   obtain ⟨h1, h2, h3⟩ := n6 hv
   exact ⟨0, v, by simp, by simp, by simpa using h1, by simpa using h2, by rw [h3]; simp⟩
  ·rename_i hv
   obtain ⟨i, v, rfl, hi, h1, h2, h3⟩ := yf h
   refine ⟨i + 1, v, by simp; omega, by simpa using hi, by simpa using h1, by simpa using h2, ?_⟩
   rw [sv hv, h3]; simp
theorem sv {inn : Bool} : ∀ {t : T}, wyT inn t = none → stT inn t = none
 | .mk k n ts, h => by
  rw [wyT] at h
  rw [stT]
  split at h
  ·cases h
  ·rename_i hr
   rw [if_neg hr]
   split at h
   ·cases h
   ·rename_i hw
    split at h
    ·cases h
    ·rename_i hr2
     rw [rU hw]
     simp only
     rw [if_neg hr2]
theorem rU {inn : Bool} : ∀ {ts : List T} {j : Nat}, wyL inn j ts = none → stL inn ts = none
 | [], j, _ => rfl
 | t :: ts, j, h => by
  rw [wyL] at h
  rw [stL]
  split at h
  ·cases h
  ·rename_i hv
   rw [sv hv, rU h]; rfl
end
theorem oL : ∀ {w : List Nat} {t u : T}, AI t w → ah (puT t w u) = true → ah u = true
 | [], t, u, _, h => h
 | i :: w, t, u, hw, h => by
  rw [puT] at h
  refine oL hw.2 (bF h (u := puT (kd t i) w u) ?_)
  show _ ∈ t.kids.set i _
  exact List.mem_iff_getElem.2 ⟨i, by simpa using hw.1, by simp⟩
theorem jG {t : T} {i : Nat} (h : i < t.kids.length) : kd t i ∈ t.kids := by
 rw [show kd t i = t.kids[i] by unfold kd; simp [List.getD, h]]
 exact List.getElem_mem h
theorem mR : ∀ {w : List Nat} {t : T}, AI t w → ah t = true → ah (atT t w) = true
 | [], t, _, h => h
 | i :: w, t, hw, h => mR (w := w) hw.2 (bF h (jG hw.1))
theorem mY : ∀ {w : List Nat} {t u : T}, AI t w → (puT t w u).size ≤ t.size + u.size
 | [], t, u, _ => by simp [puT]
 | i :: w, t, u, hw => by
  rw [puT, T.size, T.size_eq t]
  have h1 := mY (u := u) hw.2
  have h2 : ∀ (ts : List T) (i : Nat) (v : T) (s : Nat), i < ts.length → v.size ≤ (ts.getD i mQ).size + s → T.aE (ts.set i v) ≤ T.aE ts + s := by
   intro ts
   induction ts with
   | nil => intro i v s h; simp at h
   | cons t ts ih =>
    intro i v s hi hv
    cases i with
    | zero => simp only [List.set_cons_zero, T.aE, List.getD_cons_zero] at hv ⊢; omega
    | succ i =>
     simp only [List.set_cons_succ, T.aE, List.getD_cons_succ] at hv ⊢
     have := ih i v s (by simpa using hi) hv
     omega
  have := h2 t.kids i _ u.size hw.1 h1
  omega
def JD (inn : Bool) (t : T) : T × Int :=
 match stT inn t with
 | none => (t, 0)
 | some u => if ah u then (u, 1) else (mQ, 2)
def gg (inn : Bool) : Nat → Nat → T → T × Nat × Int
 | 0, s, t => match stT inn t with
  | none => (t, s, 0)
  | some _ => (mQ, s, 1)
 | g + 1, s, t => match stT inn t with
  | none => (t, s, 0)
  | some u => if ah u then gg inn g (s + 1) u else (mQ, s, 2)
end Go.Proofs.YtajlknlnmmbfcaaGreat
end
