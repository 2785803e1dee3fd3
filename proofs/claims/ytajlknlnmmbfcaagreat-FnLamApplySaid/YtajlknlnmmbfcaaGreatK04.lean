/- Part 4 of the proof. -/
import Derived.Test.YtajlknlnmmbfcaaGreatK01
import Derived.Test.YtajlknlnmmbfcaaGreatK02
import Derived.Test.YtajlknlnmmbfcaaGreatK03
import Derived.ChangeArms
import Derived.Deep.Slices
import Derived.Deep.Strs
import Derived.WalkKit
import Derived.ProofKit
import Derived.OpenShut
import Derived.ShutString
import Derived.ChangeOld
import Derived.Below
set_option linter.unusedVariables false
set_option linter.unusedSimpArgs false
section
namespace Go.Proofs.YtajlknlnmmbfcaaGreat
open Go Go.Ab Go.Dk
noncomputable def bg (n c : Nat) (v0 : Int) (v1 : List T) (v2 v3 v4 v5 v6 : Int) (v7 : List T) (v8 : Bool) (v9 v10 : Int) (v11 : List T) (v12 v13 : Int) (v14 : List T) (v15 v16 : Int) (v17 : List T) : OR := aR Tryz.prog SS n 109 3 [1, 1, 1, 0, 1, 0] [] c ⟨[aa, .v (.one (.int .i64 v0)), .v (.one (.fn 120 [0, 1, 2])), .v (.one (.ptr 3 0)), aa, aa, .v (.one (.ptr 4 0)), .v (.one (.ptr 6 0)), aa, aa, aa, aa, aa, aa, aa, aa, aa, aa, aa, aa, aa, aa, aa, aa, .v (.one (.fr (.ts v1))), .v (.one (.int .i64 v2)), .v (.one (.int .i64 v3)), aa, aa, aa, aa, aa, aa, aa, aa, aa, aa, aa, aa, aa, aa, aa, aa, aa, aa, aa, aa],
 [.cells [.int .i64 v4], .cells [.int .i64 v5, .int .i64 v6, .fr (.ts v7)], .cells [.bool v8], .cells [.int .i64 v9, .int .i64 v10, .fr (.ts v11)], .cells [.int .i64 v12, .int .i64 v13, .own 5 0], .arr 25 (.ts v14) 0 false, .cells [.int .i64 v15, .int .i64 v16, .own 7 0], .arr 25 (.ts v17) 0 false]⟩
theorem bW (n c : Nat) (v0 : Int) (v1 : List T) (v2 v3 v4 v5 v6 : Int) (v7 : List T) (v8 : Bool) (v9 v10 : Int) (v11 : List T) (v12 v13 : Int) (v14 : List T) (v15 v16 : Int) (v17 : List T) : bg n (c + 1) v0 v1 v2 v3 v4 v5 v6 v7 v8 v9 v10 v11 v12 v13 v14 v15 v16 v17 =
 (cond (decide (v3 < v2))
 (cond (decide (0 ≤ v3))
 (v1[(v3 : Int).toNat]?.bind fun x0 =>
 ((FF n 121 [.one (.int .i64 v9), .one (.int .i64 v3)] []).bind fun x1 =>
 (aw .i64 x1.1 fun x2 x3 =>
 (ai x3 (aj x1.2
 ((FF n 109 [.agg [.int .i64 x0.k, .int .i64 x0.n, .fr (.ts x0.kids)], .one (.int .i64 (IntKind.i64.wrap (v0 + x2))), .one (.fn 120 [0, 1, 2])] [.cells [.int .i64 v4], .cells [.int .i64 v5, .int .i64 v6, .fr (.ts v7)], .cells [.bool v8]]).bind fun x4 =>
 (ba x4.2 fun x5 x6 =>
 (bj .i64 x5 fun x7 x8 =>
 (bh x8
 (ba x6 fun x9 x10 =>
 (bj .i64 x9 fun x11 x12 =>
 (bj .i64 x12 fun x13 x14 =>
 (tsC x14 fun x15 x16 =>
 (bh x16
 (ba x10 fun x17 x18 =>
 (oq x17 fun x19 x20 =>
 (bh x20
 (ah x4.1 fun x21 x22 =>
 (ai x22 (aj x18
 (cond (cn (v17 ++ [(T.mk x21.k x21.n x21.kids)]).length)
 (bg n c v0 v1 v2 (IntKind.i64.wrap (v3 + 1)) x7 x11 x13 x15 x19 v9 v10 v11 v12 v13 v14 v15 v16 (v17 ++ [(T.mk x21.k x21.n x21.kids)]))
 none)))))))))))))))))))))
 none)
 (some ([.agg [.int .i64 v15, .int .i64 v16, .fr (.ts v17)]], [.cells [.int .i64 v4], .cells [.int .i64 v5, .int .i64 v6, .fr (.ts v7)], .cells [.bool v8]]))) := by kernel_rfl
theorem gy (n : Nat) (v0 v1 : Int) (v2 : List T) (v3 v4 v5 v6 : Int) (v7 : List T) (v8 : Bool) : FF (n + 1) 109 [.agg [.int .i64 v0, .int .i64 v1, .fr (.ts v2)], .one (.int .i64 v3), .one (.fn 120 [0, 1, 2])] [.cells [.int .i64 v4], .cells [.int .i64 v5, .int .i64 v6, .fr (.ts v7)], .cells [.bool v8]] =
 (cond (decide (v0 = 1))
 ((FF n 120 [.one (.int .i64 v1), .one (.int .i64 v3), .one (.ptr 0 0), .one (.ptr 1 0), .one (.ptr 2 0)] [.cells [.int .i64 v4], .cells [.int .i64 v5, .int .i64 v6, .fr (.ts v7)], .cells [.bool v8]]).bind fun x0 =>
 (ba x0.2 fun x1 x2 =>
 (bj .i64 x1 fun x3 x4 =>
 (bh x4
 (ba x2 fun x5 x6 =>
 (bj .i64 x5 fun x7 x8 =>
 (bj .i64 x8 fun x9 x10 =>
 (tsC x10 fun x11 x12 =>
 (bh x12
 (ba x6 fun x13 x14 =>
 (oq x13 fun x15 x16 =>
 (bh x16
 (ah x0.1 fun x17 x18 =>
 (ai x18 (aj x14
 (some ([.agg [.int .i64 x17.k, .int .i64 x17.n, .fr (.ts x17.kids)]], [.cells [.int .i64 x3], .cells [.int .i64 x7, .int .i64 x9, .fr (.ts x11)], .cells [.bool x15]])))))))))))))))))
 (bg n n v3 v2 ((v2.length : Int) : Int) 0 v4 v5 v6 v7 v8 v0 v1 v2 0 0 ([]) v0 v1 ([]))) := by kernel_rfl
theorem kX (n : Nat) (v0 v1 : Int) (v2 : List T) (v3 : Bool) : FF (n + 1) 123 [.agg [.int .i64 v0, .int .i64 v1, .fr (.ts v2)], .one (.bool v3)] [] =
 (cond (!v3)
 (some ([.agg [.int .i64 0, .int .i64 0, .fr (.ts [])], .one (.int .i64 2)], []))
 ((FF n 59 [.agg [.int .i64 v0, .int .i64 v1, .fr (.ts v2)]] []).bind fun x0 =>
 (ar x0.1 fun x1 x2 =>
 (ai x2 (aj x0.2
 (cond (!x1)
 (some ([.agg [.int .i64 0, .int .i64 0, .fr (.ts [])], .one (.int .i64 2)], []))
 (some ([.agg [.int .i64 v0, .int .i64 v1, .fr (.ts v2)], .one (.int .i64 0)], [])))))))) := by kernel_rfl
theorem yF (n : Nat) (v0 : Int) : FF (n + 1) 124 [.one (.int .i64 v0)] [] =
 some ([.agg [.int .i64 2, .int .i64 v0, .fr (.ts [])]], []) := by kernel_rfl
theorem pL (n : Nat) (v0 : Int) : FF (n + 1) 70 [.one (.int .i64 v0), .one (.emp none)] [] =
 some ([.agg [.int .i64 v0, .int .i64 0, .fr (.ts [])]], []) := by kernel_rfl
theorem ff (n : Nat) (v0 : List T) (v1 v2 : Int) (v3 : List T) (v4 v5 v6 : Int) (v7 v8 : List T) (v9 v10 : Int) (v11 : List T) : FF (n + 1) 125 [.agg [.fr (.ts v0), .int .i64 v1, .int .i64 v2, .fr (.ts v3), .fn 98 [0, 1]], .one (.int .i64 v4), .agg [.int .i64 v5, .int .i64 v6, .fr (.ts v7)]] [.cells [.fr (.ts v8)], .cells [.int .i64 v9, .int .i64 v10, .fr (.ts v11)]] =
 ((FF n 98 [.one (.int .i64 v4), .one (.ptr 0 0), .one (.ptr 1 0)] [.cells [.fr (.ts v8)], .cells [.int .i64 v9, .int .i64 v10, .fr (.ts v11)]]).bind fun x0 =>
 (ba x0.2 fun x1 x2 =>
 (tsC x1 fun x3 x4 =>
 (bh x4
 (ba x2 fun x5 x6 =>
 (bj .i64 x5 fun x7 x8 =>
 (bj .i64 x8 fun x9 x10 =>
 (tsC x10 fun x11 x12 =>
 (bh x12
 (ah x0.1 fun x13 x14 =>
 (aw .i64 x14 fun x15 x16 =>
 (ai x16 (aj x6
 (cond (!decide (x15 = 0))
 (some ([.one (.int .i64 x15)], [.cells [.fr (.ts x3)], .cells [.int .i64 x7, .int .i64 x9, .fr (.ts x11)]]))
 ((FF n 96 [.agg [.int .i64 x13.k, .int .i64 x13.n, .fr (.ts x13.kids)], .agg [.int .i64 v5, .int .i64 v6, .fr (.ts v7)]] []).bind fun x17 =>
 (aw .i64 x17.1 fun x18 x19 =>
 (ai x19 (aj x17.2
 (some ([.one (.int .i64 x18)], [.cells [.fr (.ts x3)], .cells [.int .i64 x7, .int .i64 x9, .fr (.ts x11)]])))))))))))))))))))) := by kernel_rfl
theorem fo (n : Nat) (v0 : List T) (v1 v2 : Int) (v3 v4 : List T) (v5 v6 : Int) (v7 : List T) : FF (n + 1) 126 [.agg [.fr (.ts v0), .int .i64 v1, .int .i64 v2, .fr (.ts v3), .fn 98 [0, 1]]] [.cells [.fr (.ts v4)], .cells [.int .i64 v5, .int .i64 v6, .fr (.ts v7)]] =
 ((FF n 161 [.agg [.fr (.ts v0), .int .i64 v1, .int .i64 v2, .fr (.ts v3), .fn 98 [0, 1]], .one (.int .i64 0)] [.cells [.fr (.ts v4)], .cells [.int .i64 v5, .int .i64 v6, .fr (.ts v7)]]).bind fun x0 =>
 (ba x0.2 fun x1 x2 =>
 (tsC x1 fun x3 x4 =>
 (bh x4
 (ba x2 fun x5 x6 =>
 (bj .i64 x5 fun x7 x8 =>
 (bj .i64 x8 fun x9 x10 =>
 (tsC x10 fun x11 x12 =>
 (bh x12
 (aw .i64 x0.1 fun x13 x14 =>
 (aw .i64 x14 fun x15 x16 =>
 (ai x16 (aj x6
 (cond (!decide (x15 = 0))
 (some ([.agg [.int .i64 0, .int .i64 0, .fr (.ts [])], .one (.int .i64 x15)], [.cells [.fr (.ts x3)], .cells [.int .i64 x7, .int .i64 x9, .fr (.ts x11)]]))
 ((FF n 161 [.agg [.fr (.ts v0), .int .i64 v1, .int .i64 v2, .fr (.ts v3), .fn 98 [0, 1]], .one (.int .i64 1)] [.cells [.fr (.ts x3)], .cells [.int .i64 x7, .int .i64 x9, .fr (.ts x11)]]).bind fun x17 =>
 (ba x17.2 fun x18 x19 =>
 (tsC x18 fun x20 x21 =>
 (bh x21
 (ba x19 fun x22 x23 =>
 (bj .i64 x22 fun x24 x25 =>
 (bj .i64 x25 fun x26 x27 =>
 (tsC x27 fun x28 x29 =>
 (bh x29
 (aw .i64 x17.1 fun x30 x31 =>
 (aw .i64 x31 fun x32 x33 =>
 (ai x33 (aj x23
 (cond (!decide (x32 = 0))
 (some ([.agg [.int .i64 0, .int .i64 0, .fr (.ts [])], .one (.int .i64 x32)], [.cells [.fr (.ts x20)], .cells [.int .i64 x24, .int .i64 x26, .fr (.ts x28)]]))
 ((FF n 124 [.one (.int .i64 (max x13 x30))] []).bind fun x34 =>
 (ah x34.1 fun x35 x36 =>
 (ai x36 (aj x34.2
 (some ([.agg [.int .i64 x35.k, .int .i64 x35.n, .fr (.ts x35.kids)], .one (.int .i64 0)], [.cells [.fr (.ts x20)], .cells [.int .i64 x24, .int .i64 x26, .fr (.ts x28)]])))))))))))))))))))))))))))))))))) := by kernel_rfl
theorem eg (n : Nat) (v0 : List T) (v1 v2 : Int) (v3 v4 : List T) (v5 v6 : Int) (v7 : List T) : FF (n + 1) 127 [.agg [.fr (.ts v0), .int .i64 v1, .int .i64 v2, .fr (.ts v3), .fn 98 [0, 1]]] [.cells [.fr (.ts v4)], .cells [.int .i64 v5, .int .i64 v6, .fr (.ts v7)]] =
 ((FF n 161 [.agg [.fr (.ts v0), .int .i64 v1, .int .i64 v2, .fr (.ts v3), .fn 98 [0, 1]], .one (.int .i64 0)] [.cells [.fr (.ts v4)], .cells [.int .i64 v5, .int .i64 v6, .fr (.ts v7)]]).bind fun x0 =>
 (ba x0.2 fun x1 x2 =>
 (tsC x1 fun x3 x4 =>
 (bh x4
 (ba x2 fun x5 x6 =>
 (bj .i64 x5 fun x7 x8 =>
 (bj .i64 x8 fun x9 x10 =>
 (tsC x10 fun x11 x12 =>
 (bh x12
 (aw .i64 x0.1 fun x13 x14 =>
 (aw .i64 x14 fun x15 x16 =>
 (ai x16 (aj x6
 (cond (!decide (x15 = 0))
 (some ([.agg [.int .i64 0, .int .i64 0, .fr (.ts [])], .one (.int .i64 x15)], [.cells [.fr (.ts x3)], .cells [.int .i64 x7, .int .i64 x9, .fr (.ts x11)]]))
 ((FF n 98 [.one (.int .i64 1), .one (.ptr 0 0), .one (.ptr 1 0)] [.cells [.fr (.ts x3)], .cells [.int .i64 x7, .int .i64 x9, .fr (.ts x11)]]).bind fun x17 =>
 (ba x17.2 fun x18 x19 =>
 (tsC x18 fun x20 x21 =>
 (bh x21
 (ba x19 fun x22 x23 =>
 (bj .i64 x22 fun x24 x25 =>
 (bj .i64 x25 fun x26 x27 =>
 (tsC x27 fun x28 x29 =>
 (bh x29
 (ah x17.1 fun x30 x31 =>
 (aw .i64 x31 fun x32 x33 =>
 (ai x33 (aj x23
 (cond (!decide (x32 = 0))
 (some ([.agg [.int .i64 0, .int .i64 0, .fr (.ts [])], .one (.int .i64 x32)], [.cells [.fr (.ts x20)], .cells [.int .i64 x24, .int .i64 x26, .fr (.ts x28)]]))
 (v3[(0 : Int).toNat]?.bind fun x34 =>
 ((FF n 70 [.one (.int .i64 3), .one (.fr (.ts [(T.mk x34.k x34.n x34.kids), (T.mk x30.k x30.n x30.kids)]))] []).bind fun x35 =>
 (ah x35.1 fun x36 x37 =>
 (ai x37 (aj x35.2
 ((FF n 123 [.agg [.int .i64 x36.k, .int .i64 x36.n, .fr (.ts x36.kids)], .one (.bool true)] []).bind fun x38 =>
 (ah x38.1 fun x39 x40 =>
 (aw .i64 x40 fun x41 x42 =>
 (ai x42 (aj x38.2
 (cond (!decide (x41 = 0))
 (some ([.agg [.int .i64 0, .int .i64 0, .fr (.ts [])], .one (.int .i64 x41)], [.cells [.fr (.ts x20)], .cells [.int .i64 x24, .int .i64 x26, .fr (.ts x28)]]))
 ((FF n 57 [.one (.fr (.ts v0)), .agg [.int .i64 x39.k, .int .i64 x39.n, .fr (.ts x39.kids)]] []).bind fun x43 =>
 (ah x43.1 fun x44 x45 =>
 (aw .i64 x45 fun x46 x47 =>
 (ai x47 (aj x43.2
 (cond (!decide (x46 = 0))
 (some ([.agg [.int .i64 0, .int .i64 0, .fr (.ts [])], .one (.int .i64 x46)], [.cells [.fr (.ts x20)], .cells [.int .i64 x24, .int .i64 x26, .fr (.ts x28)]]))
 (some ([.agg [.int .i64 x39.k, .int .i64 x39.n, .fr (.ts x39.kids)], .one (.int .i64 0)], [.cells [.fr (.ts x20)], .cells [.int .i64 x24, .int .i64 x26, .fr (.ts x28)]]))))))))))))))))))))))))))))))))))))))))))))))) := by kernel_rfl
theorem fH (n : Nat) (v0 : List T) (v1 v2 : Int) (v3 : List T) (v4 v5 : Int) (v6 : List T) (v7 v8 : Int) (v9 : List T) : FF (n + 1) 128 [.agg [.fr (.ts v0), .int .i64 v1, .int .i64 v2, .fr (.ts v3), .fn 98 [0, 1]], .one (.int .i64 v4), .one (.int .i64 v5)] [.cells [.fr (.ts v6)], .cells [.int .i64 v7, .int .i64 v8, .fr (.ts v9)]] =
 ((FF n 98 [.one (.int .i64 v4), .one (.ptr 0 0), .one (.ptr 1 0)] [.cells [.fr (.ts v6)], .cells [.int .i64 v7, .int .i64 v8, .fr (.ts v9)]]).bind fun x0 =>
 (ba x0.2 fun x1 x2 =>
 (tsC x1 fun x3 x4 =>
 (bh x4
 (ba x2 fun x5 x6 =>
 (bj .i64 x5 fun x7 x8 =>
 (bj .i64 x8 fun x9 x10 =>
 (tsC x10 fun x11 x12 =>
 (bh x12
 (ah x0.1 fun x13 x14 =>
 (aw .i64 x14 fun x15 x16 =>
 (ai x16 (aj x6
 (cond (!decide (x15 = 0))
 (some ([.agg [.int .i64 0, .int .i64 0, .fr (.ts [])], .one (.int .i64 x15)], [.cells [.fr (.ts x3)], .cells [.int .i64 x7, .int .i64 x9, .fr (.ts x11)]]))
 ((FF n 119 [.agg [.int .i64 x13.k, .int .i64 x13.n, .fr (.ts x13.kids)], .one (.int .i64 v5)] []).bind fun x17 =>
 (ah x17.1 fun x18 x19 =>
 (aw .i64 x19 fun x20 x21 =>
 (ai x21 (aj x17.2
 (some ([.agg [.int .i64 x18.k, .int .i64 x18.n, .fr (.ts x18.kids)], .one (.int .i64 x20)], [.cells [.fr (.ts x3)], .cells [.int .i64 x7, .int .i64 x9, .fr (.ts x11)]]))))))))))))))))))))) := by kernel_rfl
theorem lY (n : Nat) (v0 v1 : Int) (v2 : List T) : FF (n + 1) 130 [.agg [.int .i64 v0, .int .i64 v1, .fr (.ts v2)]] [] =
 (cond (decide ((v2.length : Int) = 0))
 (some ([.agg [.int .i64 0, .int .i64 0, .fr (.ts [])]], []))
 (v2[(0 : Int).toNat]?.bind fun x0 =>
 some ([.agg [.int .i64 x0.k, .int .i64 x0.n, .fr (.ts x0.kids)]], []))) := by kernel_rfl
theorem cT (n : Nat) (v0 : List T) (v1 v2 : Int) (v3 : List T) (v4 v5 v6 : Int) (v7 : List T) (v8 : Int) (v9 : List T) (v10 v11 : Int) (v12 : List T) : FF (n + 1) 129 [.agg [.fr (.ts v0), .int .i64 v1, .int .i64 v2, .fr (.ts v3), .fn 98 [0, 1]], .one (.int .i64 v4), .agg [.int .i64 v5, .int .i64 v6, .fr (.ts v7)], .one (.int .i64 v8)] [.cells [.fr (.ts v9)], .cells [.int .i64 v10, .int .i64 v11, .fr (.ts v12)]] =
 (cond (!decide (v8 = 0))
 (some ([.one (.int .i64 v8)], [.cells [.fr (.ts v9)], .cells [.int .i64 v10, .int .i64 v11, .fr (.ts v12)]]))
 ((FF n 125 [.agg [.fr (.ts v0), .int .i64 v1, .int .i64 v2, .fr (.ts v3), .fn 98 [0, 1]], .one (.int .i64 v4), .agg [.int .i64 v5, .int .i64 v6, .fr (.ts v7)]] [.cells [.fr (.ts v9)], .cells [.int .i64 v10, .int .i64 v11, .fr (.ts v12)]]).bind fun x0 =>
 (ba x0.2 fun x1 x2 =>
 (tsC x1 fun x3 x4 =>
 (bh x4
 (ba x2 fun x5 x6 =>
 (bj .i64 x5 fun x7 x8 =>
 (bj .i64 x8 fun x9 x10 =>
 (tsC x10 fun x11 x12 =>
 (bh x12
 (aw .i64 x0.1 fun x13 x14 =>
 (ai x14 (aj x6
 (some ([.one (.int .i64 x13)], [.cells [.fr (.ts x3)], .cells [.int .i64 x7, .int .i64 x9, .fr (.ts x11)]]))))))))))))))) := by kernel_rfl
theorem dR (n : Nat) (v0 : List T) (v1 v2 : Int) (v3 v4 : List T) (v5 v6 : Int) (v7 : List T) : FF (n + 1) 131 [.agg [.fr (.ts v0), .int .i64 v1, .int .i64 v2, .fr (.ts v3), .fn 98 [0, 1]]] [.cells [.fr (.ts v4)], .cells [.int .i64 v5, .int .i64 v6, .fr (.ts v7)]] =
 (v3[(0 : Int).toNat]?.bind fun x0 =>
 ((FF n 70 [.one (.int .i64 6), .one (.emp none)] []).bind fun x1 =>
 (ah x1.1 fun x2 x3 =>
 (ai x3 (aj x1.2
 ((FF n 162 [.agg [.fr (.ts v0), .int .i64 v1, .int .i64 v2, .fr (.ts v3), .fn 98 [0, 1]], .one (.int .i64 0), .agg [.int .i64 x2.k, .int .i64 x2.n, .fr (.ts x2.kids)]] [.cells [.fr (.ts v4)], .cells [.int .i64 v5, .int .i64 v6, .fr (.ts v7)]]).bind fun x4 =>
 (ba x4.2 fun x5 x6 =>
 (tsC x5 fun x7 x8 =>
 (bh x8
 (ba x6 fun x9 x10 =>
 (bj .i64 x9 fun x11 x12 =>
 (bj .i64 x12 fun x13 x14 =>
 (tsC x14 fun x15 x16 =>
 (bh x16
 (aw .i64 x4.1 fun x17 x18 =>
 (ai x18 (aj x10
 (cond (!decide (x17 = 0))
 (some ([.agg [.int .i64 0, .int .i64 0, .fr (.ts [])], .one (.int .i64 x17)], [.cells [.fr (.ts x7)], .cells [.int .i64 x11, .int .i64 x13, .fr (.ts x15)]]))
 ((FF n 70 [.one (.int .i64 7), .one (.emp none)] []).bind fun x19 =>
 (ah x19.1 fun x20 x21 =>
 (ai x21 (aj x19.2
 ((FF n 70 [.one (.int .i64 5), .one (.fr (.ts [(T.mk x0.k x0.n x0.kids), (T.mk x20.k x20.n x20.kids)]))] []).bind fun x22 =>
 (ah x22.1 fun x23 x24 =>
 (ai x24 (aj x22.2
 ((FF n 123 [.agg [.int .i64 x23.k, .int .i64 x23.n, .fr (.ts x23.kids)], .one (.bool true)] []).bind fun x25 =>
 (ah x25.1 fun x26 x27 =>
 (aw .i64 x27 fun x28 x29 =>
 (ai x29 (aj x25.2
 ((FF n 129 [.agg [.fr (.ts v0), .int .i64 v1, .int .i64 v2, .fr (.ts v3), .fn 98 [0, 1]], .one (.int .i64 1), .agg [.int .i64 x26.k, .int .i64 x26.n, .fr (.ts x26.kids)], .one (.int .i64 x28)] [.cells [.fr (.ts x7)], .cells [.int .i64 x11, .int .i64 x13, .fr (.ts x15)]]).bind fun x30 =>
 (ba x30.2 fun x31 x32 =>
 (tsC x31 fun x33 x34 =>
 (bh x34
 (ba x32 fun x35 x36 =>
 (bj .i64 x35 fun x37 x38 =>
 (bj .i64 x38 fun x39 x40 =>
 (tsC x40 fun x41 x42 =>
 (bh x42
 (aw .i64 x30.1 fun x43 x44 =>
 (ai x44 (aj x36
 (cond (!decide (x43 = 0))
 (some ([.agg [.int .i64 0, .int .i64 0, .fr (.ts [])], .one (.int .i64 x43)], [.cells [.fr (.ts x33)], .cells [.int .i64 x37, .int .i64 x39, .fr (.ts x41)]]))
 ((FF n 163 [.agg [.int .i64 x0.k, .int .i64 x0.n, .fr (.ts x0.kids)]] []).bind fun x45 =>
 (ah x45.1 fun x46 x47 =>
 (aw .i64 x47 fun x48 x49 =>
 (ai x49 (aj x45.2
 ((FF n 129 [.agg [.fr (.ts v0), .int .i64 v1, .int .i64 v2, .fr (.ts v3), .fn 98 [0, 1]], .one (.int .i64 2), .agg [.int .i64 x46.k, .int .i64 x46.n, .fr (.ts x46.kids)], .one (.int .i64 x48)] [.cells [.fr (.ts x33)], .cells [.int .i64 x37, .int .i64 x39, .fr (.ts x41)]]).bind fun x50 =>
 (ba x50.2 fun x51 x52 =>
 (tsC x51 fun x53 x54 =>
 (bh x54
 (ba x52 fun x55 x56 =>
 (bj .i64 x55 fun x57 x58 =>
 (bj .i64 x58 fun x59 x60 =>
 (tsC x60 fun x61 x62 =>
 (bh x62
 (aw .i64 x50.1 fun x63 x64 =>
 (ai x64 (aj x56
 (cond (!decide (x63 = 0))
 (some ([.agg [.int .i64 0, .int .i64 0, .fr (.ts [])], .one (.int .i64 x63)], [.cells [.fr (.ts x53)], .cells [.int .i64 x57, .int .i64 x59, .fr (.ts x61)]]))
 ((FF n 70 [.one (.int .i64 6), .one (.emp none)] []).bind fun x65 =>
 (ah x65.1 fun x66 x67 =>
 (ai x67 (aj x65.2
 ((FF n 125 [.agg [.fr (.ts v0), .int .i64 v1, .int .i64 v2, .fr (.ts v3), .fn 98 [0, 1]], .one (.int .i64 3), .agg [.int .i64 x66.k, .int .i64 x66.n, .fr (.ts x66.kids)]] [.cells [.fr (.ts x53)], .cells [.int .i64 x57, .int .i64 x59, .fr (.ts x61)]]).bind fun x68 =>
 (ba x68.2 fun x69 x70 =>
 (tsC x69 fun x71 x72 =>
 (bh x72
 (ba x70 fun x73 x74 =>
 (bj .i64 x73 fun x75 x76 =>
 (bj .i64 x76 fun x77 x78 =>
 (tsC x78 fun x79 x80 =>
 (bh x80
 (aw .i64 x68.1 fun x81 x82 =>
 (ai x82 (aj x74
 (cond (!decide (x81 = 0))
 (some ([.agg [.int .i64 0, .int .i64 0, .fr (.ts [])], .one (.int .i64 x81)], [.cells [.fr (.ts x71)], .cells [.int .i64 x75, .int .i64 x77, .fr (.ts x79)]]))
 (v3[(3 : Int).toNat]?.bind fun x83 =>
 ((FF n 70 [.one (.int .i64 5), .one (.fr (.ts [(T.mk x0.k x0.n x0.kids), (T.mk x83.k x83.n x83.kids)]))] []).bind fun x84 =>
 (ah x84.1 fun x85 x86 =>
 (ai x86 (aj x84.2
 ((FF n 123 [.agg [.int .i64 x85.k, .int .i64 x85.n, .fr (.ts x85.kids)], .one (.bool true)] []).bind fun x87 =>
 (ah x87.1 fun x88 x89 =>
 (aw .i64 x89 fun x90 x91 =>
 (ai x91 (aj x87.2
 (some ([.agg [.int .i64 x88.k, .int .i64 x88.n, .fr (.ts x88.kids)], .one (.int .i64 x90)], [.cells [.fr (.ts x71)], .cells [.int .i64 x75, .int .i64 x77, .fr (.ts x79)]]))))))))))))))))))))))))))))))))))))))))))))))))))))))))))))))))))))))))))))))))))))))))))) := by kernel_rfl
noncomputable def aC (n c : Nat) (v0 v1 v2 : Int) (v3 : List T) (v4 v5 : Int) (v6 v7 : List T) (v8 v9 : Int) (v10 : List T) (v11 v12 : Int) (v13 : List T) : OR := aR Tryz.prog SS n 132 2 [1, 1, 0, 1, 0] [] c ⟨[aa, .v (.one (.ptr 2 0)), .v (.one (.ptr 3 0)), aa, .v (.one (.int .i64 v0)), .v (.one (.int .i64 v1)), .v (.one (.int .i64 v2)), aa, aa, aa, aa, aa, aa, aa, aa, aa, aa, aa, aa, aa, aa, aa, aa, aa, aa, aa, aa, aa, aa, aa, aa, aa, aa, aa],
 [.cells [.fr (.ts v3)], .cells [.int .i64 v4, .int .i64 v5, .fr (.ts v6)], .cells [.fr (.ts v7), .int .i64 v8, .int .i64 v9, .fr (.ts v10), .fn 98 [0, 1]], .cells [.int .i64 v11, .int .i64 v12, .own 4 0], .arr 25 (.ts v13) 0 false]⟩
theorem aJ (n c : Nat) (v0 v1 v2 : Int) (v3 : List T) (v4 v5 : Int) (v6 v7 : List T) (v8 v9 : Int) (v10 : List T) (v11 v12 : Int) (v13 : List T) : aC n (c + 1) v0 v1 v2 v3 v4 v5 v6 v7 v8 v9 v10 v11 v12 v13 =
 (cond (decide (v2 ≤ 2))
 (cond (decide (v1 = 0))
 (v10[(0 : Int).toNat]?.bind fun x0 =>
 ((FF n 125 [.agg [.fr (.ts v7), .int .i64 v8, .int .i64 v9, .fr (.ts v10), .fn 98 [0, 1]], .one (.int .i64 v2), .agg [.int .i64 x0.k, .int .i64 x0.n, .fr (.ts x0.kids)]] [.cells [.fr (.ts v3)], .cells [.int .i64 v4, .int .i64 v5, .fr (.ts v6)]]).bind fun x1 =>
 (ba x1.2 fun x2 x3 =>
 (tsC x2 fun x4 x5 =>
 (bh x5
 (ba x3 fun x6 x7 =>
 (bj .i64 x6 fun x8 x9 =>
 (bj .i64 x9 fun x10 x11 =>
 (tsC x11 fun x12 x13 =>
 (bh x13
 (aw .i64 x1.1 fun x14 x15 =>
 (ai x15 (aj x7
 (aC n c v0 x14 (IntKind.i64.wrap (v2 + 1)) x4 x8 x10 x12 v7 v8 v9 v10 v11 v12 v13))))))))))))))
 (cond (!decide (v1 = 0))
 (some ([.agg [.int .i64 0, .int .i64 0, .fr (.ts [])], .one (.int .i64 v1)], [.cells [.fr (.ts v3)], .cells [.int .i64 v4, .int .i64 v5, .fr (.ts v6)]]))
 ((FF n 124 [.one (.int .i64 v0)] []).bind fun x0 =>
 (ah x0.1 fun x1 x2 =>
 (ai x2 (aj x0.2
 (some ([.agg [.int .i64 x1.k, .int .i64 x1.n, .fr (.ts x1.kids)], .one (.int .i64 0)], [.cells [.fr (.ts v3)], .cells [.int .i64 v4, .int .i64 v5, .fr (.ts v6)]]))))))))
 (cond (!decide (v1 = 0))
 (some ([.agg [.int .i64 0, .int .i64 0, .fr (.ts [])], .one (.int .i64 v1)], [.cells [.fr (.ts v3)], .cells [.int .i64 v4, .int .i64 v5, .fr (.ts v6)]]))
 ((FF n 124 [.one (.int .i64 v0)] []).bind fun x0 =>
 (ah x0.1 fun x1 x2 =>
 (ai x2 (aj x0.2
 (some ([.agg [.int .i64 x1.k, .int .i64 x1.n, .fr (.ts x1.kids)], .one (.int .i64 0)], [.cells [.fr (.ts v3)], .cells [.int .i64 v4, .int .i64 v5, .fr (.ts v6)]])))))))) := by kernel_rfl
theorem ec (n : Nat) (v0 : List T) (v1 v2 : Int) (v3 v4 : List T) (v5 v6 : Int) (v7 : List T) : FF (n + 1) 132 [.agg [.fr (.ts v0), .int .i64 v1, .int .i64 v2, .fr (.ts v3), .fn 98 [0, 1]]] [.cells [.fr (.ts v4)], .cells [.int .i64 v5, .int .i64 v6, .fr (.ts v7)]] =
 ((FF n 161 [.agg [.fr (.ts v0), .int .i64 v1, .int .i64 v2, .fr (.ts v3), .fn 98 [0, 1]], .one (.int .i64 0)] [.cells [.fr (.ts v4)], .cells [.int .i64 v5, .int .i64 v6, .fr (.ts v7)]]).bind fun x0 =>
 (ba x0.2 fun x1 x2 =>
 (tsC x1 fun x3 x4 =>
 (bh x4
 (ba x2 fun x5 x6 =>
 (bj .i64 x5 fun x7 x8 =>
 (bj .i64 x8 fun x9 x10 =>
 (tsC x10 fun x11 x12 =>
 (bh x12
 (aw .i64 x0.1 fun x13 x14 =>
 (aw .i64 x14 fun x15 x16 =>
 (ai x16 (aj x6
 (aC n n x13 x15 1 x3 x7 x9 x11 v0 v1 v2 v3 0 0 ([]))))))))))))))) := by kernel_rfl
theorem kB (n : Nat) (v0 : Int) (v1 : List T) (v2 v3 : Int) (v4 : List T) : FF (n + 1) 98 [.one (.int .i64 v0), .one (.ptr 0 0), .one (.ptr 1 0)] [.cells [.fr (.ts v1)], .cells [.int .i64 v2, .int .i64 v3, .fr (.ts v4)]] =
 ((FF n 99 [.one (.fr (.ts v1)), .agg [.int .i64 v2, .int .i64 v3, .fr (.ts v4)], .one (.int .i64 v0)] []).bind fun x0 =>
 (rTs x0.1 fun x1 x2 =>
 (aw .i64 x2 fun x3 x4 =>
 (ai x4 (aj x0.2
 (cond (!decide (x3 = 0))
 (some ([.agg [.int .i64 0, .int .i64 0, .fr (.ts [])], .one (.int .i64 x3)], [.cells [.fr (.ts v1)], .cells [.int .i64 v2, .int .i64 v3, .fr (.ts v4)]]))
 (cond (decide (0 ≤ v0))
 (v4[(v0 : Int).toNat]?.bind fun x5 =>
 ((FF n 57 [.one (.fr (.ts x1)), .agg [.int .i64 x5.k, .int .i64 x5.n, .fr (.ts x5.kids)]] []).bind fun x6 =>
 (ah x6.1 fun x7 x8 =>
 (aw .i64 x8 fun x9 x10 =>
 (ai x10 (aj x6.2
 (some ([.agg [.int .i64 x7.k, .int .i64 x7.n, .fr (.ts x7.kids)], .one (.int .i64 x9)], [.cells [.fr (.ts v1)], .cells [.int .i64 v2, .int .i64 v3, .fr (.ts v4)]]))))))))
 none))))))) := by kernel_rfl
theorem fg (n : Nat) (v0 : List T) (v1 v2 : Int) (v3 v4 : List T) (v5 v6 : Int) (v7 : List T) : FF (n + 1) 133 [.agg [.fr (.ts v0), .int .i64 v1, .int .i64 v2, .fr (.ts v3), .fn 98 [0, 1]]] [.cells [.fr (.ts v4)], .cells [.int .i64 v5, .int .i64 v6, .fr (.ts v7)]] =
 ((FF n 128 [.agg [.fr (.ts v0), .int .i64 v1, .int .i64 v2, .fr (.ts v3), .fn 98 [0, 1]], .one (.int .i64 1), .one (.int .i64 10)] [.cells [.fr (.ts v4)], .cells [.int .i64 v5, .int .i64 v6, .fr (.ts v7)]]).bind fun x0 =>
 (ba x0.2 fun x1 x2 =>
 (tsC x1 fun x3 x4 =>
 (bh x4
 (ba x2 fun x5 x6 =>
 (bj .i64 x5 fun x7 x8 =>
 (bj .i64 x8 fun x9 x10 =>
 (tsC x10 fun x11 x12 =>
 (bh x12
 (ah x0.1 fun x13 x14 =>
 (aw .i64 x14 fun x15 x16 =>
 (ai x16 (aj x6
 (cond (!decide (x15 = 0))
 (some ([.agg [.int .i64 0, .int .i64 0, .fr (.ts [])], .one (.int .i64 x15)], [.cells [.fr (.ts x3)], .cells [.int .i64 x7, .int .i64 x9, .fr (.ts x11)]]))
 ((x13.kids)[(0 : Int).toNat]?.bind fun x17 =>
 ((FF n 162 [.agg [.fr (.ts v0), .int .i64 v1, .int .i64 v2, .fr (.ts v3), .fn 98 [0, 1]], .one (.int .i64 0), .agg [.int .i64 x17.k, .int .i64 x17.n, .fr (.ts x17.kids)]] [.cells [.fr (.ts x3)], .cells [.int .i64 x7, .int .i64 x9, .fr (.ts x11)]]).bind fun x18 =>
 (ba x18.2 fun x19 x20 =>
 (tsC x19 fun x21 x22 =>
 (bh x22
 (ba x20 fun x23 x24 =>
 (bj .i64 x23 fun x25 x26 =>
 (bj .i64 x26 fun x27 x28 =>
 (tsC x28 fun x29 x30 =>
 (bh x30
 (aw .i64 x18.1 fun x31 x32 =>
 (ai x32 (aj x24
 (cond (!decide (x31 = 0))
 (some ([.agg [.int .i64 0, .int .i64 0, .fr (.ts [])], .one (.int .i64 x31)], [.cells [.fr (.ts x21)], .cells [.int .i64 x25, .int .i64 x27, .fr (.ts x29)]]))
 (v3[(0 : Int).toNat]?.bind fun x33 =>
 ((x13.kids)[(1 : Int).toNat]?.bind fun x34 =>
 ((FF n 70 [.one (.int .i64 5), .one (.fr (.ts [(T.mk x33.k x33.n x33.kids), (T.mk x34.k x34.n x34.kids)]))] []).bind fun x35 =>
 (ah x35.1 fun x36 x37 =>
 (ai x37 (aj x35.2
 ((FF n 123 [.agg [.int .i64 x36.k, .int .i64 x36.n, .fr (.ts x36.kids)], .one (.bool true)] []).bind fun x38 =>
 (ah x38.1 fun x39 x40 =>
 (aw .i64 x40 fun x41 x42 =>
 (ai x42 (aj x38.2
 ((FF n 129 [.agg [.fr (.ts v0), .int .i64 v1, .int .i64 v2, .fr (.ts v3), .fn 98 [0, 1]], .one (.int .i64 2), .agg [.int .i64 x39.k, .int .i64 x39.n, .fr (.ts x39.kids)], .one (.int .i64 x41)] [.cells [.fr (.ts x21)], .cells [.int .i64 x25, .int .i64 x27, .fr (.ts x29)]]).bind fun x43 =>
 (ba x43.2 fun x44 x45 =>
 (tsC x44 fun x46 x47 =>
 (bh x47
 (ba x45 fun x48 x49 =>
 (bj .i64 x48 fun x50 x51 =>
 (bj .i64 x51 fun x52 x53 =>
 (tsC x53 fun x54 x55 =>
 (bh x55
 (aw .i64 x43.1 fun x56 x57 =>
 (ai x57 (aj x49
 (cond (!decide (x56 = 0))
 (some ([.agg [.int .i64 0, .int .i64 0, .fr (.ts [])], .one (.int .i64 x56)], [.cells [.fr (.ts x46)], .cells [.int .i64 x50, .int .i64 x52, .fr (.ts x54)]]))
 ((x13.kids)[(2 : Int).toNat]?.bind fun x58 =>
 ((FF n 70 [.one (.int .i64 5), .one (.fr (.ts [(T.mk x33.k x33.n x33.kids), (T.mk x58.k x58.n x58.kids)]))] []).bind fun x59 =>
 (ah x59.1 fun x60 x61 =>
 (ai x61 (aj x59.2
 ((FF n 123 [.agg [.int .i64 x60.k, .int .i64 x60.n, .fr (.ts x60.kids)], .one (.bool true)] []).bind fun x62 =>
 (ah x62.1 fun x63 x64 =>
 (aw .i64 x64 fun x65 x66 =>
 (ai x66 (aj x62.2
 (some ([.agg [.int .i64 x63.k, .int .i64 x63.n, .fr (.ts x63.kids)], .one (.int .i64 x65)], [.cells [.fr (.ts x46)], .cells [.int .i64 x50, .int .i64 x52, .fr (.ts x54)]])))))))))))))))))))))))))))))))))))))))))))))))))))))))))))))))) := by kernel_rfl
theorem eQ (n : Nat) (v0 : List T) (v1 v2 : Int) (v3 v4 : List T) (v5 v6 : Int) (v7 : List T) : FF (n + 1) 134 [.agg [.fr (.ts v0), .int .i64 v1, .int .i64 v2, .fr (.ts v3), .fn 98 [0, 1]]] [.cells [.fr (.ts v4)], .cells [.int .i64 v5, .int .i64 v6, .fr (.ts v7)]] =
 ((FF n 161 [.agg [.fr (.ts v0), .int .i64 v1, .int .i64 v2, .fr (.ts v3), .fn 98 [0, 1]], .one (.int .i64 0)] [.cells [.fr (.ts v4)], .cells [.int .i64 v5, .int .i64 v6, .fr (.ts v7)]]).bind fun x0 =>
 (ba x0.2 fun x1 x2 =>
 (tsC x1 fun x3 x4 =>
 (bh x4
 (ba x2 fun x5 x6 =>
 (bj .i64 x5 fun x7 x8 =>
 (bj .i64 x8 fun x9 x10 =>
 (tsC x10 fun x11 x12 =>
 (bh x12
 (aw .i64 x0.1 fun x13 x14 =>
 (aw .i64 x14 fun x15 x16 =>
 (ai x16 (aj x6
 (cond (!decide (x15 = 0))
 (some ([.agg [.int .i64 0, .int .i64 0, .fr (.ts [])], .one (.int .i64 x15)], [.cells [.fr (.ts x3)], .cells [.int .i64 x7, .int .i64 x9, .fr (.ts x11)]]))
 (v3[(0 : Int).toNat]?.bind fun x17 =>
 ((FF n 119 [.agg [.int .i64 x17.k, .int .i64 x17.n, .fr (.ts x17.kids)], .one (.int .i64 13)] []).bind fun x18 =>
 (ah x18.1 fun x19 x20 =>
 (aw .i64 x20 fun x21 x22 =>
 (ai x22 (aj x18.2
 ((FF n 130 [.agg [.int .i64 x19.k, .int .i64 x19.n, .fr (.ts x19.kids)]] []).bind fun x23 =>
 (ah x23.1 fun x24 x25 =>
 (ai x25 (aj x23.2
 ((FF n 129 [.agg [.fr (.ts v0), .int .i64 v1, .int .i64 v2, .fr (.ts v3), .fn 98 [0, 1]], .one (.int .i64 1), .agg [.int .i64 x24.k, .int .i64 x24.n, .fr (.ts x24.kids)], .one (.int .i64 x21)] [.cells [.fr (.ts x3)], .cells [.int .i64 x7, .int .i64 x9, .fr (.ts x11)]]).bind fun x26 =>
 (ba x26.2 fun x27 x28 =>
 (tsC x27 fun x29 x30 =>
 (bh x30
 (ba x28 fun x31 x32 =>
 (bj .i64 x31 fun x33 x34 =>
 (bj .i64 x34 fun x35 x36 =>
 (tsC x36 fun x37 x38 =>
 (bh x38
 (aw .i64 x26.1 fun x39 x40 =>
 (ai x40 (aj x32
 (cond (!decide (x39 = 0))
 (some ([.agg [.int .i64 0, .int .i64 0, .fr (.ts [])], .one (.int .i64 x39)], [.cells [.fr (.ts x29)], .cells [.int .i64 x33, .int .i64 x35, .fr (.ts x37)]]))
 ((x19.kids)[(1 : Int).toNat]?.bind fun x41 =>
 (v3[(1 : Int).toNat]?.bind fun x42 =>
 ((FF n 97 [.agg [.int .i64 x41.k, .int .i64 x41.n, .fr (.ts x41.kids)], .one (.int .i64 0), .agg [.int .i64 x42.k, .int .i64 x42.n, .fr (.ts x42.kids)]] []).bind fun x43 =>
 (ah x43.1 fun x44 x45 =>
 (ar x45 fun x46 x47 =>
 (ai x47 (aj x43.2
 ((FF n 123 [.agg [.int .i64 x44.k, .int .i64 x44.n, .fr (.ts x44.kids)], .one (.bool x46)] []).bind fun x48 =>
 (ah x48.1 fun x49 x50 =>
 (aw .i64 x50 fun x51 x52 =>
 (ai x52 (aj x48.2
 ((FF n 129 [.agg [.fr (.ts v0), .int .i64 v1, .int .i64 v2, .fr (.ts v3), .fn 98 [0, 1]], .one (.int .i64 2), .agg [.int .i64 x49.k, .int .i64 x49.n, .fr (.ts x49.kids)], .one (.int .i64 x51)] [.cells [.fr (.ts x29)], .cells [.int .i64 x33, .int .i64 x35, .fr (.ts x37)]]).bind fun x53 =>
 (ba x53.2 fun x54 x55 =>
 (tsC x54 fun x56 x57 =>
 (bh x57
 (ba x55 fun x58 x59 =>
 (bj .i64 x58 fun x60 x61 =>
 (bj .i64 x61 fun x62 x63 =>
 (tsC x63 fun x64 x65 =>
 (bh x65
 (aw .i64 x53.1 fun x66 x67 =>
 (ai x67 (aj x59
 (cond (!decide (x66 = 0))
 (some ([.agg [.int .i64 0, .int .i64 0, .fr (.ts [])], .one (.int .i64 x66)], [.cells [.fr (.ts x56)], .cells [.int .i64 x60, .int .i64 x62, .fr (.ts x64)]]))
 (v3[(0 : Int).toNat]?.bind fun x68 =>
 some ([.agg [.int .i64 x68.k, .int .i64 x68.n, .fr (.ts x68.kids)], .one (.int .i64 0)], [.cells [.fr (.ts x56)], .cells [.int .i64 x60, .int .i64 x62, .fr (.ts x64)]])))))))))))))))))))))))))))))))))))))))))))))))))))))))))))))))) := by kernel_rfl
theorem cN (n : Nat) (v0 : List T) (v1 v2 : Int) (v3 v4 : List T) (v5 v6 : Int) (v7 : List T) : FF (n + 1) 135 [.agg [.fr (.ts v0), .int .i64 v1, .int .i64 v2, .fr (.ts v3), .fn 98 [0, 1]]] [.cells [.fr (.ts v4)], .cells [.int .i64 v5, .int .i64 v6, .fr (.ts v7)]] =
 ((FF n 128 [.agg [.fr (.ts v0), .int .i64 v1, .int .i64 v2, .fr (.ts v3), .fn 98 [0, 1]], .one (.int .i64 0), .one (.int .i64 13)] [.cells [.fr (.ts v4)], .cells [.int .i64 v5, .int .i64 v6, .fr (.ts v7)]]).bind fun x0 =>
 (ba x0.2 fun x1 x2 =>
 (tsC x1 fun x3 x4 =>
 (bh x4
 (ba x2 fun x5 x6 =>
 (bj .i64 x5 fun x7 x8 =>
 (bj .i64 x8 fun x9 x10 =>
 (tsC x10 fun x11 x12 =>
 (bh x12
 (ah x0.1 fun x13 x14 =>
 (aw .i64 x14 fun x15 x16 =>
 (ai x16 (aj x6
 (cond (!decide (x15 = 0))
 (some ([.agg [.int .i64 0, .int .i64 0, .fr (.ts [])], .one (.int .i64 x15)], [.cells [.fr (.ts x3)], .cells [.int .i64 x7, .int .i64 x9, .fr (.ts x11)]]))
 (cond (decide (v1 = 15))
 ((x13.kids)[(0 : Int).toNat]?.bind fun x17 =>
 some ([.agg [.int .i64 x17.k, .int .i64 x17.n, .fr (.ts x17.kids)], .one (.int .i64 0)], [.cells [.fr (.ts x3)], .cells [.int .i64 x7, .int .i64 x9, .fr (.ts x11)]]))
 ((x13.kids)[(1 : Int).toNat]?.bind fun x17 =>
 (v3[(0 : Int).toNat]?.bind fun x18 =>
 ((FF n 70 [.one (.int .i64 15), .one (.fr (.ts [(T.mk x18.k x18.n x18.kids)]))] []).bind fun x19 =>
 (ah x19.1 fun x20 x21 =>
 (ai x21 (aj x19.2
 ((FF n 97 [.agg [.int .i64 x17.k, .int .i64 x17.n, .fr (.ts x17.kids)], .one (.int .i64 0), .agg [.int .i64 x20.k, .int .i64 x20.n, .fr (.ts x20.kids)]] []).bind fun x22 =>
 (ah x22.1 fun x23 x24 =>
 (ar x24 fun x25 x26 =>
 (ai x26 (aj x22.2
 ((FF n 123 [.agg [.int .i64 x23.k, .int .i64 x23.n, .fr (.ts x23.kids)], .one (.bool x25)] []).bind fun x27 =>
 (ah x27.1 fun x28 x29 =>
 (aw .i64 x29 fun x30 x31 =>
 (ai x31 (aj x27.2
 (some ([.agg [.int .i64 x28.k, .int .i64 x28.n, .fr (.ts x28.kids)], .one (.int .i64 x30)], [.cells [.fr (.ts x3)], .cells [.int .i64 x7, .int .i64 x9, .fr (.ts x11)]]))))))))))))))))))))))))))))))))) := by kernel_rfl
theorem p9 (n : Nat) (v0 : Int) : FF (n + 1) 136 [.one (.int .i64 v0)] [] =
 ((FF n 60 [.one (.int .i64 v0), .one (.int .i64 1), .one (.int .i64 16)] []).bind fun x0 =>
 (ar x0.1 fun x1 x2 =>
 (ai x2 (aj x0.2
 (cond (!x1)
 (some ([.one (.int .i64 (-1))], []))
 (cond (decide (0 ≤ (IntKind.i64.wrap (v0 - 1))))
 (cond (decide ((IntKind.i64.wrap (v0 - 1)) < (([0, 0, 2, 2, 2, 0, 0, 1, 4, 3, 1, 3, 2, 3, 1, 1]).length : Int)))
 (([0, 0, 2, 2, 2, 0, 0, 1, 4, 3, 1, 3, 2, 3, 1, 1])[((IntKind.i64.wrap (v0 - 1)) : Int).toNat]?.bind fun x3 =>
 some ([.one (.int .i64 x3)], []))
 none)
 none)))))) := by kernel_rfl
theorem zk (n : Nat) (v0 : Int) : FF (n + 1) 137 [.one (.int .i64 v0)] [] =
 (cond (decide (v0 = 1))
 (some ([.one (.int .i64 20)], []))
 (cond (decide (v0 = 2))
 (some ([.one (.int .i64 3)], []))
 (some ([.one (.int .i64 0)], [])))) := by kernel_rfl
theorem oi (n : Nat) (v0 v1 : Int) : FF (n + 1) 103 [.one (.int .i64 v0), .one (.ptr 0 0)] [.cells [.int .i64 v1]] =
 some ([], [.cells [.int .i64 (max v1 (IntKind.i64.wrap (v0 + 1)))]]) := by kernel_rfl
theorem xR (n : Nat) (v0 v1 : Int) : FF (n + 1) 121 [.one (.int .i64 v0), .one (.int .i64 v1)] [] =
 (cond (decide (v1 = 1))
 ((FF n 159 [.one (.int .i64 v0)] []).bind fun x0 =>
 (ar x0.1 fun x1 x2 =>
 (ai x2 (aj x0.2
 (cond x1
 (some ([.one (.int .i64 1)], []))
 (some ([.one (.int .i64 0)], [])))))))
 (some ([.one (.int .i64 0)], []))) := by kernel_rfl
theorem sX (n : Nat) (v0 : Int) : FF (n + 1) 138 [.one (.int .i64 v0)] [] =
 (cond (decide (v0 = 1))
 (some ([.one (.int .i64 0)], []))
 (cond (decide (v0 = 2))
 (some ([.one (.int .i64 0)], []))
 (cond (decide (v0 = 6))
 (some ([.one (.int .i64 0)], []))
 (cond (decide (v0 = 7))
 (some ([.one (.int .i64 0)], []))
 (cond (decide (v0 = 8))
 (some ([.one (.int .i64 1)], []))
 (cond (decide (v0 = 11))
 (some ([.one (.int .i64 1)], []))
 (cond (decide (v0 = 15))
 (some ([.one (.int .i64 1)], []))
 (cond (decide (v0 = 16))
 (some ([.one (.int .i64 1)], []))
 (cond (decide (v0 = 3))
 (some ([.one (.int .i64 2)], []))
 (cond (decide (v0 = 4))
 (some ([.one (.int .i64 2)], []))
 (cond (decide (v0 = 5))
 (some ([.one (.int .i64 2)], []))
 (cond (decide (v0 = 13))
 (some ([.one (.int .i64 2)], []))
 (cond (decide (v0 = 10))
 (some ([.one (.int .i64 3)], []))
 (cond (decide (v0 = 12))
 (some ([.one (.int .i64 3)], []))
 (cond (decide (v0 = 14))
 (some ([.one (.int .i64 3)], []))
 (cond (decide (v0 = 9))
 (some ([.one (.int .i64 4)], []))
 (some ([.one (.int .i64 (-1))], [])))))))))))))))))) := by kernel_rfl
theorem ua (n : Nat) (v0 : Int) : FF (n + 1) 139 [.one (.int .i64 v0)] [] =
 (cond (decide (v0 = 1))
 (some ([.one (.int .i64 20)], []))
 (cond (decide (v0 = 2))
 (some ([.one (.int .i64 3)], []))
 (some ([.one (.int .i64 0)], [])))) := by kernel_rfl
noncomputable def aO (n c : Nat) (v0 : List T) (v1 v2 : Int) : OR := aR Tryz.prog SS n 118 0 [1, 0, 1, 0] [] c ⟨[.v (.one (.fr (.ts v0))), .v (.one (.fn 107 [])), aa, aa, aa, aa, aa, .v (.one (.int .i64 v1)), .v (.one (.int .i64 v2)), aa, aa, aa, aa, aa, aa, aa, aa, aa, aa],
 []⟩
theorem bP (n c : Nat) (v0 : List T) (v1 v2 : Int) : aO n (c + 1) v0 v1 v2 =
 (cond (decide (v2 < v1))
 (cond (decide (0 ≤ v2))
 (v0[(v2 : Int).toNat]?.bind fun x0 =>
 ((FF n 107 [.agg [.int .i64 x0.k, .int .i64 x0.n, .fr (.ts x0.kids)]] []).bind fun x1 =>
 (ar x1.1 fun x2 x3 =>
 (ai x3 (aj x1.2
 (cond x2
 (some ([.one (.int .i64 v2)], []))
 (aO n c v0 v1 (IntKind.i64.wrap (v2 + 1)))))))))
 none)
 (some ([.one (.int .i64 (-1))], []))) := by kernel_rfl
theorem ee (n : Nat) (v0 : List T) : FF (n + 1) 118 [.one (.fr (.ts v0)), .one (.fn 107 [])] [] =
 aO n n v0 ((v0.length : Int) : Int) 0 := by kernel_rfl
noncomputable def cm (n c : Nat) (v0 v1 v2 : Int) (v3 : List T) (v4 v5 : Int) (v6 : List T) : OR := aR Tryz.prog SS n 140 0 [1, 0] [] c ⟨[aa, .v (.one (.int .i64 v0)), .v (.one (.ptr 0 0)), aa, .v (.one (.ptr 1 0)), aa, aa, aa, aa, aa, aa, aa, aa, aa, aa, aa, aa, aa, aa, aa, aa, aa, aa, aa, aa, aa, aa],
 [.cells [.int .i64 v1, .int .i64 v2, .fr (.ts v3)], .cells [.int .i64 v4, .int .i64 v5, .own 2 0], .arr 25 (.ts v6) 0 false]⟩
theorem jR (n c : Nat) (v0 v1 v2 : Int) (v3 : List T) (v4 v5 : Int) (v6 : List T) : cm n (c + 1) v0 v1 v2 v3 v4 v5 v6 =
 ((FF n 164 [.agg [.int .i64 v1, .int .i64 v2, .fr (.ts v3)]] []).bind fun x0 =>
 (ah x0.1 fun x1 x2 =>
 (ar x2 fun x3 x4 =>
 (ai x4 (aj x0.2
 (cond (!x3)
 ((FF n 90 [.agg [.int .i64 v1, .int .i64 v2, .fr (.ts v3)]] []).bind fun x5 =>
 (fL 0 x5.1 fun x6 x7 x8 =>
 (cf 25 x5.2 fun x9 x10 =>
 (ai x8 (aj x10
 (some ([.agg [.int .i64 x6, .int .i64 x7, .fr (.ts x9)], .one (.int .i64 0)], [])))))))
 (cond (decide (v0 < 1))
 (some ([.agg [.int .i64 0, .int .i64 0, .fr (.ts [])], .one (.int .i64 1)], []))
 ((FF n 65 [.agg [.int .i64 x1.k, .int .i64 x1.n, .fr (.ts x1.kids)]] []).bind fun x5 =>
 (ar x5.1 fun x6 x7 =>
 (ai x7 (aj x5.2
 (cond (!x6)
 (some ([.agg [.int .i64 0, .int .i64 0, .fr (.ts [])], .one (.int .i64 2)], []))
 (cm n c (IntKind.i64.wrap (v0 - 1)) (x1.k) (x1.n) (x1.kids) v4 v5 v6))))))))))))) := by kernel_rfl
theorem uP (n : Nat) (v0 v1 : Int) (v2 : List T) (v3 : Int) : FF (n + 1) 140 [.agg [.int .i64 v0, .int .i64 v1, .fr (.ts v2)], .one (.int .i64 v3)] [] =
 cm n n v3 v0 v1 v2 0 0 ([]) := by kernel_rfl
theorem qJ (n : Nat) (v0 v1 v2 v3 : Int) (v4 : Bool) : FF (n + 1) 110 [.one (.int .i64 v0), .one (.int .i64 v1), .one (.ptr 0 0), .one (.ptr 1 0), .one (.ptr 2 0)] [.cells [.int .i64 v2], .cells [.int .i64 v3], .cells [.bool v4]] =
 (cond (decide (v2 ≤ (IntKind.i64.wrap (v0 - v1))))
 (cond v4
 (cond (decide (v2 ≤ (IntKind.i64.wrap ((IntKind.i64.wrap (v0 + v3)) - v1))))
 ((FF n 68 [.one (.int .i64 (IntKind.i64.wrap (v0 + v3)))] []).bind fun x0 =>
 (ah x0.1 fun x1 x2 =>
 (ai x2 (aj x0.2
 (some ([.agg [.int .i64 x1.k, .int .i64 x1.n, .fr (.ts x1.kids)]], [.cells [.int .i64 v2], .cells [.int .i64 v3], .cells [.bool (decide ((IntKind.i64.wrap (v0 + v3)) ≤ 20))]]))))))
 ((FF n 68 [.one (.int .i64 (IntKind.i64.wrap (v0 + v3)))] []).bind fun x0 =>
 (ah x0.1 fun x1 x2 =>
 (ai x2 (aj x0.2
 (some ([.agg [.int .i64 x1.k, .int .i64 x1.n, .fr (.ts x1.kids)]], [.cells [.int .i64 v2], .cells [.int .i64 v3], .cells [.bool false]])))))))
 ((FF n 68 [.one (.int .i64 (IntKind.i64.wrap (v0 + v3)))] []).bind fun x0 =>
 (ah x0.1 fun x1 x2 =>
 (ai x2 (aj x0.2
 (some ([.agg [.int .i64 x1.k, .int .i64 x1.n, .fr (.ts x1.kids)]], [.cells [.int .i64 v2], .cells [.int .i64 v3], .cells [.bool false]])))))))
 ((FF n 68 [.one (.int .i64 v0)] []).bind fun x0 =>
 (ah x0.1 fun x1 x2 =>
 (ai x2 (aj x0.2
 (some ([.agg [.int .i64 x1.k, .int .i64 x1.n, .fr (.ts x1.kids)]], [.cells [.int .i64 v2], .cells [.int .i64 v3], .cells [.bool v4]]))))))) := by kernel_rfl
theorem rn (n : Nat) (v0 : List T) (v1 v2 : Int) (v3 : List T) : FF (n + 1) 141 [.one (.fr (.ts v0)), .agg [.int .i64 v1, .int .i64 v2, .fr (.ts v3)]] [] =
 (v3[(0 : Int).toNat]?.bind fun x0 =>
 ((FF n 72 [.one (.fr (.ts v0)), .agg [.int .i64 x0.k, .int .i64 x0.n, .fr (.ts x0.kids)]] []).bind fun x1 =>
 (aw .i64 x1.1 fun x2 x3 =>
 (aw .i64 x3 fun x4 x5 =>
 (ai x5 (aj x1.2
 (cond (!decide (x4 = 0))
 (some ([.agg [.int .i64 0, .int .i64 0, .fr (.ts [])], .one (.int .i64 x4)], []))
 (v3[(0 : Int).toNat]?.bind fun x6 =>
 ((FF n 165 [.one (.fr (.ts v0)), .agg [.int .i64 x6.k, .int .i64 x6.n, .fr (.ts x6.kids)]] []).bind fun x7 =>
 (rTs x7.1 fun x8 x9 =>
 (ai x9 (aj x7.2
 (v3[(1 : Int).toNat]?.bind fun x10 =>
 ((FF n 72 [.one (.fr (.ts x8)), .agg [.int .i64 x10.k, .int .i64 x10.n, .fr (.ts x10.kids)]] []).bind fun x11 =>
 (aw .i64 x11.1 fun x12 x13 =>
 (aw .i64 x13 fun x14 x15 =>
 (ai x15 (aj x11.2
 (cond (!decide (x14 = 0))
 (some ([.agg [.int .i64 0, .int .i64 0, .fr (.ts [])], .one (.int .i64 x14)], []))
 ((FF n 166 [.one (.int .i64 x2), .one (.int .i64 x12)] []).bind fun x16 =>
 (aw .i64 x16.1 fun x17 x18 =>
 (ai x18 (aj x16.2
 ((FF n 82 [.one (.int .i64 2), .one (.int .i64 x17)] []).bind fun x19 =>
 (ah x19.1 fun x20 x21 =>
 (ai x21 (aj x19.2
 (some ([.agg [.int .i64 x20.k, .int .i64 x20.n, .fr (.ts x20.kids)], .one (.int .i64 0)], []))))))))))))))))))))))))))))) := by kernel_rfl
theorem vJ (n : Nat) (v0 : List T) (v1 v2 : Int) (v3 : List T) : FF (n + 1) 142 [.one (.fr (.ts v0)), .agg [.int .i64 v1, .int .i64 v2, .fr (.ts v3)]] [] =
 (v3[(0 : Int).toNat]?.bind fun x0 =>
 ((FF n 72 [.one (.fr (.ts v0)), .agg [.int .i64 x0.k, .int .i64 x0.n, .fr (.ts x0.kids)]] []).bind fun x1 =>
 (aw .i64 x1.1 fun x2 x3 =>
 (aw .i64 x3 fun x4 x5 =>
 (ai x5 (aj x1.2
 (cond (!decide (x4 = 0))
 (some ([.agg [.int .i64 0, .int .i64 0, .fr (.ts [])], .one (.int .i64 x4)], []))
 (v3[(0 : Int).toNat]?.bind fun x6 =>
 ((FF n 165 [.one (.fr (.ts v0)), .agg [.int .i64 x6.k, .int .i64 x6.n, .fr (.ts x6.kids)]] []).bind fun x7 =>
 (rTs x7.1 fun x8 x9 =>
 (ai x9 (aj x7.2
 (v3[(1 : Int).toNat]?.bind fun x10 =>
 ((FF n 74 [.one (.fr (.ts x8)), .agg [.int .i64 x10.k, .int .i64 x10.n, .fr (.ts x10.kids)]] []).bind fun x11 =>
 (ah x11.1 fun x12 x13 =>
 (aw .i64 x13 fun x14 x15 =>
 (ai x15 (aj x11.2
 (cond (!decide (x14 = 0))
 (some ([.agg [.int .i64 0, .int .i64 0, .fr (.ts [])], .one (.int .i64 x14)], []))
 (v3[(0 : Int).toNat]?.bind fun x16 =>
 ((FF n 81 [.one (.int .i64 3), .one (.fr (.ts [(T.mk x16.k x16.n x16.kids), (T.mk x12.k x12.n x12.kids)]))] []).bind fun x17 =>
 (ah x17.1 fun x18 x19 =>
 (ai x19 (aj x17.2
 ((FF n 141 [.one (.fr (.ts v0)), .agg [.int .i64 x18.k, .int .i64 x18.n, .fr (.ts x18.kids)]] []).bind fun x20 =>
 (ah x20.1 fun x21 x22 =>
 (aw .i64 x22 fun x23 x24 =>
 (ai x24 (aj x20.2
 (some ([.agg [.int .i64 x18.k, .int .i64 x18.n, .fr (.ts x18.kids)], .one (.int .i64 x23)], []))))))))))))))))))))))))))))))) := by kernel_rfl
theorem xp (n : Nat) (v0 : List T) (v1 v2 : Int) (v3 : List T) : FF (n + 1) 143 [.one (.fr (.ts v0)), .agg [.int .i64 v1, .int .i64 v2, .fr (.ts v3)]] [] =
 (v3[(0 : Int).toNat]?.bind fun x0 =>
 ((FF n 167 [.one (.fr (.ts v0)), .agg [.int .i64 x0.k, .int .i64 x0.n, .fr (.ts x0.kids)], .one (.int .i64 3)] []).bind fun x1 =>
 (ah x1.1 fun x2 x3 =>
 (aw .i64 x3 fun x4 x5 =>
 (ai x5 (aj x1.2
 (cond (!decide (x4 = 0))
 (some ([.agg [.int .i64 0, .int .i64 0, .fr (.ts [])], .one (.int .i64 x4)], []))
 (v3[(1 : Int).toNat]?.bind fun x6 =>
 ((x2.kids)[(0 : Int).toNat]?.bind fun x7 =>
 ((FF n 85 [.one (.fr (.ts v0)), .agg [.int .i64 x6.k, .int .i64 x6.n, .fr (.ts x6.kids)], .agg [.int .i64 x7.k, .int .i64 x7.n, .fr (.ts x7.kids)]] []).bind fun x8 =>
 (aw .i64 x8.1 fun x9 x10 =>
 (ai x10 (aj x8.2
 (cond (!decide (x9 = 0))
 (some ([.agg [.int .i64 0, .int .i64 0, .fr (.ts [])], .one (.int .i64 x9)], []))
 ((x2.kids)[(1 : Int).toNat]?.bind fun x11 =>
 (v3[(1 : Int).toNat]?.bind fun x12 =>
 ((FF n 168 [.agg [.int .i64 x11.k, .int .i64 x11.n, .fr (.ts x11.kids)], .one (.int .i64 0), .agg [.int .i64 x12.k, .int .i64 x12.n, .fr (.ts x12.kids)], .one (.int .i64 0)] []).bind fun x13 =>
 (ah x13.1 fun x14 x15 =>
 (ai x15 (aj x13.2
 (some ([.agg [.int .i64 x14.k, .int .i64 x14.n, .fr (.ts x14.kids)], .one (.int .i64 0)], [])))))))))))))))))))))) := by kernel_rfl
theorem sR (n : Nat) (v0 : List T) (v1 v2 : Int) (v3 : List T) : FF (n + 1) 144 [.one (.fr (.ts v0)), .agg [.int .i64 v1, .int .i64 v2, .fr (.ts v3)]] [] =
 (v3[(0 : Int).toNat]?.bind fun x0 =>
 ((FF n 82 [.one (.int .i64 6), .one (.int .i64 0)] []).bind fun x1 =>
 (ah x1.1 fun x2 x3 =>
 (ai x3 (aj x1.2
 ((FF n 169 [.one (.fr (.ts v0)), .agg [.int .i64 x0.k, .int .i64 x0.n, .fr (.ts x0.kids)], .agg [.int .i64 x2.k, .int .i64 x2.n, .fr (.ts x2.kids)]] []).bind fun x4 =>
 (aw .i64 x4.1 fun x5 x6 =>
 (ai x6 (aj x4.2
 (cond (decide (x5 = 0))
 (v3[(1 : Int).toNat]?.bind fun x7 =>
 ((FF n 82 [.one (.int .i64 7), .one (.int .i64 0)] []).bind fun x8 =>
 (ah x8.1 fun x9 x10 =>
 (ai x10 (aj x8.2
 ((FF n 81 [.one (.int .i64 5), .one (.fr (.ts [(T.mk x0.k x0.n x0.kids), (T.mk x9.k x9.n x9.kids)]))] []).bind fun x11 =>
 (ah x11.1 fun x12 x13 =>
 (ai x13 (aj x11.2
 ((FF n 85 [.one (.fr (.ts v0)), .agg [.int .i64 x7.k, .int .i64 x7.n, .fr (.ts x7.kids)], .agg [.int .i64 x12.k, .int .i64 x12.n, .fr (.ts x12.kids)]] []).bind fun x14 =>
 (aw .i64 x14.1 fun x15 x16 =>
 (ai x16 (aj x14.2
 (cond (decide (x15 = 0))
 (v3[(2 : Int).toNat]?.bind fun x17 =>
 ((FF n 170 [.agg [.int .i64 x0.k, .int .i64 x0.n, .fr (.ts x0.kids)]] []).bind fun x18 =>
 (ah x18.1 fun x19 x20 =>
 (ai x20 (aj x18.2
 ((FF n 85 [.one (.fr (.ts v0)), .agg [.int .i64 x17.k, .int .i64 x17.n, .fr (.ts x17.kids)], .agg [.int .i64 x19.k, .int .i64 x19.n, .fr (.ts x19.kids)]] []).bind fun x21 =>
 (aw .i64 x21.1 fun x22 x23 =>
 (ai x23 (aj x21.2
 (cond (decide (x22 = 0))
 (v3[(3 : Int).toNat]?.bind fun x24 =>
 ((FF n 85 [.one (.fr (.ts v0)), .agg [.int .i64 x24.k, .int .i64 x24.n, .fr (.ts x24.kids)], .agg [.int .i64 x2.k, .int .i64 x2.n, .fr (.ts x2.kids)]] []).bind fun x25 =>
 (aw .i64 x25.1 fun x26 x27 =>
 (ai x27 (aj x25.2
 (v3[(3 : Int).toNat]?.bind fun x28 =>
 ((FF n 81 [.one (.int .i64 5), .one (.fr (.ts [(T.mk x0.k x0.n x0.kids), (T.mk x28.k x28.n x28.kids)]))] []).bind fun x29 =>
 (ah x29.1 fun x30 x31 =>
 (ai x31 (aj x29.2
 (some ([.agg [.int .i64 x30.k, .int .i64 x30.n, .fr (.ts x30.kids)], .one (.int .i64 x26)], []))))))))))))
 (v3[(3 : Int).toNat]?.bind fun x24 =>
 ((FF n 81 [.one (.int .i64 5), .one (.fr (.ts [(T.mk x0.k x0.n x0.kids), (T.mk x24.k x24.n x24.kids)]))] []).bind fun x25 =>
 (ah x25.1 fun x26 x27 =>
 (ai x27 (aj x25.2
 (some ([.agg [.int .i64 x26.k, .int .i64 x26.n, .fr (.ts x26.kids)], .one (.int .i64 x22)], [])))))))))))))))))
 (cond (decide (x15 = 0))
 (v3[(3 : Int).toNat]?.bind fun x17 =>
 ((FF n 85 [.one (.fr (.ts v0)), .agg [.int .i64 x17.k, .int .i64 x17.n, .fr (.ts x17.kids)], .agg [.int .i64 x2.k, .int .i64 x2.n, .fr (.ts x2.kids)]] []).bind fun x18 =>
 (aw .i64 x18.1 fun x19 x20 =>
 (ai x20 (aj x18.2
 (v3[(3 : Int).toNat]?.bind fun x21 =>
 ((FF n 81 [.one (.int .i64 5), .one (.fr (.ts [(T.mk x0.k x0.n x0.kids), (T.mk x21.k x21.n x21.kids)]))] []).bind fun x22 =>
 (ah x22.1 fun x23 x24 =>
 (ai x24 (aj x22.2
 (some ([.agg [.int .i64 x23.k, .int .i64 x23.n, .fr (.ts x23.kids)], .one (.int .i64 x19)], []))))))))))))
 (v3[(3 : Int).toNat]?.bind fun x17 =>
 ((FF n 81 [.one (.int .i64 5), .one (.fr (.ts [(T.mk x0.k x0.n x0.kids), (T.mk x17.k x17.n x17.kids)]))] []).bind fun x18 =>
 (ah x18.1 fun x19 x20 =>
 (ai x20 (aj x18.2
 (some ([.agg [.int .i64 x19.k, .int .i64 x19.n, .fr (.ts x19.kids)], .one (.int .i64 x15)], []))))))))))))))))))))))
 (cond (decide (x5 = 0))
 (v3[(2 : Int).toNat]?.bind fun x7 =>
 ((FF n 170 [.agg [.int .i64 x0.k, .int .i64 x0.n, .fr (.ts x0.kids)]] []).bind fun x8 =>
 (ah x8.1 fun x9 x10 =>
 (ai x10 (aj x8.2
 ((FF n 85 [.one (.fr (.ts v0)), .agg [.int .i64 x7.k, .int .i64 x7.n, .fr (.ts x7.kids)], .agg [.int .i64 x9.k, .int .i64 x9.n, .fr (.ts x9.kids)]] []).bind fun x11 =>
 (aw .i64 x11.1 fun x12 x13 =>
 (ai x13 (aj x11.2
 (cond (decide (x12 = 0))
 (v3[(3 : Int).toNat]?.bind fun x14 =>
 ((FF n 85 [.one (.fr (.ts v0)), .agg [.int .i64 x14.k, .int .i64 x14.n, .fr (.ts x14.kids)], .agg [.int .i64 x2.k, .int .i64 x2.n, .fr (.ts x2.kids)]] []).bind fun x15 =>
 (aw .i64 x15.1 fun x16 x17 =>
 (ai x17 (aj x15.2
 (v3[(3 : Int).toNat]?.bind fun x18 =>
 ((FF n 81 [.one (.int .i64 5), .one (.fr (.ts [(T.mk x0.k x0.n x0.kids), (T.mk x18.k x18.n x18.kids)]))] []).bind fun x19 =>
 (ah x19.1 fun x20 x21 =>
 (ai x21 (aj x19.2
 (some ([.agg [.int .i64 x20.k, .int .i64 x20.n, .fr (.ts x20.kids)], .one (.int .i64 x16)], []))))))))))))
 (v3[(3 : Int).toNat]?.bind fun x14 =>
 ((FF n 81 [.one (.int .i64 5), .one (.fr (.ts [(T.mk x0.k x0.n x0.kids), (T.mk x14.k x14.n x14.kids)]))] []).bind fun x15 =>
 (ah x15.1 fun x16 x17 =>
 (ai x17 (aj x15.2
 (some ([.agg [.int .i64 x16.k, .int .i64 x16.n, .fr (.ts x16.kids)], .one (.int .i64 x12)], [])))))))))))))))))
 (cond (decide (x5 = 0))
 (v3[(3 : Int).toNat]?.bind fun x7 =>
 ((FF n 85 [.one (.fr (.ts v0)), .agg [.int .i64 x7.k, .int .i64 x7.n, .fr (.ts x7.kids)], .agg [.int .i64 x2.k, .int .i64 x2.n, .fr (.ts x2.kids)]] []).bind fun x8 =>
 (aw .i64 x8.1 fun x9 x10 =>
 (ai x10 (aj x8.2
 (v3[(3 : Int).toNat]?.bind fun x11 =>
 ((FF n 81 [.one (.int .i64 5), .one (.fr (.ts [(T.mk x0.k x0.n x0.kids), (T.mk x11.k x11.n x11.kids)]))] []).bind fun x12 =>
 (ah x12.1 fun x13 x14 =>
 (ai x14 (aj x12.2
 (some ([.agg [.int .i64 x13.k, .int .i64 x13.n, .fr (.ts x13.kids)], .one (.int .i64 x9)], []))))))))))))
 (v3[(3 : Int).toNat]?.bind fun x7 =>
 ((FF n 81 [.one (.int .i64 5), .one (.fr (.ts [(T.mk x0.k x0.n x0.kids), (T.mk x7.k x7.n x7.kids)]))] []).bind fun x8 =>
 (ah x8.1 fun x9 x10 =>
 (ai x10 (aj x8.2
 (some ([.agg [.int .i64 x9.k, .int .i64 x9.n, .fr (.ts x9.kids)], .one (.int .i64 x5)], []))))))))))))))))))) := by kernel_rfl
theorem yR (n : Nat) (v0 : List T) (v1 v2 : Int) (v3 : List T) : FF (n + 1) 145 [.one (.fr (.ts v0)), .agg [.int .i64 v1, .int .i64 v2, .fr (.ts v3)]] [] =
 (v3[(0 : Int).toNat]?.bind fun x0 =>
 ((FF n 72 [.one (.fr (.ts v0)), .agg [.int .i64 x0.k, .int .i64 x0.n, .fr (.ts x0.kids)]] []).bind fun x1 =>
 (aw .i64 x1.1 fun x2 x3 =>
 (aw .i64 x3 fun x4 x5 =>
 (ai x5 (aj x1.2
 (cond (decide (x4 = 0))
 (v3[(1 : Int).toNat]?.bind fun x6 =>
 (v3[(0 : Int).toNat]?.bind fun x7 =>
 ((FF n 85 [.one (.fr (.ts v0)), .agg [.int .i64 x6.k, .int .i64 x6.n, .fr (.ts x6.kids)], .agg [.int .i64 x7.k, .int .i64 x7.n, .fr (.ts x7.kids)]] []).bind fun x8 =>
 (aw .i64 x8.1 fun x9 x10 =>
 (ai x10 (aj x8.2
 (cond (decide (x9 = 0))
 (v3[(2 : Int).toNat]?.bind fun x11 =>
 (v3[(0 : Int).toNat]?.bind fun x12 =>
 ((FF n 85 [.one (.fr (.ts v0)), .agg [.int .i64 x11.k, .int .i64 x11.n, .fr (.ts x11.kids)], .agg [.int .i64 x12.k, .int .i64 x12.n, .fr (.ts x12.kids)]] []).bind fun x13 =>
 (aw .i64 x13.1 fun x14 x15 =>
 (ai x15 (aj x13.2
 ((FF n 82 [.one (.int .i64 2), .one (.int .i64 x2)] []).bind fun x16 =>
 (ah x16.1 fun x17 x18 =>
 (ai x18 (aj x16.2
 (some ([.agg [.int .i64 x17.k, .int .i64 x17.n, .fr (.ts x17.kids)], .one (.int .i64 x14)], []))))))))))))
 ((FF n 82 [.one (.int .i64 2), .one (.int .i64 x2)] []).bind fun x11 =>
 (ah x11.1 fun x12 x13 =>
 (ai x13 (aj x11.2
 (some ([.agg [.int .i64 x12.k, .int .i64 x12.n, .fr (.ts x12.kids)], .one (.int .i64 x9)], [])))))))))))))
 (cond (decide (x4 = 0))
 (v3[(2 : Int).toNat]?.bind fun x6 =>
 (v3[(0 : Int).toNat]?.bind fun x7 =>
 ((FF n 85 [.one (.fr (.ts v0)), .agg [.int .i64 x6.k, .int .i64 x6.n, .fr (.ts x6.kids)], .agg [.int .i64 x7.k, .int .i64 x7.n, .fr (.ts x7.kids)]] []).bind fun x8 =>
 (aw .i64 x8.1 fun x9 x10 =>
 (ai x10 (aj x8.2
 ((FF n 82 [.one (.int .i64 2), .one (.int .i64 x2)] []).bind fun x11 =>
 (ah x11.1 fun x12 x13 =>
 (ai x13 (aj x11.2
 (some ([.agg [.int .i64 x12.k, .int .i64 x12.n, .fr (.ts x12.kids)], .one (.int .i64 x9)], []))))))))))))
 ((FF n 82 [.one (.int .i64 2), .one (.int .i64 x2)] []).bind fun x6 =>
 (ah x6.1 fun x7 x8 =>
 (ai x8 (aj x6.2
 (some ([.agg [.int .i64 x7.k, .int .i64 x7.n, .fr (.ts x7.kids)], .one (.int .i64 x4)], [])))))))))))))) := by kernel_rfl
end Go.Proofs.YtajlknlnmmbfcaaGreat
end
section
namespace Go.Proofs.YtajlknlnmmbfcaaGreat
open Go Go.Ab Go.Dk
theorem ui (n : Nat) (v0 : List T) (v1 v2 : Int) (v3 : List T) : FF (n + 1) 146 [.one (.fr (.ts v0)), .agg [.int .i64 v1, .int .i64 v2, .fr (.ts v3)]] [] =
 (v3[(1 : Int).toNat]?.bind fun x0 =>
 ((FF n 167 [.one (.fr (.ts v0)), .agg [.int .i64 x0.k, .int .i64 x0.n, .fr (.ts x0.kids)], .one (.int .i64 10)] []).bind fun x1 =>
 (ah x1.1 fun x2 x3 =>
 (aw .i64 x3 fun x4 x5 =>
 (ai x5 (aj x1.2
 (cond (!decide (x4 = 0))
 (some ([.agg [.int .i64 0, .int .i64 0, .fr (.ts [])], .one (.int .i64 x4)], []))
 (v3[(0 : Int).toNat]?.bind fun x6 =>
 ((x2.kids)[(0 : Int).toNat]?.bind fun x7 =>
 ((FF n 169 [.one (.fr (.ts v0)), .agg [.int .i64 x6.k, .int .i64 x6.n, .fr (.ts x6.kids)], .agg [.int .i64 x7.k, .int .i64 x7.n, .fr (.ts x7.kids)]] []).bind fun x8 =>
 (aw .i64 x8.1 fun x9 x10 =>
 (ai x10 (aj x8.2
 (cond (decide (x9 = 0))
 (v3[(2 : Int).toNat]?.bind fun x11 =>
 (v3[(0 : Int).toNat]?.bind fun x12 =>
 ((x2.kids)[(1 : Int).toNat]?.bind fun x13 =>
 ((FF n 81 [.one (.int .i64 5), .one (.fr (.ts [(T.mk x12.k x12.n x12.kids), (T.mk x13.k x13.n x13.kids)]))] []).bind fun x14 =>
 (ah x14.1 fun x15 x16 =>
 (ai x16 (aj x14.2
 ((FF n 85 [.one (.fr (.ts v0)), .agg [.int .i64 x11.k, .int .i64 x11.n, .fr (.ts x11.kids)], .agg [.int .i64 x15.k, .int .i64 x15.n, .fr (.ts x15.kids)]] []).bind fun x17 =>
 (aw .i64 x17.1 fun x18 x19 =>
 (ai x19 (aj x17.2
 (v3[(0 : Int).toNat]?.bind fun x20 =>
 ((x2.kids)[(2 : Int).toNat]?.bind fun x21 =>
 ((FF n 81 [.one (.int .i64 5), .one (.fr (.ts [(T.mk x20.k x20.n x20.kids), (T.mk x21.k x21.n x21.kids)]))] []).bind fun x22 =>
 (ah x22.1 fun x23 x24 =>
 (ai x24 (aj x22.2
 (some ([.agg [.int .i64 x23.k, .int .i64 x23.n, .fr (.ts x23.kids)], .one (.int .i64 x18)], [])))))))))))))))))))
 (v3[(0 : Int).toNat]?.bind fun x11 =>
 ((x2.kids)[(2 : Int).toNat]?.bind fun x12 =>
 ((FF n 81 [.one (.int .i64 5), .one (.fr (.ts [(T.mk x11.k x11.n x11.kids), (T.mk x12.k x12.n x12.kids)]))] []).bind fun x13 =>
 (ah x13.1 fun x14 x15 =>
 (ai x15 (aj x13.2
 (some ([.agg [.int .i64 x14.k, .int .i64 x14.n, .fr (.ts x14.kids)], .one (.int .i64 x9)], [])))))))))))))))))))))) := by kernel_rfl
theorem uU (n : Nat) (v0 : List T) (v1 v2 : Int) (v3 : List T) : FF (n + 1) 147 [.one (.fr (.ts v0)), .agg [.int .i64 v1, .int .i64 v2, .fr (.ts v3)]] [] =
 (v3[(0 : Int).toNat]?.bind fun x0 =>
 ((FF n 72 [.one (.fr (.ts v0)), .agg [.int .i64 x0.k, .int .i64 x0.n, .fr (.ts x0.kids)]] []).bind fun x1 =>
 (aw .i64 x1.1 fun x2 x3 =>
 (aw .i64 x3 fun x4 x5 =>
 (ai x5 (aj x1.2
 (cond (!decide (x4 = 0))
 (some ([.agg [.int .i64 0, .int .i64 0, .fr (.ts [])], .one (.int .i64 x4)], []))
 (v3[(0 : Int).toNat]?.bind fun x6 =>
 ((FF n 108 [.agg [.int .i64 x6.k, .int .i64 x6.n, .fr (.ts x6.kids)]] []).bind fun x7 =>
 (ah x7.1 fun x8 x9 =>
 (aw .i64 x9 fun x10 x11 =>
 (ai x11 (aj x7.2
 (cond (!decide (x10 = 0))
 (some ([.agg [.int .i64 0, .int .i64 0, .fr (.ts [])], .one (.int .i64 x10)], []))
 (cond (!decide (x8.k = 13))
 (some ([.agg [.int .i64 0, .int .i64 0, .fr (.ts [])], .one (.int .i64 1)], []))
 (v3[(1 : Int).toNat]?.bind fun x12 =>
 ((x8.kids)[(0 : Int).toNat]?.bind fun x13 =>
 ((FF n 85 [.one (.fr (.ts v0)), .agg [.int .i64 x12.k, .int .i64 x12.n, .fr (.ts x12.kids)], .agg [.int .i64 x13.k, .int .i64 x13.n, .fr (.ts x13.kids)]] []).bind fun x14 =>
 (aw .i64 x14.1 fun x15 x16 =>
 (ai x16 (aj x14.2
 (cond (decide (x15 = 0))
 (v3[(2 : Int).toNat]?.bind fun x17 =>
 ((x8.kids)[(1 : Int).toNat]?.bind fun x18 =>
 (v3[(1 : Int).toNat]?.bind fun x19 =>
 ((FF n 168 [.agg [.int .i64 x18.k, .int .i64 x18.n, .fr (.ts x18.kids)], .one (.int .i64 0), .agg [.int .i64 x19.k, .int .i64 x19.n, .fr (.ts x19.kids)], .one (.int .i64 0)] []).bind fun x20 =>
 (ah x20.1 fun x21 x22 =>
 (ai x22 (aj x20.2
 ((FF n 85 [.one (.fr (.ts v0)), .agg [.int .i64 x17.k, .int .i64 x17.n, .fr (.ts x17.kids)], .agg [.int .i64 x21.k, .int .i64 x21.n, .fr (.ts x21.kids)]] []).bind fun x23 =>
 (aw .i64 x23.1 fun x24 x25 =>
 (ai x25 (aj x23.2
 (v3[(0 : Int).toNat]?.bind fun x26 =>
 some ([.agg [.int .i64 x26.k, .int .i64 x26.n, .fr (.ts x26.kids)], .one (.int .i64 x24)], [])))))))))))))
 (v3[(0 : Int).toNat]?.bind fun x17 =>
 some ([.agg [.int .i64 x17.k, .int .i64 x17.n, .fr (.ts x17.kids)], .one (.int .i64 x15)], [])))))))))))))))))))))))) := by kernel_rfl
theorem bN (n : Nat) (v0 : List T) (v1 v2 : Int) (v3 : List T) : FF (n + 1) 148 [.one (.fr (.ts v0)), .agg [.int .i64 v1, .int .i64 v2, .fr (.ts v3)]] [] =
 (cond (decide (v1 = 1))
 (cond (decide ((v0.length : Int) ≤ v2))
 (some ([.agg [.int .i64 0, .int .i64 0, .fr (.ts [])], .one (.int .i64 1)], []))
 (cond (decide (0 ≤ (IntKind.i64.wrap ((IntKind.i64.wrap ((v0.length : Int) - 1)) - v2))))
 (v0[((IntKind.i64.wrap ((IntKind.i64.wrap ((v0.length : Int) - 1)) - v2)) : Int).toNat]?.bind fun x0 =>
 ((FF n 83 [.agg [.int .i64 x0.k, .int .i64 x0.n, .fr (.ts x0.kids)], .one (.int .i64 (IntKind.i64.wrap (v2 + 1))), .one (.int .i64 0)] []).bind fun x1 =>
 (ah x1.1 fun x2 x3 =>
 (ai x3 (aj x1.2
 (some ([.agg [.int .i64 x2.k, .int .i64 x2.n, .fr (.ts x2.kids)], .one (.int .i64 0)], [])))))))
 none))
 (cond (decide (v1 = 2))
 (cond (decide (3 ≤ v2))
 (some ([.agg [.int .i64 0, .int .i64 0, .fr (.ts [])], .one (.int .i64 1)], []))
 ((FF n 82 [.one (.int .i64 2), .one (.int .i64 (IntKind.i64.wrap (v2 + 1)))] []).bind fun x0 =>
 (ah x0.1 fun x1 x2 =>
 (ai x2 (aj x0.2
 (some ([.agg [.int .i64 x1.k, .int .i64 x1.n, .fr (.ts x1.kids)], .one (.int .i64 0)], [])))))))
 (cond (decide (v1 = 6))
 ((FF n 82 [.one (.int .i64 2), .one (.int .i64 0)] []).bind fun x0 =>
 (ah x0.1 fun x1 x2 =>
 (ai x2 (aj x0.2
 (some ([.agg [.int .i64 x1.k, .int .i64 x1.n, .fr (.ts x1.kids)], .one (.int .i64 0)], []))))))
 (cond (decide (v1 = 7))
 ((FF n 82 [.one (.int .i64 6), .one (.int .i64 0)] []).bind fun x0 =>
 (ah x0.1 fun x1 x2 =>
 (ai x2 (aj x0.2
 (some ([.agg [.int .i64 x1.k, .int .i64 x1.n, .fr (.ts x1.kids)], .one (.int .i64 0)], []))))))
 (cond (decide (v1 = 8))
 ((FF n 82 [.one (.int .i64 6), .one (.int .i64 0)] []).bind fun x0 =>
 (ah x0.1 fun x1 x2 =>
 (ai x2 (aj x0.2
 (v3[(0 : Int).toNat]?.bind fun x3 =>
 ((FF n 82 [.one (.int .i64 6), .one (.int .i64 0)] []).bind fun x4 =>
 (ah x4.1 fun x5 x6 =>
 (ai x6 (aj x4.2
 ((FF n 85 [.one (.fr (.ts v0)), .agg [.int .i64 x3.k, .int .i64 x3.n, .fr (.ts x3.kids)], .agg [.int .i64 x5.k, .int .i64 x5.n, .fr (.ts x5.kids)]] []).bind fun x7 =>
 (aw .i64 x7.1 fun x8 x9 =>
 (ai x9 (aj x7.2
 (some ([.agg [.int .i64 x1.k, .int .i64 x1.n, .fr (.ts x1.kids)], .one (.int .i64 x8)], [])))))))))))))))
 (cond (decide (v1 = 11))
 (v3[(0 : Int).toNat]?.bind fun x0 =>
 ((FF n 74 [.one (.fr (.ts v0)), .agg [.int .i64 x0.k, .int .i64 x0.n, .fr (.ts x0.kids)]] []).bind fun x1 =>
 (ah x1.1 fun x2 x3 =>
 (aw .i64 x3 fun x4 x5 =>
 (ai x5 (aj x1.2
 (cond (decide (x4 = 0))
 ((FF n 72 [.one (.fr (.ts v0)), .agg [.int .i64 x2.k, .int .i64 x2.n, .fr (.ts x2.kids)]] []).bind fun x6 =>
 (aw .i64 x6.1 fun x7 x8 =>
 (aw .i64 x8 fun x9 x10 =>
 (ai x10 (aj x6.2
 (v3[(0 : Int).toNat]?.bind fun x11 =>
 (v3[(0 : Int).toNat]?.bind fun x12 =>
 ((FF n 81 [.one (.int .i64 10), .one (.fr (.ts [(T.mk x2.k x2.n x2.kids), (T.mk x11.k x11.n x11.kids), (T.mk x12.k x12.n x12.kids)]))] []).bind fun x13 =>
 (ah x13.1 fun x14 x15 =>
 (ai x15 (aj x13.2
 (some ([.agg [.int .i64 x14.k, .int .i64 x14.n, .fr (.ts x14.kids)], .one (.int .i64 x9)], [])))))))))))))
 (v3[(0 : Int).toNat]?.bind fun x6 =>
 (v3[(0 : Int).toNat]?.bind fun x7 =>
 ((FF n 81 [.one (.int .i64 10), .one (.fr (.ts [(T.mk x2.k x2.n x2.kids), (T.mk x6.k x6.n x6.kids), (T.mk x7.k x7.n x7.kids)]))] []).bind fun x8 =>
 (ah x8.1 fun x9 x10 =>
 (ai x10 (aj x8.2
 (some ([.agg [.int .i64 x9.k, .int .i64 x9.n, .fr (.ts x9.kids)], .one (.int .i64 x4)], [])))))))))))))))
 ((FF n 171 [.one (.fr (.ts v0)), .agg [.int .i64 v1, .int .i64 v2, .fr (.ts v3)]] []).bind fun x0 =>
 (ah x0.1 fun x1 x2 =>
 (aw .i64 x2 fun x3 x4 =>
 (ai x4 (aj x0.2
 (some ([.agg [.int .i64 x1.k, .int .i64 x1.n, .fr (.ts x1.kids)], .one (.int .i64 x3)], []))))))))))))) := by kernel_rfl
noncomputable def fy (n c : Nat) (v0 : List Int) (v1 v2 v3 v4 : Int) (v5 : List T) (v6 v7 : Int) (v8 : List T) : OR := aR Tryz.prog SS n 150 0 [1, 0, 1, 0] [] c ⟨[aa, aa, .v (.one (.ptr 0 0)), aa, .v (.one (.ptr 1 0)), aa, aa, .v (.one (.fr (.is v0))), .v (.one (.int .i64 v1)), .v (.one (.int .i64 v2)), aa, aa, aa, aa, aa, aa, aa, aa, aa, aa],
 [.cells [.int .i64 v3, .int .i64 v4, .fr (.ts v5)], .cells [.int .i64 v6, .int .i64 v7, .own 2 0], .arr 25 (.ts v8) 0 false]⟩
theorem iO (n c : Nat) (v0 : List Int) (v1 v2 v3 v4 : Int) (v5 : List T) (v6 v7 : Int) (v8 : List T) : fy n (c + 1) v0 v1 v2 v3 v4 v5 v6 v7 v8 =
 (cond (decide (v2 < v1))
 (cond (decide (0 ≤ v2))
 (v0[(v2 : Int).toNat]?.bind fun x0 =>
 (cond (decide (0 ≤ x0))
 (v5[(x0 : Int).toNat]?.bind fun x1 =>
 fy n c v0 v1 (IntKind.i64.wrap (v2 + 1)) (x1.k) (x1.n) (x1.kids) v6 v7 v8)
 none))
 none)
 (some ([.agg [.int .i64 v3, .int .i64 v4, .fr (.ts v5)]], []))) := by kernel_rfl
theorem Ef (n : Nat) (v0 v1 : Int) (v2 : List T) (v3 : List Int) : FF (n + 1) 150 [.agg [.int .i64 v0, .int .i64 v1, .fr (.ts v2)], .one (.fr (.is v3))] [] =
 fy n n v3 ((v3.length : Int) : Int) 0 v0 v1 v2 0 0 ([]) := by kernel_rfl
theorem pA (n : Nat) (v0 v1 : Int) (v2 : List T) : FF (n + 1) 149 [.agg [.int .i64 v0, .int .i64 v1, .fr (.ts v2)]] [] =
 ((FF n 104 [.agg [.int .i64 v0, .int .i64 v1, .fr (.ts v2)]] []).bind fun x0 =>
 (aw .i64 x0.1 fun x1 x2 =>
 (ai x2 (aj x0.2
 (cond (decide (x1 = 1))
 (v2[(0 : Int).toNat]?.bind fun x3 =>
 ((x3.kids)[(1 : Int).toNat]?.bind fun x4 =>
 (v2[(1 : Int).toNat]?.bind fun x5 =>
 ((FF n 97 [.agg [.int .i64 x4.k, .int .i64 x4.n, .fr (.ts x4.kids)], .one (.int .i64 0), .agg [.int .i64 x5.k, .int .i64 x5.n, .fr (.ts x5.kids)]] []).bind fun x6 =>
 (ah x6.1 fun x7 x8 =>
 (ar x8 fun x9 x10 =>
 (ai x10 (aj x6.2
 (some ([.agg [.int .i64 x7.k, .int .i64 x7.n, .fr (.ts x7.kids)], .one (.bool x9)], []))))))))))
 (cond (decide (x1 = 2))
 (v2[(1 : Int).toNat]?.bind fun x3 =>
 ((FF n 58 [.agg [.int .i64 x3.k, .int .i64 x3.n, .fr (.ts x3.kids)]] []).bind fun x4 =>
 (ah x4.1 fun x5 x6 =>
 (ai x6 (aj x4.2
 ((FF n 71 [.agg [.int .i64 x5.k, .int .i64 x5.n, .fr (.ts x5.kids)]] []).bind fun x7 =>
 (ah x7.1 fun x8 x9 =>
 (ar x9 fun x10 x11 =>
 (ai x11 (aj x7.2
 (some ([.agg [.int .i64 x8.k, .int .i64 x8.n, .fr (.ts x8.kids)], .one (.bool x10)], []))))))))))))
 (cond (decide (x1 = 3))
 (v2[(0 : Int).toNat]?.bind fun x3 =>
 (v2[(1 : Int).toNat]?.bind fun x4 =>
 (v2[(2 : Int).toNat]?.bind fun x5 =>
 (v2[(3 : Int).toNat]?.bind fun x6 =>
 ((x6.kids)[(0 : Int).toNat]?.bind fun x7 =>
 ((FF n 70 [.one (.int .i64 5), .one (.fr (.ts [(T.mk x5.k x5.n x5.kids), (T.mk x7.k x7.n x7.kids)]))] []).bind fun x8 =>
 (ah x8.1 fun x9 x10 =>
 (ai x10 (aj x8.2
 ((FF n 70 [.one (.int .i64 9), .one (.fr (.ts [(T.mk x3.k x3.n x3.kids), (T.mk x4.k x4.n x4.kids), (T.mk x5.k x5.n x5.kids), (T.mk x7.k x7.n x7.kids)]))] []).bind fun x11 =>
 (ah x11.1 fun x12 x13 =>
 (ai x13 (aj x11.2
 ((FF n 70 [.one (.int .i64 5), .one (.fr (.ts [(T.mk x9.k x9.n x9.kids), (T.mk x12.k x12.n x12.kids)]))] []).bind fun x14 =>
 (ah x14.1 fun x15 x16 =>
 (ai x16 (aj x14.2
 ((FF n 58 [.agg [.int .i64 x15.k, .int .i64 x15.n, .fr (.ts x15.kids)]] []).bind fun x17 =>
 (ah x17.1 fun x18 x19 =>
 (ai x19 (aj x17.2
 ((FF n 71 [.agg [.int .i64 x18.k, .int .i64 x18.n, .fr (.ts x18.kids)]] []).bind fun x20 =>
 (ah x20.1 fun x21 x22 =>
 (ar x22 fun x23 x24 =>
 (ai x24 (aj x20.2
 (some ([.agg [.int .i64 x21.k, .int .i64 x21.n, .fr (.ts x21.kids)], .one (.bool x23)], []))))))))))))))))))))))))))))
 (cond (decide (x1 = 4))
 (v2[(2 : Int).toNat]?.bind fun x3 =>
 ((FF n 58 [.agg [.int .i64 x3.k, .int .i64 x3.n, .fr (.ts x3.kids)]] []).bind fun x4 =>
 (ah x4.1 fun x5 x6 =>
 (ai x6 (aj x4.2
 ((FF n 71 [.agg [.int .i64 x5.k, .int .i64 x5.n, .fr (.ts x5.kids)]] []).bind fun x7 =>
 (ah x7.1 fun x8 x9 =>
 (ar x9 fun x10 x11 =>
 (ai x11 (aj x7.2
 (some ([.agg [.int .i64 x8.k, .int .i64 x8.n, .fr (.ts x8.kids)], .one (.bool x10)], []))))))))))))
 (cond (decide (x1 = 5))
 (v2[(0 : Int).toNat]?.bind fun x3 =>
 ((x3.kids)[(1 : Int).toNat]?.bind fun x4 =>
 ((FF n 58 [.agg [.int .i64 x4.k, .int .i64 x4.n, .fr (.ts x4.kids)]] []).bind fun x5 =>
 (ah x5.1 fun x6 x7 =>
 (ai x7 (aj x5.2
 ((FF n 71 [.agg [.int .i64 x6.k, .int .i64 x6.n, .fr (.ts x6.kids)]] []).bind fun x8 =>
 (ah x8.1 fun x9 x10 =>
 (ar x10 fun x11 x12 =>
 (ai x12 (aj x8.2
 (some ([.agg [.int .i64 x9.k, .int .i64 x9.n, .fr (.ts x9.kids)], .one (.bool x11)], [])))))))))))))
 (cond (decide (x1 = 6))
 (v2[(0 : Int).toNat]?.bind fun x3 =>
 ((x3.kids)[(2 : Int).toNat]?.bind fun x4 =>
 ((FF n 58 [.agg [.int .i64 x4.k, .int .i64 x4.n, .fr (.ts x4.kids)]] []).bind fun x5 =>
 (ah x5.1 fun x6 x7 =>
 (ai x7 (aj x5.2
 ((FF n 71 [.agg [.int .i64 x6.k, .int .i64 x6.n, .fr (.ts x6.kids)]] []).bind fun x8 =>
 (ah x8.1 fun x9 x10 =>
 (ar x10 fun x11 x12 =>
 (ai x12 (aj x8.2
 (some ([.agg [.int .i64 x9.k, .int .i64 x9.n, .fr (.ts x9.kids)], .one (.bool x11)], [])))))))))))))
 (some ([.agg [.int .i64 0, .int .i64 0, .fr (.ts [])], .one (.bool false)], [])))))))))))) := by kernel_rfl
theorem rU (n : Nat) (v0 v1 : Int) (v2 : List T) (v3 : List Int) (v4 v5 : Int) (v6 : List T) : FF (n + 1) 151 [.agg [.int .i64 v0, .int .i64 v1, .fr (.ts v2)], .one (.fr (.is v3)), .agg [.int .i64 v4, .int .i64 v5, .fr (.ts v6)]] [] =
 (cond (decide ((v3.length : Int) = 0))
 (some ([.agg [.int .i64 v4, .int .i64 v5, .fr (.ts v6)]], []))
 ((FF n 160 [.one (.fr (.ts v2))] []).bind fun x0 =>
 (HY 0 x0.1 fun x1 =>
 (cf 25 x0.2 fun x2 x3 =>
 (ai x1 (aj x3
 (v3[(0 : Int).toNat]?.bind fun x4 =>
 (v3[(0 : Int).toNat]?.bind fun x5 =>
 (cond (decide (0 ≤ x5))
 (v2[(x5 : Int).toNat]?.bind fun x6 =>
 (cond (Go.Ab.inB 1 v3.length v3.length)
 ((FF n 151 [.agg [.int .i64 x6.k, .int .i64 x6.n, .fr (.ts x6.kids)], .one (.fr (.is ((v3.take (v3.length : Int).toNat).drop (1 : Int).toNat))), .agg [.int .i64 v4, .int .i64 v5, .fr (.ts v6)]] []).bind fun x7 =>
 (ah x7.1 fun x8 x9 =>
 (ai x9 (aj x7.2
 (cond (decide (0 ≤ x4))
 (cond (decide (x4 < (x2.length : Int)))
 (some ([.agg [.int .i64 v0, .int .i64 v1, .fr (.ts (x2.set (x4 : Int).toNat (T.mk x8.k x8.n x8.kids)))]], []))
 none)
 none)))))
 none))
 none))))))))) := by kernel_rfl
theorem qM (n : Nat) (v0 v1 : Int) : FF (n + 1) 152 [.one (.int .i64 v0), .one (.int .i64 v1)] [] =
 (cond (decide (v1 = 1))
 (cond (decide (v0 = 3))
 (some ([.one (.bool true)], []))
 (cond (decide (v0 = 4))
 (some ([.one (.bool true)], []))
 (some ([.one (.bool (decide (v0 = 13)))], []))))
 (some ([.one (.bool false)], []))) := by kernel_rfl
theorem uH (n : Nat) (v0 v1 : Int) (v2 : List T) (v3 v4 : Int) (v5 : List T) (v6 : Int) : FF (n + 1) 153 [.agg [.int .i64 v0, .int .i64 v1, .fr (.ts v2)], .agg [.int .i64 v3, .int .i64 v4, .fr (.ts v5)], .one (.int .i64 v6)] [] =
 ((FF n 172 [.agg [.int .i64 v0, .int .i64 v1, .fr (.ts v2)], .agg [.int .i64 v3, .int .i64 v4, .fr (.ts v5)]] []).bind fun x0 =>
 (ar x0.1 fun x1 x2 =>
 (ai x2 (aj x0.2
 (cond x1
 (some ([.one (.int .i64 1)], []))
 ((FF n 51 [.agg [.int .i64 v0, .int .i64 v1, .fr (.ts v2)], .one (.int .i64 v6), .one (.bool false)] []).bind fun x3 =>
 (ah x3.1 fun x4 x5 =>
 (aw .i64 x5 fun x6 x7 =>
 (ai x7 (aj x3.2
 ((FF n 51 [.agg [.int .i64 v3, .int .i64 v4, .fr (.ts v5)], .one (.int .i64 v6), .one (.bool false)] []).bind fun x8 =>
 (ah x8.1 fun x9 x10 =>
 (aw .i64 x10 fun x11 x12 =>
 (ai x12 (aj x8.2
 (cond (!decide (x6 = 0))
 (some ([.one (.int .i64 3)], []))
 (cond (!decide (x11 = 0))
 (some ([.one (.int .i64 3)], []))
 ((FF n 172 [.agg [.int .i64 x4.k, .int .i64 x4.n, .fr (.ts x4.kids)], .agg [.int .i64 x9.k, .int .i64 x9.n, .fr (.ts x9.kids)]] []).bind fun x13 =>
 (ar x13.1 fun x14 x15 =>
 (ai x15 (aj x13.2
 (cond x14
 (some ([.one (.int .i64 1)], []))
 (some ([.one (.int .i64 2)], [])))))))))))))))))))))))) := by kernel_rfl
theorem rj (n : Nat) (v0 : ByteArray) (v1 v2 : Int) : FF (n + 1) 154 [.one (.str v0), .one (.int .i64 v1), .one (.int .i64 v2)] [] =
 (cond (decide (v2 < 1))
 (some ([.agg [.int .i64 0, .int .i64 0, .fr (.ts [])], .one (.int .i64 (-1))], []))
 (cond (decide (v1 < 0))
 (some ([.agg [.int .i64 0, .int .i64 0, .fr (.ts [])], .one (.int .i64 (-1))], []))
 (cond (decide ((v0.size : Int) ≤ v1))
 (some ([.agg [.int .i64 0, .int .i64 0, .fr (.ts [])], .one (.int .i64 (-1))], []))
 (cond (decide (0 ≤ v1) && decide (v1 < ((v0.size : Nat) : Int)))
 (cond (decide (((aU v0 (v1 : Int).toNat).toNat : Int) = 35))
 ((FF n 173 [.one (.str v0), .one (.int .i64 (IntKind.i64.wrap (v1 + 1))), .one (.int .i64 2)] []).bind fun x0 =>
 (aw .i64 x0.1 fun x1 x2 =>
 (aw .i64 x2 fun x3 x4 =>
 (ai x4 (aj x0.2
 ((FF n 82 [.one (.int .i64 1), .one (.int .i64 x1)] []).bind fun x5 =>
 (ah x5.1 fun x6 x7 =>
 (ai x7 (aj x5.2
 (some ([.agg [.int .i64 x6.k, .int .i64 x6.n, .fr (.ts x6.kids)], .one (.int .i64 x3)], [])))))))))))
 (cond (decide (((aU v0 (v1 : Int).toNat).toNat : Int) = 42))
 ((FF n 173 [.one (.str v0), .one (.int .i64 (IntKind.i64.wrap (v1 + 1))), .one (.int .i64 1)] []).bind fun x0 =>
 (aw .i64 x0.1 fun x1 x2 =>
 (aw .i64 x2 fun x3 x4 =>
 (ai x4 (aj x0.2
 ((FF n 82 [.one (.int .i64 2), .one (.int .i64 x1)] []).bind fun x5 =>
 (ah x5.1 fun x6 x7 =>
 (ai x7 (aj x5.2
 (some ([.agg [.int .i64 x6.k, .int .i64 x6.n, .fr (.ts x6.kids)], .one (.int .i64 x3)], [])))))))))))
 (cond (decide (((aU v0 (v1 : Int).toNat).toNat : Int) = 78))
 ((FF n 82 [.one (.int .i64 6), .one (.int .i64 0)] []).bind fun x0 =>
 (ah x0.1 fun x1 x2 =>
 (ai x2 (aj x0.2
 (some ([.agg [.int .i64 x1.k, .int .i64 x1.n, .fr (.ts x1.kids)], .one (.int .i64 (IntKind.i64.wrap (v1 + 1)))], []))))))
 (cond (decide (((aU v0 (v1 : Int).toNat).toNat : Int) = 48))
 ((FF n 82 [.one (.int .i64 7), .one (.int .i64 0)] []).bind fun x0 =>
 (ah x0.1 fun x1 x2 =>
 (ai x2 (aj x0.2
 (some ([.agg [.int .i64 x1.k, .int .i64 x1.n, .fr (.ts x1.kids)], .one (.int .i64 (IntKind.i64.wrap (v1 + 1)))], []))))))
 (cond (decide (((aU v0 (v1 : Int).toNat).toNat : Int) = 43))
 ((FF n 174 [.one (.str v0), .one (.int .i64 v1), .one (.int .i64 v2)] []).bind fun x0 =>
 (ah x0.1 fun x1 x2 =>
 (aw .i64 x2 fun x3 x4 =>
 (ai x4 (aj x0.2
 (some ([.agg [.int .i64 x1.k, .int .i64 x1.n, .fr (.ts x1.kids)], .one (.int .i64 x3)], [])))))))
 (cond (decide (((aU v0 (v1 : Int).toNat).toNat : Int) = 33))
 ((FF n 174 [.one (.str v0), .one (.int .i64 v1), .one (.int .i64 v2)] []).bind fun x0 =>
 (ah x0.1 fun x1 x2 =>
 (aw .i64 x2 fun x3 x4 =>
 (ai x4 (aj x0.2
 (some ([.agg [.int .i64 x1.k, .int .i64 x1.n, .fr (.ts x1.kids)], .one (.int .i64 x3)], [])))))))
 (cond (decide (((aU v0 (v1 : Int).toNat).toNat : Int) = 94))
 ((FF n 174 [.one (.str v0), .one (.int .i64 v1), .one (.int .i64 v2)] []).bind fun x0 =>
 (ah x0.1 fun x1 x2 =>
 (aw .i64 x2 fun x3 x4 =>
 (ai x4 (aj x0.2
 (some ([.agg [.int .i64 x1.k, .int .i64 x1.n, .fr (.ts x1.kids)], .one (.int .i64 x3)], [])))))))
 (cond (decide (((aU v0 (v1 : Int).toNat).toNat : Int) = 95))
 ((FF n 174 [.one (.str v0), .one (.int .i64 v1), .one (.int .i64 v2)] []).bind fun x0 =>
 (ah x0.1 fun x1 x2 =>
 (aw .i64 x2 fun x3 x4 =>
 (ai x4 (aj x0.2
 (some ([.agg [.int .i64 x1.k, .int .i64 x1.n, .fr (.ts x1.kids)], .one (.int .i64 x3)], [])))))))
 (cond (decide (((aU v0 (v1 : Int).toNat).toNat : Int) = 40))
 ((FF n 175 [.one (.str v0), .one (.int .i64 (IntKind.i64.wrap (v1 + 1))), .one (.int .i64 (IntKind.i64.wrap (v2 - 1)))] []).bind fun x0 =>
 (ah x0.1 fun x1 x2 =>
 (aw .i64 x2 fun x3 x4 =>
 (ai x4 (aj x0.2
 (some ([.agg [.int .i64 x1.k, .int .i64 x1.n, .fr (.ts x1.kids)], .one (.int .i64 x3)], [])))))))
 (cond (decide (((aU v0 (v1 : Int).toNat).toNat : Int) = 91))
 ((FF n 154 [.one (.str v0), .one (.int .i64 (IntKind.i64.wrap (v1 + 1))), .one (.int .i64 (IntKind.i64.wrap (v2 - 1)))] []).bind fun x0 =>
 (ah x0.1 fun x1 x2 =>
 (aw .i64 x2 fun x3 x4 =>
 (ai x4 (aj x0.2
 (cond (decide (x3 < 0))
 (some ([.agg [.int .i64 0, .int .i64 0, .fr (.ts [])], .one (.int .i64 (-1))], []))
 (cond (decide ((v0.size : Int) ≤ x3))
 (some ([.agg [.int .i64 0, .int .i64 0, .fr (.ts [])], .one (.int .i64 (-1))], []))
 (cond (decide (0 ≤ x3) && decide (x3 < ((v0.size : Nat) : Int)))
 (cond (!decide (((aU v0 (x3 : Int).toNat).toNat : Int) = 93))
 (some ([.agg [.int .i64 0, .int .i64 0, .fr (.ts [])], .one (.int .i64 (-1))], []))
 ((FF n 154 [.one (.str v0), .one (.int .i64 (IntKind.i64.wrap (x3 + 1))), .one (.int .i64 (IntKind.i64.wrap (v2 - 1)))] []).bind fun x5 =>
 (ah x5.1 fun x6 x7 =>
 (aw .i64 x7 fun x8 x9 =>
 (ai x9 (aj x5.2
 ((FF n 81 [.one (.int .i64 4), .one (.fr (.ts [(T.mk x1.k x1.n x1.kids), (T.mk x6.k x6.n x6.kids)]))] []).bind fun x10 =>
 (ah x10.1 fun x11 x12 =>
 (ai x12 (aj x10.2
 (some ([.agg [.int .i64 x11.k, .int .i64 x11.n, .fr (.ts x11.kids)], .one (.int .i64 x8)], []))))))))))))
 none))))))))
 ((FF n 176 [.one (.str v0), .one (.int .i64 v1), .one (.int .i64 v2)] []).bind fun x0 =>
 (ah x0.1 fun x1 x2 =>
 (aw .i64 x2 fun x3 x4 =>
 (ai x4 (aj x0.2
 (some ([.agg [.int .i64 x1.k, .int .i64 x1.n, .fr (.ts x1.kids)], .one (.int .i64 x3)], [])))))))))))))))))
 none)))) := by kernel_rfl
theorem nn (n : Nat) (v0 v1 : Int) (v2 : List T) : FF (n + 1) 155 [.agg [.int .i64 v0, .int .i64 v1, .fr (.ts v2)]] [] =
 ((FF n 65 [.agg [.int .i64 v0, .int .i64 v1, .fr (.ts v2)]] []).bind fun x0 =>
 (ar x0.1 fun x1 x2 =>
 (ai x2 (aj x0.2
 (cond (!x1)
 (some ([.one (.str (bytesOf []))], []))
 ((FF n 177 [.agg [.int .i64 v0, .int .i64 v1, .fr (.ts v2)]] []).bind fun x3 =>
 (mL x3.1 fun x4 x5 =>
 (ai x5 (aj x3.2
 (some ([.one (.str x4)], []))))))))))) := by kernel_rfl
theorem q6 (n : Nat) (v0 v1 : Int) (v2 : List T) : FF (n + 1) 156 [.agg [.int .i64 v0, .int .i64 v1, .fr (.ts v2)]] [] =
 (cond (decide (v0 = 5))
 (v2[(0 : Int).toNat]?.bind fun x0 =>
 (cond (decide (x0.k = 4))
 (some ([.one (.int .i64 1)], []))
 (some ([.one (.int .i64 0)], []))))
 (cond (decide (v0 = 9))
 (v2[(3 : Int).toNat]?.bind fun x0 =>
 (cond (decide (x0.k = 7))
 (some ([.one (.int .i64 2)], []))
 (v2[(3 : Int).toNat]?.bind fun x1 =>
 (cond (decide (x1.k = 8))
 (some ([.one (.int .i64 3)], []))
 (some ([.one (.int .i64 0)], []))))))
 (cond (decide (v0 = 12))
 (v2[(1 : Int).toNat]?.bind fun x0 =>
 (cond (decide (x0.k = 11))
 (some ([.one (.int .i64 4)], []))
 (some ([.one (.int .i64 0)], []))))
 (cond (decide (v0 = 15))
 (v2[(0 : Int).toNat]?.bind fun x0 =>
 (cond (decide (x0.k = 14))
 (some ([.one (.int .i64 5)], []))
 (some ([.one (.int .i64 0)], []))))
 (cond (decide (v0 = 16))
 (v2[(0 : Int).toNat]?.bind fun x0 =>
 (cond (decide (x0.k = 14))
 (some ([.one (.int .i64 6)], []))
 (some ([.one (.int .i64 0)], []))))
 (some ([.one (.int .i64 0)], []))))))) := by kernel_rfl
theorem nC (n : Nat) (v0 v1 : Int) (v2 : List T) : FF (n + 1) 157 [.agg [.int .i64 v0, .int .i64 v1, .fr (.ts v2)]] [] =
 ((FF n 156 [.agg [.int .i64 v0, .int .i64 v1, .fr (.ts v2)]] []).bind fun x0 =>
 (aw .i64 x0.1 fun x1 x2 =>
 (ai x2 (aj x0.2
 (cond (decide (x1 = 1))
 (v2[(0 : Int).toNat]?.bind fun x3 =>
 ((x3.kids)[(1 : Int).toNat]?.bind fun x4 =>
 (v2[(1 : Int).toNat]?.bind fun x5 =>
 ((FF n 168 [.agg [.int .i64 x4.k, .int .i64 x4.n, .fr (.ts x4.kids)], .one (.int .i64 0), .agg [.int .i64 x5.k, .int .i64 x5.n, .fr (.ts x5.kids)], .one (.int .i64 0)] []).bind fun x6 =>
 (ah x6.1 fun x7 x8 =>
 (ai x8 (aj x6.2
 (some ([.agg [.int .i64 x7.k, .int .i64 x7.n, .fr (.ts x7.kids)]], [])))))))))
 (cond (decide (x1 = 2))
 (v2[(1 : Int).toNat]?.bind fun x3 =>
 ((FF n 90 [.agg [.int .i64 x3.k, .int .i64 x3.n, .fr (.ts x3.kids)]] []).bind fun x4 =>
 (fL 0 x4.1 fun x5 x6 x7 =>
 (cf 25 x4.2 fun x8 x9 =>
 (ai x7 (aj x9
 (some ([.agg [.int .i64 x5, .int .i64 x6, .fr (.ts x8)]], []))))))))
 (cond (decide (x1 = 3))
 (v2[(3 : Int).toNat]?.bind fun x3 =>
 ((x3.kids)[(0 : Int).toNat]?.bind fun x4 =>
 (v2[(0 : Int).toNat]?.bind fun x5 =>
 ((FF n 90 [.agg [.int .i64 x5.k, .int .i64 x5.n, .fr (.ts x5.kids)]] []).bind fun x6 =>
 (fL 0 x6.1 fun x7 x8 x9 =>
 (cf 25 x6.2 fun x10 x11 =>
 (ai x9 (aj x11
 (v2[(1 : Int).toNat]?.bind fun x12 =>
 ((FF n 90 [.agg [.int .i64 x12.k, .int .i64 x12.n, .fr (.ts x12.kids)]] []).bind fun x13 =>
 (fL 0 x13.1 fun x14 x15 x16 =>
 (cf 25 x13.2 fun x17 x18 =>
 (ai x16 (aj x18
 (v2[(2 : Int).toNat]?.bind fun x19 =>
 ((FF n 90 [.agg [.int .i64 x19.k, .int .i64 x19.n, .fr (.ts x19.kids)]] []).bind fun x20 =>
 (fL 0 x20.1 fun x21 x22 x23 =>
 (cf 25 x20.2 fun x24 x25 =>
 (ai x23 (aj x25
 ((FF n 90 [.agg [.int .i64 x4.k, .int .i64 x4.n, .fr (.ts x4.kids)]] []).bind fun x26 =>
 (fL 0 x26.1 fun x27 x28 x29 =>
 (cf 25 x26.2 fun x30 x31 =>
 (ai x29 (aj x31
 ((FF n 81 [.one (.int .i64 9), .one (.fr (.ts [(T.mk x7 x8 x10), (T.mk x14 x15 x17), (T.mk x21 x22 x24), (T.mk x27 x28 x30)]))] []).bind fun x32 =>
 (ah x32.1 fun x33 x34 =>
 (ai x34 (aj x32.2
 (v2[(2 : Int).toNat]?.bind fun x35 =>
 ((FF n 90 [.agg [.int .i64 x35.k, .int .i64 x35.n, .fr (.ts x35.kids)]] []).bind fun x36 =>
 (fL 0 x36.1 fun x37 x38 x39 =>
 (cf 25 x36.2 fun x40 x41 =>
 (ai x39 (aj x41
 ((FF n 90 [.agg [.int .i64 x4.k, .int .i64 x4.n, .fr (.ts x4.kids)]] []).bind fun x42 =>
 (fL 0 x42.1 fun x43 x44 x45 =>
 (cf 25 x42.2 fun x46 x47 =>
 (ai x45 (aj x47
 ((FF n 81 [.one (.int .i64 5), .one (.fr (.ts [(T.mk x37 x38 x40), (T.mk x43 x44 x46)]))] []).bind fun x48 =>
 (ah x48.1 fun x49 x50 =>
 (ai x50 (aj x48.2
 ((FF n 81 [.one (.int .i64 5), .one (.fr (.ts [(T.mk x49.k x49.n x49.kids), (T.mk x33.k x33.n x33.kids)]))] []).bind fun x51 =>
 (ah x51.1 fun x52 x53 =>
 (ai x53 (aj x51.2
 (some ([.agg [.int .i64 x52.k, .int .i64 x52.n, .fr (.ts x52.kids)]], []))))))))))))))))))))))))))))))))))))))))))))))))))
 (cond (decide (x1 = 4))
 (v2[(2 : Int).toNat]?.bind fun x3 =>
 ((FF n 90 [.agg [.int .i64 x3.k, .int .i64 x3.n, .fr (.ts x3.kids)]] []).bind fun x4 =>
 (fL 0 x4.1 fun x5 x6 x7 =>
 (cf 25 x4.2 fun x8 x9 =>
 (ai x7 (aj x9
 (some ([.agg [.int .i64 x5, .int .i64 x6, .fr (.ts x8)]], []))))))))
 (cond (decide (x1 = 5))
 (v2[(0 : Int).toNat]?.bind fun x3 =>
 ((x3.kids)[(1 : Int).toNat]?.bind fun x4 =>
 ((FF n 90 [.agg [.int .i64 x4.k, .int .i64 x4.n, .fr (.ts x4.kids)]] []).bind fun x5 =>
 (fL 0 x5.1 fun x6 x7 x8 =>
 (cf 25 x5.2 fun x9 x10 =>
 (ai x8 (aj x10
 (some ([.agg [.int .i64 x6, .int .i64 x7, .fr (.ts x9)]], [])))))))))
 (v2[(0 : Int).toNat]?.bind fun x3 =>
 ((x3.kids)[(2 : Int).toNat]?.bind fun x4 =>
 ((FF n 90 [.agg [.int .i64 x4.k, .int .i64 x4.n, .fr (.ts x4.kids)]] []).bind fun x5 =>
 (fL 0 x5.1 fun x6 x7 x8 =>
 (cf 25 x5.2 fun x9 x10 =>
 (ai x8 (aj x10
 (some ([.agg [.int .i64 x6, .int .i64 x7, .fr (.ts x9)]], [])))))))))))))))))) := by kernel_rfl
theorem qX (n : Nat) (v0 v1 : Int) (v2 : List T) : FF (n + 1) 94 [.agg [.int .i64 v0, .int .i64 v1, .fr (.ts v2)]] [] =
 ((FF n 59 [.agg [.int .i64 v0, .int .i64 v1, .fr (.ts v2)]] []).bind fun x0 =>
 (ar x0.1 fun x1 x2 =>
 (ai x2 (aj x0.2
 (some ([.one (.bool (!x1))], [])))))) := by kernel_rfl
theorem mZ (n : Nat) (v0 v1 : Int) (v2 : List T) (v3 : Int) : FF (n + 1) 158 [.agg [.int .i64 v0, .int .i64 v1, .fr (.ts v2)], .one (.int .i64 v3)] [] =
 ((FF n 76 [.agg [.int .i64 v0, .int .i64 v1, .fr (.ts v2)], .one (.int .i64 v3), .one (.fn 178 [])] []).bind fun x0 =>
 (ah x0.1 fun x1 x2 =>
 (aw .i64 x2 fun x3 x4 =>
 (aw .i64 x4 fun x5 x6 =>
 (ai x6 (aj x0.2
 (some ([.agg [.int .i64 x1.k, .int .i64 x1.n, .fr (.ts x1.kids)], .one (.int .i64 x5)], [])))))))) := by kernel_rfl
theorem rh (n : Nat) (v0 v1 v2 v3 v4 : Int) (v5 : List T) (v6 : Bool) : FF (n + 1) 120 [.one (.int .i64 v0), .one (.int .i64 v1), .one (.ptr 0 0), .one (.ptr 1 0), .one (.ptr 2 0)] [.cells [.int .i64 v2], .cells [.int .i64 v3, .int .i64 v4, .fr (.ts v5)], .cells [.bool v6]] =
 (cond (decide ((IntKind.i64.wrap (v0 - v1)) = v2))
 ((FF n 73 [.agg [.int .i64 v3, .int .i64 v4, .fr (.ts v5)], .one (.int .i64 v1), .one (.int .i64 0)] []).bind fun x0 =>
 (ah x0.1 fun x1 x2 =>
 (ar x2 fun x3 x4 =>
 (ai x4 (aj x0.2
 (cond v6
 (some ([.agg [.int .i64 x1.k, .int .i64 x1.n, .fr (.ts x1.kids)]], [.cells [.int .i64 v2], .cells [.int .i64 v3, .int .i64 v4, .fr (.ts v5)], .cells [.bool x3]]))
 (some ([.agg [.int .i64 x1.k, .int .i64 x1.n, .fr (.ts x1.kids)]], [.cells [.int .i64 v2], .cells [.int .i64 v3, .int .i64 v4, .fr (.ts v5)], .cells [.bool false]]))))))))
 (cond (decide (v2 < (IntKind.i64.wrap (v0 - v1))))
 ((FF n 68 [.one (.int .i64 (IntKind.i64.wrap (v0 - 1)))] []).bind fun x0 =>
 (ah x0.1 fun x1 x2 =>
 (ai x2 (aj x0.2
 (some ([.agg [.int .i64 x1.k, .int .i64 x1.n, .fr (.ts x1.kids)]], [.cells [.int .i64 v2], .cells [.int .i64 v3, .int .i64 v4, .fr (.ts v5)], .cells [.bool v6]]))))))
 ((FF n 68 [.one (.int .i64 v0)] []).bind fun x0 =>
 (ah x0.1 fun x1 x2 =>
 (ai x2 (aj x0.2
 (some ([.agg [.int .i64 x1.k, .int .i64 x1.n, .fr (.ts x1.kids)]], [.cells [.int .i64 v2], .cells [.int .i64 v3, .int .i64 v4, .fr (.ts v5)], .cells [.bool v6]])))))))) := by kernel_rfl
theorem fk (n : Nat) (v0 : List T) (v1 v2 : Int) (v3 : List T) (v4 : Int) (v5 : List T) (v6 v7 : Int) (v8 : List T) : FF (n + 1) 161 [.agg [.fr (.ts v0), .int .i64 v1, .int .i64 v2, .fr (.ts v3), .fn 98 [0, 1]], .one (.int .i64 v4)] [.cells [.fr (.ts v5)], .cells [.int .i64 v6, .int .i64 v7, .fr (.ts v8)]] =
 ((FF n 128 [.agg [.fr (.ts v0), .int .i64 v1, .int .i64 v2, .fr (.ts v3), .fn 98 [0, 1]], .one (.int .i64 v4), .one (.int .i64 2)] [.cells [.fr (.ts v5)], .cells [.int .i64 v6, .int .i64 v7, .fr (.ts v8)]]).bind fun x0 =>
 (ba x0.2 fun x1 x2 =>
 (tsC x1 fun x3 x4 =>
 (bh x4
 (ba x2 fun x5 x6 =>
 (bj .i64 x5 fun x7 x8 =>
 (bj .i64 x8 fun x9 x10 =>
 (tsC x10 fun x11 x12 =>
 (bh x12
 (ah x0.1 fun x13 x14 =>
 (aw .i64 x14 fun x15 x16 =>
 (ai x16 (aj x6
 (some ([.one (.int .i64 x13.n), .one (.int .i64 x15)], [.cells [.fr (.ts x3)], .cells [.int .i64 x7, .int .i64 x9, .fr (.ts x11)]]))))))))))))))) := by kernel_rfl
theorem eR (n : Nat) (v0 : List T) (v1 v2 : Int) (v3 : List T) (v4 v5 v6 : Int) (v7 v8 : List T) (v9 v10 : Int) (v11 : List T) : FF (n + 1) 162 [.agg [.fr (.ts v0), .int .i64 v1, .int .i64 v2, .fr (.ts v3), .fn 98 [0, 1]], .one (.int .i64 v4), .agg [.int .i64 v5, .int .i64 v6, .fr (.ts v7)]] [.cells [.fr (.ts v8)], .cells [.int .i64 v9, .int .i64 v10, .fr (.ts v11)]] =
 ((FF n 128 [.agg [.fr (.ts v0), .int .i64 v1, .int .i64 v2, .fr (.ts v3), .fn 98 [0, 1]], .one (.int .i64 v4), .one (.int .i64 3)] [.cells [.fr (.ts v8)], .cells [.int .i64 v9, .int .i64 v10, .fr (.ts v11)]]).bind fun x0 =>
 (ba x0.2 fun x1 x2 =>
 (tsC x1 fun x3 x4 =>
 (bh x4
 (ba x2 fun x5 x6 =>
 (bj .i64 x5 fun x7 x8 =>
 (bj .i64 x8 fun x9 x10 =>
 (tsC x10 fun x11 x12 =>
 (bh x12
 (ah x0.1 fun x13 x14 =>
 (aw .i64 x14 fun x15 x16 =>
 (ai x16 (aj x6
 (cond (!decide (x15 = 0))
 (some ([.one (.int .i64 x15)], [.cells [.fr (.ts x3)], .cells [.int .i64 x7, .int .i64 x9, .fr (.ts x11)]]))
 ((x13.kids)[(0 : Int).toNat]?.bind fun x17 =>
 ((FF n 96 [.agg [.int .i64 x17.k, .int .i64 x17.n, .fr (.ts x17.kids)], .agg [.int .i64 v5, .int .i64 v6, .fr (.ts v7)]] []).bind fun x18 =>
 (aw .i64 x18.1 fun x19 x20 =>
 (ai x20 (aj x18.2
 (cond (!decide (x19 = 0))
 (some ([.one (.int .i64 x19)], [.cells [.fr (.ts x3)], .cells [.int .i64 x7, .int .i64 x9, .fr (.ts x11)]]))
 ((x13.kids)[(1 : Int).toNat]?.bind fun x21 =>
 ((FF n 119 [.agg [.int .i64 x21.k, .int .i64 x21.n, .fr (.ts x21.kids)], .one (.int .i64 2)] []).bind fun x22 =>
 (ah x22.1 fun x23 x24 =>
 (aw .i64 x24 fun x25 x26 =>
 (ai x26 (aj x22.2
 (some ([.one (.int .i64 x25)], [.cells [.fr (.ts x3)], .cells [.int .i64 x7, .int .i64 x9, .fr (.ts x11)]])))))))))))))))))))))))))))) := by kernel_rfl
theorem qC (n : Nat) (v0 v1 : Int) (v2 : List T) : FF (n + 1) 163 [.agg [.int .i64 v0, .int .i64 v1, .fr (.ts v2)]] [] =
 ((FF n 73 [.agg [.int .i64 v0, .int .i64 v1, .fr (.ts v2)], .one (.int .i64 1), .one (.int .i64 0)] []).bind fun x0 =>
 (ah x0.1 fun x1 x2 =>
 (ar x2 fun x3 x4 =>
 (ai x4 (aj x0.2
 ((FF n 73 [.agg [.int .i64 v0, .int .i64 v1, .fr (.ts v2)], .one (.int .i64 2), .one (.int .i64 0)] []).bind fun x5 =>
 (ah x5.1 fun x6 x7 =>
 (ar x7 fun x8 x9 =>
 (ai x9 (aj x5.2
 ((FF n 70 [.one (.int .i64 6), .one (.emp none)] []).bind fun x10 =>
 (ah x10.1 fun x11 x12 =>
 (ai x12 (aj x10.2
 ((FF n 68 [.one (.int .i64 0)] []).bind fun x13 =>
 (ah x13.1 fun x14 x15 =>
 (ai x15 (aj x13.2
 ((FF n 70 [.one (.int .i64 5), .one (.fr (.ts [(T.mk x1.k x1.n x1.kids), (T.mk x14.k x14.n x14.kids)]))] []).bind fun x16 =>
 (ah x16.1 fun x17 x18 =>
 (ai x18 (aj x16.2
 ((FF n 68 [.one (.int .i64 1)] []).bind fun x19 =>
 (ah x19.1 fun x20 x21 =>
 (ai x21 (aj x19.2
 ((FF n 70 [.one (.int .i64 8), .one (.fr (.ts [(T.mk x20.k x20.n x20.kids)]))] []).bind fun x22 =>
 (ah x22.1 fun x23 x24 =>
 (ai x24 (aj x22.2
 ((FF n 70 [.one (.int .i64 5), .one (.fr (.ts [(T.mk x6.k x6.n x6.kids), (T.mk x23.k x23.n x23.kids)]))] []).bind fun x25 =>
 (ah x25.1 fun x26 x27 =>
 (ai x27 (aj x25.2
 ((FF n 70 [.one (.int .i64 3), .one (.fr (.ts [(T.mk x17.k x17.n x17.kids), (T.mk x26.k x26.n x26.kids)]))] []).bind fun x28 =>
 (ah x28.1 fun x29 x30 =>
 (ai x30 (aj x28.2
 ((FF n 70 [.one (.int .i64 3), .one (.fr (.ts [(T.mk x11.k x11.n x11.kids), (T.mk x29.k x29.n x29.kids)]))] []).bind fun x31 =>
 (ah x31.1 fun x32 x33 =>
 (ai x33 (aj x31.2
 (cond x3
 ((FF n 123 [.agg [.int .i64 x32.k, .int .i64 x32.n, .fr (.ts x32.kids)], .one (.bool x8)] []).bind fun x34 =>
 (ah x34.1 fun x35 x36 =>
 (aw .i64 x36 fun x37 x38 =>
 (ai x38 (aj x34.2
 (some ([.agg [.int .i64 x35.k, .int .i64 x35.n, .fr (.ts x35.kids)], .one (.int .i64 x37)], [])))))))
 ((FF n 123 [.agg [.int .i64 x32.k, .int .i64 x32.n, .fr (.ts x32.kids)], .one (.bool false)] []).bind fun x34 =>
 (ah x34.1 fun x35 x36 =>
 (aw .i64 x36 fun x37 x38 =>
 (ai x38 (aj x34.2
 (some ([.agg [.int .i64 x35.k, .int .i64 x35.n, .fr (.ts x35.kids)], .one (.int .i64 x37)], [])))))))))))))))))))))))))))))))))))))))))))))))))) := by kernel_rfl
theorem dm (n : Nat) (v0 : List T) (v1 v2 : Int) (v3 : List T) (v4 : Int) : FF (n + 1) 99 [.one (.fr (.ts v0)), .agg [.int .i64 v1, .int .i64 v2, .fr (.ts v3)], .one (.int .i64 v4)] [] =
 ((FF n 121 [.one (.int .i64 v1), .one (.int .i64 v4)] []).bind fun x0 =>
 (aw .i64 x0.1 fun x1 x2 =>
 (ai x2 (aj x0.2
 (cond (decide (x1 = 0))
 (some ([.one (.fr (.ts v0)), .one (.int .i64 0)], []))
 (v3[(0 : Int).toNat]?.bind fun x3 =>
 ((FF n 122 [.one (.fr (.ts v0)), .agg [.int .i64 x3.k, .int .i64 x3.n, .fr (.ts x3.kids)]] []).bind fun x4 =>
 (rTs x4.1 fun x5 x6 =>
 (aw .i64 x6 fun x7 x8 =>
 (ai x8 (aj x4.2
 (some ([.one (.fr (.ts x5)), .one (.int .i64 x7)], []))))))))))))) := by kernel_rfl
theorem qE (n : Nat) (v0 : Int) : FF (n + 1) 159 [.one (.int .i64 v0)] [] =
 (cond (decide (v0 = 3))
 (some ([.one (.bool true)], []))
 (cond (decide (v0 = 4))
 (some ([.one (.bool true)], []))
 (some ([.one (.bool (decide (v0 = 13)))], [])))) := by kernel_rfl
theorem nv (n : Nat) (v0 v1 : Int) (v2 : List T) : FF (n + 1) 107 [.agg [.int .i64 v0, .int .i64 v1, .fr (.ts v2)]] [] =
 ((FF n 59 [.agg [.int .i64 v0, .int .i64 v1, .fr (.ts v2)]] []).bind fun x0 =>
 (ar x0.1 fun x1 x2 =>
 (ai x2 (aj x0.2
 (some ([.one (.bool (!x1))], [])))))) := by kernel_rfl
theorem mP (n : Nat) (v0 v1 : Int) (v2 : List T) : FF (n + 1) 164 [.agg [.int .i64 v0, .int .i64 v1, .fr (.ts v2)]] [] =
 ((FF n 156 [.agg [.int .i64 v0, .int .i64 v1, .fr (.ts v2)]] []).bind fun x0 =>
 (aw .i64 x0.1 fun x1 x2 =>
 (ai x2 (aj x0.2
 (cond (!decide (x1 = 0))
 ((FF n 157 [.agg [.int .i64 v0, .int .i64 v1, .fr (.ts v2)]] []).bind fun x3 =>
 (ah x3.1 fun x4 x5 =>
 (ai x5 (aj x3.2
 (some ([.agg [.int .i64 x4.k, .int .i64 x4.n, .fr (.ts x4.kids)], .one (.bool true)], []))))))
 ((FF n 179 [.one (.int .i64 v0)] []).bind fun x3 =>
 (aw .i64 x3.1 fun x4 x5 =>
 (ai x5 (aj x3.2
 (cond (decide (x4 < 0))
 (some ([.agg [.int .i64 v0, .int .i64 v1, .fr (.ts v2)], .one (.bool false)], []))
 (cond (decide (0 ≤ x4))
 (v2[(x4 : Int).toNat]?.bind fun x6 =>
 ((FF n 164 [.agg [.int .i64 x6.k, .int .i64 x6.n, .fr (.ts x6.kids)]] []).bind fun x7 =>
 (ah x7.1 fun x8 x9 =>
 (ar x9 fun x10 x11 =>
 (ai x11 (aj x7.2
 (cond (!x10)
 (some ([.agg [.int .i64 v0, .int .i64 v1, .fr (.ts v2)], .one (.bool false)], []))
 ((FF n 91 [.agg [.int .i64 v0, .int .i64 v1, .fr (.ts v2)], .one (.int .i64 x4), .agg [.int .i64 x8.k, .int .i64 x8.n, .fr (.ts x8.kids)]] []).bind fun x12 =>
 (ah x12.1 fun x13 x14 =>
 (ai x14 (aj x12.2
 (some ([.agg [.int .i64 x13.k, .int .i64 x13.n, .fr (.ts x13.kids)], .one (.bool true)], [])))))))))))))
 none))))))))))) := by kernel_rfl
theorem tD (n : Nat) (v0 : List T) (v1 v2 : Int) (v3 : List T) : FF (n + 1) 165 [.one (.fr (.ts v0)), .agg [.int .i64 v1, .int .i64 v2, .fr (.ts v3)]] [] =
 (cond (cn ([] ++ v0).length)
 (cond (cn (([] ++ v0) ++ [(T.mk v1 v2 v3)]).length)
 (some ([.one (.fr (.ts (([] ++ v0) ++ [(T.mk v1 v2 v3)])))], []))
 none)
 none) := by kernel_rfl
theorem pW (n : Nat) (v0 v1 : Int) : FF (n + 1) 166 [.one (.int .i64 v0), .one (.int .i64 v1)] [] =
 (cond (decide (v1 < v0))
 (some ([.one (.int .i64 v0)], []))
 (some ([.one (.int .i64 v1)], []))) := by kernel_rfl
theorem q9 (n : Nat) (v0 : List T) (v1 v2 : Int) (v3 : List T) (v4 : Int) : FF (n + 1) 167 [.one (.fr (.ts v0)), .agg [.int .i64 v1, .int .i64 v2, .fr (.ts v3)], .one (.int .i64 v4)] [] =
 ((FF n 74 [.one (.fr (.ts v0)), .agg [.int .i64 v1, .int .i64 v2, .fr (.ts v3)]] []).bind fun x0 =>
 (ah x0.1 fun x1 x2 =>
 (aw .i64 x2 fun x3 x4 =>
 (ai x4 (aj x0.2
 (cond (!decide (x3 = 0))
 (some ([.agg [.int .i64 0, .int .i64 0, .fr (.ts [])], .one (.int .i64 x3)], []))
 ((FF n 108 [.agg [.int .i64 x1.k, .int .i64 x1.n, .fr (.ts x1.kids)]] []).bind fun x5 =>
 (ah x5.1 fun x6 x7 =>
 (aw .i64 x7 fun x8 x9 =>
 (ai x9 (aj x5.2
 (cond (!decide (x8 = 0))
 (some ([.agg [.int .i64 0, .int .i64 0, .fr (.ts [])], .one (.int .i64 x8)], []))
 (cond (!decide (x6.k = v4))
 (some ([.agg [.int .i64 0, .int .i64 0, .fr (.ts [])], .one (.int .i64 1)], []))
 (some ([.agg [.int .i64 x6.k, .int .i64 x6.n, .fr (.ts x6.kids)], .one (.int .i64 0)], []))))))))))))))) := by kernel_rfl
noncomputable def aN (n c : Nat) (v0 v1 v2 v3 v4 : Int) (v5 : List T) (v6 v7 : Int) (v8 : List T) (v9 v10 : Int) (v11 : List T) (v12 v13 : Int) (v14 : List T) : OR := aR Tryz.prog SS n 168 0 [1, 1, 1, 1, 0, 1, 0] [] c ⟨[aa, .v (.one (.int .i64 v0)), aa, .v (.one (.int .i64 v1)), .v (.one (.ptr 0 0)), aa, .v (.one (.ptr 1 0)), aa, .v (.one (.ptr 2 0)), .v (.one (.ptr 4 0)), .v (.one (.int .i64 v2)), aa, aa, aa, aa, aa, aa, aa, aa, aa, aa, aa, aa, aa, aa, aa, aa, aa, aa, aa, aa, aa, aa, aa, aa, aa, aa, aa, aa, aa, aa, aa, aa, aa, aa, aa, aa, aa, aa, aa, aa, aa, aa, aa, aa, aa, aa, aa, aa, aa, aa, aa, aa, aa, aa, aa, aa, aa, aa, aa, aa, aa],
 [.cells [.int .i64 v3, .int .i64 v4, .fr (.ts v5)], .cells [.int .i64 v6, .int .i64 v7, .fr (.ts v8)], .cells [.int .i64 v9, .int .i64 v10, .own 3 0], .arr 25 (.ts v11) 0 false, .cells [.int .i64 v12, .int .i64 v13, .own 5 0], .arr 25 (.ts v14) 0 false]⟩
theorem dW (n c : Nat) (v0 v1 v2 v3 v4 : Int) (v5 : List T) (v6 v7 : Int) (v8 : List T) (v9 v10 : Int) (v11 : List T) (v12 v13 : Int) (v14 : List T) : aN n (c + 1) v0 v1 v2 v3 v4 v5 v6 v7 v8 v9 v10 v11 v12 v13 v14 =
 (cond (decide (v2 < (v5.length : Int)))
 ((FF n 114 [.one (.int .i64 v3), .one (.int .i64 v2)] []).bind fun x0 =>
 (aw .i64 x0.1 fun x1 x2 =>
 (ai x2 (aj x0.2
 (cond (decide (0 ≤ v2))
 (v5[(v2 : Int).toNat]?.bind fun x3 =>
 ((FF n 168 [.agg [.int .i64 x3.k, .int .i64 x3.n, .fr (.ts x3.kids)], .one (.int .i64 (IntKind.i64.wrap (v0 + x1))), .agg [.int .i64 v6, .int .i64 v7, .fr (.ts v8)], .one (.int .i64 (IntKind.i64.wrap (v1 + x1)))] []).bind fun x4 =>
 (ah x4.1 fun x5 x6 =>
 (ai x6 (aj x4.2
 (cond (cn (v14 ++ [(T.mk x5.k x5.n x5.kids)]).length)
 (aN n c v0 v1 (IntKind.i64.wrap (v2 + 1)) v3 v4 v5 v6 v7 v8 v9 v10 v11 v12 v13 (v14 ++ [(T.mk x5.k x5.n x5.kids)]))
 none))))))
 none)))))
 (some ([.agg [.int .i64 v12, .int .i64 v13, .fr (.ts v14)]], []))) := by kernel_rfl
theorem qW (n : Nat) (v0 v1 : Int) (v2 : List T) (v3 v4 v5 : Int) (v6 : List T) (v7 : Int) : FF (n + 1) 168 [.agg [.int .i64 v0, .int .i64 v1, .fr (.ts v2)], .one (.int .i64 v3), .agg [.int .i64 v4, .int .i64 v5, .fr (.ts v6)], .one (.int .i64 v7)] [] =
 (cond (decide (v0 = 1))
 (cond (decide (v1 = v3))
 ((FF n 83 [.agg [.int .i64 v4, .int .i64 v5, .fr (.ts v6)], .one (.int .i64 v7), .one (.int .i64 0)] []).bind fun x0 =>
 (ah x0.1 fun x1 x2 =>
 (ai x2 (aj x0.2
 (some ([.agg [.int .i64 x1.k, .int .i64 x1.n, .fr (.ts x1.kids)]], []))))))
 (cond (decide (v0 = 1))
 (cond (decide (v3 < v1))
 (aN n n v3 v7 0 v0 v1 v2 v4 v5 v6 0 0 ([]) v0 (IntKind.i64.wrap (v1 - 1)) ([]))
 (aN n n v3 v7 0 v0 v1 v2 v4 v5 v6 0 0 ([]) v0 v1 ([])))
 (aN n n v3 v7 0 v0 v1 v2 v4 v5 v6 0 0 ([]) v0 v1 ([]))))
 (cond (decide (v0 = 1))
 (cond (decide (v3 < v1))
 (aN n n v3 v7 0 v0 v1 v2 v4 v5 v6 0 0 ([]) v0 (IntKind.i64.wrap (v1 - 1)) ([]))
 (aN n n v3 v7 0 v0 v1 v2 v4 v5 v6 0 0 ([]) v0 v1 ([])))
 (aN n n v3 v7 0 v0 v1 v2 v4 v5 v6 0 0 ([]) v0 v1 ([])))) := by kernel_rfl
theorem pS (n : Nat) (v0 : List T) (v1 v2 : Int) (v3 : List T) (v4 v5 : Int) (v6 : List T) : FF (n + 1) 169 [.one (.fr (.ts v0)), .agg [.int .i64 v1, .int .i64 v2, .fr (.ts v3)], .agg [.int .i64 v4, .int .i64 v5, .fr (.ts v6)]] [] =
 ((FF n 167 [.one (.fr (.ts v0)), .agg [.int .i64 v1, .int .i64 v2, .fr (.ts v3)], .one (.int .i64 3)] []).bind fun x0 =>
 (ah x0.1 fun x1 x2 =>
 (aw .i64 x2 fun x3 x4 =>
 (ai x4 (aj x0.2
 (cond (!decide (x3 = 0))
 (some ([.one (.int .i64 x3)], []))
 ((x1.kids)[(0 : Int).toNat]?.bind fun x5 =>
 ((FF n 115 [.agg [.int .i64 x5.k, .int .i64 x5.n, .fr (.ts x5.kids)], .agg [.int .i64 v4, .int .i64 v5, .fr (.ts v6)]] []).bind fun x6 =>
 (aw .i64 x6.1 fun x7 x8 =>
 (ai x8 (aj x6.2
 (cond (!decide (x7 = 0))
 (some ([.one (.int .i64 x7)], []))
 ((x1.kids)[(1 : Int).toNat]?.bind fun x9 =>
 ((FF n 108 [.agg [.int .i64 x9.k, .int .i64 x9.n, .fr (.ts x9.kids)]] []).bind fun x10 =>
 (ah x10.1 fun x11 x12 =>
 (aw .i64 x12 fun x13 x14 =>
 (ai x14 (aj x10.2
 (cond (!decide (x13 = 0))
 (some ([.one (.int .i64 x13)], []))
 (cond (!decide (x11.k = 2))
 (some ([.one (.int .i64 1)], []))
 (some ([.one (.int .i64 0)], [])))))))))))))))))))))) := by kernel_rfl
theorem nj (n : Nat) (v0 v1 : Int) (v2 : List T) : FF (n + 1) 170 [.agg [.int .i64 v0, .int .i64 v1, .fr (.ts v2)]] [] =
 ((FF n 82 [.one (.int .i64 6), .one (.int .i64 0)] []).bind fun x0 =>
 (ah x0.1 fun x1 x2 =>
 (ai x2 (aj x0.2
 ((FF n 83 [.agg [.int .i64 v0, .int .i64 v1, .fr (.ts v2)], .one (.int .i64 1), .one (.int .i64 0)] []).bind fun x3 =>
 (ah x3.1 fun x4 x5 =>
 (ai x5 (aj x3.2
 ((FF n 82 [.one (.int .i64 1), .one (.int .i64 0)] []).bind fun x6 =>
 (ah x6.1 fun x7 x8 =>
 (ai x8 (aj x6.2
 ((FF n 81 [.one (.int .i64 5), .one (.fr (.ts [(T.mk x4.k x4.n x4.kids), (T.mk x7.k x7.n x7.kids)]))] []).bind fun x9 =>
 (ah x9.1 fun x10 x11 =>
 (ai x11 (aj x9.2
 ((FF n 83 [.agg [.int .i64 v0, .int .i64 v1, .fr (.ts v2)], .one (.int .i64 2), .one (.int .i64 0)] []).bind fun x12 =>
 (ah x12.1 fun x13 x14 =>
 (ai x14 (aj x12.2
 ((FF n 82 [.one (.int .i64 1), .one (.int .i64 1)] []).bind fun x15 =>
 (ah x15.1 fun x16 x17 =>
 (ai x17 (aj x15.2
 ((FF n 81 [.one (.int .i64 8), .one (.fr (.ts [(T.mk x16.k x16.n x16.kids)]))] []).bind fun x18 =>
 (ah x18.1 fun x19 x20 =>
 (ai x20 (aj x18.2
 ((FF n 81 [.one (.int .i64 5), .one (.fr (.ts [(T.mk x13.k x13.n x13.kids), (T.mk x19.k x19.n x19.kids)]))] []).bind fun x21 =>
 (ah x21.1 fun x22 x23 =>
 (ai x23 (aj x21.2
 ((FF n 81 [.one (.int .i64 3), .one (.fr (.ts [(T.mk x10.k x10.n x10.kids), (T.mk x22.k x22.n x22.kids)]))] []).bind fun x24 =>
 (ah x24.1 fun x25 x26 =>
 (ai x26 (aj x24.2
 ((FF n 81 [.one (.int .i64 3), .one (.fr (.ts [(T.mk x1.k x1.n x1.kids), (T.mk x25.k x25.n x25.kids)]))] []).bind fun x27 =>
 (ah x27.1 fun x28 x29 =>
 (ai x29 (aj x27.2
 (some ([.agg [.int .i64 x28.k, .int .i64 x28.n, .fr (.ts x28.kids)]], [])))))))))))))))))))))))))))))))))))))))))) := by kernel_rfl
theorem mi (n : Nat) (v0 : List T) (v1 v2 : Int) (v3 : List T) : FF (n + 1) 171 [.one (.fr (.ts v0)), .agg [.int .i64 v1, .int .i64 v2, .fr (.ts v3)]] [] =
 (v3[(0 : Int).toNat]?.bind fun x0 =>
 ((FF n 167 [.one (.fr (.ts v0)), .agg [.int .i64 x0.k, .int .i64 x0.n, .fr (.ts x0.kids)], .one (.int .i64 13)] []).bind fun x1 =>
 (ah x1.1 fun x2 x3 =>
 (aw .i64 x3 fun x4 x5 =>
 (ai x5 (aj x1.2
 (cond (!decide (x4 = 0))
 (some ([.agg [.int .i64 0, .int .i64 0, .fr (.ts [])], .one (.int .i64 x4)], []))
 (cond (decide (v1 = 15))
 ((x2.kids)[(0 : Int).toNat]?.bind fun x6 =>
 some ([.agg [.int .i64 x6.k, .int .i64 x6.n, .fr (.ts x6.kids)], .one (.int .i64 0)], []))
 ((x2.kids)[(1 : Int).toNat]?.bind fun x6 =>
 (v3[(0 : Int).toNat]?.bind fun x7 =>
 ((FF n 81 [.one (.int .i64 15), .one (.fr (.ts [(T.mk x7.k x7.n x7.kids)]))] []).bind fun x8 =>
 (ah x8.1 fun x9 x10 =>
 (ai x10 (aj x8.2
 ((FF n 168 [.agg [.int .i64 x6.k, .int .i64 x6.n, .fr (.ts x6.kids)], .one (.int .i64 0), .agg [.int .i64 x9.k, .int .i64 x9.n, .fr (.ts x9.kids)], .one (.int .i64 0)] []).bind fun x11 =>
 (ah x11.1 fun x12 x13 =>
 (ai x13 (aj x11.2
 (some ([.agg [.int .i64 x12.k, .int .i64 x12.n, .fr (.ts x12.kids)], .one (.int .i64 0)], [])))))))))))))))))))) := by kernel_rfl
theorem qS (n : Nat) (v0 : List T) : FF (n + 1) 160 [.one (.fr (.ts v0))] [] =
 (cond (Nat.beq v0.length 0)
 (same (some ([.one (.own 0 0)], [.arr 25 (.ts []) 0 false]))
 (cond (cn ([] ++ v0).length)
 (some ([.one (.own 0 0)], [.arr 25 (.ts ([] ++ v0)) 0 false]))
 none))
 (cond (cn ([] ++ v0).length)
 (some ([.one (.own 0 0)], [.arr 25 (.ts ([] ++ v0)) 0 false]))
 none)) := by kernel_rfl
noncomputable def dx (n c : Nat) (v0 v1 v2 : Int) (v3 : List T) (v4 v5 : Int) (v6 : List T) : OR := aR Tryz.prog SS n 172 0 [1, 1, 0, 1, 0] [] c ⟨[aa, aa, .v (.one (.ptr 0 0)), .v (.one (.ptr 1 0)), aa, .v (.one (.int .i64 v0)), aa, aa, aa, aa, aa, aa, aa, aa, aa, aa, aa, aa, aa, aa, aa, aa, aa, aa, aa, aa, aa, aa, aa, aa, aa, aa, aa, aa, aa, aa, aa, aa, aa, aa, aa, aa, aa, aa, aa, aa],
 [.cells [.int .i64 v1, .int .i64 v2, .fr (.ts v3)], .cells [.int .i64 v4, .int .i64 v5, .fr (.ts v6)]]⟩
theorem fX (n c : Nat) (v0 v1 v2 : Int) (v3 : List T) (v4 v5 : Int) (v6 : List T) : dx n (c + 1) v0 v1 v2 v3 v4 v5 v6 =
 (cond (decide (v0 < (v3.length : Int)))
 (cond (decide (0 ≤ v0))
 (v3[(v0 : Int).toNat]?.bind fun x0 =>
 (cond (decide (0 ≤ v0))
 (v6[(v0 : Int).toNat]?.bind fun x1 =>
 ((FF n 172 [.agg [.int .i64 x0.k, .int .i64 x0.n, .fr (.ts x0.kids)], .agg [.int .i64 x1.k, .int .i64 x1.n, .fr (.ts x1.kids)]] []).bind fun x2 =>
 (ar x2.1 fun x3 x4 =>
 (ai x4 (aj x2.2
 (cond (!x3)
 (some ([.one (.bool false)], []))
 (dx n c (IntKind.i64.wrap (v0 + 1)) v1 v2 v3 v4 v5 v6)))))))
 none))
 none)
 (some ([.one (.bool true)], []))) := by kernel_rfl
theorem qn (n : Nat) (v0 v1 : Int) (v2 : List T) (v3 v4 : Int) (v5 : List T) : FF (n + 1) 172 [.agg [.int .i64 v0, .int .i64 v1, .fr (.ts v2)], .agg [.int .i64 v3, .int .i64 v4, .fr (.ts v5)]] [] =
 (cond (!decide (v0 = v3))
 (some ([.one (.bool false)], []))
 (cond (!decide (v1 = v4))
 (some ([.one (.bool false)], []))
 (cond (!decide ((v2.length : Int) = (v5.length : Int)))
 (some ([.one (.bool false)], []))
 (dx n n 0 v0 v1 v2 v3 v4 v5)))) := by kernel_rfl
noncomputable def du (n c : Nat) (v0 : ByteArray) (v1 v2 v3 : Int) : OR := aR Tryz.prog SS n 173 0 [1, 1, 0, 0] [] c ⟨[.v (.one (.str v0)), .v (.one (.int .i64 v1)), .v (.one (.int .i64 v2)), aa, aa, aa, aa, aa, .v (.one (.int .i64 v3)), aa, aa, aa, aa, aa, aa, aa, aa, aa, aa, aa, aa, aa, aa, aa, aa, aa, aa, aa, aa, aa, aa, aa, aa, aa, aa, aa, aa, aa, aa, aa, aa, aa, aa, aa, aa, aa, aa, aa, aa],
 []⟩
theorem fZ (n c : Nat) (v0 : ByteArray) (v1 v2 v3 : Int) : du n (c + 1) v0 v1 v2 v3 =
 (cond (decide (v3 < (v0.size : Int)))
 (cond (decide (v3 < (IntKind.i64.wrap (v1 + v2))))
 (cond (decide (0 ≤ v3) && decide (v3 < ((v0.size : Nat) : Int)))
 (cond (decide (48 ≤ ((aU v0 (v3 : Int).toNat).toNat : Int)))
 (cond (decide (0 ≤ v3) && decide (v3 < ((v0.size : Nat) : Int)))
 (cond (decide (((aU v0 (v3 : Int).toNat).toNat : Int) ≤ 57))
 (du n c v0 v1 v2 (IntKind.i64.wrap (v3 + 1)))
 (cond (Go.Ab.inB v1 v3 v0.size)
 ((FF n 180 [.one (.str (v0.extract (v1 : Int).toNat (v3 : Int).toNat))] []).bind fun x0 =>
 (aw .i64 x0.1 fun x1 x2 =>
 (ar x2 fun x3 x4 =>
 (ai x4 (aj x0.2
 (cond (!x3)
 (some ([.one (.int .i64 0), .one (.int .i64 (-1))], []))
 (some ([.one (.int .i64 x1), .one (.int .i64 v3)], []))))))))
 none))
 none)
 (cond (Go.Ab.inB v1 v3 v0.size)
 ((FF n 180 [.one (.str (v0.extract (v1 : Int).toNat (v3 : Int).toNat))] []).bind fun x0 =>
 (aw .i64 x0.1 fun x1 x2 =>
 (ar x2 fun x3 x4 =>
 (ai x4 (aj x0.2
 (cond (!x3)
 (some ([.one (.int .i64 0), .one (.int .i64 (-1))], []))
 (some ([.one (.int .i64 x1), .one (.int .i64 v3)], []))))))))
 none))
 none)
 (cond (Go.Ab.inB v1 v3 v0.size)
 ((FF n 180 [.one (.str (v0.extract (v1 : Int).toNat (v3 : Int).toNat))] []).bind fun x0 =>
 (aw .i64 x0.1 fun x1 x2 =>
 (ar x2 fun x3 x4 =>
 (ai x4 (aj x0.2
 (cond (!x3)
 (some ([.one (.int .i64 0), .one (.int .i64 (-1))], []))
 (some ([.one (.int .i64 x1), .one (.int .i64 v3)], []))))))))
 none))
 (cond (Go.Ab.inB v1 v3 v0.size)
 ((FF n 180 [.one (.str (v0.extract (v1 : Int).toNat (v3 : Int).toNat))] []).bind fun x0 =>
 (aw .i64 x0.1 fun x1 x2 =>
 (ar x2 fun x3 x4 =>
 (ai x4 (aj x0.2
 (cond (!x3)
 (some ([.one (.int .i64 0), .one (.int .i64 (-1))], []))
 (some ([.one (.int .i64 x1), .one (.int .i64 v3)], []))))))))
 none)) := by kernel_rfl
theorem qg (n : Nat) (v0 : ByteArray) (v1 v2 : Int) : FF (n + 1) 173 [.one (.str v0), .one (.int .i64 v1), .one (.int .i64 v2)] [] =
 du n n v0 v1 v2 v1 := by kernel_rfl
end Go.Proofs.YtajlknlnmmbfcaaGreat
end
section
namespace Go.Proofs.YtajlknlnmmbfcaaGreat
open Go Go.Ab Go.Dk
theorem qk (n : Nat) (v0 : ByteArray) (v1 v2 : Int) : FF (n + 1) 174 [.one (.str v0), .one (.int .i64 v1), .one (.int .i64 v2)] [] =
 (cond (decide (0 ≤ v1) && decide (v1 < ((v0.size : Nat) : Int)))
 (cond (decide (((aU v0 (v1 : Int).toNat).toNat : Int) = 33))
 ((FF n 154 [.one (.str v0), .one (.int .i64 (IntKind.i64.wrap (v1 + 1))), .one (.int .i64 (IntKind.i64.wrap (v2 - 1)))] []).bind fun x0 =>
 (ah x0.1 fun x1 x2 =>
 (aw .i64 x2 fun x3 x4 =>
 (ai x4 (aj x0.2
 ((FF n 81 [.one (.int .i64 11), .one (.fr (.ts [(T.mk x1.k x1.n x1.kids)]))] []).bind fun x5 =>
 (ah x5.1 fun x6 x7 =>
 (ai x7 (aj x5.2
 (some ([.agg [.int .i64 x6.k, .int .i64 x6.n, .fr (.ts x6.kids)], .one (.int .i64 x3)], [])))))))))))
 (cond (decide (((aU v0 (v1 : Int).toNat).toNat : Int) = 94))
 ((FF n 154 [.one (.str v0), .one (.int .i64 (IntKind.i64.wrap (v1 + 1))), .one (.int .i64 (IntKind.i64.wrap (v2 - 1)))] []).bind fun x0 =>
 (ah x0.1 fun x1 x2 =>
 (aw .i64 x2 fun x3 x4 =>
 (ai x4 (aj x0.2
 ((FF n 81 [.one (.int .i64 15), .one (.fr (.ts [(T.mk x1.k x1.n x1.kids)]))] []).bind fun x5 =>
 (ah x5.1 fun x6 x7 =>
 (ai x7 (aj x5.2
 (some ([.agg [.int .i64 x6.k, .int .i64 x6.n, .fr (.ts x6.kids)], .one (.int .i64 x3)], [])))))))))))
 (cond (decide (((aU v0 (v1 : Int).toNat).toNat : Int) = 95))
 ((FF n 154 [.one (.str v0), .one (.int .i64 (IntKind.i64.wrap (v1 + 1))), .one (.int .i64 (IntKind.i64.wrap (v2 - 1)))] []).bind fun x0 =>
 (ah x0.1 fun x1 x2 =>
 (aw .i64 x2 fun x3 x4 =>
 (ai x4 (aj x0.2
 ((FF n 81 [.one (.int .i64 16), .one (.fr (.ts [(T.mk x1.k x1.n x1.kids)]))] []).bind fun x5 =>
 (ah x5.1 fun x6 x7 =>
 (ai x7 (aj x5.2
 (some ([.agg [.int .i64 x6.k, .int .i64 x6.n, .fr (.ts x6.kids)], .one (.int .i64 x3)], [])))))))))))
 ((FF n 154 [.one (.str v0), .one (.int .i64 (IntKind.i64.wrap (v1 + 1))), .one (.int .i64 (IntKind.i64.wrap (v2 - 1)))] []).bind fun x0 =>
 (ah x0.1 fun x1 x2 =>
 (aw .i64 x2 fun x3 x4 =>
 (ai x4 (aj x0.2
 ((FF n 81 [.one (.int .i64 8), .one (.fr (.ts [(T.mk x1.k x1.n x1.kids)]))] []).bind fun x5 =>
 (ah x5.1 fun x6 x7 =>
 (ai x7 (aj x5.2
 (some ([.agg [.int .i64 x6.k, .int .i64 x6.n, .fr (.ts x6.kids)], .one (.int .i64 x3)], []))))))))))))))
 none) := by kernel_rfl
theorem qL (n : Nat) (v0 : ByteArray) (v1 v2 : Int) : FF (n + 1) 175 [.one (.str v0), .one (.int .i64 v1), .one (.int .i64 v2)] [] =
 ((FF n 154 [.one (.str v0), .one (.int .i64 v1), .one (.int .i64 v2)] []).bind fun x0 =>
 (ah x0.1 fun x1 x2 =>
 (aw .i64 x2 fun x3 x4 =>
 (ai x4 (aj x0.2
 (cond (decide (x3 < 0))
 (some ([.agg [.int .i64 0, .int .i64 0, .fr (.ts [])], .one (.int .i64 (-1))], []))
 (cond (decide ((v0.size : Int) ≤ x3))
 (some ([.agg [.int .i64 0, .int .i64 0, .fr (.ts [])], .one (.int .i64 (-1))], []))
 (cond (decide (0 ≤ x3) && decide (x3 < ((v0.size : Nat) : Int)))
 (cond (decide (((aU v0 (x3 : Int).toNat).toNat : Int) = 62))
 ((FF n 154 [.one (.str v0), .one (.int .i64 (IntKind.i64.wrap (x3 + 1))), .one (.int .i64 v2)] []).bind fun x5 =>
 (ah x5.1 fun x6 x7 =>
 (aw .i64 x7 fun x8 x9 =>
 (ai x9 (aj x5.2
 (cond (decide (x8 < 0))
 (some ([.agg [.int .i64 0, .int .i64 0, .fr (.ts [])], .one (.int .i64 (-1))], []))
 (cond (decide ((v0.size : Int) ≤ x8))
 (some ([.agg [.int .i64 0, .int .i64 0, .fr (.ts [])], .one (.int .i64 (-1))], []))
 (cond (decide (0 ≤ x8) && decide (x8 < ((v0.size : Nat) : Int)))
 (cond (!decide (((aU v0 (x8 : Int).toNat).toNat : Int) = 41))
 (some ([.agg [.int .i64 0, .int .i64 0, .fr (.ts [])], .one (.int .i64 (-1))], []))
 ((FF n 81 [.one (.int .i64 3), .one (.fr (.ts [(T.mk x1.k x1.n x1.kids), (T.mk x6.k x6.n x6.kids)]))] []).bind fun x10 =>
 (ah x10.1 fun x11 x12 =>
 (ai x12 (aj x10.2
 (some ([.agg [.int .i64 x11.k, .int .i64 x11.n, .fr (.ts x11.kids)], .one (.int .i64 (IntKind.i64.wrap (x8 + 1)))], [])))))))
 none))))))))
 (cond (decide (((aU v0 (x3 : Int).toNat).toNat : Int) = 42))
 ((FF n 154 [.one (.str v0), .one (.int .i64 (IntKind.i64.wrap (x3 + 1))), .one (.int .i64 v2)] []).bind fun x5 =>
 (ah x5.1 fun x6 x7 =>
 (aw .i64 x7 fun x8 x9 =>
 (ai x9 (aj x5.2
 (cond (decide (x8 < 0))
 (some ([.agg [.int .i64 0, .int .i64 0, .fr (.ts [])], .one (.int .i64 (-1))], []))
 (cond (decide ((v0.size : Int) ≤ x8))
 (some ([.agg [.int .i64 0, .int .i64 0, .fr (.ts [])], .one (.int .i64 (-1))], []))
 (cond (decide (0 ≤ x8) && decide (x8 < ((v0.size : Nat) : Int)))
 (cond (!decide (((aU v0 (x8 : Int).toNat).toNat : Int) = 41))
 (some ([.agg [.int .i64 0, .int .i64 0, .fr (.ts [])], .one (.int .i64 (-1))], []))
 ((FF n 81 [.one (.int .i64 13), .one (.fr (.ts [(T.mk x1.k x1.n x1.kids), (T.mk x6.k x6.n x6.kids)]))] []).bind fun x10 =>
 (ah x10.1 fun x11 x12 =>
 (ai x12 (aj x10.2
 (some ([.agg [.int .i64 x11.k, .int .i64 x11.n, .fr (.ts x11.kids)], .one (.int .i64 (IntKind.i64.wrap (x8 + 1)))], [])))))))
 none))))))))
 (cond (decide (((aU v0 (x3 : Int).toNat).toNat : Int) = 32))
 ((FF n 154 [.one (.str v0), .one (.int .i64 (IntKind.i64.wrap (x3 + 1))), .one (.int .i64 v2)] []).bind fun x5 =>
 (ah x5.1 fun x6 x7 =>
 (aw .i64 x7 fun x8 x9 =>
 (ai x9 (aj x5.2
 (cond (decide (x8 < 0))
 (some ([.agg [.int .i64 0, .int .i64 0, .fr (.ts [])], .one (.int .i64 (-1))], []))
 (cond (decide ((v0.size : Int) ≤ x8))
 (some ([.agg [.int .i64 0, .int .i64 0, .fr (.ts [])], .one (.int .i64 (-1))], []))
 (cond (decide (0 ≤ x8) && decide (x8 < ((v0.size : Nat) : Int)))
 (cond (!decide (((aU v0 (x8 : Int).toNat).toNat : Int) = 41))
 (some ([.agg [.int .i64 0, .int .i64 0, .fr (.ts [])], .one (.int .i64 (-1))], []))
 ((FF n 81 [.one (.int .i64 5), .one (.fr (.ts [(T.mk x1.k x1.n x1.kids), (T.mk x6.k x6.n x6.kids)]))] []).bind fun x10 =>
 (ah x10.1 fun x11 x12 =>
 (ai x12 (aj x10.2
 (some ([.agg [.int .i64 x11.k, .int .i64 x11.n, .fr (.ts x11.kids)], .one (.int .i64 (IntKind.i64.wrap (x8 + 1)))], [])))))))
 none))))))))
 ((FF n 154 [.one (.str v0), .one (.int .i64 (IntKind.i64.wrap (x3 + 1))), .one (.int .i64 v2)] []).bind fun x5 =>
 (ah x5.1 fun x6 x7 =>
 (aw .i64 x7 fun x8 x9 =>
 (ai x9 (aj x5.2
 (some ([.agg [.int .i64 0, .int .i64 0, .fr (.ts [])], .one (.int .i64 (-1))], []))))))))))
 none)))))))) := by kernel_rfl
theorem qK (n : Nat) (v0 : ByteArray) (v1 v2 : Int) : FF (n + 1) 176 [.one (.str v0), .one (.int .i64 v1), .one (.int .i64 v2)] [] =
 (cond (decide (0 ≤ v1) && decide (v1 < ((v0.size : Nat) : Int)))
 (cond (decide (((aU v0 (v1 : Int).toNat).toNat : Int) = 60))
 ((FF n 138 [.one (.int .i64 9)] []).bind fun x0 =>
 (aw .i64 x0.1 fun x1 x2 =>
 (ai x2 (aj x0.2
 ((FF n 181 [.one (.str v0), .one (.int .i64 (IntKind.i64.wrap (v1 + 1))), .one (.int .i64 (IntKind.i64.wrap (v2 - 1))), .one (.int .i64 x1), .one (.int .u8 62)] []).bind fun x3 =>
 (rTs x3.1 fun x4 x5 =>
 (aw .i64 x5 fun x6 x7 =>
 (ai x7 (aj x3.2
 (some ([.agg [.int .i64 9, .int .i64 0, .fr (.ts x4)], .one (.int .i64 x6)], [])))))))))))
 (cond (decide (((aU v0 (v1 : Int).toNat).toNat : Int) = 123))
 ((FF n 138 [.one (.int .i64 10)] []).bind fun x0 =>
 (aw .i64 x0.1 fun x1 x2 =>
 (ai x2 (aj x0.2
 ((FF n 181 [.one (.str v0), .one (.int .i64 (IntKind.i64.wrap (v1 + 1))), .one (.int .i64 (IntKind.i64.wrap (v2 - 1))), .one (.int .i64 x1), .one (.int .u8 125)] []).bind fun x3 =>
 (rTs x3.1 fun x4 x5 =>
 (aw .i64 x5 fun x6 x7 =>
 (ai x7 (aj x3.2
 (some ([.agg [.int .i64 10, .int .i64 0, .fr (.ts x4)], .one (.int .i64 x6)], [])))))))))))
 (cond (decide (((aU v0 (v1 : Int).toNat).toNat : Int) = 124))
 ((FF n 138 [.one (.int .i64 14)] []).bind fun x0 =>
 (aw .i64 x0.1 fun x1 x2 =>
 (ai x2 (aj x0.2
 ((FF n 181 [.one (.str v0), .one (.int .i64 (IntKind.i64.wrap (v1 + 1))), .one (.int .i64 (IntKind.i64.wrap (v2 - 1))), .one (.int .i64 x1), .one (.int .u8 124)] []).bind fun x3 =>
 (rTs x3.1 fun x4 x5 =>
 (aw .i64 x5 fun x6 x7 =>
 (ai x7 (aj x3.2
 (some ([.agg [.int .i64 14, .int .i64 0, .fr (.ts x4)], .one (.int .i64 x6)], [])))))))))))
 (cond (decide (((aU v0 (v1 : Int).toNat).toNat : Int) = 64))
 (cond (decide ((v0.size : Int) < (IntKind.i64.wrap (v1 + 2))))
 (some ([.agg [.int .i64 0, .int .i64 0, .fr (.ts [])], .one (.int .i64 (-1))], []))
 (cond (decide (0 ≤ (IntKind.i64.wrap (v1 + 1))) && decide ((IntKind.i64.wrap (v1 + 1)) < ((v0.size : Nat) : Int)))
 (cond (!decide (((aU v0 ((IntKind.i64.wrap (v1 + 1)) : Int).toNat).toNat : Int) = 60))
 (some ([.agg [.int .i64 0, .int .i64 0, .fr (.ts [])], .one (.int .i64 (-1))], []))
 ((FF n 138 [.one (.int .i64 12)] []).bind fun x0 =>
 (aw .i64 x0.1 fun x1 x2 =>
 (ai x2 (aj x0.2
 ((FF n 181 [.one (.str v0), .one (.int .i64 (IntKind.i64.wrap (v1 + 2))), .one (.int .i64 (IntKind.i64.wrap (v2 - 1))), .one (.int .i64 x1), .one (.int .u8 62)] []).bind fun x3 =>
 (rTs x3.1 fun x4 x5 =>
 (aw .i64 x5 fun x6 x7 =>
 (ai x7 (aj x3.2
 (some ([.agg [.int .i64 12, .int .i64 0, .fr (.ts x4)], .one (.int .i64 x6)], []))))))))))))
 none))
 (some ([.agg [.int .i64 0, .int .i64 0, .fr (.ts [])], .one (.int .i64 (-1))], []))))))
 none) := by kernel_rfl
theorem sS (n : Nat) (v0 v1 : Int) (v2 : List T) : FF (n + 1) 177 [.agg [.int .i64 v0, .int .i64 v1, .fr (.ts v2)]] [] =
 (cond (decide (v0 = 1))
 ((FF n 182 [.one (.int .i64 v1)] []).bind fun x0 =>
 (mL x0.1 fun x1 x2 =>
 (ai x2 (aj x0.2
 (cond (decide ((bytesOf [35]).size + x1.size ≤ 9223372036854775807))
 (some ([.one (.str ((bytesOf [35]) ++ x1))], []))
 none)))))
 (cond (decide (v0 = 2))
 ((FF n 182 [.one (.int .i64 v1)] []).bind fun x0 =>
 (mL x0.1 fun x1 x2 =>
 (ai x2 (aj x0.2
 (cond (decide ((bytesOf [42]).size + x1.size ≤ 9223372036854775807))
 (some ([.one (.str ((bytesOf [42]) ++ x1))], []))
 none)))))
 (cond (decide (v0 = 6))
 (some ([.one (.str (bytesOf [78]))], []))
 (cond (decide (v0 = 7))
 (some ([.one (.str (bytesOf [48]))], []))
 (cond (decide (v0 = 8))
 (v2[(0 : Int).toNat]?.bind fun x0 =>
 ((FF n 177 [.agg [.int .i64 x0.k, .int .i64 x0.n, .fr (.ts x0.kids)]] []).bind fun x1 =>
 (mL x1.1 fun x2 x3 =>
 (ai x3 (aj x1.2
 (cond (decide ((bytesOf [43]).size + x2.size ≤ 9223372036854775807))
 (some ([.one (.str ((bytesOf [43]) ++ x2))], []))
 none))))))
 (cond (decide (v0 = 11))
 (v2[(0 : Int).toNat]?.bind fun x0 =>
 ((FF n 177 [.agg [.int .i64 x0.k, .int .i64 x0.n, .fr (.ts x0.kids)]] []).bind fun x1 =>
 (mL x1.1 fun x2 x3 =>
 (ai x3 (aj x1.2
 (cond (decide ((bytesOf [33]).size + x2.size ≤ 9223372036854775807))
 (some ([.one (.str ((bytesOf [33]) ++ x2))], []))
 none))))))
 (cond (decide (v0 = 15))
 (v2[(0 : Int).toNat]?.bind fun x0 =>
 ((FF n 177 [.agg [.int .i64 x0.k, .int .i64 x0.n, .fr (.ts x0.kids)]] []).bind fun x1 =>
 (mL x1.1 fun x2 x3 =>
 (ai x3 (aj x1.2
 (cond (decide ((bytesOf [94]).size + x2.size ≤ 9223372036854775807))
 (some ([.one (.str ((bytesOf [94]) ++ x2))], []))
 none))))))
 (cond (decide (v0 = 16))
 (v2[(0 : Int).toNat]?.bind fun x0 =>
 ((FF n 177 [.agg [.int .i64 x0.k, .int .i64 x0.n, .fr (.ts x0.kids)]] []).bind fun x1 =>
 (mL x1.1 fun x2 x3 =>
 (ai x3 (aj x1.2
 (cond (decide ((bytesOf [95]).size + x2.size ≤ 9223372036854775807))
 (some ([.one (.str ((bytesOf [95]) ++ x2))], []))
 none))))))
 (cond (decide (v0 = 3))
 (v2[(0 : Int).toNat]?.bind fun x0 =>
 ((FF n 177 [.agg [.int .i64 x0.k, .int .i64 x0.n, .fr (.ts x0.kids)]] []).bind fun x1 =>
 (mL x1.1 fun x2 x3 =>
 (ai x3 (aj x1.2
 (cond (decide ((bytesOf [40]).size + x2.size ≤ 9223372036854775807))
 (cond (decide (((bytesOf [40]) ++ x2).size + (bytesOf [62]).size ≤ 9223372036854775807))
 (v2[(1 : Int).toNat]?.bind fun x4 =>
 ((FF n 177 [.agg [.int .i64 x4.k, .int .i64 x4.n, .fr (.ts x4.kids)]] []).bind fun x5 =>
 (mL x5.1 fun x6 x7 =>
 (ai x7 (aj x5.2
 (cond (decide ((((bytesOf [40]) ++ x2) ++ (bytesOf [62])).size + x6.size ≤ 9223372036854775807))
 (cond (decide (((((bytesOf [40]) ++ x2) ++ (bytesOf [62])) ++ x6).size + (bytesOf [41]).size ≤ 9223372036854775807))
 (some ([.one (.str (((((bytesOf [40]) ++ x2) ++ (bytesOf [62])) ++ x6) ++ (bytesOf [41])))], []))
 none)
 none))))))
 none)
 none))))))
 (cond (decide (v0 = 13))
 (v2[(0 : Int).toNat]?.bind fun x0 =>
 ((FF n 177 [.agg [.int .i64 x0.k, .int .i64 x0.n, .fr (.ts x0.kids)]] []).bind fun x1 =>
 (mL x1.1 fun x2 x3 =>
 (ai x3 (aj x1.2
 (cond (decide ((bytesOf [40]).size + x2.size ≤ 9223372036854775807))
 (cond (decide (((bytesOf [40]) ++ x2).size + (bytesOf [42]).size ≤ 9223372036854775807))
 (v2[(1 : Int).toNat]?.bind fun x4 =>
 ((FF n 177 [.agg [.int .i64 x4.k, .int .i64 x4.n, .fr (.ts x4.kids)]] []).bind fun x5 =>
 (mL x5.1 fun x6 x7 =>
 (ai x7 (aj x5.2
 (cond (decide ((((bytesOf [40]) ++ x2) ++ (bytesOf [42])).size + x6.size ≤ 9223372036854775807))
 (cond (decide (((((bytesOf [40]) ++ x2) ++ (bytesOf [42])) ++ x6).size + (bytesOf [41]).size ≤ 9223372036854775807))
 (some ([.one (.str (((((bytesOf [40]) ++ x2) ++ (bytesOf [42])) ++ x6) ++ (bytesOf [41])))], []))
 none)
 none))))))
 none)
 none))))))
 (cond (decide (v0 = 5))
 (v2[(0 : Int).toNat]?.bind fun x0 =>
 ((FF n 177 [.agg [.int .i64 x0.k, .int .i64 x0.n, .fr (.ts x0.kids)]] []).bind fun x1 =>
 (mL x1.1 fun x2 x3 =>
 (ai x3 (aj x1.2
 (cond (decide ((bytesOf [40]).size + x2.size ≤ 9223372036854775807))
 (cond (decide (((bytesOf [40]) ++ x2).size + (bytesOf [32]).size ≤ 9223372036854775807))
 (v2[(1 : Int).toNat]?.bind fun x4 =>
 ((FF n 177 [.agg [.int .i64 x4.k, .int .i64 x4.n, .fr (.ts x4.kids)]] []).bind fun x5 =>
 (mL x5.1 fun x6 x7 =>
 (ai x7 (aj x5.2
 (cond (decide ((((bytesOf [40]) ++ x2) ++ (bytesOf [32])).size + x6.size ≤ 9223372036854775807))
 (cond (decide (((((bytesOf [40]) ++ x2) ++ (bytesOf [32])) ++ x6).size + (bytesOf [41]).size ≤ 9223372036854775807))
 (some ([.one (.str (((((bytesOf [40]) ++ x2) ++ (bytesOf [32])) ++ x6) ++ (bytesOf [41])))], []))
 none)
 none))))))
 none)
 none))))))
 (cond (decide (v0 = 4))
 (v2[(0 : Int).toNat]?.bind fun x0 =>
 ((FF n 177 [.agg [.int .i64 x0.k, .int .i64 x0.n, .fr (.ts x0.kids)]] []).bind fun x1 =>
 (mL x1.1 fun x2 x3 =>
 (ai x3 (aj x1.2
 (cond (decide ((bytesOf [91]).size + x2.size ≤ 9223372036854775807))
 (cond (decide (((bytesOf [91]) ++ x2).size + (bytesOf [93]).size ≤ 9223372036854775807))
 (v2[(1 : Int).toNat]?.bind fun x4 =>
 ((FF n 177 [.agg [.int .i64 x4.k, .int .i64 x4.n, .fr (.ts x4.kids)]] []).bind fun x5 =>
 (mL x5.1 fun x6 x7 =>
 (ai x7 (aj x5.2
 (cond (decide ((((bytesOf [91]) ++ x2) ++ (bytesOf [93])).size + x6.size ≤ 9223372036854775807))
 (some ([.one (.str ((((bytesOf [91]) ++ x2) ++ (bytesOf [93])) ++ x6))], []))
 none))))))
 none)
 none))))))
 (cond (decide (v0 = 10))
 ((FF n 183 [.one (.fr (.ts v2))] []).bind fun x0 =>
 (mL x0.1 fun x1 x2 =>
 (ai x2 (aj x0.2
 (cond (decide ((bytesOf [123]).size + x1.size ≤ 9223372036854775807))
 (cond (decide (((bytesOf [123]) ++ x1).size + (bytesOf [125]).size ≤ 9223372036854775807))
 (some ([.one (.str (((bytesOf [123]) ++ x1) ++ (bytesOf [125])))], []))
 none)
 none)))))
 (cond (decide (v0 = 14))
 ((FF n 183 [.one (.fr (.ts v2))] []).bind fun x0 =>
 (mL x0.1 fun x1 x2 =>
 (ai x2 (aj x0.2
 (cond (decide ((bytesOf [124]).size + x1.size ≤ 9223372036854775807))
 (cond (decide (((bytesOf [124]) ++ x1).size + (bytesOf [124]).size ≤ 9223372036854775807))
 (some ([.one (.str (((bytesOf [124]) ++ x1) ++ (bytesOf [124])))], []))
 none)
 none)))))
 (cond (decide (v0 = 12))
 ((FF n 183 [.one (.fr (.ts v2))] []).bind fun x0 =>
 (mL x0.1 fun x1 x2 =>
 (ai x2 (aj x0.2
 (cond (decide ((bytesOf [64, 60]).size + x1.size ≤ 9223372036854775807))
 (cond (decide (((bytesOf [64, 60]) ++ x1).size + (bytesOf [62]).size ≤ 9223372036854775807))
 (some ([.one (.str (((bytesOf [64, 60]) ++ x1) ++ (bytesOf [62])))], []))
 none)
 none)))))
 ((FF n 183 [.one (.fr (.ts v2))] []).bind fun x0 =>
 (mL x0.1 fun x1 x2 =>
 (ai x2 (aj x0.2
 (cond (decide ((bytesOf [60]).size + x1.size ≤ 9223372036854775807))
 (cond (decide (((bytesOf [60]) ++ x1).size + (bytesOf [62]).size ≤ 9223372036854775807))
 (some ([.one (.str (((bytesOf [60]) ++ x1) ++ (bytesOf [62])))], []))
 none)
 none)))))))))))))))))))) := by kernel_rfl
noncomputable def bm (n c : Nat) (v0 v1 v2 v3 : Int) (v4 : List T) (v5 v6 : Int) (v7 : List T) : OR := aR Tryz.prog SS n 76 0 [1, 1, 1, 0] [] c ⟨[aa, .v (.one (.int .i64 v0)), .v (.one (.fn 178 [])), .v (.one (.ptr 0 0)), aa, aa, .v (.one (.ptr 1 0)), aa, aa, .v (.one (.int .i64 v1)), aa, aa, aa, aa, aa, aa, aa, aa, aa, aa, aa, aa, aa, aa, aa, aa, aa, aa, aa, aa, aa, aa, aa, aa, aa, aa, aa, aa, aa, aa, aa, aa, aa, aa, aa, aa, aa, aa, aa, aa, aa],
 [.cells [.int .i64 v2, .int .i64 v3, .fr (.ts v4)], .cells [.int .i64 v5, .int .i64 v6, .own 2 0], .arr 25 (.ts v7) 0 false]⟩
theorem fl (n c : Nat) (v0 v1 v2 v3 : Int) (v4 : List T) (v5 v6 : Int) (v7 : List T) : bm n (c + 1) v0 v1 v2 v3 v4 v5 v6 v7 =
 ((FF n 178 [.agg [.int .i64 v2, .int .i64 v3, .fr (.ts v4)]] []).bind fun x0 =>
 (rIs x0.1 fun x1 x2 =>
 (ar x2 fun x3 x4 =>
 (ai x4 (aj x0.2
 (cond (!x3)
 ((FF n 58 [.agg [.int .i64 v2, .int .i64 v3, .fr (.ts v4)]] []).bind fun x5 =>
 (ah x5.1 fun x6 x7 =>
 (ai x7 (aj x5.2
 (some ([.agg [.int .i64 x6.k, .int .i64 x6.n, .fr (.ts x6.kids)], .one (.int .i64 v1), .one (.int .i64 0)], []))))))
 (cond (decide (v1 = v0))
 (some ([.agg [.int .i64 0, .int .i64 0, .fr (.ts [])], .one (.int .i64 v1), .one (.int .i64 1)], []))
 ((FF n 112 [.agg [.int .i64 v2, .int .i64 v3, .fr (.ts v4)], .one (.fr (.is x1))] []).bind fun x5 =>
 (ah x5.1 fun x6 x7 =>
 (ar x7 fun x8 x9 =>
 (ai x9 (aj x5.2
 (cond (!x8)
 (some ([.agg [.int .i64 0, .int .i64 0, .fr (.ts [])], .one (.int .i64 v1), .one (.int .i64 2)], []))
 (bm n c v0 (IntKind.i64.wrap (v1 + 1)) (x6.k) (x6.n) (x6.kids) v5 v6 v7)))))))))))))) := by kernel_rfl
theorem je (n : Nat) (v0 v1 : Int) (v2 : List T) (v3 : Int) : FF (n + 1) 76 [.agg [.int .i64 v0, .int .i64 v1, .fr (.ts v2)], .one (.int .i64 v3), .one (.fn 178 [])] [] =
 ((FF n 59 [.agg [.int .i64 v0, .int .i64 v1, .fr (.ts v2)]] []).bind fun x0 =>
 (ar x0.1 fun x1 x2 =>
 (ai x2 (aj x0.2
 (cond (!x1)
 (some ([.agg [.int .i64 0, .int .i64 0, .fr (.ts [])], .one (.int .i64 0), .one (.int .i64 3)], []))
 ((FF n 60 [.one (.int .i64 v3), .one (.int .i64 0), .one (.int .i64 200)] []).bind fun x3 =>
 (ar x3.1 fun x4 x5 =>
 (ai x5 (aj x3.2
 (cond (!x4)
 (some ([.agg [.int .i64 0, .int .i64 0, .fr (.ts [])], .one (.int .i64 0), .one (.int .i64 3)], []))
 (bm n n v3 0 v0 v1 v2 0 0 ([])))))))))))) := by kernel_rfl
theorem jS (n : Nat) (v0 : List T) (v1 v2 : Int) (v3 : List T) : FF (n + 1) 122 [.one (.fr (.ts v0)), .agg [.int .i64 v1, .int .i64 v2, .fr (.ts v3)]] [] =
 (cond (decide (20 ≤ (v0.length : Int)))
 (some ([.one (.fr (.ts [])), .one (.int .i64 2)], []))
 ((FF n 160 [.one (.fr (.ts v0))] []).bind fun x0 =>
 (HY 0 x0.1 fun x1 =>
 (cf 25 x0.2 fun x2 x3 =>
 (ai x1 (aj x3
 (cond (cn (x2 ++ [(T.mk v1 v2 v3)]).length)
 (some ([.one (.fr (.ts (x2 ++ [(T.mk v1 v2 v3)]))), .one (.int .i64 0)], []))
 none))))))) := by kernel_rfl
theorem tR (n : Nat) (v0 : Int) : FF (n + 1) 179 [.one (.int .i64 v0)] [] =
 (cond (decide (v0 = 5))
 (some ([.one (.int .i64 0)], []))
 (cond (decide (v0 = 15))
 (some ([.one (.int .i64 0)], []))
 (cond (decide (v0 = 16))
 (some ([.one (.int .i64 0)], []))
 (cond (decide (v0 = 12))
 (some ([.one (.int .i64 1)], []))
 (cond (decide (v0 = 9))
 (some ([.one (.int .i64 3)], []))
 (some ([.one (.int .i64 (-1))], []))))))) := by kernel_rfl
noncomputable def bG (n c : Nat) (v0 : ByteArray) (v1 : Bool) (v2 v3 : Int) : OR := aR Tryz.prog SS n 180 0 [1, 1, 1, 1, 1, 0, 1, 0] [] c ⟨[.v (.one (.str v0)), aa, aa, aa, .v (.one (.bool v1)), .v (.one (.int .i64 v2)), .v (.one (.int .i64 v3)), aa, aa, aa, aa, aa, aa, aa, aa, aa, aa, aa, aa, aa, aa, aa, aa, aa, aa, aa, aa, aa, aa, aa, aa, aa, aa, aa, aa, aa, aa, aa, aa, aa, aa, aa, aa, aa, aa, aa, aa, aa, aa, aa, aa, aa, aa, aa, aa, aa, aa, aa, aa, aa, aa, aa, aa, aa, aa, aa, aa],
 []⟩
theorem ia (n c : Nat) (v0 : ByteArray) (v1 : Bool) (v2 v3 : Int) : bG n (c + 1) v0 v1 v2 v3 =
 (cond (decide (v3 < (v0.size : Int)))
 (cond (decide (0 ≤ v3) && decide (v3 < ((v0.size : Nat) : Int)))
 (cond (decide (((aU v0 (v3 : Int).toNat).toNat : Int) < 48))
 (some ([.one (.int .i64 0), .one (.bool false)], []))
 (cond (decide (0 ≤ v3) && decide (v3 < ((v0.size : Nat) : Int)))
 (cond (decide (57 < ((aU v0 (v3 : Int).toNat).toNat : Int)))
 (some ([.one (.int .i64 0), .one (.bool false)], []))
 (cond (decide (0 ≤ v3) && decide (v3 < ((v0.size : Nat) : Int)))
 (bG n c v0 v1 (IntKind.i64.wrap ((IntKind.i64.wrap (v2 * 10)) + (IntKind.i64.wrap (IntKind.u8.wrap (((aU v0 (v3 : Int).toNat).toNat : Int) - 48))))) (IntKind.i64.wrap (v3 + 1)))
 none))
 none))
 none)
 (cond v1
 (some ([.one (.int .i64 (IntKind.i64.wrap (0 - v2))), .one (.bool true)], []))
 (some ([.one (.int .i64 v2), .one (.bool true)], [])))) := by kernel_rfl
theorem sV (n : Nat) (v0 : ByteArray) : FF (n + 1) 180 [.one (.str v0)] [] =
 (cond (decide (0 < (v0.size : Int)))
 (cond (decide (0 ≤ 0) && decide (0 < ((v0.size : Nat) : Int)))
 (cond (decide (((aU v0 (0 : Int).toNat).toNat : Int) = 45))
 (cond (Go.Ab.inB 1 v0.size v0.size)
 (cond (decide (((v0.extract (1 : Int).toNat (v0.size : Int).toNat).size : Int) = 0))
 (some ([.one (.int .i64 0), .one (.bool false)], []))
 (cond (decide (17 < ((v0.extract (1 : Int).toNat (v0.size : Int).toNat).size : Int)))
 (some ([.one (.int .i64 0), .one (.bool false)], []))
 (cond (decide (0 ≤ 0) && decide (0 < (((v0.extract (1 : Int).toNat (v0.size : Int).toNat).size : Nat) : Int)))
 (cond (decide (((aU (v0.extract (1 : Int).toNat (v0.size : Int).toNat) (0 : Int).toNat).toNat : Int) = 48))
 (cond (decide (1 < ((v0.extract (1 : Int).toNat (v0.size : Int).toNat).size : Int)))
 (some ([.one (.int .i64 0), .one (.bool false)], []))
 (cond (decide (((aU v0 (0 : Int).toNat).toNat : Int) = 45))
 (some ([.one (.int .i64 0), .one (.bool false)], []))
 (bG n n ((v0.extract (1 : Int).toNat (v0.size : Int).toNat) : ByteArray) ((decide (((aU v0 (0 : Int).toNat).toNat : Int) = 45)) : Bool) 0 0)))
 (bG n n ((v0.extract (1 : Int).toNat (v0.size : Int).toNat) : ByteArray) ((decide (((aU v0 (0 : Int).toNat).toNat : Int) = 45)) : Bool) 0 0))
 none)))
 none)
 (cond (decide ((v0.size : Int) = 0))
 (some ([.one (.int .i64 0), .one (.bool false)], []))
 (cond (decide (17 < (v0.size : Int)))
 (some ([.one (.int .i64 0), .one (.bool false)], []))
 (cond (decide (0 ≤ 0) && decide (0 < ((v0.size : Nat) : Int)))
 (cond (decide (((aU v0 (0 : Int).toNat).toNat : Int) = 48))
 (cond (decide (1 < (v0.size : Int)))
 (some ([.one (.int .i64 0), .one (.bool false)], []))
 (cond (decide (((aU v0 (0 : Int).toNat).toNat : Int) = 45))
 (some ([.one (.int .i64 0), .one (.bool false)], []))
 (bG n n v0 ((decide (((aU v0 (0 : Int).toNat).toNat : Int) = 45)) : Bool) 0 0)))
 (bG n n v0 ((decide (((aU v0 (0 : Int).toNat).toNat : Int) = 45)) : Bool) 0 0))
 none))))
 none)
 (cond (decide ((v0.size : Int) = 0))
 (some ([.one (.int .i64 0), .one (.bool false)], []))
 (cond (decide (17 < (v0.size : Int)))
 (some ([.one (.int .i64 0), .one (.bool false)], []))
 (cond (decide (0 ≤ 0) && decide (0 < ((v0.size : Nat) : Int)))
 (cond (decide (((aU v0 (0 : Int).toNat).toNat : Int) = 48))
 (cond (decide (1 < (v0.size : Int)))
 (some ([.one (.int .i64 0), .one (.bool false)], []))
 (bG n n v0 (false) 0 0))
 (bG n n v0 (false) 0 0))
 none)))) := by kernel_rfl
noncomputable def bK (n c : Nat) (v0 : ByteArray) (v1 v2 v3 v4 v5 : Int) (v6 : List T) : OR := aR Tryz.prog SS n 181 0 [1, 1, 0, 1, 0] [] c ⟨[.v (.one (.str v0)), .v (.one (.int .i64 v1)), .v (.one (.int .i64 v2)), .v (.one (.int .i64 v3)), .v (.one (.int .u8 v4)), aa, aa, aa, aa, aa, aa, aa, .v (.one (.own 0 0)), .v (.one (.int .i64 v5)), aa, aa, aa, aa, aa, aa, aa, aa, aa, aa, aa, aa, aa, aa, aa, aa, aa, aa, aa, aa, aa, aa, aa, aa, aa, aa, aa, aa, aa, aa, aa, aa, aa, aa, aa, aa, aa, aa, aa, aa, aa, aa, aa, aa, aa, aa, aa, aa, aa, aa, aa, aa, aa, aa, aa, aa],
 [.arr 25 (.ts v6) 0 false]⟩
theorem fY (n c : Nat) (v0 : ByteArray) (v1 v2 v3 v4 v5 : Int) (v6 : List T) : bK n (c + 1) v0 v1 v2 v3 v4 v5 v6 =
 (cond (decide (v5 < v3))
 ((FF n 154 [.one (.str v0), .one (.int .i64 v1), .one (.int .i64 v2)] []).bind fun x0 =>
 (ah x0.1 fun x1 x2 =>
 (aw .i64 x2 fun x3 x4 =>
 (ai x4 (aj x0.2
 (cond (decide (x3 < 0))
 (some ([.one (.fr (.ts [])), .one (.int .i64 (-1))], []))
 (cond (decide ((v0.size : Int) ≤ x3))
 (some ([.one (.fr (.ts [])), .one (.int .i64 (-1))], []))
 (cond (decide ((IntKind.i64.wrap (v5 + 1)) < v3))
 (cond (decide (0 ≤ x3) && decide (x3 < ((v0.size : Nat) : Int)))
 (cond (!decide (((aU v0 (x3 : Int).toNat).toNat : Int) = 44))
 (some ([.one (.fr (.ts [])), .one (.int .i64 (-1))], []))
 (cond (decide ((IntKind.i64.wrap (v5 + 1)) = v3))
 (cond (decide (0 ≤ x3) && decide (x3 < ((v0.size : Nat) : Int)))
 (cond (!decide (((aU v0 (x3 : Int).toNat).toNat : Int) = v4))
 (some ([.one (.fr (.ts [])), .one (.int .i64 (-1))], []))
 (cond (cn (v6 ++ [(T.mk x1.k x1.n x1.kids)]).length)
 (bK n c v0 (IntKind.i64.wrap (x3 + 1)) v2 v3 v4 (IntKind.i64.wrap (v5 + 1)) (v6 ++ [(T.mk x1.k x1.n x1.kids)]))
 none))
 none)
 (cond (cn (v6 ++ [(T.mk x1.k x1.n x1.kids)]).length)
 (bK n c v0 (IntKind.i64.wrap (x3 + 1)) v2 v3 v4 (IntKind.i64.wrap (v5 + 1)) (v6 ++ [(T.mk x1.k x1.n x1.kids)]))
 none)))
 none)
 (cond (decide ((IntKind.i64.wrap (v5 + 1)) = v3))
 (cond (decide (0 ≤ x3) && decide (x3 < ((v0.size : Nat) : Int)))
 (cond (!decide (((aU v0 (x3 : Int).toNat).toNat : Int) = v4))
 (some ([.one (.fr (.ts [])), .one (.int .i64 (-1))], []))
 (cond (cn (v6 ++ [(T.mk x1.k x1.n x1.kids)]).length)
 (bK n c v0 (IntKind.i64.wrap (x3 + 1)) v2 v3 v4 (IntKind.i64.wrap (v5 + 1)) (v6 ++ [(T.mk x1.k x1.n x1.kids)]))
 none))
 none)
 (cond (cn (v6 ++ [(T.mk x1.k x1.n x1.kids)]).length)
 (bK n c v0 (IntKind.i64.wrap (x3 + 1)) v2 v3 v4 (IntKind.i64.wrap (v5 + 1)) (v6 ++ [(T.mk x1.k x1.n x1.kids)]))
 none))))))))))
 (some ([.one (.fr (.ts v6)), .one (.int .i64 v1)], []))) := by kernel_rfl
theorem pX (n : Nat) (v0 : ByteArray) (v1 v2 v3 v4 : Int) : FF (n + 1) 181 [.one (.str v0), .one (.int .i64 v1), .one (.int .i64 v2), .one (.int .i64 v3), .one (.int .u8 v4)] [] =
 bK n n v0 v1 v2 v3 v4 0 ([]) := by kernel_rfl
noncomputable def eM (n c : Nat) (v0 : Int) (v1 : ByteArray) : OR := aR Tryz.prog SS n 182 0 [1, 1, 1, 1, 0, 0] [] c ⟨[.v (.one (.int .i64 v0)), aa, aa, .v (.one (.str v1)), aa, aa, aa, aa, aa, aa, aa, aa, aa, aa, aa, aa, aa, aa, aa, aa, aa, aa, aa, aa, aa, aa, aa, aa, aa, aa, aa],
 []⟩
theorem hJ (n c : Nat) (v0 : Int) (v1 : ByteArray) : eM n (c + 1) v0 v1 =
 (cond (decide (9 < v0))
 (cond (decide (0 ≤ (IntKind.u8.wrap (IntKind.i64.wrap (48 + (Int.tmod v0 10))))) && decide ((IntKind.u8.wrap (IntKind.i64.wrap (48 + (Int.tmod v0 10)))) ≤ 255))
 (cond (decide ((ByteArray.mk ([(UInt8.ofNat (IntKind.u8.wrap (IntKind.i64.wrap (48 + (Int.tmod v0 10)))).toNat)]).toArray).size + v1.size ≤ 9223372036854775807))
 (eM n c (IntKind.i64.wrap (Int.tdiv v0 10)) (((ByteArray.mk ([(UInt8.ofNat (IntKind.u8.wrap (IntKind.i64.wrap (48 + (Int.tmod v0 10)))).toNat)]).toArray) ++ v1) : ByteArray))
 none)
 none)
 (cond (decide (0 ≤ (IntKind.u8.wrap (IntKind.i64.wrap (48 + v0)))) && decide ((IntKind.u8.wrap (IntKind.i64.wrap (48 + v0))) ≤ 255))
 (cond (decide ((ByteArray.mk ([(UInt8.ofNat (IntKind.u8.wrap (IntKind.i64.wrap (48 + v0))).toNat)]).toArray).size + v1.size ≤ 9223372036854775807))
 (some ([.one (.str ((ByteArray.mk ([(UInt8.ofNat (IntKind.u8.wrap (IntKind.i64.wrap (48 + v0))).toNat)]).toArray) ++ v1))], []))
 none)
 none)) := by kernel_rfl
theorem uu (n : Nat) (v0 : Int) : FF (n + 1) 182 [.one (.int .i64 v0)] [] =
 (cond (decide (v0 < (-9223372036854775807)))
 (some ([.one (.str (bytesOf [45, 57, 50, 50, 51, 51, 55, 50, 48, 51, 54, 56, 53, 52, 55, 55, 53, 56, 48, 56]))], []))
 (cond (decide (v0 < 0))
 ((FF n 182 [.one (.int .i64 (IntKind.i64.wrap (0 - v0)))] []).bind fun x0 =>
 (mL x0.1 fun x1 x2 =>
 (ai x2 (aj x0.2
 (cond (decide ((bytesOf [45]).size + x1.size ≤ 9223372036854775807))
 (some ([.one (.str ((bytesOf [45]) ++ x1))], []))
 none)))))
 (eM n n v0 (bytesOf [])))) := by kernel_rfl
noncomputable def cJ (n c : Nat) (v0 : List T) (v1 : ByteArray) (v2 : Int) : OR := aR Tryz.prog SS n 183 0 [1, 1, 0, 1, 0] [] c ⟨[.v (.one (.fr (.ts v0))), aa, aa, .v (.one (.str v1)), .v (.one (.int .i64 v2)), aa, aa, aa, aa, aa, aa, aa, aa, aa, aa, aa, aa, aa, aa, aa, aa, aa, aa],
 []⟩
theorem g6 (n c : Nat) (v0 : List T) (v1 : ByteArray) (v2 : Int) : cJ n (c + 1) v0 v1 v2 =
 (cond (decide (v2 < (v0.length : Int)))
 (cond (decide (0 < v2))
 (cond (decide (v1.size + (bytesOf [44]).size ≤ 9223372036854775807))
 (cond (decide (0 ≤ v2))
 (v0[(v2 : Int).toNat]?.bind fun x0 =>
 ((FF n 177 [.agg [.int .i64 x0.k, .int .i64 x0.n, .fr (.ts x0.kids)]] []).bind fun x1 =>
 (mL x1.1 fun x2 x3 =>
 (ai x3 (aj x1.2
 (cond (decide ((v1 ++ (bytesOf [44])).size + x2.size ≤ 9223372036854775807))
 (cJ n c v0 ((v1 ++ (bytesOf [44])) ++ x2) (IntKind.i64.wrap (v2 + 1)))
 none))))))
 none)
 none)
 (cond (decide (0 ≤ v2))
 (v0[(v2 : Int).toNat]?.bind fun x0 =>
 ((FF n 177 [.agg [.int .i64 x0.k, .int .i64 x0.n, .fr (.ts x0.kids)]] []).bind fun x1 =>
 (mL x1.1 fun x2 x3 =>
 (ai x3 (aj x1.2
 (cond (decide (v1.size + x2.size ≤ 9223372036854775807))
 (cJ n c v0 (v1 ++ x2) (IntKind.i64.wrap (v2 + 1)))
 none))))))
 none))
 (some ([.one (.str v1)], []))) := by kernel_rfl
theorem tX (n : Nat) (v0 : List T) : FF (n + 1) 183 [.one (.fr (.ts v0))] [] =
 cJ n n v0 (bytesOf []) 0 := by kernel_rfl
theorem yO (n : Nat) (v0 v1 : Int) (v2 : List T) : FF (n + 1) 178 [.agg [.int .i64 v0, .int .i64 v1, .fr (.ts v2)]] [] =
 ((FF n 104 [.agg [.int .i64 v0, .int .i64 v1, .fr (.ts v2)]] []).bind fun x0 =>
 (aw .i64 x0.1 fun x1 x2 =>
 (ai x2 (aj x0.2
 (cond (!decide (x1 = 0))
 (some ([.one (.fr (.is [])), .one (.bool true)], []))
 (cond (decide (v0 = 5))
 (v2[(0 : Int).toNat]?.bind fun x3 =>
 ((FF n 178 [.agg [.int .i64 x3.k, .int .i64 x3.n, .fr (.ts x3.kids)]] []).bind fun x4 =>
 (rIs x4.1 fun x5 x6 =>
 (ar x6 fun x7 x8 =>
 (ai x8 (aj x4.2
 (cond (cn ([0] ++ x5).length)
 (some ([.one (.fr (.is ([0] ++ x5))), .one (.bool x7)], []))
 none)))))))
 (cond (decide (v0 = 15))
 (v2[(0 : Int).toNat]?.bind fun x3 =>
 ((FF n 178 [.agg [.int .i64 x3.k, .int .i64 x3.n, .fr (.ts x3.kids)]] []).bind fun x4 =>
 (rIs x4.1 fun x5 x6 =>
 (ar x6 fun x7 x8 =>
 (ai x8 (aj x4.2
 (cond (cn ([0] ++ x5).length)
 (some ([.one (.fr (.is ([0] ++ x5))), .one (.bool x7)], []))
 none)))))))
 (cond (decide (v0 = 16))
 (v2[(0 : Int).toNat]?.bind fun x3 =>
 ((FF n 178 [.agg [.int .i64 x3.k, .int .i64 x3.n, .fr (.ts x3.kids)]] []).bind fun x4 =>
 (rIs x4.1 fun x5 x6 =>
 (ar x6 fun x7 x8 =>
 (ai x8 (aj x4.2
 (cond (cn ([0] ++ x5).length)
 (some ([.one (.fr (.is ([0] ++ x5))), .one (.bool x7)], []))
 none)))))))
 (cond (decide (v0 = 9))
 (v2[(3 : Int).toNat]?.bind fun x3 =>
 ((FF n 178 [.agg [.int .i64 x3.k, .int .i64 x3.n, .fr (.ts x3.kids)]] []).bind fun x4 =>
 (rIs x4.1 fun x5 x6 =>
 (ar x6 fun x7 x8 =>
 (ai x8 (aj x4.2
 (cond (cn ([3] ++ x5).length)
 (some ([.one (.fr (.is ([3] ++ x5))), .one (.bool x7)], []))
 none)))))))
 (cond (decide (v0 = 12))
 (v2[(1 : Int).toNat]?.bind fun x3 =>
 ((FF n 178 [.agg [.int .i64 x3.k, .int .i64 x3.n, .fr (.ts x3.kids)]] []).bind fun x4 =>
 (rIs x4.1 fun x5 x6 =>
 (ar x6 fun x7 x8 =>
 (ai x8 (aj x4.2
 (cond (cn ([1] ++ x5).length)
 (some ([.one (.fr (.is ([1] ++ x5))), .one (.bool x7)], []))
 none)))))))
 (some ([.one (.fr (.is [])), .one (.bool false)], [])))))))))))) := by kernel_rfl
end Go.Proofs.YtajlknlnmmbfcaaGreat
end
section

end
section
namespace Go.Ab
open Go Go.Dk
open Go.ChangeShapes Go.WideShapes Go.ChangeAt Go.RowKit
abbrev Hg : bx := fun _ => True
theorem Iq {P : Program} [DrM P] {S : Say} (hp : tf P S) (hib : ∀ f, S.D.ib f = true → l7 P f) {f : FuncId} {fn : Func} {n : Nat} {args : List V1} {vals : List Value} {w : World}
   (hfn : P.funcs[f]? = some fn) (hb : fn.body.isSome = true) (hr : ax (RV [] Hg w) (args.map .v) vals) (h : evF P S n f args [] = some ([.one (.bool true)], [])) :
   Calls P f vals.toArray w fun e w' => e = .returned (.bool true) ∧ uZ w w' := by
 have h0 : bA w GS Hg 0 [] ⟨args.map .v, []⟩ vals w := by
  refine ⟨St.init w GS Hg (aY _ _ _) ⟨hr, ax.nil⟩, fun j _ hl => by simp at hl, fun k hk => trivial⟩
 have := FP hp hib n f fn args [] _ hfn hb h w GS Hg [] vals w h0
 refine this.mono fun e w' ⟨xs, G', he, hI, _⟩ => ?_
 obtain ⟨x, xs', rfl, h1, h2⟩ := hI.st.per.1.cons_inv
 obtain rfl := h2.a7
 obtain rfl := dq h1
 exact ⟨he, hI.st.ext⟩
theorem b9 {d : SD} {v : Value} {w : World} (h : SlR Hg w d v) : RV1 [] Hg w (.one (.fr d)) v := ⟨h, fun _ => by obtain ⟨a, cap, xs, rfl, _⟩ := h; rfl⟩
theorem bM {H : Type} {enc : TypeId × Value → H} {P : Program} {W : World} {base : Nat} {tB tU : TypeId} (hB : P.underlying tB = some (.slice tU)) (hU : P.underlying tU = some (.int .u8)) (hc : P.cellsOf tU = 1)
   {v : Value} {d : DataW H} {p : List MemPlace} (hval : Value.okWide P W .any base tB v) (h : DataW.Trod enc P W 0 (fun _ => true) true tB v d p) : ∃ l : List UInt8, SlR Hg W (.bs l) v := by
 obtain ⟨a1, len, cap, rfl⟩ := okWide_slice hB hval
 obtain ⟨fuel, hf⟩ := h
 rcases open_ints hB hU hc hf with ⟨hcs, hx⟩ | ⟨a, len', cap', zs, hcs, _, hl, hm, hz, hx, hcell, hwz⟩
 ·simp [Value.cells] at hcs
  obtain ⟨rfl, rfl, rfl⟩ := hcs
  exact ⟨[], none, 0, [], rfl, Nat.zero_le _, Nat.zero_le _, rfl, .inl rfl⟩
 ·simp [Value.cells] at hcs
  obtain ⟨rfl, rfl, rfl⟩ := hcs
  simp only [if_true] at hz
  refine ⟨(zs.take len).map (fun n : Int => UInt8.ofNat n.toNat), ?_⟩
  have hlen : ((zs.take len).map fun n => UInt8.ofNat n.toNat).length = len := by simp; omega
  by_cases h0 : len = 0
  ·subst h0
   exact ⟨some a, cap, [], by simp [SD.len], Nat.zero_le _, Nat.zero_le _, by simp [aI], .inl rfl⟩
  ·obtain ⟨ab, ao, spot⟩ := a
   have hspot : spot = none := by simpa [Addr.add] using World.cell?_spot (hcell 0 (by omega))
   subst hspot
   refine ⟨some ⟨ab, ao, none⟩, cap, ((zs.take len).map (fun n : Int => UInt8.ofNat n.toNat)).map (fun c => Value.int .u8 ((UInt8.toNat c : Nat) : Int)), ?_, ?_, ?_, rfl, .inr ⟨ab, ao, rfl, trivial, fun i x hx => ?_⟩⟩
   ·simp only [SD.len, hlen]
   ·simp only [SD.len, hlen]; exact hl
   ·simp only [SD.len, hlen]; exact Nat.le_trans hl hm
   ·rw [List.getElem?_map, List.getElem?_map] at hx
    cases hzi : (zs.take len)[i]? with
    | none => rw [hzi] at hx; simp at hx
    | some n =>
     rw [hzi] at hx
     simp at hx
     subst hx
     have hil : i < len := by
      rcases Nat.lt_or_ge i len with h' | h'
      ·exact h'
      ·rw [List.getElem?_eq_none (by simp; omega)] at hzi; cases hzi
     have hzi' : zs[i]? = some n := by rw [List.getElem?_take_of_lt hil] at hzi; exact hzi
     have hc' := hcell i (by omega)
     rw [kg] at hc'
     rw [hc']
     have hn : zs.getD i 0 = n := by simp [List.getD, hzi']
     rw [hn]
     have hw := hwz n (List.mem_of_getElem? hzi')
     have hnn : 0 ≤ n ∧ n ≤ 255 := by
      simp [Lit.wf, IntKind.min, IntKind.max, IntKind.signed, IntKind.bits] at hw
      omega
     have hb : max n 0 % 256 = n := by omega
     rw [hb]
end Go.Ab
end
section
namespace Go.Proofs.YtajlknlnmmbfcaaGreat
open Go Go.Ab Go.Dk
def Ev (f : FuncId) (args : List V1) (h : List av) (r : List V1 × List av) : Prop := ∃ N, ∀ n, N ≤ n → FF n f args h = some r
theorem hib : ∀ f, SS.D.ib f = true → l7 Tryz.prog f := by
 intro f hf
 first
 | exact hibX f hf
 | exact absurd hf (by decide)
 | cases hf
theorem Mo : tf Tryz.prog SS := fun f g args out h => by cases h
theorem iP {f : FuncId} {fn : Func} {args : List V1} {vals : List Value} {w : World} (hfn : Tryz.prog.funcs[f]? = some fn) (hb : fn.body.isSome = true) (hr : ax (RV [] Hg w) (args.map .v) vals)
   (h : Ev f args [] ([.one (.bool true)], [])) : Calls Tryz.prog f vals.toArray w fun e w' => e = .returned (.bool true) ∧ uZ w w' := by
 obtain ⟨N, h⟩ := h
 exact Iq Mo hib hfn hb hr (h N (Nat.le_refl N))
theorem Ev.of {f : FuncId} {args : List V1} {h : List av} {r : List V1 × List av} (N : Nat) (hh : ∀ n, N ≤ n → FF (n + 1) f args h = some r) : Ev f args h r :=
 ⟨N + 1, fun n hn => by obtain ⟨m, rfl⟩ : ∃ m, n = m + 1 := ⟨n - 1, by omega⟩; exact hh m (by omega)⟩
theorem wrap64 {a : Int} (h : -9223372036854775808 ≤ a ∧ a ≤ 9223372036854775807) : IntKind.i64.wrap a = a := IntWalk.i64_in _ h
theorem EM (a : IntKind) : F1 a a = true := by simp [F1]
theorem Dz (a : Nat) : Nat.beq a a = true := Nat.beq_refl a
theorem az {α : Type} (p : Prop) [Decidable p] (a b : α) : cond (decide p) a b = if p then a else b := by by_cases h : p <;> simp [h]
theorem jI {α : Type} (p : Prop) [Decidable p] (a b : α) : cond (!decide p) a b = if p then b else a := by by_cases h : p <;> simp [h]
theorem tQ (c : UInt8) : 0 ≤ (c.toNat : Int) ∧ (c.toNat : Int) ≤ 255 := by have := c.toNat_lt; omega
theorem Kd (c : UInt8) : IntKind.i64.wrap (c.toNat : Int) = c.toNat := wrap64 (by have := tQ c; omega)
section
variable {V W : Type} (l : List V1) (c : List SV) (o : List av)
theorem HF (a : IntKind) (n : Int) (k) : aw a (.one (.int a n) :: l) k = k n l := by simp [aw, F1]
theorem D6 (b : Bool) (k) : ar (.one (.bool b) :: l) k = k b l := rfl
theorem Ic (x : ByteArray) (k) : mL (.one (.str x) :: l) k = k x l := rfl
theorem KA (x : List T) (k) : rTs (.one (.fr (.ts x)) :: l) k = k x l := rfl
theorem LA (x : List Int) (k) : rIs (.one (.fr (.is x)) :: l) k = k x l := rfl
theorem HZ (x : List (List Int)) (k) : JG (.one (.fr (.iss x)) :: l) k = k x l := rfl
theorem K7 (x : List ByteArray) (k) : rSs (.one (.fr (.ss x)) :: l) k = k x l := rfl
theorem JV (x : List UInt8) (k) : rBs (.one (.fr (.bs x)) :: l) k = k x l := rfl
theorem y5 (a b : Int) (x : List T) (k) : ah (.agg [.int .i64 a, .int .i64 b, .fr (.ts x)] :: l) k = k (.mk a b x) l := rfl
theorem Ed (j : Nat) (a b : Int) (k) : fL j (.agg [.int .i64 a, .int .i64 b, .own j 0] :: l) k = k a b l := by simp [fL]
theorem Ib (j : Nat) (k) : HY j (.one (.own j 0) :: l) k = k l := by simp [HY]
theorem H3 (j : Nat) (k) : Hq j (.one (.ptr j 0) :: l) k = k l := by simp [Hq]
theorem Hp (k) : ai [] k = k := rfl
theorem Hm (k) : aj [] k = k := rfl
theorem HV (x : List SV) (k) : ba (.cells x :: o) k = k x o := rfl
theorem DR (x : av) (k) : yI (x :: o) k = k o := rfl
theorem Ie (a : IntKind) (n : Int) (k) : bj a (.int a n :: c) k = k n c := by simp [bj, F1]
theorem DU (b : Bool) (k) : oq (.bool b :: c) k = k b c := rfl
theorem HG (x : ByteArray) (k) : JM (.str x :: c) k = k x c := rfl
theorem Lg (x : List T) (k) : tsC (.fr (.ts x) :: c) k = k x c := rfl
theorem Ku (x : List Int) (k) : isC (.fr (.is x) :: c) k = k x c := rfl
theorem HM (x : List (List Int)) (k) : JP (.fr (.iss x) :: c) k = k x c := rfl
theorem J2 (x : List ByteArray) (k) : ssC (.fr (.ss x) :: c) k = k x c := rfl
theorem Lx (x : List UInt8) (k) : bsC (.fr (.bs x) :: c) k = k x c := rfl
theorem H7 (x : SV) (k) : JT (x :: c) k = k c := rfl
theorem HP (k) : bh [] k = k := rfl
theorem Fl (e : TypeId) (x : List T) (k) : cf e (.arr e (.ts x) 0 false :: o) k = k x o := by simp [cf]
theorem E8 (e : TypeId) (x : List Int) (k) : sf e (.arr e (.is x) 0 false :: o) k = k x o := by simp [sf]
theorem Ad (e : TypeId) (x : List (List Int)) (k) : m9 e (.arr e (.iss x) 0 false :: o) k = k x o := by simp [m9]
theorem EN (e : TypeId) (x : List ByteArray) (k) : rQ e (.arr e (.ss x) 0 false :: o) k = k x o := by simp [rQ]
theorem ED (e : TypeId) (x : List UInt8) (k) : sK e (.arr e (.bs x) 0 false :: o) k = k x o := by simp [sK]
end
theorem evs : type_of% (And.intro @Option.bind_some.{0,0} <| And.intro @HF <| And.intro @D6 <| And.intro @Ic <| And.intro @KA <| And.intro @LA <| And.intro @HZ <| And.intro @K7 <| And.intro @JV <| And.intro @y5 <| And.intro @Ed <| And.intro @Ib <| And.intro @H3 <| And.intro @Hp <| And.intro @Hm <| And.intro @HV <| And.intro @DR <| And.intro @Ie <| And.intro @DU <| And.intro @HG <| And.intro @Lg <| And.intro @Ku <| And.intro @HM <| And.intro @J2 <| And.intro @Lx <| And.intro @H7 <| And.intro @HP <| And.intro @Fl <| And.intro @E8 <| And.intro @Ad <| And.intro @EN <| And.intro @ED <| And.intro @EM <| And.intro @Dz <| And.intro @cond_true.{1} @cond_false.{1}) := And.intro @Option.bind_some.{0,0} <| And.intro @HF <| And.intro @D6 <| And.intro @Ic <| And.intro @KA <| And.intro @LA <| And.intro @HZ <| And.intro @K7 <| And.intro @JV <| And.intro @y5 <| And.intro @Ed <| And.intro @Ib <| And.intro @H3 <| And.intro @Hp <| And.intro @Hm <| And.intro @HV <| And.intro @DR <| And.intro @Ie <| And.intro @DU <| And.intro @HG <| And.intro @Lg <| And.intro @Ku <| And.intro @HM <| And.intro @J2 <| And.intro @Lx <| And.intro @H7 <| And.intro @HP <| And.intro @Fl <| And.intro @E8 <| And.intro @Ad <| And.intro @EN <| And.intro @ED <| And.intro @EM <| And.intro @Dz <| And.intro @cond_true.{1} @cond_false.{1}
def Tot (o : OR) (Q : List V1 × List av → Prop) : Prop := ∃ r, o = some r ∧ Q r
theorem aq {r : List V1 × List av} {Q : List V1 × List av → Prop} (h : Q r) : Tot (some r) Q := ⟨r, rfl, h⟩
theorem al {b : Bool} {x y : OR} {Q : List V1 × List av → Prop} (hx : b = true → Tot x Q) (hy : b = false → Tot y Q) : Tot (cond b x y) Q := by
 cases b
 ·exact hy rfl
 ·exact hx rfl
theorem af {o : OR} {k : List V1 × List av → OR} {Q R : List V1 × List av → Prop} (h : Tot o R) (hk : ∀ r, R r → Tot (k r) Q) : Tot (o.bind k) Q := by
 obtain ⟨r, h1, h2⟩ := h
 rw [h1]; exact hk r h2
theorem jj {o : OR} {Q R : List V1 × List av → Prop} (h : Tot o Q) (hk : ∀ r, Q r → R r) : Tot o R := by
 obtain ⟨r, h1, h2⟩ := h
 exact ⟨r, h1, hk r h2⟩
theorem aK {C : Nat} {f : FuncId} {args : List V1} {h : List av} {Q : List V1 × List av → Prop} {n : Nat} (hn : C + 1 ≤ n) (hh : ∀ m, C ≤ m → n = m + 1 → Tot (FF (m + 1) f args h) Q) : Tot (FF n f args h) Q := by
 obtain ⟨m, rfl⟩ : ∃ m, n = m + 1 := ⟨n - 1, by omega⟩
 exact hh m (by omega) rfl
end Go.Proofs.YtajlknlnmmbfcaaGreat
end
section
namespace Go.Proofs.YtajlknlnmmbfcaaGreat
open Go Go.Ab Go.Dk
theorem Lr {a b : Int} (ha : 0 ≤ a ∧ a < 4611686018427387904) (hb : 0 ≤ b ∧ b < 4611686018427387904) : 0 ≤ IntKind.i64.wrap (BitVec.ofInt IntKind.i64.bits a ^^^ BitVec.ofInt IntKind.i64.bits b).toNat := by
 obtain ⟨m, rfl⟩ : ∃ m : Nat, a = m := ⟨a.toNat, by omega⟩
 obtain ⟨n, rfl⟩ : ∃ n : Nat, b = n := ⟨b.toNat, by omega⟩
 have hm : m < 2 ^ 62 := by omega
 have hn : n < 2 ^ 62 := by omega
 have hx : m ^^^ n < 2 ^ 62 := Nat.xor_lt_two_pow hm hn
 have e : (BitVec.ofInt 64 (m : Int) ^^^ BitVec.ofInt 64 (n : Int)).toNat = m ^^^ n := by
  rw [BitVec.toNat_xor]
  have h1 : (BitVec.ofInt 64 (m : Int)).toNat = m := by simp; omega
  have h2 : (BitVec.ofInt 64 (n : Int)).toNat = n := by simp; omega
  rw [h1, h2]
 show 0 ≤ IntKind.i64.wrap ((BitVec.ofInt 64 (m : Int) ^^^ BitVec.ofInt 64 (n : Int)).toNat : Int)
 rw [e, IntWalk.i64_in _ (by omega)]
 omega
abbrev rdr (l : List UInt8) (p : Int) : av := .cells [.fr (.bs l), .int .i64 p]
def jk (l : List UInt8) (p m : Int) : Prop := l.length ≤ 2000 ∧ 0 ≤ p ∧ p ≤ m
theorem jk.mono {l : List UInt8} {p m m' : Int} (h : jk l p m) (hm : m ≤ m') : jk l p m' := ⟨h.1, h.2.1, by have := h.2.2; omega⟩
theorem pB {a b : Int} (ha : 0 ≤ a) (hb : 0 < b) : 0 ≤ a.tmod b ∧ a.tmod b < b := by
 rw [Int.tmod_eq_emod_of_nonneg ha]
 exact ⟨Int.emod_nonneg _ (by omega), Int.emod_lt_of_pos _ hb⟩
theorem zH {a b : Int} (ha : 0 ≤ a) (hb : 0 < b) : 0 ≤ a.tdiv b ∧ a.tdiv b ≤ a := by
 rw [Int.tdiv_eq_ediv_of_nonneg ha]
 exact ⟨Int.ediv_nonneg ha (by omega), Int.ediv_le_self _ ha⟩
theorem Fy {l : List UInt8} {i : Int} (h0 : 0 ≤ i) (h1 : i < l.length) : ∃ c, l[i.toNat]? = some c := by
 have : i.toNat < l.length := by omega
 exact ⟨l[i.toNat], List.getElem?_eq_getElem this⟩
def EvA (C : Nat) (f : FuncId) (args : List V1) (h : List av) (r : List V1 × List av) : Prop := ∀ n, C ≤ n → FF n f args h = some r
theorem EvA.of {f args h r} (C : Nat) (hh : ∀ n, C ≤ n → FF (n + 1) f args h = some r) : EvA (C + 1) f args h r := fun n hn => by obtain ⟨m, rfl⟩ : ∃ m, n = m + 1 := ⟨n - 1, by omega⟩; exact hh m (by omega)
theorem HS {l : List UInt8} {p m n : Int} (h : jk l p m) (hm : m ≤ 1099511627776) (hn : n ≤ 2147483648) :
   ∃ v, (0 ≤ v ∧ (0 < n → v < n) ∧ (n < 1 → v = 0)) ∧ jk l (p + 1) (m + 1) ∧ EvA 1 79 [.one (.ptr 0 0), .one (.int .i64 n)] [rdr l p] ([.one (.int .i64 v)], [rdr l (p + 1)]) := by
 obtain ⟨hl, h0, hp⟩ := h
 have hr : jk l (p + 1) (m + 1) := ⟨hl, by omega, by omega⟩
 have w1 : IntKind.i64.wrap (p + 1) = p + 1 := wrap64 (by omega)
 have w2 : IntKind.i64.wrap (p + 1 - 1) = p := by rw [wrap64 (by omega)]; omega
 by_cases hn1 : n < 1
 ·refine ⟨0, ⟨by omega, by omega, by omega⟩, hr, EvA.of 0 fun k _ => ?_⟩
  rw [dv]
  simp only [az, if_pos hn1, w1]
 ·by_cases hl0 : (l.length : Int) = 0
  ·refine ⟨0, ⟨by omega, by omega, by omega⟩, hr, EvA.of 0 fun k _ => ?_⟩
   rw [dv]
   simp only [az, if_neg hn1, if_pos hl0, w1]
  ·have hlp : 0 < (l.length : Int) := by omega
   by_cases hk : p < l.length
   ·obtain ⟨c, hc⟩ := Fy h0 hk
    have hb := tQ c
    have ht := pB hb.1 (show 0 < n by omega)
    refine ⟨Int.tmod c.toNat n, ⟨ht.1, fun _ => ht.2, by omega⟩, hr, EvA.of 0 fun k _ => ?_⟩
    rw [dv]
    simp only [az, if_neg hn1, if_neg hl0, w1, w2, if_pos hk, if_pos h0, hc, Option.bind_some, Kd, if_neg (show ¬ n = 0 by omega)]
   ·have t1 := pB h0 hlp
    obtain ⟨c, hc⟩ := Fy t1.1 t1.2
    have w3 : IntKind.i64.wrap (p * 7) = p * 7 := wrap64 (by omega)
    have w4 : IntKind.i64.wrap (p * 7 + 3) = p * 7 + 3 := wrap64 (by omega)
    have t2 := pB (show 0 ≤ p * 7 + 3 by omega) hlp
    obtain ⟨d, hd⟩ := Fy t2.1 t2.2
    have hb := tQ c
    have hb' := tQ d
    have t3 := zH h0 hlp
    have w5 : IntKind.i64.wrap ((c.toNat : Int) * 131) = c.toNat * 131 := wrap64 (by omega)
    have w6 : IntKind.i64.wrap ((d.toNat : Int) * 1117) = d.toNat * 1117 := wrap64 (by omega)
    have w7 : IntKind.i64.wrap ((c.toNat : Int) * 131 + d.toNat * 1117) = c.toNat * 131 + d.toNat * 1117 := wrap64 (by omega)
    have w8 : IntKind.i64.wrap (p * 29) = p * 29 := wrap64 (by omega)
    have w9 : IntKind.i64.wrap ((c.toNat : Int) * 131 + d.toNat * 1117 + p * 29) = c.toNat * 131 + d.toNat * 1117 + p * 29 := wrap64 (by omega)
    have wa : IntKind.i64.wrap (p.tdiv l.length) = p.tdiv l.length := wrap64 (by omega)
    have wb : IntKind.i64.wrap (p.tdiv l.length * 53) = p.tdiv l.length * 53 := wrap64 (by omega)
    have wc : IntKind.i64.wrap ((c.toNat : Int) * 131 + d.toNat * 1117 + p * 29 + p.tdiv l.length * 53) = c.toNat * 131 + d.toNat * 1117 + p * 29 + p.tdiv l.length * 53 := wrap64 (by omega)
    have t4 := zH (show 0 ≤ (c.toNat : Int) * 131 + d.toNat * 1117 + p * 29 + p.tdiv l.length * 53 by omega) (show (0 : Int) < 64 by omega)
    have wd : IntKind.i64.wrap (Int.tdiv ((c.toNat : Int) * 131 + d.toNat * 1117 + p * 29 + p.tdiv l.length * 53) 64) = Int.tdiv ((c.toNat : Int) * 131 + d.toNat * 1117 + p * 29 + p.tdiv l.length * 53) 64 := wrap64 (by omega)
    have hx := Lr (a := (c.toNat : Int) * 131 + d.toNat * 1117 + p * 29 + p.tdiv l.length * 53) (b := Int.tdiv ((c.toNat : Int) * 131 + d.toNat * 1117 + p * 29 + p.tdiv l.length * 53) 64) (by omega) (by omega)
    have ht := pB hx (show 0 < n by omega)
    refine ⟨_, ⟨ht.1, fun _ => ht.2, by omega⟩, hr, EvA.of 0 fun k _ => ?_⟩
    rw [dv]
    simp only [az, if_neg hn1, if_neg hl0, w1, w2, if_neg hk, if_pos t1.1, hc, Option.bind_some, Kd, w3, w4, if_pos t2.1, hd, if_neg (show ¬ n = 0 by omega), w5, w6, w7, w8, w9, wa, wb, wc, wd]
theorem Mq {l : List UInt8} {p m : Int} (h : jk l p m) (hm : m ≤ 1099511627776) {ss : List Int} (hs : ss ≠ []) (hs2 : ss.length ≤ 2147483648) :
   ∃ s ∈ ss, jk l (p + 1) (m + 1) ∧ EvA 2 86 [.one (.ptr 0 0), .one (.fr (.is ss))] [rdr l p] ([.one (.int .i64 s)], [rdr l (p + 1)]) := by
 obtain ⟨v, ⟨v0, v1, _⟩, hr, hN⟩ := HS h hm (n := (ss.length : Int)) (by omega)
 have hpos := List.length_pos_iff.2 hs
 have hv := v1 (by omega)
 have hlt : v.toNat < ss.length := by omega
 refine ⟨ss[v.toNat], List.getElem_mem hlt, hr, EvA.of 1 fun n hn => ?_⟩
 rw [oH, hN n hn]
 simp only [evs, az, if_pos v0, List.getElem?_eq_getElem hlt]
theorem Lk (l : List UInt8) : ∃ l', jk l' 0 0 ∧ EvA 1 48 [.one (.fr (.bs l))] [] ([.one (.ptr 0 0)], [rdr l' 0]) := by
 by_cases hl : 2000 < (l.length : Int)
 ·refine ⟨(l.take (2000 : Int).toNat).drop (0 : Int).toNat, ⟨by simp; omega, by omega, by omega⟩, EvA.of 0 fun n _ => ?_⟩
  ·rw [kC]
   simp only [az, if_pos hl, inB, Int.le_refl, decide_true, Bool.true_and, show (0 : Int) ≤ 2000 from by omega, if_pos (show (2000 : Int) ≤ l.length by omega)]
 ·refine ⟨l, ⟨by omega, by omega, by omega⟩, EvA.of 0 fun n _ => ?_⟩
  rw [kC]
  simp only [az, if_neg hl]
end Go.Proofs.YtajlknlnmmbfcaaGreat
end
section
namespace Go.Proofs.YtajlknlnmmbfcaaGreat
open Go Go.Dk
def opsOf : Int → Int := fun k => if k = 1 ∨ k = 2 ∨ k = 6 ∨ k = 7 then 0 else if k = 8 ∨ k = 11 ∨ k = 15 ∨ k = 16 then 1 else if k = 3 ∨ k = 4 ∨ k = 5 ∨ k = 13 then 2 else if k = 10 ∨ k = 12 ∨ k = 14 then 3 else if k = 9 then 4 else -1
def cw : Int → Int := fun k => if k = 1 then 20 else if k = 2 then 3 else 0
mutual
def iL : T → Int → Int → Bool × Int
 | .mk k n kids, deep, c => if 400 < c + 1 ∨ 30 < deep ∨ opsOf k ≠ kids.length ∨ ¬ (0 ≤ n ∧ n ≤ cw k) then (false, c + 1) else jx kids (deep + 1) (c + 1)
def jx : List T → Int → Int → Bool × Int
 | [], _, c => (true, c)
 | t :: ts, d, c => if (iL t d c).1 then jx ts d (iL t d c).2 else (false, (iL t d c).2)
end
theorem Gt (t : T) (d c : Int) : iL t d c = if 400 < c + 1 ∨ 30 < d ∨ opsOf t.k ≠ t.kids.length ∨ ¬ (0 ≤ t.n ∧ t.n ≤ cw t.k) then (false, c + 1) else jx t.kids (d + 1) (c + 1) := by
 cases t; simp only [iL]; rfl
mutual
theorem Ax (t : T) (d c : Int) : (iL t d c).1 = true → c + 1 ≤ (iL t d c).2 ∧ (iL t d c).2 ≤ 400 := by
 cases t with
 | mk k n kids =>
  unfold iL
  split
  ·intro h; cases h
  ·rename_i h
   intro h1
   have h2 : c + 1 ≤ 400 := by simp only [not_or] at h; omega
   have := AE kids (d + 1) (c + 1) h2 h1
   omega
theorem AE (ts : List T) (d c : Int) (hc : c ≤ 400) : (jx ts d c).1 = true → c ≤ (jx ts d c).2 ∧ (jx ts d c).2 ≤ 400 := by
 cases ts with
 | nil => intro _; simp [jx, hc]
 | cons t ts =>
  unfold jx
  split
  ·rename_i h
   intro h1
   have a := Ax t d c h
   have b := AE ts d _ a.2 h1
   omega
  ·intro h; cases h
end
mutual
def bD : T → Nat → Bool
 | .mk k n kids, d => decide (1 ≤ d) && (decide (opsOf k = kids.length) && (decide (0 ≤ n ∧ n ≤ cw k) && bH kids (d - 1)))
def bH : List T → Nat → Bool
 | [], _ => true
 | t :: ts, d => bD t d && bH ts d
end
theorem iK (t : T) (d : Nat) : bD t d = (decide (1 ≤ d) && (decide (opsOf t.k = t.kids.length) && (decide (0 ≤ t.n ∧ t.n ≤ cw t.k) && bH t.kids (d - 1)))) := by cases t; simp only [bD]; rfl
def ak (t : T) : Bool := bD t 30 && decide (t.size ≤ 400)
def AI (t : T) (m : Nat) : Nat := min t.size (m + 1)
mutual
theorem vg (t : T) (d c : Nat) (hc : c ≤ 400) (hd : d ≤ 31) : ((iL t d c).1 = true ↔ bD t (31 - d) = true ∧ c + t.size ≤ 400) ∧ ((iL t d c).1 = true → (iL t d c).2 = c + t.size) := by
 cases t with
 | mk k n kids =>
  have hs : T.size (.mk k n kids) = 1 + T.aE kids := rfl
  unfold iL bD
  by_cases hcond : 400 < (c : Int) + 1 ∨ 30 < (d : Int) ∨ opsOf k ≠ (kids.length : Int) ∨ ¬ (0 ≤ n ∧ n ≤ cw k)
  ·rw [if_pos hcond]
   refine ⟨⟨fun h => (by cases h), fun h => ?_⟩, fun h => (by cases h)⟩
   simp only [Bool.and_eq_true, decide_eq_true_eq] at h
   obtain ⟨⟨h1, h2, h3, h4⟩, h5⟩ := h
   exfalso
   rcases hcond with h | h | h | h
   ·omega
   ·omega
   ·exact h h2
   ·exact h h3
  ·rw [if_neg hcond]
   simp only [not_or, Decidable.not_not] at hcond
   have hk : ((c : Int) + 1) = ((c + 1 : Nat) : Int) := by omega
   have hk2 : ((d : Int) + 1) = ((d + 1 : Nat) : Int) := by omega
   rw [hk, hk2]
   have ih := wD kids (d + 1) (c + 1) (by omega) (by omega)
   rw [decide_eq_true (by omega : 1 ≤ 31 - d), decide_eq_true hcond.2.2.1, decide_eq_true hcond.2.2.2, Bool.true_and, Bool.true_and, Bool.true_and, show 31 - d - 1 = 31 - (d + 1) by omega, hs]
   refine ⟨⟨fun h => ?_, fun h => ?_⟩, fun h => ?_⟩
   ·have := ih.1.1 h; exact ⟨this.1, by omega⟩
   ·exact ih.1.2 ⟨h.1, by omega⟩
   ·have := ih.2 h; omega
theorem wD (ts : List T) (d c : Nat) (hc : c ≤ 400) (hd : d ≤ 31) : ((jx ts d c).1 = true ↔ bH ts (31 - d) = true ∧ c + T.aE ts ≤ 400) ∧ ((jx ts d c).1 = true → (jx ts d c).2 = c + T.aE ts) := by
 cases ts with
 | nil => simp [jx, bH, T.aE, hc]
 | cons t ts =>
  have ih := vg t d c hc hd
  have hs : T.aE (t :: ts) = t.size + T.aE ts := rfl
  unfold jx bH
  by_cases h1 : (iL t d c).1 = true
  ·have h2 := ih.2 h1
   have h3 := ih.1.1 h1
   have ih2 := wD ts d (c + t.size) h3.2 hd
   have hk : ((c : Int) + (t.size : Int)) = ((c + t.size : Nat) : Int) := by omega
   rw [if_pos h1, h2, hk, h3.1, Bool.true_and, hs]
   refine ⟨⟨fun h => ?_, fun h => ?_⟩, fun h => ?_⟩
   ·have := ih2.1.1 h; exact ⟨this.1, by omega⟩
   ·exact ih2.1.2 ⟨h.1, by omega⟩
   ·have := ih2.2 h; omega
  ·rw [if_neg h1, hs]
   refine ⟨⟨fun h => (by cases h), fun h => ?_⟩, fun h => (by cases h)⟩
   exfalso
   rw [Bool.and_eq_true] at h
   exact h1 (ih.1.2 ⟨h.1.1, by omega⟩)
end
theorem Cf (t : T) : (iL t 1 0).1 = ak t := by
 have := (vg t 1 0 (by omega) (by omega)).1
 unfold ak
 rw [Bool.eq_iff_iff, Bool.and_eq_true, decide_eq_true_eq]
 simpa using this
theorem np {u : T} {d : Nat} : ∀ {ts : List T}, bH ts d = true → u ∈ ts → bD u d = true
 | t :: ts, h, hu => by
  simp only [bH, Bool.and_eq_true] at h
  rcases List.mem_cons.1 hu with rfl | hu
  ·exact h.1
  ·exact np h.2 hu
mutual
theorem pM : ∀ (t : T) (d : Nat), bD t d = true → bD t (d + 1) = true
 | .mk k n kids, d, h => by
  simp only [bD, Bool.and_eq_true, decide_eq_true_eq] at h ⊢
  refine ⟨by omega, h.2.1, h.2.2.1, ?_⟩
  have := wE kids (d - 1) h.2.2.2
  rwa [show d - 1 + 1 = d + 1 - 1 by omega] at this
theorem wE : ∀ (ts : List T) (d : Nat), bH ts d = true → bH ts (d + 1) = true
 | [], _, _ => rfl
 | t :: ts, d, h => by
  simp only [bH, Bool.and_eq_true] at h ⊢
  exact ⟨pM t d h.1, wE ts d h.2⟩
end
theorem bB {t u : T} (h : ak t = true) (hu : u ∈ t.kids) : ak u = true := by
 unfold ak at h ⊢
 rw [Bool.and_eq_true, decide_eq_true_eq] at h ⊢
 rw [iK] at h
 simp only [Bool.and_eq_true, decide_eq_true_eq] at h
 have h1 := pM _ _ (np h.1.2.2.2 hu)
 have h2 := T.aV hu
 have h3 := T.size_eq t
 exact ⟨h1, by omega⟩
theorem m6 {t : T} (h : ak t = true) : opsOf t.k = t.kids.length ∧ 0 ≤ t.n ∧ t.n ≤ cw t.k := by
 unfold ak at h
 rw [Bool.and_eq_true, iK] at h
 simp only [Bool.and_eq_true, decide_eq_true_eq] at h
 exact ⟨h.1.2.1, h.1.2.2.1⟩
theorem ae {t : T} (h : ak t = true) : t.size ≤ 400 := by
 unfold ak at h
 rw [Bool.and_eq_true, decide_eq_true_eq] at h
 exact h.2
end Go.Proofs.YtajlknlnmmbfcaaGreat
end
section
namespace Go.Proofs.YtajlknlnmmbfcaaGreat
open Go Go.Dk
def under (k : Int) (i : Nat) : Int := if i = 1 ∧ (k = 3 ∨ k = 4 ∨ k = 13) then 1 else 0
theorem dw (k : Int) (i : Nat) : 0 ≤ under k i ∧ under k i ≤ 1 := by unfold under; split <;> omega
mutual
def shT (a : Int) : T → Int → T
 | .mk k n ts, c => .mk k (if k = 1 ∧ c ≤ n then n + a else n) (shL a k 0 ts c)
def shL (a k : Int) : Nat → List T → Int → List T
 | _, [], _ => []
 | i, t :: ts, c => shT a t (c + under k i) :: shL a k (i + 1) ts c
end
mutual
def sbT (u : T) : T → Int → Int → T
 | .mk k n ts, x, d => if k = 1 ∧ n = x then shT d u 0 else .mk k (if k = 1 ∧ x < n then n - 1 else n) (sbL u k 0 ts x d)
def sbL (u : T) (k : Int) : Nat → List T → Int → Int → List T
 | _, [], _, _ => []
 | i, t :: ts, x, d => sbT u t (x + under k i) (d + under k i) :: sbL u k (i + 1) ts x d
end
mutual
theorem DE {a b : Int} (ha : 0 ≤ a) (hb : 0 ≤ b) : ∀ (t : T) (c e : Int), c ≤ e → shT a (shT b t c) (e + b) = shT b (shT a t e) c
 | .mk k n ts, c, e, h => by
  simp only [shT]
  rw [A8 ha hb k ts 0 c e h]
  congr 1
  by_cases hk : k = 1 <;> simp only [hk, true_and, false_and, if_false]
  repeat' split
  all_goals omega
theorem A8 {a b : Int} (ha : 0 ≤ a) (hb : 0 ≤ b) (k : Int) : ∀ (ts : List T) (i : Nat) (c e : Int), c ≤ e → shL a k i (shL b k i ts c) (e + b) = shL b k i (shL a k i ts e) c
 | [], i, c, e, h => rfl
 | t :: ts, i, c, e, h => by
  simp only [shL]
  rw [show e + b + under k i = e + under k i + b by omega, DE ha hb t (c + under k i) (e + under k i) (by omega), A8 ha hb k ts (i + 1) c e h]
end
mutual
theorem Ii {a b : Int} (ha : 0 ≤ a) (hb : 0 ≤ b) : ∀ (t : T) (c e : Int), c ≤ e → e ≤ c + b → shT a (shT b t c) e = shT (a + b) t c
 | .mk k n ts, c, e, h, h2 => by
  simp only [shT]
  rw [EF ha hb k ts 0 c e h h2]
  congr 1
  by_cases hk : k = 1 <;> simp only [hk, true_and, false_and, if_false]
  repeat' split
  all_goals omega
theorem EF {a b : Int} (ha : 0 ≤ a) (hb : 0 ≤ b) (k : Int) : ∀ (ts : List T) (i : Nat) (c e : Int), c ≤ e → e ≤ c + b → shL a k i (shL b k i ts c) e = shL (a + b) k i ts c
 | [], i, c, e, h, h2 => rfl
 | t :: ts, i, c, e, h, h2 => by
  simp only [shL]
  rw [Ii ha hb t (c + under k i) (e + under k i) (by omega) (by omega), EF ha hb k ts (i + 1) c e h h2]
end
mutual
theorem Lp (u : T) {b : Int} (hb : 0 ≤ b) : ∀ (t : T) (c x d : Int), c ≤ x → x ≤ c + b → sbT u (shT (b + 1) t c) x d = shT b t c
 | .mk k n ts, c, x, d, h, h2 => by
  simp only [shT, sbT]
  rw [H4 u hb k ts 0 c x d h h2]
  by_cases hk : k = 1 <;> simp only [hk, true_and, false_and, if_false]
  by_cases hn : c ≤ n
  ·rw [if_pos hn, if_neg (by omega), if_pos (by omega), if_pos hn]; congr 1; omega
  ·rw [if_neg hn, if_neg (by omega), if_neg (by omega), if_neg hn]
theorem H4 (u : T) {b : Int} (hb : 0 ≤ b) (k : Int) : ∀ (ts : List T) (i : Nat) (c x d : Int), c ≤ x → x ≤ c + b → sbL u k i (shL (b + 1) k i ts c) x d = shL b k i ts c
 | [], i, c, x, d, h, h2 => rfl
 | t :: ts, i, c, x, d, h, h2 => by
  simp only [shL, sbL]
  rw [Lp u hb t (c + under k i) (x + under k i) (d + under k i) (by omega) (by omega), H4 u hb k ts (i + 1) c x d h h2]
end
mutual
theorem KJ (u : T) {a : Int} (ha : 0 ≤ a) : ∀ (t : T) (c x d : Int), 0 ≤ d → d ≤ x → x ≤ c → shT a (sbT u t x d) c = sbT (shT a u (c - d)) (shT a t (c + 1)) x d
 | .mk k n ts, c, x, d, h0, h1, h2 => by
  simp only [shT, sbT]
  by_cases hk : k = 1
  ·subst hk
   simp only [true_and]
   by_cases hn : n = x
   ·subst hn
    rw [if_pos rfl, if_neg (show ¬ c + 1 ≤ n by omega), if_pos rfl]
    have := DE ha h0 u 0 (c - d) (by omega)
    rw [show c - d + d = c by omega] at this
    exact this
   ·rw [if_neg hn, shT]
    by_cases hn2 : x < n
    ·by_cases hn3 : c + 1 ≤ n
     ·rw [if_pos hn3, if_neg (show ¬ n + a = x by omega), if_pos hn2, if_pos (show x < n + a by omega)]
      simp only [true_and, if_pos (show c ≤ n - 1 by omega), xL u ha 1 ts 0 c x d h0 h1 h2]
      congr 1; omega
     ·rw [if_neg hn3, if_neg hn, if_pos hn2]
      simp only [true_and, if_neg (show ¬ c ≤ n - 1 by omega), xL u ha 1 ts 0 c x d h0 h1 h2]
    ·rw [if_neg hn2, if_neg (show ¬ c + 1 ≤ n by omega), if_neg hn, if_neg hn2]
     simp only [true_and, if_neg (show ¬ c ≤ n by omega), xL u ha 1 ts 0 c x d h0 h1 h2]
  ·simp only [hk, false_and, if_false, shT]
   rw [xL u ha k ts 0 c x d h0 h1 h2]
theorem xL (u : T) {a : Int} (ha : 0 ≤ a) (k : Int) : ∀ (ts : List T) (i : Nat) (c x d : Int), 0 ≤ d → d ≤ x → x ≤ c → shL a k i (sbL u k i ts x d) c = sbL (shT a u (c - d)) k i (shL a k i ts (c + 1)) x d
 | [], i, c, x, d, h0, h1, h2 => rfl
 | t :: ts, i, c, x, d, h0, h1, h2 => by
  have hu := dw k i
  simp only [shL, sbL]
  rw [KJ u ha t (c + under k i) (x + under k i) (d + under k i) (by omega) (by omega) (by omega), xL u ha k ts (i + 1) c x d h0 h1 h2,
   show c + under k i - (d + under k i) = c - d by omega, show c + 1 + under k i = c + under k i + 1 by omega]
end
mutual
theorem Aw (u : T) {a : Int} (ha : 0 ≤ a) : ∀ (t : T) (c x d : Int), 0 ≤ c → c ≤ d → d ≤ x → shT a (sbT u t x d) c = sbT u (shT a t c) (x + a) (d + a)
 | .mk k n ts, c, x, d, h0, h1, h2 => by
  simp only [shT, sbT]
  by_cases hk : k = 1
  ·subst hk
   simp only [true_and]
   by_cases hn : n = x
   ·subst hn
    rw [if_pos rfl, if_pos (show c ≤ n by omega), if_pos rfl]
    rw [Ii ha (by omega) u 0 c h0 (by omega), Int.add_comm]
   ·rw [if_neg hn, shT]
    by_cases hn2 : c ≤ n
    ·rw [if_pos hn2, if_neg (show ¬ n + a = x + a by omega)]
     by_cases hn3 : x < n
     ·rw [if_pos hn3, if_pos (show x + a < n + a by omega)]
      simp only [true_and, if_pos (show c ≤ n - 1 by omega), j5 u ha 1 ts 0 c x d h0 h1 h2]
      congr 1; omega
     ·rw [if_neg hn3, if_neg (show ¬ x + a < n + a by omega)]
      simp only [true_and, if_pos hn2, j5 u ha 1 ts 0 c x d h0 h1 h2]
    ·rw [if_neg (show ¬ x < n by omega), if_neg hn2, if_neg (show ¬ n = x + a by omega), if_neg (show ¬ x + a < n by omega)]
     simp only [true_and, if_neg hn2, j5 u ha 1 ts 0 c x d h0 h1 h2]
  ·simp only [hk, false_and, if_false, shT]
   rw [j5 u ha k ts 0 c x d h0 h1 h2]
theorem j5 (u : T) {a : Int} (ha : 0 ≤ a) (k : Int) : ∀ (ts : List T) (i : Nat) (c x d : Int), 0 ≤ c → c ≤ d → d ≤ x → shL a k i (sbL u k i ts x d) c = sbL u k i (shL a k i ts c) (x + a) (d + a)
 | [], i, c, x, d, h0, h1, h2 => rfl
 | t :: ts, i, c, x, d, h0, h1, h2 => by
  have hu := dw k i
  simp only [shL, sbL]
  rw [Aw u ha t (c + under k i) (x + under k i) (d + under k i) (by omega) (by omega) (by omega), j5 u ha k ts (i + 1) c x d h0 h1 h2,
   show x + under k i + a = x + a + under k i by omega, show d + under k i + a = d + a + under k i by omega]
end
mutual
theorem KR (u v : T) : ∀ (t : T) (x d y e : Int), 0 ≤ d → d ≤ x → x ≤ e → e ≤ y → sbT v (sbT u t x d) y e = sbT (sbT v u (y - d) (e - d)) (sbT v t (y + 1) (e + 1)) x d
 | .mk k n ts, x, d, y, e, h0, h1, h2, h3 => by
  by_cases hk : k = 1
  ·subst hk
   by_cases hn : n = x
   ·subst hn
    rw [sbT, if_pos ⟨rfl, rfl⟩, sbT, if_neg (show ¬ ((1 : Int) = 1 ∧ n = y + 1) by omega), if_neg (show ¬ ((1 : Int) = 1 ∧ y + 1 < n) by omega), sbT, if_pos ⟨rfl, rfl⟩]
    have := Aw v h0 u 0 (y - d) (e - d) (by omega) (by omega) (by omega)
    rw [show y - d + d = y by omega, show e - d + d = e by omega] at this
    exact this.symm
   ·rw [sbT, if_neg (show ¬ ((1 : Int) = 1 ∧ n = x) by omega)]
    by_cases hn2 : n = y + 1
    ·subst hn2
     rw [if_pos (show (1 : Int) = 1 ∧ x < y + 1 by omega), sbT, if_pos (show (1 : Int) = 1 ∧ y + 1 - 1 = y by omega), sbT, if_pos ⟨rfl, rfl⟩]
     exact (Lp _ (by omega) v 0 x d (by omega) (by omega)).symm
    ·have e2 : sbT v (.mk 1 n ts) (y + 1) (e + 1) = .mk 1 (if (1 : Int) = 1 ∧ y + 1 < n then n - 1 else n) (sbL v 1 0 ts (y + 1) (e + 1)) := by
       rw [sbT, if_neg (show ¬ ((1 : Int) = 1 ∧ n = y + 1) by omega)]
     rw [e2]
     by_cases hn3 : x < n
     ·rw [if_pos (show (1 : Int) = 1 ∧ x < n by omega), sbT, if_neg (show ¬ ((1 : Int) = 1 ∧ n - 1 = y) by omega), sbT]
      by_cases hn4 : y + 1 < n
      ·rw [if_pos (show (1 : Int) = 1 ∧ y < n - 1 by omega), if_pos (show (1 : Int) = 1 ∧ y + 1 < n by omega), if_neg (show ¬ ((1 : Int) = 1 ∧ n - 1 = x) by omega), if_pos (show (1 : Int) = 1 ∧ x < n - 1 by omega), yr u v 1 ts 0 x d y e h0 h1 h2 h3]
      ·rw [if_neg (show ¬ ((1 : Int) = 1 ∧ y < n - 1) by omega), if_neg (show ¬ ((1 : Int) = 1 ∧ y + 1 < n) by omega), if_neg (show ¬ ((1 : Int) = 1 ∧ n = x) by omega), if_pos (show (1 : Int) = 1 ∧ x < n by omega), yr u v 1 ts 0 x d y e h0 h1 h2 h3]
     ·rw [if_neg (show ¬ ((1 : Int) = 1 ∧ x < n) by omega), sbT, if_neg (show ¬ ((1 : Int) = 1 ∧ n = y) by omega), if_neg (show ¬ ((1 : Int) = 1 ∧ y < n) by omega), if_neg (show ¬ ((1 : Int) = 1 ∧ y + 1 < n) by omega), sbT, if_neg (show ¬ ((1 : Int) = 1 ∧ n = x) by omega), if_neg (show ¬ ((1 : Int) = 1 ∧ x < n) by omega), yr u v 1 ts 0 x d y e h0 h1 h2 h3]
  ·simp only [sbT, hk, false_and, if_false]
   rw [yr u v k ts 0 x d y e h0 h1 h2 h3]
theorem yr (u v : T) (k : Int) : ∀ (ts : List T) (i : Nat) (x d y e : Int), 0 ≤ d → d ≤ x → x ≤ e → e ≤ y → sbL v k i (sbL u k i ts x d) y e = sbL (sbT v u (y - d) (e - d)) k i (sbL v k i ts (y + 1) (e + 1)) x d
 | [], i, x, d, y, e, h0, h1, h2, h3 => rfl
 | t :: ts, i, x, d, y, e, h0, h1, h2, h3 => by
  have hu := dw k i
  simp only [sbL]
  rw [KR u v t (x + under k i) (d + under k i) (y + under k i) (e + under k i) (by omega) (by omega) (by omega) (by omega), yr u v k ts (i + 1) x d y e h0 h1 h2 h3,
   show y + under k i - (d + under k i) = y - d by omega, show e + under k i - (d + under k i) = e - d by omega, show y + 1 + under k i = y + under k i + 1 by omega, show e + 1 + under k i = e + under k i + 1 by omega]
end
def o6 : T := .mk 0 0 []
def kd (t : T) (i : Nat) : T := t.kids.getD i o6
theorem Ik (a k : Int) : ∀ (ts : List T) (i j : Nat) (c : Int), (shL a k i ts c).getD j o6 = shT a (ts.getD j o6) (c + under k (i + j))
 | [], i, j, c => by simp [shL, o6, shT]
 | t :: ts, i, 0, c => by simp [shL]
 | t :: ts, i, j + 1, c => by
  simp only [shL, List.getD_cons_succ]
  rw [Ik a k ts (i + 1) j c, show i + 1 + j = i + (j + 1) by omega]
theorem Il (u : T) (k : Int) : ∀ (ts : List T) (i j : Nat) (x d : Int), (sbL u k i ts x d).getD j o6 = sbT u (ts.getD j o6) (x + under k (i + j)) (d + under k (i + j))
 | [], i, j, x, d => by simp [sbL, o6, sbT]
 | t :: ts, i, 0, x, d => by simp [sbL]
 | t :: ts, i, j + 1, x, d => by
  simp only [sbL, List.getD_cons_succ]
  rw [Il u k ts (i + 1) j x d, show i + 1 + j = i + (j + 1) by omega]
theorem r7 (a : Int) (t : T) (c : Int) : (shT a t c).k = t.k := by cases t; rfl
theorem ky (a : Int) (t : T) (c : Int) (j : Nat) : kd (shT a t c) j = shT a (kd t j) (c + under t.k j) := by
 cases t with | mk k n ts =>
 unfold kd
 rw [shT]
 show (shL a k 0 ts c).getD j o6 = _
 rw [Ik, Nat.zero_add]; rfl
theorem sF {u t : T} {x d : Int} (h : t.k ≠ 1) : (sbT u t x d).k = t.k := by
 cases t with | mk k n ts =>
 rw [sbT, if_neg (fun hh => h hh.1)]; rfl
theorem ju {u t : T} {x d : Int} (h : t.k ≠ 1) (j : Nat) : kd (sbT u t x d) j = sbT u (kd t j) (x + under t.k j) (d + under t.k j) := by
 cases t with | mk k n ts =>
 have h' : k ≠ 1 := h
 unfold kd
 rw [sbT, if_neg (fun hh => h' hh.1)]
 show (sbL u k 0 ts x d).getD j o6 = _
 rw [Il, Nat.zero_add]; rfl
def bE (t : T) : Int :=
 if t.k = 5 then (if (kd t 0).k = 4 then 1 else 0)
 else if t.k = 9 then (if (kd t 3).k = 7 then 2 else if (kd t 3).k = 8 then 3 else 0)
 else if t.k = 12 then (if (kd t 1).k = 11 then 4 else 0)
 else if t.k = 15 then (if (kd t 0).k = 14 then 5 else 0)
 else if t.k = 16 then (if (kd t 0).k = 14 then 6 else 0) else 0
def aD (t : T) : T :=
 if t.k = 5 then sbT (kd t 1) (kd (kd t 0) 1) 0 0
 else if t.k = 9 then (if (kd t 3).k = 7 then kd t 1 else .mk 5 0 [.mk 5 0 [kd t 2, kd (kd t 3) 0], .mk 9 0 [kd t 0, kd t 1, kd t 2, kd (kd t 3) 0]])
 else if t.k = 12 then kd t 2
 else if t.k = 15 then kd (kd t 0) 1
 else kd (kd t 0) 2
inductive Rx : T → Prop
 | app {t} (h : t.k = 5) (h' : (kd t 0).k = 4) : Rx t
 | zero {t} (h : t.k = 9) (h' : (kd t 3).k = 7) : Rx t
 | succ {t} (h : t.k = 9) (h' : (kd t 3).k = 8) : Rx t
 | move {t} (h : t.k = 12) (h' : (kd t 1).k = 11) : Rx t
 | fst {t} (h : t.k = 15) (h' : (kd t 0).k = 14) : Rx t
 | snd {t} (h : t.k = 16) (h' : (kd t 0).k = 14) : Rx t
theorem pn (t : T) : bE t ≠ 0 ↔ Rx t := by
 constructor
 ·intro h
  unfold bE at h
  split at h
  ·split at h
   ·exact .app ‹_› ‹_›
   ·exact absurd rfl h
  ·split at h
   ·split at h
    ·exact .zero ‹_› ‹_›
    ·split at h
     ·exact .succ ‹_› ‹_›
     ·exact absurd rfl h
   ·split at h
    ·split at h
     ·exact .move ‹_› ‹_›
     ·exact absurd rfl h
    ·split at h
     ·split at h
      ·exact .fst ‹_› ‹_›
      ·exact absurd rfl h
     ·split at h
      ·split at h
       ·exact .snd ‹_› ‹_›
       ·exact absurd rfl h
      ·exact absurd rfl h
 ·intro h
  cases h with
  | app h h' => simp [bE, h, h']
  | zero h h' => simp [bE, h, h']
  | succ h h' => simp [bE, h, h']
  | move h h' => simp [bE, h, h']
  | fst h h' => simp [bE, h, h']
  | snd h h' => simp [bE, h, h']
theorem Rx.k {t : T} (h : Rx t) : t.k = 5 ∨ t.k = 9 ∨ t.k = 12 ∨ t.k = 15 ∨ t.k = 16 := by cases h <;> omega
theorem Rx.sh {t : T} (h : Rx t) (a c : Int) : Rx (shT a t c) := by
 cases h with
 | app h h' => exact .app (by rw [r7, h]) (by rw [ky, r7, h'])
 | zero h h' => exact .zero (by rw [r7, h]) (by rw [ky, r7, h'])
 | succ h h' => exact .succ (by rw [r7, h]) (by rw [ky, r7, h'])
 | move h h' => exact .move (by rw [r7, h]) (by rw [ky, r7, h'])
 | fst h h' => exact .fst (by rw [r7, h]) (by rw [ky, r7, h'])
 | snd h h' => exact .snd (by rw [r7, h]) (by rw [ky, r7, h'])
theorem Rx.sb {t : T} (h : Rx t) (u : T) (x d : Int) : Rx (sbT u t x d) := by
 cases h with
 | app h h' => exact .app (by rw [sF (by omega), h]) (by rw [ju (by omega), sF (by omega), h'])
 | zero h h' => exact .zero (by rw [sF (by omega), h]) (by rw [ju (by omega), sF (by omega), h'])
 | succ h h' => exact .succ (by rw [sF (by omega), h]) (by rw [ju (by omega), sF (by omega), h'])
 | move h h' => exact .move (by rw [sF (by omega), h]) (by rw [ju (by omega), sF (by omega), h'])
 | fst h h' => exact .fst (by rw [sF (by omega), h]) (by rw [ju (by omega), sF (by omega), h'])
 | snd h h' => exact .snd (by rw [sF (by omega), h]) (by rw [ju (by omega), sF (by omega), h'])
theorem fW {t : T} (h : t.k = 5) : aD t = sbT (kd t 1) (kd (kd t 0) 1) 0 0 := by simp [aD, h]
theorem dP {t : T} (h : t.k = 9) (h' : (kd t 3).k = 7) : aD t = kd t 1 := by simp [aD, h, h']
theorem dM {t : T} (h : t.k = 9) (h' : (kd t 3).k = 8) : aD t = .mk 5 0 [.mk 5 0 [kd t 2, kd (kd t 3) 0], .mk 9 0 [kd t 0, kd t 1, kd t 2, kd (kd t 3) 0]] := by simp [aD, h, h']
theorem dK {t : T} (h : t.k = 12) : aD t = kd t 2 := by simp [aD, h]
theorem fV {t : T} (h : t.k = 15) : aD t = kd (kd t 0) 1 := by simp [aD, h]
theorem fS {t : T} (h : t.k = 16) : aD t = kd (kd t 0) 2 := by simp [aD, h]
theorem sr {k : Int} {i : Nat} (h : k ≠ 3 ∧ k ≠ 4 ∧ k ≠ 13) : under k i = 0 := by unfold under; rw [if_neg (by omega)]
theorem Li {t : T} (h : Rx t) {a : Int} (ha : 0 ≤ a) {c : Int} (hc : 0 ≤ c) : shT a (aD t) c = aD (shT a t c) := by
 cases h with
 | app h h' =>
  rw [fW h, fW (by rw [r7, h]), KJ _ ha _ c 0 0 (by omega) (by omega) hc]
  simp only [ky, h, h', sr (show (5 : Int) ≠ 3 ∧ (5 : Int) ≠ 4 ∧ (5 : Int) ≠ 13 by decide), show under 4 1 = 1 from rfl, Int.add_zero, Int.sub_zero]
 | zero h h' => rw [dP h h', dP (by rw [r7, h]) (by rw [ky, r7, h']), ky, sr (by omega), Int.add_zero]
 | succ h h' =>
  rw [dM h h', dM (by rw [r7, h]) (by rw [ky, r7, h'])]
  simp only [ky, h, h', shT, shL, sr (show (5 : Int) ≠ 3 ∧ (5 : Int) ≠ 4 ∧ (5 : Int) ≠ 13 by decide), sr (show (9 : Int) ≠ 3 ∧ (9 : Int) ≠ 4 ∧ (9 : Int) ≠ 13 by decide), sr (show (8 : Int) ≠ 3 ∧ (8 : Int) ≠ 4 ∧ (8 : Int) ≠ 13 by decide), Int.add_zero]
  simp
 | move h h' => rw [dK h, dK (by rw [r7, h]), ky, sr (by omega), Int.add_zero]
 | fst h h' => rw [fV h, fV (by rw [r7, h]), ky, ky, sr (by omega), sr (by omega), Int.add_zero, Int.add_zero]
 | snd h h' => rw [fS h, fS (by rw [r7, h]), ky, ky, sr (by omega), sr (by omega), Int.add_zero, Int.add_zero]
theorem K2 {t : T} (h : Rx t) (u : T) {x d : Int} (h0 : 0 ≤ d) (h1 : d ≤ x) : sbT u (aD t) x d = aD (sbT u t x d) := by
 cases h with
 | app h h' =>
  rw [fW h, fW (by rw [sF (by omega), h]), KR _ _ _ 0 0 x d (by omega) (by omega) h0 h1]
  simp only [ju (show t.k ≠ 1 by omega), h, ju (show (kd t 0).k ≠ 1 by omega), h', sr (show (5 : Int) ≠ 3 ∧ (5 : Int) ≠ 4 ∧ (5 : Int) ≠ 13 by decide), show under 4 1 = 1 from rfl, Int.add_zero, Int.sub_zero]
 | zero h h' => rw [dP h h', dP (by rw [sF (by omega), h]) (by rw [ju (by omega), sF (by omega), h']), ju (by omega), sr (by omega), Int.add_zero, Int.add_zero]
 | succ h h' =>
  rw [dM h h', dM (by rw [sF (by omega), h]) (by rw [ju (by omega), sF (by omega), h'])]
  simp only [ju (show t.k ≠ 1 by omega), ju (show (kd t 3).k ≠ 1 by omega), h, h', sbT, sbL, sr (show (5 : Int) ≠ 3 ∧ (5 : Int) ≠ 4 ∧ (5 : Int) ≠ 13 by decide), sr (show (9 : Int) ≠ 3 ∧ (9 : Int) ≠ 4 ∧ (9 : Int) ≠ 13 by decide), sr (show (8 : Int) ≠ 3 ∧ (8 : Int) ≠ 4 ∧ (8 : Int) ≠ 13 by decide), Int.add_zero]
  simp
 | move h h' => rw [dK h, dK (by rw [sF (by omega), h]), ju (by omega), sr (by omega), Int.add_zero, Int.add_zero]
 | fst h h' => rw [fV h, fV (by rw [sF (by omega), h]), ju (by omega), ju (by omega), sr (by omega), sr (by omega)]; simp only [Int.add_zero]
 | snd h h' => rw [fS h, fS (by rw [sF (by omega), h]), ju (by omega), ju (by omega), sr (by omega), sr (by omega)]; simp only [Int.add_zero]
mutual
inductive Par : T → T → Prop
 | node {k n ts us} (h : gw ts us) : Par (.mk k n ts) (.mk k n us)
 | red {k n ts us} (h : gw ts us) (hr : Rx (.mk k n ts)) : Par (.mk k n ts) (aD (.mk k n us))
inductive gw : List T → List T → Prop
 | nil : gw [] []
 | cons {t u ts us} (h : Par t u) (hs : gw ts us) : gw (t :: ts) (u :: us)
end
mutual
theorem Par.refl : ∀ t : T, Par t t
 | .mk k n ts => .node (gw.refl ts)
theorem gw.refl : ∀ ts : List T, gw ts ts
 | [] => .nil
 | t :: ts => .cons (Par.refl t) (gw.refl ts)
end
theorem gw.get : ∀ {ts us : List T}, gw ts us → ∀ j, Par (ts.getD j o6) (us.getD j o6)
 | _, _, .nil, j => by simpa using Par.refl o6
 | _, _, .cons h hs, 0 => by simpa using h
 | _, _, .cons h hs, j + 1 => by simpa using hs.get j
theorem gw.kd {k n : Int} {ts us : List T} (h : gw ts us) (j : Nat) : Par (kd (.mk k n ts) j) (kd (.mk k n us) j) := h.get j
theorem Par.head {t u : T} (h : Par t u) (hk : t.k ≠ 5 ∧ t.k ≠ 9 ∧ t.k ≠ 12 ∧ t.k ≠ 15 ∧ t.k ≠ 16) : u.k = t.k ∧ ∀ j, Par (kd t j) (kd u j) := by
 cases h with
 | node h => exact ⟨rfl, h.kd⟩
 | red h hr => have := hr.k; simp only [T.k] at this hk; omega
theorem Rx.par {k n : Int} {ts us : List T} (hp : gw ts us) (h : Rx (.mk k n ts)) : Rx (.mk k n us) := by
 cases h with
 | app h h' => exact .app h (by rw [((hp.kd (k := k) (n := n) 0).head (by omega)).1, h'])
 | zero h h' => exact .zero h (by rw [((hp.kd (k := k) (n := n) 3).head (by omega)).1, h'])
 | succ h h' => exact .succ h (by rw [((hp.kd (k := k) (n := n) 3).head (by omega)).1, h'])
 | move h h' => exact .move h (by rw [((hp.kd (k := k) (n := n) 1).head (by omega)).1, h'])
 | fst h h' => exact .fst h (by rw [((hp.kd (k := k) (n := n) 0).head (by omega)).1, h'])
 | snd h h' => exact .snd h (by rw [((hp.kd (k := k) (n := n) 0).head (by omega)).1, h'])
mutual
theorem Par.sh {a : Int} (ha : 0 ≤ a) : ∀ {t u : T}, Par t u → ∀ c : Int, 0 ≤ c → Par (shT a t c) (shT a u c)
 | _, _, .node h, c, hc => by
  simp only [shT]
  exact .node (gw.sh ha h _ 0 c hc)
 | _, _, .red (k := k) (n := n) (us := us) h hr, c, hc => by
  rw [Li (Rx.par h hr) ha hc]
  simp only [shT]
  exact .red (gw.sh ha h _ 0 c hc) (by have := hr.sh a c; rwa [shT] at this)
theorem gw.sh {a : Int} (ha : 0 ≤ a) : ∀ {ts us : List T}, gw ts us → ∀ (k : Int) (i : Nat) (c : Int), 0 ≤ c → gw (shL a k i ts c) (shL a k i us c)
 | _, _, .nil, k, i, c, hc => .nil
 | _, _, .cons h hs, k, i, c, hc => by
  have := dw k i
  simp only [shL]
  exact .cons (Par.sh ha h _ (by omega)) (gw.sh ha hs k (i + 1) c hc)
end
mutual
theorem Par.sb {v w : T} (hv : Par v w) : ∀ {t u : T}, Par t u → ∀ x d : Int, 0 ≤ d → d ≤ x → Par (sbT v t x d) (sbT w u x d)
 | _, _, .node (k := k) (n := n) h, x, d, h0, h1 => by
  simp only [sbT]
  split
  ·exact hv.sh h0 0 (by omega)
  ·exact .node (gw.sb hv h _ 0 x d h0 h1)
 | _, _, .red (k := k) (n := n) (us := us) h hr, x, d, h0, h1 => by
  have hk : k ≠ 1 := by have := hr.k; simp only [T.k] at this; omega
  rw [K2 (Rx.par h hr) w h0 h1]
  simp only [sbT, hk, false_and, if_false]
  exact .red (gw.sb hv h _ 0 x d h0 h1) (by have := hr.sb v x d; rwa [sbT, if_neg (fun hh => hk hh.1), if_neg (fun hh => hk hh.1)] at this)
theorem gw.sb {v w : T} (hv : Par v w) : ∀ {ts us : List T}, gw ts us → ∀ (k : Int) (i : Nat) (x d : Int), 0 ≤ d → d ≤ x → gw (sbL v k i ts x d) (sbL w k i us x d)
 | _, _, .nil, k, i, x, d, h0, h1 => .nil
 | _, _, .cons h hs, k, i, x, d, h0, h1 => by
  have := dw k i
  simp only [sbL]
  exact .cons (Par.sb hv h _ _ (by omega) (by omega)) (gw.sb hv hs k (i + 1) x d h0 h1)
end
theorem Par.con {k n : Int} {ts us : List T} (hp : gw ts us) (h : Rx (.mk k n ts)) : Par (aD (.mk k n ts)) (aD (.mk k n us)) := by
 have hk := fun j => hp.kd (k := k) (n := n) j
 have hr := h.par hp
 cases h with
 | app h h' =>
  rw [fW h, fW (t := .mk k n us) h]
  exact Par.sb (hk 1) (((hk 0).head (by omega)).2 1) 0 0 (by omega) (by omega)
 | zero h h' => rw [dP h h', dP (t := .mk k n us) h (by rw [((hk 3).head (by omega)).1, h'])]; exact hk 1
 | succ h h' =>
  rw [dM h h', dM (t := .mk k n us) h (by rw [((hk 3).head (by omega)).1, h'])]
  have h0 := ((hk 3).head (by omega)).2 0
  exact .node (.cons (.node (.cons (hk 2) (.cons h0 .nil))) (.cons (.node (.cons (hk 0) (.cons (hk 1) (.cons (hk 2) (.cons h0 .nil))))) .nil))
 | move h h' => rw [dK h, dK (t := .mk k n us) h]; exact hk 2
 | fst h h' => rw [fV h, fV (t := .mk k n us) h]; exact ((hk 0).head (by omega)).2 1
 | snd h h' => rw [fS h, fS (t := .mk k n us) h]; exact ((hk 0).head (by omega)).2 2
instance (t : T) : Decidable (Rx t) := decidable_of_iff _ (pn t)
mutual
def LQ : T → T
 | .mk k n ts => if Rx (.mk k n ts) then aD (.mk k n (LI ts)) else .mk k n (LI ts)
def LI : List T → List T
 | [] => []
 | t :: ts => LQ t :: LI ts
end
mutual
theorem Par.tri : ∀ {t u : T}, Par t u → Par u (LQ t)
 | _, _, .node (k := k) (n := n) (ts := ts) h => by
  rw [LQ]
  split
  ·rename_i hr
   exact .red (gw.tri h) (hr.par h)
  ·exact .node (gw.tri h)
 | _, _, .red h hr => by
  rw [LQ, if_pos hr]
  exact Par.con (gw.tri h) (hr.par h)
theorem gw.tri : ∀ {ts us : List T}, gw ts us → gw us (LI ts)
 | _, _, .nil => .nil
 | _, _, .cons h hs => .cons (Par.tri h) (gw.tri hs)
end
inductive Red : T → T → Prop
 | refl {t} : Red t t
 | step {t u v} (h : Par t u) (hs : Red u v) : Red t v
theorem Red.strip {t u v : T} (h : Par t u) (h' : Red t v) : ∃ w, Red u w ∧ Par v w := by
 induction h' generalizing u with
 | refl => exact ⟨u, .refl, h⟩
 | step h1 _ ih =>
  obtain ⟨w, hw, hv⟩ := ih h1.tri
  exact ⟨w, .step h.tri hw, hv⟩
theorem Red.ES {t u v : T} (h : Red t u) (h' : Red t v) : ∃ w, Red u w ∧ Red v w := by
 induction h generalizing v with
 | refl => exact ⟨v, h', .refl⟩
 | step h1 _ ih =>
  obtain ⟨w, hw, hv⟩ := Red.strip h1 h'
  obtain ⟨z, hz, hz'⟩ := ih hw
  exact ⟨z, hz, .step hv hz'⟩
mutual
def nfB : T → Bool
 | .mk k n ts => !decide (Rx (.mk k n ts)) && nfL ts
def nfL : List T → Bool
 | [] => true
 | t :: ts => nfB t && nfL ts
end
mutual
theorem HW : ∀ {t u : T}, Par t u → nfB t = true → u = t
 | _, _, .node h, hn => by
  simp only [nfB, Bool.and_eq_true] at hn
  rw [E1 h hn.2]
 | _, _, .red h hr, hn => by
  simp only [nfB, Bool.and_eq_true, Bool.not_eq_true', decide_eq_false_iff_not] at hn
  exact absurd hr hn.1
theorem E1 : ∀ {ts us : List T}, gw ts us → nfL ts = true → us = ts
 | _, _, .nil, _ => rfl
 | _, _, .cons h hs, hn => by
  simp only [nfL, Bool.and_eq_true] at hn
  rw [HW h hn.1, E1 hs hn.2]
end
theorem Ao {t u : T} (h : Red t u) (hn : nfB t = true) : u = t := by
 induction h with
 | refl => rfl
 | step h _ ih =>
  have := HW h hn
  subst this
  exact ih hn
theorem It {t a b : T} (ha : Red t a) (hb : Red t b) (na : nfB a = true) (nb : nfB b = true) : a = b := by
 obtain ⟨w, h1, h2⟩ := Red.ES ha hb
 rw [← Ao h1 na, ← Ao h2 nb]
mutual
def stT (inn : Bool) : T → Option T
 | .mk k n ts => if inn = false ∧ Rx (.mk k n ts) then some (aD (.mk k n ts)) else
  match stL inn ts with
  | some us => some (.mk k n us)
  | none => if inn = true ∧ Rx (.mk k n ts) then some (aD (.mk k n ts)) else none
def stL (inn : Bool) : List T → Option (List T)
 | [] => none
 | t :: ts => match stT inn t with
  | some u => some (u :: ts)
  | none => (stL inn ts).map (t :: ·)
end
mutual
theorem EJ {inn : Bool} : ∀ {t u : T}, stT inn t = some u → Par t u
 | .mk k n ts, u, h => by
  rw [stT] at h
  split at h
  ·rename_i hr
   obtain rfl := Option.some.inj h
   exact .red (gw.refl ts) hr.2
  ·split at h
   ·rename_i us hs
    obtain rfl := Option.some.inj h
    exact .node (DW hs)
   ·split at h
    ·rename_i hr
     obtain rfl := Option.some.inj h
     exact .red (gw.refl ts) hr.2
    ·cases h
theorem DW {inn : Bool} : ∀ {ts us : List T}, stL inn ts = some us → gw ts us
 | [], us, h => by cases h
 | t :: ts, us, h => by
  rw [stL] at h
  split at h
  ·rename_i u hu
   obtain rfl := Option.some.inj h
   exact .cons (EJ hu) (gw.refl ts)
  ·obtain ⟨vs, hv, rfl⟩ := Option.map_eq_some_iff.1 h
   exact .cons (Par.refl t) (DW hv)
end
mutual
theorem nw {inn : Bool} : ∀ {t : T}, stT inn t = none ↔ nfB t = true
 | .mk k n ts => by
  rw [stT, nfB]
  have := Bl (inn := inn) (ts := ts)
  by_cases hr : Rx (.mk k n ts)
  ·cases inn <;> cases hs : stL _ ts <;> simp [hr]
  ·cases hs : stL inn ts <;> rw [hs] at this <;> simp [hr] at this ⊢ <;> exact this
theorem Bl {inn : Bool} : ∀ {ts : List T}, stL inn ts = none ↔ nfL ts = true
 | [] => by simp [stL, nfL]
 | t :: ts => by
  rw [stL, nfL]
  have h1 := nw (inn := inn) (t := t)
  have h2 := Bl (inn := inn) (ts := ts)
  cases hs : stT inn t <;> rw [hs] at h1 <;> simp at h1
  ·cases ht : stL inn ts <;> rw [ht] at h2 <;> simp at h2 <;> simp [h1, h2]
  ·simp [h1]
end
mutual
theorem m5 (a : Int) : ∀ (t : T) (c : Int), (shT a t c).size = t.size
 | .mk k n ts, c => by rw [shT, T.size, T.size, Aj a k ts 0 c]
theorem Aj (a k : Int) : ∀ (ts : List T) (i : Nat) (c : Int), T.aE (shL a k i ts c) = T.aE ts
 | [], i, c => rfl
 | t :: ts, i, c => by rw [shL, T.aE, T.aE, m5 a t, Aj a k ts]
end
theorem size_pos (t : T) : 1 ≤ t.size := by have := T.size_eq t; omega
mutual
theorem tL (u : T) : ∀ (t : T) (x d : Int), (sbT u t x d).size ≤ t.size * u.size
 | .mk k n ts, x, d => by
  have hu := size_pos u
  rw [sbT]
  split
  ·rw [m5, T.size]; exact Nat.le_mul_of_pos_left _ (by omega)
  ·rw [T.size, T.size, Nat.add_mul, Nat.one_mul]
   have := BG u k ts 0 x d
   omega
theorem BG (u : T) (k : Int) : ∀ (ts : List T) (i : Nat) (x d : Int), T.aE (sbL u k i ts x d) ≤ T.aE ts * u.size
 | [], i, x, d => by simp [sbL, T.aE]
 | t :: ts, i, x, d => by
  rw [sbL, T.aE, T.aE, Nat.add_mul]
  have h1 := tL u t (x + under k i) (d + under k i)
  have h2 := BG u k ts (i + 1) x d
  omega
end
theorem qc (a k : Int) : ∀ (ts : List T) (i : Nat) (c : Int), (shL a k i ts c).length = ts.length
 | [], i, c => rfl
 | t :: ts, i, c => by rw [shL, List.length_cons, List.length_cons, qc a k ts]
theorem wT (u : T) (k : Int) : ∀ (ts : List T) (i : Nat) (x d : Int), (sbL u k i ts x d).length = ts.length
 | [], i, x, d => rfl
 | t :: ts, i, x, d => by rw [sbL, List.length_cons, List.length_cons, wT u k ts]
theorem Fj (a k : Int) : ∀ (ts : List T) (i j : Nat) (c : Int) (h : j < ts.length), (shL a k i ts c)[j]'(by rw [qc]; exact h) = shT a ts[j] (c + under k (i + j))
 | t :: ts, i, 0, c, h => rfl
 | t :: ts, i, j + 1, c, h => by
  have := Fj a k ts (i + 1) j c (by simpa using h)
  simp only [shL, List.getElem_cons_succ]
  rw [this, show i + 1 + j = i + (j + 1) by omega]
theorem D8 (u : T) (k : Int) : ∀ (ts : List T) (i j : Nat) (x d : Int) (h : j < ts.length), (sbL u k i ts x d)[j]'(by rw [wT]; exact h) = sbT u ts[j] (x + under k (i + j)) (d + under k (i + j))
 | t :: ts, i, 0, x, d, h => rfl
 | t :: ts, i, j + 1, x, d, h => by
  have := D8 u k ts (i + 1) j x d (by simpa using h)
  simp only [sbL, List.getElem_cons_succ]
  rw [this, show i + 1 + j = i + (j + 1) by omega]
mutual
def gdB : T → Bool
 | .mk k n ts => decide (0 ≤ n ∧ n ≤ 20 ∧ (k = 1 → ts = [])) && gdL ts
def gdL : List T → Bool
 | [] => true
 | t :: ts => gdB t && gdL ts
end
theorem Dg {u : T} : ∀ {ts : List T}, gdL ts = true → u ∈ ts → gdB u = true
 | t :: ts, h, hu => by
  simp only [gdL, Bool.and_eq_true] at h
  rcases List.mem_cons.1 hu with rfl | hu
  ·exact h.1
  ·exact Dg h.2 hu
theorem pz {t : T} (h : gdB t = true) : 0 ≤ t.n ∧ t.n ≤ 20 ∧ (t.k = 1 → t.kids = []) ∧ ∀ u ∈ t.kids, gdB u = true := by
 cases t with | mk k n ts =>
 simp only [gdB, Bool.and_eq_true, decide_eq_true_eq] at h
 exact ⟨h.1.1, h.1.2.1, h.1.2.2, fun u hu => Dg h.2 hu⟩
mutual
theorem As : ∀ (t : T) (d : Nat), bD t d = true → gdB t = true
 | .mk k n ts, d, h => by
  simp only [bD, Bool.and_eq_true, decide_eq_true_eq] at h
  simp only [gdB, Bool.and_eq_true, decide_eq_true_eq]
  refine ⟨⟨h.2.2.1.1, ?_, fun hk => ?_⟩, ye ts _ h.2.2.2⟩
  ·have := h.2.2.1.2
   unfold cw at this
   split at this
   ·exact this
   ·split at this <;> omega
  ·subst hk
   have h0 := h.2.1
   have : (ts.length : Int) = 0 := by rw [← h0]; rfl
   exact List.eq_nil_of_length_eq_zero (by omega)
theorem ye : ∀ (ts : List T) (d : Nat), bH ts d = true → gdL ts = true
 | [], d, _ => rfl
 | t :: ts, d, h => by
  simp only [bH, Bool.and_eq_true] at h
  rw [gdL, As t d h.1, ye ts d h.2]; rfl
end
theorem fE {t : T} (h : ak t = true) : gdB t = true := by
 unfold ak at h
 rw [Bool.and_eq_true] at h
 exact As t 30 h.1
mutual
def okS (a : Int) : T → Int → Bool
 | .mk k n ts, c => if k = 1 then (if c ≤ n then decide (c ≤ n + a) && decide (n + a ≤ 20) else true) else Ig a k 0 ts c
def Ig (a k : Int) : Nat → List T → Int → Bool
 | _, [], _ => true
 | i, t :: ts, c => okS a t (c + under k i) && Ig a k (i + 1) ts c
end
theorem HB {k n : Int} {ts : List T} (h : ak (.mk k n ts) = true) {u : T} (hu : u ∈ ts) : ak u = true := bB h hu
mutual
theorem u7 {a : Int} (ha : 0 ≤ a) : ∀ (t : T) (c : Int), ak (shT a t c) = true → okS a t c = true
 | .mk k n ts, c, h => by
  rw [okS]
  rw [shT] at h
  split
  ·rename_i hk
   subst hk
   split
   ·rename_i hc
    have := (m6 h).2.2
    simp only [T.n, T.k, true_and, if_pos hc] at this
    have h3 : cw 1 = 20 := rfl
    rw [h3] at this
    simp; omega
   ·rfl
  ·exact rN ha k ts 0 c fun u hu => HB h hu
theorem rN {a : Int} (ha : 0 ≤ a) (k : Int) : ∀ (ts : List T) (i : Nat) (c : Int), (∀ u ∈ shL a k i ts c, ak u = true) → Ig a k i ts c = true
 | [], i, c, _ => rfl
 | t :: ts, i, c, h => by
  rw [shL] at h
  rw [Ig, u7 ha t _ (h _ (List.mem_cons_self ..)), rN ha k ts (i + 1) c fun u hu => h u (List.mem_cons_of_mem _ hu)]; rfl
end
mutual
def okB (u : T) : T → Int → Int → Bool
 | .mk k n ts, x, d => if k = 1 then (if n = x then ak (shT d u 0) else true) else F0 u k 0 ts x d
def F0 (u : T) (k : Int) : Nat → List T → Int → Int → Bool
 | _, [], _, _ => true
 | i, t :: ts, x, d => okB u t (x + under k i) (d + under k i) && F0 u k (i + 1) ts x d
end
mutual
theorem vN (u : T) : ∀ (t : T) (x d : Int), ak (sbT u t x d) = true → okB u t x d = true
 | .mk k n ts, x, d, h => by
  rw [okB]
  rw [sbT] at h
  split
  ·rename_i hk
   subst hk
   split
   ·rename_i hn
    rwa [if_pos ⟨rfl, hn⟩] at h
   ·rfl
  ·rename_i hk
   rw [if_neg (fun hh => hk hh.1)] at h
   exact sj u k ts 0 x d fun u hu => HB h hu
theorem sj (u : T) (k : Int) : ∀ (ts : List T) (i : Nat) (x d : Int), (∀ v ∈ sbL u k i ts x d, ak v = true) → F0 u k i ts x d = true
 | [], i, x, d, _ => rfl
 | t :: ts, i, x, d, h => by
  rw [sbL] at h
  rw [F0, vN u t _ _ (h _ (List.mem_cons_self ..)), sj u k ts (i + 1) x d fun u hu => h u (List.mem_cons_of_mem _ hu)]; rfl
end
mutual
def wyT (inn : Bool) : T → Option (List Nat)
 | .mk k n ts => if inn = false ∧ Rx (.mk k n ts) then some [] else
  match wyL inn 0 ts with
  | some w => some w
  | none => if inn = true ∧ Rx (.mk k n ts) then some [] else none
def wyL (inn : Bool) : Nat → List T → Option (List Nat)
 | _, [] => none
 | i, t :: ts => match wyT inn t with
  | some w => some (i :: w)
  | none => wyL inn (i + 1) ts
end
def atT : T → List Nat → T
 | t, [] => t
 | t, i :: w => atT (kd t i) w
def puT : T → List Nat → T → T
 | _, [], u => u
 | t, i :: w, u => .mk t.k t.n (t.kids.set i (puT (kd t i) w u))
def CT : T → List Nat → Prop
 | _, [] => True
 | t, i :: w => i < t.kids.length ∧ CT (kd t i) w
mutual
theorem lr {inn : Bool} : ∀ {t : T} {w : List Nat}, wyT inn t = some w → CT t w ∧ Rx (atT t w) ∧ stT inn t = some (puT t w (aD (atT t w)))
 | .mk k n ts, w, h => by
  rw [wyT] at h
  rw [stT]
  split at h
  ·rename_i hr
   obtain rfl := Option.some.inj h
   exact ⟨trivial, hr.2, by rw [if_pos hr]; rfl⟩
  ·rename_i hr
   rw [if_neg hr]
   split at h
   ·rename_i w' hw
    obtain rfl := Option.some.inj h
    obtain ⟨i, v, rfl, hi, h1, h2, h3⟩ := Br hw
    refine ⟨⟨by simpa [T.kids] using hi, by simpa [kd, T.kids] using h1⟩, by simpa [atT, kd, T.kids] using h2, ?_⟩
    rw [h3]
    simp [puT, T.k, T.n, T.kids, kd, atT]
   ·rename_i hw
    split at h
    ·rename_i hr2
     obtain rfl := Option.some.inj h
     have hn : stL inn ts = none := ue hw
     refine ⟨trivial, hr2.2, ?_⟩
     rw [hn]
     simp only
     rw [if_pos hr2]; rfl
    ·cases h
theorem Br {inn : Bool} : ∀ {ts : List T} {j : Nat} {w : List Nat}, wyL inn j ts = some w → ∃ i v, w = (j + i) :: v ∧ i < ts.length ∧ CT (ts.getD i o6) v ∧ Rx (atT (ts.getD i o6) v) ∧ stL inn ts = some (ts.set i (puT (ts.getD i o6) v (aD (atT (ts.getD i o6) v))))
 | [], j, w, h => by cases h
 | t :: ts, j, w, h => by
  rw [wyL] at h
  rw [stL]
  split at h
  ·rename_i v hv
   obtain rfl := Option.some.inj h
   obtain ⟨h1, h2, h3⟩ := lr hv
   exact ⟨0, v, by simp, by simp, by simpa using h1, by simpa using h2, by rw [h3]; simp⟩
  ·rename_i hv
   obtain ⟨i, v, rfl, hi, h1, h2, h3⟩ := Br h
   refine ⟨i + 1, v, by simp; omega, by simpa using hi, by simpa using h1, by simpa using h2, ?_⟩
   rw [uL hv, h3]; simp
theorem uL {inn : Bool} : ∀ {t : T}, wyT inn t = none → stT inn t = none
 | .mk k n ts, h => by
  rw [wyT] at h
  rw [stT]
  split at h
  ·cases h
  ·rename_i hr
   rw [if_neg hr]
   split at h
   ·cases h
   ·rename_i hw
    split at h
    ·cases h
    ·rename_i hr2
     rw [ue hw]
     simp only
     rw [if_neg hr2]
theorem ue {inn : Bool} : ∀ {ts : List T} {j : Nat}, wyL inn j ts = none → stL inn ts = none
 | [], j, _ => rfl
 | t :: ts, j, h => by
  rw [wyL] at h
  rw [stL]
  split at h
  ·cases h
  ·rename_i hv
   rw [uL hv, ue h]; rfl
end
theorem pN : ∀ {w : List Nat} {t u : T}, CT t w → ak (puT t w u) = true → ak u = true
 | [], t, u, _, h => h
 | i :: w, t, u, hw, h => by
  rw [puT] at h
  refine pN hw.2 (bB h (u := puT (kd t i) w u) ?_)
  show _ ∈ t.kids.set i _
  exact List.mem_iff_getElem.2 ⟨i, by simpa using hw.1, by simp⟩
theorem kA {t : T} {i : Nat} (h : i < t.kids.length) : kd t i ∈ t.kids := by
 rw [show kd t i = t.kids[i] by unfold kd; simp [List.getD, h]]
 exact List.getElem_mem h
theorem oT : ∀ {w : List Nat} {t : T}, CT t w → ak t = true → ak (atT t w) = true
 | [], t, _, h => h
 | i :: w, t, hw, h => oT (w := w) hw.2 (bB h (kA hw.1))
theorem oZ : ∀ {w : List Nat} {t u : T}, CT t w → (puT t w u).size ≤ t.size + u.size
 | [], t, u, _ => by simp [puT]
 | i :: w, t, u, hw => by
  rw [puT, T.size, T.size_eq t]
  have h1 := oZ (u := u) hw.2
  have h2 : ∀ (ts : List T) (i : Nat) (v : T) (s : Nat), i < ts.length → v.size ≤ (ts.getD i o6).size + s → T.aE (ts.set i v) ≤ T.aE ts + s := by
   intro ts
   induction ts with
   | nil => intro i v s h; simp at h
   | cons t ts ih =>
    intro i v s hi hv
    cases i with
    | zero => simp only [List.set_cons_zero, T.aE, List.getD_cons_zero] at hv ⊢; omega
    | succ i =>
     simp only [List.set_cons_succ, T.aE, List.getD_cons_succ] at hv ⊢
     have := ih i v s (by simpa using hi) hv
     omega
  have := h2 t.kids i _ u.size hw.1 h1
  omega
def HN (inn : Bool) (t : T) : T × Int :=
 match stT inn t with
 | none => (t, 0)
 | some u => if ak u then (u, 1) else (o6, 2)
def fx (inn : Bool) : Nat → Nat → T → T × Nat × Int
 | 0, s, t => match stT inn t with
  | none => (t, s, 0)
  | some _ => (o6, s, 1)
 | g + 1, s, t => match stT inn t with
  | none => (t, s, 0)
  | some u => if ak u then fx inn g (s + 1) u else (o6, s, 2)
theorem sO {inn : Bool} : ∀ (g s : Nat) (t : T), ak t = true → (fx inn g s t).2.2 = 0 → ak (fx inn g s t).1 = true
 | 0, s, t, hv, h => by
  rw [fx] at h ⊢
  cases hs : stT inn t with
  | none => exact hv
  | some u => rw [hs] at h; cases h
 | g + 1, s, t, hv, h => by
  rw [fx] at h ⊢
  cases hs : stT inn t with
  | none => exact hv
  | some u =>
   rw [hs] at h
   simp only at h ⊢
   cases hu : ak u with
   | false => rw [hu] at h; cases h
   | true =>
    rw [hu] at h
    exact sO g (s + 1) u hu h
end Go.Proofs.YtajlknlnmmbfcaaGreat
end
