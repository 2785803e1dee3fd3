/- What the program's functions come to in the abstract run. -/
import Derived.Test.YtmioieikbpemoaaSay
set_option linter.unusedVariables false
namespace Go.Proofs.Ytmioieikbpemoaa
open Go Go.Ab Go.Dk
/-! loop.example/depkernel/laws.FnTraceEnd -/
theorem E_laws_FnTraceEnd (n : Nat) (v0 : List UInt8) : FF (n + 1) 10 [.one (.fr (.bs v0))] [] =
 (cond ((decide (1048576 < ((v0).length : Int))))
 (some ([.one (.bool true)], []))
 (((FF n 27 [.one (.fr (.bs v0))] []).bind fun x0 =>
 (rTerm x0.1 fun x1 x2 =>
 (nilV x2 (nilO x0.2
 (((FF n 28 [.agg [.int .i64 (x1).k, .int .i64 (x1).n, .fr (.ts (x1).kids)]] []).bind fun x3 =>
 (rTs x3.1 fun x4 x5 =>
 (nilV x5 (nilO x3.2
 (((FF n 29 [.agg [.int .i64 (x1).k, .int .i64 (x1).n, .fr (.ts (x1).kids)]] []).bind fun x6 =>
 (rTs x6.1 fun x7 x8 =>
 (nilV x8 (nilO x6.2
 (((FF n 20 [.one (.fr (.ts x4)), .one (.fr (.ts x7))] []).bind fun x9 =>
 (rBool x9.1 fun x10 x11 =>
 (nilV x11 (nilO x9.2
 ((cond ((!x10))
 (((FF n 29 [.agg [.int .i64 (x1).k, .int .i64 (x1).n, .fr (.ts (x1).kids)]] []).bind fun x12 =>
 (rTs x12.1 fun x13 x14 =>
 (nilV x14 (nilO x12.2
 (((FF n 20 [.one (.fr (.ts x4)), .one (.fr (.ts x13))] []).bind fun x15 =>
 (rBool x15.1 fun x16 x17 =>
 (nilV x17 (nilO x15.2
 (some ([.one (.bool x16)], []))))))))))))
 ((cond ((decide (((x4).length : Int) = 0)))
 (((FF n 29 [.agg [.int .i64 (x1).k, .int .i64 (x1).n, .fr (.ts (x1).kids)]] []).bind fun x12 =>
 (rTs x12.1 fun x13 x14 =>
 (nilV x14 (nilO x12.2
 (((FF n 20 [.one (.fr (.ts x4)), .one (.fr (.ts x13))] []).bind fun x15 =>
 (rBool x15.1 fun x16 x17 =>
 (nilV x17 (nilO x15.2
 (some ([.one (.bool x16)], []))))))))))))
 ((cond ((decide (((x4).length : Int) = 12)))
 (((FF n 29 [.agg [.int .i64 (x1).k, .int .i64 (x1).n, .fr (.ts (x1).kids)]] []).bind fun x12 =>
 (rTs x12.1 fun x13 x14 =>
 (nilV x14 (nilO x12.2
 (((FF n 20 [.one (.fr (.ts x4)), .one (.fr (.ts x13))] []).bind fun x15 =>
 (rBool x15.1 fun x16 x17 =>
 (nilV x17 (nilO x15.2
 (some ([.one (.bool x16)], []))))))))))))
 ((cond (decide (0 ≤ (IntKind.i64.wrap (((x4).length : Int) - 1))))
 (((x4)[((IntKind.i64.wrap (((x4).length : Int) - 1)) : Int).toNat]?.bind fun x12 =>
 ((FF n 30 [.agg [.int .i64 (x12).k, .int .i64 (x12).n, .fr (.ts (x12).kids)]] []).bind fun x13 =>
 (rTerm x13.1 fun x14 x15 =>
 (rInt .i64 x15 fun x16 x17 =>
 (nilV x17 (nilO x13.2
 (((FF n 39 [.agg [.int .i64 (x1).k, .int .i64 (x1).n, .fr (.ts (x1).kids)], .one (.int .i64 200)] []).bind fun x18 =>
 (rInt .i64 x18.1 fun x19 x20 =>
 (rInt .i64 x20 fun x21 x22 =>
 (nilV x22 (nilO x18.2
 ((cond ((!decide (x16 = 1)))
 ((cond ((!decide (x21 = 0)))
 (some ([.one (.bool true)], []))
 (some ([.one (.bool (decide (x19 = (IntKind.i64.wrap (((x4).length : Int) - 1)))))], []))))
 (some ([.one (.bool false)], [])))))))))))))))))
 (none)))))))))))))))))))))))))))))) := by kernel_rfl

end Go.Proofs.Ytmioieikbpemoaa
