/- What the program's functions come to in the abstract run. -/
import Derived.Test.YtmioieikbpemoaaSay
set_option linter.unusedVariables false
namespace Go.Proofs.Ytmioieikbpemoaa
open Go Go.Ab Go.Dk
/-! loop.example/depkernel/laws.FnConvertible -/
theorem E_laws_FnConvertible (n : Nat) (v0 : List UInt8) : FF (n + 1) 14 [.one (.fr (.bs v0))] [] =
 (cond ((decide (1048576 < ((v0).length : Int))))
 (some ([.one (.bool true)], []))
 (((FF n 41 [.one (.fr (.bs v0))] []).bind fun x0 =>
 (rTerm x0.1 fun x1 x2 =>
 (rTerm x2 fun x3 x4 =>
 (rInt .i64 x4 fun x5 x6 =>
 (nilV x6 (nilO x0.2
 (((FF n 40 [.agg [.int .i64 (x1).k, .int .i64 (x1).n, .fr (.ts (x1).kids)], .agg [.int .i64 (x3).k, .int .i64 (x3).n, .fr (.ts (x3).kids)], .one (.int .i64 x5)] []).bind fun x7 =>
 (rInt .i64 x7.1 fun x8 x9 =>
 (nilV x9 (nilO x7.2
 (((FF n 42 [.agg [.int .i64 (x1).k, .int .i64 (x1).n, .fr (.ts (x1).kids)], .agg [.int .i64 (x3).k, .int .i64 (x3).n, .fr (.ts (x3).kids)], .one (.int .i64 x5)] []).bind fun x10 =>
 (rInt .i64 x10.1 fun x11 x12 =>
 (nilV x12 (nilO x10.2
 ((cond ((!decide (x8 = x11)))
 (((FF n 42 [.agg [.int .i64 (x1).k, .int .i64 (x1).n, .fr (.ts (x1).kids)], .agg [.int .i64 (x3).k, .int .i64 (x3).n, .fr (.ts (x3).kids)], .one (.int .i64 x5)] []).bind fun x13 =>
 (rInt .i64 x13.1 fun x14 x15 =>
 (nilV x15 (nilO x13.2
 ((cond ((decide (x8 = x14)))
 (((FF n 40 [.agg [.int .i64 (x3).k, .int .i64 (x3).n, .fr (.ts (x3).kids)], .agg [.int .i64 (x1).k, .int .i64 (x1).n, .fr (.ts (x1).kids)], .one (.int .i64 x5)] []).bind fun x16 =>
 (rInt .i64 x16.1 fun x17 x18 =>
 (nilV x18 (nilO x16.2
 (some ([.one (.bool (decide (x8 = x17)))], [])))))))
 (some ([.one (.bool false)], [])))))))))
 (((FF n 40 [.agg [.int .i64 (x3).k, .int .i64 (x3).n, .fr (.ts (x3).kids)], .agg [.int .i64 (x1).k, .int .i64 (x1).n, .fr (.ts (x1).kids)], .one (.int .i64 x5)] []).bind fun x13 =>
 (rInt .i64 x13.1 fun x14 x15 =>
 (nilV x15 (nilO x13.2
 ((cond ((!decide (x8 = x14)))
 (((FF n 42 [.agg [.int .i64 (x1).k, .int .i64 (x1).n, .fr (.ts (x1).kids)], .agg [.int .i64 (x3).k, .int .i64 (x3).n, .fr (.ts (x3).kids)], .one (.int .i64 x5)] []).bind fun x16 =>
 (rInt .i64 x16.1 fun x17 x18 =>
 (nilV x18 (nilO x16.2
 ((cond ((decide (x8 = x17)))
 (((FF n 40 [.agg [.int .i64 (x3).k, .int .i64 (x3).n, .fr (.ts (x3).kids)], .agg [.int .i64 (x1).k, .int .i64 (x1).n, .fr (.ts (x1).kids)], .one (.int .i64 x5)] []).bind fun x19 =>
 (rInt .i64 x19.1 fun x20 x21 =>
 (nilV x21 (nilO x19.2
 (some ([.one (.bool (decide (x8 = x20)))], [])))))))
 (some ([.one (.bool false)], [])))))))))
 ((cond ((decide (x8 = 0)))
 (((FF n 42 [.agg [.int .i64 (x1).k, .int .i64 (x1).n, .fr (.ts (x1).kids)], .agg [.int .i64 (x3).k, .int .i64 (x3).n, .fr (.ts (x3).kids)], .one (.int .i64 x5)] []).bind fun x16 =>
 (rInt .i64 x16.1 fun x17 x18 =>
 (nilV x18 (nilO x16.2
 ((cond ((decide (x8 = x17)))
 (((FF n 40 [.agg [.int .i64 (x3).k, .int .i64 (x3).n, .fr (.ts (x3).kids)], .agg [.int .i64 (x1).k, .int .i64 (x1).n, .fr (.ts (x1).kids)], .one (.int .i64 x5)] []).bind fun x19 =>
 (rInt .i64 x19.1 fun x20 x21 =>
 (nilV x21 (nilO x19.2
 (some ([.one (.bool (decide (x8 = x20)))], [])))))))
 (some ([.one (.bool false)], [])))))))))
 (((FF n 40 [.agg [.int .i64 (x1).k, .int .i64 (x1).n, .fr (.ts (x1).kids)], .agg [.int .i64 (x3).k, .int .i64 (x3).n, .fr (.ts (x3).kids)], .one (.int .i64 200)] []).bind fun x16 =>
 (rInt .i64 x16.1 fun x17 x18 =>
 (nilV x18 (nilO x16.2
 (((FF n 40 [.agg [.int .i64 (x1).k, .int .i64 (x1).n, .fr (.ts (x1).kids)], .agg [.int .i64 (x1).k, .int .i64 (x1).n, .fr (.ts (x1).kids)], .one (.int .i64 x5)] []).bind fun x19 =>
 (rInt .i64 x19.1 fun x20 x21 =>
 (nilV x21 (nilO x19.2
 ((cond ((decide (x20 = 1)))
 ((cond ((decide (x8 = 3)))
 (some ([.one (.bool true)], []))
 (some ([.one (.bool (decide (x17 = x8)))], []))))
 (some ([.one (.bool false)], []))))))))))))))))))))))))))))))))))))))))))) := by kernel_rfl

end Go.Proofs.Ytmioieikbpemoaa
