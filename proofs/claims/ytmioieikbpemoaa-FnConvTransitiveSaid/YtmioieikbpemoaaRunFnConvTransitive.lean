/- What the program's functions come to in the abstract run. -/
import Derived.Test.YtmioieikbpemoaaSay
set_option linter.unusedVariables false
namespace Go.Proofs.Ytmioieikbpemoaa
open Go Go.Ab Go.Dk
/-! loop.example/depkernel/laws.FnConvTransitive -/
theorem E_laws_FnConvTransitive (n : Nat) (v0 : List UInt8) (v1 : List UInt8) : FF (n + 1) 13 [.one (.fr (.bs v0)), .one (.fr (.bs v1))] [] =
 (cond ((decide (1048576 < ((v0).length : Int))))
 (some ([.one (.bool true)], []))
 ((cond ((decide (1048576 < ((v1).length : Int))))
 (some ([.one (.bool true)], []))
 (((FF n 41 [.one (.fr (.bs v0))] []).bind fun x0 =>
 (rTerm x0.1 fun x1 x2 =>
 (rTerm x2 fun x3 x4 =>
 (rInt .i64 x4 fun x5 x6 =>
 (nilV x6 (nilO x0.2
 (((FF n 41 [.one (.fr (.bs v1))] []).bind fun x7 =>
 (rTerm x7.1 fun x8 x9 =>
 (rTerm x9 fun x10 x11 =>
 (rInt .i64 x11 fun x12 x13 =>
 (nilV x13 (nilO x7.2
 (((FF n 40 [.agg [.int .i64 (x1).k, .int .i64 (x1).n, .fr (.ts (x1).kids)], .agg [.int .i64 (x3).k, .int .i64 (x3).n, .fr (.ts (x3).kids)], .one (.int .i64 x5)] []).bind fun x14 =>
 (rInt .i64 x14.1 fun x15 x16 =>
 (nilV x16 (nilO x14.2
 (((FF n 42 [.agg [.int .i64 (x1).k, .int .i64 (x1).n, .fr (.ts (x1).kids)], .agg [.int .i64 (x3).k, .int .i64 (x3).n, .fr (.ts (x3).kids)], .one (.int .i64 x5)] []).bind fun x17 =>
 (rInt .i64 x17.1 fun x18 x19 =>
 (nilV x19 (nilO x17.2
 ((cond ((!decide (x15 = x18)))
 (((FF n 42 [.agg [.int .i64 (x1).k, .int .i64 (x1).n, .fr (.ts (x1).kids)], .agg [.int .i64 (x3).k, .int .i64 (x3).n, .fr (.ts (x3).kids)], .one (.int .i64 x5)] []).bind fun x20 =>
 (rInt .i64 x20.1 fun x21 x22 =>
 (nilV x22 (nilO x20.2
 (some ([.one (.bool (decide (x15 = x21)))], [])))))))
 ((cond ((!decide (x15 = 1)))
 (((FF n 42 [.agg [.int .i64 (x1).k, .int .i64 (x1).n, .fr (.ts (x1).kids)], .agg [.int .i64 (x3).k, .int .i64 (x3).n, .fr (.ts (x3).kids)], .one (.int .i64 x5)] []).bind fun x20 =>
 (rInt .i64 x20.1 fun x21 x22 =>
 (nilV x22 (nilO x20.2
 (some ([.one (.bool (decide (x15 = x21)))], [])))))))
 (((FF n 40 [.agg [.int .i64 (x3).k, .int .i64 (x3).n, .fr (.ts (x3).kids)], .agg [.int .i64 (x10).k, .int .i64 (x10).n, .fr (.ts (x10).kids)], .one (.int .i64 x5)] []).bind fun x20 =>
 (rInt .i64 x20.1 fun x21 x22 =>
 (nilV x22 (nilO x20.2
 (((FF n 40 [.agg [.int .i64 (x1).k, .int .i64 (x1).n, .fr (.ts (x1).kids)], .agg [.int .i64 (x10).k, .int .i64 (x10).n, .fr (.ts (x10).kids)], .one (.int .i64 x5)] []).bind fun x23 =>
 (rInt .i64 x23.1 fun x24 x25 =>
 (nilV x25 (nilO x23.2
 ((cond ((decide (x21 = 0)))
 (some ([.one (.bool true)], []))
 ((cond ((decide (x21 = 3)))
 (some ([.one (.bool true)], []))
 ((cond ((decide (x24 = 3)))
 (some ([.one (.bool true)], []))
 (some ([.one (.bool (decide (x24 = x21)))], []))))))))))))))))))))))))))))))))))))))))))))))))) := by kernel_rfl

end Go.Proofs.Ytmioieikbpemoaa
