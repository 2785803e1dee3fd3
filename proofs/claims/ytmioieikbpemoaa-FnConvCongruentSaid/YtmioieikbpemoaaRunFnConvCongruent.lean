/- What the program's functions come to in the abstract run. -/
import Derived.Test.YtmioieikbpemoaaSay
set_option linter.unusedVariables false
namespace Go.Proofs.Ytmioieikbpemoaa
open Go Go.Ab Go.Dk
/-! loop.example/depkernel/laws.FnConvCongruent -/
theorem E_laws_FnConvCongruent (n : Nat) (v0 : List UInt8) (v1 : List UInt8) : FF (n + 1) 12 [.one (.fr (.bs v0)), .one (.fr (.bs v1))] [] =
 (cond ((decide (1048576 < ((v0).length : Int))))
 (some ([.one (.bool true)], []))
 ((cond ((decide (1048576 < ((v1).length : Int))))
 (some ([.one (.bool true)], []))
 (((FF n 41 [.one (.fr (.bs v0))] []).bind fun x0 =>
 (rTerm x0.1 fun x1 x2 =>
 (rTerm x2 fun x3 x4 =>
 (rInt .i64 x4 fun x5 x6 =>
 (nilV x6 (nilO x0.2
 (((FF n 40 [.agg [.int .i64 (x1).k, .int .i64 (x1).n, .fr (.ts (x1).kids)], .agg [.int .i64 (x3).k, .int .i64 (x3).n, .fr (.ts (x3).kids)], .one (.int .i64 x5)] []).bind fun x7 =>
 (rInt .i64 x7.1 fun x8 x9 =>
 (nilV x9 (nilO x7.2
 (((FF n 42 [.agg [.int .i64 (x1).k, .int .i64 (x1).n, .fr (.ts (x1).kids)], .agg [.int .i64 (x3).k, .int .i64 (x3).n, .fr (.ts (x3).kids)], .one (.int .i64 x5)] []).bind fun x10 =>
 (rInt .i64 x10.1 fun x11 x12 =>
 (nilV x12 (nilO x10.2
 ((cond ((!decide (x8 = x11)))
 (((FF n 42 [.agg [.int .i64 (x1).k, .int .i64 (x1).n, .fr (.ts (x1).kids)], .agg [.int .i64 (x3).k, .int .i64 (x3).n, .fr (.ts (x3).kids)], .one (.int .i64 x5)] []).bind fun x13 =>
 (rInt .i64 x13.1 fun x14 x15 =>
 (nilV x15 (nilO x13.2
 (some ([.one (.bool (decide (x8 = x14)))], [])))))))
 ((cond ((!decide (x8 = 1)))
 (((FF n 42 [.agg [.int .i64 (x1).k, .int .i64 (x1).n, .fr (.ts (x1).kids)], .agg [.int .i64 (x3).k, .int .i64 (x3).n, .fr (.ts (x3).kids)], .one (.int .i64 x5)] []).bind fun x13 =>
 (rInt .i64 x13.1 fun x14 x15 =>
 (nilV x15 (nilO x13.2
 (some ([.one (.bool (decide (x8 = x14)))], [])))))))
 (((FF n 40 [.agg [.int .i64 8, .int .i64 0, .fr (.ts [(T.mk (x1).k (x1).n (x1).kids)])], .agg [.int .i64 8, .int .i64 0, .fr (.ts [(T.mk (x3).k (x3).n (x3).kids)])], .one (.int .i64 200)] []).bind fun x13 =>
 (rInt .i64 x13.1 fun x14 x15 =>
 (nilV x15 (nilO x13.2
 ((cond ((!decide (x14 = 2)))
 (((FF n 40 [.agg [.int .i64 5, .int .i64 0, .fr (.ts [(T.mk 1 (Int.tmod ((v1).length : Int) 3) []), (T.mk (x1).k (x1).n (x1).kids)])], .agg [.int .i64 5, .int .i64 0, .fr (.ts [(T.mk 1 (Int.tmod ((v1).length : Int) 3) []), (T.mk (x3).k (x3).n (x3).kids)])], .one (.int .i64 200)] []).bind fun x16 =>
 (rInt .i64 x16.1 fun x17 x18 =>
 (nilV x18 (nilO x16.2
 (some ([.one (.bool (!decide (x17 = 2)))], [])))))))
 (some ([.one (.bool false)], []))))))))))))))))))))))))))))))))) := by kernel_rfl

end Go.Proofs.Ytmioieikbpemoaa
