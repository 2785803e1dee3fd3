/- What the program's functions come to in the abstract run. -/
import Derived.Test.YtmioieikbpemoaaSay
set_option linter.unusedVariables false
namespace Go.Proofs.Ytmioieikbpemoaa
open Go Go.Ab Go.Dk
/-! loop.example/depkernel/laws.FnSplitPi -/
theorem E_laws_FnSplitPi (n : Nat) (v0 : List UInt8) : FF (n + 1) 6 [.one (.fr (.bs v0))] [] =
 (cond ((decide (1048576 < ((v0).length : Int))))
 (some ([.one (.bool true)], []))
 (((FF n 23 [.one (.fr (.bs v0))] []).bind fun x0 =>
 (rTerm x0.1 fun x1 x2 =>
 (rInt .i64 x2 fun x3 x4 =>
 (nilV x4 (nilO x0.2
 (((FF n 24 [.agg [.int .i64 (x1).k, .int .i64 (x1).n, .fr (.ts (x1).kids)], .one (.int .i64 x3)] []).bind fun x5 =>
 (rTs x5.1 fun x6 x7 =>
 (rTerm x7 fun x8 x9 =>
 (rBool x9 fun x10 x11 =>
 (nilV x11 (nilO x5.2
 (((FF n 25 [.agg [.int .i64 (x1).k, .int .i64 (x1).n, .fr (.ts (x1).kids)], .one (.int .i64 x3)] []).bind fun x12 =>
 (rTs x12.1 fun x13 x14 =>
 (rTerm x14 fun x15 x16 =>
 (rBool x16 fun x17 x18 =>
 (nilV x18 (nilO x12.2
 ((cond ((!decide (x10 = x17)))
 ((cond ((decide (x10 = x17)))
 (((FF n 20 [.one (.fr (.ts x6)), .one (.fr (.ts x13))] []).bind fun x19 =>
 (rBool x19.1 fun x20 x21 =>
 (nilV x21 (nilO x19.2
 ((cond (x20)
 (((FF n 18 [.agg [.int .i64 (x8).k, .int .i64 (x8).n, .fr (.ts (x8).kids)], .agg [.int .i64 (x15).k, .int .i64 (x15).n, .fr (.ts (x15).kids)]] []).bind fun x22 =>
 (rBool x22.1 fun x23 x24 =>
 (nilV x24 (nilO x22.2
 (some ([.one (.bool x23)], [])))))))
 (some ([.one (.bool false)], [])))))))))
 (some ([.one (.bool false)], []))))
 (((FF n 20 [.one (.fr (.ts x6)), .one (.fr (.ts x13))] []).bind fun x19 =>
 (rBool x19.1 fun x20 x21 =>
 (nilV x21 (nilO x19.2
 ((cond ((!x20))
 ((cond ((decide (x10 = x17)))
 (((FF n 20 [.one (.fr (.ts x6)), .one (.fr (.ts x13))] []).bind fun x22 =>
 (rBool x22.1 fun x23 x24 =>
 (nilV x24 (nilO x22.2
 ((cond (x23)
 (((FF n 18 [.agg [.int .i64 (x8).k, .int .i64 (x8).n, .fr (.ts (x8).kids)], .agg [.int .i64 (x15).k, .int .i64 (x15).n, .fr (.ts (x15).kids)]] []).bind fun x25 =>
 (rBool x25.1 fun x26 x27 =>
 (nilV x27 (nilO x25.2
 (some ([.one (.bool x26)], [])))))))
 (some ([.one (.bool false)], [])))))))))
 (some ([.one (.bool false)], []))))
 (((FF n 18 [.agg [.int .i64 (x8).k, .int .i64 (x8).n, .fr (.ts (x8).kids)], .agg [.int .i64 (x15).k, .int .i64 (x15).n, .fr (.ts (x15).kids)]] []).bind fun x22 =>
 (rBool x22.1 fun x23 x24 =>
 (nilV x24 (nilO x22.2
 ((cond ((!x23))
 ((cond ((decide (x10 = x17)))
 (((FF n 20 [.one (.fr (.ts x6)), .one (.fr (.ts x13))] []).bind fun x25 =>
 (rBool x25.1 fun x26 x27 =>
 (nilV x27 (nilO x25.2
 ((cond (x26)
 (((FF n 18 [.agg [.int .i64 (x8).k, .int .i64 (x8).n, .fr (.ts (x8).kids)], .agg [.int .i64 (x15).k, .int .i64 (x15).n, .fr (.ts (x15).kids)]] []).bind fun x28 =>
 (rBool x28.1 fun x29 x30 =>
 (nilV x30 (nilO x28.2
 (some ([.one (.bool x29)], [])))))))
 (some ([.one (.bool false)], [])))))))))
 (some ([.one (.bool false)], []))))
 ((cond ((!x10))
 ((cond ((decide (x10 = x17)))
 (((FF n 20 [.one (.fr (.ts x6)), .one (.fr (.ts x13))] []).bind fun x25 =>
 (rBool x25.1 fun x26 x27 =>
 (nilV x27 (nilO x25.2
 ((cond (x26)
 (((FF n 18 [.agg [.int .i64 (x8).k, .int .i64 (x8).n, .fr (.ts (x8).kids)], .agg [.int .i64 (x15).k, .int .i64 (x15).n, .fr (.ts (x15).kids)]] []).bind fun x28 =>
 (rBool x28.1 fun x29 x30 =>
 (nilV x30 (nilO x28.2
 (some ([.one (.bool x29)], [])))))))
 (some ([.one (.bool false)], [])))))))))
 (some ([.one (.bool false)], []))))
 (((FF n 26 [.one (.fr (.ts x6)), .agg [.int .i64 (x8).k, .int .i64 (x8).n, .fr (.ts (x8).kids)]] []).bind fun x25 =>
 (rTerm x25.1 fun x26 x27 =>
 (rBool x27 fun x28 x29 =>
 (nilV x29 (nilO x25.2
 ((cond (x28)
 (((FF n 18 [.agg [.int .i64 (x26).k, .int .i64 (x26).n, .fr (.ts (x26).kids)], .agg [.int .i64 (x1).k, .int .i64 (x1).n, .fr (.ts (x1).kids)]] []).bind fun x30 =>
 (rBool x30.1 fun x31 x32 =>
 (nilV x32 (nilO x30.2
 ((cond (x31)
 (some ([.one (.bool (decide (((x6).length : Int) = x3)))], []))
 (some ([.one (.bool false)], [])))))))))
 (some ([.one (.bool false)], []))))))))))))))))))))))))))))))))))))))))))))))))) := by kernel_rfl

end Go.Proofs.Ytmioieikbpemoaa
