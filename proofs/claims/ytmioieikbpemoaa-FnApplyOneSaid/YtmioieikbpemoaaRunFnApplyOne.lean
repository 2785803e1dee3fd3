/- What the program's functions come to in the abstract run. -/
import Derived.Test.YtmioieikbpemoaaSay
set_option linter.unusedVariables false
namespace Go.Proofs.Ytmioieikbpemoaa
open Go Go.Ab Go.Dk
/-! loop.example/depkernel/laws.FnApplyOne -/
theorem E_laws_FnApplyOne (n : Nat) (v0 : List UInt8) (v1 : List UInt8) : FF (n + 1) 3 [.one (.fr (.bs v0)), .one (.fr (.bs v1))] [] =
 (cond ((decide (1048576 < ((v0).length : Int))))
 (some ([.one (.bool true)], []))
 ((cond ((decide (1048576 < ((v1).length : Int))))
 (some ([.one (.bool true)], []))
 (((FF n 15 [.one (.fr (.bs v0))] []).bind fun x0 =>
 (rTerm x0.1 fun x1 x2 =>
 (rTs x2 fun x3 x4 =>
 (nilV x4 (nilO x0.2
 (((FF n 16 [.agg [.int .i64 (x1).k, .int .i64 (x1).n, .fr (.ts (x1).kids)], .one (.fr (.ts x3))] []).bind fun x5 =>
 (rTerm x5.1 fun x6 x7 =>
 (rBool x7 fun x8 x9 =>
 (nilV x9 (nilO x5.2
 (((FF n 17 [.agg [.int .i64 (x1).k, .int .i64 (x1).n, .fr (.ts (x1).kids)], .one (.fr (.ts x3))] []).bind fun x10 =>
 (rTerm x10.1 fun x11 x12 =>
 (rBool x12 fun x13 x14 =>
 (nilV x14 (nilO x10.2
 ((cond ((!decide (x8 = x13)))
 ((cond ((decide (x8 = x13)))
 (((FF n 18 [.agg [.int .i64 (x6).k, .int .i64 (x6).n, .fr (.ts (x6).kids)], .agg [.int .i64 (x11).k, .int .i64 (x11).n, .fr (.ts (x11).kids)]] []).bind fun x15 =>
 (rBool x15.1 fun x16 x17 =>
 (nilV x17 (nilO x15.2
 (some ([.one (.bool x16)], [])))))))
 (some ([.one (.bool false)], []))))
 (((FF n 18 [.agg [.int .i64 (x6).k, .int .i64 (x6).n, .fr (.ts (x6).kids)], .agg [.int .i64 (x11).k, .int .i64 (x11).n, .fr (.ts (x11).kids)]] []).bind fun x15 =>
 (rBool x15.1 fun x16 x17 =>
 (nilV x17 (nilO x15.2
 ((cond ((!x16))
 ((cond ((decide (x8 = x13)))
 (((FF n 18 [.agg [.int .i64 (x6).k, .int .i64 (x6).n, .fr (.ts (x6).kids)], .agg [.int .i64 (x11).k, .int .i64 (x11).n, .fr (.ts (x11).kids)]] []).bind fun x18 =>
 (rBool x18.1 fun x19 x20 =>
 (nilV x20 (nilO x18.2
 (some ([.one (.bool x19)], [])))))))
 (some ([.one (.bool false)], []))))
 ((cond ((!x8))
 ((cond ((decide (x8 = x13)))
 (((FF n 18 [.agg [.int .i64 (x6).k, .int .i64 (x6).n, .fr (.ts (x6).kids)], .agg [.int .i64 (x11).k, .int .i64 (x11).n, .fr (.ts (x11).kids)]] []).bind fun x18 =>
 (rBool x18.1 fun x19 x20 =>
 (nilV x20 (nilO x18.2
 (some ([.one (.bool x19)], [])))))))
 (some ([.one (.bool false)], []))))
 ((cond (decide ((IntKind.i64.wrap (((x3).length : Int) + 1)) = 0))
 (none)
 ((cond (Go.Ab.inB 0 (Int.tmod ((v1).length : Int) (IntKind.i64.wrap (((x3).length : Int) + 1))) (x3).length)
 (((FF n 16 [.agg [.int .i64 (x1).k, .int .i64 (x1).n, .fr (.ts (x1).kids)], .one (.fr (.ts (((x3).take ((Int.tmod ((v1).length : Int) (IntKind.i64.wrap (((x3).length : Int) + 1))) : Int).toNat).drop (0 : Int).toNat)))] []).bind fun x18 =>
 (rTerm x18.1 fun x19 x20 =>
 (rBool x20 fun x21 x22 =>
 (nilV x22 (nilO x18.2
 ((cond (Go.Ab.inB (Int.tmod ((v1).length : Int) (IntKind.i64.wrap (((x3).length : Int) + 1))) (x3).length (x3).length)
 (((FF n 16 [.agg [.int .i64 (x19).k, .int .i64 (x19).n, .fr (.ts (x19).kids)], .one (.fr (.ts (((x3).take ((x3).length : Int).toNat).drop ((Int.tmod ((v1).length : Int) (IntKind.i64.wrap (((x3).length : Int) + 1))) : Int).toNat)))] []).bind fun x23 =>
 (rTerm x23.1 fun x24 x25 =>
 (rBool x25 fun x26 x27 =>
 (nilV x27 (nilO x23.2
 ((cond (x21)
 ((cond (x26)
 (((FF n 18 [.agg [.int .i64 (x24).k, .int .i64 (x24).n, .fr (.ts (x24).kids)], .agg [.int .i64 (x6).k, .int .i64 (x6).n, .fr (.ts (x6).kids)]] []).bind fun x28 =>
 (rBool x28.1 fun x29 x30 =>
 (nilV x30 (nilO x28.2
 (some ([.one (.bool x29)], [])))))))
 (some ([.one (.bool false)], []))))
 (some ([.one (.bool false)], []))))))))))
 (none)))))))))
 (none))))))))))))))))))))))))))))))))))))) := by kernel_rfl

end Go.Proofs.Ytmioieikbpemoaa
