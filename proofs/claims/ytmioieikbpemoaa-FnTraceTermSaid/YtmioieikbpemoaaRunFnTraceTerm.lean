/- What the program's functions come to in the abstract run. -/
import Derived.Test.YtmioieikbpemoaaSay
set_option linter.unusedVariables false
namespace Go.Proofs.Ytmioieikbpemoaa
open Go Go.Ab Go.Dk
/-! loop.example/depkernel/laws.FnTraceTerm -/
noncomputable def L_laws_FnTraceTerm_0 (n c : Nat) (v0 : List T) (v1 : List T) (v2 : Int) (v3 : Int) (v4 : Int) (v5 : List T) : OR := runLoop Try.prog SS n 7 0 [1, 1, 1, 1, 1, 1, 0, 1, 0] [] c ⟨[.v (.one (.any)), .v (.one (.any)), .v (.one (.any)), .v (.one (.ptr 0 0)), .v (.one (.fr (.ts v0))), .v (.one (.fr (.ts v1))), .v (.one (.int .i64 v2)), .v (.one (.any)), .v (.one (.any)), .v (.one (.any)), .v (.one (.any)), .v (.one (.any)), .v (.one (.any)), .v (.one (.any)), .v (.one (.any)), .v (.one (.any)), .v (.one (.any)), .v (.one (.any)), .v (.one (.any)), .v (.one (.any)), .v (.one (.any)), .v (.one (.any)), .v (.one (.any)), .v (.one (.any)), .v (.one (.any)), .v (.one (.any)), .v (.one (.any)), .v (.one (.any)), .v (.one (.any)), .v (.one (.any)), .v (.one (.any)), .v (.one (.any)), .v (.one (.any)), .v (.one (.any)), .v (.one (.any)), .v (.one (.any)), .v (.one (.any)), .v (.one (.any)), .v (.one (.any)), .v (.one (.any)), .v (.one (.any)), .v (.one (.any)), .v (.one (.any)), .v (.one (.any)), .v (.one (.any)), .v (.one (.any)), .v (.one (.any)), .v (.one (.any)), .v (.one (.any)), .v (.one (.any)), .v (.one (.any)), .v (.one (.any)), .v (.one (.any)), .v (.one (.any)), .v (.one (.any)), .v (.one (.any)), .v (.one (.any)), .v (.one (.any)), .v (.one (.any)), .v (.one (.any)), .v (.one (.any)), .v (.one (.any)), .v (.one (.any)), .v (.one (.any)), .v (.one (.any)), .v (.one (.any)), .v (.one (.any)), .v (.one (.any)), .v (.one (.any)), .v (.one (.any)), .v (.one (.any)), .v (.one (.any)), .v (.one (.any)), .v (.one (.any)), .v (.one (.any)), .v (.one (.any)), .v (.one (.any)), .v (.one (.any)), .v (.one (.any))],
  [.cells [.int .i64 v3, .int .i64 v4, .fr (.ts v5)]]⟩
theorem L_laws_FnTraceTerm_0_eq (n c : Nat) (v0 : List T) (v1 : List T) (v2 : Int) (v3 : Int) (v4 : Int) (v5 : List T) : L_laws_FnTraceTerm_0 n (c + 1) v0 v1 v2 v3 v4 v5 =
 (cond ((decide (v2 < ((v0).length : Int))))
 ((cond (decide (0 ≤ v2))
 (((v0)[(v2 : Int).toNat]?.bind fun x0 =>
 (cond (decide (0 ≤ v2))
 (((v1)[(v2 : Int).toNat]?.bind fun x1 =>
 ((FF n 18 [.agg [.int .i64 (x0).k, .int .i64 (x0).n, .fr (.ts (x0).kids)], .agg [.int .i64 (x1).k, .int .i64 (x1).n, .fr (.ts (x1).kids)]] []).bind fun x2 =>
 (rBool x2.1 fun x3 x4 =>
 (nilV x4 (nilO x2.2
 ((cond ((!x3))
 (some ([.one (.bool false)], []))
 ((cond ((decide (0 < v2)))
 ((cond (decide (0 ≤ (IntKind.i64.wrap (v2 - 1))))
 (((v0)[((IntKind.i64.wrap (v2 - 1)) : Int).toNat]?.bind fun x5 =>
 ((FF n 30 [.agg [.int .i64 (x5).k, .int .i64 (x5).n, .fr (.ts (x5).kids)]] []).bind fun x6 =>
 (rTerm x6.1 fun x7 x8 =>
 (rInt .i64 x8 fun x9 x10 =>
 (nilV x10 (nilO x6.2
 ((cond ((!decide (x9 = 1)))
 (some ([.one (.bool false)], []))
 ((cond (decide (0 ≤ v2))
 (((v0)[(v2 : Int).toNat]?.bind fun x11 =>
 ((FF n 18 [.agg [.int .i64 (x7).k, .int .i64 (x7).n, .fr (.ts (x7).kids)], .agg [.int .i64 (x11).k, .int .i64 (x11).n, .fr (.ts (x11).kids)]] []).bind fun x12 =>
 (rBool x12.1 fun x13 x14 =>
 (nilV x14 (nilO x12.2
 ((cond ((!x13))
 (some ([.one (.bool false)], []))
 (L_laws_FnTraceTerm_0 n c (v0 : List T) (v1 : List T) ((IntKind.i64.wrap (v2 + 1)) : Int) (v3 : Int) (v4 : Int) (v5 : List T))))))))))
 (none))))))))))))
 (none)))
 (L_laws_FnTraceTerm_0 n c (v0 : List T) (v1 : List T) ((IntKind.i64.wrap (v2 + 1)) : Int) (v3 : Int) (v4 : Int) (v5 : List T))))))))))))
 (none))))
 (none)))
 (((FF n 31 [.agg [.int .i64 v3, .int .i64 v4, .fr (.ts v5)]] []).bind fun x0 =>
 (rBool x0.1 fun x1 x2 =>
 (nilV x2 (nilO x0.2
 ((cond ((decide ((decide (0 < ((v0).length : Int))) = x1)))
 ((cond ((decide (((v0).length : Int) = 0)))
 (some ([.one (.bool true)], []))
 (((v0)[(0 : Int).toNat]?.bind fun x3 =>
 ((FF n 18 [.agg [.int .i64 (x3).k, .int .i64 (x3).n, .fr (.ts (x3).kids)], .agg [.int .i64 v3, .int .i64 v4, .fr (.ts v5)]] []).bind fun x4 =>
 (rBool x4.1 fun x5 x6 =>
 (nilV x6 (nilO x4.2
 (some ([.one (.bool x5)], []))))))))))
 (some ([.one (.bool false)], [])))))))))) := by kernel_rfl
theorem E_laws_FnTraceTerm (n : Nat) (v0 : List UInt8) : FF (n + 1) 7 [.one (.fr (.bs v0))] [] =
 (cond ((decide (1048576 < ((v0).length : Int))))
 (some ([.one (.bool true)], []))
 (((FF n 27 [.one (.fr (.bs v0))] []).bind fun x0 =>
 (rTerm x0.1 fun x1 x2 =>
 (nilV x2 (nilO x0.2
 (((FF n 28 [.agg [.int .i64 (x1).k, .int .i64 (x1).n, .fr (.ts (x1).kids)]] []).bind fun x3 =>
 (rTs x3.1 fun x4 x5 =>
 (nilV x5 (nilO x3.2
 (((FF n 29 [.agg [.int .i64 (x1).k, .int .i64 (x1).n, .fr (.ts (x1).kids)]] []).bind fun x6 =>
 (rTs x6.1 fun x7 x8 =>
 (nilV x8 (nilO x6.2
 ((cond ((!decide (((x4).length : Int) = ((x7).length : Int))))
 (some ([.one (.bool false)], []))
 (L_laws_FnTraceTerm_0 n n (x4 : List T) (x7 : List T) (0 : Int) ((x1).k : Int) ((x1).n : Int) ((x1).kids : List T)))))))))))))))))))) := by kernel_rfl

end Go.Proofs.Ytmioieikbpemoaa
