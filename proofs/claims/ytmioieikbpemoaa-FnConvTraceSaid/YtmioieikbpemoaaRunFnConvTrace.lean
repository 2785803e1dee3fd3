/- What the program's functions come to in the abstract run. -/
import Derived.Test.YtmioieikbpemoaaSay
set_option linter.unusedVariables false
namespace Go.Proofs.Ytmioieikbpemoaa
open Go Go.Ab Go.Dk
/-! loop.example/depkernel/laws.FnConvTrace -/
noncomputable def L_laws_FnConvTrace_0 (n c : Nat) (v0 : List T) (v1 : Int) (v2 : Int) (v3 : Int) (v4 : List T) : OR := runLoop Try.prog SS n 11 0 [1, 1, 1, 1, 1, 0, 1, 0] [] c ⟨[.v (.one (.any)), .v (.one (.any)), .v (.one (.any)), .v (.one (.ptr 0 0)), .v (.one (.fr (.ts v0))), .v (.one (.int .i64 v1)), .v (.one (.any)), .v (.one (.any)), .v (.one (.any)), .v (.one (.any)), .v (.one (.any)), .v (.one (.any)), .v (.one (.any)), .v (.one (.any)), .v (.one (.any)), .v (.one (.any)), .v (.one (.any)), .v (.one (.any)), .v (.one (.any)), .v (.one (.any)), .v (.one (.any)), .v (.one (.any)), .v (.one (.any)), .v (.one (.any)), .v (.one (.any)), .v (.one (.any)), .v (.one (.any)), .v (.one (.any)), .v (.one (.any)), .v (.one (.any)), .v (.one (.any))],
  [.cells [.int .i64 v2, .int .i64 v3, .fr (.ts v4)]]⟩
theorem L_laws_FnConvTrace_0_eq (n c : Nat) (v0 : List T) (v1 : Int) (v2 : Int) (v3 : Int) (v4 : List T) : L_laws_FnConvTrace_0 n (c + 1) v0 v1 v2 v3 v4 =
 (cond ((decide (v1 < ((v0).length : Int))))
 ((cond (decide (0 ≤ v1))
 (((v0)[(v1 : Int).toNat]?.bind fun x0 =>
 ((FF n 40 [.agg [.int .i64 v2, .int .i64 v3, .fr (.ts v4)], .agg [.int .i64 (x0).k, .int .i64 (x0).n, .fr (.ts (x0).kids)], .one (.int .i64 200)] []).bind fun x1 =>
 (rInt .i64 x1.1 fun x2 x3 =>
 (nilV x3 (nilO x1.2
 ((cond ((decide (x2 = 2)))
 (some ([.one (.bool false)], []))
 (L_laws_FnConvTrace_0 n c (v0 : List T) ((IntKind.i64.wrap (v1 + 1)) : Int) (v2 : Int) (v3 : Int) (v4 : List T))))))))))
 (none)))
 (some ([.one (.bool true)], []))) := by kernel_rfl
theorem E_laws_FnConvTrace (n : Nat) (v0 : List UInt8) : FF (n + 1) 11 [.one (.fr (.bs v0))] [] =
 (cond ((decide (1048576 < ((v0).length : Int))))
 (some ([.one (.bool true)], []))
 (((FF n 27 [.one (.fr (.bs v0))] []).bind fun x0 =>
 (rTerm x0.1 fun x1 x2 =>
 (nilV x2 (nilO x0.2
 (((FF n 28 [.agg [.int .i64 (x1).k, .int .i64 (x1).n, .fr (.ts (x1).kids)]] []).bind fun x3 =>
 (rTs x3.1 fun x4 x5 =>
 (nilV x5 (nilO x3.2
 (((FF n 29 [.agg [.int .i64 (x1).k, .int .i64 (x1).n, .fr (.ts (x1).kids)]] []).bind fun x6 =>
 (rTs x6.1 fun x7 x8 =>
 (nilV x8 (nilO x6.2
 (((FF n 20 [.one (.fr (.ts x4)), .one (.fr (.ts x7))] []).bind fun x9 =>
 (rBool x9.1 fun x10 x11 =>
 (nilV x11 (nilO x9.2
 ((cond ((!x10))
 (some ([.one (.bool false)], []))
 (L_laws_FnConvTrace_0 n n (x4 : List T) (0 : Int) ((x1).k : Int) ((x1).n : Int) ((x1).kids : List T))))))))))))))))))))))))) := by kernel_rfl

end Go.Proofs.Ytmioieikbpemoaa
