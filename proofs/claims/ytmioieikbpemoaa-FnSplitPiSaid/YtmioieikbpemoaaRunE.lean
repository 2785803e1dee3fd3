/- What the program's functions come to in the abstract run. -/
import Derived.Test.YtmioieikbpemoaaSay
set_option linter.unusedVariables false
namespace Go.Proofs.Ytmioieikbpemoaa
open Go Go.Ab Go.Dk
/-! loop.example/depkernel/spec.l2Binds -/
theorem E_spec_l2Binds (n : Nat) (v0 : Int) (v1 : Int) : FF (n + 1) 134 [.one (.int .i64 v0), .one (.int .i64 v1)] [] =
 (cond ((decide (v1 = 1)))
 ((cond ((decide (v0 = 3)))
 (some ([.one (.bool true)], []))
 ((cond ((decide (v0 = 4)))
 (some ([.one (.bool true)], []))
 (some ([.one (.bool (decide (v0 = 13)))], []))))))
 (some ([.one (.bool false)], []))) := by kernel_rfl

/-! loop.example/depkernel/impl.shift -/
theorem E_impl_shift (n : Nat) (v0 : Int) (v1 : Int) (v2 : List T) (v3 : Int) (v4 : Int) : FF (n + 1) 124 [.agg [.int .i64 v0, .int .i64 v1, .fr (.ts v2)], .one (.int .i64 v3), .one (.int .i64 v4)] [] =
 ((FF n 122 [.agg [.int .i64 v0, .int .i64 v1, .fr (.ts v2)], .one (.int .i64 0), .one (.fn 133 [0, 1, 2])] [.cells [.int .i64 v4], .cells [.int .i64 v3], .cells [.bool true]]).bind fun x0 =>
 (objC x0.2 fun x1 x2 =>
 (intC .i64 x1 fun x3 x4 =>
 (nilC x4
 ((objC x2 fun x5 x6 =>
 (intC .i64 x5 fun x7 x8 =>
 (nilC x8
 ((objC x6 fun x9 x10 =>
 (boolC x9 fun x11 x12 =>
 (nilC x12
 ((rTerm x0.1 fun x13 x14 =>
 (nilV x14 (nilO x10
 ((cond ((!x11))
 (some ([.agg [.int .i64 0, .int .i64 0, .fr (.ts [])], .one (.bool false)], []))
 (((FF n 50 [.agg [.int .i64 (x13).k, .int .i64 (x13).n, .fr (.ts (x13).kids)]] []).bind fun x15 =>
 (rTerm x15.1 fun x16 x17 =>
 (rBool x17 fun x18 x19 =>
 (nilV x19 (nilO x15.2
 (some ([.agg [.int .i64 (x16).k, .int .i64 (x16).n, .fr (.ts (x16).kids)], .one (.bool x18)], [])))))))))))))))))))))))))) := by kernel_rfl

/-! loop.example/depkernel/impl.variable -/
theorem E_impl_variable (n : Nat) (v0 : Int) : FF (n + 1) 125 [.one (.int .i64 v0)] [] =
 some ([.agg [.int .i64 1, .int .i64 v0, .fr (.ts [])]], []) := by kernel_rfl

/-! loop.example/depkernel/impl.changed -/
noncomputable def L_impl_changed_impl_shift_1_0_foo (n c : Nat) (v0 : Int) (v1 : List T) (v2 : Int) (v3 : Int) (v4 : Int) (v5 : Int) (v6 : Bool) (v7 : Int) (v8 : Int) (v9 : List T) (v10 : Int) (v11 : Int) (v12 : List T) (v13 : Int) (v14 : Int) (v15 : List T) : OR := runLoop Try.prog SS n 122 3 [1, 1, 1, 0, 1, 0] [] c ⟨[.v (.one (.any)), .v (.one (.int .i64 v0)), .v (.one (.fn 133 [0, 1, 2])), .v (.one (.ptr 3 0)), .v (.one (.any)), .v (.one (.any)), .v (.one (.ptr 4 0)), .v (.one (.ptr 6 0)), .v (.one (.any)), .v (.one (.any)), .v (.one (.any)), .v (.one (.any)), .v (.one (.any)), .v (.one (.any)), .v (.one (.any)), .v (.one (.any)), .v (.one (.any)), .v (.one (.any)), .v (.one (.any)), .v (.one (.any)), .v (.one (.any)), .v (.one (.any)), .v (.one (.any)), .v (.one (.any)), .v (.one (.fr (.ts v1))), .v (.one (.int .i64 v2)), .v (.one (.int .i64 v3)), .v (.one (.any)), .v (.one (.any)), .v (.one (.any)), .v (.one (.any)), .v (.one (.any)), .v (.one (.any)), .v (.one (.any)), .v (.one (.any)), .v (.one (.any)), .v (.one (.any)), .v (.one (.any)), .v (.one (.any)), .v (.one (.any)), .v (.one (.any)), .v (.one (.any)), .v (.one (.any)), .v (.one (.any)), .v (.one (.any)), .v (.one (.any)), .v (.one (.any))],
  [.cells [.int .i64 v4], .cells [.int .i64 v5], .cells [.bool v6], .cells [.int .i64 v7, .int .i64 v8, .fr (.ts v9)], .cells [.int .i64 v10, .int .i64 v11, .own 5 0], .arr 25 (.ts v12) 0 false, .cells [.int .i64 v13, .int .i64 v14, .own 7 0], .arr 25 (.ts v15) 0 false]⟩
theorem L_impl_changed_impl_shift_1_0_foo_eq (n c : Nat) (v0 : Int) (v1 : List T) (v2 : Int) (v3 : Int) (v4 : Int) (v5 : Int) (v6 : Bool) (v7 : Int) (v8 : Int) (v9 : List T) (v10 : Int) (v11 : Int) (v12 : List T) (v13 : Int) (v14 : Int) (v15 : List T) : L_impl_changed_impl_shift_1_0_foo n (c + 1) v0 v1 v2 v3 v4 v5 v6 v7 v8 v9 v10 v11 v12 v13 v14 v15 =
 (cond ((decide (v3 < v2)))
 ((cond (decide (0 ≤ v3))
 (((v1)[(v3 : Int).toNat]?.bind fun x0 =>
 ((FF n 114 [.one (.int .i64 v7), .one (.int .i64 v3)] []).bind fun x1 =>
 (rInt .i64 x1.1 fun x2 x3 =>
 (nilV x3 (nilO x1.2
 (((FF n 122 [.agg [.int .i64 (x0).k, .int .i64 (x0).n, .fr (.ts (x0).kids)], .one (.int .i64 (IntKind.i64.wrap (v0 + x2))), .one (.fn 133 [0, 1, 2])] [.cells [.int .i64 v4], .cells [.int .i64 v5], .cells [.bool v6]]).bind fun x4 =>
 (objC x4.2 fun x5 x6 =>
 (intC .i64 x5 fun x7 x8 =>
 (nilC x8
 ((objC x6 fun x9 x10 =>
 (intC .i64 x9 fun x11 x12 =>
 (nilC x12
 ((objC x10 fun x13 x14 =>
 (boolC x13 fun x15 x16 =>
 (nilC x16
 ((rTerm x4.1 fun x17 x18 =>
 (nilV x18 (nilO x14
 ((cond (roomB (v15 ++ [(T.mk (x17).k (x17).n (x17).kids)]).length)
 (L_impl_changed_impl_shift_1_0_foo n c (v0 : Int) (v1 : List T) (v2 : Int) ((IntKind.i64.wrap (v3 + 1)) : Int) (x7 : Int) (x11 : Int) (x15 : Bool) (v7 : Int) (v8 : Int) (v9 : List T) (v10 : Int) (v11 : Int) (v12 : List T) (v13 : Int) (v14 : Int) ((v15 ++ [(T.mk (x17).k (x17).n (x17).kids)]) : List T))
 (none))))))))))))))))))))))))))
 (none)))
 (some ([.agg [.int .i64 v13, .int .i64 v14, .fr (.ts v15)]], [.cells [.int .i64 v4], .cells [.int .i64 v5], .cells [.bool v6]]))) := by kernel_rfl
theorem E_impl_changed_impl_shift_1 (n : Nat) (v0 : Int) (v1 : Int) (v2 : List T) (v3 : Int) (v4 : Int) (v5 : Int) (v6 : Bool) : FF (n + 1) 122 [.agg [.int .i64 v0, .int .i64 v1, .fr (.ts v2)], .one (.int .i64 v3), .one (.fn 133 [0, 1, 2])] [.cells [.int .i64 v4], .cells [.int .i64 v5], .cells [.bool v6]] =
 (cond ((decide (v0 = 1)))
 (((FF n 133 [.one (.int .i64 v1), .one (.int .i64 v3), .one (.ptr 0 0), .one (.ptr 1 0), .one (.ptr 2 0)] [.cells [.int .i64 v4], .cells [.int .i64 v5], .cells [.bool v6]]).bind fun x0 =>
 (objC x0.2 fun x1 x2 =>
 (intC .i64 x1 fun x3 x4 =>
 (nilC x4
 ((objC x2 fun x5 x6 =>
 (intC .i64 x5 fun x7 x8 =>
 (nilC x8
 ((objC x6 fun x9 x10 =>
 (boolC x9 fun x11 x12 =>
 (nilC x12
 ((rTerm x0.1 fun x13 x14 =>
 (nilV x14 (nilO x10
 (some ([.agg [.int .i64 (x13).k, .int .i64 (x13).n, .fr (.ts (x13).kids)]], [.cells [.int .i64 x3], .cells [.int .i64 x7], .cells [.bool x11]])))))))))))))))))))
 (L_impl_changed_impl_shift_1_0_foo n n (v3 : Int) (v2 : List T) (((v2).length : Int) : Int) (0 : Int) (v4 : Int) (v5 : Int) (v6 : Bool) (v0 : Int) (v1 : Int) (v2 : List T) (0 : Int) (0 : Int) ([] : List T) (v0 : Int) (v1 : Int) ([] : List T))) := by kernel_rfl

/-! loop.example/depkernel/impl.shift$1 -/
theorem E_impl_shift_1 (n : Nat) (v0 : Int) (v1 : Int) (v2 : Int) (v3 : Int) (v4 : Bool) : FF (n + 1) 133 [.one (.int .i64 v0), .one (.int .i64 v1), .one (.ptr 0 0), .one (.ptr 1 0), .one (.ptr 2 0)] [.cells [.int .i64 v2], .cells [.int .i64 v3], .cells [.bool v4]] =
 (cond ((decide (v2 ≤ (IntKind.i64.wrap (v0 - v1)))))
 ((cond (v4)
 ((cond ((decide (v2 ≤ (IntKind.i64.wrap ((IntKind.i64.wrap (v0 + v3)) - v1)))))
 (((FF n 125 [.one (.int .i64 (IntKind.i64.wrap (v0 + v3)))] []).bind fun x0 =>
 (rTerm x0.1 fun x1 x2 =>
 (nilV x2 (nilO x0.2
 (some ([.agg [.int .i64 (x1).k, .int .i64 (x1).n, .fr (.ts (x1).kids)]], [.cells [.int .i64 v2], .cells [.int .i64 v3], .cells [.bool (decide ((IntKind.i64.wrap (v0 + v3)) ≤ 20))]])))))))
 (((FF n 125 [.one (.int .i64 (IntKind.i64.wrap (v0 + v3)))] []).bind fun x0 =>
 (rTerm x0.1 fun x1 x2 =>
 (nilV x2 (nilO x0.2
 (some ([.agg [.int .i64 (x1).k, .int .i64 (x1).n, .fr (.ts (x1).kids)]], [.cells [.int .i64 v2], .cells [.int .i64 v3], .cells [.bool false]])))))))))
 (((FF n 125 [.one (.int .i64 (IntKind.i64.wrap (v0 + v3)))] []).bind fun x0 =>
 (rTerm x0.1 fun x1 x2 =>
 (nilV x2 (nilO x0.2
 (some ([.agg [.int .i64 (x1).k, .int .i64 (x1).n, .fr (.ts (x1).kids)]], [.cells [.int .i64 v2], .cells [.int .i64 v3], .cells [.bool false]])))))))))
 (((FF n 125 [.one (.int .i64 v0)] []).bind fun x0 =>
 (rTerm x0.1 fun x1 x2 =>
 (nilV x2 (nilO x0.2
 (some ([.agg [.int .i64 (x1).k, .int .i64 (x1).n, .fr (.ts (x1).kids)]], [.cells [.int .i64 v2], .cells [.int .i64 v3], .cells [.bool v4]])))))))) := by kernel_rfl

end Go.Proofs.Ytmioieikbpemoaa
