/- What the program's functions come to in the abstract run. -/
import Derived.Test.YthjbllfcelkajaaSay
set_option linter.unusedVariables false
namespace Go.Proofs.Ythjbllfcelkajaa
open Go Go.Ab Go.Dk
/-! loop.example/depkernel/spec.ContextVars -/
noncomputable def L_spec_ContextVars_0 (n c : Nat) (v0 : Int) (v1 : List T) : OR := runLoop Try.prog SS n 16 0 [1, 1, 1, 0, 1, 0] [] c ⟨[.v (.one (.any)), .v (.one (.any)), .v (.one (.any)), .v (.one (.any)), .v (.one (.own 0 0)), .v (.one (.int .i64 v0)), .v (.one (.any)), .v (.one (.any)), .v (.one (.any)), .v (.one (.any)), .v (.one (.any)), .v (.one (.any)), .v (.one (.any)), .v (.one (.any)), .v (.one (.any)), .v (.one (.any)), .v (.one (.any)), .v (.one (.any)), .v (.one (.any)), .v (.one (.any)), .v (.one (.any)), .v (.one (.any)), .v (.one (.any)), .v (.one (.any)), .v (.one (.any)), .v (.one (.any))],
  [.arr 33 (.ts v1) 0 false]⟩
theorem L_spec_ContextVars_0_eq (n c : Nat) (v0 : Int) (v1 : List T) : L_spec_ContextVars_0 n (c + 1) v0 v1 =
 (cond ((decide (0 ≤ v0)))
 (((FF n 58 [.one (.int .i64 1), .one (.int .i64 v0)] []).bind fun x0 =>
 (rTerm x0.1 fun x1 x2 =>
 (nilV x2 (nilO x0.2
 ((cond (roomB (v1 ++ [(T.mk (x1).k (x1).n (x1).kids)]).length)
 (L_spec_ContextVars_0 n c ((IntKind.i64.wrap (v0 - 1)) : Int) ((v1 ++ [(T.mk (x1).k (x1).n (x1).kids)]) : List T))
 (none))))))))
 (some ([.one (.fr (.ts v1)), .one (.bool true)], []))) := by kernel_rfl
theorem E_spec_ContextVars (n : Nat) (v0 : Int) : FF (n + 1) 16 [.one (.int .i64 v0)] [] =
 (cond ((decide (v0 < 0)))
 (some ([.one (.fr (.ts [])), .one (.bool false)], []))
 ((cond ((decide (8 < v0)))
 (some ([.one (.fr (.ts [])), .one (.bool false)], []))
 (L_spec_ContextVars_0 n n ((IntKind.i64.wrap (v0 - 1)) : Int) ([] : List T))))) := by kernel_rfl

/-! loop.example/depkernel/impl.ContextVars -/
noncomputable def L_impl_ContextVars_0 (n c : Nat) (v0 : Int) (v1 : List T) : OR := runLoop Try.prog SS n 17 0 [1, 1, 1, 0, 1, 0] [] c ⟨[.v (.one (.any)), .v (.one (.any)), .v (.one (.any)), .v (.one (.any)), .v (.one (.own 0 0)), .v (.one (.int .i64 v0)), .v (.one (.any)), .v (.one (.any)), .v (.one (.any)), .v (.one (.any)), .v (.one (.any)), .v (.one (.any)), .v (.one (.any)), .v (.one (.any)), .v (.one (.any)), .v (.one (.any)), .v (.one (.any)), .v (.one (.any)), .v (.one (.any)), .v (.one (.any)), .v (.one (.any))],
  [.arr 33 (.ts v1) 0 false]⟩
theorem L_impl_ContextVars_0_eq (n c : Nat) (v0 : Int) (v1 : List T) : L_impl_ContextVars_0 n (c + 1) v0 v1 =
 (cond ((decide (0 ≤ v0)))
 (((FF n 60 [.one (.int .i64 v0)] []).bind fun x0 =>
 (rTerm x0.1 fun x1 x2 =>
 (nilV x2 (nilO x0.2
 ((cond (roomB (v1 ++ [(T.mk (x1).k (x1).n (x1).kids)]).length)
 (L_impl_ContextVars_0 n c ((IntKind.i64.wrap (v0 - 1)) : Int) ((v1 ++ [(T.mk (x1).k (x1).n (x1).kids)]) : List T))
 (none))))))))
 (some ([.one (.fr (.ts v1)), .one (.bool true)], []))) := by kernel_rfl
theorem E_impl_ContextVars (n : Nat) (v0 : Int) : FF (n + 1) 17 [.one (.int .i64 v0)] [] =
 ((FF n 59 [.one (.int .i64 v0), .one (.int .i64 0), .one (.int .i64 8)] []).bind fun x0 =>
 (rBool x0.1 fun x1 x2 =>
 (nilV x2 (nilO x0.2
 ((cond ((!x1))
 (some ([.one (.fr (.ts [])), .one (.bool false)], []))
 (L_impl_ContextVars_0 n n ((IntKind.i64.wrap (v0 - 1)) : Int) ([] : List T)))))))) := by kernel_rfl

/-! loop.example/depkernel/spec.SplitApp -/
noncomputable def L_spec_SplitApp_0_fo (n c : Nat) (v0 : Int) (v1 : Int) (v2 : List T) (v3 : Int) (v4 : Int) (v5 : List T) (v6 : List T) : OR := runLoop Try.prog SS n 22 0 [1, 1, 1, 0, 0] [] c ⟨[.v (.one (.any)), .v (.one (.ptr 0 0)), .v (.one (.ptr 1 0)), .v (.one (.any)), .v (.one (.any)), .v (.one (.own 3 0)), .v (.one (.any)), .v (.one (.any)), .v (.one (.any)), .v (.one (.any)), .v (.one (.any)), .v (.one (.any)), .v (.one (.any)), .v (.one (.any)), .v (.one (.any)), .v (.one (.any)), .v (.one (.any)), .v (.one (.any)), .v (.one (.any)), .v (.one (.any)), .v (.one (.any)), .v (.one (.any)), .v (.one (.any)), .v (.one (.any)), .v (.one (.any)), .v (.one (.any)), .v (.one (.any)), .v (.one (.any)), .v (.one (.any)), .v (.one (.any))],
  [.cells [.int .i64 v0, .int .i64 v1, .fr (.ts v2)], .cells [.int .i64 v3, .int .i64 v4, .own 2 0], .arr 33 (.ts v5) 0 false, .arr 33 (.ts v6) 0 false]⟩
theorem L_spec_SplitApp_0_fo_eq (n c : Nat) (v0 : Int) (v1 : Int) (v2 : List T) (v3 : Int) (v4 : Int) (v5 : List T) (v6 : List T) : L_spec_SplitApp_0_fo n (c + 1) v0 v1 v2 v3 v4 v5 v6 =
 (cond ((decide (v0 = 5)))
 (((v2)[(1 : Int).toNat]?.bind fun x0 =>
 ((FF n 62 [.agg [.int .i64 (x0).k, .int .i64 (x0).n, .fr (.ts (x0).kids)]] []).bind fun x1 =>
 (rOwnT 0 x1.1 fun x2 x3 x4 =>
 (arrTsC 33 x1.2 fun x5 x6 =>
 (nilV x4 (nilO x6
 ((cond (roomB ([(T.mk x2 x3 x5)] ++ v6).length)
 (((v2)[(0 : Int).toNat]?.bind fun x7 =>
 L_spec_SplitApp_0_fo n c ((x7).k : Int) ((x7).n : Int) ((x7).kids : List T) (v3 : Int) (v4 : Int) (v5 : List T) (([(T.mk x2 x3 x5)] ++ v6) : List T)))
 (none))))))))))
 (((FF n 62 [.agg [.int .i64 v0, .int .i64 v1, .fr (.ts v2)]] []).bind fun x0 =>
 (rOwnT 0 x0.1 fun x1 x2 x3 =>
 (arrTsC 33 x0.2 fun x4 x5 =>
 (nilV x3 (nilO x5
 (some ([.agg [.int .i64 x1, .int .i64 x2, .fr (.ts x4)], .one (.fr (.ts v6)), .one (.bool true)], []))))))))) := by kernel_rfl
theorem E_spec_SplitApp (n : Nat) (v0 : Int) (v1 : Int) (v2 : List T) : FF (n + 1) 22 [.agg [.int .i64 v0, .int .i64 v1, .fr (.ts v2)]] [] =
 ((FF n 61 [.agg [.int .i64 v0, .int .i64 v1, .fr (.ts v2)]] []).bind fun x0 =>
 (rBool x0.1 fun x1 x2 =>
 (nilV x2 (nilO x0.2
 ((cond ((!x1))
 (some ([.agg [.int .i64 0, .int .i64 0, .fr (.ts [])], .one (.fr (.ts [])), .one (.bool false)], []))
 (L_spec_SplitApp_0_fo n n (v0 : Int) (v1 : Int) (v2 : List T) (0 : Int) (0 : Int) ([] : List T) ([] : List T)))))))) := by kernel_rfl

/-! loop.example/depkernel/impl.SplitApp -/
noncomputable def L_impl_SplitApp_0_fo (n c : Nat) (v0 : Int) (v1 : Int) (v2 : List T) (v3 : Int) (v4 : Int) (v5 : List T) (v6 : List T) : OR := runLoop Try.prog SS n 24 0 [1, 1, 1, 0, 0] [] c ⟨[.v (.one (.any)), .v (.one (.ptr 0 0)), .v (.one (.ptr 1 0)), .v (.one (.any)), .v (.one (.any)), .v (.one (.own 3 0)), .v (.one (.any)), .v (.one (.any)), .v (.one (.any)), .v (.one (.any)), .v (.one (.any)), .v (.one (.any)), .v (.one (.any)), .v (.one (.any)), .v (.one (.any)), .v (.one (.any)), .v (.one (.any)), .v (.one (.any)), .v (.one (.any)), .v (.one (.any)), .v (.one (.any)), .v (.one (.any)), .v (.one (.any)), .v (.one (.any)), .v (.one (.any)), .v (.one (.any)), .v (.one (.any)), .v (.one (.any)), .v (.one (.any)), .v (.one (.any))],
  [.cells [.int .i64 v0, .int .i64 v1, .fr (.ts v2)], .cells [.int .i64 v3, .int .i64 v4, .own 2 0], .arr 33 (.ts v5) 0 false, .arr 33 (.ts v6) 0 false]⟩
theorem L_impl_SplitApp_0_fo_eq (n c : Nat) (v0 : Int) (v1 : Int) (v2 : List T) (v3 : Int) (v4 : Int) (v5 : List T) (v6 : List T) : L_impl_SplitApp_0_fo n (c + 1) v0 v1 v2 v3 v4 v5 v6 =
 (cond ((decide (v0 = 5)))
 (((v2)[(1 : Int).toNat]?.bind fun x0 =>
 ((FF n 64 [.agg [.int .i64 (x0).k, .int .i64 (x0).n, .fr (.ts (x0).kids)]] []).bind fun x1 =>
 (rTerm x1.1 fun x2 x3 =>
 (nilV x3 (nilO x1.2
 ((cond (roomB (v6 ++ [(T.mk (x2).k (x2).n (x2).kids)]).length)
 (((v2)[(0 : Int).toNat]?.bind fun x4 =>
 L_impl_SplitApp_0_fo n c ((x4).k : Int) ((x4).n : Int) ((x4).kids : List T) (v3 : Int) (v4 : Int) (v5 : List T) ((v6 ++ [(T.mk (x2).k (x2).n (x2).kids)]) : List T)))
 (none)))))))))
 (((FF n 65 [.one (.fr (.ts v6))] []).bind fun x0 =>
 (nilV x0.1 (nilO x0.2
 (((FF n 64 [.agg [.int .i64 v0, .int .i64 v1, .fr (.ts v2)]] []).bind fun x1 =>
 (rTerm x1.1 fun x2 x3 =>
 (nilV x3 (nilO x1.2
 (some ([.agg [.int .i64 (x2).k, .int .i64 (x2).n, .fr (.ts (x2).kids)], .one (.fr (.ts v6)), .one (.bool true)], [])))))))))))) := by kernel_rfl
theorem E_impl_SplitApp (n : Nat) (v0 : Int) (v1 : Int) (v2 : List T) : FF (n + 1) 24 [.agg [.int .i64 v0, .int .i64 v1, .fr (.ts v2)]] [] =
 ((FF n 63 [.agg [.int .i64 v0, .int .i64 v1, .fr (.ts v2)]] []).bind fun x0 =>
 (rBool x0.1 fun x1 x2 =>
 (nilV x2 (nilO x0.2
 ((cond ((!x1))
 (some ([.agg [.int .i64 0, .int .i64 0, .fr (.ts [])], .one (.fr (.ts [])), .one (.bool false)], []))
 (L_impl_SplitApp_0_fo n n (v0 : Int) (v1 : Int) (v2 : List T) (0 : Int) (0 : Int) ([] : List T) ([] : List T)))))))) := by kernel_rfl

/-! loop.example/depkernel/spec.SplitPi -/
noncomputable def L_spec_SplitPi_0_fo (n c : Nat) (v0 : Int) (v1 : Int) (v2 : Int) (v3 : Int) (v4 : List T) (v5 : Int) (v6 : Int) (v7 : List T) (v8 : List T) : OR := runLoop Try.prog SS n 28 0 [1, 1, 1, 0, 1, 0] [] c ⟨[.v (.one (.any)), .v (.one (.int .i64 v0)), .v (.one (.ptr 0 0)), .v (.one (.any)), .v (.one (.any)), .v (.one (.ptr 1 0)), .v (.one (.any)), .v (.one (.own 3 0)), .v (.one (.int .i64 v1)), .v (.one (.any)), .v (.one (.any)), .v (.one (.any)), .v (.one (.any)), .v (.one (.any)), .v (.one (.any)), .v (.one (.any)), .v (.one (.any)), .v (.one (.any)), .v (.one (.any)), .v (.one (.any)), .v (.one (.any)), .v (.one (.any)), .v (.one (.any)), .v (.one (.any)), .v (.one (.any)), .v (.one (.any)), .v (.one (.any)), .v (.one (.any)), .v (.one (.any)), .v (.one (.any)), .v (.one (.any)), .v (.one (.any)), .v (.one (.any)), .v (.one (.any)), .v (.one (.any)), .v (.one (.any)), .v (.one (.any)), .v (.one (.any)), .v (.one (.any)), .v (.one (.any)), .v (.one (.any)), .v (.one (.any)), .v (.one (.any)), .v (.one (.any)), .v (.one (.any)), .v (.one (.any)), .v (.one (.any)), .v (.one (.any)), .v (.one (.any))],
  [.cells [.int .i64 v2, .int .i64 v3, .fr (.ts v4)], .cells [.int .i64 v5, .int .i64 v6, .own 2 0], .arr 33 (.ts v7) 0 false, .arr 33 (.ts v8) 0 false]⟩
theorem L_spec_SplitPi_0_fo_eq (n c : Nat) (v0 : Int) (v1 : Int) (v2 : Int) (v3 : Int) (v4 : List T) (v5 : Int) (v6 : Int) (v7 : List T) (v8 : List T) : L_spec_SplitPi_0_fo n (c + 1) v0 v1 v2 v3 v4 v5 v6 v7 v8 =
 (cond ((decide (v1 < v0)))
 (((v4)[(0 : Int).toNat]?.bind fun x0 =>
 ((FF n 62 [.agg [.int .i64 (x0).k, .int .i64 (x0).n, .fr (.ts (x0).kids)]] []).bind fun x1 =>
 (rOwnT 0 x1.1 fun x2 x3 x4 =>
 (arrTsC 33 x1.2 fun x5 x6 =>
 (nilV x4 (nilO x6
 ((cond (roomB (v8 ++ [(T.mk x2 x3 x5)]).length)
 (((v4)[(1 : Int).toNat]?.bind fun x7 =>
 L_spec_SplitPi_0_fo n c (v0 : Int) ((IntKind.i64.wrap (v1 + 1)) : Int) ((x7).k : Int) ((x7).n : Int) ((x7).kids : List T) (v5 : Int) (v6 : Int) (v7 : List T) ((v8 ++ [(T.mk x2 x3 x5)]) : List T)))
 (none))))))))))
 (((FF n 62 [.agg [.int .i64 v2, .int .i64 v3, .fr (.ts v4)]] []).bind fun x0 =>
 (rOwnT 0 x0.1 fun x1 x2 x3 =>
 (arrTsC 33 x0.2 fun x4 x5 =>
 (nilV x3 (nilO x5
 (some ([.one (.fr (.ts v8)), .agg [.int .i64 x1, .int .i64 x2, .fr (.ts x4)], .one (.bool true)], []))))))))) := by kernel_rfl
theorem E_spec_SplitPi (n : Nat) (v0 : Int) (v1 : Int) (v2 : List T) (v3 : Int) : FF (n + 1) 28 [.agg [.int .i64 v0, .int .i64 v1, .fr (.ts v2)], .one (.int .i64 v3)] [] =
 (cond ((decide (v3 < 0)))
 (some ([.one (.fr (.ts [])), .agg [.int .i64 0, .int .i64 0, .fr (.ts [])], .one (.bool false)], []))
 ((cond ((decide (8 < v3)))
 (some ([.one (.fr (.ts [])), .agg [.int .i64 0, .int .i64 0, .fr (.ts [])], .one (.bool false)], []))
 (((FF n 66 [.agg [.int .i64 v0, .int .i64 v1, .fr (.ts v2)]] []).bind fun x0 =>
 (rInt .i64 x0.1 fun x1 x2 =>
 (nilV x2 (nilO x0.2
 ((cond ((decide (x1 < v3)))
 (some ([.one (.fr (.ts [])), .agg [.int .i64 0, .int .i64 0, .fr (.ts [])], .one (.bool false)], []))
 (((FF n 61 [.agg [.int .i64 v0, .int .i64 v1, .fr (.ts v2)]] []).bind fun x3 =>
 (rBool x3.1 fun x4 x5 =>
 (nilV x5 (nilO x3.2
 ((cond ((!x4))
 (some ([.one (.fr (.ts [])), .agg [.int .i64 0, .int .i64 0, .fr (.ts [])], .one (.bool false)], []))
 (L_spec_SplitPi_0_fo n n (v3 : Int) (0 : Int) (v0 : Int) (v1 : Int) (v2 : List T) (0 : Int) (0 : Int) ([] : List T) ([] : List T))))))))))))))))))) := by kernel_rfl

/-! loop.example/depkernel/impl.SplitPi -/
noncomputable def L_impl_SplitPi_0_fo (n c : Nat) (v0 : Int) (v1 : Int) (v2 : Int) (v3 : Int) (v4 : List T) (v5 : Int) (v6 : Int) (v7 : List T) (v8 : List T) : OR := runLoop Try.prog SS n 29 0 [1, 1, 1, 0, 1, 0] [] c ⟨[.v (.one (.any)), .v (.one (.any)), .v (.one (.ptr 0 0)), .v (.one (.any)), .v (.one (.any)), .v (.one (.ptr 1 0)), .v (.one (.any)), .v (.one (.own 3 0)), .v (.one (.any)), .v (.one (.any)), .v (.one (.any)), .v (.one (.any)), .v (.one (.any)), .v (.one (.any)), .v (.one (.any)), .v (.one (.any)), .v (.one (.any)), .v (.one (.any)), .v (.one (.any)), .v (.one (.any)), .v (.one (.int .i64 v0)), .v (.one (.int .i64 v1)), .v (.one (.any)), .v (.one (.any)), .v (.one (.any)), .v (.one (.any)), .v (.one (.any)), .v (.one (.any)), .v (.one (.any)), .v (.one (.any)), .v (.one (.any)), .v (.one (.any)), .v (.one (.any)), .v (.one (.any)), .v (.one (.any)), .v (.one (.any)), .v (.one (.any)), .v (.one (.any)), .v (.one (.any))],
  [.cells [.int .i64 v2, .int .i64 v3, .fr (.ts v4)], .cells [.int .i64 v5, .int .i64 v6, .own 2 0], .arr 33 (.ts v7) 0 false, .arr 33 (.ts v8) 0 false]⟩
theorem L_impl_SplitPi_0_fo_eq (n c : Nat) (v0 : Int) (v1 : Int) (v2 : Int) (v3 : Int) (v4 : List T) (v5 : Int) (v6 : Int) (v7 : List T) (v8 : List T) : L_impl_SplitPi_0_fo n (c + 1) v0 v1 v2 v3 v4 v5 v6 v7 v8 =
 (cond ((decide (v1 < v0)))
 (((v4)[(0 : Int).toNat]?.bind fun x0 =>
 ((FF n 64 [.agg [.int .i64 (x0).k, .int .i64 (x0).n, .fr (.ts (x0).kids)]] []).bind fun x1 =>
 (rTerm x1.1 fun x2 x3 =>
 (nilV x3 (nilO x1.2
 ((cond (roomB (v8 ++ [(T.mk (x2).k (x2).n (x2).kids)]).length)
 (((v4)[(1 : Int).toNat]?.bind fun x4 =>
 L_impl_SplitPi_0_fo n c (v0 : Int) ((IntKind.i64.wrap (v1 + 1)) : Int) ((x4).k : Int) ((x4).n : Int) ((x4).kids : List T) (v5 : Int) (v6 : Int) (v7 : List T) ((v8 ++ [(T.mk (x2).k (x2).n (x2).kids)]) : List T)))
 (none)))))))))
 (((FF n 64 [.agg [.int .i64 v2, .int .i64 v3, .fr (.ts v4)]] []).bind fun x0 =>
 (rTerm x0.1 fun x1 x2 =>
 (nilV x2 (nilO x0.2
 (some ([.one (.fr (.ts v8)), .agg [.int .i64 (x1).k, .int .i64 (x1).n, .fr (.ts (x1).kids)], .one (.bool true)], [])))))))) := by kernel_rfl
theorem E_impl_SplitPi (n : Nat) (v0 : Int) (v1 : Int) (v2 : List T) (v3 : Int) : FF (n + 1) 29 [.agg [.int .i64 v0, .int .i64 v1, .fr (.ts v2)], .one (.int .i64 v3)] [] =
 ((FF n 63 [.agg [.int .i64 v0, .int .i64 v1, .fr (.ts v2)]] []).bind fun x0 =>
 (rBool x0.1 fun x1 x2 =>
 (nilV x2 (nilO x0.2
 ((cond ((!x1))
 (some ([.one (.fr (.ts [])), .agg [.int .i64 0, .int .i64 0, .fr (.ts [])], .one (.bool false)], []))
 (((FF n 67 [.agg [.int .i64 v0, .int .i64 v1, .fr (.ts v2)]] []).bind fun x3 =>
 (rInt .i64 x3.1 fun x4 x5 =>
 (nilV x5 (nilO x3.2
 (((FF n 59 [.one (.int .i64 v3), .one (.int .i64 0), .one (.int .i64 (min 8 x4))] []).bind fun x6 =>
 (rBool x6.1 fun x7 x8 =>
 (nilV x8 (nilO x6.2
 ((cond ((!x7))
 (some ([.one (.fr (.ts [])), .agg [.int .i64 0, .int .i64 0, .fr (.ts [])], .one (.bool false)], []))
 (L_impl_SplitPi_0_fo n n (v3 : Int) (0 : Int) (v0 : Int) (v1 : Int) (v2 : List T) (0 : Int) (0 : Int) ([] : List T) ([] : List T)))))))))))))))))))) := by kernel_rfl

/-! loop.example/depkernel/spec.ApplyAll -/
noncomputable def L_spec_ApplyAll_0_oo (n c : Nat) (v0 : List T) (v1 : Int) (v2 : Int) (v3 : Int) (v4 : List T) (v5 : Int) (v6 : Int) (v7 : List T) : OR := runLoop Try.prog SS n 35 0 [1, 1, 1, 0, 1, 0] [] c ⟨[.v (.one (.any)), .v (.one (.fr (.ts v0))), .v (.one (.any)), .v (.one (.any)), .v (.one (.ptr 0 0)), .v (.one (.any)), .v (.one (.ptr 2 0)), .v (.one (.int .i64 v1)), .v (.one (.any)), .v (.one (.any)), .v (.one (.any)), .v (.one (.any)), .v (.one (.any)), .v (.one (.any)), .v (.one (.any)), .v (.one (.any)), .v (.one (.any)), .v (.one (.any)), .v (.one (.any)), .v (.one (.any)), .v (.one (.any)), .v (.one (.any)), .v (.one (.any)), .v (.one (.any)), .v (.one (.any)), .v (.one (.any)), .v (.one (.any)), .v (.one (.any)), .v (.one (.any)), .v (.one (.any)), .v (.one (.any)), .v (.one (.any)), .v (.one (.any)), .v (.one (.any)), .v (.one (.any)), .v (.one (.any)), .v (.one (.any))],
  [.cells [.int .i64 v2, .int .i64 v3, .own 1 0], .arr 33 (.ts v4) 0 false, .cells [.int .i64 v5, .int .i64 v6, .own 3 0], .arr 33 (.ts v7) 0 false]⟩
noncomputable def L_spec_ApplyAll_0_of (n c : Nat) (v0 : List T) (v1 : Int) (v2 : Int) (v3 : Int) (v4 : List T) (v5 : Int) (v6 : Int) (v7 : List T) : OR := runLoop Try.prog SS n 35 0 [1, 1, 1, 0, 1, 0] [] c ⟨[.v (.one (.any)), .v (.one (.fr (.ts v0))), .v (.one (.any)), .v (.one (.any)), .v (.one (.ptr 0 0)), .v (.one (.any)), .v (.one (.ptr 2 0)), .v (.one (.int .i64 v1)), .v (.one (.any)), .v (.one (.any)), .v (.one (.any)), .v (.one (.any)), .v (.one (.any)), .v (.one (.any)), .v (.one (.any)), .v (.one (.any)), .v (.one (.any)), .v (.one (.any)), .v (.one (.any)), .v (.one (.any)), .v (.one (.any)), .v (.one (.any)), .v (.one (.any)), .v (.one (.any)), .v (.one (.any)), .v (.one (.any)), .v (.one (.any)), .v (.one (.any)), .v (.one (.any)), .v (.one (.any)), .v (.one (.any)), .v (.one (.any)), .v (.one (.any)), .v (.one (.any)), .v (.one (.any)), .v (.one (.any)), .v (.one (.any))],
  [.cells [.int .i64 v2, .int .i64 v3, .own 1 0], .arr 33 (.ts v4) 0 false, .cells [.int .i64 v5, .int .i64 v6, .fr (.ts v7)]]⟩
theorem L_spec_ApplyAll_0_oo_eq (n c : Nat) (v0 : List T) (v1 : Int) (v2 : Int) (v3 : Int) (v4 : List T) (v5 : Int) (v6 : Int) (v7 : List T) : L_spec_ApplyAll_0_oo n (c + 1) v0 v1 v2 v3 v4 v5 v6 v7 =
 (cond ((decide (v1 < ((v0).length : Int))))
 ((cond (decide (0 ≤ v1))
 (((v0)[(v1 : Int).toNat]?.bind fun x0 =>
 ((FF n 62 [.agg [.int .i64 (x0).k, .int .i64 (x0).n, .fr (.ts (x0).kids)]] []).bind fun x1 =>
 (rOwnT 0 x1.1 fun x2 x3 x4 =>
 (arrTsC 33 x1.2 fun x5 x6 =>
 (nilV x4 (nilO x6
 (((FF n 71 [.one (.int .i64 5), .one (.fr (.ts [(T.mk v5 v6 v7), (T.mk x2 x3 x5)]))] []).bind fun x7 =>
 (rTerm x7.1 fun x8 x9 =>
 (nilV x9 (nilO x7.2
 (L_spec_ApplyAll_0_of n c (v0 : List T) ((IntKind.i64.wrap (v1 + 1)) : Int) (v2 : Int) (v3 : Int) (v4 : List T) ((x8).k : Int) ((x8).n : Int) ((x8).kids : List T))))))))))))))
 (none)))
 (((FF n 72 [.agg [.int .i64 v5, .int .i64 v6, .fr (.ts v7)]] []).bind fun x0 =>
 (rTerm x0.1 fun x1 x2 =>
 (rBool x2 fun x3 x4 =>
 (nilV x4 (nilO x0.2
 (some ([.agg [.int .i64 (x1).k, .int .i64 (x1).n, .fr (.ts (x1).kids)], .one (.bool x3)], []))))))))) := by kernel_rfl
theorem L_spec_ApplyAll_0_of_eq (n c : Nat) (v0 : List T) (v1 : Int) (v2 : Int) (v3 : Int) (v4 : List T) (v5 : Int) (v6 : Int) (v7 : List T) : L_spec_ApplyAll_0_of n (c + 1) v0 v1 v2 v3 v4 v5 v6 v7 =
 (cond ((decide (v1 < ((v0).length : Int))))
 ((cond (decide (0 ≤ v1))
 (((v0)[(v1 : Int).toNat]?.bind fun x0 =>
 ((FF n 62 [.agg [.int .i64 (x0).k, .int .i64 (x0).n, .fr (.ts (x0).kids)]] []).bind fun x1 =>
 (rOwnT 0 x1.1 fun x2 x3 x4 =>
 (arrTsC 33 x1.2 fun x5 x6 =>
 (nilV x4 (nilO x6
 (((FF n 71 [.one (.int .i64 5), .one (.fr (.ts [(T.mk v5 v6 v7), (T.mk x2 x3 x5)]))] []).bind fun x7 =>
 (rTerm x7.1 fun x8 x9 =>
 (nilV x9 (nilO x7.2
 (L_spec_ApplyAll_0_of n c (v0 : List T) ((IntKind.i64.wrap (v1 + 1)) : Int) (v2 : Int) (v3 : Int) (v4 : List T) ((x8).k : Int) ((x8).n : Int) ((x8).kids : List T))))))))))))))
 (none)))
 (((FF n 72 [.agg [.int .i64 v5, .int .i64 v6, .fr (.ts v7)]] []).bind fun x0 =>
 (rTerm x0.1 fun x1 x2 =>
 (rBool x2 fun x3 x4 =>
 (nilV x4 (nilO x0.2
 (some ([.agg [.int .i64 (x1).k, .int .i64 (x1).n, .fr (.ts (x1).kids)], .one (.bool x3)], []))))))))) := by kernel_rfl
theorem E_spec_ApplyAll (n : Nat) (v0 : Int) (v1 : Int) (v2 : List T) (v3 : List T) : FF (n + 1) 35 [.agg [.int .i64 v0, .int .i64 v1, .fr (.ts v2)], .one (.fr (.ts v3))] [] =
 ((FF n 61 [.agg [.int .i64 v0, .int .i64 v1, .fr (.ts v2)]] []).bind fun x0 =>
 (rBool x0.1 fun x1 x2 =>
 (nilV x2 (nilO x0.2
 ((cond ((!x1))
 (some ([.agg [.int .i64 0, .int .i64 0, .fr (.ts [])], .one (.bool false)], []))
 (((FF n 70 [.one (.fr (.ts v3))] []).bind fun x3 =>
 (rBool x3.1 fun x4 x5 =>
 (nilV x5 (nilO x3.2
 ((cond ((!x4))
 (some ([.agg [.int .i64 0, .int .i64 0, .fr (.ts [])], .one (.bool false)], []))
 (((FF n 62 [.agg [.int .i64 v0, .int .i64 v1, .fr (.ts v2)]] []).bind fun x6 =>
 (rOwnT 0 x6.1 fun x7 x8 x9 =>
 (arrTsC 33 x6.2 fun x10 x11 =>
 (nilV x9 (nilO x11
 (L_spec_ApplyAll_0_oo n n (v3 : List T) (0 : Int) (0 : Int) (0 : Int) ([] : List T) (x7 : Int) (x8 : Int) (x10 : List T))))))))))))))))))))) := by kernel_rfl

/-! loop.example/depkernel/impl.ApplyAll -/
noncomputable def L_impl_ApplyAll_0_of (n c : Nat) (v0 : List T) (v1 : Int) (v2 : Int) (v3 : Int) (v4 : Int) (v5 : List T) (v6 : Int) (v7 : Int) (v8 : List T) : OR := runLoop Try.prog SS n 37 0 [1, 1, 1, 0, 1, 0] [] c ⟨[.v (.one (.any)), .v (.one (.any)), .v (.one (.any)), .v (.one (.any)), .v (.one (.ptr 0 0)), .v (.one (.any)), .v (.one (.ptr 2 0)), .v (.one (.any)), .v (.one (.any)), .v (.one (.any)), .v (.one (.any)), .v (.one (.any)), .v (.one (.any)), .v (.one (.any)), .v (.one (.any)), .v (.one (.any)), .v (.one (.any)), .v (.one (.any)), .v (.one (.any)), .v (.one (.fr (.ts v0))), .v (.one (.int .i64 v1)), .v (.one (.int .i64 v2)), .v (.one (.any)), .v (.one (.any)), .v (.one (.any)), .v (.one (.any)), .v (.one (.any)), .v (.one (.any)), .v (.one (.any)), .v (.one (.any)), .v (.one (.any)), .v (.one (.any)), .v (.one (.any)), .v (.one (.any)), .v (.one (.any))],
  [.cells [.int .i64 v3, .int .i64 v4, .own 1 0], .arr 33 (.ts v5) 0 false, .cells [.int .i64 v6, .int .i64 v7, .fr (.ts v8)]]⟩
theorem L_impl_ApplyAll_0_of_eq (n c : Nat) (v0 : List T) (v1 : Int) (v2 : Int) (v3 : Int) (v4 : Int) (v5 : List T) (v6 : Int) (v7 : Int) (v8 : List T) : L_impl_ApplyAll_0_of n (c + 1) v0 v1 v2 v3 v4 v5 v6 v7 v8 =
 (cond ((decide (v2 < v1)))
 ((cond (decide (0 ≤ v2))
 (((v0)[(v2 : Int).toNat]?.bind fun x0 =>
 ((FF n 74 [.one (.int .i64 5), .one (.fr (.ts [(T.mk v6 v7 v8), (T.mk (x0).k (x0).n (x0).kids)]))] []).bind fun x1 =>
 (rTerm x1.1 fun x2 x3 =>
 (nilV x3 (nilO x1.2
 (L_impl_ApplyAll_0_of n c (v0 : List T) (v1 : Int) ((IntKind.i64.wrap (v2 + 1)) : Int) (v3 : Int) (v4 : Int) (v5 : List T) ((x2).k : Int) ((x2).n : Int) ((x2).kids : List T))))))))
 (none)))
 (((FF n 64 [.agg [.int .i64 v6, .int .i64 v7, .fr (.ts v8)]] []).bind fun x0 =>
 (rTerm x0.1 fun x1 x2 =>
 (nilV x2 (nilO x0.2
 (((FF n 75 [.agg [.int .i64 (x1).k, .int .i64 (x1).n, .fr (.ts (x1).kids)]] []).bind fun x3 =>
 (rTerm x3.1 fun x4 x5 =>
 (rBool x5 fun x6 x7 =>
 (nilV x7 (nilO x3.2
 (some ([.agg [.int .i64 (x4).k, .int .i64 (x4).n, .fr (.ts (x4).kids)], .one (.bool x6)], [])))))))))))))) := by kernel_rfl
theorem E_impl_ApplyAll (n : Nat) (v0 : Int) (v1 : Int) (v2 : List T) (v3 : List T) : FF (n + 1) 37 [.agg [.int .i64 v0, .int .i64 v1, .fr (.ts v2)], .one (.fr (.ts v3))] [] =
 ((FF n 63 [.agg [.int .i64 v0, .int .i64 v1, .fr (.ts v2)]] []).bind fun x0 =>
 (rBool x0.1 fun x1 x2 =>
 (nilV x2 (nilO x0.2
 ((cond ((!x1))
 (some ([.agg [.int .i64 0, .int .i64 0, .fr (.ts [])], .one (.bool false)], []))
 (((FF n 73 [.one (.fr (.ts v3))] []).bind fun x3 =>
 (rBool x3.1 fun x4 x5 =>
 (nilV x5 (nilO x3.2
 ((cond ((!x4))
 (some ([.agg [.int .i64 0, .int .i64 0, .fr (.ts [])], .one (.bool false)], []))
 (L_impl_ApplyAll_0_of n n (v3 : List T) (((v3).length : Int) : Int) (0 : Int) (0 : Int) (0 : Int) ([] : List T) (v0 : Int) (v1 : Int) (v2 : List T))))))))))))))) := by kernel_rfl

/-! loop.example/depkernel/spec.LamOver -/
theorem E_spec_LamOver (n : Nat) (v0 : List T) (v1 : Int) (v2 : Int) (v3 : List T) : FF (n + 1) 38 [.one (.fr (.ts v0)), .agg [.int .i64 v1, .int .i64 v2, .fr (.ts v3)]] [] =
 ((FF n 70 [.one (.fr (.ts v0))] []).bind fun x0 =>
 (rBool x0.1 fun x1 x2 =>
 (nilV x2 (nilO x0.2
 ((cond ((!x1))
 (some ([.agg [.int .i64 0, .int .i64 0, .fr (.ts [])], .one (.bool false)], []))
 (((FF n 61 [.agg [.int .i64 v1, .int .i64 v2, .fr (.ts v3)]] []).bind fun x3 =>
 (rBool x3.1 fun x4 x5 =>
 (nilV x5 (nilO x3.2
 ((cond ((!x4))
 (some ([.agg [.int .i64 0, .int .i64 0, .fr (.ts [])], .one (.bool false)], []))
 (((FF n 76 [.one (.int .i64 4), .one (.fr (.ts v0)), .agg [.int .i64 v1, .int .i64 v2, .fr (.ts v3)]] []).bind fun x6 =>
 (rTerm x6.1 fun x7 x8 =>
 (nilV x8 (nilO x6.2
 (((FF n 72 [.agg [.int .i64 (x7).k, .int .i64 (x7).n, .fr (.ts (x7).kids)]] []).bind fun x9 =>
 (rTerm x9.1 fun x10 x11 =>
 (rBool x11 fun x12 x13 =>
 (nilV x13 (nilO x9.2
 (some ([.agg [.int .i64 (x10).k, .int .i64 (x10).n, .fr (.ts (x10).kids)], .one (.bool x12)], [])))))))))))))))))))))))))) := by kernel_rfl

/-! loop.example/depkernel/impl.LamOver -/
theorem E_impl_LamOver (n : Nat) (v0 : List T) (v1 : Int) (v2 : Int) (v3 : List T) : FF (n + 1) 39 [.one (.fr (.ts v0)), .agg [.int .i64 v1, .int .i64 v2, .fr (.ts v3)]] [] =
 ((FF n 77 [.one (.int .i64 4), .one (.fr (.ts v0)), .agg [.int .i64 v1, .int .i64 v2, .fr (.ts v3)]] []).bind fun x0 =>
 (rTerm x0.1 fun x1 x2 =>
 (rBool x2 fun x3 x4 =>
 (nilV x4 (nilO x0.2
 (some ([.agg [.int .i64 (x1).k, .int .i64 (x1).n, .fr (.ts (x1).kids)], .one (.bool x3)], []))))))) := by kernel_rfl

/-! loop.example/depkernel/spec.PiOver -/
theorem E_spec_PiOver (n : Nat) (v0 : List T) (v1 : Int) (v2 : Int) (v3 : List T) : FF (n + 1) 40 [.one (.fr (.ts v0)), .agg [.int .i64 v1, .int .i64 v2, .fr (.ts v3)]] [] =
 ((FF n 70 [.one (.fr (.ts v0))] []).bind fun x0 =>
 (rBool x0.1 fun x1 x2 =>
 (nilV x2 (nilO x0.2
 ((cond ((!x1))
 (some ([.agg [.int .i64 0, .int .i64 0, .fr (.ts [])], .one (.bool false)], []))
 (((FF n 61 [.agg [.int .i64 v1, .int .i64 v2, .fr (.ts v3)]] []).bind fun x3 =>
 (rBool x3.1 fun x4 x5 =>
 (nilV x5 (nilO x3.2
 ((cond ((!x4))
 (some ([.agg [.int .i64 0, .int .i64 0, .fr (.ts [])], .one (.bool false)], []))
 (((FF n 76 [.one (.int .i64 3), .one (.fr (.ts v0)), .agg [.int .i64 v1, .int .i64 v2, .fr (.ts v3)]] []).bind fun x6 =>
 (rTerm x6.1 fun x7 x8 =>
 (nilV x8 (nilO x6.2
 (((FF n 72 [.agg [.int .i64 (x7).k, .int .i64 (x7).n, .fr (.ts (x7).kids)]] []).bind fun x9 =>
 (rTerm x9.1 fun x10 x11 =>
 (rBool x11 fun x12 x13 =>
 (nilV x13 (nilO x9.2
 (some ([.agg [.int .i64 (x10).k, .int .i64 (x10).n, .fr (.ts (x10).kids)], .one (.bool x12)], [])))))))))))))))))))))))))) := by kernel_rfl

/-! loop.example/depkernel/impl.PiOver -/
theorem E_impl_PiOver (n : Nat) (v0 : List T) (v1 : Int) (v2 : Int) (v3 : List T) : FF (n + 1) 41 [.one (.fr (.ts v0)), .agg [.int .i64 v1, .int .i64 v2, .fr (.ts v3)]] [] =
 ((FF n 77 [.one (.int .i64 3), .one (.fr (.ts v0)), .agg [.int .i64 v1, .int .i64 v2, .fr (.ts v3)]] []).bind fun x0 =>
 (rTerm x0.1 fun x1 x2 =>
 (rBool x2 fun x3 x4 =>
 (nilV x4 (nilO x0.2
 (some ([.agg [.int .i64 (x1).k, .int .i64 (x1).n, .fr (.ts (x1).kids)], .one (.bool x3)], []))))))) := by kernel_rfl

/-! loop.example/depkernel/spec.TermAt -/
theorem E_spec_TermAt (n : Nat) (v0 : Int) (v1 : Int) (v2 : List T) (v3 : List Int) : FF (n + 1) 42 [.agg [.int .i64 v0, .int .i64 v1, .fr (.ts v2)], .one (.fr (.is v3))] [] =
 ((FF n 61 [.agg [.int .i64 v0, .int .i64 v1, .fr (.ts v2)]] []).bind fun x0 =>
 (rBool x0.1 fun x1 x2 =>
 (nilV x2 (nilO x0.2
 ((cond ((!x1))
 (some ([.agg [.int .i64 0, .int .i64 0, .fr (.ts [])], .one (.bool false)], []))
 (((FF n 78 [.agg [.int .i64 v0, .int .i64 v1, .fr (.ts v2)], .one (.fr (.is v3))] []).bind fun x3 =>
 (rTerm x3.1 fun x4 x5 =>
 (rBool x5 fun x6 x7 =>
 (nilV x7 (nilO x3.2
 ((cond ((!x6))
 (some ([.agg [.int .i64 0, .int .i64 0, .fr (.ts [])], .one (.bool false)], []))
 (((FF n 62 [.agg [.int .i64 (x4).k, .int .i64 (x4).n, .fr (.ts (x4).kids)]] []).bind fun x8 =>
 (rOwnT 0 x8.1 fun x9 x10 x11 =>
 (arrTsC 33 x8.2 fun x12 x13 =>
 (nilV x11 (nilO x13
 (some ([.agg [.int .i64 x9, .int .i64 x10, .fr (.ts x12)], .one (.bool true)], [])))))))))))))))))))))) := by kernel_rfl

/-! loop.example/depkernel/impl.TermAt -/
theorem E_impl_TermAt (n : Nat) (v0 : Int) (v1 : Int) (v2 : List T) (v3 : List Int) : FF (n + 1) 43 [.agg [.int .i64 v0, .int .i64 v1, .fr (.ts v2)], .one (.fr (.is v3))] [] =
 ((FF n 63 [.agg [.int .i64 v0, .int .i64 v1, .fr (.ts v2)]] []).bind fun x0 =>
 (rBool x0.1 fun x1 x2 =>
 (nilV x2 (nilO x0.2
 ((cond ((!x1))
 (some ([.agg [.int .i64 0, .int .i64 0, .fr (.ts [])], .one (.bool false)], []))
 (((FF n 69 [.agg [.int .i64 v0, .int .i64 v1, .fr (.ts v2)], .one (.fr (.is v3))] []).bind fun x3 =>
 (rTerm x3.1 fun x4 x5 =>
 (rTs x5 fun x6 x7 =>
 (rBool x7 fun x8 x9 =>
 (nilV x9 (nilO x3.2
 ((cond ((!x8))
 (some ([.agg [.int .i64 0, .int .i64 0, .fr (.ts [])], .one (.bool false)], []))
 (((FF n 64 [.agg [.int .i64 (x4).k, .int .i64 (x4).n, .fr (.ts (x4).kids)]] []).bind fun x10 =>
 (rTerm x10.1 fun x11 x12 =>
 (nilV x12 (nilO x10.2
 (some ([.agg [.int .i64 (x11).k, .int .i64 (x11).n, .fr (.ts (x11).kids)], .one (.bool true)], [])))))))))))))))))))))) := by kernel_rfl

/-! loop.example/depkernel/spec.PlacesOf -/
theorem E_spec_PlacesOf (n : Nat) (v0 : Int) (v1 : Int) (v2 : List T) : FF (n + 1) 45 [.agg [.int .i64 v0, .int .i64 v1, .fr (.ts v2)]] [] =
 ((FF n 61 [.agg [.int .i64 v0, .int .i64 v1, .fr (.ts v2)]] []).bind fun x0 =>
 (rBool x0.1 fun x1 x2 =>
 (nilV x2 (nilO x0.2
 ((cond ((!x1))
 (some ([.one (.fr (.iss []))], []))
 (((FF n 79 [.one (.fr (.iss [])), .agg [.int .i64 v0, .int .i64 v1, .fr (.ts v2)], .one (.fr (.is [])), .one (.bool false)] []).bind fun x3 =>
 (rIss x3.1 fun x4 x5 =>
 (nilV x5 (nilO x3.2
 (some ([.one (.fr (.iss x4))], []))))))))))))) := by kernel_rfl

/-! loop.example/depkernel/impl.PlacesOf -/
theorem E_impl_PlacesOf (n : Nat) (v0 : Int) (v1 : Int) (v2 : List T) : FF (n + 1) 46 [.agg [.int .i64 v0, .int .i64 v1, .fr (.ts v2)]] [] =
 ((FF n 63 [.agg [.int .i64 v0, .int .i64 v1, .fr (.ts v2)]] []).bind fun x0 =>
 (rBool x0.1 fun x1 x2 =>
 (nilV x2 (nilO x0.2
 ((cond ((!x1))
 (some ([.one (.fr (.iss []))], []))
 (((FF n 80 [.agg [.int .i64 v0, .int .i64 v1, .fr (.ts v2)], .one (.emp none), .one (.fn 81 [])] []).bind fun x3 =>
 (rIss x3.1 fun x4 x5 =>
 (nilV x5 (nilO x3.2
 (some ([.one (.fr (.iss x4))], []))))))))))))) := by kernel_rfl

/-! loop.example/depkernel/spec.RedexPlaces -/
theorem E_spec_RedexPlaces (n : Nat) (v0 : Int) (v1 : Int) (v2 : List T) : FF (n + 1) 50 [.agg [.int .i64 v0, .int .i64 v1, .fr (.ts v2)]] [] =
 ((FF n 61 [.agg [.int .i64 v0, .int .i64 v1, .fr (.ts v2)]] []).bind fun x0 =>
 (rBool x0.1 fun x1 x2 =>
 (nilV x2 (nilO x0.2
 ((cond ((!x1))
 (some ([.one (.fr (.iss []))], []))
 (((FF n 79 [.one (.fr (.iss [])), .agg [.int .i64 v0, .int .i64 v1, .fr (.ts v2)], .one (.fr (.is [])), .one (.bool true)] []).bind fun x3 =>
 (rIss x3.1 fun x4 x5 =>
 (nilV x5 (nilO x3.2
 (some ([.one (.fr (.iss x4))], []))))))))))))) := by kernel_rfl

/-! loop.example/depkernel/impl.RedexPlaces -/
theorem E_impl_RedexPlaces (n : Nat) (v0 : Int) (v1 : Int) (v2 : List T) : FF (n + 1) 51 [.agg [.int .i64 v0, .int .i64 v1, .fr (.ts v2)]] [] =
 ((FF n 63 [.agg [.int .i64 v0, .int .i64 v1, .fr (.ts v2)]] []).bind fun x0 =>
 (rBool x0.1 fun x1 x2 =>
 (nilV x2 (nilO x0.2
 ((cond ((!x1))
 (some ([.one (.fr (.iss []))], []))
 (((FF n 80 [.agg [.int .i64 v0, .int .i64 v1, .fr (.ts v2)], .one (.emp none), .one (.fn 83 [])] []).bind fun x3 =>
 (rIss x3.1 fun x4 x5 =>
 (nilV x5 (nilO x3.2
 (some ([.one (.fr (.iss x4))], []))))))))))))) := by kernel_rfl

/-! loop.example/depkernel/spec.ContextAt -/
noncomputable def L_spec_ContextAt_0 (n c : Nat) (v0 : List T) (v1 : List Int) (v2 : Int) (v3 : Int) (v4 : Int) (v5 : List T) (v6 : List T) : OR := runLoop Try.prog SS n 52 0 [1, 1, 1, 1, 0, 1, 0] [] c ⟨[.v (.one (.fr (.ts v0))), .v (.one (.any)), .v (.one (.fr (.is v1))), .v (.one (.any)), .v (.one (.ptr 0 0)), .v (.one (.any)), .v (.one (.any)), .v (.one (.any)), .v (.one (.any)), .v (.one (.any)), .v (.one (.own 1 0)), .v (.one (.int .i64 v2)), .v (.one (.any)), .v (.one (.any)), .v (.one (.any)), .v (.one (.any)), .v (.one (.any)), .v (.one (.any)), .v (.one (.any)), .v (.one (.any)), .v (.one (.any)), .v (.one (.any)), .v (.one (.any)), .v (.one (.any)), .v (.one (.any)), .v (.one (.any)), .v (.one (.any)), .v (.one (.any)), .v (.one (.any)), .v (.one (.any)), .v (.one (.any)), .v (.one (.any)), .v (.one (.any)), .v (.one (.any)), .v (.one (.any)), .v (.one (.any)), .v (.one (.any)), .v (.one (.any)), .v (.one (.any)), .v (.one (.any)), .v (.one (.any)), .v (.one (.any)), .v (.one (.any)), .v (.one (.any)), .v (.one (.any)), .v (.one (.any)), .v (.one (.any)), .v (.one (.any)), .v (.one (.any)), .v (.one (.any)), .v (.one (.any)), .v (.one (.any)), .v (.one (.any)), .v (.one (.any)), .v (.one (.any)), .v (.one (.any)), .v (.one (.any)), .v (.one (.any)), .v (.one (.any)), .v (.one (.any)), .v (.one (.any)), .v (.one (.any)), .v (.one (.any)), .v (.one (.any)), .v (.one (.any)), .v (.one (.any)), .v (.one (.any)), .v (.one (.any)), .v (.one (.any)), .v (.one (.any)), .v (.one (.any)), .v (.one (.any)), .v (.one (.any)), .v (.one (.any)), .v (.one (.any)), .v (.one (.any))],
  [.cells [.int .i64 v3, .int .i64 v4, .fr (.ts v5)], .arr 33 (.ts v6) 0 false]⟩
noncomputable def L_spec_ContextAt_2 (n c : Nat) (v0 : List Int) (v1 : Int) (v2 : Int) (v3 : Int) (v4 : List T) (v5 : List T) : OR := runLoop Try.prog SS n 52 0 [1, 1, 1, 1, 1, 0, 1, 0] [] c ⟨[.v (.one (.any)), .v (.one (.any)), .v (.one (.fr (.is v0))), .v (.one (.any)), .v (.one (.ptr 0 0)), .v (.one (.any)), .v (.one (.any)), .v (.one (.any)), .v (.one (.any)), .v (.one (.any)), .v (.one (.own 1 0)), .v (.one (.any)), .v (.one (.int .i64 v1)), .v (.one (.any)), .v (.one (.any)), .v (.one (.any)), .v (.one (.any)), .v (.one (.any)), .v (.one (.any)), .v (.one (.any)), .v (.one (.any)), .v (.one (.any)), .v (.one (.any)), .v (.one (.any)), .v (.one (.any)), .v (.one (.any)), .v (.one (.any)), .v (.one (.any)), .v (.one (.any)), .v (.one (.any)), .v (.one (.any)), .v (.one (.any)), .v (.one (.any)), .v (.one (.any)), .v (.one (.any)), .v (.one (.any)), .v (.one (.any)), .v (.one (.any)), .v (.one (.any)), .v (.one (.any)), .v (.one (.any)), .v (.one (.any)), .v (.one (.any)), .v (.one (.any)), .v (.one (.any)), .v (.one (.any)), .v (.one (.any)), .v (.one (.any)), .v (.one (.any)), .v (.one (.any)), .v (.one (.any)), .v (.one (.any)), .v (.one (.any)), .v (.one (.any)), .v (.one (.any)), .v (.one (.any)), .v (.one (.any)), .v (.one (.any)), .v (.one (.any)), .v (.one (.any)), .v (.one (.any)), .v (.one (.any)), .v (.one (.any)), .v (.one (.any)), .v (.one (.any)), .v (.one (.any)), .v (.one (.any)), .v (.one (.any)), .v (.one (.any)), .v (.one (.any)), .v (.one (.any)), .v (.one (.any)), .v (.one (.any)), .v (.one (.any)), .v (.one (.any)), .v (.one (.any))],
  [.cells [.int .i64 v2, .int .i64 v3, .fr (.ts v4)], .arr 33 (.ts v5) 0 false]⟩
theorem L_spec_ContextAt_0_eq (n c : Nat) (v0 : List T) (v1 : List Int) (v2 : Int) (v3 : Int) (v4 : Int) (v5 : List T) (v6 : List T) : L_spec_ContextAt_0 n (c + 1) v0 v1 v2 v3 v4 v5 v6 =
 (cond ((decide (v2 < ((v0).length : Int))))
 ((cond (decide (0 ≤ v2))
 (((v0)[(v2 : Int).toNat]?.bind fun x0 =>
 ((FF n 62 [.agg [.int .i64 (x0).k, .int .i64 (x0).n, .fr (.ts (x0).kids)]] []).bind fun x1 =>
 (rOwnT 0 x1.1 fun x2 x3 x4 =>
 (arrTsC 33 x1.2 fun x5 x6 =>
 (nilV x4 (nilO x6
 ((cond (roomB (v6 ++ [(T.mk x2 x3 x5)]).length)
 (L_spec_ContextAt_0 n c (v0 : List T) (v1 : List Int) ((IntKind.i64.wrap (v2 + 1)) : Int) (v3 : Int) (v4 : Int) (v5 : List T) ((v6 ++ [(T.mk x2 x3 x5)]) : List T))
 (none))))))))))
 (none)))
 (L_spec_ContextAt_2 n n (v1 : List Int) (0 : Int) (v3 : Int) (v4 : Int) (v5 : List T) (v6 : List T))) := by kernel_rfl
theorem L_spec_ContextAt_2_eq (n c : Nat) (v0 : List Int) (v1 : Int) (v2 : Int) (v3 : Int) (v4 : List T) (v5 : List T) : L_spec_ContextAt_2 n (c + 1) v0 v1 v2 v3 v4 v5 =
 (cond ((decide (v1 < ((v0).length : Int))))
 ((cond (decide (0 ≤ v1))
 (((v0)[(v1 : Int).toNat]?.bind fun x0 =>
 ((FF n 85 [.one (.int .i64 v2), .one (.int .i64 x0)] []).bind fun x1 =>
 (rBool x1.1 fun x2 x3 =>
 (nilV x3 (nilO x1.2
 ((cond (x2)
 (((v4)[(0 : Int).toNat]?.bind fun x4 =>
 ((FF n 62 [.agg [.int .i64 (x4).k, .int .i64 (x4).n, .fr (.ts (x4).kids)]] []).bind fun x5 =>
 (rOwnT 0 x5.1 fun x6 x7 x8 =>
 (arrTsC 33 x5.2 fun x9 x10 =>
 (nilV x8 (nilO x10
 ((cond (roomB (v5 ++ [(T.mk x6 x7 x9)]).length)
 ((cond (decide (0 ≤ v1))
 (((v0)[(v1 : Int).toNat]?.bind fun x11 =>
 (cond (decide (0 ≤ x11))
 (((v4)[(x11 : Int).toNat]?.bind fun x12 =>
 L_spec_ContextAt_2 n c (v0 : List Int) ((IntKind.i64.wrap (v1 + 1)) : Int) ((x12).k : Int) ((x12).n : Int) ((x12).kids : List T) ((v5 ++ [(T.mk x6 x7 x9)]) : List T)))
 (none))))
 (none)))
 (none))))))))))
 ((cond (decide (0 ≤ v1))
 (((v0)[(v1 : Int).toNat]?.bind fun x4 =>
 (cond (decide (0 ≤ x4))
 (((v4)[(x4 : Int).toNat]?.bind fun x5 =>
 L_spec_ContextAt_2 n c (v0 : List Int) ((IntKind.i64.wrap (v1 + 1)) : Int) ((x5).k : Int) ((x5).n : Int) ((x5).kids : List T) (v5 : List T)))
 (none))))
 (none)))))))))))
 (none)))
 ((cond ((decide (8 < ((v5).length : Int))))
 (some ([.one (.fr (.ts [])), .one (.bool false)], []))
 (some ([.one (.fr (.ts v5)), .one (.bool true)], []))))) := by kernel_rfl
theorem E_spec_ContextAt (n : Nat) (v0 : List T) (v1 : Int) (v2 : Int) (v3 : List T) (v4 : List Int) : FF (n + 1) 52 [.one (.fr (.ts v0)), .agg [.int .i64 v1, .int .i64 v2, .fr (.ts v3)], .one (.fr (.is v4))] [] =
 ((FF n 42 [.agg [.int .i64 v1, .int .i64 v2, .fr (.ts v3)], .one (.fr (.is v4))] []).bind fun x0 =>
 (rTerm x0.1 fun x1 x2 =>
 (rBool x2 fun x3 x4 =>
 (nilV x4 (nilO x0.2
 ((cond ((!x3))
 (some ([.one (.fr (.ts [])), .one (.bool false)], []))
 (((FF n 70 [.one (.fr (.ts v0))] []).bind fun x5 =>
 (rBool x5.1 fun x6 x7 =>
 (nilV x7 (nilO x5.2
 ((cond ((!x6))
 (some ([.one (.fr (.ts [])), .one (.bool false)], []))
 (L_spec_ContextAt_0 n n (v0 : List T) (v4 : List Int) (0 : Int) (v1 : Int) (v2 : Int) (v3 : List T) ([] : List T)))))))))))))))) := by kernel_rfl

/-! loop.example/depkernel/impl.ContextAt -/
theorem E_impl_ContextAt (n : Nat) (v0 : List T) (v1 : Int) (v2 : Int) (v3 : List T) (v4 : List Int) : FF (n + 1) 53 [.one (.fr (.ts v0)), .agg [.int .i64 v1, .int .i64 v2, .fr (.ts v3)], .one (.fr (.is v4))] [] =
 ((FF n 63 [.agg [.int .i64 v1, .int .i64 v2, .fr (.ts v3)]] []).bind fun x0 =>
 (rBool x0.1 fun x1 x2 =>
 (nilV x2 (nilO x0.2
 ((cond ((!x1))
 (some ([.one (.fr (.ts [])), .one (.bool false)], []))
 (((FF n 73 [.one (.fr (.ts v0))] []).bind fun x3 =>
 (rBool x3.1 fun x4 x5 =>
 (nilV x5 (nilO x3.2
 ((cond ((!x4))
 (some ([.one (.fr (.ts [])), .one (.bool false)], []))
 (((FF n 69 [.agg [.int .i64 v1, .int .i64 v2, .fr (.ts v3)], .one (.fr (.is v4))] []).bind fun x6 =>
 (rTerm x6.1 fun x7 x8 =>
 (rTs x8 fun x9 x10 =>
 (rBool x10 fun x11 x12 =>
 (nilV x12 (nilO x6.2
 ((cond ((!x11))
 (some ([.one (.fr (.ts [])), .one (.bool false)], []))
 ((cond ((decide (8 < (IntKind.i64.wrap (((v0).length : Int) + ((x9).length : Int))))))
 (some ([.one (.fr (.ts [])), .one (.bool false)], []))
 (((FF n 86 [.one (.fr (.ts v0))] []).bind fun x13 =>
 (rTs x13.1 fun x14 x15 =>
 (nilV x15 (nilO x13.2
 (((FF n 86 [.one (.fr (.ts x9))] []).bind fun x16 =>
 (rTs x16.1 fun x17 x18 =>
 (nilV x18 (nilO x16.2
 (none))))))))))))))))))))))))))))))))))) := by kernel_rfl

/-! loop.example/depkernel/spec.PutAt -/
theorem E_spec_PutAt (n : Nat) (v0 : Int) (v1 : Int) (v2 : List T) (v3 : List Int) (v4 : Int) (v5 : Int) (v6 : List T) : FF (n + 1) 54 [.agg [.int .i64 v0, .int .i64 v1, .fr (.ts v2)], .one (.fr (.is v3)), .agg [.int .i64 v4, .int .i64 v5, .fr (.ts v6)]] [] =
 ((FF n 42 [.agg [.int .i64 v0, .int .i64 v1, .fr (.ts v2)], .one (.fr (.is v3))] []).bind fun x0 =>
 (rTerm x0.1 fun x1 x2 =>
 (rBool x2 fun x3 x4 =>
 (nilV x4 (nilO x0.2
 ((cond ((!x3))
 (some ([.agg [.int .i64 0, .int .i64 0, .fr (.ts [])], .one (.bool false)], []))
 (((FF n 61 [.agg [.int .i64 v4, .int .i64 v5, .fr (.ts v6)]] []).bind fun x5 =>
 (rBool x5.1 fun x6 x7 =>
 (nilV x7 (nilO x5.2
 ((cond ((!x6))
 (some ([.agg [.int .i64 0, .int .i64 0, .fr (.ts [])], .one (.bool false)], []))
 (((FF n 87 [.agg [.int .i64 v0, .int .i64 v1, .fr (.ts v2)], .one (.fr (.is v3)), .agg [.int .i64 v4, .int .i64 v5, .fr (.ts v6)]] []).bind fun x8 =>
 (rTerm x8.1 fun x9 x10 =>
 (nilV x10 (nilO x8.2
 (((FF n 72 [.agg [.int .i64 (x9).k, .int .i64 (x9).n, .fr (.ts (x9).kids)]] []).bind fun x11 =>
 (rTerm x11.1 fun x12 x13 =>
 (rBool x13 fun x14 x15 =>
 (nilV x15 (nilO x11.2
 (some ([.agg [.int .i64 (x12).k, .int .i64 (x12).n, .fr (.ts (x12).kids)], .one (.bool x14)], []))))))))))))))))))))))))))) := by kernel_rfl

/-! loop.example/depkernel/impl.PutAt -/
theorem E_impl_PutAt (n : Nat) (v0 : Int) (v1 : Int) (v2 : List T) (v3 : List Int) (v4 : Int) (v5 : Int) (v6 : List T) : FF (n + 1) 55 [.agg [.int .i64 v0, .int .i64 v1, .fr (.ts v2)], .one (.fr (.is v3)), .agg [.int .i64 v4, .int .i64 v5, .fr (.ts v6)]] [] =
 ((FF n 63 [.agg [.int .i64 v0, .int .i64 v1, .fr (.ts v2)]] []).bind fun x0 =>
 (rBool x0.1 fun x1 x2 =>
 (nilV x2 (nilO x0.2
 ((cond ((!x1))
 (some ([.agg [.int .i64 0, .int .i64 0, .fr (.ts [])], .one (.bool false)], []))
 (((FF n 63 [.agg [.int .i64 v4, .int .i64 v5, .fr (.ts v6)]] []).bind fun x3 =>
 (rBool x3.1 fun x4 x5 =>
 (nilV x5 (nilO x3.2
 ((cond ((!x4))
 (some ([.agg [.int .i64 0, .int .i64 0, .fr (.ts [])], .one (.bool false)], []))
 (((FF n 69 [.agg [.int .i64 v0, .int .i64 v1, .fr (.ts v2)], .one (.fr (.is v3))] []).bind fun x6 =>
 (rTerm x6.1 fun x7 x8 =>
 (rTs x8 fun x9 x10 =>
 (rBool x10 fun x11 x12 =>
 (nilV x12 (nilO x6.2
 ((cond ((!x11))
 (some ([.agg [.int .i64 0, .int .i64 0, .fr (.ts [])], .one (.bool false)], []))
 (((FF n 88 [.agg [.int .i64 v0, .int .i64 v1, .fr (.ts v2)], .one (.fr (.is v3)), .agg [.int .i64 v4, .int .i64 v5, .fr (.ts v6)]] []).bind fun x13 =>
 (rTerm x13.1 fun x14 x15 =>
 (nilV x15 (nilO x13.2
 (((FF n 64 [.agg [.int .i64 (x14).k, .int .i64 (x14).n, .fr (.ts (x14).kids)]] []).bind fun x16 =>
 (rTerm x16.1 fun x17 x18 =>
 (nilV x18 (nilO x16.2
 (((FF n 75 [.agg [.int .i64 (x17).k, .int .i64 (x17).n, .fr (.ts (x17).kids)]] []).bind fun x19 =>
 (rTerm x19.1 fun x20 x21 =>
 (rBool x21 fun x22 x23 =>
 (nilV x23 (nilO x19.2
 (some ([.agg [.int .i64 (x20).k, .int .i64 (x20).n, .fr (.ts (x20).kids)], .one (.bool x22)], [])))))))))))))))))))))))))))))))))))))))) := by kernel_rfl

/-! loop.example/depkernel/spec.ContractAt -/
theorem E_spec_ContractAt (n : Nat) (v0 : Int) (v1 : Int) (v2 : List T) (v3 : List Int) : FF (n + 1) 56 [.agg [.int .i64 v0, .int .i64 v1, .fr (.ts v2)], .one (.fr (.is v3))] [] =
 ((FF n 42 [.agg [.int .i64 v0, .int .i64 v1, .fr (.ts v2)], .one (.fr (.is v3))] []).bind fun x0 =>
 (rTerm x0.1 fun x1 x2 =>
 (rBool x2 fun x3 x4 =>
 (nilV x4 (nilO x0.2
 ((cond ((!x3))
 (some ([.agg [.int .i64 0, .int .i64 0, .fr (.ts [])], .one (.bool false)], []))
 (((FF n 89 [.agg [.int .i64 (x1).k, .int .i64 (x1).n, .fr (.ts (x1).kids)]] []).bind fun x5 =>
 (rInt .i64 x5.1 fun x6 x7 =>
 (nilV x7 (nilO x5.2
 ((cond ((decide (x6 = 0)))
 (some ([.agg [.int .i64 0, .int .i64 0, .fr (.ts [])], .one (.bool false)], []))
 (((FF n 90 [.agg [.int .i64 (x1).k, .int .i64 (x1).n, .fr (.ts (x1).kids)]] []).bind fun x8 =>
 (rTerm x8.1 fun x9 x10 =>
 (nilV x10 (nilO x8.2
 (((FF n 87 [.agg [.int .i64 v0, .int .i64 v1, .fr (.ts v2)], .one (.fr (.is v3)), .agg [.int .i64 (x9).k, .int .i64 (x9).n, .fr (.ts (x9).kids)]] []).bind fun x11 =>
 (rTerm x11.1 fun x12 x13 =>
 (nilV x13 (nilO x11.2
 (((FF n 72 [.agg [.int .i64 (x12).k, .int .i64 (x12).n, .fr (.ts (x12).kids)]] []).bind fun x14 =>
 (rTerm x14.1 fun x15 x16 =>
 (rBool x16 fun x17 x18 =>
 (nilV x18 (nilO x14.2
 (some ([.agg [.int .i64 (x15).k, .int .i64 (x15).n, .fr (.ts (x15).kids)], .one (.bool x17)], [])))))))))))))))))))))))))))))))) := by kernel_rfl

/-! loop.example/depkernel/impl.ContractAt -/
theorem E_impl_ContractAt (n : Nat) (v0 : Int) (v1 : Int) (v2 : List T) (v3 : List Int) : FF (n + 1) 57 [.agg [.int .i64 v0, .int .i64 v1, .fr (.ts v2)], .one (.fr (.is v3))] [] =
 ((FF n 63 [.agg [.int .i64 v0, .int .i64 v1, .fr (.ts v2)]] []).bind fun x0 =>
 (rBool x0.1 fun x1 x2 =>
 (nilV x2 (nilO x0.2
 ((cond ((!x1))
 (some ([.agg [.int .i64 0, .int .i64 0, .fr (.ts [])], .one (.bool false)], []))
 (((FF n 69 [.agg [.int .i64 v0, .int .i64 v1, .fr (.ts v2)], .one (.fr (.is v3))] []).bind fun x3 =>
 (rTerm x3.1 fun x4 x5 =>
 (rTs x5 fun x6 x7 =>
 (rBool x7 fun x8 x9 =>
 (nilV x9 (nilO x3.2
 ((cond ((!x8))
 (some ([.agg [.int .i64 0, .int .i64 0, .fr (.ts [])], .one (.bool false)], []))
 (((FF n 84 [.agg [.int .i64 (x4).k, .int .i64 (x4).n, .fr (.ts (x4).kids)]] []).bind fun x10 =>
 (rInt .i64 x10.1 fun x11 x12 =>
 (nilV x12 (nilO x10.2
 ((cond ((decide (x11 = 0)))
 (some ([.agg [.int .i64 0, .int .i64 0, .fr (.ts [])], .one (.bool false)], []))
 (((FF n 91 [.agg [.int .i64 v0, .int .i64 v1, .fr (.ts v2)], .one (.fr (.is v3))] []).bind fun x13 =>
 (rTerm x13.1 fun x14 x15 =>
 (rBool x15 fun x16 x17 =>
 (nilV x17 (nilO x13.2
 (some ([.agg [.int .i64 (x14).k, .int .i64 (x14).n, .fr (.ts (x14).kids)], .one (.bool x16)], [])))))))))))))))))))))))))))))) := by kernel_rfl

/-! loop.example/depkernel/laws.szTerm -/
theorem E_laws_szTerm (n : Nat) (v0 : Int) (v1 : Int) (v2 : List T) (v3 : Int) : FF (n + 1) 21 [.agg [.int .i64 v0, .int .i64 v1, .fr (.ts v2)], .one (.int .i64 v3)] [] =
 ((FF n 34 [.one (.fr (.ts v2)), .one (.int .i64 v3)] []).bind fun x0 =>
 (rInt .i64 x0.1 fun x1 x2 =>
 (nilV x2 (nilO x0.2
 ((cond ((decide (x1 < 0)))
 (some ([.one (.int .i64 (-1))], []))
 (some ([.one (.int .i64 x1)], [])))))))) := by kernel_rfl

/-! loop.example/depkernel/laws.toTerm -/
theorem E_laws_toTerm (n : Nat) (v0 : Int) (v1 : Int) (v2 : List T) : FF (n + 1) 23 [.agg [.int .i64 v0, .int .i64 v1, .fr (.ts v2)]] [] =
 ((FF n 36 [.one (.fr (.ts v2))] []).bind fun x0 =>
 (rTs x0.1 fun x1 x2 =>
 (nilV x2 (nilO x0.2
 (some ([.agg [.int .i64 v0, .int .i64 v1, .fr (.ts x1)]], [])))))) := by kernel_rfl

/-! loop.example/depkernel/laws.toIntS -/
noncomputable def L_laws_toIntS_0 (n c : Nat) (v0 : List Int) (v1 : Int) (v2 : List Int) : OR := runLoop Try.prog SS n 31 0 [1, 1, 0, 1, 0] [] c ⟨[.v (.one (.fr (.is v0))), .v (.one (.any)), .v (.one (.any)), .v (.one (.own 0 0)), .v (.one (.int .i64 v1)), .v (.one (.any)), .v (.one (.any)), .v (.one (.any)), .v (.one (.any)), .v (.one (.any)), .v (.one (.any)), .v (.one (.any)), .v (.one (.any)), .v (.one (.any)), .v (.one (.any)), .v (.one (.any)), .v (.one (.any)), .v (.one (.any)), .v (.one (.any)), .v (.one (.any)), .v (.one (.any)), .v (.one (.any))],
  [.arr 3 (.is v2) 0 false]⟩
theorem L_laws_toIntS_0_eq (n c : Nat) (v0 : List Int) (v1 : Int) (v2 : List Int) : L_laws_toIntS_0 n (c + 1) v0 v1 v2 =
 (cond ((decide (v1 < ((v0).length : Int))))
 ((cond (decide (0 ≤ v1))
 (((v0)[(v1 : Int).toNat]?.bind fun x0 =>
 (cond (decide (0 ≤ v1))
 ((cond (decide (v1 < ((v2).length : Int)))
 (L_laws_toIntS_0 n c (v0 : List Int) ((IntKind.i64.wrap (v1 + 1)) : Int) (((v2).set (v1 : Int).toNat x0) : List Int))
 (none)))
 (none))))
 (none)))
 (some ([.one (.fr (.is v2))], []))) := by kernel_rfl
theorem E_laws_toIntS (n : Nat) (v0 : List Int) : FF (n + 1) 31 [.one (.fr (.is v0))] [] =
 (cond (decide (((v0).length : Int) = ((v0).length : Int)) && (decide (0 ≤ ((v0).length : Int)) && decide (((v0).length : Int) ≤ 4194304)))
 (L_laws_toIntS_0 n n (v0 : List Int) (0 : Int) ((List.replicate (((v0).length : Int) : Int).toNat (0 : Int)) : List Int))
 (none)) := by kernel_rfl

/-! loop.example/depkernel/spec.BindersAt -/
noncomputable def L_spec_BindersAt_0 (n c : Nat) (v0 : List Int) (v1 : Int) (v2 : Int) (v3 : Int) (v4 : Int) (v5 : List T) : OR := runLoop Try.prog SS n 30 0 [1, 1, 1, 1, 0, 1, 0] [] c ⟨[.v (.one (.any)), .v (.one (.fr (.is v0))), .v (.one (.ptr 0 0)), .v (.one (.any)), .v (.one (.any)), .v (.one (.any)), .v (.one (.any)), .v (.one (.any)), .v (.one (.int .i64 v1)), .v (.one (.int .i64 v2)), .v (.one (.any)), .v (.one (.any)), .v (.one (.any)), .v (.one (.any)), .v (.one (.any)), .v (.one (.any)), .v (.one (.any)), .v (.one (.any)), .v (.one (.any)), .v (.one (.any)), .v (.one (.any)), .v (.one (.any)), .v (.one (.any)), .v (.one (.any)), .v (.one (.any)), .v (.one (.any)), .v (.one (.any)), .v (.one (.any)), .v (.one (.any)), .v (.one (.any)), .v (.one (.any)), .v (.one (.any)), .v (.one (.any)), .v (.one (.any)), .v (.one (.any)), .v (.one (.any)), .v (.one (.any)), .v (.one (.any)), .v (.one (.any)), .v (.one (.any)), .v (.one (.any)), .v (.one (.any))],
  [.cells [.int .i64 v3, .int .i64 v4, .fr (.ts v5)]]⟩
theorem L_spec_BindersAt_0_eq (n c : Nat) (v0 : List Int) (v1 : Int) (v2 : Int) (v3 : Int) (v4 : Int) (v5 : List T) : L_spec_BindersAt_0 n (c + 1) v0 v1 v2 v3 v4 v5 =
 (cond ((decide (v2 < ((v0).length : Int))))
 ((cond (decide (0 ≤ v2))
 (((v0)[(v2 : Int).toNat]?.bind fun x0 =>
 ((FF n 68 [.one (.int .i64 v3), .one (.int .i64 x0)] []).bind fun x1 =>
 (rInt .i64 x1.1 fun x2 x3 =>
 (nilV x3 (nilO x1.2
 ((cond (decide (0 ≤ v2))
 (((v0)[(v2 : Int).toNat]?.bind fun x4 =>
 (cond (decide (0 ≤ x4))
 (((v5)[(x4 : Int).toNat]?.bind fun x5 =>
 L_spec_BindersAt_0 n c (v0 : List Int) ((IntKind.i64.wrap (v1 + x2)) : Int) ((IntKind.i64.wrap (v2 + 1)) : Int) ((x5).k : Int) ((x5).n : Int) ((x5).kids : List T)))
 (none))))
 (none)))))))))
 (none)))
 (some ([.one (.int .i64 v1), .one (.bool true)], []))) := by kernel_rfl
theorem E_spec_BindersAt (n : Nat) (v0 : Int) (v1 : Int) (v2 : List T) (v3 : List Int) : FF (n + 1) 30 [.agg [.int .i64 v0, .int .i64 v1, .fr (.ts v2)], .one (.fr (.is v3))] [] =
 ((FF n 42 [.agg [.int .i64 v0, .int .i64 v1, .fr (.ts v2)], .one (.fr (.is v3))] []).bind fun x0 =>
 (rTerm x0.1 fun x1 x2 =>
 (rBool x2 fun x3 x4 =>
 (nilV x4 (nilO x0.2
 ((cond ((!x3))
 (some ([.one (.int .i64 0), .one (.bool false)], []))
 (L_spec_BindersAt_0 n n (v3 : List Int) (0 : Int) (0 : Int) (v0 : Int) (v1 : Int) (v2 : List T))))))))) := by kernel_rfl

/-! loop.example/depkernel/impl.BindersAt -/
theorem E_impl_BindersAt (n : Nat) (v0 : Int) (v1 : Int) (v2 : List T) (v3 : List Int) : FF (n + 1) 32 [.agg [.int .i64 v0, .int .i64 v1, .fr (.ts v2)], .one (.fr (.is v3))] [] =
 ((FF n 63 [.agg [.int .i64 v0, .int .i64 v1, .fr (.ts v2)]] []).bind fun x0 =>
 (rBool x0.1 fun x1 x2 =>
 (nilV x2 (nilO x0.2
 ((cond ((!x1))
 (some ([.one (.int .i64 0), .one (.bool false)], []))
 (((FF n 69 [.agg [.int .i64 v0, .int .i64 v1, .fr (.ts v2)], .one (.fr (.is v3))] []).bind fun x3 =>
 (rTerm x3.1 fun x4 x5 =>
 (rTs x5 fun x6 x7 =>
 (rBool x7 fun x8 x9 =>
 (nilV x9 (nilO x3.2
 (some ([.one (.int .i64 ((x6).length : Int)), .one (.bool x8)], []))))))))))))))) := by kernel_rfl

/-! loop.example/depkernel/laws.eqTerm -/
theorem E_laws_eqTerm (n : Nat) (v0 : Int) (v1 : Int) (v2 : List T) (v3 : Int) (v4 : Int) (v5 : List T) : FF (n + 1) 25 [.agg [.int .i64 v0, .int .i64 v1, .fr (.ts v2)], .agg [.int .i64 v3, .int .i64 v4, .fr (.ts v5)]] [] =
 (cond ((!decide (v0 = v3)))
 (some ([.one (.bool false)], []))
 ((cond ((!decide (v1 = v4)))
 (some ([.one (.bool false)], []))
 (((FF n 18 [.one (.fr (.ts v2)), .one (.fr (.ts v5))] []).bind fun x0 =>
 (rBool x0.1 fun x1 x2 =>
 (nilV x2 (nilO x0.2
 ((cond ((!x1))
 (some ([.one (.bool false)], []))
 (some ([.one (.bool true)], [])))))))))))) := by kernel_rfl

/-! loop.example/depkernel/laws.eqIntS -/
noncomputable def L_laws_eqIntS_0 (n c : Nat) (v0 : List Int) (v1 : List Int) (v2 : Int) : OR := runLoop Try.prog SS n 33 0 [1, 1, 0, 1, 0] [] c ⟨[.v (.one (.fr (.is v0))), .v (.one (.fr (.is v1))), .v (.one (.any)), .v (.one (.any)), .v (.one (.any)), .v (.one (.int .i64 v2)), .v (.one (.any)), .v (.one (.any)), .v (.one (.any)), .v (.one (.any)), .v (.one (.any)), .v (.one (.any)), .v (.one (.any)), .v (.one (.any)), .v (.one (.any)), .v (.one (.any)), .v (.one (.any)), .v (.one (.any)), .v (.one (.any)), .v (.one (.any)), .v (.one (.any)), .v (.one (.any)), .v (.one (.any)), .v (.one (.any)), .v (.one (.any)), .v (.one (.any))],
  []⟩
theorem L_laws_eqIntS_0_eq (n c : Nat) (v0 : List Int) (v1 : List Int) (v2 : Int) : L_laws_eqIntS_0 n (c + 1) v0 v1 v2 =
 (cond ((decide (v2 < ((v0).length : Int))))
 ((cond (decide (0 ≤ v2))
 (((v0)[(v2 : Int).toNat]?.bind fun x0 =>
 (cond (decide (0 ≤ v2))
 (((v1)[(v2 : Int).toNat]?.bind fun x1 =>
 (cond ((!decide (x0 = x1)))
 (some ([.one (.bool false)], []))
 (L_laws_eqIntS_0 n c (v0 : List Int) (v1 : List Int) ((IntKind.i64.wrap (v2 + 1)) : Int)))))
 (none))))
 (none)))
 (some ([.one (.bool true)], []))) := by kernel_rfl
theorem E_laws_eqIntS (n : Nat) (v0 : List Int) (v1 : List Int) : FF (n + 1) 33 [.one (.fr (.is v0)), .one (.fr (.is v1))] [] =
 (cond ((!decide (((v0).length : Int) = ((v1).length : Int))))
 (some ([.one (.bool false)], []))
 (L_laws_eqIntS_0 n n (v0 : List Int) (v1 : List Int) (0 : Int))) := by kernel_rfl

/-! loop.example/depkernel/spec.l1Leaf -/
theorem E_spec_l1Leaf (n : Nat) (v0 : Int) (v1 : Int) : FF (n + 1) 58 [.one (.int .i64 v0), .one (.int .i64 v1)] [] =
 some ([.agg [.int .i64 v0, .int .i64 v1, .fr (.ts [])]], []) := by kernel_rfl

/-! loop.example/depkernel/impl.within -/
theorem E_impl_within (n : Nat) (v0 : Int) (v1 : Int) (v2 : Int) : FF (n + 1) 59 [.one (.int .i64 v0), .one (.int .i64 v1), .one (.int .i64 v2)] [] =
 (cond ((decide (v1 ≤ v0)))
 (some ([.one (.bool (decide (v0 ≤ v2)))], []))
 (some ([.one (.bool false)], []))) := by kernel_rfl

/-! loop.example/depkernel/impl.variable -/
theorem E_impl_variable (n : Nat) (v0 : Int) : FF (n + 1) 60 [.one (.int .i64 v0)] [] =
 some ([.agg [.int .i64 1, .int .i64 v0, .fr (.ts [])]], []) := by kernel_rfl

/-! loop.example/depkernel/spec.TermValid -/
theorem E_spec_TermValid (n : Nat) (v0 : Int) (v1 : Int) (v2 : List T) : FF (n + 1) 61 [.agg [.int .i64 v0, .int .i64 v1, .fr (.ts v2)]] [] =
 ((FF n 92 [.agg [.int .i64 v0, .int .i64 v1, .fr (.ts v2)], .one (.int .i64 30)] []).bind fun x0 =>
 (rBool x0.1 fun x1 x2 =>
 (nilV x2 (nilO x0.2
 ((cond (x1)
 (((FF n 93 [.agg [.int .i64 v0, .int .i64 v1, .fr (.ts v2)], .one (.int .i64 400)] []).bind fun x3 =>
 (rInt .i64 x3.1 fun x4 x5 =>
 (nilV x5 (nilO x3.2
 (some ([.one (.bool (decide (x4 ≤ 400)))], [])))))))
 (some ([.one (.bool false)], [])))))))) := by kernel_rfl

/-! loop.example/depkernel/spec.l1Copy -/
noncomputable def L_spec_l1Copy_0_foo (n c : Nat) (v0 : Int) (v1 : Int) (v2 : Int) (v3 : List T) (v4 : Int) (v5 : Int) (v6 : List T) (v7 : Int) (v8 : Int) (v9 : List T) : OR := runLoop Try.prog SS n 62 0 [1, 1, 0, 1, 0] [] c ⟨[.v (.one (.any)), .v (.one (.ptr 0 0)), .v (.one (.ptr 1 0)), .v (.one (.ptr 3 0)), .v (.one (.int .i64 v0)), .v (.one (.any)), .v (.one (.any)), .v (.one (.any)), .v (.one (.any)), .v (.one (.any)), .v (.one (.any)), .v (.one (.any)), .v (.one (.any)), .v (.one (.any)), .v (.one (.any)), .v (.one (.any)), .v (.one (.any)), .v (.one (.any)), .v (.one (.any)), .v (.one (.any)), .v (.one (.any)), .v (.one (.any)), .v (.one (.any)), .v (.one (.any)), .v (.one (.any)), .v (.one (.any)), .v (.one (.any)), .v (.one (.any)), .v (.one (.any))],
  [.cells [.int .i64 v1, .int .i64 v2, .fr (.ts v3)], .cells [.int .i64 v4, .int .i64 v5, .own 2 0], .arr 33 (.ts v6) 0 false, .cells [.int .i64 v7, .int .i64 v8, .own 4 0], .arr 33 (.ts v9) 0 false]⟩
theorem L_spec_l1Copy_0_foo_eq (n c : Nat) (v0 : Int) (v1 : Int) (v2 : Int) (v3 : List T) (v4 : Int) (v5 : Int) (v6 : List T) (v7 : Int) (v8 : Int) (v9 : List T) : L_spec_l1Copy_0_foo n (c + 1) v0 v1 v2 v3 v4 v5 v6 v7 v8 v9 =
 (cond ((decide (v0 < ((v3).length : Int))))
 ((cond (decide (0 ≤ v0))
 (((v3)[(v0 : Int).toNat]?.bind fun x0 =>
 ((FF n 62 [.agg [.int .i64 (x0).k, .int .i64 (x0).n, .fr (.ts (x0).kids)]] []).bind fun x1 =>
 (rOwnT 0 x1.1 fun x2 x3 x4 =>
 (arrTsC 33 x1.2 fun x5 x6 =>
 (nilV x4 (nilO x6
 ((cond (roomB (v9 ++ [(T.mk x2 x3 x5)]).length)
 (L_spec_l1Copy_0_foo n c ((IntKind.i64.wrap (v0 + 1)) : Int) (v1 : Int) (v2 : Int) (v3 : List T) (v4 : Int) (v5 : Int) (v6 : List T) (v7 : Int) (v8 : Int) ((v9 ++ [(T.mk x2 x3 x5)]) : List T))
 (none))))))))))
 (none)))
 (some ([.agg [.int .i64 v7, .int .i64 v8, .own 0 0]], [.arr 33 (.ts v9) 0 false]))) := by kernel_rfl
theorem E_spec_l1Copy (n : Nat) (v0 : Int) (v1 : Int) (v2 : List T) : FF (n + 1) 62 [.agg [.int .i64 v0, .int .i64 v1, .fr (.ts v2)]] [] =
 L_spec_l1Copy_0_foo n n (0 : Int) (v0 : Int) (v1 : Int) (v2 : List T) (0 : Int) (0 : Int) ([] : List T) (v0 : Int) (v1 : Int) ([] : List T) := by kernel_rfl

/-! loop.example/depkernel/impl.TermValid -/
theorem E_impl_TermValid (n : Nat) (v0 : Int) (v1 : Int) (v2 : List T) : FF (n + 1) 63 [.agg [.int .i64 v0, .int .i64 v1, .fr (.ts v2)]] [] =
 ((FF n 94 [.agg [.int .i64 v0, .int .i64 v1, .fr (.ts v2)], .one (.int .i64 1), .one (.ptr 0 0)] [.cells [.int .i64 0]]).bind fun x0 =>
 (objC x0.2 fun x1 x2 =>
 (intC .i64 x1 fun x3 x4 =>
 (nilC x4
 ((rBool x0.1 fun x5 x6 =>
 (nilV x6 (nilO x2
 (some ([.one (.bool x5)], [])))))))))) := by kernel_rfl

/-! loop.example/depkernel/impl.own -/
noncomputable def L_impl_own_0_oo (n c : Nat) (v0 : List T) (v1 : Int) (v2 : Int) (v3 : Int) (v4 : Int) (v5 : List T) (v6 : Int) (v7 : Int) (v8 : List T) : OR := runLoop Try.prog SS n 64 0 [1, 1, 0, 1, 0] [] c ⟨[.v (.one (.any)), .v (.one (.any)), .v (.one (.ptr 0 0)), .v (.one (.ptr 2 0)), .v (.one (.any)), .v (.one (.any)), .v (.one (.any)), .v (.one (.any)), .v (.one (.any)), .v (.one (.any)), .v (.one (.any)), .v (.one (.any)), .v (.one (.fr (.ts v0))), .v (.one (.int .i64 v1)), .v (.one (.int .i64 v2)), .v (.one (.any)), .v (.one (.any)), .v (.one (.any)), .v (.one (.any)), .v (.one (.any)), .v (.one (.any)), .v (.one (.any)), .v (.one (.any)), .v (.one (.any)), .v (.one (.any)), .v (.one (.any)), .v (.one (.any))],
  [.cells [.int .i64 v3, .int .i64 v4, .own 1 0], .arr 33 (.ts v5) 0 false, .cells [.int .i64 v6, .int .i64 v7, .own 3 0], .arr 33 (.ts v8) 0 false]⟩
theorem L_impl_own_0_oo_eq (n c : Nat) (v0 : List T) (v1 : Int) (v2 : Int) (v3 : Int) (v4 : Int) (v5 : List T) (v6 : Int) (v7 : Int) (v8 : List T) : L_impl_own_0_oo n (c + 1) v0 v1 v2 v3 v4 v5 v6 v7 v8 =
 (cond ((decide (v2 < v1)))
 ((cond (decide (0 ≤ v2))
 (((v0)[(v2 : Int).toNat]?.bind fun x0 =>
 ((FF n 64 [.agg [.int .i64 (x0).k, .int .i64 (x0).n, .fr (.ts (x0).kids)]] []).bind fun x1 =>
 (rTerm x1.1 fun x2 x3 =>
 (nilV x3 (nilO x1.2
 ((cond (roomB (v8 ++ [(T.mk (x2).k (x2).n (x2).kids)]).length)
 (L_impl_own_0_oo n c (v0 : List T) (v1 : Int) ((IntKind.i64.wrap (v2 + 1)) : Int) (v3 : Int) (v4 : Int) (v5 : List T) (v6 : Int) (v7 : Int) ((v8 ++ [(T.mk (x2).k (x2).n (x2).kids)]) : List T))
 (none)))))))))
 (none)))
 (some ([.agg [.int .i64 v6, .int .i64 v7, .fr (.ts v8)]], []))) := by kernel_rfl
theorem E_impl_own (n : Nat) (v0 : Int) (v1 : Int) (v2 : List T) : FF (n + 1) 64 [.agg [.int .i64 v0, .int .i64 v1, .fr (.ts v2)]] [] =
 L_impl_own_0_oo n n (v2 : List T) (((v2).length : Int) : Int) (0 : Int) (0 : Int) (0 : Int) ([] : List T) (v0 : Int) (v1 : Int) ([] : List T) := by kernel_rfl

/-! slices.Reverse[[]loop.example/depkernel/impl.Term,loop.example/depkernel/impl.Term] -/
noncomputable def L_slices_Reverse_0 (n c : Nat) (v0 : List T) (v1 : Int) (v2 : Int) : OR := runLoop Try.prog SS n 65 0 [1, 0] [] c ⟨[.v (.one (.fr (.ts v0))), .v (.one (.any)), .v (.one (.int .i64 v1)), .v (.one (.int .i64 v2)), .v (.one (.any)), .v (.one (.any)), .v (.one (.any)), .v (.one (.any)), .v (.one (.any)), .v (.one (.any)), .v (.one (.any)), .v (.one (.any)), .v (.one (.any)), .v (.one (.any)), .v (.one (.any)), .v (.one (.any)), .v (.one (.any)), .v (.one (.any)), .v (.one (.any)), .v (.one (.any)), .v (.one (.any)), .v (.one (.any)), .v (.one (.any)), .v (.one (.any)), .v (.one (.any)), .v (.one (.any)), .v (.one (.any)), .v (.one (.any))],
  []⟩
theorem L_slices_Reverse_0_eq (n c : Nat) (v0 : List T) (v1 : Int) (v2 : Int) : L_slices_Reverse_0 n (c + 1) v0 v1 v2 =
 (cond ((decide (v1 < v2)))
 ((cond (decide (0 ≤ v2))
 (((v0)[(v2 : Int).toNat]?.bind fun x0 =>
 (cond (decide (0 ≤ v1))
 (((v0)[(v1 : Int).toNat]?.bind fun x1 =>
 (cond (decide (0 ≤ v1))
 (((v0)[(v1 : Int).toNat]?.bind fun x2 =>
 none))
 (none))))
 (none))))
 (none)))
 (some ([], []))) := by kernel_rfl
theorem E_slices_Reverse (n : Nat) (v0 : List T) : FF (n + 1) 65 [.one (.fr (.ts v0))] [] =
 L_slices_Reverse_0 n n (v0 : List T) (0 : Int) ((IntKind.i64.wrap (((v0).length : Int) - 1)) : Int) := by kernel_rfl

end Go.Proofs.Ythjbllfcelkajaa
