/- What the program's functions come to in the abstract run. -/
import Derived.Test.YtmioieikbpemoaaSay
set_option linter.unusedVariables false
namespace Go.Proofs.Ytmioieikbpemoaa
open Go Go.Ab Go.Dk
/-! loop.example/depkernel/spec.DrawApplyAll -/
noncomputable def L_spec_DrawApplyAll_0_off (n c : Nat) (v0 : Int) (v1 : Int) (v2 : Int) (v3 : List T) (v4 : List UInt8) (v5 : Int) (v6 : Int) (v7 : Int) (v8 : List T) (v9 : List T) : OR := runLoop Try.prog SS n 15 0 [1, 1, 1, 1, 0, 1, 0] [] c ⟨[.v (.one (.any)), .v (.one (.any)), .v (.one (.ptr 0 0)), .v (.one (.any)), .v (.one (.ptr 2 0)), .v (.one (.ptr 3 0)), .v (.one (.own 4 0)), .v (.one (.int .i64 v0)), .v (.one (.any)), .v (.one (.any)), .v (.one (.any)), .v (.one (.any)), .v (.one (.any)), .v (.one (.any)), .v (.one (.any)), .v (.one (.any)), .v (.one (.any)), .v (.one (.any)), .v (.one (.any)), .v (.one (.any)), .v (.one (.any)), .v (.one (.any)), .v (.one (.any)), .v (.one (.any)), .v (.one (.any)), .v (.one (.any)), .v (.one (.any)), .v (.one (.any)), .v (.one (.any))],
  [.cells [.int .i64 v1, .int .i64 v2, .own 1 0], .arr 25 (.ts v3) 0 false, .cells [.fr (.bs v4), .int .i64 v5], .cells [.int .i64 v6, .int .i64 v7, .fr (.ts v8)], .arr 25 (.ts v9) 0 false]⟩
theorem L_spec_DrawApplyAll_0_off_eq (n c : Nat) (v0 : Int) (v1 : Int) (v2 : Int) (v3 : List T) (v4 : List UInt8) (v5 : Int) (v6 : Int) (v7 : Int) (v8 : List T) (v9 : List T) : L_spec_DrawApplyAll_0_off n (c + 1) v0 v1 v2 v3 v4 v5 v6 v7 v8 v9 =
 (cond ((decide (0 < v0)))
 (((FF n 47 [.one (.ptr 0 0), .one (.int .i64 2)] [.cells [.fr (.bs v4), .int .i64 v5]]).bind fun x0 =>
 (objC x0.2 fun x1 x2 =>
 (bsC x1 fun x3 x4 =>
 (intC .i64 x4 fun x5 x6 =>
 (nilC x6
 ((rTerm x0.1 fun x7 x8 =>
 (nilV x8 (nilO x2
 ((cond (roomB (v9 ++ [(T.mk (x7).k (x7).n (x7).kids)]).length)
 (L_spec_DrawApplyAll_0_off n c ((IntKind.i64.wrap (v0 - 1)) : Int) (v1 : Int) (v2 : Int) (v3 : List T) (x3 : List UInt8) (x5 : Int) (v6 : Int) (v7 : Int) (v8 : List T) ((v9 ++ [(T.mk (x7).k (x7).n (x7).kids)]) : List T))
 (none)))))))))))))
 (some ([.agg [.int .i64 v6, .int .i64 v7, .fr (.ts v8)], .one (.fr (.ts v9))], []))) := by kernel_rfl
theorem E_spec_DrawApplyAll (n : Nat) (v0 : List UInt8) : FF (n + 1) 15 [.one (.fr (.bs v0))] [] =
 ((FF n 43 [.one (.fr (.bs v0))] []).bind fun x0 =>
 (rPtr 0 x0.1 fun x1 =>
 (objC x0.2 fun x2 x3 =>
 (bsC x2 fun x4 x5 =>
 (intC .i64 x5 fun x6 x7 =>
 (nilC x7
 ((nilV x1 (nilO x3
 (((FF n 45 [.one (.ptr 0 0)] [.cells [.fr (.bs x4), .int .i64 x6]]).bind fun x8 =>
 (objC x8.2 fun x9 x10 =>
 (bsC x9 fun x11 x12 =>
 (intC .i64 x12 fun x13 x14 =>
 (nilC x14
 ((rTerm x8.1 fun x15 x16 =>
 (nilV x16 (nilO x10
 (((FF n 44 [.one (.ptr 0 0), .agg [.int .i64 (x15).k, .int .i64 (x15).n, .fr (.ts (x15).kids)]] [.cells [.fr (.bs x11), .int .i64 x13]]).bind fun x17 =>
 (objC x17.2 fun x18 x19 =>
 (bsC x18 fun x20 x21 =>
 (intC .i64 x21 fun x22 x23 =>
 (nilC x23
 ((rTerm x17.1 fun x24 x25 =>
 (nilV x25 (nilO x19
 (((FF n 46 [.one (.ptr 0 0), .one (.fr (.is [1, 2, 0, 3, 9]))] [.cells [.fr (.bs x20), .int .i64 x22]]).bind fun x26 =>
 (objC x26.2 fun x27 x28 =>
 (bsC x27 fun x29 x30 =>
 (intC .i64 x30 fun x31 x32 =>
 (nilC x32
 ((rInt .i64 x26.1 fun x33 x34 =>
 (nilV x34 (nilO x28
 (L_spec_DrawApplyAll_0_off n n (x33 : Int) (0 : Int) (0 : Int) ([] : List T) (x29 : List UInt8) (x31 : Int) ((x24).k : Int) ((x24).n : Int) ((x24).kids : List T) ([] : List T))))))))))))))))))))))))))))))))))))))))) := by kernel_rfl

/-! loop.example/depkernel/impl.ApplyAll -/
noncomputable def L_impl_ApplyAll_0_of (n c : Nat) (v0 : List T) (v1 : Int) (v2 : Int) (v3 : Int) (v4 : Int) (v5 : List T) (v6 : Int) (v7 : Int) (v8 : List T) : OR := runLoop Try.prog SS n 16 0 [1, 1, 1, 0, 1, 0] [] c ⟨[.v (.one (.any)), .v (.one (.any)), .v (.one (.any)), .v (.one (.any)), .v (.one (.ptr 0 0)), .v (.one (.any)), .v (.one (.ptr 2 0)), .v (.one (.any)), .v (.one (.any)), .v (.one (.any)), .v (.one (.any)), .v (.one (.any)), .v (.one (.any)), .v (.one (.any)), .v (.one (.any)), .v (.one (.any)), .v (.one (.any)), .v (.one (.any)), .v (.one (.any)), .v (.one (.fr (.ts v0))), .v (.one (.int .i64 v1)), .v (.one (.int .i64 v2)), .v (.one (.any)), .v (.one (.any)), .v (.one (.any)), .v (.one (.any)), .v (.one (.any)), .v (.one (.any)), .v (.one (.any)), .v (.one (.any)), .v (.one (.any)), .v (.one (.any)), .v (.one (.any)), .v (.one (.any)), .v (.one (.any))],
  [.cells [.int .i64 v3, .int .i64 v4, .own 1 0], .arr 25 (.ts v5) 0 false, .cells [.int .i64 v6, .int .i64 v7, .fr (.ts v8)]]⟩
theorem L_impl_ApplyAll_0_of_eq (n c : Nat) (v0 : List T) (v1 : Int) (v2 : Int) (v3 : Int) (v4 : Int) (v5 : List T) (v6 : Int) (v7 : Int) (v8 : List T) : L_impl_ApplyAll_0_of n (c + 1) v0 v1 v2 v3 v4 v5 v6 v7 v8 =
 (cond ((decide (v2 < v1)))
 ((cond (decide (0 ≤ v2))
 (((v0)[(v2 : Int).toNat]?.bind fun x0 =>
 ((FF n 49 [.one (.int .i64 5), .one (.fr (.ts [(T.mk v6 v7 v8), (T.mk (x0).k (x0).n (x0).kids)]))] []).bind fun x1 =>
 (rTerm x1.1 fun x2 x3 =>
 (nilV x3 (nilO x1.2
 (L_impl_ApplyAll_0_of n c (v0 : List T) (v1 : Int) ((IntKind.i64.wrap (v2 + 1)) : Int) (v3 : Int) (v4 : Int) (v5 : List T) ((x2).k : Int) ((x2).n : Int) ((x2).kids : List T))))))))
 (none)))
 (((FF n 51 [.agg [.int .i64 v6, .int .i64 v7, .fr (.ts v8)]] []).bind fun x0 =>
 (rTerm x0.1 fun x1 x2 =>
 (nilV x2 (nilO x0.2
 (((FF n 50 [.agg [.int .i64 (x1).k, .int .i64 (x1).n, .fr (.ts (x1).kids)]] []).bind fun x3 =>
 (rTerm x3.1 fun x4 x5 =>
 (rBool x5 fun x6 x7 =>
 (nilV x7 (nilO x3.2
 (some ([.agg [.int .i64 (x4).k, .int .i64 (x4).n, .fr (.ts (x4).kids)], .one (.bool x6)], [])))))))))))))) := by kernel_rfl
theorem E_impl_ApplyAll (n : Nat) (v0 : Int) (v1 : Int) (v2 : List T) (v3 : List T) : FF (n + 1) 16 [.agg [.int .i64 v0, .int .i64 v1, .fr (.ts v2)], .one (.fr (.ts v3))] [] =
 ((FF n 31 [.agg [.int .i64 v0, .int .i64 v1, .fr (.ts v2)]] []).bind fun x0 =>
 (rBool x0.1 fun x1 x2 =>
 (nilV x2 (nilO x0.2
 ((cond ((!x1))
 (some ([.agg [.int .i64 0, .int .i64 0, .fr (.ts [])], .one (.bool false)], []))
 (((FF n 48 [.one (.fr (.ts v3))] []).bind fun x3 =>
 (rBool x3.1 fun x4 x5 =>
 (nilV x5 (nilO x3.2
 ((cond ((!x4))
 (some ([.agg [.int .i64 0, .int .i64 0, .fr (.ts [])], .one (.bool false)], []))
 (L_impl_ApplyAll_0_of n n (v3 : List T) (((v3).length : Int) : Int) (0 : Int) (0 : Int) (0 : Int) ([] : List T) (v0 : Int) (v1 : Int) (v2 : List T))))))))))))))) := by kernel_rfl

/-! loop.example/depkernel/spec.ApplyAll -/
noncomputable def L_spec_ApplyAll_0_oo (n c : Nat) (v0 : List T) (v1 : Int) (v2 : Int) (v3 : Int) (v4 : List T) (v5 : Int) (v6 : Int) (v7 : List T) : OR := runLoop Try.prog SS n 17 0 [1, 1, 1, 0, 1, 0] [] c ⟨[.v (.one (.any)), .v (.one (.fr (.ts v0))), .v (.one (.any)), .v (.one (.any)), .v (.one (.ptr 0 0)), .v (.one (.any)), .v (.one (.ptr 2 0)), .v (.one (.int .i64 v1)), .v (.one (.any)), .v (.one (.any)), .v (.one (.any)), .v (.one (.any)), .v (.one (.any)), .v (.one (.any)), .v (.one (.any)), .v (.one (.any)), .v (.one (.any)), .v (.one (.any)), .v (.one (.any)), .v (.one (.any)), .v (.one (.any)), .v (.one (.any)), .v (.one (.any)), .v (.one (.any)), .v (.one (.any)), .v (.one (.any)), .v (.one (.any)), .v (.one (.any)), .v (.one (.any)), .v (.one (.any)), .v (.one (.any)), .v (.one (.any)), .v (.one (.any)), .v (.one (.any)), .v (.one (.any)), .v (.one (.any)), .v (.one (.any))],
  [.cells [.int .i64 v2, .int .i64 v3, .own 1 0], .arr 25 (.ts v4) 0 false, .cells [.int .i64 v5, .int .i64 v6, .own 3 0], .arr 25 (.ts v7) 0 false]⟩
noncomputable def L_spec_ApplyAll_0_of (n c : Nat) (v0 : List T) (v1 : Int) (v2 : Int) (v3 : Int) (v4 : List T) (v5 : Int) (v6 : Int) (v7 : List T) : OR := runLoop Try.prog SS n 17 0 [1, 1, 1, 0, 1, 0] [] c ⟨[.v (.one (.any)), .v (.one (.fr (.ts v0))), .v (.one (.any)), .v (.one (.any)), .v (.one (.ptr 0 0)), .v (.one (.any)), .v (.one (.ptr 2 0)), .v (.one (.int .i64 v1)), .v (.one (.any)), .v (.one (.any)), .v (.one (.any)), .v (.one (.any)), .v (.one (.any)), .v (.one (.any)), .v (.one (.any)), .v (.one (.any)), .v (.one (.any)), .v (.one (.any)), .v (.one (.any)), .v (.one (.any)), .v (.one (.any)), .v (.one (.any)), .v (.one (.any)), .v (.one (.any)), .v (.one (.any)), .v (.one (.any)), .v (.one (.any)), .v (.one (.any)), .v (.one (.any)), .v (.one (.any)), .v (.one (.any)), .v (.one (.any)), .v (.one (.any)), .v (.one (.any)), .v (.one (.any)), .v (.one (.any)), .v (.one (.any))],
  [.cells [.int .i64 v2, .int .i64 v3, .own 1 0], .arr 25 (.ts v4) 0 false, .cells [.int .i64 v5, .int .i64 v6, .fr (.ts v7)]]⟩
theorem L_spec_ApplyAll_0_oo_eq (n c : Nat) (v0 : List T) (v1 : Int) (v2 : Int) (v3 : Int) (v4 : List T) (v5 : Int) (v6 : Int) (v7 : List T) : L_spec_ApplyAll_0_oo n (c + 1) v0 v1 v2 v3 v4 v5 v6 v7 =
 (cond ((decide (v1 < ((v0).length : Int))))
 ((cond (decide (0 ≤ v1))
 (((v0)[(v1 : Int).toNat]?.bind fun x0 =>
 ((FF n 54 [.agg [.int .i64 (x0).k, .int .i64 (x0).n, .fr (.ts (x0).kids)]] []).bind fun x1 =>
 (rOwnT 0 x1.1 fun x2 x3 x4 =>
 (arrTsC 25 x1.2 fun x5 x6 =>
 (nilV x4 (nilO x6
 (((FF n 55 [.one (.int .i64 5), .one (.fr (.ts [(T.mk v5 v6 v7), (T.mk x2 x3 x5)]))] []).bind fun x7 =>
 (rTerm x7.1 fun x8 x9 =>
 (nilV x9 (nilO x7.2
 (L_spec_ApplyAll_0_of n c (v0 : List T) ((IntKind.i64.wrap (v1 + 1)) : Int) (v2 : Int) (v3 : Int) (v4 : List T) ((x8).k : Int) ((x8).n : Int) ((x8).kids : List T))))))))))))))
 (none)))
 (((FF n 56 [.agg [.int .i64 v5, .int .i64 v6, .fr (.ts v7)]] []).bind fun x0 =>
 (rTerm x0.1 fun x1 x2 =>
 (rBool x2 fun x3 x4 =>
 (nilV x4 (nilO x0.2
 (some ([.agg [.int .i64 (x1).k, .int .i64 (x1).n, .fr (.ts (x1).kids)], .one (.bool x3)], []))))))))) := by kernel_rfl
theorem L_spec_ApplyAll_0_of_eq (n c : Nat) (v0 : List T) (v1 : Int) (v2 : Int) (v3 : Int) (v4 : List T) (v5 : Int) (v6 : Int) (v7 : List T) : L_spec_ApplyAll_0_of n (c + 1) v0 v1 v2 v3 v4 v5 v6 v7 =
 (cond ((decide (v1 < ((v0).length : Int))))
 ((cond (decide (0 ≤ v1))
 (((v0)[(v1 : Int).toNat]?.bind fun x0 =>
 ((FF n 54 [.agg [.int .i64 (x0).k, .int .i64 (x0).n, .fr (.ts (x0).kids)]] []).bind fun x1 =>
 (rOwnT 0 x1.1 fun x2 x3 x4 =>
 (arrTsC 25 x1.2 fun x5 x6 =>
 (nilV x4 (nilO x6
 (((FF n 55 [.one (.int .i64 5), .one (.fr (.ts [(T.mk v5 v6 v7), (T.mk x2 x3 x5)]))] []).bind fun x7 =>
 (rTerm x7.1 fun x8 x9 =>
 (nilV x9 (nilO x7.2
 (L_spec_ApplyAll_0_of n c (v0 : List T) ((IntKind.i64.wrap (v1 + 1)) : Int) (v2 : Int) (v3 : Int) (v4 : List T) ((x8).k : Int) ((x8).n : Int) ((x8).kids : List T))))))))))))))
 (none)))
 (((FF n 56 [.agg [.int .i64 v5, .int .i64 v6, .fr (.ts v7)]] []).bind fun x0 =>
 (rTerm x0.1 fun x1 x2 =>
 (rBool x2 fun x3 x4 =>
 (nilV x4 (nilO x0.2
 (some ([.agg [.int .i64 (x1).k, .int .i64 (x1).n, .fr (.ts (x1).kids)], .one (.bool x3)], []))))))))) := by kernel_rfl
theorem E_spec_ApplyAll (n : Nat) (v0 : Int) (v1 : Int) (v2 : List T) (v3 : List T) : FF (n + 1) 17 [.agg [.int .i64 v0, .int .i64 v1, .fr (.ts v2)], .one (.fr (.ts v3))] [] =
 ((FF n 52 [.agg [.int .i64 v0, .int .i64 v1, .fr (.ts v2)]] []).bind fun x0 =>
 (rBool x0.1 fun x1 x2 =>
 (nilV x2 (nilO x0.2
 ((cond ((!x1))
 (some ([.agg [.int .i64 0, .int .i64 0, .fr (.ts [])], .one (.bool false)], []))
 (((FF n 53 [.one (.fr (.ts v3))] []).bind fun x3 =>
 (rBool x3.1 fun x4 x5 =>
 (nilV x5 (nilO x3.2
 ((cond ((!x4))
 (some ([.agg [.int .i64 0, .int .i64 0, .fr (.ts [])], .one (.bool false)], []))
 (((FF n 54 [.agg [.int .i64 v0, .int .i64 v1, .fr (.ts v2)]] []).bind fun x6 =>
 (rOwnT 0 x6.1 fun x7 x8 x9 =>
 (arrTsC 25 x6.2 fun x10 x11 =>
 (nilV x9 (nilO x11
 (L_spec_ApplyAll_0_oo n n (v3 : List T) (0 : Int) (0 : Int) (0 : Int) ([] : List T) (x7 : Int) (x8 : Int) (x10 : List T))))))))))))))))))))) := by kernel_rfl

/-! loop.example/depkernel/impl.TermSame -/
theorem E_impl_TermSame (n : Nat) (v0 : Int) (v1 : Int) (v2 : List T) (v3 : Int) (v4 : Int) (v5 : List T) : FF (n + 1) 18 [.agg [.int .i64 v0, .int .i64 v1, .fr (.ts v2)], .agg [.int .i64 v3, .int .i64 v4, .fr (.ts v5)]] [] =
 (cond ((decide (v0 = v3)))
 ((cond ((decide (v1 = v4)))
 (((FF n 57 [.one (.fr (.ts v2)), .one (.fr (.ts v5)), .one (.fn 18 [])] []).bind fun x0 =>
 (rBool x0.1 fun x1 x2 =>
 (nilV x2 (nilO x0.2
 (some ([.one (.bool x1)], [])))))))
 (some ([.one (.bool false)], []))))
 (some ([.one (.bool false)], []))) := by kernel_rfl

/-! loop.example/depkernel/impl.SplitApp -/
noncomputable def L_impl_SplitApp_0_fo (n c : Nat) (v0 : Int) (v1 : Int) (v2 : List T) (v3 : Int) (v4 : Int) (v5 : List T) (v6 : List T) : OR := runLoop Try.prog SS n 19 0 [1, 1, 1, 0, 0] [] c ⟨[.v (.one (.any)), .v (.one (.ptr 0 0)), .v (.one (.ptr 1 0)), .v (.one (.any)), .v (.one (.any)), .v (.one (.own 3 0)), .v (.one (.any)), .v (.one (.any)), .v (.one (.any)), .v (.one (.any)), .v (.one (.any)), .v (.one (.any)), .v (.one (.any)), .v (.one (.any)), .v (.one (.any)), .v (.one (.any)), .v (.one (.any)), .v (.one (.any)), .v (.one (.any)), .v (.one (.any)), .v (.one (.any)), .v (.one (.any)), .v (.one (.any)), .v (.one (.any)), .v (.one (.any)), .v (.one (.any)), .v (.one (.any)), .v (.one (.any)), .v (.one (.any)), .v (.one (.any))],
  [.cells [.int .i64 v0, .int .i64 v1, .fr (.ts v2)], .cells [.int .i64 v3, .int .i64 v4, .own 2 0], .arr 25 (.ts v5) 0 false, .arr 25 (.ts v6) 0 false]⟩
theorem L_impl_SplitApp_0_fo_eq (n c : Nat) (v0 : Int) (v1 : Int) (v2 : List T) (v3 : Int) (v4 : Int) (v5 : List T) (v6 : List T) : L_impl_SplitApp_0_fo n (c + 1) v0 v1 v2 v3 v4 v5 v6 =
 (cond ((decide (v0 = 5)))
 (((v2)[(1 : Int).toNat]?.bind fun x0 =>
 ((FF n 51 [.agg [.int .i64 (x0).k, .int .i64 (x0).n, .fr (.ts (x0).kids)]] []).bind fun x1 =>
 (rTerm x1.1 fun x2 x3 =>
 (nilV x3 (nilO x1.2
 ((cond (roomB (v6 ++ [(T.mk (x2).k (x2).n (x2).kids)]).length)
 (((v2)[(0 : Int).toNat]?.bind fun x4 =>
 L_impl_SplitApp_0_fo n c ((x4).k : Int) ((x4).n : Int) ((x4).kids : List T) (v3 : Int) (v4 : Int) (v5 : List T) ((v6 ++ [(T.mk (x2).k (x2).n (x2).kids)]) : List T)))
 (none)))))))))
 (((FF n 58 [.one (.fr (.ts v6))] []).bind fun x0 =>
 (nilV x0.1 (nilO x0.2
 (((FF n 51 [.agg [.int .i64 v0, .int .i64 v1, .fr (.ts v2)]] []).bind fun x1 =>
 (rTerm x1.1 fun x2 x3 =>
 (nilV x3 (nilO x1.2
 (some ([.agg [.int .i64 (x2).k, .int .i64 (x2).n, .fr (.ts (x2).kids)], .one (.fr (.ts v6)), .one (.bool true)], [])))))))))))) := by kernel_rfl
theorem E_impl_SplitApp (n : Nat) (v0 : Int) (v1 : Int) (v2 : List T) : FF (n + 1) 19 [.agg [.int .i64 v0, .int .i64 v1, .fr (.ts v2)]] [] =
 ((FF n 31 [.agg [.int .i64 v0, .int .i64 v1, .fr (.ts v2)]] []).bind fun x0 =>
 (rBool x0.1 fun x1 x2 =>
 (nilV x2 (nilO x0.2
 ((cond ((!x1))
 (some ([.agg [.int .i64 0, .int .i64 0, .fr (.ts [])], .one (.fr (.ts [])), .one (.bool false)], []))
 (L_impl_SplitApp_0_fo n n (v0 : Int) (v1 : Int) (v2 : List T) (0 : Int) (0 : Int) ([] : List T) ([] : List T)))))))) := by kernel_rfl

/-! loop.example/depkernel/laws.dkTerms -/
noncomputable def L_laws_dkTerms_0 (n c : Nat) (v0 : List T) (v1 : List T) (v2 : Int) : OR := runLoop Try.prog SS n 20 0 [1, 1, 0, 1, 0] [] c ⟨[.v (.one (.fr (.ts v0))), .v (.one (.fr (.ts v1))), .v (.one (.any)), .v (.one (.any)), .v (.one (.any)), .v (.one (.int .i64 v2)), .v (.one (.any)), .v (.one (.any)), .v (.one (.any)), .v (.one (.any)), .v (.one (.any)), .v (.one (.any)), .v (.one (.any)), .v (.one (.any)), .v (.one (.any)), .v (.one (.any)), .v (.one (.any)), .v (.one (.any)), .v (.one (.any)), .v (.one (.any)), .v (.one (.any)), .v (.one (.any)), .v (.one (.any)), .v (.one (.any)), .v (.one (.any)), .v (.one (.any)), .v (.one (.any))],
  []⟩
theorem L_laws_dkTerms_0_eq (n c : Nat) (v0 : List T) (v1 : List T) (v2 : Int) : L_laws_dkTerms_0 n (c + 1) v0 v1 v2 =
 (cond ((decide (v2 < ((v0).length : Int))))
 ((cond (decide (0 ≤ v2))
 (((v0)[(v2 : Int).toNat]?.bind fun x0 =>
 (cond (decide (0 ≤ v2))
 (((v1)[(v2 : Int).toNat]?.bind fun x1 =>
 ((FF n 18 [.agg [.int .i64 (x0).k, .int .i64 (x0).n, .fr (.ts (x0).kids)], .agg [.int .i64 (x1).k, .int .i64 (x1).n, .fr (.ts (x1).kids)]] []).bind fun x2 =>
 (rBool x2.1 fun x3 x4 =>
 (nilV x4 (nilO x2.2
 ((cond ((!x3))
 (some ([.one (.bool false)], []))
 (L_laws_dkTerms_0 n c (v0 : List T) (v1 : List T) ((IntKind.i64.wrap (v2 + 1)) : Int))))))))))
 (none))))
 (none)))
 (some ([.one (.bool true)], []))) := by kernel_rfl
theorem E_laws_dkTerms (n : Nat) (v0 : List T) (v1 : List T) : FF (n + 1) 20 [.one (.fr (.ts v0)), .one (.fr (.ts v1))] [] =
 (cond ((!decide (((v0).length : Int) = ((v1).length : Int))))
 (some ([.one (.bool false)], []))
 (L_laws_dkTerms_0 n n (v0 : List T) (v1 : List T) (0 : Int))) := by kernel_rfl

/-! loop.example/depkernel/spec.DrawSplitApp -/
theorem E_spec_DrawSplitApp (n : Nat) (v0 : List UInt8) : FF (n + 1) 21 [.one (.fr (.bs v0))] [] =
 ((FF n 15 [.one (.fr (.bs v0))] []).bind fun x0 =>
 (rTerm x0.1 fun x1 x2 =>
 (rTs x2 fun x3 x4 =>
 (nilV x4 (nilO x0.2
 (((FF n 17 [.agg [.int .i64 (x1).k, .int .i64 (x1).n, .fr (.ts (x1).kids)], .one (.fr (.ts x3))] []).bind fun x5 =>
 (rTerm x5.1 fun x6 x7 =>
 (rBool x7 fun x8 x9 =>
 (nilV x9 (nilO x5.2
 ((cond (x8)
 (some ([.agg [.int .i64 (x6).k, .int .i64 (x6).n, .fr (.ts (x6).kids)]], []))
 (some ([.agg [.int .i64 (x1).k, .int .i64 (x1).n, .fr (.ts (x1).kids)]], []))))))))))))))) := by kernel_rfl

/-! loop.example/depkernel/spec.SplitApp -/
noncomputable def L_spec_SplitApp_0_fo (n c : Nat) (v0 : Int) (v1 : Int) (v2 : List T) (v3 : Int) (v4 : Int) (v5 : List T) (v6 : List T) : OR := runLoop Try.prog SS n 22 0 [1, 1, 1, 0, 0] [] c ⟨[.v (.one (.any)), .v (.one (.ptr 0 0)), .v (.one (.ptr 1 0)), .v (.one (.any)), .v (.one (.any)), .v (.one (.own 3 0)), .v (.one (.any)), .v (.one (.any)), .v (.one (.any)), .v (.one (.any)), .v (.one (.any)), .v (.one (.any)), .v (.one (.any)), .v (.one (.any)), .v (.one (.any)), .v (.one (.any)), .v (.one (.any)), .v (.one (.any)), .v (.one (.any)), .v (.one (.any)), .v (.one (.any)), .v (.one (.any)), .v (.one (.any)), .v (.one (.any)), .v (.one (.any)), .v (.one (.any)), .v (.one (.any)), .v (.one (.any)), .v (.one (.any)), .v (.one (.any))],
  [.cells [.int .i64 v0, .int .i64 v1, .fr (.ts v2)], .cells [.int .i64 v3, .int .i64 v4, .own 2 0], .arr 25 (.ts v5) 0 false, .arr 25 (.ts v6) 0 false]⟩
theorem L_spec_SplitApp_0_fo_eq (n c : Nat) (v0 : Int) (v1 : Int) (v2 : List T) (v3 : Int) (v4 : Int) (v5 : List T) (v6 : List T) : L_spec_SplitApp_0_fo n (c + 1) v0 v1 v2 v3 v4 v5 v6 =
 (cond ((decide (v0 = 5)))
 (((v2)[(1 : Int).toNat]?.bind fun x0 =>
 ((FF n 54 [.agg [.int .i64 (x0).k, .int .i64 (x0).n, .fr (.ts (x0).kids)]] []).bind fun x1 =>
 (rOwnT 0 x1.1 fun x2 x3 x4 =>
 (arrTsC 25 x1.2 fun x5 x6 =>
 (nilV x4 (nilO x6
 ((cond (roomB ([(T.mk x2 x3 x5)] ++ v6).length)
 (((v2)[(0 : Int).toNat]?.bind fun x7 =>
 L_spec_SplitApp_0_fo n c ((x7).k : Int) ((x7).n : Int) ((x7).kids : List T) (v3 : Int) (v4 : Int) (v5 : List T) (([(T.mk x2 x3 x5)] ++ v6) : List T)))
 (none))))))))))
 (((FF n 54 [.agg [.int .i64 v0, .int .i64 v1, .fr (.ts v2)]] []).bind fun x0 =>
 (rOwnT 0 x0.1 fun x1 x2 x3 =>
 (arrTsC 25 x0.2 fun x4 x5 =>
 (nilV x3 (nilO x5
 (some ([.agg [.int .i64 x1, .int .i64 x2, .fr (.ts x4)], .one (.fr (.ts v6)), .one (.bool true)], []))))))))) := by kernel_rfl
theorem E_spec_SplitApp (n : Nat) (v0 : Int) (v1 : Int) (v2 : List T) : FF (n + 1) 22 [.agg [.int .i64 v0, .int .i64 v1, .fr (.ts v2)]] [] =
 ((FF n 52 [.agg [.int .i64 v0, .int .i64 v1, .fr (.ts v2)]] []).bind fun x0 =>
 (rBool x0.1 fun x1 x2 =>
 (nilV x2 (nilO x0.2
 ((cond ((!x1))
 (some ([.agg [.int .i64 0, .int .i64 0, .fr (.ts [])], .one (.fr (.ts [])), .one (.bool false)], []))
 (L_spec_SplitApp_0_fo n n (v0 : Int) (v1 : Int) (v2 : List T) (0 : Int) (0 : Int) ([] : List T) ([] : List T)))))))) := by kernel_rfl

/-! loop.example/depkernel/spec.DrawSplitPi -/
theorem E_spec_DrawSplitPi (n : Nat) (v0 : List UInt8) : FF (n + 1) 23 [.one (.fr (.bs v0))] [] =
 ((FF n 43 [.one (.fr (.bs v0))] []).bind fun x0 =>
 (rPtr 0 x0.1 fun x1 =>
 (objC x0.2 fun x2 x3 =>
 (bsC x2 fun x4 x5 =>
 (intC .i64 x5 fun x6 x7 =>
 (nilC x7
 ((nilV x1 (nilO x3
 (((FF n 59 [.one (.ptr 0 0)] [.cells [.fr (.bs x4), .int .i64 x6]]).bind fun x8 =>
 (objC x8.2 fun x9 x10 =>
 (bsC x9 fun x11 x12 =>
 (intC .i64 x12 fun x13 x14 =>
 (nilC x14
 ((rTs x8.1 fun x15 x16 =>
 (rTerm x16 fun x17 x18 =>
 (nilV x18 (nilO x10
 (((FF n 60 [.one (.fr (.ts x15)), .agg [.int .i64 (x17).k, .int .i64 (x17).n, .fr (.ts (x17).kids)]] []).bind fun x19 =>
 (rTerm x19.1 fun x20 x21 =>
 (rBool x21 fun x22 x23 =>
 (nilV x23 (nilO x19.2
 ((cond ((!x22))
 (((FF n 62 [.one (.ptr 0 0)] [.cells [.fr (.bs x11), .int .i64 x13]]).bind fun x24 =>
 (objC x24.2 fun x25 x26 =>
 (bsC x25 fun x27 x28 =>
 (intC .i64 x28 fun x29 x30 =>
 (nilC x30
 ((rTerm x24.1 fun x31 x32 =>
 (nilV x32 (nilO x26
 (((FF n 44 [.one (.ptr 0 0), .agg [.int .i64 (x31).k, .int .i64 (x31).n, .fr (.ts (x31).kids)]] [.cells [.fr (.bs x27), .int .i64 x29]]).bind fun x33 =>
 (objC x33.2 fun x34 x35 =>
 (bsC x34 fun x36 x37 =>
 (intC .i64 x37 fun x38 x39 =>
 (nilC x39
 ((rTerm x33.1 fun x40 x41 =>
 (nilV x41 (nilO x35
 (((FF n 46 [.one (.ptr 0 0), .one (.fr (.is [0, 1, 2, 3, 8, 9, (-1)]))] [.cells [.fr (.bs x36), .int .i64 x38]]).bind fun x42 =>
 (objC x42.2 fun x43 x44 =>
 (bsC x43 fun x45 x46 =>
 (intC .i64 x46 fun x47 x48 =>
 (nilC x48
 ((rInt .i64 x42.1 fun x49 x50 =>
 (nilV x50 (nilO x44
 (some ([.agg [.int .i64 (x40).k, .int .i64 (x40).n, .fr (.ts (x40).kids)], .one (.int .i64 x49)], []))))))))))))))))))))))))))))))))
 (((FF n 61 [.one (.ptr 0 0), .one (.int .i64 6)] [.cells [.fr (.bs x11), .int .i64 x13]]).bind fun x24 =>
 (objC x24.2 fun x25 x26 =>
 (bsC x25 fun x27 x28 =>
 (intC .i64 x28 fun x29 x30 =>
 (nilC x30
 ((rInt .i64 x24.1 fun x31 x32 =>
 (nilV x32 (nilO x26
 ((cond ((decide (x31 = 0)))
 (((FF n 62 [.one (.ptr 0 0)] [.cells [.fr (.bs x27), .int .i64 x29]]).bind fun x33 =>
 (objC x33.2 fun x34 x35 =>
 (bsC x34 fun x36 x37 =>
 (intC .i64 x37 fun x38 x39 =>
 (nilC x39
 ((rTerm x33.1 fun x40 x41 =>
 (nilV x41 (nilO x35
 (((FF n 44 [.one (.ptr 0 0), .agg [.int .i64 (x40).k, .int .i64 (x40).n, .fr (.ts (x40).kids)]] [.cells [.fr (.bs x36), .int .i64 x38]]).bind fun x42 =>
 (objC x42.2 fun x43 x44 =>
 (bsC x43 fun x45 x46 =>
 (intC .i64 x46 fun x47 x48 =>
 (nilC x48
 ((rTerm x42.1 fun x49 x50 =>
 (nilV x50 (nilO x44
 (((FF n 46 [.one (.ptr 0 0), .one (.fr (.is [0, 1, 2, 3, 8, 9, (-1)]))] [.cells [.fr (.bs x45), .int .i64 x47]]).bind fun x51 =>
 (objC x51.2 fun x52 x53 =>
 (bsC x52 fun x54 x55 =>
 (intC .i64 x55 fun x56 x57 =>
 (nilC x57
 ((rInt .i64 x51.1 fun x58 x59 =>
 (nilV x59 (nilO x53
 (some ([.agg [.int .i64 (x49).k, .int .i64 (x49).n, .fr (.ts (x49).kids)], .one (.int .i64 x58)], []))))))))))))))))))))))))))))))))
 (((FF n 44 [.one (.ptr 0 0), .agg [.int .i64 (x20).k, .int .i64 (x20).n, .fr (.ts (x20).kids)]] [.cells [.fr (.bs x27), .int .i64 x29]]).bind fun x33 =>
 (objC x33.2 fun x34 x35 =>
 (bsC x34 fun x36 x37 =>
 (intC .i64 x37 fun x38 x39 =>
 (nilC x39
 ((rTerm x33.1 fun x40 x41 =>
 (nilV x41 (nilO x35
 (((FF n 46 [.one (.ptr 0 0), .one (.fr (.is [0, 1, 2, 3, 8, 9, (-1)]))] [.cells [.fr (.bs x36), .int .i64 x38]]).bind fun x42 =>
 (objC x42.2 fun x43 x44 =>
 (bsC x43 fun x45 x46 =>
 (intC .i64 x46 fun x47 x48 =>
 (nilC x48
 ((rInt .i64 x42.1 fun x49 x50 =>
 (nilV x50 (nilO x44
 (some ([.agg [.int .i64 (x40).k, .int .i64 (x40).n, .fr (.ts (x40).kids)], .one (.int .i64 x49)], [])))))))))))))))))))))))))))))))))))))))))))))))))))))))))))))) := by kernel_rfl

/-! loop.example/depkernel/impl.SplitPi -/
noncomputable def L_impl_SplitPi_0_fo (n c : Nat) (v0 : Int) (v1 : Int) (v2 : Int) (v3 : Int) (v4 : List T) (v5 : Int) (v6 : Int) (v7 : List T) (v8 : List T) : OR := runLoop Try.prog SS n 24 0 [1, 1, 1, 0, 1, 0] [] c ⟨[.v (.one (.any)), .v (.one (.any)), .v (.one (.ptr 0 0)), .v (.one (.any)), .v (.one (.any)), .v (.one (.ptr 1 0)), .v (.one (.any)), .v (.one (.own 3 0)), .v (.one (.any)), .v (.one (.any)), .v (.one (.any)), .v (.one (.any)), .v (.one (.any)), .v (.one (.any)), .v (.one (.any)), .v (.one (.any)), .v (.one (.any)), .v (.one (.any)), .v (.one (.any)), .v (.one (.any)), .v (.one (.int .i64 v0)), .v (.one (.int .i64 v1)), .v (.one (.any)), .v (.one (.any)), .v (.one (.any)), .v (.one (.any)), .v (.one (.any)), .v (.one (.any)), .v (.one (.any)), .v (.one (.any)), .v (.one (.any)), .v (.one (.any)), .v (.one (.any)), .v (.one (.any)), .v (.one (.any)), .v (.one (.any)), .v (.one (.any)), .v (.one (.any)), .v (.one (.any))],
  [.cells [.int .i64 v2, .int .i64 v3, .fr (.ts v4)], .cells [.int .i64 v5, .int .i64 v6, .own 2 0], .arr 25 (.ts v7) 0 false, .arr 25 (.ts v8) 0 false]⟩
theorem L_impl_SplitPi_0_fo_eq (n c : Nat) (v0 : Int) (v1 : Int) (v2 : Int) (v3 : Int) (v4 : List T) (v5 : Int) (v6 : Int) (v7 : List T) (v8 : List T) : L_impl_SplitPi_0_fo n (c + 1) v0 v1 v2 v3 v4 v5 v6 v7 v8 =
 (cond ((decide (v1 < v0)))
 (((v4)[(0 : Int).toNat]?.bind fun x0 =>
 ((FF n 51 [.agg [.int .i64 (x0).k, .int .i64 (x0).n, .fr (.ts (x0).kids)]] []).bind fun x1 =>
 (rTerm x1.1 fun x2 x3 =>
 (nilV x3 (nilO x1.2
 ((cond (roomB (v8 ++ [(T.mk (x2).k (x2).n (x2).kids)]).length)
 (((v4)[(1 : Int).toNat]?.bind fun x4 =>
 L_impl_SplitPi_0_fo n c (v0 : Int) ((IntKind.i64.wrap (v1 + 1)) : Int) ((x4).k : Int) ((x4).n : Int) ((x4).kids : List T) (v5 : Int) (v6 : Int) (v7 : List T) ((v8 ++ [(T.mk (x2).k (x2).n (x2).kids)]) : List T)))
 (none)))))))))
 (((FF n 51 [.agg [.int .i64 v2, .int .i64 v3, .fr (.ts v4)]] []).bind fun x0 =>
 (rTerm x0.1 fun x1 x2 =>
 (nilV x2 (nilO x0.2
 (some ([.one (.fr (.ts v8)), .agg [.int .i64 (x1).k, .int .i64 (x1).n, .fr (.ts (x1).kids)], .one (.bool true)], [])))))))) := by kernel_rfl
theorem E_impl_SplitPi (n : Nat) (v0 : Int) (v1 : Int) (v2 : List T) (v3 : Int) : FF (n + 1) 24 [.agg [.int .i64 v0, .int .i64 v1, .fr (.ts v2)], .one (.int .i64 v3)] [] =
 ((FF n 31 [.agg [.int .i64 v0, .int .i64 v1, .fr (.ts v2)]] []).bind fun x0 =>
 (rBool x0.1 fun x1 x2 =>
 (nilV x2 (nilO x0.2
 ((cond ((!x1))
 (some ([.one (.fr (.ts [])), .agg [.int .i64 0, .int .i64 0, .fr (.ts [])], .one (.bool false)], []))
 (((FF n 64 [.agg [.int .i64 v0, .int .i64 v1, .fr (.ts v2)]] []).bind fun x3 =>
 (rInt .i64 x3.1 fun x4 x5 =>
 (nilV x5 (nilO x3.2
 (((FF n 63 [.one (.int .i64 v3), .one (.int .i64 0), .one (.int .i64 (min 8 x4))] []).bind fun x6 =>
 (rBool x6.1 fun x7 x8 =>
 (nilV x8 (nilO x6.2
 ((cond ((!x7))
 (some ([.one (.fr (.ts [])), .agg [.int .i64 0, .int .i64 0, .fr (.ts [])], .one (.bool false)], []))
 (L_impl_SplitPi_0_fo n n (v3 : Int) (0 : Int) (v0 : Int) (v1 : Int) (v2 : List T) (0 : Int) (0 : Int) ([] : List T) ([] : List T)))))))))))))))))))) := by kernel_rfl

/-! loop.example/depkernel/spec.SplitPi -/
noncomputable def L_spec_SplitPi_0_fo (n c : Nat) (v0 : Int) (v1 : Int) (v2 : Int) (v3 : Int) (v4 : List T) (v5 : Int) (v6 : Int) (v7 : List T) (v8 : List T) : OR := runLoop Try.prog SS n 25 0 [1, 1, 1, 0, 1, 0] [] c ⟨[.v (.one (.any)), .v (.one (.int .i64 v0)), .v (.one (.ptr 0 0)), .v (.one (.any)), .v (.one (.any)), .v (.one (.ptr 1 0)), .v (.one (.any)), .v (.one (.own 3 0)), .v (.one (.int .i64 v1)), .v (.one (.any)), .v (.one (.any)), .v (.one (.any)), .v (.one (.any)), .v (.one (.any)), .v (.one (.any)), .v (.one (.any)), .v (.one (.any)), .v (.one (.any)), .v (.one (.any)), .v (.one (.any)), .v (.one (.any)), .v (.one (.any)), .v (.one (.any)), .v (.one (.any)), .v (.one (.any)), .v (.one (.any)), .v (.one (.any)), .v (.one (.any)), .v (.one (.any)), .v (.one (.any)), .v (.one (.any)), .v (.one (.any)), .v (.one (.any)), .v (.one (.any)), .v (.one (.any)), .v (.one (.any)), .v (.one (.any)), .v (.one (.any)), .v (.one (.any)), .v (.one (.any)), .v (.one (.any)), .v (.one (.any)), .v (.one (.any)), .v (.one (.any)), .v (.one (.any)), .v (.one (.any)), .v (.one (.any)), .v (.one (.any)), .v (.one (.any))],
  [.cells [.int .i64 v2, .int .i64 v3, .fr (.ts v4)], .cells [.int .i64 v5, .int .i64 v6, .own 2 0], .arr 25 (.ts v7) 0 false, .arr 25 (.ts v8) 0 false]⟩
theorem L_spec_SplitPi_0_fo_eq (n c : Nat) (v0 : Int) (v1 : Int) (v2 : Int) (v3 : Int) (v4 : List T) (v5 : Int) (v6 : Int) (v7 : List T) (v8 : List T) : L_spec_SplitPi_0_fo n (c + 1) v0 v1 v2 v3 v4 v5 v6 v7 v8 =
 (cond ((decide (v1 < v0)))
 (((v4)[(0 : Int).toNat]?.bind fun x0 =>
 ((FF n 54 [.agg [.int .i64 (x0).k, .int .i64 (x0).n, .fr (.ts (x0).kids)]] []).bind fun x1 =>
 (rOwnT 0 x1.1 fun x2 x3 x4 =>
 (arrTsC 25 x1.2 fun x5 x6 =>
 (nilV x4 (nilO x6
 ((cond (roomB (v8 ++ [(T.mk x2 x3 x5)]).length)
 (((v4)[(1 : Int).toNat]?.bind fun x7 =>
 L_spec_SplitPi_0_fo n c (v0 : Int) ((IntKind.i64.wrap (v1 + 1)) : Int) ((x7).k : Int) ((x7).n : Int) ((x7).kids : List T) (v5 : Int) (v6 : Int) (v7 : List T) ((v8 ++ [(T.mk x2 x3 x5)]) : List T)))
 (none))))))))))
 (((FF n 54 [.agg [.int .i64 v2, .int .i64 v3, .fr (.ts v4)]] []).bind fun x0 =>
 (rOwnT 0 x0.1 fun x1 x2 x3 =>
 (arrTsC 25 x0.2 fun x4 x5 =>
 (nilV x3 (nilO x5
 (some ([.one (.fr (.ts v8)), .agg [.int .i64 x1, .int .i64 x2, .fr (.ts x4)], .one (.bool true)], []))))))))) := by kernel_rfl
theorem E_spec_SplitPi (n : Nat) (v0 : Int) (v1 : Int) (v2 : List T) (v3 : Int) : FF (n + 1) 25 [.agg [.int .i64 v0, .int .i64 v1, .fr (.ts v2)], .one (.int .i64 v3)] [] =
 (cond ((decide (v3 < 0)))
 (some ([.one (.fr (.ts [])), .agg [.int .i64 0, .int .i64 0, .fr (.ts [])], .one (.bool false)], []))
 ((cond ((decide (8 < v3)))
 (some ([.one (.fr (.ts [])), .agg [.int .i64 0, .int .i64 0, .fr (.ts [])], .one (.bool false)], []))
 (((FF n 65 [.agg [.int .i64 v0, .int .i64 v1, .fr (.ts v2)]] []).bind fun x0 =>
 (rInt .i64 x0.1 fun x1 x2 =>
 (nilV x2 (nilO x0.2
 ((cond ((decide (x1 < v3)))
 (some ([.one (.fr (.ts [])), .agg [.int .i64 0, .int .i64 0, .fr (.ts [])], .one (.bool false)], []))
 (((FF n 52 [.agg [.int .i64 v0, .int .i64 v1, .fr (.ts v2)]] []).bind fun x3 =>
 (rBool x3.1 fun x4 x5 =>
 (nilV x5 (nilO x3.2
 ((cond ((!x4))
 (some ([.one (.fr (.ts [])), .agg [.int .i64 0, .int .i64 0, .fr (.ts [])], .one (.bool false)], []))
 (L_spec_SplitPi_0_fo n n (v3 : Int) (0 : Int) (v0 : Int) (v1 : Int) (v2 : List T) (0 : Int) (0 : Int) ([] : List T) ([] : List T))))))))))))))))))) := by kernel_rfl

/-! loop.example/depkernel/impl.PiOver -/
theorem E_impl_PiOver (n : Nat) (v0 : List T) (v1 : Int) (v2 : Int) (v3 : List T) : FF (n + 1) 26 [.one (.fr (.ts v0)), .agg [.int .i64 v1, .int .i64 v2, .fr (.ts v3)]] [] =
 ((FF n 66 [.one (.int .i64 3), .one (.fr (.ts v0)), .agg [.int .i64 v1, .int .i64 v2, .fr (.ts v3)]] []).bind fun x0 =>
 (rTerm x0.1 fun x1 x2 =>
 (rBool x2 fun x3 x4 =>
 (nilV x4 (nilO x0.2
 (some ([.agg [.int .i64 (x1).k, .int .i64 (x1).n, .fr (.ts (x1).kids)], .one (.bool x3)], []))))))) := by kernel_rfl

/-! loop.example/depkernel/spec.DrawTraceTerm -/
theorem E_spec_DrawTraceTerm (n : Nat) (v0 : List UInt8) : FF (n + 1) 27 [.one (.fr (.bs v0))] [] =
 ((FF n 67 [.one (.fr (.bs v0))] []).bind fun x0 =>
 (rTerm x0.1 fun x1 x2 =>
 (nilV x2 (nilO x0.2
 (some ([.agg [.int .i64 (x1).k, .int .i64 (x1).n, .fr (.ts (x1).kids)]], [])))))) := by kernel_rfl

/-! loop.example/depkernel/impl.TraceTerm -/
noncomputable def L_impl_TraceTerm_0 (n c : Nat) (v0 : List T) : OR := runLoop Try.prog SS n 28 0 [1, 1, 1, 0, 0] [] c ⟨[.v (.one (.any)), .v (.one (.any)), .v (.one (.any)), .v (.one (.own 0 0)), .v (.one (.any)), .v (.one (.any)), .v (.one (.any)), .v (.one (.any)), .v (.one (.any)), .v (.one (.any)), .v (.one (.any)), .v (.one (.any)), .v (.one (.any)), .v (.one (.any)), .v (.one (.any)), .v (.one (.any)), .v (.one (.any)), .v (.one (.any)), .v (.one (.any)), .v (.one (.any)), .v (.one (.any)), .v (.one (.any)), .v (.one (.any)), .v (.one (.any)), .v (.one (.any)), .v (.one (.any)), .v (.one (.any)), .v (.one (.any)), .v (.one (.any)), .v (.one (.any)), .v (.one (.any)), .v (.one (.any))],
  [.arr 25 (.ts v0) 0 false]⟩
theorem L_impl_TraceTerm_0_eq (n c : Nat) (v0 : List T) : L_impl_TraceTerm_0 n (c + 1) v0 =
 (cond ((decide (((v0).length : Int) < 12)))
 ((cond (decide (0 ≤ (IntKind.i64.wrap (((v0).length : Int) - 1))))
 ((cond (decide ((IntKind.i64.wrap (((v0).length : Int) - 1)) < ((v0).length : Int)))
 (((v0)[((IntKind.i64.wrap (((v0).length : Int) - 1)) : Int).toNat]?.bind fun x0 =>
 ((FF n 30 [.agg [.int .i64 (x0).k, .int .i64 (x0).n, .fr (.ts (x0).kids)]] []).bind fun x1 =>
 (rTerm x1.1 fun x2 x3 =>
 (rInt .i64 x3 fun x4 x5 =>
 (nilV x5 (nilO x1.2
 ((cond ((!decide (x4 = 1)))
 (some ([.one (.fr (.ts v0))], []))
 ((cond (roomB (v0 ++ [(T.mk (x2).k (x2).n (x2).kids)]).length)
 (L_impl_TraceTerm_0 n c ((v0 ++ [(T.mk (x2).k (x2).n (x2).kids)]) : List T))
 (none))))))))))))
 (none)))
 (none)))
 (some ([.one (.fr (.ts v0))], []))) := by kernel_rfl
theorem E_impl_TraceTerm (n : Nat) (v0 : Int) (v1 : Int) (v2 : List T) : FF (n + 1) 28 [.agg [.int .i64 v0, .int .i64 v1, .fr (.ts v2)]] [] =
 ((FF n 31 [.agg [.int .i64 v0, .int .i64 v1, .fr (.ts v2)]] []).bind fun x0 =>
 (rBool x0.1 fun x1 x2 =>
 (nilV x2 (nilO x0.2
 ((cond ((!x1))
 (some ([.one (.fr (.ts []))], []))
 (((FF n 51 [.agg [.int .i64 v0, .int .i64 v1, .fr (.ts v2)]] []).bind fun x3 =>
 (rTerm x3.1 fun x4 x5 =>
 (nilV x5 (nilO x3.2
 (L_impl_TraceTerm_0 n n ([(T.mk (x4).k (x4).n (x4).kids)] : List T))))))))))))) := by kernel_rfl

/-! loop.example/depkernel/spec.TraceTerm -/
noncomputable def L_spec_TraceTerm_0 (n c : Nat) (v0 : List T) : OR := runLoop Try.prog SS n 29 0 [1, 1, 1, 1, 0, 0] [] c ⟨[.v (.one (.any)), .v (.one (.any)), .v (.one (.any)), .v (.one (.own 0 0)), .v (.one (.any)), .v (.one (.any)), .v (.one (.any)), .v (.one (.any)), .v (.one (.any)), .v (.one (.any)), .v (.one (.any)), .v (.one (.any)), .v (.one (.any)), .v (.one (.any)), .v (.one (.any)), .v (.one (.any)), .v (.one (.any)), .v (.one (.any)), .v (.one (.any)), .v (.one (.any)), .v (.one (.any)), .v (.one (.any)), .v (.one (.any)), .v (.one (.any)), .v (.one (.any)), .v (.one (.any)), .v (.one (.any)), .v (.one (.any)), .v (.one (.any)), .v (.one (.any)), .v (.one (.any)), .v (.one (.any)), .v (.one (.any)), .v (.one (.any)), .v (.one (.any)), .v (.one (.any)), .v (.one (.any))],
  [.arr 25 (.ts v0) 0 false]⟩
theorem L_spec_TraceTerm_0_eq (n c : Nat) (v0 : List T) : L_spec_TraceTerm_0 n (c + 1) v0 =
 (cond ((decide (((v0).length : Int) < 12)))
 ((cond (decide (0 ≤ (IntKind.i64.wrap (((v0).length : Int) - 1))))
 ((cond (decide ((IntKind.i64.wrap (((v0).length : Int) - 1)) < ((v0).length : Int)))
 (((v0)[((IntKind.i64.wrap (((v0).length : Int) - 1)) : Int).toNat]?.bind fun x0 =>
 ((FF n 68 [.agg [.int .i64 (x0).k, .int .i64 (x0).n, .fr (.ts (x0).kids)], .one (.bool false)] []).bind fun x1 =>
 (rTerm x1.1 fun x2 x3 =>
 (rInt .i64 x3 fun x4 x5 =>
 (nilV x5 (nilO x1.2
 ((cond ((!decide (x4 = 1)))
 (some ([.one (.fr (.ts v0))], []))
 ((cond (roomB (v0 ++ [(T.mk (x2).k (x2).n (x2).kids)]).length)
 (L_spec_TraceTerm_0 n c ((v0 ++ [(T.mk (x2).k (x2).n (x2).kids)]) : List T))
 (none))))))))))))
 (none)))
 (none)))
 (some ([.one (.fr (.ts v0))], []))) := by kernel_rfl
theorem E_spec_TraceTerm (n : Nat) (v0 : Int) (v1 : Int) (v2 : List T) : FF (n + 1) 29 [.agg [.int .i64 v0, .int .i64 v1, .fr (.ts v2)]] [] =
 ((FF n 52 [.agg [.int .i64 v0, .int .i64 v1, .fr (.ts v2)]] []).bind fun x0 =>
 (rBool x0.1 fun x1 x2 =>
 (nilV x2 (nilO x0.2
 ((cond ((!x1))
 (some ([.one (.fr (.ts []))], []))
 (((FF n 54 [.agg [.int .i64 v0, .int .i64 v1, .fr (.ts v2)]] []).bind fun x3 =>
 (rOwnT 0 x3.1 fun x4 x5 x6 =>
 (arrTsC 25 x3.2 fun x7 x8 =>
 (nilV x6 (nilO x8
 ((cond (roomB ([] ++ [(T.mk x4 x5 x7)]).length)
 (L_spec_TraceTerm_0 n n (([] ++ [(T.mk x4 x5 x7)]) : List T))
 (none))))))))))))))) := by kernel_rfl

/-! loop.example/depkernel/impl.StepTerm -/
theorem E_impl_StepTerm (n : Nat) (v0 : Int) (v1 : Int) (v2 : List T) : FF (n + 1) 30 [.agg [.int .i64 v0, .int .i64 v1, .fr (.ts v2)]] [] =
 ((FF n 69 [.agg [.int .i64 v0, .int .i64 v1, .fr (.ts v2)], .one (.fn 70 [])] []).bind fun x0 =>
 (rTerm x0.1 fun x1 x2 =>
 (rInt .i64 x2 fun x3 x4 =>
 (nilV x4 (nilO x0.2
 (some ([.agg [.int .i64 (x1).k, .int .i64 (x1).n, .fr (.ts (x1).kids)], .one (.int .i64 x3)], []))))))) := by kernel_rfl

/-! loop.example/depkernel/impl.TermValid -/
theorem E_impl_TermValid (n : Nat) (v0 : Int) (v1 : Int) (v2 : List T) : FF (n + 1) 31 [.agg [.int .i64 v0, .int .i64 v1, .fr (.ts v2)]] [] =
 ((FF n 71 [.agg [.int .i64 v0, .int .i64 v1, .fr (.ts v2)], .one (.int .i64 1), .one (.ptr 0 0)] [.cells [.int .i64 0]]).bind fun x0 =>
 (objC x0.2 fun x1 x2 =>
 (intC .i64 x1 fun x3 x4 =>
 (nilC x4
 ((rBool x0.1 fun x5 x6 =>
 (nilV x6 (nilO x2
 (some ([.one (.bool x5)], [])))))))))) := by kernel_rfl

/-! loop.example/depkernel/spec.DrawDevelopTerm -/
theorem E_spec_DrawDevelopTerm (n : Nat) (v0 : List UInt8) : FF (n + 1) 32 [.one (.fr (.bs v0))] [] =
 ((FF n 67 [.one (.fr (.bs v0))] []).bind fun x0 =>
 (rTerm x0.1 fun x1 x2 =>
 (nilV x2 (nilO x0.2
 (some ([.agg [.int .i64 (x1).k, .int .i64 (x1).n, .fr (.ts (x1).kids)]], [])))))) := by kernel_rfl

/-! loop.example/depkernel/impl.DevelopTerm -/
theorem E_impl_DevelopTerm (n : Nat) (v0 : Int) (v1 : Int) (v2 : List T) : FF (n + 1) 33 [.agg [.int .i64 v0, .int .i64 v1, .fr (.ts v2)]] [] =
 ((FF n 31 [.agg [.int .i64 v0, .int .i64 v1, .fr (.ts v2)]] []).bind fun x0 =>
 (rBool x0.1 fun x1 x2 =>
 (nilV x2 (nilO x0.2
 ((cond ((!x1))
 (some ([.agg [.int .i64 0, .int .i64 0, .fr (.ts [])], .one (.bool false)], []))
 (((FF n 72 [.agg [.int .i64 v0, .int .i64 v1, .fr (.ts v2)]] []).bind fun x3 =>
 (rTerm x3.1 fun x4 x5 =>
 (rBool x5 fun x6 x7 =>
 (nilV x7 (nilO x3.2
 (some ([.agg [.int .i64 (x4).k, .int .i64 (x4).n, .fr (.ts (x4).kids)], .one (.bool x6)], [])))))))))))))) := by kernel_rfl

/-! loop.example/depkernel/spec.DevelopTerm -/
theorem E_spec_DevelopTerm (n : Nat) (v0 : Int) (v1 : Int) (v2 : List T) : FF (n + 1) 34 [.agg [.int .i64 v0, .int .i64 v1, .fr (.ts v2)]] [] =
 ((FF n 52 [.agg [.int .i64 v0, .int .i64 v1, .fr (.ts v2)]] []).bind fun x0 =>
 (rBool x0.1 fun x1 x2 =>
 (nilV x2 (nilO x0.2
 ((cond ((!x1))
 (some ([.agg [.int .i64 0, .int .i64 0, .fr (.ts [])], .one (.bool false)], []))
 (((FF n 73 [.agg [.int .i64 v0, .int .i64 v1, .fr (.ts v2)]] []).bind fun x3 =>
 (rTerm x3.1 fun x4 x5 =>
 (rBool x5 fun x6 x7 =>
 (nilV x7 (nilO x3.2
 ((cond ((!x6))
 (some ([.agg [.int .i64 0, .int .i64 0, .fr (.ts [])], .one (.bool false)], []))
 (some ([.agg [.int .i64 (x4).k, .int .i64 (x4).n, .fr (.ts (x4).kids)], .one (.bool true)], [])))))))))))))))) := by kernel_rfl

/-! loop.example/depkernel/impl.StepInner -/
theorem E_impl_StepInner (n : Nat) (v0 : Int) (v1 : Int) (v2 : List T) : FF (n + 1) 35 [.agg [.int .i64 v0, .int .i64 v1, .fr (.ts v2)]] [] =
 ((FF n 69 [.agg [.int .i64 v0, .int .i64 v1, .fr (.ts v2)], .one (.fn 74 [])] []).bind fun x0 =>
 (rTerm x0.1 fun x1 x2 =>
 (rInt .i64 x2 fun x3 x4 =>
 (nilV x4 (nilO x0.2
 (some ([.agg [.int .i64 (x1).k, .int .i64 (x1).n, .fr (.ts (x1).kids)], .one (.int .i64 x3)], []))))))) := by kernel_rfl

/-! loop.example/depkernel/impl.Normalize -/
theorem E_impl_Normalize (n : Nat) (v0 : Int) (v1 : Int) (v2 : List T) (v3 : Int) : FF (n + 1) 36 [.agg [.int .i64 v0, .int .i64 v1, .fr (.ts v2)], .one (.int .i64 v3)] [] =
 ((FF n 75 [.agg [.int .i64 v0, .int .i64 v1, .fr (.ts v2)], .one (.int .i64 v3), .one (.fn 70 [])] []).bind fun x0 =>
 (rTerm x0.1 fun x1 x2 =>
 (rInt .i64 x2 fun x3 x4 =>
 (rInt .i64 x4 fun x5 x6 =>
 (nilV x6 (nilO x0.2
 (some ([.agg [.int .i64 (x1).k, .int .i64 (x1).n, .fr (.ts (x1).kids)], .one (.int .i64 x5)], [])))))))) := by kernel_rfl

/-! loop.example/depkernel/impl.NormalTerm -/
theorem E_impl_NormalTerm (n : Nat) (v0 : Int) (v1 : Int) (v2 : List T) : FF (n + 1) 37 [.agg [.int .i64 v0, .int .i64 v1, .fr (.ts v2)]] [] =
 ((FF n 31 [.agg [.int .i64 v0, .int .i64 v1, .fr (.ts v2)]] []).bind fun x0 =>
 (rBool x0.1 fun x1 x2 =>
 (nilV x2 (nilO x0.2
 ((cond ((!x1))
 (some ([.one (.bool false)], []))
 (((FF n 70 [.agg [.int .i64 v0, .int .i64 v1, .fr (.ts v2)]] []).bind fun x3 =>
 (rIs x3.1 fun x4 x5 =>
 (rBool x5 fun x6 x7 =>
 (nilV x7 (nilO x3.2
 (some ([.one (.bool (!x6))], [])))))))))))))) := by kernel_rfl

/-! loop.example/depkernel/impl.MaxFree -/
theorem E_impl_MaxFree (n : Nat) (v0 : Int) (v1 : Int) (v2 : List T) : FF (n + 1) 38 [.agg [.int .i64 v0, .int .i64 v1, .fr (.ts v2)]] [] =
 ((FF n 31 [.agg [.int .i64 v0, .int .i64 v1, .fr (.ts v2)]] []).bind fun x0 =>
 (rBool x0.1 fun x1 x2 =>
 (nilV x2 (nilO x0.2
 ((cond ((!x1))
 (some ([.one (.int .i64 (-1))], []))
 (((FF n 76 [.agg [.int .i64 v0, .int .i64 v1, .fr (.ts v2)]] []).bind fun x3 =>
 (rInt .i64 x3.1 fun x4 x5 =>
 (nilV x5 (nilO x3.2
 (some ([.one (.int .i64 x4)], []))))))))))))) := by kernel_rfl

/-! loop.example/depkernel/impl.ReduceSteps -/
theorem E_impl_ReduceSteps (n : Nat) (v0 : Int) (v1 : Int) (v2 : List T) (v3 : Int) : FF (n + 1) 39 [.agg [.int .i64 v0, .int .i64 v1, .fr (.ts v2)], .one (.int .i64 v3)] [] =
 ((FF n 75 [.agg [.int .i64 v0, .int .i64 v1, .fr (.ts v2)], .one (.int .i64 v3), .one (.fn 70 [])] []).bind fun x0 =>
 (rTerm x0.1 fun x1 x2 =>
 (rInt .i64 x2 fun x3 x4 =>
 (rInt .i64 x4 fun x5 x6 =>
 (nilV x6 (nilO x0.2
 (some ([.one (.int .i64 x3), .one (.int .i64 x5)], [])))))))) := by kernel_rfl

/-! loop.example/depkernel/impl.Convertible -/
theorem E_impl_Convertible (n : Nat) (v0 : Int) (v1 : Int) (v2 : List T) (v3 : Int) (v4 : Int) (v5 : List T) (v6 : Int) : FF (n + 1) 40 [.agg [.int .i64 v0, .int .i64 v1, .fr (.ts v2)], .agg [.int .i64 v3, .int .i64 v4, .fr (.ts v5)], .one (.int .i64 v6)] [] =
 ((FF n 31 [.agg [.int .i64 v0, .int .i64 v1, .fr (.ts v2)]] []).bind fun x0 =>
 (rBool x0.1 fun x1 x2 =>
 (nilV x2 (nilO x0.2
 ((cond ((!x1))
 (some ([.one (.int .i64 0)], []))
 (((FF n 31 [.agg [.int .i64 v3, .int .i64 v4, .fr (.ts v5)]] []).bind fun x3 =>
 (rBool x3.1 fun x4 x5 =>
 (nilV x5 (nilO x3.2
 ((cond ((!x4))
 (some ([.one (.int .i64 0)], []))
 (((FF n 63 [.one (.int .i64 v6), .one (.int .i64 0), .one (.int .i64 200)] []).bind fun x6 =>
 (rBool x6.1 fun x7 x8 =>
 (nilV x8 (nilO x6.2
 ((cond ((!x7))
 (some ([.one (.int .i64 0)], []))
 (((FF n 18 [.agg [.int .i64 v0, .int .i64 v1, .fr (.ts v2)], .agg [.int .i64 v3, .int .i64 v4, .fr (.ts v5)]] []).bind fun x9 =>
 (rBool x9.1 fun x10 x11 =>
 (nilV x11 (nilO x9.2
 ((cond (x10)
 (some ([.one (.int .i64 1)], []))
 (((FF n 36 [.agg [.int .i64 v0, .int .i64 v1, .fr (.ts v2)], .one (.int .i64 v6)] []).bind fun x12 =>
 (rTerm x12.1 fun x13 x14 =>
 (rInt .i64 x14 fun x15 x16 =>
 (nilV x16 (nilO x12.2
 (((FF n 36 [.agg [.int .i64 v3, .int .i64 v4, .fr (.ts v5)], .one (.int .i64 v6)] []).bind fun x17 =>
 (rTerm x17.1 fun x18 x19 =>
 (rInt .i64 x19 fun x20 x21 =>
 (nilV x21 (nilO x17.2
 ((cond ((!decide (x15 = 0)))
 (some ([.one (.int .i64 3)], []))
 ((cond ((!decide (x20 = 0)))
 (some ([.one (.int .i64 3)], []))
 (((FF n 18 [.agg [.int .i64 (x13).k, .int .i64 (x13).n, .fr (.ts (x13).kids)], .agg [.int .i64 (x18).k, .int .i64 (x18).n, .fr (.ts (x18).kids)]] []).bind fun x22 =>
 (rBool x22.1 fun x23 x24 =>
 (nilV x24 (nilO x22.2
 ((cond (x23)
 (some ([.one (.int .i64 1)], []))
 (some ([.one (.int .i64 2)], [])))))))))))))))))))))))))))))))))))))))))))))))))))) := by kernel_rfl

/-! loop.example/depkernel/spec.DrawConvertible -/
theorem E_spec_DrawConvertible (n : Nat) (v0 : List UInt8) : FF (n + 1) 41 [.one (.fr (.bs v0))] [] =
 ((FF n 43 [.one (.fr (.bs v0))] []).bind fun x0 =>
 (rPtr 0 x0.1 fun x1 =>
 (objC x0.2 fun x2 x3 =>
 (bsC x2 fun x4 x5 =>
 (intC .i64 x5 fun x6 x7 =>
 (nilC x7
 ((nilV x1 (nilO x3
 (((FF n 45 [.one (.ptr 0 0)] [.cells [.fr (.bs x4), .int .i64 x6]]).bind fun x8 =>
 (objC x8.2 fun x9 x10 =>
 (bsC x9 fun x11 x12 =>
 (intC .i64 x12 fun x13 x14 =>
 (nilC x14
 ((rTerm x8.1 fun x15 x16 =>
 (nilV x16 (nilO x10
 (((FF n 45 [.one (.ptr 0 0)] [.cells [.fr (.bs x11), .int .i64 x13]]).bind fun x17 =>
 (objC x17.2 fun x18 x19 =>
 (bsC x18 fun x20 x21 =>
 (intC .i64 x21 fun x22 x23 =>
 (nilC x23
 ((rTerm x17.1 fun x24 x25 =>
 (nilV x25 (nilO x19
 (((FF n 61 [.one (.ptr 0 0), .one (.int .i64 2)] [.cells [.fr (.bs x20), .int .i64 x22]]).bind fun x26 =>
 (objC x26.2 fun x27 x28 =>
 (bsC x27 fun x29 x30 =>
 (intC .i64 x30 fun x31 x32 =>
 (nilC x32
 ((rInt .i64 x26.1 fun x33 x34 =>
 (nilV x34 (nilO x28
 ((cond ((decide (x33 = 0)))
 (((FF n 46 [.one (.ptr 0 0), .one (.fr (.is [1, 2, 40, 5]))] [.cells [.fr (.bs x29), .int .i64 x31]]).bind fun x35 =>
 (objC x35.2 fun x36 x37 =>
 (bsC x36 fun x38 x39 =>
 (intC .i64 x39 fun x40 x41 =>
 (nilC x41
 ((rInt .i64 x35.1 fun x42 x43 =>
 (nilV x43 (nilO x37
 (((FF n 61 [.one (.ptr 0 0), .one (.int .i64 2)] [.cells [.fr (.bs x38), .int .i64 x40]]).bind fun x44 =>
 (objC x44.2 fun x45 x46 =>
 (bsC x45 fun x47 x48 =>
 (intC .i64 x48 fun x49 x50 =>
 (nilC x50
 ((rInt .i64 x44.1 fun x51 x52 =>
 (nilV x52 (nilO x46
 (((FF n 77 [.agg [.int .i64 (x15).k, .int .i64 (x15).n, .fr (.ts (x15).kids)], .one (.int .i64 x42), .one (.bool (decide (x51 = 0)))] []).bind fun x53 =>
 (rTerm x53.1 fun x54 x55 =>
 (rInt .i64 x55 fun x56 x57 =>
 (nilV x57 (nilO x53.2
 ((cond ((decide (x56 = 0)))
 (((FF n 44 [.one (.ptr 0 0), .agg [.int .i64 (x15).k, .int .i64 (x15).n, .fr (.ts (x15).kids)]] [.cells [.fr (.bs x47), .int .i64 x49]]).bind fun x58 =>
 (objC x58.2 fun x59 x60 =>
 (bsC x59 fun x61 x62 =>
 (intC .i64 x62 fun x63 x64 =>
 (nilC x64
 ((rTerm x58.1 fun x65 x66 =>
 (nilV x66 (nilO x60
 (((FF n 44 [.one (.ptr 0 0), .agg [.int .i64 (x54).k, .int .i64 (x54).n, .fr (.ts (x54).kids)]] [.cells [.fr (.bs x61), .int .i64 x63]]).bind fun x67 =>
 (objC x67.2 fun x68 x69 =>
 (bsC x68 fun x70 x71 =>
 (intC .i64 x71 fun x72 x73 =>
 (nilC x73
 ((rTerm x67.1 fun x74 x75 =>
 (nilV x75 (nilO x69
 (((FF n 78 [.one (.ptr 0 0)] [.cells [.fr (.bs x70), .int .i64 x72]]).bind fun x76 =>
 (objC x76.2 fun x77 x78 =>
 (bsC x77 fun x79 x80 =>
 (intC .i64 x80 fun x81 x82 =>
 (nilC x82
 ((rInt .i64 x76.1 fun x83 x84 =>
 (nilV x84 (nilO x78
 (some ([.agg [.int .i64 (x65).k, .int .i64 (x65).n, .fr (.ts (x65).kids)], .agg [.int .i64 (x74).k, .int .i64 (x74).n, .fr (.ts (x74).kids)], .one (.int .i64 x83)], []))))))))))))))))))))))))))))))))
 (((FF n 44 [.one (.ptr 0 0), .agg [.int .i64 (x15).k, .int .i64 (x15).n, .fr (.ts (x15).kids)]] [.cells [.fr (.bs x47), .int .i64 x49]]).bind fun x58 =>
 (objC x58.2 fun x59 x60 =>
 (bsC x59 fun x61 x62 =>
 (intC .i64 x62 fun x63 x64 =>
 (nilC x64
 ((rTerm x58.1 fun x65 x66 =>
 (nilV x66 (nilO x60
 (((FF n 44 [.one (.ptr 0 0), .agg [.int .i64 (x15).k, .int .i64 (x15).n, .fr (.ts (x15).kids)]] [.cells [.fr (.bs x61), .int .i64 x63]]).bind fun x67 =>
 (objC x67.2 fun x68 x69 =>
 (bsC x68 fun x70 x71 =>
 (intC .i64 x71 fun x72 x73 =>
 (nilC x73
 ((rTerm x67.1 fun x74 x75 =>
 (nilV x75 (nilO x69
 (((FF n 78 [.one (.ptr 0 0)] [.cells [.fr (.bs x70), .int .i64 x72]]).bind fun x76 =>
 (objC x76.2 fun x77 x78 =>
 (bsC x77 fun x79 x80 =>
 (intC .i64 x80 fun x81 x82 =>
 (nilC x82
 ((rInt .i64 x76.1 fun x83 x84 =>
 (nilV x84 (nilO x78
 (some ([.agg [.int .i64 (x65).k, .int .i64 (x65).n, .fr (.ts (x65).kids)], .agg [.int .i64 (x74).k, .int .i64 (x74).n, .fr (.ts (x74).kids)], .one (.int .i64 x83)], []))))))))))))))))))))))))))))))))))))))))))))))))))))))))))))
 (((FF n 44 [.one (.ptr 0 0), .agg [.int .i64 (x15).k, .int .i64 (x15).n, .fr (.ts (x15).kids)]] [.cells [.fr (.bs x29), .int .i64 x31]]).bind fun x35 =>
 (objC x35.2 fun x36 x37 =>
 (bsC x36 fun x38 x39 =>
 (intC .i64 x39 fun x40 x41 =>
 (nilC x41
 ((rTerm x35.1 fun x42 x43 =>
 (nilV x43 (nilO x37
 (((FF n 44 [.one (.ptr 0 0), .agg [.int .i64 (x24).k, .int .i64 (x24).n, .fr (.ts (x24).kids)]] [.cells [.fr (.bs x38), .int .i64 x40]]).bind fun x44 =>
 (objC x44.2 fun x45 x46 =>
 (bsC x45 fun x47 x48 =>
 (intC .i64 x48 fun x49 x50 =>
 (nilC x50
 ((rTerm x44.1 fun x51 x52 =>
 (nilV x52 (nilO x46
 (((FF n 78 [.one (.ptr 0 0)] [.cells [.fr (.bs x47), .int .i64 x49]]).bind fun x53 =>
 (objC x53.2 fun x54 x55 =>
 (bsC x54 fun x56 x57 =>
 (intC .i64 x57 fun x58 x59 =>
 (nilC x59
 ((rInt .i64 x53.1 fun x60 x61 =>
 (nilV x61 (nilO x55
 (some ([.agg [.int .i64 (x42).k, .int .i64 (x42).n, .fr (.ts (x42).kids)], .agg [.int .i64 (x51).k, .int .i64 (x51).n, .fr (.ts (x51).kids)], .one (.int .i64 x60)], []))))))))))))))))))))))))))))))))))))))))))))))))))))))))))))))))))))))))) := by kernel_rfl

/-! loop.example/depkernel/spec.Convertible -/
theorem E_spec_Convertible (n : Nat) (v0 : Int) (v1 : Int) (v2 : List T) (v3 : Int) (v4 : Int) (v5 : List T) (v6 : Int) : FF (n + 1) 42 [.agg [.int .i64 v0, .int .i64 v1, .fr (.ts v2)], .agg [.int .i64 v3, .int .i64 v4, .fr (.ts v5)], .one (.int .i64 v6)] [] =
 ((FF n 79 [.agg [.int .i64 v0, .int .i64 v1, .fr (.ts v2)], .one (.int .i64 v6)] []).bind fun x0 =>
 (rBool x0.1 fun x1 x2 =>
 (nilV x2 (nilO x0.2
 ((cond ((!x1))
 (some ([.one (.int .i64 0)], []))
 (((FF n 79 [.agg [.int .i64 v3, .int .i64 v4, .fr (.ts v5)], .one (.int .i64 v6)] []).bind fun x3 =>
 (rBool x3.1 fun x4 x5 =>
 (nilV x5 (nilO x3.2
 ((cond ((!x4))
 (some ([.one (.int .i64 0)], []))
 (((FF n 80 [.agg [.int .i64 v0, .int .i64 v1, .fr (.ts v2)], .agg [.int .i64 v3, .int .i64 v4, .fr (.ts v5)], .one (.int .i64 v6)] []).bind fun x6 =>
 (rInt .i64 x6.1 fun x7 x8 =>
 (nilV x8 (nilO x6.2
 (some ([.one (.int .i64 x7)], [])))))))))))))))))))) := by kernel_rfl

/-! loop.example/depkernel/spec.l19Open -/
theorem E_spec_l19Open (n : Nat) (v0 : List UInt8) : FF (n + 1) 43 [.one (.fr (.bs v0))] [] =
 (cond ((decide (2000 < ((v0).length : Int))))
 ((cond (Go.Ab.inB 0 2000 (v0).length)
 (some ([.one (.ptr 0 0)], [.cells [.fr (.bs (((v0).take (2000 : Int).toNat).drop (0 : Int).toNat)), .int .i64 0]]))
 (none)))
 (some ([.one (.ptr 0 0)], [.cells [.fr (.bs v0), .int .i64 0]]))) := by kernel_rfl

/-! loop.example/depkernel/spec.l3Draw -/
theorem E_spec_l3Draw (n : Nat) (v0 : List UInt8) (v1 : Int) : FF (n + 1) 45 [.one (.ptr 0 0)] [.cells [.fr (.bs v0), .int .i64 v1]] =
 ((FF n 83 [] []).bind fun x0 =>
 (rStr x0.1 fun x1 x2 =>
 (nilV x2 (nilO x0.2
 ((cond (decide (((bytesOf [40])).size + (x1).size ≤ 9223372036854775807))
 ((cond (decide ((((bytesOf [40]) ++ x1)).size + ((bytesOf [32, 43, 43, 48, 41])).size ≤ 9223372036854775807))
 (((FF n 83 [] []).bind fun x3 =>
 (rStr x3.1 fun x4 x5 =>
 (nilV x5 (nilO x3.2
 ((cond (decide (((bytesOf [40, 40])).size + (x4).size ≤ 9223372036854775807))
 ((cond (decide ((((bytesOf [40, 40]) ++ x4)).size + ((bytesOf [32, 43, 43, 48, 41, 32, 43, 48, 41])).size ≤ 9223372036854775807))
 (((FF n 82 [.one (.ptr 0 0), .one (.fr (.ss [(((bytesOf [40]) ++ x1) ++ (bytesOf [32, 43, 43, 48, 41])), (((bytesOf [40, 40]) ++ x4) ++ (bytesOf [32, 43, 43, 48, 41, 32, 43, 48, 41])), (bytesOf [40, 91, 78, 93, 43, 35, 48, 32, 40, 91, 78, 93, 43, 43, 35, 48, 32, 48, 41, 41]), (bytesOf [94, 124, 40, 78, 42, 78, 41, 44, 40, 91, 78, 93, 35, 48, 32, 48, 41, 44, 43, 48, 124]), (bytesOf [95, 124, 40, 78, 42, 78, 41, 44, 48, 44, 40, 91, 78, 93, 43, 35, 48, 32, 48, 41, 124]), (bytesOf [64, 60, 91, 78, 93, 123, 78, 44, 48, 44, 35, 48, 125, 44, 33, 48, 44, 33, 48, 62]), (bytesOf [40, 91, 42, 48, 93, 91, 35, 48, 93, 35, 48, 32, 78, 41]), (bytesOf [40, 91, 78, 93, 40, 35, 48, 32, 35, 48, 41, 32, 91, 78, 93, 35, 48, 41]), (bytesOf [40, 91, 78, 93, 40, 35, 48, 32, 35, 48, 41, 32, 91, 78, 93, 40, 35, 48, 32, 35, 48, 41, 41]), (bytesOf [60, 91, 78, 93, 42, 48, 44, 78, 44, 91, 78, 93, 91, 42, 48, 93, 40, 78, 62, 35, 49, 41, 44, 43, 43, 43, 48, 62]), (bytesOf [91, 78, 93, 40, 91, 78, 93, 40, 35, 48, 32, 35, 49, 41, 32, 35, 48, 41]), (bytesOf [40, 40, 91, 40, 78, 62, 78, 41, 93, 91, 78, 93, 40, 35, 49, 32, 40, 35, 49, 32, 35, 48, 41, 41, 32, 91, 78, 93, 43, 35, 48, 41, 32, 35, 48, 41]), (bytesOf [60, 91, 78, 93, 78, 44, 48, 44, 91, 78, 93, 91, 78, 93, 35, 49, 44, 40, 91, 78, 93, 43, 35, 48, 32, 35, 50, 41, 62])]))] [.cells [.fr (.bs v0), .int .i64 v1]]).bind fun x6 =>
 (objC x6.2 fun x7 x8 =>
 (bsC x7 fun x9 x10 =>
 (intC .i64 x10 fun x11 x12 =>
 (nilC x12
 ((rStr x6.1 fun x13 x14 =>
 (nilV x14 (nilO x8
 (((FF n 84 [.one (.str x13)] []).bind fun x15 =>
 (rTerm x15.1 fun x16 x17 =>
 (rBool x17 fun x18 x19 =>
 (nilV x19 (nilO x15.2
 ((cond (x18)
 (((FF n 61 [.one (.ptr 0 0), .one (.int .i64 3)] [.cells [.fr (.bs x9), .int .i64 x11]]).bind fun x20 =>
 (objC x20.2 fun x21 x22 =>
 (bsC x21 fun x23 x24 =>
 (intC .i64 x24 fun x25 x26 =>
 (nilC x26
 ((rInt .i64 x20.1 fun x27 x28 =>
 (nilV x28 (nilO x22
 ((cond ((decide (0 < x27)))
 (some ([.agg [.int .i64 (x16).k, .int .i64 (x16).n, .fr (.ts (x16).kids)]], [.cells [.fr (.bs x23), .int .i64 x25]]))
 (((FF n 62 [.one (.ptr 0 0)] [.cells [.fr (.bs x23), .int .i64 x25]]).bind fun x29 =>
 (objC x29.2 fun x30 x31 =>
 (bsC x30 fun x32 x33 =>
 (intC .i64 x33 fun x34 x35 =>
 (nilC x35
 ((rTerm x29.1 fun x36 x37 =>
 (nilV x37 (nilO x31
 (some ([.agg [.int .i64 (x36).k, .int .i64 (x36).n, .fr (.ts (x36).kids)]], [.cells [.fr (.bs x32), .int .i64 x34]]))))))))))))))))))))))))
 (((FF n 62 [.one (.ptr 0 0)] [.cells [.fr (.bs x9), .int .i64 x11]]).bind fun x20 =>
 (objC x20.2 fun x21 x22 =>
 (bsC x21 fun x23 x24 =>
 (intC .i64 x24 fun x25 x26 =>
 (nilC x26
 ((rTerm x20.1 fun x27 x28 =>
 (nilV x28 (nilO x22
 (some ([.agg [.int .i64 (x27).k, .int .i64 (x27).n, .fr (.ts (x27).kids)]], [.cells [.fr (.bs x23), .int .i64 x25]]))))))))))))))))))))))))))))))
 (none)))
 (none))))))))
 (none)))
 (none))))))) := by kernel_rfl

/-! loop.example/depkernel/spec.l1Mutate -/
theorem E_spec_l1Mutate (n : Nat) (v0 : Int) (v1 : Int) (v2 : List T) (v3 : List UInt8) (v4 : Int) : FF (n + 1) 44 [.one (.ptr 0 0), .agg [.int .i64 v0, .int .i64 v1, .fr (.ts v2)]] [.cells [.fr (.bs v3), .int .i64 v4]] =
 ((FF n 54 [.agg [.int .i64 v0, .int .i64 v1, .fr (.ts v2)]] []).bind fun x0 =>
 (rOwnT 0 x0.1 fun x1 x2 x3 =>
 (arrTsC 25 x0.2 fun x4 x5 =>
 (nilV x3 (nilO x5
 (((FF n 61 [.one (.ptr 0 0), .one (.int .i64 50)] [.cells [.fr (.bs v3), .int .i64 v4]]).bind fun x6 =>
 (objC x6.2 fun x7 x8 =>
 (bsC x7 fun x9 x10 =>
 (intC .i64 x10 fun x11 x12 =>
 (nilC x12
 ((rInt .i64 x6.1 fun x13 x14 =>
 (nilV x14 (nilO x8
 ((cond ((decide (x13 = 0)))
 (((FF n 46 [.one (.ptr 0 0), .one (.fr (.is [0, 17, 1, 5, 6]))] [.cells [.fr (.bs x9), .int .i64 x11]]).bind fun x15 =>
 (objC x15.2 fun x16 x17 =>
 (bsC x16 fun x18 x19 =>
 (intC .i64 x19 fun x20 x21 =>
 (nilC x21
 ((rInt .i64 x15.1 fun x22 x23 =>
 (nilV x23 (nilO x17
 (some ([.agg [.int .i64 x22, .int .i64 x2, .fr (.ts x4)]], [.cells [.fr (.bs x18), .int .i64 x20]]))))))))))))
 ((cond ((decide (x13 = 1)))
 (((FF n 46 [.one (.ptr 0 0), .one (.fr (.is [21, (-1), 1, 9223372036854775807]))] [.cells [.fr (.bs x9), .int .i64 x11]]).bind fun x15 =>
 (objC x15.2 fun x16 x17 =>
 (bsC x16 fun x18 x19 =>
 (intC .i64 x19 fun x20 x21 =>
 (nilC x21
 ((rInt .i64 x15.1 fun x22 x23 =>
 (nilV x23 (nilO x17
 (some ([.agg [.int .i64 x1, .int .i64 x22, .fr (.ts x4)]], [.cells [.fr (.bs x18), .int .i64 x20]]))))))))))))
 ((cond ((decide (x13 = 2)))
 (((FF n 81 [.one (.int .i64 7), .one (.int .i64 0)] []).bind fun x15 =>
 (rTerm x15.1 fun x16 x17 =>
 (nilV x17 (nilO x15.2
 ((cond (roomB (x4 ++ [(T.mk (x16).k (x16).n (x16).kids)]).length)
 (some ([.agg [.int .i64 x1, .int .i64 x2, .fr (.ts (x4 ++ [(T.mk (x16).k (x16).n (x16).kids)]))]], [.cells [.fr (.bs x9), .int .i64 x11]]))
 (none))))))))
 ((cond ((decide (x13 = 3)))
 (((FF n 55 [.one (.int .i64 8), .one (.fr (.ts [(T.mk x1 x2 x4)]))] []).bind fun x15 =>
 (rTerm x15.1 fun x16 x17 =>
 (nilV x17 (nilO x15.2
 (some ([.agg [.int .i64 (x16).k, .int .i64 (x16).n, .fr (.ts (x16).kids)]], [.cells [.fr (.bs x9), .int .i64 x11]])))))))
 ((cond ((decide (x13 = 4)))
 ((cond ((decide (0 < ((x4).length : Int))))
 (((FF n 81 [.one (.int .i64 1), .one (.int .i64 25)] []).bind fun x15 =>
 (rTerm x15.1 fun x16 x17 =>
 (nilV x17 (nilO x15.2
 ((cond (decide (0 < ((x4).length : Int)))
 (some ([.agg [.int .i64 x1, .int .i64 x2, .fr (.ts ((x4).set (0 : Int).toNat (T.mk (x16).k (x16).n (x16).kids)))]], [.cells [.fr (.bs x9), .int .i64 x11]]))
 (none))))))))
 (some ([.agg [.int .i64 x1, .int .i64 x2, .fr (.ts x4)]], [.cells [.fr (.bs x9), .int .i64 x11]]))))
 (some ([.agg [.int .i64 x1, .int .i64 x2, .fr (.ts x4)]], [.cells [.fr (.bs x9), .int .i64 x11]]))))))))))))))))))))))))))) := by kernel_rfl

/-! (*loop.example/depkernel/spec.l19Rd).num -/
theorem E_spec_l19Rd_num (n : Nat) (v0 : List Int) (v1 : List UInt8) (v2 : Int) : FF (n + 1) 46 [.one (.ptr 0 0), .one (.fr (.is v0))] [.cells [.fr (.bs v1), .int .i64 v2]] =
 ((FF n 61 [.one (.ptr 0 0), .one (.int .i64 ((v0).length : Int))] [.cells [.fr (.bs v1), .int .i64 v2]]).bind fun x0 =>
 (objC x0.2 fun x1 x2 =>
 (bsC x1 fun x3 x4 =>
 (intC .i64 x4 fun x5 x6 =>
 (nilC x6
 ((rInt .i64 x0.1 fun x7 x8 =>
 (nilV x8 (nilO x2
 ((cond (decide (0 ≤ x7))
 (((v0)[(x7 : Int).toNat]?.bind fun x9 =>
 some ([.one (.int .i64 x9)], [.cells [.fr (.bs x3), .int .i64 x5]])))
 (none)))))))))))) := by kernel_rfl

end Go.Proofs.Ytmioieikbpemoaa
