/- What the program's functions come to in the abstract run. -/
import Derived.Test.YthjbllfcelkajaaSay
set_option linter.unusedVariables false
namespace Go.Proofs.Ythjbllfcelkajaa
open Go Go.Ab Go.Dk
/-! loop.example/depkernel/spec.l3With -/
noncomputable def L_spec_l3With_0_ffoo (n c : Nat) (v0 : Int) (v1 : Int) (v2 : Int) (v3 : Int) (v4 : List T) (v5 : Int) (v6 : Int) (v7 : List T) (v8 : Int) (v9 : Int) (v10 : List T) (v11 : Int) (v12 : Int) (v13 : List T) : OR := runLoop Try.prog SS n 99 0 [1, 1, 0, 1, 0] [] c ⟨[.v (.one (.any)), .v (.one (.int .i64 v0)), .v (.one (.any)), .v (.one (.ptr 0 0)), .v (.one (.any)), .v (.one (.ptr 1 0)), .v (.one (.ptr 2 0)), .v (.one (.ptr 4 0)), .v (.one (.int .i64 v1)), .v (.one (.any)), .v (.one (.any)), .v (.one (.any)), .v (.one (.any)), .v (.one (.any)), .v (.one (.any)), .v (.one (.any)), .v (.one (.any)), .v (.one (.any)), .v (.one (.any)), .v (.one (.any)), .v (.one (.any)), .v (.one (.any)), .v (.one (.any)), .v (.one (.any)), .v (.one (.any)), .v (.one (.any)), .v (.one (.any)), .v (.one (.any)), .v (.one (.any)), .v (.one (.any)), .v (.one (.any)), .v (.one (.any)), .v (.one (.any)), .v (.one (.any)), .v (.one (.any)), .v (.one (.any)), .v (.one (.any)), .v (.one (.any)), .v (.one (.any)), .v (.one (.any)), .v (.one (.any)), .v (.one (.any))],
  [.cells [.int .i64 v2, .int .i64 v3, .fr (.ts v4)], .cells [.int .i64 v5, .int .i64 v6, .fr (.ts v7)], .cells [.int .i64 v8, .int .i64 v9, .own 3 0], .arr 33 (.ts v10) 0 false, .cells [.int .i64 v11, .int .i64 v12, .own 5 0], .arr 33 (.ts v13) 0 false]⟩
theorem L_spec_l3With_0_ffoo_eq (n c : Nat) (v0 : Int) (v1 : Int) (v2 : Int) (v3 : Int) (v4 : List T) (v5 : Int) (v6 : Int) (v7 : List T) (v8 : Int) (v9 : Int) (v10 : List T) (v11 : Int) (v12 : Int) (v13 : List T) : L_spec_l3With_0_ffoo n (c + 1) v0 v1 v2 v3 v4 v5 v6 v7 v8 v9 v10 v11 v12 v13 =
 (cond ((decide (v1 < ((v4).length : Int))))
 ((cond ((decide (v1 = v0)))
 ((cond (roomB (v13 ++ [(T.mk v5 v6 v7)]).length)
 (L_spec_l3With_0_ffoo n c (v0 : Int) ((IntKind.i64.wrap (v1 + 1)) : Int) (v2 : Int) (v3 : Int) (v4 : List T) (v5 : Int) (v6 : Int) (v7 : List T) (v8 : Int) (v9 : Int) (v10 : List T) (v11 : Int) (v12 : Int) ((v13 ++ [(T.mk v5 v6 v7)]) : List T))
 (none)))
 ((cond (decide (0 ≤ v1))
 (((v4)[(v1 : Int).toNat]?.bind fun x0 =>
 ((FF n 62 [.agg [.int .i64 (x0).k, .int .i64 (x0).n, .fr (.ts (x0).kids)]] []).bind fun x1 =>
 (rOwnT 0 x1.1 fun x2 x3 x4 =>
 (arrTsC 33 x1.2 fun x5 x6 =>
 (nilV x4 (nilO x6
 ((cond (roomB (v13 ++ [(T.mk x2 x3 x5)]).length)
 (L_spec_l3With_0_ffoo n c (v0 : Int) ((IntKind.i64.wrap (v1 + 1)) : Int) (v2 : Int) (v3 : Int) (v4 : List T) (v5 : Int) (v6 : Int) (v7 : List T) (v8 : Int) (v9 : Int) (v10 : List T) (v11 : Int) (v12 : Int) ((v13 ++ [(T.mk x2 x3 x5)]) : List T))
 (none))))))))))
 (none)))))
 (some ([.agg [.int .i64 v11, .int .i64 v12, .fr (.ts v13)]], []))) := by kernel_rfl
theorem E_spec_l3With (n : Nat) (v0 : Int) (v1 : Int) (v2 : List T) (v3 : Int) (v4 : Int) (v5 : Int) (v6 : List T) : FF (n + 1) 99 [.agg [.int .i64 v0, .int .i64 v1, .fr (.ts v2)], .one (.int .i64 v3), .agg [.int .i64 v4, .int .i64 v5, .fr (.ts v6)]] [] =
 L_spec_l3With_0_ffoo n n (v3 : Int) (0 : Int) (v0 : Int) (v1 : Int) (v2 : List T) (v4 : Int) (v5 : Int) (v6 : List T) (0 : Int) (0 : Int) ([] : List T) (v0 : Int) (v1 : Int) ([] : List T) := by kernel_rfl

/-! slices.Clone[[]loop.example/depkernel/impl.Term,loop.example/depkernel/impl.Term] -/
theorem E_slices_Clone (n : Nat) (v0 : List T) : FF (n + 1) 100 [.one (.fr (.ts v0))] [] =
 (cond (Nat.beq (v0).length 0)
 ((same (some ([.one (.own 0 0)], [.arr 33 (.ts []) 0 false]))
 ((cond (roomB ([] ++ v0).length)
 (some ([.one (.own 0 0)], [.arr 33 (.ts ([] ++ v0)) 0 false]))
 (none)))))
 ((cond (roomB ([] ++ v0).length)
 (some ([.one (.own 0 0)], [.arr 33 (.ts ([] ++ v0)) 0 false]))
 (none)))) := by kernel_rfl

/-! loop.example/depkernel/spec.l2Subst -/
noncomputable def L_spec_l2Subst_0_ffoo (n c : Nat) (v0 : Int) (v1 : Int) (v2 : Int) (v3 : Int) (v4 : Int) (v5 : List T) (v6 : Int) (v7 : Int) (v8 : List T) (v9 : Int) (v10 : Int) (v11 : List T) (v12 : Int) (v13 : Int) (v14 : List T) : OR := runLoop Try.prog SS n 101 0 [1, 1, 1, 1, 0, 1, 0] [] c ⟨[.v (.one (.any)), .v (.one (.int .i64 v0)), .v (.one (.any)), .v (.one (.int .i64 v1)), .v (.one (.ptr 0 0)), .v (.one (.any)), .v (.one (.ptr 1 0)), .v (.one (.any)), .v (.one (.ptr 2 0)), .v (.one (.ptr 4 0)), .v (.one (.int .i64 v2)), .v (.one (.any)), .v (.one (.any)), .v (.one (.any)), .v (.one (.any)), .v (.one (.any)), .v (.one (.any)), .v (.one (.any)), .v (.one (.any)), .v (.one (.any)), .v (.one (.any)), .v (.one (.any)), .v (.one (.any)), .v (.one (.any)), .v (.one (.any)), .v (.one (.any)), .v (.one (.any)), .v (.one (.any)), .v (.one (.any)), .v (.one (.any)), .v (.one (.any)), .v (.one (.any)), .v (.one (.any)), .v (.one (.any)), .v (.one (.any)), .v (.one (.any)), .v (.one (.any)), .v (.one (.any)), .v (.one (.any)), .v (.one (.any)), .v (.one (.any)), .v (.one (.any)), .v (.one (.any)), .v (.one (.any)), .v (.one (.any)), .v (.one (.any)), .v (.one (.any)), .v (.one (.any)), .v (.one (.any)), .v (.one (.any)), .v (.one (.any)), .v (.one (.any)), .v (.one (.any)), .v (.one (.any)), .v (.one (.any)), .v (.one (.any)), .v (.one (.any)), .v (.one (.any)), .v (.one (.any)), .v (.one (.any)), .v (.one (.any)), .v (.one (.any)), .v (.one (.any)), .v (.one (.any)), .v (.one (.any)), .v (.one (.any)), .v (.one (.any)), .v (.one (.any)), .v (.one (.any)), .v (.one (.any)), .v (.one (.any)), .v (.one (.any))],
  [.cells [.int .i64 v3, .int .i64 v4, .fr (.ts v5)], .cells [.int .i64 v6, .int .i64 v7, .fr (.ts v8)], .cells [.int .i64 v9, .int .i64 v10, .own 3 0], .arr 33 (.ts v11) 0 false, .cells [.int .i64 v12, .int .i64 v13, .own 5 0], .arr 33 (.ts v14) 0 false]⟩
theorem L_spec_l2Subst_0_ffoo_eq (n c : Nat) (v0 : Int) (v1 : Int) (v2 : Int) (v3 : Int) (v4 : Int) (v5 : List T) (v6 : Int) (v7 : Int) (v8 : List T) (v9 : Int) (v10 : Int) (v11 : List T) (v12 : Int) (v13 : Int) (v14 : List T) : L_spec_l2Subst_0_ffoo n (c + 1) v0 v1 v2 v3 v4 v5 v6 v7 v8 v9 v10 v11 v12 v13 v14 =
 (cond ((decide (v2 < ((v5).length : Int))))
 (((FF n 68 [.one (.int .i64 v3), .one (.int .i64 v2)] []).bind fun x0 =>
 (rInt .i64 x0.1 fun x1 x2 =>
 (nilV x2 (nilO x0.2
 ((cond (decide (0 ≤ v2))
 (((v5)[(v2 : Int).toNat]?.bind fun x3 =>
 ((FF n 101 [.agg [.int .i64 (x3).k, .int .i64 (x3).n, .fr (.ts (x3).kids)], .one (.int .i64 (IntKind.i64.wrap (v0 + x1))), .agg [.int .i64 v6, .int .i64 v7, .fr (.ts v8)], .one (.int .i64 (IntKind.i64.wrap (v1 + x1)))] []).bind fun x4 =>
 (rTerm x4.1 fun x5 x6 =>
 (nilV x6 (nilO x4.2
 ((cond (roomB (v14 ++ [(T.mk (x5).k (x5).n (x5).kids)]).length)
 (L_spec_l2Subst_0_ffoo n c (v0 : Int) (v1 : Int) ((IntKind.i64.wrap (v2 + 1)) : Int) (v3 : Int) (v4 : Int) (v5 : List T) (v6 : Int) (v7 : Int) (v8 : List T) (v9 : Int) (v10 : Int) (v11 : List T) (v12 : Int) (v13 : Int) ((v14 ++ [(T.mk (x5).k (x5).n (x5).kids)]) : List T))
 (none)))))))))
 (none))))))))
 (some ([.agg [.int .i64 v12, .int .i64 v13, .fr (.ts v14)]], []))) := by kernel_rfl
theorem E_spec_l2Subst (n : Nat) (v0 : Int) (v1 : Int) (v2 : List T) (v3 : Int) (v4 : Int) (v5 : Int) (v6 : List T) (v7 : Int) : FF (n + 1) 101 [.agg [.int .i64 v0, .int .i64 v1, .fr (.ts v2)], .one (.int .i64 v3), .agg [.int .i64 v4, .int .i64 v5, .fr (.ts v6)], .one (.int .i64 v7)] [] =
 (cond ((decide (v0 = 1)))
 ((cond ((decide (v1 = v3)))
 (((FF n 110 [.agg [.int .i64 v4, .int .i64 v5, .fr (.ts v6)], .one (.int .i64 v7), .one (.int .i64 0)] []).bind fun x0 =>
 (rTerm x0.1 fun x1 x2 =>
 (nilV x2 (nilO x0.2
 (some ([.agg [.int .i64 (x1).k, .int .i64 (x1).n, .fr (.ts (x1).kids)]], [])))))))
 ((cond ((decide (v0 = 1)))
 ((cond ((decide (v3 < v1)))
 (L_spec_l2Subst_0_ffoo n n (v3 : Int) (v7 : Int) (0 : Int) (v0 : Int) (v1 : Int) (v2 : List T) (v4 : Int) (v5 : Int) (v6 : List T) (0 : Int) (0 : Int) ([] : List T) (v0 : Int) ((IntKind.i64.wrap (v1 - 1)) : Int) ([] : List T))
 (L_spec_l2Subst_0_ffoo n n (v3 : Int) (v7 : Int) (0 : Int) (v0 : Int) (v1 : Int) (v2 : List T) (v4 : Int) (v5 : Int) (v6 : List T) (0 : Int) (0 : Int) ([] : List T) (v0 : Int) (v1 : Int) ([] : List T))))
 (L_spec_l2Subst_0_ffoo n n (v3 : Int) (v7 : Int) (0 : Int) (v0 : Int) (v1 : Int) (v2 : List T) (v4 : Int) (v5 : Int) (v6 : List T) (0 : Int) (0 : Int) ([] : List T) (v0 : Int) (v1 : Int) ([] : List T))))))
 ((cond ((decide (v0 = 1)))
 ((cond ((decide (v3 < v1)))
 (L_spec_l2Subst_0_ffoo n n (v3 : Int) (v7 : Int) (0 : Int) (v0 : Int) (v1 : Int) (v2 : List T) (v4 : Int) (v5 : Int) (v6 : List T) (0 : Int) (0 : Int) ([] : List T) (v0 : Int) ((IntKind.i64.wrap (v1 - 1)) : Int) ([] : List T))
 (L_spec_l2Subst_0_ffoo n n (v3 : Int) (v7 : Int) (0 : Int) (v0 : Int) (v1 : Int) (v2 : List T) (v4 : Int) (v5 : Int) (v6 : List T) (0 : Int) (0 : Int) ([] : List T) (v0 : Int) (v1 : Int) ([] : List T))))
 (L_spec_l2Subst_0_ffoo n n (v3 : Int) (v7 : Int) (0 : Int) (v0 : Int) (v1 : Int) (v2 : List T) (v4 : Int) (v5 : Int) (v6 : List T) (0 : Int) (0 : Int) ([] : List T) (v0 : Int) (v1 : Int) ([] : List T))))) := by kernel_rfl

/-! loop.example/depkernel/impl.at -/
noncomputable def L_impl_at_0_fo (n c : Nat) (v0 : List Int) (v1 : Int) (v2 : Int) (v3 : Int) (v4 : Int) (v5 : List T) (v6 : Int) (v7 : Int) (v8 : List T) : OR := runLoop Try.prog SS n 103 0 [1, 0, 1, 0] [] c ⟨[.v (.one (.any)), .v (.one (.any)), .v (.one (.ptr 0 0)), .v (.one (.any)), .v (.one (.ptr 1 0)), .v (.one (.any)), .v (.one (.any)), .v (.one (.fr (.is v0))), .v (.one (.int .i64 v1)), .v (.one (.int .i64 v2)), .v (.one (.any)), .v (.one (.any)), .v (.one (.any)), .v (.one (.any)), .v (.one (.any)), .v (.one (.any)), .v (.one (.any)), .v (.one (.any)), .v (.one (.any)), .v (.one (.any))],
  [.cells [.int .i64 v3, .int .i64 v4, .fr (.ts v5)], .cells [.int .i64 v6, .int .i64 v7, .own 2 0], .arr 33 (.ts v8) 0 false]⟩
theorem L_impl_at_0_fo_eq (n c : Nat) (v0 : List Int) (v1 : Int) (v2 : Int) (v3 : Int) (v4 : Int) (v5 : List T) (v6 : Int) (v7 : Int) (v8 : List T) : L_impl_at_0_fo n (c + 1) v0 v1 v2 v3 v4 v5 v6 v7 v8 =
 (cond ((decide (v2 < v1)))
 ((cond (decide (0 ≤ v2))
 (((v0)[(v2 : Int).toNat]?.bind fun x0 =>
 (cond (decide (0 ≤ x0))
 (((v5)[(x0 : Int).toNat]?.bind fun x1 =>
 L_impl_at_0_fo n c (v0 : List Int) (v1 : Int) ((IntKind.i64.wrap (v2 + 1)) : Int) ((x1).k : Int) ((x1).n : Int) ((x1).kids : List T) (v6 : Int) (v7 : Int) (v8 : List T)))
 (none))))
 (none)))
 (some ([.agg [.int .i64 v3, .int .i64 v4, .fr (.ts v5)]], []))) := by kernel_rfl
theorem E_impl_at (n : Nat) (v0 : Int) (v1 : Int) (v2 : List T) (v3 : List Int) : FF (n + 1) 103 [.agg [.int .i64 v0, .int .i64 v1, .fr (.ts v2)], .one (.fr (.is v3))] [] =
 L_impl_at_0_fo n n (v3 : List Int) (((v3).length : Int) : Int) (0 : Int) (v0 : Int) (v1 : Int) (v2 : List T) (0 : Int) (0 : Int) ([] : List T) := by kernel_rfl

/-! loop.example/depkernel/impl.contract -/
theorem E_impl_contract (n : Nat) (v0 : Int) (v1 : Int) (v2 : List T) : FF (n + 1) 102 [.agg [.int .i64 v0, .int .i64 v1, .fr (.ts v2)]] [] =
 ((FF n 84 [.agg [.int .i64 v0, .int .i64 v1, .fr (.ts v2)]] []).bind fun x0 =>
 (rInt .i64 x0.1 fun x1 x2 =>
 (nilV x2 (nilO x0.2
 ((cond ((decide (x1 = 1)))
 (((v2)[(0 : Int).toNat]?.bind fun x3 =>
 (((x3).kids)[(1 : Int).toNat]?.bind fun x4 =>
 ((v2)[(1 : Int).toNat]?.bind fun x5 =>
 ((FF n 111 [.agg [.int .i64 (x4).k, .int .i64 (x4).n, .fr (.ts (x4).kids)], .one (.int .i64 0), .agg [.int .i64 (x5).k, .int .i64 (x5).n, .fr (.ts (x5).kids)]] []).bind fun x6 =>
 (rTerm x6.1 fun x7 x8 =>
 (rBool x8 fun x9 x10 =>
 (nilV x10 (nilO x6.2
 (some ([.agg [.int .i64 (x7).k, .int .i64 (x7).n, .fr (.ts (x7).kids)], .one (.bool x9)], [])))))))))))
 ((cond ((decide (x1 = 2)))
 (((v2)[(1 : Int).toNat]?.bind fun x3 =>
 ((FF n 64 [.agg [.int .i64 (x3).k, .int .i64 (x3).n, .fr (.ts (x3).kids)]] []).bind fun x4 =>
 (rTerm x4.1 fun x5 x6 =>
 (nilV x6 (nilO x4.2
 (((FF n 75 [.agg [.int .i64 (x5).k, .int .i64 (x5).n, .fr (.ts (x5).kids)]] []).bind fun x7 =>
 (rTerm x7.1 fun x8 x9 =>
 (rBool x9 fun x10 x11 =>
 (nilV x11 (nilO x7.2
 (some ([.agg [.int .i64 (x8).k, .int .i64 (x8).n, .fr (.ts (x8).kids)], .one (.bool x10)], []))))))))))))))
 ((cond ((decide (x1 = 3)))
 (((v2)[(0 : Int).toNat]?.bind fun x3 =>
 ((v2)[(1 : Int).toNat]?.bind fun x4 =>
 ((v2)[(2 : Int).toNat]?.bind fun x5 =>
 ((v2)[(3 : Int).toNat]?.bind fun x6 =>
 (((x6).kids)[(0 : Int).toNat]?.bind fun x7 =>
 ((FF n 74 [.one (.int .i64 5), .one (.fr (.ts [(T.mk (x5).k (x5).n (x5).kids), (T.mk (x7).k (x7).n (x7).kids)]))] []).bind fun x8 =>
 (rTerm x8.1 fun x9 x10 =>
 (nilV x10 (nilO x8.2
 (((FF n 74 [.one (.int .i64 9), .one (.fr (.ts [(T.mk (x3).k (x3).n (x3).kids), (T.mk (x4).k (x4).n (x4).kids), (T.mk (x5).k (x5).n (x5).kids), (T.mk (x7).k (x7).n (x7).kids)]))] []).bind fun x11 =>
 (rTerm x11.1 fun x12 x13 =>
 (nilV x13 (nilO x11.2
 (((FF n 74 [.one (.int .i64 5), .one (.fr (.ts [(T.mk (x9).k (x9).n (x9).kids), (T.mk (x12).k (x12).n (x12).kids)]))] []).bind fun x14 =>
 (rTerm x14.1 fun x15 x16 =>
 (nilV x16 (nilO x14.2
 (((FF n 64 [.agg [.int .i64 (x15).k, .int .i64 (x15).n, .fr (.ts (x15).kids)]] []).bind fun x17 =>
 (rTerm x17.1 fun x18 x19 =>
 (nilV x19 (nilO x17.2
 (((FF n 75 [.agg [.int .i64 (x18).k, .int .i64 (x18).n, .fr (.ts (x18).kids)]] []).bind fun x20 =>
 (rTerm x20.1 fun x21 x22 =>
 (rBool x22 fun x23 x24 =>
 (nilV x24 (nilO x20.2
 (some ([.agg [.int .i64 (x21).k, .int .i64 (x21).n, .fr (.ts (x21).kids)], .one (.bool x23)], [])))))))))))))))))))))))))))))))))
 ((cond ((decide (x1 = 4)))
 (((v2)[(2 : Int).toNat]?.bind fun x3 =>
 ((FF n 64 [.agg [.int .i64 (x3).k, .int .i64 (x3).n, .fr (.ts (x3).kids)]] []).bind fun x4 =>
 (rTerm x4.1 fun x5 x6 =>
 (nilV x6 (nilO x4.2
 (((FF n 75 [.agg [.int .i64 (x5).k, .int .i64 (x5).n, .fr (.ts (x5).kids)]] []).bind fun x7 =>
 (rTerm x7.1 fun x8 x9 =>
 (rBool x9 fun x10 x11 =>
 (nilV x11 (nilO x7.2
 (some ([.agg [.int .i64 (x8).k, .int .i64 (x8).n, .fr (.ts (x8).kids)], .one (.bool x10)], []))))))))))))))
 ((cond ((decide (x1 = 5)))
 (((v2)[(0 : Int).toNat]?.bind fun x3 =>
 (((x3).kids)[(1 : Int).toNat]?.bind fun x4 =>
 ((FF n 64 [.agg [.int .i64 (x4).k, .int .i64 (x4).n, .fr (.ts (x4).kids)]] []).bind fun x5 =>
 (rTerm x5.1 fun x6 x7 =>
 (nilV x7 (nilO x5.2
 (((FF n 75 [.agg [.int .i64 (x6).k, .int .i64 (x6).n, .fr (.ts (x6).kids)]] []).bind fun x8 =>
 (rTerm x8.1 fun x9 x10 =>
 (rBool x10 fun x11 x12 =>
 (nilV x12 (nilO x8.2
 (some ([.agg [.int .i64 (x9).k, .int .i64 (x9).n, .fr (.ts (x9).kids)], .one (.bool x11)], [])))))))))))))))
 ((cond ((decide (x1 = 6)))
 (((v2)[(0 : Int).toNat]?.bind fun x3 =>
 (((x3).kids)[(2 : Int).toNat]?.bind fun x4 =>
 ((FF n 64 [.agg [.int .i64 (x4).k, .int .i64 (x4).n, .fr (.ts (x4).kids)]] []).bind fun x5 =>
 (rTerm x5.1 fun x6 x7 =>
 (nilV x7 (nilO x5.2
 (((FF n 75 [.agg [.int .i64 (x6).k, .int .i64 (x6).n, .fr (.ts (x6).kids)]] []).bind fun x8 =>
 (rTerm x8.1 fun x9 x10 =>
 (rBool x10 fun x11 x12 =>
 (nilV x12 (nilO x8.2
 (some ([.agg [.int .i64 (x9).k, .int .i64 (x9).n, .fr (.ts (x9).kids)], .one (.bool x11)], [])))))))))))))))
 (some ([.agg [.int .i64 0, .int .i64 0, .fr (.ts [])], .one (.bool false)], [])))))))))))))))))) := by kernel_rfl

/-! loop.example/depkernel/spec.l1Kids -/
theorem E_spec_l1Kids (n : Nat) (v0 : Int) : FF (n + 1) 104 [.one (.int .i64 v0)] [] =
 (cond ((decide (v0 = 1)))
 (some ([.one (.int .i64 0)], []))
 ((cond ((decide (v0 = 2)))
 (some ([.one (.int .i64 0)], []))
 ((cond ((decide (v0 = 6)))
 (some ([.one (.int .i64 0)], []))
 ((cond ((decide (v0 = 7)))
 (some ([.one (.int .i64 0)], []))
 ((cond ((decide (v0 = 8)))
 (some ([.one (.int .i64 1)], []))
 ((cond ((decide (v0 = 11)))
 (some ([.one (.int .i64 1)], []))
 ((cond ((decide (v0 = 15)))
 (some ([.one (.int .i64 1)], []))
 ((cond ((decide (v0 = 16)))
 (some ([.one (.int .i64 1)], []))
 ((cond ((decide (v0 = 3)))
 (some ([.one (.int .i64 2)], []))
 ((cond ((decide (v0 = 4)))
 (some ([.one (.int .i64 2)], []))
 ((cond ((decide (v0 = 5)))
 (some ([.one (.int .i64 2)], []))
 ((cond ((decide (v0 = 13)))
 (some ([.one (.int .i64 2)], []))
 ((cond ((decide (v0 = 10)))
 (some ([.one (.int .i64 3)], []))
 ((cond ((decide (v0 = 12)))
 (some ([.one (.int .i64 3)], []))
 ((cond ((decide (v0 = 14)))
 (some ([.one (.int .i64 3)], []))
 ((cond ((decide (v0 = 9)))
 (some ([.one (.int .i64 4)], []))
 (some ([.one (.int .i64 (-1))], []))))))))))))))))))))))))))))))))) := by kernel_rfl

/-! loop.example/depkernel/spec.l1Most -/
theorem E_spec_l1Most (n : Nat) (v0 : Int) : FF (n + 1) 105 [.one (.int .i64 v0)] [] =
 (cond ((decide (v0 = 1)))
 (some ([.one (.int .i64 20)], []))
 ((cond ((decide (v0 = 2)))
 (some ([.one (.int .i64 3)], []))
 (some ([.one (.int .i64 0)], []))))) := by kernel_rfl

/-! loop.example/depkernel/impl.operands -/
theorem E_impl_operands (n : Nat) (v0 : Int) : FF (n + 1) 106 [.one (.int .i64 v0)] [] =
 ((FF n 59 [.one (.int .i64 v0), .one (.int .i64 1), .one (.int .i64 16)] []).bind fun x0 =>
 (rBool x0.1 fun x1 x2 =>
 (nilV x2 (nilO x0.2
 ((cond ((!x1))
 (some ([.one (.int .i64 (-1))], []))
 ((cond (decide (0 ≤ (IntKind.i64.wrap (v0 - 1))))
 ((cond (decide ((IntKind.i64.wrap (v0 - 1)) < (([0, 0, 2, 2, 2, 0, 0, 1, 4, 3, 1, 3, 2, 3, 1, 1]).length : Int)))
 ((([0, 0, 2, 2, 2, 0, 0, 1, 4, 3, 1, 3, 2, 3, 1, 1])[((IntKind.i64.wrap (v0 - 1)) : Int).toNat]?.bind fun x3 =>
 some ([.one (.int .i64 x3)], [])))
 (none)))
 (none))))))))) := by kernel_rfl

/-! loop.example/depkernel/impl.most -/
theorem E_impl_most (n : Nat) (v0 : Int) : FF (n + 1) 107 [.one (.int .i64 v0)] [] =
 (cond ((decide (v0 = 1)))
 (some ([.one (.int .i64 20)], []))
 ((cond ((decide (v0 = 2)))
 (some ([.one (.int .i64 3)], []))
 (some ([.one (.int .i64 0)], []))))) := by kernel_rfl

/-! slices.IndexFunc[[]loop.example/depkernel/impl.Term,loop.example/depkernel/impl.Term] -/
noncomputable def L_slices_IndexFunc_impl_areTerms_1_0 (n c : Nat) (v0 : List T) (v1 : Int) (v2 : Int) : OR := runLoop Try.prog SS n 109 0 [1, 0, 1, 0] [] c ⟨[.v (.one (.fr (.ts v0))), .v (.one (.fn 97 [])), .v (.one (.any)), .v (.one (.any)), .v (.one (.any)), .v (.one (.any)), .v (.one (.any)), .v (.one (.int .i64 v1)), .v (.one (.int .i64 v2)), .v (.one (.any)), .v (.one (.any)), .v (.one (.any)), .v (.one (.any)), .v (.one (.any)), .v (.one (.any)), .v (.one (.any)), .v (.one (.any)), .v (.one (.any)), .v (.one (.any))],
  []⟩
theorem L_slices_IndexFunc_impl_areTerms_1_0_eq (n c : Nat) (v0 : List T) (v1 : Int) (v2 : Int) : L_slices_IndexFunc_impl_areTerms_1_0 n (c + 1) v0 v1 v2 =
 (cond ((decide (v2 < v1)))
 ((cond (decide (0 ≤ v2))
 (((v0)[(v2 : Int).toNat]?.bind fun x0 =>
 ((FF n 97 [.agg [.int .i64 (x0).k, .int .i64 (x0).n, .fr (.ts (x0).kids)]] []).bind fun x1 =>
 (rBool x1.1 fun x2 x3 =>
 (nilV x3 (nilO x1.2
 ((cond (x2)
 (some ([.one (.int .i64 v2)], []))
 (L_slices_IndexFunc_impl_areTerms_1_0 n c (v0 : List T) (v1 : Int) ((IntKind.i64.wrap (v2 + 1)) : Int))))))))))
 (none)))
 (some ([.one (.int .i64 (-1))], []))) := by kernel_rfl
theorem E_slices_IndexFunc_impl_areTerms_1 (n : Nat) (v0 : List T) : FF (n + 1) 109 [.one (.fr (.ts v0)), .one (.fn 97 [])] [] =
 L_slices_IndexFunc_impl_areTerms_1_0 n n (v0 : List T) (((v0).length : Int) : Int) (0 : Int) := by kernel_rfl

/-! loop.example/depkernel/impl.isBinder -/
theorem E_impl_isBinder (n : Nat) (v0 : Int) : FF (n + 1) 108 [.one (.int .i64 v0)] [] =
 (cond ((decide (v0 = 3)))
 (some ([.one (.bool true)], []))
 ((cond ((decide (v0 = 4)))
 (some ([.one (.bool true)], []))
 (some ([.one (.bool (decide (v0 = 13)))], []))))) := by kernel_rfl

/-! slices.Clone[[]int,int] -/
theorem E_slices_CloneI (n : Nat) (v0 : List Int) : FF (n + 1) 98 [.one (.fr (.is v0))] [] =
 (cond (Nat.beq (v0).length 0)
 ((same (some ([.one (.own 0 0)], [.arr 3 (.is []) 0 false]))
 ((cond (roomB ([] ++ v0).length)
 (some ([.one (.own 0 0)], [.arr 3 (.is ([] ++ v0)) 0 false]))
 (none)))))
 ((cond (roomB ([] ++ v0).length)
 (some ([.one (.own 0 0)], [.arr 3 (.is ([] ++ v0)) 0 false]))
 (none)))) := by kernel_rfl

/-! loop.example/depkernel/spec.l2Shift -/
noncomputable def L_spec_l2Shift_0_foo (n c : Nat) (v0 : Int) (v1 : Int) (v2 : Int) (v3 : Int) (v4 : Int) (v5 : List T) (v6 : Int) (v7 : Int) (v8 : List T) (v9 : Int) (v10 : Int) (v11 : List T) : OR := runLoop Try.prog SS n 110 0 [1, 1, 1, 0, 1, 0] [] c ⟨[.v (.one (.any)), .v (.one (.int .i64 v0)), .v (.one (.int .i64 v1)), .v (.one (.ptr 0 0)), .v (.one (.any)), .v (.one (.any)), .v (.one (.ptr 1 0)), .v (.one (.ptr 3 0)), .v (.one (.int .i64 v2)), .v (.one (.any)), .v (.one (.any)), .v (.one (.any)), .v (.one (.any)), .v (.one (.any)), .v (.one (.any)), .v (.one (.any)), .v (.one (.any)), .v (.one (.any)), .v (.one (.any)), .v (.one (.any)), .v (.one (.any)), .v (.one (.any)), .v (.one (.any)), .v (.one (.any)), .v (.one (.any)), .v (.one (.any)), .v (.one (.any)), .v (.one (.any)), .v (.one (.any)), .v (.one (.any)), .v (.one (.any)), .v (.one (.any)), .v (.one (.any)), .v (.one (.any)), .v (.one (.any)), .v (.one (.any)), .v (.one (.any)), .v (.one (.any)), .v (.one (.any)), .v (.one (.any)), .v (.one (.any)), .v (.one (.any)), .v (.one (.any)), .v (.one (.any)), .v (.one (.any)), .v (.one (.any)), .v (.one (.any)), .v (.one (.any)), .v (.one (.any)), .v (.one (.any)), .v (.one (.any)), .v (.one (.any)), .v (.one (.any)), .v (.one (.any))],
  [.cells [.int .i64 v3, .int .i64 v4, .fr (.ts v5)], .cells [.int .i64 v6, .int .i64 v7, .own 2 0], .arr 33 (.ts v8) 0 false, .cells [.int .i64 v9, .int .i64 v10, .own 4 0], .arr 33 (.ts v11) 0 false]⟩
theorem L_spec_l2Shift_0_foo_eq (n c : Nat) (v0 : Int) (v1 : Int) (v2 : Int) (v3 : Int) (v4 : Int) (v5 : List T) (v6 : Int) (v7 : Int) (v8 : List T) (v9 : Int) (v10 : Int) (v11 : List T) : L_spec_l2Shift_0_foo n (c + 1) v0 v1 v2 v3 v4 v5 v6 v7 v8 v9 v10 v11 =
 (cond ((decide (v2 < ((v5).length : Int))))
 ((cond (decide (0 ≤ v2))
 (((v5)[(v2 : Int).toNat]?.bind fun x0 =>
 ((FF n 68 [.one (.int .i64 v3), .one (.int .i64 v2)] []).bind fun x1 =>
 (rInt .i64 x1.1 fun x2 x3 =>
 (nilV x3 (nilO x1.2
 (((FF n 110 [.agg [.int .i64 (x0).k, .int .i64 (x0).n, .fr (.ts (x0).kids)], .one (.int .i64 v0), .one (.int .i64 (IntKind.i64.wrap (v1 + x2)))] []).bind fun x4 =>
 (rTerm x4.1 fun x5 x6 =>
 (nilV x6 (nilO x4.2
 ((cond (roomB (v11 ++ [(T.mk (x5).k (x5).n (x5).kids)]).length)
 (L_spec_l2Shift_0_foo n c (v0 : Int) (v1 : Int) ((IntKind.i64.wrap (v2 + 1)) : Int) (v3 : Int) (v4 : Int) (v5 : List T) (v6 : Int) (v7 : Int) (v8 : List T) (v9 : Int) (v10 : Int) ((v11 ++ [(T.mk (x5).k (x5).n (x5).kids)]) : List T))
 (none))))))))))))))
 (none)))
 (some ([.agg [.int .i64 v9, .int .i64 v10, .fr (.ts v11)]], []))) := by kernel_rfl
theorem E_spec_l2Shift (n : Nat) (v0 : Int) (v1 : Int) (v2 : List T) (v3 : Int) (v4 : Int) : FF (n + 1) 110 [.agg [.int .i64 v0, .int .i64 v1, .fr (.ts v2)], .one (.int .i64 v3), .one (.int .i64 v4)] [] =
 (cond ((decide (v0 = 1)))
 ((cond ((decide (v4 ≤ v1)))
 (L_spec_l2Shift_0_foo n n (v3 : Int) (v4 : Int) (0 : Int) (v0 : Int) (v1 : Int) (v2 : List T) (0 : Int) (0 : Int) ([] : List T) (v0 : Int) ((IntKind.i64.wrap (v1 + v3)) : Int) ([] : List T))
 (L_spec_l2Shift_0_foo n n (v3 : Int) (v4 : Int) (0 : Int) (v0 : Int) (v1 : Int) (v2 : List T) (0 : Int) (0 : Int) ([] : List T) (v0 : Int) (v1 : Int) ([] : List T))))
 (L_spec_l2Shift_0_foo n n (v3 : Int) (v4 : Int) (0 : Int) (v0 : Int) (v1 : Int) (v2 : List T) (0 : Int) (0 : Int) ([] : List T) (v0 : Int) (v1 : Int) ([] : List T))) := by kernel_rfl

/-! loop.example/depkernel/impl.subst -/
theorem E_impl_subst (n : Nat) (v0 : Int) (v1 : Int) (v2 : List T) (v3 : Int) (v4 : Int) (v5 : Int) (v6 : List T) : FF (n + 1) 111 [.agg [.int .i64 v0, .int .i64 v1, .fr (.ts v2)], .one (.int .i64 v3), .agg [.int .i64 v4, .int .i64 v5, .fr (.ts v6)]] [] =
 ((FF n 112 [.agg [.int .i64 v0, .int .i64 v1, .fr (.ts v2)], .one (.int .i64 0), .one (.fn 113 [0, 1, 2])] [.cells [.int .i64 v3], .cells [.int .i64 v4, .int .i64 v5, .fr (.ts v6)], .cells [.bool true]]).bind fun x0 =>
 (objC x0.2 fun x1 x2 =>
 (intC .i64 x1 fun x3 x4 =>
 (nilC x4
 ((objC x2 fun x5 x6 =>
 (intC .i64 x5 fun x7 x8 =>
 (intC .i64 x8 fun x9 x10 =>
 (tsC x10 fun x11 x12 =>
 (nilC x12
 ((objC x6 fun x13 x14 =>
 (boolC x13 fun x15 x16 =>
 (nilC x16
 ((rTerm x0.1 fun x17 x18 =>
 (nilV x18 (nilO x14
 ((cond ((!x15))
 (some ([.agg [.int .i64 0, .int .i64 0, .fr (.ts [])], .one (.bool false)], []))
 (((FF n 75 [.agg [.int .i64 (x17).k, .int .i64 (x17).n, .fr (.ts (x17).kids)]] []).bind fun x19 =>
 (rTerm x19.1 fun x20 x21 =>
 (rBool x21 fun x22 x23 =>
 (nilV x23 (nilO x19.2
 (some ([.agg [.int .i64 (x20).k, .int .i64 (x20).n, .fr (.ts (x20).kids)], .one (.bool x22)], [])))))))))))))))))))))))))))) := by kernel_rfl

/-! loop.example/depkernel/impl.areTerms$1 -/
theorem E_impl_areTerms_1 (n : Nat) (v0 : Int) (v1 : Int) (v2 : List T) : FF (n + 1) 97 [.agg [.int .i64 v0, .int .i64 v1, .fr (.ts v2)]] [] =
 ((FF n 63 [.agg [.int .i64 v0, .int .i64 v1, .fr (.ts v2)]] []).bind fun x0 =>
 (rBool x0.1 fun x1 x2 =>
 (nilV x2 (nilO x0.2
 (some ([.one (.bool (!x1))], [])))))) := by kernel_rfl

/-! loop.example/depkernel/impl.changed -/
noncomputable def L_impl_changed_impl_subst_1_0_ffoo (n c : Nat) (v0 : Int) (v1 : List T) (v2 : Int) (v3 : Int) (v4 : Int) (v5 : Int) (v6 : Int) (v7 : List T) (v8 : Bool) (v9 : Int) (v10 : Int) (v11 : List T) (v12 : Int) (v13 : Int) (v14 : List T) (v15 : Int) (v16 : Int) (v17 : List T) : OR := runLoop Try.prog SS n 112 3 [1, 1, 1, 0, 1, 0] [] c ⟨[.v (.one (.any)), .v (.one (.int .i64 v0)), .v (.one (.fn 113 [0, 1, 2])), .v (.one (.ptr 3 0)), .v (.one (.any)), .v (.one (.any)), .v (.one (.ptr 4 0)), .v (.one (.ptr 6 0)), .v (.one (.any)), .v (.one (.any)), .v (.one (.any)), .v (.one (.any)), .v (.one (.any)), .v (.one (.any)), .v (.one (.any)), .v (.one (.any)), .v (.one (.any)), .v (.one (.any)), .v (.one (.any)), .v (.one (.any)), .v (.one (.any)), .v (.one (.any)), .v (.one (.any)), .v (.one (.any)), .v (.one (.fr (.ts v1))), .v (.one (.int .i64 v2)), .v (.one (.int .i64 v3)), .v (.one (.any)), .v (.one (.any)), .v (.one (.any)), .v (.one (.any)), .v (.one (.any)), .v (.one (.any)), .v (.one (.any)), .v (.one (.any)), .v (.one (.any)), .v (.one (.any)), .v (.one (.any)), .v (.one (.any)), .v (.one (.any)), .v (.one (.any)), .v (.one (.any)), .v (.one (.any)), .v (.one (.any)), .v (.one (.any)), .v (.one (.any)), .v (.one (.any))],
  [.cells [.int .i64 v4], .cells [.int .i64 v5, .int .i64 v6, .fr (.ts v7)], .cells [.bool v8], .cells [.int .i64 v9, .int .i64 v10, .fr (.ts v11)], .cells [.int .i64 v12, .int .i64 v13, .own 5 0], .arr 33 (.ts v14) 0 false, .cells [.int .i64 v15, .int .i64 v16, .own 7 0], .arr 33 (.ts v17) 0 false]⟩
theorem L_impl_changed_impl_subst_1_0_ffoo_eq (n c : Nat) (v0 : Int) (v1 : List T) (v2 : Int) (v3 : Int) (v4 : Int) (v5 : Int) (v6 : Int) (v7 : List T) (v8 : Bool) (v9 : Int) (v10 : Int) (v11 : List T) (v12 : Int) (v13 : Int) (v14 : List T) (v15 : Int) (v16 : Int) (v17 : List T) : L_impl_changed_impl_subst_1_0_ffoo n (c + 1) v0 v1 v2 v3 v4 v5 v6 v7 v8 v9 v10 v11 v12 v13 v14 v15 v16 v17 =
 (cond ((decide (v3 < v2)))
 ((cond (decide (0 ≤ v3))
 (((v1)[(v3 : Int).toNat]?.bind fun x0 =>
 ((FF n 95 [.one (.int .i64 v9), .one (.int .i64 v3)] []).bind fun x1 =>
 (rInt .i64 x1.1 fun x2 x3 =>
 (nilV x3 (nilO x1.2
 (((FF n 112 [.agg [.int .i64 (x0).k, .int .i64 (x0).n, .fr (.ts (x0).kids)], .one (.int .i64 (IntKind.i64.wrap (v0 + x2))), .one (.fn 113 [0, 1, 2])] [.cells [.int .i64 v4], .cells [.int .i64 v5, .int .i64 v6, .fr (.ts v7)], .cells [.bool v8]]).bind fun x4 =>
 (objC x4.2 fun x5 x6 =>
 (intC .i64 x5 fun x7 x8 =>
 (nilC x8
 ((objC x6 fun x9 x10 =>
 (intC .i64 x9 fun x11 x12 =>
 (intC .i64 x12 fun x13 x14 =>
 (tsC x14 fun x15 x16 =>
 (nilC x16
 ((objC x10 fun x17 x18 =>
 (boolC x17 fun x19 x20 =>
 (nilC x20
 ((rTerm x4.1 fun x21 x22 =>
 (nilV x22 (nilO x18
 ((cond (roomB (v17 ++ [(T.mk (x21).k (x21).n (x21).kids)]).length)
 (L_impl_changed_impl_subst_1_0_ffoo n c (v0 : Int) (v1 : List T) (v2 : Int) ((IntKind.i64.wrap (v3 + 1)) : Int) (x7 : Int) (x11 : Int) (x13 : Int) (x15 : List T) (x19 : Bool) (v9 : Int) (v10 : Int) (v11 : List T) (v12 : Int) (v13 : Int) (v14 : List T) (v15 : Int) (v16 : Int) ((v17 ++ [(T.mk (x21).k (x21).n (x21).kids)]) : List T))
 (none))))))))))))))))))))))))))))
 (none)))
 (some ([.agg [.int .i64 v15, .int .i64 v16, .fr (.ts v17)]], [.cells [.int .i64 v4], .cells [.int .i64 v5, .int .i64 v6, .fr (.ts v7)], .cells [.bool v8]]))) := by kernel_rfl
theorem E_impl_changed_impl_subst_1 (n : Nat) (v0 : Int) (v1 : Int) (v2 : List T) (v3 : Int) (v4 : Int) (v5 : Int) (v6 : Int) (v7 : List T) (v8 : Bool) : FF (n + 1) 112 [.agg [.int .i64 v0, .int .i64 v1, .fr (.ts v2)], .one (.int .i64 v3), .one (.fn 113 [0, 1, 2])] [.cells [.int .i64 v4], .cells [.int .i64 v5, .int .i64 v6, .fr (.ts v7)], .cells [.bool v8]] =
 (cond ((decide (v0 = 1)))
 (((FF n 113 [.one (.int .i64 v1), .one (.int .i64 v3), .one (.ptr 0 0), .one (.ptr 1 0), .one (.ptr 2 0)] [.cells [.int .i64 v4], .cells [.int .i64 v5, .int .i64 v6, .fr (.ts v7)], .cells [.bool v8]]).bind fun x0 =>
 (objC x0.2 fun x1 x2 =>
 (intC .i64 x1 fun x3 x4 =>
 (nilC x4
 ((objC x2 fun x5 x6 =>
 (intC .i64 x5 fun x7 x8 =>
 (intC .i64 x8 fun x9 x10 =>
 (tsC x10 fun x11 x12 =>
 (nilC x12
 ((objC x6 fun x13 x14 =>
 (boolC x13 fun x15 x16 =>
 (nilC x16
 ((rTerm x0.1 fun x17 x18 =>
 (nilV x18 (nilO x14
 (some ([.agg [.int .i64 (x17).k, .int .i64 (x17).n, .fr (.ts (x17).kids)]], [.cells [.int .i64 x3], .cells [.int .i64 x7, .int .i64 x9, .fr (.ts x11)], .cells [.bool x15]])))))))))))))))))))))
 (L_impl_changed_impl_subst_1_0_ffoo n n (v3 : Int) (v2 : List T) (((v2).length : Int) : Int) (0 : Int) (v4 : Int) (v5 : Int) (v6 : Int) (v7 : List T) (v8 : Bool) (v0 : Int) (v1 : Int) (v2 : List T) (0 : Int) (0 : Int) ([] : List T) (v0 : Int) (v1 : Int) ([] : List T))) := by kernel_rfl

/-! loop.example/depkernel/impl.subst$1 -/
theorem E_impl_subst_1 (n : Nat) (v0 : Int) (v1 : Int) (v2 : Int) (v3 : Int) (v4 : Int) (v5 : List T) (v6 : Bool) : FF (n + 1) 113 [.one (.int .i64 v0), .one (.int .i64 v1), .one (.ptr 0 0), .one (.ptr 1 0), .one (.ptr 2 0)] [.cells [.int .i64 v2], .cells [.int .i64 v3, .int .i64 v4, .fr (.ts v5)], .cells [.bool v6]] =
 (cond ((decide ((IntKind.i64.wrap (v0 - v1)) = v2)))
 (((FF n 114 [.agg [.int .i64 v3, .int .i64 v4, .fr (.ts v5)], .one (.int .i64 v1), .one (.int .i64 0)] []).bind fun x0 =>
 (rTerm x0.1 fun x1 x2 =>
 (rBool x2 fun x3 x4 =>
 (nilV x4 (nilO x0.2
 ((cond (v6)
 (some ([.agg [.int .i64 (x1).k, .int .i64 (x1).n, .fr (.ts (x1).kids)]], [.cells [.int .i64 v2], .cells [.int .i64 v3, .int .i64 v4, .fr (.ts v5)], .cells [.bool x3]]))
 (some ([.agg [.int .i64 (x1).k, .int .i64 (x1).n, .fr (.ts (x1).kids)]], [.cells [.int .i64 v2], .cells [.int .i64 v3, .int .i64 v4, .fr (.ts v5)], .cells [.bool false]]))))))))))
 ((cond ((decide (v2 < (IntKind.i64.wrap (v0 - v1)))))
 (((FF n 60 [.one (.int .i64 (IntKind.i64.wrap (v0 - 1)))] []).bind fun x0 =>
 (rTerm x0.1 fun x1 x2 =>
 (nilV x2 (nilO x0.2
 (some ([.agg [.int .i64 (x1).k, .int .i64 (x1).n, .fr (.ts (x1).kids)]], [.cells [.int .i64 v2], .cells [.int .i64 v3, .int .i64 v4, .fr (.ts v5)], .cells [.bool v6]])))))))
 (((FF n 60 [.one (.int .i64 v0)] []).bind fun x0 =>
 (rTerm x0.1 fun x1 x2 =>
 (nilV x2 (nilO x0.2
 (some ([.agg [.int .i64 (x1).k, .int .i64 (x1).n, .fr (.ts (x1).kids)]], [.cells [.int .i64 v2], .cells [.int .i64 v3, .int .i64 v4, .fr (.ts v5)], .cells [.bool v6]])))))))))) := by kernel_rfl

/-! loop.example/depkernel/impl.shift -/
theorem E_impl_shift (n : Nat) (v0 : Int) (v1 : Int) (v2 : List T) (v3 : Int) (v4 : Int) : FF (n + 1) 114 [.agg [.int .i64 v0, .int .i64 v1, .fr (.ts v2)], .one (.int .i64 v3), .one (.int .i64 v4)] [] =
 ((FF n 112 [.agg [.int .i64 v0, .int .i64 v1, .fr (.ts v2)], .one (.int .i64 0), .one (.fn 115 [0, 1, 2])] [.cells [.int .i64 v4], .cells [.int .i64 v3], .cells [.bool true]]).bind fun x0 =>
 (objC x0.2 fun x1 x2 =>
 (intC .i64 x1 fun x3 x4 =>
 (nilC x4
 ((objC x2 fun x5 x6 =>
 (intC .i64 x5 fun x7 x8 =>
 (nilC x8
 ((objC x6 fun x9 x10 =>
 (boolC x9 fun x11 x12 =>
 (nilC x12
 ((rTerm x0.1 fun x13 x14 =>
 (nilV x14 (nilO x10
 ((cond ((!x11))
 (some ([.agg [.int .i64 0, .int .i64 0, .fr (.ts [])], .one (.bool false)], []))
 (((FF n 75 [.agg [.int .i64 (x13).k, .int .i64 (x13).n, .fr (.ts (x13).kids)]] []).bind fun x15 =>
 (rTerm x15.1 fun x16 x17 =>
 (rBool x17 fun x18 x19 =>
 (nilV x19 (nilO x15.2
 (some ([.agg [.int .i64 (x16).k, .int .i64 (x16).n, .fr (.ts (x16).kids)], .one (.bool x18)], [])))))))))))))))))))))))))) := by kernel_rfl

/-! loop.example/depkernel/impl.changed -/
noncomputable def L_impl_changed_impl_shift_1_0_foo (n c : Nat) (v0 : Int) (v1 : List T) (v2 : Int) (v3 : Int) (v4 : Int) (v5 : Int) (v6 : Bool) (v7 : Int) (v8 : Int) (v9 : List T) (v10 : Int) (v11 : Int) (v12 : List T) (v13 : Int) (v14 : Int) (v15 : List T) : OR := runLoop Try.prog SS n 112 3 [1, 1, 1, 0, 1, 0] [] c ⟨[.v (.one (.any)), .v (.one (.int .i64 v0)), .v (.one (.fn 115 [0, 1, 2])), .v (.one (.ptr 3 0)), .v (.one (.any)), .v (.one (.any)), .v (.one (.ptr 4 0)), .v (.one (.ptr 6 0)), .v (.one (.any)), .v (.one (.any)), .v (.one (.any)), .v (.one (.any)), .v (.one (.any)), .v (.one (.any)), .v (.one (.any)), .v (.one (.any)), .v (.one (.any)), .v (.one (.any)), .v (.one (.any)), .v (.one (.any)), .v (.one (.any)), .v (.one (.any)), .v (.one (.any)), .v (.one (.any)), .v (.one (.fr (.ts v1))), .v (.one (.int .i64 v2)), .v (.one (.int .i64 v3)), .v (.one (.any)), .v (.one (.any)), .v (.one (.any)), .v (.one (.any)), .v (.one (.any)), .v (.one (.any)), .v (.one (.any)), .v (.one (.any)), .v (.one (.any)), .v (.one (.any)), .v (.one (.any)), .v (.one (.any)), .v (.one (.any)), .v (.one (.any)), .v (.one (.any)), .v (.one (.any)), .v (.one (.any)), .v (.one (.any)), .v (.one (.any)), .v (.one (.any))],
  [.cells [.int .i64 v4], .cells [.int .i64 v5], .cells [.bool v6], .cells [.int .i64 v7, .int .i64 v8, .fr (.ts v9)], .cells [.int .i64 v10, .int .i64 v11, .own 5 0], .arr 33 (.ts v12) 0 false, .cells [.int .i64 v13, .int .i64 v14, .own 7 0], .arr 33 (.ts v15) 0 false]⟩
theorem L_impl_changed_impl_shift_1_0_foo_eq (n c : Nat) (v0 : Int) (v1 : List T) (v2 : Int) (v3 : Int) (v4 : Int) (v5 : Int) (v6 : Bool) (v7 : Int) (v8 : Int) (v9 : List T) (v10 : Int) (v11 : Int) (v12 : List T) (v13 : Int) (v14 : Int) (v15 : List T) : L_impl_changed_impl_shift_1_0_foo n (c + 1) v0 v1 v2 v3 v4 v5 v6 v7 v8 v9 v10 v11 v12 v13 v14 v15 =
 (cond ((decide (v3 < v2)))
 ((cond (decide (0 ≤ v3))
 (((v1)[(v3 : Int).toNat]?.bind fun x0 =>
 ((FF n 95 [.one (.int .i64 v7), .one (.int .i64 v3)] []).bind fun x1 =>
 (rInt .i64 x1.1 fun x2 x3 =>
 (nilV x3 (nilO x1.2
 (((FF n 112 [.agg [.int .i64 (x0).k, .int .i64 (x0).n, .fr (.ts (x0).kids)], .one (.int .i64 (IntKind.i64.wrap (v0 + x2))), .one (.fn 115 [0, 1, 2])] [.cells [.int .i64 v4], .cells [.int .i64 v5], .cells [.bool v6]]).bind fun x4 =>
 (objC x4.2 fun x5 x6 =>
 (intC .i64 x5 fun x7 x8 =>
 (nilC x8
 ((objC x6 fun x9 x10 =>
 (intC .i64 x9 fun x11 x12 =>
 (nilC x12
 ((objC x10 fun x13 x14 =>
 (boolC x13 fun x15 x16 =>
 (nilC x16
 ((rTerm x4.1 fun x17 x18 =>
 (nilV x18 (nilO x14
 ((cond (roomB (v15 ++ [(T.mk (x17).k (x17).n (x17).kids)]).length)
 (L_impl_changed_impl_shift_1_0_foo n c (v0 : Int) (v1 : List T) (v2 : Int) ((IntKind.i64.wrap (v3 + 1)) : Int) (x7 : Int) (x11 : Int) (x15 : Bool) (v7 : Int) (v8 : Int) (v9 : List T) (v10 : Int) (v11 : Int) (v12 : List T) (v13 : Int) (v14 : Int) ((v15 ++ [(T.mk (x17).k (x17).n (x17).kids)]) : List T))
 (none))))))))))))))))))))))))))
 (none)))
 (some ([.agg [.int .i64 v13, .int .i64 v14, .fr (.ts v15)]], [.cells [.int .i64 v4], .cells [.int .i64 v5], .cells [.bool v6]]))) := by kernel_rfl
theorem E_impl_changed_impl_shift_1 (n : Nat) (v0 : Int) (v1 : Int) (v2 : List T) (v3 : Int) (v4 : Int) (v5 : Int) (v6 : Bool) : FF (n + 1) 112 [.agg [.int .i64 v0, .int .i64 v1, .fr (.ts v2)], .one (.int .i64 v3), .one (.fn 115 [0, 1, 2])] [.cells [.int .i64 v4], .cells [.int .i64 v5], .cells [.bool v6]] =
 (cond ((decide (v0 = 1)))
 (((FF n 115 [.one (.int .i64 v1), .one (.int .i64 v3), .one (.ptr 0 0), .one (.ptr 1 0), .one (.ptr 2 0)] [.cells [.int .i64 v4], .cells [.int .i64 v5], .cells [.bool v6]]).bind fun x0 =>
 (objC x0.2 fun x1 x2 =>
 (intC .i64 x1 fun x3 x4 =>
 (nilC x4
 ((objC x2 fun x5 x6 =>
 (intC .i64 x5 fun x7 x8 =>
 (nilC x8
 ((objC x6 fun x9 x10 =>
 (boolC x9 fun x11 x12 =>
 (nilC x12
 ((rTerm x0.1 fun x13 x14 =>
 (nilV x14 (nilO x10
 (some ([.agg [.int .i64 (x13).k, .int .i64 (x13).n, .fr (.ts (x13).kids)]], [.cells [.int .i64 x3], .cells [.int .i64 x7], .cells [.bool x11]])))))))))))))))))))
 (L_impl_changed_impl_shift_1_0_foo n n (v3 : Int) (v2 : List T) (((v2).length : Int) : Int) (0 : Int) (v4 : Int) (v5 : Int) (v6 : Bool) (v0 : Int) (v1 : Int) (v2 : List T) (0 : Int) (0 : Int) ([] : List T) (v0 : Int) (v1 : Int) ([] : List T))) := by kernel_rfl

/-! loop.example/depkernel/impl.shift$1 -/
theorem E_impl_shift_1 (n : Nat) (v0 : Int) (v1 : Int) (v2 : Int) (v3 : Int) (v4 : Bool) : FF (n + 1) 115 [.one (.int .i64 v0), .one (.int .i64 v1), .one (.ptr 0 0), .one (.ptr 1 0), .one (.ptr 2 0)] [.cells [.int .i64 v2], .cells [.int .i64 v3], .cells [.bool v4]] =
 (cond ((decide (v2 ≤ (IntKind.i64.wrap (v0 - v1)))))
 ((cond (v4)
 ((cond ((decide (v2 ≤ (IntKind.i64.wrap ((IntKind.i64.wrap (v0 + v3)) - v1)))))
 (((FF n 60 [.one (.int .i64 (IntKind.i64.wrap (v0 + v3)))] []).bind fun x0 =>
 (rTerm x0.1 fun x1 x2 =>
 (nilV x2 (nilO x0.2
 (some ([.agg [.int .i64 (x1).k, .int .i64 (x1).n, .fr (.ts (x1).kids)]], [.cells [.int .i64 v2], .cells [.int .i64 v3], .cells [.bool (decide ((IntKind.i64.wrap (v0 + v3)) ≤ 20))]])))))))
 (((FF n 60 [.one (.int .i64 (IntKind.i64.wrap (v0 + v3)))] []).bind fun x0 =>
 (rTerm x0.1 fun x1 x2 =>
 (nilV x2 (nilO x0.2
 (some ([.agg [.int .i64 (x1).k, .int .i64 (x1).n, .fr (.ts (x1).kids)]], [.cells [.int .i64 v2], .cells [.int .i64 v3], .cells [.bool false]])))))))))
 (((FF n 60 [.one (.int .i64 (IntKind.i64.wrap (v0 + v3)))] []).bind fun x0 =>
 (rTerm x0.1 fun x1 x2 =>
 (nilV x2 (nilO x0.2
 (some ([.agg [.int .i64 (x1).k, .int .i64 (x1).n, .fr (.ts (x1).kids)]], [.cells [.int .i64 v2], .cells [.int .i64 v3], .cells [.bool false]])))))))))
 (((FF n 60 [.one (.int .i64 v0)] []).bind fun x0 =>
 (rTerm x0.1 fun x1 x2 =>
 (nilV x2 (nilO x0.2
 (some ([.agg [.int .i64 (x1).k, .int .i64 (x1).n, .fr (.ts (x1).kids)]], [.cells [.int .i64 v2], .cells [.int .i64 v3], .cells [.bool v4]])))))))) := by kernel_rfl

end Go.Proofs.Ythjbllfcelkajaa
