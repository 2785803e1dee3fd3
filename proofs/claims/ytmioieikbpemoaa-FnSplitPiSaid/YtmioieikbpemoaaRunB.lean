/- What the program's functions come to in the abstract run. -/
import Derived.Test.YtmioieikbpemoaaSay
set_option linter.unusedVariables false
namespace Go.Proofs.Ytmioieikbpemoaa
open Go Go.Ab Go.Dk
/-! loop.example/depkernel/spec.l1Draw -/
noncomputable def L_spec_l1Draw_0_foo (n c : Nat) (v0 : Int) (v1 : Int) (v2 : Int) (v3 : List UInt8) (v4 : Int) (v5 : Int) (v6 : Int) (v7 : List T) (v8 : Int) (v9 : Int) (v10 : List T) : OR := runLoop Try.prog SS n 47 1 [1, 1, 1, 1, 1, 0, 1, 0] [] c ⟨[.v (.one (.ptr 0 0)), .v (.one (.int .i64 v0)), .v (.one (.any)), .v (.one (.any)), .v (.one (.ptr 1 0)), .v (.one (.int .i64 v1)), .v (.one (.ptr 3 0)), .v (.one (.int .i64 v2)), .v (.one (.any)), .v (.one (.any)), .v (.one (.any)), .v (.one (.any)), .v (.one (.any)), .v (.one (.any)), .v (.one (.any)), .v (.one (.any)), .v (.one (.any)), .v (.one (.any)), .v (.one (.any)), .v (.one (.any)), .v (.one (.any)), .v (.one (.any)), .v (.one (.any)), .v (.one (.any)), .v (.one (.any)), .v (.one (.any)), .v (.one (.any)), .v (.one (.any)), .v (.one (.any)), .v (.one (.any)), .v (.one (.any)), .v (.one (.any)), .v (.one (.any)), .v (.one (.any)), .v (.one (.any)), .v (.one (.any)), .v (.one (.any)), .v (.one (.any)), .v (.one (.any)), .v (.one (.any)), .v (.one (.any))],
  [.cells [.fr (.bs v3), .int .i64 v4], .cells [.int .i64 v5, .int .i64 v6, .own 2 0], .arr 25 (.ts v7) 0 false, .cells [.int .i64 v8, .int .i64 v9, .own 4 0], .arr 25 (.ts v10) 0 false]⟩
theorem L_spec_l1Draw_0_foo_eq (n c : Nat) (v0 : Int) (v1 : Int) (v2 : Int) (v3 : List UInt8) (v4 : Int) (v5 : Int) (v6 : Int) (v7 : List T) (v8 : Int) (v9 : Int) (v10 : List T) : L_spec_l1Draw_0_foo n (c + 1) v0 v1 v2 v3 v4 v5 v6 v7 v8 v9 v10 =
 ((FF n 86 [.one (.int .i64 v1)] []).bind fun x0 =>
 (rInt .i64 x0.1 fun x1 x2 =>
 (nilV x2 (nilO x0.2
 ((cond ((decide (v2 < x1)))
 (((FF n 47 [.one (.ptr 0 0), .one (.int .i64 (IntKind.i64.wrap (v0 - 1)))] [.cells [.fr (.bs v3), .int .i64 v4]]).bind fun x3 =>
 (objC x3.2 fun x4 x5 =>
 (bsC x4 fun x6 x7 =>
 (intC .i64 x7 fun x8 x9 =>
 (nilC x9
 ((rTerm x3.1 fun x10 x11 =>
 (nilV x11 (nilO x5
 ((cond (roomB (v10 ++ [(T.mk (x10).k (x10).n (x10).kids)]).length)
 (L_spec_l1Draw_0_foo n c (v0 : Int) (v1 : Int) ((IntKind.i64.wrap (v2 + 1)) : Int) (x6 : List UInt8) (x8 : Int) (v5 : Int) (v6 : Int) (v7 : List T) (v8 : Int) (v9 : Int) ((v10 ++ [(T.mk (x10).k (x10).n (x10).kids)]) : List T))
 (none)))))))))))))
 (some ([.agg [.int .i64 v8, .int .i64 v9, .fr (.ts v10)]], [.cells [.fr (.bs v3), .int .i64 v4]])))))))) := by kernel_rfl
theorem E_spec_l1Draw (n : Nat) (v0 : Int) (v1 : List UInt8) (v2 : Int) : FF (n + 1) 47 [.one (.ptr 0 0), .one (.int .i64 v0)] [.cells [.fr (.bs v1), .int .i64 v2]] =
 ((FF n 46 [.one (.ptr 0 0), .one (.fr (.is [1, 5, 4, 8, 9, 3, 6, 7, 11, 15, 14, 10, 12, 13, 16, 2]))] [.cells [.fr (.bs v1), .int .i64 v2]]).bind fun x0 =>
 (objC x0.2 fun x1 x2 =>
 (bsC x1 fun x3 x4 =>
 (intC .i64 x4 fun x5 x6 =>
 (nilC x6
 ((rInt .i64 x0.1 fun x7 x8 =>
 (nilV x8 (nilO x2
 ((cond ((decide (v0 < 2)))
 (((FF n 46 [.one (.ptr 0 0), .one (.fr (.is [1, 7, 6, 2, 1]))] [.cells [.fr (.bs x3), .int .i64 x5]]).bind fun x9 =>
 (objC x9.2 fun x10 x11 =>
 (bsC x10 fun x12 x13 =>
 (intC .i64 x13 fun x14 x15 =>
 (nilC x15
 ((rInt .i64 x9.1 fun x16 x17 =>
 (nilV x17 (nilO x11
 (((FF n 85 [.one (.int .i64 x16)] []).bind fun x18 =>
 (rInt .i64 x18.1 fun x19 x20 =>
 (nilV x20 (nilO x18.2
 ((cond ((decide (0 < x19)))
 (((FF n 46 [.one (.ptr 0 0), .one (.fr (.is [0, 1, 0, 2, 1, 3]))] [.cells [.fr (.bs x12), .int .i64 x14]]).bind fun x21 =>
 (objC x21.2 fun x22 x23 =>
 (bsC x22 fun x24 x25 =>
 (intC .i64 x25 fun x26 x27 =>
 (nilC x27
 ((rInt .i64 x21.1 fun x28 x29 =>
 (nilV x29 (nilO x23
 (L_spec_l1Draw_0_foo n n (v0 : Int) (x16 : Int) (0 : Int) (x24 : List UInt8) (x26 : Int) (0 : Int) (0 : Int) ([] : List T) (x16 : Int) (x28 : Int) ([] : List T))))))))))))
 (L_spec_l1Draw_0_foo n n (v0 : Int) (x16 : Int) (0 : Int) (x12 : List UInt8) (x14 : Int) (0 : Int) (0 : Int) ([] : List T) (x16 : Int) (0 : Int) ([] : List T)))))))))))))))))))
 (((FF n 85 [.one (.int .i64 x7)] []).bind fun x9 =>
 (rInt .i64 x9.1 fun x10 x11 =>
 (nilV x11 (nilO x9.2
 ((cond ((decide (0 < x10)))
 (((FF n 46 [.one (.ptr 0 0), .one (.fr (.is [0, 1, 0, 2, 1, 3]))] [.cells [.fr (.bs x3), .int .i64 x5]]).bind fun x12 =>
 (objC x12.2 fun x13 x14 =>
 (bsC x13 fun x15 x16 =>
 (intC .i64 x16 fun x17 x18 =>
 (nilC x18
 ((rInt .i64 x12.1 fun x19 x20 =>
 (nilV x20 (nilO x14
 (L_spec_l1Draw_0_foo n n (v0 : Int) (x7 : Int) (0 : Int) (x15 : List UInt8) (x17 : Int) (0 : Int) (0 : Int) ([] : List T) (x7 : Int) (x19 : Int) ([] : List T))))))))))))
 (L_spec_l1Draw_0_foo n n (v0 : Int) (x7 : Int) (0 : Int) (x3 : List UInt8) (x5 : Int) (0 : Int) (0 : Int) ([] : List T) (x7 : Int) (0 : Int) ([] : List T)))))))))))))))))))) := by kernel_rfl

/-! loop.example/depkernel/impl.areTerms -/
theorem E_impl_areTerms (n : Nat) (v0 : List T) : FF (n + 1) 48 [.one (.fr (.ts v0))] [] =
 (cond ((decide (((v0).length : Int) ≤ 8)))
 (((FF n 87 [.one (.fr (.ts v0)), .one (.fn 88 [])] []).bind fun x0 =>
 (rBool x0.1 fun x1 x2 =>
 (nilV x2 (nilO x0.2
 (some ([.one (.bool (!x1))], [])))))))
 (some ([.one (.bool false)], []))) := by kernel_rfl

/-! loop.example/depkernel/impl.node -/
theorem E_impl_node (n : Nat) (v0 : Int) (v1 : List T) : FF (n + 1) 49 [.one (.int .i64 v0), .one (.fr (.ts v1))] [] =
 some ([.agg [.int .i64 v0, .int .i64 0, .fr (.ts v1)]], []) := by kernel_rfl

/-! loop.example/depkernel/impl.own -/
noncomputable def L_impl_own_0_oo (n c : Nat) (v0 : List T) (v1 : Int) (v2 : Int) (v3 : Int) (v4 : Int) (v5 : List T) (v6 : Int) (v7 : Int) (v8 : List T) : OR := runLoop Try.prog SS n 51 0 [1, 1, 0, 1, 0] [] c ⟨[.v (.one (.any)), .v (.one (.any)), .v (.one (.ptr 0 0)), .v (.one (.ptr 2 0)), .v (.one (.any)), .v (.one (.any)), .v (.one (.any)), .v (.one (.any)), .v (.one (.any)), .v (.one (.any)), .v (.one (.any)), .v (.one (.any)), .v (.one (.fr (.ts v0))), .v (.one (.int .i64 v1)), .v (.one (.int .i64 v2)), .v (.one (.any)), .v (.one (.any)), .v (.one (.any)), .v (.one (.any)), .v (.one (.any)), .v (.one (.any)), .v (.one (.any)), .v (.one (.any)), .v (.one (.any)), .v (.one (.any)), .v (.one (.any)), .v (.one (.any))],
  [.cells [.int .i64 v3, .int .i64 v4, .own 1 0], .arr 25 (.ts v5) 0 false, .cells [.int .i64 v6, .int .i64 v7, .own 3 0], .arr 25 (.ts v8) 0 false]⟩
theorem L_impl_own_0_oo_eq (n c : Nat) (v0 : List T) (v1 : Int) (v2 : Int) (v3 : Int) (v4 : Int) (v5 : List T) (v6 : Int) (v7 : Int) (v8 : List T) : L_impl_own_0_oo n (c + 1) v0 v1 v2 v3 v4 v5 v6 v7 v8 =
 (cond ((decide (v2 < v1)))
 ((cond (decide (0 ≤ v2))
 (((v0)[(v2 : Int).toNat]?.bind fun x0 =>
 ((FF n 51 [.agg [.int .i64 (x0).k, .int .i64 (x0).n, .fr (.ts (x0).kids)]] []).bind fun x1 =>
 (rTerm x1.1 fun x2 x3 =>
 (nilV x3 (nilO x1.2
 ((cond (roomB (v8 ++ [(T.mk (x2).k (x2).n (x2).kids)]).length)
 (L_impl_own_0_oo n c (v0 : List T) (v1 : Int) ((IntKind.i64.wrap (v2 + 1)) : Int) (v3 : Int) (v4 : Int) (v5 : List T) (v6 : Int) (v7 : Int) ((v8 ++ [(T.mk (x2).k (x2).n (x2).kids)]) : List T))
 (none)))))))))
 (none)))
 (some ([.agg [.int .i64 v6, .int .i64 v7, .fr (.ts v8)]], []))) := by kernel_rfl
theorem E_impl_own (n : Nat) (v0 : Int) (v1 : Int) (v2 : List T) : FF (n + 1) 51 [.agg [.int .i64 v0, .int .i64 v1, .fr (.ts v2)]] [] =
 L_impl_own_0_oo n n (v2 : List T) (((v2).length : Int) : Int) (0 : Int) (0 : Int) (0 : Int) ([] : List T) (v0 : Int) (v1 : Int) ([] : List T) := by kernel_rfl

/-! loop.example/depkernel/impl.valid -/
theorem E_impl_valid (n : Nat) (v0 : Int) (v1 : Int) (v2 : List T) : FF (n + 1) 50 [.agg [.int .i64 v0, .int .i64 v1, .fr (.ts v2)]] [] =
 ((FF n 31 [.agg [.int .i64 v0, .int .i64 v1, .fr (.ts v2)]] []).bind fun x0 =>
 (rBool x0.1 fun x1 x2 =>
 (nilV x2 (nilO x0.2
 ((cond ((!x1))
 (some ([.agg [.int .i64 0, .int .i64 0, .fr (.ts [])], .one (.bool false)], []))
 (some ([.agg [.int .i64 v0, .int .i64 v1, .fr (.ts v2)], .one (.bool true)], [])))))))) := by kernel_rfl

/-! loop.example/depkernel/spec.TermValid -/
theorem E_spec_TermValid (n : Nat) (v0 : Int) (v1 : Int) (v2 : List T) : FF (n + 1) 52 [.agg [.int .i64 v0, .int .i64 v1, .fr (.ts v2)]] [] =
 ((FF n 89 [.agg [.int .i64 v0, .int .i64 v1, .fr (.ts v2)], .one (.int .i64 30)] []).bind fun x0 =>
 (rBool x0.1 fun x1 x2 =>
 (nilV x2 (nilO x0.2
 ((cond (x1)
 (((FF n 90 [.agg [.int .i64 v0, .int .i64 v1, .fr (.ts v2)], .one (.int .i64 400)] []).bind fun x3 =>
 (rInt .i64 x3.1 fun x4 x5 =>
 (nilV x5 (nilO x3.2
 (some ([.one (.bool (decide (x4 ≤ 400)))], [])))))))
 (some ([.one (.bool false)], [])))))))) := by kernel_rfl

/-! loop.example/depkernel/spec.l5Fits -/
noncomputable def L_spec_l5Fits_0 (n c : Nat) (v0 : List T) (v1 : Int) : OR := runLoop Try.prog SS n 53 0 [1, 0, 1, 0] [] c ⟨[.v (.one (.fr (.ts v0))), .v (.one (.any)), .v (.one (.any)), .v (.one (.int .i64 v1)), .v (.one (.any)), .v (.one (.any)), .v (.one (.any)), .v (.one (.any)), .v (.one (.any)), .v (.one (.any)), .v (.one (.any)), .v (.one (.any)), .v (.one (.any)), .v (.one (.any)), .v (.one (.any)), .v (.one (.any)), .v (.one (.any)), .v (.one (.any)), .v (.one (.any))],
  []⟩
theorem L_spec_l5Fits_0_eq (n c : Nat) (v0 : List T) (v1 : Int) : L_spec_l5Fits_0 n (c + 1) v0 v1 =
 (cond ((decide (v1 < ((v0).length : Int))))
 ((cond (decide (0 ≤ v1))
 (((v0)[(v1 : Int).toNat]?.bind fun x0 =>
 ((FF n 52 [.agg [.int .i64 (x0).k, .int .i64 (x0).n, .fr (.ts (x0).kids)]] []).bind fun x1 =>
 (rBool x1.1 fun x2 x3 =>
 (nilV x3 (nilO x1.2
 ((cond ((!x2))
 (some ([.one (.bool false)], []))
 (L_spec_l5Fits_0 n c (v0 : List T) ((IntKind.i64.wrap (v1 + 1)) : Int))))))))))
 (none)))
 (some ([.one (.bool (decide (((v0).length : Int) ≤ 8)))], []))) := by kernel_rfl
theorem E_spec_l5Fits (n : Nat) (v0 : List T) : FF (n + 1) 53 [.one (.fr (.ts v0))] [] =
 L_spec_l5Fits_0 n n (v0 : List T) (0 : Int) := by kernel_rfl

/-! loop.example/depkernel/spec.l1Copy -/
noncomputable def L_spec_l1Copy_0_foo (n c : Nat) (v0 : Int) (v1 : Int) (v2 : Int) (v3 : List T) (v4 : Int) (v5 : Int) (v6 : List T) (v7 : Int) (v8 : Int) (v9 : List T) : OR := runLoop Try.prog SS n 54 0 [1, 1, 0, 1, 0] [] c ⟨[.v (.one (.any)), .v (.one (.ptr 0 0)), .v (.one (.ptr 1 0)), .v (.one (.ptr 3 0)), .v (.one (.int .i64 v0)), .v (.one (.any)), .v (.one (.any)), .v (.one (.any)), .v (.one (.any)), .v (.one (.any)), .v (.one (.any)), .v (.one (.any)), .v (.one (.any)), .v (.one (.any)), .v (.one (.any)), .v (.one (.any)), .v (.one (.any)), .v (.one (.any)), .v (.one (.any)), .v (.one (.any)), .v (.one (.any)), .v (.one (.any)), .v (.one (.any)), .v (.one (.any)), .v (.one (.any)), .v (.one (.any)), .v (.one (.any)), .v (.one (.any)), .v (.one (.any))],
  [.cells [.int .i64 v1, .int .i64 v2, .fr (.ts v3)], .cells [.int .i64 v4, .int .i64 v5, .own 2 0], .arr 25 (.ts v6) 0 false, .cells [.int .i64 v7, .int .i64 v8, .own 4 0], .arr 25 (.ts v9) 0 false]⟩
theorem L_spec_l1Copy_0_foo_eq (n c : Nat) (v0 : Int) (v1 : Int) (v2 : Int) (v3 : List T) (v4 : Int) (v5 : Int) (v6 : List T) (v7 : Int) (v8 : Int) (v9 : List T) : L_spec_l1Copy_0_foo n (c + 1) v0 v1 v2 v3 v4 v5 v6 v7 v8 v9 =
 (cond ((decide (v0 < ((v3).length : Int))))
 ((cond (decide (0 ≤ v0))
 (((v3)[(v0 : Int).toNat]?.bind fun x0 =>
 ((FF n 54 [.agg [.int .i64 (x0).k, .int .i64 (x0).n, .fr (.ts (x0).kids)]] []).bind fun x1 =>
 (rOwnT 0 x1.1 fun x2 x3 x4 =>
 (arrTsC 25 x1.2 fun x5 x6 =>
 (nilV x4 (nilO x6
 ((cond (roomB (v9 ++ [(T.mk x2 x3 x5)]).length)
 (L_spec_l1Copy_0_foo n c ((IntKind.i64.wrap (v0 + 1)) : Int) (v1 : Int) (v2 : Int) (v3 : List T) (v4 : Int) (v5 : Int) (v6 : List T) (v7 : Int) (v8 : Int) ((v9 ++ [(T.mk x2 x3 x5)]) : List T))
 (none))))))))))
 (none)))
 (some ([.agg [.int .i64 v7, .int .i64 v8, .own 0 0]], [.arr 25 (.ts v9) 0 false]))) := by kernel_rfl
theorem E_spec_l1Copy (n : Nat) (v0 : Int) (v1 : Int) (v2 : List T) : FF (n + 1) 54 [.agg [.int .i64 v0, .int .i64 v1, .fr (.ts v2)]] [] =
 L_spec_l1Copy_0_foo n n (0 : Int) (v0 : Int) (v1 : Int) (v2 : List T) (0 : Int) (0 : Int) ([] : List T) (v0 : Int) (v1 : Int) ([] : List T) := by kernel_rfl

/-! loop.example/depkernel/spec.l1Node -/
theorem E_spec_l1Node (n : Nat) (v0 : Int) (v1 : List T) : FF (n + 1) 55 [.one (.int .i64 v0), .one (.fr (.ts v1))] [] =
 (cond (roomB ([] ++ v1).length)
 (some ([.agg [.int .i64 v0, .int .i64 0, .fr (.ts ([] ++ v1))]], []))
 (none)) := by kernel_rfl

/-! loop.example/depkernel/spec.l7Made -/
theorem E_spec_l7Made (n : Nat) (v0 : Int) (v1 : Int) (v2 : List T) : FF (n + 1) 56 [.agg [.int .i64 v0, .int .i64 v1, .fr (.ts v2)]] [] =
 ((FF n 52 [.agg [.int .i64 v0, .int .i64 v1, .fr (.ts v2)]] []).bind fun x0 =>
 (rBool x0.1 fun x1 x2 =>
 (nilV x2 (nilO x0.2
 ((cond ((!x1))
 (some ([.agg [.int .i64 0, .int .i64 0, .fr (.ts [])], .one (.bool false)], []))
 (some ([.agg [.int .i64 v0, .int .i64 v1, .fr (.ts v2)], .one (.bool true)], [])))))))) := by kernel_rfl

/-! slices.EqualFunc[[]loop.example/depkernel/impl.Term,[]loop.example/depkernel/impl.Term,loop.example/depkernel/impl.Term,loop.example/depkernel/impl.Term] -/
noncomputable def L_slices_EqualFunc_impl_TermSame_0 (n c : Nat) (v0 : List T) (v1 : List T) (v2 : Int) (v3 : Int) : OR := runLoop Try.prog SS n 57 0 [1, 1, 0, 1, 0] [] c ⟨[.v (.one (.any)), .v (.one (.fr (.ts v0))), .v (.one (.fn 18 [])), .v (.one (.any)), .v (.one (.any)), .v (.one (.any)), .v (.one (.any)), .v (.one (.any)), .v (.one (.any)), .v (.one (.any)), .v (.one (.any)), .v (.one (.any)), .v (.one (.any)), .v (.one (.any)), .v (.one (.any)), .v (.one (.fr (.ts v1))), .v (.one (.int .i64 v2)), .v (.one (.int .i64 v3)), .v (.one (.any)), .v (.one (.any)), .v (.one (.any)), .v (.one (.any)), .v (.one (.any)), .v (.one (.any)), .v (.one (.any)), .v (.one (.any)), .v (.one (.any)), .v (.one (.any)), .v (.one (.any)), .v (.one (.any)), .v (.one (.any)), .v (.one (.any))],
  []⟩
theorem L_slices_EqualFunc_impl_TermSame_0_eq (n c : Nat) (v0 : List T) (v1 : List T) (v2 : Int) (v3 : Int) : L_slices_EqualFunc_impl_TermSame_0 n (c + 1) v0 v1 v2 v3 =
 (cond ((decide (v3 < v2)))
 ((cond (decide (0 ≤ v3))
 (((v1)[(v3 : Int).toNat]?.bind fun x0 =>
 (cond (decide (0 ≤ v3))
 (((v0)[(v3 : Int).toNat]?.bind fun x1 =>
 ((FF n 18 [.agg [.int .i64 (x0).k, .int .i64 (x0).n, .fr (.ts (x0).kids)], .agg [.int .i64 (x1).k, .int .i64 (x1).n, .fr (.ts (x1).kids)]] []).bind fun x2 =>
 (rBool x2.1 fun x3 x4 =>
 (nilV x4 (nilO x2.2
 ((cond ((!x3))
 (some ([.one (.bool false)], []))
 (L_slices_EqualFunc_impl_TermSame_0 n c (v0 : List T) (v1 : List T) (v2 : Int) ((IntKind.i64.wrap (v3 + 1)) : Int))))))))))
 (none))))
 (none)))
 (some ([.one (.bool true)], []))) := by kernel_rfl
theorem E_slices_EqualFunc_impl_TermSame (n : Nat) (v0 : List T) (v1 : List T) : FF (n + 1) 57 [.one (.fr (.ts v0)), .one (.fr (.ts v1)), .one (.fn 18 [])] [] =
 (cond ((!decide (((v0).length : Int) = ((v1).length : Int))))
 (some ([.one (.bool false)], []))
 (L_slices_EqualFunc_impl_TermSame_0 n n (v1 : List T) (v0 : List T) (((v0).length : Int) : Int) (0 : Int))) := by kernel_rfl

/-! slices.Reverse[[]loop.example/depkernel/impl.Term,loop.example/depkernel/impl.Term] -/
noncomputable def L_slices_Reverse_0 (n c : Nat) (v0 : List T) (v1 : Int) (v2 : Int) : OR := runLoop Try.prog SS n 58 0 [1, 0] [] c ⟨[.v (.one (.fr (.ts v0))), .v (.one (.any)), .v (.one (.int .i64 v1)), .v (.one (.int .i64 v2)), .v (.one (.any)), .v (.one (.any)), .v (.one (.any)), .v (.one (.any)), .v (.one (.any)), .v (.one (.any)), .v (.one (.any)), .v (.one (.any)), .v (.one (.any)), .v (.one (.any)), .v (.one (.any)), .v (.one (.any)), .v (.one (.any)), .v (.one (.any)), .v (.one (.any)), .v (.one (.any)), .v (.one (.any)), .v (.one (.any)), .v (.one (.any)), .v (.one (.any)), .v (.one (.any)), .v (.one (.any)), .v (.one (.any)), .v (.one (.any))],
  []⟩
theorem L_slices_Reverse_0_eq (n c : Nat) (v0 : List T) (v1 : Int) (v2 : Int) : L_slices_Reverse_0 n (c + 1) v0 v1 v2 =
 (cond ((decide (v1 < v2)))
 ((cond (decide (0 ≤ v2))
 (((v0)[(v2 : Int).toNat]?.bind fun x0 =>
 (cond (decide (0 ≤ v1))
 (((v0)[(v1 : Int).toNat]?.bind fun x1 =>
 (cond (decide (0 ≤ v1))
 (((v0)[(v1 : Int).toNat]?.bind fun x2 =>
 none))
 (none))))
 (none))))
 (none)))
 (some ([], []))) := by kernel_rfl
theorem E_slices_Reverse (n : Nat) (v0 : List T) : FF (n + 1) 58 [.one (.fr (.ts v0))] [] =
 L_slices_Reverse_0 n n (v0 : List T) (0 : Int) ((IntKind.i64.wrap (((v0).length : Int) - 1)) : Int) := by kernel_rfl

/-! loop.example/depkernel/spec.l5Draw -/
noncomputable def L_spec_l5Draw_0_fo (n c : Nat) (v0 : Int) (v1 : Int) (v2 : List UInt8) (v3 : Int) (v4 : Int) (v5 : Int) (v6 : List T) (v7 : List T) : OR := runLoop Try.prog SS n 59 1 [1, 0, 1, 0, 1, 1, 0, 1, 0] [] c ⟨[.v (.one (.ptr 0 0)), .v (.one (.any)), .v (.one (.any)), .v (.one (.ptr 1 0)), .v (.one (.int .i64 v0)), .v (.one (.own 3 0)), .v (.one (.int .i64 v1)), .v (.one (.any)), .v (.one (.any)), .v (.one (.any)), .v (.one (.any)), .v (.one (.any)), .v (.one (.any)), .v (.one (.any)), .v (.one (.any)), .v (.one (.any)), .v (.one (.any)), .v (.one (.any)), .v (.one (.any)), .v (.one (.any)), .v (.one (.any)), .v (.one (.any)), .v (.one (.any)), .v (.one (.any)), .v (.one (.any)), .v (.one (.any)), .v (.one (.any)), .v (.one (.any)), .v (.one (.any)), .v (.one (.any)), .v (.one (.any)), .v (.one (.any)), .v (.one (.any)), .v (.one (.any)), .v (.one (.any)), .v (.one (.any)), .v (.one (.any)), .v (.one (.any)), .v (.one (.any)), .v (.one (.any)), .v (.one (.any)), .v (.one (.any)), .v (.one (.any)), .v (.one (.any)), .v (.one (.any)), .v (.one (.any)), .v (.one (.any)), .v (.one (.any)), .v (.one (.any)), .v (.one (.any)), .v (.one (.any)), .v (.one (.any)), .v (.one (.any)), .v (.one (.any))],
  [.cells [.fr (.bs v2), .int .i64 v3], .cells [.int .i64 v4, .int .i64 v5, .own 2 0], .arr 25 (.ts v6) 0 false, .arr 25 (.ts v7) 0 false]⟩
theorem L_spec_l5Draw_0_fo_eq (n c : Nat) (v0 : Int) (v1 : Int) (v2 : List UInt8) (v3 : Int) (v4 : Int) (v5 : Int) (v6 : List T) (v7 : List T) : L_spec_l5Draw_0_fo n (c + 1) v0 v1 v2 v3 v4 v5 v6 v7 =
 (cond ((decide (v1 < v0)))
 (((FF n 81 [.one (.int .i64 6), .one (.int .i64 0)] []).bind fun x0 =>
 (rTerm x0.1 fun x1 x2 =>
 (nilV x2 (nilO x0.2
 ((cond (roomB (v7 ++ [(T.mk (x1).k (x1).n (x1).kids)]).length)
 (L_spec_l5Draw_0_fo n c (v0 : Int) ((IntKind.i64.wrap (v1 + 1)) : Int) (v2 : List UInt8) (v3 : Int) (v4 : Int) (v5 : Int) (v6 : List T) ((v7 ++ [(T.mk (x1).k (x1).n (x1).kids)]) : List T))
 (none))))))))
 (((FF n 46 [.one (.ptr 0 0), .one (.fr (.is [3, 2, 4, 1]))] [.cells [.fr (.bs v2), .int .i64 v3]]).bind fun x0 =>
 (objC x0.2 fun x1 x2 =>
 (bsC x1 fun x3 x4 =>
 (intC .i64 x4 fun x5 x6 =>
 (nilC x6
 ((rInt .i64 x0.1 fun x7 x8 =>
 (nilV x8 (nilO x2
 (((FF n 91 [.one (.ptr 0 0), .one (.int .i64 v0), .one (.int .i64 x7)] [.cells [.fr (.bs x3), .int .i64 x5]]).bind fun x9 =>
 (objC x9.2 fun x10 x11 =>
 (bsC x10 fun x12 x13 =>
 (intC .i64 x13 fun x14 x15 =>
 (nilC x15
 ((rTerm x9.1 fun x16 x17 =>
 (nilV x17 (nilO x11
 (((FF n 52 [.agg [.int .i64 (x16).k, .int .i64 (x16).n, .fr (.ts (x16).kids)]] []).bind fun x18 =>
 (rBool x18.1 fun x19 x20 =>
 (nilV x20 (nilO x18.2
 ((cond (x19)
 (some ([.one (.fr (.ts v7)), .agg [.int .i64 (x16).k, .int .i64 (x16).n, .fr (.ts (x16).kids)]], [.cells [.fr (.bs x12), .int .i64 x14]]))
 (((FF n 61 [.one (.ptr 0 0), .one (.int .i64 4)] [.cells [.fr (.bs x12), .int .i64 x14]]).bind fun x21 =>
 (objC x21.2 fun x22 x23 =>
 (bsC x22 fun x24 x25 =>
 (intC .i64 x25 fun x26 x27 =>
 (nilC x27
 ((rInt .i64 x21.1 fun x28 x29 =>
 (nilV x29 (nilO x23
 (((FF n 92 [.one (.int .i64 x28)] []).bind fun x30 =>
 (rSs x30.1 fun x31 x32 =>
 (rSs x32 fun x33 x34 =>
 (nilV x34 (nilO x30.2
 (((FF n 93 [.one (.fr (.ss x33))] []).bind fun x35 =>
 (rTs x35.1 fun x36 x37 =>
 (nilV x37 (nilO x35.2
 (((FF n 93 [.one (.fr (.ss x31))] []).bind fun x38 =>
 (rTs x38.1 fun x39 x40 =>
 (nilV x40 (nilO x38.2
 (((FF n 61 [.one (.ptr 0 0), .one (.int .i64 ((x36).length : Int))] [.cells [.fr (.bs x24), .int .i64 x26]]).bind fun x41 =>
 (objC x41.2 fun x42 x43 =>
 (bsC x42 fun x44 x45 =>
 (intC .i64 x45 fun x46 x47 =>
 (nilC x47
 ((rInt .i64 x41.1 fun x48 x49 =>
 (nilV x49 (nilO x43
 ((cond (decide (0 ≤ x48))
 (((x36)[(x48 : Int).toNat]?.bind fun x50 =>
 some ([.one (.fr (.ts x39)), .agg [.int .i64 (x50).k, .int .i64 (x50).n, .fr (.ts (x50).kids)]], [.cells [.fr (.bs x44), .int .i64 x46]])))
 (none))))))))))))))))))))))))))))))))))))))))))))))))))))))))))))))))))) := by kernel_rfl
theorem E_spec_l5Draw (n : Nat) (v0 : List UInt8) (v1 : Int) : FF (n + 1) 59 [.one (.ptr 0 0)] [.cells [.fr (.bs v0), .int .i64 v1]] =
 ((FF n 61 [.one (.ptr 0 0), .one (.int .i64 2)] [.cells [.fr (.bs v0), .int .i64 v1]]).bind fun x0 =>
 (objC x0.2 fun x1 x2 =>
 (bsC x1 fun x3 x4 =>
 (intC .i64 x4 fun x5 x6 =>
 (nilC x6
 ((rInt .i64 x0.1 fun x7 x8 =>
 (nilV x8 (nilO x2
 ((cond ((decide (x7 = 0)))
 (((FF n 46 [.one (.ptr 0 0), .one (.fr (.is [0, 1, 2, 0]))] [.cells [.fr (.bs x3), .int .i64 x5]]).bind fun x9 =>
 (objC x9.2 fun x10 x11 =>
 (bsC x10 fun x12 x13 =>
 (intC .i64 x13 fun x14 x15 =>
 (nilC x15
 ((rInt .i64 x9.1 fun x16 x17 =>
 (nilV x17 (nilO x11
 (L_spec_l5Draw_0_fo n n (x16 : Int) (0 : Int) (x12 : List UInt8) (x14 : Int) (0 : Int) (0 : Int) ([] : List T) ([] : List T))))))))))))
 (((FF n 61 [.one (.ptr 0 0), .one (.int .i64 4)] [.cells [.fr (.bs x3), .int .i64 x5]]).bind fun x9 =>
 (objC x9.2 fun x10 x11 =>
 (bsC x10 fun x12 x13 =>
 (intC .i64 x13 fun x14 x15 =>
 (nilC x15
 ((rInt .i64 x9.1 fun x16 x17 =>
 (nilV x17 (nilO x11
 (((FF n 92 [.one (.int .i64 x16)] []).bind fun x18 =>
 (rSs x18.1 fun x19 x20 =>
 (rSs x20 fun x21 x22 =>
 (nilV x22 (nilO x18.2
 (((FF n 93 [.one (.fr (.ss x21))] []).bind fun x23 =>
 (rTs x23.1 fun x24 x25 =>
 (nilV x25 (nilO x23.2
 (((FF n 93 [.one (.fr (.ss x19))] []).bind fun x26 =>
 (rTs x26.1 fun x27 x28 =>
 (nilV x28 (nilO x26.2
 (((FF n 61 [.one (.ptr 0 0), .one (.int .i64 ((x24).length : Int))] [.cells [.fr (.bs x12), .int .i64 x14]]).bind fun x29 =>
 (objC x29.2 fun x30 x31 =>
 (bsC x30 fun x32 x33 =>
 (intC .i64 x33 fun x34 x35 =>
 (nilC x35
 ((rInt .i64 x29.1 fun x36 x37 =>
 (nilV x37 (nilO x31
 ((cond (decide (0 ≤ x36))
 (((x24)[(x36 : Int).toNat]?.bind fun x38 =>
 some ([.one (.fr (.ts x27)), .agg [.int .i64 (x38).k, .int .i64 (x38).n, .fr (.ts (x38).kids)]], [.cells [.fr (.bs x32), .int .i64 x34]])))
 (none)))))))))))))))))))))))))))))))))))))))))))))))))) := by kernel_rfl

/-! loop.example/depkernel/spec.PiOver -/
theorem E_spec_PiOver (n : Nat) (v0 : List T) (v1 : Int) (v2 : Int) (v3 : List T) : FF (n + 1) 60 [.one (.fr (.ts v0)), .agg [.int .i64 v1, .int .i64 v2, .fr (.ts v3)]] [] =
 ((FF n 53 [.one (.fr (.ts v0))] []).bind fun x0 =>
 (rBool x0.1 fun x1 x2 =>
 (nilV x2 (nilO x0.2
 ((cond ((!x1))
 (some ([.agg [.int .i64 0, .int .i64 0, .fr (.ts [])], .one (.bool false)], []))
 (((FF n 52 [.agg [.int .i64 v1, .int .i64 v2, .fr (.ts v3)]] []).bind fun x3 =>
 (rBool x3.1 fun x4 x5 =>
 (nilV x5 (nilO x3.2
 ((cond ((!x4))
 (some ([.agg [.int .i64 0, .int .i64 0, .fr (.ts [])], .one (.bool false)], []))
 (((FF n 94 [.one (.int .i64 3), .one (.fr (.ts v0)), .agg [.int .i64 v1, .int .i64 v2, .fr (.ts v3)]] []).bind fun x6 =>
 (rTerm x6.1 fun x7 x8 =>
 (nilV x8 (nilO x6.2
 (((FF n 56 [.agg [.int .i64 (x7).k, .int .i64 (x7).n, .fr (.ts (x7).kids)]] []).bind fun x9 =>
 (rTerm x9.1 fun x10 x11 =>
 (rBool x11 fun x12 x13 =>
 (nilV x13 (nilO x9.2
 (some ([.agg [.int .i64 (x10).k, .int .i64 (x10).n, .fr (.ts (x10).kids)], .one (.bool x12)], [])))))))))))))))))))))))))) := by kernel_rfl

/-! loop.example/depkernel/spec.l1Any -/
theorem E_spec_l1Any (n : Nat) (v0 : List UInt8) (v1 : Int) : FF (n + 1) 62 [.one (.ptr 0 0)] [.cells [.fr (.bs v0), .int .i64 v1]] =
 ((FF n 46 [.one (.ptr 0 0), .one (.fr (.is [3, 4, 2, 3, 1]))] [.cells [.fr (.bs v0), .int .i64 v1]]).bind fun x0 =>
 (objC x0.2 fun x1 x2 =>
 (bsC x1 fun x3 x4 =>
 (intC .i64 x4 fun x5 x6 =>
 (nilC x6
 ((rInt .i64 x0.1 fun x7 x8 =>
 (nilV x8 (nilO x2
 (((FF n 47 [.one (.ptr 0 0), .one (.int .i64 x7)] [.cells [.fr (.bs x3), .int .i64 x5]]).bind fun x9 =>
 (objC x9.2 fun x10 x11 =>
 (bsC x10 fun x12 x13 =>
 (intC .i64 x13 fun x14 x15 =>
 (nilC x15
 ((rTerm x9.1 fun x16 x17 =>
 (nilV x17 (nilO x11
 (((FF n 52 [.agg [.int .i64 (x16).k, .int .i64 (x16).n, .fr (.ts (x16).kids)]] []).bind fun x18 =>
 (rBool x18.1 fun x19 x20 =>
 (nilV x20 (nilO x18.2
 ((cond (x19)
 (some ([.agg [.int .i64 (x16).k, .int .i64 (x16).n, .fr (.ts (x16).kids)]], [.cells [.fr (.bs x12), .int .i64 x14]]))
 (((FF n 81 [.one (.int .i64 7), .one (.int .i64 0)] []).bind fun x21 =>
 (rTerm x21.1 fun x22 x23 =>
 (nilV x23 (nilO x21.2
 (some ([.agg [.int .i64 (x22).k, .int .i64 (x22).n, .fr (.ts (x22).kids)]], [.cells [.fr (.bs x12), .int .i64 x14]]))))))))))))))))))))))))))))))))) := by kernel_rfl

/-! (*loop.example/depkernel/spec.l19Rd).pick -/
theorem E_spec_l19Rd_pick (n : Nat) (v0 : Int) (v1 : List UInt8) (v2 : Int) : FF (n + 1) 61 [.one (.ptr 0 0), .one (.int .i64 v0)] [.cells [.fr (.bs v1), .int .i64 v2]] =
 (cond ((decide (v0 < 1)))
 (some ([.one (.int .i64 0)], [.cells [.fr (.bs v1), .int .i64 (IntKind.i64.wrap (v2 + 1))]]))
 ((cond ((decide (((v1).length : Int) = 0)))
 (some ([.one (.int .i64 0)], [.cells [.fr (.bs v1), .int .i64 (IntKind.i64.wrap (v2 + 1))]]))
 ((cond ((decide ((IntKind.i64.wrap ((IntKind.i64.wrap (v2 + 1)) - 1)) < ((v1).length : Int))))
 ((cond (decide (0 ≤ (IntKind.i64.wrap ((IntKind.i64.wrap (v2 + 1)) - 1))))
 (((v1)[((IntKind.i64.wrap ((IntKind.i64.wrap (v2 + 1)) - 1)) : Int).toNat]?.bind fun x0 =>
 (cond (decide (v0 = 0))
 (none)
 (some ([.one (.int .i64 (Int.tmod (IntKind.i64.wrap ((x0).toNat : Int)) v0))], [.cells [.fr (.bs v1), .int .i64 (IntKind.i64.wrap (v2 + 1))]])))))
 (none)))
 ((cond (decide (((v1).length : Int) = 0))
 (none)
 ((cond (decide (0 ≤ (Int.tmod (IntKind.i64.wrap ((IntKind.i64.wrap (v2 + 1)) - 1)) ((v1).length : Int))))
 (((v1)[((Int.tmod (IntKind.i64.wrap ((IntKind.i64.wrap (v2 + 1)) - 1)) ((v1).length : Int)) : Int).toNat]?.bind fun x0 =>
 (cond (decide (((v1).length : Int) = 0))
 (none)
 ((cond (decide (0 ≤ (Int.tmod (IntKind.i64.wrap ((IntKind.i64.wrap ((IntKind.i64.wrap ((IntKind.i64.wrap (v2 + 1)) - 1)) * 7)) + 3)) ((v1).length : Int))))
 (((v1)[((Int.tmod (IntKind.i64.wrap ((IntKind.i64.wrap ((IntKind.i64.wrap ((IntKind.i64.wrap (v2 + 1)) - 1)) * 7)) + 3)) ((v1).length : Int)) : Int).toNat]?.bind fun x1 =>
 (cond (decide (((v1).length : Int) = 0))
 (none)
 ((cond (decide (v0 = 0))
 (none)
 (some ([.one (.int .i64 (Int.tmod (IntKind.i64.wrap (BitVec.ofInt IntKind.i64.bits (IntKind.i64.wrap ((IntKind.i64.wrap ((IntKind.i64.wrap ((IntKind.i64.wrap ((IntKind.i64.wrap ((x0).toNat : Int)) * 131)) + (IntKind.i64.wrap ((IntKind.i64.wrap ((x1).toNat : Int)) * 1117)))) + (IntKind.i64.wrap ((IntKind.i64.wrap ((IntKind.i64.wrap (v2 + 1)) - 1)) * 29)))) + (IntKind.i64.wrap ((IntKind.i64.wrap (Int.tdiv (IntKind.i64.wrap ((IntKind.i64.wrap (v2 + 1)) - 1)) ((v1).length : Int))) * 53)))) ^^^ BitVec.ofInt IntKind.i64.bits (IntKind.i64.wrap (Int.tdiv (IntKind.i64.wrap ((IntKind.i64.wrap ((IntKind.i64.wrap ((IntKind.i64.wrap ((IntKind.i64.wrap ((x0).toNat : Int)) * 131)) + (IntKind.i64.wrap ((IntKind.i64.wrap ((x1).toNat : Int)) * 1117)))) + (IntKind.i64.wrap ((IntKind.i64.wrap ((IntKind.i64.wrap (v2 + 1)) - 1)) * 29)))) + (IntKind.i64.wrap ((IntKind.i64.wrap (Int.tdiv (IntKind.i64.wrap ((IntKind.i64.wrap (v2 + 1)) - 1)) ((v1).length : Int))) * 53)))) 64))).toNat) v0))], [.cells [.fr (.bs v1), .int .i64 (IntKind.i64.wrap (v2 + 1))]])))))))
 (none))))))
 (none)))))))))) := by kernel_rfl

/-! loop.example/depkernel/impl.CountPi -/
noncomputable def L_impl_CountPi_0 (n c : Nat) (v0 : Int) (v1 : Int) (v2 : Int) (v3 : List T) : OR := runLoop Try.prog SS n 64 0 [1, 1, 1, 0, 0] [] c ⟨[.v (.one (.any)), .v (.one (.ptr 0 0)), .v (.one (.any)), .v (.one (.int .i64 v0)), .v (.one (.any)), .v (.one (.any)), .v (.one (.any)), .v (.one (.any)), .v (.one (.any)), .v (.one (.any)), .v (.one (.any)), .v (.one (.any)), .v (.one (.any)), .v (.one (.any)), .v (.one (.any)), .v (.one (.any)), .v (.one (.any))],
  [.cells [.int .i64 v1, .int .i64 v2, .fr (.ts v3)]]⟩
theorem L_impl_CountPi_0_eq (n c : Nat) (v0 : Int) (v1 : Int) (v2 : Int) (v3 : List T) : L_impl_CountPi_0 n (c + 1) v0 v1 v2 v3 =
 (cond ((decide (v1 = 3)))
 (((v3)[(1 : Int).toNat]?.bind fun x0 =>
 L_impl_CountPi_0 n c ((IntKind.i64.wrap (v0 + 1)) : Int) ((x0).k : Int) ((x0).n : Int) ((x0).kids : List T)))
 (some ([.one (.int .i64 v0)], []))) := by kernel_rfl
theorem E_impl_CountPi (n : Nat) (v0 : Int) (v1 : Int) (v2 : List T) : FF (n + 1) 64 [.agg [.int .i64 v0, .int .i64 v1, .fr (.ts v2)]] [] =
 ((FF n 31 [.agg [.int .i64 v0, .int .i64 v1, .fr (.ts v2)]] []).bind fun x0 =>
 (rBool x0.1 fun x1 x2 =>
 (nilV x2 (nilO x0.2
 ((cond ((!x1))
 (some ([.one (.int .i64 0)], []))
 (L_impl_CountPi_0 n n (0 : Int) (v0 : Int) (v1 : Int) (v2 : List T)))))))) := by kernel_rfl

/-! loop.example/depkernel/impl.within -/
theorem E_impl_within (n : Nat) (v0 : Int) (v1 : Int) (v2 : Int) : FF (n + 1) 63 [.one (.int .i64 v0), .one (.int .i64 v1), .one (.int .i64 v2)] [] =
 (cond ((decide (v1 ≤ v0)))
 (some ([.one (.bool (decide (v0 ≤ v2)))], []))
 (some ([.one (.bool false)], []))) := by kernel_rfl

/-! loop.example/depkernel/spec.CountPi -/
noncomputable def L_spec_CountPi_0 (n c : Nat) (v0 : Int) (v1 : Int) (v2 : Int) (v3 : List T) : OR := runLoop Try.prog SS n 65 0 [1, 1, 0, 0] [] c ⟨[.v (.one (.any)), .v (.one (.ptr 0 0)), .v (.one (.any)), .v (.one (.int .i64 v0)), .v (.one (.any)), .v (.one (.any)), .v (.one (.any)), .v (.one (.any)), .v (.one (.any)), .v (.one (.any)), .v (.one (.any)), .v (.one (.any)), .v (.one (.any)), .v (.one (.any)), .v (.one (.any)), .v (.one (.any)), .v (.one (.any)), .v (.one (.any))],
  [.cells [.int .i64 v1, .int .i64 v2, .fr (.ts v3)]]⟩
theorem L_spec_CountPi_0_eq (n c : Nat) (v0 : Int) (v1 : Int) (v2 : Int) (v3 : List T) : L_spec_CountPi_0 n (c + 1) v0 v1 v2 v3 =
 ((FF n 52 [.agg [.int .i64 v1, .int .i64 v2, .fr (.ts v3)]] []).bind fun x0 =>
 (rBool x0.1 fun x1 x2 =>
 (nilV x2 (nilO x0.2
 ((cond (x1)
 ((cond ((decide (v1 = 3)))
 (((v3)[(1 : Int).toNat]?.bind fun x3 =>
 L_spec_CountPi_0 n c ((IntKind.i64.wrap (v0 + 1)) : Int) ((x3).k : Int) ((x3).n : Int) ((x3).kids : List T)))
 (some ([.one (.int .i64 v0)], []))))
 (some ([.one (.int .i64 v0)], [])))))))) := by kernel_rfl
theorem E_spec_CountPi (n : Nat) (v0 : Int) (v1 : Int) (v2 : List T) : FF (n + 1) 65 [.agg [.int .i64 v0, .int .i64 v1, .fr (.ts v2)]] [] =
 L_spec_CountPi_0 n n (0 : Int) (v0 : Int) (v1 : Int) (v2 : List T) := by kernel_rfl

/-! loop.example/depkernel/impl.over -/
noncomputable def L_impl_over_0_of (n c : Nat) (v0 : Int) (v1 : List T) (v2 : Int) (v3 : Int) (v4 : Int) (v5 : List T) (v6 : Int) (v7 : Int) (v8 : List T) : OR := runLoop Try.prog SS n 66 0 [1, 1, 1, 0, 1, 0] [] c ⟨[.v (.one (.int .i64 v0)), .v (.one (.fr (.ts v1))), .v (.one (.any)), .v (.one (.any)), .v (.one (.any)), .v (.one (.any)), .v (.one (.ptr 0 0)), .v (.one (.any)), .v (.one (.ptr 2 0)), .v (.one (.int .i64 v2)), .v (.one (.any)), .v (.one (.any)), .v (.one (.any)), .v (.one (.any)), .v (.one (.any)), .v (.one (.any)), .v (.one (.any)), .v (.one (.any)), .v (.one (.any)), .v (.one (.any)), .v (.one (.any)), .v (.one (.any)), .v (.one (.any)), .v (.one (.any)), .v (.one (.any)), .v (.one (.any)), .v (.one (.any)), .v (.one (.any)), .v (.one (.any)), .v (.one (.any)), .v (.one (.any)), .v (.one (.any)), .v (.one (.any)), .v (.one (.any)), .v (.one (.any)), .v (.one (.any)), .v (.one (.any)), .v (.one (.any)), .v (.one (.any)), .v (.one (.any))],
  [.cells [.int .i64 v3, .int .i64 v4, .own 1 0], .arr 25 (.ts v5) 0 false, .cells [.int .i64 v6, .int .i64 v7, .fr (.ts v8)]]⟩
theorem L_impl_over_0_of_eq (n c : Nat) (v0 : Int) (v1 : List T) (v2 : Int) (v3 : Int) (v4 : Int) (v5 : List T) (v6 : Int) (v7 : Int) (v8 : List T) : L_impl_over_0_of n (c + 1) v0 v1 v2 v3 v4 v5 v6 v7 v8 =
 (cond ((decide (0 ≤ v2)))
 ((cond (decide (0 ≤ v2))
 (((v1)[(v2 : Int).toNat]?.bind fun x0 =>
 ((FF n 49 [.one (.int .i64 v0), .one (.fr (.ts [(T.mk (x0).k (x0).n (x0).kids), (T.mk v6 v7 v8)]))] []).bind fun x1 =>
 (rTerm x1.1 fun x2 x3 =>
 (nilV x3 (nilO x1.2
 (L_impl_over_0_of n c (v0 : Int) (v1 : List T) ((IntKind.i64.wrap (v2 - 1)) : Int) (v3 : Int) (v4 : Int) (v5 : List T) ((x2).k : Int) ((x2).n : Int) ((x2).kids : List T))))))))
 (none)))
 (((FF n 51 [.agg [.int .i64 v6, .int .i64 v7, .fr (.ts v8)]] []).bind fun x0 =>
 (rTerm x0.1 fun x1 x2 =>
 (nilV x2 (nilO x0.2
 (((FF n 50 [.agg [.int .i64 (x1).k, .int .i64 (x1).n, .fr (.ts (x1).kids)]] []).bind fun x3 =>
 (rTerm x3.1 fun x4 x5 =>
 (rBool x5 fun x6 x7 =>
 (nilV x7 (nilO x3.2
 (some ([.agg [.int .i64 (x4).k, .int .i64 (x4).n, .fr (.ts (x4).kids)], .one (.bool x6)], [])))))))))))))) := by kernel_rfl
theorem E_impl_over (n : Nat) (v0 : Int) (v1 : List T) (v2 : Int) (v3 : Int) (v4 : List T) : FF (n + 1) 66 [.one (.int .i64 v0), .one (.fr (.ts v1)), .agg [.int .i64 v2, .int .i64 v3, .fr (.ts v4)]] [] =
 ((FF n 48 [.one (.fr (.ts v1))] []).bind fun x0 =>
 (rBool x0.1 fun x1 x2 =>
 (nilV x2 (nilO x0.2
 ((cond ((!x1))
 (some ([.agg [.int .i64 0, .int .i64 0, .fr (.ts [])], .one (.bool false)], []))
 (((FF n 31 [.agg [.int .i64 v2, .int .i64 v3, .fr (.ts v4)]] []).bind fun x3 =>
 (rBool x3.1 fun x4 x5 =>
 (nilV x5 (nilO x3.2
 ((cond ((!x4))
 (some ([.agg [.int .i64 0, .int .i64 0, .fr (.ts [])], .one (.bool false)], []))
 (L_impl_over_0_of n n (v0 : Int) (v1 : List T) ((IntKind.i64.wrap (((v1).length : Int) - 1)) : Int) (0 : Int) (0 : Int) ([] : List T) (v2 : Int) (v3 : Int) (v4 : List T))))))))))))))) := by kernel_rfl

/-! loop.example/depkernel/spec.DrawRedexOf -/
theorem E_spec_DrawRedexOf (n : Nat) (v0 : List UInt8) : FF (n + 1) 67 [.one (.fr (.bs v0))] [] =
 ((FF n 43 [.one (.fr (.bs v0))] []).bind fun x0 =>
 (rPtr 0 x0.1 fun x1 =>
 (objC x0.2 fun x2 x3 =>
 (bsC x2 fun x4 x5 =>
 (intC .i64 x5 fun x6 x7 =>
 (nilC x7
 ((nilV x1 (nilO x3
 (((FF n 45 [.one (.ptr 0 0)] [.cells [.fr (.bs x4), .int .i64 x6]]).bind fun x8 =>
 (objC x8.2 fun x9 x10 =>
 (bsC x9 fun x11 x12 =>
 (intC .i64 x12 fun x13 x14 =>
 (nilC x14
 ((rTerm x8.1 fun x15 x16 =>
 (nilV x16 (nilO x10
 (((FF n 44 [.one (.ptr 0 0), .agg [.int .i64 (x15).k, .int .i64 (x15).n, .fr (.ts (x15).kids)]] [.cells [.fr (.bs x11), .int .i64 x13]]).bind fun x17 =>
 (objC x17.2 fun x18 x19 =>
 (bsC x18 fun x20 x21 =>
 (intC .i64 x21 fun x22 x23 =>
 (nilC x23
 ((rTerm x17.1 fun x24 x25 =>
 (nilV x25 (nilO x19
 (some ([.agg [.int .i64 (x24).k, .int .i64 (x24).n, .fr (.ts (x24).kids)]], []))))))))))))))))))))))))))))))) := by kernel_rfl

/-! loop.example/depkernel/spec.l3One -/
theorem E_spec_l3One (n : Nat) (v0 : Int) (v1 : Int) (v2 : List T) (v3 : Bool) : FF (n + 1) 68 [.agg [.int .i64 v0, .int .i64 v1, .fr (.ts v2)], .one (.bool v3)] [] =
 ((FF n 95 [.agg [.int .i64 v0, .int .i64 v1, .fr (.ts v2)], .one (.bool v3)] []).bind fun x0 =>
 (rTerm x0.1 fun x1 x2 =>
 (rBool x2 fun x3 x4 =>
 (nilV x4 (nilO x0.2
 ((cond ((!x3))
 (((FF n 54 [.agg [.int .i64 v0, .int .i64 v1, .fr (.ts v2)]] []).bind fun x5 =>
 (rOwnT 0 x5.1 fun x6 x7 x8 =>
 (arrTsC 25 x5.2 fun x9 x10 =>
 (nilV x8 (nilO x10
 (some ([.agg [.int .i64 x6, .int .i64 x7, .fr (.ts x9)], .one (.int .i64 0)], []))))))))
 (((FF n 52 [.agg [.int .i64 (x1).k, .int .i64 (x1).n, .fr (.ts (x1).kids)]] []).bind fun x5 =>
 (rBool x5.1 fun x6 x7 =>
 (nilV x7 (nilO x5.2
 ((cond ((!x6))
 (some ([.agg [.int .i64 0, .int .i64 0, .fr (.ts [])], .one (.int .i64 2)], []))
 (some ([.agg [.int .i64 (x1).k, .int .i64 (x1).n, .fr (.ts (x1).kids)], .one (.int .i64 1)], [])))))))))))))))) := by kernel_rfl

/-! loop.example/depkernel/impl.step -/
theorem E_impl_step_impl_outer (n : Nat) (v0 : Int) (v1 : Int) (v2 : List T) : FF (n + 1) 69 [.agg [.int .i64 v0, .int .i64 v1, .fr (.ts v2)], .one (.fn 70 [])] [] =
 ((FF n 31 [.agg [.int .i64 v0, .int .i64 v1, .fr (.ts v2)]] []).bind fun x0 =>
 (rBool x0.1 fun x1 x2 =>
 (nilV x2 (nilO x0.2
 ((cond ((!x1))
 (some ([.agg [.int .i64 0, .int .i64 0, .fr (.ts [])], .one (.int .i64 3)], []))
 (((FF n 70 [.agg [.int .i64 v0, .int .i64 v1, .fr (.ts v2)]] []).bind fun x3 =>
 (rIs x3.1 fun x4 x5 =>
 (rBool x5 fun x6 x7 =>
 (nilV x7 (nilO x3.2
 ((cond ((!x6))
 (((FF n 51 [.agg [.int .i64 v0, .int .i64 v1, .fr (.ts v2)]] []).bind fun x8 =>
 (rTerm x8.1 fun x9 x10 =>
 (nilV x10 (nilO x8.2
 (some ([.agg [.int .i64 (x9).k, .int .i64 (x9).n, .fr (.ts (x9).kids)], .one (.int .i64 0)], [])))))))
 (((FF n 96 [.agg [.int .i64 v0, .int .i64 v1, .fr (.ts v2)], .one (.fr (.is x4))] []).bind fun x8 =>
 (rTerm x8.1 fun x9 x10 =>
 (rBool x10 fun x11 x12 =>
 (nilV x12 (nilO x8.2
 ((cond ((!x11))
 (some ([.agg [.int .i64 0, .int .i64 0, .fr (.ts [])], .one (.int .i64 2)], []))
 (some ([.agg [.int .i64 (x9).k, .int .i64 (x9).n, .fr (.ts (x9).kids)], .one (.int .i64 1)], [])))))))))))))))))))))))) := by kernel_rfl

/-! loop.example/depkernel/impl.scan -/
noncomputable def L_impl_scan_0 (n c : Nat) (v0 : Int) (v1 : List T) (v2 : Int) (v3 : Int) (v4 : Int) : OR := runLoop Try.prog SS n 71 1 [1, 1, 1, 0, 1, 0] [] c ⟨[.v (.one (.any)), .v (.one (.int .i64 v0)), .v (.one (.ptr 0 0)), .v (.one (.any)), .v (.one (.any)), .v (.one (.any)), .v (.one (.any)), .v (.one (.any)), .v (.one (.any)), .v (.one (.any)), .v (.one (.any)), .v (.one (.any)), .v (.one (.any)), .v (.one (.any)), .v (.one (.any)), .v (.one (.any)), .v (.one (.any)), .v (.one (.any)), .v (.one (.any)), .v (.one (.any)), .v (.one (.any)), .v (.one (.any)), .v (.one (.any)), .v (.one (.any)), .v (.one (.any)), .v (.one (.any)), .v (.one (.any)), .v (.one (.any)), .v (.one (.any)), .v (.one (.any)), .v (.one (.any)), .v (.one (.any)), .v (.one (.any)), .v (.one (.any)), .v (.one (.any)), .v (.one (.any)), .v (.one (.any)), .v (.one (.any)), .v (.one (.any)), .v (.one (.any)), .v (.one (.any)), .v (.one (.fr (.ts v1))), .v (.one (.int .i64 v2)), .v (.one (.int .i64 v3)), .v (.one (.any)), .v (.one (.any)), .v (.one (.any)), .v (.one (.any)), .v (.one (.any)), .v (.one (.any)), .v (.one (.any)), .v (.one (.any)), .v (.one (.any)), .v (.one (.any))],
  [.cells [.int .i64 v4]]⟩
theorem L_impl_scan_0_eq (n c : Nat) (v0 : Int) (v1 : List T) (v2 : Int) (v3 : Int) (v4 : Int) : L_impl_scan_0 n (c + 1) v0 v1 v2 v3 v4 =
 (cond ((decide (v3 < v2)))
 ((cond (decide (0 ≤ v3))
 (((v1)[(v3 : Int).toNat]?.bind fun x0 =>
 ((FF n 71 [.agg [.int .i64 (x0).k, .int .i64 (x0).n, .fr (.ts (x0).kids)], .one (.int .i64 (IntKind.i64.wrap (v0 + 1))), .one (.ptr 0 0)] [.cells [.int .i64 v4]]).bind fun x1 =>
 (objC x1.2 fun x2 x3 =>
 (intC .i64 x2 fun x4 x5 =>
 (nilC x5
 ((rBool x1.1 fun x6 x7 =>
 (nilV x7 (nilO x3
 ((cond ((!x6))
 (some ([.one (.bool false)], [.cells [.int .i64 x4]]))
 (L_impl_scan_0 n c (v0 : Int) (v1 : List T) (v2 : Int) ((IntKind.i64.wrap (v3 + 1)) : Int) (x4 : Int))))))))))))))
 (none)))
 (some ([.one (.bool true)], [.cells [.int .i64 v4]]))) := by kernel_rfl
theorem E_impl_scan (n : Nat) (v0 : Int) (v1 : Int) (v2 : List T) (v3 : Int) (v4 : Int) : FF (n + 1) 71 [.agg [.int .i64 v0, .int .i64 v1, .fr (.ts v2)], .one (.int .i64 v3), .one (.ptr 0 0)] [.cells [.int .i64 v4]] =
 (cond ((decide (400 < (IntKind.i64.wrap (v4 + 1)))))
 (some ([.one (.bool false)], [.cells [.int .i64 (IntKind.i64.wrap (v4 + 1))]]))
 ((cond ((decide (30 < v3)))
 (some ([.one (.bool false)], [.cells [.int .i64 (IntKind.i64.wrap (v4 + 1))]]))
 (((FF n 98 [.one (.int .i64 v0)] []).bind fun x0 =>
 (rInt .i64 x0.1 fun x1 x2 =>
 (nilV x2 (nilO x0.2
 ((cond ((!decide (x1 = ((v2).length : Int))))
 (some ([.one (.bool false)], [.cells [.int .i64 (IntKind.i64.wrap (v4 + 1))]]))
 (((FF n 99 [.one (.int .i64 v0)] []).bind fun x3 =>
 (rInt .i64 x3.1 fun x4 x5 =>
 (nilV x5 (nilO x3.2
 (((FF n 63 [.one (.int .i64 v1), .one (.int .i64 0), .one (.int .i64 x4)] []).bind fun x6 =>
 (rBool x6.1 fun x7 x8 =>
 (nilV x8 (nilO x6.2
 ((cond ((!x7))
 (some ([.one (.bool false)], [.cells [.int .i64 (IntKind.i64.wrap (v4 + 1))]]))
 (L_impl_scan_0 n n (v3 : Int) (v2 : List T) (((v2).length : Int) : Int) (0 : Int) ((IntKind.i64.wrap (v4 + 1)) : Int)))))))))))))))))))))))) := by kernel_rfl

/-! loop.example/depkernel/impl.develop -/
noncomputable def L_impl_develop_0_foo (n c : Nat) (v0 : List T) (v1 : Int) (v2 : Int) (v3 : Int) (v4 : Int) (v5 : List T) (v6 : Int) (v7 : Int) (v8 : List T) (v9 : Int) (v10 : Int) (v11 : List T) : OR := runLoop Try.prog SS n 72 0 [1, 1, 0, 1, 0] [] c ⟨[.v (.one (.any)), .v (.one (.ptr 0 0)), .v (.one (.ptr 1 0)), .v (.one (.any)), .v (.one (.ptr 3 0)), .v (.one (.any)), .v (.one (.any)), .v (.one (.any)), .v (.one (.any)), .v (.one (.any)), .v (.one (.any)), .v (.one (.any)), .v (.one (.any)), .v (.one (.any)), .v (.one (.any)), .v (.one (.fr (.ts v0))), .v (.one (.int .i64 v1)), .v (.one (.int .i64 v2)), .v (.one (.any)), .v (.one (.any)), .v (.one (.any)), .v (.one (.any)), .v (.one (.any)), .v (.one (.any)), .v (.one (.any)), .v (.one (.any)), .v (.one (.any)), .v (.one (.any)), .v (.one (.any)), .v (.one (.any)), .v (.one (.any)), .v (.one (.any)), .v (.one (.any)), .v (.one (.any)), .v (.one (.any)), .v (.one (.any)), .v (.one (.any)), .v (.one (.any)), .v (.one (.any)), .v (.one (.any)), .v (.one (.any)), .v (.one (.any)), .v (.one (.any)), .v (.one (.any)), .v (.one (.any)), .v (.one (.any)), .v (.one (.any)), .v (.one (.any))],
  [.cells [.int .i64 v3, .int .i64 v4, .fr (.ts v5)], .cells [.int .i64 v6, .int .i64 v7, .own 2 0], .arr 25 (.ts v8) 0 false, .cells [.int .i64 v9, .int .i64 v10, .own 4 0], .arr 25 (.ts v11) 0 false]⟩
theorem L_impl_develop_0_foo_eq (n c : Nat) (v0 : List T) (v1 : Int) (v2 : Int) (v3 : Int) (v4 : Int) (v5 : List T) (v6 : Int) (v7 : Int) (v8 : List T) (v9 : Int) (v10 : Int) (v11 : List T) : L_impl_develop_0_foo n (c + 1) v0 v1 v2 v3 v4 v5 v6 v7 v8 v9 v10 v11 =
 (cond ((decide (v2 < v1)))
 ((cond (decide (0 ≤ v2))
 (((v0)[(v2 : Int).toNat]?.bind fun x0 =>
 ((FF n 72 [.agg [.int .i64 (x0).k, .int .i64 (x0).n, .fr (.ts (x0).kids)]] []).bind fun x1 =>
 (rTerm x1.1 fun x2 x3 =>
 (rBool x3 fun x4 x5 =>
 (nilV x5 (nilO x1.2
 ((cond ((!x4))
 (some ([.agg [.int .i64 0, .int .i64 0, .fr (.ts [])], .one (.bool false)], []))
 ((cond (roomB (v11 ++ [(T.mk (x2).k (x2).n (x2).kids)]).length)
 (L_impl_develop_0_foo n c (v0 : List T) (v1 : Int) ((IntKind.i64.wrap (v2 + 1)) : Int) (v3 : Int) (v4 : Int) (v5 : List T) (v6 : Int) (v7 : Int) (v8 : List T) (v9 : Int) (v10 : Int) ((v11 ++ [(T.mk (x2).k (x2).n (x2).kids)]) : List T))
 (none))))))))))))
 (none)))
 (((FF n 31 [.agg [.int .i64 v9, .int .i64 v10, .fr (.ts v11)]] []).bind fun x0 =>
 (rBool x0.1 fun x1 x2 =>
 (nilV x2 (nilO x0.2
 ((cond ((!x1))
 (some ([.agg [.int .i64 0, .int .i64 0, .fr (.ts [])], .one (.bool false)], []))
 (((FF n 97 [.agg [.int .i64 v3, .int .i64 v4, .fr (.ts v5)]] []).bind fun x3 =>
 (rInt .i64 x3.1 fun x4 x5 =>
 (nilV x5 (nilO x3.2
 ((cond ((decide (x4 = 0)))
 (some ([.agg [.int .i64 v9, .int .i64 v10, .fr (.ts v11)], .one (.bool true)], []))
 (((FF n 100 [.agg [.int .i64 v9, .int .i64 v10, .fr (.ts v11)]] []).bind fun x6 =>
 (rTerm x6.1 fun x7 x8 =>
 (rBool x8 fun x9 x10 =>
 (nilV x10 (nilO x6.2
 (some ([.agg [.int .i64 (x7).k, .int .i64 (x7).n, .fr (.ts (x7).kids)], .one (.bool x9)], []))))))))))))))))))))))) := by kernel_rfl
theorem E_impl_develop (n : Nat) (v0 : Int) (v1 : Int) (v2 : List T) : FF (n + 1) 72 [.agg [.int .i64 v0, .int .i64 v1, .fr (.ts v2)]] [] =
 L_impl_develop_0_foo n n (v2 : List T) (((v2).length : Int) : Int) (0 : Int) (v0 : Int) (v1 : Int) (v2 : List T) (0 : Int) (0 : Int) ([] : List T) (v0 : Int) (v1 : Int) ([] : List T) := by kernel_rfl

/-! loop.example/depkernel/spec.l4Develop -/
noncomputable def L_spec_l4Develop_0_foo (n c : Nat) (v0 : Bool) (v1 : Int) (v2 : Int) (v3 : Int) (v4 : List T) (v5 : Int) (v6 : Int) (v7 : List T) (v8 : Int) (v9 : Int) (v10 : List T) : OR := runLoop Try.prog SS n 73 0 [1, 1, 1, 0, 1, 0] [] c ⟨[.v (.one (.any)), .v (.one (.ptr 0 0)), .v (.one (.ptr 1 0)), .v (.one (.any)), .v (.one (.bool v0)), .v (.one (.ptr 3 0)), .v (.one (.int .i64 v1)), .v (.one (.any)), .v (.one (.any)), .v (.one (.any)), .v (.one (.any)), .v (.one (.any)), .v (.one (.any)), .v (.one (.any)), .v (.one (.any)), .v (.one (.any)), .v (.one (.any)), .v (.one (.any)), .v (.one (.any)), .v (.one (.any)), .v (.one (.any)), .v (.one (.any)), .v (.one (.any)), .v (.one (.any)), .v (.one (.any)), .v (.one (.any)), .v (.one (.any)), .v (.one (.any)), .v (.one (.any)), .v (.one (.any)), .v (.one (.any)), .v (.one (.any)), .v (.one (.any)), .v (.one (.any)), .v (.one (.any)), .v (.one (.any)), .v (.one (.any)), .v (.one (.any)), .v (.one (.any)), .v (.one (.any)), .v (.one (.any)), .v (.one (.any)), .v (.one (.any)), .v (.one (.any)), .v (.one (.any)), .v (.one (.any)), .v (.one (.any)), .v (.one (.any))],
  [.cells [.int .i64 v2, .int .i64 v3, .fr (.ts v4)], .cells [.int .i64 v5, .int .i64 v6, .own 2 0], .arr 25 (.ts v7) 0 false, .cells [.int .i64 v8, .int .i64 v9, .own 4 0], .arr 25 (.ts v10) 0 false]⟩
theorem L_spec_l4Develop_0_foo_eq (n c : Nat) (v0 : Bool) (v1 : Int) (v2 : Int) (v3 : Int) (v4 : List T) (v5 : Int) (v6 : Int) (v7 : List T) (v8 : Int) (v9 : Int) (v10 : List T) : L_spec_l4Develop_0_foo n (c + 1) v0 v1 v2 v3 v4 v5 v6 v7 v8 v9 v10 =
 (cond ((decide (v1 < ((v4).length : Int))))
 ((cond (decide (0 ≤ v1))
 (((v4)[(v1 : Int).toNat]?.bind fun x0 =>
 ((FF n 73 [.agg [.int .i64 (x0).k, .int .i64 (x0).n, .fr (.ts (x0).kids)]] []).bind fun x1 =>
 (rTerm x1.1 fun x2 x3 =>
 (rBool x3 fun x4 x5 =>
 (nilV x5 (nilO x1.2
 ((cond ((!x4))
 (some ([.agg [.int .i64 0, .int .i64 0, .fr (.ts [])], .one (.bool false)], []))
 ((cond (roomB (v10 ++ [(T.mk (x2).k (x2).n (x2).kids)]).length)
 (L_spec_l4Develop_0_foo n c (v0 : Bool) ((IntKind.i64.wrap (v1 + 1)) : Int) (v2 : Int) (v3 : Int) (v4 : List T) (v5 : Int) (v6 : Int) (v7 : List T) (v8 : Int) (v9 : Int) ((v10 ++ [(T.mk (x2).k (x2).n (x2).kids)]) : List T))
 (none))))))))))))
 (none)))
 ((cond (v0)
 (((FF n 102 [.agg [.int .i64 v8, .int .i64 v9, .fr (.ts v10)]] []).bind fun x0 =>
 (rTerm x0.1 fun x1 x2 =>
 (nilV x2 (nilO x0.2
 (((FF n 52 [.agg [.int .i64 (x1).k, .int .i64 (x1).n, .fr (.ts (x1).kids)]] []).bind fun x3 =>
 (rBool x3.1 fun x4 x5 =>
 (nilV x5 (nilO x3.2
 (some ([.agg [.int .i64 (x1).k, .int .i64 (x1).n, .fr (.ts (x1).kids)], .one (.bool x4)], []))))))))))))
 (((FF n 52 [.agg [.int .i64 v8, .int .i64 v9, .fr (.ts v10)]] []).bind fun x0 =>
 (rBool x0.1 fun x1 x2 =>
 (nilV x2 (nilO x0.2
 (some ([.agg [.int .i64 v8, .int .i64 v9, .fr (.ts v10)], .one (.bool x1)], [])))))))))) := by kernel_rfl
theorem E_spec_l4Develop (n : Nat) (v0 : Int) (v1 : Int) (v2 : List T) : FF (n + 1) 73 [.agg [.int .i64 v0, .int .i64 v1, .fr (.ts v2)]] [] =
 ((FF n 101 [.agg [.int .i64 v0, .int .i64 v1, .fr (.ts v2)]] []).bind fun x0 =>
 (rInt .i64 x0.1 fun x1 x2 =>
 (nilV x2 (nilO x0.2
 (L_spec_l4Develop_0_foo n n ((!decide (x1 = 0)) : Bool) (0 : Int) (v0 : Int) (v1 : Int) (v2 : List T) (0 : Int) (0 : Int) ([] : List T) (v0 : Int) (v1 : Int) ([] : List T)))))) := by kernel_rfl

/-! loop.example/depkernel/impl.step -/
theorem E_impl_step_impl_inner (n : Nat) (v0 : Int) (v1 : Int) (v2 : List T) : FF (n + 1) 69 [.agg [.int .i64 v0, .int .i64 v1, .fr (.ts v2)], .one (.fn 74 [])] [] =
 ((FF n 31 [.agg [.int .i64 v0, .int .i64 v1, .fr (.ts v2)]] []).bind fun x0 =>
 (rBool x0.1 fun x1 x2 =>
 (nilV x2 (nilO x0.2
 ((cond ((!x1))
 (some ([.agg [.int .i64 0, .int .i64 0, .fr (.ts [])], .one (.int .i64 3)], []))
 (((FF n 74 [.agg [.int .i64 v0, .int .i64 v1, .fr (.ts v2)]] []).bind fun x3 =>
 (rIs x3.1 fun x4 x5 =>
 (rBool x5 fun x6 x7 =>
 (nilV x7 (nilO x3.2
 ((cond ((!x6))
 (((FF n 51 [.agg [.int .i64 v0, .int .i64 v1, .fr (.ts v2)]] []).bind fun x8 =>
 (rTerm x8.1 fun x9 x10 =>
 (nilV x10 (nilO x8.2
 (some ([.agg [.int .i64 (x9).k, .int .i64 (x9).n, .fr (.ts (x9).kids)], .one (.int .i64 0)], [])))))))
 (((FF n 96 [.agg [.int .i64 v0, .int .i64 v1, .fr (.ts v2)], .one (.fr (.is x4))] []).bind fun x8 =>
 (rTerm x8.1 fun x9 x10 =>
 (rBool x10 fun x11 x12 =>
 (nilV x12 (nilO x8.2
 ((cond ((!x11))
 (some ([.agg [.int .i64 0, .int .i64 0, .fr (.ts [])], .one (.int .i64 2)], []))
 (some ([.agg [.int .i64 (x9).k, .int .i64 (x9).n, .fr (.ts (x9).kids)], .one (.int .i64 1)], [])))))))))))))))))))))))) := by kernel_rfl

/-! loop.example/depkernel/impl.reduce -/
noncomputable def L_impl_reduce_impl_outer_0_fo (n c : Nat) (v0 : Int) (v1 : Int) (v2 : Int) (v3 : Int) (v4 : List T) (v5 : Int) (v6 : Int) (v7 : List T) : OR := runLoop Try.prog SS n 75 0 [1, 1, 1, 0] [] c ⟨[.v (.one (.any)), .v (.one (.int .i64 v0)), .v (.one (.fn 70 [])), .v (.one (.ptr 0 0)), .v (.one (.any)), .v (.one (.any)), .v (.one (.ptr 1 0)), .v (.one (.any)), .v (.one (.any)), .v (.one (.int .i64 v1)), .v (.one (.any)), .v (.one (.any)), .v (.one (.any)), .v (.one (.any)), .v (.one (.any)), .v (.one (.any)), .v (.one (.any)), .v (.one (.any)), .v (.one (.any)), .v (.one (.any)), .v (.one (.any)), .v (.one (.any)), .v (.one (.any)), .v (.one (.any)), .v (.one (.any)), .v (.one (.any)), .v (.one (.any)), .v (.one (.any)), .v (.one (.any)), .v (.one (.any)), .v (.one (.any)), .v (.one (.any)), .v (.one (.any)), .v (.one (.any)), .v (.one (.any)), .v (.one (.any)), .v (.one (.any)), .v (.one (.any)), .v (.one (.any)), .v (.one (.any)), .v (.one (.any)), .v (.one (.any)), .v (.one (.any)), .v (.one (.any)), .v (.one (.any)), .v (.one (.any)), .v (.one (.any)), .v (.one (.any)), .v (.one (.any)), .v (.one (.any)), .v (.one (.any))],
  [.cells [.int .i64 v2, .int .i64 v3, .fr (.ts v4)], .cells [.int .i64 v5, .int .i64 v6, .own 2 0], .arr 25 (.ts v7) 0 false]⟩
theorem L_impl_reduce_impl_outer_0_fo_eq (n c : Nat) (v0 : Int) (v1 : Int) (v2 : Int) (v3 : Int) (v4 : List T) (v5 : Int) (v6 : Int) (v7 : List T) : L_impl_reduce_impl_outer_0_fo n (c + 1) v0 v1 v2 v3 v4 v5 v6 v7 =
 ((FF n 70 [.agg [.int .i64 v2, .int .i64 v3, .fr (.ts v4)]] []).bind fun x0 =>
 (rIs x0.1 fun x1 x2 =>
 (rBool x2 fun x3 x4 =>
 (nilV x4 (nilO x0.2
 ((cond ((!x3))
 (((FF n 51 [.agg [.int .i64 v2, .int .i64 v3, .fr (.ts v4)]] []).bind fun x5 =>
 (rTerm x5.1 fun x6 x7 =>
 (nilV x7 (nilO x5.2
 (some ([.agg [.int .i64 (x6).k, .int .i64 (x6).n, .fr (.ts (x6).kids)], .one (.int .i64 v1), .one (.int .i64 0)], [])))))))
 ((cond ((decide (v1 = v0)))
 (some ([.agg [.int .i64 0, .int .i64 0, .fr (.ts [])], .one (.int .i64 v1), .one (.int .i64 1)], []))
 (((FF n 96 [.agg [.int .i64 v2, .int .i64 v3, .fr (.ts v4)], .one (.fr (.is x1))] []).bind fun x5 =>
 (rTerm x5.1 fun x6 x7 =>
 (rBool x7 fun x8 x9 =>
 (nilV x9 (nilO x5.2
 ((cond ((!x8))
 (some ([.agg [.int .i64 0, .int .i64 0, .fr (.ts [])], .one (.int .i64 v1), .one (.int .i64 2)], []))
 (L_impl_reduce_impl_outer_0_fo n c (v0 : Int) ((IntKind.i64.wrap (v1 + 1)) : Int) ((x6).k : Int) ((x6).n : Int) ((x6).kids : List T) (v5 : Int) (v6 : Int) (v7 : List T))))))))))))))))))) := by kernel_rfl
theorem E_impl_reduce_impl_outer (n : Nat) (v0 : Int) (v1 : Int) (v2 : List T) (v3 : Int) : FF (n + 1) 75 [.agg [.int .i64 v0, .int .i64 v1, .fr (.ts v2)], .one (.int .i64 v3), .one (.fn 70 [])] [] =
 ((FF n 31 [.agg [.int .i64 v0, .int .i64 v1, .fr (.ts v2)]] []).bind fun x0 =>
 (rBool x0.1 fun x1 x2 =>
 (nilV x2 (nilO x0.2
 ((cond ((!x1))
 (some ([.agg [.int .i64 0, .int .i64 0, .fr (.ts [])], .one (.int .i64 0), .one (.int .i64 3)], []))
 (((FF n 63 [.one (.int .i64 v3), .one (.int .i64 0), .one (.int .i64 200)] []).bind fun x3 =>
 (rBool x3.1 fun x4 x5 =>
 (nilV x5 (nilO x3.2
 ((cond ((!x4))
 (some ([.agg [.int .i64 0, .int .i64 0, .fr (.ts [])], .one (.int .i64 0), .one (.int .i64 3)], []))
 (L_impl_reduce_impl_outer_0_fo n n (v3 : Int) (0 : Int) (v0 : Int) (v1 : Int) (v2 : List T) (0 : Int) (0 : Int) ([] : List T))))))))))))))) := by kernel_rfl

/-! loop.example/depkernel/impl.outer -/
noncomputable def L_impl_outer_0 (n c : Nat) (v0 : List T) (v1 : Int) (v2 : Int) : OR := runLoop Try.prog SS n 70 0 [1, 1, 0, 1, 0] [] c ⟨[.v (.one (.any)), .v (.one (.any)), .v (.one (.any)), .v (.one (.any)), .v (.one (.any)), .v (.one (.any)), .v (.one (.any)), .v (.one (.any)), .v (.one (.any)), .v (.one (.any)), .v (.one (.any)), .v (.one (.any)), .v (.one (.fr (.ts v0))), .v (.one (.int .i64 v1)), .v (.one (.int .i64 v2)), .v (.one (.any)), .v (.one (.any)), .v (.one (.any)), .v (.one (.any)), .v (.one (.any)), .v (.one (.any)), .v (.one (.any)), .v (.one (.any)), .v (.one (.any)), .v (.one (.any)), .v (.one (.any)), .v (.one (.any)), .v (.one (.any)), .v (.one (.any)), .v (.one (.any))],
  []⟩
theorem L_impl_outer_0_eq (n c : Nat) (v0 : List T) (v1 : Int) (v2 : Int) : L_impl_outer_0 n (c + 1) v0 v1 v2 =
 (cond ((decide (v2 < v1)))
 ((cond (decide (0 ≤ v2))
 (((v0)[(v2 : Int).toNat]?.bind fun x0 =>
 ((FF n 70 [.agg [.int .i64 (x0).k, .int .i64 (x0).n, .fr (.ts (x0).kids)]] []).bind fun x1 =>
 (rIs x1.1 fun x2 x3 =>
 (rBool x3 fun x4 x5 =>
 (nilV x5 (nilO x1.2
 ((cond (x4)
 ((cond (roomB ([v2] ++ x2).length)
 (some ([.one (.fr (.is ([v2] ++ x2))), .one (.bool true)], []))
 (none)))
 (L_impl_outer_0 n c (v0 : List T) (v1 : Int) ((IntKind.i64.wrap (v2 + 1)) : Int)))))))))))
 (none)))
 (some ([.one (.fr (.is [])), .one (.bool false)], []))) := by kernel_rfl
theorem E_impl_outer (n : Nat) (v0 : Int) (v1 : Int) (v2 : List T) : FF (n + 1) 70 [.agg [.int .i64 v0, .int .i64 v1, .fr (.ts v2)]] [] =
 ((FF n 97 [.agg [.int .i64 v0, .int .i64 v1, .fr (.ts v2)]] []).bind fun x0 =>
 (rInt .i64 x0.1 fun x1 x2 =>
 (nilV x2 (nilO x0.2
 ((cond ((!decide (x1 = 0)))
 (some ([.one (.fr (.is [])), .one (.bool true)], []))
 (L_impl_outer_0 n n (v2 : List T) (((v2).length : Int) : Int) (0 : Int)))))))) := by kernel_rfl

/-! loop.example/depkernel/impl.maxFree -/
theorem E_impl_maxFree (n : Nat) (v0 : Int) (v1 : Int) (v2 : List T) : FF (n + 1) 76 [.agg [.int .i64 v0, .int .i64 v1, .fr (.ts v2)]] [] =
 ((FF n 103 [.agg [.int .i64 v0, .int .i64 v1, .fr (.ts v2)], .one (.int .i64 0), .one (.fn 104 [0])] [.cells [.int .i64 0]]).bind fun x0 =>
 (objC x0.2 fun x1 x2 =>
 (intC .i64 x1 fun x3 x4 =>
 (nilC x4
 ((nilV x0.1 (nilO x2
 (some ([.one (.int .i64 x3)], []))))))))) := by kernel_rfl

/-! loop.example/depkernel/spec.l3Norm -/
noncomputable def L_spec_l3Norm_0_fo (n c : Nat) (v0 : Int) (v1 : Bool) (v2 : Int) (v3 : Int) (v4 : List T) (v5 : Int) (v6 : Int) (v7 : List T) : OR := runLoop Try.prog SS n 77 0 [1, 0] [] c ⟨[.v (.one (.any)), .v (.one (.int .i64 v0)), .v (.one (.bool v1)), .v (.one (.ptr 0 0)), .v (.one (.any)), .v (.one (.any)), .v (.one (.ptr 1 0)), .v (.one (.any)), .v (.one (.any)), .v (.one (.any)), .v (.one (.any)), .v (.one (.any)), .v (.one (.any)), .v (.one (.any)), .v (.one (.any)), .v (.one (.any)), .v (.one (.any)), .v (.one (.any)), .v (.one (.any)), .v (.one (.any)), .v (.one (.any)), .v (.one (.any)), .v (.one (.any)), .v (.one (.any)), .v (.one (.any)), .v (.one (.any)), .v (.one (.any)), .v (.one (.any))],
  [.cells [.int .i64 v2, .int .i64 v3, .fr (.ts v4)], .cells [.int .i64 v5, .int .i64 v6, .own 2 0], .arr 25 (.ts v7) 0 false]⟩
theorem L_spec_l3Norm_0_fo_eq (n c : Nat) (v0 : Int) (v1 : Bool) (v2 : Int) (v3 : Int) (v4 : List T) (v5 : Int) (v6 : Int) (v7 : List T) : L_spec_l3Norm_0_fo n (c + 1) v0 v1 v2 v3 v4 v5 v6 v7 =
 ((FF n 68 [.agg [.int .i64 v2, .int .i64 v3, .fr (.ts v4)], .one (.bool v1)] []).bind fun x0 =>
 (rTerm x0.1 fun x1 x2 =>
 (rInt .i64 x2 fun x3 x4 =>
 (nilV x4 (nilO x0.2
 ((cond ((decide (x3 = 0)))
 (some ([.agg [.int .i64 (x1).k, .int .i64 (x1).n, .fr (.ts (x1).kids)], .one (.int .i64 0)], []))
 ((cond ((decide (v0 < 1)))
 (some ([.agg [.int .i64 0, .int .i64 0, .fr (.ts [])], .one (.int .i64 1)], []))
 ((cond ((decide (x3 = 2)))
 (some ([.agg [.int .i64 0, .int .i64 0, .fr (.ts [])], .one (.int .i64 2)], []))
 (L_spec_l3Norm_0_fo n c ((IntKind.i64.wrap (v0 - 1)) : Int) (v1 : Bool) ((x1).k : Int) ((x1).n : Int) ((x1).kids : List T) (v5 : Int) (v6 : Int) (v7 : List T))))))))))))) := by kernel_rfl
theorem E_spec_l3Norm (n : Nat) (v0 : Int) (v1 : Int) (v2 : List T) (v3 : Int) (v4 : Bool) : FF (n + 1) 77 [.agg [.int .i64 v0, .int .i64 v1, .fr (.ts v2)], .one (.int .i64 v3), .one (.bool v4)] [] =
 L_spec_l3Norm_0_fo n n (v3 : Int) (v4 : Bool) (v0 : Int) (v1 : Int) (v2 : List T) (0 : Int) (0 : Int) ([] : List T) := by kernel_rfl

/-! loop.example/depkernel/spec.l3Fuel -/
theorem E_spec_l3Fuel (n : Nat) (v0 : List UInt8) (v1 : Int) : FF (n + 1) 78 [.one (.ptr 0 0)] [.cells [.fr (.bs v0), .int .i64 v1]] =
 ((FF n 46 [.one (.ptr 0 0), .one (.fr (.is [60, 100, 30, 5, 1, 0, 200, 201, (-1)]))] [.cells [.fr (.bs v0), .int .i64 v1]]).bind fun x0 =>
 (objC x0.2 fun x1 x2 =>
 (bsC x1 fun x3 x4 =>
 (intC .i64 x4 fun x5 x6 =>
 (nilC x6
 ((rInt .i64 x0.1 fun x7 x8 =>
 (nilV x8 (nilO x2
 (some ([.one (.int .i64 x7)], [.cells [.fr (.bs x3), .int .i64 x5]]))))))))))) := by kernel_rfl

/-! loop.example/depkernel/spec.l3Fits -/
theorem E_spec_l3Fits (n : Nat) (v0 : Int) (v1 : Int) (v2 : List T) (v3 : Int) : FF (n + 1) 79 [.agg [.int .i64 v0, .int .i64 v1, .fr (.ts v2)], .one (.int .i64 v3)] [] =
 ((FF n 52 [.agg [.int .i64 v0, .int .i64 v1, .fr (.ts v2)]] []).bind fun x0 =>
 (rBool x0.1 fun x1 x2 =>
 (nilV x2 (nilO x0.2
 ((cond (x1)
 ((cond ((decide (0 ≤ v3)))
 (some ([.one (.bool (decide (v3 ≤ 200)))], []))
 (some ([.one (.bool false)], []))))
 (some ([.one (.bool false)], [])))))))) := by kernel_rfl

/-! loop.example/depkernel/spec.l4Conv -/
theorem E_spec_l4Conv (n : Nat) (v0 : Int) (v1 : Int) (v2 : List T) (v3 : Int) (v4 : Int) (v5 : List T) (v6 : Int) : FF (n + 1) 80 [.agg [.int .i64 v0, .int .i64 v1, .fr (.ts v2)], .agg [.int .i64 v3, .int .i64 v4, .fr (.ts v5)], .one (.int .i64 v6)] [] =
 ((FF n 105 [.agg [.int .i64 v0, .int .i64 v1, .fr (.ts v2)], .agg [.int .i64 v3, .int .i64 v4, .fr (.ts v5)]] []).bind fun x0 =>
 (rBool x0.1 fun x1 x2 =>
 (nilV x2 (nilO x0.2
 ((cond (x1)
 (some ([.one (.int .i64 1)], []))
 (((FF n 77 [.agg [.int .i64 v0, .int .i64 v1, .fr (.ts v2)], .one (.int .i64 v6), .one (.bool false)] []).bind fun x3 =>
 (rTerm x3.1 fun x4 x5 =>
 (rInt .i64 x5 fun x6 x7 =>
 (nilV x7 (nilO x3.2
 (((FF n 77 [.agg [.int .i64 v3, .int .i64 v4, .fr (.ts v5)], .one (.int .i64 v6), .one (.bool false)] []).bind fun x8 =>
 (rTerm x8.1 fun x9 x10 =>
 (rInt .i64 x10 fun x11 x12 =>
 (nilV x12 (nilO x8.2
 ((cond ((!decide (x6 = 0)))
 (some ([.one (.int .i64 3)], []))
 ((cond ((!decide (x11 = 0)))
 (some ([.one (.int .i64 3)], []))
 (((FF n 105 [.agg [.int .i64 (x4).k, .int .i64 (x4).n, .fr (.ts (x4).kids)], .agg [.int .i64 (x9).k, .int .i64 (x9).n, .fr (.ts (x9).kids)]] []).bind fun x13 =>
 (rBool x13.1 fun x14 x15 =>
 (nilV x15 (nilO x13.2
 ((cond (x14)
 (some ([.one (.int .i64 1)], []))
 (some ([.one (.int .i64 2)], []))))))))))))))))))))))))))))))) := by kernel_rfl

/-! loop.example/depkernel/spec.l3Plus -/
theorem E_spec_l3Plus (n : Nat) : FF (n + 1) 83 [] [] =
 some ([.one (.str (bytesOf [91, 78, 93, 91, 78, 93, 60, 91, 78, 93, 78, 44, 35, 49, 44, 91, 78, 93, 91, 78, 93, 43, 35, 48, 44, 35, 48, 62]))], []) := by kernel_rfl

/-! (*loop.example/depkernel/spec.l19Rd).of -/
theorem E_spec_l19Rd_of (n : Nat) (v0 : List ByteArray) (v1 : List UInt8) (v2 : Int) : FF (n + 1) 82 [.one (.ptr 0 0), .one (.fr (.ss v0))] [.cells [.fr (.bs v1), .int .i64 v2]] =
 ((FF n 61 [.one (.ptr 0 0), .one (.int .i64 ((v0).length : Int))] [.cells [.fr (.bs v1), .int .i64 v2]]).bind fun x0 =>
 (objC x0.2 fun x1 x2 =>
 (bsC x1 fun x3 x4 =>
 (intC .i64 x4 fun x5 x6 =>
 (nilC x6
 ((rInt .i64 x0.1 fun x7 x8 =>
 (nilV x8 (nilO x2
 ((cond (decide (0 ≤ x7))
 (((v0)[(x7 : Int).toNat]?.bind fun x9 =>
 some ([.one (.str x9)], [.cells [.fr (.bs x3), .int .i64 x5]])))
 (none)))))))))))) := by kernel_rfl

end Go.Proofs.Ytmioieikbpemoaa
