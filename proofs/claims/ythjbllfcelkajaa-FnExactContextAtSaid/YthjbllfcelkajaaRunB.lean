/- What the program's functions come to in the abstract run. -/
import Derived.Test.YthjbllfcelkajaaSay
set_option linter.unusedVariables false
namespace Go.Proofs.Ythjbllfcelkajaa
open Go Go.Ab Go.Dk
/-! loop.example/depkernel/spec.CountPi -/
noncomputable def L_spec_CountPi_0 (n c : Nat) (v0 : Int) (v1 : Int) (v2 : Int) (v3 : List T) : OR := runLoop Try.prog SS n 66 0 [1, 1, 0, 0] [] c ⟨[.v (.one (.any)), .v (.one (.ptr 0 0)), .v (.one (.any)), .v (.one (.int .i64 v0)), .v (.one (.any)), .v (.one (.any)), .v (.one (.any)), .v (.one (.any)), .v (.one (.any)), .v (.one (.any)), .v (.one (.any)), .v (.one (.any)), .v (.one (.any)), .v (.one (.any)), .v (.one (.any)), .v (.one (.any)), .v (.one (.any)), .v (.one (.any))],
  [.cells [.int .i64 v1, .int .i64 v2, .fr (.ts v3)]]⟩
theorem L_spec_CountPi_0_eq (n c : Nat) (v0 : Int) (v1 : Int) (v2 : Int) (v3 : List T) : L_spec_CountPi_0 n (c + 1) v0 v1 v2 v3 =
 ((FF n 61 [.agg [.int .i64 v1, .int .i64 v2, .fr (.ts v3)]] []).bind fun x0 =>
 (rBool x0.1 fun x1 x2 =>
 (nilV x2 (nilO x0.2
 ((cond (x1)
 ((cond ((decide (v1 = 3)))
 (((v3)[(1 : Int).toNat]?.bind fun x3 =>
 L_spec_CountPi_0 n c ((IntKind.i64.wrap (v0 + 1)) : Int) ((x3).k : Int) ((x3).n : Int) ((x3).kids : List T)))
 (some ([.one (.int .i64 v0)], []))))
 (some ([.one (.int .i64 v0)], [])))))))) := by kernel_rfl
theorem E_spec_CountPi (n : Nat) (v0 : Int) (v1 : Int) (v2 : List T) : FF (n + 1) 66 [.agg [.int .i64 v0, .int .i64 v1, .fr (.ts v2)]] [] =
 L_spec_CountPi_0 n n (0 : Int) (v0 : Int) (v1 : Int) (v2 : List T) := by kernel_rfl

/-! loop.example/depkernel/impl.CountPi -/
noncomputable def L_impl_CountPi_0 (n c : Nat) (v0 : Int) (v1 : Int) (v2 : Int) (v3 : List T) : OR := runLoop Try.prog SS n 67 0 [1, 1, 1, 0, 0] [] c ⟨[.v (.one (.any)), .v (.one (.ptr 0 0)), .v (.one (.any)), .v (.one (.int .i64 v0)), .v (.one (.any)), .v (.one (.any)), .v (.one (.any)), .v (.one (.any)), .v (.one (.any)), .v (.one (.any)), .v (.one (.any)), .v (.one (.any)), .v (.one (.any)), .v (.one (.any)), .v (.one (.any)), .v (.one (.any)), .v (.one (.any))],
  [.cells [.int .i64 v1, .int .i64 v2, .fr (.ts v3)]]⟩
theorem L_impl_CountPi_0_eq (n c : Nat) (v0 : Int) (v1 : Int) (v2 : Int) (v3 : List T) : L_impl_CountPi_0 n (c + 1) v0 v1 v2 v3 =
 (cond ((decide (v1 = 3)))
 (((v3)[(1 : Int).toNat]?.bind fun x0 =>
 L_impl_CountPi_0 n c ((IntKind.i64.wrap (v0 + 1)) : Int) ((x0).k : Int) ((x0).n : Int) ((x0).kids : List T)))
 (some ([.one (.int .i64 v0)], []))) := by kernel_rfl
theorem E_impl_CountPi (n : Nat) (v0 : Int) (v1 : Int) (v2 : List T) : FF (n + 1) 67 [.agg [.int .i64 v0, .int .i64 v1, .fr (.ts v2)]] [] =
 ((FF n 63 [.agg [.int .i64 v0, .int .i64 v1, .fr (.ts v2)]] []).bind fun x0 =>
 (rBool x0.1 fun x1 x2 =>
 (nilV x2 (nilO x0.2
 ((cond ((!x1))
 (some ([.one (.int .i64 0)], []))
 (L_impl_CountPi_0 n n (0 : Int) (v0 : Int) (v1 : Int) (v2 : List T)))))))) := by kernel_rfl

/-! loop.example/depkernel/spec.l5Fits -/
noncomputable def L_spec_l5Fits_0 (n c : Nat) (v0 : List T) (v1 : Int) : OR := runLoop Try.prog SS n 70 0 [1, 0, 1, 0] [] c ⟨[.v (.one (.fr (.ts v0))), .v (.one (.any)), .v (.one (.any)), .v (.one (.int .i64 v1)), .v (.one (.any)), .v (.one (.any)), .v (.one (.any)), .v (.one (.any)), .v (.one (.any)), .v (.one (.any)), .v (.one (.any)), .v (.one (.any)), .v (.one (.any)), .v (.one (.any)), .v (.one (.any)), .v (.one (.any)), .v (.one (.any)), .v (.one (.any)), .v (.one (.any))],
  []⟩
theorem L_spec_l5Fits_0_eq (n c : Nat) (v0 : List T) (v1 : Int) : L_spec_l5Fits_0 n (c + 1) v0 v1 =
 (cond ((decide (v1 < ((v0).length : Int))))
 ((cond (decide (0 ≤ v1))
 (((v0)[(v1 : Int).toNat]?.bind fun x0 =>
 ((FF n 61 [.agg [.int .i64 (x0).k, .int .i64 (x0).n, .fr (.ts (x0).kids)]] []).bind fun x1 =>
 (rBool x1.1 fun x2 x3 =>
 (nilV x3 (nilO x1.2
 ((cond ((!x2))
 (some ([.one (.bool false)], []))
 (L_spec_l5Fits_0 n c (v0 : List T) ((IntKind.i64.wrap (v1 + 1)) : Int))))))))))
 (none)))
 (some ([.one (.bool (decide (((v0).length : Int) ≤ 8)))], []))) := by kernel_rfl
theorem E_spec_l5Fits (n : Nat) (v0 : List T) : FF (n + 1) 70 [.one (.fr (.ts v0))] [] =
 L_spec_l5Fits_0 n n (v0 : List T) (0 : Int) := by kernel_rfl

/-! loop.example/depkernel/spec.l1Node -/
theorem E_spec_l1Node (n : Nat) (v0 : Int) (v1 : List T) : FF (n + 1) 71 [.one (.int .i64 v0), .one (.fr (.ts v1))] [] =
 (cond (roomB ([] ++ v1).length)
 (some ([.agg [.int .i64 v0, .int .i64 0, .fr (.ts ([] ++ v1))]], []))
 (none)) := by kernel_rfl

/-! loop.example/depkernel/spec.l7Made -/
theorem E_spec_l7Made (n : Nat) (v0 : Int) (v1 : Int) (v2 : List T) : FF (n + 1) 72 [.agg [.int .i64 v0, .int .i64 v1, .fr (.ts v2)]] [] =
 ((FF n 61 [.agg [.int .i64 v0, .int .i64 v1, .fr (.ts v2)]] []).bind fun x0 =>
 (rBool x0.1 fun x1 x2 =>
 (nilV x2 (nilO x0.2
 ((cond ((!x1))
 (some ([.agg [.int .i64 0, .int .i64 0, .fr (.ts [])], .one (.bool false)], []))
 (some ([.agg [.int .i64 v0, .int .i64 v1, .fr (.ts v2)], .one (.bool true)], [])))))))) := by kernel_rfl

/-! loop.example/depkernel/impl.areTerms -/
theorem E_impl_areTerms (n : Nat) (v0 : List T) : FF (n + 1) 73 [.one (.fr (.ts v0))] [] =
 (cond ((decide (((v0).length : Int) ≤ 8)))
 (((FF n 96 [.one (.fr (.ts v0)), .one (.fn 97 [])] []).bind fun x0 =>
 (rBool x0.1 fun x1 x2 =>
 (nilV x2 (nilO x0.2
 (some ([.one (.bool (!x1))], [])))))))
 (some ([.one (.bool false)], []))) := by kernel_rfl

/-! loop.example/depkernel/impl.node -/
theorem E_impl_node (n : Nat) (v0 : Int) (v1 : List T) : FF (n + 1) 74 [.one (.int .i64 v0), .one (.fr (.ts v1))] [] =
 some ([.agg [.int .i64 v0, .int .i64 0, .fr (.ts v1)]], []) := by kernel_rfl

/-! loop.example/depkernel/impl.valid -/
theorem E_impl_valid (n : Nat) (v0 : Int) (v1 : Int) (v2 : List T) : FF (n + 1) 75 [.agg [.int .i64 v0, .int .i64 v1, .fr (.ts v2)]] [] =
 ((FF n 63 [.agg [.int .i64 v0, .int .i64 v1, .fr (.ts v2)]] []).bind fun x0 =>
 (rBool x0.1 fun x1 x2 =>
 (nilV x2 (nilO x0.2
 ((cond ((!x1))
 (some ([.agg [.int .i64 0, .int .i64 0, .fr (.ts [])], .one (.bool false)], []))
 (some ([.agg [.int .i64 v0, .int .i64 v1, .fr (.ts v2)], .one (.bool true)], [])))))))) := by kernel_rfl

/-! loop.example/depkernel/spec.l7Over -/
noncomputable def L_spec_l7Over_0_oo (n c : Nat) (v0 : Int) (v1 : List T) (v2 : Int) (v3 : Int) (v4 : Int) (v5 : List T) (v6 : Int) (v7 : Int) (v8 : List T) : OR := runLoop Try.prog SS n 76 0 [1, 1, 0, 1, 0] [] c ⟨[.v (.one (.int .i64 v0)), .v (.one (.fr (.ts v1))), .v (.one (.any)), .v (.one (.any)), .v (.one (.any)), .v (.one (.any)), .v (.one (.ptr 0 0)), .v (.one (.ptr 2 0)), .v (.one (.int .i64 v2)), .v (.one (.any)), .v (.one (.any)), .v (.one (.any)), .v (.one (.any)), .v (.one (.any)), .v (.one (.any)), .v (.one (.any)), .v (.one (.any)), .v (.one (.any)), .v (.one (.any)), .v (.one (.any)), .v (.one (.any)), .v (.one (.any)), .v (.one (.any)), .v (.one (.any)), .v (.one (.any)), .v (.one (.any)), .v (.one (.any)), .v (.one (.any))],
  [.cells [.int .i64 v3, .int .i64 v4, .own 1 0], .arr 33 (.ts v5) 0 false, .cells [.int .i64 v6, .int .i64 v7, .own 3 0], .arr 33 (.ts v8) 0 false]⟩
noncomputable def L_spec_l7Over_0_of (n c : Nat) (v0 : Int) (v1 : List T) (v2 : Int) (v3 : Int) (v4 : Int) (v5 : List T) (v6 : Int) (v7 : Int) (v8 : List T) : OR := runLoop Try.prog SS n 76 0 [1, 1, 0, 1, 0] [] c ⟨[.v (.one (.int .i64 v0)), .v (.one (.fr (.ts v1))), .v (.one (.any)), .v (.one (.any)), .v (.one (.any)), .v (.one (.any)), .v (.one (.ptr 0 0)), .v (.one (.ptr 2 0)), .v (.one (.int .i64 v2)), .v (.one (.any)), .v (.one (.any)), .v (.one (.any)), .v (.one (.any)), .v (.one (.any)), .v (.one (.any)), .v (.one (.any)), .v (.one (.any)), .v (.one (.any)), .v (.one (.any)), .v (.one (.any)), .v (.one (.any)), .v (.one (.any)), .v (.one (.any)), .v (.one (.any)), .v (.one (.any)), .v (.one (.any)), .v (.one (.any)), .v (.one (.any))],
  [.cells [.int .i64 v3, .int .i64 v4, .own 1 0], .arr 33 (.ts v5) 0 false, .cells [.int .i64 v6, .int .i64 v7, .fr (.ts v8)]]⟩
theorem L_spec_l7Over_0_oo_eq (n c : Nat) (v0 : Int) (v1 : List T) (v2 : Int) (v3 : Int) (v4 : Int) (v5 : List T) (v6 : Int) (v7 : Int) (v8 : List T) : L_spec_l7Over_0_oo n (c + 1) v0 v1 v2 v3 v4 v5 v6 v7 v8 =
 (cond ((decide (0 ≤ v2)))
 ((cond (decide (0 ≤ v2))
 (((v1)[(v2 : Int).toNat]?.bind fun x0 =>
 ((FF n 62 [.agg [.int .i64 (x0).k, .int .i64 (x0).n, .fr (.ts (x0).kids)]] []).bind fun x1 =>
 (rOwnT 0 x1.1 fun x2 x3 x4 =>
 (arrTsC 33 x1.2 fun x5 x6 =>
 (nilV x4 (nilO x6
 (((FF n 71 [.one (.int .i64 v0), .one (.fr (.ts [(T.mk x2 x3 x5), (T.mk v6 v7 v8)]))] []).bind fun x7 =>
 (rTerm x7.1 fun x8 x9 =>
 (nilV x9 (nilO x7.2
 (L_spec_l7Over_0_of n c (v0 : Int) (v1 : List T) ((IntKind.i64.wrap (v2 - 1)) : Int) (v3 : Int) (v4 : Int) (v5 : List T) ((x8).k : Int) ((x8).n : Int) ((x8).kids : List T))))))))))))))
 (none)))
 (some ([.agg [.int .i64 v6, .int .i64 v7, .fr (.ts v8)]], []))) := by kernel_rfl
theorem L_spec_l7Over_0_of_eq (n c : Nat) (v0 : Int) (v1 : List T) (v2 : Int) (v3 : Int) (v4 : Int) (v5 : List T) (v6 : Int) (v7 : Int) (v8 : List T) : L_spec_l7Over_0_of n (c + 1) v0 v1 v2 v3 v4 v5 v6 v7 v8 =
 (cond ((decide (0 ≤ v2)))
 ((cond (decide (0 ≤ v2))
 (((v1)[(v2 : Int).toNat]?.bind fun x0 =>
 ((FF n 62 [.agg [.int .i64 (x0).k, .int .i64 (x0).n, .fr (.ts (x0).kids)]] []).bind fun x1 =>
 (rOwnT 0 x1.1 fun x2 x3 x4 =>
 (arrTsC 33 x1.2 fun x5 x6 =>
 (nilV x4 (nilO x6
 (((FF n 71 [.one (.int .i64 v0), .one (.fr (.ts [(T.mk x2 x3 x5), (T.mk v6 v7 v8)]))] []).bind fun x7 =>
 (rTerm x7.1 fun x8 x9 =>
 (nilV x9 (nilO x7.2
 (L_spec_l7Over_0_of n c (v0 : Int) (v1 : List T) ((IntKind.i64.wrap (v2 - 1)) : Int) (v3 : Int) (v4 : Int) (v5 : List T) ((x8).k : Int) ((x8).n : Int) ((x8).kids : List T))))))))))))))
 (none)))
 (some ([.agg [.int .i64 v6, .int .i64 v7, .fr (.ts v8)]], []))) := by kernel_rfl
theorem E_spec_l7Over (n : Nat) (v0 : Int) (v1 : List T) (v2 : Int) (v3 : Int) (v4 : List T) : FF (n + 1) 76 [.one (.int .i64 v0), .one (.fr (.ts v1)), .agg [.int .i64 v2, .int .i64 v3, .fr (.ts v4)]] [] =
 ((FF n 62 [.agg [.int .i64 v2, .int .i64 v3, .fr (.ts v4)]] []).bind fun x0 =>
 (rOwnT 0 x0.1 fun x1 x2 x3 =>
 (arrTsC 33 x0.2 fun x4 x5 =>
 (nilV x3 (nilO x5
 (L_spec_l7Over_0_oo n n (v0 : Int) (v1 : List T) ((IntKind.i64.wrap (((v1).length : Int) - 1)) : Int) (0 : Int) (0 : Int) ([] : List T) (x1 : Int) (x2 : Int) (x4 : List T))))))) := by kernel_rfl

/-! loop.example/depkernel/impl.over -/
noncomputable def L_impl_over_0_of (n c : Nat) (v0 : Int) (v1 : List T) (v2 : Int) (v3 : Int) (v4 : Int) (v5 : List T) (v6 : Int) (v7 : Int) (v8 : List T) : OR := runLoop Try.prog SS n 77 0 [1, 1, 1, 0, 1, 0] [] c ⟨[.v (.one (.int .i64 v0)), .v (.one (.fr (.ts v1))), .v (.one (.any)), .v (.one (.any)), .v (.one (.any)), .v (.one (.any)), .v (.one (.ptr 0 0)), .v (.one (.any)), .v (.one (.ptr 2 0)), .v (.one (.int .i64 v2)), .v (.one (.any)), .v (.one (.any)), .v (.one (.any)), .v (.one (.any)), .v (.one (.any)), .v (.one (.any)), .v (.one (.any)), .v (.one (.any)), .v (.one (.any)), .v (.one (.any)), .v (.one (.any)), .v (.one (.any)), .v (.one (.any)), .v (.one (.any)), .v (.one (.any)), .v (.one (.any)), .v (.one (.any)), .v (.one (.any)), .v (.one (.any)), .v (.one (.any)), .v (.one (.any)), .v (.one (.any)), .v (.one (.any)), .v (.one (.any)), .v (.one (.any)), .v (.one (.any)), .v (.one (.any)), .v (.one (.any)), .v (.one (.any)), .v (.one (.any))],
  [.cells [.int .i64 v3, .int .i64 v4, .own 1 0], .arr 33 (.ts v5) 0 false, .cells [.int .i64 v6, .int .i64 v7, .fr (.ts v8)]]⟩
theorem L_impl_over_0_of_eq (n c : Nat) (v0 : Int) (v1 : List T) (v2 : Int) (v3 : Int) (v4 : Int) (v5 : List T) (v6 : Int) (v7 : Int) (v8 : List T) : L_impl_over_0_of n (c + 1) v0 v1 v2 v3 v4 v5 v6 v7 v8 =
 (cond ((decide (0 ≤ v2)))
 ((cond (decide (0 ≤ v2))
 (((v1)[(v2 : Int).toNat]?.bind fun x0 =>
 ((FF n 74 [.one (.int .i64 v0), .one (.fr (.ts [(T.mk (x0).k (x0).n (x0).kids), (T.mk v6 v7 v8)]))] []).bind fun x1 =>
 (rTerm x1.1 fun x2 x3 =>
 (nilV x3 (nilO x1.2
 (L_impl_over_0_of n c (v0 : Int) (v1 : List T) ((IntKind.i64.wrap (v2 - 1)) : Int) (v3 : Int) (v4 : Int) (v5 : List T) ((x2).k : Int) ((x2).n : Int) ((x2).kids : List T))))))))
 (none)))
 (((FF n 64 [.agg [.int .i64 v6, .int .i64 v7, .fr (.ts v8)]] []).bind fun x0 =>
 (rTerm x0.1 fun x1 x2 =>
 (nilV x2 (nilO x0.2
 (((FF n 75 [.agg [.int .i64 (x1).k, .int .i64 (x1).n, .fr (.ts (x1).kids)]] []).bind fun x3 =>
 (rTerm x3.1 fun x4 x5 =>
 (rBool x5 fun x6 x7 =>
 (nilV x7 (nilO x3.2
 (some ([.agg [.int .i64 (x4).k, .int .i64 (x4).n, .fr (.ts (x4).kids)], .one (.bool x6)], [])))))))))))))) := by kernel_rfl
theorem E_impl_over (n : Nat) (v0 : Int) (v1 : List T) (v2 : Int) (v3 : Int) (v4 : List T) : FF (n + 1) 77 [.one (.int .i64 v0), .one (.fr (.ts v1)), .agg [.int .i64 v2, .int .i64 v3, .fr (.ts v4)]] [] =
 ((FF n 73 [.one (.fr (.ts v1))] []).bind fun x0 =>
 (rBool x0.1 fun x1 x2 =>
 (nilV x2 (nilO x0.2
 ((cond ((!x1))
 (some ([.agg [.int .i64 0, .int .i64 0, .fr (.ts [])], .one (.bool false)], []))
 (((FF n 63 [.agg [.int .i64 v2, .int .i64 v3, .fr (.ts v4)]] []).bind fun x3 =>
 (rBool x3.1 fun x4 x5 =>
 (nilV x5 (nilO x3.2
 ((cond ((!x4))
 (some ([.agg [.int .i64 0, .int .i64 0, .fr (.ts [])], .one (.bool false)], []))
 (L_impl_over_0_of n n (v0 : Int) (v1 : List T) ((IntKind.i64.wrap (((v1).length : Int) - 1)) : Int) (0 : Int) (0 : Int) ([] : List T) (v2 : Int) (v3 : Int) (v4 : List T))))))))))))))) := by kernel_rfl

/-! loop.example/depkernel/spec.l8At -/
noncomputable def L_spec_l8At_0_fo (n c : Nat) (v0 : List Int) (v1 : Int) (v2 : Int) (v3 : Int) (v4 : List T) (v5 : Int) (v6 : Int) (v7 : List T) : OR := runLoop Try.prog SS n 78 0 [1, 0, 1, 0] [] c ⟨[.v (.one (.any)), .v (.one (.fr (.is v0))), .v (.one (.ptr 0 0)), .v (.one (.any)), .v (.one (.ptr 1 0)), .v (.one (.any)), .v (.one (.int .i64 v1)), .v (.one (.any)), .v (.one (.any)), .v (.one (.any)), .v (.one (.any)), .v (.one (.any)), .v (.one (.any)), .v (.one (.any)), .v (.one (.any)), .v (.one (.any)), .v (.one (.any)), .v (.one (.any)), .v (.one (.any)), .v (.one (.any)), .v (.one (.any)), .v (.one (.any)), .v (.one (.any)), .v (.one (.any)), .v (.one (.any)), .v (.one (.any)), .v (.one (.any)), .v (.one (.any)), .v (.one (.any)), .v (.one (.any)), .v (.one (.any)), .v (.one (.any)), .v (.one (.any)), .v (.one (.any)), .v (.one (.any)), .v (.one (.any)), .v (.one (.any)), .v (.one (.any))],
  [.cells [.int .i64 v2, .int .i64 v3, .fr (.ts v4)], .cells [.int .i64 v5, .int .i64 v6, .own 2 0], .arr 33 (.ts v7) 0 false]⟩
theorem L_spec_l8At_0_fo_eq (n c : Nat) (v0 : List Int) (v1 : Int) (v2 : Int) (v3 : Int) (v4 : List T) (v5 : Int) (v6 : Int) (v7 : List T) : L_spec_l8At_0_fo n (c + 1) v0 v1 v2 v3 v4 v5 v6 v7 =
 (cond ((decide (v1 < ((v0).length : Int))))
 ((cond (decide (0 ≤ v1))
 (((v0)[(v1 : Int).toNat]?.bind fun x0 =>
 (cond ((decide (x0 < 0)))
 (some ([.agg [.int .i64 0, .int .i64 0, .fr (.ts [])], .one (.bool false)], []))
 ((cond (decide (0 ≤ v1))
 (((v0)[(v1 : Int).toNat]?.bind fun x1 =>
 (cond ((decide (((v4).length : Int) ≤ x1)))
 (some ([.agg [.int .i64 0, .int .i64 0, .fr (.ts [])], .one (.bool false)], []))
 ((cond (decide (0 ≤ v1))
 (((v0)[(v1 : Int).toNat]?.bind fun x2 =>
 (cond (decide (0 ≤ x2))
 (((v4)[(x2 : Int).toNat]?.bind fun x3 =>
 L_spec_l8At_0_fo n c (v0 : List Int) ((IntKind.i64.wrap (v1 + 1)) : Int) ((x3).k : Int) ((x3).n : Int) ((x3).kids : List T) (v5 : Int) (v6 : Int) (v7 : List T)))
 (none))))
 (none))))))
 (none))))))
 (none)))
 (some ([.agg [.int .i64 v2, .int .i64 v3, .fr (.ts v4)], .one (.bool true)], []))) := by kernel_rfl
theorem E_spec_l8At (n : Nat) (v0 : Int) (v1 : Int) (v2 : List T) (v3 : List Int) : FF (n + 1) 78 [.agg [.int .i64 v0, .int .i64 v1, .fr (.ts v2)], .one (.fr (.is v3))] [] =
 L_spec_l8At_0_fo n n (v3 : List Int) (0 : Int) (v0 : Int) (v1 : Int) (v2 : List T) (0 : Int) (0 : Int) ([] : List T) := by kernel_rfl

/-! loop.example/depkernel/impl.walked -/
noncomputable def L_impl_walked_0_fo (n c : Nat) (v0 : List Int) (v1 : Int) (v2 : Int) (v3 : Int) (v4 : Int) (v5 : List T) (v6 : Int) (v7 : Int) (v8 : List T) (v9 : List T) : OR := runLoop Try.prog SS n 69 0 [1, 1, 0, 1, 0] [] c ⟨[.v (.one (.any)), .v (.one (.any)), .v (.one (.ptr 0 0)), .v (.one (.any)), .v (.one (.ptr 1 0)), .v (.one (.any)), .v (.one (.any)), .v (.one (.own 3 0)), .v (.one (.any)), .v (.one (.any)), .v (.one (.fr (.is v0))), .v (.one (.int .i64 v1)), .v (.one (.int .i64 v2)), .v (.one (.any)), .v (.one (.any)), .v (.one (.any)), .v (.one (.any)), .v (.one (.any)), .v (.one (.any)), .v (.one (.any)), .v (.one (.any)), .v (.one (.any)), .v (.one (.any)), .v (.one (.any)), .v (.one (.any)), .v (.one (.any)), .v (.one (.any)), .v (.one (.any)), .v (.one (.any)), .v (.one (.any)), .v (.one (.any)), .v (.one (.any)), .v (.one (.any)), .v (.one (.any)), .v (.one (.any)), .v (.one (.any)), .v (.one (.any)), .v (.one (.any)), .v (.one (.any)), .v (.one (.any)), .v (.one (.any)), .v (.one (.any)), .v (.one (.any)), .v (.one (.any))],
  [.cells [.int .i64 v3, .int .i64 v4, .fr (.ts v5)], .cells [.int .i64 v6, .int .i64 v7, .own 2 0], .arr 33 (.ts v8) 0 false, .arr 33 (.ts v9) 0 false]⟩
theorem L_impl_walked_0_fo_eq (n c : Nat) (v0 : List Int) (v1 : Int) (v2 : Int) (v3 : Int) (v4 : Int) (v5 : List T) (v6 : Int) (v7 : Int) (v8 : List T) (v9 : List T) : L_impl_walked_0_fo n (c + 1) v0 v1 v2 v3 v4 v5 v6 v7 v8 v9 =
 (cond ((decide (v2 < v1)))
 ((cond (decide (0 ≤ v2))
 (((v0)[(v2 : Int).toNat]?.bind fun x0 =>
 ((FF n 59 [.one (.int .i64 x0), .one (.int .i64 0), .one (.int .i64 (IntKind.i64.wrap (((v5).length : Int) - 1)))] []).bind fun x1 =>
 (rBool x1.1 fun x2 x3 =>
 (nilV x3 (nilO x1.2
 ((cond ((!x2))
 (some ([.agg [.int .i64 0, .int .i64 0, .fr (.ts [])], .one (.fr (.ts [])), .one (.bool false)], []))
 (((FF n 95 [.one (.int .i64 v3), .one (.int .i64 x0)] []).bind fun x4 =>
 (rInt .i64 x4.1 fun x5 x6 =>
 (nilV x6 (nilO x4.2
 ((cond ((decide (0 < x5)))
 (((v5)[(0 : Int).toNat]?.bind fun x7 =>
 (cond (roomB (v9 ++ [(T.mk (x7).k (x7).n (x7).kids)]).length)
 ((cond (decide (0 ≤ x0))
 (((v5)[(x0 : Int).toNat]?.bind fun x8 =>
 L_impl_walked_0_fo n c (v0 : List Int) (v1 : Int) ((IntKind.i64.wrap (v2 + 1)) : Int) ((x8).k : Int) ((x8).n : Int) ((x8).kids : List T) (v6 : Int) (v7 : Int) (v8 : List T) ((v9 ++ [(T.mk (x7).k (x7).n (x7).kids)]) : List T)))
 (none)))
 (none))))
 ((cond (decide (0 ≤ x0))
 (((v5)[(x0 : Int).toNat]?.bind fun x7 =>
 L_impl_walked_0_fo n c (v0 : List Int) (v1 : Int) ((IntKind.i64.wrap (v2 + 1)) : Int) ((x7).k : Int) ((x7).n : Int) ((x7).kids : List T) (v6 : Int) (v7 : Int) (v8 : List T) (v9 : List T)))
 (none))))))))))))))))))
 (none)))
 (some ([.agg [.int .i64 v3, .int .i64 v4, .fr (.ts v5)], .one (.fr (.ts v9)), .one (.bool true)], []))) := by kernel_rfl
theorem E_impl_walked (n : Nat) (v0 : Int) (v1 : Int) (v2 : List T) (v3 : List Int) : FF (n + 1) 69 [.agg [.int .i64 v0, .int .i64 v1, .fr (.ts v2)], .one (.fr (.is v3))] [] =
 L_impl_walked_0_fo n n (v3 : List Int) (((v3).length : Int) : Int) (0 : Int) (v0 : Int) (v1 : Int) (v2 : List T) (0 : Int) (0 : Int) ([] : List T) ([] : List T) := by kernel_rfl

/-! loop.example/depkernel/spec.l8Places -/
noncomputable def L_spec_l8Places_0 (n c : Nat) (v0 : List (List Int)) (v1 : List Int) (v2 : Bool) (v3 : Int) (v4 : Int) (v5 : Int) (v6 : List T) : OR := runLoop Try.prog SS n 79 0 [1, 1, 0, 1, 0] [] c ⟨[.v (.one (.fr (.iss v0))), .v (.one (.any)), .v (.one (.fr (.is v1))), .v (.one (.bool v2)), .v (.one (.any)), .v (.one (.ptr 0 0)), .v (.one (.any)), .v (.one (.any)), .v (.one (.any)), .v (.one (.int .i64 v3)), .v (.one (.any)), .v (.one (.any)), .v (.one (.any)), .v (.one (.any)), .v (.one (.any)), .v (.one (.any)), .v (.one (.any)), .v (.one (.any)), .v (.one (.any)), .v (.one (.any)), .v (.one (.any)), .v (.one (.any)), .v (.one (.any)), .v (.one (.any)), .v (.one (.any)), .v (.one (.any)), .v (.one (.any)), .v (.one (.any)), .v (.one (.any)), .v (.one (.any)), .v (.one (.any)), .v (.one (.any)), .v (.one (.any)), .v (.one (.any)), .v (.one (.any)), .v (.one (.any)), .v (.one (.any)), .v (.one (.any)), .v (.one (.any)), .v (.one (.any)), .v (.one (.any)), .v (.one (.any)), .v (.one (.any)), .v (.one (.any)), .v (.one (.any))],
  [.cells [.int .i64 v4, .int .i64 v5, .fr (.ts v6)]]⟩
theorem L_spec_l8Places_0_eq (n c : Nat) (v0 : List (List Int)) (v1 : List Int) (v2 : Bool) (v3 : Int) (v4 : Int) (v5 : Int) (v6 : List T) : L_spec_l8Places_0 n (c + 1) v0 v1 v2 v3 v4 v5 v6 =
 (cond ((decide (v3 < ((v6).length : Int))))
 ((cond (decide (0 ≤ v3))
 (((v6)[(v3 : Int).toNat]?.bind fun x0 =>
 (cond (roomB ([] ++ v1).length)
 ((cond (roomB (([] ++ v1) ++ [v3]).length)
 (((FF n 79 [.one (.fr (.iss v0)), .agg [.int .i64 (x0).k, .int .i64 (x0).n, .fr (.ts (x0).kids)], .one (.fr (.is (([] ++ v1) ++ [v3]))), .one (.bool v2)] []).bind fun x1 =>
 (rIss x1.1 fun x2 x3 =>
 (nilV x3 (nilO x1.2
 (L_spec_l8Places_0 n c (x2 : List (List Int)) (v1 : List Int) (v2 : Bool) ((IntKind.i64.wrap (v3 + 1)) : Int) (v4 : Int) (v5 : Int) (v6 : List T)))))))
 (none)))
 (none))))
 (none)))
 (some ([.one (.fr (.iss v0))], []))) := by kernel_rfl
theorem E_spec_l8Places (n : Nat) (v0 : List (List Int)) (v1 : Int) (v2 : Int) (v3 : List T) (v4 : List Int) (v5 : Bool) : FF (n + 1) 79 [.one (.fr (.iss v0)), .agg [.int .i64 v1, .int .i64 v2, .fr (.ts v3)], .one (.fr (.is v4)), .one (.bool v5)] [] =
 (cond ((!v5))
 ((cond (roomB ([] ++ v4).length)
 (none)
 (none)))
 (((FF n 89 [.agg [.int .i64 v1, .int .i64 v2, .fr (.ts v3)]] []).bind fun x0 =>
 (rInt .i64 x0.1 fun x1 x2 =>
 (nilV x2 (nilO x0.2
 ((cond ((!decide (x1 = 0)))
 ((cond (roomB ([] ++ v4).length)
 (none)
 (none)))
 (L_spec_l8Places_0 n n (v0 : List (List Int)) (v4 : List Int) (v5 : Bool) (0 : Int) (v1 : Int) (v2 : Int) (v3 : List T)))))))))) := by kernel_rfl

/-! loop.example/depkernel/impl.places -/
noncomputable def L_impl_places_emp_impl_PlacesOf_1_0 (n c : Nat) (v0 : List T) (v1 : Int) (v2 : Int) (v3 : List (List Int)) : OR := runLoop Try.prog SS n 80 0 [1, 1, 1, 0, 1, 0] [] c ⟨[.v (.one (.any)), .v (.one (.emp none)), .v (.one (.fn 81 [])), .v (.one (.any)), .v (.one (.any)), .v (.one (.any)), .v (.one (.any)), .v (.one (.own 0 0)), .v (.one (.any)), .v (.one (.any)), .v (.one (.any)), .v (.one (.any)), .v (.one (.any)), .v (.one (.any)), .v (.one (.any)), .v (.one (.any)), .v (.one (.any)), .v (.one (.any)), .v (.one (.any)), .v (.one (.fr (.ts v0))), .v (.one (.int .i64 v1)), .v (.one (.int .i64 v2)), .v (.one (.any)), .v (.one (.any)), .v (.one (.any)), .v (.one (.any)), .v (.one (.any)), .v (.one (.any)), .v (.one (.any)), .v (.one (.any)), .v (.one (.any)), .v (.one (.any)), .v (.one (.any)), .v (.one (.any)), .v (.one (.any)), .v (.one (.any)), .v (.one (.any)), .v (.one (.any))],
  [.arr 43 (.iss v3) 0 false]⟩
theorem L_impl_places_emp_impl_PlacesOf_1_0_eq (n c : Nat) (v0 : List T) (v1 : Int) (v2 : Int) (v3 : List (List Int)) : L_impl_places_emp_impl_PlacesOf_1_0 n (c + 1) v0 v1 v2 v3 =
 (cond ((decide (v2 < v1)))
 ((cond (decide (0 ≤ v2))
 (((v0)[(v2 : Int).toNat]?.bind fun x0 =>
 ((FF n 98 [.one (.emp (some (3, SK.i)))] []).bind fun x1 =>
 (rOwn 0 x1.1 fun x2 =>
 (arrIsC 3 x1.2 fun x3 x4 =>
 (nilV x2 (nilO x4
 ((cond (roomB (x3 ++ [v2]).length)
 (((FF n 80 [.agg [.int .i64 (x0).k, .int .i64 (x0).n, .fr (.ts (x0).kids)], .one (.fr (.is (x3 ++ [v2]))), .one (.fn 81 [])] []).bind fun x5 =>
 (rIss x5.1 fun x6 x7 =>
 (nilV x7 (nilO x5.2
 ((cond (roomB (v3 ++ x6).length)
 (L_impl_places_emp_impl_PlacesOf_1_0 n c (v0 : List T) (v1 : Int) ((IntKind.i64.wrap (v2 + 1)) : Int) ((v3 ++ x6) : List (List Int)))
 (none))))))))
 (none))))))))))
 (none)))
 (some ([.one (.fr (.iss v3))], []))) := by kernel_rfl
theorem E_impl_places_emp_impl_PlacesOf_1 (n : Nat) (v0 : Int) (v1 : Int) (v2 : List T) : FF (n + 1) 80 [.agg [.int .i64 v0, .int .i64 v1, .fr (.ts v2)], .one (.emp none), .one (.fn 81 [])] [] =
 ((FF n 81 [.agg [.int .i64 v0, .int .i64 v1, .fr (.ts v2)]] []).bind fun x0 =>
 (rBool x0.1 fun x1 x2 =>
 (nilV x2 (nilO x0.2
 ((cond (x1)
 (((FF n 98 [.one (.emp (some (3, SK.i)))] []).bind fun x3 =>
 (rOwn 0 x3.1 fun x4 =>
 (arrIsC 3 x3.2 fun x5 x6 =>
 (nilV x4 (nilO x6
 ((cond (roomB ([x5]).length)
 (L_impl_places_emp_impl_PlacesOf_1_0 n n (v2 : List T) (((v2).length : Int) : Int) (0 : Int) ([x5] : List (List Int)))
 (none)))))))))
 (L_impl_places_emp_impl_PlacesOf_1_0 n n (v2 : List T) (((v2).length : Int) : Int) (0 : Int) ([] : List (List Int))))))))) := by kernel_rfl

/-! loop.example/depkernel/impl.places -/
noncomputable def L_impl_places_emp_impl_RedexPlaces_1_0 (n c : Nat) (v0 : List T) (v1 : Int) (v2 : Int) (v3 : List (List Int)) : OR := runLoop Try.prog SS n 80 0 [1, 1, 1, 0, 1, 0] [] c ⟨[.v (.one (.any)), .v (.one (.emp none)), .v (.one (.fn 83 [])), .v (.one (.any)), .v (.one (.any)), .v (.one (.any)), .v (.one (.any)), .v (.one (.own 0 0)), .v (.one (.any)), .v (.one (.any)), .v (.one (.any)), .v (.one (.any)), .v (.one (.any)), .v (.one (.any)), .v (.one (.any)), .v (.one (.any)), .v (.one (.any)), .v (.one (.any)), .v (.one (.any)), .v (.one (.fr (.ts v0))), .v (.one (.int .i64 v1)), .v (.one (.int .i64 v2)), .v (.one (.any)), .v (.one (.any)), .v (.one (.any)), .v (.one (.any)), .v (.one (.any)), .v (.one (.any)), .v (.one (.any)), .v (.one (.any)), .v (.one (.any)), .v (.one (.any)), .v (.one (.any)), .v (.one (.any)), .v (.one (.any)), .v (.one (.any)), .v (.one (.any)), .v (.one (.any))],
  [.arr 43 (.iss v3) 0 false]⟩
theorem L_impl_places_emp_impl_RedexPlaces_1_0_eq (n c : Nat) (v0 : List T) (v1 : Int) (v2 : Int) (v3 : List (List Int)) : L_impl_places_emp_impl_RedexPlaces_1_0 n (c + 1) v0 v1 v2 v3 =
 (cond ((decide (v2 < v1)))
 ((cond (decide (0 ≤ v2))
 (((v0)[(v2 : Int).toNat]?.bind fun x0 =>
 ((FF n 98 [.one (.emp (some (3, SK.i)))] []).bind fun x1 =>
 (rOwn 0 x1.1 fun x2 =>
 (arrIsC 3 x1.2 fun x3 x4 =>
 (nilV x2 (nilO x4
 ((cond (roomB (x3 ++ [v2]).length)
 (((FF n 80 [.agg [.int .i64 (x0).k, .int .i64 (x0).n, .fr (.ts (x0).kids)], .one (.fr (.is (x3 ++ [v2]))), .one (.fn 83 [])] []).bind fun x5 =>
 (rIss x5.1 fun x6 x7 =>
 (nilV x7 (nilO x5.2
 ((cond (roomB (v3 ++ x6).length)
 (L_impl_places_emp_impl_RedexPlaces_1_0 n c (v0 : List T) (v1 : Int) ((IntKind.i64.wrap (v2 + 1)) : Int) ((v3 ++ x6) : List (List Int)))
 (none))))))))
 (none))))))))))
 (none)))
 (some ([.one (.fr (.iss v3))], []))) := by kernel_rfl
theorem E_impl_places_emp_impl_RedexPlaces_1 (n : Nat) (v0 : Int) (v1 : Int) (v2 : List T) : FF (n + 1) 80 [.agg [.int .i64 v0, .int .i64 v1, .fr (.ts v2)], .one (.emp none), .one (.fn 83 [])] [] =
 ((FF n 83 [.agg [.int .i64 v0, .int .i64 v1, .fr (.ts v2)]] []).bind fun x0 =>
 (rBool x0.1 fun x1 x2 =>
 (nilV x2 (nilO x0.2
 ((cond (x1)
 (((FF n 98 [.one (.emp (some (3, SK.i)))] []).bind fun x3 =>
 (rOwn 0 x3.1 fun x4 =>
 (arrIsC 3 x3.2 fun x5 x6 =>
 (nilV x4 (nilO x6
 ((cond (roomB ([x5]).length)
 (L_impl_places_emp_impl_RedexPlaces_1_0 n n (v2 : List T) (((v2).length : Int) : Int) (0 : Int) ([x5] : List (List Int)))
 (none)))))))))
 (L_impl_places_emp_impl_RedexPlaces_1_0 n n (v2 : List T) (((v2).length : Int) : Int) (0 : Int) ([] : List (List Int))))))))) := by kernel_rfl

/-! loop.example/depkernel/spec.l2Binds -/
theorem E_spec_l2Binds (n : Nat) (v0 : Int) (v1 : Int) : FF (n + 1) 85 [.one (.int .i64 v0), .one (.int .i64 v1)] [] =
 (cond ((decide (v1 = 1)))
 ((cond ((decide (v0 = 3)))
 (some ([.one (.bool true)], []))
 ((cond ((decide (v0 = 4)))
 (some ([.one (.bool true)], []))
 (some ([.one (.bool (decide (v0 = 13)))], []))))))
 (some ([.one (.bool false)], []))) := by kernel_rfl

/-! loop.example/depkernel/impl.ownAll -/
noncomputable def L_impl_ownAll_0 (n c : Nat) (v0 : List T) (v1 : Int) (v2 : Int) (v3 : List T) : OR := runLoop Try.prog SS n 86 0 [1, 1, 0, 1, 0] [] c ⟨[.v (.one (.any)), .v (.one (.any)), .v (.one (.any)), .v (.one (.own 0 0)), .v (.one (.any)), .v (.one (.any)), .v (.one (.fr (.ts v0))), .v (.one (.int .i64 v1)), .v (.one (.int .i64 v2)), .v (.one (.any)), .v (.one (.any)), .v (.one (.any)), .v (.one (.any)), .v (.one (.any)), .v (.one (.any)), .v (.one (.any)), .v (.one (.any)), .v (.one (.any)), .v (.one (.any))],
  [.arr 33 (.ts v3) 0 false]⟩
theorem L_impl_ownAll_0_eq (n c : Nat) (v0 : List T) (v1 : Int) (v2 : Int) (v3 : List T) : L_impl_ownAll_0 n (c + 1) v0 v1 v2 v3 =
 (cond ((decide (v2 < v1)))
 ((cond (decide (0 ≤ v2))
 (((v0)[(v2 : Int).toNat]?.bind fun x0 =>
 ((FF n 64 [.agg [.int .i64 (x0).k, .int .i64 (x0).n, .fr (.ts (x0).kids)]] []).bind fun x1 =>
 (rTerm x1.1 fun x2 x3 =>
 (nilV x3 (nilO x1.2
 ((cond (roomB (v3 ++ [(T.mk (x2).k (x2).n (x2).kids)]).length)
 (L_impl_ownAll_0 n c (v0 : List T) (v1 : Int) ((IntKind.i64.wrap (v2 + 1)) : Int) ((v3 ++ [(T.mk (x2).k (x2).n (x2).kids)]) : List T))
 (none)))))))))
 (none)))
 (some ([.one (.fr (.ts v3))], []))) := by kernel_rfl
theorem E_impl_ownAll (n : Nat) (v0 : List T) : FF (n + 1) 86 [.one (.fr (.ts v0))] [] =
 L_impl_ownAll_0 n n (v0 : List T) (((v0).length : Int) : Int) (0 : Int) ([] : List T) := by kernel_rfl

/-! loop.example/depkernel/spec.l8Put -/
theorem E_spec_l8Put (n : Nat) (v0 : Int) (v1 : Int) (v2 : List T) (v3 : List Int) (v4 : Int) (v5 : Int) (v6 : List T) : FF (n + 1) 87 [.agg [.int .i64 v0, .int .i64 v1, .fr (.ts v2)], .one (.fr (.is v3)), .agg [.int .i64 v4, .int .i64 v5, .fr (.ts v6)]] [] =
 (cond ((decide (((v3).length : Int) = 0)))
 (((FF n 62 [.agg [.int .i64 v4, .int .i64 v5, .fr (.ts v6)]] []).bind fun x0 =>
 (rOwnT 0 x0.1 fun x1 x2 x3 =>
 (arrTsC 33 x0.2 fun x4 x5 =>
 (nilV x3 (nilO x5
 (some ([.agg [.int .i64 x1, .int .i64 x2, .fr (.ts x4)]], []))))))))
 (((v3)[(0 : Int).toNat]?.bind fun x0 =>
 ((v3)[(0 : Int).toNat]?.bind fun x1 =>
 (cond (decide (0 ≤ x1))
 (((v2)[(x1 : Int).toNat]?.bind fun x2 =>
 (cond (Go.Ab.inB 1 (v3).length (v3).length)
 (((FF n 87 [.agg [.int .i64 (x2).k, .int .i64 (x2).n, .fr (.ts (x2).kids)], .one (.fr (.is (((v3).take ((v3).length : Int).toNat).drop (1 : Int).toNat))), .agg [.int .i64 v4, .int .i64 v5, .fr (.ts v6)]] []).bind fun x3 =>
 (rTerm x3.1 fun x4 x5 =>
 (nilV x5 (nilO x3.2
 (((FF n 99 [.agg [.int .i64 v0, .int .i64 v1, .fr (.ts v2)], .one (.int .i64 x0), .agg [.int .i64 (x4).k, .int .i64 (x4).n, .fr (.ts (x4).kids)]] []).bind fun x6 =>
 (rTerm x6.1 fun x7 x8 =>
 (nilV x8 (nilO x6.2
 (some ([.agg [.int .i64 (x7).k, .int .i64 (x7).n, .fr (.ts (x7).kids)]], []))))))))))))
 (none))))
 (none)))))) := by kernel_rfl

/-! loop.example/depkernel/impl.put -/
theorem E_impl_put (n : Nat) (v0 : Int) (v1 : Int) (v2 : List T) (v3 : List Int) (v4 : Int) (v5 : Int) (v6 : List T) : FF (n + 1) 88 [.agg [.int .i64 v0, .int .i64 v1, .fr (.ts v2)], .one (.fr (.is v3)), .agg [.int .i64 v4, .int .i64 v5, .fr (.ts v6)]] [] =
 (cond ((decide (((v3).length : Int) = 0)))
 (some ([.agg [.int .i64 v4, .int .i64 v5, .fr (.ts v6)]], []))
 (((FF n 100 [.one (.fr (.ts v2))] []).bind fun x0 =>
 (rOwn 0 x0.1 fun x1 =>
 (arrTsC 33 x0.2 fun x2 x3 =>
 (nilV x1 (nilO x3
 (((v3)[(0 : Int).toNat]?.bind fun x4 =>
 ((v3)[(0 : Int).toNat]?.bind fun x5 =>
 (cond (decide (0 ≤ x5))
 (((v2)[(x5 : Int).toNat]?.bind fun x6 =>
 (cond (Go.Ab.inB 1 (v3).length (v3).length)
 (((FF n 88 [.agg [.int .i64 (x6).k, .int .i64 (x6).n, .fr (.ts (x6).kids)], .one (.fr (.is (((v3).take ((v3).length : Int).toNat).drop (1 : Int).toNat))), .agg [.int .i64 v4, .int .i64 v5, .fr (.ts v6)]] []).bind fun x7 =>
 (rTerm x7.1 fun x8 x9 =>
 (nilV x9 (nilO x7.2
 ((cond (decide (0 ≤ x4))
 ((cond (decide (x4 < ((x2).length : Int)))
 (some ([.agg [.int .i64 v0, .int .i64 v1, .fr (.ts ((x2).set (x4 : Int).toNat (T.mk (x8).k (x8).n (x8).kids)))]], []))
 (none)))
 (none))))))))
 (none))))
 (none)))))))))))) := by kernel_rfl

/-! loop.example/depkernel/spec.l3Redex -/
theorem E_spec_l3Redex (n : Nat) (v0 : Int) (v1 : Int) (v2 : List T) : FF (n + 1) 89 [.agg [.int .i64 v0, .int .i64 v1, .fr (.ts v2)]] [] =
 (cond ((decide (v0 = 5)))
 (((v2)[(0 : Int).toNat]?.bind fun x0 =>
 (cond ((decide ((x0).k = 4)))
 (some ([.one (.int .i64 1)], []))
 (some ([.one (.int .i64 0)], [])))))
 ((cond ((decide (v0 = 9)))
 (((v2)[(3 : Int).toNat]?.bind fun x0 =>
 (cond ((decide ((x0).k = 7)))
 (some ([.one (.int .i64 2)], []))
 (((v2)[(3 : Int).toNat]?.bind fun x1 =>
 (cond ((decide ((x1).k = 8)))
 (some ([.one (.int .i64 3)], []))
 (some ([.one (.int .i64 0)], []))))))))
 ((cond ((decide (v0 = 12)))
 (((v2)[(1 : Int).toNat]?.bind fun x0 =>
 (cond ((decide ((x0).k = 11)))
 (some ([.one (.int .i64 4)], []))
 (some ([.one (.int .i64 0)], [])))))
 ((cond ((decide (v0 = 15)))
 (((v2)[(0 : Int).toNat]?.bind fun x0 =>
 (cond ((decide ((x0).k = 14)))
 (some ([.one (.int .i64 5)], []))
 (some ([.one (.int .i64 0)], [])))))
 ((cond ((decide (v0 = 16)))
 (((v2)[(0 : Int).toNat]?.bind fun x0 =>
 (cond ((decide ((x0).k = 14)))
 (some ([.one (.int .i64 6)], []))
 (some ([.one (.int .i64 0)], [])))))
 (some ([.one (.int .i64 0)], []))))))))))) := by kernel_rfl

/-! loop.example/depkernel/spec.l3Contract -/
theorem E_spec_l3Contract (n : Nat) (v0 : Int) (v1 : Int) (v2 : List T) : FF (n + 1) 90 [.agg [.int .i64 v0, .int .i64 v1, .fr (.ts v2)]] [] =
 ((FF n 89 [.agg [.int .i64 v0, .int .i64 v1, .fr (.ts v2)]] []).bind fun x0 =>
 (rInt .i64 x0.1 fun x1 x2 =>
 (nilV x2 (nilO x0.2
 ((cond ((decide (x1 = 1)))
 (((v2)[(0 : Int).toNat]?.bind fun x3 =>
 (((x3).kids)[(1 : Int).toNat]?.bind fun x4 =>
 ((v2)[(1 : Int).toNat]?.bind fun x5 =>
 ((FF n 101 [.agg [.int .i64 (x4).k, .int .i64 (x4).n, .fr (.ts (x4).kids)], .one (.int .i64 0), .agg [.int .i64 (x5).k, .int .i64 (x5).n, .fr (.ts (x5).kids)], .one (.int .i64 0)] []).bind fun x6 =>
 (rTerm x6.1 fun x7 x8 =>
 (nilV x8 (nilO x6.2
 (some ([.agg [.int .i64 (x7).k, .int .i64 (x7).n, .fr (.ts (x7).kids)]], []))))))))))
 ((cond ((decide (x1 = 2)))
 (((v2)[(1 : Int).toNat]?.bind fun x3 =>
 ((FF n 62 [.agg [.int .i64 (x3).k, .int .i64 (x3).n, .fr (.ts (x3).kids)]] []).bind fun x4 =>
 (rOwnT 0 x4.1 fun x5 x6 x7 =>
 (arrTsC 33 x4.2 fun x8 x9 =>
 (nilV x7 (nilO x9
 (some ([.agg [.int .i64 x5, .int .i64 x6, .fr (.ts x8)]], [])))))))))
 ((cond ((decide (x1 = 3)))
 (((v2)[(3 : Int).toNat]?.bind fun x3 =>
 (((x3).kids)[(0 : Int).toNat]?.bind fun x4 =>
 ((v2)[(0 : Int).toNat]?.bind fun x5 =>
 ((FF n 62 [.agg [.int .i64 (x5).k, .int .i64 (x5).n, .fr (.ts (x5).kids)]] []).bind fun x6 =>
 (rOwnT 0 x6.1 fun x7 x8 x9 =>
 (arrTsC 33 x6.2 fun x10 x11 =>
 (nilV x9 (nilO x11
 (((v2)[(1 : Int).toNat]?.bind fun x12 =>
 ((FF n 62 [.agg [.int .i64 (x12).k, .int .i64 (x12).n, .fr (.ts (x12).kids)]] []).bind fun x13 =>
 (rOwnT 0 x13.1 fun x14 x15 x16 =>
 (arrTsC 33 x13.2 fun x17 x18 =>
 (nilV x16 (nilO x18
 (((v2)[(2 : Int).toNat]?.bind fun x19 =>
 ((FF n 62 [.agg [.int .i64 (x19).k, .int .i64 (x19).n, .fr (.ts (x19).kids)]] []).bind fun x20 =>
 (rOwnT 0 x20.1 fun x21 x22 x23 =>
 (arrTsC 33 x20.2 fun x24 x25 =>
 (nilV x23 (nilO x25
 (((FF n 62 [.agg [.int .i64 (x4).k, .int .i64 (x4).n, .fr (.ts (x4).kids)]] []).bind fun x26 =>
 (rOwnT 0 x26.1 fun x27 x28 x29 =>
 (arrTsC 33 x26.2 fun x30 x31 =>
 (nilV x29 (nilO x31
 (((FF n 71 [.one (.int .i64 9), .one (.fr (.ts [(T.mk x7 x8 x10), (T.mk x14 x15 x17), (T.mk x21 x22 x24), (T.mk x27 x28 x30)]))] []).bind fun x32 =>
 (rTerm x32.1 fun x33 x34 =>
 (nilV x34 (nilO x32.2
 (((v2)[(2 : Int).toNat]?.bind fun x35 =>
 ((FF n 62 [.agg [.int .i64 (x35).k, .int .i64 (x35).n, .fr (.ts (x35).kids)]] []).bind fun x36 =>
 (rOwnT 0 x36.1 fun x37 x38 x39 =>
 (arrTsC 33 x36.2 fun x40 x41 =>
 (nilV x39 (nilO x41
 (((FF n 62 [.agg [.int .i64 (x4).k, .int .i64 (x4).n, .fr (.ts (x4).kids)]] []).bind fun x42 =>
 (rOwnT 0 x42.1 fun x43 x44 x45 =>
 (arrTsC 33 x42.2 fun x46 x47 =>
 (nilV x45 (nilO x47
 (((FF n 71 [.one (.int .i64 5), .one (.fr (.ts [(T.mk x37 x38 x40), (T.mk x43 x44 x46)]))] []).bind fun x48 =>
 (rTerm x48.1 fun x49 x50 =>
 (nilV x50 (nilO x48.2
 (((FF n 71 [.one (.int .i64 5), .one (.fr (.ts [(T.mk (x49).k (x49).n (x49).kids), (T.mk (x33).k (x33).n (x33).kids)]))] []).bind fun x51 =>
 (rTerm x51.1 fun x52 x53 =>
 (nilV x53 (nilO x51.2
 (some ([.agg [.int .i64 (x52).k, .int .i64 (x52).n, .fr (.ts (x52).kids)]], [])))))))))))))))))))))))))))))))))))))))))))))))))))))))))))
 ((cond ((decide (x1 = 4)))
 (((v2)[(2 : Int).toNat]?.bind fun x3 =>
 ((FF n 62 [.agg [.int .i64 (x3).k, .int .i64 (x3).n, .fr (.ts (x3).kids)]] []).bind fun x4 =>
 (rOwnT 0 x4.1 fun x5 x6 x7 =>
 (arrTsC 33 x4.2 fun x8 x9 =>
 (nilV x7 (nilO x9
 (some ([.agg [.int .i64 x5, .int .i64 x6, .fr (.ts x8)]], [])))))))))
 ((cond ((decide (x1 = 5)))
 (((v2)[(0 : Int).toNat]?.bind fun x3 =>
 (((x3).kids)[(1 : Int).toNat]?.bind fun x4 =>
 ((FF n 62 [.agg [.int .i64 (x4).k, .int .i64 (x4).n, .fr (.ts (x4).kids)]] []).bind fun x5 =>
 (rOwnT 0 x5.1 fun x6 x7 x8 =>
 (arrTsC 33 x5.2 fun x9 x10 =>
 (nilV x8 (nilO x10
 (some ([.agg [.int .i64 x6, .int .i64 x7, .fr (.ts x9)]], []))))))))))
 (((v2)[(0 : Int).toNat]?.bind fun x3 =>
 (((x3).kids)[(2 : Int).toNat]?.bind fun x4 =>
 ((FF n 62 [.agg [.int .i64 (x4).k, .int .i64 (x4).n, .fr (.ts (x4).kids)]] []).bind fun x5 =>
 (rOwnT 0 x5.1 fun x6 x7 x8 =>
 (arrTsC 33 x5.2 fun x9 x10 =>
 (nilV x8 (nilO x10
 (some ([.agg [.int .i64 x6, .int .i64 x7, .fr (.ts x9)]], [])))))))))))))))))))))))) := by kernel_rfl

/-! loop.example/depkernel/impl.redex -/
theorem E_impl_redex (n : Nat) (v0 : Int) (v1 : Int) (v2 : List T) : FF (n + 1) 84 [.agg [.int .i64 v0, .int .i64 v1, .fr (.ts v2)]] [] =
 (cond ((decide (v0 = 5)))
 (((v2)[(0 : Int).toNat]?.bind fun x0 =>
 (cond ((decide ((x0).k = 4)))
 (some ([.one (.int .i64 1)], []))
 (some ([.one (.int .i64 0)], [])))))
 ((cond ((decide (v0 = 9)))
 (((v2)[(3 : Int).toNat]?.bind fun x0 =>
 (cond ((decide ((x0).k = 7)))
 (some ([.one (.int .i64 2)], []))
 ((cond ((decide ((x0).k = 8)))
 (some ([.one (.int .i64 3)], []))
 (some ([.one (.int .i64 0)], [])))))))
 ((cond ((decide (v0 = 12)))
 (((v2)[(1 : Int).toNat]?.bind fun x0 =>
 (cond ((decide ((x0).k = 11)))
 (some ([.one (.int .i64 4)], []))
 (some ([.one (.int .i64 0)], [])))))
 ((cond ((decide (v0 = 15)))
 (((v2)[(0 : Int).toNat]?.bind fun x0 =>
 (cond ((decide ((x0).k = 14)))
 (some ([.one (.int .i64 (IntKind.i64.wrap ((IntKind.i64.wrap (5 + v0)) - 15)))], []))
 (some ([.one (.int .i64 0)], [])))))
 ((cond ((decide (v0 = 16)))
 (((v2)[(0 : Int).toNat]?.bind fun x0 =>
 (cond ((decide ((x0).k = 14)))
 (some ([.one (.int .i64 (IntKind.i64.wrap ((IntKind.i64.wrap (5 + v0)) - 15)))], []))
 (some ([.one (.int .i64 0)], [])))))
 (some ([.one (.int .i64 0)], []))))))))))) := by kernel_rfl

/-! loop.example/depkernel/impl.contracted -/
theorem E_impl_contracted (n : Nat) (v0 : Int) (v1 : Int) (v2 : List T) (v3 : List Int) : FF (n + 1) 91 [.agg [.int .i64 v0, .int .i64 v1, .fr (.ts v2)], .one (.fr (.is v3))] [] =
 ((FF n 103 [.agg [.int .i64 v0, .int .i64 v1, .fr (.ts v2)], .one (.fr (.is v3))] []).bind fun x0 =>
 (rTerm x0.1 fun x1 x2 =>
 (nilV x2 (nilO x0.2
 (((FF n 102 [.agg [.int .i64 (x1).k, .int .i64 (x1).n, .fr (.ts (x1).kids)]] []).bind fun x3 =>
 (rTerm x3.1 fun x4 x5 =>
 (rBool x5 fun x6 x7 =>
 (nilV x7 (nilO x3.2
 ((cond ((!x6))
 (some ([.agg [.int .i64 0, .int .i64 0, .fr (.ts [])], .one (.bool false)], []))
 (((FF n 88 [.agg [.int .i64 v0, .int .i64 v1, .fr (.ts v2)], .one (.fr (.is v3)), .agg [.int .i64 (x4).k, .int .i64 (x4).n, .fr (.ts (x4).kids)]] []).bind fun x8 =>
 (rTerm x8.1 fun x9 x10 =>
 (nilV x10 (nilO x8.2
 (((FF n 64 [.agg [.int .i64 (x9).k, .int .i64 (x9).n, .fr (.ts (x9).kids)]] []).bind fun x11 =>
 (rTerm x11.1 fun x12 x13 =>
 (nilV x13 (nilO x11.2
 (((FF n 75 [.agg [.int .i64 (x12).k, .int .i64 (x12).n, .fr (.ts (x12).kids)]] []).bind fun x14 =>
 (rTerm x14.1 fun x15 x16 =>
 (rBool x16 fun x17 x18 =>
 (nilV x18 (nilO x14.2
 (some ([.agg [.int .i64 (x15).k, .int .i64 (x15).n, .fr (.ts (x15).kids)], .one (.bool x17)], [])))))))))))))))))))))))))))))) := by kernel_rfl

/-! loop.example/depkernel/laws.szTermS -/
noncomputable def L_laws_szTermS_0 (n c : Nat) (v0 : List T) (v1 : Int) (v2 : Int) : OR := runLoop Try.prog SS n 34 0 [1, 1, 1, 0, 1, 0] [] c ⟨[.v (.one (.fr (.ts v0))), .v (.one (.int .i64 v1)), .v (.one (.any)), .v (.one (.any)), .v (.one (.any)), .v (.one (.int .i64 v2)), .v (.one (.any)), .v (.one (.any)), .v (.one (.any)), .v (.one (.any)), .v (.one (.any)), .v (.one (.any)), .v (.one (.any)), .v (.one (.any)), .v (.one (.any)), .v (.one (.any)), .v (.one (.any)), .v (.one (.any)), .v (.one (.any)), .v (.one (.any)), .v (.one (.any)), .v (.one (.any)), .v (.one (.any)), .v (.one (.any)), .v (.one (.any)), .v (.one (.any)), .v (.one (.any))],
  []⟩
theorem L_laws_szTermS_0_eq (n c : Nat) (v0 : List T) (v1 : Int) (v2 : Int) : L_laws_szTermS_0 n (c + 1) v0 v1 v2 =
 (cond ((decide (v2 < ((v0).length : Int))))
 ((cond (decide (0 ≤ v2))
 (((v0)[(v2 : Int).toNat]?.bind fun x0 =>
 ((FF n 21 [.agg [.int .i64 (x0).k, .int .i64 (x0).n, .fr (.ts (x0).kids)], .one (.int .i64 v1)] []).bind fun x1 =>
 (rInt .i64 x1.1 fun x2 x3 =>
 (nilV x3 (nilO x1.2
 ((cond ((decide (x2 < 0)))
 (some ([.one (.int .i64 (-1))], []))
 (L_laws_szTermS_0 n c (v0 : List T) (x2 : Int) ((IntKind.i64.wrap (v2 + 1)) : Int))))))))))
 (none)))
 (some ([.one (.int .i64 v1)], []))) := by kernel_rfl
theorem E_laws_szTermS (n : Nat) (v0 : List T) (v1 : Int) : FF (n + 1) 34 [.one (.fr (.ts v0)), .one (.int .i64 v1)] [] =
 (cond ((decide ((IntKind.i64.wrap (v1 - ((v0).length : Int))) < 0)))
 (some ([.one (.int .i64 (-1))], []))
 (L_laws_szTermS_0 n n (v0 : List T) ((IntKind.i64.wrap (v1 - ((v0).length : Int))) : Int) (0 : Int))) := by kernel_rfl

/-! loop.example/depkernel/laws.toTermS -/
noncomputable def L_laws_toTermS_0 (n c : Nat) (v0 : List T) (v1 : Int) (v2 : List T) : OR := runLoop Try.prog SS n 36 0 [1, 1, 0, 1, 0] [] c ⟨[.v (.one (.fr (.ts v0))), .v (.one (.any)), .v (.one (.any)), .v (.one (.own 0 0)), .v (.one (.int .i64 v1)), .v (.one (.any)), .v (.one (.any)), .v (.one (.any)), .v (.one (.any)), .v (.one (.any)), .v (.one (.any)), .v (.one (.any)), .v (.one (.any)), .v (.one (.any)), .v (.one (.any)), .v (.one (.any)), .v (.one (.any)), .v (.one (.any)), .v (.one (.any)), .v (.one (.any)), .v (.one (.any)), .v (.one (.any)), .v (.one (.any))],
  [.arr 33 (.ts v2) 0 false]⟩
theorem L_laws_toTermS_0_eq (n c : Nat) (v0 : List T) (v1 : Int) (v2 : List T) : L_laws_toTermS_0 n (c + 1) v0 v1 v2 =
 (cond ((decide (v1 < ((v0).length : Int))))
 ((cond (decide (0 ≤ v1))
 (((v0)[(v1 : Int).toNat]?.bind fun x0 =>
 ((FF n 23 [.agg [.int .i64 (x0).k, .int .i64 (x0).n, .fr (.ts (x0).kids)]] []).bind fun x1 =>
 (rTerm x1.1 fun x2 x3 =>
 (nilV x3 (nilO x1.2
 ((cond (decide (0 ≤ v1))
 ((cond (decide (v1 < ((v2).length : Int)))
 (L_laws_toTermS_0 n c (v0 : List T) ((IntKind.i64.wrap (v1 + 1)) : Int) (((v2).set (v1 : Int).toNat (T.mk (x2).k (x2).n (x2).kids)) : List T))
 (none)))
 (none)))))))))
 (none)))
 (some ([.one (.fr (.ts v2))], []))) := by kernel_rfl
theorem E_laws_toTermS (n : Nat) (v0 : List T) : FF (n + 1) 36 [.one (.fr (.ts v0))] [] =
 (cond (decide (((v0).length : Int) = ((v0).length : Int)) && (decide (0 ≤ ((v0).length : Int)) && decide (((v0).length : Int) ≤ 4194304)))
 (L_laws_toTermS_0 n n (v0 : List T) (0 : Int) ((List.replicate (((v0).length : Int) : Int).toNat (T.mk 0 0 [])) : List T))
 (none)) := by kernel_rfl

/-! loop.example/depkernel/spec.l2Under -/
theorem E_spec_l2Under (n : Nat) (v0 : Int) (v1 : Int) : FF (n + 1) 68 [.one (.int .i64 v0), .one (.int .i64 v1)] [] =
 ((FF n 85 [.one (.int .i64 v0), .one (.int .i64 v1)] []).bind fun x0 =>
 (rBool x0.1 fun x1 x2 =>
 (nilV x2 (nilO x0.2
 ((cond (x1)
 (some ([.one (.int .i64 1)], []))
 (some ([.one (.int .i64 0)], [])))))))) := by kernel_rfl

/-! loop.example/depkernel/laws.eqTermS -/
noncomputable def L_laws_eqTermS_0 (n c : Nat) (v0 : List T) (v1 : List T) (v2 : Int) : OR := runLoop Try.prog SS n 18 0 [1, 1, 0, 1, 0] [] c ⟨[.v (.one (.fr (.ts v0))), .v (.one (.fr (.ts v1))), .v (.one (.any)), .v (.one (.any)), .v (.one (.any)), .v (.one (.int .i64 v2)), .v (.one (.any)), .v (.one (.any)), .v (.one (.any)), .v (.one (.any)), .v (.one (.any)), .v (.one (.any)), .v (.one (.any)), .v (.one (.any)), .v (.one (.any)), .v (.one (.any)), .v (.one (.any)), .v (.one (.any)), .v (.one (.any)), .v (.one (.any)), .v (.one (.any)), .v (.one (.any)), .v (.one (.any)), .v (.one (.any)), .v (.one (.any)), .v (.one (.any)), .v (.one (.any))],
  []⟩
theorem L_laws_eqTermS_0_eq (n c : Nat) (v0 : List T) (v1 : List T) (v2 : Int) : L_laws_eqTermS_0 n (c + 1) v0 v1 v2 =
 (cond ((decide (v2 < ((v0).length : Int))))
 ((cond (decide (0 ≤ v2))
 (((v0)[(v2 : Int).toNat]?.bind fun x0 =>
 (cond (decide (0 ≤ v2))
 (((v1)[(v2 : Int).toNat]?.bind fun x1 =>
 ((FF n 25 [.agg [.int .i64 (x0).k, .int .i64 (x0).n, .fr (.ts (x0).kids)], .agg [.int .i64 (x1).k, .int .i64 (x1).n, .fr (.ts (x1).kids)]] []).bind fun x2 =>
 (rBool x2.1 fun x3 x4 =>
 (nilV x4 (nilO x2.2
 ((cond ((!x3))
 (some ([.one (.bool false)], []))
 (L_laws_eqTermS_0 n c (v0 : List T) (v1 : List T) ((IntKind.i64.wrap (v2 + 1)) : Int))))))))))
 (none))))
 (none)))
 (some ([.one (.bool true)], []))) := by kernel_rfl
theorem E_laws_eqTermS (n : Nat) (v0 : List T) (v1 : List T) : FF (n + 1) 18 [.one (.fr (.ts v0)), .one (.fr (.ts v1))] [] =
 (cond ((!decide (((v0).length : Int) = ((v1).length : Int))))
 (some ([.one (.bool false)], []))
 (L_laws_eqTermS_0 n n (v0 : List T) (v1 : List T) (0 : Int))) := by kernel_rfl

/-! loop.example/depkernel/spec.l1Shape -/
noncomputable def L_spec_l1Shape_0 (n c : Nat) (v0 : Int) (v1 : Int) (v2 : Int) (v3 : Int) (v4 : List T) : OR := runLoop Try.prog SS n 92 0 [1, 1, 0, 1, 0] [] c ⟨[.v (.one (.any)), .v (.one (.int .i64 v0)), .v (.one (.ptr 0 0)), .v (.one (.any)), .v (.one (.any)), .v (.one (.int .i64 v1)), .v (.one (.any)), .v (.one (.any)), .v (.one (.any)), .v (.one (.any)), .v (.one (.any)), .v (.one (.any)), .v (.one (.any)), .v (.one (.any)), .v (.one (.any)), .v (.one (.any)), .v (.one (.any)), .v (.one (.any)), .v (.one (.any)), .v (.one (.any)), .v (.one (.any)), .v (.one (.any)), .v (.one (.any)), .v (.one (.any)), .v (.one (.any)), .v (.one (.any)), .v (.one (.any)), .v (.one (.any)), .v (.one (.any)), .v (.one (.any)), .v (.one (.any)), .v (.one (.any)), .v (.one (.any)), .v (.one (.any)), .v (.one (.any)), .v (.one (.any)), .v (.one (.any)), .v (.one (.any)), .v (.one (.any)), .v (.one (.any)), .v (.one (.any)), .v (.one (.any)), .v (.one (.any)), .v (.one (.any)), .v (.one (.any)), .v (.one (.any))],
  [.cells [.int .i64 v2, .int .i64 v3, .fr (.ts v4)]]⟩
theorem L_spec_l1Shape_0_eq (n c : Nat) (v0 : Int) (v1 : Int) (v2 : Int) (v3 : Int) (v4 : List T) : L_spec_l1Shape_0 n (c + 1) v0 v1 v2 v3 v4 =
 (cond ((decide (v1 < ((v4).length : Int))))
 ((cond (decide (0 ≤ v1))
 (((v4)[(v1 : Int).toNat]?.bind fun x0 =>
 ((FF n 92 [.agg [.int .i64 (x0).k, .int .i64 (x0).n, .fr (.ts (x0).kids)], .one (.int .i64 (IntKind.i64.wrap (v0 - 1)))] []).bind fun x1 =>
 (rBool x1.1 fun x2 x3 =>
 (nilV x3 (nilO x1.2
 ((cond ((!x2))
 (some ([.one (.bool false)], []))
 (L_spec_l1Shape_0 n c (v0 : Int) ((IntKind.i64.wrap (v1 + 1)) : Int) (v2 : Int) (v3 : Int) (v4 : List T))))))))))
 (none)))
 (some ([.one (.bool true)], []))) := by kernel_rfl
theorem E_spec_l1Shape (n : Nat) (v0 : Int) (v1 : Int) (v2 : List T) (v3 : Int) : FF (n + 1) 92 [.agg [.int .i64 v0, .int .i64 v1, .fr (.ts v2)], .one (.int .i64 v3)] [] =
 (cond ((decide (v3 < 1)))
 (some ([.one (.bool false)], []))
 (((FF n 104 [.one (.int .i64 v0)] []).bind fun x0 =>
 (rInt .i64 x0.1 fun x1 x2 =>
 (nilV x2 (nilO x0.2
 ((cond ((!decide (x1 = ((v2).length : Int))))
 (some ([.one (.bool false)], []))
 ((cond ((decide (v1 < 0)))
 (some ([.one (.bool false)], []))
 (((FF n 105 [.one (.int .i64 v0)] []).bind fun x3 =>
 (rInt .i64 x3.1 fun x4 x5 =>
 (nilV x5 (nilO x3.2
 ((cond ((decide (x4 < v1)))
 (some ([.one (.bool false)], []))
 (L_spec_l1Shape_0 n n (v3 : Int) (0 : Int) (v0 : Int) (v1 : Int) (v2 : List T))))))))))))))))))) := by kernel_rfl

/-! loop.example/depkernel/spec.l1Count -/
noncomputable def L_spec_l1Count_0 (n c : Nat) (v0 : Int) (v1 : Int) (v2 : Int) (v3 : Int) (v4 : Int) (v5 : List T) : OR := runLoop Try.prog SS n 93 0 [1, 1, 0, 1, 0] [] c ⟨[.v (.one (.any)), .v (.one (.int .i64 v0)), .v (.one (.ptr 0 0)), .v (.one (.any)), .v (.one (.any)), .v (.one (.int .i64 v1)), .v (.one (.int .i64 v2)), .v (.one (.any)), .v (.one (.any)), .v (.one (.any)), .v (.one (.any)), .v (.one (.any)), .v (.one (.any)), .v (.one (.any)), .v (.one (.any)), .v (.one (.any)), .v (.one (.any)), .v (.one (.any)), .v (.one (.any)), .v (.one (.any)), .v (.one (.any)), .v (.one (.any)), .v (.one (.any)), .v (.one (.any)), .v (.one (.any)), .v (.one (.any)), .v (.one (.any)), .v (.one (.any)), .v (.one (.any)), .v (.one (.any)), .v (.one (.any))],
  [.cells [.int .i64 v3, .int .i64 v4, .fr (.ts v5)]]⟩
theorem L_spec_l1Count_0_eq (n c : Nat) (v0 : Int) (v1 : Int) (v2 : Int) (v3 : Int) (v4 : Int) (v5 : List T) : L_spec_l1Count_0 n (c + 1) v0 v1 v2 v3 v4 v5 =
 (cond ((decide (v2 < ((v5).length : Int))))
 ((cond ((decide (v1 ≤ v0)))
 ((cond (decide (0 ≤ v2))
 (((v5)[(v2 : Int).toNat]?.bind fun x0 =>
 ((FF n 93 [.agg [.int .i64 (x0).k, .int .i64 (x0).n, .fr (.ts (x0).kids)], .one (.int .i64 (IntKind.i64.wrap (v0 - v1)))] []).bind fun x1 =>
 (rInt .i64 x1.1 fun x2 x3 =>
 (nilV x3 (nilO x1.2
 (L_spec_l1Count_0 n c (v0 : Int) ((IntKind.i64.wrap (v1 + x2)) : Int) ((IntKind.i64.wrap (v2 + 1)) : Int) (v3 : Int) (v4 : Int) (v5 : List T))))))))
 (none)))
 (some ([.one (.int .i64 v1)], []))))
 (some ([.one (.int .i64 v1)], []))) := by kernel_rfl
theorem E_spec_l1Count (n : Nat) (v0 : Int) (v1 : Int) (v2 : List T) (v3 : Int) : FF (n + 1) 93 [.agg [.int .i64 v0, .int .i64 v1, .fr (.ts v2)], .one (.int .i64 v3)] [] =
 L_spec_l1Count_0 n n (v3 : Int) (1 : Int) (0 : Int) (v0 : Int) (v1 : Int) (v2 : List T) := by kernel_rfl

/-! loop.example/depkernel/impl.scan -/
noncomputable def L_impl_scan_0 (n c : Nat) (v0 : Int) (v1 : List T) (v2 : Int) (v3 : Int) (v4 : Int) : OR := runLoop Try.prog SS n 94 1 [1, 1, 1, 0, 1, 0] [] c ⟨[.v (.one (.any)), .v (.one (.int .i64 v0)), .v (.one (.ptr 0 0)), .v (.one (.any)), .v (.one (.any)), .v (.one (.any)), .v (.one (.any)), .v (.one (.any)), .v (.one (.any)), .v (.one (.any)), .v (.one (.any)), .v (.one (.any)), .v (.one (.any)), .v (.one (.any)), .v (.one (.any)), .v (.one (.any)), .v (.one (.any)), .v (.one (.any)), .v (.one (.any)), .v (.one (.any)), .v (.one (.any)), .v (.one (.any)), .v (.one (.any)), .v (.one (.any)), .v (.one (.any)), .v (.one (.any)), .v (.one (.any)), .v (.one (.any)), .v (.one (.any)), .v (.one (.any)), .v (.one (.any)), .v (.one (.any)), .v (.one (.any)), .v (.one (.any)), .v (.one (.any)), .v (.one (.any)), .v (.one (.any)), .v (.one (.any)), .v (.one (.any)), .v (.one (.any)), .v (.one (.any)), .v (.one (.fr (.ts v1))), .v (.one (.int .i64 v2)), .v (.one (.int .i64 v3)), .v (.one (.any)), .v (.one (.any)), .v (.one (.any)), .v (.one (.any)), .v (.one (.any)), .v (.one (.any)), .v (.one (.any)), .v (.one (.any)), .v (.one (.any)), .v (.one (.any))],
  [.cells [.int .i64 v4]]⟩
theorem L_impl_scan_0_eq (n c : Nat) (v0 : Int) (v1 : List T) (v2 : Int) (v3 : Int) (v4 : Int) : L_impl_scan_0 n (c + 1) v0 v1 v2 v3 v4 =
 (cond ((decide (v3 < v2)))
 ((cond (decide (0 ≤ v3))
 (((v1)[(v3 : Int).toNat]?.bind fun x0 =>
 ((FF n 94 [.agg [.int .i64 (x0).k, .int .i64 (x0).n, .fr (.ts (x0).kids)], .one (.int .i64 (IntKind.i64.wrap (v0 + 1))), .one (.ptr 0 0)] [.cells [.int .i64 v4]]).bind fun x1 =>
 (objC x1.2 fun x2 x3 =>
 (intC .i64 x2 fun x4 x5 =>
 (nilC x5
 ((rBool x1.1 fun x6 x7 =>
 (nilV x7 (nilO x3
 ((cond ((!x6))
 (some ([.one (.bool false)], [.cells [.int .i64 x4]]))
 (L_impl_scan_0 n c (v0 : Int) (v1 : List T) (v2 : Int) ((IntKind.i64.wrap (v3 + 1)) : Int) (x4 : Int))))))))))))))
 (none)))
 (some ([.one (.bool true)], [.cells [.int .i64 v4]]))) := by kernel_rfl
theorem E_impl_scan (n : Nat) (v0 : Int) (v1 : Int) (v2 : List T) (v3 : Int) (v4 : Int) : FF (n + 1) 94 [.agg [.int .i64 v0, .int .i64 v1, .fr (.ts v2)], .one (.int .i64 v3), .one (.ptr 0 0)] [.cells [.int .i64 v4]] =
 (cond ((decide (400 < (IntKind.i64.wrap (v4 + 1)))))
 (some ([.one (.bool false)], [.cells [.int .i64 (IntKind.i64.wrap (v4 + 1))]]))
 ((cond ((decide (30 < v3)))
 (some ([.one (.bool false)], [.cells [.int .i64 (IntKind.i64.wrap (v4 + 1))]]))
 (((FF n 106 [.one (.int .i64 v0)] []).bind fun x0 =>
 (rInt .i64 x0.1 fun x1 x2 =>
 (nilV x2 (nilO x0.2
 ((cond ((!decide (x1 = ((v2).length : Int))))
 (some ([.one (.bool false)], [.cells [.int .i64 (IntKind.i64.wrap (v4 + 1))]]))
 (((FF n 107 [.one (.int .i64 v0)] []).bind fun x3 =>
 (rInt .i64 x3.1 fun x4 x5 =>
 (nilV x5 (nilO x3.2
 (((FF n 59 [.one (.int .i64 v1), .one (.int .i64 0), .one (.int .i64 x4)] []).bind fun x6 =>
 (rBool x6.1 fun x7 x8 =>
 (nilV x8 (nilO x6.2
 ((cond ((!x7))
 (some ([.one (.bool false)], [.cells [.int .i64 (IntKind.i64.wrap (v4 + 1))]]))
 (L_impl_scan_0 n n (v3 : Int) (v2 : List T) (((v2).length : Int) : Int) (0 : Int) ((IntKind.i64.wrap (v4 + 1)) : Int)))))))))))))))))))))))) := by kernel_rfl

/-! slices.ContainsFunc[[]loop.example/depkernel/impl.Term,loop.example/depkernel/impl.Term] -/
theorem E_slices_ContainsFunc_impl_areTerms_1 (n : Nat) (v0 : List T) : FF (n + 1) 96 [.one (.fr (.ts v0)), .one (.fn 97 [])] [] =
 ((FF n 109 [.one (.fr (.ts v0)), .one (.fn 97 [])] []).bind fun x0 =>
 (rInt .i64 x0.1 fun x1 x2 =>
 (nilV x2 (nilO x0.2
 (some ([.one (.bool (decide (0 ≤ x1)))], [])))))) := by kernel_rfl

/-! loop.example/depkernel/impl.under -/
theorem E_impl_under (n : Nat) (v0 : Int) (v1 : Int) : FF (n + 1) 95 [.one (.int .i64 v0), .one (.int .i64 v1)] [] =
 (cond ((decide (v1 = 1)))
 (((FF n 108 [.one (.int .i64 v0)] []).bind fun x0 =>
 (rBool x0.1 fun x1 x2 =>
 (nilV x2 (nilO x0.2
 ((cond (x1)
 (some ([.one (.int .i64 1)], []))
 (some ([.one (.int .i64 0)], [])))))))))
 (some ([.one (.int .i64 0)], []))) := by kernel_rfl

/-! loop.example/depkernel/impl.PlacesOf$1 -/
theorem E_impl_PlacesOf_1 (n : Nat) (v0 : Int) (v1 : Int) (v2 : List T) : FF (n + 1) 81 [.agg [.int .i64 v0, .int .i64 v1, .fr (.ts v2)]] [] =
 some ([.one (.bool true)], []) := by kernel_rfl

/-! slices.Clone[[]int,int] -/
theorem E_slices_CloneI_emp (n : Nat) : FF (n + 1) 98 [.one (.emp (some (3, SK.i)))] [] =
 none := by kernel_rfl

/-! loop.example/depkernel/impl.places -/
noncomputable def L_impl_places_impl_PlacesOf_1_0 (n c : Nat) (v0 : List Int) (v1 : List T) (v2 : Int) (v3 : Int) (v4 : List (List Int)) : OR := runLoop Try.prog SS n 80 0 [1, 1, 1, 0, 1, 0] [] c ⟨[.v (.one (.any)), .v (.one (.fr (.is v0))), .v (.one (.fn 81 [])), .v (.one (.any)), .v (.one (.any)), .v (.one (.any)), .v (.one (.any)), .v (.one (.own 0 0)), .v (.one (.any)), .v (.one (.any)), .v (.one (.any)), .v (.one (.any)), .v (.one (.any)), .v (.one (.any)), .v (.one (.any)), .v (.one (.any)), .v (.one (.any)), .v (.one (.any)), .v (.one (.any)), .v (.one (.fr (.ts v1))), .v (.one (.int .i64 v2)), .v (.one (.int .i64 v3)), .v (.one (.any)), .v (.one (.any)), .v (.one (.any)), .v (.one (.any)), .v (.one (.any)), .v (.one (.any)), .v (.one (.any)), .v (.one (.any)), .v (.one (.any)), .v (.one (.any)), .v (.one (.any)), .v (.one (.any)), .v (.one (.any)), .v (.one (.any)), .v (.one (.any)), .v (.one (.any))],
  [.arr 43 (.iss v4) 0 false]⟩
theorem L_impl_places_impl_PlacesOf_1_0_eq (n c : Nat) (v0 : List Int) (v1 : List T) (v2 : Int) (v3 : Int) (v4 : List (List Int)) : L_impl_places_impl_PlacesOf_1_0 n (c + 1) v0 v1 v2 v3 v4 =
 (cond ((decide (v3 < v2)))
 ((cond (decide (0 ≤ v3))
 (((v1)[(v3 : Int).toNat]?.bind fun x0 =>
 ((FF n 98 [.one (.fr (.is v0))] []).bind fun x1 =>
 (rOwn 0 x1.1 fun x2 =>
 (arrIsC 3 x1.2 fun x3 x4 =>
 (nilV x2 (nilO x4
 ((cond (roomB (x3 ++ [v3]).length)
 (((FF n 80 [.agg [.int .i64 (x0).k, .int .i64 (x0).n, .fr (.ts (x0).kids)], .one (.fr (.is (x3 ++ [v3]))), .one (.fn 81 [])] []).bind fun x5 =>
 (rIss x5.1 fun x6 x7 =>
 (nilV x7 (nilO x5.2
 ((cond (roomB (v4 ++ x6).length)
 (L_impl_places_impl_PlacesOf_1_0 n c (v0 : List Int) (v1 : List T) (v2 : Int) ((IntKind.i64.wrap (v3 + 1)) : Int) ((v4 ++ x6) : List (List Int)))
 (none))))))))
 (none))))))))))
 (none)))
 (some ([.one (.fr (.iss v4))], []))) := by kernel_rfl
theorem E_impl_places_impl_PlacesOf_1 (n : Nat) (v0 : Int) (v1 : Int) (v2 : List T) (v3 : List Int) : FF (n + 1) 80 [.agg [.int .i64 v0, .int .i64 v1, .fr (.ts v2)], .one (.fr (.is v3)), .one (.fn 81 [])] [] =
 ((FF n 81 [.agg [.int .i64 v0, .int .i64 v1, .fr (.ts v2)]] []).bind fun x0 =>
 (rBool x0.1 fun x1 x2 =>
 (nilV x2 (nilO x0.2
 ((cond (x1)
 (((FF n 98 [.one (.fr (.is v3))] []).bind fun x3 =>
 (rOwn 0 x3.1 fun x4 =>
 (arrIsC 3 x3.2 fun x5 x6 =>
 (nilV x4 (nilO x6
 ((cond (roomB ([x5]).length)
 (L_impl_places_impl_PlacesOf_1_0 n n (v3 : List Int) (v2 : List T) (((v2).length : Int) : Int) (0 : Int) ([x5] : List (List Int)))
 (none)))))))))
 (L_impl_places_impl_PlacesOf_1_0 n n (v3 : List Int) (v2 : List T) (((v2).length : Int) : Int) (0 : Int) ([] : List (List Int))))))))) := by kernel_rfl

/-! loop.example/depkernel/impl.RedexPlaces$1 -/
theorem E_impl_RedexPlaces_1 (n : Nat) (v0 : Int) (v1 : Int) (v2 : List T) : FF (n + 1) 83 [.agg [.int .i64 v0, .int .i64 v1, .fr (.ts v2)]] [] =
 ((FF n 84 [.agg [.int .i64 v0, .int .i64 v1, .fr (.ts v2)]] []).bind fun x0 =>
 (rInt .i64 x0.1 fun x1 x2 =>
 (nilV x2 (nilO x0.2
 (some ([.one (.bool (!decide (x1 = 0)))], [])))))) := by kernel_rfl

/-! loop.example/depkernel/impl.places -/
noncomputable def L_impl_places_impl_RedexPlaces_1_0 (n c : Nat) (v0 : List Int) (v1 : List T) (v2 : Int) (v3 : Int) (v4 : List (List Int)) : OR := runLoop Try.prog SS n 80 0 [1, 1, 1, 0, 1, 0] [] c ⟨[.v (.one (.any)), .v (.one (.fr (.is v0))), .v (.one (.fn 83 [])), .v (.one (.any)), .v (.one (.any)), .v (.one (.any)), .v (.one (.any)), .v (.one (.own 0 0)), .v (.one (.any)), .v (.one (.any)), .v (.one (.any)), .v (.one (.any)), .v (.one (.any)), .v (.one (.any)), .v (.one (.any)), .v (.one (.any)), .v (.one (.any)), .v (.one (.any)), .v (.one (.any)), .v (.one (.fr (.ts v1))), .v (.one (.int .i64 v2)), .v (.one (.int .i64 v3)), .v (.one (.any)), .v (.one (.any)), .v (.one (.any)), .v (.one (.any)), .v (.one (.any)), .v (.one (.any)), .v (.one (.any)), .v (.one (.any)), .v (.one (.any)), .v (.one (.any)), .v (.one (.any)), .v (.one (.any)), .v (.one (.any)), .v (.one (.any)), .v (.one (.any)), .v (.one (.any))],
  [.arr 43 (.iss v4) 0 false]⟩
theorem L_impl_places_impl_RedexPlaces_1_0_eq (n c : Nat) (v0 : List Int) (v1 : List T) (v2 : Int) (v3 : Int) (v4 : List (List Int)) : L_impl_places_impl_RedexPlaces_1_0 n (c + 1) v0 v1 v2 v3 v4 =
 (cond ((decide (v3 < v2)))
 ((cond (decide (0 ≤ v3))
 (((v1)[(v3 : Int).toNat]?.bind fun x0 =>
 ((FF n 98 [.one (.fr (.is v0))] []).bind fun x1 =>
 (rOwn 0 x1.1 fun x2 =>
 (arrIsC 3 x1.2 fun x3 x4 =>
 (nilV x2 (nilO x4
 ((cond (roomB (x3 ++ [v3]).length)
 (((FF n 80 [.agg [.int .i64 (x0).k, .int .i64 (x0).n, .fr (.ts (x0).kids)], .one (.fr (.is (x3 ++ [v3]))), .one (.fn 83 [])] []).bind fun x5 =>
 (rIss x5.1 fun x6 x7 =>
 (nilV x7 (nilO x5.2
 ((cond (roomB (v4 ++ x6).length)
 (L_impl_places_impl_RedexPlaces_1_0 n c (v0 : List Int) (v1 : List T) (v2 : Int) ((IntKind.i64.wrap (v3 + 1)) : Int) ((v4 ++ x6) : List (List Int)))
 (none))))))))
 (none))))))))))
 (none)))
 (some ([.one (.fr (.iss v4))], []))) := by kernel_rfl
theorem E_impl_places_impl_RedexPlaces_1 (n : Nat) (v0 : Int) (v1 : Int) (v2 : List T) (v3 : List Int) : FF (n + 1) 80 [.agg [.int .i64 v0, .int .i64 v1, .fr (.ts v2)], .one (.fr (.is v3)), .one (.fn 83 [])] [] =
 ((FF n 83 [.agg [.int .i64 v0, .int .i64 v1, .fr (.ts v2)]] []).bind fun x0 =>
 (rBool x0.1 fun x1 x2 =>
 (nilV x2 (nilO x0.2
 ((cond (x1)
 (((FF n 98 [.one (.fr (.is v3))] []).bind fun x3 =>
 (rOwn 0 x3.1 fun x4 =>
 (arrIsC 3 x3.2 fun x5 x6 =>
 (nilV x4 (nilO x6
 ((cond (roomB ([x5]).length)
 (L_impl_places_impl_RedexPlaces_1_0 n n (v3 : List Int) (v2 : List T) (((v2).length : Int) : Int) (0 : Int) ([x5] : List (List Int)))
 (none)))))))))
 (L_impl_places_impl_RedexPlaces_1_0 n n (v3 : List Int) (v2 : List T) (((v2).length : Int) : Int) (0 : Int) ([] : List (List Int))))))))) := by kernel_rfl

end Go.Proofs.Ythjbllfcelkajaa
