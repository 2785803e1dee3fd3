/- What the program's functions come to in the abstract run. -/
import Derived.Test.YtbkpfjabcohnpaaSay
set_option linter.unusedVariables false
namespace Go.Proofs.Ytbkpfjabcohnpaa
open Go Go.Ab Go.Dk
/-! loop.example/depkernel/spec.TermValid -/
theorem E_spec_TermValid (n : Nat) (v0 : Int) (v1 : Int) (v2 : List T) : FF (n + 1) 17 [.agg [.int .i64 v0, .int .i64 v1, .fr (.ts v2)]] [] =
 ((FF n 30 [.agg [.int .i64 v0, .int .i64 v1, .fr (.ts v2)], .one (.int .i64 30)] []).bind fun x0 =>
 (rBool x0.1 fun x1 x2 =>
 (nilV x2 (nilO x0.2
 ((cond (x1)
 (((FF n 31 [.agg [.int .i64 v0, .int .i64 v1, .fr (.ts v2)], .one (.int .i64 400)] []).bind fun x3 =>
 (rInt .i64 x3.1 fun x4 x5 =>
 (nilV x5 (nilO x3.2
 (some ([.one (.bool (decide (x4 ≤ 400)))], [])))))))
 (some ([.one (.bool false)], [])))))))) := by kernel_rfl

/-! loop.example/depkernel/impl.TermValid -/
theorem E_impl_TermValid (n : Nat) (v0 : Int) (v1 : Int) (v2 : List T) : FF (n + 1) 20 [.agg [.int .i64 v0, .int .i64 v1, .fr (.ts v2)]] [] =
 ((FF n 33 [.agg [.int .i64 v0, .int .i64 v1, .fr (.ts v2)], .one (.int .i64 1), .one (.ptr 0 0)] [.cells [.int .i64 0]]).bind fun x0 =>
 (objC x0.2 fun x1 x2 =>
 (intC .i64 x1 fun x3 x4 =>
 (nilC x4
 ((rBool x0.1 fun x5 x6 =>
 (nilV x6 (nilO x2
 (some ([.one (.bool x5)], [])))))))))) := by kernel_rfl

/-! loop.example/depkernel/impl.redex -/
theorem E_impl_redex (n : Nat) (v0 : Int) (v1 : Int) (v2 : List T) : FF (n + 1) 29 [.agg [.int .i64 v0, .int .i64 v1, .fr (.ts v2)]] [] =
 (cond ((decide (v0 = 5)))
 (((v2)[(0 : Int).toNat]?.bind fun x0 =>
 (cond ((decide ((x0).k = 4)))
 (some ([.one (.int .i64 1)], []))
 (some ([.one (.int .i64 0)], [])))))
 ((cond ((decide (v0 = 9)))
 (((v2)[(3 : Int).toNat]?.bind fun x0 =>
 (cond ((decide ((x0).k = 7)))
 (some ([.one (.int .i64 2)], []))
 ((cond ((decide ((x0).k = 8)))
 (some ([.one (.int .i64 3)], []))
 (some ([.one (.int .i64 0)], [])))))))
 ((cond ((decide (v0 = 12)))
 (((v2)[(1 : Int).toNat]?.bind fun x0 =>
 (cond ((decide ((x0).k = 11)))
 (some ([.one (.int .i64 4)], []))
 (some ([.one (.int .i64 0)], [])))))
 ((cond ((decide (v0 = 15)))
 (((v2)[(0 : Int).toNat]?.bind fun x0 =>
 (cond ((decide ((x0).k = 14)))
 (some ([.one (.int .i64 (IntKind.i64.wrap ((IntKind.i64.wrap (5 + v0)) - 15)))], []))
 (some ([.one (.int .i64 0)], [])))))
 ((cond ((decide (v0 = 16)))
 (((v2)[(0 : Int).toNat]?.bind fun x0 =>
 (cond ((decide ((x0).k = 14)))
 (some ([.one (.int .i64 (IntKind.i64.wrap ((IntKind.i64.wrap (5 + v0)) - 15)))], []))
 (some ([.one (.int .i64 0)], [])))))
 (some ([.one (.int .i64 0)], []))))))))))) := by kernel_rfl

/-! loop.example/depkernel/spec.l3Redex -/
theorem E_spec_l3Redex (n : Nat) (v0 : Int) (v1 : Int) (v2 : List T) : FF (n + 1) 32 [.agg [.int .i64 v0, .int .i64 v1, .fr (.ts v2)]] [] =
 (cond ((decide (v0 = 5)))
 (((v2)[(0 : Int).toNat]?.bind fun x0 =>
 (cond ((decide ((x0).k = 4)))
 (some ([.one (.int .i64 1)], []))
 (some ([.one (.int .i64 0)], [])))))
 ((cond ((decide (v0 = 9)))
 (((v2)[(3 : Int).toNat]?.bind fun x0 =>
 (cond ((decide ((x0).k = 7)))
 (some ([.one (.int .i64 2)], []))
 (((v2)[(3 : Int).toNat]?.bind fun x1 =>
 (cond ((decide ((x1).k = 8)))
 (some ([.one (.int .i64 3)], []))
 (some ([.one (.int .i64 0)], []))))))))
 ((cond ((decide (v0 = 12)))
 (((v2)[(1 : Int).toNat]?.bind fun x0 =>
 (cond ((decide ((x0).k = 11)))
 (some ([.one (.int .i64 4)], []))
 (some ([.one (.int .i64 0)], [])))))
 ((cond ((decide (v0 = 15)))
 (((v2)[(0 : Int).toNat]?.bind fun x0 =>
 (cond ((decide ((x0).k = 14)))
 (some ([.one (.int .i64 5)], []))
 (some ([.one (.int .i64 0)], [])))))
 ((cond ((decide (v0 = 16)))
 (((v2)[(0 : Int).toNat]?.bind fun x0 =>
 (cond ((decide ((x0).k = 14)))
 (some ([.one (.int .i64 6)], []))
 (some ([.one (.int .i64 0)], [])))))
 (some ([.one (.int .i64 0)], []))))))))))) := by kernel_rfl

/-! loop.example/depkernel/impl.within -/
theorem E_impl_within (n : Nat) (v0 : Int) (v1 : Int) (v2 : Int) : FF (n + 1) 38 [.one (.int .i64 v0), .one (.int .i64 v1), .one (.int .i64 v2)] [] =
 (cond ((decide (v1 ≤ v0)))
 (some ([.one (.bool (decide (v0 ≤ v2)))], []))
 (some ([.one (.bool false)], []))) := by kernel_rfl

/-! loop.example/depkernel/spec.l1Shape -/
noncomputable def L_spec_l1Shape_0 (n c : Nat) (v0 : Int) (v1 : Int) (v2 : Int) (v3 : Int) (v4 : List T) : OR := runLoop Try.prog SS n 30 0 [1, 1, 0, 1, 0] [] c ⟨[.v (.one (.any)), .v (.one (.int .i64 v0)), .v (.one (.ptr 0 0)), .v (.one (.any)), .v (.one (.any)), .v (.one (.int .i64 v1)), .v (.one (.any)), .v (.one (.any)), .v (.one (.any)), .v (.one (.any)), .v (.one (.any)), .v (.one (.any)), .v (.one (.any)), .v (.one (.any)), .v (.one (.any)), .v (.one (.any)), .v (.one (.any)), .v (.one (.any)), .v (.one (.any)), .v (.one (.any)), .v (.one (.any)), .v (.one (.any)), .v (.one (.any)), .v (.one (.any)), .v (.one (.any)), .v (.one (.any)), .v (.one (.any)), .v (.one (.any)), .v (.one (.any)), .v (.one (.any)), .v (.one (.any)), .v (.one (.any)), .v (.one (.any)), .v (.one (.any)), .v (.one (.any)), .v (.one (.any)), .v (.one (.any)), .v (.one (.any)), .v (.one (.any)), .v (.one (.any)), .v (.one (.any)), .v (.one (.any)), .v (.one (.any)), .v (.one (.any)), .v (.one (.any)), .v (.one (.any))],
  [.cells [.int .i64 v2, .int .i64 v3, .fr (.ts v4)]]⟩
theorem L_spec_l1Shape_0_eq (n c : Nat) (v0 : Int) (v1 : Int) (v2 : Int) (v3 : Int) (v4 : List T) : L_spec_l1Shape_0 n (c + 1) v0 v1 v2 v3 v4 =
 (cond ((decide (v1 < ((v4).length : Int))))
 ((cond (decide (0 ≤ v1))
 (((v4)[(v1 : Int).toNat]?.bind fun x0 =>
 ((FF n 30 [.agg [.int .i64 (x0).k, .int .i64 (x0).n, .fr (.ts (x0).kids)], .one (.int .i64 (IntKind.i64.wrap (v0 - 1)))] []).bind fun x1 =>
 (rBool x1.1 fun x2 x3 =>
 (nilV x3 (nilO x1.2
 ((cond ((!x2))
 (some ([.one (.bool false)], []))
 (L_spec_l1Shape_0 n c (v0 : Int) ((IntKind.i64.wrap (v1 + 1)) : Int) (v2 : Int) (v3 : Int) (v4 : List T))))))))))
 (none)))
 (some ([.one (.bool true)], []))) := by kernel_rfl
theorem E_spec_l1Shape (n : Nat) (v0 : Int) (v1 : Int) (v2 : List T) (v3 : Int) : FF (n + 1) 30 [.agg [.int .i64 v0, .int .i64 v1, .fr (.ts v2)], .one (.int .i64 v3)] [] =
 (cond ((decide (v3 < 1)))
 (some ([.one (.bool false)], []))
 (((FF n 35 [.one (.int .i64 v0)] []).bind fun x0 =>
 (rInt .i64 x0.1 fun x1 x2 =>
 (nilV x2 (nilO x0.2
 ((cond ((!decide (x1 = ((v2).length : Int))))
 (some ([.one (.bool false)], []))
 ((cond ((decide (v1 < 0)))
 (some ([.one (.bool false)], []))
 (((FF n 36 [.one (.int .i64 v0)] []).bind fun x3 =>
 (rInt .i64 x3.1 fun x4 x5 =>
 (nilV x5 (nilO x3.2
 ((cond ((decide (x4 < v1)))
 (some ([.one (.bool false)], []))
 (L_spec_l1Shape_0 n n (v3 : Int) (0 : Int) (v0 : Int) (v1 : Int) (v2 : List T))))))))))))))))))) := by kernel_rfl

/-! loop.example/depkernel/spec.l1Count -/
noncomputable def L_spec_l1Count_0 (n c : Nat) (v0 : Int) (v1 : Int) (v2 : Int) (v3 : Int) (v4 : Int) (v5 : List T) : OR := runLoop Try.prog SS n 31 0 [1, 1, 0, 1, 0] [] c ⟨[.v (.one (.any)), .v (.one (.int .i64 v0)), .v (.one (.ptr 0 0)), .v (.one (.any)), .v (.one (.any)), .v (.one (.int .i64 v1)), .v (.one (.int .i64 v2)), .v (.one (.any)), .v (.one (.any)), .v (.one (.any)), .v (.one (.any)), .v (.one (.any)), .v (.one (.any)), .v (.one (.any)), .v (.one (.any)), .v (.one (.any)), .v (.one (.any)), .v (.one (.any)), .v (.one (.any)), .v (.one (.any)), .v (.one (.any)), .v (.one (.any)), .v (.one (.any)), .v (.one (.any)), .v (.one (.any)), .v (.one (.any)), .v (.one (.any)), .v (.one (.any)), .v (.one (.any)), .v (.one (.any)), .v (.one (.any))],
  [.cells [.int .i64 v3, .int .i64 v4, .fr (.ts v5)]]⟩
theorem L_spec_l1Count_0_eq (n c : Nat) (v0 : Int) (v1 : Int) (v2 : Int) (v3 : Int) (v4 : Int) (v5 : List T) : L_spec_l1Count_0 n (c + 1) v0 v1 v2 v3 v4 v5 =
 (cond ((decide (v2 < ((v5).length : Int))))
 ((cond ((decide (v1 ≤ v0)))
 ((cond (decide (0 ≤ v2))
 (((v5)[(v2 : Int).toNat]?.bind fun x0 =>
 ((FF n 31 [.agg [.int .i64 (x0).k, .int .i64 (x0).n, .fr (.ts (x0).kids)], .one (.int .i64 (IntKind.i64.wrap (v0 - v1)))] []).bind fun x1 =>
 (rInt .i64 x1.1 fun x2 x3 =>
 (nilV x3 (nilO x1.2
 (L_spec_l1Count_0 n c (v0 : Int) ((IntKind.i64.wrap (v1 + x2)) : Int) ((IntKind.i64.wrap (v2 + 1)) : Int) (v3 : Int) (v4 : Int) (v5 : List T))))))))
 (none)))
 (some ([.one (.int .i64 v1)], []))))
 (some ([.one (.int .i64 v1)], []))) := by kernel_rfl
theorem E_spec_l1Count (n : Nat) (v0 : Int) (v1 : Int) (v2 : List T) (v3 : Int) : FF (n + 1) 31 [.agg [.int .i64 v0, .int .i64 v1, .fr (.ts v2)], .one (.int .i64 v3)] [] =
 L_spec_l1Count_0 n n (v3 : Int) (1 : Int) (0 : Int) (v0 : Int) (v1 : Int) (v2 : List T) := by kernel_rfl

/-! loop.example/depkernel/impl.scan -/
noncomputable def L_impl_scan_0 (n c : Nat) (v0 : Int) (v1 : List T) (v2 : Int) (v3 : Int) (v4 : Int) : OR := runLoop Try.prog SS n 33 1 [1, 1, 1, 0, 1, 0] [] c ⟨[.v (.one (.any)), .v (.one (.int .i64 v0)), .v (.one (.ptr 0 0)), .v (.one (.any)), .v (.one (.any)), .v (.one (.any)), .v (.one (.any)), .v (.one (.any)), .v (.one (.any)), .v (.one (.any)), .v (.one (.any)), .v (.one (.any)), .v (.one (.any)), .v (.one (.any)), .v (.one (.any)), .v (.one (.any)), .v (.one (.any)), .v (.one (.any)), .v (.one (.any)), .v (.one (.any)), .v (.one (.any)), .v (.one (.any)), .v (.one (.any)), .v (.one (.any)), .v (.one (.any)), .v (.one (.any)), .v (.one (.any)), .v (.one (.any)), .v (.one (.any)), .v (.one (.any)), .v (.one (.any)), .v (.one (.any)), .v (.one (.any)), .v (.one (.any)), .v (.one (.any)), .v (.one (.any)), .v (.one (.any)), .v (.one (.any)), .v (.one (.any)), .v (.one (.any)), .v (.one (.any)), .v (.one (.fr (.ts v1))), .v (.one (.int .i64 v2)), .v (.one (.int .i64 v3)), .v (.one (.any)), .v (.one (.any)), .v (.one (.any)), .v (.one (.any)), .v (.one (.any)), .v (.one (.any)), .v (.one (.any)), .v (.one (.any)), .v (.one (.any)), .v (.one (.any))],
  [.cells [.int .i64 v4]]⟩
theorem L_impl_scan_0_eq (n c : Nat) (v0 : Int) (v1 : List T) (v2 : Int) (v3 : Int) (v4 : Int) : L_impl_scan_0 n (c + 1) v0 v1 v2 v3 v4 =
 (cond ((decide (v3 < v2)))
 ((cond (decide (0 ≤ v3))
 (((v1)[(v3 : Int).toNat]?.bind fun x0 =>
 ((FF n 33 [.agg [.int .i64 (x0).k, .int .i64 (x0).n, .fr (.ts (x0).kids)], .one (.int .i64 (IntKind.i64.wrap (v0 + 1))), .one (.ptr 0 0)] [.cells [.int .i64 v4]]).bind fun x1 =>
 (objC x1.2 fun x2 x3 =>
 (intC .i64 x2 fun x4 x5 =>
 (nilC x5
 ((rBool x1.1 fun x6 x7 =>
 (nilV x7 (nilO x3
 ((cond ((!x6))
 (some ([.one (.bool false)], [.cells [.int .i64 x4]]))
 (L_impl_scan_0 n c (v0 : Int) (v1 : List T) (v2 : Int) ((IntKind.i64.wrap (v3 + 1)) : Int) (x4 : Int))))))))))))))
 (none)))
 (some ([.one (.bool true)], [.cells [.int .i64 v4]]))) := by kernel_rfl
theorem E_impl_scan (n : Nat) (v0 : Int) (v1 : Int) (v2 : List T) (v3 : Int) (v4 : Int) : FF (n + 1) 33 [.agg [.int .i64 v0, .int .i64 v1, .fr (.ts v2)], .one (.int .i64 v3), .one (.ptr 0 0)] [.cells [.int .i64 v4]] =
 (cond ((decide (400 < (IntKind.i64.wrap (v4 + 1)))))
 (some ([.one (.bool false)], [.cells [.int .i64 (IntKind.i64.wrap (v4 + 1))]]))
 ((cond ((decide (30 < v3)))
 (some ([.one (.bool false)], [.cells [.int .i64 (IntKind.i64.wrap (v4 + 1))]]))
 (((FF n 37 [.one (.int .i64 v0)] []).bind fun x0 =>
 (rInt .i64 x0.1 fun x1 x2 =>
 (nilV x2 (nilO x0.2
 ((cond ((!decide (x1 = ((v2).length : Int))))
 (some ([.one (.bool false)], [.cells [.int .i64 (IntKind.i64.wrap (v4 + 1))]]))
 (((FF n 39 [.one (.int .i64 v0)] []).bind fun x3 =>
 (rInt .i64 x3.1 fun x4 x5 =>
 (nilV x5 (nilO x3.2
 (((FF n 38 [.one (.int .i64 v1), .one (.int .i64 0), .one (.int .i64 x4)] []).bind fun x6 =>
 (rBool x6.1 fun x7 x8 =>
 (nilV x8 (nilO x6.2
 ((cond ((!x7))
 (some ([.one (.bool false)], [.cells [.int .i64 (IntKind.i64.wrap (v4 + 1))]]))
 (L_impl_scan_0 n n (v3 : Int) (v2 : List T) (((v2).length : Int) : Int) (0 : Int) ((IntKind.i64.wrap (v4 + 1)) : Int)))))))))))))))))))))))) := by kernel_rfl

/-! loop.example/depkernel/spec.l1Kids -/
theorem E_spec_l1Kids (n : Nat) (v0 : Int) : FF (n + 1) 35 [.one (.int .i64 v0)] [] =
 (cond ((decide (v0 = 1)))
 (some ([.one (.int .i64 0)], []))
 ((cond ((decide (v0 = 2)))
 (some ([.one (.int .i64 0)], []))
 ((cond ((decide (v0 = 6)))
 (some ([.one (.int .i64 0)], []))
 ((cond ((decide (v0 = 7)))
 (some ([.one (.int .i64 0)], []))
 ((cond ((decide (v0 = 8)))
 (some ([.one (.int .i64 1)], []))
 ((cond ((decide (v0 = 11)))
 (some ([.one (.int .i64 1)], []))
 ((cond ((decide (v0 = 15)))
 (some ([.one (.int .i64 1)], []))
 ((cond ((decide (v0 = 16)))
 (some ([.one (.int .i64 1)], []))
 ((cond ((decide (v0 = 3)))
 (some ([.one (.int .i64 2)], []))
 ((cond ((decide (v0 = 4)))
 (some ([.one (.int .i64 2)], []))
 ((cond ((decide (v0 = 5)))
 (some ([.one (.int .i64 2)], []))
 ((cond ((decide (v0 = 13)))
 (some ([.one (.int .i64 2)], []))
 ((cond ((decide (v0 = 10)))
 (some ([.one (.int .i64 3)], []))
 ((cond ((decide (v0 = 12)))
 (some ([.one (.int .i64 3)], []))
 ((cond ((decide (v0 = 14)))
 (some ([.one (.int .i64 3)], []))
 ((cond ((decide (v0 = 9)))
 (some ([.one (.int .i64 4)], []))
 (some ([.one (.int .i64 (-1))], []))))))))))))))))))))))))))))))))) := by kernel_rfl

/-! loop.example/depkernel/spec.l1Most -/
theorem E_spec_l1Most (n : Nat) (v0 : Int) : FF (n + 1) 36 [.one (.int .i64 v0)] [] =
 (cond ((decide (v0 = 1)))
 (some ([.one (.int .i64 20)], []))
 ((cond ((decide (v0 = 2)))
 (some ([.one (.int .i64 3)], []))
 (some ([.one (.int .i64 0)], []))))) := by kernel_rfl

/-! loop.example/depkernel/impl.operands -/
theorem E_impl_operands (n : Nat) (v0 : Int) : FF (n + 1) 37 [.one (.int .i64 v0)] [] =
 ((FF n 38 [.one (.int .i64 v0), .one (.int .i64 1), .one (.int .i64 16)] []).bind fun x0 =>
 (rBool x0.1 fun x1 x2 =>
 (nilV x2 (nilO x0.2
 ((cond ((!x1))
 (some ([.one (.int .i64 (-1))], []))
 ((cond (decide (0 ≤ (IntKind.i64.wrap (v0 - 1))))
 ((cond (decide ((IntKind.i64.wrap (v0 - 1)) < (([0, 0, 2, 2, 2, 0, 0, 1, 4, 3, 1, 3, 2, 3, 1, 1]).length : Int)))
 ((([0, 0, 2, 2, 2, 0, 0, 1, 4, 3, 1, 3, 2, 3, 1, 1])[((IntKind.i64.wrap (v0 - 1)) : Int).toNat]?.bind fun x3 =>
 some ([.one (.int .i64 x3)], [])))
 (none)))
 (none))))))))) := by kernel_rfl

/-! loop.example/depkernel/impl.most -/
theorem E_impl_most (n : Nat) (v0 : Int) : FF (n + 1) 39 [.one (.int .i64 v0)] [] =
 (cond ((decide (v0 = 1)))
 (some ([.one (.int .i64 20)], []))
 ((cond ((decide (v0 = 2)))
 (some ([.one (.int .i64 3)], []))
 (some ([.one (.int .i64 0)], []))))) := by kernel_rfl

end Go.Proofs.Ytbkpfjabcohnpaa
