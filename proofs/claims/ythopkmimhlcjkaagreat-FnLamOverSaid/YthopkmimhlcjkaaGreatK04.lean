/- Part 4 of 7 of the proof of FnLamOver_holds. -/
import Derived.Test.YthopkmimhlcjkaaGreatK01
import Derived.Test.YthopkmimhlcjkaaGreatK02
import Derived.Test.YthopkmimhlcjkaaGreatK03
import Derived.ChangeArms
import Derived.Deep.Slices
import Derived.Deep.Strs
import Derived.WalkKit
import Derived.ProofKit
import Derived.OpenShut
import Derived.ShutString
import Derived.ChangeOld
import Derived.Below
section
/- What the program's functions come to in the abstract run. -/
set_option linter.unusedVariables false
namespace Go.Proofs.YthopkmimhlcjkaaGreat
open Go Go.Ab Go.Dk
/-! loop.example/depkernel/spec.l3Norm -/
/-! slices.EqualFunc[[]loop.example/depkernel/impl.Term,[]loop.example/depkernel/impl.Term,loop.example/depkernel/impl.Term,loop.example/depkernel/impl.Term] -/
noncomputable def L_slices_EqualFunc_impl_TermSame_0 (n c : Nat) (v0 : List T) (v1 : List T) (v2 : Int) (v3 : Int) : OR := runLoop Tryz.prog SS n 81 0 [1, 1, 0, 1, 0] [] c ⟨[.v (.one (.any)), .v (.one (.fr (.ts v0))), .v (.one (.fn 45 [])), .v (.one (.any)), .v (.one (.any)), .v (.one (.any)), .v (.one (.any)), .v (.one (.any)), .v (.one (.any)), .v (.one (.any)), .v (.one (.any)), .v (.one (.any)), .v (.one (.any)), .v (.one (.any)), .v (.one (.any)), .v (.one (.fr (.ts v1))), .v (.one (.int .i64 v2)), .v (.one (.int .i64 v3)), .v (.one (.any)), .v (.one (.any)), .v (.one (.any)), .v (.one (.any)), .v (.one (.any)), .v (.one (.any)), .v (.one (.any)), .v (.one (.any)), .v (.one (.any)), .v (.one (.any)), .v (.one (.any)), .v (.one (.any)), .v (.one (.any)), .v (.one (.any))],
  []⟩
theorem L_slices_EqualFunc_impl_TermSame_0_eq (n c : Nat) (v0 : List T) (v1 : List T) (v2 : Int) (v3 : Int) : L_slices_EqualFunc_impl_TermSame_0 n (c + 1) v0 v1 v2 v3 =
 (cond ((decide (v3 < v2)))
 ((cond (decide (0 ≤ v3))
 (((v1)[(v3 : Int).toNat]?.bind fun x0 =>
 (cond (decide (0 ≤ v3))
 (((v0)[(v3 : Int).toNat]?.bind fun x1 =>
 ((FF n 45 [.agg [.int .i64 (x0).k, .int .i64 (x0).n, .fr (.ts (x0).kids)], .agg [.int .i64 (x1).k, .int .i64 (x1).n, .fr (.ts (x1).kids)]] []).bind fun x2 =>
 (rBool x2.1 fun x3 x4 =>
 (nilV x4 (nilO x2.2
 ((cond ((!x3))
 (some ([.one (.bool false)], []))
 (L_slices_EqualFunc_impl_TermSame_0 n c (v0 : List T) (v1 : List T) (v2 : Int) ((IntKind.i64.wrap (v3 + 1)) : Int))))))))))
 (none))))
 (none)))
 (some ([.one (.bool true)], []))) := by kernel_rfl
theorem E_slices_EqualFunc_impl_TermSame (n : Nat) (v0 : List T) (v1 : List T) : FF (n + 1) 81 [.one (.fr (.ts v0)), .one (.fr (.ts v1)), .one (.fn 45 [])] [] =
 (cond ((!decide (((v0).length : Int) = ((v1).length : Int))))
 (some ([.one (.bool false)], []))
 (L_slices_EqualFunc_impl_TermSame_0 n n (v1 : List T) (v0 : List T) (((v0).length : Int) : Int) (0 : Int))) := by kernel_rfl

/-! loop.example/depkernel/impl.ready -/
theorem E_impl_ready (n : Nat) (v0 : List T) (v1 : List T) : FF (n + 1) 69 [.one (.fr (.ts v0)), .one (.fr (.ts v1))] [] =
 ((FF n 28 [.one (.fr (.ts v0))] []).bind fun x0 =>
 (rInt .i64 x0.1 fun x1 x2 =>
 (nilV x2 (nilO x0.2
 (((FF n 108 [.one (.fr (.ts v1)), .one (.fn 109 [])] []).bind fun x3 =>
 (rBool x3.1 fun x4 x5 =>
 (nilV x5 (nilO x3.2
 ((cond (x4)
 (some ([.one (.int .i64 3)], []))
 (some ([.one (.int .i64 x1)], []))))))))))))) := by kernel_rfl

/-! loop.example/depkernel/impl.level -/
theorem E_impl_level (n : Nat) (v0 : List T) (v1 : Int) (v2 : Int) (v3 : List T) : FF (n + 1) 67 [.one (.fr (.ts v0)), .agg [.int .i64 v1, .int .i64 v2, .fr (.ts v3)]] [] =
 ((FF n 105 [.one (.fr (.ts v0)), .agg [.int .i64 v1, .int .i64 v2, .fr (.ts v3)], .one (.int .i64 2)] []).bind fun x0 =>
 (rTerm x0.1 fun x1 x2 =>
 (rInt .i64 x2 fun x3 x4 =>
 (nilV x4 (nilO x0.2
 (some ([.one (.int .i64 (x1).n), .one (.int .i64 x3)], []))))))) := by kernel_rfl

/-! loop.example/depkernel/impl.check -/
theorem E_impl_check (n : Nat) (v0 : List T) (v1 : Int) (v2 : Int) (v3 : List T) (v4 : Int) (v5 : Int) (v6 : List T) : FF (n + 1) 71 [.one (.fr (.ts v0)), .agg [.int .i64 v1, .int .i64 v2, .fr (.ts v3)], .agg [.int .i64 v4, .int .i64 v5, .fr (.ts v6)]] [] =
 ((FF n 74 [.one (.fr (.ts v0)), .agg [.int .i64 v1, .int .i64 v2, .fr (.ts v3)]] []).bind fun x0 =>
 (rTerm x0.1 fun x1 x2 =>
 (rInt .i64 x2 fun x3 x4 =>
 (nilV x4 (nilO x0.2
 ((cond ((!decide (x3 = 0)))
 (some ([.one (.int .i64 x3)], []))
 (((FF n 111 [.agg [.int .i64 (x1).k, .int .i64 (x1).n, .fr (.ts (x1).kids)], .agg [.int .i64 v4, .int .i64 v5, .fr (.ts v6)]] []).bind fun x5 =>
 (rInt .i64 x5.1 fun x6 x7 =>
 (nilV x7 (nilO x5.2
 (some ([.one (.int .i64 x6)], [])))))))))))))) := by kernel_rfl

/-! loop.example/depkernel/impl.SubstTerm -/
/-! loop.example/depkernel/impl.infer -/
theorem E_impl_infer (n : Nat) (v0 : List T) (v1 : Int) (v2 : Int) (v3 : List T) : FF (n + 1) 74 [.one (.fr (.ts v0)), .agg [.int .i64 v1, .int .i64 v2, .fr (.ts v3)]] [] =
 ((FF n 116 [.agg [.fr (.ts v0), .int .i64 v1, .int .i64 v2, .fr (.ts v3), .fn 114 [0, 1]]] [.cells [.fr (.ts v0)], .cells [.int .i64 v1, .int .i64 v2, .fr (.ts v3)]]).bind fun x0 =>
 (objC x0.2 fun x1 x2 =>
 (tsC x1 fun x3 x4 =>
 (nilC x4
 ((objC x2 fun x5 x6 =>
 (intC .i64 x5 fun x7 x8 =>
 (intC .i64 x8 fun x9 x10 =>
 (tsC x10 fun x11 x12 =>
 (nilC x12
 ((rTerm x0.1 fun x13 x14 =>
 (rInt .i64 x14 fun x15 x16 =>
 (nilV x16 (nilO x6
 (some ([.agg [.int .i64 (x13).k, .int .i64 (x13).n, .fr (.ts (x13).kids)], .one (.int .i64 x15)], []))))))))))))))))) := by kernel_rfl

/-! loop.example/depkernel/impl.own -/
noncomputable def L_impl_own_0_oo (n c : Nat) (v0 : List T) (v1 : Int) (v2 : Int) (v3 : Int) (v4 : Int) (v5 : List T) (v6 : Int) (v7 : Int) (v8 : List T) : OR := runLoop Tryz.prog SS n 75 0 [1, 1, 0, 1, 0] [] c ⟨[.v (.one (.any)), .v (.one (.any)), .v (.one (.ptr 0 0)), .v (.one (.ptr 2 0)), .v (.one (.any)), .v (.one (.any)), .v (.one (.any)), .v (.one (.any)), .v (.one (.any)), .v (.one (.any)), .v (.one (.any)), .v (.one (.any)), .v (.one (.fr (.ts v0))), .v (.one (.int .i64 v1)), .v (.one (.int .i64 v2)), .v (.one (.any)), .v (.one (.any)), .v (.one (.any)), .v (.one (.any)), .v (.one (.any)), .v (.one (.any)), .v (.one (.any)), .v (.one (.any)), .v (.one (.any)), .v (.one (.any)), .v (.one (.any)), .v (.one (.any))],
  [.cells [.int .i64 v3, .int .i64 v4, .own 1 0], .arr 35 (.ts v5) 0 false, .cells [.int .i64 v6, .int .i64 v7, .own 3 0], .arr 35 (.ts v8) 0 false]⟩
theorem L_impl_own_0_oo_eq (n c : Nat) (v0 : List T) (v1 : Int) (v2 : Int) (v3 : Int) (v4 : Int) (v5 : List T) (v6 : Int) (v7 : Int) (v8 : List T) : L_impl_own_0_oo n (c + 1) v0 v1 v2 v3 v4 v5 v6 v7 v8 =
 (cond ((decide (v2 < v1)))
 ((cond (decide (0 ≤ v2))
 (((v0)[(v2 : Int).toNat]?.bind fun x0 =>
 ((FF n 75 [.agg [.int .i64 (x0).k, .int .i64 (x0).n, .fr (.ts (x0).kids)]] []).bind fun x1 =>
 (rTerm x1.1 fun x2 x3 =>
 (nilV x3 (nilO x1.2
 ((cond (roomB (v8 ++ [(T.mk (x2).k (x2).n (x2).kids)]).length)
 (L_impl_own_0_oo n c (v0 : List T) (v1 : Int) ((IntKind.i64.wrap (v2 + 1)) : Int) (v3 : Int) (v4 : Int) (v5 : List T) (v6 : Int) (v7 : Int) ((v8 ++ [(T.mk (x2).k (x2).n (x2).kids)]) : List T))
 (none)))))))))
 (none)))
 (some ([.agg [.int .i64 v6, .int .i64 v7, .fr (.ts v8)]], []))) := by kernel_rfl
theorem E_impl_own (n : Nat) (v0 : Int) (v1 : Int) (v2 : List T) : FF (n + 1) 75 [.agg [.int .i64 v0, .int .i64 v1, .fr (.ts v2)]] [] =
 L_impl_own_0_oo n n (v2 : List T) (((v2).length : Int) : Int) (0 : Int) (0 : Int) (0 : Int) ([] : List T) (v0 : Int) (v1 : Int) ([] : List T) := by kernel_rfl

/-! loop.example/depkernel/impl.TermValid -/
theorem E_impl_TermValid (n : Nat) (v0 : Int) (v1 : Int) (v2 : List T) : FF (n + 1) 66 [.agg [.int .i64 v0, .int .i64 v1, .fr (.ts v2)]] [] =
 ((FF n 104 [.agg [.int .i64 v0, .int .i64 v1, .fr (.ts v2)], .one (.int .i64 1), .one (.ptr 0 0)] [.cells [.int .i64 0]]).bind fun x0 =>
 (objC x0.2 fun x1 x2 =>
 (intC .i64 x1 fun x3 x4 =>
 (nilC x4
 ((rBool x0.1 fun x5 x6 =>
 (nilV x6 (nilO x2
 (some ([.one (.bool x5)], [])))))))))) := by kernel_rfl

/-! loop.example/depkernel/impl.within -/
theorem E_impl_within (n : Nat) (v0 : Int) (v1 : Int) (v2 : Int) : FF (n + 1) 83 [.one (.int .i64 v0), .one (.int .i64 v1), .one (.int .i64 v2)] [] =
 (cond ((decide (v1 ≤ v0)))
 (some ([.one (.bool (decide (v0 ≤ v2)))], []))
 (some ([.one (.bool false)], []))) := by kernel_rfl

/-! loop.example/depkernel/impl.maxFree -/
theorem E_impl_maxFree (n : Nat) (v0 : Int) (v1 : Int) (v2 : List T) : FF (n + 1) 84 [.agg [.int .i64 v0, .int .i64 v1, .fr (.ts v2)]] [] =
 ((FF n 124 [.agg [.int .i64 v0, .int .i64 v1, .fr (.ts v2)], .one (.int .i64 0), .one (.fn 125 [0])] [.cells [.int .i64 0]]).bind fun x0 =>
 (objC x0.2 fun x1 x2 =>
 (intC .i64 x1 fun x3 x4 =>
 (nilC x4
 ((nilV x0.1 (nilO x2
 (some ([.one (.int .i64 x3)], []))))))))) := by kernel_rfl

/-! loop.example/depkernel/impl.outer -/
noncomputable def L_impl_outer_0 (n c : Nat) (v0 : List T) (v1 : Int) (v2 : Int) : OR := runLoop Tryz.prog SS n 85 0 [1, 1, 0, 1, 0] [] c ⟨[.v (.one (.any)), .v (.one (.any)), .v (.one (.any)), .v (.one (.any)), .v (.one (.any)), .v (.one (.any)), .v (.one (.any)), .v (.one (.any)), .v (.one (.any)), .v (.one (.any)), .v (.one (.any)), .v (.one (.any)), .v (.one (.fr (.ts v0))), .v (.one (.int .i64 v1)), .v (.one (.int .i64 v2)), .v (.one (.any)), .v (.one (.any)), .v (.one (.any)), .v (.one (.any)), .v (.one (.any)), .v (.one (.any)), .v (.one (.any)), .v (.one (.any)), .v (.one (.any)), .v (.one (.any)), .v (.one (.any)), .v (.one (.any)), .v (.one (.any)), .v (.one (.any)), .v (.one (.any))],
  []⟩
theorem L_impl_outer_0_eq (n c : Nat) (v0 : List T) (v1 : Int) (v2 : Int) : L_impl_outer_0 n (c + 1) v0 v1 v2 =
 (cond ((decide (v2 < v1)))
 ((cond (decide (0 ≤ v2))
 (((v0)[(v2 : Int).toNat]?.bind fun x0 =>
 ((FF n 85 [.agg [.int .i64 (x0).k, .int .i64 (x0).n, .fr (.ts (x0).kids)]] []).bind fun x1 =>
 (rIs x1.1 fun x2 x3 =>
 (rBool x3 fun x4 x5 =>
 (nilV x5 (nilO x1.2
 ((cond (x4)
 ((cond (roomB ([v2] ++ x2).length)
 (some ([.one (.fr (.is ([v2] ++ x2))), .one (.bool true)], []))
 (none)))
 (L_impl_outer_0 n c (v0 : List T) (v1 : Int) ((IntKind.i64.wrap (v2 + 1)) : Int)))))))))))
 (none)))
 (some ([.one (.fr (.is [])), .one (.bool false)], []))) := by kernel_rfl
theorem E_impl_outer (n : Nat) (v0 : Int) (v1 : Int) (v2 : List T) : FF (n + 1) 85 [.agg [.int .i64 v0, .int .i64 v1, .fr (.ts v2)]] [] =
 ((FF n 126 [.agg [.int .i64 v0, .int .i64 v1, .fr (.ts v2)]] []).bind fun x0 =>
 (rInt .i64 x0.1 fun x1 x2 =>
 (nilV x2 (nilO x0.2
 ((cond ((!decide (x1 = 0)))
 (some ([.one (.fr (.is [])), .one (.bool true)], []))
 (L_impl_outer_0 n n (v2 : List T) (((v2).length : Int) : Int) (0 : Int)))))))) := by kernel_rfl

/-! loop.example/depkernel/impl.over -/
noncomputable def L_impl_over_0_of (n c : Nat) (v0 : Int) (v1 : List T) (v2 : Int) (v3 : Int) (v4 : Int) (v5 : List T) (v6 : Int) (v7 : Int) (v8 : List T) : OR := runLoop Tryz.prog SS n 86 0 [1, 1, 1, 0, 1, 0] [] c ⟨[.v (.one (.int .i64 v0)), .v (.one (.fr (.ts v1))), .v (.one (.any)), .v (.one (.any)), .v (.one (.any)), .v (.one (.any)), .v (.one (.ptr 0 0)), .v (.one (.any)), .v (.one (.ptr 2 0)), .v (.one (.int .i64 v2)), .v (.one (.any)), .v (.one (.any)), .v (.one (.any)), .v (.one (.any)), .v (.one (.any)), .v (.one (.any)), .v (.one (.any)), .v (.one (.any)), .v (.one (.any)), .v (.one (.any)), .v (.one (.any)), .v (.one (.any)), .v (.one (.any)), .v (.one (.any)), .v (.one (.any)), .v (.one (.any)), .v (.one (.any)), .v (.one (.any)), .v (.one (.any)), .v (.one (.any)), .v (.one (.any)), .v (.one (.any)), .v (.one (.any)), .v (.one (.any)), .v (.one (.any)), .v (.one (.any)), .v (.one (.any)), .v (.one (.any)), .v (.one (.any)), .v (.one (.any))],
  [.cells [.int .i64 v3, .int .i64 v4, .own 1 0], .arr 35 (.ts v5) 0 false, .cells [.int .i64 v6, .int .i64 v7, .fr (.ts v8)]]⟩
theorem L_impl_over_0_of_eq (n c : Nat) (v0 : Int) (v1 : List T) (v2 : Int) (v3 : Int) (v4 : Int) (v5 : List T) (v6 : Int) (v7 : Int) (v8 : List T) : L_impl_over_0_of n (c + 1) v0 v1 v2 v3 v4 v5 v6 v7 v8 =
 (cond ((decide (0 ≤ v2)))
 ((cond (decide (0 ≤ v2))
 (((v1)[(v2 : Int).toNat]?.bind fun x0 =>
 ((FF n 91 [.one (.int .i64 v0), .one (.fr (.ts [(T.mk (x0).k (x0).n (x0).kids), (T.mk v6 v7 v8)]))] []).bind fun x1 =>
 (rTerm x1.1 fun x2 x3 =>
 (nilV x3 (nilO x1.2
 (L_impl_over_0_of n c (v0 : Int) (v1 : List T) ((IntKind.i64.wrap (v2 - 1)) : Int) (v3 : Int) (v4 : Int) (v5 : List T) ((x2).k : Int) ((x2).n : Int) ((x2).kids : List T))))))))
 (none)))
 (((FF n 75 [.agg [.int .i64 v6, .int .i64 v7, .fr (.ts v8)]] []).bind fun x0 =>
 (rTerm x0.1 fun x1 x2 =>
 (nilV x2 (nilO x0.2
 (((FF n 92 [.agg [.int .i64 (x1).k, .int .i64 (x1).n, .fr (.ts (x1).kids)]] []).bind fun x3 =>
 (rTerm x3.1 fun x4 x5 =>
 (rBool x5 fun x6 x7 =>
 (nilV x7 (nilO x3.2
 (some ([.agg [.int .i64 (x4).k, .int .i64 (x4).n, .fr (.ts (x4).kids)], .one (.bool x6)], [])))))))))))))) := by kernel_rfl
theorem E_impl_over (n : Nat) (v0 : Int) (v1 : List T) (v2 : Int) (v3 : Int) (v4 : List T) : FF (n + 1) 86 [.one (.int .i64 v0), .one (.fr (.ts v1)), .agg [.int .i64 v2, .int .i64 v3, .fr (.ts v4)]] [] =
 ((FF n 90 [.one (.fr (.ts v1))] []).bind fun x0 =>
 (rBool x0.1 fun x1 x2 =>
 (nilV x2 (nilO x0.2
 ((cond ((!x1))
 (some ([.agg [.int .i64 0, .int .i64 0, .fr (.ts [])], .one (.bool false)], []))
 (((FF n 66 [.agg [.int .i64 v2, .int .i64 v3, .fr (.ts v4)]] []).bind fun x3 =>
 (rBool x3.1 fun x4 x5 =>
 (nilV x5 (nilO x3.2
 ((cond ((!x4))
 (some ([.agg [.int .i64 0, .int .i64 0, .fr (.ts [])], .one (.bool false)], []))
 (L_impl_over_0_of n n (v0 : Int) (v1 : List T) ((IntKind.i64.wrap (((v1).length : Int) - 1)) : Int) (0 : Int) (0 : Int) ([] : List T) (v2 : Int) (v3 : Int) (v4 : List T))))))))))))))) := by kernel_rfl

/-! loop.example/depkernel/spec.l5Fits -/
noncomputable def L_spec_l5Fits_0 (n c : Nat) (v0 : List T) (v1 : Int) : OR := runLoop Tryz.prog SS n 64 0 [1, 0, 1, 0] [] c ⟨[.v (.one (.fr (.ts v0))), .v (.one (.any)), .v (.one (.any)), .v (.one (.int .i64 v1)), .v (.one (.any)), .v (.one (.any)), .v (.one (.any)), .v (.one (.any)), .v (.one (.any)), .v (.one (.any)), .v (.one (.any)), .v (.one (.any)), .v (.one (.any)), .v (.one (.any)), .v (.one (.any)), .v (.one (.any)), .v (.one (.any)), .v (.one (.any)), .v (.one (.any))],
  []⟩
theorem L_spec_l5Fits_0_eq (n c : Nat) (v0 : List T) (v1 : Int) : L_spec_l5Fits_0 n (c + 1) v0 v1 =
 (cond ((decide (v1 < ((v0).length : Int))))
 ((cond (decide (0 ≤ v1))
 (((v0)[(v1 : Int).toNat]?.bind fun x0 =>
 ((FF n 68 [.agg [.int .i64 (x0).k, .int .i64 (x0).n, .fr (.ts (x0).kids)]] []).bind fun x1 =>
 (rBool x1.1 fun x2 x3 =>
 (nilV x3 (nilO x1.2
 ((cond ((!x2))
 (some ([.one (.bool false)], []))
 (L_spec_l5Fits_0 n c (v0 : List T) ((IntKind.i64.wrap (v1 + 1)) : Int))))))))))
 (none)))
 (some ([.one (.bool (decide (((v0).length : Int) ≤ 8)))], []))) := by kernel_rfl
theorem E_spec_l5Fits (n : Nat) (v0 : List T) : FF (n + 1) 64 [.one (.fr (.ts v0))] [] =
 L_spec_l5Fits_0 n n (v0 : List T) (0 : Int) := by kernel_rfl

/-! loop.example/depkernel/spec.TermValid -/
theorem E_spec_TermValid (n : Nat) (v0 : Int) (v1 : Int) (v2 : List T) : FF (n + 1) 68 [.agg [.int .i64 v0, .int .i64 v1, .fr (.ts v2)]] [] =
 ((FF n 106 [.agg [.int .i64 v0, .int .i64 v1, .fr (.ts v2)], .one (.int .i64 30)] []).bind fun x0 =>
 (rBool x0.1 fun x1 x2 =>
 (nilV x2 (nilO x0.2
 ((cond (x1)
 (((FF n 107 [.agg [.int .i64 v0, .int .i64 v1, .fr (.ts v2)], .one (.int .i64 400)] []).bind fun x3 =>
 (rInt .i64 x3.1 fun x4 x5 =>
 (nilV x5 (nilO x3.2
 (some ([.one (.bool (decide (x4 ≤ 400)))], [])))))))
 (some ([.one (.bool false)], [])))))))) := by kernel_rfl

/-! loop.example/depkernel/spec.l7Over -/
noncomputable def L_spec_l7Over_0_oo (n c : Nat) (v0 : Int) (v1 : List T) (v2 : Int) (v3 : Int) (v4 : Int) (v5 : List T) (v6 : Int) (v7 : Int) (v8 : List T) : OR := runLoop Tryz.prog SS n 88 0 [1, 1, 0, 1, 0] [] c ⟨[.v (.one (.int .i64 v0)), .v (.one (.fr (.ts v1))), .v (.one (.any)), .v (.one (.any)), .v (.one (.any)), .v (.one (.any)), .v (.one (.ptr 0 0)), .v (.one (.ptr 2 0)), .v (.one (.int .i64 v2)), .v (.one (.any)), .v (.one (.any)), .v (.one (.any)), .v (.one (.any)), .v (.one (.any)), .v (.one (.any)), .v (.one (.any)), .v (.one (.any)), .v (.one (.any)), .v (.one (.any)), .v (.one (.any)), .v (.one (.any)), .v (.one (.any)), .v (.one (.any)), .v (.one (.any)), .v (.one (.any)), .v (.one (.any)), .v (.one (.any)), .v (.one (.any))],
  [.cells [.int .i64 v3, .int .i64 v4, .own 1 0], .arr 35 (.ts v5) 0 false, .cells [.int .i64 v6, .int .i64 v7, .own 3 0], .arr 35 (.ts v8) 0 false]⟩
noncomputable def L_spec_l7Over_0_of (n c : Nat) (v0 : Int) (v1 : List T) (v2 : Int) (v3 : Int) (v4 : Int) (v5 : List T) (v6 : Int) (v7 : Int) (v8 : List T) : OR := runLoop Tryz.prog SS n 88 0 [1, 1, 0, 1, 0] [] c ⟨[.v (.one (.int .i64 v0)), .v (.one (.fr (.ts v1))), .v (.one (.any)), .v (.one (.any)), .v (.one (.any)), .v (.one (.any)), .v (.one (.ptr 0 0)), .v (.one (.ptr 2 0)), .v (.one (.int .i64 v2)), .v (.one (.any)), .v (.one (.any)), .v (.one (.any)), .v (.one (.any)), .v (.one (.any)), .v (.one (.any)), .v (.one (.any)), .v (.one (.any)), .v (.one (.any)), .v (.one (.any)), .v (.one (.any)), .v (.one (.any)), .v (.one (.any)), .v (.one (.any)), .v (.one (.any)), .v (.one (.any)), .v (.one (.any)), .v (.one (.any)), .v (.one (.any))],
  [.cells [.int .i64 v3, .int .i64 v4, .own 1 0], .arr 35 (.ts v5) 0 false, .cells [.int .i64 v6, .int .i64 v7, .fr (.ts v8)]]⟩
theorem L_spec_l7Over_0_oo_eq (n c : Nat) (v0 : Int) (v1 : List T) (v2 : Int) (v3 : Int) (v4 : Int) (v5 : List T) (v6 : Int) (v7 : Int) (v8 : List T) : L_spec_l7Over_0_oo n (c + 1) v0 v1 v2 v3 v4 v5 v6 v7 v8 =
 (cond ((decide (0 ≤ v2)))
 ((cond (decide (0 ≤ v2))
 (((v1)[(v2 : Int).toNat]?.bind fun x0 =>
 ((FF n 113 [.agg [.int .i64 (x0).k, .int .i64 (x0).n, .fr (.ts (x0).kids)]] []).bind fun x1 =>
 (rOwnT 0 x1.1 fun x2 x3 x4 =>
 (arrTsC 35 x1.2 fun x5 x6 =>
 (nilV x4 (nilO x6
 (((FF n 99 [.one (.int .i64 v0), .one (.fr (.ts [(T.mk x2 x3 x5), (T.mk v6 v7 v8)]))] []).bind fun x7 =>
 (rTerm x7.1 fun x8 x9 =>
 (nilV x9 (nilO x7.2
 (L_spec_l7Over_0_of n c (v0 : Int) (v1 : List T) ((IntKind.i64.wrap (v2 - 1)) : Int) (v3 : Int) (v4 : Int) (v5 : List T) ((x8).k : Int) ((x8).n : Int) ((x8).kids : List T))))))))))))))
 (none)))
 (some ([.agg [.int .i64 v6, .int .i64 v7, .fr (.ts v8)]], []))) := by kernel_rfl
theorem L_spec_l7Over_0_of_eq (n c : Nat) (v0 : Int) (v1 : List T) (v2 : Int) (v3 : Int) (v4 : Int) (v5 : List T) (v6 : Int) (v7 : Int) (v8 : List T) : L_spec_l7Over_0_of n (c + 1) v0 v1 v2 v3 v4 v5 v6 v7 v8 =
 (cond ((decide (0 ≤ v2)))
 ((cond (decide (0 ≤ v2))
 (((v1)[(v2 : Int).toNat]?.bind fun x0 =>
 ((FF n 113 [.agg [.int .i64 (x0).k, .int .i64 (x0).n, .fr (.ts (x0).kids)]] []).bind fun x1 =>
 (rOwnT 0 x1.1 fun x2 x3 x4 =>
 (arrTsC 35 x1.2 fun x5 x6 =>
 (nilV x4 (nilO x6
 (((FF n 99 [.one (.int .i64 v0), .one (.fr (.ts [(T.mk x2 x3 x5), (T.mk v6 v7 v8)]))] []).bind fun x7 =>
 (rTerm x7.1 fun x8 x9 =>
 (nilV x9 (nilO x7.2
 (L_spec_l7Over_0_of n c (v0 : Int) (v1 : List T) ((IntKind.i64.wrap (v2 - 1)) : Int) (v3 : Int) (v4 : Int) (v5 : List T) ((x8).k : Int) ((x8).n : Int) ((x8).kids : List T))))))))))))))
 (none)))
 (some ([.agg [.int .i64 v6, .int .i64 v7, .fr (.ts v8)]], []))) := by kernel_rfl
theorem E_spec_l7Over (n : Nat) (v0 : Int) (v1 : List T) (v2 : Int) (v3 : Int) (v4 : List T) : FF (n + 1) 88 [.one (.int .i64 v0), .one (.fr (.ts v1)), .agg [.int .i64 v2, .int .i64 v3, .fr (.ts v4)]] [] =
 ((FF n 113 [.agg [.int .i64 v2, .int .i64 v3, .fr (.ts v4)]] []).bind fun x0 =>
 (rOwnT 0 x0.1 fun x1 x2 x3 =>
 (arrTsC 35 x0.2 fun x4 x5 =>
 (nilV x3 (nilO x5
 (L_spec_l7Over_0_oo n n (v0 : Int) (v1 : List T) ((IntKind.i64.wrap (((v1).length : Int) - 1)) : Int) (0 : Int) (0 : Int) ([] : List T) (x1 : Int) (x2 : Int) (x4 : List T))))))) := by kernel_rfl

/-! loop.example/depkernel/spec.l7Made -/
theorem E_spec_l7Made (n : Nat) (v0 : Int) (v1 : Int) (v2 : List T) : FF (n + 1) 87 [.agg [.int .i64 v0, .int .i64 v1, .fr (.ts v2)]] [] =
 ((FF n 68 [.agg [.int .i64 v0, .int .i64 v1, .fr (.ts v2)]] []).bind fun x0 =>
 (rBool x0.1 fun x1 x2 =>
 (nilV x2 (nilO x0.2
 ((cond ((!x1))
 (some ([.agg [.int .i64 0, .int .i64 0, .fr (.ts [])], .one (.bool false)], []))
 (some ([.agg [.int .i64 v0, .int .i64 v1, .fr (.ts v2)], .one (.bool true)], [])))))))) := by kernel_rfl

/-! loop.example/depkernel/impl.variable -/
theorem E_impl_variable (n : Nat) (v0 : Int) : FF (n + 1) 89 [.one (.int .i64 v0)] [] =
 some ([.agg [.int .i64 1, .int .i64 v0, .fr (.ts [])]], []) := by kernel_rfl

/-! loop.example/depkernel/impl.areTerms -/
theorem E_impl_areTerms (n : Nat) (v0 : List T) : FF (n + 1) 90 [.one (.fr (.ts v0))] [] =
 (cond ((decide (((v0).length : Int) ≤ 8)))
 (((FF n 108 [.one (.fr (.ts v0)), .one (.fn 127 [])] []).bind fun x0 =>
 (rBool x0.1 fun x1 x2 =>
 (nilV x2 (nilO x0.2
 (some ([.one (.bool (!x1))], [])))))))
 (some ([.one (.bool false)], []))) := by kernel_rfl

/-! loop.example/depkernel/impl.node -/
theorem E_impl_node (n : Nat) (v0 : Int) (v1 : List T) : FF (n + 1) 91 [.one (.int .i64 v0), .one (.fr (.ts v1))] [] =
 some ([.agg [.int .i64 v0, .int .i64 0, .fr (.ts v1)]], []) := by kernel_rfl

/-! loop.example/depkernel/impl.valid -/
theorem E_impl_valid (n : Nat) (v0 : Int) (v1 : Int) (v2 : List T) : FF (n + 1) 92 [.agg [.int .i64 v0, .int .i64 v1, .fr (.ts v2)]] [] =
 ((FF n 66 [.agg [.int .i64 v0, .int .i64 v1, .fr (.ts v2)]] []).bind fun x0 =>
 (rBool x0.1 fun x1 x2 =>
 (nilV x2 (nilO x0.2
 ((cond ((!x1))
 (some ([.agg [.int .i64 0, .int .i64 0, .fr (.ts [])], .one (.bool false)], []))
 (some ([.agg [.int .i64 v0, .int .i64 v1, .fr (.ts v2)], .one (.bool true)], [])))))))) := by kernel_rfl

/-! loop.example/depkernel/spec.l5Sort -/
/-! loop.example/depkernel/impl.shift -/
theorem E_impl_shift (n : Nat) (v0 : Int) (v1 : Int) (v2 : List T) (v3 : Int) (v4 : Int) : FF (n + 1) 93 [.agg [.int .i64 v0, .int .i64 v1, .fr (.ts v2)], .one (.int .i64 v3), .one (.int .i64 v4)] [] =
 ((FF n 128 [.agg [.int .i64 v0, .int .i64 v1, .fr (.ts v2)], .one (.int .i64 0), .one (.fn 129 [0, 1, 2])] [.cells [.int .i64 v4], .cells [.int .i64 v3], .cells [.bool true]]).bind fun x0 =>
 (objC x0.2 fun x1 x2 =>
 (intC .i64 x1 fun x3 x4 =>
 (nilC x4
 ((objC x2 fun x5 x6 =>
 (intC .i64 x5 fun x7 x8 =>
 (nilC x8
 ((objC x6 fun x9 x10 =>
 (boolC x9 fun x11 x12 =>
 (nilC x12
 ((rTerm x0.1 fun x13 x14 =>
 (nilV x14 (nilO x10
 ((cond ((!x11))
 (some ([.agg [.int .i64 0, .int .i64 0, .fr (.ts [])], .one (.bool false)], []))
 (((FF n 92 [.agg [.int .i64 (x13).k, .int .i64 (x13).n, .fr (.ts (x13).kids)]] []).bind fun x15 =>
 (rTerm x15.1 fun x16 x17 =>
 (rBool x17 fun x18 x19 =>
 (nilV x19 (nilO x15.2
 (some ([.agg [.int .i64 (x16).k, .int .i64 (x16).n, .fr (.ts (x16).kids)], .one (.bool x18)], [])))))))))))))))))))))))))) := by kernel_rfl

/-! loop.example/depkernel/spec.l5Infer -/
/-! loop.example/depkernel/spec.l5Copy -/
/-! loop.example/depkernel/impl.reduce -/
noncomputable def L_impl_reduce_impl_outer_0_fo (n c : Nat) (v0 : Int) (v1 : Int) (v2 : Int) (v3 : Int) (v4 : List T) (v5 : Int) (v6 : Int) (v7 : List T) : OR := runLoop Tryz.prog SS n 94 0 [1, 1, 1, 0] [] c ⟨[.v (.one (.any)), .v (.one (.int .i64 v0)), .v (.one (.fn 85 [])), .v (.one (.ptr 0 0)), .v (.one (.any)), .v (.one (.any)), .v (.one (.ptr 1 0)), .v (.one (.any)), .v (.one (.any)), .v (.one (.int .i64 v1)), .v (.one (.any)), .v (.one (.any)), .v (.one (.any)), .v (.one (.any)), .v (.one (.any)), .v (.one (.any)), .v (.one (.any)), .v (.one (.any)), .v (.one (.any)), .v (.one (.any)), .v (.one (.any)), .v (.one (.any)), .v (.one (.any)), .v (.one (.any)), .v (.one (.any)), .v (.one (.any)), .v (.one (.any)), .v (.one (.any)), .v (.one (.any)), .v (.one (.any)), .v (.one (.any)), .v (.one (.any)), .v (.one (.any)), .v (.one (.any)), .v (.one (.any)), .v (.one (.any)), .v (.one (.any)), .v (.one (.any)), .v (.one (.any)), .v (.one (.any)), .v (.one (.any)), .v (.one (.any)), .v (.one (.any)), .v (.one (.any)), .v (.one (.any)), .v (.one (.any)), .v (.one (.any)), .v (.one (.any)), .v (.one (.any)), .v (.one (.any)), .v (.one (.any))],
  [.cells [.int .i64 v2, .int .i64 v3, .fr (.ts v4)], .cells [.int .i64 v5, .int .i64 v6, .own 2 0], .arr 35 (.ts v7) 0 false]⟩
theorem L_impl_reduce_impl_outer_0_fo_eq (n c : Nat) (v0 : Int) (v1 : Int) (v2 : Int) (v3 : Int) (v4 : List T) (v5 : Int) (v6 : Int) (v7 : List T) : L_impl_reduce_impl_outer_0_fo n (c + 1) v0 v1 v2 v3 v4 v5 v6 v7 =
 ((FF n 85 [.agg [.int .i64 v2, .int .i64 v3, .fr (.ts v4)]] []).bind fun x0 =>
 (rIs x0.1 fun x1 x2 =>
 (rBool x2 fun x3 x4 =>
 (nilV x4 (nilO x0.2
 ((cond ((!x3))
 (((FF n 75 [.agg [.int .i64 v2, .int .i64 v3, .fr (.ts v4)]] []).bind fun x5 =>
 (rTerm x5.1 fun x6 x7 =>
 (nilV x7 (nilO x5.2
 (some ([.agg [.int .i64 (x6).k, .int .i64 (x6).n, .fr (.ts (x6).kids)], .one (.int .i64 v1), .one (.int .i64 0)], [])))))))
 ((cond ((decide (v1 = v0)))
 (some ([.agg [.int .i64 0, .int .i64 0, .fr (.ts [])], .one (.int .i64 v1), .one (.int .i64 1)], []))
 (((FF n 130 [.agg [.int .i64 v2, .int .i64 v3, .fr (.ts v4)], .one (.fr (.is x1))] []).bind fun x5 =>
 (rTerm x5.1 fun x6 x7 =>
 (rBool x7 fun x8 x9 =>
 (nilV x9 (nilO x5.2
 ((cond ((!x8))
 (some ([.agg [.int .i64 0, .int .i64 0, .fr (.ts [])], .one (.int .i64 v1), .one (.int .i64 2)], []))
 (L_impl_reduce_impl_outer_0_fo n c (v0 : Int) ((IntKind.i64.wrap (v1 + 1)) : Int) ((x6).k : Int) ((x6).n : Int) ((x6).kids : List T) (v5 : Int) (v6 : Int) (v7 : List T))))))))))))))))))) := by kernel_rfl
theorem E_impl_reduce_impl_outer (n : Nat) (v0 : Int) (v1 : Int) (v2 : List T) (v3 : Int) : FF (n + 1) 94 [.agg [.int .i64 v0, .int .i64 v1, .fr (.ts v2)], .one (.int .i64 v3), .one (.fn 85 [])] [] =
 ((FF n 66 [.agg [.int .i64 v0, .int .i64 v1, .fr (.ts v2)]] []).bind fun x0 =>
 (rBool x0.1 fun x1 x2 =>
 (nilV x2 (nilO x0.2
 ((cond ((!x1))
 (some ([.agg [.int .i64 0, .int .i64 0, .fr (.ts [])], .one (.int .i64 0), .one (.int .i64 3)], []))
 (((FF n 83 [.one (.int .i64 v3), .one (.int .i64 0), .one (.int .i64 200)] []).bind fun x3 =>
 (rBool x3.1 fun x4 x5 =>
 (nilV x5 (nilO x3.2
 ((cond ((!x4))
 (some ([.agg [.int .i64 0, .int .i64 0, .fr (.ts [])], .one (.int .i64 0), .one (.int .i64 3)], []))
 (L_impl_reduce_impl_outer_0_fo n n (v3 : Int) (0 : Int) (v0 : Int) (v1 : Int) (v2 : List T) (0 : Int) (0 : Int) ([] : List T))))))))))))))) := by kernel_rfl

/-! loop.example/depkernel/impl.step -/
/-! loop.example/depkernel/impl.step -/
/-! loop.example/depkernel/spec.l1Any -/
theorem E_spec_l1Any (n : Nat) (v0 : List UInt8) (v1 : Int) : FF (n + 1) 98 [.one (.ptr 0 0)] [.cells [.fr (.bs v0), .int .i64 v1]] =
 ((FF n 118 [.one (.ptr 0 0), .one (.fr (.is [3, 4, 2, 3, 1]))] [.cells [.fr (.bs v0), .int .i64 v1]]).bind fun x0 =>
 (objC x0.2 fun x1 x2 =>
 (bsC x1 fun x3 x4 =>
 (intC .i64 x4 fun x5 x6 =>
 (nilC x6
 ((rInt .i64 x0.1 fun x7 x8 =>
 (nilV x8 (nilO x2
 (((FF n 131 [.one (.ptr 0 0), .one (.int .i64 x7)] [.cells [.fr (.bs x3), .int .i64 x5]]).bind fun x9 =>
 (objC x9.2 fun x10 x11 =>
 (bsC x10 fun x12 x13 =>
 (intC .i64 x13 fun x14 x15 =>
 (nilC x15
 ((rTerm x9.1 fun x16 x17 =>
 (nilV x17 (nilO x11
 (((FF n 68 [.agg [.int .i64 (x16).k, .int .i64 (x16).n, .fr (.ts (x16).kids)]] []).bind fun x18 =>
 (rBool x18.1 fun x19 x20 =>
 (nilV x20 (nilO x18.2
 ((cond (x19)
 (some ([.agg [.int .i64 (x16).k, .int .i64 (x16).n, .fr (.ts (x16).kids)]], [.cells [.fr (.bs x12), .int .i64 x14]]))
 (((FF n 100 [.one (.int .i64 7), .one (.int .i64 0)] []).bind fun x21 =>
 (rTerm x21.1 fun x22 x23 =>
 (nilV x23 (nilO x21.2
 (some ([.agg [.int .i64 (x22).k, .int .i64 (x22).n, .fr (.ts (x22).kids)]], [.cells [.fr (.bs x12), .int .i64 x14]]))))))))))))))))))))))))))))))))) := by kernel_rfl

/-! (*loop.example/depkernel/spec.l19Rd).pick -/
theorem E_spec_l19Rd_pick (n : Nat) (v0 : Int) (v1 : List UInt8) (v2 : Int) : FF (n + 1) 97 [.one (.ptr 0 0), .one (.int .i64 v0)] [.cells [.fr (.bs v1), .int .i64 v2]] =
 (cond ((decide (v0 < 1)))
 (some ([.one (.int .i64 0)], [.cells [.fr (.bs v1), .int .i64 (IntKind.i64.wrap (v2 + 1))]]))
 ((cond ((decide (((v1).length : Int) = 0)))
 (some ([.one (.int .i64 0)], [.cells [.fr (.bs v1), .int .i64 (IntKind.i64.wrap (v2 + 1))]]))
 ((cond ((decide ((IntKind.i64.wrap ((IntKind.i64.wrap (v2 + 1)) - 1)) < ((v1).length : Int))))
 ((cond (decide (0 ≤ (IntKind.i64.wrap ((IntKind.i64.wrap (v2 + 1)) - 1))))
 (((v1)[((IntKind.i64.wrap ((IntKind.i64.wrap (v2 + 1)) - 1)) : Int).toNat]?.bind fun x0 =>
 (cond (decide (v0 = 0))
 (none)
 (some ([.one (.int .i64 (Int.tmod (IntKind.i64.wrap ((x0).toNat : Int)) v0))], [.cells [.fr (.bs v1), .int .i64 (IntKind.i64.wrap (v2 + 1))]])))))
 (none)))
 ((cond (decide (((v1).length : Int) = 0))
 (none)
 ((cond (decide (0 ≤ (Int.tmod (IntKind.i64.wrap ((IntKind.i64.wrap (v2 + 1)) - 1)) ((v1).length : Int))))
 (((v1)[((Int.tmod (IntKind.i64.wrap ((IntKind.i64.wrap (v2 + 1)) - 1)) ((v1).length : Int)) : Int).toNat]?.bind fun x0 =>
 (cond (decide (((v1).length : Int) = 0))
 (none)
 ((cond (decide (0 ≤ (Int.tmod (IntKind.i64.wrap ((IntKind.i64.wrap ((IntKind.i64.wrap ((IntKind.i64.wrap (v2 + 1)) - 1)) * 7)) + 3)) ((v1).length : Int))))
 (((v1)[((Int.tmod (IntKind.i64.wrap ((IntKind.i64.wrap ((IntKind.i64.wrap ((IntKind.i64.wrap (v2 + 1)) - 1)) * 7)) + 3)) ((v1).length : Int)) : Int).toNat]?.bind fun x1 =>
 (cond (decide (((v1).length : Int) = 0))
 (none)
 ((cond (decide (v0 = 0))
 (none)
 (some ([.one (.int .i64 (Int.tmod (IntKind.i64.wrap (BitVec.ofInt IntKind.i64.bits (IntKind.i64.wrap ((IntKind.i64.wrap ((IntKind.i64.wrap ((IntKind.i64.wrap ((IntKind.i64.wrap ((x0).toNat : Int)) * 131)) + (IntKind.i64.wrap ((IntKind.i64.wrap ((x1).toNat : Int)) * 1117)))) + (IntKind.i64.wrap ((IntKind.i64.wrap ((IntKind.i64.wrap (v2 + 1)) - 1)) * 29)))) + (IntKind.i64.wrap ((IntKind.i64.wrap (Int.tdiv (IntKind.i64.wrap ((IntKind.i64.wrap (v2 + 1)) - 1)) ((v1).length : Int))) * 53)))) ^^^ BitVec.ofInt IntKind.i64.bits (IntKind.i64.wrap (Int.tdiv (IntKind.i64.wrap ((IntKind.i64.wrap ((IntKind.i64.wrap ((IntKind.i64.wrap ((IntKind.i64.wrap ((x0).toNat : Int)) * 131)) + (IntKind.i64.wrap ((IntKind.i64.wrap ((x1).toNat : Int)) * 1117)))) + (IntKind.i64.wrap ((IntKind.i64.wrap ((IntKind.i64.wrap (v2 + 1)) - 1)) * 29)))) + (IntKind.i64.wrap ((IntKind.i64.wrap (Int.tdiv (IntKind.i64.wrap ((IntKind.i64.wrap (v2 + 1)) - 1)) ((v1).length : Int))) * 53)))) 64))).toNat) v0))], [.cells [.fr (.bs v1), .int .i64 (IntKind.i64.wrap (v2 + 1))]])))))))
 (none))))))
 (none)))))))))) := by kernel_rfl

/-! loop.example/depkernel/spec.l1Leaf -/
theorem E_spec_l1Leaf (n : Nat) (v0 : Int) (v1 : Int) : FF (n + 1) 100 [.one (.int .i64 v0), .one (.int .i64 v1)] [] =
 some ([.agg [.int .i64 v0, .int .i64 v1, .fr (.ts [])]], []) := by kernel_rfl

/-! loop.example/depkernel/spec.l2Shift -/
/-! loop.example/depkernel/spec.l1Node -/
theorem E_spec_l1Node (n : Nat) (v0 : Int) (v1 : List T) : FF (n + 1) 99 [.one (.int .i64 v0), .one (.fr (.ts v1))] [] =
 (cond (roomB ([] ++ v1).length)
 (some ([.agg [.int .i64 v0, .int .i64 0, .fr (.ts ([] ++ v1))]], []))
 (none)) := by kernel_rfl

/-! loop.example/depkernel/spec.l1Mutate -/
theorem E_spec_l1Mutate (n : Nat) (v0 : Int) (v1 : Int) (v2 : List T) (v3 : List UInt8) (v4 : Int) : FF (n + 1) 102 [.one (.ptr 0 0), .agg [.int .i64 v0, .int .i64 v1, .fr (.ts v2)]] [.cells [.fr (.bs v3), .int .i64 v4]] =
 ((FF n 113 [.agg [.int .i64 v0, .int .i64 v1, .fr (.ts v2)]] []).bind fun x0 =>
 (rOwnT 0 x0.1 fun x1 x2 x3 =>
 (arrTsC 35 x0.2 fun x4 x5 =>
 (nilV x3 (nilO x5
 (((FF n 97 [.one (.ptr 0 0), .one (.int .i64 50)] [.cells [.fr (.bs v3), .int .i64 v4]]).bind fun x6 =>
 (objC x6.2 fun x7 x8 =>
 (bsC x7 fun x9 x10 =>
 (intC .i64 x10 fun x11 x12 =>
 (nilC x12
 ((rInt .i64 x6.1 fun x13 x14 =>
 (nilV x14 (nilO x8
 ((cond ((decide (x13 = 0)))
 (((FF n 118 [.one (.ptr 0 0), .one (.fr (.is [0, 17, 1, 5, 6]))] [.cells [.fr (.bs x9), .int .i64 x11]]).bind fun x15 =>
 (objC x15.2 fun x16 x17 =>
 (bsC x16 fun x18 x19 =>
 (intC .i64 x19 fun x20 x21 =>
 (nilC x21
 ((rInt .i64 x15.1 fun x22 x23 =>
 (nilV x23 (nilO x17
 (some ([.agg [.int .i64 x22, .int .i64 x2, .fr (.ts x4)]], [.cells [.fr (.bs x18), .int .i64 x20]]))))))))))))
 ((cond ((decide (x13 = 1)))
 (((FF n 118 [.one (.ptr 0 0), .one (.fr (.is [21, (-1), 1, 9223372036854775807]))] [.cells [.fr (.bs x9), .int .i64 x11]]).bind fun x15 =>
 (objC x15.2 fun x16 x17 =>
 (bsC x16 fun x18 x19 =>
 (intC .i64 x19 fun x20 x21 =>
 (nilC x21
 ((rInt .i64 x15.1 fun x22 x23 =>
 (nilV x23 (nilO x17
 (some ([.agg [.int .i64 x1, .int .i64 x22, .fr (.ts x4)]], [.cells [.fr (.bs x18), .int .i64 x20]]))))))))))))
 ((cond ((decide (x13 = 2)))
 (((FF n 100 [.one (.int .i64 7), .one (.int .i64 0)] []).bind fun x15 =>
 (rTerm x15.1 fun x16 x17 =>
 (nilV x17 (nilO x15.2
 ((cond (roomB (x4 ++ [(T.mk (x16).k (x16).n (x16).kids)]).length)
 (some ([.agg [.int .i64 x1, .int .i64 x2, .fr (.ts (x4 ++ [(T.mk (x16).k (x16).n (x16).kids)]))]], [.cells [.fr (.bs x9), .int .i64 x11]]))
 (none))))))))
 ((cond ((decide (x13 = 3)))
 (((FF n 99 [.one (.int .i64 8), .one (.fr (.ts [(T.mk x1 x2 x4)]))] []).bind fun x15 =>
 (rTerm x15.1 fun x16 x17 =>
 (nilV x17 (nilO x15.2
 (some ([.agg [.int .i64 (x16).k, .int .i64 (x16).n, .fr (.ts (x16).kids)]], [.cells [.fr (.bs x9), .int .i64 x11]])))))))
 ((cond ((decide (x13 = 4)))
 ((cond ((decide (0 < ((x4).length : Int))))
 (((FF n 100 [.one (.int .i64 1), .one (.int .i64 25)] []).bind fun x15 =>
 (rTerm x15.1 fun x16 x17 =>
 (nilV x17 (nilO x15.2
 ((cond (decide (0 < ((x4).length : Int)))
 (some ([.agg [.int .i64 x1, .int .i64 x2, .fr (.ts ((x4).set (0 : Int).toNat (T.mk (x16).k (x16).n (x16).kids)))]], [.cells [.fr (.bs x9), .int .i64 x11]]))
 (none))))))))
 (some ([.agg [.int .i64 x1, .int .i64 x2, .fr (.ts x4)]], [.cells [.fr (.bs x9), .int .i64 x11]]))))
 (some ([.agg [.int .i64 x1, .int .i64 x2, .fr (.ts x4)]], [.cells [.fr (.bs x9), .int .i64 x11]]))))))))))))))))))))))))))) := by kernel_rfl

/-! loop.example/depkernel/spec.l5Check -/
/-! (*loop.example/depkernel/spec.l19Rd).num -/
theorem E_spec_l19Rd_num (n : Nat) (v0 : List Int) (v1 : List UInt8) (v2 : Int) : FF (n + 1) 118 [.one (.ptr 0 0), .one (.fr (.is v0))] [.cells [.fr (.bs v1), .int .i64 v2]] =
 ((FF n 97 [.one (.ptr 0 0), .one (.int .i64 ((v0).length : Int))] [.cells [.fr (.bs v1), .int .i64 v2]]).bind fun x0 =>
 (objC x0.2 fun x1 x2 =>
 (bsC x1 fun x3 x4 =>
 (intC .i64 x4 fun x5 x6 =>
 (nilC x6
 ((rInt .i64 x0.1 fun x7 x8 =>
 (nilV x8 (nilO x2
 ((cond (decide (0 ≤ x7))
 (((v0)[(x7 : Int).toNat]?.bind fun x9 =>
 some ([.one (.int .i64 x9)], [.cells [.fr (.bs x3), .int .i64 x5]])))
 (none)))))))))))) := by kernel_rfl

/-! loop.example/depkernel/spec.l5Pairs -/
theorem E_spec_l5Pairs (n : Nat) (v0 : Int) : FF (n + 1) 120 [.one (.int .i64 v0)] [] =
 (cond ((decide (v0 = 0)))
 (some ([.one (.fr (.ss [])), .one (.fr (.ss [(bytesOf [91, 42, 48, 93, 91, 35, 48, 93, 35, 48]), (bytesOf [91, 78, 93, 33, 35, 48]), (bytesOf [91, 78, 93, 91, 78, 93, 60, 91, 78, 93, 78, 44, 35, 49, 44, 91, 78, 93, 91, 78, 93, 43, 35, 48, 44, 35, 48, 62]), (bytesOf [40, 78, 62, 42, 48, 41]), (bytesOf [40, 91, 42, 48, 93, 91, 35, 48, 93, 35, 48, 32, 78, 41]), (bytesOf [91, 40, 78, 42, 78, 41, 93, 124, 40, 78, 42, 78, 41, 44, 95, 35, 48, 44, 94, 35, 48, 124]), (bytesOf [91, 78, 93, 124, 40, 78, 42, 123, 78, 44, 35, 48, 44, 35, 49, 125, 41, 44, 35, 48, 44, 33, 35, 48, 124]), (bytesOf [91, 78, 93, 91, 78, 93, 91, 123, 78, 44, 35, 49, 44, 35, 48, 125, 93, 64, 60, 91, 78, 93, 123, 78, 44, 35, 48, 44, 35, 51, 125, 44, 35, 48, 44, 33, 35, 50, 62]), (bytesOf [60, 91, 78, 93, 42, 48, 44, 78, 44, 91, 78, 93, 91, 42, 48, 93, 40, 78, 62, 35, 49, 41, 44, 43, 43, 48, 62]), (bytesOf [40, 42, 48, 62, 40, 35, 48, 62, 35, 49, 41, 41]), (bytesOf [91, 42, 48, 93, 91, 40, 35, 48, 62, 35, 49, 41, 93, 35, 48]), (bytesOf [42, 50])]))], []))
 ((cond ((decide (v0 = 1)))
 (some ([.one (.fr (.ss [(bytesOf [42, 48]), (bytesOf [35, 48]), (bytesOf [40, 35, 49, 62, 35, 50, 41])])), .one (.fr (.ss [(bytesOf [40, 35, 48, 32, 35, 49, 41]), (bytesOf [33, 35, 49]), (bytesOf [123, 35, 50, 44, 35, 49, 44, 40, 35, 48, 32, 35, 49, 41, 125]), (bytesOf [91, 35, 50, 93, 35, 49]), (bytesOf [124, 40, 35, 50, 42, 35, 51, 41, 44, 35, 49, 44, 40, 35, 48, 32, 35, 49, 41, 124]), (bytesOf [91, 123, 35, 50, 44, 35, 49, 44, 40, 35, 48, 32, 35, 49, 41, 125, 93, 64, 60, 91, 35, 51, 93, 35, 52, 44, 35, 48, 44, 35, 50, 62])]))], []))
 ((cond ((decide (v0 = 2)))
 (some ([.one (.fr (.ss [(bytesOf [78]), (bytesOf [123, 78, 44, 35, 48, 44, 43, 48, 125])])), .one (.fr (.ss [(bytesOf [35, 48]), (bytesOf [64, 60, 91, 78, 93, 123, 78, 44, 43, 35, 50, 44, 43, 35, 48, 125, 44, 35, 48, 44, 33, 43, 35, 49, 62]), (bytesOf [43, 35, 49]), (bytesOf [64, 60, 91, 78, 93, 78, 44, 35, 48, 44, 35, 49, 62]), (bytesOf [60, 91, 78, 93, 78, 44, 48, 44, 91, 78, 93, 91, 78, 93, 35, 49, 44, 35, 49, 62])]))], []))
 (some ([.one (.fr (.ss [(bytesOf [40, 78, 62, 42, 48, 41]), (bytesOf [40, 78, 62, 40, 35, 49, 32, 35, 48, 41, 41])])), .one (.fr (.ss [(bytesOf [40, 35, 48, 32, 48, 41]), (bytesOf [91, 78, 93, 40, 35, 49, 32, 35, 48, 41]), (bytesOf [40, 35, 49, 32, 43, 43, 48, 41]), (bytesOf [91, 78, 93, 91, 123, 78, 44, 35, 48, 44, 48, 125, 93, 64, 60, 35, 51, 44, 35, 48, 44, 40, 35, 50, 32, 35, 49, 41, 62])]))], []))))))) := by kernel_rfl

/-! loop.example/depkernel/spec.l5Read -/
noncomputable def L_spec_l5Read_0 (n c : Nat) (v0 : List ByteArray) (v1 : Int) (v2 : List T) : OR := runLoop Tryz.prog SS n 121 0 [1, 1, 0, 1, 0] [] c ⟨[.v (.one (.fr (.ss v0))), .v (.one (.any)), .v (.one (.any)), .v (.one (.own 0 0)), .v (.one (.int .i64 v1)), .v (.one (.any)), .v (.one (.any)), .v (.one (.any)), .v (.one (.any)), .v (.one (.any)), .v (.one (.any)), .v (.one (.any)), .v (.one (.any)), .v (.one (.any)), .v (.one (.any)), .v (.one (.any)), .v (.one (.any)), .v (.one (.any)), .v (.one (.any)), .v (.one (.any)), .v (.one (.any)), .v (.one (.any)), .v (.one (.any)), .v (.one (.any)), .v (.one (.any)), .v (.one (.any)), .v (.one (.any)), .v (.one (.any))],
  [.arr 35 (.ts v2) 0 false]⟩
theorem L_spec_l5Read_0_eq (n c : Nat) (v0 : List ByteArray) (v1 : Int) (v2 : List T) : L_spec_l5Read_0 n (c + 1) v0 v1 v2 =
 (cond ((decide (v1 < ((v0).length : Int))))
 ((cond (decide (0 ≤ v1))
 (((v0)[(v1 : Int).toNat]?.bind fun x0 =>
 ((FF n 165 [.one (.str x0)] []).bind fun x1 =>
 (rTerm x1.1 fun x2 x3 =>
 (rBool x3 fun x4 x5 =>
 (nilV x5 (nilO x1.2
 ((cond (x4)
 ((cond (roomB (v2 ++ [(T.mk (x2).k (x2).n (x2).kids)]).length)
 (L_spec_l5Read_0 n c (v0 : List ByteArray) ((IntKind.i64.wrap (v1 + 1)) : Int) ((v2 ++ [(T.mk (x2).k (x2).n (x2).kids)]) : List T))
 (none)))
 (L_spec_l5Read_0 n c (v0 : List ByteArray) ((IntKind.i64.wrap (v1 + 1)) : Int) (v2 : List T)))))))))))
 (none)))
 (some ([.one (.fr (.ts v2))], []))) := by kernel_rfl
theorem E_spec_l5Read (n : Nat) (v0 : List ByteArray) : FF (n + 1) 121 [.one (.fr (.ss v0))] [] =
 L_spec_l5Read_0 n n (v0 : List ByteArray) (0 : Int) ([] : List T) := by kernel_rfl

/-! loop.example/depkernel/spec.l5Nat -/
theorem E_spec_l5Nat (n : Nat) (v0 : Int) (v1 : Int) (v2 : List UInt8) (v3 : Int) : FF (n + 1) 119 [.one (.ptr 0 0), .one (.int .i64 v0), .one (.int .i64 v1)] [.cells [.fr (.bs v2), .int .i64 v3]] =
 ((FF n 100 [.one (.int .i64 7), .one (.int .i64 0)] []).bind fun x0 =>
 (rTerm x0.1 fun x1 x2 =>
 (nilV x2 (nilO x0.2
 (((FF n 100 [.one (.int .i64 6), .one (.int .i64 0)] []).bind fun x3 =>
 (rTerm x3.1 fun x4 x5 =>
 (nilV x5 (nilO x3.2
 ((cond ((decide (v1 < 1)))
 ((cond ((decide (0 < v0)))
 (((FF n 97 [.one (.ptr 0 0), .one (.int .i64 2)] [.cells [.fr (.bs v2), .int .i64 v3]]).bind fun x6 =>
 (objC x6.2 fun x7 x8 =>
 (bsC x7 fun x9 x10 =>
 (intC .i64 x10 fun x11 x12 =>
 (nilC x12
 ((rInt .i64 x6.1 fun x13 x14 =>
 (nilV x14 (nilO x8
 ((cond ((decide (x13 = 0)))
 (((FF n 97 [.one (.ptr 0 0), .one (.int .i64 v0)] [.cells [.fr (.bs x9), .int .i64 x11]]).bind fun x15 =>
 (objC x15.2 fun x16 x17 =>
 (bsC x16 fun x18 x19 =>
 (intC .i64 x19 fun x20 x21 =>
 (nilC x21
 ((rInt .i64 x15.1 fun x22 x23 =>
 (nilV x23 (nilO x17
 (((FF n 100 [.one (.int .i64 1), .one (.int .i64 x22)] []).bind fun x24 =>
 (rTerm x24.1 fun x25 x26 =>
 (nilV x26 (nilO x24.2
 (some ([.agg [.int .i64 (x25).k, .int .i64 (x25).n, .fr (.ts (x25).kids)]], [.cells [.fr (.bs x18), .int .i64 x20]])))))))))))))))))
 (some ([.agg [.int .i64 (x1).k, .int .i64 (x1).n, .fr (.ts (x1).kids)]], [.cells [.fr (.bs x9), .int .i64 x11]]))))))))))))))
 (some ([.agg [.int .i64 (x1).k, .int .i64 (x1).n, .fr (.ts (x1).kids)]], [.cells [.fr (.bs v2), .int .i64 v3]]))))
 (((FF n 97 [.one (.ptr 0 0), .one (.int .i64 7)] [.cells [.fr (.bs v2), .int .i64 v3]]).bind fun x6 =>
 (objC x6.2 fun x7 x8 =>
 (bsC x7 fun x9 x10 =>
 (intC .i64 x10 fun x11 x12 =>
 (nilC x12
 ((rInt .i64 x6.1 fun x13 x14 =>
 (nilV x14 (nilO x8
 ((cond ((decide (x13 = 0)))
 (((FF n 119 [.one (.ptr 0 0), .one (.int .i64 (IntKind.i64.wrap (v0 + 1))), .one (.int .i64 (IntKind.i64.wrap (v1 - 1)))] [.cells [.fr (.bs x9), .int .i64 x11]]).bind fun x15 =>
 (objC x15.2 fun x16 x17 =>
 (bsC x16 fun x18 x19 =>
 (intC .i64 x19 fun x20 x21 =>
 (nilC x21
 ((rTerm x15.1 fun x22 x23 =>
 (nilV x23 (nilO x17
 (((FF n 99 [.one (.int .i64 4), .one (.fr (.ts [(T.mk (x4).k (x4).n (x4).kids), (T.mk (x22).k (x22).n (x22).kids)]))] []).bind fun x24 =>
 (rTerm x24.1 fun x25 x26 =>
 (nilV x26 (nilO x24.2
 (((FF n 119 [.one (.ptr 0 0), .one (.int .i64 v0), .one (.int .i64 (IntKind.i64.wrap (v1 - 1)))] [.cells [.fr (.bs x18), .int .i64 x20]]).bind fun x27 =>
 (objC x27.2 fun x28 x29 =>
 (bsC x28 fun x30 x31 =>
 (intC .i64 x31 fun x32 x33 =>
 (nilC x33
 ((rTerm x27.1 fun x34 x35 =>
 (nilV x35 (nilO x29
 (((FF n 99 [.one (.int .i64 5), .one (.fr (.ts [(T.mk (x25).k (x25).n (x25).kids), (T.mk (x34).k (x34).n (x34).kids)]))] []).bind fun x36 =>
 (rTerm x36.1 fun x37 x38 =>
 (nilV x38 (nilO x36.2
 (some ([.agg [.int .i64 (x37).k, .int .i64 (x37).n, .fr (.ts (x37).kids)]], [.cells [.fr (.bs x30), .int .i64 x32]]))))))))))))))))))))))))))))))))
 ((cond ((decide (x13 = 1)))
 (((FF n 119 [.one (.ptr 0 0), .one (.int .i64 (IntKind.i64.wrap (v0 + 2))), .one (.int .i64 (IntKind.i64.wrap (v1 - 2)))] [.cells [.fr (.bs x9), .int .i64 x11]]).bind fun x15 =>
 (objC x15.2 fun x16 x17 =>
 (bsC x16 fun x18 x19 =>
 (intC .i64 x19 fun x20 x21 =>
 (nilC x21
 ((rTerm x15.1 fun x22 x23 =>
 (nilV x23 (nilO x17
 (((FF n 99 [.one (.int .i64 4), .one (.fr (.ts [(T.mk (x4).k (x4).n (x4).kids), (T.mk (x22).k (x22).n (x22).kids)]))] []).bind fun x24 =>
 (rTerm x24.1 fun x25 x26 =>
 (nilV x26 (nilO x24.2
 (((FF n 99 [.one (.int .i64 4), .one (.fr (.ts [(T.mk (x4).k (x4).n (x4).kids), (T.mk (x25).k (x25).n (x25).kids)]))] []).bind fun x27 =>
 (rTerm x27.1 fun x28 x29 =>
 (nilV x29 (nilO x27.2
 (((FF n 99 [.one (.int .i64 4), .one (.fr (.ts [(T.mk (x4).k (x4).n (x4).kids), (T.mk (x4).k (x4).n (x4).kids)]))] []).bind fun x30 =>
 (rTerm x30.1 fun x31 x32 =>
 (nilV x32 (nilO x30.2
 (((FF n 119 [.one (.ptr 0 0), .one (.int .i64 v0), .one (.int .i64 (IntKind.i64.wrap (v1 - 2)))] [.cells [.fr (.bs x18), .int .i64 x20]]).bind fun x33 =>
 (objC x33.2 fun x34 x35 =>
 (bsC x34 fun x36 x37 =>
 (intC .i64 x37 fun x38 x39 =>
 (nilC x39
 ((rTerm x33.1 fun x40 x41 =>
 (nilV x41 (nilO x35
 (((FF n 119 [.one (.ptr 0 0), .one (.int .i64 v0), .one (.int .i64 (IntKind.i64.wrap (v1 - 1)))] [.cells [.fr (.bs x36), .int .i64 x38]]).bind fun x42 =>
 (objC x42.2 fun x43 x44 =>
 (bsC x43 fun x45 x46 =>
 (intC .i64 x46 fun x47 x48 =>
 (nilC x48
 ((rTerm x42.1 fun x49 x50 =>
 (nilV x50 (nilO x44
 (((FF n 99 [.one (.int .i64 9), .one (.fr (.ts [(T.mk (x31).k (x31).n (x31).kids), (T.mk (x40).k (x40).n (x40).kids), (T.mk (x28).k (x28).n (x28).kids), (T.mk (x49).k (x49).n (x49).kids)]))] []).bind fun x51 =>
 (rTerm x51.1 fun x52 x53 =>
 (nilV x53 (nilO x51.2
 (some ([.agg [.int .i64 (x52).k, .int .i64 (x52).n, .fr (.ts (x52).kids)]], [.cells [.fr (.bs x45), .int .i64 x47]]))))))))))))))))))))))))))))))))))))))))))))))))))))
 ((cond ((decide (x13 = 2)))
 (((FF n 99 [.one (.int .i64 13), .one (.fr (.ts [(T.mk (x4).k (x4).n (x4).kids), (T.mk (x4).k (x4).n (x4).kids)]))] []).bind fun x15 =>
 (rTerm x15.1 fun x16 x17 =>
 (nilV x17 (nilO x15.2
 (((FF n 119 [.one (.ptr 0 0), .one (.int .i64 v0), .one (.int .i64 (IntKind.i64.wrap (v1 - 1)))] [.cells [.fr (.bs x9), .int .i64 x11]]).bind fun x18 =>
 (objC x18.2 fun x19 x20 =>
 (bsC x19 fun x21 x22 =>
 (intC .i64 x22 fun x23 x24 =>
 (nilC x24
 ((rTerm x18.1 fun x25 x26 =>
 (nilV x26 (nilO x20
 (((FF n 119 [.one (.ptr 0 0), .one (.int .i64 v0), .one (.int .i64 (IntKind.i64.wrap (v1 - 2)))] [.cells [.fr (.bs x21), .int .i64 x23]]).bind fun x27 =>
 (objC x27.2 fun x28 x29 =>
 (bsC x28 fun x30 x31 =>
 (intC .i64 x31 fun x32 x33 =>
 (nilC x33
 ((rTerm x27.1 fun x34 x35 =>
 (nilV x35 (nilO x29
 (((FF n 99 [.one (.int .i64 14), .one (.fr (.ts [(T.mk (x16).k (x16).n (x16).kids), (T.mk (x25).k (x25).n (x25).kids), (T.mk (x34).k (x34).n (x34).kids)]))] []).bind fun x36 =>
 (rTerm x36.1 fun x37 x38 =>
 (nilV x38 (nilO x36.2
 (((FF n 118 [.one (.ptr 0 0), .one (.fr (.is [15, 16]))] [.cells [.fr (.bs x30), .int .i64 x32]]).bind fun x39 =>
 (objC x39.2 fun x40 x41 =>
 (bsC x40 fun x42 x43 =>
 (intC .i64 x43 fun x44 x45 =>
 (nilC x45
 ((rInt .i64 x39.1 fun x46 x47 =>
 (nilV x47 (nilO x41
 (((FF n 99 [.one (.int .i64 x46), .one (.fr (.ts [(T.mk (x37).k (x37).n (x37).kids)]))] []).bind fun x48 =>
 (rTerm x48.1 fun x49 x50 =>
 (nilV x50 (nilO x48.2
 (some ([.agg [.int .i64 (x49).k, .int .i64 (x49).n, .fr (.ts (x49).kids)]], [.cells [.fr (.bs x42), .int .i64 x44]])))))))))))))))))))))))))))))))))))))))))))))))
 ((cond ((decide (x13 = 3)))
 (((FF n 99 [.one (.int .i64 4), .one (.fr (.ts [(T.mk (x4).k (x4).n (x4).kids), (T.mk (x4).k (x4).n (x4).kids)]))] []).bind fun x15 =>
 (rTerm x15.1 fun x16 x17 =>
 (nilV x17 (nilO x15.2
 (((FF n 119 [.one (.ptr 0 0), .one (.int .i64 v0), .one (.int .i64 (IntKind.i64.wrap (v1 - 2)))] [.cells [.fr (.bs x9), .int .i64 x11]]).bind fun x18 =>
 (objC x18.2 fun x19 x20 =>
 (bsC x19 fun x21 x22 =>
 (intC .i64 x22 fun x23 x24 =>
 (nilC x24
 ((rTerm x18.1 fun x25 x26 =>
 (nilV x26 (nilO x20
 (((FF n 99 [.one (.int .i64 11), .one (.fr (.ts [(T.mk (x25).k (x25).n (x25).kids)]))] []).bind fun x27 =>
 (rTerm x27.1 fun x28 x29 =>
 (nilV x29 (nilO x27.2
 (((FF n 119 [.one (.ptr 0 0), .one (.int .i64 v0), .one (.int .i64 (IntKind.i64.wrap (v1 - 1)))] [.cells [.fr (.bs x21), .int .i64 x23]]).bind fun x30 =>
 (objC x30.2 fun x31 x32 =>
 (bsC x31 fun x33 x34 =>
 (intC .i64 x34 fun x35 x36 =>
 (nilC x36
 ((rTerm x30.1 fun x37 x38 =>
 (nilV x38 (nilO x32
 (((FF n 99 [.one (.int .i64 12), .one (.fr (.ts [(T.mk (x16).k (x16).n (x16).kids), (T.mk (x28).k (x28).n (x28).kids), (T.mk (x37).k (x37).n (x37).kids)]))] []).bind fun x39 =>
 (rTerm x39.1 fun x40 x41 =>
 (nilV x41 (nilO x39.2
 (some ([.agg [.int .i64 (x40).k, .int .i64 (x40).n, .fr (.ts (x40).kids)]], [.cells [.fr (.bs x33), .int .i64 x35]])))))))))))))))))))))))))))))))))))))
 ((cond ((decide (x13 = 4)))
 (((FF n 119 [.one (.ptr 0 0), .one (.int .i64 v0), .one (.int .i64 0)] [.cells [.fr (.bs x9), .int .i64 x11]]).bind fun x15 =>
 (objC x15.2 fun x16 x17 =>
 (bsC x16 fun x18 x19 =>
 (intC .i64 x19 fun x20 x21 =>
 (nilC x21
 ((rTerm x15.1 fun x22 x23 =>
 (nilV x23 (nilO x17
 (some ([.agg [.int .i64 (x22).k, .int .i64 (x22).n, .fr (.ts (x22).kids)]], [.cells [.fr (.bs x18), .int .i64 x20]]))))))))))))
 (((FF n 119 [.one (.ptr 0 0), .one (.int .i64 v0), .one (.int .i64 (IntKind.i64.wrap (v1 - 1)))] [.cells [.fr (.bs x9), .int .i64 x11]]).bind fun x15 =>
 (objC x15.2 fun x16 x17 =>
 (bsC x16 fun x18 x19 =>
 (intC .i64 x19 fun x20 x21 =>
 (nilC x21
 ((rTerm x15.1 fun x22 x23 =>
 (nilV x23 (nilO x17
 (((FF n 99 [.one (.int .i64 8), .one (.fr (.ts [(T.mk (x22).k (x22).n (x22).kids)]))] []).bind fun x24 =>
 (rTerm x24.1 fun x25 x26 =>
 (nilV x26 (nilO x24.2
 (some ([.agg [.int .i64 (x25).k, .int .i64 (x25).n, .fr (.ts (x25).kids)]], [.cells [.fr (.bs x18), .int .i64 x20]])))))))))))))))))))))))))))))))))))))))))))))))) := by kernel_rfl

end Go.Proofs.YthopkmimhlcjkaaGreat
end
section
/- What the program's functions come to in the abstract run. -/
set_option linter.unusedVariables false
namespace Go.Proofs.YthopkmimhlcjkaaGreat
open Go Go.Ab Go.Dk
/-! loop.example/depkernel/spec.l1Copy -/
noncomputable def L_spec_l1Copy_0_foo (n c : Nat) (v0 : Int) (v1 : Int) (v2 : Int) (v3 : List T) (v4 : Int) (v5 : Int) (v6 : List T) (v7 : Int) (v8 : Int) (v9 : List T) : OR := runLoop Tryz.prog SS n 113 0 [1, 1, 0, 1, 0] [] c ⟨[.v (.one (.any)), .v (.one (.ptr 0 0)), .v (.one (.ptr 1 0)), .v (.one (.ptr 3 0)), .v (.one (.int .i64 v0)), .v (.one (.any)), .v (.one (.any)), .v (.one (.any)), .v (.one (.any)), .v (.one (.any)), .v (.one (.any)), .v (.one (.any)), .v (.one (.any)), .v (.one (.any)), .v (.one (.any)), .v (.one (.any)), .v (.one (.any)), .v (.one (.any)), .v (.one (.any)), .v (.one (.any)), .v (.one (.any)), .v (.one (.any)), .v (.one (.any)), .v (.one (.any)), .v (.one (.any)), .v (.one (.any)), .v (.one (.any)), .v (.one (.any)), .v (.one (.any))],
  [.cells [.int .i64 v1, .int .i64 v2, .fr (.ts v3)], .cells [.int .i64 v4, .int .i64 v5, .own 2 0], .arr 35 (.ts v6) 0 false, .cells [.int .i64 v7, .int .i64 v8, .own 4 0], .arr 35 (.ts v9) 0 false]⟩
theorem L_spec_l1Copy_0_foo_eq (n c : Nat) (v0 : Int) (v1 : Int) (v2 : Int) (v3 : List T) (v4 : Int) (v5 : Int) (v6 : List T) (v7 : Int) (v8 : Int) (v9 : List T) : L_spec_l1Copy_0_foo n (c + 1) v0 v1 v2 v3 v4 v5 v6 v7 v8 v9 =
 (cond ((decide (v0 < ((v3).length : Int))))
 ((cond (decide (0 ≤ v0))
 (((v3)[(v0 : Int).toNat]?.bind fun x0 =>
 ((FF n 113 [.agg [.int .i64 (x0).k, .int .i64 (x0).n, .fr (.ts (x0).kids)]] []).bind fun x1 =>
 (rOwnT 0 x1.1 fun x2 x3 x4 =>
 (arrTsC 35 x1.2 fun x5 x6 =>
 (nilV x4 (nilO x6
 ((cond (roomB (v9 ++ [(T.mk x2 x3 x5)]).length)
 (L_spec_l1Copy_0_foo n c ((IntKind.i64.wrap (v0 + 1)) : Int) (v1 : Int) (v2 : Int) (v3 : List T) (v4 : Int) (v5 : Int) (v6 : List T) (v7 : Int) (v8 : Int) ((v9 ++ [(T.mk x2 x3 x5)]) : List T))
 (none))))))))))
 (none)))
 (some ([.agg [.int .i64 v7, .int .i64 v8, .own 0 0]], [.arr 35 (.ts v9) 0 false]))) := by kernel_rfl
theorem E_spec_l1Copy (n : Nat) (v0 : Int) (v1 : Int) (v2 : List T) : FF (n + 1) 113 [.agg [.int .i64 v0, .int .i64 v1, .fr (.ts v2)]] [] =
 L_spec_l1Copy_0_foo n n (0 : Int) (v0 : Int) (v1 : Int) (v2 : List T) (0 : Int) (0 : Int) ([] : List T) (v0 : Int) (v1 : Int) ([] : List T) := by kernel_rfl

/-! loop.example/depkernel/spec.l3With -/
noncomputable def L_spec_l3With_0_ffoo (n c : Nat) (v0 : Int) (v1 : Int) (v2 : Int) (v3 : Int) (v4 : List T) (v5 : Int) (v6 : Int) (v7 : List T) (v8 : Int) (v9 : Int) (v10 : List T) (v11 : Int) (v12 : Int) (v13 : List T) : OR := runLoop Tryz.prog SS n 122 0 [1, 1, 0, 1, 0] [] c ⟨[.v (.one (.any)), .v (.one (.int .i64 v0)), .v (.one (.any)), .v (.one (.ptr 0 0)), .v (.one (.any)), .v (.one (.ptr 1 0)), .v (.one (.ptr 2 0)), .v (.one (.ptr 4 0)), .v (.one (.int .i64 v1)), .v (.one (.any)), .v (.one (.any)), .v (.one (.any)), .v (.one (.any)), .v (.one (.any)), .v (.one (.any)), .v (.one (.any)), .v (.one (.any)), .v (.one (.any)), .v (.one (.any)), .v (.one (.any)), .v (.one (.any)), .v (.one (.any)), .v (.one (.any)), .v (.one (.any)), .v (.one (.any)), .v (.one (.any)), .v (.one (.any)), .v (.one (.any)), .v (.one (.any)), .v (.one (.any)), .v (.one (.any)), .v (.one (.any)), .v (.one (.any)), .v (.one (.any)), .v (.one (.any)), .v (.one (.any)), .v (.one (.any)), .v (.one (.any)), .v (.one (.any)), .v (.one (.any)), .v (.one (.any)), .v (.one (.any))],
  [.cells [.int .i64 v2, .int .i64 v3, .fr (.ts v4)], .cells [.int .i64 v5, .int .i64 v6, .fr (.ts v7)], .cells [.int .i64 v8, .int .i64 v9, .own 3 0], .arr 35 (.ts v10) 0 false, .cells [.int .i64 v11, .int .i64 v12, .own 5 0], .arr 35 (.ts v13) 0 false]⟩
theorem L_spec_l3With_0_ffoo_eq (n c : Nat) (v0 : Int) (v1 : Int) (v2 : Int) (v3 : Int) (v4 : List T) (v5 : Int) (v6 : Int) (v7 : List T) (v8 : Int) (v9 : Int) (v10 : List T) (v11 : Int) (v12 : Int) (v13 : List T) : L_spec_l3With_0_ffoo n (c + 1) v0 v1 v2 v3 v4 v5 v6 v7 v8 v9 v10 v11 v12 v13 =
 (cond ((decide (v1 < ((v4).length : Int))))
 ((cond ((decide (v1 = v0)))
 ((cond (roomB (v13 ++ [(T.mk v5 v6 v7)]).length)
 (L_spec_l3With_0_ffoo n c (v0 : Int) ((IntKind.i64.wrap (v1 + 1)) : Int) (v2 : Int) (v3 : Int) (v4 : List T) (v5 : Int) (v6 : Int) (v7 : List T) (v8 : Int) (v9 : Int) (v10 : List T) (v11 : Int) (v12 : Int) ((v13 ++ [(T.mk v5 v6 v7)]) : List T))
 (none)))
 ((cond (decide (0 ≤ v1))
 (((v4)[(v1 : Int).toNat]?.bind fun x0 =>
 ((FF n 113 [.agg [.int .i64 (x0).k, .int .i64 (x0).n, .fr (.ts (x0).kids)]] []).bind fun x1 =>
 (rOwnT 0 x1.1 fun x2 x3 x4 =>
 (arrTsC 35 x1.2 fun x5 x6 =>
 (nilV x4 (nilO x6
 ((cond (roomB (v13 ++ [(T.mk x2 x3 x5)]).length)
 (L_spec_l3With_0_ffoo n c (v0 : Int) ((IntKind.i64.wrap (v1 + 1)) : Int) (v2 : Int) (v3 : Int) (v4 : List T) (v5 : Int) (v6 : Int) (v7 : List T) (v8 : Int) (v9 : Int) (v10 : List T) (v11 : Int) (v12 : Int) ((v13 ++ [(T.mk x2 x3 x5)]) : List T))
 (none))))))))))
 (none)))))
 (some ([.agg [.int .i64 v11, .int .i64 v12, .fr (.ts v13)]], []))) := by kernel_rfl
theorem E_spec_l3With (n : Nat) (v0 : Int) (v1 : Int) (v2 : List T) (v3 : Int) (v4 : Int) (v5 : Int) (v6 : List T) : FF (n + 1) 122 [.agg [.int .i64 v0, .int .i64 v1, .fr (.ts v2)], .one (.int .i64 v3), .agg [.int .i64 v4, .int .i64 v5, .fr (.ts v6)]] [] =
 L_spec_l3With_0_ffoo n n (v3 : Int) (0 : Int) (v0 : Int) (v1 : Int) (v2 : List T) (v4 : Int) (v5 : Int) (v6 : List T) (0 : Int) (0 : Int) ([] : List T) (v0 : Int) (v1 : Int) ([] : List T) := by kernel_rfl

/-! loop.example/depkernel/spec.l3One -/
/-! slices.ContainsFunc[[]loop.example/depkernel/impl.Term,loop.example/depkernel/impl.Term] -/
theorem E_slices_ContainsFunc_impl_ready_1 (n : Nat) (v0 : List T) : FF (n + 1) 108 [.one (.fr (.ts v0)), .one (.fn 109 [])] [] =
 ((FF n 139 [.one (.fr (.ts v0)), .one (.fn 109 [])] []).bind fun x0 =>
 (rInt .i64 x0.1 fun x1 x2 =>
 (nilV x2 (nilO x0.2
 (some ([.one (.bool (decide (0 ≤ x1)))], [])))))) := by kernel_rfl

/-! loop.example/depkernel/impl.inferForm -/
theorem E_impl_inferForm (n : Nat) (v0 : List T) (v1 : Int) (v2 : Int) (v3 : List T) (v4 : Int) : FF (n + 1) 105 [.one (.fr (.ts v0)), .agg [.int .i64 v1, .int .i64 v2, .fr (.ts v3)], .one (.int .i64 v4)] [] =
 ((FF n 74 [.one (.fr (.ts v0)), .agg [.int .i64 v1, .int .i64 v2, .fr (.ts v3)]] []).bind fun x0 =>
 (rTerm x0.1 fun x1 x2 =>
 (rInt .i64 x2 fun x3 x4 =>
 (nilV x4 (nilO x0.2
 ((cond ((!decide (x3 = 0)))
 (some ([.agg [.int .i64 0, .int .i64 0, .fr (.ts [])], .one (.int .i64 x3)], []))
 (((FF n 136 [.agg [.int .i64 (x1).k, .int .i64 (x1).n, .fr (.ts (x1).kids)], .one (.int .i64 v4)] []).bind fun x5 =>
 (rTerm x5.1 fun x6 x7 =>
 (rInt .i64 x7 fun x8 x9 =>
 (nilV x9 (nilO x5.2
 (some ([.agg [.int .i64 (x6).k, .int .i64 (x6).n, .fr (.ts (x6).kids)], .one (.int .i64 x8)], []))))))))))))))) := by kernel_rfl

/-! loop.example/depkernel/impl.converts -/
theorem E_impl_converts (n : Nat) (v0 : Int) (v1 : Int) (v2 : List T) (v3 : Int) (v4 : Int) (v5 : List T) : FF (n + 1) 111 [.agg [.int .i64 v0, .int .i64 v1, .fr (.ts v2)], .agg [.int .i64 v3, .int .i64 v4, .fr (.ts v5)]] [] =
 ((FF n 47 [.agg [.int .i64 v0, .int .i64 v1, .fr (.ts v2)], .agg [.int .i64 v3, .int .i64 v4, .fr (.ts v5)], .one (.int .i64 200)] []).bind fun x0 =>
 (rInt .i64 x0.1 fun x1 x2 =>
 (nilV x2 (nilO x0.2
 ((cond ((decide (x1 = 1)))
 (some ([.one (.int .i64 0)], []))
 ((cond ((decide (x1 = 2)))
 (some ([.one (.int .i64 1)], []))
 (some ([.one (.int .i64 2)], [])))))))))) := by kernel_rfl

/-! loop.example/depkernel/impl.subst -/
theorem E_impl_subst (n : Nat) (v0 : Int) (v1 : Int) (v2 : List T) (v3 : Int) (v4 : Int) (v5 : Int) (v6 : List T) : FF (n + 1) 123 [.agg [.int .i64 v0, .int .i64 v1, .fr (.ts v2)], .one (.int .i64 v3), .agg [.int .i64 v4, .int .i64 v5, .fr (.ts v6)]] [] =
 ((FF n 128 [.agg [.int .i64 v0, .int .i64 v1, .fr (.ts v2)], .one (.int .i64 0), .one (.fn 166 [0, 1, 2])] [.cells [.int .i64 v3], .cells [.int .i64 v4, .int .i64 v5, .fr (.ts v6)], .cells [.bool true]]).bind fun x0 =>
 (objC x0.2 fun x1 x2 =>
 (intC .i64 x1 fun x3 x4 =>
 (nilC x4
 ((objC x2 fun x5 x6 =>
 (intC .i64 x5 fun x7 x8 =>
 (intC .i64 x8 fun x9 x10 =>
 (tsC x10 fun x11 x12 =>
 (nilC x12
 ((objC x6 fun x13 x14 =>
 (boolC x13 fun x15 x16 =>
 (nilC x16
 ((rTerm x0.1 fun x17 x18 =>
 (nilV x18 (nilO x14
 ((cond ((!x15))
 (some ([.agg [.int .i64 0, .int .i64 0, .fr (.ts [])], .one (.bool false)], []))
 (((FF n 92 [.agg [.int .i64 (x17).k, .int .i64 (x17).n, .fr (.ts (x17).kids)]] []).bind fun x19 =>
 (rTerm x19.1 fun x20 x21 =>
 (rBool x21 fun x22 x23 =>
 (nilV x23 (nilO x19.2
 (some ([.agg [.int .i64 (x20).k, .int .i64 (x20).n, .fr (.ts (x20).kids)], .one (.bool x22)], [])))))))))))))))))))))))))))) := by kernel_rfl

/-! (loop.example/depkernel/impl.judge).judged -/
theorem E_impl_judge_judged_impl_infer_1 (n : Nat) (v0 : List T) (v1 : Int) (v2 : Int) (v3 : List T) (v4 : List T) (v5 : Int) (v6 : Int) (v7 : List T) : FF (n + 1) 116 [.agg [.fr (.ts v0), .int .i64 v1, .int .i64 v2, .fr (.ts v3), .fn 114 [0, 1]]] [.cells [.fr (.ts v4)], .cells [.int .i64 v5, .int .i64 v6, .fr (.ts v7)]] =
 (cond ((decide (v1 = 1)))
 ((cond ((decide (((v0).length : Int) ≤ v2)))
 (some ([.agg [.int .i64 0, .int .i64 0, .fr (.ts [])], .one (.int .i64 1)], [.cells [.fr (.ts v4)], .cells [.int .i64 v5, .int .i64 v6, .fr (.ts v7)]]))
 ((cond (decide (0 ≤ (IntKind.i64.wrap ((IntKind.i64.wrap (((v0).length : Int) - 1)) - v2))))
 (((v0)[((IntKind.i64.wrap ((IntKind.i64.wrap (((v0).length : Int) - 1)) - v2)) : Int).toNat]?.bind fun x0 =>
 ((FF n 93 [.agg [.int .i64 (x0).k, .int .i64 (x0).n, .fr (.ts (x0).kids)], .one (.int .i64 (IntKind.i64.wrap (v2 + 1))), .one (.int .i64 0)] []).bind fun x1 =>
 (rTerm x1.1 fun x2 x3 =>
 (rBool x3 fun x4 x5 =>
 (nilV x5 (nilO x1.2
 (((FF n 151 [.agg [.int .i64 (x2).k, .int .i64 (x2).n, .fr (.ts (x2).kids)], .one (.bool x4)] []).bind fun x6 =>
 (rTerm x6.1 fun x7 x8 =>
 (rInt .i64 x8 fun x9 x10 =>
 (nilV x10 (nilO x6.2
 (some ([.agg [.int .i64 (x7).k, .int .i64 (x7).n, .fr (.ts (x7).kids)], .one (.int .i64 x9)], [.cells [.fr (.ts v4)], .cells [.int .i64 v5, .int .i64 v6, .fr (.ts v7)]])))))))))))))))
 (none)))))
 ((cond ((decide (v1 = 2)))
 ((cond ((decide (v2 = 3)))
 (some ([.agg [.int .i64 0, .int .i64 0, .fr (.ts [])], .one (.int .i64 1)], [.cells [.fr (.ts v4)], .cells [.int .i64 v5, .int .i64 v6, .fr (.ts v7)]]))
 (((FF n 152 [.one (.int .i64 (IntKind.i64.wrap (v2 + 1)))] []).bind fun x0 =>
 (rTerm x0.1 fun x1 x2 =>
 (nilV x2 (nilO x0.2
 (some ([.agg [.int .i64 (x1).k, .int .i64 (x1).n, .fr (.ts (x1).kids)], .one (.int .i64 0)], [.cells [.fr (.ts v4)], .cells [.int .i64 v5, .int .i64 v6, .fr (.ts v7)]])))))))))
 ((cond ((decide (v1 = 6)))
 (((FF n 152 [.one (.int .i64 0)] []).bind fun x0 =>
 (rTerm x0.1 fun x1 x2 =>
 (nilV x2 (nilO x0.2
 (some ([.agg [.int .i64 (x1).k, .int .i64 (x1).n, .fr (.ts (x1).kids)], .one (.int .i64 0)], [.cells [.fr (.ts v4)], .cells [.int .i64 v5, .int .i64 v6, .fr (.ts v7)]])))))))
 ((cond ((decide (v1 = 7)))
 (((FF n 91 [.one (.int .i64 6), .one (.emp none)] []).bind fun x0 =>
 (rTerm x0.1 fun x1 x2 =>
 (nilV x2 (nilO x0.2
 (some ([.agg [.int .i64 (x1).k, .int .i64 (x1).n, .fr (.ts (x1).kids)], .one (.int .i64 0)], [.cells [.fr (.ts v4)], .cells [.int .i64 v5, .int .i64 v6, .fr (.ts v7)]])))))))
 ((cond ((decide (v1 = 8)))
 (((FF n 91 [.one (.int .i64 6), .one (.emp none)] []).bind fun x0 =>
 (rTerm x0.1 fun x1 x2 =>
 (nilV x2 (nilO x0.2
 (((FF n 153 [.agg [.fr (.ts v0), .int .i64 v1, .int .i64 v2, .fr (.ts v3), .fn 114 [0, 1]], .one (.int .i64 0), .agg [.int .i64 (x1).k, .int .i64 (x1).n, .fr (.ts (x1).kids)]] [.cells [.fr (.ts v4)], .cells [.int .i64 v5, .int .i64 v6, .fr (.ts v7)]]).bind fun x3 =>
 (objC x3.2 fun x4 x5 =>
 (tsC x4 fun x6 x7 =>
 (nilC x7
 ((objC x5 fun x8 x9 =>
 (intC .i64 x8 fun x10 x11 =>
 (intC .i64 x11 fun x12 x13 =>
 (tsC x13 fun x14 x15 =>
 (nilC x15
 ((rInt .i64 x3.1 fun x16 x17 =>
 (nilV x17 (nilO x9
 ((cond ((!decide (x16 = 0)))
 (some ([.agg [.int .i64 0, .int .i64 0, .fr (.ts [])], .one (.int .i64 x16)], [.cells [.fr (.ts x6)], .cells [.int .i64 x10, .int .i64 x12, .fr (.ts x14)]]))
 (((FF n 91 [.one (.int .i64 6), .one (.emp none)] []).bind fun x18 =>
 (rTerm x18.1 fun x19 x20 =>
 (nilV x20 (nilO x18.2
 (some ([.agg [.int .i64 (x19).k, .int .i64 (x19).n, .fr (.ts (x19).kids)], .one (.int .i64 0)], [.cells [.fr (.ts x6)], .cells [.int .i64 x10, .int .i64 x12, .fr (.ts x14)]])))))))))))))))))))))))))))))
 ((cond ((decide (v1 = 3)))
 (((FF n 154 [.agg [.fr (.ts v0), .int .i64 v1, .int .i64 v2, .fr (.ts v3), .fn 114 [0, 1]]] [.cells [.fr (.ts v4)], .cells [.int .i64 v5, .int .i64 v6, .fr (.ts v7)]]).bind fun x0 =>
 (objC x0.2 fun x1 x2 =>
 (tsC x1 fun x3 x4 =>
 (nilC x4
 ((objC x2 fun x5 x6 =>
 (intC .i64 x5 fun x7 x8 =>
 (intC .i64 x8 fun x9 x10 =>
 (tsC x10 fun x11 x12 =>
 (nilC x12
 ((rTerm x0.1 fun x13 x14 =>
 (rInt .i64 x14 fun x15 x16 =>
 (nilV x16 (nilO x6
 (some ([.agg [.int .i64 (x13).k, .int .i64 (x13).n, .fr (.ts (x13).kids)], .one (.int .i64 x15)], [.cells [.fr (.ts x3)], .cells [.int .i64 x7, .int .i64 x9, .fr (.ts x11)]]))))))))))))))))))
 ((cond ((decide (v1 = 13)))
 (((FF n 154 [.agg [.fr (.ts v0), .int .i64 v1, .int .i64 v2, .fr (.ts v3), .fn 114 [0, 1]]] [.cells [.fr (.ts v4)], .cells [.int .i64 v5, .int .i64 v6, .fr (.ts v7)]]).bind fun x0 =>
 (objC x0.2 fun x1 x2 =>
 (tsC x1 fun x3 x4 =>
 (nilC x4
 ((objC x2 fun x5 x6 =>
 (intC .i64 x5 fun x7 x8 =>
 (intC .i64 x8 fun x9 x10 =>
 (tsC x10 fun x11 x12 =>
 (nilC x12
 ((rTerm x0.1 fun x13 x14 =>
 (rInt .i64 x14 fun x15 x16 =>
 (nilV x16 (nilO x6
 (some ([.agg [.int .i64 (x13).k, .int .i64 (x13).n, .fr (.ts (x13).kids)], .one (.int .i64 x15)], [.cells [.fr (.ts x3)], .cells [.int .i64 x7, .int .i64 x9, .fr (.ts x11)]]))))))))))))))))))
 ((cond ((decide (v1 = 4)))
 (((FF n 155 [.agg [.fr (.ts v0), .int .i64 v1, .int .i64 v2, .fr (.ts v3), .fn 114 [0, 1]]] [.cells [.fr (.ts v4)], .cells [.int .i64 v5, .int .i64 v6, .fr (.ts v7)]]).bind fun x0 =>
 (objC x0.2 fun x1 x2 =>
 (tsC x1 fun x3 x4 =>
 (nilC x4
 ((objC x2 fun x5 x6 =>
 (intC .i64 x5 fun x7 x8 =>
 (intC .i64 x8 fun x9 x10 =>
 (tsC x10 fun x11 x12 =>
 (nilC x12
 ((rTerm x0.1 fun x13 x14 =>
 (rInt .i64 x14 fun x15 x16 =>
 (nilV x16 (nilO x6
 (some ([.agg [.int .i64 (x13).k, .int .i64 (x13).n, .fr (.ts (x13).kids)], .one (.int .i64 x15)], [.cells [.fr (.ts x3)], .cells [.int .i64 x7, .int .i64 x9, .fr (.ts x11)]]))))))))))))))))))
 ((cond ((decide (v1 = 5)))
 (((FF n 156 [.agg [.fr (.ts v0), .int .i64 v1, .int .i64 v2, .fr (.ts v3), .fn 114 [0, 1]], .one (.int .i64 0), .one (.int .i64 3)] [.cells [.fr (.ts v4)], .cells [.int .i64 v5, .int .i64 v6, .fr (.ts v7)]]).bind fun x0 =>
 (objC x0.2 fun x1 x2 =>
 (tsC x1 fun x3 x4 =>
 (nilC x4
 ((objC x2 fun x5 x6 =>
 (intC .i64 x5 fun x7 x8 =>
 (intC .i64 x8 fun x9 x10 =>
 (tsC x10 fun x11 x12 =>
 (nilC x12
 ((rTerm x0.1 fun x13 x14 =>
 (rInt .i64 x14 fun x15 x16 =>
 (nilV x16 (nilO x6
 (((FF n 158 [.agg [.int .i64 (x13).k, .int .i64 (x13).n, .fr (.ts (x13).kids)]] []).bind fun x17 =>
 (rTerm x17.1 fun x18 x19 =>
 (nilV x19 (nilO x17.2
 (((FF n 157 [.agg [.fr (.ts v0), .int .i64 v1, .int .i64 v2, .fr (.ts v3), .fn 114 [0, 1]], .one (.int .i64 1), .agg [.int .i64 (x18).k, .int .i64 (x18).n, .fr (.ts (x18).kids)], .one (.int .i64 x15)] [.cells [.fr (.ts x3)], .cells [.int .i64 x7, .int .i64 x9, .fr (.ts x11)]]).bind fun x20 =>
 (objC x20.2 fun x21 x22 =>
 (tsC x21 fun x23 x24 =>
 (nilC x24
 ((objC x22 fun x25 x26 =>
 (intC .i64 x25 fun x27 x28 =>
 (intC .i64 x28 fun x29 x30 =>
 (tsC x30 fun x31 x32 =>
 (nilC x32
 ((rInt .i64 x20.1 fun x33 x34 =>
 (nilV x34 (nilO x26
 ((cond ((!decide (x33 = 0)))
 (some ([.agg [.int .i64 0, .int .i64 0, .fr (.ts [])], .one (.int .i64 x33)], [.cells [.fr (.ts x23)], .cells [.int .i64 x27, .int .i64 x29, .fr (.ts x31)]]))
 ((((x13).kids)[(1 : Int).toNat]?.bind fun x35 =>
 ((v3)[(1 : Int).toNat]?.bind fun x36 =>
 ((FF n 123 [.agg [.int .i64 (x35).k, .int .i64 (x35).n, .fr (.ts (x35).kids)], .one (.int .i64 0), .agg [.int .i64 (x36).k, .int .i64 (x36).n, .fr (.ts (x36).kids)]] []).bind fun x37 =>
 (rTerm x37.1 fun x38 x39 =>
 (rBool x39 fun x40 x41 =>
 (nilV x41 (nilO x37.2
 (((FF n 151 [.agg [.int .i64 (x38).k, .int .i64 (x38).n, .fr (.ts (x38).kids)], .one (.bool x40)] []).bind fun x42 =>
 (rTerm x42.1 fun x43 x44 =>
 (rInt .i64 x44 fun x45 x46 =>
 (nilV x46 (nilO x42.2
 (some ([.agg [.int .i64 (x43).k, .int .i64 (x43).n, .fr (.ts (x43).kids)], .one (.int .i64 x45)], [.cells [.fr (.ts x23)], .cells [.int .i64 x27, .int .i64 x29, .fr (.ts x31)]]))))))))))))))))))))))))))))))))))))))))))))))))))))))
 ((cond ((decide (v1 = 9)))
 (((FF n 159 [.agg [.fr (.ts v0), .int .i64 v1, .int .i64 v2, .fr (.ts v3), .fn 114 [0, 1]]] [.cells [.fr (.ts v4)], .cells [.int .i64 v5, .int .i64 v6, .fr (.ts v7)]]).bind fun x0 =>
 (objC x0.2 fun x1 x2 =>
 (tsC x1 fun x3 x4 =>
 (nilC x4
 ((objC x2 fun x5 x6 =>
 (intC .i64 x5 fun x7 x8 =>
 (intC .i64 x8 fun x9 x10 =>
 (tsC x10 fun x11 x12 =>
 (nilC x12
 ((rTerm x0.1 fun x13 x14 =>
 (rInt .i64 x14 fun x15 x16 =>
 (nilV x16 (nilO x6
 (some ([.agg [.int .i64 (x13).k, .int .i64 (x13).n, .fr (.ts (x13).kids)], .one (.int .i64 x15)], [.cells [.fr (.ts x3)], .cells [.int .i64 x7, .int .i64 x9, .fr (.ts x11)]]))))))))))))))))))
 ((cond ((decide (v1 = 10)))
 (((FF n 160 [.agg [.fr (.ts v0), .int .i64 v1, .int .i64 v2, .fr (.ts v3), .fn 114 [0, 1]]] [.cells [.fr (.ts v4)], .cells [.int .i64 v5, .int .i64 v6, .fr (.ts v7)]]).bind fun x0 =>
 (objC x0.2 fun x1 x2 =>
 (tsC x1 fun x3 x4 =>
 (nilC x4
 ((objC x2 fun x5 x6 =>
 (intC .i64 x5 fun x7 x8 =>
 (intC .i64 x8 fun x9 x10 =>
 (tsC x10 fun x11 x12 =>
 (nilC x12
 ((rTerm x0.1 fun x13 x14 =>
 (rInt .i64 x14 fun x15 x16 =>
 (nilV x16 (nilO x6
 (some ([.agg [.int .i64 (x13).k, .int .i64 (x13).n, .fr (.ts (x13).kids)], .one (.int .i64 x15)], [.cells [.fr (.ts x3)], .cells [.int .i64 x7, .int .i64 x9, .fr (.ts x11)]]))))))))))))))))))
 ((cond ((decide (v1 = 11)))
 (((FF n 114 [.one (.int .i64 0), .one (.ptr 0 0), .one (.ptr 1 0)] [.cells [.fr (.ts v4)], .cells [.int .i64 v5, .int .i64 v6, .fr (.ts v7)]]).bind fun x0 =>
 (objC x0.2 fun x1 x2 =>
 (tsC x1 fun x3 x4 =>
 (nilC x4
 ((objC x2 fun x5 x6 =>
 (intC .i64 x5 fun x7 x8 =>
 (intC .i64 x8 fun x9 x10 =>
 (tsC x10 fun x11 x12 =>
 (nilC x12
 ((rTerm x0.1 fun x13 x14 =>
 (rInt .i64 x14 fun x15 x16 =>
 (nilV x16 (nilO x6
 ((cond ((!decide (x15 = 0)))
 (some ([.agg [.int .i64 0, .int .i64 0, .fr (.ts [])], .one (.int .i64 x15)], [.cells [.fr (.ts x3)], .cells [.int .i64 x7, .int .i64 x9, .fr (.ts x11)]]))
 (((FF n 67 [.one (.fr (.ts v0)), .agg [.int .i64 (x13).k, .int .i64 (x13).n, .fr (.ts (x13).kids)]] []).bind fun x17 =>
 (rInt .i64 x17.1 fun x18 x19 =>
 (rInt .i64 x19 fun x20 x21 =>
 (nilV x21 (nilO x17.2
 ((cond ((!decide (x20 = 0)))
 (some ([.agg [.int .i64 0, .int .i64 0, .fr (.ts [])], .one (.int .i64 x20)], [.cells [.fr (.ts x3)], .cells [.int .i64 x7, .int .i64 x9, .fr (.ts x11)]]))
 (((v3)[(0 : Int).toNat]?.bind fun x22 =>
 ((v3)[(0 : Int).toNat]?.bind fun x23 =>
 ((FF n 91 [.one (.int .i64 10), .one (.fr (.ts [(T.mk (x13).k (x13).n (x13).kids), (T.mk (x22).k (x22).n (x22).kids), (T.mk (x23).k (x23).n (x23).kids)]))] []).bind fun x24 =>
 (rTerm x24.1 fun x25 x26 =>
 (nilV x26 (nilO x24.2
 (((FF n 151 [.agg [.int .i64 (x25).k, .int .i64 (x25).n, .fr (.ts (x25).kids)], .one (.bool true)] []).bind fun x27 =>
 (rTerm x27.1 fun x28 x29 =>
 (rInt .i64 x29 fun x30 x31 =>
 (nilV x31 (nilO x27.2
 (some ([.agg [.int .i64 (x28).k, .int .i64 (x28).n, .fr (.ts (x28).kids)], .one (.int .i64 x30)], [.cells [.fr (.ts x3)], .cells [.int .i64 x7, .int .i64 x9, .fr (.ts x11)]])))))))))))))))))))))))))))))))))))))))))
 ((cond ((decide (v1 = 12)))
 (((FF n 161 [.agg [.fr (.ts v0), .int .i64 v1, .int .i64 v2, .fr (.ts v3), .fn 114 [0, 1]]] [.cells [.fr (.ts v4)], .cells [.int .i64 v5, .int .i64 v6, .fr (.ts v7)]]).bind fun x0 =>
 (objC x0.2 fun x1 x2 =>
 (tsC x1 fun x3 x4 =>
 (nilC x4
 ((objC x2 fun x5 x6 =>
 (intC .i64 x5 fun x7 x8 =>
 (intC .i64 x8 fun x9 x10 =>
 (tsC x10 fun x11 x12 =>
 (nilC x12
 ((rTerm x0.1 fun x13 x14 =>
 (rInt .i64 x14 fun x15 x16 =>
 (nilV x16 (nilO x6
 (some ([.agg [.int .i64 (x13).k, .int .i64 (x13).n, .fr (.ts (x13).kids)], .one (.int .i64 x15)], [.cells [.fr (.ts x3)], .cells [.int .i64 x7, .int .i64 x9, .fr (.ts x11)]]))))))))))))))))))
 ((cond ((decide (v1 = 14)))
 (((FF n 162 [.agg [.fr (.ts v0), .int .i64 v1, .int .i64 v2, .fr (.ts v3), .fn 114 [0, 1]]] [.cells [.fr (.ts v4)], .cells [.int .i64 v5, .int .i64 v6, .fr (.ts v7)]]).bind fun x0 =>
 (objC x0.2 fun x1 x2 =>
 (tsC x1 fun x3 x4 =>
 (nilC x4
 ((objC x2 fun x5 x6 =>
 (intC .i64 x5 fun x7 x8 =>
 (intC .i64 x8 fun x9 x10 =>
 (tsC x10 fun x11 x12 =>
 (nilC x12
 ((rTerm x0.1 fun x13 x14 =>
 (rInt .i64 x14 fun x15 x16 =>
 (nilV x16 (nilO x6
 (some ([.agg [.int .i64 (x13).k, .int .i64 (x13).n, .fr (.ts (x13).kids)], .one (.int .i64 x15)], [.cells [.fr (.ts x3)], .cells [.int .i64 x7, .int .i64 x9, .fr (.ts x11)]]))))))))))))))))))
 (((FF n 163 [.agg [.fr (.ts v0), .int .i64 v1, .int .i64 v2, .fr (.ts v3), .fn 114 [0, 1]]] [.cells [.fr (.ts v4)], .cells [.int .i64 v5, .int .i64 v6, .fr (.ts v7)]]).bind fun x0 =>
 (objC x0.2 fun x1 x2 =>
 (tsC x1 fun x3 x4 =>
 (nilC x4
 ((objC x2 fun x5 x6 =>
 (intC .i64 x5 fun x7 x8 =>
 (intC .i64 x8 fun x9 x10 =>
 (tsC x10 fun x11 x12 =>
 (nilC x12
 ((rTerm x0.1 fun x13 x14 =>
 (rInt .i64 x14 fun x15 x16 =>
 (nilV x16 (nilO x6
 (some ([.agg [.int .i64 (x13).k, .int .i64 (x13).n, .fr (.ts (x13).kids)], .one (.int .i64 x15)], [.cells [.fr (.ts x3)], .cells [.int .i64 x7, .int .i64 x9, .fr (.ts x11)]]))))))))))))))))))))))))))))))))))))))))))))) := by kernel_rfl

/-! loop.example/depkernel/impl.scan -/
noncomputable def L_impl_scan_0 (n c : Nat) (v0 : Int) (v1 : List T) (v2 : Int) (v3 : Int) (v4 : Int) : OR := runLoop Tryz.prog SS n 104 1 [1, 1, 1, 0, 1, 0] [] c ⟨[.v (.one (.any)), .v (.one (.int .i64 v0)), .v (.one (.ptr 0 0)), .v (.one (.any)), .v (.one (.any)), .v (.one (.any)), .v (.one (.any)), .v (.one (.any)), .v (.one (.any)), .v (.one (.any)), .v (.one (.any)), .v (.one (.any)), .v (.one (.any)), .v (.one (.any)), .v (.one (.any)), .v (.one (.any)), .v (.one (.any)), .v (.one (.any)), .v (.one (.any)), .v (.one (.any)), .v (.one (.any)), .v (.one (.any)), .v (.one (.any)), .v (.one (.any)), .v (.one (.any)), .v (.one (.any)), .v (.one (.any)), .v (.one (.any)), .v (.one (.any)), .v (.one (.any)), .v (.one (.any)), .v (.one (.any)), .v (.one (.any)), .v (.one (.any)), .v (.one (.any)), .v (.one (.any)), .v (.one (.any)), .v (.one (.any)), .v (.one (.any)), .v (.one (.any)), .v (.one (.any)), .v (.one (.fr (.ts v1))), .v (.one (.int .i64 v2)), .v (.one (.int .i64 v3)), .v (.one (.any)), .v (.one (.any)), .v (.one (.any)), .v (.one (.any)), .v (.one (.any)), .v (.one (.any)), .v (.one (.any)), .v (.one (.any)), .v (.one (.any)), .v (.one (.any))],
  [.cells [.int .i64 v4]]⟩
theorem L_impl_scan_0_eq (n c : Nat) (v0 : Int) (v1 : List T) (v2 : Int) (v3 : Int) (v4 : Int) : L_impl_scan_0 n (c + 1) v0 v1 v2 v3 v4 =
 (cond ((decide (v3 < v2)))
 ((cond (decide (0 ≤ v3))
 (((v1)[(v3 : Int).toNat]?.bind fun x0 =>
 ((FF n 104 [.agg [.int .i64 (x0).k, .int .i64 (x0).n, .fr (.ts (x0).kids)], .one (.int .i64 (IntKind.i64.wrap (v0 + 1))), .one (.ptr 0 0)] [.cells [.int .i64 v4]]).bind fun x1 =>
 (objC x1.2 fun x2 x3 =>
 (intC .i64 x2 fun x4 x5 =>
 (nilC x5
 ((rBool x1.1 fun x6 x7 =>
 (nilV x7 (nilO x3
 ((cond ((!x6))
 (some ([.one (.bool false)], [.cells [.int .i64 x4]]))
 (L_impl_scan_0 n c (v0 : Int) (v1 : List T) (v2 : Int) ((IntKind.i64.wrap (v3 + 1)) : Int) (x4 : Int))))))))))))))
 (none)))
 (some ([.one (.bool true)], [.cells [.int .i64 v4]]))) := by kernel_rfl
theorem E_impl_scan (n : Nat) (v0 : Int) (v1 : Int) (v2 : List T) (v3 : Int) (v4 : Int) : FF (n + 1) 104 [.agg [.int .i64 v0, .int .i64 v1, .fr (.ts v2)], .one (.int .i64 v3), .one (.ptr 0 0)] [.cells [.int .i64 v4]] =
 (cond ((decide (400 < (IntKind.i64.wrap (v4 + 1)))))
 (some ([.one (.bool false)], [.cells [.int .i64 (IntKind.i64.wrap (v4 + 1))]]))
 ((cond ((decide (30 < v3)))
 (some ([.one (.bool false)], [.cells [.int .i64 (IntKind.i64.wrap (v4 + 1))]]))
 (((FF n 134 [.one (.int .i64 v0)] []).bind fun x0 =>
 (rInt .i64 x0.1 fun x1 x2 =>
 (nilV x2 (nilO x0.2
 ((cond ((!decide (x1 = ((v2).length : Int))))
 (some ([.one (.bool false)], [.cells [.int .i64 (IntKind.i64.wrap (v4 + 1))]]))
 (((FF n 135 [.one (.int .i64 v0)] []).bind fun x3 =>
 (rInt .i64 x3.1 fun x4 x5 =>
 (nilV x5 (nilO x3.2
 (((FF n 83 [.one (.int .i64 v1), .one (.int .i64 0), .one (.int .i64 x4)] []).bind fun x6 =>
 (rBool x6.1 fun x7 x8 =>
 (nilV x8 (nilO x6.2
 ((cond ((!x7))
 (some ([.one (.bool false)], [.cells [.int .i64 (IntKind.i64.wrap (v4 + 1))]]))
 (L_impl_scan_0 n n (v3 : Int) (v2 : List T) (((v2).length : Int) : Int) (0 : Int) ((IntKind.i64.wrap (v4 + 1)) : Int)))))))))))))))))))))))) := by kernel_rfl

/-! loop.example/depkernel/impl.free -/
noncomputable def L_impl_free_impl_maxFree_1_0 (n c : Nat) (v0 : Int) (v1 : List T) (v2 : Int) (v3 : Int) (v4 : Int) (v5 : Int) (v6 : Int) (v7 : List T) : OR := runLoop Tryz.prog SS n 124 1 [1, 1, 1, 0] [] c ⟨[.v (.one (.any)), .v (.one (.int .i64 v0)), .v (.one (.fn 125 [0])), .v (.one (.ptr 1 0)), .v (.one (.any)), .v (.one (.any)), .v (.one (.any)), .v (.one (.any)), .v (.one (.any)), .v (.one (.any)), .v (.one (.any)), .v (.one (.any)), .v (.one (.any)), .v (.one (.any)), .v (.one (.any)), .v (.one (.any)), .v (.one (.any)), .v (.one (.any)), .v (.one (.any)), .v (.one (.any)), .v (.one (.any)), .v (.one (.any)), .v (.one (.any)), .v (.one (.any)), .v (.one (.fr (.ts v1))), .v (.one (.int .i64 v2)), .v (.one (.int .i64 v3)), .v (.one (.any)), .v (.one (.any)), .v (.one (.any)), .v (.one (.any)), .v (.one (.any)), .v (.one (.any)), .v (.one (.any)), .v (.one (.any)), .v (.one (.any)), .v (.one (.any)), .v (.one (.any)), .v (.one (.any)), .v (.one (.any)), .v (.one (.any))],
  [.cells [.int .i64 v4], .cells [.int .i64 v5, .int .i64 v6, .fr (.ts v7)]]⟩
theorem L_impl_free_impl_maxFree_1_0_eq (n c : Nat) (v0 : Int) (v1 : List T) (v2 : Int) (v3 : Int) (v4 : Int) (v5 : Int) (v6 : Int) (v7 : List T) : L_impl_free_impl_maxFree_1_0 n (c + 1) v0 v1 v2 v3 v4 v5 v6 v7 =
 (cond ((decide (v3 < v2)))
 ((cond (decide (0 ≤ v3))
 (((v1)[(v3 : Int).toNat]?.bind fun x0 =>
 ((FF n 149 [.one (.int .i64 v5), .one (.int .i64 v3)] []).bind fun x1 =>
 (rInt .i64 x1.1 fun x2 x3 =>
 (nilV x3 (nilO x1.2
 (((FF n 124 [.agg [.int .i64 (x0).k, .int .i64 (x0).n, .fr (.ts (x0).kids)], .one (.int .i64 (IntKind.i64.wrap (v0 + x2))), .one (.fn 125 [0])] [.cells [.int .i64 v4]]).bind fun x4 =>
 (objC x4.2 fun x5 x6 =>
 (intC .i64 x5 fun x7 x8 =>
 (nilC x8
 ((nilV x4.1 (nilO x6
 (L_impl_free_impl_maxFree_1_0 n c (v0 : Int) (v1 : List T) (v2 : Int) ((IntKind.i64.wrap (v3 + 1)) : Int) (x7 : Int) (v5 : Int) (v6 : Int) (v7 : List T))))))))))))))))
 (none)))
 (some ([], [.cells [.int .i64 v4]]))) := by kernel_rfl
theorem E_impl_free_impl_maxFree_1 (n : Nat) (v0 : Int) (v1 : Int) (v2 : List T) (v3 : Int) (v4 : Int) : FF (n + 1) 124 [.agg [.int .i64 v0, .int .i64 v1, .fr (.ts v2)], .one (.int .i64 v3), .one (.fn 125 [0])] [.cells [.int .i64 v4]] =
 (cond ((decide (v0 = 1)))
 ((cond ((decide (v3 ≤ v1)))
 (((FF n 125 [.one (.int .i64 (IntKind.i64.wrap (v1 - v3))), .one (.ptr 0 0)] [.cells [.int .i64 v4]]).bind fun x0 =>
 (objC x0.2 fun x1 x2 =>
 (intC .i64 x1 fun x3 x4 =>
 (nilC x4
 ((nilV x0.1 (nilO x2
 (L_impl_free_impl_maxFree_1_0 n n (v3 : Int) (v2 : List T) (((v2).length : Int) : Int) (0 : Int) (x3 : Int) (v0 : Int) (v1 : Int) (v2 : List T))))))))))
 (L_impl_free_impl_maxFree_1_0 n n (v3 : Int) (v2 : List T) (((v2).length : Int) : Int) (0 : Int) (v4 : Int) (v0 : Int) (v1 : Int) (v2 : List T))))
 (L_impl_free_impl_maxFree_1_0 n n (v3 : Int) (v2 : List T) (((v2).length : Int) : Int) (0 : Int) (v4 : Int) (v0 : Int) (v1 : Int) (v2 : List T))) := by kernel_rfl

/-! loop.example/depkernel/impl.redex -/
theorem E_impl_redex (n : Nat) (v0 : Int) (v1 : Int) (v2 : List T) : FF (n + 1) 126 [.agg [.int .i64 v0, .int .i64 v1, .fr (.ts v2)]] [] =
 (cond ((decide (v0 = 5)))
 (((v2)[(0 : Int).toNat]?.bind fun x0 =>
 (cond ((decide ((x0).k = 4)))
 (some ([.one (.int .i64 1)], []))
 (some ([.one (.int .i64 0)], [])))))
 ((cond ((decide (v0 = 9)))
 (((v2)[(3 : Int).toNat]?.bind fun x0 =>
 (cond ((decide ((x0).k = 7)))
 (some ([.one (.int .i64 2)], []))
 ((cond ((decide ((x0).k = 8)))
 (some ([.one (.int .i64 3)], []))
 (some ([.one (.int .i64 0)], [])))))))
 ((cond ((decide (v0 = 12)))
 (((v2)[(1 : Int).toNat]?.bind fun x0 =>
 (cond ((decide ((x0).k = 11)))
 (some ([.one (.int .i64 4)], []))
 (some ([.one (.int .i64 0)], [])))))
 ((cond ((decide (v0 = 15)))
 (((v2)[(0 : Int).toNat]?.bind fun x0 =>
 (cond ((decide ((x0).k = 14)))
 (some ([.one (.int .i64 (IntKind.i64.wrap ((IntKind.i64.wrap (5 + v0)) - 15)))], []))
 (some ([.one (.int .i64 0)], [])))))
 ((cond ((decide (v0 = 16)))
 (((v2)[(0 : Int).toNat]?.bind fun x0 =>
 (cond ((decide ((x0).k = 14)))
 (some ([.one (.int .i64 (IntKind.i64.wrap ((IntKind.i64.wrap (5 + v0)) - 15)))], []))
 (some ([.one (.int .i64 0)], [])))))
 (some ([.one (.int .i64 0)], []))))))))))) := by kernel_rfl

/-! loop.example/depkernel/spec.l1Shape -/
noncomputable def L_spec_l1Shape_0 (n c : Nat) (v0 : Int) (v1 : Int) (v2 : Int) (v3 : Int) (v4 : List T) : OR := runLoop Tryz.prog SS n 106 0 [1, 1, 0, 1, 0] [] c ⟨[.v (.one (.any)), .v (.one (.int .i64 v0)), .v (.one (.ptr 0 0)), .v (.one (.any)), .v (.one (.any)), .v (.one (.int .i64 v1)), .v (.one (.any)), .v (.one (.any)), .v (.one (.any)), .v (.one (.any)), .v (.one (.any)), .v (.one (.any)), .v (.one (.any)), .v (.one (.any)), .v (.one (.any)), .v (.one (.any)), .v (.one (.any)), .v (.one (.any)), .v (.one (.any)), .v (.one (.any)), .v (.one (.any)), .v (.one (.any)), .v (.one (.any)), .v (.one (.any)), .v (.one (.any)), .v (.one (.any)), .v (.one (.any)), .v (.one (.any)), .v (.one (.any)), .v (.one (.any)), .v (.one (.any)), .v (.one (.any)), .v (.one (.any)), .v (.one (.any)), .v (.one (.any)), .v (.one (.any)), .v (.one (.any)), .v (.one (.any)), .v (.one (.any)), .v (.one (.any)), .v (.one (.any)), .v (.one (.any)), .v (.one (.any)), .v (.one (.any)), .v (.one (.any)), .v (.one (.any))],
  [.cells [.int .i64 v2, .int .i64 v3, .fr (.ts v4)]]⟩
theorem L_spec_l1Shape_0_eq (n c : Nat) (v0 : Int) (v1 : Int) (v2 : Int) (v3 : Int) (v4 : List T) : L_spec_l1Shape_0 n (c + 1) v0 v1 v2 v3 v4 =
 (cond ((decide (v1 < ((v4).length : Int))))
 ((cond (decide (0 ≤ v1))
 (((v4)[(v1 : Int).toNat]?.bind fun x0 =>
 ((FF n 106 [.agg [.int .i64 (x0).k, .int .i64 (x0).n, .fr (.ts (x0).kids)], .one (.int .i64 (IntKind.i64.wrap (v0 - 1)))] []).bind fun x1 =>
 (rBool x1.1 fun x2 x3 =>
 (nilV x3 (nilO x1.2
 ((cond ((!x2))
 (some ([.one (.bool false)], []))
 (L_spec_l1Shape_0 n c (v0 : Int) ((IntKind.i64.wrap (v1 + 1)) : Int) (v2 : Int) (v3 : Int) (v4 : List T))))))))))
 (none)))
 (some ([.one (.bool true)], []))) := by kernel_rfl
theorem E_spec_l1Shape (n : Nat) (v0 : Int) (v1 : Int) (v2 : List T) (v3 : Int) : FF (n + 1) 106 [.agg [.int .i64 v0, .int .i64 v1, .fr (.ts v2)], .one (.int .i64 v3)] [] =
 (cond ((decide (v3 < 1)))
 (some ([.one (.bool false)], []))
 (((FF n 137 [.one (.int .i64 v0)] []).bind fun x0 =>
 (rInt .i64 x0.1 fun x1 x2 =>
 (nilV x2 (nilO x0.2
 ((cond ((!decide (x1 = ((v2).length : Int))))
 (some ([.one (.bool false)], []))
 ((cond ((decide (v1 < 0)))
 (some ([.one (.bool false)], []))
 (((FF n 138 [.one (.int .i64 v0)] []).bind fun x3 =>
 (rInt .i64 x3.1 fun x4 x5 =>
 (nilV x5 (nilO x3.2
 ((cond ((decide (x4 < v1)))
 (some ([.one (.bool false)], []))
 (L_spec_l1Shape_0 n n (v3 : Int) (0 : Int) (v0 : Int) (v1 : Int) (v2 : List T))))))))))))))))))) := by kernel_rfl

/-! loop.example/depkernel/spec.l1Count -/
noncomputable def L_spec_l1Count_0 (n c : Nat) (v0 : Int) (v1 : Int) (v2 : Int) (v3 : Int) (v4 : Int) (v5 : List T) : OR := runLoop Tryz.prog SS n 107 0 [1, 1, 0, 1, 0] [] c ⟨[.v (.one (.any)), .v (.one (.int .i64 v0)), .v (.one (.ptr 0 0)), .v (.one (.any)), .v (.one (.any)), .v (.one (.int .i64 v1)), .v (.one (.int .i64 v2)), .v (.one (.any)), .v (.one (.any)), .v (.one (.any)), .v (.one (.any)), .v (.one (.any)), .v (.one (.any)), .v (.one (.any)), .v (.one (.any)), .v (.one (.any)), .v (.one (.any)), .v (.one (.any)), .v (.one (.any)), .v (.one (.any)), .v (.one (.any)), .v (.one (.any)), .v (.one (.any)), .v (.one (.any)), .v (.one (.any)), .v (.one (.any)), .v (.one (.any)), .v (.one (.any)), .v (.one (.any)), .v (.one (.any)), .v (.one (.any))],
  [.cells [.int .i64 v3, .int .i64 v4, .fr (.ts v5)]]⟩
theorem L_spec_l1Count_0_eq (n c : Nat) (v0 : Int) (v1 : Int) (v2 : Int) (v3 : Int) (v4 : Int) (v5 : List T) : L_spec_l1Count_0 n (c + 1) v0 v1 v2 v3 v4 v5 =
 (cond ((decide (v2 < ((v5).length : Int))))
 ((cond ((decide (v1 ≤ v0)))
 ((cond (decide (0 ≤ v2))
 (((v5)[(v2 : Int).toNat]?.bind fun x0 =>
 ((FF n 107 [.agg [.int .i64 (x0).k, .int .i64 (x0).n, .fr (.ts (x0).kids)], .one (.int .i64 (IntKind.i64.wrap (v0 - v1)))] []).bind fun x1 =>
 (rInt .i64 x1.1 fun x2 x3 =>
 (nilV x3 (nilO x1.2
 (L_spec_l1Count_0 n c (v0 : Int) ((IntKind.i64.wrap (v1 + x2)) : Int) ((IntKind.i64.wrap (v2 + 1)) : Int) (v3 : Int) (v4 : Int) (v5 : List T))))))))
 (none)))
 (some ([.one (.int .i64 v1)], []))))
 (some ([.one (.int .i64 v1)], []))) := by kernel_rfl
theorem E_spec_l1Count (n : Nat) (v0 : Int) (v1 : Int) (v2 : List T) (v3 : Int) : FF (n + 1) 107 [.agg [.int .i64 v0, .int .i64 v1, .fr (.ts v2)], .one (.int .i64 v3)] [] =
 L_spec_l1Count_0 n n (v3 : Int) (1 : Int) (0 : Int) (v0 : Int) (v1 : Int) (v2 : List T) := by kernel_rfl

/-! slices.ContainsFunc[[]loop.example/depkernel/impl.Term,loop.example/depkernel/impl.Term] -/
theorem E_slices_ContainsFunc_impl_areTerms_1 (n : Nat) (v0 : List T) : FF (n + 1) 108 [.one (.fr (.ts v0)), .one (.fn 127 [])] [] =
 ((FF n 139 [.one (.fr (.ts v0)), .one (.fn 127 [])] []).bind fun x0 =>
 (rInt .i64 x0.1 fun x1 x2 =>
 (nilV x2 (nilO x0.2
 (some ([.one (.bool (decide (0 ≤ x1)))], [])))))) := by kernel_rfl

/-! loop.example/depkernel/spec.l5Head -/
/-! loop.example/depkernel/impl.changed -/
noncomputable def L_impl_changed_impl_shift_1_0_foo (n c : Nat) (v0 : Int) (v1 : List T) (v2 : Int) (v3 : Int) (v4 : Int) (v5 : Int) (v6 : Bool) (v7 : Int) (v8 : Int) (v9 : List T) (v10 : Int) (v11 : Int) (v12 : List T) (v13 : Int) (v14 : Int) (v15 : List T) : OR := runLoop Tryz.prog SS n 128 3 [1, 1, 1, 0, 1, 0] [] c ⟨[.v (.one (.any)), .v (.one (.int .i64 v0)), .v (.one (.fn 129 [0, 1, 2])), .v (.one (.ptr 3 0)), .v (.one (.any)), .v (.one (.any)), .v (.one (.ptr 4 0)), .v (.one (.ptr 6 0)), .v (.one (.any)), .v (.one (.any)), .v (.one (.any)), .v (.one (.any)), .v (.one (.any)), .v (.one (.any)), .v (.one (.any)), .v (.one (.any)), .v (.one (.any)), .v (.one (.any)), .v (.one (.any)), .v (.one (.any)), .v (.one (.any)), .v (.one (.any)), .v (.one (.any)), .v (.one (.any)), .v (.one (.fr (.ts v1))), .v (.one (.int .i64 v2)), .v (.one (.int .i64 v3)), .v (.one (.any)), .v (.one (.any)), .v (.one (.any)), .v (.one (.any)), .v (.one (.any)), .v (.one (.any)), .v (.one (.any)), .v (.one (.any)), .v (.one (.any)), .v (.one (.any)), .v (.one (.any)), .v (.one (.any)), .v (.one (.any)), .v (.one (.any)), .v (.one (.any)), .v (.one (.any)), .v (.one (.any)), .v (.one (.any)), .v (.one (.any)), .v (.one (.any))],
  [.cells [.int .i64 v4], .cells [.int .i64 v5], .cells [.bool v6], .cells [.int .i64 v7, .int .i64 v8, .fr (.ts v9)], .cells [.int .i64 v10, .int .i64 v11, .own 5 0], .arr 35 (.ts v12) 0 false, .cells [.int .i64 v13, .int .i64 v14, .own 7 0], .arr 35 (.ts v15) 0 false]⟩
theorem L_impl_changed_impl_shift_1_0_foo_eq (n c : Nat) (v0 : Int) (v1 : List T) (v2 : Int) (v3 : Int) (v4 : Int) (v5 : Int) (v6 : Bool) (v7 : Int) (v8 : Int) (v9 : List T) (v10 : Int) (v11 : Int) (v12 : List T) (v13 : Int) (v14 : Int) (v15 : List T) : L_impl_changed_impl_shift_1_0_foo n (c + 1) v0 v1 v2 v3 v4 v5 v6 v7 v8 v9 v10 v11 v12 v13 v14 v15 =
 (cond ((decide (v3 < v2)))
 ((cond (decide (0 ≤ v3))
 (((v1)[(v3 : Int).toNat]?.bind fun x0 =>
 ((FF n 149 [.one (.int .i64 v7), .one (.int .i64 v3)] []).bind fun x1 =>
 (rInt .i64 x1.1 fun x2 x3 =>
 (nilV x3 (nilO x1.2
 (((FF n 128 [.agg [.int .i64 (x0).k, .int .i64 (x0).n, .fr (.ts (x0).kids)], .one (.int .i64 (IntKind.i64.wrap (v0 + x2))), .one (.fn 129 [0, 1, 2])] [.cells [.int .i64 v4], .cells [.int .i64 v5], .cells [.bool v6]]).bind fun x4 =>
 (objC x4.2 fun x5 x6 =>
 (intC .i64 x5 fun x7 x8 =>
 (nilC x8
 ((objC x6 fun x9 x10 =>
 (intC .i64 x9 fun x11 x12 =>
 (nilC x12
 ((objC x10 fun x13 x14 =>
 (boolC x13 fun x15 x16 =>
 (nilC x16
 ((rTerm x4.1 fun x17 x18 =>
 (nilV x18 (nilO x14
 ((cond (roomB (v15 ++ [(T.mk (x17).k (x17).n (x17).kids)]).length)
 (L_impl_changed_impl_shift_1_0_foo n c (v0 : Int) (v1 : List T) (v2 : Int) ((IntKind.i64.wrap (v3 + 1)) : Int) (x7 : Int) (x11 : Int) (x15 : Bool) (v7 : Int) (v8 : Int) (v9 : List T) (v10 : Int) (v11 : Int) (v12 : List T) (v13 : Int) (v14 : Int) ((v15 ++ [(T.mk (x17).k (x17).n (x17).kids)]) : List T))
 (none))))))))))))))))))))))))))
 (none)))
 (some ([.agg [.int .i64 v13, .int .i64 v14, .fr (.ts v15)]], [.cells [.int .i64 v4], .cells [.int .i64 v5], .cells [.bool v6]]))) := by kernel_rfl
theorem E_impl_changed_impl_shift_1 (n : Nat) (v0 : Int) (v1 : Int) (v2 : List T) (v3 : Int) (v4 : Int) (v5 : Int) (v6 : Bool) : FF (n + 1) 128 [.agg [.int .i64 v0, .int .i64 v1, .fr (.ts v2)], .one (.int .i64 v3), .one (.fn 129 [0, 1, 2])] [.cells [.int .i64 v4], .cells [.int .i64 v5], .cells [.bool v6]] =
 (cond ((decide (v0 = 1)))
 (((FF n 129 [.one (.int .i64 v1), .one (.int .i64 v3), .one (.ptr 0 0), .one (.ptr 1 0), .one (.ptr 2 0)] [.cells [.int .i64 v4], .cells [.int .i64 v5], .cells [.bool v6]]).bind fun x0 =>
 (objC x0.2 fun x1 x2 =>
 (intC .i64 x1 fun x3 x4 =>
 (nilC x4
 ((objC x2 fun x5 x6 =>
 (intC .i64 x5 fun x7 x8 =>
 (nilC x8
 ((objC x6 fun x9 x10 =>
 (boolC x9 fun x11 x12 =>
 (nilC x12
 ((rTerm x0.1 fun x13 x14 =>
 (nilV x14 (nilO x10
 (some ([.agg [.int .i64 (x13).k, .int .i64 (x13).n, .fr (.ts (x13).kids)]], [.cells [.int .i64 x3], .cells [.int .i64 x7], .cells [.bool x11]])))))))))))))))))))
 (L_impl_changed_impl_shift_1_0_foo n n (v3 : Int) (v2 : List T) (((v2).length : Int) : Int) (0 : Int) (v4 : Int) (v5 : Int) (v6 : Bool) (v0 : Int) (v1 : Int) (v2 : List T) (0 : Int) (0 : Int) ([] : List T) (v0 : Int) (v1 : Int) ([] : List T))) := by kernel_rfl

/-! loop.example/depkernel/spec.l5Kind -/
/-! loop.example/depkernel/impl.contracted -/
theorem E_impl_contracted (n : Nat) (v0 : Int) (v1 : Int) (v2 : List T) (v3 : List Int) : FF (n + 1) 130 [.agg [.int .i64 v0, .int .i64 v1, .fr (.ts v2)], .one (.fr (.is v3))] [] =
 ((FF n 168 [.agg [.int .i64 v0, .int .i64 v1, .fr (.ts v2)], .one (.fr (.is v3))] []).bind fun x0 =>
 (rTerm x0.1 fun x1 x2 =>
 (nilV x2 (nilO x0.2
 (((FF n 167 [.agg [.int .i64 (x1).k, .int .i64 (x1).n, .fr (.ts (x1).kids)]] []).bind fun x3 =>
 (rTerm x3.1 fun x4 x5 =>
 (rBool x5 fun x6 x7 =>
 (nilV x7 (nilO x3.2
 ((cond ((!x6))
 (some ([.agg [.int .i64 0, .int .i64 0, .fr (.ts [])], .one (.bool false)], []))
 (((FF n 169 [.agg [.int .i64 v0, .int .i64 v1, .fr (.ts v2)], .one (.fr (.is v3)), .agg [.int .i64 (x4).k, .int .i64 (x4).n, .fr (.ts (x4).kids)]] []).bind fun x8 =>
 (rTerm x8.1 fun x9 x10 =>
 (nilV x10 (nilO x8.2
 (((FF n 75 [.agg [.int .i64 (x9).k, .int .i64 (x9).n, .fr (.ts (x9).kids)]] []).bind fun x11 =>
 (rTerm x11.1 fun x12 x13 =>
 (nilV x13 (nilO x11.2
 (((FF n 92 [.agg [.int .i64 (x12).k, .int .i64 (x12).n, .fr (.ts (x12).kids)]] []).bind fun x14 =>
 (rTerm x14.1 fun x15 x16 =>
 (rBool x16 fun x17 x18 =>
 (nilV x18 (nilO x14.2
 (some ([.agg [.int .i64 (x15).k, .int .i64 (x15).n, .fr (.ts (x15).kids)], .one (.bool x17)], [])))))))))))))))))))))))))))))) := by kernel_rfl

/-! loop.example/depkernel/impl.inner -/
/-! loop.example/depkernel/spec.l1Draw -/
noncomputable def L_spec_l1Draw_0_foo (n c : Nat) (v0 : Int) (v1 : Int) (v2 : Int) (v3 : List UInt8) (v4 : Int) (v5 : Int) (v6 : Int) (v7 : List T) (v8 : Int) (v9 : Int) (v10 : List T) : OR := runLoop Tryz.prog SS n 131 1 [1, 1, 1, 1, 1, 0, 1, 0] [] c ⟨[.v (.one (.ptr 0 0)), .v (.one (.int .i64 v0)), .v (.one (.any)), .v (.one (.any)), .v (.one (.ptr 1 0)), .v (.one (.int .i64 v1)), .v (.one (.ptr 3 0)), .v (.one (.int .i64 v2)), .v (.one (.any)), .v (.one (.any)), .v (.one (.any)), .v (.one (.any)), .v (.one (.any)), .v (.one (.any)), .v (.one (.any)), .v (.one (.any)), .v (.one (.any)), .v (.one (.any)), .v (.one (.any)), .v (.one (.any)), .v (.one (.any)), .v (.one (.any)), .v (.one (.any)), .v (.one (.any)), .v (.one (.any)), .v (.one (.any)), .v (.one (.any)), .v (.one (.any)), .v (.one (.any)), .v (.one (.any)), .v (.one (.any)), .v (.one (.any)), .v (.one (.any)), .v (.one (.any)), .v (.one (.any)), .v (.one (.any)), .v (.one (.any)), .v (.one (.any)), .v (.one (.any)), .v (.one (.any)), .v (.one (.any))],
  [.cells [.fr (.bs v3), .int .i64 v4], .cells [.int .i64 v5, .int .i64 v6, .own 2 0], .arr 35 (.ts v7) 0 false, .cells [.int .i64 v8, .int .i64 v9, .own 4 0], .arr 35 (.ts v10) 0 false]⟩
theorem L_spec_l1Draw_0_foo_eq (n c : Nat) (v0 : Int) (v1 : Int) (v2 : Int) (v3 : List UInt8) (v4 : Int) (v5 : Int) (v6 : Int) (v7 : List T) (v8 : Int) (v9 : Int) (v10 : List T) : L_spec_l1Draw_0_foo n (c + 1) v0 v1 v2 v3 v4 v5 v6 v7 v8 v9 v10 =
 ((FF n 137 [.one (.int .i64 v1)] []).bind fun x0 =>
 (rInt .i64 x0.1 fun x1 x2 =>
 (nilV x2 (nilO x0.2
 ((cond ((decide (v2 < x1)))
 (((FF n 131 [.one (.ptr 0 0), .one (.int .i64 (IntKind.i64.wrap (v0 - 1)))] [.cells [.fr (.bs v3), .int .i64 v4]]).bind fun x3 =>
 (objC x3.2 fun x4 x5 =>
 (bsC x4 fun x6 x7 =>
 (intC .i64 x7 fun x8 x9 =>
 (nilC x9
 ((rTerm x3.1 fun x10 x11 =>
 (nilV x11 (nilO x5
 ((cond (roomB (v10 ++ [(T.mk (x10).k (x10).n (x10).kids)]).length)
 (L_spec_l1Draw_0_foo n c (v0 : Int) (v1 : Int) ((IntKind.i64.wrap (v2 + 1)) : Int) (x6 : List UInt8) (x8 : Int) (v5 : Int) (v6 : Int) (v7 : List T) (v8 : Int) (v9 : Int) ((v10 ++ [(T.mk (x10).k (x10).n (x10).kids)]) : List T))
 (none)))))))))))))
 (some ([.agg [.int .i64 v8, .int .i64 v9, .fr (.ts v10)]], [.cells [.fr (.bs v3), .int .i64 v4]])))))))) := by kernel_rfl
theorem E_spec_l1Draw (n : Nat) (v0 : Int) (v1 : List UInt8) (v2 : Int) : FF (n + 1) 131 [.one (.ptr 0 0), .one (.int .i64 v0)] [.cells [.fr (.bs v1), .int .i64 v2]] =
 ((FF n 118 [.one (.ptr 0 0), .one (.fr (.is [1, 5, 4, 8, 9, 3, 6, 7, 11, 15, 14, 10, 12, 13, 16, 2]))] [.cells [.fr (.bs v1), .int .i64 v2]]).bind fun x0 =>
 (objC x0.2 fun x1 x2 =>
 (bsC x1 fun x3 x4 =>
 (intC .i64 x4 fun x5 x6 =>
 (nilC x6
 ((rInt .i64 x0.1 fun x7 x8 =>
 (nilV x8 (nilO x2
 ((cond ((decide (v0 < 2)))
 (((FF n 118 [.one (.ptr 0 0), .one (.fr (.is [1, 7, 6, 2, 1]))] [.cells [.fr (.bs x3), .int .i64 x5]]).bind fun x9 =>
 (objC x9.2 fun x10 x11 =>
 (bsC x10 fun x12 x13 =>
 (intC .i64 x13 fun x14 x15 =>
 (nilC x15
 ((rInt .i64 x9.1 fun x16 x17 =>
 (nilV x17 (nilO x11
 (((FF n 138 [.one (.int .i64 x16)] []).bind fun x18 =>
 (rInt .i64 x18.1 fun x19 x20 =>
 (nilV x20 (nilO x18.2
 ((cond ((decide (0 < x19)))
 (((FF n 118 [.one (.ptr 0 0), .one (.fr (.is [0, 1, 0, 2, 1, 3]))] [.cells [.fr (.bs x12), .int .i64 x14]]).bind fun x21 =>
 (objC x21.2 fun x22 x23 =>
 (bsC x22 fun x24 x25 =>
 (intC .i64 x25 fun x26 x27 =>
 (nilC x27
 ((rInt .i64 x21.1 fun x28 x29 =>
 (nilV x29 (nilO x23
 (L_spec_l1Draw_0_foo n n (v0 : Int) (x16 : Int) (0 : Int) (x24 : List UInt8) (x26 : Int) (0 : Int) (0 : Int) ([] : List T) (x16 : Int) (x28 : Int) ([] : List T))))))))))))
 (L_spec_l1Draw_0_foo n n (v0 : Int) (x16 : Int) (0 : Int) (x12 : List UInt8) (x14 : Int) (0 : Int) (0 : Int) ([] : List T) (x16 : Int) (0 : Int) ([] : List T)))))))))))))))))))
 (((FF n 138 [.one (.int .i64 x7)] []).bind fun x9 =>
 (rInt .i64 x9.1 fun x10 x11 =>
 (nilV x11 (nilO x9.2
 ((cond ((decide (0 < x10)))
 (((FF n 118 [.one (.ptr 0 0), .one (.fr (.is [0, 1, 0, 2, 1, 3]))] [.cells [.fr (.bs x3), .int .i64 x5]]).bind fun x12 =>
 (objC x12.2 fun x13 x14 =>
 (bsC x13 fun x15 x16 =>
 (intC .i64 x16 fun x17 x18 =>
 (nilC x18
 ((rInt .i64 x12.1 fun x19 x20 =>
 (nilV x20 (nilO x14
 (L_spec_l1Draw_0_foo n n (v0 : Int) (x7 : Int) (0 : Int) (x15 : List UInt8) (x17 : Int) (0 : Int) (0 : Int) ([] : List T) (x7 : Int) (x19 : Int) ([] : List T))))))))))))
 (L_spec_l1Draw_0_foo n n (v0 : Int) (x7 : Int) (0 : Int) (x3 : List UInt8) (x5 : Int) (0 : Int) (0 : Int) ([] : List T) (x7 : Int) (0 : Int) ([] : List T)))))))))))))))))))) := by kernel_rfl

/-! loop.example/depkernel/spec.l2Under -/
/-! loop.example/depkernel/spec.l5Same -/
/-! loop.example/depkernel/spec.ParseTerm -/
theorem E_spec_ParseTerm (n : Nat) (v0 : ByteArray) : FF (n + 1) 165 [.one (.str v0)] [] =
 ((FF n 188 [.one (.str v0), .one (.int .i64 0), .one (.int .i64 30)] []).bind fun x0 =>
 (rTerm x0.1 fun x1 x2 =>
 (rInt .i64 x2 fun x3 x4 =>
 (nilV x4 (nilO x0.2
 ((cond (((v0).toList == ((bytesOf [])).toList))
 (some ([.agg [.int .i64 0, .int .i64 0, .fr (.ts [])], .one (.bool false)], []))
 ((cond ((!decide (x3 = ((v0).size : Int))))
 (some ([.agg [.int .i64 0, .int .i64 0, .fr (.ts [])], .one (.bool false)], []))
 (((FF n 189 [.agg [.int .i64 (x1).k, .int .i64 (x1).n, .fr (.ts (x1).kids)]] []).bind fun x5 =>
 (rStr x5.1 fun x6 x7 =>
 (nilV x7 (nilO x5.2
 ((cond ((!((x6).toList == (v0).toList)))
 (some ([.agg [.int .i64 0, .int .i64 0, .fr (.ts [])], .one (.bool false)], []))
 (some ([.agg [.int .i64 (x1).k, .int .i64 (x1).n, .fr (.ts (x1).kids)], .one (.bool true)], [])))))))))))))))))) := by kernel_rfl

/-! loop.example/depkernel/spec.l3Step -/
/-! slices.IndexFunc[[]loop.example/depkernel/impl.Term,loop.example/depkernel/impl.Term] -/
noncomputable def L_slices_IndexFunc_impl_ready_1_0 (n c : Nat) (v0 : List T) (v1 : Int) (v2 : Int) : OR := runLoop Tryz.prog SS n 139 0 [1, 0, 1, 0] [] c ⟨[.v (.one (.fr (.ts v0))), .v (.one (.fn 109 [])), .v (.one (.any)), .v (.one (.any)), .v (.one (.any)), .v (.one (.any)), .v (.one (.any)), .v (.one (.int .i64 v1)), .v (.one (.int .i64 v2)), .v (.one (.any)), .v (.one (.any)), .v (.one (.any)), .v (.one (.any)), .v (.one (.any)), .v (.one (.any)), .v (.one (.any)), .v (.one (.any)), .v (.one (.any)), .v (.one (.any))],
  []⟩
theorem L_slices_IndexFunc_impl_ready_1_0_eq (n c : Nat) (v0 : List T) (v1 : Int) (v2 : Int) : L_slices_IndexFunc_impl_ready_1_0 n (c + 1) v0 v1 v2 =
 (cond ((decide (v2 < v1)))
 ((cond (decide (0 ≤ v2))
 (((v0)[(v2 : Int).toNat]?.bind fun x0 =>
 ((FF n 109 [.agg [.int .i64 (x0).k, .int .i64 (x0).n, .fr (.ts (x0).kids)]] []).bind fun x1 =>
 (rBool x1.1 fun x2 x3 =>
 (nilV x3 (nilO x1.2
 ((cond (x2)
 (some ([.one (.int .i64 v2)], []))
 (L_slices_IndexFunc_impl_ready_1_0 n c (v0 : List T) (v1 : Int) ((IntKind.i64.wrap (v2 + 1)) : Int))))))))))
 (none)))
 (some ([.one (.int .i64 (-1))], []))) := by kernel_rfl
theorem E_slices_IndexFunc_impl_ready_1 (n : Nat) (v0 : List T) : FF (n + 1) 139 [.one (.fr (.ts v0)), .one (.fn 109 [])] [] =
 L_slices_IndexFunc_impl_ready_1_0 n n (v0 : List T) (((v0).length : Int) : Int) (0 : Int) := by kernel_rfl

/-! loop.example/depkernel/impl.shaped -/
theorem E_impl_shaped (n : Nat) (v0 : Int) (v1 : Int) (v2 : List T) (v3 : Int) : FF (n + 1) 136 [.agg [.int .i64 v0, .int .i64 v1, .fr (.ts v2)], .one (.int .i64 v3)] [] =
 ((FF n 172 [.agg [.int .i64 v0, .int .i64 v1, .fr (.ts v2)], .one (.int .i64 200)] []).bind fun x0 =>
 (rTerm x0.1 fun x1 x2 =>
 (rInt .i64 x2 fun x3 x4 =>
 (nilV x4 (nilO x0.2
 ((cond ((!decide (x3 = 0)))
 (some ([.agg [.int .i64 0, .int .i64 0, .fr (.ts [])], .one (.int .i64 2)], []))
 ((cond ((!decide ((x1).k = v3)))
 (some ([.agg [.int .i64 0, .int .i64 0, .fr (.ts [])], .one (.int .i64 1)], []))
 (some ([.agg [.int .i64 (x1).k, .int .i64 (x1).n, .fr (.ts (x1).kids)], .one (.int .i64 0)], []))))))))))) := by kernel_rfl

end Go.Proofs.YthopkmimhlcjkaaGreat
end
section
/- What the program's functions come to in the abstract run. -/
set_option linter.unusedVariables false
namespace Go.Proofs.YthopkmimhlcjkaaGreat
open Go Go.Ab Go.Dk
/-! loop.example/depkernel/impl.changed -/
noncomputable def L_impl_changed_impl_subst_1_0_ffoo (n c : Nat) (v0 : Int) (v1 : List T) (v2 : Int) (v3 : Int) (v4 : Int) (v5 : Int) (v6 : Int) (v7 : List T) (v8 : Bool) (v9 : Int) (v10 : Int) (v11 : List T) (v12 : Int) (v13 : Int) (v14 : List T) (v15 : Int) (v16 : Int) (v17 : List T) : OR := runLoop Tryz.prog SS n 128 3 [1, 1, 1, 0, 1, 0] [] c ⟨[.v (.one (.any)), .v (.one (.int .i64 v0)), .v (.one (.fn 166 [0, 1, 2])), .v (.one (.ptr 3 0)), .v (.one (.any)), .v (.one (.any)), .v (.one (.ptr 4 0)), .v (.one (.ptr 6 0)), .v (.one (.any)), .v (.one (.any)), .v (.one (.any)), .v (.one (.any)), .v (.one (.any)), .v (.one (.any)), .v (.one (.any)), .v (.one (.any)), .v (.one (.any)), .v (.one (.any)), .v (.one (.any)), .v (.one (.any)), .v (.one (.any)), .v (.one (.any)), .v (.one (.any)), .v (.one (.any)), .v (.one (.fr (.ts v1))), .v (.one (.int .i64 v2)), .v (.one (.int .i64 v3)), .v (.one (.any)), .v (.one (.any)), .v (.one (.any)), .v (.one (.any)), .v (.one (.any)), .v (.one (.any)), .v (.one (.any)), .v (.one (.any)), .v (.one (.any)), .v (.one (.any)), .v (.one (.any)), .v (.one (.any)), .v (.one (.any)), .v (.one (.any)), .v (.one (.any)), .v (.one (.any)), .v (.one (.any)), .v (.one (.any)), .v (.one (.any)), .v (.one (.any))],
  [.cells [.int .i64 v4], .cells [.int .i64 v5, .int .i64 v6, .fr (.ts v7)], .cells [.bool v8], .cells [.int .i64 v9, .int .i64 v10, .fr (.ts v11)], .cells [.int .i64 v12, .int .i64 v13, .own 5 0], .arr 35 (.ts v14) 0 false, .cells [.int .i64 v15, .int .i64 v16, .own 7 0], .arr 35 (.ts v17) 0 false]⟩
theorem L_impl_changed_impl_subst_1_0_ffoo_eq (n c : Nat) (v0 : Int) (v1 : List T) (v2 : Int) (v3 : Int) (v4 : Int) (v5 : Int) (v6 : Int) (v7 : List T) (v8 : Bool) (v9 : Int) (v10 : Int) (v11 : List T) (v12 : Int) (v13 : Int) (v14 : List T) (v15 : Int) (v16 : Int) (v17 : List T) : L_impl_changed_impl_subst_1_0_ffoo n (c + 1) v0 v1 v2 v3 v4 v5 v6 v7 v8 v9 v10 v11 v12 v13 v14 v15 v16 v17 =
 (cond ((decide (v3 < v2)))
 ((cond (decide (0 ≤ v3))
 (((v1)[(v3 : Int).toNat]?.bind fun x0 =>
 ((FF n 149 [.one (.int .i64 v9), .one (.int .i64 v3)] []).bind fun x1 =>
 (rInt .i64 x1.1 fun x2 x3 =>
 (nilV x3 (nilO x1.2
 (((FF n 128 [.agg [.int .i64 (x0).k, .int .i64 (x0).n, .fr (.ts (x0).kids)], .one (.int .i64 (IntKind.i64.wrap (v0 + x2))), .one (.fn 166 [0, 1, 2])] [.cells [.int .i64 v4], .cells [.int .i64 v5, .int .i64 v6, .fr (.ts v7)], .cells [.bool v8]]).bind fun x4 =>
 (objC x4.2 fun x5 x6 =>
 (intC .i64 x5 fun x7 x8 =>
 (nilC x8
 ((objC x6 fun x9 x10 =>
 (intC .i64 x9 fun x11 x12 =>
 (intC .i64 x12 fun x13 x14 =>
 (tsC x14 fun x15 x16 =>
 (nilC x16
 ((objC x10 fun x17 x18 =>
 (boolC x17 fun x19 x20 =>
 (nilC x20
 ((rTerm x4.1 fun x21 x22 =>
 (nilV x22 (nilO x18
 ((cond (roomB (v17 ++ [(T.mk (x21).k (x21).n (x21).kids)]).length)
 (L_impl_changed_impl_subst_1_0_ffoo n c (v0 : Int) (v1 : List T) (v2 : Int) ((IntKind.i64.wrap (v3 + 1)) : Int) (x7 : Int) (x11 : Int) (x13 : Int) (x15 : List T) (x19 : Bool) (v9 : Int) (v10 : Int) (v11 : List T) (v12 : Int) (v13 : Int) (v14 : List T) (v15 : Int) (v16 : Int) ((v17 ++ [(T.mk (x21).k (x21).n (x21).kids)]) : List T))
 (none))))))))))))))))))))))))))))
 (none)))
 (some ([.agg [.int .i64 v15, .int .i64 v16, .fr (.ts v17)]], [.cells [.int .i64 v4], .cells [.int .i64 v5, .int .i64 v6, .fr (.ts v7)], .cells [.bool v8]]))) := by kernel_rfl
theorem E_impl_changed_impl_subst_1 (n : Nat) (v0 : Int) (v1 : Int) (v2 : List T) (v3 : Int) (v4 : Int) (v5 : Int) (v6 : Int) (v7 : List T) (v8 : Bool) : FF (n + 1) 128 [.agg [.int .i64 v0, .int .i64 v1, .fr (.ts v2)], .one (.int .i64 v3), .one (.fn 166 [0, 1, 2])] [.cells [.int .i64 v4], .cells [.int .i64 v5, .int .i64 v6, .fr (.ts v7)], .cells [.bool v8]] =
 (cond ((decide (v0 = 1)))
 (((FF n 166 [.one (.int .i64 v1), .one (.int .i64 v3), .one (.ptr 0 0), .one (.ptr 1 0), .one (.ptr 2 0)] [.cells [.int .i64 v4], .cells [.int .i64 v5, .int .i64 v6, .fr (.ts v7)], .cells [.bool v8]]).bind fun x0 =>
 (objC x0.2 fun x1 x2 =>
 (intC .i64 x1 fun x3 x4 =>
 (nilC x4
 ((objC x2 fun x5 x6 =>
 (intC .i64 x5 fun x7 x8 =>
 (intC .i64 x8 fun x9 x10 =>
 (tsC x10 fun x11 x12 =>
 (nilC x12
 ((objC x6 fun x13 x14 =>
 (boolC x13 fun x15 x16 =>
 (nilC x16
 ((rTerm x0.1 fun x17 x18 =>
 (nilV x18 (nilO x14
 (some ([.agg [.int .i64 (x17).k, .int .i64 (x17).n, .fr (.ts (x17).kids)]], [.cells [.int .i64 x3], .cells [.int .i64 x7, .int .i64 x9, .fr (.ts x11)], .cells [.bool x15]])))))))))))))))))))))
 (L_impl_changed_impl_subst_1_0_ffoo n n (v3 : Int) (v2 : List T) (((v2).length : Int) : Int) (0 : Int) (v4 : Int) (v5 : Int) (v6 : Int) (v7 : List T) (v8 : Bool) (v0 : Int) (v1 : Int) (v2 : List T) (0 : Int) (0 : Int) ([] : List T) (v0 : Int) (v1 : Int) ([] : List T))) := by kernel_rfl

/-! loop.example/depkernel/impl.made -/
theorem E_impl_made (n : Nat) (v0 : Int) (v1 : Int) (v2 : List T) (v3 : Bool) : FF (n + 1) 151 [.agg [.int .i64 v0, .int .i64 v1, .fr (.ts v2)], .one (.bool v3)] [] =
 (cond ((!v3))
 (some ([.agg [.int .i64 0, .int .i64 0, .fr (.ts [])], .one (.int .i64 2)], []))
 (((FF n 66 [.agg [.int .i64 v0, .int .i64 v1, .fr (.ts v2)]] []).bind fun x0 =>
 (rBool x0.1 fun x1 x2 =>
 (nilV x2 (nilO x0.2
 ((cond ((!x1))
 (some ([.agg [.int .i64 0, .int .i64 0, .fr (.ts [])], .one (.int .i64 2)], []))
 (some ([.agg [.int .i64 v0, .int .i64 v1, .fr (.ts v2)], .one (.int .i64 0)], [])))))))))) := by kernel_rfl

/-! loop.example/depkernel/impl.sort -/
theorem E_impl_sort (n : Nat) (v0 : Int) : FF (n + 1) 152 [.one (.int .i64 v0)] [] =
 some ([.agg [.int .i64 2, .int .i64 v0, .fr (.ts [])]], []) := by kernel_rfl

/-! loop.example/depkernel/impl.node -/
theorem E_impl_node_emp (n : Nat) (v0 : Int) : FF (n + 1) 91 [.one (.int .i64 v0), .one (.emp none)] [] =
 some ([.agg [.int .i64 v0, .int .i64 0, .fr (.ts [])]], []) := by kernel_rfl

/-! (loop.example/depkernel/impl.judge).check -/
theorem E_impl_judge_check_impl_infer_1 (n : Nat) (v0 : List T) (v1 : Int) (v2 : Int) (v3 : List T) (v4 : Int) (v5 : Int) (v6 : Int) (v7 : List T) (v8 : List T) (v9 : Int) (v10 : Int) (v11 : List T) : FF (n + 1) 153 [.agg [.fr (.ts v0), .int .i64 v1, .int .i64 v2, .fr (.ts v3), .fn 114 [0, 1]], .one (.int .i64 v4), .agg [.int .i64 v5, .int .i64 v6, .fr (.ts v7)]] [.cells [.fr (.ts v8)], .cells [.int .i64 v9, .int .i64 v10, .fr (.ts v11)]] =
 ((FF n 114 [.one (.int .i64 v4), .one (.ptr 0 0), .one (.ptr 1 0)] [.cells [.fr (.ts v8)], .cells [.int .i64 v9, .int .i64 v10, .fr (.ts v11)]]).bind fun x0 =>
 (objC x0.2 fun x1 x2 =>
 (tsC x1 fun x3 x4 =>
 (nilC x4
 ((objC x2 fun x5 x6 =>
 (intC .i64 x5 fun x7 x8 =>
 (intC .i64 x8 fun x9 x10 =>
 (tsC x10 fun x11 x12 =>
 (nilC x12
 ((rTerm x0.1 fun x13 x14 =>
 (rInt .i64 x14 fun x15 x16 =>
 (nilV x16 (nilO x6
 ((cond ((!decide (x15 = 0)))
 (some ([.one (.int .i64 x15)], [.cells [.fr (.ts x3)], .cells [.int .i64 x7, .int .i64 x9, .fr (.ts x11)]]))
 (((FF n 111 [.agg [.int .i64 (x13).k, .int .i64 (x13).n, .fr (.ts (x13).kids)], .agg [.int .i64 v5, .int .i64 v6, .fr (.ts v7)]] []).bind fun x17 =>
 (rInt .i64 x17.1 fun x18 x19 =>
 (nilV x19 (nilO x17.2
 (some ([.one (.int .i64 x18)], [.cells [.fr (.ts x3)], .cells [.int .i64 x7, .int .i64 x9, .fr (.ts x11)]])))))))))))))))))))))))) := by kernel_rfl

/-! (loop.example/depkernel/impl.judge).arrow -/
theorem E_impl_judge_arrow_impl_infer_1 (n : Nat) (v0 : List T) (v1 : Int) (v2 : Int) (v3 : List T) (v4 : List T) (v5 : Int) (v6 : Int) (v7 : List T) : FF (n + 1) 154 [.agg [.fr (.ts v0), .int .i64 v1, .int .i64 v2, .fr (.ts v3), .fn 114 [0, 1]]] [.cells [.fr (.ts v4)], .cells [.int .i64 v5, .int .i64 v6, .fr (.ts v7)]] =
 ((FF n 183 [.agg [.fr (.ts v0), .int .i64 v1, .int .i64 v2, .fr (.ts v3), .fn 114 [0, 1]], .one (.int .i64 0)] [.cells [.fr (.ts v4)], .cells [.int .i64 v5, .int .i64 v6, .fr (.ts v7)]]).bind fun x0 =>
 (objC x0.2 fun x1 x2 =>
 (tsC x1 fun x3 x4 =>
 (nilC x4
 ((objC x2 fun x5 x6 =>
 (intC .i64 x5 fun x7 x8 =>
 (intC .i64 x8 fun x9 x10 =>
 (tsC x10 fun x11 x12 =>
 (nilC x12
 ((rInt .i64 x0.1 fun x13 x14 =>
 (rInt .i64 x14 fun x15 x16 =>
 (nilV x16 (nilO x6
 ((cond ((!decide (x15 = 0)))
 (some ([.agg [.int .i64 0, .int .i64 0, .fr (.ts [])], .one (.int .i64 x15)], [.cells [.fr (.ts x3)], .cells [.int .i64 x7, .int .i64 x9, .fr (.ts x11)]]))
 (((FF n 183 [.agg [.fr (.ts v0), .int .i64 v1, .int .i64 v2, .fr (.ts v3), .fn 114 [0, 1]], .one (.int .i64 1)] [.cells [.fr (.ts x3)], .cells [.int .i64 x7, .int .i64 x9, .fr (.ts x11)]]).bind fun x17 =>
 (objC x17.2 fun x18 x19 =>
 (tsC x18 fun x20 x21 =>
 (nilC x21
 ((objC x19 fun x22 x23 =>
 (intC .i64 x22 fun x24 x25 =>
 (intC .i64 x25 fun x26 x27 =>
 (tsC x27 fun x28 x29 =>
 (nilC x29
 ((rInt .i64 x17.1 fun x30 x31 =>
 (rInt .i64 x31 fun x32 x33 =>
 (nilV x33 (nilO x23
 ((cond ((!decide (x32 = 0)))
 (some ([.agg [.int .i64 0, .int .i64 0, .fr (.ts [])], .one (.int .i64 x32)], [.cells [.fr (.ts x20)], .cells [.int .i64 x24, .int .i64 x26, .fr (.ts x28)]]))
 (((FF n 152 [.one (.int .i64 (max x13 x30))] []).bind fun x34 =>
 (rTerm x34.1 fun x35 x36 =>
 (nilV x36 (nilO x34.2
 (some ([.agg [.int .i64 (x35).k, .int .i64 (x35).n, .fr (.ts (x35).kids)], .one (.int .i64 0)], [.cells [.fr (.ts x20)], .cells [.int .i64 x24, .int .i64 x26, .fr (.ts x28)]])))))))))))))))))))))))))))))))))))))))))) := by kernel_rfl

/-! (loop.example/depkernel/impl.judge).function -/
theorem E_impl_judge_function_impl_infer_1 (n : Nat) (v0 : List T) (v1 : Int) (v2 : Int) (v3 : List T) (v4 : List T) (v5 : Int) (v6 : Int) (v7 : List T) : FF (n + 1) 155 [.agg [.fr (.ts v0), .int .i64 v1, .int .i64 v2, .fr (.ts v3), .fn 114 [0, 1]]] [.cells [.fr (.ts v4)], .cells [.int .i64 v5, .int .i64 v6, .fr (.ts v7)]] =
 ((FF n 183 [.agg [.fr (.ts v0), .int .i64 v1, .int .i64 v2, .fr (.ts v3), .fn 114 [0, 1]], .one (.int .i64 0)] [.cells [.fr (.ts v4)], .cells [.int .i64 v5, .int .i64 v6, .fr (.ts v7)]]).bind fun x0 =>
 (objC x0.2 fun x1 x2 =>
 (tsC x1 fun x3 x4 =>
 (nilC x4
 ((objC x2 fun x5 x6 =>
 (intC .i64 x5 fun x7 x8 =>
 (intC .i64 x8 fun x9 x10 =>
 (tsC x10 fun x11 x12 =>
 (nilC x12
 ((rInt .i64 x0.1 fun x13 x14 =>
 (rInt .i64 x14 fun x15 x16 =>
 (nilV x16 (nilO x6
 ((cond ((!decide (x15 = 0)))
 (some ([.agg [.int .i64 0, .int .i64 0, .fr (.ts [])], .one (.int .i64 x15)], [.cells [.fr (.ts x3)], .cells [.int .i64 x7, .int .i64 x9, .fr (.ts x11)]]))
 (((FF n 114 [.one (.int .i64 1), .one (.ptr 0 0), .one (.ptr 1 0)] [.cells [.fr (.ts x3)], .cells [.int .i64 x7, .int .i64 x9, .fr (.ts x11)]]).bind fun x17 =>
 (objC x17.2 fun x18 x19 =>
 (tsC x18 fun x20 x21 =>
 (nilC x21
 ((objC x19 fun x22 x23 =>
 (intC .i64 x22 fun x24 x25 =>
 (intC .i64 x25 fun x26 x27 =>
 (tsC x27 fun x28 x29 =>
 (nilC x29
 ((rTerm x17.1 fun x30 x31 =>
 (rInt .i64 x31 fun x32 x33 =>
 (nilV x33 (nilO x23
 ((cond ((!decide (x32 = 0)))
 (some ([.agg [.int .i64 0, .int .i64 0, .fr (.ts [])], .one (.int .i64 x32)], [.cells [.fr (.ts x20)], .cells [.int .i64 x24, .int .i64 x26, .fr (.ts x28)]]))
 (((v3)[(0 : Int).toNat]?.bind fun x34 =>
 ((FF n 91 [.one (.int .i64 3), .one (.fr (.ts [(T.mk (x34).k (x34).n (x34).kids), (T.mk (x30).k (x30).n (x30).kids)]))] []).bind fun x35 =>
 (rTerm x35.1 fun x36 x37 =>
 (nilV x37 (nilO x35.2
 (((FF n 151 [.agg [.int .i64 (x36).k, .int .i64 (x36).n, .fr (.ts (x36).kids)], .one (.bool true)] []).bind fun x38 =>
 (rTerm x38.1 fun x39 x40 =>
 (rInt .i64 x40 fun x41 x42 =>
 (nilV x42 (nilO x38.2
 ((cond ((!decide (x41 = 0)))
 (some ([.agg [.int .i64 0, .int .i64 0, .fr (.ts [])], .one (.int .i64 x41)], [.cells [.fr (.ts x20)], .cells [.int .i64 x24, .int .i64 x26, .fr (.ts x28)]]))
 (((FF n 74 [.one (.fr (.ts v0)), .agg [.int .i64 (x39).k, .int .i64 (x39).n, .fr (.ts (x39).kids)]] []).bind fun x43 =>
 (rTerm x43.1 fun x44 x45 =>
 (rInt .i64 x45 fun x46 x47 =>
 (nilV x47 (nilO x43.2
 ((cond ((!decide (x46 = 0)))
 (some ([.agg [.int .i64 0, .int .i64 0, .fr (.ts [])], .one (.int .i64 x46)], [.cells [.fr (.ts x20)], .cells [.int .i64 x24, .int .i64 x26, .fr (.ts x28)]]))
 (some ([.agg [.int .i64 (x39).k, .int .i64 (x39).n, .fr (.ts (x39).kids)], .one (.int .i64 0)], [.cells [.fr (.ts x20)], .cells [.int .i64 x24, .int .i64 x26, .fr (.ts x28)]]))))))))))))))))))))))))))))))))))))))))))))))))))))))))))) := by kernel_rfl

/-! (loop.example/depkernel/impl.judge).form -/
theorem E_impl_judge_form_impl_infer_1 (n : Nat) (v0 : List T) (v1 : Int) (v2 : Int) (v3 : List T) (v4 : Int) (v5 : Int) (v6 : List T) (v7 : Int) (v8 : Int) (v9 : List T) : FF (n + 1) 156 [.agg [.fr (.ts v0), .int .i64 v1, .int .i64 v2, .fr (.ts v3), .fn 114 [0, 1]], .one (.int .i64 v4), .one (.int .i64 v5)] [.cells [.fr (.ts v6)], .cells [.int .i64 v7, .int .i64 v8, .fr (.ts v9)]] =
 ((FF n 114 [.one (.int .i64 v4), .one (.ptr 0 0), .one (.ptr 1 0)] [.cells [.fr (.ts v6)], .cells [.int .i64 v7, .int .i64 v8, .fr (.ts v9)]]).bind fun x0 =>
 (objC x0.2 fun x1 x2 =>
 (tsC x1 fun x3 x4 =>
 (nilC x4
 ((objC x2 fun x5 x6 =>
 (intC .i64 x5 fun x7 x8 =>
 (intC .i64 x8 fun x9 x10 =>
 (tsC x10 fun x11 x12 =>
 (nilC x12
 ((rTerm x0.1 fun x13 x14 =>
 (rInt .i64 x14 fun x15 x16 =>
 (nilV x16 (nilO x6
 ((cond ((!decide (x15 = 0)))
 (some ([.agg [.int .i64 0, .int .i64 0, .fr (.ts [])], .one (.int .i64 x15)], [.cells [.fr (.ts x3)], .cells [.int .i64 x7, .int .i64 x9, .fr (.ts x11)]]))
 (((FF n 136 [.agg [.int .i64 (x13).k, .int .i64 (x13).n, .fr (.ts (x13).kids)], .one (.int .i64 v5)] []).bind fun x17 =>
 (rTerm x17.1 fun x18 x19 =>
 (rInt .i64 x19 fun x20 x21 =>
 (nilV x21 (nilO x17.2
 (some ([.agg [.int .i64 (x18).k, .int .i64 (x18).n, .fr (.ts (x18).kids)], .one (.int .i64 x20)], [.cells [.fr (.ts x3)], .cells [.int .i64 x7, .int .i64 x9, .fr (.ts x11)]]))))))))))))))))))))))))) := by kernel_rfl

/-! loop.example/depkernel/impl.sideOf -/
theorem E_impl_sideOf (n : Nat) (v0 : Int) (v1 : Int) (v2 : List T) : FF (n + 1) 158 [.agg [.int .i64 v0, .int .i64 v1, .fr (.ts v2)]] [] =
 (cond ((decide (((v2).length : Int) = 0)))
 (some ([.agg [.int .i64 0, .int .i64 0, .fr (.ts [])]], []))
 (((v2)[(0 : Int).toNat]?.bind fun x0 =>
 some ([.agg [.int .i64 (x0).k, .int .i64 (x0).n, .fr (.ts (x0).kids)]], [])))) := by kernel_rfl

/-! (loop.example/depkernel/impl.judge).has -/
theorem E_impl_judge_has_impl_infer_1 (n : Nat) (v0 : List T) (v1 : Int) (v2 : Int) (v3 : List T) (v4 : Int) (v5 : Int) (v6 : Int) (v7 : List T) (v8 : Int) (v9 : List T) (v10 : Int) (v11 : Int) (v12 : List T) : FF (n + 1) 157 [.agg [.fr (.ts v0), .int .i64 v1, .int .i64 v2, .fr (.ts v3), .fn 114 [0, 1]], .one (.int .i64 v4), .agg [.int .i64 v5, .int .i64 v6, .fr (.ts v7)], .one (.int .i64 v8)] [.cells [.fr (.ts v9)], .cells [.int .i64 v10, .int .i64 v11, .fr (.ts v12)]] =
 (cond ((!decide (v8 = 0)))
 (some ([.one (.int .i64 v8)], [.cells [.fr (.ts v9)], .cells [.int .i64 v10, .int .i64 v11, .fr (.ts v12)]]))
 (((FF n 153 [.agg [.fr (.ts v0), .int .i64 v1, .int .i64 v2, .fr (.ts v3), .fn 114 [0, 1]], .one (.int .i64 v4), .agg [.int .i64 v5, .int .i64 v6, .fr (.ts v7)]] [.cells [.fr (.ts v9)], .cells [.int .i64 v10, .int .i64 v11, .fr (.ts v12)]]).bind fun x0 =>
 (objC x0.2 fun x1 x2 =>
 (tsC x1 fun x3 x4 =>
 (nilC x4
 ((objC x2 fun x5 x6 =>
 (intC .i64 x5 fun x7 x8 =>
 (intC .i64 x8 fun x9 x10 =>
 (tsC x10 fun x11 x12 =>
 (nilC x12
 ((rInt .i64 x0.1 fun x13 x14 =>
 (nilV x14 (nilO x6
 (some ([.one (.int .i64 x13)], [.cells [.fr (.ts x3)], .cells [.int .i64 x7, .int .i64 x9, .fr (.ts x11)]])))))))))))))))))) := by kernel_rfl

/-! (loop.example/depkernel/impl.judge).recursion -/
theorem E_impl_judge_recursion_impl_infer_1 (n : Nat) (v0 : List T) (v1 : Int) (v2 : Int) (v3 : List T) (v4 : List T) (v5 : Int) (v6 : Int) (v7 : List T) : FF (n + 1) 159 [.agg [.fr (.ts v0), .int .i64 v1, .int .i64 v2, .fr (.ts v3), .fn 114 [0, 1]]] [.cells [.fr (.ts v4)], .cells [.int .i64 v5, .int .i64 v6, .fr (.ts v7)]] =
 ((v3)[(0 : Int).toNat]?.bind fun x0 =>
 ((FF n 91 [.one (.int .i64 6), .one (.emp none)] []).bind fun x1 =>
 (rTerm x1.1 fun x2 x3 =>
 (nilV x3 (nilO x1.2
 (((FF n 184 [.agg [.fr (.ts v0), .int .i64 v1, .int .i64 v2, .fr (.ts v3), .fn 114 [0, 1]], .one (.int .i64 0), .agg [.int .i64 (x2).k, .int .i64 (x2).n, .fr (.ts (x2).kids)]] [.cells [.fr (.ts v4)], .cells [.int .i64 v5, .int .i64 v6, .fr (.ts v7)]]).bind fun x4 =>
 (objC x4.2 fun x5 x6 =>
 (tsC x5 fun x7 x8 =>
 (nilC x8
 ((objC x6 fun x9 x10 =>
 (intC .i64 x9 fun x11 x12 =>
 (intC .i64 x12 fun x13 x14 =>
 (tsC x14 fun x15 x16 =>
 (nilC x16
 ((rInt .i64 x4.1 fun x17 x18 =>
 (nilV x18 (nilO x10
 ((cond ((!decide (x17 = 0)))
 (some ([.agg [.int .i64 0, .int .i64 0, .fr (.ts [])], .one (.int .i64 x17)], [.cells [.fr (.ts x7)], .cells [.int .i64 x11, .int .i64 x13, .fr (.ts x15)]]))
 (((FF n 91 [.one (.int .i64 7), .one (.emp none)] []).bind fun x19 =>
 (rTerm x19.1 fun x20 x21 =>
 (nilV x21 (nilO x19.2
 (((FF n 91 [.one (.int .i64 5), .one (.fr (.ts [(T.mk (x0).k (x0).n (x0).kids), (T.mk (x20).k (x20).n (x20).kids)]))] []).bind fun x22 =>
 (rTerm x22.1 fun x23 x24 =>
 (nilV x24 (nilO x22.2
 (((FF n 151 [.agg [.int .i64 (x23).k, .int .i64 (x23).n, .fr (.ts (x23).kids)], .one (.bool true)] []).bind fun x25 =>
 (rTerm x25.1 fun x26 x27 =>
 (rInt .i64 x27 fun x28 x29 =>
 (nilV x29 (nilO x25.2
 (((FF n 157 [.agg [.fr (.ts v0), .int .i64 v1, .int .i64 v2, .fr (.ts v3), .fn 114 [0, 1]], .one (.int .i64 1), .agg [.int .i64 (x26).k, .int .i64 (x26).n, .fr (.ts (x26).kids)], .one (.int .i64 x28)] [.cells [.fr (.ts x7)], .cells [.int .i64 x11, .int .i64 x13, .fr (.ts x15)]]).bind fun x30 =>
 (objC x30.2 fun x31 x32 =>
 (tsC x31 fun x33 x34 =>
 (nilC x34
 ((objC x32 fun x35 x36 =>
 (intC .i64 x35 fun x37 x38 =>
 (intC .i64 x38 fun x39 x40 =>
 (tsC x40 fun x41 x42 =>
 (nilC x42
 ((rInt .i64 x30.1 fun x43 x44 =>
 (nilV x44 (nilO x36
 ((cond ((!decide (x43 = 0)))
 (some ([.agg [.int .i64 0, .int .i64 0, .fr (.ts [])], .one (.int .i64 x43)], [.cells [.fr (.ts x33)], .cells [.int .i64 x37, .int .i64 x39, .fr (.ts x41)]]))
 (((FF n 185 [.agg [.int .i64 (x0).k, .int .i64 (x0).n, .fr (.ts (x0).kids)]] []).bind fun x45 =>
 (rTerm x45.1 fun x46 x47 =>
 (rInt .i64 x47 fun x48 x49 =>
 (nilV x49 (nilO x45.2
 (((FF n 157 [.agg [.fr (.ts v0), .int .i64 v1, .int .i64 v2, .fr (.ts v3), .fn 114 [0, 1]], .one (.int .i64 2), .agg [.int .i64 (x46).k, .int .i64 (x46).n, .fr (.ts (x46).kids)], .one (.int .i64 x48)] [.cells [.fr (.ts x33)], .cells [.int .i64 x37, .int .i64 x39, .fr (.ts x41)]]).bind fun x50 =>
 (objC x50.2 fun x51 x52 =>
 (tsC x51 fun x53 x54 =>
 (nilC x54
 ((objC x52 fun x55 x56 =>
 (intC .i64 x55 fun x57 x58 =>
 (intC .i64 x58 fun x59 x60 =>
 (tsC x60 fun x61 x62 =>
 (nilC x62
 ((rInt .i64 x50.1 fun x63 x64 =>
 (nilV x64 (nilO x56
 ((cond ((!decide (x63 = 0)))
 (some ([.agg [.int .i64 0, .int .i64 0, .fr (.ts [])], .one (.int .i64 x63)], [.cells [.fr (.ts x53)], .cells [.int .i64 x57, .int .i64 x59, .fr (.ts x61)]]))
 (((FF n 91 [.one (.int .i64 6), .one (.emp none)] []).bind fun x65 =>
 (rTerm x65.1 fun x66 x67 =>
 (nilV x67 (nilO x65.2
 (((FF n 153 [.agg [.fr (.ts v0), .int .i64 v1, .int .i64 v2, .fr (.ts v3), .fn 114 [0, 1]], .one (.int .i64 3), .agg [.int .i64 (x66).k, .int .i64 (x66).n, .fr (.ts (x66).kids)]] [.cells [.fr (.ts x53)], .cells [.int .i64 x57, .int .i64 x59, .fr (.ts x61)]]).bind fun x68 =>
 (objC x68.2 fun x69 x70 =>
 (tsC x69 fun x71 x72 =>
 (nilC x72
 ((objC x70 fun x73 x74 =>
 (intC .i64 x73 fun x75 x76 =>
 (intC .i64 x76 fun x77 x78 =>
 (tsC x78 fun x79 x80 =>
 (nilC x80
 ((rInt .i64 x68.1 fun x81 x82 =>
 (nilV x82 (nilO x74
 ((cond ((!decide (x81 = 0)))
 (some ([.agg [.int .i64 0, .int .i64 0, .fr (.ts [])], .one (.int .i64 x81)], [.cells [.fr (.ts x71)], .cells [.int .i64 x75, .int .i64 x77, .fr (.ts x79)]]))
 (((v3)[(3 : Int).toNat]?.bind fun x83 =>
 ((FF n 91 [.one (.int .i64 5), .one (.fr (.ts [(T.mk (x0).k (x0).n (x0).kids), (T.mk (x83).k (x83).n (x83).kids)]))] []).bind fun x84 =>
 (rTerm x84.1 fun x85 x86 =>
 (nilV x86 (nilO x84.2
 (((FF n 151 [.agg [.int .i64 (x85).k, .int .i64 (x85).n, .fr (.ts (x85).kids)], .one (.bool true)] []).bind fun x87 =>
 (rTerm x87.1 fun x88 x89 =>
 (rInt .i64 x89 fun x90 x91 =>
 (nilV x91 (nilO x87.2
 (some ([.agg [.int .i64 (x88).k, .int .i64 (x88).n, .fr (.ts (x88).kids)], .one (.int .i64 x90)], [.cells [.fr (.ts x71)], .cells [.int .i64 x75, .int .i64 x77, .fr (.ts x79)]])))))))))))))))))))))))))))))))))))))))))))))))))))))))))))))))))))))))))))))))))))))))))))))))))))))))))))))))))) := by kernel_rfl

/-! (loop.example/depkernel/impl.judge).equality -/
noncomputable def L_impl_judge_equality_impl_infer_1_0_ffffo (n c : Nat) (v0 : Int) (v1 : Int) (v2 : Int) (v3 : List T) (v4 : Int) (v5 : Int) (v6 : List T) (v7 : List T) (v8 : Int) (v9 : Int) (v10 : List T) (v11 : Int) (v12 : Int) (v13 : List T) : OR := runLoop Tryz.prog SS n 160 2 [1, 1, 0, 1, 0] [] c ⟨[.v (.one (.any)), .v (.one (.ptr 2 0)), .v (.one (.ptr 3 0)), .v (.one (.any)), .v (.one (.int .i64 v0)), .v (.one (.int .i64 v1)), .v (.one (.int .i64 v2)), .v (.one (.any)), .v (.one (.any)), .v (.one (.any)), .v (.one (.any)), .v (.one (.any)), .v (.one (.any)), .v (.one (.any)), .v (.one (.any)), .v (.one (.any)), .v (.one (.any)), .v (.one (.any)), .v (.one (.any)), .v (.one (.any)), .v (.one (.any)), .v (.one (.any)), .v (.one (.any)), .v (.one (.any)), .v (.one (.any)), .v (.one (.any)), .v (.one (.any)), .v (.one (.any)), .v (.one (.any)), .v (.one (.any)), .v (.one (.any)), .v (.one (.any)), .v (.one (.any)), .v (.one (.any))],
  [.cells [.fr (.ts v3)], .cells [.int .i64 v4, .int .i64 v5, .fr (.ts v6)], .cells [.fr (.ts v7), .int .i64 v8, .int .i64 v9, .fr (.ts v10), .fn 114 [0, 1]], .cells [.int .i64 v11, .int .i64 v12, .own 4 0], .arr 35 (.ts v13) 0 false]⟩
theorem L_impl_judge_equality_impl_infer_1_0_ffffo_eq (n c : Nat) (v0 : Int) (v1 : Int) (v2 : Int) (v3 : List T) (v4 : Int) (v5 : Int) (v6 : List T) (v7 : List T) (v8 : Int) (v9 : Int) (v10 : List T) (v11 : Int) (v12 : Int) (v13 : List T) : L_impl_judge_equality_impl_infer_1_0_ffffo n (c + 1) v0 v1 v2 v3 v4 v5 v6 v7 v8 v9 v10 v11 v12 v13 =
 (cond ((decide (v2 ≤ 2)))
 ((cond ((decide (v1 = 0)))
 (((v10)[(0 : Int).toNat]?.bind fun x0 =>
 ((FF n 153 [.agg [.fr (.ts v7), .int .i64 v8, .int .i64 v9, .fr (.ts v10), .fn 114 [0, 1]], .one (.int .i64 v2), .agg [.int .i64 (x0).k, .int .i64 (x0).n, .fr (.ts (x0).kids)]] [.cells [.fr (.ts v3)], .cells [.int .i64 v4, .int .i64 v5, .fr (.ts v6)]]).bind fun x1 =>
 (objC x1.2 fun x2 x3 =>
 (tsC x2 fun x4 x5 =>
 (nilC x5
 ((objC x3 fun x6 x7 =>
 (intC .i64 x6 fun x8 x9 =>
 (intC .i64 x9 fun x10 x11 =>
 (tsC x11 fun x12 x13 =>
 (nilC x13
 ((rInt .i64 x1.1 fun x14 x15 =>
 (nilV x15 (nilO x7
 (L_impl_judge_equality_impl_infer_1_0_ffffo n c (v0 : Int) (x14 : Int) ((IntKind.i64.wrap (v2 + 1)) : Int) (x4 : List T) (x8 : Int) (x10 : Int) (x12 : List T) (v7 : List T) (v8 : Int) (v9 : Int) (v10 : List T) (v11 : Int) (v12 : Int) (v13 : List T))))))))))))))))))
 ((cond ((!decide (v1 = 0)))
 (some ([.agg [.int .i64 0, .int .i64 0, .fr (.ts [])], .one (.int .i64 v1)], [.cells [.fr (.ts v3)], .cells [.int .i64 v4, .int .i64 v5, .fr (.ts v6)]]))
 (((FF n 152 [.one (.int .i64 v0)] []).bind fun x0 =>
 (rTerm x0.1 fun x1 x2 =>
 (nilV x2 (nilO x0.2
 (some ([.agg [.int .i64 (x1).k, .int .i64 (x1).n, .fr (.ts (x1).kids)], .one (.int .i64 0)], [.cells [.fr (.ts v3)], .cells [.int .i64 v4, .int .i64 v5, .fr (.ts v6)]])))))))))))
 ((cond ((!decide (v1 = 0)))
 (some ([.agg [.int .i64 0, .int .i64 0, .fr (.ts [])], .one (.int .i64 v1)], [.cells [.fr (.ts v3)], .cells [.int .i64 v4, .int .i64 v5, .fr (.ts v6)]]))
 (((FF n 152 [.one (.int .i64 v0)] []).bind fun x0 =>
 (rTerm x0.1 fun x1 x2 =>
 (nilV x2 (nilO x0.2
 (some ([.agg [.int .i64 (x1).k, .int .i64 (x1).n, .fr (.ts (x1).kids)], .one (.int .i64 0)], [.cells [.fr (.ts v3)], .cells [.int .i64 v4, .int .i64 v5, .fr (.ts v6)]])))))))))) := by kernel_rfl
theorem E_impl_judge_equality_impl_infer_1 (n : Nat) (v0 : List T) (v1 : Int) (v2 : Int) (v3 : List T) (v4 : List T) (v5 : Int) (v6 : Int) (v7 : List T) : FF (n + 1) 160 [.agg [.fr (.ts v0), .int .i64 v1, .int .i64 v2, .fr (.ts v3), .fn 114 [0, 1]]] [.cells [.fr (.ts v4)], .cells [.int .i64 v5, .int .i64 v6, .fr (.ts v7)]] =
 ((FF n 183 [.agg [.fr (.ts v0), .int .i64 v1, .int .i64 v2, .fr (.ts v3), .fn 114 [0, 1]], .one (.int .i64 0)] [.cells [.fr (.ts v4)], .cells [.int .i64 v5, .int .i64 v6, .fr (.ts v7)]]).bind fun x0 =>
 (objC x0.2 fun x1 x2 =>
 (tsC x1 fun x3 x4 =>
 (nilC x4
 ((objC x2 fun x5 x6 =>
 (intC .i64 x5 fun x7 x8 =>
 (intC .i64 x8 fun x9 x10 =>
 (tsC x10 fun x11 x12 =>
 (nilC x12
 ((rInt .i64 x0.1 fun x13 x14 =>
 (rInt .i64 x14 fun x15 x16 =>
 (nilV x16 (nilO x6
 (L_impl_judge_equality_impl_infer_1_0_ffffo n n (x13 : Int) (x15 : Int) (1 : Int) (x3 : List T) (x7 : Int) (x9 : Int) (x11 : List T) (v0 : List T) (v1 : Int) (v2 : Int) (v3 : List T) (0 : Int) (0 : Int) ([] : List T))))))))))))))))) := by kernel_rfl

/-! loop.example/depkernel/impl.infer$1 -/
theorem E_impl_infer_1 (n : Nat) (v0 : Int) (v1 : List T) (v2 : Int) (v3 : Int) (v4 : List T) : FF (n + 1) 114 [.one (.int .i64 v0), .one (.ptr 0 0), .one (.ptr 1 0)] [.cells [.fr (.ts v1)], .cells [.int .i64 v2, .int .i64 v3, .fr (.ts v4)]] =
 ((FF n 115 [.one (.fr (.ts v1)), .agg [.int .i64 v2, .int .i64 v3, .fr (.ts v4)], .one (.int .i64 v0)] []).bind fun x0 =>
 (rTs x0.1 fun x1 x2 =>
 (rInt .i64 x2 fun x3 x4 =>
 (nilV x4 (nilO x0.2
 ((cond ((!decide (x3 = 0)))
 (some ([.agg [.int .i64 0, .int .i64 0, .fr (.ts [])], .one (.int .i64 x3)], [.cells [.fr (.ts v1)], .cells [.int .i64 v2, .int .i64 v3, .fr (.ts v4)]]))
 ((cond (decide (0 ≤ v0))
 (((v4)[(v0 : Int).toNat]?.bind fun x5 =>
 ((FF n 74 [.one (.fr (.ts x1)), .agg [.int .i64 (x5).k, .int .i64 (x5).n, .fr (.ts (x5).kids)]] []).bind fun x6 =>
 (rTerm x6.1 fun x7 x8 =>
 (rInt .i64 x8 fun x9 x10 =>
 (nilV x10 (nilO x6.2
 (some ([.agg [.int .i64 (x7).k, .int .i64 (x7).n, .fr (.ts (x7).kids)], .one (.int .i64 x9)], [.cells [.fr (.ts v1)], .cells [.int .i64 v2, .int .i64 v3, .fr (.ts v4)]])))))))))
 (none)))))))))) := by kernel_rfl

/-! (loop.example/depkernel/impl.judge).moved -/
theorem E_impl_judge_moved_impl_infer_1 (n : Nat) (v0 : List T) (v1 : Int) (v2 : Int) (v3 : List T) (v4 : List T) (v5 : Int) (v6 : Int) (v7 : List T) : FF (n + 1) 161 [.agg [.fr (.ts v0), .int .i64 v1, .int .i64 v2, .fr (.ts v3), .fn 114 [0, 1]]] [.cells [.fr (.ts v4)], .cells [.int .i64 v5, .int .i64 v6, .fr (.ts v7)]] =
 ((FF n 156 [.agg [.fr (.ts v0), .int .i64 v1, .int .i64 v2, .fr (.ts v3), .fn 114 [0, 1]], .one (.int .i64 1), .one (.int .i64 10)] [.cells [.fr (.ts v4)], .cells [.int .i64 v5, .int .i64 v6, .fr (.ts v7)]]).bind fun x0 =>
 (objC x0.2 fun x1 x2 =>
 (tsC x1 fun x3 x4 =>
 (nilC x4
 ((objC x2 fun x5 x6 =>
 (intC .i64 x5 fun x7 x8 =>
 (intC .i64 x8 fun x9 x10 =>
 (tsC x10 fun x11 x12 =>
 (nilC x12
 ((rTerm x0.1 fun x13 x14 =>
 (rInt .i64 x14 fun x15 x16 =>
 (nilV x16 (nilO x6
 ((cond ((!decide (x15 = 0)))
 (some ([.agg [.int .i64 0, .int .i64 0, .fr (.ts [])], .one (.int .i64 x15)], [.cells [.fr (.ts x3)], .cells [.int .i64 x7, .int .i64 x9, .fr (.ts x11)]]))
 ((((x13).kids)[(0 : Int).toNat]?.bind fun x17 =>
 ((FF n 184 [.agg [.fr (.ts v0), .int .i64 v1, .int .i64 v2, .fr (.ts v3), .fn 114 [0, 1]], .one (.int .i64 0), .agg [.int .i64 (x17).k, .int .i64 (x17).n, .fr (.ts (x17).kids)]] [.cells [.fr (.ts x3)], .cells [.int .i64 x7, .int .i64 x9, .fr (.ts x11)]]).bind fun x18 =>
 (objC x18.2 fun x19 x20 =>
 (tsC x19 fun x21 x22 =>
 (nilC x22
 ((objC x20 fun x23 x24 =>
 (intC .i64 x23 fun x25 x26 =>
 (intC .i64 x26 fun x27 x28 =>
 (tsC x28 fun x29 x30 =>
 (nilC x30
 ((rInt .i64 x18.1 fun x31 x32 =>
 (nilV x32 (nilO x24
 ((cond ((!decide (x31 = 0)))
 (some ([.agg [.int .i64 0, .int .i64 0, .fr (.ts [])], .one (.int .i64 x31)], [.cells [.fr (.ts x21)], .cells [.int .i64 x25, .int .i64 x27, .fr (.ts x29)]]))
 (((v3)[(0 : Int).toNat]?.bind fun x33 =>
 (((x13).kids)[(1 : Int).toNat]?.bind fun x34 =>
 ((FF n 91 [.one (.int .i64 5), .one (.fr (.ts [(T.mk (x33).k (x33).n (x33).kids), (T.mk (x34).k (x34).n (x34).kids)]))] []).bind fun x35 =>
 (rTerm x35.1 fun x36 x37 =>
 (nilV x37 (nilO x35.2
 (((FF n 151 [.agg [.int .i64 (x36).k, .int .i64 (x36).n, .fr (.ts (x36).kids)], .one (.bool true)] []).bind fun x38 =>
 (rTerm x38.1 fun x39 x40 =>
 (rInt .i64 x40 fun x41 x42 =>
 (nilV x42 (nilO x38.2
 (((FF n 157 [.agg [.fr (.ts v0), .int .i64 v1, .int .i64 v2, .fr (.ts v3), .fn 114 [0, 1]], .one (.int .i64 2), .agg [.int .i64 (x39).k, .int .i64 (x39).n, .fr (.ts (x39).kids)], .one (.int .i64 x41)] [.cells [.fr (.ts x21)], .cells [.int .i64 x25, .int .i64 x27, .fr (.ts x29)]]).bind fun x43 =>
 (objC x43.2 fun x44 x45 =>
 (tsC x44 fun x46 x47 =>
 (nilC x47
 ((objC x45 fun x48 x49 =>
 (intC .i64 x48 fun x50 x51 =>
 (intC .i64 x51 fun x52 x53 =>
 (tsC x53 fun x54 x55 =>
 (nilC x55
 ((rInt .i64 x43.1 fun x56 x57 =>
 (nilV x57 (nilO x49
 ((cond ((!decide (x56 = 0)))
 (some ([.agg [.int .i64 0, .int .i64 0, .fr (.ts [])], .one (.int .i64 x56)], [.cells [.fr (.ts x46)], .cells [.int .i64 x50, .int .i64 x52, .fr (.ts x54)]]))
 ((((x13).kids)[(2 : Int).toNat]?.bind fun x58 =>
 ((FF n 91 [.one (.int .i64 5), .one (.fr (.ts [(T.mk (x33).k (x33).n (x33).kids), (T.mk (x58).k (x58).n (x58).kids)]))] []).bind fun x59 =>
 (rTerm x59.1 fun x60 x61 =>
 (nilV x61 (nilO x59.2
 (((FF n 151 [.agg [.int .i64 (x60).k, .int .i64 (x60).n, .fr (.ts (x60).kids)], .one (.bool true)] []).bind fun x62 =>
 (rTerm x62.1 fun x63 x64 =>
 (rInt .i64 x64 fun x65 x66 =>
 (nilV x66 (nilO x62.2
 (some ([.agg [.int .i64 (x63).k, .int .i64 (x63).n, .fr (.ts (x63).kids)], .one (.int .i64 x65)], [.cells [.fr (.ts x46)], .cells [.int .i64 x50, .int .i64 x52, .fr (.ts x54)]]))))))))))))))))))))))))))))))))))))))))))))))))))))))))))))))))))))))))))))))) := by kernel_rfl

/-! (loop.example/depkernel/impl.judge).paired -/
theorem E_impl_judge_paired_impl_infer_1 (n : Nat) (v0 : List T) (v1 : Int) (v2 : Int) (v3 : List T) (v4 : List T) (v5 : Int) (v6 : Int) (v7 : List T) : FF (n + 1) 162 [.agg [.fr (.ts v0), .int .i64 v1, .int .i64 v2, .fr (.ts v3), .fn 114 [0, 1]]] [.cells [.fr (.ts v4)], .cells [.int .i64 v5, .int .i64 v6, .fr (.ts v7)]] =
 ((FF n 183 [.agg [.fr (.ts v0), .int .i64 v1, .int .i64 v2, .fr (.ts v3), .fn 114 [0, 1]], .one (.int .i64 0)] [.cells [.fr (.ts v4)], .cells [.int .i64 v5, .int .i64 v6, .fr (.ts v7)]]).bind fun x0 =>
 (objC x0.2 fun x1 x2 =>
 (tsC x1 fun x3 x4 =>
 (nilC x4
 ((objC x2 fun x5 x6 =>
 (intC .i64 x5 fun x7 x8 =>
 (intC .i64 x8 fun x9 x10 =>
 (tsC x10 fun x11 x12 =>
 (nilC x12
 ((rInt .i64 x0.1 fun x13 x14 =>
 (rInt .i64 x14 fun x15 x16 =>
 (nilV x16 (nilO x6
 ((cond ((!decide (x15 = 0)))
 (some ([.agg [.int .i64 0, .int .i64 0, .fr (.ts [])], .one (.int .i64 x15)], [.cells [.fr (.ts x3)], .cells [.int .i64 x7, .int .i64 x9, .fr (.ts x11)]]))
 (((v3)[(0 : Int).toNat]?.bind fun x17 =>
 ((FF n 136 [.agg [.int .i64 (x17).k, .int .i64 (x17).n, .fr (.ts (x17).kids)], .one (.int .i64 13)] []).bind fun x18 =>
 (rTerm x18.1 fun x19 x20 =>
 (rInt .i64 x20 fun x21 x22 =>
 (nilV x22 (nilO x18.2
 (((FF n 158 [.agg [.int .i64 (x19).k, .int .i64 (x19).n, .fr (.ts (x19).kids)]] []).bind fun x23 =>
 (rTerm x23.1 fun x24 x25 =>
 (nilV x25 (nilO x23.2
 (((FF n 157 [.agg [.fr (.ts v0), .int .i64 v1, .int .i64 v2, .fr (.ts v3), .fn 114 [0, 1]], .one (.int .i64 1), .agg [.int .i64 (x24).k, .int .i64 (x24).n, .fr (.ts (x24).kids)], .one (.int .i64 x21)] [.cells [.fr (.ts x3)], .cells [.int .i64 x7, .int .i64 x9, .fr (.ts x11)]]).bind fun x26 =>
 (objC x26.2 fun x27 x28 =>
 (tsC x27 fun x29 x30 =>
 (nilC x30
 ((objC x28 fun x31 x32 =>
 (intC .i64 x31 fun x33 x34 =>
 (intC .i64 x34 fun x35 x36 =>
 (tsC x36 fun x37 x38 =>
 (nilC x38
 ((rInt .i64 x26.1 fun x39 x40 =>
 (nilV x40 (nilO x32
 ((cond ((!decide (x39 = 0)))
 (some ([.agg [.int .i64 0, .int .i64 0, .fr (.ts [])], .one (.int .i64 x39)], [.cells [.fr (.ts x29)], .cells [.int .i64 x33, .int .i64 x35, .fr (.ts x37)]]))
 ((((x19).kids)[(1 : Int).toNat]?.bind fun x41 =>
 ((v3)[(1 : Int).toNat]?.bind fun x42 =>
 ((FF n 123 [.agg [.int .i64 (x41).k, .int .i64 (x41).n, .fr (.ts (x41).kids)], .one (.int .i64 0), .agg [.int .i64 (x42).k, .int .i64 (x42).n, .fr (.ts (x42).kids)]] []).bind fun x43 =>
 (rTerm x43.1 fun x44 x45 =>
 (rBool x45 fun x46 x47 =>
 (nilV x47 (nilO x43.2
 (((FF n 151 [.agg [.int .i64 (x44).k, .int .i64 (x44).n, .fr (.ts (x44).kids)], .one (.bool x46)] []).bind fun x48 =>
 (rTerm x48.1 fun x49 x50 =>
 (rInt .i64 x50 fun x51 x52 =>
 (nilV x52 (nilO x48.2
 (((FF n 157 [.agg [.fr (.ts v0), .int .i64 v1, .int .i64 v2, .fr (.ts v3), .fn 114 [0, 1]], .one (.int .i64 2), .agg [.int .i64 (x49).k, .int .i64 (x49).n, .fr (.ts (x49).kids)], .one (.int .i64 x51)] [.cells [.fr (.ts x29)], .cells [.int .i64 x33, .int .i64 x35, .fr (.ts x37)]]).bind fun x53 =>
 (objC x53.2 fun x54 x55 =>
 (tsC x54 fun x56 x57 =>
 (nilC x57
 ((objC x55 fun x58 x59 =>
 (intC .i64 x58 fun x60 x61 =>
 (intC .i64 x61 fun x62 x63 =>
 (tsC x63 fun x64 x65 =>
 (nilC x65
 ((rInt .i64 x53.1 fun x66 x67 =>
 (nilV x67 (nilO x59
 ((cond ((!decide (x66 = 0)))
 (some ([.agg [.int .i64 0, .int .i64 0, .fr (.ts [])], .one (.int .i64 x66)], [.cells [.fr (.ts x56)], .cells [.int .i64 x60, .int .i64 x62, .fr (.ts x64)]]))
 (((v3)[(0 : Int).toNat]?.bind fun x68 =>
 some ([.agg [.int .i64 (x68).k, .int .i64 (x68).n, .fr (.ts (x68).kids)], .one (.int .i64 0)], [.cells [.fr (.ts x56)], .cells [.int .i64 x60, .int .i64 x62, .fr (.ts x64)]])))))))))))))))))))))))))))))))))))))))))))))))))))))))))))))))))))))))))))))))) := by kernel_rfl

/-! (loop.example/depkernel/impl.judge).part -/
theorem E_impl_judge_part_impl_infer_1 (n : Nat) (v0 : List T) (v1 : Int) (v2 : Int) (v3 : List T) (v4 : List T) (v5 : Int) (v6 : Int) (v7 : List T) : FF (n + 1) 163 [.agg [.fr (.ts v0), .int .i64 v1, .int .i64 v2, .fr (.ts v3), .fn 114 [0, 1]]] [.cells [.fr (.ts v4)], .cells [.int .i64 v5, .int .i64 v6, .fr (.ts v7)]] =
 ((FF n 156 [.agg [.fr (.ts v0), .int .i64 v1, .int .i64 v2, .fr (.ts v3), .fn 114 [0, 1]], .one (.int .i64 0), .one (.int .i64 13)] [.cells [.fr (.ts v4)], .cells [.int .i64 v5, .int .i64 v6, .fr (.ts v7)]]).bind fun x0 =>
 (objC x0.2 fun x1 x2 =>
 (tsC x1 fun x3 x4 =>
 (nilC x4
 ((objC x2 fun x5 x6 =>
 (intC .i64 x5 fun x7 x8 =>
 (intC .i64 x8 fun x9 x10 =>
 (tsC x10 fun x11 x12 =>
 (nilC x12
 ((rTerm x0.1 fun x13 x14 =>
 (rInt .i64 x14 fun x15 x16 =>
 (nilV x16 (nilO x6
 ((cond ((!decide (x15 = 0)))
 (some ([.agg [.int .i64 0, .int .i64 0, .fr (.ts [])], .one (.int .i64 x15)], [.cells [.fr (.ts x3)], .cells [.int .i64 x7, .int .i64 x9, .fr (.ts x11)]]))
 ((cond ((decide (v1 = 15)))
 ((((x13).kids)[(0 : Int).toNat]?.bind fun x17 =>
 some ([.agg [.int .i64 (x17).k, .int .i64 (x17).n, .fr (.ts (x17).kids)], .one (.int .i64 0)], [.cells [.fr (.ts x3)], .cells [.int .i64 x7, .int .i64 x9, .fr (.ts x11)]])))
 ((((x13).kids)[(1 : Int).toNat]?.bind fun x17 =>
 ((v3)[(0 : Int).toNat]?.bind fun x18 =>
 ((FF n 91 [.one (.int .i64 15), .one (.fr (.ts [(T.mk (x18).k (x18).n (x18).kids)]))] []).bind fun x19 =>
 (rTerm x19.1 fun x20 x21 =>
 (nilV x21 (nilO x19.2
 (((FF n 123 [.agg [.int .i64 (x17).k, .int .i64 (x17).n, .fr (.ts (x17).kids)], .one (.int .i64 0), .agg [.int .i64 (x20).k, .int .i64 (x20).n, .fr (.ts (x20).kids)]] []).bind fun x22 =>
 (rTerm x22.1 fun x23 x24 =>
 (rBool x24 fun x25 x26 =>
 (nilV x26 (nilO x22.2
 (((FF n 151 [.agg [.int .i64 (x23).k, .int .i64 (x23).n, .fr (.ts (x23).kids)], .one (.bool x25)] []).bind fun x27 =>
 (rTerm x27.1 fun x28 x29 =>
 (rInt .i64 x29 fun x30 x31 =>
 (nilV x31 (nilO x27.2
 (some ([.agg [.int .i64 (x28).k, .int .i64 (x28).n, .fr (.ts (x28).kids)], .one (.int .i64 x30)], [.cells [.fr (.ts x3)], .cells [.int .i64 x7, .int .i64 x9, .fr (.ts x11)]])))))))))))))))))))))))))))))))))))))))) := by kernel_rfl

/-! loop.example/depkernel/impl.operands -/
theorem E_impl_operands (n : Nat) (v0 : Int) : FF (n + 1) 134 [.one (.int .i64 v0)] [] =
 ((FF n 83 [.one (.int .i64 v0), .one (.int .i64 1), .one (.int .i64 16)] []).bind fun x0 =>
 (rBool x0.1 fun x1 x2 =>
 (nilV x2 (nilO x0.2
 ((cond ((!x1))
 (some ([.one (.int .i64 (-1))], []))
 ((cond (decide (0 ≤ (IntKind.i64.wrap (v0 - 1))))
 ((cond (decide ((IntKind.i64.wrap (v0 - 1)) < (([0, 0, 2, 2, 2, 0, 0, 1, 4, 3, 1, 3, 2, 3, 1, 1]).length : Int)))
 ((([0, 0, 2, 2, 2, 0, 0, 1, 4, 3, 1, 3, 2, 3, 1, 1])[((IntKind.i64.wrap (v0 - 1)) : Int).toNat]?.bind fun x3 =>
 some ([.one (.int .i64 x3)], [])))
 (none)))
 (none))))))))) := by kernel_rfl

/-! loop.example/depkernel/impl.most -/
theorem E_impl_most (n : Nat) (v0 : Int) : FF (n + 1) 135 [.one (.int .i64 v0)] [] =
 (cond ((decide (v0 = 1)))
 (some ([.one (.int .i64 20)], []))
 ((cond ((decide (v0 = 2)))
 (some ([.one (.int .i64 3)], []))
 (some ([.one (.int .i64 0)], []))))) := by kernel_rfl

/-! loop.example/depkernel/impl.maxFree$1 -/
theorem E_impl_maxFree_1 (n : Nat) (v0 : Int) (v1 : Int) : FF (n + 1) 125 [.one (.int .i64 v0), .one (.ptr 0 0)] [.cells [.int .i64 v1]] =
 some ([], [.cells [.int .i64 (max v1 (IntKind.i64.wrap (v0 + 1)))]]) := by kernel_rfl

/-! loop.example/depkernel/impl.under -/
theorem E_impl_under (n : Nat) (v0 : Int) (v1 : Int) : FF (n + 1) 149 [.one (.int .i64 v0), .one (.int .i64 v1)] [] =
 (cond ((decide (v1 = 1)))
 (((FF n 181 [.one (.int .i64 v0)] []).bind fun x0 =>
 (rBool x0.1 fun x1 x2 =>
 (nilV x2 (nilO x0.2
 ((cond (x1)
 (some ([.one (.int .i64 1)], []))
 (some ([.one (.int .i64 0)], [])))))))))
 (some ([.one (.int .i64 0)], []))) := by kernel_rfl

/-! loop.example/depkernel/spec.l1Kids -/
theorem E_spec_l1Kids (n : Nat) (v0 : Int) : FF (n + 1) 137 [.one (.int .i64 v0)] [] =
 (cond ((decide (v0 = 1)))
 (some ([.one (.int .i64 0)], []))
 ((cond ((decide (v0 = 2)))
 (some ([.one (.int .i64 0)], []))
 ((cond ((decide (v0 = 6)))
 (some ([.one (.int .i64 0)], []))
 ((cond ((decide (v0 = 7)))
 (some ([.one (.int .i64 0)], []))
 ((cond ((decide (v0 = 8)))
 (some ([.one (.int .i64 1)], []))
 ((cond ((decide (v0 = 11)))
 (some ([.one (.int .i64 1)], []))
 ((cond ((decide (v0 = 15)))
 (some ([.one (.int .i64 1)], []))
 ((cond ((decide (v0 = 16)))
 (some ([.one (.int .i64 1)], []))
 ((cond ((decide (v0 = 3)))
 (some ([.one (.int .i64 2)], []))
 ((cond ((decide (v0 = 4)))
 (some ([.one (.int .i64 2)], []))
 ((cond ((decide (v0 = 5)))
 (some ([.one (.int .i64 2)], []))
 ((cond ((decide (v0 = 13)))
 (some ([.one (.int .i64 2)], []))
 ((cond ((decide (v0 = 10)))
 (some ([.one (.int .i64 3)], []))
 ((cond ((decide (v0 = 12)))
 (some ([.one (.int .i64 3)], []))
 ((cond ((decide (v0 = 14)))
 (some ([.one (.int .i64 3)], []))
 ((cond ((decide (v0 = 9)))
 (some ([.one (.int .i64 4)], []))
 (some ([.one (.int .i64 (-1))], []))))))))))))))))))))))))))))))))) := by kernel_rfl

/-! loop.example/depkernel/spec.l1Most -/
theorem E_spec_l1Most (n : Nat) (v0 : Int) : FF (n + 1) 138 [.one (.int .i64 v0)] [] =
 (cond ((decide (v0 = 1)))
 (some ([.one (.int .i64 20)], []))
 ((cond ((decide (v0 = 2)))
 (some ([.one (.int .i64 3)], []))
 (some ([.one (.int .i64 0)], []))))) := by kernel_rfl

/-! slices.IndexFunc[[]loop.example/depkernel/impl.Term,loop.example/depkernel/impl.Term] -/
noncomputable def L_slices_IndexFunc_impl_areTerms_1_0 (n c : Nat) (v0 : List T) (v1 : Int) (v2 : Int) : OR := runLoop Tryz.prog SS n 139 0 [1, 0, 1, 0] [] c ⟨[.v (.one (.fr (.ts v0))), .v (.one (.fn 127 [])), .v (.one (.any)), .v (.one (.any)), .v (.one (.any)), .v (.one (.any)), .v (.one (.any)), .v (.one (.int .i64 v1)), .v (.one (.int .i64 v2)), .v (.one (.any)), .v (.one (.any)), .v (.one (.any)), .v (.one (.any)), .v (.one (.any)), .v (.one (.any)), .v (.one (.any)), .v (.one (.any)), .v (.one (.any)), .v (.one (.any))],
  []⟩
theorem L_slices_IndexFunc_impl_areTerms_1_0_eq (n c : Nat) (v0 : List T) (v1 : Int) (v2 : Int) : L_slices_IndexFunc_impl_areTerms_1_0 n (c + 1) v0 v1 v2 =
 (cond ((decide (v2 < v1)))
 ((cond (decide (0 ≤ v2))
 (((v0)[(v2 : Int).toNat]?.bind fun x0 =>
 ((FF n 127 [.agg [.int .i64 (x0).k, .int .i64 (x0).n, .fr (.ts (x0).kids)]] []).bind fun x1 =>
 (rBool x1.1 fun x2 x3 =>
 (nilV x3 (nilO x1.2
 ((cond (x2)
 (some ([.one (.int .i64 v2)], []))
 (L_slices_IndexFunc_impl_areTerms_1_0 n c (v0 : List T) (v1 : Int) ((IntKind.i64.wrap (v2 + 1)) : Int))))))))))
 (none)))
 (some ([.one (.int .i64 (-1))], []))) := by kernel_rfl
theorem E_slices_IndexFunc_impl_areTerms_1 (n : Nat) (v0 : List T) : FF (n + 1) 139 [.one (.fr (.ts v0)), .one (.fn 127 [])] [] =
 L_slices_IndexFunc_impl_areTerms_1_0 n n (v0 : List T) (((v0).length : Int) : Int) (0 : Int) := by kernel_rfl

/-! loop.example/depkernel/spec.l3Head -/
/-! loop.example/depkernel/impl.shift$1 -/
theorem E_impl_shift_1 (n : Nat) (v0 : Int) (v1 : Int) (v2 : Int) (v3 : Int) (v4 : Bool) : FF (n + 1) 129 [.one (.int .i64 v0), .one (.int .i64 v1), .one (.ptr 0 0), .one (.ptr 1 0), .one (.ptr 2 0)] [.cells [.int .i64 v2], .cells [.int .i64 v3], .cells [.bool v4]] =
 (cond ((decide (v2 ≤ (IntKind.i64.wrap (v0 - v1)))))
 ((cond (v4)
 ((cond ((decide (v2 ≤ (IntKind.i64.wrap ((IntKind.i64.wrap (v0 + v3)) - v1)))))
 (((FF n 89 [.one (.int .i64 (IntKind.i64.wrap (v0 + v3)))] []).bind fun x0 =>
 (rTerm x0.1 fun x1 x2 =>
 (nilV x2 (nilO x0.2
 (some ([.agg [.int .i64 (x1).k, .int .i64 (x1).n, .fr (.ts (x1).kids)]], [.cells [.int .i64 v2], .cells [.int .i64 v3], .cells [.bool (decide ((IntKind.i64.wrap (v0 + v3)) ≤ 20))]])))))))
 (((FF n 89 [.one (.int .i64 (IntKind.i64.wrap (v0 + v3)))] []).bind fun x0 =>
 (rTerm x0.1 fun x1 x2 =>
 (nilV x2 (nilO x0.2
 (some ([.agg [.int .i64 (x1).k, .int .i64 (x1).n, .fr (.ts (x1).kids)]], [.cells [.int .i64 v2], .cells [.int .i64 v3], .cells [.bool false]])))))))))
 (((FF n 89 [.one (.int .i64 (IntKind.i64.wrap (v0 + v3)))] []).bind fun x0 =>
 (rTerm x0.1 fun x1 x2 =>
 (nilV x2 (nilO x0.2
 (some ([.agg [.int .i64 (x1).k, .int .i64 (x1).n, .fr (.ts (x1).kids)]], [.cells [.int .i64 v2], .cells [.int .i64 v3], .cells [.bool false]])))))))))
 (((FF n 89 [.one (.int .i64 v0)] []).bind fun x0 =>
 (rTerm x0.1 fun x1 x2 =>
 (nilV x2 (nilO x0.2
 (some ([.agg [.int .i64 (x1).k, .int .i64 (x1).n, .fr (.ts (x1).kids)]], [.cells [.int .i64 v2], .cells [.int .i64 v3], .cells [.bool v4]])))))))) := by kernel_rfl

/-! loop.example/depkernel/spec.l5Bound -/
/-! loop.example/depkernel/spec.l5Lam -/
/-! loop.example/depkernel/spec.l5App -/
/-! loop.example/depkernel/spec.l5Elim -/
/-! loop.example/depkernel/spec.l5Id -/
end Go.Proofs.YthopkmimhlcjkaaGreat
end
section
/- What the program's functions come to in the abstract run. -/
set_option linter.unusedVariables false
namespace Go.Proofs.YthopkmimhlcjkaaGreat
open Go Go.Ab Go.Dk
/-! loop.example/depkernel/spec.l5Move -/
/-! loop.example/depkernel/spec.l5Pair -/
/-! loop.example/depkernel/spec.l5Simple -/
/-! loop.example/depkernel/impl.at -/
noncomputable def L_impl_at_0_fo (n c : Nat) (v0 : List Int) (v1 : Int) (v2 : Int) (v3 : Int) (v4 : Int) (v5 : List T) (v6 : Int) (v7 : Int) (v8 : List T) : OR := runLoop Tryz.prog SS n 168 0 [1, 0, 1, 0] [] c ⟨[.v (.one (.any)), .v (.one (.any)), .v (.one (.ptr 0 0)), .v (.one (.any)), .v (.one (.ptr 1 0)), .v (.one (.any)), .v (.one (.any)), .v (.one (.fr (.is v0))), .v (.one (.int .i64 v1)), .v (.one (.int .i64 v2)), .v (.one (.any)), .v (.one (.any)), .v (.one (.any)), .v (.one (.any)), .v (.one (.any)), .v (.one (.any)), .v (.one (.any)), .v (.one (.any)), .v (.one (.any)), .v (.one (.any))],
  [.cells [.int .i64 v3, .int .i64 v4, .fr (.ts v5)], .cells [.int .i64 v6, .int .i64 v7, .own 2 0], .arr 35 (.ts v8) 0 false]⟩
theorem L_impl_at_0_fo_eq (n c : Nat) (v0 : List Int) (v1 : Int) (v2 : Int) (v3 : Int) (v4 : Int) (v5 : List T) (v6 : Int) (v7 : Int) (v8 : List T) : L_impl_at_0_fo n (c + 1) v0 v1 v2 v3 v4 v5 v6 v7 v8 =
 (cond ((decide (v2 < v1)))
 ((cond (decide (0 ≤ v2))
 (((v0)[(v2 : Int).toNat]?.bind fun x0 =>
 (cond (decide (0 ≤ x0))
 (((v5)[(x0 : Int).toNat]?.bind fun x1 =>
 L_impl_at_0_fo n c (v0 : List Int) (v1 : Int) ((IntKind.i64.wrap (v2 + 1)) : Int) ((x1).k : Int) ((x1).n : Int) ((x1).kids : List T) (v6 : Int) (v7 : Int) (v8 : List T)))
 (none))))
 (none)))
 (some ([.agg [.int .i64 v3, .int .i64 v4, .fr (.ts v5)]], []))) := by kernel_rfl
theorem E_impl_at (n : Nat) (v0 : Int) (v1 : Int) (v2 : List T) (v3 : List Int) : FF (n + 1) 168 [.agg [.int .i64 v0, .int .i64 v1, .fr (.ts v2)], .one (.fr (.is v3))] [] =
 L_impl_at_0_fo n n (v3 : List Int) (((v3).length : Int) : Int) (0 : Int) (v0 : Int) (v1 : Int) (v2 : List T) (0 : Int) (0 : Int) ([] : List T) := by kernel_rfl

/-! loop.example/depkernel/impl.contract -/
theorem E_impl_contract (n : Nat) (v0 : Int) (v1 : Int) (v2 : List T) : FF (n + 1) 167 [.agg [.int .i64 v0, .int .i64 v1, .fr (.ts v2)]] [] =
 ((FF n 126 [.agg [.int .i64 v0, .int .i64 v1, .fr (.ts v2)]] []).bind fun x0 =>
 (rInt .i64 x0.1 fun x1 x2 =>
 (nilV x2 (nilO x0.2
 ((cond ((decide (x1 = 1)))
 (((v2)[(0 : Int).toNat]?.bind fun x3 =>
 (((x3).kids)[(1 : Int).toNat]?.bind fun x4 =>
 ((v2)[(1 : Int).toNat]?.bind fun x5 =>
 ((FF n 123 [.agg [.int .i64 (x4).k, .int .i64 (x4).n, .fr (.ts (x4).kids)], .one (.int .i64 0), .agg [.int .i64 (x5).k, .int .i64 (x5).n, .fr (.ts (x5).kids)]] []).bind fun x6 =>
 (rTerm x6.1 fun x7 x8 =>
 (rBool x8 fun x9 x10 =>
 (nilV x10 (nilO x6.2
 (some ([.agg [.int .i64 (x7).k, .int .i64 (x7).n, .fr (.ts (x7).kids)], .one (.bool x9)], [])))))))))))
 ((cond ((decide (x1 = 2)))
 (((v2)[(1 : Int).toNat]?.bind fun x3 =>
 ((FF n 75 [.agg [.int .i64 (x3).k, .int .i64 (x3).n, .fr (.ts (x3).kids)]] []).bind fun x4 =>
 (rTerm x4.1 fun x5 x6 =>
 (nilV x6 (nilO x4.2
 (((FF n 92 [.agg [.int .i64 (x5).k, .int .i64 (x5).n, .fr (.ts (x5).kids)]] []).bind fun x7 =>
 (rTerm x7.1 fun x8 x9 =>
 (rBool x9 fun x10 x11 =>
 (nilV x11 (nilO x7.2
 (some ([.agg [.int .i64 (x8).k, .int .i64 (x8).n, .fr (.ts (x8).kids)], .one (.bool x10)], []))))))))))))))
 ((cond ((decide (x1 = 3)))
 (((v2)[(0 : Int).toNat]?.bind fun x3 =>
 ((v2)[(1 : Int).toNat]?.bind fun x4 =>
 ((v2)[(2 : Int).toNat]?.bind fun x5 =>
 ((v2)[(3 : Int).toNat]?.bind fun x6 =>
 (((x6).kids)[(0 : Int).toNat]?.bind fun x7 =>
 ((FF n 91 [.one (.int .i64 5), .one (.fr (.ts [(T.mk (x5).k (x5).n (x5).kids), (T.mk (x7).k (x7).n (x7).kids)]))] []).bind fun x8 =>
 (rTerm x8.1 fun x9 x10 =>
 (nilV x10 (nilO x8.2
 (((FF n 91 [.one (.int .i64 9), .one (.fr (.ts [(T.mk (x3).k (x3).n (x3).kids), (T.mk (x4).k (x4).n (x4).kids), (T.mk (x5).k (x5).n (x5).kids), (T.mk (x7).k (x7).n (x7).kids)]))] []).bind fun x11 =>
 (rTerm x11.1 fun x12 x13 =>
 (nilV x13 (nilO x11.2
 (((FF n 91 [.one (.int .i64 5), .one (.fr (.ts [(T.mk (x9).k (x9).n (x9).kids), (T.mk (x12).k (x12).n (x12).kids)]))] []).bind fun x14 =>
 (rTerm x14.1 fun x15 x16 =>
 (nilV x16 (nilO x14.2
 (((FF n 75 [.agg [.int .i64 (x15).k, .int .i64 (x15).n, .fr (.ts (x15).kids)]] []).bind fun x17 =>
 (rTerm x17.1 fun x18 x19 =>
 (nilV x19 (nilO x17.2
 (((FF n 92 [.agg [.int .i64 (x18).k, .int .i64 (x18).n, .fr (.ts (x18).kids)]] []).bind fun x20 =>
 (rTerm x20.1 fun x21 x22 =>
 (rBool x22 fun x23 x24 =>
 (nilV x24 (nilO x20.2
 (some ([.agg [.int .i64 (x21).k, .int .i64 (x21).n, .fr (.ts (x21).kids)], .one (.bool x23)], [])))))))))))))))))))))))))))))))))
 ((cond ((decide (x1 = 4)))
 (((v2)[(2 : Int).toNat]?.bind fun x3 =>
 ((FF n 75 [.agg [.int .i64 (x3).k, .int .i64 (x3).n, .fr (.ts (x3).kids)]] []).bind fun x4 =>
 (rTerm x4.1 fun x5 x6 =>
 (nilV x6 (nilO x4.2
 (((FF n 92 [.agg [.int .i64 (x5).k, .int .i64 (x5).n, .fr (.ts (x5).kids)]] []).bind fun x7 =>
 (rTerm x7.1 fun x8 x9 =>
 (rBool x9 fun x10 x11 =>
 (nilV x11 (nilO x7.2
 (some ([.agg [.int .i64 (x8).k, .int .i64 (x8).n, .fr (.ts (x8).kids)], .one (.bool x10)], []))))))))))))))
 ((cond ((decide (x1 = 5)))
 (((v2)[(0 : Int).toNat]?.bind fun x3 =>
 (((x3).kids)[(1 : Int).toNat]?.bind fun x4 =>
 ((FF n 75 [.agg [.int .i64 (x4).k, .int .i64 (x4).n, .fr (.ts (x4).kids)]] []).bind fun x5 =>
 (rTerm x5.1 fun x6 x7 =>
 (nilV x7 (nilO x5.2
 (((FF n 92 [.agg [.int .i64 (x6).k, .int .i64 (x6).n, .fr (.ts (x6).kids)]] []).bind fun x8 =>
 (rTerm x8.1 fun x9 x10 =>
 (rBool x10 fun x11 x12 =>
 (nilV x12 (nilO x8.2
 (some ([.agg [.int .i64 (x9).k, .int .i64 (x9).n, .fr (.ts (x9).kids)], .one (.bool x11)], [])))))))))))))))
 ((cond ((decide (x1 = 6)))
 (((v2)[(0 : Int).toNat]?.bind fun x3 =>
 (((x3).kids)[(2 : Int).toNat]?.bind fun x4 =>
 ((FF n 75 [.agg [.int .i64 (x4).k, .int .i64 (x4).n, .fr (.ts (x4).kids)]] []).bind fun x5 =>
 (rTerm x5.1 fun x6 x7 =>
 (nilV x7 (nilO x5.2
 (((FF n 92 [.agg [.int .i64 (x6).k, .int .i64 (x6).n, .fr (.ts (x6).kids)]] []).bind fun x8 =>
 (rTerm x8.1 fun x9 x10 =>
 (rBool x10 fun x11 x12 =>
 (nilV x12 (nilO x8.2
 (some ([.agg [.int .i64 (x9).k, .int .i64 (x9).n, .fr (.ts (x9).kids)], .one (.bool x11)], [])))))))))))))))
 (some ([.agg [.int .i64 0, .int .i64 0, .fr (.ts [])], .one (.bool false)], [])))))))))))))))))) := by kernel_rfl

/-! loop.example/depkernel/impl.put -/
theorem E_impl_put (n : Nat) (v0 : Int) (v1 : Int) (v2 : List T) (v3 : List Int) (v4 : Int) (v5 : Int) (v6 : List T) : FF (n + 1) 169 [.agg [.int .i64 v0, .int .i64 v1, .fr (.ts v2)], .one (.fr (.is v3)), .agg [.int .i64 v4, .int .i64 v5, .fr (.ts v6)]] [] =
 (cond ((decide (((v3).length : Int) = 0)))
 (some ([.agg [.int .i64 v4, .int .i64 v5, .fr (.ts v6)]], []))
 (((FF n 182 [.one (.fr (.ts v2))] []).bind fun x0 =>
 (rOwn 0 x0.1 fun x1 =>
 (arrTsC 35 x0.2 fun x2 x3 =>
 (nilV x1 (nilO x3
 (((v3)[(0 : Int).toNat]?.bind fun x4 =>
 ((v3)[(0 : Int).toNat]?.bind fun x5 =>
 (cond (decide (0 ≤ x5))
 (((v2)[(x5 : Int).toNat]?.bind fun x6 =>
 (cond (Go.Ab.inB 1 (v3).length (v3).length)
 (((FF n 169 [.agg [.int .i64 (x6).k, .int .i64 (x6).n, .fr (.ts (x6).kids)], .one (.fr (.is (((v3).take ((v3).length : Int).toNat).drop (1 : Int).toNat))), .agg [.int .i64 v4, .int .i64 v5, .fr (.ts v6)]] []).bind fun x7 =>
 (rTerm x7.1 fun x8 x9 =>
 (nilV x9 (nilO x7.2
 ((cond (decide (0 ≤ x4))
 ((cond (decide (x4 < ((x2).length : Int)))
 (some ([.agg [.int .i64 v0, .int .i64 v1, .fr (.ts ((x2).set (x4 : Int).toNat (T.mk (x8).k (x8).n (x8).kids)))]], []))
 (none)))
 (none))))))))
 (none))))
 (none)))))))))))) := by kernel_rfl

/-! loop.example/depkernel/spec.l2Binds -/
/-! loop.example/depkernel/spec.l4Conv -/
/-! loop.example/depkernel/spec.l1Parse -/
theorem E_spec_l1Parse (n : Nat) (v0 : ByteArray) (v1 : Int) (v2 : Int) : FF (n + 1) 188 [.one (.str v0), .one (.int .i64 v1), .one (.int .i64 v2)] [] =
 (cond ((decide (v2 < 1)))
 (some ([.agg [.int .i64 0, .int .i64 0, .fr (.ts [])], .one (.int .i64 (-1))], []))
 ((cond ((decide (v1 < 0)))
 (some ([.agg [.int .i64 0, .int .i64 0, .fr (.ts [])], .one (.int .i64 (-1))], []))
 ((cond ((decide (((v0).size : Int) ≤ v1)))
 (some ([.agg [.int .i64 0, .int .i64 0, .fr (.ts [])], .one (.int .i64 (-1))], []))
 ((cond (decide (0 ≤ v1) && decide (v1 < (((v0).size : Nat) : Int)))
 ((cond ((decide (((byteAt v0 (v1 : Int).toNat).toNat : Int) = 35)))
 (((FF n 192 [.one (.str v0), .one (.int .i64 (IntKind.i64.wrap (v1 + 1))), .one (.int .i64 2)] []).bind fun x0 =>
 (rInt .i64 x0.1 fun x1 x2 =>
 (rInt .i64 x2 fun x3 x4 =>
 (nilV x4 (nilO x0.2
 (((FF n 100 [.one (.int .i64 1), .one (.int .i64 x1)] []).bind fun x5 =>
 (rTerm x5.1 fun x6 x7 =>
 (nilV x7 (nilO x5.2
 (some ([.agg [.int .i64 (x6).k, .int .i64 (x6).n, .fr (.ts (x6).kids)], .one (.int .i64 x3)], [])))))))))))))
 ((cond ((decide (((byteAt v0 (v1 : Int).toNat).toNat : Int) = 42)))
 (((FF n 192 [.one (.str v0), .one (.int .i64 (IntKind.i64.wrap (v1 + 1))), .one (.int .i64 1)] []).bind fun x0 =>
 (rInt .i64 x0.1 fun x1 x2 =>
 (rInt .i64 x2 fun x3 x4 =>
 (nilV x4 (nilO x0.2
 (((FF n 100 [.one (.int .i64 2), .one (.int .i64 x1)] []).bind fun x5 =>
 (rTerm x5.1 fun x6 x7 =>
 (nilV x7 (nilO x5.2
 (some ([.agg [.int .i64 (x6).k, .int .i64 (x6).n, .fr (.ts (x6).kids)], .one (.int .i64 x3)], [])))))))))))))
 ((cond ((decide (((byteAt v0 (v1 : Int).toNat).toNat : Int) = 78)))
 (((FF n 100 [.one (.int .i64 6), .one (.int .i64 0)] []).bind fun x0 =>
 (rTerm x0.1 fun x1 x2 =>
 (nilV x2 (nilO x0.2
 (some ([.agg [.int .i64 (x1).k, .int .i64 (x1).n, .fr (.ts (x1).kids)], .one (.int .i64 (IntKind.i64.wrap (v1 + 1)))], [])))))))
 ((cond ((decide (((byteAt v0 (v1 : Int).toNat).toNat : Int) = 48)))
 (((FF n 100 [.one (.int .i64 7), .one (.int .i64 0)] []).bind fun x0 =>
 (rTerm x0.1 fun x1 x2 =>
 (nilV x2 (nilO x0.2
 (some ([.agg [.int .i64 (x1).k, .int .i64 (x1).n, .fr (.ts (x1).kids)], .one (.int .i64 (IntKind.i64.wrap (v1 + 1)))], [])))))))
 ((cond ((decide (((byteAt v0 (v1 : Int).toNat).toNat : Int) = 43)))
 (((FF n 193 [.one (.str v0), .one (.int .i64 v1), .one (.int .i64 v2)] []).bind fun x0 =>
 (rTerm x0.1 fun x1 x2 =>
 (rInt .i64 x2 fun x3 x4 =>
 (nilV x4 (nilO x0.2
 (some ([.agg [.int .i64 (x1).k, .int .i64 (x1).n, .fr (.ts (x1).kids)], .one (.int .i64 x3)], []))))))))
 ((cond ((decide (((byteAt v0 (v1 : Int).toNat).toNat : Int) = 33)))
 (((FF n 193 [.one (.str v0), .one (.int .i64 v1), .one (.int .i64 v2)] []).bind fun x0 =>
 (rTerm x0.1 fun x1 x2 =>
 (rInt .i64 x2 fun x3 x4 =>
 (nilV x4 (nilO x0.2
 (some ([.agg [.int .i64 (x1).k, .int .i64 (x1).n, .fr (.ts (x1).kids)], .one (.int .i64 x3)], []))))))))
 ((cond ((decide (((byteAt v0 (v1 : Int).toNat).toNat : Int) = 94)))
 (((FF n 193 [.one (.str v0), .one (.int .i64 v1), .one (.int .i64 v2)] []).bind fun x0 =>
 (rTerm x0.1 fun x1 x2 =>
 (rInt .i64 x2 fun x3 x4 =>
 (nilV x4 (nilO x0.2
 (some ([.agg [.int .i64 (x1).k, .int .i64 (x1).n, .fr (.ts (x1).kids)], .one (.int .i64 x3)], []))))))))
 ((cond ((decide (((byteAt v0 (v1 : Int).toNat).toNat : Int) = 95)))
 (((FF n 193 [.one (.str v0), .one (.int .i64 v1), .one (.int .i64 v2)] []).bind fun x0 =>
 (rTerm x0.1 fun x1 x2 =>
 (rInt .i64 x2 fun x3 x4 =>
 (nilV x4 (nilO x0.2
 (some ([.agg [.int .i64 (x1).k, .int .i64 (x1).n, .fr (.ts (x1).kids)], .one (.int .i64 x3)], []))))))))
 ((cond ((decide (((byteAt v0 (v1 : Int).toNat).toNat : Int) = 40)))
 (((FF n 194 [.one (.str v0), .one (.int .i64 (IntKind.i64.wrap (v1 + 1))), .one (.int .i64 (IntKind.i64.wrap (v2 - 1)))] []).bind fun x0 =>
 (rTerm x0.1 fun x1 x2 =>
 (rInt .i64 x2 fun x3 x4 =>
 (nilV x4 (nilO x0.2
 (some ([.agg [.int .i64 (x1).k, .int .i64 (x1).n, .fr (.ts (x1).kids)], .one (.int .i64 x3)], []))))))))
 ((cond ((decide (((byteAt v0 (v1 : Int).toNat).toNat : Int) = 91)))
 (((FF n 188 [.one (.str v0), .one (.int .i64 (IntKind.i64.wrap (v1 + 1))), .one (.int .i64 (IntKind.i64.wrap (v2 - 1)))] []).bind fun x0 =>
 (rTerm x0.1 fun x1 x2 =>
 (rInt .i64 x2 fun x3 x4 =>
 (nilV x4 (nilO x0.2
 ((cond ((decide (x3 < 0)))
 (some ([.agg [.int .i64 0, .int .i64 0, .fr (.ts [])], .one (.int .i64 (-1))], []))
 ((cond ((decide (((v0).size : Int) ≤ x3)))
 (some ([.agg [.int .i64 0, .int .i64 0, .fr (.ts [])], .one (.int .i64 (-1))], []))
 ((cond (decide (0 ≤ x3) && decide (x3 < (((v0).size : Nat) : Int)))
 ((cond ((!decide (((byteAt v0 (x3 : Int).toNat).toNat : Int) = 93)))
 (some ([.agg [.int .i64 0, .int .i64 0, .fr (.ts [])], .one (.int .i64 (-1))], []))
 (((FF n 188 [.one (.str v0), .one (.int .i64 (IntKind.i64.wrap (x3 + 1))), .one (.int .i64 (IntKind.i64.wrap (v2 - 1)))] []).bind fun x5 =>
 (rTerm x5.1 fun x6 x7 =>
 (rInt .i64 x7 fun x8 x9 =>
 (nilV x9 (nilO x5.2
 (((FF n 99 [.one (.int .i64 4), .one (.fr (.ts [(T.mk (x1).k (x1).n (x1).kids), (T.mk (x6).k (x6).n (x6).kids)]))] []).bind fun x10 =>
 (rTerm x10.1 fun x11 x12 =>
 (nilV x12 (nilO x10.2
 (some ([.agg [.int .i64 (x11).k, .int .i64 (x11).n, .fr (.ts (x11).kids)], .one (.int .i64 x8)], [])))))))))))))))
 (none)))))))))))))
 (((FF n 195 [.one (.str v0), .one (.int .i64 v1), .one (.int .i64 v2)] []).bind fun x0 =>
 (rTerm x0.1 fun x1 x2 =>
 (rInt .i64 x2 fun x3 x4 =>
 (nilV x4 (nilO x0.2
 (some ([.agg [.int .i64 (x1).k, .int .i64 (x1).n, .fr (.ts (x1).kids)], .one (.int .i64 x3)], []))))))))))))))))))))))))))))
 (none)))))))) := by kernel_rfl

/-! loop.example/depkernel/spec.FormatTerm -/
theorem E_spec_FormatTerm (n : Nat) (v0 : Int) (v1 : Int) (v2 : List T) : FF (n + 1) 189 [.agg [.int .i64 v0, .int .i64 v1, .fr (.ts v2)]] [] =
 ((FF n 68 [.agg [.int .i64 v0, .int .i64 v1, .fr (.ts v2)]] []).bind fun x0 =>
 (rBool x0.1 fun x1 x2 =>
 (nilV x2 (nilO x0.2
 ((cond ((!x1))
 (some ([.one (.str (bytesOf []))], []))
 (((FF n 196 [.agg [.int .i64 v0, .int .i64 v1, .fr (.ts v2)]] []).bind fun x3 =>
 (rStr x3.1 fun x4 x5 =>
 (nilV x5 (nilO x3.2
 (some ([.one (.str x4)], []))))))))))))) := by kernel_rfl

/-! loop.example/depkernel/spec.l3Redex -/
theorem E_spec_l3Redex (n : Nat) (v0 : Int) (v1 : Int) (v2 : List T) : FF (n + 1) 186 [.agg [.int .i64 v0, .int .i64 v1, .fr (.ts v2)]] [] =
 (cond ((decide (v0 = 5)))
 (((v2)[(0 : Int).toNat]?.bind fun x0 =>
 (cond ((decide ((x0).k = 4)))
 (some ([.one (.int .i64 1)], []))
 (some ([.one (.int .i64 0)], [])))))
 ((cond ((decide (v0 = 9)))
 (((v2)[(3 : Int).toNat]?.bind fun x0 =>
 (cond ((decide ((x0).k = 7)))
 (some ([.one (.int .i64 2)], []))
 (((v2)[(3 : Int).toNat]?.bind fun x1 =>
 (cond ((decide ((x1).k = 8)))
 (some ([.one (.int .i64 3)], []))
 (some ([.one (.int .i64 0)], []))))))))
 ((cond ((decide (v0 = 12)))
 (((v2)[(1 : Int).toNat]?.bind fun x0 =>
 (cond ((decide ((x0).k = 11)))
 (some ([.one (.int .i64 4)], []))
 (some ([.one (.int .i64 0)], [])))))
 ((cond ((decide (v0 = 15)))
 (((v2)[(0 : Int).toNat]?.bind fun x0 =>
 (cond ((decide ((x0).k = 14)))
 (some ([.one (.int .i64 5)], []))
 (some ([.one (.int .i64 0)], [])))))
 ((cond ((decide (v0 = 16)))
 (((v2)[(0 : Int).toNat]?.bind fun x0 =>
 (cond ((decide ((x0).k = 14)))
 (some ([.one (.int .i64 6)], []))
 (some ([.one (.int .i64 0)], [])))))
 (some ([.one (.int .i64 0)], []))))))))))) := by kernel_rfl

/-! loop.example/depkernel/spec.l3Contract -/
/-! loop.example/depkernel/impl.ready$1 -/
theorem E_impl_ready_1 (n : Nat) (v0 : Int) (v1 : Int) (v2 : List T) : FF (n + 1) 109 [.agg [.int .i64 v0, .int .i64 v1, .fr (.ts v2)]] [] =
 ((FF n 66 [.agg [.int .i64 v0, .int .i64 v1, .fr (.ts v2)]] []).bind fun x0 =>
 (rBool x0.1 fun x1 x2 =>
 (nilV x2 (nilO x0.2
 (some ([.one (.bool (!x1))], [])))))) := by kernel_rfl

/-! loop.example/depkernel/impl.HeadNormal -/
theorem E_impl_HeadNormal (n : Nat) (v0 : Int) (v1 : Int) (v2 : List T) (v3 : Int) : FF (n + 1) 172 [.agg [.int .i64 v0, .int .i64 v1, .fr (.ts v2)], .one (.int .i64 v3)] [] =
 ((FF n 94 [.agg [.int .i64 v0, .int .i64 v1, .fr (.ts v2)], .one (.int .i64 v3), .one (.fn 191 [])] []).bind fun x0 =>
 (rTerm x0.1 fun x1 x2 =>
 (rInt .i64 x2 fun x3 x4 =>
 (rInt .i64 x4 fun x5 x6 =>
 (nilV x6 (nilO x0.2
 (some ([.agg [.int .i64 (x1).k, .int .i64 (x1).n, .fr (.ts (x1).kids)], .one (.int .i64 x5)], [])))))))) := by kernel_rfl

/-! loop.example/depkernel/impl.subst$1 -/
theorem E_impl_subst_1 (n : Nat) (v0 : Int) (v1 : Int) (v2 : Int) (v3 : Int) (v4 : Int) (v5 : List T) (v6 : Bool) : FF (n + 1) 166 [.one (.int .i64 v0), .one (.int .i64 v1), .one (.ptr 0 0), .one (.ptr 1 0), .one (.ptr 2 0)] [.cells [.int .i64 v2], .cells [.int .i64 v3, .int .i64 v4, .fr (.ts v5)], .cells [.bool v6]] =
 (cond ((decide ((IntKind.i64.wrap (v0 - v1)) = v2)))
 (((FF n 93 [.agg [.int .i64 v3, .int .i64 v4, .fr (.ts v5)], .one (.int .i64 v1), .one (.int .i64 0)] []).bind fun x0 =>
 (rTerm x0.1 fun x1 x2 =>
 (rBool x2 fun x3 x4 =>
 (nilV x4 (nilO x0.2
 ((cond (v6)
 (some ([.agg [.int .i64 (x1).k, .int .i64 (x1).n, .fr (.ts (x1).kids)]], [.cells [.int .i64 v2], .cells [.int .i64 v3, .int .i64 v4, .fr (.ts v5)], .cells [.bool x3]]))
 (some ([.agg [.int .i64 (x1).k, .int .i64 (x1).n, .fr (.ts (x1).kids)]], [.cells [.int .i64 v2], .cells [.int .i64 v3, .int .i64 v4, .fr (.ts v5)], .cells [.bool false]]))))))))))
 ((cond ((decide (v2 < (IntKind.i64.wrap (v0 - v1)))))
 (((FF n 89 [.one (.int .i64 (IntKind.i64.wrap (v0 - 1)))] []).bind fun x0 =>
 (rTerm x0.1 fun x1 x2 =>
 (nilV x2 (nilO x0.2
 (some ([.agg [.int .i64 (x1).k, .int .i64 (x1).n, .fr (.ts (x1).kids)]], [.cells [.int .i64 v2], .cells [.int .i64 v3, .int .i64 v4, .fr (.ts v5)], .cells [.bool v6]])))))))
 (((FF n 89 [.one (.int .i64 v0)] []).bind fun x0 =>
 (rTerm x0.1 fun x1 x2 =>
 (nilV x2 (nilO x0.2
 (some ([.agg [.int .i64 (x1).k, .int .i64 (x1).n, .fr (.ts (x1).kids)]], [.cells [.int .i64 v2], .cells [.int .i64 v3, .int .i64 v4, .fr (.ts v5)], .cells [.bool v6]])))))))))) := by kernel_rfl

/-! (loop.example/depkernel/impl.judge).level -/
theorem E_impl_judge_level_impl_infer_1 (n : Nat) (v0 : List T) (v1 : Int) (v2 : Int) (v3 : List T) (v4 : Int) (v5 : List T) (v6 : Int) (v7 : Int) (v8 : List T) : FF (n + 1) 183 [.agg [.fr (.ts v0), .int .i64 v1, .int .i64 v2, .fr (.ts v3), .fn 114 [0, 1]], .one (.int .i64 v4)] [.cells [.fr (.ts v5)], .cells [.int .i64 v6, .int .i64 v7, .fr (.ts v8)]] =
 ((FF n 156 [.agg [.fr (.ts v0), .int .i64 v1, .int .i64 v2, .fr (.ts v3), .fn 114 [0, 1]], .one (.int .i64 v4), .one (.int .i64 2)] [.cells [.fr (.ts v5)], .cells [.int .i64 v6, .int .i64 v7, .fr (.ts v8)]]).bind fun x0 =>
 (objC x0.2 fun x1 x2 =>
 (tsC x1 fun x3 x4 =>
 (nilC x4
 ((objC x2 fun x5 x6 =>
 (intC .i64 x5 fun x7 x8 =>
 (intC .i64 x8 fun x9 x10 =>
 (tsC x10 fun x11 x12 =>
 (nilC x12
 ((rTerm x0.1 fun x13 x14 =>
 (rInt .i64 x14 fun x15 x16 =>
 (nilV x16 (nilO x6
 (some ([.one (.int .i64 (x13).n), .one (.int .i64 x15)], [.cells [.fr (.ts x3)], .cells [.int .i64 x7, .int .i64 x9, .fr (.ts x11)]]))))))))))))))))) := by kernel_rfl

/-! (loop.example/depkernel/impl.judge).family -/
theorem E_impl_judge_family_impl_infer_1 (n : Nat) (v0 : List T) (v1 : Int) (v2 : Int) (v3 : List T) (v4 : Int) (v5 : Int) (v6 : Int) (v7 : List T) (v8 : List T) (v9 : Int) (v10 : Int) (v11 : List T) : FF (n + 1) 184 [.agg [.fr (.ts v0), .int .i64 v1, .int .i64 v2, .fr (.ts v3), .fn 114 [0, 1]], .one (.int .i64 v4), .agg [.int .i64 v5, .int .i64 v6, .fr (.ts v7)]] [.cells [.fr (.ts v8)], .cells [.int .i64 v9, .int .i64 v10, .fr (.ts v11)]] =
 ((FF n 156 [.agg [.fr (.ts v0), .int .i64 v1, .int .i64 v2, .fr (.ts v3), .fn 114 [0, 1]], .one (.int .i64 v4), .one (.int .i64 3)] [.cells [.fr (.ts v8)], .cells [.int .i64 v9, .int .i64 v10, .fr (.ts v11)]]).bind fun x0 =>
 (objC x0.2 fun x1 x2 =>
 (tsC x1 fun x3 x4 =>
 (nilC x4
 ((objC x2 fun x5 x6 =>
 (intC .i64 x5 fun x7 x8 =>
 (intC .i64 x8 fun x9 x10 =>
 (tsC x10 fun x11 x12 =>
 (nilC x12
 ((rTerm x0.1 fun x13 x14 =>
 (rInt .i64 x14 fun x15 x16 =>
 (nilV x16 (nilO x6
 ((cond ((!decide (x15 = 0)))
 (some ([.one (.int .i64 x15)], [.cells [.fr (.ts x3)], .cells [.int .i64 x7, .int .i64 x9, .fr (.ts x11)]]))
 ((((x13).kids)[(0 : Int).toNat]?.bind fun x17 =>
 ((FF n 111 [.agg [.int .i64 (x17).k, .int .i64 (x17).n, .fr (.ts (x17).kids)], .agg [.int .i64 v5, .int .i64 v6, .fr (.ts v7)]] []).bind fun x18 =>
 (rInt .i64 x18.1 fun x19 x20 =>
 (nilV x20 (nilO x18.2
 ((cond ((!decide (x19 = 0)))
 (some ([.one (.int .i64 x19)], [.cells [.fr (.ts x3)], .cells [.int .i64 x7, .int .i64 x9, .fr (.ts x11)]]))
 ((((x13).kids)[(1 : Int).toNat]?.bind fun x21 =>
 ((FF n 136 [.agg [.int .i64 (x21).k, .int .i64 (x21).n, .fr (.ts (x21).kids)], .one (.int .i64 2)] []).bind fun x22 =>
 (rTerm x22.1 fun x23 x24 =>
 (rInt .i64 x24 fun x25 x26 =>
 (nilV x26 (nilO x22.2
 (some ([.one (.int .i64 x25)], [.cells [.fr (.ts x3)], .cells [.int .i64 x7, .int .i64 x9, .fr (.ts x11)]])))))))))))))))))))))))))))))))))) := by kernel_rfl

/-! loop.example/depkernel/impl.stepType -/
theorem E_impl_stepType (n : Nat) (v0 : Int) (v1 : Int) (v2 : List T) : FF (n + 1) 185 [.agg [.int .i64 v0, .int .i64 v1, .fr (.ts v2)]] [] =
 ((FF n 93 [.agg [.int .i64 v0, .int .i64 v1, .fr (.ts v2)], .one (.int .i64 1), .one (.int .i64 0)] []).bind fun x0 =>
 (rTerm x0.1 fun x1 x2 =>
 (rBool x2 fun x3 x4 =>
 (nilV x4 (nilO x0.2
 (((FF n 93 [.agg [.int .i64 v0, .int .i64 v1, .fr (.ts v2)], .one (.int .i64 2), .one (.int .i64 0)] []).bind fun x5 =>
 (rTerm x5.1 fun x6 x7 =>
 (rBool x7 fun x8 x9 =>
 (nilV x9 (nilO x5.2
 (((FF n 91 [.one (.int .i64 6), .one (.emp none)] []).bind fun x10 =>
 (rTerm x10.1 fun x11 x12 =>
 (nilV x12 (nilO x10.2
 (((FF n 89 [.one (.int .i64 0)] []).bind fun x13 =>
 (rTerm x13.1 fun x14 x15 =>
 (nilV x15 (nilO x13.2
 (((FF n 91 [.one (.int .i64 5), .one (.fr (.ts [(T.mk (x1).k (x1).n (x1).kids), (T.mk (x14).k (x14).n (x14).kids)]))] []).bind fun x16 =>
 (rTerm x16.1 fun x17 x18 =>
 (nilV x18 (nilO x16.2
 (((FF n 89 [.one (.int .i64 1)] []).bind fun x19 =>
 (rTerm x19.1 fun x20 x21 =>
 (nilV x21 (nilO x19.2
 (((FF n 91 [.one (.int .i64 8), .one (.fr (.ts [(T.mk (x20).k (x20).n (x20).kids)]))] []).bind fun x22 =>
 (rTerm x22.1 fun x23 x24 =>
 (nilV x24 (nilO x22.2
 (((FF n 91 [.one (.int .i64 5), .one (.fr (.ts [(T.mk (x6).k (x6).n (x6).kids), (T.mk (x23).k (x23).n (x23).kids)]))] []).bind fun x25 =>
 (rTerm x25.1 fun x26 x27 =>
 (nilV x27 (nilO x25.2
 (((FF n 91 [.one (.int .i64 3), .one (.fr (.ts [(T.mk (x17).k (x17).n (x17).kids), (T.mk (x26).k (x26).n (x26).kids)]))] []).bind fun x28 =>
 (rTerm x28.1 fun x29 x30 =>
 (nilV x30 (nilO x28.2
 (((FF n 91 [.one (.int .i64 3), .one (.fr (.ts [(T.mk (x11).k (x11).n (x11).kids), (T.mk (x29).k (x29).n (x29).kids)]))] []).bind fun x31 =>
 (rTerm x31.1 fun x32 x33 =>
 (nilV x33 (nilO x31.2
 ((cond (x3)
 (((FF n 151 [.agg [.int .i64 (x32).k, .int .i64 (x32).n, .fr (.ts (x32).kids)], .one (.bool x8)] []).bind fun x34 =>
 (rTerm x34.1 fun x35 x36 =>
 (rInt .i64 x36 fun x37 x38 =>
 (nilV x38 (nilO x34.2
 (some ([.agg [.int .i64 (x35).k, .int .i64 (x35).n, .fr (.ts (x35).kids)], .one (.int .i64 x37)], []))))))))
 (((FF n 151 [.agg [.int .i64 (x32).k, .int .i64 (x32).n, .fr (.ts (x32).kids)], .one (.bool false)] []).bind fun x34 =>
 (rTerm x34.1 fun x35 x36 =>
 (rInt .i64 x36 fun x37 x38 =>
 (nilV x38 (nilO x34.2
 (some ([.agg [.int .i64 (x35).k, .int .i64 (x35).n, .fr (.ts (x35).kids)], .one (.int .i64 x37)], []))))))))))))))))))))))))))))))))))))))))))))))))))))))))))))) := by kernel_rfl

/-! loop.example/depkernel/impl.operandContext -/
theorem E_impl_operandContext (n : Nat) (v0 : List T) (v1 : Int) (v2 : Int) (v3 : List T) (v4 : Int) : FF (n + 1) 115 [.one (.fr (.ts v0)), .agg [.int .i64 v1, .int .i64 v2, .fr (.ts v3)], .one (.int .i64 v4)] [] =
 ((FF n 149 [.one (.int .i64 v1), .one (.int .i64 v4)] []).bind fun x0 =>
 (rInt .i64 x0.1 fun x1 x2 =>
 (nilV x2 (nilO x0.2
 ((cond ((decide (x1 = 0)))
 (some ([.one (.fr (.ts v0)), .one (.int .i64 0)], []))
 (((v3)[(0 : Int).toNat]?.bind fun x3 =>
 ((FF n 150 [.one (.fr (.ts v0)), .agg [.int .i64 (x3).k, .int .i64 (x3).n, .fr (.ts (x3).kids)]] []).bind fun x4 =>
 (rTs x4.1 fun x5 x6 =>
 (rInt .i64 x6 fun x7 x8 =>
 (nilV x8 (nilO x4.2
 (some ([.one (.fr (.ts x5)), .one (.int .i64 x7)], []))))))))))))))) := by kernel_rfl

/-! loop.example/depkernel/impl.isBinder -/
theorem E_impl_isBinder (n : Nat) (v0 : Int) : FF (n + 1) 181 [.one (.int .i64 v0)] [] =
 (cond ((decide (v0 = 3)))
 (some ([.one (.bool true)], []))
 ((cond ((decide (v0 = 4)))
 (some ([.one (.bool true)], []))
 (some ([.one (.bool (decide (v0 = 13)))], []))))) := by kernel_rfl

/-! loop.example/depkernel/impl.areTerms$1 -/
theorem E_impl_areTerms_1 (n : Nat) (v0 : Int) (v1 : Int) (v2 : List T) : FF (n + 1) 127 [.agg [.int .i64 v0, .int .i64 v1, .fr (.ts v2)]] [] =
 ((FF n 66 [.agg [.int .i64 v0, .int .i64 v1, .fr (.ts v2)]] []).bind fun x0 =>
 (rBool x0.1 fun x1 x2 =>
 (nilV x2 (nilO x0.2
 (some ([.one (.bool (!x1))], [])))))) := by kernel_rfl

/-! loop.example/depkernel/spec.l3HeadStep -/
/-! loop.example/depkernel/spec.l5Push -/
/-! loop.example/depkernel/spec.l5Larger -/
/-! loop.example/depkernel/spec.l5Shape -/
/-! loop.example/depkernel/spec.l2Subst -/
/-! loop.example/depkernel/spec.l5Family -/
/-! loop.example/depkernel/spec.l5StepType -/
/-! loop.example/depkernel/spec.l5Part -/
/-! slices.Clone[[]loop.example/depkernel/impl.Term,loop.example/depkernel/impl.Term] -/
theorem E_slices_Clone (n : Nat) (v0 : List T) : FF (n + 1) 182 [.one (.fr (.ts v0))] [] =
 (cond (Nat.beq (v0).length 0)
 ((same (some ([.one (.own 0 0)], [.arr 35 (.ts []) 0 false]))
 ((cond (roomB ([] ++ v0).length)
 (some ([.one (.own 0 0)], [.arr 35 (.ts ([] ++ v0)) 0 false]))
 (none)))))
 ((cond (roomB ([] ++ v0).length)
 (some ([.one (.own 0 0)], [.arr 35 (.ts ([] ++ v0)) 0 false]))
 (none)))) := by kernel_rfl

/-! loop.example/depkernel/spec.TermSame -/
/-! loop.example/depkernel/spec.l1Number -/
noncomputable def L_spec_l1Number_0 (n c : Nat) (v0 : ByteArray) (v1 : Int) (v2 : Int) (v3 : Int) : OR := runLoop Tryz.prog SS n 192 0 [1, 1, 0, 0] [] c ⟨[.v (.one (.str v0)), .v (.one (.int .i64 v1)), .v (.one (.int .i64 v2)), .v (.one (.any)), .v (.one (.any)), .v (.one (.any)), .v (.one (.any)), .v (.one (.any)), .v (.one (.int .i64 v3)), .v (.one (.any)), .v (.one (.any)), .v (.one (.any)), .v (.one (.any)), .v (.one (.any)), .v (.one (.any)), .v (.one (.any)), .v (.one (.any)), .v (.one (.any)), .v (.one (.any)), .v (.one (.any)), .v (.one (.any)), .v (.one (.any)), .v (.one (.any)), .v (.one (.any)), .v (.one (.any)), .v (.one (.any)), .v (.one (.any)), .v (.one (.any)), .v (.one (.any)), .v (.one (.any)), .v (.one (.any)), .v (.one (.any)), .v (.one (.any)), .v (.one (.any)), .v (.one (.any)), .v (.one (.any)), .v (.one (.any)), .v (.one (.any)), .v (.one (.any)), .v (.one (.any)), .v (.one (.any)), .v (.one (.any)), .v (.one (.any)), .v (.one (.any)), .v (.one (.any)), .v (.one (.any)), .v (.one (.any)), .v (.one (.any)), .v (.one (.any))],
  []⟩
theorem L_spec_l1Number_0_eq (n c : Nat) (v0 : ByteArray) (v1 : Int) (v2 : Int) (v3 : Int) : L_spec_l1Number_0 n (c + 1) v0 v1 v2 v3 =
 (cond ((decide (v3 < ((v0).size : Int))))
 ((cond ((decide (v3 < (IntKind.i64.wrap (v1 + v2)))))
 ((cond (decide (0 ≤ v3) && decide (v3 < (((v0).size : Nat) : Int)))
 ((cond ((decide (48 ≤ ((byteAt v0 (v3 : Int).toNat).toNat : Int))))
 ((cond (decide (0 ≤ v3) && decide (v3 < (((v0).size : Nat) : Int)))
 ((cond ((decide (((byteAt v0 (v3 : Int).toNat).toNat : Int) ≤ 57)))
 (L_spec_l1Number_0 n c (v0 : ByteArray) (v1 : Int) (v2 : Int) ((IntKind.i64.wrap (v3 + 1)) : Int))
 ((cond (Go.Ab.inB v1 v3 (v0).size)
 (((FF n 197 [.one (.str ((v0).extract (v1 : Int).toNat (v3 : Int).toNat))] []).bind fun x0 =>
 (rInt .i64 x0.1 fun x1 x2 =>
 (rBool x2 fun x3 x4 =>
 (nilV x4 (nilO x0.2
 ((cond ((!x3))
 (some ([.one (.int .i64 0), .one (.int .i64 (-1))], []))
 (some ([.one (.int .i64 x1), .one (.int .i64 v3)], []))))))))))
 (none)))))
 (none)))
 ((cond (Go.Ab.inB v1 v3 (v0).size)
 (((FF n 197 [.one (.str ((v0).extract (v1 : Int).toNat (v3 : Int).toNat))] []).bind fun x0 =>
 (rInt .i64 x0.1 fun x1 x2 =>
 (rBool x2 fun x3 x4 =>
 (nilV x4 (nilO x0.2
 ((cond ((!x3))
 (some ([.one (.int .i64 0), .one (.int .i64 (-1))], []))
 (some ([.one (.int .i64 x1), .one (.int .i64 v3)], []))))))))))
 (none)))))
 (none)))
 ((cond (Go.Ab.inB v1 v3 (v0).size)
 (((FF n 197 [.one (.str ((v0).extract (v1 : Int).toNat (v3 : Int).toNat))] []).bind fun x0 =>
 (rInt .i64 x0.1 fun x1 x2 =>
 (rBool x2 fun x3 x4 =>
 (nilV x4 (nilO x0.2
 ((cond ((!x3))
 (some ([.one (.int .i64 0), .one (.int .i64 (-1))], []))
 (some ([.one (.int .i64 x1), .one (.int .i64 v3)], []))))))))))
 (none)))))
 ((cond (Go.Ab.inB v1 v3 (v0).size)
 (((FF n 197 [.one (.str ((v0).extract (v1 : Int).toNat (v3 : Int).toNat))] []).bind fun x0 =>
 (rInt .i64 x0.1 fun x1 x2 =>
 (rBool x2 fun x3 x4 =>
 (nilV x4 (nilO x0.2
 ((cond ((!x3))
 (some ([.one (.int .i64 0), .one (.int .i64 (-1))], []))
 (some ([.one (.int .i64 x1), .one (.int .i64 v3)], []))))))))))
 (none)))) := by kernel_rfl
theorem E_spec_l1Number (n : Nat) (v0 : ByteArray) (v1 : Int) (v2 : Int) : FF (n + 1) 192 [.one (.str v0), .one (.int .i64 v1), .one (.int .i64 v2)] [] =
 L_spec_l1Number_0 n n (v0 : ByteArray) (v1 : Int) (v2 : Int) (v1 : Int) := by kernel_rfl

end Go.Proofs.YthopkmimhlcjkaaGreat
end
section
/- What the program's functions come to in the abstract run. -/
set_option linter.unusedVariables false
namespace Go.Proofs.YthopkmimhlcjkaaGreat
open Go Go.Ab Go.Dk
/-! loop.example/depkernel/spec.l1Prefix -/
theorem E_spec_l1Prefix (n : Nat) (v0 : ByteArray) (v1 : Int) (v2 : Int) : FF (n + 1) 193 [.one (.str v0), .one (.int .i64 v1), .one (.int .i64 v2)] [] =
 (cond (decide (0 ≤ v1) && decide (v1 < (((v0).size : Nat) : Int)))
 ((cond ((decide (((byteAt v0 (v1 : Int).toNat).toNat : Int) = 33)))
 (((FF n 188 [.one (.str v0), .one (.int .i64 (IntKind.i64.wrap (v1 + 1))), .one (.int .i64 (IntKind.i64.wrap (v2 - 1)))] []).bind fun x0 =>
 (rTerm x0.1 fun x1 x2 =>
 (rInt .i64 x2 fun x3 x4 =>
 (nilV x4 (nilO x0.2
 (((FF n 99 [.one (.int .i64 11), .one (.fr (.ts [(T.mk (x1).k (x1).n (x1).kids)]))] []).bind fun x5 =>
 (rTerm x5.1 fun x6 x7 =>
 (nilV x7 (nilO x5.2
 (some ([.agg [.int .i64 (x6).k, .int .i64 (x6).n, .fr (.ts (x6).kids)], .one (.int .i64 x3)], [])))))))))))))
 ((cond ((decide (((byteAt v0 (v1 : Int).toNat).toNat : Int) = 94)))
 (((FF n 188 [.one (.str v0), .one (.int .i64 (IntKind.i64.wrap (v1 + 1))), .one (.int .i64 (IntKind.i64.wrap (v2 - 1)))] []).bind fun x0 =>
 (rTerm x0.1 fun x1 x2 =>
 (rInt .i64 x2 fun x3 x4 =>
 (nilV x4 (nilO x0.2
 (((FF n 99 [.one (.int .i64 15), .one (.fr (.ts [(T.mk (x1).k (x1).n (x1).kids)]))] []).bind fun x5 =>
 (rTerm x5.1 fun x6 x7 =>
 (nilV x7 (nilO x5.2
 (some ([.agg [.int .i64 (x6).k, .int .i64 (x6).n, .fr (.ts (x6).kids)], .one (.int .i64 x3)], [])))))))))))))
 ((cond ((decide (((byteAt v0 (v1 : Int).toNat).toNat : Int) = 95)))
 (((FF n 188 [.one (.str v0), .one (.int .i64 (IntKind.i64.wrap (v1 + 1))), .one (.int .i64 (IntKind.i64.wrap (v2 - 1)))] []).bind fun x0 =>
 (rTerm x0.1 fun x1 x2 =>
 (rInt .i64 x2 fun x3 x4 =>
 (nilV x4 (nilO x0.2
 (((FF n 99 [.one (.int .i64 16), .one (.fr (.ts [(T.mk (x1).k (x1).n (x1).kids)]))] []).bind fun x5 =>
 (rTerm x5.1 fun x6 x7 =>
 (nilV x7 (nilO x5.2
 (some ([.agg [.int .i64 (x6).k, .int .i64 (x6).n, .fr (.ts (x6).kids)], .one (.int .i64 x3)], [])))))))))))))
 (((FF n 188 [.one (.str v0), .one (.int .i64 (IntKind.i64.wrap (v1 + 1))), .one (.int .i64 (IntKind.i64.wrap (v2 - 1)))] []).bind fun x0 =>
 (rTerm x0.1 fun x1 x2 =>
 (rInt .i64 x2 fun x3 x4 =>
 (nilV x4 (nilO x0.2
 (((FF n 99 [.one (.int .i64 8), .one (.fr (.ts [(T.mk (x1).k (x1).n (x1).kids)]))] []).bind fun x5 =>
 (rTerm x5.1 fun x6 x7 =>
 (nilV x7 (nilO x5.2
 (some ([.agg [.int .i64 (x6).k, .int .i64 (x6).n, .fr (.ts (x6).kids)], .one (.int .i64 x3)], [])))))))))))))))))))
 (none)) := by kernel_rfl

/-! loop.example/depkernel/spec.l1Round -/
theorem E_spec_l1Round (n : Nat) (v0 : ByteArray) (v1 : Int) (v2 : Int) : FF (n + 1) 194 [.one (.str v0), .one (.int .i64 v1), .one (.int .i64 v2)] [] =
 ((FF n 188 [.one (.str v0), .one (.int .i64 v1), .one (.int .i64 v2)] []).bind fun x0 =>
 (rTerm x0.1 fun x1 x2 =>
 (rInt .i64 x2 fun x3 x4 =>
 (nilV x4 (nilO x0.2
 ((cond ((decide (x3 < 0)))
 (some ([.agg [.int .i64 0, .int .i64 0, .fr (.ts [])], .one (.int .i64 (-1))], []))
 ((cond ((decide (((v0).size : Int) ≤ x3)))
 (some ([.agg [.int .i64 0, .int .i64 0, .fr (.ts [])], .one (.int .i64 (-1))], []))
 ((cond (decide (0 ≤ x3) && decide (x3 < (((v0).size : Nat) : Int)))
 ((cond ((decide (((byteAt v0 (x3 : Int).toNat).toNat : Int) = 62)))
 (((FF n 188 [.one (.str v0), .one (.int .i64 (IntKind.i64.wrap (x3 + 1))), .one (.int .i64 v2)] []).bind fun x5 =>
 (rTerm x5.1 fun x6 x7 =>
 (rInt .i64 x7 fun x8 x9 =>
 (nilV x9 (nilO x5.2
 ((cond ((decide (x8 < 0)))
 (some ([.agg [.int .i64 0, .int .i64 0, .fr (.ts [])], .one (.int .i64 (-1))], []))
 ((cond ((decide (((v0).size : Int) ≤ x8)))
 (some ([.agg [.int .i64 0, .int .i64 0, .fr (.ts [])], .one (.int .i64 (-1))], []))
 ((cond (decide (0 ≤ x8) && decide (x8 < (((v0).size : Nat) : Int)))
 ((cond ((!decide (((byteAt v0 (x8 : Int).toNat).toNat : Int) = 41)))
 (some ([.agg [.int .i64 0, .int .i64 0, .fr (.ts [])], .one (.int .i64 (-1))], []))
 (((FF n 99 [.one (.int .i64 3), .one (.fr (.ts [(T.mk (x1).k (x1).n (x1).kids), (T.mk (x6).k (x6).n (x6).kids)]))] []).bind fun x10 =>
 (rTerm x10.1 fun x11 x12 =>
 (nilV x12 (nilO x10.2
 (some ([.agg [.int .i64 (x11).k, .int .i64 (x11).n, .fr (.ts (x11).kids)], .one (.int .i64 (IntKind.i64.wrap (x8 + 1)))], [])))))))))
 (none)))))))))))))
 ((cond ((decide (((byteAt v0 (x3 : Int).toNat).toNat : Int) = 42)))
 (((FF n 188 [.one (.str v0), .one (.int .i64 (IntKind.i64.wrap (x3 + 1))), .one (.int .i64 v2)] []).bind fun x5 =>
 (rTerm x5.1 fun x6 x7 =>
 (rInt .i64 x7 fun x8 x9 =>
 (nilV x9 (nilO x5.2
 ((cond ((decide (x8 < 0)))
 (some ([.agg [.int .i64 0, .int .i64 0, .fr (.ts [])], .one (.int .i64 (-1))], []))
 ((cond ((decide (((v0).size : Int) ≤ x8)))
 (some ([.agg [.int .i64 0, .int .i64 0, .fr (.ts [])], .one (.int .i64 (-1))], []))
 ((cond (decide (0 ≤ x8) && decide (x8 < (((v0).size : Nat) : Int)))
 ((cond ((!decide (((byteAt v0 (x8 : Int).toNat).toNat : Int) = 41)))
 (some ([.agg [.int .i64 0, .int .i64 0, .fr (.ts [])], .one (.int .i64 (-1))], []))
 (((FF n 99 [.one (.int .i64 13), .one (.fr (.ts [(T.mk (x1).k (x1).n (x1).kids), (T.mk (x6).k (x6).n (x6).kids)]))] []).bind fun x10 =>
 (rTerm x10.1 fun x11 x12 =>
 (nilV x12 (nilO x10.2
 (some ([.agg [.int .i64 (x11).k, .int .i64 (x11).n, .fr (.ts (x11).kids)], .one (.int .i64 (IntKind.i64.wrap (x8 + 1)))], [])))))))))
 (none)))))))))))))
 ((cond ((decide (((byteAt v0 (x3 : Int).toNat).toNat : Int) = 32)))
 (((FF n 188 [.one (.str v0), .one (.int .i64 (IntKind.i64.wrap (x3 + 1))), .one (.int .i64 v2)] []).bind fun x5 =>
 (rTerm x5.1 fun x6 x7 =>
 (rInt .i64 x7 fun x8 x9 =>
 (nilV x9 (nilO x5.2
 ((cond ((decide (x8 < 0)))
 (some ([.agg [.int .i64 0, .int .i64 0, .fr (.ts [])], .one (.int .i64 (-1))], []))
 ((cond ((decide (((v0).size : Int) ≤ x8)))
 (some ([.agg [.int .i64 0, .int .i64 0, .fr (.ts [])], .one (.int .i64 (-1))], []))
 ((cond (decide (0 ≤ x8) && decide (x8 < (((v0).size : Nat) : Int)))
 ((cond ((!decide (((byteAt v0 (x8 : Int).toNat).toNat : Int) = 41)))
 (some ([.agg [.int .i64 0, .int .i64 0, .fr (.ts [])], .one (.int .i64 (-1))], []))
 (((FF n 99 [.one (.int .i64 5), .one (.fr (.ts [(T.mk (x1).k (x1).n (x1).kids), (T.mk (x6).k (x6).n (x6).kids)]))] []).bind fun x10 =>
 (rTerm x10.1 fun x11 x12 =>
 (nilV x12 (nilO x10.2
 (some ([.agg [.int .i64 (x11).k, .int .i64 (x11).n, .fr (.ts (x11).kids)], .one (.int .i64 (IntKind.i64.wrap (x8 + 1)))], [])))))))))
 (none)))))))))))))
 (((FF n 188 [.one (.str v0), .one (.int .i64 (IntKind.i64.wrap (x3 + 1))), .one (.int .i64 v2)] []).bind fun x5 =>
 (rTerm x5.1 fun x6 x7 =>
 (rInt .i64 x7 fun x8 x9 =>
 (nilV x9 (nilO x5.2
 (some ([.agg [.int .i64 0, .int .i64 0, .fr (.ts [])], .one (.int .i64 (-1))], []))))))))))))))
 (none)))))))))))) := by kernel_rfl

/-! loop.example/depkernel/spec.l1Block -/
theorem E_spec_l1Block (n : Nat) (v0 : ByteArray) (v1 : Int) (v2 : Int) : FF (n + 1) 195 [.one (.str v0), .one (.int .i64 v1), .one (.int .i64 v2)] [] =
 (cond (decide (0 ≤ v1) && decide (v1 < (((v0).size : Nat) : Int)))
 ((cond ((decide (((byteAt v0 (v1 : Int).toNat).toNat : Int) = 60)))
 (((FF n 137 [.one (.int .i64 9)] []).bind fun x0 =>
 (rInt .i64 x0.1 fun x1 x2 =>
 (nilV x2 (nilO x0.2
 (((FF n 198 [.one (.str v0), .one (.int .i64 (IntKind.i64.wrap (v1 + 1))), .one (.int .i64 (IntKind.i64.wrap (v2 - 1))), .one (.int .i64 x1), .one (.int .u8 62)] []).bind fun x3 =>
 (rTs x3.1 fun x4 x5 =>
 (rInt .i64 x5 fun x6 x7 =>
 (nilV x7 (nilO x3.2
 (some ([.agg [.int .i64 9, .int .i64 0, .fr (.ts x4)], .one (.int .i64 x6)], [])))))))))))))
 ((cond ((decide (((byteAt v0 (v1 : Int).toNat).toNat : Int) = 123)))
 (((FF n 137 [.one (.int .i64 10)] []).bind fun x0 =>
 (rInt .i64 x0.1 fun x1 x2 =>
 (nilV x2 (nilO x0.2
 (((FF n 198 [.one (.str v0), .one (.int .i64 (IntKind.i64.wrap (v1 + 1))), .one (.int .i64 (IntKind.i64.wrap (v2 - 1))), .one (.int .i64 x1), .one (.int .u8 125)] []).bind fun x3 =>
 (rTs x3.1 fun x4 x5 =>
 (rInt .i64 x5 fun x6 x7 =>
 (nilV x7 (nilO x3.2
 (some ([.agg [.int .i64 10, .int .i64 0, .fr (.ts x4)], .one (.int .i64 x6)], [])))))))))))))
 ((cond ((decide (((byteAt v0 (v1 : Int).toNat).toNat : Int) = 124)))
 (((FF n 137 [.one (.int .i64 14)] []).bind fun x0 =>
 (rInt .i64 x0.1 fun x1 x2 =>
 (nilV x2 (nilO x0.2
 (((FF n 198 [.one (.str v0), .one (.int .i64 (IntKind.i64.wrap (v1 + 1))), .one (.int .i64 (IntKind.i64.wrap (v2 - 1))), .one (.int .i64 x1), .one (.int .u8 124)] []).bind fun x3 =>
 (rTs x3.1 fun x4 x5 =>
 (rInt .i64 x5 fun x6 x7 =>
 (nilV x7 (nilO x3.2
 (some ([.agg [.int .i64 14, .int .i64 0, .fr (.ts x4)], .one (.int .i64 x6)], [])))))))))))))
 ((cond ((decide (((byteAt v0 (v1 : Int).toNat).toNat : Int) = 64)))
 ((cond ((decide (((v0).size : Int) < (IntKind.i64.wrap (v1 + 2)))))
 (some ([.agg [.int .i64 0, .int .i64 0, .fr (.ts [])], .one (.int .i64 (-1))], []))
 ((cond (decide (0 ≤ (IntKind.i64.wrap (v1 + 1))) && decide ((IntKind.i64.wrap (v1 + 1)) < (((v0).size : Nat) : Int)))
 ((cond ((!decide (((byteAt v0 ((IntKind.i64.wrap (v1 + 1)) : Int).toNat).toNat : Int) = 60)))
 (some ([.agg [.int .i64 0, .int .i64 0, .fr (.ts [])], .one (.int .i64 (-1))], []))
 (((FF n 137 [.one (.int .i64 12)] []).bind fun x0 =>
 (rInt .i64 x0.1 fun x1 x2 =>
 (nilV x2 (nilO x0.2
 (((FF n 198 [.one (.str v0), .one (.int .i64 (IntKind.i64.wrap (v1 + 2))), .one (.int .i64 (IntKind.i64.wrap (v2 - 1))), .one (.int .i64 x1), .one (.int .u8 62)] []).bind fun x3 =>
 (rTs x3.1 fun x4 x5 =>
 (rInt .i64 x5 fun x6 x7 =>
 (nilV x7 (nilO x3.2
 (some ([.agg [.int .i64 12, .int .i64 0, .fr (.ts x4)], .one (.int .i64 x6)], [])))))))))))))))
 (none)))))
 (some ([.agg [.int .i64 0, .int .i64 0, .fr (.ts [])], .one (.int .i64 (-1))], []))))))))))
 (none)) := by kernel_rfl

/-! loop.example/depkernel/spec.l1Text -/
theorem E_spec_l1Text (n : Nat) (v0 : Int) (v1 : Int) (v2 : List T) : FF (n + 1) 196 [.agg [.int .i64 v0, .int .i64 v1, .fr (.ts v2)]] [] =
 (cond ((decide (v0 = 1)))
 (((FF n 199 [.one (.int .i64 v1)] []).bind fun x0 =>
 (rStr x0.1 fun x1 x2 =>
 (nilV x2 (nilO x0.2
 ((cond (decide (((bytesOf [35])).size + (x1).size ≤ 9223372036854775807))
 (some ([.one (.str ((bytesOf [35]) ++ x1))], []))
 (none))))))))
 ((cond ((decide (v0 = 2)))
 (((FF n 199 [.one (.int .i64 v1)] []).bind fun x0 =>
 (rStr x0.1 fun x1 x2 =>
 (nilV x2 (nilO x0.2
 ((cond (decide (((bytesOf [42])).size + (x1).size ≤ 9223372036854775807))
 (some ([.one (.str ((bytesOf [42]) ++ x1))], []))
 (none))))))))
 ((cond ((decide (v0 = 6)))
 (some ([.one (.str (bytesOf [78]))], []))
 ((cond ((decide (v0 = 7)))
 (some ([.one (.str (bytesOf [48]))], []))
 ((cond ((decide (v0 = 8)))
 (((v2)[(0 : Int).toNat]?.bind fun x0 =>
 ((FF n 196 [.agg [.int .i64 (x0).k, .int .i64 (x0).n, .fr (.ts (x0).kids)]] []).bind fun x1 =>
 (rStr x1.1 fun x2 x3 =>
 (nilV x3 (nilO x1.2
 ((cond (decide (((bytesOf [43])).size + (x2).size ≤ 9223372036854775807))
 (some ([.one (.str ((bytesOf [43]) ++ x2))], []))
 (none)))))))))
 ((cond ((decide (v0 = 11)))
 (((v2)[(0 : Int).toNat]?.bind fun x0 =>
 ((FF n 196 [.agg [.int .i64 (x0).k, .int .i64 (x0).n, .fr (.ts (x0).kids)]] []).bind fun x1 =>
 (rStr x1.1 fun x2 x3 =>
 (nilV x3 (nilO x1.2
 ((cond (decide (((bytesOf [33])).size + (x2).size ≤ 9223372036854775807))
 (some ([.one (.str ((bytesOf [33]) ++ x2))], []))
 (none)))))))))
 ((cond ((decide (v0 = 15)))
 (((v2)[(0 : Int).toNat]?.bind fun x0 =>
 ((FF n 196 [.agg [.int .i64 (x0).k, .int .i64 (x0).n, .fr (.ts (x0).kids)]] []).bind fun x1 =>
 (rStr x1.1 fun x2 x3 =>
 (nilV x3 (nilO x1.2
 ((cond (decide (((bytesOf [94])).size + (x2).size ≤ 9223372036854775807))
 (some ([.one (.str ((bytesOf [94]) ++ x2))], []))
 (none)))))))))
 ((cond ((decide (v0 = 16)))
 (((v2)[(0 : Int).toNat]?.bind fun x0 =>
 ((FF n 196 [.agg [.int .i64 (x0).k, .int .i64 (x0).n, .fr (.ts (x0).kids)]] []).bind fun x1 =>
 (rStr x1.1 fun x2 x3 =>
 (nilV x3 (nilO x1.2
 ((cond (decide (((bytesOf [95])).size + (x2).size ≤ 9223372036854775807))
 (some ([.one (.str ((bytesOf [95]) ++ x2))], []))
 (none)))))))))
 ((cond ((decide (v0 = 3)))
 (((v2)[(0 : Int).toNat]?.bind fun x0 =>
 ((FF n 196 [.agg [.int .i64 (x0).k, .int .i64 (x0).n, .fr (.ts (x0).kids)]] []).bind fun x1 =>
 (rStr x1.1 fun x2 x3 =>
 (nilV x3 (nilO x1.2
 ((cond (decide (((bytesOf [40])).size + (x2).size ≤ 9223372036854775807))
 ((cond (decide ((((bytesOf [40]) ++ x2)).size + ((bytesOf [62])).size ≤ 9223372036854775807))
 (((v2)[(1 : Int).toNat]?.bind fun x4 =>
 ((FF n 196 [.agg [.int .i64 (x4).k, .int .i64 (x4).n, .fr (.ts (x4).kids)]] []).bind fun x5 =>
 (rStr x5.1 fun x6 x7 =>
 (nilV x7 (nilO x5.2
 ((cond (decide (((((bytesOf [40]) ++ x2) ++ (bytesOf [62]))).size + (x6).size ≤ 9223372036854775807))
 ((cond (decide ((((((bytesOf [40]) ++ x2) ++ (bytesOf [62])) ++ x6)).size + ((bytesOf [41])).size ≤ 9223372036854775807))
 (some ([.one (.str (((((bytesOf [40]) ++ x2) ++ (bytesOf [62])) ++ x6) ++ (bytesOf [41])))], []))
 (none)))
 (none)))))))))
 (none)))
 (none)))))))))
 ((cond ((decide (v0 = 13)))
 (((v2)[(0 : Int).toNat]?.bind fun x0 =>
 ((FF n 196 [.agg [.int .i64 (x0).k, .int .i64 (x0).n, .fr (.ts (x0).kids)]] []).bind fun x1 =>
 (rStr x1.1 fun x2 x3 =>
 (nilV x3 (nilO x1.2
 ((cond (decide (((bytesOf [40])).size + (x2).size ≤ 9223372036854775807))
 ((cond (decide ((((bytesOf [40]) ++ x2)).size + ((bytesOf [42])).size ≤ 9223372036854775807))
 (((v2)[(1 : Int).toNat]?.bind fun x4 =>
 ((FF n 196 [.agg [.int .i64 (x4).k, .int .i64 (x4).n, .fr (.ts (x4).kids)]] []).bind fun x5 =>
 (rStr x5.1 fun x6 x7 =>
 (nilV x7 (nilO x5.2
 ((cond (decide (((((bytesOf [40]) ++ x2) ++ (bytesOf [42]))).size + (x6).size ≤ 9223372036854775807))
 ((cond (decide ((((((bytesOf [40]) ++ x2) ++ (bytesOf [42])) ++ x6)).size + ((bytesOf [41])).size ≤ 9223372036854775807))
 (some ([.one (.str (((((bytesOf [40]) ++ x2) ++ (bytesOf [42])) ++ x6) ++ (bytesOf [41])))], []))
 (none)))
 (none)))))))))
 (none)))
 (none)))))))))
 ((cond ((decide (v0 = 5)))
 (((v2)[(0 : Int).toNat]?.bind fun x0 =>
 ((FF n 196 [.agg [.int .i64 (x0).k, .int .i64 (x0).n, .fr (.ts (x0).kids)]] []).bind fun x1 =>
 (rStr x1.1 fun x2 x3 =>
 (nilV x3 (nilO x1.2
 ((cond (decide (((bytesOf [40])).size + (x2).size ≤ 9223372036854775807))
 ((cond (decide ((((bytesOf [40]) ++ x2)).size + ((bytesOf [32])).size ≤ 9223372036854775807))
 (((v2)[(1 : Int).toNat]?.bind fun x4 =>
 ((FF n 196 [.agg [.int .i64 (x4).k, .int .i64 (x4).n, .fr (.ts (x4).kids)]] []).bind fun x5 =>
 (rStr x5.1 fun x6 x7 =>
 (nilV x7 (nilO x5.2
 ((cond (decide (((((bytesOf [40]) ++ x2) ++ (bytesOf [32]))).size + (x6).size ≤ 9223372036854775807))
 ((cond (decide ((((((bytesOf [40]) ++ x2) ++ (bytesOf [32])) ++ x6)).size + ((bytesOf [41])).size ≤ 9223372036854775807))
 (some ([.one (.str (((((bytesOf [40]) ++ x2) ++ (bytesOf [32])) ++ x6) ++ (bytesOf [41])))], []))
 (none)))
 (none)))))))))
 (none)))
 (none)))))))))
 ((cond ((decide (v0 = 4)))
 (((v2)[(0 : Int).toNat]?.bind fun x0 =>
 ((FF n 196 [.agg [.int .i64 (x0).k, .int .i64 (x0).n, .fr (.ts (x0).kids)]] []).bind fun x1 =>
 (rStr x1.1 fun x2 x3 =>
 (nilV x3 (nilO x1.2
 ((cond (decide (((bytesOf [91])).size + (x2).size ≤ 9223372036854775807))
 ((cond (decide ((((bytesOf [91]) ++ x2)).size + ((bytesOf [93])).size ≤ 9223372036854775807))
 (((v2)[(1 : Int).toNat]?.bind fun x4 =>
 ((FF n 196 [.agg [.int .i64 (x4).k, .int .i64 (x4).n, .fr (.ts (x4).kids)]] []).bind fun x5 =>
 (rStr x5.1 fun x6 x7 =>
 (nilV x7 (nilO x5.2
 ((cond (decide (((((bytesOf [91]) ++ x2) ++ (bytesOf [93]))).size + (x6).size ≤ 9223372036854775807))
 (some ([.one (.str ((((bytesOf [91]) ++ x2) ++ (bytesOf [93])) ++ x6))], []))
 (none)))))))))
 (none)))
 (none)))))))))
 ((cond ((decide (v0 = 10)))
 (((FF n 200 [.one (.fr (.ts v2))] []).bind fun x0 =>
 (rStr x0.1 fun x1 x2 =>
 (nilV x2 (nilO x0.2
 ((cond (decide (((bytesOf [123])).size + (x1).size ≤ 9223372036854775807))
 ((cond (decide ((((bytesOf [123]) ++ x1)).size + ((bytesOf [125])).size ≤ 9223372036854775807))
 (some ([.one (.str (((bytesOf [123]) ++ x1) ++ (bytesOf [125])))], []))
 (none)))
 (none))))))))
 ((cond ((decide (v0 = 14)))
 (((FF n 200 [.one (.fr (.ts v2))] []).bind fun x0 =>
 (rStr x0.1 fun x1 x2 =>
 (nilV x2 (nilO x0.2
 ((cond (decide (((bytesOf [124])).size + (x1).size ≤ 9223372036854775807))
 ((cond (decide ((((bytesOf [124]) ++ x1)).size + ((bytesOf [124])).size ≤ 9223372036854775807))
 (some ([.one (.str (((bytesOf [124]) ++ x1) ++ (bytesOf [124])))], []))
 (none)))
 (none))))))))
 ((cond ((decide (v0 = 12)))
 (((FF n 200 [.one (.fr (.ts v2))] []).bind fun x0 =>
 (rStr x0.1 fun x1 x2 =>
 (nilV x2 (nilO x0.2
 ((cond (decide (((bytesOf [64, 60])).size + (x1).size ≤ 9223372036854775807))
 ((cond (decide ((((bytesOf [64, 60]) ++ x1)).size + ((bytesOf [62])).size ≤ 9223372036854775807))
 (some ([.one (.str (((bytesOf [64, 60]) ++ x1) ++ (bytesOf [62])))], []))
 (none)))
 (none))))))))
 (((FF n 200 [.one (.fr (.ts v2))] []).bind fun x0 =>
 (rStr x0.1 fun x1 x2 =>
 (nilV x2 (nilO x0.2
 ((cond (decide (((bytesOf [60])).size + (x1).size ≤ 9223372036854775807))
 ((cond (decide ((((bytesOf [60]) ++ x1)).size + ((bytesOf [62])).size ≤ 9223372036854775807))
 (some ([.one (.str (((bytesOf [60]) ++ x1) ++ (bytesOf [62])))], []))
 (none)))
 (none))))))))))))))))))))))))))))))))))))) := by kernel_rfl

/-! loop.example/depkernel/impl.reduce -/
noncomputable def L_impl_reduce_impl_head_0_fo (n c : Nat) (v0 : Int) (v1 : Int) (v2 : Int) (v3 : Int) (v4 : List T) (v5 : Int) (v6 : Int) (v7 : List T) : OR := runLoop Tryz.prog SS n 94 0 [1, 1, 1, 0] [] c ⟨[.v (.one (.any)), .v (.one (.int .i64 v0)), .v (.one (.fn 191 [])), .v (.one (.ptr 0 0)), .v (.one (.any)), .v (.one (.any)), .v (.one (.ptr 1 0)), .v (.one (.any)), .v (.one (.any)), .v (.one (.int .i64 v1)), .v (.one (.any)), .v (.one (.any)), .v (.one (.any)), .v (.one (.any)), .v (.one (.any)), .v (.one (.any)), .v (.one (.any)), .v (.one (.any)), .v (.one (.any)), .v (.one (.any)), .v (.one (.any)), .v (.one (.any)), .v (.one (.any)), .v (.one (.any)), .v (.one (.any)), .v (.one (.any)), .v (.one (.any)), .v (.one (.any)), .v (.one (.any)), .v (.one (.any)), .v (.one (.any)), .v (.one (.any)), .v (.one (.any)), .v (.one (.any)), .v (.one (.any)), .v (.one (.any)), .v (.one (.any)), .v (.one (.any)), .v (.one (.any)), .v (.one (.any)), .v (.one (.any)), .v (.one (.any)), .v (.one (.any)), .v (.one (.any)), .v (.one (.any)), .v (.one (.any)), .v (.one (.any)), .v (.one (.any)), .v (.one (.any)), .v (.one (.any)), .v (.one (.any))],
  [.cells [.int .i64 v2, .int .i64 v3, .fr (.ts v4)], .cells [.int .i64 v5, .int .i64 v6, .own 2 0], .arr 35 (.ts v7) 0 false]⟩
theorem L_impl_reduce_impl_head_0_fo_eq (n c : Nat) (v0 : Int) (v1 : Int) (v2 : Int) (v3 : Int) (v4 : List T) (v5 : Int) (v6 : Int) (v7 : List T) : L_impl_reduce_impl_head_0_fo n (c + 1) v0 v1 v2 v3 v4 v5 v6 v7 =
 ((FF n 191 [.agg [.int .i64 v2, .int .i64 v3, .fr (.ts v4)]] []).bind fun x0 =>
 (rIs x0.1 fun x1 x2 =>
 (rBool x2 fun x3 x4 =>
 (nilV x4 (nilO x0.2
 ((cond ((!x3))
 (((FF n 75 [.agg [.int .i64 v2, .int .i64 v3, .fr (.ts v4)]] []).bind fun x5 =>
 (rTerm x5.1 fun x6 x7 =>
 (nilV x7 (nilO x5.2
 (some ([.agg [.int .i64 (x6).k, .int .i64 (x6).n, .fr (.ts (x6).kids)], .one (.int .i64 v1), .one (.int .i64 0)], [])))))))
 ((cond ((decide (v1 = v0)))
 (some ([.agg [.int .i64 0, .int .i64 0, .fr (.ts [])], .one (.int .i64 v1), .one (.int .i64 1)], []))
 (((FF n 130 [.agg [.int .i64 v2, .int .i64 v3, .fr (.ts v4)], .one (.fr (.is x1))] []).bind fun x5 =>
 (rTerm x5.1 fun x6 x7 =>
 (rBool x7 fun x8 x9 =>
 (nilV x9 (nilO x5.2
 ((cond ((!x8))
 (some ([.agg [.int .i64 0, .int .i64 0, .fr (.ts [])], .one (.int .i64 v1), .one (.int .i64 2)], []))
 (L_impl_reduce_impl_head_0_fo n c (v0 : Int) ((IntKind.i64.wrap (v1 + 1)) : Int) ((x6).k : Int) ((x6).n : Int) ((x6).kids : List T) (v5 : Int) (v6 : Int) (v7 : List T))))))))))))))))))) := by kernel_rfl
theorem E_impl_reduce_impl_head (n : Nat) (v0 : Int) (v1 : Int) (v2 : List T) (v3 : Int) : FF (n + 1) 94 [.agg [.int .i64 v0, .int .i64 v1, .fr (.ts v2)], .one (.int .i64 v3), .one (.fn 191 [])] [] =
 ((FF n 66 [.agg [.int .i64 v0, .int .i64 v1, .fr (.ts v2)]] []).bind fun x0 =>
 (rBool x0.1 fun x1 x2 =>
 (nilV x2 (nilO x0.2
 ((cond ((!x1))
 (some ([.agg [.int .i64 0, .int .i64 0, .fr (.ts [])], .one (.int .i64 0), .one (.int .i64 3)], []))
 (((FF n 83 [.one (.int .i64 v3), .one (.int .i64 0), .one (.int .i64 200)] []).bind fun x3 =>
 (rBool x3.1 fun x4 x5 =>
 (nilV x5 (nilO x3.2
 ((cond ((!x4))
 (some ([.agg [.int .i64 0, .int .i64 0, .fr (.ts [])], .one (.int .i64 0), .one (.int .i64 3)], []))
 (L_impl_reduce_impl_head_0_fo n n (v3 : Int) (0 : Int) (v0 : Int) (v1 : Int) (v2 : List T) (0 : Int) (0 : Int) ([] : List T))))))))))))))) := by kernel_rfl

/-! loop.example/depkernel/impl.extended -/
theorem E_impl_extended (n : Nat) (v0 : List T) (v1 : Int) (v2 : Int) (v3 : List T) : FF (n + 1) 150 [.one (.fr (.ts v0)), .agg [.int .i64 v1, .int .i64 v2, .fr (.ts v3)]] [] =
 (cond ((decide (20 ≤ ((v0).length : Int))))
 (some ([.one (.fr (.ts [])), .one (.int .i64 2)], []))
 (((FF n 182 [.one (.fr (.ts v0))] []).bind fun x0 =>
 (rOwn 0 x0.1 fun x1 =>
 (arrTsC 35 x0.2 fun x2 x3 =>
 (nilV x1 (nilO x3
 ((cond (roomB (x2 ++ [(T.mk v1 v2 v3)]).length)
 (some ([.one (.fr (.ts (x2 ++ [(T.mk v1 v2 v3)]))), .one (.int .i64 0)], []))
 (none)))))))))) := by kernel_rfl

/-! loop.example/depkernel/spec.l3Main -/
/-! loop.example/depkernel/spec.l19Num -/
noncomputable def L_spec_l19Num_0 (n c : Nat) (v0 : ByteArray) (v1 : Bool) (v2 : Int) (v3 : Int) : OR := runLoop Tryz.prog SS n 197 0 [1, 1, 1, 1, 1, 0, 1, 0] [] c ⟨[.v (.one (.str v0)), .v (.one (.any)), .v (.one (.any)), .v (.one (.any)), .v (.one (.bool v1)), .v (.one (.int .i64 v2)), .v (.one (.int .i64 v3)), .v (.one (.any)), .v (.one (.any)), .v (.one (.any)), .v (.one (.any)), .v (.one (.any)), .v (.one (.any)), .v (.one (.any)), .v (.one (.any)), .v (.one (.any)), .v (.one (.any)), .v (.one (.any)), .v (.one (.any)), .v (.one (.any)), .v (.one (.any)), .v (.one (.any)), .v (.one (.any)), .v (.one (.any)), .v (.one (.any)), .v (.one (.any)), .v (.one (.any)), .v (.one (.any)), .v (.one (.any)), .v (.one (.any)), .v (.one (.any)), .v (.one (.any)), .v (.one (.any)), .v (.one (.any)), .v (.one (.any)), .v (.one (.any)), .v (.one (.any)), .v (.one (.any)), .v (.one (.any)), .v (.one (.any)), .v (.one (.any)), .v (.one (.any)), .v (.one (.any)), .v (.one (.any)), .v (.one (.any)), .v (.one (.any)), .v (.one (.any)), .v (.one (.any)), .v (.one (.any)), .v (.one (.any)), .v (.one (.any)), .v (.one (.any)), .v (.one (.any)), .v (.one (.any)), .v (.one (.any)), .v (.one (.any)), .v (.one (.any)), .v (.one (.any)), .v (.one (.any)), .v (.one (.any)), .v (.one (.any)), .v (.one (.any)), .v (.one (.any)), .v (.one (.any)), .v (.one (.any)), .v (.one (.any)), .v (.one (.any))],
  []⟩
theorem L_spec_l19Num_0_eq (n c : Nat) (v0 : ByteArray) (v1 : Bool) (v2 : Int) (v3 : Int) : L_spec_l19Num_0 n (c + 1) v0 v1 v2 v3 =
 (cond ((decide (v3 < ((v0).size : Int))))
 ((cond (decide (0 ≤ v3) && decide (v3 < (((v0).size : Nat) : Int)))
 ((cond ((decide (((byteAt v0 (v3 : Int).toNat).toNat : Int) < 48)))
 (some ([.one (.int .i64 0), .one (.bool false)], []))
 ((cond (decide (0 ≤ v3) && decide (v3 < (((v0).size : Nat) : Int)))
 ((cond ((decide (57 < ((byteAt v0 (v3 : Int).toNat).toNat : Int))))
 (some ([.one (.int .i64 0), .one (.bool false)], []))
 ((cond (decide (0 ≤ v3) && decide (v3 < (((v0).size : Nat) : Int)))
 (L_spec_l19Num_0 n c (v0 : ByteArray) (v1 : Bool) ((IntKind.i64.wrap ((IntKind.i64.wrap (v2 * 10)) + (IntKind.i64.wrap (IntKind.u8.wrap (((byteAt v0 (v3 : Int).toNat).toNat : Int) - 48))))) : Int) ((IntKind.i64.wrap (v3 + 1)) : Int))
 (none)))))
 (none)))))
 (none)))
 ((cond (v1)
 (some ([.one (.int .i64 (IntKind.i64.wrap (0 - v2))), .one (.bool true)], []))
 (some ([.one (.int .i64 v2), .one (.bool true)], []))))) := by kernel_rfl
theorem E_spec_l19Num (n : Nat) (v0 : ByteArray) : FF (n + 1) 197 [.one (.str v0)] [] =
 (cond ((decide (0 < ((v0).size : Int))))
 ((cond (decide (0 ≤ 0) && decide (0 < (((v0).size : Nat) : Int)))
 ((cond ((decide (((byteAt v0 (0 : Int).toNat).toNat : Int) = 45)))
 ((cond (Go.Ab.inB 1 (v0).size (v0).size)
 ((cond ((decide (((((v0).extract (1 : Int).toNat ((v0).size : Int).toNat)).size : Int) = 0)))
 (some ([.one (.int .i64 0), .one (.bool false)], []))
 ((cond ((decide (17 < ((((v0).extract (1 : Int).toNat ((v0).size : Int).toNat)).size : Int))))
 (some ([.one (.int .i64 0), .one (.bool false)], []))
 ((cond (decide (0 ≤ 0) && decide (0 < (((((v0).extract (1 : Int).toNat ((v0).size : Int).toNat)).size : Nat) : Int)))
 ((cond ((decide (((byteAt ((v0).extract (1 : Int).toNat ((v0).size : Int).toNat) (0 : Int).toNat).toNat : Int) = 48)))
 ((cond ((decide (1 < ((((v0).extract (1 : Int).toNat ((v0).size : Int).toNat)).size : Int))))
 (some ([.one (.int .i64 0), .one (.bool false)], []))
 ((cond ((decide (((byteAt v0 (0 : Int).toNat).toNat : Int) = 45)))
 (some ([.one (.int .i64 0), .one (.bool false)], []))
 (L_spec_l19Num_0 n n (((v0).extract (1 : Int).toNat ((v0).size : Int).toNat) : ByteArray) ((decide (((byteAt v0 (0 : Int).toNat).toNat : Int) = 45)) : Bool) (0 : Int) (0 : Int))))))
 (L_spec_l19Num_0 n n (((v0).extract (1 : Int).toNat ((v0).size : Int).toNat) : ByteArray) ((decide (((byteAt v0 (0 : Int).toNat).toNat : Int) = 45)) : Bool) (0 : Int) (0 : Int))))
 (none)))))))
 (none)))
 ((cond ((decide (((v0).size : Int) = 0)))
 (some ([.one (.int .i64 0), .one (.bool false)], []))
 ((cond ((decide (17 < ((v0).size : Int))))
 (some ([.one (.int .i64 0), .one (.bool false)], []))
 ((cond (decide (0 ≤ 0) && decide (0 < (((v0).size : Nat) : Int)))
 ((cond ((decide (((byteAt v0 (0 : Int).toNat).toNat : Int) = 48)))
 ((cond ((decide (1 < ((v0).size : Int))))
 (some ([.one (.int .i64 0), .one (.bool false)], []))
 ((cond ((decide (((byteAt v0 (0 : Int).toNat).toNat : Int) = 45)))
 (some ([.one (.int .i64 0), .one (.bool false)], []))
 (L_spec_l19Num_0 n n (v0 : ByteArray) ((decide (((byteAt v0 (0 : Int).toNat).toNat : Int) = 45)) : Bool) (0 : Int) (0 : Int))))))
 (L_spec_l19Num_0 n n (v0 : ByteArray) ((decide (((byteAt v0 (0 : Int).toNat).toNat : Int) = 45)) : Bool) (0 : Int) (0 : Int))))
 (none)))))))))
 (none)))
 ((cond ((decide (((v0).size : Int) = 0)))
 (some ([.one (.int .i64 0), .one (.bool false)], []))
 ((cond ((decide (17 < ((v0).size : Int))))
 (some ([.one (.int .i64 0), .one (.bool false)], []))
 ((cond (decide (0 ≤ 0) && decide (0 < (((v0).size : Nat) : Int)))
 ((cond ((decide (((byteAt v0 (0 : Int).toNat).toNat : Int) = 48)))
 ((cond ((decide (1 < ((v0).size : Int))))
 (some ([.one (.int .i64 0), .one (.bool false)], []))
 (L_spec_l19Num_0 n n (v0 : ByteArray) (false : Bool) (0 : Int) (0 : Int))))
 (L_spec_l19Num_0 n n (v0 : ByteArray) (false : Bool) (0 : Int) (0 : Int))))
 (none)))))))) := by kernel_rfl

/-! loop.example/depkernel/spec.l1Series -/
noncomputable def L_spec_l1Series_0 (n c : Nat) (v0 : ByteArray) (v1 : Int) (v2 : Int) (v3 : Int) (v4 : Int) (v5 : Int) (v6 : List T) : OR := runLoop Tryz.prog SS n 198 0 [1, 1, 0, 1, 0] [] c ⟨[.v (.one (.str v0)), .v (.one (.int .i64 v1)), .v (.one (.int .i64 v2)), .v (.one (.int .i64 v3)), .v (.one (.int .u8 v4)), .v (.one (.any)), .v (.one (.any)), .v (.one (.any)), .v (.one (.any)), .v (.one (.any)), .v (.one (.any)), .v (.one (.any)), .v (.one (.own 0 0)), .v (.one (.int .i64 v5)), .v (.one (.any)), .v (.one (.any)), .v (.one (.any)), .v (.one (.any)), .v (.one (.any)), .v (.one (.any)), .v (.one (.any)), .v (.one (.any)), .v (.one (.any)), .v (.one (.any)), .v (.one (.any)), .v (.one (.any)), .v (.one (.any)), .v (.one (.any)), .v (.one (.any)), .v (.one (.any)), .v (.one (.any)), .v (.one (.any)), .v (.one (.any)), .v (.one (.any)), .v (.one (.any)), .v (.one (.any)), .v (.one (.any)), .v (.one (.any)), .v (.one (.any)), .v (.one (.any)), .v (.one (.any)), .v (.one (.any)), .v (.one (.any)), .v (.one (.any)), .v (.one (.any)), .v (.one (.any)), .v (.one (.any)), .v (.one (.any)), .v (.one (.any)), .v (.one (.any)), .v (.one (.any)), .v (.one (.any)), .v (.one (.any)), .v (.one (.any)), .v (.one (.any)), .v (.one (.any)), .v (.one (.any)), .v (.one (.any)), .v (.one (.any)), .v (.one (.any)), .v (.one (.any)), .v (.one (.any)), .v (.one (.any)), .v (.one (.any)), .v (.one (.any)), .v (.one (.any)), .v (.one (.any)), .v (.one (.any)), .v (.one (.any)), .v (.one (.any))],
  [.arr 35 (.ts v6) 0 false]⟩
theorem L_spec_l1Series_0_eq (n c : Nat) (v0 : ByteArray) (v1 : Int) (v2 : Int) (v3 : Int) (v4 : Int) (v5 : Int) (v6 : List T) : L_spec_l1Series_0 n (c + 1) v0 v1 v2 v3 v4 v5 v6 =
 (cond ((decide (v5 < v3)))
 (((FF n 188 [.one (.str v0), .one (.int .i64 v1), .one (.int .i64 v2)] []).bind fun x0 =>
 (rTerm x0.1 fun x1 x2 =>
 (rInt .i64 x2 fun x3 x4 =>
 (nilV x4 (nilO x0.2
 ((cond ((decide (x3 < 0)))
 (some ([.one (.fr (.ts [])), .one (.int .i64 (-1))], []))
 ((cond ((decide (((v0).size : Int) ≤ x3)))
 (some ([.one (.fr (.ts [])), .one (.int .i64 (-1))], []))
 ((cond ((decide ((IntKind.i64.wrap (v5 + 1)) < v3)))
 ((cond (decide (0 ≤ x3) && decide (x3 < (((v0).size : Nat) : Int)))
 ((cond ((!decide (((byteAt v0 (x3 : Int).toNat).toNat : Int) = 44)))
 (some ([.one (.fr (.ts [])), .one (.int .i64 (-1))], []))
 ((cond ((decide ((IntKind.i64.wrap (v5 + 1)) = v3)))
 ((cond (decide (0 ≤ x3) && decide (x3 < (((v0).size : Nat) : Int)))
 ((cond ((!decide (((byteAt v0 (x3 : Int).toNat).toNat : Int) = v4)))
 (some ([.one (.fr (.ts [])), .one (.int .i64 (-1))], []))
 ((cond (roomB (v6 ++ [(T.mk (x1).k (x1).n (x1).kids)]).length)
 (L_spec_l1Series_0 n c (v0 : ByteArray) ((IntKind.i64.wrap (x3 + 1)) : Int) (v2 : Int) (v3 : Int) (v4 : Int) ((IntKind.i64.wrap (v5 + 1)) : Int) ((v6 ++ [(T.mk (x1).k (x1).n (x1).kids)]) : List T))
 (none)))))
 (none)))
 ((cond (roomB (v6 ++ [(T.mk (x1).k (x1).n (x1).kids)]).length)
 (L_spec_l1Series_0 n c (v0 : ByteArray) ((IntKind.i64.wrap (x3 + 1)) : Int) (v2 : Int) (v3 : Int) (v4 : Int) ((IntKind.i64.wrap (v5 + 1)) : Int) ((v6 ++ [(T.mk (x1).k (x1).n (x1).kids)]) : List T))
 (none)))))))
 (none)))
 ((cond ((decide ((IntKind.i64.wrap (v5 + 1)) = v3)))
 ((cond (decide (0 ≤ x3) && decide (x3 < (((v0).size : Nat) : Int)))
 ((cond ((!decide (((byteAt v0 (x3 : Int).toNat).toNat : Int) = v4)))
 (some ([.one (.fr (.ts [])), .one (.int .i64 (-1))], []))
 ((cond (roomB (v6 ++ [(T.mk (x1).k (x1).n (x1).kids)]).length)
 (L_spec_l1Series_0 n c (v0 : ByteArray) ((IntKind.i64.wrap (x3 + 1)) : Int) (v2 : Int) (v3 : Int) (v4 : Int) ((IntKind.i64.wrap (v5 + 1)) : Int) ((v6 ++ [(T.mk (x1).k (x1).n (x1).kids)]) : List T))
 (none)))))
 (none)))
 ((cond (roomB (v6 ++ [(T.mk (x1).k (x1).n (x1).kids)]).length)
 (L_spec_l1Series_0 n c (v0 : ByteArray) ((IntKind.i64.wrap (x3 + 1)) : Int) (v2 : Int) (v3 : Int) (v4 : Int) ((IntKind.i64.wrap (v5 + 1)) : Int) ((v6 ++ [(T.mk (x1).k (x1).n (x1).kids)]) : List T))
 (none)))))))))))))))))
 (some ([.one (.fr (.ts v6)), .one (.int .i64 v1)], []))) := by kernel_rfl
theorem E_spec_l1Series (n : Nat) (v0 : ByteArray) (v1 : Int) (v2 : Int) (v3 : Int) (v4 : Int) : FF (n + 1) 198 [.one (.str v0), .one (.int .i64 v1), .one (.int .i64 v2), .one (.int .i64 v3), .one (.int .u8 v4)] [] =
 L_spec_l1Series_0 n n (v0 : ByteArray) (v1 : Int) (v2 : Int) (v3 : Int) (v4 : Int) (0 : Int) ([] : List T) := by kernel_rfl

/-! loop.example/depkernel/spec.l19Dec -/
noncomputable def L_spec_l19Dec_0 (n c : Nat) (v0 : Int) (v1 : ByteArray) : OR := runLoop Tryz.prog SS n 199 0 [1, 1, 1, 1, 0, 0] [] c ⟨[.v (.one (.int .i64 v0)), .v (.one (.any)), .v (.one (.any)), .v (.one (.str v1)), .v (.one (.any)), .v (.one (.any)), .v (.one (.any)), .v (.one (.any)), .v (.one (.any)), .v (.one (.any)), .v (.one (.any)), .v (.one (.any)), .v (.one (.any)), .v (.one (.any)), .v (.one (.any)), .v (.one (.any)), .v (.one (.any)), .v (.one (.any)), .v (.one (.any)), .v (.one (.any)), .v (.one (.any)), .v (.one (.any)), .v (.one (.any)), .v (.one (.any)), .v (.one (.any)), .v (.one (.any)), .v (.one (.any)), .v (.one (.any)), .v (.one (.any)), .v (.one (.any)), .v (.one (.any))],
  []⟩
theorem L_spec_l19Dec_0_eq (n c : Nat) (v0 : Int) (v1 : ByteArray) : L_spec_l19Dec_0 n (c + 1) v0 v1 =
 (cond ((decide (9 < v0)))
 ((cond (decide (0 ≤ (IntKind.u8.wrap (IntKind.i64.wrap (48 + (Int.tmod v0 10))))) && decide ((IntKind.u8.wrap (IntKind.i64.wrap (48 + (Int.tmod v0 10)))) ≤ 255))
 ((cond (decide (((ByteArray.mk ([(UInt8.ofNat ((IntKind.u8.wrap (IntKind.i64.wrap (48 + (Int.tmod v0 10))))).toNat)]).toArray)).size + (v1).size ≤ 9223372036854775807))
 (L_spec_l19Dec_0 n c ((IntKind.i64.wrap (Int.tdiv v0 10)) : Int) (((ByteArray.mk ([(UInt8.ofNat ((IntKind.u8.wrap (IntKind.i64.wrap (48 + (Int.tmod v0 10))))).toNat)]).toArray) ++ v1) : ByteArray))
 (none)))
 (none)))
 ((cond (decide (0 ≤ (IntKind.u8.wrap (IntKind.i64.wrap (48 + v0)))) && decide ((IntKind.u8.wrap (IntKind.i64.wrap (48 + v0))) ≤ 255))
 ((cond (decide (((ByteArray.mk ([(UInt8.ofNat ((IntKind.u8.wrap (IntKind.i64.wrap (48 + v0)))).toNat)]).toArray)).size + (v1).size ≤ 9223372036854775807))
 (some ([.one (.str ((ByteArray.mk ([(UInt8.ofNat ((IntKind.u8.wrap (IntKind.i64.wrap (48 + v0)))).toNat)]).toArray) ++ v1))], []))
 (none)))
 (none)))) := by kernel_rfl
theorem E_spec_l19Dec (n : Nat) (v0 : Int) : FF (n + 1) 199 [.one (.int .i64 v0)] [] =
 (cond ((decide (v0 < (-9223372036854775807))))
 (some ([.one (.str (bytesOf [45, 57, 50, 50, 51, 51, 55, 50, 48, 51, 54, 56, 53, 52, 55, 55, 53, 56, 48, 56]))], []))
 ((cond ((decide (v0 < 0)))
 (((FF n 199 [.one (.int .i64 (IntKind.i64.wrap (0 - v0)))] []).bind fun x0 =>
 (rStr x0.1 fun x1 x2 =>
 (nilV x2 (nilO x0.2
 ((cond (decide (((bytesOf [45])).size + (x1).size ≤ 9223372036854775807))
 (some ([.one (.str ((bytesOf [45]) ++ x1))], []))
 (none))))))))
 (L_spec_l19Dec_0 n n (v0 : Int) ((bytesOf []) : ByteArray))))) := by kernel_rfl

/-! loop.example/depkernel/spec.l1List -/
noncomputable def L_spec_l1List_0 (n c : Nat) (v0 : List T) (v1 : ByteArray) (v2 : Int) : OR := runLoop Tryz.prog SS n 200 0 [1, 1, 0, 1, 0] [] c ⟨[.v (.one (.fr (.ts v0))), .v (.one (.any)), .v (.one (.any)), .v (.one (.str v1)), .v (.one (.int .i64 v2)), .v (.one (.any)), .v (.one (.any)), .v (.one (.any)), .v (.one (.any)), .v (.one (.any)), .v (.one (.any)), .v (.one (.any)), .v (.one (.any)), .v (.one (.any)), .v (.one (.any)), .v (.one (.any)), .v (.one (.any)), .v (.one (.any)), .v (.one (.any)), .v (.one (.any)), .v (.one (.any)), .v (.one (.any)), .v (.one (.any))],
  []⟩
theorem L_spec_l1List_0_eq (n c : Nat) (v0 : List T) (v1 : ByteArray) (v2 : Int) : L_spec_l1List_0 n (c + 1) v0 v1 v2 =
 (cond ((decide (v2 < ((v0).length : Int))))
 ((cond ((decide (0 < v2)))
 ((cond (decide ((v1).size + ((bytesOf [44])).size ≤ 9223372036854775807))
 ((cond (decide (0 ≤ v2))
 (((v0)[(v2 : Int).toNat]?.bind fun x0 =>
 ((FF n 196 [.agg [.int .i64 (x0).k, .int .i64 (x0).n, .fr (.ts (x0).kids)]] []).bind fun x1 =>
 (rStr x1.1 fun x2 x3 =>
 (nilV x3 (nilO x1.2
 ((cond (decide (((v1 ++ (bytesOf [44]))).size + (x2).size ≤ 9223372036854775807))
 (L_spec_l1List_0 n c (v0 : List T) (((v1 ++ (bytesOf [44])) ++ x2) : ByteArray) ((IntKind.i64.wrap (v2 + 1)) : Int))
 (none)))))))))
 (none)))
 (none)))
 ((cond (decide (0 ≤ v2))
 (((v0)[(v2 : Int).toNat]?.bind fun x0 =>
 ((FF n 196 [.agg [.int .i64 (x0).k, .int .i64 (x0).n, .fr (.ts (x0).kids)]] []).bind fun x1 =>
 (rStr x1.1 fun x2 x3 =>
 (nilV x3 (nilO x1.2
 ((cond (decide ((v1).size + (x2).size ≤ 9223372036854775807))
 (L_spec_l1List_0 n c (v0 : List T) ((v1 ++ x2) : ByteArray) ((IntKind.i64.wrap (v2 + 1)) : Int))
 (none)))))))))
 (none)))))
 (some ([.one (.str v1)], []))) := by kernel_rfl
theorem E_spec_l1List (n : Nat) (v0 : List T) : FF (n + 1) 200 [.one (.fr (.ts v0))] [] =
 L_spec_l1List_0 n n (v0 : List T) ((bytesOf []) : ByteArray) (0 : Int) := by kernel_rfl

/-! loop.example/depkernel/impl.head -/
theorem E_impl_head (n : Nat) (v0 : Int) (v1 : Int) (v2 : List T) : FF (n + 1) 191 [.agg [.int .i64 v0, .int .i64 v1, .fr (.ts v2)]] [] =
 ((FF n 126 [.agg [.int .i64 v0, .int .i64 v1, .fr (.ts v2)]] []).bind fun x0 =>
 (rInt .i64 x0.1 fun x1 x2 =>
 (nilV x2 (nilO x0.2
 ((cond ((!decide (x1 = 0)))
 (some ([.one (.fr (.is [])), .one (.bool true)], []))
 ((cond ((decide (v0 = 5)))
 (((v2)[(0 : Int).toNat]?.bind fun x3 =>
 ((FF n 191 [.agg [.int .i64 (x3).k, .int .i64 (x3).n, .fr (.ts (x3).kids)]] []).bind fun x4 =>
 (rIs x4.1 fun x5 x6 =>
 (rBool x6 fun x7 x8 =>
 (nilV x8 (nilO x4.2
 ((cond (roomB ([0] ++ x5).length)
 (some ([.one (.fr (.is ([0] ++ x5))), .one (.bool x7)], []))
 (none))))))))))
 ((cond ((decide (v0 = 15)))
 (((v2)[(0 : Int).toNat]?.bind fun x3 =>
 ((FF n 191 [.agg [.int .i64 (x3).k, .int .i64 (x3).n, .fr (.ts (x3).kids)]] []).bind fun x4 =>
 (rIs x4.1 fun x5 x6 =>
 (rBool x6 fun x7 x8 =>
 (nilV x8 (nilO x4.2
 ((cond (roomB ([0] ++ x5).length)
 (some ([.one (.fr (.is ([0] ++ x5))), .one (.bool x7)], []))
 (none))))))))))
 ((cond ((decide (v0 = 16)))
 (((v2)[(0 : Int).toNat]?.bind fun x3 =>
 ((FF n 191 [.agg [.int .i64 (x3).k, .int .i64 (x3).n, .fr (.ts (x3).kids)]] []).bind fun x4 =>
 (rIs x4.1 fun x5 x6 =>
 (rBool x6 fun x7 x8 =>
 (nilV x8 (nilO x4.2
 ((cond (roomB ([0] ++ x5).length)
 (some ([.one (.fr (.is ([0] ++ x5))), .one (.bool x7)], []))
 (none))))))))))
 ((cond ((decide (v0 = 9)))
 (((v2)[(3 : Int).toNat]?.bind fun x3 =>
 ((FF n 191 [.agg [.int .i64 (x3).k, .int .i64 (x3).n, .fr (.ts (x3).kids)]] []).bind fun x4 =>
 (rIs x4.1 fun x5 x6 =>
 (rBool x6 fun x7 x8 =>
 (nilV x8 (nilO x4.2
 ((cond (roomB ([3] ++ x5).length)
 (some ([.one (.fr (.is ([3] ++ x5))), .one (.bool x7)], []))
 (none))))))))))
 ((cond ((decide (v0 = 12)))
 (((v2)[(1 : Int).toNat]?.bind fun x3 =>
 ((FF n 191 [.agg [.int .i64 (x3).k, .int .i64 (x3).n, .fr (.ts (x3).kids)]] []).bind fun x4 =>
 (rIs x4.1 fun x5 x6 =>
 (rBool x6 fun x7 x8 =>
 (nilV x8 (nilO x4.2
 ((cond (roomB ([1] ++ x5).length)
 (some ([.one (.fr (.is ([1] ++ x5))), .one (.bool x7)], []))
 (none))))))))))
 (some ([.one (.fr (.is [])), .one (.bool false)], [])))))))))))))))))) := by kernel_rfl

end Go.Proofs.YthopkmimhlcjkaaGreat
end
section
/- All residuals but those of the laws. -/
end
section
/- From the abstract run of a law to what the law's call answers. No program in sight. -/
set_option linter.unusedVariables false
namespace Go.Ab
open Go Go.Dk
open Go.ChangeShapes Go.WideShapes Go.ChangeAt Go.RowKit

abbrev anyB : Zone := fun _ => True
theorem abs_law {P : Program} [DrM P] {S : Say} (hp : PrimsOK P S) (hib : ∀ f, S.D.ib f = true → extIB P f) {f : FuncId} {fn : Func} {n : Nat} {args : List V1} {vals : List Value} {w : World}
    (hfn : P.funcs[f]? = some fn) (hb : fn.body.isSome = true) (hr : All2 (RV [] anyB w) (args.map .v) vals) (h : evF P S n f args [] = some ([.one (.bool true)], [])) :
    Calls P f vals.toArray w fun e w' => e = .returned (.bool true) ∧ Grow w w' := by
  have h0 : InvG w noneZ anyB 0 [] ⟨args.map .v, []⟩ vals w := by
    refine ⟨St.init w noneZ anyB (relF_stable _ _ _) ⟨hr, All2.nil⟩, fun j _ hl => by simp at hl, fun k hk => trivial⟩
  have := abs_sound hp hib n f fn args [] _ hfn hb h w noneZ anyB [] vals w h0
  refine this.mono fun e w' ⟨xs, G', he, hI, _⟩ => ?_
  obtain ⟨x, xs', rfl, h1, h2⟩ := hI.st.per.1.cons_inv
  obtain rfl := h2.nil_inv
  obtain rfl := bool_inv h1
  exact ⟨he, hI.st.ext⟩
theorem bytes_arg {d : SD} {v : Value} {w : World} (h : SlR anyB w d v) : RV1 [] anyB w (.one (.fr d)) v := ⟨h, fun _ => by obtain ⟨a, cap, xs, rfl, _⟩ := h; rfl⟩
theorem open_bytes {H : Type} {enc : TypeId × Value → H} {P : Program} {W : World} {base : Nat} {tB tU : TypeId} (hB : P.underlying tB = some (.slice tU)) (hU : P.underlying tU = some (.int .u8)) (hc : P.cellsOf tU = 1)
    {v : Value} {d : DataW H} {p : List MemPlace} (hval : Value.okWide P W .any base tB v) (h : DataW.Trod enc P W 0 (fun _ => true) true tB v d p) : ∃ l : List UInt8, SlR anyB W (.bs l) v := by
  obtain ⟨a1, len, cap, rfl⟩ := okWide_slice hB hval
  obtain ⟨fuel, hf⟩ := h
  rcases open_ints hB hU hc hf with ⟨hcs, hx⟩ | ⟨a, len', cap', zs, hcs, _, hl, hm, hz, hx, hcell, hwz⟩
  · simp [Value.cells] at hcs
    obtain ⟨rfl, rfl, rfl⟩ := hcs
    exact ⟨[], none, 0, [], rfl, Nat.zero_le _, Nat.zero_le _, rfl, .inl rfl⟩
  · simp [Value.cells] at hcs
    obtain ⟨rfl, rfl, rfl⟩ := hcs
    simp only [if_true] at hz
    refine ⟨(zs.take len).map (fun n : Int => UInt8.ofNat n.toNat), ?_⟩
    have hlen : ((zs.take len).map fun n => UInt8.ofNat n.toNat).length = len := by simp; omega
    by_cases h0 : len = 0
    · subst h0
      exact ⟨some a, cap, [], by simp [SD.len], Nat.zero_le _, Nat.zero_le _, by simp [ElemsR], .inl rfl⟩
    · obtain ⟨ab, ao, spot⟩ := a
      have hspot : spot = none := by simpa [Addr.add] using World.cell?_spot (hcell 0 (by omega))
      subst hspot
      refine ⟨some ⟨ab, ao, none⟩, cap, ((zs.take len).map (fun n : Int => UInt8.ofNat n.toNat)).map (fun c => Value.int .u8 ((UInt8.toNat c : Nat) : Int)), ?_, ?_, ?_, rfl, .inr ⟨ab, ao, rfl, trivial, fun i x hx => ?_⟩⟩
      · simp only [SD.len, hlen]
      · simp only [SD.len, hlen]; exact hl
      · simp only [SD.len, hlen]; exact Nat.le_trans hl hm
      · rw [List.getElem?_map, List.getElem?_map] at hx
        cases hzi : (zs.take len)[i]? with
        | none => rw [hzi] at hx; simp at hx
        | some n =>
          rw [hzi] at hx
          simp at hx
          subst hx
          have hil : i < len := by
            rcases Nat.lt_or_ge i len with h' | h'
            · exact h'
            · rw [List.getElem?_eq_none (by simp; omega)] at hzi; cases hzi
          have hzi' : zs[i]? = some n := by rw [List.getElem?_take_of_lt hil] at hzi; exact hzi
          have hc' := hcell i (by omega)
          rw [addr_add] at hc'
          rw [hc']
          have hn : zs.getD i 0 = n := by simp [List.getD, hzi']
          rw [hn]
          have hw := hwz n (List.mem_of_getElem? hzi')
          have hnn : 0 ≤ n ∧ n ≤ 255 := by
            simp [Lit.wf, IntKind.min, IntKind.max, IntKind.signed, IntKind.bits] at hw
            omega
          have hb : max n 0 % 256 = n := by omega
          rw [hb]
end Go.Ab
end
section
/- What functions answer, given fuel enough. -/
set_option linter.unusedVariables false
set_option linter.unusedSimpArgs false
namespace Go.Proofs.YthopkmimhlcjkaaGreat
open Go Go.Ab Go.Dk
/-- With fuel enough, f answers r. -/
def Ev (f : FuncId) (args : List V1) (h : List AObj) (r : List V1 × List AObj) : Prop := ∃ N, ∀ n, N ≤ n → FF n f args h = some r
theorem hib : ∀ f, SS.D.ib f = true → extIB Tryz.prog f := by
  intro f hf
  first
  | exact hibX f hf
  | exact absurd hf (by decide)
  | cases hf
theorem hprim : PrimsOK Tryz.prog SS := fun f g args out h => by cases h
theorem ev_law {f : FuncId} {fn : Func} {args : List V1} {vals : List Value} {w : World} (hfn : Tryz.prog.funcs[f]? = some fn) (hb : fn.body.isSome = true) (hr : All2 (RV [] anyB w) (args.map .v) vals)
    (h : Ev f args [] ([.one (.bool true)], [])) : Calls Tryz.prog f vals.toArray w fun e w' => e = .returned (.bool true) ∧ Grow w w' := by
  obtain ⟨N, h⟩ := h
  exact abs_law hprim hib hfn hb hr (h N (Nat.le_refl N))
theorem Ev.of {f : FuncId} {args : List V1} {h : List AObj} {r : List V1 × List AObj} (N : Nat) (hh : ∀ n, N ≤ n → FF (n + 1) f args h = some r) : Ev f args h r :=
  ⟨N + 1, fun n hn => by obtain ⟨m, rfl⟩ : ∃ m, n = m + 1 := ⟨n - 1, by omega⟩; exact hh m (by omega)⟩
theorem wrap64 {a : Int} (h : -9223372036854775808 ≤ a ∧ a ≤ 9223372036854775807) : IntKind.i64.wrap a = a := IntWalk.i64_in _ h
theorem ik_self (a : IntKind) : ikEq a a = true := by simp [ikEq]
theorem nb_self (a : Nat) : Nat.beq a a = true := Nat.beq_refl a
theorem cond_dec {α : Type} (p : Prop) [Decidable p] (a b : α) : cond (decide p) a b = if p then a else b := by by_cases h : p <;> simp [h]
theorem cond_ndec {α : Type} (p : Prop) [Decidable p] (a b : α) : cond (!decide p) a b = if p then b else a := by by_cases h : p <;> simp [h]
theorem byte_bd (c : UInt8) : 0 ≤ (c.toNat : Int) ∧ (c.toNat : Int) ≤ 255 := by have := c.toNat_lt; omega
theorem wrapB (c : UInt8) : IntKind.i64.wrap (c.toNat : Int) = c.toNat := wrap64 (by have := byte_bd c; omega)
/-! What is handed back, taken apart. -/
section
variable {V W : Type} (l : List V1) (c : List SV) (o : List AObj)
theorem c_rInt (a : IntKind) (n : Int) (k) : rInt a (.one (.int a n) :: l) k = k n l := by simp [rInt, ikEq]
theorem c_rBool (b : Bool) (k) : rBool (.one (.bool b) :: l) k = k b l := rfl
theorem c_rStr (x : ByteArray) (k) : rStr (.one (.str x) :: l) k = k x l := rfl
theorem c_rTs (x : List T) (k) : rTs (.one (.fr (.ts x)) :: l) k = k x l := rfl
theorem c_rIs (x : List Int) (k) : rIs (.one (.fr (.is x)) :: l) k = k x l := rfl
theorem c_rIss (x : List (List Int)) (k) : rIss (.one (.fr (.iss x)) :: l) k = k x l := rfl
theorem c_rSs (x : List ByteArray) (k) : rSs (.one (.fr (.ss x)) :: l) k = k x l := rfl
theorem c_rBs (x : List UInt8) (k) : rBs (.one (.fr (.bs x)) :: l) k = k x l := rfl
theorem c_rTerm (a b : Int) (x : List T) (k) : rTerm (.agg [.int .i64 a, .int .i64 b, .fr (.ts x)] :: l) k = k (.mk a b x) l := rfl
theorem c_rOwnT (j : Nat) (a b : Int) (k) : rOwnT j (.agg [.int .i64 a, .int .i64 b, .own j 0] :: l) k = k a b l := by simp [rOwnT]
theorem c_rOwn (j : Nat) (k) : rOwn j (.one (.own j 0) :: l) k = k l := by simp [rOwn]
theorem c_rPtr (j : Nat) (k) : rPtr j (.one (.ptr j 0) :: l) k = k l := by simp [rPtr]
theorem c_nilV (k) : nilV [] k = k := rfl
theorem c_nilO (k) : nilO [] k = k := rfl
theorem c_objC (x : List SV) (k) : objC (.cells x :: o) k = k x o := rfl
theorem c_dropC (x : AObj) (k) : dropC (x :: o) k = k o := rfl
theorem c_intC (a : IntKind) (n : Int) (k) : intC a (.int a n :: c) k = k n c := by simp [intC, ikEq]
theorem c_boolC (b : Bool) (k) : boolC (.bool b :: c) k = k b c := rfl
theorem c_strC (x : ByteArray) (k) : strC (.str x :: c) k = k x c := rfl
theorem c_tsC (x : List T) (k) : tsC (.fr (.ts x) :: c) k = k x c := rfl
theorem c_isC (x : List Int) (k) : isC (.fr (.is x) :: c) k = k x c := rfl
theorem c_issC (x : List (List Int)) (k) : issC (.fr (.iss x) :: c) k = k x c := rfl
theorem c_ssC (x : List ByteArray) (k) : ssC (.fr (.ss x) :: c) k = k x c := rfl
theorem c_bsC (x : List UInt8) (k) : bsC (.fr (.bs x) :: c) k = k x c := rfl
theorem c_anyC (x : SV) (k) : anyC (x :: c) k = k c := rfl
theorem c_nilC (k) : nilC [] k = k := rfl
theorem c_arrTs (e : TypeId) (x : List T) (k) : arrTsC e (.arr e (.ts x) 0 false :: o) k = k x o := by simp [arrTsC]
theorem c_arrIs (e : TypeId) (x : List Int) (k) : arrIsC e (.arr e (.is x) 0 false :: o) k = k x o := by simp [arrIsC]
theorem c_arrIss (e : TypeId) (x : List (List Int)) (k) : arrIssC e (.arr e (.iss x) 0 false :: o) k = k x o := by simp [arrIssC]
theorem c_arrSs (e : TypeId) (x : List ByteArray) (k) : arrSsC e (.arr e (.ss x) 0 false :: o) k = k x o := by simp [arrSsC]
theorem c_arrBs (e : TypeId) (x : List UInt8) (k) : arrBsC e (.arr e (.bs x) 0 false :: o) k = k x o := by simp [arrBsC]
end
/-- The rules that take an answer apart, as one. -/
theorem evs : type_of% (And.intro @Option.bind_some.{0,0} <| And.intro @c_rInt <| And.intro @c_rBool <| And.intro @c_rStr <| And.intro @c_rTs <| And.intro @c_rIs <| And.intro @c_rIss <| And.intro @c_rSs <| And.intro @c_rBs <| And.intro @c_rTerm <| And.intro @c_rOwnT <| And.intro @c_rOwn <| And.intro @c_rPtr <| And.intro @c_nilV <| And.intro @c_nilO <| And.intro @c_objC <| And.intro @c_dropC <| And.intro @c_intC <| And.intro @c_boolC <| And.intro @c_strC <| And.intro @c_tsC <| And.intro @c_isC <| And.intro @c_issC <| And.intro @c_ssC <| And.intro @c_bsC <| And.intro @c_anyC <| And.intro @c_nilC <| And.intro @c_arrTs <| And.intro @c_arrIs <| And.intro @c_arrIss <| And.intro @c_arrSs <| And.intro @c_arrBs <| And.intro @ik_self <| And.intro @nb_self <| And.intro @cond_true.{1} @cond_false.{1}) := And.intro @Option.bind_some.{0,0} <| And.intro @c_rInt <| And.intro @c_rBool <| And.intro @c_rStr <| And.intro @c_rTs <| And.intro @c_rIs <| And.intro @c_rIss <| And.intro @c_rSs <| And.intro @c_rBs <| And.intro @c_rTerm <| And.intro @c_rOwnT <| And.intro @c_rOwn <| And.intro @c_rPtr <| And.intro @c_nilV <| And.intro @c_nilO <| And.intro @c_objC <| And.intro @c_dropC <| And.intro @c_intC <| And.intro @c_boolC <| And.intro @c_strC <| And.intro @c_tsC <| And.intro @c_isC <| And.intro @c_issC <| And.intro @c_ssC <| And.intro @c_bsC <| And.intro @c_anyC <| And.intro @c_nilC <| And.intro @c_arrTs <| And.intro @c_arrIs <| And.intro @c_arrIss <| And.intro @c_arrSs <| And.intro @c_arrBs <| And.intro @ik_self <| And.intro @nb_self <| And.intro @cond_true.{1} @cond_false.{1}
/-- Something is answered, and it meets Q. -/
def Tot (o : OR) (Q : List V1 × List AObj → Prop) : Prop := ∃ r, o = some r ∧ Q r
theorem tot_some {r : List V1 × List AObj} {Q : List V1 × List AObj → Prop} (h : Q r) : Tot (some r) Q := ⟨r, rfl, h⟩
theorem tot_cond {b : Bool} {x y : OR} {Q : List V1 × List AObj → Prop} (hx : b = true → Tot x Q) (hy : b = false → Tot y Q) : Tot (cond b x y) Q := by
  cases b
  · exact hy rfl
  · exact hx rfl
theorem tot_call {o : OR} {k : List V1 × List AObj → OR} {Q R : List V1 × List AObj → Prop} (h : Tot o R) (hk : ∀ r, R r → Tot (k r) Q) : Tot (o.bind k) Q := by
  obtain ⟨r, h1, h2⟩ := h
  rw [h1]; exact hk r h2
theorem tot_mono {o : OR} {Q R : List V1 × List AObj → Prop} (h : Tot o Q) (hk : ∀ r, Q r → R r) : Tot o R := by
  obtain ⟨r, h1, h2⟩ := h
  exact ⟨r, h1, hk r h2⟩
theorem tot_step {C : Nat} {f : FuncId} {args : List V1} {h : List AObj} {Q : List V1 × List AObj → Prop} {n : Nat} (hn : C + 1 ≤ n) (hh : ∀ m, C ≤ m → n = m + 1 → Tot (FF (m + 1) f args h) Q) : Tot (FF n f args h) Q := by
  obtain ⟨m, rfl⟩ : ∃ m, n = m + 1 := ⟨n - 1, by omega⟩
  exact hh m (by omega) rfl
end Go.Proofs.YthopkmimhlcjkaaGreat
end
