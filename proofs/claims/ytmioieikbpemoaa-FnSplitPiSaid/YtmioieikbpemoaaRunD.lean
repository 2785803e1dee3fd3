/- What the program's functions come to in the abstract run. -/
import Derived.Test.YtmioieikbpemoaaSay
set_option linter.unusedVariables false
namespace Go.Proofs.Ytmioieikbpemoaa
open Go Go.Ab Go.Dk
/-! loop.example/depkernel/spec.l3With -/
noncomputable def L_spec_l3With_0_ffoo (n c : Nat) (v0 : Int) (v1 : Int) (v2 : Int) (v3 : Int) (v4 : List T) (v5 : Int) (v6 : Int) (v7 : List T) (v8 : Int) (v9 : Int) (v10 : List T) (v11 : Int) (v12 : Int) (v13 : List T) : OR := runLoop Try.prog SS n 110 0 [1, 1, 0, 1, 0] [] c ⟨[.v (.one (.any)), .v (.one (.int .i64 v0)), .v (.one (.any)), .v (.one (.ptr 0 0)), .v (.one (.any)), .v (.one (.ptr 1 0)), .v (.one (.ptr 2 0)), .v (.one (.ptr 4 0)), .v (.one (.int .i64 v1)), .v (.one (.any)), .v (.one (.any)), .v (.one (.any)), .v (.one (.any)), .v (.one (.any)), .v (.one (.any)), .v (.one (.any)), .v (.one (.any)), .v (.one (.any)), .v (.one (.any)), .v (.one (.any)), .v (.one (.any)), .v (.one (.any)), .v (.one (.any)), .v (.one (.any)), .v (.one (.any)), .v (.one (.any)), .v (.one (.any)), .v (.one (.any)), .v (.one (.any)), .v (.one (.any)), .v (.one (.any)), .v (.one (.any)), .v (.one (.any)), .v (.one (.any)), .v (.one (.any)), .v (.one (.any)), .v (.one (.any)), .v (.one (.any)), .v (.one (.any)), .v (.one (.any)), .v (.one (.any)), .v (.one (.any))],
  [.cells [.int .i64 v2, .int .i64 v3, .fr (.ts v4)], .cells [.int .i64 v5, .int .i64 v6, .fr (.ts v7)], .cells [.int .i64 v8, .int .i64 v9, .own 3 0], .arr 25 (.ts v10) 0 false, .cells [.int .i64 v11, .int .i64 v12, .own 5 0], .arr 25 (.ts v13) 0 false]⟩
theorem L_spec_l3With_0_ffoo_eq (n c : Nat) (v0 : Int) (v1 : Int) (v2 : Int) (v3 : Int) (v4 : List T) (v5 : Int) (v6 : Int) (v7 : List T) (v8 : Int) (v9 : Int) (v10 : List T) (v11 : Int) (v12 : Int) (v13 : List T) : L_spec_l3With_0_ffoo n (c + 1) v0 v1 v2 v3 v4 v5 v6 v7 v8 v9 v10 v11 v12 v13 =
 (cond ((decide (v1 < ((v4).length : Int))))
 ((cond ((decide (v1 = v0)))
 ((cond (roomB (v13 ++ [(T.mk v5 v6 v7)]).length)
 (L_spec_l3With_0_ffoo n c (v0 : Int) ((IntKind.i64.wrap (v1 + 1)) : Int) (v2 : Int) (v3 : Int) (v4 : List T) (v5 : Int) (v6 : Int) (v7 : List T) (v8 : Int) (v9 : Int) (v10 : List T) (v11 : Int) (v12 : Int) ((v13 ++ [(T.mk v5 v6 v7)]) : List T))
 (none)))
 ((cond (decide (0 ≤ v1))
 (((v4)[(v1 : Int).toNat]?.bind fun x0 =>
 ((FF n 54 [.agg [.int .i64 (x0).k, .int .i64 (x0).n, .fr (.ts (x0).kids)]] []).bind fun x1 =>
 (rOwnT 0 x1.1 fun x2 x3 x4 =>
 (arrTsC 25 x1.2 fun x5 x6 =>
 (nilV x4 (nilO x6
 ((cond (roomB (v13 ++ [(T.mk x2 x3 x5)]).length)
 (L_spec_l3With_0_ffoo n c (v0 : Int) ((IntKind.i64.wrap (v1 + 1)) : Int) (v2 : Int) (v3 : Int) (v4 : List T) (v5 : Int) (v6 : Int) (v7 : List T) (v8 : Int) (v9 : Int) (v10 : List T) (v11 : Int) (v12 : Int) ((v13 ++ [(T.mk x2 x3 x5)]) : List T))
 (none))))))))))
 (none)))))
 (some ([.agg [.int .i64 v11, .int .i64 v12, .fr (.ts v13)]], []))) := by kernel_rfl
theorem E_spec_l3With (n : Nat) (v0 : Int) (v1 : Int) (v2 : List T) (v3 : Int) (v4 : Int) (v5 : Int) (v6 : List T) : FF (n + 1) 110 [.agg [.int .i64 v0, .int .i64 v1, .fr (.ts v2)], .one (.int .i64 v3), .agg [.int .i64 v4, .int .i64 v5, .fr (.ts v6)]] [] =
 L_spec_l3With_0_ffoo n n (v3 : Int) (0 : Int) (v0 : Int) (v1 : Int) (v2 : List T) (v4 : Int) (v5 : Int) (v6 : List T) (0 : Int) (0 : Int) ([] : List T) (v0 : Int) (v1 : Int) ([] : List T) := by kernel_rfl

/-! loop.example/depkernel/impl.at -/
noncomputable def L_impl_at_0_fo (n c : Nat) (v0 : List Int) (v1 : Int) (v2 : Int) (v3 : Int) (v4 : Int) (v5 : List T) (v6 : Int) (v7 : Int) (v8 : List T) : OR := runLoop Try.prog SS n 111 0 [1, 0, 1, 0] [] c ⟨[.v (.one (.any)), .v (.one (.any)), .v (.one (.ptr 0 0)), .v (.one (.any)), .v (.one (.ptr 1 0)), .v (.one (.any)), .v (.one (.any)), .v (.one (.fr (.is v0))), .v (.one (.int .i64 v1)), .v (.one (.int .i64 v2)), .v (.one (.any)), .v (.one (.any)), .v (.one (.any)), .v (.one (.any)), .v (.one (.any)), .v (.one (.any)), .v (.one (.any)), .v (.one (.any)), .v (.one (.any)), .v (.one (.any))],
  [.cells [.int .i64 v3, .int .i64 v4, .fr (.ts v5)], .cells [.int .i64 v6, .int .i64 v7, .own 2 0], .arr 25 (.ts v8) 0 false]⟩
theorem L_impl_at_0_fo_eq (n c : Nat) (v0 : List Int) (v1 : Int) (v2 : Int) (v3 : Int) (v4 : Int) (v5 : List T) (v6 : Int) (v7 : Int) (v8 : List T) : L_impl_at_0_fo n (c + 1) v0 v1 v2 v3 v4 v5 v6 v7 v8 =
 (cond ((decide (v2 < v1)))
 ((cond (decide (0 ≤ v2))
 (((v0)[(v2 : Int).toNat]?.bind fun x0 =>
 (cond (decide (0 ≤ x0))
 (((v5)[(x0 : Int).toNat]?.bind fun x1 =>
 L_impl_at_0_fo n c (v0 : List Int) (v1 : Int) ((IntKind.i64.wrap (v2 + 1)) : Int) ((x1).k : Int) ((x1).n : Int) ((x1).kids : List T) (v6 : Int) (v7 : Int) (v8 : List T)))
 (none))))
 (none)))
 (some ([.agg [.int .i64 v3, .int .i64 v4, .fr (.ts v5)]], []))) := by kernel_rfl
theorem E_impl_at (n : Nat) (v0 : Int) (v1 : Int) (v2 : List T) (v3 : List Int) : FF (n + 1) 111 [.agg [.int .i64 v0, .int .i64 v1, .fr (.ts v2)], .one (.fr (.is v3))] [] =
 L_impl_at_0_fo n n (v3 : List Int) (((v3).length : Int) : Int) (0 : Int) (v0 : Int) (v1 : Int) (v2 : List T) (0 : Int) (0 : Int) ([] : List T) := by kernel_rfl

/-! loop.example/depkernel/impl.put -/
theorem E_impl_put (n : Nat) (v0 : Int) (v1 : Int) (v2 : List T) (v3 : List Int) (v4 : Int) (v5 : Int) (v6 : List T) : FF (n + 1) 112 [.agg [.int .i64 v0, .int .i64 v1, .fr (.ts v2)], .one (.fr (.is v3)), .agg [.int .i64 v4, .int .i64 v5, .fr (.ts v6)]] [] =
 (cond ((decide (((v3).length : Int) = 0)))
 (some ([.agg [.int .i64 v4, .int .i64 v5, .fr (.ts v6)]], []))
 (((FF n 121 [.one (.fr (.ts v2))] []).bind fun x0 =>
 (rOwn 0 x0.1 fun x1 =>
 (arrTsC 25 x0.2 fun x2 x3 =>
 (nilV x1 (nilO x3
 (((v3)[(0 : Int).toNat]?.bind fun x4 =>
 ((v3)[(0 : Int).toNat]?.bind fun x5 =>
 (cond (decide (0 ≤ x5))
 (((v2)[(x5 : Int).toNat]?.bind fun x6 =>
 (cond (Go.Ab.inB 1 (v3).length (v3).length)
 (((FF n 112 [.agg [.int .i64 (x6).k, .int .i64 (x6).n, .fr (.ts (x6).kids)], .one (.fr (.is (((v3).take ((v3).length : Int).toNat).drop (1 : Int).toNat))), .agg [.int .i64 v4, .int .i64 v5, .fr (.ts v6)]] []).bind fun x7 =>
 (rTerm x7.1 fun x8 x9 =>
 (nilV x9 (nilO x7.2
 ((cond (decide (0 ≤ x4))
 ((cond (decide (x4 < ((x2).length : Int)))
 (some ([.agg [.int .i64 v0, .int .i64 v1, .fr (.ts ((x2).set (x4 : Int).toNat (T.mk (x8).k (x8).n (x8).kids)))]], []))
 (none)))
 (none))))))))
 (none))))
 (none)))))))))))) := by kernel_rfl

/-! loop.example/depkernel/impl.subst -/
theorem E_impl_subst (n : Nat) (v0 : Int) (v1 : Int) (v2 : List T) (v3 : Int) (v4 : Int) (v5 : Int) (v6 : List T) : FF (n + 1) 113 [.agg [.int .i64 v0, .int .i64 v1, .fr (.ts v2)], .one (.int .i64 v3), .agg [.int .i64 v4, .int .i64 v5, .fr (.ts v6)]] [] =
 ((FF n 122 [.agg [.int .i64 v0, .int .i64 v1, .fr (.ts v2)], .one (.int .i64 0), .one (.fn 123 [0, 1, 2])] [.cells [.int .i64 v3], .cells [.int .i64 v4, .int .i64 v5, .fr (.ts v6)], .cells [.bool true]]).bind fun x0 =>
 (objC x0.2 fun x1 x2 =>
 (intC .i64 x1 fun x3 x4 =>
 (nilC x4
 ((objC x2 fun x5 x6 =>
 (intC .i64 x5 fun x7 x8 =>
 (intC .i64 x8 fun x9 x10 =>
 (tsC x10 fun x11 x12 =>
 (nilC x12
 ((objC x6 fun x13 x14 =>
 (boolC x13 fun x15 x16 =>
 (nilC x16
 ((rTerm x0.1 fun x17 x18 =>
 (nilV x18 (nilO x14
 ((cond ((!x15))
 (some ([.agg [.int .i64 0, .int .i64 0, .fr (.ts [])], .one (.bool false)], []))
 (((FF n 50 [.agg [.int .i64 (x17).k, .int .i64 (x17).n, .fr (.ts (x17).kids)]] []).bind fun x19 =>
 (rTerm x19.1 fun x20 x21 =>
 (rBool x21 fun x22 x23 =>
 (nilV x23 (nilO x19.2
 (some ([.agg [.int .i64 (x20).k, .int .i64 (x20).n, .fr (.ts (x20).kids)], .one (.bool x22)], [])))))))))))))))))))))))))))) := by kernel_rfl

/-! loop.example/depkernel/impl.maxFree$1 -/
theorem E_impl_maxFree_1 (n : Nat) (v0 : Int) (v1 : Int) : FF (n + 1) 104 [.one (.int .i64 v0), .one (.ptr 0 0)] [.cells [.int .i64 v1]] =
 some ([], [.cells [.int .i64 (max v1 (IntKind.i64.wrap (v0 + 1)))]]) := by kernel_rfl

/-! loop.example/depkernel/impl.under -/
theorem E_impl_under (n : Nat) (v0 : Int) (v1 : Int) : FF (n + 1) 114 [.one (.int .i64 v0), .one (.int .i64 v1)] [] =
 (cond ((decide (v1 = 1)))
 (((FF n 126 [.one (.int .i64 v0)] []).bind fun x0 =>
 (rBool x0.1 fun x1 x2 =>
 (nilV x2 (nilO x0.2
 ((cond (x1)
 (some ([.one (.int .i64 1)], []))
 (some ([.one (.int .i64 0)], [])))))))))
 (some ([.one (.int .i64 0)], []))) := by kernel_rfl

/-! loop.example/depkernel/spec.l1Number -/
noncomputable def L_spec_l1Number_0 (n c : Nat) (v0 : ByteArray) (v1 : Int) (v2 : Int) (v3 : Int) : OR := runLoop Try.prog SS n 115 0 [1, 1, 0, 0] [] c ⟨[.v (.one (.str v0)), .v (.one (.int .i64 v1)), .v (.one (.int .i64 v2)), .v (.one (.any)), .v (.one (.any)), .v (.one (.any)), .v (.one (.any)), .v (.one (.any)), .v (.one (.int .i64 v3)), .v (.one (.any)), .v (.one (.any)), .v (.one (.any)), .v (.one (.any)), .v (.one (.any)), .v (.one (.any)), .v (.one (.any)), .v (.one (.any)), .v (.one (.any)), .v (.one (.any)), .v (.one (.any)), .v (.one (.any)), .v (.one (.any)), .v (.one (.any)), .v (.one (.any)), .v (.one (.any)), .v (.one (.any)), .v (.one (.any)), .v (.one (.any)), .v (.one (.any)), .v (.one (.any)), .v (.one (.any)), .v (.one (.any)), .v (.one (.any)), .v (.one (.any)), .v (.one (.any)), .v (.one (.any)), .v (.one (.any)), .v (.one (.any)), .v (.one (.any)), .v (.one (.any)), .v (.one (.any)), .v (.one (.any)), .v (.one (.any)), .v (.one (.any)), .v (.one (.any)), .v (.one (.any)), .v (.one (.any)), .v (.one (.any)), .v (.one (.any))],
  []⟩
theorem L_spec_l1Number_0_eq (n c : Nat) (v0 : ByteArray) (v1 : Int) (v2 : Int) (v3 : Int) : L_spec_l1Number_0 n (c + 1) v0 v1 v2 v3 =
 (cond ((decide (v3 < ((v0).size : Int))))
 ((cond ((decide (v3 < (IntKind.i64.wrap (v1 + v2)))))
 ((cond (decide (0 ≤ v3) && decide (v3 < (((v0).size : Nat) : Int)))
 ((cond ((decide (48 ≤ ((byteAt v0 (v3 : Int).toNat).toNat : Int))))
 ((cond (decide (0 ≤ v3) && decide (v3 < (((v0).size : Nat) : Int)))
 ((cond ((decide (((byteAt v0 (v3 : Int).toNat).toNat : Int) ≤ 57)))
 (L_spec_l1Number_0 n c (v0 : ByteArray) (v1 : Int) (v2 : Int) ((IntKind.i64.wrap (v3 + 1)) : Int))
 ((cond (Go.Ab.inB v1 v3 (v0).size)
 (((FF n 127 [.one (.str ((v0).extract (v1 : Int).toNat (v3 : Int).toNat))] []).bind fun x0 =>
 (rInt .i64 x0.1 fun x1 x2 =>
 (rBool x2 fun x3 x4 =>
 (nilV x4 (nilO x0.2
 ((cond ((!x3))
 (some ([.one (.int .i64 0), .one (.int .i64 (-1))], []))
 (some ([.one (.int .i64 x1), .one (.int .i64 v3)], []))))))))))
 (none)))))
 (none)))
 ((cond (Go.Ab.inB v1 v3 (v0).size)
 (((FF n 127 [.one (.str ((v0).extract (v1 : Int).toNat (v3 : Int).toNat))] []).bind fun x0 =>
 (rInt .i64 x0.1 fun x1 x2 =>
 (rBool x2 fun x3 x4 =>
 (nilV x4 (nilO x0.2
 ((cond ((!x3))
 (some ([.one (.int .i64 0), .one (.int .i64 (-1))], []))
 (some ([.one (.int .i64 x1), .one (.int .i64 v3)], []))))))))))
 (none)))))
 (none)))
 ((cond (Go.Ab.inB v1 v3 (v0).size)
 (((FF n 127 [.one (.str ((v0).extract (v1 : Int).toNat (v3 : Int).toNat))] []).bind fun x0 =>
 (rInt .i64 x0.1 fun x1 x2 =>
 (rBool x2 fun x3 x4 =>
 (nilV x4 (nilO x0.2
 ((cond ((!x3))
 (some ([.one (.int .i64 0), .one (.int .i64 (-1))], []))
 (some ([.one (.int .i64 x1), .one (.int .i64 v3)], []))))))))))
 (none)))))
 ((cond (Go.Ab.inB v1 v3 (v0).size)
 (((FF n 127 [.one (.str ((v0).extract (v1 : Int).toNat (v3 : Int).toNat))] []).bind fun x0 =>
 (rInt .i64 x0.1 fun x1 x2 =>
 (rBool x2 fun x3 x4 =>
 (nilV x4 (nilO x0.2
 ((cond ((!x3))
 (some ([.one (.int .i64 0), .one (.int .i64 (-1))], []))
 (some ([.one (.int .i64 x1), .one (.int .i64 v3)], []))))))))))
 (none)))) := by kernel_rfl
theorem E_spec_l1Number (n : Nat) (v0 : ByteArray) (v1 : Int) (v2 : Int) : FF (n + 1) 115 [.one (.str v0), .one (.int .i64 v1), .one (.int .i64 v2)] [] =
 L_spec_l1Number_0 n n (v0 : ByteArray) (v1 : Int) (v2 : Int) (v1 : Int) := by kernel_rfl

/-! loop.example/depkernel/spec.l1Prefix -/
theorem E_spec_l1Prefix (n : Nat) (v0 : ByteArray) (v1 : Int) (v2 : Int) : FF (n + 1) 116 [.one (.str v0), .one (.int .i64 v1), .one (.int .i64 v2)] [] =
 (cond (decide (0 ≤ v1) && decide (v1 < (((v0).size : Nat) : Int)))
 ((cond ((decide (((byteAt v0 (v1 : Int).toNat).toNat : Int) = 33)))
 (((FF n 106 [.one (.str v0), .one (.int .i64 (IntKind.i64.wrap (v1 + 1))), .one (.int .i64 (IntKind.i64.wrap (v2 - 1)))] []).bind fun x0 =>
 (rTerm x0.1 fun x1 x2 =>
 (rInt .i64 x2 fun x3 x4 =>
 (nilV x4 (nilO x0.2
 (((FF n 55 [.one (.int .i64 11), .one (.fr (.ts [(T.mk (x1).k (x1).n (x1).kids)]))] []).bind fun x5 =>
 (rTerm x5.1 fun x6 x7 =>
 (nilV x7 (nilO x5.2
 (some ([.agg [.int .i64 (x6).k, .int .i64 (x6).n, .fr (.ts (x6).kids)], .one (.int .i64 x3)], [])))))))))))))
 ((cond ((decide (((byteAt v0 (v1 : Int).toNat).toNat : Int) = 94)))
 (((FF n 106 [.one (.str v0), .one (.int .i64 (IntKind.i64.wrap (v1 + 1))), .one (.int .i64 (IntKind.i64.wrap (v2 - 1)))] []).bind fun x0 =>
 (rTerm x0.1 fun x1 x2 =>
 (rInt .i64 x2 fun x3 x4 =>
 (nilV x4 (nilO x0.2
 (((FF n 55 [.one (.int .i64 15), .one (.fr (.ts [(T.mk (x1).k (x1).n (x1).kids)]))] []).bind fun x5 =>
 (rTerm x5.1 fun x6 x7 =>
 (nilV x7 (nilO x5.2
 (some ([.agg [.int .i64 (x6).k, .int .i64 (x6).n, .fr (.ts (x6).kids)], .one (.int .i64 x3)], [])))))))))))))
 ((cond ((decide (((byteAt v0 (v1 : Int).toNat).toNat : Int) = 95)))
 (((FF n 106 [.one (.str v0), .one (.int .i64 (IntKind.i64.wrap (v1 + 1))), .one (.int .i64 (IntKind.i64.wrap (v2 - 1)))] []).bind fun x0 =>
 (rTerm x0.1 fun x1 x2 =>
 (rInt .i64 x2 fun x3 x4 =>
 (nilV x4 (nilO x0.2
 (((FF n 55 [.one (.int .i64 16), .one (.fr (.ts [(T.mk (x1).k (x1).n (x1).kids)]))] []).bind fun x5 =>
 (rTerm x5.1 fun x6 x7 =>
 (nilV x7 (nilO x5.2
 (some ([.agg [.int .i64 (x6).k, .int .i64 (x6).n, .fr (.ts (x6).kids)], .one (.int .i64 x3)], [])))))))))))))
 (((FF n 106 [.one (.str v0), .one (.int .i64 (IntKind.i64.wrap (v1 + 1))), .one (.int .i64 (IntKind.i64.wrap (v2 - 1)))] []).bind fun x0 =>
 (rTerm x0.1 fun x1 x2 =>
 (rInt .i64 x2 fun x3 x4 =>
 (nilV x4 (nilO x0.2
 (((FF n 55 [.one (.int .i64 8), .one (.fr (.ts [(T.mk (x1).k (x1).n (x1).kids)]))] []).bind fun x5 =>
 (rTerm x5.1 fun x6 x7 =>
 (nilV x7 (nilO x5.2
 (some ([.agg [.int .i64 (x6).k, .int .i64 (x6).n, .fr (.ts (x6).kids)], .one (.int .i64 x3)], [])))))))))))))))))))
 (none)) := by kernel_rfl

/-! loop.example/depkernel/spec.l1Round -/
theorem E_spec_l1Round (n : Nat) (v0 : ByteArray) (v1 : Int) (v2 : Int) : FF (n + 1) 117 [.one (.str v0), .one (.int .i64 v1), .one (.int .i64 v2)] [] =
 ((FF n 106 [.one (.str v0), .one (.int .i64 v1), .one (.int .i64 v2)] []).bind fun x0 =>
 (rTerm x0.1 fun x1 x2 =>
 (rInt .i64 x2 fun x3 x4 =>
 (nilV x4 (nilO x0.2
 ((cond ((decide (x3 < 0)))
 (some ([.agg [.int .i64 0, .int .i64 0, .fr (.ts [])], .one (.int .i64 (-1))], []))
 ((cond ((decide (((v0).size : Int) ≤ x3)))
 (some ([.agg [.int .i64 0, .int .i64 0, .fr (.ts [])], .one (.int .i64 (-1))], []))
 ((cond (decide (0 ≤ x3) && decide (x3 < (((v0).size : Nat) : Int)))
 ((cond ((decide (((byteAt v0 (x3 : Int).toNat).toNat : Int) = 62)))
 (((FF n 106 [.one (.str v0), .one (.int .i64 (IntKind.i64.wrap (x3 + 1))), .one (.int .i64 v2)] []).bind fun x5 =>
 (rTerm x5.1 fun x6 x7 =>
 (rInt .i64 x7 fun x8 x9 =>
 (nilV x9 (nilO x5.2
 ((cond ((decide (x8 < 0)))
 (some ([.agg [.int .i64 0, .int .i64 0, .fr (.ts [])], .one (.int .i64 (-1))], []))
 ((cond ((decide (((v0).size : Int) ≤ x8)))
 (some ([.agg [.int .i64 0, .int .i64 0, .fr (.ts [])], .one (.int .i64 (-1))], []))
 ((cond (decide (0 ≤ x8) && decide (x8 < (((v0).size : Nat) : Int)))
 ((cond ((!decide (((byteAt v0 (x8 : Int).toNat).toNat : Int) = 41)))
 (some ([.agg [.int .i64 0, .int .i64 0, .fr (.ts [])], .one (.int .i64 (-1))], []))
 (((FF n 55 [.one (.int .i64 3), .one (.fr (.ts [(T.mk (x1).k (x1).n (x1).kids), (T.mk (x6).k (x6).n (x6).kids)]))] []).bind fun x10 =>
 (rTerm x10.1 fun x11 x12 =>
 (nilV x12 (nilO x10.2
 (some ([.agg [.int .i64 (x11).k, .int .i64 (x11).n, .fr (.ts (x11).kids)], .one (.int .i64 (IntKind.i64.wrap (x8 + 1)))], [])))))))))
 (none)))))))))))))
 ((cond ((decide (((byteAt v0 (x3 : Int).toNat).toNat : Int) = 42)))
 (((FF n 106 [.one (.str v0), .one (.int .i64 (IntKind.i64.wrap (x3 + 1))), .one (.int .i64 v2)] []).bind fun x5 =>
 (rTerm x5.1 fun x6 x7 =>
 (rInt .i64 x7 fun x8 x9 =>
 (nilV x9 (nilO x5.2
 ((cond ((decide (x8 < 0)))
 (some ([.agg [.int .i64 0, .int .i64 0, .fr (.ts [])], .one (.int .i64 (-1))], []))
 ((cond ((decide (((v0).size : Int) ≤ x8)))
 (some ([.agg [.int .i64 0, .int .i64 0, .fr (.ts [])], .one (.int .i64 (-1))], []))
 ((cond (decide (0 ≤ x8) && decide (x8 < (((v0).size : Nat) : Int)))
 ((cond ((!decide (((byteAt v0 (x8 : Int).toNat).toNat : Int) = 41)))
 (some ([.agg [.int .i64 0, .int .i64 0, .fr (.ts [])], .one (.int .i64 (-1))], []))
 (((FF n 55 [.one (.int .i64 13), .one (.fr (.ts [(T.mk (x1).k (x1).n (x1).kids), (T.mk (x6).k (x6).n (x6).kids)]))] []).bind fun x10 =>
 (rTerm x10.1 fun x11 x12 =>
 (nilV x12 (nilO x10.2
 (some ([.agg [.int .i64 (x11).k, .int .i64 (x11).n, .fr (.ts (x11).kids)], .one (.int .i64 (IntKind.i64.wrap (x8 + 1)))], [])))))))))
 (none)))))))))))))
 ((cond ((decide (((byteAt v0 (x3 : Int).toNat).toNat : Int) = 32)))
 (((FF n 106 [.one (.str v0), .one (.int .i64 (IntKind.i64.wrap (x3 + 1))), .one (.int .i64 v2)] []).bind fun x5 =>
 (rTerm x5.1 fun x6 x7 =>
 (rInt .i64 x7 fun x8 x9 =>
 (nilV x9 (nilO x5.2
 ((cond ((decide (x8 < 0)))
 (some ([.agg [.int .i64 0, .int .i64 0, .fr (.ts [])], .one (.int .i64 (-1))], []))
 ((cond ((decide (((v0).size : Int) ≤ x8)))
 (some ([.agg [.int .i64 0, .int .i64 0, .fr (.ts [])], .one (.int .i64 (-1))], []))
 ((cond (decide (0 ≤ x8) && decide (x8 < (((v0).size : Nat) : Int)))
 ((cond ((!decide (((byteAt v0 (x8 : Int).toNat).toNat : Int) = 41)))
 (some ([.agg [.int .i64 0, .int .i64 0, .fr (.ts [])], .one (.int .i64 (-1))], []))
 (((FF n 55 [.one (.int .i64 5), .one (.fr (.ts [(T.mk (x1).k (x1).n (x1).kids), (T.mk (x6).k (x6).n (x6).kids)]))] []).bind fun x10 =>
 (rTerm x10.1 fun x11 x12 =>
 (nilV x12 (nilO x10.2
 (some ([.agg [.int .i64 (x11).k, .int .i64 (x11).n, .fr (.ts (x11).kids)], .one (.int .i64 (IntKind.i64.wrap (x8 + 1)))], [])))))))))
 (none)))))))))))))
 (((FF n 106 [.one (.str v0), .one (.int .i64 (IntKind.i64.wrap (x3 + 1))), .one (.int .i64 v2)] []).bind fun x5 =>
 (rTerm x5.1 fun x6 x7 =>
 (rInt .i64 x7 fun x8 x9 =>
 (nilV x9 (nilO x5.2
 (some ([.agg [.int .i64 0, .int .i64 0, .fr (.ts [])], .one (.int .i64 (-1))], []))))))))))))))
 (none)))))))))))) := by kernel_rfl

/-! loop.example/depkernel/spec.l1Block -/
theorem E_spec_l1Block (n : Nat) (v0 : ByteArray) (v1 : Int) (v2 : Int) : FF (n + 1) 118 [.one (.str v0), .one (.int .i64 v1), .one (.int .i64 v2)] [] =
 (cond (decide (0 ≤ v1) && decide (v1 < (((v0).size : Nat) : Int)))
 ((cond ((decide (((byteAt v0 (v1 : Int).toNat).toNat : Int) = 60)))
 (((FF n 86 [.one (.int .i64 9)] []).bind fun x0 =>
 (rInt .i64 x0.1 fun x1 x2 =>
 (nilV x2 (nilO x0.2
 (((FF n 128 [.one (.str v0), .one (.int .i64 (IntKind.i64.wrap (v1 + 1))), .one (.int .i64 (IntKind.i64.wrap (v2 - 1))), .one (.int .i64 x1), .one (.int .u8 62)] []).bind fun x3 =>
 (rTs x3.1 fun x4 x5 =>
 (rInt .i64 x5 fun x6 x7 =>
 (nilV x7 (nilO x3.2
 (some ([.agg [.int .i64 9, .int .i64 0, .fr (.ts x4)], .one (.int .i64 x6)], [])))))))))))))
 ((cond ((decide (((byteAt v0 (v1 : Int).toNat).toNat : Int) = 123)))
 (((FF n 86 [.one (.int .i64 10)] []).bind fun x0 =>
 (rInt .i64 x0.1 fun x1 x2 =>
 (nilV x2 (nilO x0.2
 (((FF n 128 [.one (.str v0), .one (.int .i64 (IntKind.i64.wrap (v1 + 1))), .one (.int .i64 (IntKind.i64.wrap (v2 - 1))), .one (.int .i64 x1), .one (.int .u8 125)] []).bind fun x3 =>
 (rTs x3.1 fun x4 x5 =>
 (rInt .i64 x5 fun x6 x7 =>
 (nilV x7 (nilO x3.2
 (some ([.agg [.int .i64 10, .int .i64 0, .fr (.ts x4)], .one (.int .i64 x6)], [])))))))))))))
 ((cond ((decide (((byteAt v0 (v1 : Int).toNat).toNat : Int) = 124)))
 (((FF n 86 [.one (.int .i64 14)] []).bind fun x0 =>
 (rInt .i64 x0.1 fun x1 x2 =>
 (nilV x2 (nilO x0.2
 (((FF n 128 [.one (.str v0), .one (.int .i64 (IntKind.i64.wrap (v1 + 1))), .one (.int .i64 (IntKind.i64.wrap (v2 - 1))), .one (.int .i64 x1), .one (.int .u8 124)] []).bind fun x3 =>
 (rTs x3.1 fun x4 x5 =>
 (rInt .i64 x5 fun x6 x7 =>
 (nilV x7 (nilO x3.2
 (some ([.agg [.int .i64 14, .int .i64 0, .fr (.ts x4)], .one (.int .i64 x6)], [])))))))))))))
 ((cond ((decide (((byteAt v0 (v1 : Int).toNat).toNat : Int) = 64)))
 ((cond ((decide (((v0).size : Int) < (IntKind.i64.wrap (v1 + 2)))))
 (some ([.agg [.int .i64 0, .int .i64 0, .fr (.ts [])], .one (.int .i64 (-1))], []))
 ((cond (decide (0 ≤ (IntKind.i64.wrap (v1 + 1))) && decide ((IntKind.i64.wrap (v1 + 1)) < (((v0).size : Nat) : Int)))
 ((cond ((!decide (((byteAt v0 ((IntKind.i64.wrap (v1 + 1)) : Int).toNat).toNat : Int) = 60)))
 (some ([.agg [.int .i64 0, .int .i64 0, .fr (.ts [])], .one (.int .i64 (-1))], []))
 (((FF n 86 [.one (.int .i64 12)] []).bind fun x0 =>
 (rInt .i64 x0.1 fun x1 x2 =>
 (nilV x2 (nilO x0.2
 (((FF n 128 [.one (.str v0), .one (.int .i64 (IntKind.i64.wrap (v1 + 2))), .one (.int .i64 (IntKind.i64.wrap (v2 - 1))), .one (.int .i64 x1), .one (.int .u8 62)] []).bind fun x3 =>
 (rTs x3.1 fun x4 x5 =>
 (rInt .i64 x5 fun x6 x7 =>
 (nilV x7 (nilO x3.2
 (some ([.agg [.int .i64 12, .int .i64 0, .fr (.ts x4)], .one (.int .i64 x6)], [])))))))))))))))
 (none)))))
 (some ([.agg [.int .i64 0, .int .i64 0, .fr (.ts [])], .one (.int .i64 (-1))], []))))))))))
 (none)) := by kernel_rfl

/-! loop.example/depkernel/spec.l1Text -/
theorem E_spec_l1Text (n : Nat) (v0 : Int) (v1 : Int) (v2 : List T) : FF (n + 1) 119 [.agg [.int .i64 v0, .int .i64 v1, .fr (.ts v2)]] [] =
 (cond ((decide (v0 = 1)))
 (((FF n 129 [.one (.int .i64 v1)] []).bind fun x0 =>
 (rStr x0.1 fun x1 x2 =>
 (nilV x2 (nilO x0.2
 ((cond (decide (((bytesOf [35])).size + (x1).size ≤ 9223372036854775807))
 (some ([.one (.str ((bytesOf [35]) ++ x1))], []))
 (none))))))))
 ((cond ((decide (v0 = 2)))
 (((FF n 129 [.one (.int .i64 v1)] []).bind fun x0 =>
 (rStr x0.1 fun x1 x2 =>
 (nilV x2 (nilO x0.2
 ((cond (decide (((bytesOf [42])).size + (x1).size ≤ 9223372036854775807))
 (some ([.one (.str ((bytesOf [42]) ++ x1))], []))
 (none))))))))
 ((cond ((decide (v0 = 6)))
 (some ([.one (.str (bytesOf [78]))], []))
 ((cond ((decide (v0 = 7)))
 (some ([.one (.str (bytesOf [48]))], []))
 ((cond ((decide (v0 = 8)))
 (((v2)[(0 : Int).toNat]?.bind fun x0 =>
 ((FF n 119 [.agg [.int .i64 (x0).k, .int .i64 (x0).n, .fr (.ts (x0).kids)]] []).bind fun x1 =>
 (rStr x1.1 fun x2 x3 =>
 (nilV x3 (nilO x1.2
 ((cond (decide (((bytesOf [43])).size + (x2).size ≤ 9223372036854775807))
 (some ([.one (.str ((bytesOf [43]) ++ x2))], []))
 (none)))))))))
 ((cond ((decide (v0 = 11)))
 (((v2)[(0 : Int).toNat]?.bind fun x0 =>
 ((FF n 119 [.agg [.int .i64 (x0).k, .int .i64 (x0).n, .fr (.ts (x0).kids)]] []).bind fun x1 =>
 (rStr x1.1 fun x2 x3 =>
 (nilV x3 (nilO x1.2
 ((cond (decide (((bytesOf [33])).size + (x2).size ≤ 9223372036854775807))
 (some ([.one (.str ((bytesOf [33]) ++ x2))], []))
 (none)))))))))
 ((cond ((decide (v0 = 15)))
 (((v2)[(0 : Int).toNat]?.bind fun x0 =>
 ((FF n 119 [.agg [.int .i64 (x0).k, .int .i64 (x0).n, .fr (.ts (x0).kids)]] []).bind fun x1 =>
 (rStr x1.1 fun x2 x3 =>
 (nilV x3 (nilO x1.2
 ((cond (decide (((bytesOf [94])).size + (x2).size ≤ 9223372036854775807))
 (some ([.one (.str ((bytesOf [94]) ++ x2))], []))
 (none)))))))))
 ((cond ((decide (v0 = 16)))
 (((v2)[(0 : Int).toNat]?.bind fun x0 =>
 ((FF n 119 [.agg [.int .i64 (x0).k, .int .i64 (x0).n, .fr (.ts (x0).kids)]] []).bind fun x1 =>
 (rStr x1.1 fun x2 x3 =>
 (nilV x3 (nilO x1.2
 ((cond (decide (((bytesOf [95])).size + (x2).size ≤ 9223372036854775807))
 (some ([.one (.str ((bytesOf [95]) ++ x2))], []))
 (none)))))))))
 ((cond ((decide (v0 = 3)))
 (((v2)[(0 : Int).toNat]?.bind fun x0 =>
 ((FF n 119 [.agg [.int .i64 (x0).k, .int .i64 (x0).n, .fr (.ts (x0).kids)]] []).bind fun x1 =>
 (rStr x1.1 fun x2 x3 =>
 (nilV x3 (nilO x1.2
 ((cond (decide (((bytesOf [40])).size + (x2).size ≤ 9223372036854775807))
 ((cond (decide ((((bytesOf [40]) ++ x2)).size + ((bytesOf [62])).size ≤ 9223372036854775807))
 (((v2)[(1 : Int).toNat]?.bind fun x4 =>
 ((FF n 119 [.agg [.int .i64 (x4).k, .int .i64 (x4).n, .fr (.ts (x4).kids)]] []).bind fun x5 =>
 (rStr x5.1 fun x6 x7 =>
 (nilV x7 (nilO x5.2
 ((cond (decide (((((bytesOf [40]) ++ x2) ++ (bytesOf [62]))).size + (x6).size ≤ 9223372036854775807))
 ((cond (decide ((((((bytesOf [40]) ++ x2) ++ (bytesOf [62])) ++ x6)).size + ((bytesOf [41])).size ≤ 9223372036854775807))
 (some ([.one (.str (((((bytesOf [40]) ++ x2) ++ (bytesOf [62])) ++ x6) ++ (bytesOf [41])))], []))
 (none)))
 (none)))))))))
 (none)))
 (none)))))))))
 ((cond ((decide (v0 = 13)))
 (((v2)[(0 : Int).toNat]?.bind fun x0 =>
 ((FF n 119 [.agg [.int .i64 (x0).k, .int .i64 (x0).n, .fr (.ts (x0).kids)]] []).bind fun x1 =>
 (rStr x1.1 fun x2 x3 =>
 (nilV x3 (nilO x1.2
 ((cond (decide (((bytesOf [40])).size + (x2).size ≤ 9223372036854775807))
 ((cond (decide ((((bytesOf [40]) ++ x2)).size + ((bytesOf [42])).size ≤ 9223372036854775807))
 (((v2)[(1 : Int).toNat]?.bind fun x4 =>
 ((FF n 119 [.agg [.int .i64 (x4).k, .int .i64 (x4).n, .fr (.ts (x4).kids)]] []).bind fun x5 =>
 (rStr x5.1 fun x6 x7 =>
 (nilV x7 (nilO x5.2
 ((cond (decide (((((bytesOf [40]) ++ x2) ++ (bytesOf [42]))).size + (x6).size ≤ 9223372036854775807))
 ((cond (decide ((((((bytesOf [40]) ++ x2) ++ (bytesOf [42])) ++ x6)).size + ((bytesOf [41])).size ≤ 9223372036854775807))
 (some ([.one (.str (((((bytesOf [40]) ++ x2) ++ (bytesOf [42])) ++ x6) ++ (bytesOf [41])))], []))
 (none)))
 (none)))))))))
 (none)))
 (none)))))))))
 ((cond ((decide (v0 = 5)))
 (((v2)[(0 : Int).toNat]?.bind fun x0 =>
 ((FF n 119 [.agg [.int .i64 (x0).k, .int .i64 (x0).n, .fr (.ts (x0).kids)]] []).bind fun x1 =>
 (rStr x1.1 fun x2 x3 =>
 (nilV x3 (nilO x1.2
 ((cond (decide (((bytesOf [40])).size + (x2).size ≤ 9223372036854775807))
 ((cond (decide ((((bytesOf [40]) ++ x2)).size + ((bytesOf [32])).size ≤ 9223372036854775807))
 (((v2)[(1 : Int).toNat]?.bind fun x4 =>
 ((FF n 119 [.agg [.int .i64 (x4).k, .int .i64 (x4).n, .fr (.ts (x4).kids)]] []).bind fun x5 =>
 (rStr x5.1 fun x6 x7 =>
 (nilV x7 (nilO x5.2
 ((cond (decide (((((bytesOf [40]) ++ x2) ++ (bytesOf [32]))).size + (x6).size ≤ 9223372036854775807))
 ((cond (decide ((((((bytesOf [40]) ++ x2) ++ (bytesOf [32])) ++ x6)).size + ((bytesOf [41])).size ≤ 9223372036854775807))
 (some ([.one (.str (((((bytesOf [40]) ++ x2) ++ (bytesOf [32])) ++ x6) ++ (bytesOf [41])))], []))
 (none)))
 (none)))))))))
 (none)))
 (none)))))))))
 ((cond ((decide (v0 = 4)))
 (((v2)[(0 : Int).toNat]?.bind fun x0 =>
 ((FF n 119 [.agg [.int .i64 (x0).k, .int .i64 (x0).n, .fr (.ts (x0).kids)]] []).bind fun x1 =>
 (rStr x1.1 fun x2 x3 =>
 (nilV x3 (nilO x1.2
 ((cond (decide (((bytesOf [91])).size + (x2).size ≤ 9223372036854775807))
 ((cond (decide ((((bytesOf [91]) ++ x2)).size + ((bytesOf [93])).size ≤ 9223372036854775807))
 (((v2)[(1 : Int).toNat]?.bind fun x4 =>
 ((FF n 119 [.agg [.int .i64 (x4).k, .int .i64 (x4).n, .fr (.ts (x4).kids)]] []).bind fun x5 =>
 (rStr x5.1 fun x6 x7 =>
 (nilV x7 (nilO x5.2
 ((cond (decide (((((bytesOf [91]) ++ x2) ++ (bytesOf [93]))).size + (x6).size ≤ 9223372036854775807))
 (some ([.one (.str ((((bytesOf [91]) ++ x2) ++ (bytesOf [93])) ++ x6))], []))
 (none)))))))))
 (none)))
 (none)))))))))
 ((cond ((decide (v0 = 10)))
 (((FF n 130 [.one (.fr (.ts v2))] []).bind fun x0 =>
 (rStr x0.1 fun x1 x2 =>
 (nilV x2 (nilO x0.2
 ((cond (decide (((bytesOf [123])).size + (x1).size ≤ 9223372036854775807))
 ((cond (decide ((((bytesOf [123]) ++ x1)).size + ((bytesOf [125])).size ≤ 9223372036854775807))
 (some ([.one (.str (((bytesOf [123]) ++ x1) ++ (bytesOf [125])))], []))
 (none)))
 (none))))))))
 ((cond ((decide (v0 = 14)))
 (((FF n 130 [.one (.fr (.ts v2))] []).bind fun x0 =>
 (rStr x0.1 fun x1 x2 =>
 (nilV x2 (nilO x0.2
 ((cond (decide (((bytesOf [124])).size + (x1).size ≤ 9223372036854775807))
 ((cond (decide ((((bytesOf [124]) ++ x1)).size + ((bytesOf [124])).size ≤ 9223372036854775807))
 (some ([.one (.str (((bytesOf [124]) ++ x1) ++ (bytesOf [124])))], []))
 (none)))
 (none))))))))
 ((cond ((decide (v0 = 12)))
 (((FF n 130 [.one (.fr (.ts v2))] []).bind fun x0 =>
 (rStr x0.1 fun x1 x2 =>
 (nilV x2 (nilO x0.2
 ((cond (decide (((bytesOf [64, 60])).size + (x1).size ≤ 9223372036854775807))
 ((cond (decide ((((bytesOf [64, 60]) ++ x1)).size + ((bytesOf [62])).size ≤ 9223372036854775807))
 (some ([.one (.str (((bytesOf [64, 60]) ++ x1) ++ (bytesOf [62])))], []))
 (none)))
 (none))))))))
 (((FF n 130 [.one (.fr (.ts v2))] []).bind fun x0 =>
 (rStr x0.1 fun x1 x2 =>
 (nilV x2 (nilO x0.2
 ((cond (decide (((bytesOf [60])).size + (x1).size ≤ 9223372036854775807))
 ((cond (decide ((((bytesOf [60]) ++ x1)).size + ((bytesOf [62])).size ≤ 9223372036854775807))
 (some ([.one (.str (((bytesOf [60]) ++ x1) ++ (bytesOf [62])))], []))
 (none)))
 (none))))))))))))))))))))))))))))))))))))) := by kernel_rfl

/-! loop.example/depkernel/impl.areTerms$1 -/
theorem E_impl_areTerms_1 (n : Nat) (v0 : Int) (v1 : Int) (v2 : List T) : FF (n + 1) 88 [.agg [.int .i64 v0, .int .i64 v1, .fr (.ts v2)]] [] =
 ((FF n 31 [.agg [.int .i64 v0, .int .i64 v1, .fr (.ts v2)]] []).bind fun x0 =>
 (rBool x0.1 fun x1 x2 =>
 (nilV x2 (nilO x0.2
 (some ([.one (.bool (!x1))], [])))))) := by kernel_rfl

/-! loop.example/depkernel/spec.l2Subst -/
noncomputable def L_spec_l2Subst_0_ffoo (n c : Nat) (v0 : Int) (v1 : Int) (v2 : Int) (v3 : Int) (v4 : Int) (v5 : List T) (v6 : Int) (v7 : Int) (v8 : List T) (v9 : Int) (v10 : Int) (v11 : List T) (v12 : Int) (v13 : Int) (v14 : List T) : OR := runLoop Try.prog SS n 120 0 [1, 1, 1, 1, 0, 1, 0] [] c ⟨[.v (.one (.any)), .v (.one (.int .i64 v0)), .v (.one (.any)), .v (.one (.int .i64 v1)), .v (.one (.ptr 0 0)), .v (.one (.any)), .v (.one (.ptr 1 0)), .v (.one (.any)), .v (.one (.ptr 2 0)), .v (.one (.ptr 4 0)), .v (.one (.int .i64 v2)), .v (.one (.any)), .v (.one (.any)), .v (.one (.any)), .v (.one (.any)), .v (.one (.any)), .v (.one (.any)), .v (.one (.any)), .v (.one (.any)), .v (.one (.any)), .v (.one (.any)), .v (.one (.any)), .v (.one (.any)), .v (.one (.any)), .v (.one (.any)), .v (.one (.any)), .v (.one (.any)), .v (.one (.any)), .v (.one (.any)), .v (.one (.any)), .v (.one (.any)), .v (.one (.any)), .v (.one (.any)), .v (.one (.any)), .v (.one (.any)), .v (.one (.any)), .v (.one (.any)), .v (.one (.any)), .v (.one (.any)), .v (.one (.any)), .v (.one (.any)), .v (.one (.any)), .v (.one (.any)), .v (.one (.any)), .v (.one (.any)), .v (.one (.any)), .v (.one (.any)), .v (.one (.any)), .v (.one (.any)), .v (.one (.any)), .v (.one (.any)), .v (.one (.any)), .v (.one (.any)), .v (.one (.any)), .v (.one (.any)), .v (.one (.any)), .v (.one (.any)), .v (.one (.any)), .v (.one (.any)), .v (.one (.any)), .v (.one (.any)), .v (.one (.any)), .v (.one (.any)), .v (.one (.any)), .v (.one (.any)), .v (.one (.any)), .v (.one (.any)), .v (.one (.any)), .v (.one (.any)), .v (.one (.any)), .v (.one (.any)), .v (.one (.any))],
  [.cells [.int .i64 v3, .int .i64 v4, .fr (.ts v5)], .cells [.int .i64 v6, .int .i64 v7, .fr (.ts v8)], .cells [.int .i64 v9, .int .i64 v10, .own 3 0], .arr 25 (.ts v11) 0 false, .cells [.int .i64 v12, .int .i64 v13, .own 5 0], .arr 25 (.ts v14) 0 false]⟩
theorem L_spec_l2Subst_0_ffoo_eq (n c : Nat) (v0 : Int) (v1 : Int) (v2 : Int) (v3 : Int) (v4 : Int) (v5 : List T) (v6 : Int) (v7 : Int) (v8 : List T) (v9 : Int) (v10 : Int) (v11 : List T) (v12 : Int) (v13 : Int) (v14 : List T) : L_spec_l2Subst_0_ffoo n (c + 1) v0 v1 v2 v3 v4 v5 v6 v7 v8 v9 v10 v11 v12 v13 v14 =
 (cond ((decide (v2 < ((v5).length : Int))))
 (((FF n 132 [.one (.int .i64 v3), .one (.int .i64 v2)] []).bind fun x0 =>
 (rInt .i64 x0.1 fun x1 x2 =>
 (nilV x2 (nilO x0.2
 ((cond (decide (0 ≤ v2))
 (((v5)[(v2 : Int).toNat]?.bind fun x3 =>
 ((FF n 120 [.agg [.int .i64 (x3).k, .int .i64 (x3).n, .fr (.ts (x3).kids)], .one (.int .i64 (IntKind.i64.wrap (v0 + x1))), .agg [.int .i64 v6, .int .i64 v7, .fr (.ts v8)], .one (.int .i64 (IntKind.i64.wrap (v1 + x1)))] []).bind fun x4 =>
 (rTerm x4.1 fun x5 x6 =>
 (nilV x6 (nilO x4.2
 ((cond (roomB (v14 ++ [(T.mk (x5).k (x5).n (x5).kids)]).length)
 (L_spec_l2Subst_0_ffoo n c (v0 : Int) (v1 : Int) ((IntKind.i64.wrap (v2 + 1)) : Int) (v3 : Int) (v4 : Int) (v5 : List T) (v6 : Int) (v7 : Int) (v8 : List T) (v9 : Int) (v10 : Int) (v11 : List T) (v12 : Int) (v13 : Int) ((v14 ++ [(T.mk (x5).k (x5).n (x5).kids)]) : List T))
 (none)))))))))
 (none))))))))
 (some ([.agg [.int .i64 v12, .int .i64 v13, .fr (.ts v14)]], []))) := by kernel_rfl
theorem E_spec_l2Subst (n : Nat) (v0 : Int) (v1 : Int) (v2 : List T) (v3 : Int) (v4 : Int) (v5 : Int) (v6 : List T) (v7 : Int) : FF (n + 1) 120 [.agg [.int .i64 v0, .int .i64 v1, .fr (.ts v2)], .one (.int .i64 v3), .agg [.int .i64 v4, .int .i64 v5, .fr (.ts v6)], .one (.int .i64 v7)] [] =
 (cond ((decide (v0 = 1)))
 ((cond ((decide (v1 = v3)))
 (((FF n 131 [.agg [.int .i64 v4, .int .i64 v5, .fr (.ts v6)], .one (.int .i64 v7), .one (.int .i64 0)] []).bind fun x0 =>
 (rTerm x0.1 fun x1 x2 =>
 (nilV x2 (nilO x0.2
 (some ([.agg [.int .i64 (x1).k, .int .i64 (x1).n, .fr (.ts (x1).kids)]], [])))))))
 ((cond ((decide (v0 = 1)))
 ((cond ((decide (v3 < v1)))
 (L_spec_l2Subst_0_ffoo n n (v3 : Int) (v7 : Int) (0 : Int) (v0 : Int) (v1 : Int) (v2 : List T) (v4 : Int) (v5 : Int) (v6 : List T) (0 : Int) (0 : Int) ([] : List T) (v0 : Int) ((IntKind.i64.wrap (v1 - 1)) : Int) ([] : List T))
 (L_spec_l2Subst_0_ffoo n n (v3 : Int) (v7 : Int) (0 : Int) (v0 : Int) (v1 : Int) (v2 : List T) (v4 : Int) (v5 : Int) (v6 : List T) (0 : Int) (0 : Int) ([] : List T) (v0 : Int) (v1 : Int) ([] : List T))))
 (L_spec_l2Subst_0_ffoo n n (v3 : Int) (v7 : Int) (0 : Int) (v0 : Int) (v1 : Int) (v2 : List T) (v4 : Int) (v5 : Int) (v6 : List T) (0 : Int) (0 : Int) ([] : List T) (v0 : Int) (v1 : Int) ([] : List T))))))
 ((cond ((decide (v0 = 1)))
 ((cond ((decide (v3 < v1)))
 (L_spec_l2Subst_0_ffoo n n (v3 : Int) (v7 : Int) (0 : Int) (v0 : Int) (v1 : Int) (v2 : List T) (v4 : Int) (v5 : Int) (v6 : List T) (0 : Int) (0 : Int) ([] : List T) (v0 : Int) ((IntKind.i64.wrap (v1 - 1)) : Int) ([] : List T))
 (L_spec_l2Subst_0_ffoo n n (v3 : Int) (v7 : Int) (0 : Int) (v0 : Int) (v1 : Int) (v2 : List T) (v4 : Int) (v5 : Int) (v6 : List T) (0 : Int) (0 : Int) ([] : List T) (v0 : Int) (v1 : Int) ([] : List T))))
 (L_spec_l2Subst_0_ffoo n n (v3 : Int) (v7 : Int) (0 : Int) (v0 : Int) (v1 : Int) (v2 : List T) (v4 : Int) (v5 : Int) (v6 : List T) (0 : Int) (0 : Int) ([] : List T) (v0 : Int) (v1 : Int) ([] : List T))))) := by kernel_rfl

/-! slices.Clone[[]loop.example/depkernel/impl.Term,loop.example/depkernel/impl.Term] -/
theorem E_slices_Clone (n : Nat) (v0 : List T) : FF (n + 1) 121 [.one (.fr (.ts v0))] [] =
 (cond (Nat.beq (v0).length 0)
 ((same (some ([.one (.own 0 0)], [.arr 25 (.ts []) 0 false]))
 ((cond (roomB ([] ++ v0).length)
 (some ([.one (.own 0 0)], [.arr 25 (.ts ([] ++ v0)) 0 false]))
 (none)))))
 ((cond (roomB ([] ++ v0).length)
 (some ([.one (.own 0 0)], [.arr 25 (.ts ([] ++ v0)) 0 false]))
 (none)))) := by kernel_rfl

/-! loop.example/depkernel/impl.changed -/
noncomputable def L_impl_changed_impl_subst_1_0_ffoo (n c : Nat) (v0 : Int) (v1 : List T) (v2 : Int) (v3 : Int) (v4 : Int) (v5 : Int) (v6 : Int) (v7 : List T) (v8 : Bool) (v9 : Int) (v10 : Int) (v11 : List T) (v12 : Int) (v13 : Int) (v14 : List T) (v15 : Int) (v16 : Int) (v17 : List T) : OR := runLoop Try.prog SS n 122 3 [1, 1, 1, 0, 1, 0] [] c ⟨[.v (.one (.any)), .v (.one (.int .i64 v0)), .v (.one (.fn 123 [0, 1, 2])), .v (.one (.ptr 3 0)), .v (.one (.any)), .v (.one (.any)), .v (.one (.ptr 4 0)), .v (.one (.ptr 6 0)), .v (.one (.any)), .v (.one (.any)), .v (.one (.any)), .v (.one (.any)), .v (.one (.any)), .v (.one (.any)), .v (.one (.any)), .v (.one (.any)), .v (.one (.any)), .v (.one (.any)), .v (.one (.any)), .v (.one (.any)), .v (.one (.any)), .v (.one (.any)), .v (.one (.any)), .v (.one (.any)), .v (.one (.fr (.ts v1))), .v (.one (.int .i64 v2)), .v (.one (.int .i64 v3)), .v (.one (.any)), .v (.one (.any)), .v (.one (.any)), .v (.one (.any)), .v (.one (.any)), .v (.one (.any)), .v (.one (.any)), .v (.one (.any)), .v (.one (.any)), .v (.one (.any)), .v (.one (.any)), .v (.one (.any)), .v (.one (.any)), .v (.one (.any)), .v (.one (.any)), .v (.one (.any)), .v (.one (.any)), .v (.one (.any)), .v (.one (.any)), .v (.one (.any))],
  [.cells [.int .i64 v4], .cells [.int .i64 v5, .int .i64 v6, .fr (.ts v7)], .cells [.bool v8], .cells [.int .i64 v9, .int .i64 v10, .fr (.ts v11)], .cells [.int .i64 v12, .int .i64 v13, .own 5 0], .arr 25 (.ts v14) 0 false, .cells [.int .i64 v15, .int .i64 v16, .own 7 0], .arr 25 (.ts v17) 0 false]⟩
theorem L_impl_changed_impl_subst_1_0_ffoo_eq (n c : Nat) (v0 : Int) (v1 : List T) (v2 : Int) (v3 : Int) (v4 : Int) (v5 : Int) (v6 : Int) (v7 : List T) (v8 : Bool) (v9 : Int) (v10 : Int) (v11 : List T) (v12 : Int) (v13 : Int) (v14 : List T) (v15 : Int) (v16 : Int) (v17 : List T) : L_impl_changed_impl_subst_1_0_ffoo n (c + 1) v0 v1 v2 v3 v4 v5 v6 v7 v8 v9 v10 v11 v12 v13 v14 v15 v16 v17 =
 (cond ((decide (v3 < v2)))
 ((cond (decide (0 ≤ v3))
 (((v1)[(v3 : Int).toNat]?.bind fun x0 =>
 ((FF n 114 [.one (.int .i64 v9), .one (.int .i64 v3)] []).bind fun x1 =>
 (rInt .i64 x1.1 fun x2 x3 =>
 (nilV x3 (nilO x1.2
 (((FF n 122 [.agg [.int .i64 (x0).k, .int .i64 (x0).n, .fr (.ts (x0).kids)], .one (.int .i64 (IntKind.i64.wrap (v0 + x2))), .one (.fn 123 [0, 1, 2])] [.cells [.int .i64 v4], .cells [.int .i64 v5, .int .i64 v6, .fr (.ts v7)], .cells [.bool v8]]).bind fun x4 =>
 (objC x4.2 fun x5 x6 =>
 (intC .i64 x5 fun x7 x8 =>
 (nilC x8
 ((objC x6 fun x9 x10 =>
 (intC .i64 x9 fun x11 x12 =>
 (intC .i64 x12 fun x13 x14 =>
 (tsC x14 fun x15 x16 =>
 (nilC x16
 ((objC x10 fun x17 x18 =>
 (boolC x17 fun x19 x20 =>
 (nilC x20
 ((rTerm x4.1 fun x21 x22 =>
 (nilV x22 (nilO x18
 ((cond (roomB (v17 ++ [(T.mk (x21).k (x21).n (x21).kids)]).length)
 (L_impl_changed_impl_subst_1_0_ffoo n c (v0 : Int) (v1 : List T) (v2 : Int) ((IntKind.i64.wrap (v3 + 1)) : Int) (x7 : Int) (x11 : Int) (x13 : Int) (x15 : List T) (x19 : Bool) (v9 : Int) (v10 : Int) (v11 : List T) (v12 : Int) (v13 : Int) (v14 : List T) (v15 : Int) (v16 : Int) ((v17 ++ [(T.mk (x21).k (x21).n (x21).kids)]) : List T))
 (none))))))))))))))))))))))))))))
 (none)))
 (some ([.agg [.int .i64 v15, .int .i64 v16, .fr (.ts v17)]], [.cells [.int .i64 v4], .cells [.int .i64 v5, .int .i64 v6, .fr (.ts v7)], .cells [.bool v8]]))) := by kernel_rfl
theorem E_impl_changed_impl_subst_1 (n : Nat) (v0 : Int) (v1 : Int) (v2 : List T) (v3 : Int) (v4 : Int) (v5 : Int) (v6 : Int) (v7 : List T) (v8 : Bool) : FF (n + 1) 122 [.agg [.int .i64 v0, .int .i64 v1, .fr (.ts v2)], .one (.int .i64 v3), .one (.fn 123 [0, 1, 2])] [.cells [.int .i64 v4], .cells [.int .i64 v5, .int .i64 v6, .fr (.ts v7)], .cells [.bool v8]] =
 (cond ((decide (v0 = 1)))
 (((FF n 123 [.one (.int .i64 v1), .one (.int .i64 v3), .one (.ptr 0 0), .one (.ptr 1 0), .one (.ptr 2 0)] [.cells [.int .i64 v4], .cells [.int .i64 v5, .int .i64 v6, .fr (.ts v7)], .cells [.bool v8]]).bind fun x0 =>
 (objC x0.2 fun x1 x2 =>
 (intC .i64 x1 fun x3 x4 =>
 (nilC x4
 ((objC x2 fun x5 x6 =>
 (intC .i64 x5 fun x7 x8 =>
 (intC .i64 x8 fun x9 x10 =>
 (tsC x10 fun x11 x12 =>
 (nilC x12
 ((objC x6 fun x13 x14 =>
 (boolC x13 fun x15 x16 =>
 (nilC x16
 ((rTerm x0.1 fun x17 x18 =>
 (nilV x18 (nilO x14
 (some ([.agg [.int .i64 (x17).k, .int .i64 (x17).n, .fr (.ts (x17).kids)]], [.cells [.int .i64 x3], .cells [.int .i64 x7, .int .i64 x9, .fr (.ts x11)], .cells [.bool x15]])))))))))))))))))))))
 (L_impl_changed_impl_subst_1_0_ffoo n n (v3 : Int) (v2 : List T) (((v2).length : Int) : Int) (0 : Int) (v4 : Int) (v5 : Int) (v6 : Int) (v7 : List T) (v8 : Bool) (v0 : Int) (v1 : Int) (v2 : List T) (0 : Int) (0 : Int) ([] : List T) (v0 : Int) (v1 : Int) ([] : List T))) := by kernel_rfl

/-! loop.example/depkernel/impl.isBinder -/
theorem E_impl_isBinder (n : Nat) (v0 : Int) : FF (n + 1) 126 [.one (.int .i64 v0)] [] =
 (cond ((decide (v0 = 3)))
 (some ([.one (.bool true)], []))
 ((cond ((decide (v0 = 4)))
 (some ([.one (.bool true)], []))
 (some ([.one (.bool (decide (v0 = 13)))], []))))) := by kernel_rfl

/-! loop.example/depkernel/spec.l19Num -/
noncomputable def L_spec_l19Num_0 (n c : Nat) (v0 : ByteArray) (v1 : Bool) (v2 : Int) (v3 : Int) : OR := runLoop Try.prog SS n 127 0 [1, 1, 1, 1, 1, 0, 1, 0] [] c ⟨[.v (.one (.str v0)), .v (.one (.any)), .v (.one (.any)), .v (.one (.any)), .v (.one (.bool v1)), .v (.one (.int .i64 v2)), .v (.one (.int .i64 v3)), .v (.one (.any)), .v (.one (.any)), .v (.one (.any)), .v (.one (.any)), .v (.one (.any)), .v (.one (.any)), .v (.one (.any)), .v (.one (.any)), .v (.one (.any)), .v (.one (.any)), .v (.one (.any)), .v (.one (.any)), .v (.one (.any)), .v (.one (.any)), .v (.one (.any)), .v (.one (.any)), .v (.one (.any)), .v (.one (.any)), .v (.one (.any)), .v (.one (.any)), .v (.one (.any)), .v (.one (.any)), .v (.one (.any)), .v (.one (.any)), .v (.one (.any)), .v (.one (.any)), .v (.one (.any)), .v (.one (.any)), .v (.one (.any)), .v (.one (.any)), .v (.one (.any)), .v (.one (.any)), .v (.one (.any)), .v (.one (.any)), .v (.one (.any)), .v (.one (.any)), .v (.one (.any)), .v (.one (.any)), .v (.one (.any)), .v (.one (.any)), .v (.one (.any)), .v (.one (.any)), .v (.one (.any)), .v (.one (.any)), .v (.one (.any)), .v (.one (.any)), .v (.one (.any)), .v (.one (.any)), .v (.one (.any)), .v (.one (.any)), .v (.one (.any)), .v (.one (.any)), .v (.one (.any)), .v (.one (.any)), .v (.one (.any)), .v (.one (.any)), .v (.one (.any)), .v (.one (.any)), .v (.one (.any)), .v (.one (.any))],
  []⟩
theorem L_spec_l19Num_0_eq (n c : Nat) (v0 : ByteArray) (v1 : Bool) (v2 : Int) (v3 : Int) : L_spec_l19Num_0 n (c + 1) v0 v1 v2 v3 =
 (cond ((decide (v3 < ((v0).size : Int))))
 ((cond (decide (0 ≤ v3) && decide (v3 < (((v0).size : Nat) : Int)))
 ((cond ((decide (((byteAt v0 (v3 : Int).toNat).toNat : Int) < 48)))
 (some ([.one (.int .i64 0), .one (.bool false)], []))
 ((cond (decide (0 ≤ v3) && decide (v3 < (((v0).size : Nat) : Int)))
 ((cond ((decide (57 < ((byteAt v0 (v3 : Int).toNat).toNat : Int))))
 (some ([.one (.int .i64 0), .one (.bool false)], []))
 ((cond (decide (0 ≤ v3) && decide (v3 < (((v0).size : Nat) : Int)))
 (L_spec_l19Num_0 n c (v0 : ByteArray) (v1 : Bool) ((IntKind.i64.wrap ((IntKind.i64.wrap (v2 * 10)) + (IntKind.i64.wrap (IntKind.u8.wrap (((byteAt v0 (v3 : Int).toNat).toNat : Int) - 48))))) : Int) ((IntKind.i64.wrap (v3 + 1)) : Int))
 (none)))))
 (none)))))
 (none)))
 ((cond (v1)
 (some ([.one (.int .i64 (IntKind.i64.wrap (0 - v2))), .one (.bool true)], []))
 (some ([.one (.int .i64 v2), .one (.bool true)], []))))) := by kernel_rfl
theorem E_spec_l19Num (n : Nat) (v0 : ByteArray) : FF (n + 1) 127 [.one (.str v0)] [] =
 (cond ((decide (0 < ((v0).size : Int))))
 ((cond (decide (0 ≤ 0) && decide (0 < (((v0).size : Nat) : Int)))
 ((cond ((decide (((byteAt v0 (0 : Int).toNat).toNat : Int) = 45)))
 ((cond (Go.Ab.inB 1 (v0).size (v0).size)
 ((cond ((decide (((((v0).extract (1 : Int).toNat ((v0).size : Int).toNat)).size : Int) = 0)))
 (some ([.one (.int .i64 0), .one (.bool false)], []))
 ((cond ((decide (17 < ((((v0).extract (1 : Int).toNat ((v0).size : Int).toNat)).size : Int))))
 (some ([.one (.int .i64 0), .one (.bool false)], []))
 ((cond (decide (0 ≤ 0) && decide (0 < (((((v0).extract (1 : Int).toNat ((v0).size : Int).toNat)).size : Nat) : Int)))
 ((cond ((decide (((byteAt ((v0).extract (1 : Int).toNat ((v0).size : Int).toNat) (0 : Int).toNat).toNat : Int) = 48)))
 ((cond ((decide (1 < ((((v0).extract (1 : Int).toNat ((v0).size : Int).toNat)).size : Int))))
 (some ([.one (.int .i64 0), .one (.bool false)], []))
 ((cond ((decide (((byteAt v0 (0 : Int).toNat).toNat : Int) = 45)))
 (some ([.one (.int .i64 0), .one (.bool false)], []))
 (L_spec_l19Num_0 n n (((v0).extract (1 : Int).toNat ((v0).size : Int).toNat) : ByteArray) ((decide (((byteAt v0 (0 : Int).toNat).toNat : Int) = 45)) : Bool) (0 : Int) (0 : Int))))))
 (L_spec_l19Num_0 n n (((v0).extract (1 : Int).toNat ((v0).size : Int).toNat) : ByteArray) ((decide (((byteAt v0 (0 : Int).toNat).toNat : Int) = 45)) : Bool) (0 : Int) (0 : Int))))
 (none)))))))
 (none)))
 ((cond ((decide (((v0).size : Int) = 0)))
 (some ([.one (.int .i64 0), .one (.bool false)], []))
 ((cond ((decide (17 < ((v0).size : Int))))
 (some ([.one (.int .i64 0), .one (.bool false)], []))
 ((cond (decide (0 ≤ 0) && decide (0 < (((v0).size : Nat) : Int)))
 ((cond ((decide (((byteAt v0 (0 : Int).toNat).toNat : Int) = 48)))
 ((cond ((decide (1 < ((v0).size : Int))))
 (some ([.one (.int .i64 0), .one (.bool false)], []))
 ((cond ((decide (((byteAt v0 (0 : Int).toNat).toNat : Int) = 45)))
 (some ([.one (.int .i64 0), .one (.bool false)], []))
 (L_spec_l19Num_0 n n (v0 : ByteArray) ((decide (((byteAt v0 (0 : Int).toNat).toNat : Int) = 45)) : Bool) (0 : Int) (0 : Int))))))
 (L_spec_l19Num_0 n n (v0 : ByteArray) ((decide (((byteAt v0 (0 : Int).toNat).toNat : Int) = 45)) : Bool) (0 : Int) (0 : Int))))
 (none)))))))))
 (none)))
 ((cond ((decide (((v0).size : Int) = 0)))
 (some ([.one (.int .i64 0), .one (.bool false)], []))
 ((cond ((decide (17 < ((v0).size : Int))))
 (some ([.one (.int .i64 0), .one (.bool false)], []))
 ((cond (decide (0 ≤ 0) && decide (0 < (((v0).size : Nat) : Int)))
 ((cond ((decide (((byteAt v0 (0 : Int).toNat).toNat : Int) = 48)))
 ((cond ((decide (1 < ((v0).size : Int))))
 (some ([.one (.int .i64 0), .one (.bool false)], []))
 (L_spec_l19Num_0 n n (v0 : ByteArray) (false : Bool) (0 : Int) (0 : Int))))
 (L_spec_l19Num_0 n n (v0 : ByteArray) (false : Bool) (0 : Int) (0 : Int))))
 (none)))))))) := by kernel_rfl

/-! loop.example/depkernel/spec.l1Series -/
noncomputable def L_spec_l1Series_0 (n c : Nat) (v0 : ByteArray) (v1 : Int) (v2 : Int) (v3 : Int) (v4 : Int) (v5 : Int) (v6 : List T) : OR := runLoop Try.prog SS n 128 0 [1, 1, 0, 1, 0] [] c ⟨[.v (.one (.str v0)), .v (.one (.int .i64 v1)), .v (.one (.int .i64 v2)), .v (.one (.int .i64 v3)), .v (.one (.int .u8 v4)), .v (.one (.any)), .v (.one (.any)), .v (.one (.any)), .v (.one (.any)), .v (.one (.any)), .v (.one (.any)), .v (.one (.any)), .v (.one (.own 0 0)), .v (.one (.int .i64 v5)), .v (.one (.any)), .v (.one (.any)), .v (.one (.any)), .v (.one (.any)), .v (.one (.any)), .v (.one (.any)), .v (.one (.any)), .v (.one (.any)), .v (.one (.any)), .v (.one (.any)), .v (.one (.any)), .v (.one (.any)), .v (.one (.any)), .v (.one (.any)), .v (.one (.any)), .v (.one (.any)), .v (.one (.any)), .v (.one (.any)), .v (.one (.any)), .v (.one (.any)), .v (.one (.any)), .v (.one (.any)), .v (.one (.any)), .v (.one (.any)), .v (.one (.any)), .v (.one (.any)), .v (.one (.any)), .v (.one (.any)), .v (.one (.any)), .v (.one (.any)), .v (.one (.any)), .v (.one (.any)), .v (.one (.any)), .v (.one (.any)), .v (.one (.any)), .v (.one (.any)), .v (.one (.any)), .v (.one (.any)), .v (.one (.any)), .v (.one (.any)), .v (.one (.any)), .v (.one (.any)), .v (.one (.any)), .v (.one (.any)), .v (.one (.any)), .v (.one (.any)), .v (.one (.any)), .v (.one (.any)), .v (.one (.any)), .v (.one (.any)), .v (.one (.any)), .v (.one (.any)), .v (.one (.any)), .v (.one (.any)), .v (.one (.any)), .v (.one (.any))],
  [.arr 25 (.ts v6) 0 false]⟩
theorem L_spec_l1Series_0_eq (n c : Nat) (v0 : ByteArray) (v1 : Int) (v2 : Int) (v3 : Int) (v4 : Int) (v5 : Int) (v6 : List T) : L_spec_l1Series_0 n (c + 1) v0 v1 v2 v3 v4 v5 v6 =
 (cond ((decide (v5 < v3)))
 (((FF n 106 [.one (.str v0), .one (.int .i64 v1), .one (.int .i64 v2)] []).bind fun x0 =>
 (rTerm x0.1 fun x1 x2 =>
 (rInt .i64 x2 fun x3 x4 =>
 (nilV x4 (nilO x0.2
 ((cond ((decide (x3 < 0)))
 (some ([.one (.fr (.ts [])), .one (.int .i64 (-1))], []))
 ((cond ((decide (((v0).size : Int) ≤ x3)))
 (some ([.one (.fr (.ts [])), .one (.int .i64 (-1))], []))
 ((cond ((decide ((IntKind.i64.wrap (v5 + 1)) < v3)))
 ((cond (decide (0 ≤ x3) && decide (x3 < (((v0).size : Nat) : Int)))
 ((cond ((!decide (((byteAt v0 (x3 : Int).toNat).toNat : Int) = 44)))
 (some ([.one (.fr (.ts [])), .one (.int .i64 (-1))], []))
 ((cond ((decide ((IntKind.i64.wrap (v5 + 1)) = v3)))
 ((cond (decide (0 ≤ x3) && decide (x3 < (((v0).size : Nat) : Int)))
 ((cond ((!decide (((byteAt v0 (x3 : Int).toNat).toNat : Int) = v4)))
 (some ([.one (.fr (.ts [])), .one (.int .i64 (-1))], []))
 ((cond (roomB (v6 ++ [(T.mk (x1).k (x1).n (x1).kids)]).length)
 (L_spec_l1Series_0 n c (v0 : ByteArray) ((IntKind.i64.wrap (x3 + 1)) : Int) (v2 : Int) (v3 : Int) (v4 : Int) ((IntKind.i64.wrap (v5 + 1)) : Int) ((v6 ++ [(T.mk (x1).k (x1).n (x1).kids)]) : List T))
 (none)))))
 (none)))
 ((cond (roomB (v6 ++ [(T.mk (x1).k (x1).n (x1).kids)]).length)
 (L_spec_l1Series_0 n c (v0 : ByteArray) ((IntKind.i64.wrap (x3 + 1)) : Int) (v2 : Int) (v3 : Int) (v4 : Int) ((IntKind.i64.wrap (v5 + 1)) : Int) ((v6 ++ [(T.mk (x1).k (x1).n (x1).kids)]) : List T))
 (none)))))))
 (none)))
 ((cond ((decide ((IntKind.i64.wrap (v5 + 1)) = v3)))
 ((cond (decide (0 ≤ x3) && decide (x3 < (((v0).size : Nat) : Int)))
 ((cond ((!decide (((byteAt v0 (x3 : Int).toNat).toNat : Int) = v4)))
 (some ([.one (.fr (.ts [])), .one (.int .i64 (-1))], []))
 ((cond (roomB (v6 ++ [(T.mk (x1).k (x1).n (x1).kids)]).length)
 (L_spec_l1Series_0 n c (v0 : ByteArray) ((IntKind.i64.wrap (x3 + 1)) : Int) (v2 : Int) (v3 : Int) (v4 : Int) ((IntKind.i64.wrap (v5 + 1)) : Int) ((v6 ++ [(T.mk (x1).k (x1).n (x1).kids)]) : List T))
 (none)))))
 (none)))
 ((cond (roomB (v6 ++ [(T.mk (x1).k (x1).n (x1).kids)]).length)
 (L_spec_l1Series_0 n c (v0 : ByteArray) ((IntKind.i64.wrap (x3 + 1)) : Int) (v2 : Int) (v3 : Int) (v4 : Int) ((IntKind.i64.wrap (v5 + 1)) : Int) ((v6 ++ [(T.mk (x1).k (x1).n (x1).kids)]) : List T))
 (none)))))))))))))))))
 (some ([.one (.fr (.ts v6)), .one (.int .i64 v1)], []))) := by kernel_rfl
theorem E_spec_l1Series (n : Nat) (v0 : ByteArray) (v1 : Int) (v2 : Int) (v3 : Int) (v4 : Int) : FF (n + 1) 128 [.one (.str v0), .one (.int .i64 v1), .one (.int .i64 v2), .one (.int .i64 v3), .one (.int .u8 v4)] [] =
 L_spec_l1Series_0 n n (v0 : ByteArray) (v1 : Int) (v2 : Int) (v3 : Int) (v4 : Int) (0 : Int) ([] : List T) := by kernel_rfl

/-! loop.example/depkernel/spec.l19Dec -/
noncomputable def L_spec_l19Dec_0 (n c : Nat) (v0 : Int) (v1 : ByteArray) : OR := runLoop Try.prog SS n 129 0 [1, 1, 1, 1, 0, 0] [] c ⟨[.v (.one (.int .i64 v0)), .v (.one (.any)), .v (.one (.any)), .v (.one (.str v1)), .v (.one (.any)), .v (.one (.any)), .v (.one (.any)), .v (.one (.any)), .v (.one (.any)), .v (.one (.any)), .v (.one (.any)), .v (.one (.any)), .v (.one (.any)), .v (.one (.any)), .v (.one (.any)), .v (.one (.any)), .v (.one (.any)), .v (.one (.any)), .v (.one (.any)), .v (.one (.any)), .v (.one (.any)), .v (.one (.any)), .v (.one (.any)), .v (.one (.any)), .v (.one (.any)), .v (.one (.any)), .v (.one (.any)), .v (.one (.any)), .v (.one (.any)), .v (.one (.any)), .v (.one (.any))],
  []⟩
theorem L_spec_l19Dec_0_eq (n c : Nat) (v0 : Int) (v1 : ByteArray) : L_spec_l19Dec_0 n (c + 1) v0 v1 =
 (cond ((decide (9 < v0)))
 ((cond (decide (0 ≤ (IntKind.u8.wrap (IntKind.i64.wrap (48 + (Int.tmod v0 10))))) && decide ((IntKind.u8.wrap (IntKind.i64.wrap (48 + (Int.tmod v0 10)))) ≤ 255))
 ((cond (decide (((ByteArray.mk ([(UInt8.ofNat ((IntKind.u8.wrap (IntKind.i64.wrap (48 + (Int.tmod v0 10))))).toNat)]).toArray)).size + (v1).size ≤ 9223372036854775807))
 (L_spec_l19Dec_0 n c ((IntKind.i64.wrap (Int.tdiv v0 10)) : Int) (((ByteArray.mk ([(UInt8.ofNat ((IntKind.u8.wrap (IntKind.i64.wrap (48 + (Int.tmod v0 10))))).toNat)]).toArray) ++ v1) : ByteArray))
 (none)))
 (none)))
 ((cond (decide (0 ≤ (IntKind.u8.wrap (IntKind.i64.wrap (48 + v0)))) && decide ((IntKind.u8.wrap (IntKind.i64.wrap (48 + v0))) ≤ 255))
 ((cond (decide (((ByteArray.mk ([(UInt8.ofNat ((IntKind.u8.wrap (IntKind.i64.wrap (48 + v0)))).toNat)]).toArray)).size + (v1).size ≤ 9223372036854775807))
 (some ([.one (.str ((ByteArray.mk ([(UInt8.ofNat ((IntKind.u8.wrap (IntKind.i64.wrap (48 + v0)))).toNat)]).toArray) ++ v1))], []))
 (none)))
 (none)))) := by kernel_rfl
theorem E_spec_l19Dec (n : Nat) (v0 : Int) : FF (n + 1) 129 [.one (.int .i64 v0)] [] =
 (cond ((decide (v0 < (-9223372036854775807))))
 (some ([.one (.str (bytesOf [45, 57, 50, 50, 51, 51, 55, 50, 48, 51, 54, 56, 53, 52, 55, 55, 53, 56, 48, 56]))], []))
 ((cond ((decide (v0 < 0)))
 (((FF n 129 [.one (.int .i64 (IntKind.i64.wrap (0 - v0)))] []).bind fun x0 =>
 (rStr x0.1 fun x1 x2 =>
 (nilV x2 (nilO x0.2
 ((cond (decide (((bytesOf [45])).size + (x1).size ≤ 9223372036854775807))
 (some ([.one (.str ((bytesOf [45]) ++ x1))], []))
 (none))))))))
 (L_spec_l19Dec_0 n n (v0 : Int) ((bytesOf []) : ByteArray))))) := by kernel_rfl

/-! loop.example/depkernel/spec.l1List -/
noncomputable def L_spec_l1List_0 (n c : Nat) (v0 : List T) (v1 : ByteArray) (v2 : Int) : OR := runLoop Try.prog SS n 130 0 [1, 1, 0, 1, 0] [] c ⟨[.v (.one (.fr (.ts v0))), .v (.one (.any)), .v (.one (.any)), .v (.one (.str v1)), .v (.one (.int .i64 v2)), .v (.one (.any)), .v (.one (.any)), .v (.one (.any)), .v (.one (.any)), .v (.one (.any)), .v (.one (.any)), .v (.one (.any)), .v (.one (.any)), .v (.one (.any)), .v (.one (.any)), .v (.one (.any)), .v (.one (.any)), .v (.one (.any)), .v (.one (.any)), .v (.one (.any)), .v (.one (.any)), .v (.one (.any)), .v (.one (.any))],
  []⟩
theorem L_spec_l1List_0_eq (n c : Nat) (v0 : List T) (v1 : ByteArray) (v2 : Int) : L_spec_l1List_0 n (c + 1) v0 v1 v2 =
 (cond ((decide (v2 < ((v0).length : Int))))
 ((cond ((decide (0 < v2)))
 ((cond (decide ((v1).size + ((bytesOf [44])).size ≤ 9223372036854775807))
 ((cond (decide (0 ≤ v2))
 (((v0)[(v2 : Int).toNat]?.bind fun x0 =>
 ((FF n 119 [.agg [.int .i64 (x0).k, .int .i64 (x0).n, .fr (.ts (x0).kids)]] []).bind fun x1 =>
 (rStr x1.1 fun x2 x3 =>
 (nilV x3 (nilO x1.2
 ((cond (decide (((v1 ++ (bytesOf [44]))).size + (x2).size ≤ 9223372036854775807))
 (L_spec_l1List_0 n c (v0 : List T) (((v1 ++ (bytesOf [44])) ++ x2) : ByteArray) ((IntKind.i64.wrap (v2 + 1)) : Int))
 (none)))))))))
 (none)))
 (none)))
 ((cond (decide (0 ≤ v2))
 (((v0)[(v2 : Int).toNat]?.bind fun x0 =>
 ((FF n 119 [.agg [.int .i64 (x0).k, .int .i64 (x0).n, .fr (.ts (x0).kids)]] []).bind fun x1 =>
 (rStr x1.1 fun x2 x3 =>
 (nilV x3 (nilO x1.2
 ((cond (decide ((v1).size + (x2).size ≤ 9223372036854775807))
 (L_spec_l1List_0 n c (v0 : List T) ((v1 ++ x2) : ByteArray) ((IntKind.i64.wrap (v2 + 1)) : Int))
 (none)))))))))
 (none)))))
 (some ([.one (.str v1)], []))) := by kernel_rfl
theorem E_spec_l1List (n : Nat) (v0 : List T) : FF (n + 1) 130 [.one (.fr (.ts v0))] [] =
 L_spec_l1List_0 n n (v0 : List T) ((bytesOf []) : ByteArray) (0 : Int) := by kernel_rfl

/-! loop.example/depkernel/spec.l2Shift -/
noncomputable def L_spec_l2Shift_0_foo (n c : Nat) (v0 : Int) (v1 : Int) (v2 : Int) (v3 : Int) (v4 : Int) (v5 : List T) (v6 : Int) (v7 : Int) (v8 : List T) (v9 : Int) (v10 : Int) (v11 : List T) : OR := runLoop Try.prog SS n 131 0 [1, 1, 1, 0, 1, 0] [] c ⟨[.v (.one (.any)), .v (.one (.int .i64 v0)), .v (.one (.int .i64 v1)), .v (.one (.ptr 0 0)), .v (.one (.any)), .v (.one (.any)), .v (.one (.ptr 1 0)), .v (.one (.ptr 3 0)), .v (.one (.int .i64 v2)), .v (.one (.any)), .v (.one (.any)), .v (.one (.any)), .v (.one (.any)), .v (.one (.any)), .v (.one (.any)), .v (.one (.any)), .v (.one (.any)), .v (.one (.any)), .v (.one (.any)), .v (.one (.any)), .v (.one (.any)), .v (.one (.any)), .v (.one (.any)), .v (.one (.any)), .v (.one (.any)), .v (.one (.any)), .v (.one (.any)), .v (.one (.any)), .v (.one (.any)), .v (.one (.any)), .v (.one (.any)), .v (.one (.any)), .v (.one (.any)), .v (.one (.any)), .v (.one (.any)), .v (.one (.any)), .v (.one (.any)), .v (.one (.any)), .v (.one (.any)), .v (.one (.any)), .v (.one (.any)), .v (.one (.any)), .v (.one (.any)), .v (.one (.any)), .v (.one (.any)), .v (.one (.any)), .v (.one (.any)), .v (.one (.any)), .v (.one (.any)), .v (.one (.any)), .v (.one (.any)), .v (.one (.any)), .v (.one (.any)), .v (.one (.any))],
  [.cells [.int .i64 v3, .int .i64 v4, .fr (.ts v5)], .cells [.int .i64 v6, .int .i64 v7, .own 2 0], .arr 25 (.ts v8) 0 false, .cells [.int .i64 v9, .int .i64 v10, .own 4 0], .arr 25 (.ts v11) 0 false]⟩
theorem L_spec_l2Shift_0_foo_eq (n c : Nat) (v0 : Int) (v1 : Int) (v2 : Int) (v3 : Int) (v4 : Int) (v5 : List T) (v6 : Int) (v7 : Int) (v8 : List T) (v9 : Int) (v10 : Int) (v11 : List T) : L_spec_l2Shift_0_foo n (c + 1) v0 v1 v2 v3 v4 v5 v6 v7 v8 v9 v10 v11 =
 (cond ((decide (v2 < ((v5).length : Int))))
 ((cond (decide (0 ≤ v2))
 (((v5)[(v2 : Int).toNat]?.bind fun x0 =>
 ((FF n 132 [.one (.int .i64 v3), .one (.int .i64 v2)] []).bind fun x1 =>
 (rInt .i64 x1.1 fun x2 x3 =>
 (nilV x3 (nilO x1.2
 (((FF n 131 [.agg [.int .i64 (x0).k, .int .i64 (x0).n, .fr (.ts (x0).kids)], .one (.int .i64 v0), .one (.int .i64 (IntKind.i64.wrap (v1 + x2)))] []).bind fun x4 =>
 (rTerm x4.1 fun x5 x6 =>
 (nilV x6 (nilO x4.2
 ((cond (roomB (v11 ++ [(T.mk (x5).k (x5).n (x5).kids)]).length)
 (L_spec_l2Shift_0_foo n c (v0 : Int) (v1 : Int) ((IntKind.i64.wrap (v2 + 1)) : Int) (v3 : Int) (v4 : Int) (v5 : List T) (v6 : Int) (v7 : Int) (v8 : List T) (v9 : Int) (v10 : Int) ((v11 ++ [(T.mk (x5).k (x5).n (x5).kids)]) : List T))
 (none))))))))))))))
 (none)))
 (some ([.agg [.int .i64 v9, .int .i64 v10, .fr (.ts v11)]], []))) := by kernel_rfl
theorem E_spec_l2Shift (n : Nat) (v0 : Int) (v1 : Int) (v2 : List T) (v3 : Int) (v4 : Int) : FF (n + 1) 131 [.agg [.int .i64 v0, .int .i64 v1, .fr (.ts v2)], .one (.int .i64 v3), .one (.int .i64 v4)] [] =
 (cond ((decide (v0 = 1)))
 ((cond ((decide (v4 ≤ v1)))
 (L_spec_l2Shift_0_foo n n (v3 : Int) (v4 : Int) (0 : Int) (v0 : Int) (v1 : Int) (v2 : List T) (0 : Int) (0 : Int) ([] : List T) (v0 : Int) ((IntKind.i64.wrap (v1 + v3)) : Int) ([] : List T))
 (L_spec_l2Shift_0_foo n n (v3 : Int) (v4 : Int) (0 : Int) (v0 : Int) (v1 : Int) (v2 : List T) (0 : Int) (0 : Int) ([] : List T) (v0 : Int) (v1 : Int) ([] : List T))))
 (L_spec_l2Shift_0_foo n n (v3 : Int) (v4 : Int) (0 : Int) (v0 : Int) (v1 : Int) (v2 : List T) (0 : Int) (0 : Int) ([] : List T) (v0 : Int) (v1 : Int) ([] : List T))) := by kernel_rfl

/-! loop.example/depkernel/spec.l2Under -/
theorem E_spec_l2Under (n : Nat) (v0 : Int) (v1 : Int) : FF (n + 1) 132 [.one (.int .i64 v0), .one (.int .i64 v1)] [] =
 ((FF n 134 [.one (.int .i64 v0), .one (.int .i64 v1)] []).bind fun x0 =>
 (rBool x0.1 fun x1 x2 =>
 (nilV x2 (nilO x0.2
 ((cond (x1)
 (some ([.one (.int .i64 1)], []))
 (some ([.one (.int .i64 0)], [])))))))) := by kernel_rfl

/-! loop.example/depkernel/impl.subst$1 -/
theorem E_impl_subst_1 (n : Nat) (v0 : Int) (v1 : Int) (v2 : Int) (v3 : Int) (v4 : Int) (v5 : List T) (v6 : Bool) : FF (n + 1) 123 [.one (.int .i64 v0), .one (.int .i64 v1), .one (.ptr 0 0), .one (.ptr 1 0), .one (.ptr 2 0)] [.cells [.int .i64 v2], .cells [.int .i64 v3, .int .i64 v4, .fr (.ts v5)], .cells [.bool v6]] =
 (cond ((decide ((IntKind.i64.wrap (v0 - v1)) = v2)))
 (((FF n 124 [.agg [.int .i64 v3, .int .i64 v4, .fr (.ts v5)], .one (.int .i64 v1), .one (.int .i64 0)] []).bind fun x0 =>
 (rTerm x0.1 fun x1 x2 =>
 (rBool x2 fun x3 x4 =>
 (nilV x4 (nilO x0.2
 ((cond (v6)
 (some ([.agg [.int .i64 (x1).k, .int .i64 (x1).n, .fr (.ts (x1).kids)]], [.cells [.int .i64 v2], .cells [.int .i64 v3, .int .i64 v4, .fr (.ts v5)], .cells [.bool x3]]))
 (some ([.agg [.int .i64 (x1).k, .int .i64 (x1).n, .fr (.ts (x1).kids)]], [.cells [.int .i64 v2], .cells [.int .i64 v3, .int .i64 v4, .fr (.ts v5)], .cells [.bool false]]))))))))))
 ((cond ((decide (v2 < (IntKind.i64.wrap (v0 - v1)))))
 (((FF n 125 [.one (.int .i64 (IntKind.i64.wrap (v0 - 1)))] []).bind fun x0 =>
 (rTerm x0.1 fun x1 x2 =>
 (nilV x2 (nilO x0.2
 (some ([.agg [.int .i64 (x1).k, .int .i64 (x1).n, .fr (.ts (x1).kids)]], [.cells [.int .i64 v2], .cells [.int .i64 v3, .int .i64 v4, .fr (.ts v5)], .cells [.bool v6]])))))))
 (((FF n 125 [.one (.int .i64 v0)] []).bind fun x0 =>
 (rTerm x0.1 fun x1 x2 =>
 (nilV x2 (nilO x0.2
 (some ([.agg [.int .i64 (x1).k, .int .i64 (x1).n, .fr (.ts (x1).kids)]], [.cells [.int .i64 v2], .cells [.int .i64 v3, .int .i64 v4, .fr (.ts v5)], .cells [.bool v6]])))))))))) := by kernel_rfl

end Go.Proofs.Ytmioieikbpemoaa
