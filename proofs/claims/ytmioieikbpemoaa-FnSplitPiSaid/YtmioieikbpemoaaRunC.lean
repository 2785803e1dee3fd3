/- What the program's functions come to in the abstract run. -/
import Derived.Test.YtmioieikbpemoaaSay
set_option linter.unusedVariables false
namespace Go.Proofs.Ytmioieikbpemoaa
open Go Go.Ab Go.Dk
/-! loop.example/depkernel/spec.ParseTerm -/
theorem E_spec_ParseTerm (n : Nat) (v0 : ByteArray) : FF (n + 1) 84 [.one (.str v0)] [] =
 ((FF n 106 [.one (.str v0), .one (.int .i64 0), .one (.int .i64 30)] []).bind fun x0 =>
 (rTerm x0.1 fun x1 x2 =>
 (rInt .i64 x2 fun x3 x4 =>
 (nilV x4 (nilO x0.2
 ((cond (((v0).toList == ((bytesOf [])).toList))
 (some ([.agg [.int .i64 0, .int .i64 0, .fr (.ts [])], .one (.bool false)], []))
 ((cond ((!decide (x3 = ((v0).size : Int))))
 (some ([.agg [.int .i64 0, .int .i64 0, .fr (.ts [])], .one (.bool false)], []))
 (((FF n 107 [.agg [.int .i64 (x1).k, .int .i64 (x1).n, .fr (.ts (x1).kids)]] []).bind fun x5 =>
 (rStr x5.1 fun x6 x7 =>
 (nilV x7 (nilO x5.2
 ((cond ((!((x6).toList == (v0).toList)))
 (some ([.agg [.int .i64 0, .int .i64 0, .fr (.ts [])], .one (.bool false)], []))
 (some ([.agg [.int .i64 (x1).k, .int .i64 (x1).n, .fr (.ts (x1).kids)], .one (.bool true)], [])))))))))))))))))) := by kernel_rfl

/-! loop.example/depkernel/spec.l1Leaf -/
theorem E_spec_l1Leaf (n : Nat) (v0 : Int) (v1 : Int) : FF (n + 1) 81 [.one (.int .i64 v0), .one (.int .i64 v1)] [] =
 some ([.agg [.int .i64 v0, .int .i64 v1, .fr (.ts [])]], []) := by kernel_rfl

/-! loop.example/depkernel/spec.l1Most -/
theorem E_spec_l1Most (n : Nat) (v0 : Int) : FF (n + 1) 85 [.one (.int .i64 v0)] [] =
 (cond ((decide (v0 = 1)))
 (some ([.one (.int .i64 20)], []))
 ((cond ((decide (v0 = 2)))
 (some ([.one (.int .i64 3)], []))
 (some ([.one (.int .i64 0)], []))))) := by kernel_rfl

/-! loop.example/depkernel/spec.l1Kids -/
theorem E_spec_l1Kids (n : Nat) (v0 : Int) : FF (n + 1) 86 [.one (.int .i64 v0)] [] =
 (cond ((decide (v0 = 1)))
 (some ([.one (.int .i64 0)], []))
 ((cond ((decide (v0 = 2)))
 (some ([.one (.int .i64 0)], []))
 ((cond ((decide (v0 = 6)))
 (some ([.one (.int .i64 0)], []))
 ((cond ((decide (v0 = 7)))
 (some ([.one (.int .i64 0)], []))
 ((cond ((decide (v0 = 8)))
 (some ([.one (.int .i64 1)], []))
 ((cond ((decide (v0 = 11)))
 (some ([.one (.int .i64 1)], []))
 ((cond ((decide (v0 = 15)))
 (some ([.one (.int .i64 1)], []))
 ((cond ((decide (v0 = 16)))
 (some ([.one (.int .i64 1)], []))
 ((cond ((decide (v0 = 3)))
 (some ([.one (.int .i64 2)], []))
 ((cond ((decide (v0 = 4)))
 (some ([.one (.int .i64 2)], []))
 ((cond ((decide (v0 = 5)))
 (some ([.one (.int .i64 2)], []))
 ((cond ((decide (v0 = 13)))
 (some ([.one (.int .i64 2)], []))
 ((cond ((decide (v0 = 10)))
 (some ([.one (.int .i64 3)], []))
 ((cond ((decide (v0 = 12)))
 (some ([.one (.int .i64 3)], []))
 ((cond ((decide (v0 = 14)))
 (some ([.one (.int .i64 3)], []))
 ((cond ((decide (v0 = 9)))
 (some ([.one (.int .i64 4)], []))
 (some ([.one (.int .i64 (-1))], []))))))))))))))))))))))))))))))))) := by kernel_rfl

/-! slices.ContainsFunc[[]loop.example/depkernel/impl.Term,loop.example/depkernel/impl.Term] -/
theorem E_slices_ContainsFunc_impl_areTerms_1 (n : Nat) (v0 : List T) : FF (n + 1) 87 [.one (.fr (.ts v0)), .one (.fn 88 [])] [] =
 ((FF n 108 [.one (.fr (.ts v0)), .one (.fn 88 [])] []).bind fun x0 =>
 (rInt .i64 x0.1 fun x1 x2 =>
 (nilV x2 (nilO x0.2
 (some ([.one (.bool (decide (0 ≤ x1)))], [])))))) := by kernel_rfl

/-! loop.example/depkernel/spec.l1Shape -/
noncomputable def L_spec_l1Shape_0 (n c : Nat) (v0 : Int) (v1 : Int) (v2 : Int) (v3 : Int) (v4 : List T) : OR := runLoop Try.prog SS n 89 0 [1, 1, 0, 1, 0] [] c ⟨[.v (.one (.any)), .v (.one (.int .i64 v0)), .v (.one (.ptr 0 0)), .v (.one (.any)), .v (.one (.any)), .v (.one (.int .i64 v1)), .v (.one (.any)), .v (.one (.any)), .v (.one (.any)), .v (.one (.any)), .v (.one (.any)), .v (.one (.any)), .v (.one (.any)), .v (.one (.any)), .v (.one (.any)), .v (.one (.any)), .v (.one (.any)), .v (.one (.any)), .v (.one (.any)), .v (.one (.any)), .v (.one (.any)), .v (.one (.any)), .v (.one (.any)), .v (.one (.any)), .v (.one (.any)), .v (.one (.any)), .v (.one (.any)), .v (.one (.any)), .v (.one (.any)), .v (.one (.any)), .v (.one (.any)), .v (.one (.any)), .v (.one (.any)), .v (.one (.any)), .v (.one (.any)), .v (.one (.any)), .v (.one (.any)), .v (.one (.any)), .v (.one (.any)), .v (.one (.any)), .v (.one (.any)), .v (.one (.any)), .v (.one (.any)), .v (.one (.any)), .v (.one (.any)), .v (.one (.any))],
  [.cells [.int .i64 v2, .int .i64 v3, .fr (.ts v4)]]⟩
theorem L_spec_l1Shape_0_eq (n c : Nat) (v0 : Int) (v1 : Int) (v2 : Int) (v3 : Int) (v4 : List T) : L_spec_l1Shape_0 n (c + 1) v0 v1 v2 v3 v4 =
 (cond ((decide (v1 < ((v4).length : Int))))
 ((cond (decide (0 ≤ v1))
 (((v4)[(v1 : Int).toNat]?.bind fun x0 =>
 ((FF n 89 [.agg [.int .i64 (x0).k, .int .i64 (x0).n, .fr (.ts (x0).kids)], .one (.int .i64 (IntKind.i64.wrap (v0 - 1)))] []).bind fun x1 =>
 (rBool x1.1 fun x2 x3 =>
 (nilV x3 (nilO x1.2
 ((cond ((!x2))
 (some ([.one (.bool false)], []))
 (L_spec_l1Shape_0 n c (v0 : Int) ((IntKind.i64.wrap (v1 + 1)) : Int) (v2 : Int) (v3 : Int) (v4 : List T))))))))))
 (none)))
 (some ([.one (.bool true)], []))) := by kernel_rfl
theorem E_spec_l1Shape (n : Nat) (v0 : Int) (v1 : Int) (v2 : List T) (v3 : Int) : FF (n + 1) 89 [.agg [.int .i64 v0, .int .i64 v1, .fr (.ts v2)], .one (.int .i64 v3)] [] =
 (cond ((decide (v3 < 1)))
 (some ([.one (.bool false)], []))
 (((FF n 86 [.one (.int .i64 v0)] []).bind fun x0 =>
 (rInt .i64 x0.1 fun x1 x2 =>
 (nilV x2 (nilO x0.2
 ((cond ((!decide (x1 = ((v2).length : Int))))
 (some ([.one (.bool false)], []))
 ((cond ((decide (v1 < 0)))
 (some ([.one (.bool false)], []))
 (((FF n 85 [.one (.int .i64 v0)] []).bind fun x3 =>
 (rInt .i64 x3.1 fun x4 x5 =>
 (nilV x5 (nilO x3.2
 ((cond ((decide (x4 < v1)))
 (some ([.one (.bool false)], []))
 (L_spec_l1Shape_0 n n (v3 : Int) (0 : Int) (v0 : Int) (v1 : Int) (v2 : List T))))))))))))))))))) := by kernel_rfl

/-! loop.example/depkernel/spec.l1Count -/
noncomputable def L_spec_l1Count_0 (n c : Nat) (v0 : Int) (v1 : Int) (v2 : Int) (v3 : Int) (v4 : Int) (v5 : List T) : OR := runLoop Try.prog SS n 90 0 [1, 1, 0, 1, 0] [] c ⟨[.v (.one (.any)), .v (.one (.int .i64 v0)), .v (.one (.ptr 0 0)), .v (.one (.any)), .v (.one (.any)), .v (.one (.int .i64 v1)), .v (.one (.int .i64 v2)), .v (.one (.any)), .v (.one (.any)), .v (.one (.any)), .v (.one (.any)), .v (.one (.any)), .v (.one (.any)), .v (.one (.any)), .v (.one (.any)), .v (.one (.any)), .v (.one (.any)), .v (.one (.any)), .v (.one (.any)), .v (.one (.any)), .v (.one (.any)), .v (.one (.any)), .v (.one (.any)), .v (.one (.any)), .v (.one (.any)), .v (.one (.any)), .v (.one (.any)), .v (.one (.any)), .v (.one (.any)), .v (.one (.any)), .v (.one (.any))],
  [.cells [.int .i64 v3, .int .i64 v4, .fr (.ts v5)]]⟩
theorem L_spec_l1Count_0_eq (n c : Nat) (v0 : Int) (v1 : Int) (v2 : Int) (v3 : Int) (v4 : Int) (v5 : List T) : L_spec_l1Count_0 n (c + 1) v0 v1 v2 v3 v4 v5 =
 (cond ((decide (v2 < ((v5).length : Int))))
 ((cond ((decide (v1 ≤ v0)))
 ((cond (decide (0 ≤ v2))
 (((v5)[(v2 : Int).toNat]?.bind fun x0 =>
 ((FF n 90 [.agg [.int .i64 (x0).k, .int .i64 (x0).n, .fr (.ts (x0).kids)], .one (.int .i64 (IntKind.i64.wrap (v0 - v1)))] []).bind fun x1 =>
 (rInt .i64 x1.1 fun x2 x3 =>
 (nilV x3 (nilO x1.2
 (L_spec_l1Count_0 n c (v0 : Int) ((IntKind.i64.wrap (v1 + x2)) : Int) ((IntKind.i64.wrap (v2 + 1)) : Int) (v3 : Int) (v4 : Int) (v5 : List T))))))))
 (none)))
 (some ([.one (.int .i64 v1)], []))))
 (some ([.one (.int .i64 v1)], []))) := by kernel_rfl
theorem E_spec_l1Count (n : Nat) (v0 : Int) (v1 : Int) (v2 : List T) (v3 : Int) : FF (n + 1) 90 [.agg [.int .i64 v0, .int .i64 v1, .fr (.ts v2)], .one (.int .i64 v3)] [] =
 L_spec_l1Count_0 n n (v3 : Int) (1 : Int) (0 : Int) (v0 : Int) (v1 : Int) (v2 : List T) := by kernel_rfl

/-! loop.example/depkernel/spec.l5Pairs -/
theorem E_spec_l5Pairs (n : Nat) (v0 : Int) : FF (n + 1) 92 [.one (.int .i64 v0)] [] =
 (cond ((decide (v0 = 0)))
 (some ([.one (.fr (.ss [])), .one (.fr (.ss [(bytesOf [91, 42, 48, 93, 91, 35, 48, 93, 35, 48]), (bytesOf [91, 78, 93, 33, 35, 48]), (bytesOf [91, 78, 93, 91, 78, 93, 60, 91, 78, 93, 78, 44, 35, 49, 44, 91, 78, 93, 91, 78, 93, 43, 35, 48, 44, 35, 48, 62]), (bytesOf [40, 78, 62, 42, 48, 41]), (bytesOf [40, 91, 42, 48, 93, 91, 35, 48, 93, 35, 48, 32, 78, 41]), (bytesOf [91, 40, 78, 42, 78, 41, 93, 124, 40, 78, 42, 78, 41, 44, 95, 35, 48, 44, 94, 35, 48, 124]), (bytesOf [91, 78, 93, 124, 40, 78, 42, 123, 78, 44, 35, 48, 44, 35, 49, 125, 41, 44, 35, 48, 44, 33, 35, 48, 124]), (bytesOf [91, 78, 93, 91, 78, 93, 91, 123, 78, 44, 35, 49, 44, 35, 48, 125, 93, 64, 60, 91, 78, 93, 123, 78, 44, 35, 48, 44, 35, 51, 125, 44, 35, 48, 44, 33, 35, 50, 62]), (bytesOf [60, 91, 78, 93, 42, 48, 44, 78, 44, 91, 78, 93, 91, 42, 48, 93, 40, 78, 62, 35, 49, 41, 44, 43, 43, 48, 62]), (bytesOf [40, 42, 48, 62, 40, 35, 48, 62, 35, 49, 41, 41]), (bytesOf [91, 42, 48, 93, 91, 40, 35, 48, 62, 35, 49, 41, 93, 35, 48]), (bytesOf [42, 50])]))], []))
 ((cond ((decide (v0 = 1)))
 (some ([.one (.fr (.ss [(bytesOf [42, 48]), (bytesOf [35, 48]), (bytesOf [40, 35, 49, 62, 35, 50, 41])])), .one (.fr (.ss [(bytesOf [40, 35, 48, 32, 35, 49, 41]), (bytesOf [33, 35, 49]), (bytesOf [123, 35, 50, 44, 35, 49, 44, 40, 35, 48, 32, 35, 49, 41, 125]), (bytesOf [91, 35, 50, 93, 35, 49]), (bytesOf [124, 40, 35, 50, 42, 35, 51, 41, 44, 35, 49, 44, 40, 35, 48, 32, 35, 49, 41, 124]), (bytesOf [91, 123, 35, 50, 44, 35, 49, 44, 40, 35, 48, 32, 35, 49, 41, 125, 93, 64, 60, 91, 35, 51, 93, 35, 52, 44, 35, 48, 44, 35, 50, 62])]))], []))
 ((cond ((decide (v0 = 2)))
 (some ([.one (.fr (.ss [(bytesOf [78]), (bytesOf [123, 78, 44, 35, 48, 44, 43, 48, 125])])), .one (.fr (.ss [(bytesOf [35, 48]), (bytesOf [64, 60, 91, 78, 93, 123, 78, 44, 43, 35, 50, 44, 43, 35, 48, 125, 44, 35, 48, 44, 33, 43, 35, 49, 62]), (bytesOf [43, 35, 49]), (bytesOf [64, 60, 91, 78, 93, 78, 44, 35, 48, 44, 35, 49, 62]), (bytesOf [60, 91, 78, 93, 78, 44, 48, 44, 91, 78, 93, 91, 78, 93, 35, 49, 44, 35, 49, 62])]))], []))
 (some ([.one (.fr (.ss [(bytesOf [40, 78, 62, 42, 48, 41]), (bytesOf [40, 78, 62, 40, 35, 49, 32, 35, 48, 41, 41])])), .one (.fr (.ss [(bytesOf [40, 35, 48, 32, 48, 41]), (bytesOf [91, 78, 93, 40, 35, 49, 32, 35, 48, 41]), (bytesOf [40, 35, 49, 32, 43, 43, 48, 41]), (bytesOf [91, 78, 93, 91, 123, 78, 44, 35, 48, 44, 48, 125, 93, 64, 60, 35, 51, 44, 35, 48, 44, 40, 35, 50, 32, 35, 49, 41, 62])]))], []))))))) := by kernel_rfl

/-! loop.example/depkernel/spec.l5Read -/
noncomputable def L_spec_l5Read_0 (n c : Nat) (v0 : List ByteArray) (v1 : Int) (v2 : List T) : OR := runLoop Try.prog SS n 93 0 [1, 1, 0, 1, 0] [] c ⟨[.v (.one (.fr (.ss v0))), .v (.one (.any)), .v (.one (.any)), .v (.one (.own 0 0)), .v (.one (.int .i64 v1)), .v (.one (.any)), .v (.one (.any)), .v (.one (.any)), .v (.one (.any)), .v (.one (.any)), .v (.one (.any)), .v (.one (.any)), .v (.one (.any)), .v (.one (.any)), .v (.one (.any)), .v (.one (.any)), .v (.one (.any)), .v (.one (.any)), .v (.one (.any)), .v (.one (.any)), .v (.one (.any)), .v (.one (.any)), .v (.one (.any)), .v (.one (.any)), .v (.one (.any)), .v (.one (.any)), .v (.one (.any)), .v (.one (.any))],
  [.arr 25 (.ts v2) 0 false]⟩
theorem L_spec_l5Read_0_eq (n c : Nat) (v0 : List ByteArray) (v1 : Int) (v2 : List T) : L_spec_l5Read_0 n (c + 1) v0 v1 v2 =
 (cond ((decide (v1 < ((v0).length : Int))))
 ((cond (decide (0 ≤ v1))
 (((v0)[(v1 : Int).toNat]?.bind fun x0 =>
 ((FF n 84 [.one (.str x0)] []).bind fun x1 =>
 (rTerm x1.1 fun x2 x3 =>
 (rBool x3 fun x4 x5 =>
 (nilV x5 (nilO x1.2
 ((cond (x4)
 ((cond (roomB (v2 ++ [(T.mk (x2).k (x2).n (x2).kids)]).length)
 (L_spec_l5Read_0 n c (v0 : List ByteArray) ((IntKind.i64.wrap (v1 + 1)) : Int) ((v2 ++ [(T.mk (x2).k (x2).n (x2).kids)]) : List T))
 (none)))
 (L_spec_l5Read_0 n c (v0 : List ByteArray) ((IntKind.i64.wrap (v1 + 1)) : Int) (v2 : List T)))))))))))
 (none)))
 (some ([.one (.fr (.ts v2))], []))) := by kernel_rfl
theorem E_spec_l5Read (n : Nat) (v0 : List ByteArray) : FF (n + 1) 93 [.one (.fr (.ss v0))] [] =
 L_spec_l5Read_0 n n (v0 : List ByteArray) (0 : Int) ([] : List T) := by kernel_rfl

/-! loop.example/depkernel/spec.l5Nat -/
theorem E_spec_l5Nat (n : Nat) (v0 : Int) (v1 : Int) (v2 : List UInt8) (v3 : Int) : FF (n + 1) 91 [.one (.ptr 0 0), .one (.int .i64 v0), .one (.int .i64 v1)] [.cells [.fr (.bs v2), .int .i64 v3]] =
 ((FF n 81 [.one (.int .i64 7), .one (.int .i64 0)] []).bind fun x0 =>
 (rTerm x0.1 fun x1 x2 =>
 (nilV x2 (nilO x0.2
 (((FF n 81 [.one (.int .i64 6), .one (.int .i64 0)] []).bind fun x3 =>
 (rTerm x3.1 fun x4 x5 =>
 (nilV x5 (nilO x3.2
 ((cond ((decide (v1 < 1)))
 ((cond ((decide (0 < v0)))
 (((FF n 61 [.one (.ptr 0 0), .one (.int .i64 2)] [.cells [.fr (.bs v2), .int .i64 v3]]).bind fun x6 =>
 (objC x6.2 fun x7 x8 =>
 (bsC x7 fun x9 x10 =>
 (intC .i64 x10 fun x11 x12 =>
 (nilC x12
 ((rInt .i64 x6.1 fun x13 x14 =>
 (nilV x14 (nilO x8
 ((cond ((decide (x13 = 0)))
 (((FF n 61 [.one (.ptr 0 0), .one (.int .i64 v0)] [.cells [.fr (.bs x9), .int .i64 x11]]).bind fun x15 =>
 (objC x15.2 fun x16 x17 =>
 (bsC x16 fun x18 x19 =>
 (intC .i64 x19 fun x20 x21 =>
 (nilC x21
 ((rInt .i64 x15.1 fun x22 x23 =>
 (nilV x23 (nilO x17
 (((FF n 81 [.one (.int .i64 1), .one (.int .i64 x22)] []).bind fun x24 =>
 (rTerm x24.1 fun x25 x26 =>
 (nilV x26 (nilO x24.2
 (some ([.agg [.int .i64 (x25).k, .int .i64 (x25).n, .fr (.ts (x25).kids)]], [.cells [.fr (.bs x18), .int .i64 x20]])))))))))))))))))
 (some ([.agg [.int .i64 (x1).k, .int .i64 (x1).n, .fr (.ts (x1).kids)]], [.cells [.fr (.bs x9), .int .i64 x11]]))))))))))))))
 (some ([.agg [.int .i64 (x1).k, .int .i64 (x1).n, .fr (.ts (x1).kids)]], [.cells [.fr (.bs v2), .int .i64 v3]]))))
 (((FF n 61 [.one (.ptr 0 0), .one (.int .i64 7)] [.cells [.fr (.bs v2), .int .i64 v3]]).bind fun x6 =>
 (objC x6.2 fun x7 x8 =>
 (bsC x7 fun x9 x10 =>
 (intC .i64 x10 fun x11 x12 =>
 (nilC x12
 ((rInt .i64 x6.1 fun x13 x14 =>
 (nilV x14 (nilO x8
 ((cond ((decide (x13 = 0)))
 (((FF n 91 [.one (.ptr 0 0), .one (.int .i64 (IntKind.i64.wrap (v0 + 1))), .one (.int .i64 (IntKind.i64.wrap (v1 - 1)))] [.cells [.fr (.bs x9), .int .i64 x11]]).bind fun x15 =>
 (objC x15.2 fun x16 x17 =>
 (bsC x16 fun x18 x19 =>
 (intC .i64 x19 fun x20 x21 =>
 (nilC x21
 ((rTerm x15.1 fun x22 x23 =>
 (nilV x23 (nilO x17
 (((FF n 55 [.one (.int .i64 4), .one (.fr (.ts [(T.mk (x4).k (x4).n (x4).kids), (T.mk (x22).k (x22).n (x22).kids)]))] []).bind fun x24 =>
 (rTerm x24.1 fun x25 x26 =>
 (nilV x26 (nilO x24.2
 (((FF n 91 [.one (.ptr 0 0), .one (.int .i64 v0), .one (.int .i64 (IntKind.i64.wrap (v1 - 1)))] [.cells [.fr (.bs x18), .int .i64 x20]]).bind fun x27 =>
 (objC x27.2 fun x28 x29 =>
 (bsC x28 fun x30 x31 =>
 (intC .i64 x31 fun x32 x33 =>
 (nilC x33
 ((rTerm x27.1 fun x34 x35 =>
 (nilV x35 (nilO x29
 (((FF n 55 [.one (.int .i64 5), .one (.fr (.ts [(T.mk (x25).k (x25).n (x25).kids), (T.mk (x34).k (x34).n (x34).kids)]))] []).bind fun x36 =>
 (rTerm x36.1 fun x37 x38 =>
 (nilV x38 (nilO x36.2
 (some ([.agg [.int .i64 (x37).k, .int .i64 (x37).n, .fr (.ts (x37).kids)]], [.cells [.fr (.bs x30), .int .i64 x32]]))))))))))))))))))))))))))))))))
 ((cond ((decide (x13 = 1)))
 (((FF n 91 [.one (.ptr 0 0), .one (.int .i64 (IntKind.i64.wrap (v0 + 2))), .one (.int .i64 (IntKind.i64.wrap (v1 - 2)))] [.cells [.fr (.bs x9), .int .i64 x11]]).bind fun x15 =>
 (objC x15.2 fun x16 x17 =>
 (bsC x16 fun x18 x19 =>
 (intC .i64 x19 fun x20 x21 =>
 (nilC x21
 ((rTerm x15.1 fun x22 x23 =>
 (nilV x23 (nilO x17
 (((FF n 55 [.one (.int .i64 4), .one (.fr (.ts [(T.mk (x4).k (x4).n (x4).kids), (T.mk (x22).k (x22).n (x22).kids)]))] []).bind fun x24 =>
 (rTerm x24.1 fun x25 x26 =>
 (nilV x26 (nilO x24.2
 (((FF n 55 [.one (.int .i64 4), .one (.fr (.ts [(T.mk (x4).k (x4).n (x4).kids), (T.mk (x25).k (x25).n (x25).kids)]))] []).bind fun x27 =>
 (rTerm x27.1 fun x28 x29 =>
 (nilV x29 (nilO x27.2
 (((FF n 55 [.one (.int .i64 4), .one (.fr (.ts [(T.mk (x4).k (x4).n (x4).kids), (T.mk (x4).k (x4).n (x4).kids)]))] []).bind fun x30 =>
 (rTerm x30.1 fun x31 x32 =>
 (nilV x32 (nilO x30.2
 (((FF n 91 [.one (.ptr 0 0), .one (.int .i64 v0), .one (.int .i64 (IntKind.i64.wrap (v1 - 2)))] [.cells [.fr (.bs x18), .int .i64 x20]]).bind fun x33 =>
 (objC x33.2 fun x34 x35 =>
 (bsC x34 fun x36 x37 =>
 (intC .i64 x37 fun x38 x39 =>
 (nilC x39
 ((rTerm x33.1 fun x40 x41 =>
 (nilV x41 (nilO x35
 (((FF n 91 [.one (.ptr 0 0), .one (.int .i64 v0), .one (.int .i64 (IntKind.i64.wrap (v1 - 1)))] [.cells [.fr (.bs x36), .int .i64 x38]]).bind fun x42 =>
 (objC x42.2 fun x43 x44 =>
 (bsC x43 fun x45 x46 =>
 (intC .i64 x46 fun x47 x48 =>
 (nilC x48
 ((rTerm x42.1 fun x49 x50 =>
 (nilV x50 (nilO x44
 (((FF n 55 [.one (.int .i64 9), .one (.fr (.ts [(T.mk (x31).k (x31).n (x31).kids), (T.mk (x40).k (x40).n (x40).kids), (T.mk (x28).k (x28).n (x28).kids), (T.mk (x49).k (x49).n (x49).kids)]))] []).bind fun x51 =>
 (rTerm x51.1 fun x52 x53 =>
 (nilV x53 (nilO x51.2
 (some ([.agg [.int .i64 (x52).k, .int .i64 (x52).n, .fr (.ts (x52).kids)]], [.cells [.fr (.bs x45), .int .i64 x47]]))))))))))))))))))))))))))))))))))))))))))))))))))))
 ((cond ((decide (x13 = 2)))
 (((FF n 55 [.one (.int .i64 13), .one (.fr (.ts [(T.mk (x4).k (x4).n (x4).kids), (T.mk (x4).k (x4).n (x4).kids)]))] []).bind fun x15 =>
 (rTerm x15.1 fun x16 x17 =>
 (nilV x17 (nilO x15.2
 (((FF n 91 [.one (.ptr 0 0), .one (.int .i64 v0), .one (.int .i64 (IntKind.i64.wrap (v1 - 1)))] [.cells [.fr (.bs x9), .int .i64 x11]]).bind fun x18 =>
 (objC x18.2 fun x19 x20 =>
 (bsC x19 fun x21 x22 =>
 (intC .i64 x22 fun x23 x24 =>
 (nilC x24
 ((rTerm x18.1 fun x25 x26 =>
 (nilV x26 (nilO x20
 (((FF n 91 [.one (.ptr 0 0), .one (.int .i64 v0), .one (.int .i64 (IntKind.i64.wrap (v1 - 2)))] [.cells [.fr (.bs x21), .int .i64 x23]]).bind fun x27 =>
 (objC x27.2 fun x28 x29 =>
 (bsC x28 fun x30 x31 =>
 (intC .i64 x31 fun x32 x33 =>
 (nilC x33
 ((rTerm x27.1 fun x34 x35 =>
 (nilV x35 (nilO x29
 (((FF n 55 [.one (.int .i64 14), .one (.fr (.ts [(T.mk (x16).k (x16).n (x16).kids), (T.mk (x25).k (x25).n (x25).kids), (T.mk (x34).k (x34).n (x34).kids)]))] []).bind fun x36 =>
 (rTerm x36.1 fun x37 x38 =>
 (nilV x38 (nilO x36.2
 (((FF n 46 [.one (.ptr 0 0), .one (.fr (.is [15, 16]))] [.cells [.fr (.bs x30), .int .i64 x32]]).bind fun x39 =>
 (objC x39.2 fun x40 x41 =>
 (bsC x40 fun x42 x43 =>
 (intC .i64 x43 fun x44 x45 =>
 (nilC x45
 ((rInt .i64 x39.1 fun x46 x47 =>
 (nilV x47 (nilO x41
 (((FF n 55 [.one (.int .i64 x46), .one (.fr (.ts [(T.mk (x37).k (x37).n (x37).kids)]))] []).bind fun x48 =>
 (rTerm x48.1 fun x49 x50 =>
 (nilV x50 (nilO x48.2
 (some ([.agg [.int .i64 (x49).k, .int .i64 (x49).n, .fr (.ts (x49).kids)]], [.cells [.fr (.bs x42), .int .i64 x44]])))))))))))))))))))))))))))))))))))))))))))))))
 ((cond ((decide (x13 = 3)))
 (((FF n 55 [.one (.int .i64 4), .one (.fr (.ts [(T.mk (x4).k (x4).n (x4).kids), (T.mk (x4).k (x4).n (x4).kids)]))] []).bind fun x15 =>
 (rTerm x15.1 fun x16 x17 =>
 (nilV x17 (nilO x15.2
 (((FF n 91 [.one (.ptr 0 0), .one (.int .i64 v0), .one (.int .i64 (IntKind.i64.wrap (v1 - 2)))] [.cells [.fr (.bs x9), .int .i64 x11]]).bind fun x18 =>
 (objC x18.2 fun x19 x20 =>
 (bsC x19 fun x21 x22 =>
 (intC .i64 x22 fun x23 x24 =>
 (nilC x24
 ((rTerm x18.1 fun x25 x26 =>
 (nilV x26 (nilO x20
 (((FF n 55 [.one (.int .i64 11), .one (.fr (.ts [(T.mk (x25).k (x25).n (x25).kids)]))] []).bind fun x27 =>
 (rTerm x27.1 fun x28 x29 =>
 (nilV x29 (nilO x27.2
 (((FF n 91 [.one (.ptr 0 0), .one (.int .i64 v0), .one (.int .i64 (IntKind.i64.wrap (v1 - 1)))] [.cells [.fr (.bs x21), .int .i64 x23]]).bind fun x30 =>
 (objC x30.2 fun x31 x32 =>
 (bsC x31 fun x33 x34 =>
 (intC .i64 x34 fun x35 x36 =>
 (nilC x36
 ((rTerm x30.1 fun x37 x38 =>
 (nilV x38 (nilO x32
 (((FF n 55 [.one (.int .i64 12), .one (.fr (.ts [(T.mk (x16).k (x16).n (x16).kids), (T.mk (x28).k (x28).n (x28).kids), (T.mk (x37).k (x37).n (x37).kids)]))] []).bind fun x39 =>
 (rTerm x39.1 fun x40 x41 =>
 (nilV x41 (nilO x39.2
 (some ([.agg [.int .i64 (x40).k, .int .i64 (x40).n, .fr (.ts (x40).kids)]], [.cells [.fr (.bs x33), .int .i64 x35]])))))))))))))))))))))))))))))))))))))
 ((cond ((decide (x13 = 4)))
 (((FF n 91 [.one (.ptr 0 0), .one (.int .i64 v0), .one (.int .i64 0)] [.cells [.fr (.bs x9), .int .i64 x11]]).bind fun x15 =>
 (objC x15.2 fun x16 x17 =>
 (bsC x16 fun x18 x19 =>
 (intC .i64 x19 fun x20 x21 =>
 (nilC x21
 ((rTerm x15.1 fun x22 x23 =>
 (nilV x23 (nilO x17
 (some ([.agg [.int .i64 (x22).k, .int .i64 (x22).n, .fr (.ts (x22).kids)]], [.cells [.fr (.bs x18), .int .i64 x20]]))))))))))))
 (((FF n 91 [.one (.ptr 0 0), .one (.int .i64 v0), .one (.int .i64 (IntKind.i64.wrap (v1 - 1)))] [.cells [.fr (.bs x9), .int .i64 x11]]).bind fun x15 =>
 (objC x15.2 fun x16 x17 =>
 (bsC x16 fun x18 x19 =>
 (intC .i64 x19 fun x20 x21 =>
 (nilC x21
 ((rTerm x15.1 fun x22 x23 =>
 (nilV x23 (nilO x17
 (((FF n 55 [.one (.int .i64 8), .one (.fr (.ts [(T.mk (x22).k (x22).n (x22).kids)]))] []).bind fun x24 =>
 (rTerm x24.1 fun x25 x26 =>
 (nilV x26 (nilO x24.2
 (some ([.agg [.int .i64 (x25).k, .int .i64 (x25).n, .fr (.ts (x25).kids)]], [.cells [.fr (.bs x18), .int .i64 x20]])))))))))))))))))))))))))))))))))))))))))))))))) := by kernel_rfl

/-! loop.example/depkernel/spec.l7Over -/
noncomputable def L_spec_l7Over_0_oo (n c : Nat) (v0 : Int) (v1 : List T) (v2 : Int) (v3 : Int) (v4 : Int) (v5 : List T) (v6 : Int) (v7 : Int) (v8 : List T) : OR := runLoop Try.prog SS n 94 0 [1, 1, 0, 1, 0] [] c ⟨[.v (.one (.int .i64 v0)), .v (.one (.fr (.ts v1))), .v (.one (.any)), .v (.one (.any)), .v (.one (.any)), .v (.one (.any)), .v (.one (.ptr 0 0)), .v (.one (.ptr 2 0)), .v (.one (.int .i64 v2)), .v (.one (.any)), .v (.one (.any)), .v (.one (.any)), .v (.one (.any)), .v (.one (.any)), .v (.one (.any)), .v (.one (.any)), .v (.one (.any)), .v (.one (.any)), .v (.one (.any)), .v (.one (.any)), .v (.one (.any)), .v (.one (.any)), .v (.one (.any)), .v (.one (.any)), .v (.one (.any)), .v (.one (.any)), .v (.one (.any)), .v (.one (.any))],
  [.cells [.int .i64 v3, .int .i64 v4, .own 1 0], .arr 25 (.ts v5) 0 false, .cells [.int .i64 v6, .int .i64 v7, .own 3 0], .arr 25 (.ts v8) 0 false]⟩
noncomputable def L_spec_l7Over_0_of (n c : Nat) (v0 : Int) (v1 : List T) (v2 : Int) (v3 : Int) (v4 : Int) (v5 : List T) (v6 : Int) (v7 : Int) (v8 : List T) : OR := runLoop Try.prog SS n 94 0 [1, 1, 0, 1, 0] [] c ⟨[.v (.one (.int .i64 v0)), .v (.one (.fr (.ts v1))), .v (.one (.any)), .v (.one (.any)), .v (.one (.any)), .v (.one (.any)), .v (.one (.ptr 0 0)), .v (.one (.ptr 2 0)), .v (.one (.int .i64 v2)), .v (.one (.any)), .v (.one (.any)), .v (.one (.any)), .v (.one (.any)), .v (.one (.any)), .v (.one (.any)), .v (.one (.any)), .v (.one (.any)), .v (.one (.any)), .v (.one (.any)), .v (.one (.any)), .v (.one (.any)), .v (.one (.any)), .v (.one (.any)), .v (.one (.any)), .v (.one (.any)), .v (.one (.any)), .v (.one (.any)), .v (.one (.any))],
  [.cells [.int .i64 v3, .int .i64 v4, .own 1 0], .arr 25 (.ts v5) 0 false, .cells [.int .i64 v6, .int .i64 v7, .fr (.ts v8)]]⟩
theorem L_spec_l7Over_0_oo_eq (n c : Nat) (v0 : Int) (v1 : List T) (v2 : Int) (v3 : Int) (v4 : Int) (v5 : List T) (v6 : Int) (v7 : Int) (v8 : List T) : L_spec_l7Over_0_oo n (c + 1) v0 v1 v2 v3 v4 v5 v6 v7 v8 =
 (cond ((decide (0 ≤ v2)))
 ((cond (decide (0 ≤ v2))
 (((v1)[(v2 : Int).toNat]?.bind fun x0 =>
 ((FF n 54 [.agg [.int .i64 (x0).k, .int .i64 (x0).n, .fr (.ts (x0).kids)]] []).bind fun x1 =>
 (rOwnT 0 x1.1 fun x2 x3 x4 =>
 (arrTsC 25 x1.2 fun x5 x6 =>
 (nilV x4 (nilO x6
 (((FF n 55 [.one (.int .i64 v0), .one (.fr (.ts [(T.mk x2 x3 x5), (T.mk v6 v7 v8)]))] []).bind fun x7 =>
 (rTerm x7.1 fun x8 x9 =>
 (nilV x9 (nilO x7.2
 (L_spec_l7Over_0_of n c (v0 : Int) (v1 : List T) ((IntKind.i64.wrap (v2 - 1)) : Int) (v3 : Int) (v4 : Int) (v5 : List T) ((x8).k : Int) ((x8).n : Int) ((x8).kids : List T))))))))))))))
 (none)))
 (some ([.agg [.int .i64 v6, .int .i64 v7, .fr (.ts v8)]], []))) := by kernel_rfl
theorem L_spec_l7Over_0_of_eq (n c : Nat) (v0 : Int) (v1 : List T) (v2 : Int) (v3 : Int) (v4 : Int) (v5 : List T) (v6 : Int) (v7 : Int) (v8 : List T) : L_spec_l7Over_0_of n (c + 1) v0 v1 v2 v3 v4 v5 v6 v7 v8 =
 (cond ((decide (0 ≤ v2)))
 ((cond (decide (0 ≤ v2))
 (((v1)[(v2 : Int).toNat]?.bind fun x0 =>
 ((FF n 54 [.agg [.int .i64 (x0).k, .int .i64 (x0).n, .fr (.ts (x0).kids)]] []).bind fun x1 =>
 (rOwnT 0 x1.1 fun x2 x3 x4 =>
 (arrTsC 25 x1.2 fun x5 x6 =>
 (nilV x4 (nilO x6
 (((FF n 55 [.one (.int .i64 v0), .one (.fr (.ts [(T.mk x2 x3 x5), (T.mk v6 v7 v8)]))] []).bind fun x7 =>
 (rTerm x7.1 fun x8 x9 =>
 (nilV x9 (nilO x7.2
 (L_spec_l7Over_0_of n c (v0 : Int) (v1 : List T) ((IntKind.i64.wrap (v2 - 1)) : Int) (v3 : Int) (v4 : Int) (v5 : List T) ((x8).k : Int) ((x8).n : Int) ((x8).kids : List T))))))))))))))
 (none)))
 (some ([.agg [.int .i64 v6, .int .i64 v7, .fr (.ts v8)]], []))) := by kernel_rfl
theorem E_spec_l7Over (n : Nat) (v0 : Int) (v1 : List T) (v2 : Int) (v3 : Int) (v4 : List T) : FF (n + 1) 94 [.one (.int .i64 v0), .one (.fr (.ts v1)), .agg [.int .i64 v2, .int .i64 v3, .fr (.ts v4)]] [] =
 ((FF n 54 [.agg [.int .i64 v2, .int .i64 v3, .fr (.ts v4)]] []).bind fun x0 =>
 (rOwnT 0 x0.1 fun x1 x2 x3 =>
 (arrTsC 25 x0.2 fun x4 x5 =>
 (nilV x3 (nilO x5
 (L_spec_l7Over_0_oo n n (v0 : Int) (v1 : List T) ((IntKind.i64.wrap (((v1).length : Int) - 1)) : Int) (0 : Int) (0 : Int) ([] : List T) (x1 : Int) (x2 : Int) (x4 : List T))))))) := by kernel_rfl

/-! loop.example/depkernel/spec.l3Step -/
noncomputable def L_spec_l3Step_0_fo (n c : Nat) (v0 : Bool) (v1 : Int) (v2 : Int) (v3 : Int) (v4 : List T) (v5 : Int) (v6 : Int) (v7 : List T) : OR := runLoop Try.prog SS n 95 0 [1, 1, 0, 1, 0] [] c ⟨[.v (.one (.any)), .v (.one (.bool v0)), .v (.one (.ptr 0 0)), .v (.one (.any)), .v (.one (.ptr 1 0)), .v (.one (.any)), .v (.one (.int .i64 v1)), .v (.one (.any)), .v (.one (.any)), .v (.one (.any)), .v (.one (.any)), .v (.one (.any)), .v (.one (.any)), .v (.one (.any)), .v (.one (.any)), .v (.one (.any)), .v (.one (.any)), .v (.one (.any)), .v (.one (.any)), .v (.one (.any)), .v (.one (.any)), .v (.one (.any)), .v (.one (.any)), .v (.one (.any)), .v (.one (.any)), .v (.one (.any)), .v (.one (.any)), .v (.one (.any)), .v (.one (.any)), .v (.one (.any)), .v (.one (.any)), .v (.one (.any)), .v (.one (.any)), .v (.one (.any)), .v (.one (.any)), .v (.one (.any)), .v (.one (.any)), .v (.one (.any)), .v (.one (.any)), .v (.one (.any)), .v (.one (.any)), .v (.one (.any)), .v (.one (.any)), .v (.one (.any)), .v (.one (.any)), .v (.one (.any)), .v (.one (.any)), .v (.one (.any)), .v (.one (.any))],
  [.cells [.int .i64 v2, .int .i64 v3, .fr (.ts v4)], .cells [.int .i64 v5, .int .i64 v6, .own 2 0], .arr 25 (.ts v7) 0 false]⟩
theorem L_spec_l3Step_0_fo_eq (n c : Nat) (v0 : Bool) (v1 : Int) (v2 : Int) (v3 : Int) (v4 : List T) (v5 : Int) (v6 : Int) (v7 : List T) : L_spec_l3Step_0_fo n (c + 1) v0 v1 v2 v3 v4 v5 v6 v7 =
 (cond ((decide (v1 < ((v4).length : Int))))
 ((cond (decide (0 ≤ v1))
 (((v4)[(v1 : Int).toNat]?.bind fun x0 =>
 ((FF n 95 [.agg [.int .i64 (x0).k, .int .i64 (x0).n, .fr (.ts (x0).kids)], .one (.bool v0)] []).bind fun x1 =>
 (rTerm x1.1 fun x2 x3 =>
 (rBool x3 fun x4 x5 =>
 (nilV x5 (nilO x1.2
 ((cond (x4)
 (((FF n 110 [.agg [.int .i64 v2, .int .i64 v3, .fr (.ts v4)], .one (.int .i64 v1), .agg [.int .i64 (x2).k, .int .i64 (x2).n, .fr (.ts (x2).kids)]] []).bind fun x6 =>
 (rTerm x6.1 fun x7 x8 =>
 (nilV x8 (nilO x6.2
 (some ([.agg [.int .i64 (x7).k, .int .i64 (x7).n, .fr (.ts (x7).kids)], .one (.bool true)], [])))))))
 (L_spec_l3Step_0_fo n c (v0 : Bool) ((IntKind.i64.wrap (v1 + 1)) : Int) (v2 : Int) (v3 : Int) (v4 : List T) (v5 : Int) (v6 : Int) (v7 : List T)))))))))))
 (none)))
 ((cond (v0)
 (((FF n 101 [.agg [.int .i64 v2, .int .i64 v3, .fr (.ts v4)]] []).bind fun x0 =>
 (rInt .i64 x0.1 fun x1 x2 =>
 (nilV x2 (nilO x0.2
 ((cond ((!decide (x1 = 0)))
 (((FF n 109 [.agg [.int .i64 v2, .int .i64 v3, .fr (.ts v4)]] []).bind fun x3 =>
 (rTerm x3.1 fun x4 x5 =>
 (nilV x5 (nilO x3.2
 (some ([.agg [.int .i64 (x4).k, .int .i64 (x4).n, .fr (.ts (x4).kids)], .one (.bool true)], [])))))))
 (some ([.agg [.int .i64 v2, .int .i64 v3, .fr (.ts v4)], .one (.bool false)], [])))))))))
 (some ([.agg [.int .i64 v2, .int .i64 v3, .fr (.ts v4)], .one (.bool false)], []))))) := by kernel_rfl
theorem E_spec_l3Step (n : Nat) (v0 : Int) (v1 : Int) (v2 : List T) (v3 : Bool) : FF (n + 1) 95 [.agg [.int .i64 v0, .int .i64 v1, .fr (.ts v2)], .one (.bool v3)] [] =
 (cond ((!v3))
 (((FF n 101 [.agg [.int .i64 v0, .int .i64 v1, .fr (.ts v2)]] []).bind fun x0 =>
 (rInt .i64 x0.1 fun x1 x2 =>
 (nilV x2 (nilO x0.2
 ((cond ((!decide (x1 = 0)))
 (((FF n 109 [.agg [.int .i64 v0, .int .i64 v1, .fr (.ts v2)]] []).bind fun x3 =>
 (rTerm x3.1 fun x4 x5 =>
 (nilV x5 (nilO x3.2
 (some ([.agg [.int .i64 (x4).k, .int .i64 (x4).n, .fr (.ts (x4).kids)], .one (.bool true)], [])))))))
 (L_spec_l3Step_0_fo n n (v3 : Bool) (0 : Int) (v0 : Int) (v1 : Int) (v2 : List T) (0 : Int) (0 : Int) ([] : List T)))))))))
 (L_spec_l3Step_0_fo n n (v3 : Bool) (0 : Int) (v0 : Int) (v1 : Int) (v2 : List T) (0 : Int) (0 : Int) ([] : List T))) := by kernel_rfl

/-! loop.example/depkernel/impl.contracted -/
theorem E_impl_contracted (n : Nat) (v0 : Int) (v1 : Int) (v2 : List T) (v3 : List Int) : FF (n + 1) 96 [.agg [.int .i64 v0, .int .i64 v1, .fr (.ts v2)], .one (.fr (.is v3))] [] =
 ((FF n 111 [.agg [.int .i64 v0, .int .i64 v1, .fr (.ts v2)], .one (.fr (.is v3))] []).bind fun x0 =>
 (rTerm x0.1 fun x1 x2 =>
 (nilV x2 (nilO x0.2
 (((FF n 100 [.agg [.int .i64 (x1).k, .int .i64 (x1).n, .fr (.ts (x1).kids)]] []).bind fun x3 =>
 (rTerm x3.1 fun x4 x5 =>
 (rBool x5 fun x6 x7 =>
 (nilV x7 (nilO x3.2
 ((cond ((!x6))
 (some ([.agg [.int .i64 0, .int .i64 0, .fr (.ts [])], .one (.bool false)], []))
 (((FF n 112 [.agg [.int .i64 v0, .int .i64 v1, .fr (.ts v2)], .one (.fr (.is v3)), .agg [.int .i64 (x4).k, .int .i64 (x4).n, .fr (.ts (x4).kids)]] []).bind fun x8 =>
 (rTerm x8.1 fun x9 x10 =>
 (nilV x10 (nilO x8.2
 (((FF n 51 [.agg [.int .i64 (x9).k, .int .i64 (x9).n, .fr (.ts (x9).kids)]] []).bind fun x11 =>
 (rTerm x11.1 fun x12 x13 =>
 (nilV x13 (nilO x11.2
 (((FF n 50 [.agg [.int .i64 (x12).k, .int .i64 (x12).n, .fr (.ts (x12).kids)]] []).bind fun x14 =>
 (rTerm x14.1 fun x15 x16 =>
 (rBool x16 fun x17 x18 =>
 (nilV x18 (nilO x14.2
 (some ([.agg [.int .i64 (x15).k, .int .i64 (x15).n, .fr (.ts (x15).kids)], .one (.bool x17)], [])))))))))))))))))))))))))))))) := by kernel_rfl

/-! loop.example/depkernel/impl.operands -/
theorem E_impl_operands (n : Nat) (v0 : Int) : FF (n + 1) 98 [.one (.int .i64 v0)] [] =
 ((FF n 63 [.one (.int .i64 v0), .one (.int .i64 1), .one (.int .i64 16)] []).bind fun x0 =>
 (rBool x0.1 fun x1 x2 =>
 (nilV x2 (nilO x0.2
 ((cond ((!x1))
 (some ([.one (.int .i64 (-1))], []))
 ((cond (decide (0 ≤ (IntKind.i64.wrap (v0 - 1))))
 ((cond (decide ((IntKind.i64.wrap (v0 - 1)) < (([0, 0, 2, 2, 2, 0, 0, 1, 4, 3, 1, 3, 2, 3, 1, 1]).length : Int)))
 ((([0, 0, 2, 2, 2, 0, 0, 1, 4, 3, 1, 3, 2, 3, 1, 1])[((IntKind.i64.wrap (v0 - 1)) : Int).toNat]?.bind fun x3 =>
 some ([.one (.int .i64 x3)], [])))
 (none)))
 (none))))))))) := by kernel_rfl

/-! loop.example/depkernel/impl.most -/
theorem E_impl_most (n : Nat) (v0 : Int) : FF (n + 1) 99 [.one (.int .i64 v0)] [] =
 (cond ((decide (v0 = 1)))
 (some ([.one (.int .i64 20)], []))
 ((cond ((decide (v0 = 2)))
 (some ([.one (.int .i64 3)], []))
 (some ([.one (.int .i64 0)], []))))) := by kernel_rfl

/-! loop.example/depkernel/impl.redex -/
theorem E_impl_redex (n : Nat) (v0 : Int) (v1 : Int) (v2 : List T) : FF (n + 1) 97 [.agg [.int .i64 v0, .int .i64 v1, .fr (.ts v2)]] [] =
 (cond ((decide (v0 = 5)))
 (((v2)[(0 : Int).toNat]?.bind fun x0 =>
 (cond ((decide ((x0).k = 4)))
 (some ([.one (.int .i64 1)], []))
 (some ([.one (.int .i64 0)], [])))))
 ((cond ((decide (v0 = 9)))
 (((v2)[(3 : Int).toNat]?.bind fun x0 =>
 (cond ((decide ((x0).k = 7)))
 (some ([.one (.int .i64 2)], []))
 ((cond ((decide ((x0).k = 8)))
 (some ([.one (.int .i64 3)], []))
 (some ([.one (.int .i64 0)], [])))))))
 ((cond ((decide (v0 = 12)))
 (((v2)[(1 : Int).toNat]?.bind fun x0 =>
 (cond ((decide ((x0).k = 11)))
 (some ([.one (.int .i64 4)], []))
 (some ([.one (.int .i64 0)], [])))))
 ((cond ((decide (v0 = 15)))
 (((v2)[(0 : Int).toNat]?.bind fun x0 =>
 (cond ((decide ((x0).k = 14)))
 (some ([.one (.int .i64 (IntKind.i64.wrap ((IntKind.i64.wrap (5 + v0)) - 15)))], []))
 (some ([.one (.int .i64 0)], [])))))
 ((cond ((decide (v0 = 16)))
 (((v2)[(0 : Int).toNat]?.bind fun x0 =>
 (cond ((decide ((x0).k = 14)))
 (some ([.one (.int .i64 (IntKind.i64.wrap ((IntKind.i64.wrap (5 + v0)) - 15)))], []))
 (some ([.one (.int .i64 0)], [])))))
 (some ([.one (.int .i64 0)], []))))))))))) := by kernel_rfl

/-! loop.example/depkernel/impl.contract -/
theorem E_impl_contract (n : Nat) (v0 : Int) (v1 : Int) (v2 : List T) : FF (n + 1) 100 [.agg [.int .i64 v0, .int .i64 v1, .fr (.ts v2)]] [] =
 ((FF n 97 [.agg [.int .i64 v0, .int .i64 v1, .fr (.ts v2)]] []).bind fun x0 =>
 (rInt .i64 x0.1 fun x1 x2 =>
 (nilV x2 (nilO x0.2
 ((cond ((decide (x1 = 1)))
 (((v2)[(0 : Int).toNat]?.bind fun x3 =>
 (((x3).kids)[(1 : Int).toNat]?.bind fun x4 =>
 ((v2)[(1 : Int).toNat]?.bind fun x5 =>
 ((FF n 113 [.agg [.int .i64 (x4).k, .int .i64 (x4).n, .fr (.ts (x4).kids)], .one (.int .i64 0), .agg [.int .i64 (x5).k, .int .i64 (x5).n, .fr (.ts (x5).kids)]] []).bind fun x6 =>
 (rTerm x6.1 fun x7 x8 =>
 (rBool x8 fun x9 x10 =>
 (nilV x10 (nilO x6.2
 (some ([.agg [.int .i64 (x7).k, .int .i64 (x7).n, .fr (.ts (x7).kids)], .one (.bool x9)], [])))))))))))
 ((cond ((decide (x1 = 2)))
 (((v2)[(1 : Int).toNat]?.bind fun x3 =>
 ((FF n 51 [.agg [.int .i64 (x3).k, .int .i64 (x3).n, .fr (.ts (x3).kids)]] []).bind fun x4 =>
 (rTerm x4.1 fun x5 x6 =>
 (nilV x6 (nilO x4.2
 (((FF n 50 [.agg [.int .i64 (x5).k, .int .i64 (x5).n, .fr (.ts (x5).kids)]] []).bind fun x7 =>
 (rTerm x7.1 fun x8 x9 =>
 (rBool x9 fun x10 x11 =>
 (nilV x11 (nilO x7.2
 (some ([.agg [.int .i64 (x8).k, .int .i64 (x8).n, .fr (.ts (x8).kids)], .one (.bool x10)], []))))))))))))))
 ((cond ((decide (x1 = 3)))
 (((v2)[(0 : Int).toNat]?.bind fun x3 =>
 ((v2)[(1 : Int).toNat]?.bind fun x4 =>
 ((v2)[(2 : Int).toNat]?.bind fun x5 =>
 ((v2)[(3 : Int).toNat]?.bind fun x6 =>
 (((x6).kids)[(0 : Int).toNat]?.bind fun x7 =>
 ((FF n 49 [.one (.int .i64 5), .one (.fr (.ts [(T.mk (x5).k (x5).n (x5).kids), (T.mk (x7).k (x7).n (x7).kids)]))] []).bind fun x8 =>
 (rTerm x8.1 fun x9 x10 =>
 (nilV x10 (nilO x8.2
 (((FF n 49 [.one (.int .i64 9), .one (.fr (.ts [(T.mk (x3).k (x3).n (x3).kids), (T.mk (x4).k (x4).n (x4).kids), (T.mk (x5).k (x5).n (x5).kids), (T.mk (x7).k (x7).n (x7).kids)]))] []).bind fun x11 =>
 (rTerm x11.1 fun x12 x13 =>
 (nilV x13 (nilO x11.2
 (((FF n 49 [.one (.int .i64 5), .one (.fr (.ts [(T.mk (x9).k (x9).n (x9).kids), (T.mk (x12).k (x12).n (x12).kids)]))] []).bind fun x14 =>
 (rTerm x14.1 fun x15 x16 =>
 (nilV x16 (nilO x14.2
 (((FF n 51 [.agg [.int .i64 (x15).k, .int .i64 (x15).n, .fr (.ts (x15).kids)]] []).bind fun x17 =>
 (rTerm x17.1 fun x18 x19 =>
 (nilV x19 (nilO x17.2
 (((FF n 50 [.agg [.int .i64 (x18).k, .int .i64 (x18).n, .fr (.ts (x18).kids)]] []).bind fun x20 =>
 (rTerm x20.1 fun x21 x22 =>
 (rBool x22 fun x23 x24 =>
 (nilV x24 (nilO x20.2
 (some ([.agg [.int .i64 (x21).k, .int .i64 (x21).n, .fr (.ts (x21).kids)], .one (.bool x23)], [])))))))))))))))))))))))))))))))))
 ((cond ((decide (x1 = 4)))
 (((v2)[(2 : Int).toNat]?.bind fun x3 =>
 ((FF n 51 [.agg [.int .i64 (x3).k, .int .i64 (x3).n, .fr (.ts (x3).kids)]] []).bind fun x4 =>
 (rTerm x4.1 fun x5 x6 =>
 (nilV x6 (nilO x4.2
 (((FF n 50 [.agg [.int .i64 (x5).k, .int .i64 (x5).n, .fr (.ts (x5).kids)]] []).bind fun x7 =>
 (rTerm x7.1 fun x8 x9 =>
 (rBool x9 fun x10 x11 =>
 (nilV x11 (nilO x7.2
 (some ([.agg [.int .i64 (x8).k, .int .i64 (x8).n, .fr (.ts (x8).kids)], .one (.bool x10)], []))))))))))))))
 ((cond ((decide (x1 = 5)))
 (((v2)[(0 : Int).toNat]?.bind fun x3 =>
 (((x3).kids)[(1 : Int).toNat]?.bind fun x4 =>
 ((FF n 51 [.agg [.int .i64 (x4).k, .int .i64 (x4).n, .fr (.ts (x4).kids)]] []).bind fun x5 =>
 (rTerm x5.1 fun x6 x7 =>
 (nilV x7 (nilO x5.2
 (((FF n 50 [.agg [.int .i64 (x6).k, .int .i64 (x6).n, .fr (.ts (x6).kids)]] []).bind fun x8 =>
 (rTerm x8.1 fun x9 x10 =>
 (rBool x10 fun x11 x12 =>
 (nilV x12 (nilO x8.2
 (some ([.agg [.int .i64 (x9).k, .int .i64 (x9).n, .fr (.ts (x9).kids)], .one (.bool x11)], [])))))))))))))))
 ((cond ((decide (x1 = 6)))
 (((v2)[(0 : Int).toNat]?.bind fun x3 =>
 (((x3).kids)[(2 : Int).toNat]?.bind fun x4 =>
 ((FF n 51 [.agg [.int .i64 (x4).k, .int .i64 (x4).n, .fr (.ts (x4).kids)]] []).bind fun x5 =>
 (rTerm x5.1 fun x6 x7 =>
 (nilV x7 (nilO x5.2
 (((FF n 50 [.agg [.int .i64 (x6).k, .int .i64 (x6).n, .fr (.ts (x6).kids)]] []).bind fun x8 =>
 (rTerm x8.1 fun x9 x10 =>
 (rBool x10 fun x11 x12 =>
 (nilV x12 (nilO x8.2
 (some ([.agg [.int .i64 (x9).k, .int .i64 (x9).n, .fr (.ts (x9).kids)], .one (.bool x11)], [])))))))))))))))
 (some ([.agg [.int .i64 0, .int .i64 0, .fr (.ts [])], .one (.bool false)], [])))))))))))))))))) := by kernel_rfl

/-! loop.example/depkernel/spec.l3Redex -/
theorem E_spec_l3Redex (n : Nat) (v0 : Int) (v1 : Int) (v2 : List T) : FF (n + 1) 101 [.agg [.int .i64 v0, .int .i64 v1, .fr (.ts v2)]] [] =
 (cond ((decide (v0 = 5)))
 (((v2)[(0 : Int).toNat]?.bind fun x0 =>
 (cond ((decide ((x0).k = 4)))
 (some ([.one (.int .i64 1)], []))
 (some ([.one (.int .i64 0)], [])))))
 ((cond ((decide (v0 = 9)))
 (((v2)[(3 : Int).toNat]?.bind fun x0 =>
 (cond ((decide ((x0).k = 7)))
 (some ([.one (.int .i64 2)], []))
 (((v2)[(3 : Int).toNat]?.bind fun x1 =>
 (cond ((decide ((x1).k = 8)))
 (some ([.one (.int .i64 3)], []))
 (some ([.one (.int .i64 0)], []))))))))
 ((cond ((decide (v0 = 12)))
 (((v2)[(1 : Int).toNat]?.bind fun x0 =>
 (cond ((decide ((x0).k = 11)))
 (some ([.one (.int .i64 4)], []))
 (some ([.one (.int .i64 0)], [])))))
 ((cond ((decide (v0 = 15)))
 (((v2)[(0 : Int).toNat]?.bind fun x0 =>
 (cond ((decide ((x0).k = 14)))
 (some ([.one (.int .i64 5)], []))
 (some ([.one (.int .i64 0)], [])))))
 ((cond ((decide (v0 = 16)))
 (((v2)[(0 : Int).toNat]?.bind fun x0 =>
 (cond ((decide ((x0).k = 14)))
 (some ([.one (.int .i64 6)], []))
 (some ([.one (.int .i64 0)], [])))))
 (some ([.one (.int .i64 0)], []))))))))))) := by kernel_rfl

/-! loop.example/depkernel/spec.l4Whole -/
theorem E_spec_l4Whole (n : Nat) (v0 : Int) (v1 : Int) (v2 : List T) : FF (n + 1) 102 [.agg [.int .i64 v0, .int .i64 v1, .fr (.ts v2)]] [] =
 ((FF n 101 [.agg [.int .i64 v0, .int .i64 v1, .fr (.ts v2)]] []).bind fun x0 =>
 (rInt .i64 x0.1 fun x1 x2 =>
 (nilV x2 (nilO x0.2
 ((cond ((decide (x1 = 0)))
 (some ([.agg [.int .i64 v0, .int .i64 v1, .fr (.ts v2)]], []))
 (((FF n 109 [.agg [.int .i64 v0, .int .i64 v1, .fr (.ts v2)]] []).bind fun x3 =>
 (rTerm x3.1 fun x4 x5 =>
 (nilV x5 (nilO x3.2
 (some ([.agg [.int .i64 (x4).k, .int .i64 (x4).n, .fr (.ts (x4).kids)]], []))))))))))))) := by kernel_rfl

/-! loop.example/depkernel/impl.inner -/
noncomputable def L_impl_inner_0 (n c : Nat) (v0 : List T) (v1 : Int) (v2 : Int) (v3 : Int) (v4 : Int) (v5 : List T) : OR := runLoop Try.prog SS n 74 0 [1, 0, 1, 0] [] c ⟨[.v (.one (.any)), .v (.one (.ptr 0 0)), .v (.one (.any)), .v (.one (.any)), .v (.one (.any)), .v (.one (.any)), .v (.one (.any)), .v (.one (.any)), .v (.one (.any)), .v (.one (.fr (.ts v0))), .v (.one (.int .i64 v1)), .v (.one (.int .i64 v2)), .v (.one (.any)), .v (.one (.any)), .v (.one (.any)), .v (.one (.any)), .v (.one (.any)), .v (.one (.any)), .v (.one (.any)), .v (.one (.any)), .v (.one (.any)), .v (.one (.any)), .v (.one (.any)), .v (.one (.any)), .v (.one (.any)), .v (.one (.any)), .v (.one (.any)), .v (.one (.any)), .v (.one (.any)), .v (.one (.any))],
  [.cells [.int .i64 v3, .int .i64 v4, .fr (.ts v5)]]⟩
theorem L_impl_inner_0_eq (n c : Nat) (v0 : List T) (v1 : Int) (v2 : Int) (v3 : Int) (v4 : Int) (v5 : List T) : L_impl_inner_0 n (c + 1) v0 v1 v2 v3 v4 v5 =
 (cond ((decide (v2 < v1)))
 ((cond (decide (0 ≤ v2))
 (((v0)[(v2 : Int).toNat]?.bind fun x0 =>
 ((FF n 74 [.agg [.int .i64 (x0).k, .int .i64 (x0).n, .fr (.ts (x0).kids)]] []).bind fun x1 =>
 (rIs x1.1 fun x2 x3 =>
 (rBool x3 fun x4 x5 =>
 (nilV x5 (nilO x1.2
 ((cond (x4)
 ((cond (roomB ([v2] ++ x2).length)
 (some ([.one (.fr (.is ([v2] ++ x2))), .one (.bool true)], []))
 (none)))
 (L_impl_inner_0 n c (v0 : List T) (v1 : Int) ((IntKind.i64.wrap (v2 + 1)) : Int) (v3 : Int) (v4 : Int) (v5 : List T)))))))))))
 (none)))
 (((FF n 97 [.agg [.int .i64 v3, .int .i64 v4, .fr (.ts v5)]] []).bind fun x0 =>
 (rInt .i64 x0.1 fun x1 x2 =>
 (nilV x2 (nilO x0.2
 (some ([.one (.fr (.is [])), .one (.bool (!decide (x1 = 0)))], [])))))))) := by kernel_rfl
theorem E_impl_inner (n : Nat) (v0 : Int) (v1 : Int) (v2 : List T) : FF (n + 1) 74 [.agg [.int .i64 v0, .int .i64 v1, .fr (.ts v2)]] [] =
 L_impl_inner_0 n n (v2 : List T) (((v2).length : Int) : Int) (0 : Int) (v0 : Int) (v1 : Int) (v2 : List T) := by kernel_rfl

/-! loop.example/depkernel/impl.free -/
noncomputable def L_impl_free_impl_maxFree_1_0 (n c : Nat) (v0 : Int) (v1 : List T) (v2 : Int) (v3 : Int) (v4 : Int) (v5 : Int) (v6 : Int) (v7 : List T) : OR := runLoop Try.prog SS n 103 1 [1, 1, 1, 0] [] c ⟨[.v (.one (.any)), .v (.one (.int .i64 v0)), .v (.one (.fn 104 [0])), .v (.one (.ptr 1 0)), .v (.one (.any)), .v (.one (.any)), .v (.one (.any)), .v (.one (.any)), .v (.one (.any)), .v (.one (.any)), .v (.one (.any)), .v (.one (.any)), .v (.one (.any)), .v (.one (.any)), .v (.one (.any)), .v (.one (.any)), .v (.one (.any)), .v (.one (.any)), .v (.one (.any)), .v (.one (.any)), .v (.one (.any)), .v (.one (.any)), .v (.one (.any)), .v (.one (.any)), .v (.one (.fr (.ts v1))), .v (.one (.int .i64 v2)), .v (.one (.int .i64 v3)), .v (.one (.any)), .v (.one (.any)), .v (.one (.any)), .v (.one (.any)), .v (.one (.any)), .v (.one (.any)), .v (.one (.any)), .v (.one (.any)), .v (.one (.any)), .v (.one (.any)), .v (.one (.any)), .v (.one (.any)), .v (.one (.any)), .v (.one (.any))],
  [.cells [.int .i64 v4], .cells [.int .i64 v5, .int .i64 v6, .fr (.ts v7)]]⟩
theorem L_impl_free_impl_maxFree_1_0_eq (n c : Nat) (v0 : Int) (v1 : List T) (v2 : Int) (v3 : Int) (v4 : Int) (v5 : Int) (v6 : Int) (v7 : List T) : L_impl_free_impl_maxFree_1_0 n (c + 1) v0 v1 v2 v3 v4 v5 v6 v7 =
 (cond ((decide (v3 < v2)))
 ((cond (decide (0 ≤ v3))
 (((v1)[(v3 : Int).toNat]?.bind fun x0 =>
 ((FF n 114 [.one (.int .i64 v5), .one (.int .i64 v3)] []).bind fun x1 =>
 (rInt .i64 x1.1 fun x2 x3 =>
 (nilV x3 (nilO x1.2
 (((FF n 103 [.agg [.int .i64 (x0).k, .int .i64 (x0).n, .fr (.ts (x0).kids)], .one (.int .i64 (IntKind.i64.wrap (v0 + x2))), .one (.fn 104 [0])] [.cells [.int .i64 v4]]).bind fun x4 =>
 (objC x4.2 fun x5 x6 =>
 (intC .i64 x5 fun x7 x8 =>
 (nilC x8
 ((nilV x4.1 (nilO x6
 (L_impl_free_impl_maxFree_1_0 n c (v0 : Int) (v1 : List T) (v2 : Int) ((IntKind.i64.wrap (v3 + 1)) : Int) (x7 : Int) (v5 : Int) (v6 : Int) (v7 : List T))))))))))))))))
 (none)))
 (some ([], [.cells [.int .i64 v4]]))) := by kernel_rfl
theorem E_impl_free_impl_maxFree_1 (n : Nat) (v0 : Int) (v1 : Int) (v2 : List T) (v3 : Int) (v4 : Int) : FF (n + 1) 103 [.agg [.int .i64 v0, .int .i64 v1, .fr (.ts v2)], .one (.int .i64 v3), .one (.fn 104 [0])] [.cells [.int .i64 v4]] =
 (cond ((decide (v0 = 1)))
 ((cond ((decide (v3 ≤ v1)))
 (((FF n 104 [.one (.int .i64 (IntKind.i64.wrap (v1 - v3))), .one (.ptr 0 0)] [.cells [.int .i64 v4]]).bind fun x0 =>
 (objC x0.2 fun x1 x2 =>
 (intC .i64 x1 fun x3 x4 =>
 (nilC x4
 ((nilV x0.1 (nilO x2
 (L_impl_free_impl_maxFree_1_0 n n (v3 : Int) (v2 : List T) (((v2).length : Int) : Int) (0 : Int) (x3 : Int) (v0 : Int) (v1 : Int) (v2 : List T))))))))))
 (L_impl_free_impl_maxFree_1_0 n n (v3 : Int) (v2 : List T) (((v2).length : Int) : Int) (0 : Int) (v4 : Int) (v0 : Int) (v1 : Int) (v2 : List T))))
 (L_impl_free_impl_maxFree_1_0 n n (v3 : Int) (v2 : List T) (((v2).length : Int) : Int) (0 : Int) (v4 : Int) (v0 : Int) (v1 : Int) (v2 : List T))) := by kernel_rfl

/-! loop.example/depkernel/spec.TermSame -/
noncomputable def L_spec_TermSame_0 (n c : Nat) (v0 : Int) (v1 : Int) (v2 : Int) (v3 : List T) (v4 : Int) (v5 : Int) (v6 : List T) : OR := runLoop Try.prog SS n 105 0 [1, 1, 0, 1, 0] [] c ⟨[.v (.one (.any)), .v (.one (.any)), .v (.one (.ptr 0 0)), .v (.one (.ptr 1 0)), .v (.one (.any)), .v (.one (.int .i64 v0)), .v (.one (.any)), .v (.one (.any)), .v (.one (.any)), .v (.one (.any)), .v (.one (.any)), .v (.one (.any)), .v (.one (.any)), .v (.one (.any)), .v (.one (.any)), .v (.one (.any)), .v (.one (.any)), .v (.one (.any)), .v (.one (.any)), .v (.one (.any)), .v (.one (.any)), .v (.one (.any)), .v (.one (.any)), .v (.one (.any)), .v (.one (.any)), .v (.one (.any)), .v (.one (.any)), .v (.one (.any)), .v (.one (.any)), .v (.one (.any)), .v (.one (.any)), .v (.one (.any)), .v (.one (.any)), .v (.one (.any)), .v (.one (.any)), .v (.one (.any)), .v (.one (.any)), .v (.one (.any)), .v (.one (.any)), .v (.one (.any)), .v (.one (.any)), .v (.one (.any)), .v (.one (.any)), .v (.one (.any)), .v (.one (.any)), .v (.one (.any))],
  [.cells [.int .i64 v1, .int .i64 v2, .fr (.ts v3)], .cells [.int .i64 v4, .int .i64 v5, .fr (.ts v6)]]⟩
theorem L_spec_TermSame_0_eq (n c : Nat) (v0 : Int) (v1 : Int) (v2 : Int) (v3 : List T) (v4 : Int) (v5 : Int) (v6 : List T) : L_spec_TermSame_0 n (c + 1) v0 v1 v2 v3 v4 v5 v6 =
 (cond ((decide (v0 < ((v3).length : Int))))
 ((cond (decide (0 ≤ v0))
 (((v3)[(v0 : Int).toNat]?.bind fun x0 =>
 (cond (decide (0 ≤ v0))
 (((v6)[(v0 : Int).toNat]?.bind fun x1 =>
 ((FF n 105 [.agg [.int .i64 (x0).k, .int .i64 (x0).n, .fr (.ts (x0).kids)], .agg [.int .i64 (x1).k, .int .i64 (x1).n, .fr (.ts (x1).kids)]] []).bind fun x2 =>
 (rBool x2.1 fun x3 x4 =>
 (nilV x4 (nilO x2.2
 ((cond ((!x3))
 (some ([.one (.bool false)], []))
 (L_spec_TermSame_0 n c ((IntKind.i64.wrap (v0 + 1)) : Int) (v1 : Int) (v2 : Int) (v3 : List T) (v4 : Int) (v5 : Int) (v6 : List T))))))))))
 (none))))
 (none)))
 (some ([.one (.bool true)], []))) := by kernel_rfl
theorem E_spec_TermSame (n : Nat) (v0 : Int) (v1 : Int) (v2 : List T) (v3 : Int) (v4 : Int) (v5 : List T) : FF (n + 1) 105 [.agg [.int .i64 v0, .int .i64 v1, .fr (.ts v2)], .agg [.int .i64 v3, .int .i64 v4, .fr (.ts v5)]] [] =
 (cond ((!decide (v0 = v3)))
 (some ([.one (.bool false)], []))
 ((cond ((!decide (v1 = v4)))
 (some ([.one (.bool false)], []))
 ((cond ((!decide (((v2).length : Int) = ((v5).length : Int))))
 (some ([.one (.bool false)], []))
 (L_spec_TermSame_0 n n (0 : Int) (v0 : Int) (v1 : Int) (v2 : List T) (v3 : Int) (v4 : Int) (v5 : List T))))))) := by kernel_rfl

/-! loop.example/depkernel/spec.l1Parse -/
theorem E_spec_l1Parse (n : Nat) (v0 : ByteArray) (v1 : Int) (v2 : Int) : FF (n + 1) 106 [.one (.str v0), .one (.int .i64 v1), .one (.int .i64 v2)] [] =
 (cond ((decide (v2 < 1)))
 (some ([.agg [.int .i64 0, .int .i64 0, .fr (.ts [])], .one (.int .i64 (-1))], []))
 ((cond ((decide (v1 < 0)))
 (some ([.agg [.int .i64 0, .int .i64 0, .fr (.ts [])], .one (.int .i64 (-1))], []))
 ((cond ((decide (((v0).size : Int) ≤ v1)))
 (some ([.agg [.int .i64 0, .int .i64 0, .fr (.ts [])], .one (.int .i64 (-1))], []))
 ((cond (decide (0 ≤ v1) && decide (v1 < (((v0).size : Nat) : Int)))
 ((cond ((decide (((byteAt v0 (v1 : Int).toNat).toNat : Int) = 35)))
 (((FF n 115 [.one (.str v0), .one (.int .i64 (IntKind.i64.wrap (v1 + 1))), .one (.int .i64 2)] []).bind fun x0 =>
 (rInt .i64 x0.1 fun x1 x2 =>
 (rInt .i64 x2 fun x3 x4 =>
 (nilV x4 (nilO x0.2
 (((FF n 81 [.one (.int .i64 1), .one (.int .i64 x1)] []).bind fun x5 =>
 (rTerm x5.1 fun x6 x7 =>
 (nilV x7 (nilO x5.2
 (some ([.agg [.int .i64 (x6).k, .int .i64 (x6).n, .fr (.ts (x6).kids)], .one (.int .i64 x3)], [])))))))))))))
 ((cond ((decide (((byteAt v0 (v1 : Int).toNat).toNat : Int) = 42)))
 (((FF n 115 [.one (.str v0), .one (.int .i64 (IntKind.i64.wrap (v1 + 1))), .one (.int .i64 1)] []).bind fun x0 =>
 (rInt .i64 x0.1 fun x1 x2 =>
 (rInt .i64 x2 fun x3 x4 =>
 (nilV x4 (nilO x0.2
 (((FF n 81 [.one (.int .i64 2), .one (.int .i64 x1)] []).bind fun x5 =>
 (rTerm x5.1 fun x6 x7 =>
 (nilV x7 (nilO x5.2
 (some ([.agg [.int .i64 (x6).k, .int .i64 (x6).n, .fr (.ts (x6).kids)], .one (.int .i64 x3)], [])))))))))))))
 ((cond ((decide (((byteAt v0 (v1 : Int).toNat).toNat : Int) = 78)))
 (((FF n 81 [.one (.int .i64 6), .one (.int .i64 0)] []).bind fun x0 =>
 (rTerm x0.1 fun x1 x2 =>
 (nilV x2 (nilO x0.2
 (some ([.agg [.int .i64 (x1).k, .int .i64 (x1).n, .fr (.ts (x1).kids)], .one (.int .i64 (IntKind.i64.wrap (v1 + 1)))], [])))))))
 ((cond ((decide (((byteAt v0 (v1 : Int).toNat).toNat : Int) = 48)))
 (((FF n 81 [.one (.int .i64 7), .one (.int .i64 0)] []).bind fun x0 =>
 (rTerm x0.1 fun x1 x2 =>
 (nilV x2 (nilO x0.2
 (some ([.agg [.int .i64 (x1).k, .int .i64 (x1).n, .fr (.ts (x1).kids)], .one (.int .i64 (IntKind.i64.wrap (v1 + 1)))], [])))))))
 ((cond ((decide (((byteAt v0 (v1 : Int).toNat).toNat : Int) = 43)))
 (((FF n 116 [.one (.str v0), .one (.int .i64 v1), .one (.int .i64 v2)] []).bind fun x0 =>
 (rTerm x0.1 fun x1 x2 =>
 (rInt .i64 x2 fun x3 x4 =>
 (nilV x4 (nilO x0.2
 (some ([.agg [.int .i64 (x1).k, .int .i64 (x1).n, .fr (.ts (x1).kids)], .one (.int .i64 x3)], []))))))))
 ((cond ((decide (((byteAt v0 (v1 : Int).toNat).toNat : Int) = 33)))
 (((FF n 116 [.one (.str v0), .one (.int .i64 v1), .one (.int .i64 v2)] []).bind fun x0 =>
 (rTerm x0.1 fun x1 x2 =>
 (rInt .i64 x2 fun x3 x4 =>
 (nilV x4 (nilO x0.2
 (some ([.agg [.int .i64 (x1).k, .int .i64 (x1).n, .fr (.ts (x1).kids)], .one (.int .i64 x3)], []))))))))
 ((cond ((decide (((byteAt v0 (v1 : Int).toNat).toNat : Int) = 94)))
 (((FF n 116 [.one (.str v0), .one (.int .i64 v1), .one (.int .i64 v2)] []).bind fun x0 =>
 (rTerm x0.1 fun x1 x2 =>
 (rInt .i64 x2 fun x3 x4 =>
 (nilV x4 (nilO x0.2
 (some ([.agg [.int .i64 (x1).k, .int .i64 (x1).n, .fr (.ts (x1).kids)], .one (.int .i64 x3)], []))))))))
 ((cond ((decide (((byteAt v0 (v1 : Int).toNat).toNat : Int) = 95)))
 (((FF n 116 [.one (.str v0), .one (.int .i64 v1), .one (.int .i64 v2)] []).bind fun x0 =>
 (rTerm x0.1 fun x1 x2 =>
 (rInt .i64 x2 fun x3 x4 =>
 (nilV x4 (nilO x0.2
 (some ([.agg [.int .i64 (x1).k, .int .i64 (x1).n, .fr (.ts (x1).kids)], .one (.int .i64 x3)], []))))))))
 ((cond ((decide (((byteAt v0 (v1 : Int).toNat).toNat : Int) = 40)))
 (((FF n 117 [.one (.str v0), .one (.int .i64 (IntKind.i64.wrap (v1 + 1))), .one (.int .i64 (IntKind.i64.wrap (v2 - 1)))] []).bind fun x0 =>
 (rTerm x0.1 fun x1 x2 =>
 (rInt .i64 x2 fun x3 x4 =>
 (nilV x4 (nilO x0.2
 (some ([.agg [.int .i64 (x1).k, .int .i64 (x1).n, .fr (.ts (x1).kids)], .one (.int .i64 x3)], []))))))))
 ((cond ((decide (((byteAt v0 (v1 : Int).toNat).toNat : Int) = 91)))
 (((FF n 106 [.one (.str v0), .one (.int .i64 (IntKind.i64.wrap (v1 + 1))), .one (.int .i64 (IntKind.i64.wrap (v2 - 1)))] []).bind fun x0 =>
 (rTerm x0.1 fun x1 x2 =>
 (rInt .i64 x2 fun x3 x4 =>
 (nilV x4 (nilO x0.2
 ((cond ((decide (x3 < 0)))
 (some ([.agg [.int .i64 0, .int .i64 0, .fr (.ts [])], .one (.int .i64 (-1))], []))
 ((cond ((decide (((v0).size : Int) ≤ x3)))
 (some ([.agg [.int .i64 0, .int .i64 0, .fr (.ts [])], .one (.int .i64 (-1))], []))
 ((cond (decide (0 ≤ x3) && decide (x3 < (((v0).size : Nat) : Int)))
 ((cond ((!decide (((byteAt v0 (x3 : Int).toNat).toNat : Int) = 93)))
 (some ([.agg [.int .i64 0, .int .i64 0, .fr (.ts [])], .one (.int .i64 (-1))], []))
 (((FF n 106 [.one (.str v0), .one (.int .i64 (IntKind.i64.wrap (x3 + 1))), .one (.int .i64 (IntKind.i64.wrap (v2 - 1)))] []).bind fun x5 =>
 (rTerm x5.1 fun x6 x7 =>
 (rInt .i64 x7 fun x8 x9 =>
 (nilV x9 (nilO x5.2
 (((FF n 55 [.one (.int .i64 4), .one (.fr (.ts [(T.mk (x1).k (x1).n (x1).kids), (T.mk (x6).k (x6).n (x6).kids)]))] []).bind fun x10 =>
 (rTerm x10.1 fun x11 x12 =>
 (nilV x12 (nilO x10.2
 (some ([.agg [.int .i64 (x11).k, .int .i64 (x11).n, .fr (.ts (x11).kids)], .one (.int .i64 x8)], [])))))))))))))))
 (none)))))))))))))
 (((FF n 118 [.one (.str v0), .one (.int .i64 v1), .one (.int .i64 v2)] []).bind fun x0 =>
 (rTerm x0.1 fun x1 x2 =>
 (rInt .i64 x2 fun x3 x4 =>
 (nilV x4 (nilO x0.2
 (some ([.agg [.int .i64 (x1).k, .int .i64 (x1).n, .fr (.ts (x1).kids)], .one (.int .i64 x3)], []))))))))))))))))))))))))))))
 (none)))))))) := by kernel_rfl

/-! loop.example/depkernel/spec.FormatTerm -/
theorem E_spec_FormatTerm (n : Nat) (v0 : Int) (v1 : Int) (v2 : List T) : FF (n + 1) 107 [.agg [.int .i64 v0, .int .i64 v1, .fr (.ts v2)]] [] =
 ((FF n 52 [.agg [.int .i64 v0, .int .i64 v1, .fr (.ts v2)]] []).bind fun x0 =>
 (rBool x0.1 fun x1 x2 =>
 (nilV x2 (nilO x0.2
 ((cond ((!x1))
 (some ([.one (.str (bytesOf []))], []))
 (((FF n 119 [.agg [.int .i64 v0, .int .i64 v1, .fr (.ts v2)]] []).bind fun x3 =>
 (rStr x3.1 fun x4 x5 =>
 (nilV x5 (nilO x3.2
 (some ([.one (.str x4)], []))))))))))))) := by kernel_rfl

/-! slices.IndexFunc[[]loop.example/depkernel/impl.Term,loop.example/depkernel/impl.Term] -/
noncomputable def L_slices_IndexFunc_impl_areTerms_1_0 (n c : Nat) (v0 : List T) (v1 : Int) (v2 : Int) : OR := runLoop Try.prog SS n 108 0 [1, 0, 1, 0] [] c ⟨[.v (.one (.fr (.ts v0))), .v (.one (.fn 88 [])), .v (.one (.any)), .v (.one (.any)), .v (.one (.any)), .v (.one (.any)), .v (.one (.any)), .v (.one (.int .i64 v1)), .v (.one (.int .i64 v2)), .v (.one (.any)), .v (.one (.any)), .v (.one (.any)), .v (.one (.any)), .v (.one (.any)), .v (.one (.any)), .v (.one (.any)), .v (.one (.any)), .v (.one (.any)), .v (.one (.any))],
  []⟩
theorem L_slices_IndexFunc_impl_areTerms_1_0_eq (n c : Nat) (v0 : List T) (v1 : Int) (v2 : Int) : L_slices_IndexFunc_impl_areTerms_1_0 n (c + 1) v0 v1 v2 =
 (cond ((decide (v2 < v1)))
 ((cond (decide (0 ≤ v2))
 (((v0)[(v2 : Int).toNat]?.bind fun x0 =>
 ((FF n 88 [.agg [.int .i64 (x0).k, .int .i64 (x0).n, .fr (.ts (x0).kids)]] []).bind fun x1 =>
 (rBool x1.1 fun x2 x3 =>
 (nilV x3 (nilO x1.2
 ((cond (x2)
 (some ([.one (.int .i64 v2)], []))
 (L_slices_IndexFunc_impl_areTerms_1_0 n c (v0 : List T) (v1 : Int) ((IntKind.i64.wrap (v2 + 1)) : Int))))))))))
 (none)))
 (some ([.one (.int .i64 (-1))], []))) := by kernel_rfl
theorem E_slices_IndexFunc_impl_areTerms_1 (n : Nat) (v0 : List T) : FF (n + 1) 108 [.one (.fr (.ts v0)), .one (.fn 88 [])] [] =
 L_slices_IndexFunc_impl_areTerms_1_0 n n (v0 : List T) (((v0).length : Int) : Int) (0 : Int) := by kernel_rfl

/-! loop.example/depkernel/spec.l3Contract -/
theorem E_spec_l3Contract (n : Nat) (v0 : Int) (v1 : Int) (v2 : List T) : FF (n + 1) 109 [.agg [.int .i64 v0, .int .i64 v1, .fr (.ts v2)]] [] =
 ((FF n 101 [.agg [.int .i64 v0, .int .i64 v1, .fr (.ts v2)]] []).bind fun x0 =>
 (rInt .i64 x0.1 fun x1 x2 =>
 (nilV x2 (nilO x0.2
 ((cond ((decide (x1 = 1)))
 (((v2)[(0 : Int).toNat]?.bind fun x3 =>
 (((x3).kids)[(1 : Int).toNat]?.bind fun x4 =>
 ((v2)[(1 : Int).toNat]?.bind fun x5 =>
 ((FF n 120 [.agg [.int .i64 (x4).k, .int .i64 (x4).n, .fr (.ts (x4).kids)], .one (.int .i64 0), .agg [.int .i64 (x5).k, .int .i64 (x5).n, .fr (.ts (x5).kids)], .one (.int .i64 0)] []).bind fun x6 =>
 (rTerm x6.1 fun x7 x8 =>
 (nilV x8 (nilO x6.2
 (some ([.agg [.int .i64 (x7).k, .int .i64 (x7).n, .fr (.ts (x7).kids)]], []))))))))))
 ((cond ((decide (x1 = 2)))
 (((v2)[(1 : Int).toNat]?.bind fun x3 =>
 ((FF n 54 [.agg [.int .i64 (x3).k, .int .i64 (x3).n, .fr (.ts (x3).kids)]] []).bind fun x4 =>
 (rOwnT 0 x4.1 fun x5 x6 x7 =>
 (arrTsC 25 x4.2 fun x8 x9 =>
 (nilV x7 (nilO x9
 (some ([.agg [.int .i64 x5, .int .i64 x6, .fr (.ts x8)]], [])))))))))
 ((cond ((decide (x1 = 3)))
 (((v2)[(3 : Int).toNat]?.bind fun x3 =>
 (((x3).kids)[(0 : Int).toNat]?.bind fun x4 =>
 ((v2)[(0 : Int).toNat]?.bind fun x5 =>
 ((FF n 54 [.agg [.int .i64 (x5).k, .int .i64 (x5).n, .fr (.ts (x5).kids)]] []).bind fun x6 =>
 (rOwnT 0 x6.1 fun x7 x8 x9 =>
 (arrTsC 25 x6.2 fun x10 x11 =>
 (nilV x9 (nilO x11
 (((v2)[(1 : Int).toNat]?.bind fun x12 =>
 ((FF n 54 [.agg [.int .i64 (x12).k, .int .i64 (x12).n, .fr (.ts (x12).kids)]] []).bind fun x13 =>
 (rOwnT 0 x13.1 fun x14 x15 x16 =>
 (arrTsC 25 x13.2 fun x17 x18 =>
 (nilV x16 (nilO x18
 (((v2)[(2 : Int).toNat]?.bind fun x19 =>
 ((FF n 54 [.agg [.int .i64 (x19).k, .int .i64 (x19).n, .fr (.ts (x19).kids)]] []).bind fun x20 =>
 (rOwnT 0 x20.1 fun x21 x22 x23 =>
 (arrTsC 25 x20.2 fun x24 x25 =>
 (nilV x23 (nilO x25
 (((FF n 54 [.agg [.int .i64 (x4).k, .int .i64 (x4).n, .fr (.ts (x4).kids)]] []).bind fun x26 =>
 (rOwnT 0 x26.1 fun x27 x28 x29 =>
 (arrTsC 25 x26.2 fun x30 x31 =>
 (nilV x29 (nilO x31
 (((FF n 55 [.one (.int .i64 9), .one (.fr (.ts [(T.mk x7 x8 x10), (T.mk x14 x15 x17), (T.mk x21 x22 x24), (T.mk x27 x28 x30)]))] []).bind fun x32 =>
 (rTerm x32.1 fun x33 x34 =>
 (nilV x34 (nilO x32.2
 (((v2)[(2 : Int).toNat]?.bind fun x35 =>
 ((FF n 54 [.agg [.int .i64 (x35).k, .int .i64 (x35).n, .fr (.ts (x35).kids)]] []).bind fun x36 =>
 (rOwnT 0 x36.1 fun x37 x38 x39 =>
 (arrTsC 25 x36.2 fun x40 x41 =>
 (nilV x39 (nilO x41
 (((FF n 54 [.agg [.int .i64 (x4).k, .int .i64 (x4).n, .fr (.ts (x4).kids)]] []).bind fun x42 =>
 (rOwnT 0 x42.1 fun x43 x44 x45 =>
 (arrTsC 25 x42.2 fun x46 x47 =>
 (nilV x45 (nilO x47
 (((FF n 55 [.one (.int .i64 5), .one (.fr (.ts [(T.mk x37 x38 x40), (T.mk x43 x44 x46)]))] []).bind fun x48 =>
 (rTerm x48.1 fun x49 x50 =>
 (nilV x50 (nilO x48.2
 (((FF n 55 [.one (.int .i64 5), .one (.fr (.ts [(T.mk (x49).k (x49).n (x49).kids), (T.mk (x33).k (x33).n (x33).kids)]))] []).bind fun x51 =>
 (rTerm x51.1 fun x52 x53 =>
 (nilV x53 (nilO x51.2
 (some ([.agg [.int .i64 (x52).k, .int .i64 (x52).n, .fr (.ts (x52).kids)]], [])))))))))))))))))))))))))))))))))))))))))))))))))))))))))))
 ((cond ((decide (x1 = 4)))
 (((v2)[(2 : Int).toNat]?.bind fun x3 =>
 ((FF n 54 [.agg [.int .i64 (x3).k, .int .i64 (x3).n, .fr (.ts (x3).kids)]] []).bind fun x4 =>
 (rOwnT 0 x4.1 fun x5 x6 x7 =>
 (arrTsC 25 x4.2 fun x8 x9 =>
 (nilV x7 (nilO x9
 (some ([.agg [.int .i64 x5, .int .i64 x6, .fr (.ts x8)]], [])))))))))
 ((cond ((decide (x1 = 5)))
 (((v2)[(0 : Int).toNat]?.bind fun x3 =>
 (((x3).kids)[(1 : Int).toNat]?.bind fun x4 =>
 ((FF n 54 [.agg [.int .i64 (x4).k, .int .i64 (x4).n, .fr (.ts (x4).kids)]] []).bind fun x5 =>
 (rOwnT 0 x5.1 fun x6 x7 x8 =>
 (arrTsC 25 x5.2 fun x9 x10 =>
 (nilV x8 (nilO x10
 (some ([.agg [.int .i64 x6, .int .i64 x7, .fr (.ts x9)]], []))))))))))
 (((v2)[(0 : Int).toNat]?.bind fun x3 =>
 (((x3).kids)[(2 : Int).toNat]?.bind fun x4 =>
 ((FF n 54 [.agg [.int .i64 (x4).k, .int .i64 (x4).n, .fr (.ts (x4).kids)]] []).bind fun x5 =>
 (rOwnT 0 x5.1 fun x6 x7 x8 =>
 (arrTsC 25 x5.2 fun x9 x10 =>
 (nilV x8 (nilO x10
 (some ([.agg [.int .i64 x6, .int .i64 x7, .fr (.ts x9)]], [])))))))))))))))))))))))) := by kernel_rfl

end Go.Proofs.Ytmioieikbpemoaa
