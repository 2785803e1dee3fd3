/- Part 4 of the proof. -/
import Derived.Test.YtnogehmgpfpjmaaDoorK01
import Derived.Test.YtnogehmgpfpjmaaDoorK02
import Derived.Test.YtnogehmgpfpjmaaDoorK03
import Derived.ChangeArms
import Derived.Deep.Slices
import Derived.Deep.Strs
import Derived.WalkKit
import Derived.ProofKit
import Derived.OpenShut
import Derived.ShutString
import Derived.ChangeOld
import Derived.Below
import Derived.Shelf.Strconv.Itoa3
import Derived.Shelf.Strconv.AtoiAll
import Derived.Shelf.Strings.Split
import Derived.Test.YtnogehmgpfpjmaaDoorProg
import Derived.Stop.IfaceNil
import Derived.Lib.SmallJoins
import Derived.Lib.LaidTab
set_option linter.unusedVariables false
set_option linter.unusedSimpArgs false
section
namespace Go.Proofs.YtnogehmgpfpjmaaDoor
open Go Go.Ab Go.Dk
theorem E_spec_NamedSame (n : Nat) (v0 v1 v2 : ByteArray) : FF (n + 1) 10 [.one (.str v0), .one (.str v1), .one (.str v2)] [] =
 ((FF n 25 [.one (.str v0), .one (.str v2)] []).bind fun x0 =>
 (rTerm x0.1 fun x1 x2 =>
 (rBool x2 fun x3 x4 =>
 (nilV x4 (nilO x0.2
 ((FF n 25 [.one (.str v1), .one (.str v2)] []).bind fun x5 =>
 (rTerm x5.1 fun x6 x7 =>
 (rBool x7 fun x8 x9 =>
 (nilV x9 (nilO x5.2
 (cond x3
 (cond x8
 ((FF n 26 [.agg [.int .i64 x1.k, .int .i64 x1.n, .fr (.ts x1.kids)], .agg [.int .i64 x6.k, .int .i64 x6.n, .fr (.ts x6.kids)]] []).bind fun x10 =>
 (rBool x10.1 fun x11 x12 =>
 (nilV x12 (nilO x10.2
 (some ([.one (.bool x11)], []))))))
 (some ([.one (.bool false)], [])))
 (some ([.one (.bool false)], []))))))))))))) := by kernel_rfl
theorem E_impl_NamedSame (n : Nat) (v0 v1 v2 : ByteArray) : FF (n + 1) 11 [.one (.str v0), .one (.str v1), .one (.str v2)] [] =
 ((FF n 27 [.one (.str v0), .one (.str v2)] []).bind fun x0 =>
 (rTerm x0.1 fun x1 x2 =>
 (rBool x2 fun x3 x4 =>
 (nilV x4 (nilO x0.2
 ((FF n 27 [.one (.str v1), .one (.str v2)] []).bind fun x5 =>
 (rTerm x5.1 fun x6 x7 =>
 (rBool x7 fun x8 x9 =>
 (nilV x9 (nilO x5.2
 (cond x3
 (cond x8
 ((FF n 28 [.agg [.int .i64 x1.k, .int .i64 x1.n, .fr (.ts x1.kids)], .agg [.int .i64 x6.k, .int .i64 x6.n, .fr (.ts x6.kids)]] []).bind fun x10 =>
 (rBool x10.1 fun x11 x12 =>
 (nilV x12 (nilO x10.2
 (some ([.one (.bool x11)], []))))))
 (some ([.one (.bool false)], [])))
 (some ([.one (.bool false)], []))))))))))))) := by kernel_rfl
theorem E_spec_TermValid (n : Nat) (v0 v1 : Int) (v2 : List T) : FF (n + 1) 13 [.agg [.int .i64 v0, .int .i64 v1, .fr (.ts v2)]] [] =
 ((FF n 29 [.agg [.int .i64 v0, .int .i64 v1, .fr (.ts v2)], .one (.int .i64 30)] []).bind fun x0 =>
 (rBool x0.1 fun x1 x2 =>
 (nilV x2 (nilO x0.2
 (cond x1
 ((FF n 30 [.agg [.int .i64 v0, .int .i64 v1, .fr (.ts v2)], .one (.int .i64 400)] []).bind fun x3 =>
 (rInt .i64 x3.1 fun x4 x5 =>
 (nilV x5 (nilO x3.2
 (some ([.one (.bool (decide (x4 ≤ 400)))], []))))))
 (some ([.one (.bool false)], []))))))) := by kernel_rfl
noncomputable def L_spec_NamesValid_0 (n c : Nat) (v0 : ByteArray) (v1 : Int) : OR := runLoop Tryd.prog SS n 14 0 [1, 0, 1, 0] [] c ⟨[.v (.one (.str v0)), anyV, anyV, .v (.one (.int .i64 v1)), anyV, anyV, anyV, anyV, anyV, anyV, anyV, anyV, anyV, anyV, anyV, anyV, anyV, anyV, anyV, anyV, anyV, anyV, anyV, anyV, anyV, anyV, anyV, anyV],
 []⟩
theorem L_spec_NamesValid_0_eq (n c : Nat) (v0 : ByteArray) (v1 : Int) : L_spec_NamesValid_0 n (c + 1) v0 v1 =
 (cond (decide (v1 < (v0.size : Int)))
 (cond (decide (0 ≤ v1) && decide (v1 < ((v0.size : Nat) : Int)))
 ((FF n 31 [.one (.int .u8 ((byteAt v0 (v1 : Int).toNat).toNat : Int))] []).bind fun x0 =>
 (rBool x0.1 fun x1 x2 =>
 (nilV x2 (nilO x0.2
 (cond (!x1)
 (some ([.one (.bool false)], []))
 (cond (Go.Ab.inB 0 v1 v0.size)
 (cond (decide (0 ≤ v1) && decide (v1 < ((v0.size : Nat) : Int)))
 ((FF n 32 [.one (.str (v0.extract (0 : Int).toNat (v1 : Int).toNat)), .one (.int .u8 ((byteAt v0 (v1 : Int).toNat).toNat : Int))] []).bind fun x3 =>
 (rInt .i64 x3.1 fun x4 x5 =>
 (nilV x5 (nilO x3.2
 (cond (decide (0 ≤ x4))
 (some ([.one (.bool false)], []))
 (L_spec_NamesValid_0 n c v0 (IntKind.i64.wrap (v1 + 1))))))))
 none)
 none))))))
 none)
 (some ([.one (.bool (decide ((v0.size : Int) ≤ 20)))], []))) := by kernel_rfl
theorem E_spec_NamesValid (n : Nat) (v0 : ByteArray) : FF (n + 1) 14 [.one (.str v0)] [] =
 L_spec_NamesValid_0 n n v0 0 := by kernel_rfl
theorem E_impl_TermValid (n : Nat) (v0 v1 : Int) (v2 : List T) : FF (n + 1) 19 [.agg [.int .i64 v0, .int .i64 v1, .fr (.ts v2)]] [] =
 ((FF n 38 [.agg [.int .i64 v0, .int .i64 v1, .fr (.ts v2)], .one (.int .i64 1), .one (.ptr 0 0)] [.cells [.int .i64 0]]).bind fun x0 =>
 (objC x0.2 fun x1 x2 =>
 (intC .i64 x1 fun x3 x4 =>
 (nilC x4
 (rBool x0.1 fun x5 x6 =>
 (nilV x6 (nilO x2
 (some ([.one (.bool x5)], []))))))))) := by kernel_rfl
noncomputable def L_impl_NamesValid_0 (n c : Nat) (v0 : ByteArray) (v1 v2 : Int) : OR := runLoop Tryd.prog SS n 20 0 [1, 0, 1, 0] [] c ⟨[.v (.one (.str v0)), anyV, anyV, anyV, anyV, .v (.one (.int .i64 v1)), .v (.one (.int .i64 v2)), anyV, anyV, anyV, anyV, anyV, anyV, anyV, anyV, anyV, anyV, anyV, anyV, anyV, anyV, anyV, anyV, anyV, anyV, anyV, anyV, anyV],
 []⟩
theorem L_impl_NamesValid_0_eq (n c : Nat) (v0 : ByteArray) (v1 v2 : Int) : L_impl_NamesValid_0 n (c + 1) v0 v1 v2 =
 (cond (decide (v2 < v1))
 (cond (decide (0 ≤ v2) && decide (v2 < ((v0.size : Nat) : Int)))
 ((FF n 39 [.one (.int .u8 ((byteAt v0 (v2 : Int).toNat).toNat : Int))] []).bind fun x0 =>
 (rBool x0.1 fun x1 x2 =>
 (nilV x2 (nilO x0.2
 (cond (!x1)
 (some ([.one (.bool false)], []))
 (cond (Go.Ab.inB 0 v2 v0.size)
 (cond (decide (0 ≤ v2) && decide (v2 < ((v0.size : Nat) : Int)))
 ((FF n 40 [.one (.str (v0.extract (0 : Int).toNat (v2 : Int).toNat)), .one (.int .u8 ((byteAt v0 (v2 : Int).toNat).toNat : Int))] []).bind fun x3 =>
 (rInt .i64 x3.1 fun x4 x5 =>
 (nilV x5 (nilO x3.2
 (cond (decide (0 ≤ x4))
 (some ([.one (.bool false)], []))
 (L_impl_NamesValid_0 n c v0 v1 (IntKind.i64.wrap (v2 + 1))))))))
 none)
 none))))))
 none)
 (some ([.one (.bool (decide ((v0.size : Int) ≤ 20)))], []))) := by kernel_rfl
theorem E_impl_NamesValid (n : Nat) (v0 : ByteArray) : FF (n + 1) 20 [.one (.str v0)] [] =
 L_impl_NamesValid_0 n n v0 ((v0.size : Int) : Int) 0 := by kernel_rfl
theorem E_spec_ParseNamed (n : Nat) (v0 v1 : ByteArray) : FF (n + 1) 25 [.one (.str v0), .one (.str v1)] [] =
 ((FF n 14 [.one (.str v1)] []).bind fun x0 =>
 (rBool x0.1 fun x1 x2 =>
 (nilV x2 (nilO x0.2
 (cond (!x1)
 (some ([.agg [.int .i64 0, .int .i64 0, .fr (.ts [])], .one (.bool false)], []))
 ((FF n 49 [.one (.str v0), .one (.int .i64 0), .one (.str v1), .one (.int .i64 30)] []).bind fun x3 =>
 (rTerm x3.1 fun x4 x5 =>
 (rInt .i64 x5 fun x6 x7 =>
 (nilV x7 (nilO x3.2
 (cond (!decide (x6 = (v0.size : Int)))
 (some ([.agg [.int .i64 0, .int .i64 0, .fr (.ts [])], .one (.bool false)], []))
 ((FF n 13 [.agg [.int .i64 x4.k, .int .i64 x4.n, .fr (.ts x4.kids)]] []).bind fun x8 =>
 (rBool x8.1 fun x9 x10 =>
 (nilV x10 (nilO x8.2
 (cond (!x9)
 (some ([.agg [.int .i64 0, .int .i64 0, .fr (.ts [])], .one (.bool false)], []))
 (some ([.agg [.int .i64 x4.k, .int .i64 x4.n, .fr (.ts x4.kids)], .one (.bool true)], [])))))))))))))))))) := by kernel_rfl
noncomputable def L_spec_TermSame_0 (n c : Nat) (v0 v1 v2 : Int) (v3 : List T) (v4 v5 : Int) (v6 : List T) : OR := runLoop Tryd.prog SS n 26 0 [1, 1, 0, 1, 0] [] c ⟨[anyV, anyV, .v (.one (.ptr 0 0)), .v (.one (.ptr 1 0)), anyV, .v (.one (.int .i64 v0)), anyV, anyV, anyV, anyV, anyV, anyV, anyV, anyV, anyV, anyV, anyV, anyV, anyV, anyV, anyV, anyV, anyV, anyV, anyV, anyV, anyV, anyV, anyV, anyV, anyV, anyV, anyV, anyV, anyV, anyV, anyV, anyV, anyV, anyV, anyV, anyV, anyV, anyV, anyV, anyV],
 [.cells [.int .i64 v1, .int .i64 v2, .fr (.ts v3)], .cells [.int .i64 v4, .int .i64 v5, .fr (.ts v6)]]⟩
theorem L_spec_TermSame_0_eq (n c : Nat) (v0 v1 v2 : Int) (v3 : List T) (v4 v5 : Int) (v6 : List T) : L_spec_TermSame_0 n (c + 1) v0 v1 v2 v3 v4 v5 v6 =
 (cond (decide (v0 < (v3.length : Int)))
 (cond (decide (0 ≤ v0))
 (v3[(v0 : Int).toNat]?.bind fun x0 =>
 (cond (decide (0 ≤ v0))
 (v6[(v0 : Int).toNat]?.bind fun x1 =>
 ((FF n 26 [.agg [.int .i64 x0.k, .int .i64 x0.n, .fr (.ts x0.kids)], .agg [.int .i64 x1.k, .int .i64 x1.n, .fr (.ts x1.kids)]] []).bind fun x2 =>
 (rBool x2.1 fun x3 x4 =>
 (nilV x4 (nilO x2.2
 (cond (!x3)
 (some ([.one (.bool false)], []))
 (L_spec_TermSame_0 n c (IntKind.i64.wrap (v0 + 1)) v1 v2 v3 v4 v5 v6)))))))
 none))
 none)
 (some ([.one (.bool true)], []))) := by kernel_rfl
theorem E_spec_TermSame (n : Nat) (v0 v1 : Int) (v2 : List T) (v3 v4 : Int) (v5 : List T) : FF (n + 1) 26 [.agg [.int .i64 v0, .int .i64 v1, .fr (.ts v2)], .agg [.int .i64 v3, .int .i64 v4, .fr (.ts v5)]] [] =
 (cond (!decide (v0 = v3))
 (some ([.one (.bool false)], []))
 (cond (!decide (v1 = v4))
 (some ([.one (.bool false)], []))
 (cond (!decide ((v2.length : Int) = (v5.length : Int)))
 (some ([.one (.bool false)], []))
 (L_spec_TermSame_0 n n 0 v0 v1 v2 v3 v4 v5)))) := by kernel_rfl
theorem E_impl_ParseNamed (n : Nat) (v0 v1 : ByteArray) : FF (n + 1) 27 [.one (.str v0), .one (.str v1)] [] =
 ((FF n 20 [.one (.str v1)] []).bind fun x0 =>
 (rBool x0.1 fun x1 x2 =>
 (nilV x2 (nilO x0.2
 (cond (!x1)
 (some ([.agg [.int .i64 0, .int .i64 0, .fr (.ts [])], .one (.bool false)], []))
 ((FF n 50 [.one (.str v0), .one (.str v1), .one (.int .i64 1)] []).bind fun x3 =>
 (rTerm x3.1 fun x4 x5 =>
 (rStr x5 fun x6 x7 =>
 (rBool x7 fun x8 x9 =>
 (nilV x9 (nilO x3.2
 (cond (!x8)
 (some ([.agg [.int .i64 0, .int .i64 0, .fr (.ts [])], .one (.bool false)], []))
 (cond (!(x6.toList == (bytesOf []).toList))
 (some ([.agg [.int .i64 0, .int .i64 0, .fr (.ts [])], .one (.bool false)], []))
 ((FF n 51 [.agg [.int .i64 x4.k, .int .i64 x4.n, .fr (.ts x4.kids)]] []).bind fun x10 =>
 (rTerm x10.1 fun x11 x12 =>
 (rBool x12 fun x13 x14 =>
 (nilV x14 (nilO x10.2
 (some ([.agg [.int .i64 x11.k, .int .i64 x11.n, .fr (.ts x11.kids)], .one (.bool x13)], [])))))))))))))))))))) := by kernel_rfl
theorem E_impl_TermSame (n : Nat) (v0 v1 : Int) (v2 : List T) (v3 v4 : Int) (v5 : List T) : FF (n + 1) 28 [.agg [.int .i64 v0, .int .i64 v1, .fr (.ts v2)], .agg [.int .i64 v3, .int .i64 v4, .fr (.ts v5)]] [] =
 (cond (decide (v0 = v3))
 (cond (decide (v1 = v4))
 ((FF n 52 [.one (.fr (.ts v2)), .one (.fr (.ts v5)), .one (.fn 28 [])] []).bind fun x0 =>
 (rBool x0.1 fun x1 x2 =>
 (nilV x2 (nilO x0.2
 (some ([.one (.bool x1)], []))))))
 (some ([.one (.bool false)], [])))
 (some ([.one (.bool false)], []))) := by kernel_rfl
noncomputable def L_spec_l1Shape_0 (n c : Nat) (v0 v1 v2 v3 : Int) (v4 : List T) : OR := runLoop Tryd.prog SS n 29 0 [1, 1, 0, 1, 0] [] c ⟨[anyV, .v (.one (.int .i64 v0)), .v (.one (.ptr 0 0)), anyV, anyV, .v (.one (.int .i64 v1)), anyV, anyV, anyV, anyV, anyV, anyV, anyV, anyV, anyV, anyV, anyV, anyV, anyV, anyV, anyV, anyV, anyV, anyV, anyV, anyV, anyV, anyV, anyV, anyV, anyV, anyV, anyV, anyV, anyV, anyV, anyV, anyV, anyV, anyV, anyV, anyV, anyV, anyV, anyV, anyV],
 [.cells [.int .i64 v2, .int .i64 v3, .fr (.ts v4)]]⟩
theorem L_spec_l1Shape_0_eq (n c : Nat) (v0 v1 v2 v3 : Int) (v4 : List T) : L_spec_l1Shape_0 n (c + 1) v0 v1 v2 v3 v4 =
 (cond (decide (v1 < (v4.length : Int)))
 (cond (decide (0 ≤ v1))
 (v4[(v1 : Int).toNat]?.bind fun x0 =>
 ((FF n 29 [.agg [.int .i64 x0.k, .int .i64 x0.n, .fr (.ts x0.kids)], .one (.int .i64 (IntKind.i64.wrap (v0 - 1)))] []).bind fun x1 =>
 (rBool x1.1 fun x2 x3 =>
 (nilV x3 (nilO x1.2
 (cond (!x2)
 (some ([.one (.bool false)], []))
 (L_spec_l1Shape_0 n c v0 (IntKind.i64.wrap (v1 + 1)) v2 v3 v4)))))))
 none)
 (some ([.one (.bool true)], []))) := by kernel_rfl
theorem E_spec_l1Shape (n : Nat) (v0 v1 : Int) (v2 : List T) (v3 : Int) : FF (n + 1) 29 [.agg [.int .i64 v0, .int .i64 v1, .fr (.ts v2)], .one (.int .i64 v3)] [] =
 (cond (decide (v3 < 1))
 (some ([.one (.bool false)], []))
 ((FF n 53 [.one (.int .i64 v0)] []).bind fun x0 =>
 (rInt .i64 x0.1 fun x1 x2 =>
 (nilV x2 (nilO x0.2
 (cond (!decide (x1 = (v2.length : Int)))
 (some ([.one (.bool false)], []))
 (cond (decide (v1 < 0))
 (some ([.one (.bool false)], []))
 ((FF n 54 [.one (.int .i64 v0)] []).bind fun x3 =>
 (rInt .i64 x3.1 fun x4 x5 =>
 (nilV x5 (nilO x3.2
 (cond (decide (x4 < v1))
 (some ([.one (.bool false)], []))
 (L_spec_l1Shape_0 n n v3 0 v0 v1 v2))))))))))))) := by kernel_rfl
noncomputable def L_spec_l1Count_0 (n c : Nat) (v0 v1 v2 v3 v4 : Int) (v5 : List T) : OR := runLoop Tryd.prog SS n 30 0 [1, 1, 0, 1, 0] [] c ⟨[anyV, .v (.one (.int .i64 v0)), .v (.one (.ptr 0 0)), anyV, anyV, .v (.one (.int .i64 v1)), .v (.one (.int .i64 v2)), anyV, anyV, anyV, anyV, anyV, anyV, anyV, anyV, anyV, anyV, anyV, anyV, anyV, anyV, anyV, anyV, anyV, anyV, anyV, anyV, anyV, anyV, anyV, anyV],
 [.cells [.int .i64 v3, .int .i64 v4, .fr (.ts v5)]]⟩
theorem L_spec_l1Count_0_eq (n c : Nat) (v0 v1 v2 v3 v4 : Int) (v5 : List T) : L_spec_l1Count_0 n (c + 1) v0 v1 v2 v3 v4 v5 =
 (cond (decide (v2 < (v5.length : Int)))
 (cond (decide (v1 ≤ v0))
 (cond (decide (0 ≤ v2))
 (v5[(v2 : Int).toNat]?.bind fun x0 =>
 ((FF n 30 [.agg [.int .i64 x0.k, .int .i64 x0.n, .fr (.ts x0.kids)], .one (.int .i64 (IntKind.i64.wrap (v0 - v1)))] []).bind fun x1 =>
 (rInt .i64 x1.1 fun x2 x3 =>
 (nilV x3 (nilO x1.2
 (L_spec_l1Count_0 n c v0 (IntKind.i64.wrap (v1 + x2)) (IntKind.i64.wrap (v2 + 1)) v3 v4 v5))))))
 none)
 (some ([.one (.int .i64 v1)], [])))
 (some ([.one (.int .i64 v1)], []))) := by kernel_rfl
theorem E_spec_l1Count (n : Nat) (v0 v1 : Int) (v2 : List T) (v3 : Int) : FF (n + 1) 30 [.agg [.int .i64 v0, .int .i64 v1, .fr (.ts v2)], .one (.int .i64 v3)] [] =
 L_spec_l1Count_0 n n v3 1 0 v0 v1 v2 := by kernel_rfl
theorem E_spec_l6Letter (n : Nat) (v0 : Int) : FF (n + 1) 31 [.one (.int .u8 v0)] [] =
 (cond (decide (97 ≤ v0))
 (some ([.one (.bool (decide (v0 ≤ 122)))], []))
 (some ([.one (.bool false)], []))) := by kernel_rfl
noncomputable def L_spec_l6Find_0 (n c : Nat) (v0 : ByteArray) (v1 v2 : Int) : OR := runLoop Tryd.prog SS n 32 0 [1, 0, 1, 0] [] c ⟨[.v (.one (.str v0)), .v (.one (.int .u8 v1)), anyV, anyV, anyV, .v (.one (.int .i64 v2)), anyV, anyV, anyV, anyV, anyV, anyV, anyV, anyV, anyV, anyV, anyV, anyV, anyV, anyV, anyV, anyV, anyV],
 []⟩
theorem L_spec_l6Find_0_eq (n c : Nat) (v0 : ByteArray) (v1 v2 : Int) : L_spec_l6Find_0 n (c + 1) v0 v1 v2 =
 (cond (decide (0 ≤ v2))
 (cond (decide (0 ≤ v2) && decide (v2 < ((v0.size : Nat) : Int)))
 (cond (decide (((byteAt v0 (v2 : Int).toNat).toNat : Int) = v1))
 (some ([.one (.int .i64 (IntKind.i64.wrap ((IntKind.i64.wrap ((v0.size : Int) - 1)) - v2)))], []))
 (L_spec_l6Find_0 n c v0 v1 (IntKind.i64.wrap (v2 - 1))))
 none)
 (some ([.one (.int .i64 (-1))], []))) := by kernel_rfl
theorem E_spec_l6Find (n : Nat) (v0 : ByteArray) (v1 : Int) : FF (n + 1) 32 [.one (.str v0), .one (.int .u8 v1)] [] =
 L_spec_l6Find_0 n n v0 v1 (IntKind.i64.wrap ((v0.size : Int) - 1)) := by kernel_rfl
noncomputable def L_impl_scan_0 (n c : Nat) (v0 : Int) (v1 : List T) (v2 v3 v4 : Int) : OR := runLoop Tryd.prog SS n 38 1 [1, 1, 1, 0, 1, 0] [] c ⟨[anyV, .v (.one (.int .i64 v0)), .v (.one (.ptr 0 0)), anyV, anyV, anyV, anyV, anyV, anyV, anyV, anyV, anyV, anyV, anyV, anyV, anyV, anyV, anyV, anyV, anyV, anyV, anyV, anyV, anyV, anyV, anyV, anyV, anyV, anyV, anyV, anyV, anyV, anyV, anyV, anyV, anyV, anyV, anyV, anyV, anyV, anyV, .v (.one (.fr (.ts v1))), .v (.one (.int .i64 v2)), .v (.one (.int .i64 v3)), anyV, anyV, anyV, anyV, anyV, anyV, anyV, anyV, anyV, anyV],
 [.cells [.int .i64 v4]]⟩
theorem L_impl_scan_0_eq (n c : Nat) (v0 : Int) (v1 : List T) (v2 v3 v4 : Int) : L_impl_scan_0 n (c + 1) v0 v1 v2 v3 v4 =
 (cond (decide (v3 < v2))
 (cond (decide (0 ≤ v3))
 (v1[(v3 : Int).toNat]?.bind fun x0 =>
 ((FF n 38 [.agg [.int .i64 x0.k, .int .i64 x0.n, .fr (.ts x0.kids)], .one (.int .i64 (IntKind.i64.wrap (v0 + 1))), .one (.ptr 0 0)] [.cells [.int .i64 v4]]).bind fun x1 =>
 (objC x1.2 fun x2 x3 =>
 (intC .i64 x2 fun x4 x5 =>
 (nilC x5
 (rBool x1.1 fun x6 x7 =>
 (nilV x7 (nilO x3
 (cond (!x6)
 (some ([.one (.bool false)], [.cells [.int .i64 x4]]))
 (L_impl_scan_0 n c v0 v1 v2 (IntKind.i64.wrap (v3 + 1)) x4))))))))))
 none)
 (some ([.one (.bool true)], [.cells [.int .i64 v4]]))) := by kernel_rfl
theorem E_impl_scan (n : Nat) (v0 v1 : Int) (v2 : List T) (v3 v4 : Int) : FF (n + 1) 38 [.agg [.int .i64 v0, .int .i64 v1, .fr (.ts v2)], .one (.int .i64 v3), .one (.ptr 0 0)] [.cells [.int .i64 v4]] =
 (cond (decide (400 < (IntKind.i64.wrap (v4 + 1))))
 (some ([.one (.bool false)], [.cells [.int .i64 (IntKind.i64.wrap (v4 + 1))]]))
 (cond (decide (30 < v3))
 (some ([.one (.bool false)], [.cells [.int .i64 (IntKind.i64.wrap (v4 + 1))]]))
 ((FF n 59 [.one (.int .i64 v0)] []).bind fun x0 =>
 (rInt .i64 x0.1 fun x1 x2 =>
 (nilV x2 (nilO x0.2
 (cond (!decide (x1 = (v2.length : Int)))
 (some ([.one (.bool false)], [.cells [.int .i64 (IntKind.i64.wrap (v4 + 1))]]))
 ((FF n 61 [.one (.int .i64 v0)] []).bind fun x3 =>
 (rInt .i64 x3.1 fun x4 x5 =>
 (nilV x5 (nilO x3.2
 ((FF n 60 [.one (.int .i64 v1), .one (.int .i64 0), .one (.int .i64 x4)] []).bind fun x6 =>
 (rBool x6.1 fun x7 x8 =>
 (nilV x8 (nilO x6.2
 (cond (!x7)
 (some ([.one (.bool false)], [.cells [.int .i64 (IntKind.i64.wrap (v4 + 1))]]))
 (L_impl_scan_0 n n v3 v2 ((v2.length : Int) : Int) 0 (IntKind.i64.wrap (v4 + 1))))))))))))))))))) := by kernel_rfl
theorem E_impl_isLetter (n : Nat) (v0 : Int) : FF (n + 1) 39 [.one (.int .u8 v0)] [] =
 (cond (decide (97 ≤ v0))
 (some ([.one (.bool (decide (v0 ≤ 122)))], []))
 (some ([.one (.bool false)], []))) := by kernel_rfl
theorem E_strings_IndexByte (n : Nat) (v0 : ByteArray) (v1 : Int) : FF (n + 1) 40 [.one (.str v0), .one (.int .u8 v1)] [] =
 ((FF n 62 [.one (.str v0), .one (.int .u8 v1)] []).bind fun x0 =>
 (rInt .i64 x0.1 fun x1 x2 =>
 (nilV x2 (nilO x0.2
 (some ([.one (.int .i64 x1)], [])))))) := by kernel_rfl
end Go.Proofs.YtnogehmgpfpjmaaDoor
end
section
namespace Go.Proofs.YtnogehmgpfpjmaaDoor
open Go Go.Ab Go.Dk
theorem E_impl_shapes (n : Nat) : FF (n + 1) 46 [] [] =
 some ([.one (.fr (.ss [(bytesOf [35]), (bytesOf [42]), (bytesOf [40, 46, 62, 46, 41]), (bytesOf [91, 46, 93, 46]), (bytesOf [40, 46, 32, 46, 41]), (bytesOf [78]), (bytesOf [48]), (bytesOf [43, 46]), (bytesOf [60, 46, 44, 46, 44, 46, 44, 46, 62]), (bytesOf [123, 46, 44, 46, 44, 46, 125]), (bytesOf [33, 46]), (bytesOf [64, 60, 46, 44, 46, 44, 46, 62]), (bytesOf [40, 46, 42, 46, 41]), (bytesOf [124, 46, 44, 46, 44, 46, 124]), (bytesOf [94, 46]), (bytesOf [95, 46])]))], []) := by kernel_rfl
theorem E_impl_isBinder (n : Nat) (v0 : Int) : FF (n + 1) 47 [.one (.int .i64 v0)] [] =
 (cond (decide (v0 = 3))
 (some ([.one (.bool true)], []))
 (cond (decide (v0 = 4))
 (some ([.one (.bool true)], []))
 (some ([.one (.bool (decide (v0 = 13)))], [])))) := by kernel_rfl
theorem E_spec_l6Parse (n : Nat) (v0 : ByteArray) (v1 : Int) (v2 : ByteArray) (v3 : Int) : FF (n + 1) 49 [.one (.str v0), .one (.int .i64 v1), .one (.str v2), .one (.int .i64 v3)] [] =
 (cond (decide (v3 < 1))
 (some ([.agg [.int .i64 0, .int .i64 0, .fr (.ts [])], .one (.int .i64 (-1))], []))
 (cond (decide (v1 < 0))
 (some ([.agg [.int .i64 0, .int .i64 0, .fr (.ts [])], .one (.int .i64 (-1))], []))
 (cond (decide ((v0.size : Int) ≤ v1))
 (some ([.agg [.int .i64 0, .int .i64 0, .fr (.ts [])], .one (.int .i64 (-1))], []))
 (cond (decide (0 ≤ v1) && decide (v1 < ((v0.size : Nat) : Int)))
 (cond (decide (((byteAt v0 (v1 : Int).toNat).toNat : Int) = 42))
 ((FF n 65 [.one (.str v0), .one (.int .i64 v1), .one (.int .i64 v3)] []).bind fun x0 =>
 (rTerm x0.1 fun x1 x2 =>
 (rInt .i64 x2 fun x3 x4 =>
 (nilV x4 (nilO x0.2
 (some ([.agg [.int .i64 x1.k, .int .i64 x1.n, .fr (.ts x1.kids)], .one (.int .i64 x3)], [])))))))
 (cond (decide (((byteAt v0 (v1 : Int).toNat).toNat : Int) = 78))
 ((FF n 65 [.one (.str v0), .one (.int .i64 v1), .one (.int .i64 v3)] []).bind fun x0 =>
 (rTerm x0.1 fun x1 x2 =>
 (rInt .i64 x2 fun x3 x4 =>
 (nilV x4 (nilO x0.2
 (some ([.agg [.int .i64 x1.k, .int .i64 x1.n, .fr (.ts x1.kids)], .one (.int .i64 x3)], [])))))))
 (cond (decide (((byteAt v0 (v1 : Int).toNat).toNat : Int) = 48))
 ((FF n 65 [.one (.str v0), .one (.int .i64 v1), .one (.int .i64 v3)] []).bind fun x0 =>
 (rTerm x0.1 fun x1 x2 =>
 (rInt .i64 x2 fun x3 x4 =>
 (nilV x4 (nilO x0.2
 (some ([.agg [.int .i64 x1.k, .int .i64 x1.n, .fr (.ts x1.kids)], .one (.int .i64 x3)], [])))))))
 (cond (decide (((byteAt v0 (v1 : Int).toNat).toNat : Int) = 43))
 ((FF n 49 [.one (.str v0), .one (.int .i64 (IntKind.i64.wrap (v1 + 1))), .one (.str v2), .one (.int .i64 (IntKind.i64.wrap (v3 - 1)))] []).bind fun x0 =>
 (rTerm x0.1 fun x1 x2 =>
 (rInt .i64 x2 fun x3 x4 =>
 (nilV x4 (nilO x0.2
 (cond (decide (((byteAt v0 (v1 : Int).toNat).toNat : Int) = 33))
 ((FF n 66 [.one (.int .i64 11), .one (.fr (.ts [(T.mk x1.k x1.n x1.kids)]))] []).bind fun x5 =>
 (rTerm x5.1 fun x6 x7 =>
 (nilV x7 (nilO x5.2
 (some ([.agg [.int .i64 x6.k, .int .i64 x6.n, .fr (.ts x6.kids)], .one (.int .i64 x3)], []))))))
 (cond (decide (((byteAt v0 (v1 : Int).toNat).toNat : Int) = 94))
 ((FF n 66 [.one (.int .i64 15), .one (.fr (.ts [(T.mk x1.k x1.n x1.kids)]))] []).bind fun x5 =>
 (rTerm x5.1 fun x6 x7 =>
 (nilV x7 (nilO x5.2
 (some ([.agg [.int .i64 x6.k, .int .i64 x6.n, .fr (.ts x6.kids)], .one (.int .i64 x3)], []))))))
 (cond (decide (((byteAt v0 (v1 : Int).toNat).toNat : Int) = 95))
 ((FF n 66 [.one (.int .i64 16), .one (.fr (.ts [(T.mk x1.k x1.n x1.kids)]))] []).bind fun x5 =>
 (rTerm x5.1 fun x6 x7 =>
 (nilV x7 (nilO x5.2
 (some ([.agg [.int .i64 x6.k, .int .i64 x6.n, .fr (.ts x6.kids)], .one (.int .i64 x3)], []))))))
 ((FF n 66 [.one (.int .i64 8), .one (.fr (.ts [(T.mk x1.k x1.n x1.kids)]))] []).bind fun x5 =>
 (rTerm x5.1 fun x6 x7 =>
 (nilV x7 (nilO x5.2
 (some ([.agg [.int .i64 x6.k, .int .i64 x6.n, .fr (.ts x6.kids)], .one (.int .i64 x3)], []))))))))))))))
 (cond (decide (((byteAt v0 (v1 : Int).toNat).toNat : Int) = 33))
 ((FF n 49 [.one (.str v0), .one (.int .i64 (IntKind.i64.wrap (v1 + 1))), .one (.str v2), .one (.int .i64 (IntKind.i64.wrap (v3 - 1)))] []).bind fun x0 =>
 (rTerm x0.1 fun x1 x2 =>
 (rInt .i64 x2 fun x3 x4 =>
 (nilV x4 (nilO x0.2
 (cond (decide (((byteAt v0 (v1 : Int).toNat).toNat : Int) = 33))
 ((FF n 66 [.one (.int .i64 11), .one (.fr (.ts [(T.mk x1.k x1.n x1.kids)]))] []).bind fun x5 =>
 (rTerm x5.1 fun x6 x7 =>
 (nilV x7 (nilO x5.2
 (some ([.agg [.int .i64 x6.k, .int .i64 x6.n, .fr (.ts x6.kids)], .one (.int .i64 x3)], []))))))
 (cond (decide (((byteAt v0 (v1 : Int).toNat).toNat : Int) = 94))
 ((FF n 66 [.one (.int .i64 15), .one (.fr (.ts [(T.mk x1.k x1.n x1.kids)]))] []).bind fun x5 =>
 (rTerm x5.1 fun x6 x7 =>
 (nilV x7 (nilO x5.2
 (some ([.agg [.int .i64 x6.k, .int .i64 x6.n, .fr (.ts x6.kids)], .one (.int .i64 x3)], []))))))
 (cond (decide (((byteAt v0 (v1 : Int).toNat).toNat : Int) = 95))
 ((FF n 66 [.one (.int .i64 16), .one (.fr (.ts [(T.mk x1.k x1.n x1.kids)]))] []).bind fun x5 =>
 (rTerm x5.1 fun x6 x7 =>
 (nilV x7 (nilO x5.2
 (some ([.agg [.int .i64 x6.k, .int .i64 x6.n, .fr (.ts x6.kids)], .one (.int .i64 x3)], []))))))
 ((FF n 66 [.one (.int .i64 8), .one (.fr (.ts [(T.mk x1.k x1.n x1.kids)]))] []).bind fun x5 =>
 (rTerm x5.1 fun x6 x7 =>
 (nilV x7 (nilO x5.2
 (some ([.agg [.int .i64 x6.k, .int .i64 x6.n, .fr (.ts x6.kids)], .one (.int .i64 x3)], []))))))))))))))
 (cond (decide (((byteAt v0 (v1 : Int).toNat).toNat : Int) = 94))
 ((FF n 49 [.one (.str v0), .one (.int .i64 (IntKind.i64.wrap (v1 + 1))), .one (.str v2), .one (.int .i64 (IntKind.i64.wrap (v3 - 1)))] []).bind fun x0 =>
 (rTerm x0.1 fun x1 x2 =>
 (rInt .i64 x2 fun x3 x4 =>
 (nilV x4 (nilO x0.2
 (cond (decide (((byteAt v0 (v1 : Int).toNat).toNat : Int) = 33))
 ((FF n 66 [.one (.int .i64 11), .one (.fr (.ts [(T.mk x1.k x1.n x1.kids)]))] []).bind fun x5 =>
 (rTerm x5.1 fun x6 x7 =>
 (nilV x7 (nilO x5.2
 (some ([.agg [.int .i64 x6.k, .int .i64 x6.n, .fr (.ts x6.kids)], .one (.int .i64 x3)], []))))))
 (cond (decide (((byteAt v0 (v1 : Int).toNat).toNat : Int) = 94))
 ((FF n 66 [.one (.int .i64 15), .one (.fr (.ts [(T.mk x1.k x1.n x1.kids)]))] []).bind fun x5 =>
 (rTerm x5.1 fun x6 x7 =>
 (nilV x7 (nilO x5.2
 (some ([.agg [.int .i64 x6.k, .int .i64 x6.n, .fr (.ts x6.kids)], .one (.int .i64 x3)], []))))))
 (cond (decide (((byteAt v0 (v1 : Int).toNat).toNat : Int) = 95))
 ((FF n 66 [.one (.int .i64 16), .one (.fr (.ts [(T.mk x1.k x1.n x1.kids)]))] []).bind fun x5 =>
 (rTerm x5.1 fun x6 x7 =>
 (nilV x7 (nilO x5.2
 (some ([.agg [.int .i64 x6.k, .int .i64 x6.n, .fr (.ts x6.kids)], .one (.int .i64 x3)], []))))))
 ((FF n 66 [.one (.int .i64 8), .one (.fr (.ts [(T.mk x1.k x1.n x1.kids)]))] []).bind fun x5 =>
 (rTerm x5.1 fun x6 x7 =>
 (nilV x7 (nilO x5.2
 (some ([.agg [.int .i64 x6.k, .int .i64 x6.n, .fr (.ts x6.kids)], .one (.int .i64 x3)], []))))))))))))))
 (cond (decide (((byteAt v0 (v1 : Int).toNat).toNat : Int) = 95))
 ((FF n 49 [.one (.str v0), .one (.int .i64 (IntKind.i64.wrap (v1 + 1))), .one (.str v2), .one (.int .i64 (IntKind.i64.wrap (v3 - 1)))] []).bind fun x0 =>
 (rTerm x0.1 fun x1 x2 =>
 (rInt .i64 x2 fun x3 x4 =>
 (nilV x4 (nilO x0.2
 (cond (decide (((byteAt v0 (v1 : Int).toNat).toNat : Int) = 33))
 ((FF n 66 [.one (.int .i64 11), .one (.fr (.ts [(T.mk x1.k x1.n x1.kids)]))] []).bind fun x5 =>
 (rTerm x5.1 fun x6 x7 =>
 (nilV x7 (nilO x5.2
 (some ([.agg [.int .i64 x6.k, .int .i64 x6.n, .fr (.ts x6.kids)], .one (.int .i64 x3)], []))))))
 (cond (decide (((byteAt v0 (v1 : Int).toNat).toNat : Int) = 94))
 ((FF n 66 [.one (.int .i64 15), .one (.fr (.ts [(T.mk x1.k x1.n x1.kids)]))] []).bind fun x5 =>
 (rTerm x5.1 fun x6 x7 =>
 (nilV x7 (nilO x5.2
 (some ([.agg [.int .i64 x6.k, .int .i64 x6.n, .fr (.ts x6.kids)], .one (.int .i64 x3)], []))))))
 (cond (decide (((byteAt v0 (v1 : Int).toNat).toNat : Int) = 95))
 ((FF n 66 [.one (.int .i64 16), .one (.fr (.ts [(T.mk x1.k x1.n x1.kids)]))] []).bind fun x5 =>
 (rTerm x5.1 fun x6 x7 =>
 (nilV x7 (nilO x5.2
 (some ([.agg [.int .i64 x6.k, .int .i64 x6.n, .fr (.ts x6.kids)], .one (.int .i64 x3)], []))))))
 ((FF n 66 [.one (.int .i64 8), .one (.fr (.ts [(T.mk x1.k x1.n x1.kids)]))] []).bind fun x5 =>
 (rTerm x5.1 fun x6 x7 =>
 (nilV x7 (nilO x5.2
 (some ([.agg [.int .i64 x6.k, .int .i64 x6.n, .fr (.ts x6.kids)], .one (.int .i64 x3)], []))))))))))))))
 (cond (decide (((byteAt v0 (v1 : Int).toNat).toNat : Int) = 40))
 ((FF n 67 [.one (.str v0), .one (.int .i64 (IntKind.i64.wrap (v1 + 1))), .one (.str v2), .one (.int .i64 (IntKind.i64.wrap (v3 - 1)))] []).bind fun x0 =>
 (rTerm x0.1 fun x1 x2 =>
 (rInt .i64 x2 fun x3 x4 =>
 (nilV x4 (nilO x0.2
 (some ([.agg [.int .i64 x1.k, .int .i64 x1.n, .fr (.ts x1.kids)], .one (.int .i64 x3)], [])))))))
 (cond (decide (((byteAt v0 (v1 : Int).toNat).toNat : Int) = 91))
 ((FF n 68 [.one (.str v0), .one (.int .i64 (IntKind.i64.wrap (v1 + 1))), .one (.str v2), .one (.int .i64 (IntKind.i64.wrap (v3 - 1)))] []).bind fun x0 =>
 (rTerm x0.1 fun x1 x2 =>
 (rInt .i64 x2 fun x3 x4 =>
 (nilV x4 (nilO x0.2
 (some ([.agg [.int .i64 x1.k, .int .i64 x1.n, .fr (.ts x1.kids)], .one (.int .i64 x3)], [])))))))
 ((FF n 31 [.one (.int .u8 ((byteAt v0 (v1 : Int).toNat).toNat : Int))] []).bind fun x0 =>
 (rBool x0.1 fun x1 x2 =>
 (nilV x2 (nilO x0.2
 (cond x1
 ((FF n 32 [.one (.str v2), .one (.int .u8 ((byteAt v0 (v1 : Int).toNat).toNat : Int))] []).bind fun x3 =>
 (rInt .i64 x3.1 fun x4 x5 =>
 (nilV x5 (nilO x3.2
 (cond (decide (x4 < 0))
 (some ([.agg [.int .i64 0, .int .i64 0, .fr (.ts [])], .one (.int .i64 (-1))], []))
 (cond (decide (20 < x4))
 (some ([.agg [.int .i64 0, .int .i64 0, .fr (.ts [])], .one (.int .i64 (-1))], []))
 ((FF n 69 [.one (.int .i64 1), .one (.int .i64 x4)] []).bind fun x6 =>
 (rTerm x6.1 fun x7 x8 =>
 (nilV x8 (nilO x6.2
 (some ([.agg [.int .i64 x7.k, .int .i64 x7.n, .fr (.ts x7.kids)], .one (.int .i64 (IntKind.i64.wrap (v1 + 1)))], []))))))))))))
 ((FF n 70 [.one (.str v0), .one (.int .i64 v1), .one (.str v2), .one (.int .i64 v3)] []).bind fun x3 =>
 (rTerm x3.1 fun x4 x5 =>
 (rInt .i64 x5 fun x6 x7 =>
 (nilV x7 (nilO x3.2
 (some ([.agg [.int .i64 x4.k, .int .i64 x4.n, .fr (.ts x4.kids)], .one (.int .i64 x6)], [])))))))))))))))))))))
 none)))) := by kernel_rfl
noncomputable def L_impl_readNamed_0_oo (n c : Nat) (v0 v1 : ByteArray) (v2 : Int) (v3 : List ByteArray) (v4 : ByteArray) (v5 : Bool) (v6 : ByteArray) (v7 : Bool) (v8 v9 v10 : Int) (v11 : List T) (v12 v13 : Int) (v14 : List T) : OR := runLoop Tryd.prog SS n 50 0 [1, 1, 1, 1, 1, 1, 1, 1, 1, 1, 1, 0, 1, 0] [] c ⟨[.v (.one (.str v0)), .v (.one (.str v1)), .v (.one (.int .i64 v2)), anyV, anyV, anyV, .v (.one (.ptr 0 0)), anyV, anyV, anyV, anyV, anyV, anyV, .v (.one (.fr (.ss v3))), .v (.one (.str v4)), .v (.one (.bool v5)), .v (.one (.str v6)), .v (.one (.bool v7)), .v (.one (.ptr 2 0)), .v (.one (.int .i64 v8)), anyV, anyV, anyV, anyV, anyV, anyV, anyV, anyV, anyV, anyV, anyV, anyV, anyV, anyV, anyV, anyV, anyV, anyV, anyV, anyV, anyV, anyV, anyV, anyV, anyV, anyV, anyV, anyV, anyV, anyV, anyV, anyV, anyV, anyV, anyV, anyV, anyV, anyV, anyV, anyV, anyV, anyV, anyV, anyV, anyV, anyV, anyV, anyV, anyV, anyV, anyV, anyV, anyV, anyV, anyV, anyV, anyV, anyV, anyV, anyV, anyV, anyV, anyV, anyV, anyV, anyV, anyV, anyV, anyV, anyV, anyV, anyV, anyV, anyV, anyV, anyV, anyV, anyV, anyV, anyV, anyV, anyV, anyV, anyV, anyV, anyV, anyV, anyV, anyV, anyV, anyV, anyV, anyV, anyV, anyV, anyV, anyV, anyV, anyV, anyV, anyV, anyV, anyV, anyV, anyV, anyV, anyV, anyV, anyV, anyV, anyV, anyV, anyV, anyV, anyV, anyV, anyV, anyV, anyV, anyV, anyV, anyV, anyV, anyV, anyV, anyV, anyV, anyV, anyV, anyV, anyV, anyV, anyV, anyV, anyV, anyV, anyV, anyV, anyV, anyV, anyV, anyV, anyV, anyV, anyV, anyV, anyV, anyV, anyV, anyV, anyV, anyV, anyV, anyV, anyV, anyV, anyV, anyV, anyV, anyV, anyV, anyV, anyV, anyV, anyV, anyV, anyV, anyV, anyV, anyV, anyV, anyV, anyV, anyV, anyV, anyV, anyV, anyV, anyV, anyV, anyV, anyV, anyV, anyV, anyV, anyV, anyV],
 [.cells [.int .i64 v9, .int .i64 v10, .own 1 0], .arr 29 (.ts v11) 0 false, .cells [.int .i64 v12, .int .i64 v13, .own 3 0], .arr 29 (.ts v14) 0 false]⟩
theorem L_impl_readNamed_0_oo_eq (n c : Nat) (v0 v1 : ByteArray) (v2 : Int) (v3 : List ByteArray) (v4 : ByteArray) (v5 : Bool) (v6 : ByteArray) (v7 : Bool) (v8 v9 v10 : Int) (v11 : List T) (v12 v13 : Int) (v14 : List T) : L_impl_readNamed_0_oo n (c + 1) v0 v1 v2 v3 v4 v5 v6 v7 v8 v9 v10 v11 v12 v13 v14 =
 (cond (decide (v8 < (v3.length : Int)))
 (cond v5
 (cond (decide (v8 = 2))
 ((FF n 47 [.one (.int .i64 v12)] []).bind fun x0 =>
 (rBool x0.1 fun x1 x2 =>
 (nilV x2 (nilO x0.2
 (cond x1
 ((FF n 50 [.one (.str v4), .one (.str v6), .one (.int .i64 (IntKind.i64.wrap (v2 + 1)))] []).bind fun x3 =>
 (rTerm x3.1 fun x4 x5 =>
 (rStr x5 fun x6 x7 =>
 (rBool x7 fun x8 x9 =>
 (nilV x9 (nilO x3.2
 (cond (!x8)
 (some ([.agg [.int .i64 0, .int .i64 0, .fr (.ts [])], .one (.str (bytesOf [])), .one (.bool false)], []))
 (cond (roomB (v14 ++ [(T.mk x4.k x4.n x4.kids)]).length)
 (cond (decide (0 ≤ 0) && decide (0 < ((v0.size : Nat) : Int)))
 (cond (decide (((byteAt v0 (0 : Int).toNat).toNat : Int) = 40))
 (cond (decide (v8 = 1))
 (cond (!(x6.toList == (bytesOf []).toList))
 (cond (decide (0 ≤ 0) && decide (0 < ((x6.size : Nat) : Int)))
 (cond (decide (((byteAt x6 (0 : Int).toNat).toNat : Int) = 32))
 ((FF n 46 [] []).bind fun x10 =>
 (rSs x10.1 fun x11 x12 =>
 (nilV x12 (nilO x10.2
 (x11[(4 : Int).toNat]?.bind fun x13 =>
 ((FF n 45 [.one (.str x13), .one (.str (bytesOf [46]))] []).bind fun x14 =>
 (rSs x14.1 fun x15 x16 =>
 (nilV x16 (nilO x14.2
 (cond (decide (0 ≤ v8))
 (x15[(v8 : Int).toNat]?.bind fun x17 =>
 ((FF n 77 [.one (.str x6), .one (.str x17)] []).bind fun x18 =>
 (rStr x18.1 fun x19 x20 =>
 (rBool x20 fun x21 x22 =>
 (nilV x22 (nilO x18.2
 (L_impl_readNamed_0_oo n c v0 v1 v2 x15 x19 x21 v6 v7 (IntKind.i64.wrap (v8 + 1)) v9 v10 v11 5 v13 (v14 ++ [(T.mk x4.k x4.n x4.kids)]))))))))
 none))))))))))
 (cond (decide (((byteAt x6 (0 : Int).toNat).toNat : Int) = 42))
 ((FF n 46 [] []).bind fun x10 =>
 (rSs x10.1 fun x11 x12 =>
 (nilV x12 (nilO x10.2
 (x11[(12 : Int).toNat]?.bind fun x13 =>
 ((FF n 45 [.one (.str x13), .one (.str (bytesOf [46]))] []).bind fun x14 =>
 (rSs x14.1 fun x15 x16 =>
 (nilV x16 (nilO x14.2
 (cond (decide (0 ≤ v8))
 (x15[(v8 : Int).toNat]?.bind fun x17 =>
 ((FF n 77 [.one (.str x6), .one (.str x17)] []).bind fun x18 =>
 (rStr x18.1 fun x19 x20 =>
 (rBool x20 fun x21 x22 =>
 (nilV x22 (nilO x18.2
 (L_impl_readNamed_0_oo n c v0 v1 v2 x15 x19 x21 v6 v7 (IntKind.i64.wrap (v8 + 1)) v9 v10 v11 13 v13 (v14 ++ [(T.mk x4.k x4.n x4.kids)]))))))))
 none))))))))))
 ((FF n 46 [] []).bind fun x10 =>
 (rSs x10.1 fun x11 x12 =>
 (nilV x12 (nilO x10.2
 (x11[(2 : Int).toNat]?.bind fun x13 =>
 ((FF n 45 [.one (.str x13), .one (.str (bytesOf [46]))] []).bind fun x14 =>
 (rSs x14.1 fun x15 x16 =>
 (nilV x16 (nilO x14.2
 (cond (decide (0 ≤ v8))
 (x15[(v8 : Int).toNat]?.bind fun x17 =>
 ((FF n 77 [.one (.str x6), .one (.str x17)] []).bind fun x18 =>
 (rStr x18.1 fun x19 x20 =>
 (rBool x20 fun x21 x22 =>
 (nilV x22 (nilO x18.2
 (L_impl_readNamed_0_oo n c v0 v1 v2 x15 x19 x21 v6 v7 (IntKind.i64.wrap (v8 + 1)) v9 v10 v11 3 v13 (v14 ++ [(T.mk x4.k x4.n x4.kids)]))))))))
 none))))))))))))
 none)
 (cond (decide (0 ≤ v8))
 (v3[(v8 : Int).toNat]?.bind fun x10 =>
 ((FF n 77 [.one (.str x6), .one (.str x10)] []).bind fun x11 =>
 (rStr x11.1 fun x12 x13 =>
 (rBool x13 fun x14 x15 =>
 (nilV x15 (nilO x11.2
 (L_impl_readNamed_0_oo n c v0 v1 v2 v3 x12 x14 v6 v7 (IntKind.i64.wrap (v8 + 1)) v9 v10 v11 v12 v13 (v14 ++ [(T.mk x4.k x4.n x4.kids)]))))))))
 none))
 (cond (decide (0 ≤ v8))
 (v3[(v8 : Int).toNat]?.bind fun x10 =>
 ((FF n 77 [.one (.str x6), .one (.str x10)] []).bind fun x11 =>
 (rStr x11.1 fun x12 x13 =>
 (rBool x13 fun x14 x15 =>
 (nilV x15 (nilO x11.2
 (L_impl_readNamed_0_oo n c v0 v1 v2 v3 x12 x14 v6 v7 (IntKind.i64.wrap (v8 + 1)) v9 v10 v11 v12 v13 (v14 ++ [(T.mk x4.k x4.n x4.kids)]))))))))
 none))
 (cond (decide (0 ≤ v8))
 (v3[(v8 : Int).toNat]?.bind fun x10 =>
 ((FF n 77 [.one (.str x6), .one (.str x10)] []).bind fun x11 =>
 (rStr x11.1 fun x12 x13 =>
 (rBool x13 fun x14 x15 =>
 (nilV x15 (nilO x11.2
 (L_impl_readNamed_0_oo n c v0 v1 v2 v3 x12 x14 v6 v7 (IntKind.i64.wrap (v8 + 1)) v9 v10 v11 v12 v13 (v14 ++ [(T.mk x4.k x4.n x4.kids)]))))))))
 none))
 none)
 none))))))))
 ((FF n 50 [.one (.str v4), .one (.str v1), .one (.int .i64 (IntKind.i64.wrap (v2 + 1)))] []).bind fun x3 =>
 (rTerm x3.1 fun x4 x5 =>
 (rStr x5 fun x6 x7 =>
 (rBool x7 fun x8 x9 =>
 (nilV x9 (nilO x3.2
 (cond (!x8)
 (some ([.agg [.int .i64 0, .int .i64 0, .fr (.ts [])], .one (.str (bytesOf [])), .one (.bool false)], []))
 (cond (roomB (v14 ++ [(T.mk x4.k x4.n x4.kids)]).length)
 (cond (decide (0 ≤ 0) && decide (0 < ((v0.size : Nat) : Int)))
 (cond (decide (((byteAt v0 (0 : Int).toNat).toNat : Int) = 40))
 (cond (decide (v8 = 1))
 (cond (!(x6.toList == (bytesOf []).toList))
 (cond (decide (0 ≤ 0) && decide (0 < ((x6.size : Nat) : Int)))
 (cond (decide (((byteAt x6 (0 : Int).toNat).toNat : Int) = 32))
 ((FF n 46 [] []).bind fun x10 =>
 (rSs x10.1 fun x11 x12 =>
 (nilV x12 (nilO x10.2
 (x11[(4 : Int).toNat]?.bind fun x13 =>
 ((FF n 45 [.one (.str x13), .one (.str (bytesOf [46]))] []).bind fun x14 =>
 (rSs x14.1 fun x15 x16 =>
 (nilV x16 (nilO x14.2
 (cond (decide (0 ≤ v8))
 (x15[(v8 : Int).toNat]?.bind fun x17 =>
 ((FF n 77 [.one (.str x6), .one (.str x17)] []).bind fun x18 =>
 (rStr x18.1 fun x19 x20 =>
 (rBool x20 fun x21 x22 =>
 (nilV x22 (nilO x18.2
 (L_impl_readNamed_0_oo n c v0 v1 v2 x15 x19 x21 v6 v7 (IntKind.i64.wrap (v8 + 1)) v9 v10 v11 5 v13 (v14 ++ [(T.mk x4.k x4.n x4.kids)]))))))))
 none))))))))))
 (cond (decide (((byteAt x6 (0 : Int).toNat).toNat : Int) = 42))
 ((FF n 46 [] []).bind fun x10 =>
 (rSs x10.1 fun x11 x12 =>
 (nilV x12 (nilO x10.2
 (x11[(12 : Int).toNat]?.bind fun x13 =>
 ((FF n 45 [.one (.str x13), .one (.str (bytesOf [46]))] []).bind fun x14 =>
 (rSs x14.1 fun x15 x16 =>
 (nilV x16 (nilO x14.2
 (cond (decide (0 ≤ v8))
 (x15[(v8 : Int).toNat]?.bind fun x17 =>
 ((FF n 77 [.one (.str x6), .one (.str x17)] []).bind fun x18 =>
 (rStr x18.1 fun x19 x20 =>
 (rBool x20 fun x21 x22 =>
 (nilV x22 (nilO x18.2
 (L_impl_readNamed_0_oo n c v0 v1 v2 x15 x19 x21 v6 v7 (IntKind.i64.wrap (v8 + 1)) v9 v10 v11 13 v13 (v14 ++ [(T.mk x4.k x4.n x4.kids)]))))))))
 none))))))))))
 ((FF n 46 [] []).bind fun x10 =>
 (rSs x10.1 fun x11 x12 =>
 (nilV x12 (nilO x10.2
 (x11[(2 : Int).toNat]?.bind fun x13 =>
 ((FF n 45 [.one (.str x13), .one (.str (bytesOf [46]))] []).bind fun x14 =>
 (rSs x14.1 fun x15 x16 =>
 (nilV x16 (nilO x14.2
 (cond (decide (0 ≤ v8))
 (x15[(v8 : Int).toNat]?.bind fun x17 =>
 ((FF n 77 [.one (.str x6), .one (.str x17)] []).bind fun x18 =>
 (rStr x18.1 fun x19 x20 =>
 (rBool x20 fun x21 x22 =>
 (nilV x22 (nilO x18.2
 (L_impl_readNamed_0_oo n c v0 v1 v2 x15 x19 x21 v6 v7 (IntKind.i64.wrap (v8 + 1)) v9 v10 v11 3 v13 (v14 ++ [(T.mk x4.k x4.n x4.kids)]))))))))
 none))))))))))))
 none)
 (cond (decide (0 ≤ v8))
 (v3[(v8 : Int).toNat]?.bind fun x10 =>
 ((FF n 77 [.one (.str x6), .one (.str x10)] []).bind fun x11 =>
 (rStr x11.1 fun x12 x13 =>
 (rBool x13 fun x14 x15 =>
 (nilV x15 (nilO x11.2
 (L_impl_readNamed_0_oo n c v0 v1 v2 v3 x12 x14 v6 v7 (IntKind.i64.wrap (v8 + 1)) v9 v10 v11 v12 v13 (v14 ++ [(T.mk x4.k x4.n x4.kids)]))))))))
 none))
 (cond (decide (0 ≤ v8))
 (v3[(v8 : Int).toNat]?.bind fun x10 =>
 ((FF n 77 [.one (.str x6), .one (.str x10)] []).bind fun x11 =>
 (rStr x11.1 fun x12 x13 =>
 (rBool x13 fun x14 x15 =>
 (nilV x15 (nilO x11.2
 (L_impl_readNamed_0_oo n c v0 v1 v2 v3 x12 x14 v6 v7 (IntKind.i64.wrap (v8 + 1)) v9 v10 v11 v12 v13 (v14 ++ [(T.mk x4.k x4.n x4.kids)]))))))))
 none))
 (cond (decide (0 ≤ v8))
 (v3[(v8 : Int).toNat]?.bind fun x10 =>
 ((FF n 77 [.one (.str x6), .one (.str x10)] []).bind fun x11 =>
 (rStr x11.1 fun x12 x13 =>
 (rBool x13 fun x14 x15 =>
 (nilV x15 (nilO x11.2
 (L_impl_readNamed_0_oo n c v0 v1 v2 v3 x12 x14 v6 v7 (IntKind.i64.wrap (v8 + 1)) v9 v10 v11 v12 v13 (v14 ++ [(T.mk x4.k x4.n x4.kids)]))))))))
 none))
 none)
 none)))))))))))))
 ((FF n 50 [.one (.str v4), .one (.str v1), .one (.int .i64 (IntKind.i64.wrap (v2 + 1)))] []).bind fun x0 =>
 (rTerm x0.1 fun x1 x2 =>
 (rStr x2 fun x3 x4 =>
 (rBool x4 fun x5 x6 =>
 (nilV x6 (nilO x0.2
 (cond (!x5)
 (some ([.agg [.int .i64 0, .int .i64 0, .fr (.ts [])], .one (.str (bytesOf [])), .one (.bool false)], []))
 (cond (roomB (v14 ++ [(T.mk x1.k x1.n x1.kids)]).length)
 (cond (decide (0 ≤ 0) && decide (0 < ((v0.size : Nat) : Int)))
 (cond (decide (((byteAt v0 (0 : Int).toNat).toNat : Int) = 40))
 (cond (decide (v8 = 1))
 (cond (!(x3.toList == (bytesOf []).toList))
 (cond (decide (0 ≤ 0) && decide (0 < ((x3.size : Nat) : Int)))
 (cond (decide (((byteAt x3 (0 : Int).toNat).toNat : Int) = 32))
 ((FF n 46 [] []).bind fun x7 =>
 (rSs x7.1 fun x8 x9 =>
 (nilV x9 (nilO x7.2
 (x8[(4 : Int).toNat]?.bind fun x10 =>
 ((FF n 45 [.one (.str x10), .one (.str (bytesOf [46]))] []).bind fun x11 =>
 (rSs x11.1 fun x12 x13 =>
 (nilV x13 (nilO x11.2
 (cond (decide (0 ≤ v8))
 (x12[(v8 : Int).toNat]?.bind fun x14 =>
 ((FF n 77 [.one (.str x3), .one (.str x14)] []).bind fun x15 =>
 (rStr x15.1 fun x16 x17 =>
 (rBool x17 fun x18 x19 =>
 (nilV x19 (nilO x15.2
 (L_impl_readNamed_0_oo n c v0 v1 v2 x12 x16 x18 v6 v7 (IntKind.i64.wrap (v8 + 1)) v9 v10 v11 5 v13 (v14 ++ [(T.mk x1.k x1.n x1.kids)]))))))))
 none))))))))))
 (cond (decide (((byteAt x3 (0 : Int).toNat).toNat : Int) = 42))
 ((FF n 46 [] []).bind fun x7 =>
 (rSs x7.1 fun x8 x9 =>
 (nilV x9 (nilO x7.2
 (x8[(12 : Int).toNat]?.bind fun x10 =>
 ((FF n 45 [.one (.str x10), .one (.str (bytesOf [46]))] []).bind fun x11 =>
 (rSs x11.1 fun x12 x13 =>
 (nilV x13 (nilO x11.2
 (cond (decide (0 ≤ v8))
 (x12[(v8 : Int).toNat]?.bind fun x14 =>
 ((FF n 77 [.one (.str x3), .one (.str x14)] []).bind fun x15 =>
 (rStr x15.1 fun x16 x17 =>
 (rBool x17 fun x18 x19 =>
 (nilV x19 (nilO x15.2
 (L_impl_readNamed_0_oo n c v0 v1 v2 x12 x16 x18 v6 v7 (IntKind.i64.wrap (v8 + 1)) v9 v10 v11 13 v13 (v14 ++ [(T.mk x1.k x1.n x1.kids)]))))))))
 none))))))))))
 ((FF n 46 [] []).bind fun x7 =>
 (rSs x7.1 fun x8 x9 =>
 (nilV x9 (nilO x7.2
 (x8[(2 : Int).toNat]?.bind fun x10 =>
 ((FF n 45 [.one (.str x10), .one (.str (bytesOf [46]))] []).bind fun x11 =>
 (rSs x11.1 fun x12 x13 =>
 (nilV x13 (nilO x11.2
 (cond (decide (0 ≤ v8))
 (x12[(v8 : Int).toNat]?.bind fun x14 =>
 ((FF n 77 [.one (.str x3), .one (.str x14)] []).bind fun x15 =>
 (rStr x15.1 fun x16 x17 =>
 (rBool x17 fun x18 x19 =>
 (nilV x19 (nilO x15.2
 (L_impl_readNamed_0_oo n c v0 v1 v2 x12 x16 x18 v6 v7 (IntKind.i64.wrap (v8 + 1)) v9 v10 v11 3 v13 (v14 ++ [(T.mk x1.k x1.n x1.kids)]))))))))
 none))))))))))))
 none)
 (cond (decide (0 ≤ v8))
 (v3[(v8 : Int).toNat]?.bind fun x7 =>
 ((FF n 77 [.one (.str x3), .one (.str x7)] []).bind fun x8 =>
 (rStr x8.1 fun x9 x10 =>
 (rBool x10 fun x11 x12 =>
 (nilV x12 (nilO x8.2
 (L_impl_readNamed_0_oo n c v0 v1 v2 v3 x9 x11 v6 v7 (IntKind.i64.wrap (v8 + 1)) v9 v10 v11 v12 v13 (v14 ++ [(T.mk x1.k x1.n x1.kids)]))))))))
 none))
 (cond (decide (0 ≤ v8))
 (v3[(v8 : Int).toNat]?.bind fun x7 =>
 ((FF n 77 [.one (.str x3), .one (.str x7)] []).bind fun x8 =>
 (rStr x8.1 fun x9 x10 =>
 (rBool x10 fun x11 x12 =>
 (nilV x12 (nilO x8.2
 (L_impl_readNamed_0_oo n c v0 v1 v2 v3 x9 x11 v6 v7 (IntKind.i64.wrap (v8 + 1)) v9 v10 v11 v12 v13 (v14 ++ [(T.mk x1.k x1.n x1.kids)]))))))))
 none))
 (cond (decide (0 ≤ v8))
 (v3[(v8 : Int).toNat]?.bind fun x7 =>
 ((FF n 77 [.one (.str x3), .one (.str x7)] []).bind fun x8 =>
 (rStr x8.1 fun x9 x10 =>
 (rBool x10 fun x11 x12 =>
 (nilV x12 (nilO x8.2
 (L_impl_readNamed_0_oo n c v0 v1 v2 v3 x9 x11 v6 v7 (IntKind.i64.wrap (v8 + 1)) v9 v10 v11 v12 v13 (v14 ++ [(T.mk x1.k x1.n x1.kids)]))))))))
 none))
 none)
 none)))))))))
 (cond v5
 ((FF n 47 [.one (.int .i64 v12)] []).bind fun x0 =>
 (rBool x0.1 fun x1 x2 =>
 (nilV x2 (nilO x0.2
 (some ([.agg [.int .i64 v12, .int .i64 v13, .fr (.ts v14)], .one (.str v4), .one (.bool (decide (x1 = v7)))], []))))))
 (some ([.agg [.int .i64 v12, .int .i64 v13, .fr (.ts v14)], .one (.str v4), .one (.bool false)], []))))
 (cond v5
 ((FF n 47 [.one (.int .i64 v12)] []).bind fun x0 =>
 (rBool x0.1 fun x1 x2 =>
 (nilV x2 (nilO x0.2
 (some ([.agg [.int .i64 v12, .int .i64 v13, .fr (.ts v14)], .one (.str v4), .one (.bool (decide (x1 = v7)))], []))))))
 (some ([.agg [.int .i64 v12, .int .i64 v13, .fr (.ts v14)], .one (.str v4), .one (.bool false)], [])))) := by kernel_rfl
theorem E_impl_readNamed (n : Nat) (v0 v1 : ByteArray) (v2 : Int) : FF (n + 1) 50 [.one (.str v0), .one (.str v1), .one (.int .i64 v2)] [] =
 (cond (v0.toList == (bytesOf []).toList)
 (some ([.agg [.int .i64 0, .int .i64 0, .fr (.ts [])], .one (.str (bytesOf [])), .one (.bool false)], []))
 (cond (decide (30 < v2))
 (some ([.agg [.int .i64 0, .int .i64 0, .fr (.ts [])], .one (.str (bytesOf [])), .one (.bool false)], []))
 (cond (decide (0 ≤ 0) && decide (0 < ((v0.size : Nat) : Int)))
 ((FF n 39 [.one (.int .u8 ((byteAt v0 (0 : Int).toNat).toNat : Int))] []).bind fun x0 =>
 (rBool x0.1 fun x1 x2 =>
 (nilV x2 (nilO x0.2
 (cond x1
 (cond (decide (0 ≤ 0) && decide (0 < ((v0.size : Nat) : Int)))
 ((FF n 71 [.one (.str v1), .one (.int .u8 ((byteAt v0 (0 : Int).toNat).toNat : Int))] []).bind fun x3 =>
 (rInt .i64 x3.1 fun x4 x5 =>
 (nilV x5 (nilO x3.2
 ((FF n 72 [.one (.int .i64 (IntKind.i64.wrap ((IntKind.i64.wrap ((v1.size : Int) - 1)) - x4)))] []).bind fun x6 =>
 (rTerm x6.1 fun x7 x8 =>
 (nilV x8 (nilO x6.2
 (cond (Go.Ab.inB 1 v0.size v0.size)
 (some ([.agg [.int .i64 x7.k, .int .i64 x7.n, .fr (.ts x7.kids)], .one (.str (v0.extract (1 : Int).toNat (v0.size : Int).toNat)), .one (.bool (decide (0 ≤ x4)))], []))
 none)))))))))
 none)
 ((FF n 73 [.one (.str v0)] []).bind fun x3 =>
 (rInt .i64 x3.1 fun x4 x5 =>
 (nilV x5 (nilO x3.2
 (cond (decide (x4 < 0))
 (some ([.agg [.int .i64 0, .int .i64 0, .fr (.ts [])], .one (.str (bytesOf [])), .one (.bool false)], []))
 (cond (decide (x4 = 1))
 (some ([.agg [.int .i64 0, .int .i64 0, .fr (.ts [])], .one (.str (bytesOf [])), .one (.bool false)], []))
 (cond (decide (x4 = 2))
 (cond (Go.Ab.inB 1 v0.size v0.size)
 ((FF n 74 [.one (.str (v0.extract (1 : Int).toNat (v0.size : Int).toNat))] []).bind fun x6 =>
 (rInt .i64 x6.1 fun x7 x8 =>
 (rStr x8 fun x9 x10 =>
 (nilV x10 (nilO x6.2
 ((FF n 75 [.one (.int .i64 x7)] []).bind fun x11 =>
 (rTerm x11.1 fun x12 x13 =>
 (nilV x13 (nilO x11.2
 (cond (decide (0 ≤ x7))
 (cond (Go.Ab.inB 1 v0.size v0.size)
 ((FF n 63 [.one (.int .i64 x7)] []).bind fun x14 =>
 (rStr x14.1 fun x15 x16 =>
 (nilV x16 (nilO x14.2
 ((FF n 76 [.one (.str (v0.extract (1 : Int).toNat (v0.size : Int).toNat)), .one (.str x15)] []).bind fun x17 =>
 (rStr x17.1 fun x18 x19 =>
 (nilV x19 (nilO x17.2
 (some ([.agg [.int .i64 x12.k, .int .i64 x12.n, .fr (.ts x12.kids)], .one (.str x9), .one (.bool (x9.toList == x18.toList))], []))))))))))
 none)
 (some ([.agg [.int .i64 x12.k, .int .i64 x12.n, .fr (.ts x12.kids)], .one (.str x9), .one (.bool false)], []))))))))))))
 none)
 ((FF n 46 [] []).bind fun x6 =>
 (rSs x6.1 fun x7 x8 =>
 (nilV x8 (nilO x6.2
 (cond (decide (0 ≤ (IntKind.i64.wrap (x4 - 1))))
 (x7[((IntKind.i64.wrap (x4 - 1)) : Int).toNat]?.bind fun x9 =>
 ((FF n 45 [.one (.str x9), .one (.str (bytesOf [46]))] []).bind fun x10 =>
 (rSs x10.1 fun x11 x12 =>
 (nilV x12 (nilO x10.2
 (x11[(0 : Int).toNat]?.bind fun x13 =>
 ((FF n 77 [.one (.str v0), .one (.str x13)] []).bind fun x14 =>
 (rStr x14.1 fun x15 x16 =>
 (rBool x16 fun x17 x18 =>
 (nilV x18 (nilO x14.2
 (cond (decide (0 ≤ 0) && decide (0 < ((v0.size : Nat) : Int)))
 (cond (decide (((byteAt v0 (0 : Int).toNat).toNat : Int) = 40))
 (cond (decide (1 < (x15.size : Int)))
 (cond (decide (0 ≤ 0) && decide (0 < ((x15.size : Nat) : Int)))
 ((FF n 39 [.one (.int .u8 ((byteAt x15 (0 : Int).toNat).toNat : Int))] []).bind fun x19 =>
 (rBool x19.1 fun x20 x21 =>
 (nilV x21 (nilO x19.2
 (cond x20
 (cond (decide (0 ≤ 1) && decide (1 < ((x15.size : Nat) : Int)))
 (cond (decide (((byteAt x15 (1 : Int).toNat).toNat : Int) = 58))
 (cond (Go.Ab.inB 0 1 x15.size)
 (cond (decide (v1.size + (x15.extract (0 : Int).toNat (1 : Int).toNat).size ≤ 9223372036854775807))
 (cond (Go.Ab.inB 2 x15.size x15.size)
 (L_impl_readNamed_0_oo n n v0 v1 v2 x11 ((x15.extract (2 : Int).toNat (x15.size : Int).toNat) : ByteArray) x17 ((v1 ++ (x15.extract (0 : Int).toNat (1 : Int).toNat)) : ByteArray) (true) 1 0 0 ([]) x4 0 ([]))
 none)
 none)
 none)
 (L_impl_readNamed_0_oo n n v0 v1 v2 x11 x15 x17 v1 (false) 1 0 0 ([]) x4 0 ([])))
 none)
 (L_impl_readNamed_0_oo n n v0 v1 v2 x11 x15 x17 v1 (false) 1 0 0 ([]) x4 0 ([])))))))
 none)
 (L_impl_readNamed_0_oo n n v0 v1 v2 x11 x15 x17 v1 (false) 1 0 0 ([]) x4 0 ([])))
 (cond (decide (0 ≤ 0) && decide (0 < ((v0.size : Nat) : Int)))
 (cond (decide (((byteAt v0 (0 : Int).toNat).toNat : Int) = 91))
 (cond (decide (1 < (x15.size : Int)))
 (cond (decide (0 ≤ 0) && decide (0 < ((x15.size : Nat) : Int)))
 ((FF n 39 [.one (.int .u8 ((byteAt x15 (0 : Int).toNat).toNat : Int))] []).bind fun x19 =>
 (rBool x19.1 fun x20 x21 =>
 (nilV x21 (nilO x19.2
 (cond x20
 (cond (decide (0 ≤ 1) && decide (1 < ((x15.size : Nat) : Int)))
 (cond (decide (((byteAt x15 (1 : Int).toNat).toNat : Int) = 58))
 (cond (Go.Ab.inB 0 1 x15.size)
 (cond (decide (v1.size + (x15.extract (0 : Int).toNat (1 : Int).toNat).size ≤ 9223372036854775807))
 (cond (Go.Ab.inB 2 x15.size x15.size)
 (L_impl_readNamed_0_oo n n v0 v1 v2 x11 ((x15.extract (2 : Int).toNat (x15.size : Int).toNat) : ByteArray) x17 ((v1 ++ (x15.extract (0 : Int).toNat (1 : Int).toNat)) : ByteArray) (true) 1 0 0 ([]) x4 0 ([]))
 none)
 none)
 none)
 (L_impl_readNamed_0_oo n n v0 v1 v2 x11 x15 x17 v1 (false) 1 0 0 ([]) x4 0 ([])))
 none)
 (L_impl_readNamed_0_oo n n v0 v1 v2 x11 x15 x17 v1 (false) 1 0 0 ([]) x4 0 ([])))))))
 none)
 (L_impl_readNamed_0_oo n n v0 v1 v2 x11 x15 x17 v1 (false) 1 0 0 ([]) x4 0 ([])))
 (L_impl_readNamed_0_oo n n v0 v1 v2 x11 x15 x17 v1 (false) 1 0 0 ([]) x4 0 ([])))
 none))
 none))))))))))))
 none)))))))))))))))))
 none))) := by kernel_rfl
theorem E_impl_valid (n : Nat) (v0 v1 : Int) (v2 : List T) : FF (n + 1) 51 [.agg [.int .i64 v0, .int .i64 v1, .fr (.ts v2)]] [] =
 ((FF n 19 [.agg [.int .i64 v0, .int .i64 v1, .fr (.ts v2)]] []).bind fun x0 =>
 (rBool x0.1 fun x1 x2 =>
 (nilV x2 (nilO x0.2
 (cond (!x1)
 (some ([.agg [.int .i64 0, .int .i64 0, .fr (.ts [])], .one (.bool false)], []))
 (some ([.agg [.int .i64 v0, .int .i64 v1, .fr (.ts v2)], .one (.bool true)], []))))))) := by kernel_rfl
noncomputable def L_slices_EqualFunc_impl_TermSame_0 (n c : Nat) (v0 v1 : List T) (v2 v3 : Int) : OR := runLoop Tryd.prog SS n 52 0 [1, 1, 0, 1, 0] [] c ⟨[anyV, .v (.one (.fr (.ts v0))), .v (.one (.fn 28 [])), anyV, anyV, anyV, anyV, anyV, anyV, anyV, anyV, anyV, anyV, anyV, anyV, .v (.one (.fr (.ts v1))), .v (.one (.int .i64 v2)), .v (.one (.int .i64 v3)), anyV, anyV, anyV, anyV, anyV, anyV, anyV, anyV, anyV, anyV, anyV, anyV, anyV, anyV],
 []⟩
theorem L_slices_EqualFunc_impl_TermSame_0_eq (n c : Nat) (v0 v1 : List T) (v2 v3 : Int) : L_slices_EqualFunc_impl_TermSame_0 n (c + 1) v0 v1 v2 v3 =
 (cond (decide (v3 < v2))
 (cond (decide (0 ≤ v3))
 (v1[(v3 : Int).toNat]?.bind fun x0 =>
 (cond (decide (0 ≤ v3))
 (v0[(v3 : Int).toNat]?.bind fun x1 =>
 ((FF n 28 [.agg [.int .i64 x0.k, .int .i64 x0.n, .fr (.ts x0.kids)], .agg [.int .i64 x1.k, .int .i64 x1.n, .fr (.ts x1.kids)]] []).bind fun x2 =>
 (rBool x2.1 fun x3 x4 =>
 (nilV x4 (nilO x2.2
 (cond (!x3)
 (some ([.one (.bool false)], []))
 (L_slices_EqualFunc_impl_TermSame_0 n c v0 v1 v2 (IntKind.i64.wrap (v3 + 1)))))))))
 none))
 none)
 (some ([.one (.bool true)], []))) := by kernel_rfl
theorem E_slices_EqualFunc_impl_TermSame (n : Nat) (v0 v1 : List T) : FF (n + 1) 52 [.one (.fr (.ts v0)), .one (.fr (.ts v1)), .one (.fn 28 [])] [] =
 (cond (!decide ((v0.length : Int) = (v1.length : Int)))
 (some ([.one (.bool false)], []))
 (L_slices_EqualFunc_impl_TermSame_0 n n v1 v0 ((v0.length : Int) : Int) 0)) := by kernel_rfl
theorem E_spec_l1Kids (n : Nat) (v0 : Int) : FF (n + 1) 53 [.one (.int .i64 v0)] [] =
 (cond (decide (v0 = 1))
 (some ([.one (.int .i64 0)], []))
 (cond (decide (v0 = 2))
 (some ([.one (.int .i64 0)], []))
 (cond (decide (v0 = 6))
 (some ([.one (.int .i64 0)], []))
 (cond (decide (v0 = 7))
 (some ([.one (.int .i64 0)], []))
 (cond (decide (v0 = 8))
 (some ([.one (.int .i64 1)], []))
 (cond (decide (v0 = 11))
 (some ([.one (.int .i64 1)], []))
 (cond (decide (v0 = 15))
 (some ([.one (.int .i64 1)], []))
 (cond (decide (v0 = 16))
 (some ([.one (.int .i64 1)], []))
 (cond (decide (v0 = 3))
 (some ([.one (.int .i64 2)], []))
 (cond (decide (v0 = 4))
 (some ([.one (.int .i64 2)], []))
 (cond (decide (v0 = 5))
 (some ([.one (.int .i64 2)], []))
 (cond (decide (v0 = 13))
 (some ([.one (.int .i64 2)], []))
 (cond (decide (v0 = 10))
 (some ([.one (.int .i64 3)], []))
 (cond (decide (v0 = 12))
 (some ([.one (.int .i64 3)], []))
 (cond (decide (v0 = 14))
 (some ([.one (.int .i64 3)], []))
 (cond (decide (v0 = 9))
 (some ([.one (.int .i64 4)], []))
 (some ([.one (.int .i64 (-1))], [])))))))))))))))))) := by kernel_rfl
theorem E_spec_l1Most (n : Nat) (v0 : Int) : FF (n + 1) 54 [.one (.int .i64 v0)] [] =
 (cond (decide (v0 = 1))
 (some ([.one (.int .i64 20)], []))
 (cond (decide (v0 = 2))
 (some ([.one (.int .i64 3)], []))
 (some ([.one (.int .i64 0)], [])))) := by kernel_rfl
theorem E_impl_operands (n : Nat) (v0 : Int) : FF (n + 1) 59 [.one (.int .i64 v0)] [] =
 ((FF n 60 [.one (.int .i64 v0), .one (.int .i64 1), .one (.int .i64 16)] []).bind fun x0 =>
 (rBool x0.1 fun x1 x2 =>
 (nilV x2 (nilO x0.2
 (cond (!x1)
 (some ([.one (.int .i64 (-1))], []))
 (cond (decide (0 ≤ (IntKind.i64.wrap (v0 - 1))))
 (cond (decide ((IntKind.i64.wrap (v0 - 1)) < (([0, 0, 2, 2, 2, 0, 0, 1, 4, 3, 1, 3, 2, 3, 1, 1]).length : Int)))
 (([0, 0, 2, 2, 2, 0, 0, 1, 4, 3, 1, 3, 2, 3, 1, 1])[((IntKind.i64.wrap (v0 - 1)) : Int).toNat]?.bind fun x3 =>
 some ([.one (.int .i64 x3)], []))
 none)
 none)))))) := by kernel_rfl
theorem E_impl_most (n : Nat) (v0 : Int) : FF (n + 1) 61 [.one (.int .i64 v0)] [] =
 (cond (decide (v0 = 1))
 (some ([.one (.int .i64 20)], []))
 (cond (decide (v0 = 2))
 (some ([.one (.int .i64 3)], []))
 (some ([.one (.int .i64 0)], [])))) := by kernel_rfl
theorem E_impl_within (n : Nat) (v0 v1 v2 : Int) : FF (n + 1) 60 [.one (.int .i64 v0), .one (.int .i64 v1), .one (.int .i64 v2)] [] =
 (cond (decide (v1 ≤ v0))
 (some ([.one (.bool (decide (v0 ≤ v2)))], []))
 (some ([.one (.bool false)], []))) := by kernel_rfl
theorem E_stringslite_IndexByte (n : Nat) (v0 : ByteArray) (v1 : Int) : FF (n + 1) 62 [.one (.str v0), .one (.int .u8 v1)] [] =
 (cond (decide (0 ≤ v1) && decide (v1 ≤ 255))
 (some ([.one (.int .i64 (idxB v0 (UInt8.ofNat (v1 : Int).toNat)))], []))
 none) := by kernel_rfl
end Go.Proofs.YtnogehmgpfpjmaaDoor
end
section
namespace Go.Proofs.YtnogehmgpfpjmaaDoor
open Go Go.Ab Go.Dk
theorem E_spec_l1Parse (n : Nat) (v0 : ByteArray) (v1 v2 : Int) : FF (n + 1) 65 [.one (.str v0), .one (.int .i64 v1), .one (.int .i64 v2)] [] =
 (cond (decide (v2 < 1))
 (some ([.agg [.int .i64 0, .int .i64 0, .fr (.ts [])], .one (.int .i64 (-1))], []))
 (cond (decide (v1 < 0))
 (some ([.agg [.int .i64 0, .int .i64 0, .fr (.ts [])], .one (.int .i64 (-1))], []))
 (cond (decide ((v0.size : Int) ≤ v1))
 (some ([.agg [.int .i64 0, .int .i64 0, .fr (.ts [])], .one (.int .i64 (-1))], []))
 (cond (decide (0 ≤ v1) && decide (v1 < ((v0.size : Nat) : Int)))
 (cond (decide (((byteAt v0 (v1 : Int).toNat).toNat : Int) = 35))
 ((FF n 83 [.one (.str v0), .one (.int .i64 (IntKind.i64.wrap (v1 + 1))), .one (.int .i64 2)] []).bind fun x0 =>
 (rInt .i64 x0.1 fun x1 x2 =>
 (rInt .i64 x2 fun x3 x4 =>
 (nilV x4 (nilO x0.2
 ((FF n 69 [.one (.int .i64 1), .one (.int .i64 x1)] []).bind fun x5 =>
 (rTerm x5.1 fun x6 x7 =>
 (nilV x7 (nilO x5.2
 (some ([.agg [.int .i64 x6.k, .int .i64 x6.n, .fr (.ts x6.kids)], .one (.int .i64 x3)], [])))))))))))
 (cond (decide (((byteAt v0 (v1 : Int).toNat).toNat : Int) = 42))
 ((FF n 83 [.one (.str v0), .one (.int .i64 (IntKind.i64.wrap (v1 + 1))), .one (.int .i64 1)] []).bind fun x0 =>
 (rInt .i64 x0.1 fun x1 x2 =>
 (rInt .i64 x2 fun x3 x4 =>
 (nilV x4 (nilO x0.2
 ((FF n 69 [.one (.int .i64 2), .one (.int .i64 x1)] []).bind fun x5 =>
 (rTerm x5.1 fun x6 x7 =>
 (nilV x7 (nilO x5.2
 (some ([.agg [.int .i64 x6.k, .int .i64 x6.n, .fr (.ts x6.kids)], .one (.int .i64 x3)], [])))))))))))
 (cond (decide (((byteAt v0 (v1 : Int).toNat).toNat : Int) = 78))
 ((FF n 69 [.one (.int .i64 6), .one (.int .i64 0)] []).bind fun x0 =>
 (rTerm x0.1 fun x1 x2 =>
 (nilV x2 (nilO x0.2
 (some ([.agg [.int .i64 x1.k, .int .i64 x1.n, .fr (.ts x1.kids)], .one (.int .i64 (IntKind.i64.wrap (v1 + 1)))], []))))))
 (cond (decide (((byteAt v0 (v1 : Int).toNat).toNat : Int) = 48))
 ((FF n 69 [.one (.int .i64 7), .one (.int .i64 0)] []).bind fun x0 =>
 (rTerm x0.1 fun x1 x2 =>
 (nilV x2 (nilO x0.2
 (some ([.agg [.int .i64 x1.k, .int .i64 x1.n, .fr (.ts x1.kids)], .one (.int .i64 (IntKind.i64.wrap (v1 + 1)))], []))))))
 (cond (decide (((byteAt v0 (v1 : Int).toNat).toNat : Int) = 43))
 ((FF n 84 [.one (.str v0), .one (.int .i64 v1), .one (.int .i64 v2)] []).bind fun x0 =>
 (rTerm x0.1 fun x1 x2 =>
 (rInt .i64 x2 fun x3 x4 =>
 (nilV x4 (nilO x0.2
 (some ([.agg [.int .i64 x1.k, .int .i64 x1.n, .fr (.ts x1.kids)], .one (.int .i64 x3)], [])))))))
 (cond (decide (((byteAt v0 (v1 : Int).toNat).toNat : Int) = 33))
 ((FF n 84 [.one (.str v0), .one (.int .i64 v1), .one (.int .i64 v2)] []).bind fun x0 =>
 (rTerm x0.1 fun x1 x2 =>
 (rInt .i64 x2 fun x3 x4 =>
 (nilV x4 (nilO x0.2
 (some ([.agg [.int .i64 x1.k, .int .i64 x1.n, .fr (.ts x1.kids)], .one (.int .i64 x3)], [])))))))
 (cond (decide (((byteAt v0 (v1 : Int).toNat).toNat : Int) = 94))
 ((FF n 84 [.one (.str v0), .one (.int .i64 v1), .one (.int .i64 v2)] []).bind fun x0 =>
 (rTerm x0.1 fun x1 x2 =>
 (rInt .i64 x2 fun x3 x4 =>
 (nilV x4 (nilO x0.2
 (some ([.agg [.int .i64 x1.k, .int .i64 x1.n, .fr (.ts x1.kids)], .one (.int .i64 x3)], [])))))))
 (cond (decide (((byteAt v0 (v1 : Int).toNat).toNat : Int) = 95))
 ((FF n 84 [.one (.str v0), .one (.int .i64 v1), .one (.int .i64 v2)] []).bind fun x0 =>
 (rTerm x0.1 fun x1 x2 =>
 (rInt .i64 x2 fun x3 x4 =>
 (nilV x4 (nilO x0.2
 (some ([.agg [.int .i64 x1.k, .int .i64 x1.n, .fr (.ts x1.kids)], .one (.int .i64 x3)], [])))))))
 (cond (decide (((byteAt v0 (v1 : Int).toNat).toNat : Int) = 40))
 ((FF n 85 [.one (.str v0), .one (.int .i64 (IntKind.i64.wrap (v1 + 1))), .one (.int .i64 (IntKind.i64.wrap (v2 - 1)))] []).bind fun x0 =>
 (rTerm x0.1 fun x1 x2 =>
 (rInt .i64 x2 fun x3 x4 =>
 (nilV x4 (nilO x0.2
 (some ([.agg [.int .i64 x1.k, .int .i64 x1.n, .fr (.ts x1.kids)], .one (.int .i64 x3)], [])))))))
 (cond (decide (((byteAt v0 (v1 : Int).toNat).toNat : Int) = 91))
 ((FF n 65 [.one (.str v0), .one (.int .i64 (IntKind.i64.wrap (v1 + 1))), .one (.int .i64 (IntKind.i64.wrap (v2 - 1)))] []).bind fun x0 =>
 (rTerm x0.1 fun x1 x2 =>
 (rInt .i64 x2 fun x3 x4 =>
 (nilV x4 (nilO x0.2
 (cond (decide (x3 < 0))
 (some ([.agg [.int .i64 0, .int .i64 0, .fr (.ts [])], .one (.int .i64 (-1))], []))
 (cond (decide ((v0.size : Int) ≤ x3))
 (some ([.agg [.int .i64 0, .int .i64 0, .fr (.ts [])], .one (.int .i64 (-1))], []))
 (cond (decide (0 ≤ x3) && decide (x3 < ((v0.size : Nat) : Int)))
 (cond (!decide (((byteAt v0 (x3 : Int).toNat).toNat : Int) = 93))
 (some ([.agg [.int .i64 0, .int .i64 0, .fr (.ts [])], .one (.int .i64 (-1))], []))
 ((FF n 65 [.one (.str v0), .one (.int .i64 (IntKind.i64.wrap (x3 + 1))), .one (.int .i64 (IntKind.i64.wrap (v2 - 1)))] []).bind fun x5 =>
 (rTerm x5.1 fun x6 x7 =>
 (rInt .i64 x7 fun x8 x9 =>
 (nilV x9 (nilO x5.2
 ((FF n 66 [.one (.int .i64 4), .one (.fr (.ts [(T.mk x1.k x1.n x1.kids), (T.mk x6.k x6.n x6.kids)]))] []).bind fun x10 =>
 (rTerm x10.1 fun x11 x12 =>
 (nilV x12 (nilO x10.2
 (some ([.agg [.int .i64 x11.k, .int .i64 x11.n, .fr (.ts x11.kids)], .one (.int .i64 x8)], []))))))))))))
 none))))))))
 ((FF n 86 [.one (.str v0), .one (.int .i64 v1), .one (.int .i64 v2)] []).bind fun x0 =>
 (rTerm x0.1 fun x1 x2 =>
 (rInt .i64 x2 fun x3 x4 =>
 (nilV x4 (nilO x0.2
 (some ([.agg [.int .i64 x1.k, .int .i64 x1.n, .fr (.ts x1.kids)], .one (.int .i64 x3)], [])))))))))))))))))
 none)))) := by kernel_rfl
theorem E_spec_l1Node (n : Nat) (v0 : Int) (v1 : List T) : FF (n + 1) 66 [.one (.int .i64 v0), .one (.fr (.ts v1))] [] =
 (cond (roomB ([] ++ v1).length)
 (some ([.agg [.int .i64 v0, .int .i64 0, .fr (.ts ([] ++ v1))]], []))
 none) := by kernel_rfl
theorem E_spec_l6Square (n : Nat) (v0 : ByteArray) (v1 : Int) (v2 : ByteArray) (v3 : Int) : FF (n + 1) 68 [.one (.str v0), .one (.int .i64 v1), .one (.str v2), .one (.int .i64 v3)] [] =
 ((FF n 87 [.one (.str v0), .one (.int .i64 v1)] []).bind fun x0 =>
 (rBool x0.1 fun x1 x2 =>
 (nilV x2 (nilO x0.2
 (cond (!x1)
 (some ([.agg [.int .i64 0, .int .i64 0, .fr (.ts [])], .one (.int .i64 (-1))], []))
 ((FF n 49 [.one (.str v0), .one (.int .i64 (IntKind.i64.wrap (v1 + 2))), .one (.str v2), .one (.int .i64 v3)] []).bind fun x3 =>
 (rTerm x3.1 fun x4 x5 =>
 (rInt .i64 x5 fun x6 x7 =>
 (nilV x7 (nilO x3.2
 (cond (decide (x6 < 0))
 (some ([.agg [.int .i64 0, .int .i64 0, .fr (.ts [])], .one (.int .i64 (-1))], []))
 (cond (decide ((v0.size : Int) ≤ x6))
 (some ([.agg [.int .i64 0, .int .i64 0, .fr (.ts [])], .one (.int .i64 (-1))], []))
 (cond (decide (0 ≤ x6) && decide (x6 < ((v0.size : Nat) : Int)))
 (cond (!decide (((byteAt v0 (x6 : Int).toNat).toNat : Int) = 93))
 (some ([.agg [.int .i64 0, .int .i64 0, .fr (.ts [])], .one (.int .i64 (-1))], []))
 (cond (Go.Ab.inB v1 (IntKind.i64.wrap (v1 + 1)) v0.size)
 (cond (decide (v2.size + (v0.extract (v1 : Int).toNat ((IntKind.i64.wrap (v1 + 1)) : Int).toNat).size ≤ 9223372036854775807))
 ((FF n 49 [.one (.str v0), .one (.int .i64 (IntKind.i64.wrap (x6 + 1))), .one (.str (v2 ++ (v0.extract (v1 : Int).toNat ((IntKind.i64.wrap (v1 + 1)) : Int).toNat))), .one (.int .i64 v3)] []).bind fun x8 =>
 (rTerm x8.1 fun x9 x10 =>
 (rInt .i64 x10 fun x11 x12 =>
 (nilV x12 (nilO x8.2
 ((FF n 66 [.one (.int .i64 4), .one (.fr (.ts [(T.mk x4.k x4.n x4.kids), (T.mk x9.k x9.n x9.kids)]))] []).bind fun x13 =>
 (rTerm x13.1 fun x14 x15 =>
 (nilV x15 (nilO x13.2
 (some ([.agg [.int .i64 x14.k, .int .i64 x14.n, .fr (.ts x14.kids)], .one (.int .i64 x11)], [])))))))))))
 none)
 none))
 none))))))))))))) := by kernel_rfl
theorem E_spec_l1Leaf (n : Nat) (v0 v1 : Int) : FF (n + 1) 69 [.one (.int .i64 v0), .one (.int .i64 v1)] [] =
 some ([.agg [.int .i64 v0, .int .i64 v1, .fr (.ts [])]], []) := by kernel_rfl
theorem E_spec_l6Block (n : Nat) (v0 : ByteArray) (v1 : Int) (v2 : ByteArray) (v3 : Int) : FF (n + 1) 70 [.one (.str v0), .one (.int .i64 v1), .one (.str v2), .one (.int .i64 v3)] [] =
 (cond (decide (0 ≤ v1) && decide (v1 < ((v0.size : Nat) : Int)))
 (cond (decide (((byteAt v0 (v1 : Int).toNat).toNat : Int) = 60))
 ((FF n 88 [.one (.str v0), .one (.int .i64 (IntKind.i64.wrap (v1 + 1))), .one (.str v2), .one (.int .i64 (IntKind.i64.wrap (v3 - 1))), .one (.int .i64 4), .one (.int .u8 62)] []).bind fun x0 =>
 (rTs x0.1 fun x1 x2 =>
 (rInt .i64 x2 fun x3 x4 =>
 (nilV x4 (nilO x0.2
 (some ([.agg [.int .i64 9, .int .i64 0, .fr (.ts x1)], .one (.int .i64 x3)], [])))))))
 (cond (decide (((byteAt v0 (v1 : Int).toNat).toNat : Int) = 123))
 ((FF n 88 [.one (.str v0), .one (.int .i64 (IntKind.i64.wrap (v1 + 1))), .one (.str v2), .one (.int .i64 (IntKind.i64.wrap (v3 - 1))), .one (.int .i64 3), .one (.int .u8 125)] []).bind fun x0 =>
 (rTs x0.1 fun x1 x2 =>
 (rInt .i64 x2 fun x3 x4 =>
 (nilV x4 (nilO x0.2
 (some ([.agg [.int .i64 10, .int .i64 0, .fr (.ts x1)], .one (.int .i64 x3)], [])))))))
 (cond (decide (((byteAt v0 (v1 : Int).toNat).toNat : Int) = 124))
 ((FF n 88 [.one (.str v0), .one (.int .i64 (IntKind.i64.wrap (v1 + 1))), .one (.str v2), .one (.int .i64 (IntKind.i64.wrap (v3 - 1))), .one (.int .i64 3), .one (.int .u8 124)] []).bind fun x0 =>
 (rTs x0.1 fun x1 x2 =>
 (rInt .i64 x2 fun x3 x4 =>
 (nilV x4 (nilO x0.2
 (some ([.agg [.int .i64 14, .int .i64 0, .fr (.ts x1)], .one (.int .i64 x3)], [])))))))
 (cond (decide (((byteAt v0 (v1 : Int).toNat).toNat : Int) = 64))
 (cond (decide ((IntKind.i64.wrap (v1 + 1)) < (v0.size : Int)))
 (cond (decide (0 ≤ (IntKind.i64.wrap (v1 + 1))) && decide ((IntKind.i64.wrap (v1 + 1)) < ((v0.size : Nat) : Int)))
 (cond (decide (((byteAt v0 ((IntKind.i64.wrap (v1 + 1)) : Int).toNat).toNat : Int) = 60))
 ((FF n 88 [.one (.str v0), .one (.int .i64 (IntKind.i64.wrap (v1 + 2))), .one (.str v2), .one (.int .i64 (IntKind.i64.wrap (v3 - 1))), .one (.int .i64 3), .one (.int .u8 62)] []).bind fun x0 =>
 (rTs x0.1 fun x1 x2 =>
 (rInt .i64 x2 fun x3 x4 =>
 (nilV x4 (nilO x0.2
 (some ([.agg [.int .i64 12, .int .i64 0, .fr (.ts x1)], .one (.int .i64 x3)], [])))))))
 (some ([.agg [.int .i64 0, .int .i64 0, .fr (.ts [])], .one (.int .i64 (-1))], [])))
 none)
 (some ([.agg [.int .i64 0, .int .i64 0, .fr (.ts [])], .one (.int .i64 (-1))], [])))
 (some ([.agg [.int .i64 0, .int .i64 0, .fr (.ts [])], .one (.int .i64 (-1))], []))))))
 none) := by kernel_rfl
theorem E_strings_LastIndexByte (n : Nat) (v0 : ByteArray) (v1 : Int) : FF (n + 1) 71 [.one (.str v0), .one (.int .u8 v1)] [] =
 ((FF n 89 [.one (.str v0), .one (.int .u8 v1)] []).bind fun x0 =>
 (rInt .i64 x0.1 fun x1 x2 =>
 (nilV x2 (nilO x0.2
 (some ([.one (.int .i64 x1)], [])))))) := by kernel_rfl
theorem E_impl_variable (n : Nat) (v0 : Int) : FF (n + 1) 72 [.one (.int .i64 v0)] [] =
 some ([.agg [.int .i64 1, .int .i64 v0, .fr (.ts [])]], []) := by kernel_rfl
noncomputable def L_impl_kindAt_0 (n c : Nat) (v0 : ByteArray) (v1 : List ByteArray) (v2 v3 : Int) : OR := runLoop Tryd.prog SS n 73 0 [1, 1, 0, 1, 0] [] c ⟨[.v (.one (.str v0)), anyV, anyV, anyV, anyV, anyV, anyV, .v (.one (.fr (.ss v1))), .v (.one (.int .i64 v2)), .v (.one (.int .i64 v3)), anyV, anyV, anyV, anyV, anyV, anyV, anyV, anyV, anyV, anyV, anyV, anyV],
 []⟩
theorem L_impl_kindAt_0_eq (n c : Nat) (v0 : ByteArray) (v1 : List ByteArray) (v2 v3 : Int) : L_impl_kindAt_0 n (c + 1) v0 v1 v2 v3 =
 (cond (decide (v3 < v2))
 (cond (decide (0 ≤ v3))
 (v1[(v3 : Int).toNat]?.bind fun x0 =>
 (cond (decide (0 ≤ 0) && decide (0 < ((x0.size : Nat) : Int)))
 (cond (decide (0 ≤ 0) && decide (0 < ((v0.size : Nat) : Int)))
 (cond (decide (((byteAt x0 (0 : Int).toNat).toNat : Int) = ((byteAt v0 (0 : Int).toNat).toNat : Int)))
 (some ([.one (.int .i64 (IntKind.i64.wrap (1 + v3)))], []))
 (L_impl_kindAt_0 n c v0 v1 v2 (IntKind.i64.wrap (v3 + 1))))
 none)
 none))
 none)
 (some ([.one (.int .i64 (-1))], []))) := by kernel_rfl
theorem E_impl_kindAt (n : Nat) (v0 : ByteArray) : FF (n + 1) 73 [.one (.str v0)] [] =
 (cond (v0.toList == (bytesOf []).toList)
 (some ([.one (.int .i64 (-1))], []))
 ((FF n 46 [] []).bind fun x0 =>
 (rSs x0.1 fun x1 x2 =>
 (nilV x2 (nilO x0.2
 (L_impl_kindAt_0 n n v0 x1 ((x1.length : Int) : Int) 0)))))) := by kernel_rfl
theorem E_impl_sort (n : Nat) (v0 : Int) : FF (n + 1) 75 [.one (.int .i64 v0)] [] =
 some ([.agg [.int .i64 2, .int .i64 v0, .fr (.ts [])]], []) := by kernel_rfl
theorem E_strings_TrimPrefix (n : Nat) (v0 v1 : ByteArray) : FF (n + 1) 76 [.one (.str v0), .one (.str v1)] [] =
 ((FF n 91 [.one (.str v0), .one (.str v1)] []).bind fun x0 =>
 (rStr x0.1 fun x1 x2 =>
 (nilV x2 (nilO x0.2
 (some ([.one (.str x1)], [])))))) := by kernel_rfl
theorem E_strings_CutPrefix (n : Nat) (v0 v1 : ByteArray) : FF (n + 1) 77 [.one (.str v0), .one (.str v1)] [] =
 ((FF n 92 [.one (.str v0), .one (.str v1)] []).bind fun x0 =>
 (rStr x0.1 fun x1 x2 =>
 (rBool x2 fun x3 x4 =>
 (nilV x4 (nilO x0.2
 (some ([.one (.str x1), .one (.bool x3)], []))))))) := by kernel_rfl
noncomputable def L_spec_l1Number_0 (n c : Nat) (v0 : ByteArray) (v1 v2 v3 : Int) : OR := runLoop Tryd.prog SS n 83 0 [1, 1, 0, 0] [] c ⟨[.v (.one (.str v0)), .v (.one (.int .i64 v1)), .v (.one (.int .i64 v2)), anyV, anyV, anyV, anyV, anyV, .v (.one (.int .i64 v3)), anyV, anyV, anyV, anyV, anyV, anyV, anyV, anyV, anyV, anyV, anyV, anyV, anyV, anyV, anyV, anyV, anyV, anyV, anyV, anyV, anyV, anyV, anyV, anyV, anyV, anyV, anyV, anyV, anyV, anyV, anyV, anyV, anyV, anyV, anyV, anyV, anyV, anyV, anyV, anyV],
 []⟩
theorem L_spec_l1Number_0_eq (n c : Nat) (v0 : ByteArray) (v1 v2 v3 : Int) : L_spec_l1Number_0 n (c + 1) v0 v1 v2 v3 =
 (cond (decide (v3 < (v0.size : Int)))
 (cond (decide (v3 < (IntKind.i64.wrap (v1 + v2))))
 (cond (decide (0 ≤ v3) && decide (v3 < ((v0.size : Nat) : Int)))
 (cond (decide (48 ≤ ((byteAt v0 (v3 : Int).toNat).toNat : Int)))
 (cond (decide (0 ≤ v3) && decide (v3 < ((v0.size : Nat) : Int)))
 (cond (decide (((byteAt v0 (v3 : Int).toNat).toNat : Int) ≤ 57))
 (L_spec_l1Number_0 n c v0 v1 v2 (IntKind.i64.wrap (v3 + 1)))
 (cond (Go.Ab.inB v1 v3 v0.size)
 ((FF n 98 [.one (.str (v0.extract (v1 : Int).toNat (v3 : Int).toNat))] []).bind fun x0 =>
 (rInt .i64 x0.1 fun x1 x2 =>
 (rBool x2 fun x3 x4 =>
 (nilV x4 (nilO x0.2
 (cond (!x3)
 (some ([.one (.int .i64 0), .one (.int .i64 (-1))], []))
 (some ([.one (.int .i64 x1), .one (.int .i64 v3)], []))))))))
 none))
 none)
 (cond (Go.Ab.inB v1 v3 v0.size)
 ((FF n 98 [.one (.str (v0.extract (v1 : Int).toNat (v3 : Int).toNat))] []).bind fun x0 =>
 (rInt .i64 x0.1 fun x1 x2 =>
 (rBool x2 fun x3 x4 =>
 (nilV x4 (nilO x0.2
 (cond (!x3)
 (some ([.one (.int .i64 0), .one (.int .i64 (-1))], []))
 (some ([.one (.int .i64 x1), .one (.int .i64 v3)], []))))))))
 none))
 none)
 (cond (Go.Ab.inB v1 v3 v0.size)
 ((FF n 98 [.one (.str (v0.extract (v1 : Int).toNat (v3 : Int).toNat))] []).bind fun x0 =>
 (rInt .i64 x0.1 fun x1 x2 =>
 (rBool x2 fun x3 x4 =>
 (nilV x4 (nilO x0.2
 (cond (!x3)
 (some ([.one (.int .i64 0), .one (.int .i64 (-1))], []))
 (some ([.one (.int .i64 x1), .one (.int .i64 v3)], []))))))))
 none))
 (cond (Go.Ab.inB v1 v3 v0.size)
 ((FF n 98 [.one (.str (v0.extract (v1 : Int).toNat (v3 : Int).toNat))] []).bind fun x0 =>
 (rInt .i64 x0.1 fun x1 x2 =>
 (rBool x2 fun x3 x4 =>
 (nilV x4 (nilO x0.2
 (cond (!x3)
 (some ([.one (.int .i64 0), .one (.int .i64 (-1))], []))
 (some ([.one (.int .i64 x1), .one (.int .i64 v3)], []))))))))
 none)) := by kernel_rfl
theorem E_spec_l1Number (n : Nat) (v0 : ByteArray) (v1 v2 : Int) : FF (n + 1) 83 [.one (.str v0), .one (.int .i64 v1), .one (.int .i64 v2)] [] =
 L_spec_l1Number_0 n n v0 v1 v2 v1 := by kernel_rfl
theorem E_spec_l6Colon (n : Nat) (v0 : ByteArray) (v1 : Int) : FF (n + 1) 87 [.one (.str v0), .one (.int .i64 v1)] [] =
 (cond (decide ((IntKind.i64.wrap (v1 + 1)) < (v0.size : Int)))
 (cond (decide (0 ≤ v1) && decide (v1 < ((v0.size : Nat) : Int)))
 ((FF n 31 [.one (.int .u8 ((byteAt v0 (v1 : Int).toNat).toNat : Int))] []).bind fun x0 =>
 (rBool x0.1 fun x1 x2 =>
 (nilV x2 (nilO x0.2
 (cond x1
 (cond (decide (0 ≤ (IntKind.i64.wrap (v1 + 1))) && decide ((IntKind.i64.wrap (v1 + 1)) < ((v0.size : Nat) : Int)))
 (some ([.one (.bool (decide (((byteAt v0 ((IntKind.i64.wrap (v1 + 1)) : Int).toNat).toNat : Int) = 58)))], []))
 none)
 (some ([.one (.bool false)], [])))))))
 none)
 (some ([.one (.bool false)], []))) := by kernel_rfl
noncomputable def L_spec_l6Kids_0 (n c : Nat) (v0 : ByteArray) (v1 : Int) (v2 : ByteArray) (v3 v4 v5 v6 : Int) (v7 : List T) : OR := runLoop Tryd.prog SS n 88 0 [1, 1, 0, 1, 0] [] c ⟨[.v (.one (.str v0)), .v (.one (.int .i64 v1)), .v (.one (.str v2)), .v (.one (.int .i64 v3)), .v (.one (.int .i64 v4)), .v (.one (.int .u8 v5)), anyV, anyV, anyV, anyV, anyV, anyV, anyV, anyV, .v (.one (.own 0 0)), .v (.one (.int .i64 v6)), anyV, anyV, anyV, anyV, anyV, anyV, anyV, anyV, anyV, anyV, anyV, anyV, anyV, anyV, anyV, anyV, anyV, anyV, anyV, anyV, anyV, anyV, anyV, anyV, anyV, anyV, anyV, anyV, anyV, anyV, anyV, anyV, anyV, anyV, anyV, anyV, anyV, anyV, anyV, anyV, anyV, anyV, anyV, anyV, anyV, anyV, anyV, anyV, anyV, anyV, anyV, anyV, anyV, anyV, anyV, anyV, anyV],
 [.arr 29 (.ts v7) 0 false]⟩
theorem L_spec_l6Kids_0_eq (n c : Nat) (v0 : ByteArray) (v1 : Int) (v2 : ByteArray) (v3 v4 v5 v6 : Int) (v7 : List T) : L_spec_l6Kids_0 n (c + 1) v0 v1 v2 v3 v4 v5 v6 v7 =
 (cond (decide (v6 < v4))
 ((FF n 49 [.one (.str v0), .one (.int .i64 v1), .one (.str v2), .one (.int .i64 v3)] []).bind fun x0 =>
 (rTerm x0.1 fun x1 x2 =>
 (rInt .i64 x2 fun x3 x4 =>
 (nilV x4 (nilO x0.2
 (cond (decide (x3 < 0))
 (some ([.one (.fr (.ts [])), .one (.int .i64 (-1))], []))
 (cond (decide ((v0.size : Int) ≤ x3))
 (some ([.one (.fr (.ts [])), .one (.int .i64 (-1))], []))
 (cond (decide ((IntKind.i64.wrap (v6 + 1)) < v4))
 (cond (decide (0 ≤ x3) && decide (x3 < ((v0.size : Nat) : Int)))
 (cond (!decide (((byteAt v0 (x3 : Int).toNat).toNat : Int) = 44))
 (some ([.one (.fr (.ts [])), .one (.int .i64 (-1))], []))
 (cond (decide ((IntKind.i64.wrap (v6 + 1)) = v4))
 (cond (decide (0 ≤ x3) && decide (x3 < ((v0.size : Nat) : Int)))
 (cond (!decide (((byteAt v0 (x3 : Int).toNat).toNat : Int) = v5))
 (some ([.one (.fr (.ts [])), .one (.int .i64 (-1))], []))
 (cond (roomB (v7 ++ [(T.mk x1.k x1.n x1.kids)]).length)
 (L_spec_l6Kids_0 n c v0 (IntKind.i64.wrap (x3 + 1)) v2 v3 v4 v5 (IntKind.i64.wrap (v6 + 1)) (v7 ++ [(T.mk x1.k x1.n x1.kids)]))
 none))
 none)
 (cond (roomB (v7 ++ [(T.mk x1.k x1.n x1.kids)]).length)
 (L_spec_l6Kids_0 n c v0 (IntKind.i64.wrap (x3 + 1)) v2 v3 v4 v5 (IntKind.i64.wrap (v6 + 1)) (v7 ++ [(T.mk x1.k x1.n x1.kids)]))
 none)))
 none)
 (cond (decide ((IntKind.i64.wrap (v6 + 1)) = v4))
 (cond (decide (0 ≤ x3) && decide (x3 < ((v0.size : Nat) : Int)))
 (cond (!decide (((byteAt v0 (x3 : Int).toNat).toNat : Int) = v5))
 (some ([.one (.fr (.ts [])), .one (.int .i64 (-1))], []))
 (cond (roomB (v7 ++ [(T.mk x1.k x1.n x1.kids)]).length)
 (L_spec_l6Kids_0 n c v0 (IntKind.i64.wrap (x3 + 1)) v2 v3 v4 v5 (IntKind.i64.wrap (v6 + 1)) (v7 ++ [(T.mk x1.k x1.n x1.kids)]))
 none))
 none)
 (cond (roomB (v7 ++ [(T.mk x1.k x1.n x1.kids)]).length)
 (L_spec_l6Kids_0 n c v0 (IntKind.i64.wrap (x3 + 1)) v2 v3 v4 v5 (IntKind.i64.wrap (v6 + 1)) (v7 ++ [(T.mk x1.k x1.n x1.kids)]))
 none))))))))))
 (some ([.one (.fr (.ts v7)), .one (.int .i64 v1)], []))) := by kernel_rfl
theorem E_spec_l6Kids (n : Nat) (v0 : ByteArray) (v1 : Int) (v2 : ByteArray) (v3 v4 v5 : Int) : FF (n + 1) 88 [.one (.str v0), .one (.int .i64 v1), .one (.str v2), .one (.int .i64 v3), .one (.int .i64 v4), .one (.int .u8 v5)] [] =
 L_spec_l6Kids_0 n n v0 v1 v2 v3 v4 v5 0 ([]) := by kernel_rfl
noncomputable def L_bytealg_LastIndexByteString_0 (n c : Nat) (v0 : ByteArray) (v1 v2 : Int) : OR := runLoop Tryd.prog SS n 89 0 [1, 0, 1, 0] [] c ⟨[.v (.one (.str v0)), .v (.one (.int .u8 v1)), anyV, anyV, anyV, .v (.one (.int .i64 v2)), anyV, anyV, anyV, anyV, anyV, anyV, anyV, anyV, anyV, anyV, anyV, anyV, anyV],
 []⟩
theorem L_bytealg_LastIndexByteString_0_eq (n c : Nat) (v0 : ByteArray) (v1 v2 : Int) : L_bytealg_LastIndexByteString_0 n (c + 1) v0 v1 v2 =
 (cond (decide (0 ≤ v2))
 (cond (decide (0 ≤ v2) && decide (v2 < ((v0.size : Nat) : Int)))
 (cond (decide (((byteAt v0 (v2 : Int).toNat).toNat : Int) = v1))
 (some ([.one (.int .i64 v2)], []))
 (L_bytealg_LastIndexByteString_0 n c v0 v1 (IntKind.i64.wrap (v2 - 1))))
 none)
 (some ([.one (.int .i64 (-1))], []))) := by kernel_rfl
theorem E_bytealg_LastIndexByteString (n : Nat) (v0 : ByteArray) (v1 : Int) : FF (n + 1) 89 [.one (.str v0), .one (.int .u8 v1)] [] =
 L_bytealg_LastIndexByteString_0 n n v0 v1 (IntKind.i64.wrap ((v0.size : Int) - 1)) := by kernel_rfl
theorem E_stringslite_TrimPrefix (n : Nat) (v0 v1 : ByteArray) : FF (n + 1) 91 [.one (.str v0), .one (.str v1)] [] =
 ((FF n 102 [.one (.str v0), .one (.str v1)] []).bind fun x0 =>
 (rBool x0.1 fun x1 x2 =>
 (nilV x2 (nilO x0.2
 (cond x1
 (cond (Go.Ab.inB (v1.size : Int) v0.size v0.size)
 (some ([.one (.str (v0.extract ((v1.size : Int) : Int).toNat (v0.size : Int).toNat))], []))
 none)
 (some ([.one (.str v0)], []))))))) := by kernel_rfl
theorem E_stringslite_CutPrefix (n : Nat) (v0 v1 : ByteArray) : FF (n + 1) 92 [.one (.str v0), .one (.str v1)] [] =
 ((FF n 102 [.one (.str v0), .one (.str v1)] []).bind fun x0 =>
 (rBool x0.1 fun x1 x2 =>
 (nilV x2 (nilO x0.2
 (cond (!x1)
 (some ([.one (.str v0), .one (.bool false)], []))
 (cond (Go.Ab.inB (v1.size : Int) v0.size v0.size)
 (some ([.one (.str (v0.extract ((v1.size : Int) : Int).toNat (v0.size : Int).toNat)), .one (.bool true)], []))
 none)))))) := by kernel_rfl
noncomputable def L_spec_l19Num_0 (n c : Nat) (v0 : ByteArray) (v1 : Bool) (v2 v3 : Int) : OR := runLoop Tryd.prog SS n 98 0 [1, 1, 1, 1, 1, 0, 1, 0] [] c ⟨[.v (.one (.str v0)), anyV, anyV, anyV, .v (.one (.bool v1)), .v (.one (.int .i64 v2)), .v (.one (.int .i64 v3)), anyV, anyV, anyV, anyV, anyV, anyV, anyV, anyV, anyV, anyV, anyV, anyV, anyV, anyV, anyV, anyV, anyV, anyV, anyV, anyV, anyV, anyV, anyV, anyV, anyV, anyV, anyV, anyV, anyV, anyV, anyV, anyV, anyV, anyV, anyV, anyV, anyV, anyV, anyV, anyV, anyV, anyV, anyV, anyV, anyV, anyV, anyV, anyV, anyV, anyV, anyV, anyV, anyV, anyV, anyV, anyV, anyV, anyV, anyV, anyV],
 []⟩
theorem L_spec_l19Num_0_eq (n c : Nat) (v0 : ByteArray) (v1 : Bool) (v2 v3 : Int) : L_spec_l19Num_0 n (c + 1) v0 v1 v2 v3 =
 (cond (decide (v3 < (v0.size : Int)))
 (cond (decide (0 ≤ v3) && decide (v3 < ((v0.size : Nat) : Int)))
 (cond (decide (((byteAt v0 (v3 : Int).toNat).toNat : Int) < 48))
 (some ([.one (.int .i64 0), .one (.bool false)], []))
 (cond (decide (0 ≤ v3) && decide (v3 < ((v0.size : Nat) : Int)))
 (cond (decide (57 < ((byteAt v0 (v3 : Int).toNat).toNat : Int)))
 (some ([.one (.int .i64 0), .one (.bool false)], []))
 (cond (decide (0 ≤ v3) && decide (v3 < ((v0.size : Nat) : Int)))
 (L_spec_l19Num_0 n c v0 v1 (IntKind.i64.wrap ((IntKind.i64.wrap (v2 * 10)) + (IntKind.i64.wrap (IntKind.u8.wrap (((byteAt v0 (v3 : Int).toNat).toNat : Int) - 48))))) (IntKind.i64.wrap (v3 + 1)))
 none))
 none))
 none)
 (cond v1
 (some ([.one (.int .i64 (IntKind.i64.wrap (0 - v2))), .one (.bool true)], []))
 (some ([.one (.int .i64 v2), .one (.bool true)], [])))) := by kernel_rfl
theorem E_spec_l19Num (n : Nat) (v0 : ByteArray) : FF (n + 1) 98 [.one (.str v0)] [] =
 (cond (decide (0 < (v0.size : Int)))
 (cond (decide (0 ≤ 0) && decide (0 < ((v0.size : Nat) : Int)))
 (cond (decide (((byteAt v0 (0 : Int).toNat).toNat : Int) = 45))
 (cond (Go.Ab.inB 1 v0.size v0.size)
 (cond (decide (((v0.extract (1 : Int).toNat (v0.size : Int).toNat).size : Int) = 0))
 (some ([.one (.int .i64 0), .one (.bool false)], []))
 (cond (decide (17 < ((v0.extract (1 : Int).toNat (v0.size : Int).toNat).size : Int)))
 (some ([.one (.int .i64 0), .one (.bool false)], []))
 (cond (decide (0 ≤ 0) && decide (0 < (((v0.extract (1 : Int).toNat (v0.size : Int).toNat).size : Nat) : Int)))
 (cond (decide (((byteAt (v0.extract (1 : Int).toNat (v0.size : Int).toNat) (0 : Int).toNat).toNat : Int) = 48))
 (cond (decide (1 < ((v0.extract (1 : Int).toNat (v0.size : Int).toNat).size : Int)))
 (some ([.one (.int .i64 0), .one (.bool false)], []))
 (cond (decide (((byteAt v0 (0 : Int).toNat).toNat : Int) = 45))
 (some ([.one (.int .i64 0), .one (.bool false)], []))
 (L_spec_l19Num_0 n n ((v0.extract (1 : Int).toNat (v0.size : Int).toNat) : ByteArray) ((decide (((byteAt v0 (0 : Int).toNat).toNat : Int) = 45)) : Bool) 0 0)))
 (L_spec_l19Num_0 n n ((v0.extract (1 : Int).toNat (v0.size : Int).toNat) : ByteArray) ((decide (((byteAt v0 (0 : Int).toNat).toNat : Int) = 45)) : Bool) 0 0))
 none)))
 none)
 (cond (decide ((v0.size : Int) = 0))
 (some ([.one (.int .i64 0), .one (.bool false)], []))
 (cond (decide (17 < (v0.size : Int)))
 (some ([.one (.int .i64 0), .one (.bool false)], []))
 (cond (decide (0 ≤ 0) && decide (0 < ((v0.size : Nat) : Int)))
 (cond (decide (((byteAt v0 (0 : Int).toNat).toNat : Int) = 48))
 (cond (decide (1 < (v0.size : Int)))
 (some ([.one (.int .i64 0), .one (.bool false)], []))
 (cond (decide (((byteAt v0 (0 : Int).toNat).toNat : Int) = 45))
 (some ([.one (.int .i64 0), .one (.bool false)], []))
 (L_spec_l19Num_0 n n v0 ((decide (((byteAt v0 (0 : Int).toNat).toNat : Int) = 45)) : Bool) 0 0)))
 (L_spec_l19Num_0 n n v0 ((decide (((byteAt v0 (0 : Int).toNat).toNat : Int) = 45)) : Bool) 0 0))
 none))))
 none)
 (cond (decide ((v0.size : Int) = 0))
 (some ([.one (.int .i64 0), .one (.bool false)], []))
 (cond (decide (17 < (v0.size : Int)))
 (some ([.one (.int .i64 0), .one (.bool false)], []))
 (cond (decide (0 ≤ 0) && decide (0 < ((v0.size : Nat) : Int)))
 (cond (decide (((byteAt v0 (0 : Int).toNat).toNat : Int) = 48))
 (cond (decide (1 < (v0.size : Int)))
 (some ([.one (.int .i64 0), .one (.bool false)], []))
 (L_spec_l19Num_0 n n v0 (false) 0 0))
 (L_spec_l19Num_0 n n v0 (false) 0 0))
 none)))) := by kernel_rfl
theorem E_stringslite_HasPrefix (n : Nat) (v0 v1 : ByteArray) : FF (n + 1) 102 [.one (.str v0), .one (.str v1)] [] =
 (cond (decide ((v1.size : Int) ≤ (v0.size : Int)))
 (cond (Go.Ab.inB 0 (v1.size : Int) v0.size)
 (some ([.one (.bool ((v0.extract (0 : Int).toNat ((v1.size : Int) : Int).toNat).toList == v1.toList))], []))
 none)
 (some ([.one (.bool false)], []))) := by kernel_rfl
end Go.Proofs.YtnogehmgpfpjmaaDoor
end
section

end
section
namespace Go.Ab
open Go Go.Dk
open Go.ChangeShapes Go.WideShapes Go.ChangeAt Go.RowKit
abbrev anyB : Zone := fun _ => True
theorem abs_law {P : Program} [DrM P] {S : Say} (hp : PrimsOK P S) (hib : ∀ f, S.D.ib f = true → extIB P f) {f : FuncId} {fn : Func} {n : Nat} {args : List V1} {vals : List Value} {w : World}
   (hfn : P.funcs[f]? = some fn) (hb : fn.body.isSome = true) (hr : All2 (RV [] anyB w) (args.map .v) vals) (hgl : GL noneZ w) (h : evF P S n f args [] = some ([.one (.bool true)], [])) :
   Calls P f vals.toArray w fun e w' => e = .returned (.bool true) ∧ Grow w w' := by
 have h0 : InvG w noneZ anyB 0 [] ⟨args.map .v, []⟩ vals w := by
  refine ⟨St.init w noneZ anyB (relF_stable _ _ _) ⟨hr, All2.nil⟩, fun j _ hl => by simp at hl, fun k hk => trivial, hgl⟩
 have := abs_sound hp hib n f fn args [] _ hfn hb h w noneZ anyB [] vals w h0
 refine this.mono fun e w' ⟨xs, G', he, hI, _⟩ => ?_
 obtain ⟨x, xs', rfl, h1, h2⟩ := hI.st.per.1.cons_inv
 obtain rfl := h2.nil_inv
 obtain rfl := bool_inv h1
 exact ⟨he, hI.st.ext⟩
theorem str_arg {x : ByteArray} {w : World} : RV1 [] anyB w (.one (.str x)) (.string x) := ⟨rfl, fun _ => rfl⟩
end Go.Ab
end
section
namespace Go.Proofs.YtnogehmgpfpjmaaDoor
open Go Go.Ab Go.Dk
def fstC : Code → Code
 | .seq a _ => a
 | c => c
def sndC : Code → Code
 | .seq _ b => b
 | c => c
noncomputable def B_r : Code := Tryd.f67.body.getD .skip
noncomputable def EE_r (n : Nat) : Env := ⟨Tryd.prog, evF Tryd.prog SS n, SS.D, n, 0, SS.live 67⟩
noncomputable def KK_r : Kont := finK Tryd.prog (SS.D.own 67) Tryd.f67 0
noncomputable def S0_r (v0 : ByteArray) (v1 : Int) (v2 : ByteArray) (v3 : Int) : AS := ⟨[.v (.one (.str v0)), .v (.one (.int .i64 v1)), .v (.one (.str v2)), .v (.one (.int .i64 v3))] ++ List.replicate 106 anyV, []⟩
noncomputable def S1_r (v0 : ByteArray) (v1 : Int) (v2 : ByteArray) (v3 : Int) (x1 : Bool) : AS := ⟨[.v (.one (.str v0)), .v (.one (.int .i64 v1)), .v (.one (.str v2)), .v (.one (.int .i64 v3)), anyV, anyV, anyV, anyV, .v (.one (.ptr 0 0)), .v (.one (.int .i64 0)), .v (.one (.bool x1)), anyV, anyV, anyV, anyV, anyV, anyV, anyV, .v (.one (.str v0)), .v (.one (.int .i64 v1)), .v (.one (.bool x1)), anyV, anyV, anyV, anyV, anyV, anyV, anyV, anyV, anyV, anyV, anyV, anyV, anyV, anyV, anyV, anyV, anyV, anyV, anyV, anyV, anyV, anyV, anyV, anyV, anyV, anyV, anyV, anyV, anyV, anyV, anyV, anyV, anyV, anyV, anyV, anyV, anyV, anyV, anyV, anyV, anyV, anyV, anyV, anyV, anyV, anyV, anyV, anyV, anyV, anyV, anyV, anyV, anyV, anyV, anyV, anyV, anyV, anyV, anyV, anyV, anyV, anyV, anyV, anyV, anyV, anyV, anyV, anyV, anyV, anyV, anyV, anyV, anyV, anyV, anyV, anyV, anyV, anyV, anyV, anyV, anyV, anyV, anyV, anyV, anyV, anyV, anyV, anyV, anyV], [.cells [.int .i64 0, .int .i64 0, .emp (some (29, SK.t))]]⟩
noncomputable def K_spec_l6Round (n : Nat) (v0 : ByteArray) (v1 : Int) (v2 : ByteArray) (v3 : Int) (x1 : Bool) : OR := evC (EE_r n) 0 (sndC (sndC B_r)) (S1_r v0 v1 v2 v3 x1) KK_r
theorem K_spec_l6Round_t (n : Nat) (v0 : ByteArray) (v1 : Int) (v2 : ByteArray) (v3 : Int) : K_spec_l6Round n v0 v1 v2 v3 true =
 (((cond (Go.Ab.inB v1 (IntKind.i64.wrap (v1 + 1)) (v0).size)
 ((cond (decide ((v2).size + (((v0).extract (v1 : Int).toNat ((IntKind.i64.wrap (v1 + 1)) : Int).toNat)).size ≤ 9223372036854775807))
 (((FF n 49 [.one (.str v0), .one (.int .i64 (IntKind.i64.wrap (v1 + 2))), .one (.str v2), .one (.int .i64 v3)] []).bind fun x3 =>
 (rTerm x3.1 fun x4 x5 =>
 (rInt .i64 x5 fun x6 x7 =>
 (nilV x7 (nilO x3.2
 ((cond ((decide (x6 < 0)))
 (some ([.agg [.int .i64 0, .int .i64 0, .fr (.ts [])], .one (.int .i64 (-1))], []))
 ((cond ((decide (((v0).size : Int) ≤ x6)))
 (some ([.agg [.int .i64 0, .int .i64 0, .fr (.ts [])], .one (.int .i64 (-1))], []))
 (((cond (decide (0 ≤ x6) && decide (x6 < (((v0).size : Nat) : Int)))
 ((cond ((decide (((byteAt v0 (x6 : Int).toNat).toNat : Int) = 62)))
 (((FF n 49 [.one (.str v0), .one (.int .i64 (IntKind.i64.wrap (x6 + 1))), .one (.str (v2 ++ ((v0).extract (v1 : Int).toNat ((IntKind.i64.wrap (v1 + 1)) : Int).toNat))), .one (.int .i64 v3)] []).bind fun x8 =>
 (rTerm x8.1 fun x9 x10 =>
 (rInt .i64 x10 fun x11 x12 =>
 (nilV x12 (nilO x8.2
 ((cond ((decide (x11 < 0)))
 (some ([.agg [.int .i64 0, .int .i64 0, .fr (.ts [])], .one (.int .i64 (-1))], []))
 ((cond ((decide (((v0).size : Int) ≤ x11)))
 (some ([.agg [.int .i64 0, .int .i64 0, .fr (.ts [])], .one (.int .i64 (-1))], []))
 ((cond (decide (0 ≤ x11) && decide (x11 < (((v0).size : Nat) : Int)))
 ((cond ((!decide (((byteAt v0 (x11 : Int).toNat).toNat : Int) = 41)))
 (some ([.agg [.int .i64 0, .int .i64 0, .fr (.ts [])], .one (.int .i64 (-1))], []))
 (((FF n 66 [.one (.int .i64 3), .one (.fr (.ts [(T.mk (x4).k (x4).n (x4).kids), (T.mk (x9).k (x9).n (x9).kids)]))] []).bind fun x13 =>
 (rTerm x13.1 fun x14 x15 =>
 (nilV x15 (nilO x13.2
 (some ([.agg [.int .i64 (x14).k, .int .i64 (x14).n, .fr (.ts (x14).kids)], .one (.int .i64 (IntKind.i64.wrap (x11 + 1)))], [])))))))))
 (none)))))))))))))
 (((cond (decide (0 ≤ x6) && decide (x6 < (((v0).size : Nat) : Int)))
 ((cond ((decide (((byteAt v0 (x6 : Int).toNat).toNat : Int) = 42)))
 (((FF n 49 [.one (.str v0), .one (.int .i64 (IntKind.i64.wrap (x6 + 1))), .one (.str (v2 ++ ((v0).extract (v1 : Int).toNat ((IntKind.i64.wrap (v1 + 1)) : Int).toNat))), .one (.int .i64 v3)] []).bind fun x8 =>
 (rTerm x8.1 fun x9 x10 =>
 (rInt .i64 x10 fun x11 x12 =>
 (nilV x12 (nilO x8.2
 ((cond ((decide (x11 < 0)))
 (some ([.agg [.int .i64 0, .int .i64 0, .fr (.ts [])], .one (.int .i64 (-1))], []))
 ((cond ((decide (((v0).size : Int) ≤ x11)))
 (some ([.agg [.int .i64 0, .int .i64 0, .fr (.ts [])], .one (.int .i64 (-1))], []))
 ((cond (decide (0 ≤ x11) && decide (x11 < (((v0).size : Nat) : Int)))
 ((cond ((!decide (((byteAt v0 (x11 : Int).toNat).toNat : Int) = 41)))
 (some ([.agg [.int .i64 0, .int .i64 0, .fr (.ts [])], .one (.int .i64 (-1))], []))
 (((FF n 66 [.one (.int .i64 13), .one (.fr (.ts [(T.mk (x4).k (x4).n (x4).kids), (T.mk (x9).k (x9).n (x9).kids)]))] []).bind fun x13 =>
 (rTerm x13.1 fun x14 x15 =>
 (nilV x15 (nilO x13.2
 (some ([.agg [.int .i64 (x14).k, .int .i64 (x14).n, .fr (.ts (x14).kids)], .one (.int .i64 (IntKind.i64.wrap (x11 + 1)))], [])))))))))
 (none)))))))))))))
 ((((FF n 49 [.one (.str v0), .one (.int .i64 (IntKind.i64.wrap (x6 + 1))), .one (.str (v2 ++ ((v0).extract (v1 : Int).toNat ((IntKind.i64.wrap (v1 + 1)) : Int).toNat))), .one (.int .i64 v3)] []).bind fun x8 =>
 (rTerm x8.1 fun x9 x10 =>
 (rInt .i64 x10 fun x11 x12 =>
 (nilV x12 (nilO x8.2
 (some ([.agg [.int .i64 0, .int .i64 0, .fr (.ts [])], .one (.int .i64 (-1))], [])))))))))))
 (none))))))
 (none))))))))))))))
 (none)))
 (none)))) := by kernel_rfl
theorem K_spec_l6Round_f (n : Nat) (v0 : ByteArray) (v1 : Int) (v2 : ByteArray) (v3 : Int) : K_spec_l6Round n v0 v1 v2 v3 false =
 ((((FF n 49 [.one (.str v0), .one (.int .i64 v1), .one (.str v2), .one (.int .i64 v3)] []).bind fun x3 =>
 (rTerm x3.1 fun x4 x5 =>
 (rInt .i64 x5 fun x6 x7 =>
 (nilV x7 (nilO x3.2
 ((cond ((decide (x6 < 0)))
 (some ([.agg [.int .i64 0, .int .i64 0, .fr (.ts [])], .one (.int .i64 (-1))], []))
 ((cond ((decide (((v0).size : Int) ≤ x6)))
 (some ([.agg [.int .i64 0, .int .i64 0, .fr (.ts [])], .one (.int .i64 (-1))], []))
 (((((cond (decide (0 ≤ x6) && decide (x6 < (((v0).size : Nat) : Int)))
 ((cond ((decide (((byteAt v0 (x6 : Int).toNat).toNat : Int) = 32)))
 (((FF n 49 [.one (.str v0), .one (.int .i64 (IntKind.i64.wrap (x6 + 1))), .one (.str v2), .one (.int .i64 v3)] []).bind fun x8 =>
 (rTerm x8.1 fun x9 x10 =>
 (rInt .i64 x10 fun x11 x12 =>
 (nilV x12 (nilO x8.2
 ((cond ((decide (x11 < 0)))
 (some ([.agg [.int .i64 0, .int .i64 0, .fr (.ts [])], .one (.int .i64 (-1))], []))
 ((cond ((decide (((v0).size : Int) ≤ x11)))
 (some ([.agg [.int .i64 0, .int .i64 0, .fr (.ts [])], .one (.int .i64 (-1))], []))
 ((cond (decide (0 ≤ x11) && decide (x11 < (((v0).size : Nat) : Int)))
 ((cond ((!decide (((byteAt v0 (x11 : Int).toNat).toNat : Int) = 41)))
 (some ([.agg [.int .i64 0, .int .i64 0, .fr (.ts [])], .one (.int .i64 (-1))], []))
 (((FF n 66 [.one (.int .i64 5), .one (.fr (.ts [(T.mk (x4).k (x4).n (x4).kids), (T.mk (x9).k (x9).n (x9).kids)]))] []).bind fun x13 =>
 (rTerm x13.1 fun x14 x15 =>
 (nilV x15 (nilO x13.2
 (some ([.agg [.int .i64 (x14).k, .int .i64 (x14).n, .fr (.ts (x14).kids)], .one (.int .i64 (IntKind.i64.wrap (x11 + 1)))], [])))))))))
 (none)))))))))))))
 (((FF n 49 [.one (.str v0), .one (.int .i64 (IntKind.i64.wrap (x6 + 1))), .one (.str v2), .one (.int .i64 v3)] []).bind fun x8 =>
 (rTerm x8.1 fun x9 x10 =>
 (rInt .i64 x10 fun x11 x12 =>
 (nilV x12 (nilO x8.2
 (some ([.agg [.int .i64 0, .int .i64 0, .fr (.ts [])], .one (.int .i64 (-1))], []))))))))))
 (none))))))))))))))))) := by kernel_rfl
theorem step_r (n : Nat) (v0 : ByteArray) (v1 : Int) (v2 : ByteArray) (v3 : Int) (R : Code) (k : Kont) : evC (EE_r n) 0 (.seq (fstC B_r) (.seq (fstC (sndC B_r)) R)) (S0_r v0 v1 v2 v3) k =
 ((FF n 87 [.one (.str v0), .one (.int .i64 v1)] []).bind fun x0 =>
 (rBool x0.1 fun x1 x2 =>
 (nilV x2 (nilO x0.2
 (evC (EE_r n) 0 R (S1_r v0 v1 v2 v3 x1) k))))) := by kernel_rfl
theorem body_r : B_r = .seq (fstC B_r) (.seq (fstC (sndC B_r)) (sndC (sndC B_r))) := by kernel_rfl
theorem enter_r (n : Nat) (v0 : ByteArray) (v1 : Int) (v2 : ByteArray) (v3 : Int) : FF (n + 1) 67 [.one (.str v0), .one (.int .i64 v1), .one (.str v2), .one (.int .i64 v3)] [] = evC (EE_r n) 0 B_r (S0_r v0 v1 v2 v3) KK_r := by kernel_rfl
theorem cond_r (n : Nat) (v0 : ByteArray) (v1 : Int) (v2 : ByteArray) (v3 : Int) (b : Bool) : evC (EE_r n) 0 (sndC (sndC B_r)) (S1_r v0 v1 v2 v3 b) KK_r = cond b (
 (((cond (Go.Ab.inB v1 (IntKind.i64.wrap (v1 + 1)) (v0).size)
 ((cond (decide ((v2).size + (((v0).extract (v1 : Int).toNat ((IntKind.i64.wrap (v1 + 1)) : Int).toNat)).size ≤ 9223372036854775807))
 (((FF n 49 [.one (.str v0), .one (.int .i64 (IntKind.i64.wrap (v1 + 2))), .one (.str v2), .one (.int .i64 v3)] []).bind fun x3 =>
 (rTerm x3.1 fun x4 x5 =>
 (rInt .i64 x5 fun x6 x7 =>
 (nilV x7 (nilO x3.2
 ((cond ((decide (x6 < 0)))
 (some ([.agg [.int .i64 0, .int .i64 0, .fr (.ts [])], .one (.int .i64 (-1))], []))
 ((cond ((decide (((v0).size : Int) ≤ x6)))
 (some ([.agg [.int .i64 0, .int .i64 0, .fr (.ts [])], .one (.int .i64 (-1))], []))
 (((cond (decide (0 ≤ x6) && decide (x6 < (((v0).size : Nat) : Int)))
 ((cond ((decide (((byteAt v0 (x6 : Int).toNat).toNat : Int) = 62)))
 (((FF n 49 [.one (.str v0), .one (.int .i64 (IntKind.i64.wrap (x6 + 1))), .one (.str (v2 ++ ((v0).extract (v1 : Int).toNat ((IntKind.i64.wrap (v1 + 1)) : Int).toNat))), .one (.int .i64 v3)] []).bind fun x8 =>
 (rTerm x8.1 fun x9 x10 =>
 (rInt .i64 x10 fun x11 x12 =>
 (nilV x12 (nilO x8.2
 ((cond ((decide (x11 < 0)))
 (some ([.agg [.int .i64 0, .int .i64 0, .fr (.ts [])], .one (.int .i64 (-1))], []))
 ((cond ((decide (((v0).size : Int) ≤ x11)))
 (some ([.agg [.int .i64 0, .int .i64 0, .fr (.ts [])], .one (.int .i64 (-1))], []))
 ((cond (decide (0 ≤ x11) && decide (x11 < (((v0).size : Nat) : Int)))
 ((cond ((!decide (((byteAt v0 (x11 : Int).toNat).toNat : Int) = 41)))
 (some ([.agg [.int .i64 0, .int .i64 0, .fr (.ts [])], .one (.int .i64 (-1))], []))
 (((FF n 66 [.one (.int .i64 3), .one (.fr (.ts [(T.mk (x4).k (x4).n (x4).kids), (T.mk (x9).k (x9).n (x9).kids)]))] []).bind fun x13 =>
 (rTerm x13.1 fun x14 x15 =>
 (nilV x15 (nilO x13.2
 (some ([.agg [.int .i64 (x14).k, .int .i64 (x14).n, .fr (.ts (x14).kids)], .one (.int .i64 (IntKind.i64.wrap (x11 + 1)))], [])))))))))
 (none)))))))))))))
 (((cond (decide (0 ≤ x6) && decide (x6 < (((v0).size : Nat) : Int)))
 ((cond ((decide (((byteAt v0 (x6 : Int).toNat).toNat : Int) = 42)))
 (((FF n 49 [.one (.str v0), .one (.int .i64 (IntKind.i64.wrap (x6 + 1))), .one (.str (v2 ++ ((v0).extract (v1 : Int).toNat ((IntKind.i64.wrap (v1 + 1)) : Int).toNat))), .one (.int .i64 v3)] []).bind fun x8 =>
 (rTerm x8.1 fun x9 x10 =>
 (rInt .i64 x10 fun x11 x12 =>
 (nilV x12 (nilO x8.2
 ((cond ((decide (x11 < 0)))
 (some ([.agg [.int .i64 0, .int .i64 0, .fr (.ts [])], .one (.int .i64 (-1))], []))
 ((cond ((decide (((v0).size : Int) ≤ x11)))
 (some ([.agg [.int .i64 0, .int .i64 0, .fr (.ts [])], .one (.int .i64 (-1))], []))
 ((cond (decide (0 ≤ x11) && decide (x11 < (((v0).size : Nat) : Int)))
 ((cond ((!decide (((byteAt v0 (x11 : Int).toNat).toNat : Int) = 41)))
 (some ([.agg [.int .i64 0, .int .i64 0, .fr (.ts [])], .one (.int .i64 (-1))], []))
 (((FF n 66 [.one (.int .i64 13), .one (.fr (.ts [(T.mk (x4).k (x4).n (x4).kids), (T.mk (x9).k (x9).n (x9).kids)]))] []).bind fun x13 =>
 (rTerm x13.1 fun x14 x15 =>
 (nilV x15 (nilO x13.2
 (some ([.agg [.int .i64 (x14).k, .int .i64 (x14).n, .fr (.ts (x14).kids)], .one (.int .i64 (IntKind.i64.wrap (x11 + 1)))], [])))))))))
 (none)))))))))))))
 ((((FF n 49 [.one (.str v0), .one (.int .i64 (IntKind.i64.wrap (x6 + 1))), .one (.str (v2 ++ ((v0).extract (v1 : Int).toNat ((IntKind.i64.wrap (v1 + 1)) : Int).toNat))), .one (.int .i64 v3)] []).bind fun x8 =>
 (rTerm x8.1 fun x9 x10 =>
 (rInt .i64 x10 fun x11 x12 =>
 (nilV x12 (nilO x8.2
 (some ([.agg [.int .i64 0, .int .i64 0, .fr (.ts [])], .one (.int .i64 (-1))], [])))))))))))
 (none))))))
 (none))))))))))))))
 (none)))
 (none))))) (
 ((((FF n 49 [.one (.str v0), .one (.int .i64 v1), .one (.str v2), .one (.int .i64 v3)] []).bind fun x3 =>
 (rTerm x3.1 fun x4 x5 =>
 (rInt .i64 x5 fun x6 x7 =>
 (nilV x7 (nilO x3.2
 ((cond ((decide (x6 < 0)))
 (some ([.agg [.int .i64 0, .int .i64 0, .fr (.ts [])], .one (.int .i64 (-1))], []))
 ((cond ((decide (((v0).size : Int) ≤ x6)))
 (some ([.agg [.int .i64 0, .int .i64 0, .fr (.ts [])], .one (.int .i64 (-1))], []))
 (((((cond (decide (0 ≤ x6) && decide (x6 < (((v0).size : Nat) : Int)))
 ((cond ((decide (((byteAt v0 (x6 : Int).toNat).toNat : Int) = 32)))
 (((FF n 49 [.one (.str v0), .one (.int .i64 (IntKind.i64.wrap (x6 + 1))), .one (.str v2), .one (.int .i64 v3)] []).bind fun x8 =>
 (rTerm x8.1 fun x9 x10 =>
 (rInt .i64 x10 fun x11 x12 =>
 (nilV x12 (nilO x8.2
 ((cond ((decide (x11 < 0)))
 (some ([.agg [.int .i64 0, .int .i64 0, .fr (.ts [])], .one (.int .i64 (-1))], []))
 ((cond ((decide (((v0).size : Int) ≤ x11)))
 (some ([.agg [.int .i64 0, .int .i64 0, .fr (.ts [])], .one (.int .i64 (-1))], []))
 ((cond (decide (0 ≤ x11) && decide (x11 < (((v0).size : Nat) : Int)))
 ((cond ((!decide (((byteAt v0 (x11 : Int).toNat).toNat : Int) = 41)))
 (some ([.agg [.int .i64 0, .int .i64 0, .fr (.ts [])], .one (.int .i64 (-1))], []))
 (((FF n 66 [.one (.int .i64 5), .one (.fr (.ts [(T.mk (x4).k (x4).n (x4).kids), (T.mk (x9).k (x9).n (x9).kids)]))] []).bind fun x13 =>
 (rTerm x13.1 fun x14 x15 =>
 (nilV x15 (nilO x13.2
 (some ([.agg [.int .i64 (x14).k, .int .i64 (x14).n, .fr (.ts (x14).kids)], .one (.int .i64 (IntKind.i64.wrap (x11 + 1)))], [])))))))))
 (none)))))))))))))
 (((FF n 49 [.one (.str v0), .one (.int .i64 (IntKind.i64.wrap (x6 + 1))), .one (.str v2), .one (.int .i64 v3)] []).bind fun x8 =>
 (rTerm x8.1 fun x9 x10 =>
 (rInt .i64 x10 fun x11 x12 =>
 (nilV x12 (nilO x8.2
 (some ([.agg [.int .i64 0, .int .i64 0, .fr (.ts [])], .one (.int .i64 (-1))], []))))))))))
 (none)))))))))))))))))) := by
  cases b
  ·exact K_spec_l6Round_f n v0 v1 v2 v3
  ·exact K_spec_l6Round_t n v0 v1 v2 v3
theorem E_spec_l6Round (n : Nat) (v0 : ByteArray) (v1 : Int) (v2 : ByteArray) (v3 : Int) : FF (n + 1) 67 [.one (.str v0), .one (.int .i64 v1), .one (.str v2), .one (.int .i64 v3)] [] =
 ((FF n 87 [.one (.str v0), .one (.int .i64 v1)] []).bind fun x0 =>
 (rBool x0.1 fun x1 x2 =>
 (nilV x2 (nilO x0.2
 (cond x1 (
 (((cond (Go.Ab.inB v1 (IntKind.i64.wrap (v1 + 1)) (v0).size)
 ((cond (decide ((v2).size + (((v0).extract (v1 : Int).toNat ((IntKind.i64.wrap (v1 + 1)) : Int).toNat)).size ≤ 9223372036854775807))
 (((FF n 49 [.one (.str v0), .one (.int .i64 (IntKind.i64.wrap (v1 + 2))), .one (.str v2), .one (.int .i64 v3)] []).bind fun x3 =>
 (rTerm x3.1 fun x4 x5 =>
 (rInt .i64 x5 fun x6 x7 =>
 (nilV x7 (nilO x3.2
 ((cond ((decide (x6 < 0)))
 (some ([.agg [.int .i64 0, .int .i64 0, .fr (.ts [])], .one (.int .i64 (-1))], []))
 ((cond ((decide (((v0).size : Int) ≤ x6)))
 (some ([.agg [.int .i64 0, .int .i64 0, .fr (.ts [])], .one (.int .i64 (-1))], []))
 (((cond (decide (0 ≤ x6) && decide (x6 < (((v0).size : Nat) : Int)))
 ((cond ((decide (((byteAt v0 (x6 : Int).toNat).toNat : Int) = 62)))
 (((FF n 49 [.one (.str v0), .one (.int .i64 (IntKind.i64.wrap (x6 + 1))), .one (.str (v2 ++ ((v0).extract (v1 : Int).toNat ((IntKind.i64.wrap (v1 + 1)) : Int).toNat))), .one (.int .i64 v3)] []).bind fun x8 =>
 (rTerm x8.1 fun x9 x10 =>
 (rInt .i64 x10 fun x11 x12 =>
 (nilV x12 (nilO x8.2
 ((cond ((decide (x11 < 0)))
 (some ([.agg [.int .i64 0, .int .i64 0, .fr (.ts [])], .one (.int .i64 (-1))], []))
 ((cond ((decide (((v0).size : Int) ≤ x11)))
 (some ([.agg [.int .i64 0, .int .i64 0, .fr (.ts [])], .one (.int .i64 (-1))], []))
 ((cond (decide (0 ≤ x11) && decide (x11 < (((v0).size : Nat) : Int)))
 ((cond ((!decide (((byteAt v0 (x11 : Int).toNat).toNat : Int) = 41)))
 (some ([.agg [.int .i64 0, .int .i64 0, .fr (.ts [])], .one (.int .i64 (-1))], []))
 (((FF n 66 [.one (.int .i64 3), .one (.fr (.ts [(T.mk (x4).k (x4).n (x4).kids), (T.mk (x9).k (x9).n (x9).kids)]))] []).bind fun x13 =>
 (rTerm x13.1 fun x14 x15 =>
 (nilV x15 (nilO x13.2
 (some ([.agg [.int .i64 (x14).k, .int .i64 (x14).n, .fr (.ts (x14).kids)], .one (.int .i64 (IntKind.i64.wrap (x11 + 1)))], [])))))))))
 (none)))))))))))))
 (((cond (decide (0 ≤ x6) && decide (x6 < (((v0).size : Nat) : Int)))
 ((cond ((decide (((byteAt v0 (x6 : Int).toNat).toNat : Int) = 42)))
 (((FF n 49 [.one (.str v0), .one (.int .i64 (IntKind.i64.wrap (x6 + 1))), .one (.str (v2 ++ ((v0).extract (v1 : Int).toNat ((IntKind.i64.wrap (v1 + 1)) : Int).toNat))), .one (.int .i64 v3)] []).bind fun x8 =>
 (rTerm x8.1 fun x9 x10 =>
 (rInt .i64 x10 fun x11 x12 =>
 (nilV x12 (nilO x8.2
 ((cond ((decide (x11 < 0)))
 (some ([.agg [.int .i64 0, .int .i64 0, .fr (.ts [])], .one (.int .i64 (-1))], []))
 ((cond ((decide (((v0).size : Int) ≤ x11)))
 (some ([.agg [.int .i64 0, .int .i64 0, .fr (.ts [])], .one (.int .i64 (-1))], []))
 ((cond (decide (0 ≤ x11) && decide (x11 < (((v0).size : Nat) : Int)))
 ((cond ((!decide (((byteAt v0 (x11 : Int).toNat).toNat : Int) = 41)))
 (some ([.agg [.int .i64 0, .int .i64 0, .fr (.ts [])], .one (.int .i64 (-1))], []))
 (((FF n 66 [.one (.int .i64 13), .one (.fr (.ts [(T.mk (x4).k (x4).n (x4).kids), (T.mk (x9).k (x9).n (x9).kids)]))] []).bind fun x13 =>
 (rTerm x13.1 fun x14 x15 =>
 (nilV x15 (nilO x13.2
 (some ([.agg [.int .i64 (x14).k, .int .i64 (x14).n, .fr (.ts (x14).kids)], .one (.int .i64 (IntKind.i64.wrap (x11 + 1)))], [])))))))))
 (none)))))))))))))
 ((((FF n 49 [.one (.str v0), .one (.int .i64 (IntKind.i64.wrap (x6 + 1))), .one (.str (v2 ++ ((v0).extract (v1 : Int).toNat ((IntKind.i64.wrap (v1 + 1)) : Int).toNat))), .one (.int .i64 v3)] []).bind fun x8 =>
 (rTerm x8.1 fun x9 x10 =>
 (rInt .i64 x10 fun x11 x12 =>
 (nilV x12 (nilO x8.2
 (some ([.agg [.int .i64 0, .int .i64 0, .fr (.ts [])], .one (.int .i64 (-1))], [])))))))))))
 (none))))))
 (none))))))))))))))
 (none)))
 (none))))) (
 ((((FF n 49 [.one (.str v0), .one (.int .i64 v1), .one (.str v2), .one (.int .i64 v3)] []).bind fun x3 =>
 (rTerm x3.1 fun x4 x5 =>
 (rInt .i64 x5 fun x6 x7 =>
 (nilV x7 (nilO x3.2
 ((cond ((decide (x6 < 0)))
 (some ([.agg [.int .i64 0, .int .i64 0, .fr (.ts [])], .one (.int .i64 (-1))], []))
 ((cond ((decide (((v0).size : Int) ≤ x6)))
 (some ([.agg [.int .i64 0, .int .i64 0, .fr (.ts [])], .one (.int .i64 (-1))], []))
 (((((cond (decide (0 ≤ x6) && decide (x6 < (((v0).size : Nat) : Int)))
 ((cond ((decide (((byteAt v0 (x6 : Int).toNat).toNat : Int) = 32)))
 (((FF n 49 [.one (.str v0), .one (.int .i64 (IntKind.i64.wrap (x6 + 1))), .one (.str v2), .one (.int .i64 v3)] []).bind fun x8 =>
 (rTerm x8.1 fun x9 x10 =>
 (rInt .i64 x10 fun x11 x12 =>
 (nilV x12 (nilO x8.2
 ((cond ((decide (x11 < 0)))
 (some ([.agg [.int .i64 0, .int .i64 0, .fr (.ts [])], .one (.int .i64 (-1))], []))
 ((cond ((decide (((v0).size : Int) ≤ x11)))
 (some ([.agg [.int .i64 0, .int .i64 0, .fr (.ts [])], .one (.int .i64 (-1))], []))
 ((cond (decide (0 ≤ x11) && decide (x11 < (((v0).size : Nat) : Int)))
 ((cond ((!decide (((byteAt v0 (x11 : Int).toNat).toNat : Int) = 41)))
 (some ([.agg [.int .i64 0, .int .i64 0, .fr (.ts [])], .one (.int .i64 (-1))], []))
 (((FF n 66 [.one (.int .i64 5), .one (.fr (.ts [(T.mk (x4).k (x4).n (x4).kids), (T.mk (x9).k (x9).n (x9).kids)]))] []).bind fun x13 =>
 (rTerm x13.1 fun x14 x15 =>
 (nilV x15 (nilO x13.2
 (some ([.agg [.int .i64 (x14).k, .int .i64 (x14).n, .fr (.ts (x14).kids)], .one (.int .i64 (IntKind.i64.wrap (x11 + 1)))], [])))))))))
 (none)))))))))))))
 (((FF n 49 [.one (.str v0), .one (.int .i64 (IntKind.i64.wrap (x6 + 1))), .one (.str v2), .one (.int .i64 v3)] []).bind fun x8 =>
 (rTerm x8.1 fun x9 x10 =>
 (rInt .i64 x10 fun x11 x12 =>
 (nilV x12 (nilO x8.2
 (some ([.agg [.int .i64 0, .int .i64 0, .fr (.ts [])], .one (.int .i64 (-1))], []))))))))))
 (none))))))))))))))))))))))) := by
  rw [enter_r, body_r, step_r]
  simp only [cond_r]
end Go.Proofs.YtnogehmgpfpjmaaDoor
end
section
namespace Go.Proofs.YtnogehmgpfpjmaaDoor
open Go.Shelf
def laysM171_ren : Go.Shelf.Ren := ⟨fun | 171 => 63 | 243 => 79 | 246 => 93 | 283 => 103 | 284 => 104 | 285 => 105 | 286 => 106 | 129 => 117 | 317 => 116 | 318 => 118 | 319 => 119 | 320 => 120 | 337 => 125 | 338 => 126 | n => n, fun | 3 => 3 | 9 => 9 | 2 => 2 | 4 => 4 | 171 => 102 | 0 => 0 | 53 => 103 | 37 => 67 | 5 => 5 | 173 => 106 | 212 => 116 | 51 => 117 | 20 => 20 | 213 => 118 | 46 => 108 | 232 => 137 | 233 => 138 | n => n, fun | 17 => 1 | 18 => 6 | 19 => 7 | n => n⟩
theorem laysM171 : Go.Proofs.LaysM.n171 Tryd.prog laysM171_ren := {
 mixed := by kernel_rfl
 f129 := Tryd.func117.trans (congrArg some (by kernel_rfl))
 f171 := Tryd.func63.trans (congrArg some (by kernel_rfl))
 f243 := Tryd.func79.trans (congrArg some (by kernel_rfl))
 f246 := Tryd.func93.trans (congrArg some (by kernel_rfl))
 f283 := Tryd.func103.trans (congrArg some (by kernel_rfl))
 f284 := Tryd.func104.trans (congrArg some (by kernel_rfl))
 f285 := Tryd.func105.trans (congrArg some (by kernel_rfl))
 f286 := Tryd.func106.trans (congrArg some (by kernel_rfl))
 f317 := Tryd.func116.trans (congrArg some (by kernel_rfl))
 f318 := Tryd.func118.trans (congrArg some (by kernel_rfl))
 f319 := Tryd.func119.trans (congrArg some (by kernel_rfl))
 f320 := Tryd.func120.trans (congrArg some (by kernel_rfl))
 f337 := Tryd.func125.trans (congrArg some (by kernel_rfl))
 f338 := Tryd.func126.trans (congrArg some (by kernel_rfl))
 t0 := Tryd.underlying0
 a0 := Tryd.isAgg0
 z0 := Tryd.sizeOf0
 v0 := Tryd.zeroValue0
 t2 := Tryd.underlying2
 a2 := Tryd.isAgg2
 z2 := Tryd.sizeOf2
 v2 := Tryd.zeroValue2
 t3 := Tryd.underlying3
 a3 := Tryd.isAgg3
 z3 := Tryd.sizeOf3
 v3 := Tryd.zeroValue3
 t4 := Tryd.underlying4
 a4 := Tryd.isAgg4
 z4 := Tryd.sizeOf4
 v4 := Tryd.zeroValue4
 t5 := Tryd.underlying5
 a5 := Tryd.isAgg5
 z5 := Tryd.sizeOf5
 v5 := Tryd.zeroValue5
 t9 := Tryd.underlying9
 a9 := Tryd.isAgg9
 z9 := Tryd.sizeOf9
 v9 := Tryd.zeroValue9
 t20 := Tryd.underlying20
 a20 := Tryd.isAgg20
 z20 := Tryd.sizeOf20
 v20 := Tryd.zeroValue20
 t37 := Tryd.underlying67
 a37 := Tryd.isAgg67
 z37 := Tryd.sizeOf67
 v37 := Tryd.zeroValue67
 t46 := Tryd.underlying108
 a46 := Tryd.isAgg108
 z46 := Tryd.sizeOf108
 v46 := Tryd.zeroValue108
 t51 := Tryd.underlying117
 a51 := Tryd.isAgg117
 z51 := Tryd.sizeOf117
 v51 := Tryd.zeroValue117
 t53 := Tryd.underlying103
 a53 := Tryd.isAgg103
 z53 := Tryd.sizeOf103
 v53 := Tryd.zeroValue103
 t171 := Tryd.underlying102
 a171 := Tryd.isAgg102
 z171 := Tryd.sizeOf102
 v171 := Tryd.zeroValue102
 t173 := Tryd.underlying106
 a173 := Tryd.isAgg106
 z173 := Tryd.sizeOf106
 v173 := Tryd.zeroValue106
 t212 := Tryd.underlying116
 a212 := Tryd.isAgg116
 z212 := Tryd.sizeOf116
 v212 := Tryd.zeroValue116
 t213 := Tryd.underlying118
 a213 := Tryd.isAgg118
 z213 := Tryd.sizeOf118
 t232 := Tryd.underlying137
 a232 := Tryd.isAgg137
 z232 := Tryd.sizeOf137
 v232 := Tryd.zeroValue137
 t233 := Tryd.underlying138
 a233 := Tryd.isAgg138
 z233 := Tryd.sizeOf138
 v233 := Tryd.zeroValue138
 g17 := by kernel_rfl
 g18 := by kernel_rfl
 g19 := by kernel_rfl
 i0 := by kernel_rfl
 i2 := by kernel_rfl
 i3 := by kernel_rfl
 i4 := by kernel_rfl
 i5 := by kernel_rfl
 i9 := by kernel_rfl
 i20 := by kernel_rfl
 i37 := by kernel_rfl
 i46 := by kernel_rfl
 i51 := by kernel_rfl
 i53 := by kernel_rfl
 i171 := by kernel_rfl
 i173 := by kernel_rfl
 i212 := by kernel_rfl
 i232 := by kernel_rfl
 i233 := by kernel_rfl
 m17 := by kernel_rfl
 m18 := by kernel_rfl
 m19 := by kernel_rfl }
def laysC172_ren : Go.Shelf.Ren := ⟨fun | 172 => 90 | 244 => 100 | 245 => 101 | 247 => 111 | 279 => 112 | 280 => 113 | 281 => 114 | 282 => 115 | 287 => 122 | 316 => 123 | 171 => 63 | 205 => 124 | 321 => 127 | 322 => 128 | 243 => 79 | 246 => 93 | 283 => 103 | 284 => 104 | 285 => 105 | 286 => 106 | 129 => 117 | 317 => 116 | 318 => 118 | 319 => 119 | 320 => 120 | 337 => 125 | 338 => 126 | n => n, fun | 9 => 9 | 3 => 3 | 75 => 91 | 76 => 92 | 4 => 4 | 5 => 5 | 167 => 109 | 37 => 67 | 0 => 0 | 85 => 110 | 2 => 2 | 168 => 112 | 53 => 103 | 175 => 126 | 46 => 108 | 210 => 129 | 127 => 133 | 145 => 136 | 143 => 134 | 21 => 21 | 171 => 102 | 173 => 106 | 212 => 116 | 51 => 117 | 20 => 20 | 213 => 118 | 232 => 137 | 233 => 138 | 80 => 139 | n => n, fun | 15 => 4 | 16 => 5 | 17 => 1 | 18 => 6 | 19 => 7 | n => n⟩
theorem laysC172 : Go.Proofs.LaysC.n172 Tryd.prog laysC172_ren := {
 mixed := by kernel_rfl
 f129 := Tryd.func117.trans (congrArg some (by kernel_rfl))
 f171 := Tryd.func63.trans (congrArg some (by kernel_rfl))
 f172 := Tryd.func90.trans (congrArg some (by kernel_rfl))
 f205 := Tryd.func124.trans (congrArg some (by kernel_rfl))
 f243 := Tryd.func79.trans (congrArg some (by kernel_rfl))
 f244 := Tryd.func100.trans (congrArg some (by kernel_rfl))
 f245 := Tryd.func101.trans (congrArg some (by kernel_rfl))
 f246 := Tryd.func93.trans (congrArg some (by kernel_rfl))
 f247 := Tryd.func111.trans (congrArg some (by kernel_rfl))
 f279 := Tryd.func112.trans (congrArg some (by kernel_rfl))
 f280 := Tryd.func113.trans (congrArg some (by kernel_rfl))
 f281 := Tryd.func114.trans (congrArg some (by kernel_rfl))
 f282 := Tryd.func115.trans (congrArg some (by kernel_rfl))
 f283 := Tryd.func103.trans (congrArg some (by kernel_rfl))
 f284 := Tryd.func104.trans (congrArg some (by kernel_rfl))
 f285 := Tryd.func105.trans (congrArg some (by kernel_rfl))
 f286 := Tryd.func106.trans (congrArg some (by kernel_rfl))
 f287 := Tryd.func122.trans (congrArg some (by kernel_rfl))
 f316 := Tryd.func123.trans (congrArg some (by kernel_rfl))
 f317 := Tryd.func116.trans (congrArg some (by kernel_rfl))
 f318 := Tryd.func118.trans (congrArg some (by kernel_rfl))
 f319 := Tryd.func119.trans (congrArg some (by kernel_rfl))
 f320 := Tryd.func120.trans (congrArg some (by kernel_rfl))
 f321 := Tryd.func127.trans (congrArg some (by kernel_rfl))
 f322 := Tryd.func128.trans (congrArg some (by kernel_rfl))
 f337 := Tryd.func125.trans (congrArg some (by kernel_rfl))
 f338 := Tryd.func126.trans (congrArg some (by kernel_rfl))
 t0 := Tryd.underlying0
 a0 := Tryd.isAgg0
 z0 := Tryd.sizeOf0
 v0 := Tryd.zeroValue0
 t2 := Tryd.underlying2
 a2 := Tryd.isAgg2
 z2 := Tryd.sizeOf2
 v2 := Tryd.zeroValue2
 t3 := Tryd.underlying3
 a3 := Tryd.isAgg3
 z3 := Tryd.sizeOf3
 v3 := Tryd.zeroValue3
 t4 := Tryd.underlying4
 a4 := Tryd.isAgg4
 z4 := Tryd.sizeOf4
 v4 := Tryd.zeroValue4
 t5 := Tryd.underlying5
 a5 := Tryd.isAgg5
 z5 := Tryd.sizeOf5
 v5 := Tryd.zeroValue5
 t9 := Tryd.underlying9
 a9 := Tryd.isAgg9
 z9 := Tryd.sizeOf9
 v9 := Tryd.zeroValue9
 t20 := Tryd.underlying20
 a20 := Tryd.isAgg20
 z20 := Tryd.sizeOf20
 v20 := Tryd.zeroValue20
 t21 := Tryd.underlying21
 a21 := Tryd.isAgg21
 z21 := Tryd.sizeOf21
 v21 := Tryd.zeroValue21
 t37 := Tryd.underlying67
 a37 := Tryd.isAgg67
 z37 := Tryd.sizeOf67
 v37 := Tryd.zeroValue67
 t46 := Tryd.underlying108
 a46 := Tryd.isAgg108
 z46 := Tryd.sizeOf108
 v46 := Tryd.zeroValue108
 t51 := Tryd.underlying117
 a51 := Tryd.isAgg117
 z51 := Tryd.sizeOf117
 v51 := Tryd.zeroValue117
 t53 := Tryd.underlying103
 a53 := Tryd.isAgg103
 z53 := Tryd.sizeOf103
 v53 := Tryd.zeroValue103
 t75 := Tryd.underlying91
 a75 := Tryd.isAgg91
 z75 := Tryd.sizeOf91
 v75 := Tryd.zeroValue91
 t76 := Tryd.underlying92
 a76 := Tryd.isAgg92
 z76 := Tryd.sizeOf92
 v76 := Tryd.zeroValue92
 t85 := Tryd.underlying110
 a85 := Tryd.isAgg110
 z85 := Tryd.sizeOf110
 v85 := Tryd.zeroValue110
 t127 := Tryd.underlying133
 a127 := Tryd.isAgg133
 z127 := Tryd.sizeOf133
 v127 := Tryd.zeroValue133
 t143 := Tryd.underlying134
 a143 := Tryd.isAgg134
 z143 := Tryd.sizeOf134
 v143 := Tryd.zeroValue134
 t145 := Tryd.underlying136
 a145 := Tryd.isAgg136
 z145 := Tryd.sizeOf136
 v145 := Tryd.zeroValue136
 t167 := Tryd.underlying109
 a167 := Tryd.isAgg109
 z167 := Tryd.sizeOf109
 v167 := Tryd.zeroValue109
 t168 := Tryd.underlying112
 a168 := Tryd.isAgg112
 z168 := Tryd.sizeOf112
 v168 := Tryd.zeroValue112
 t171 := Tryd.underlying102
 a171 := Tryd.isAgg102
 z171 := Tryd.sizeOf102
 v171 := Tryd.zeroValue102
 t173 := Tryd.underlying106
 a173 := Tryd.isAgg106
 z173 := Tryd.sizeOf106
 v173 := Tryd.zeroValue106
 t175 := Tryd.underlying126
 a175 := Tryd.isAgg126
 z175 := Tryd.sizeOf126
 v175 := Tryd.zeroValue126
 t210 := Tryd.underlying129
 a210 := Tryd.isAgg129
 z210 := Tryd.sizeOf129
 v210 := Tryd.zeroValue129
 t212 := Tryd.underlying116
 a212 := Tryd.isAgg116
 z212 := Tryd.sizeOf116
 v212 := Tryd.zeroValue116
 t213 := Tryd.underlying118
 a213 := Tryd.isAgg118
 z213 := Tryd.sizeOf118
 t232 := Tryd.underlying137
 a232 := Tryd.isAgg137
 z232 := Tryd.sizeOf137
 v232 := Tryd.zeroValue137
 t233 := Tryd.underlying138
 a233 := Tryd.isAgg138
 z233 := Tryd.sizeOf138
 v233 := Tryd.zeroValue138
 g15 := by kernel_rfl
 g16 := by kernel_rfl
 g17 := by kernel_rfl
 g18 := by kernel_rfl
 g19 := by kernel_rfl
 t80 := Tryd.underlying139
 a80 := Tryd.isAgg139
 z80 := Tryd.sizeOf139
 v80 := Tryd.zeroValue139
 i0 := by kernel_rfl
 i2 := by kernel_rfl
 i3 := by kernel_rfl
 i4 := by kernel_rfl
 i5 := by kernel_rfl
 i9 := by kernel_rfl
 i20 := by kernel_rfl
 i21 := by kernel_rfl
 i37 := by kernel_rfl
 i46 := by kernel_rfl
 i51 := by kernel_rfl
 i53 := by kernel_rfl
 i75 := by kernel_rfl
 i76 := by kernel_rfl
 i80 := by kernel_rfl
 i85 := by kernel_rfl
 i127 := by kernel_rfl
 i143 := by kernel_rfl
 i145 := by kernel_rfl
 i167 := by kernel_rfl
 i168 := by kernel_rfl
 i171 := by kernel_rfl
 i173 := by kernel_rfl
 i175 := by kernel_rfl
 i210 := by kernel_rfl
 i212 := by kernel_rfl
 i232 := by kernel_rfl
 i233 := by kernel_rfl
 m15 := by kernel_rfl
 m16 := by kernel_rfl
 m17 := by kernel_rfl
 m18 := by kernel_rfl
 m19 := by kernel_rfl
 c0 := by kernel_rfl
 c2 := by kernel_rfl
 c3 := by kernel_rfl
 c4 := by kernel_rfl
 c5 := by kernel_rfl
 c9 := by kernel_rfl
 c20 := by kernel_rfl
 c21 := by kernel_rfl
 c37 := by kernel_rfl
 c46 := by kernel_rfl
 c51 := by kernel_rfl
 c53 := by kernel_rfl
 c75 := by kernel_rfl
 c76 := by kernel_rfl
 c80 := by kernel_rfl
 c85 := by kernel_rfl
 c127 := by kernel_rfl
 c143 := by kernel_rfl
 c145 := by kernel_rfl
 c167 := by kernel_rfl
 c168 := by kernel_rfl
 c171 := by kernel_rfl
 c173 := by kernel_rfl
 c175 := by kernel_rfl
 c210 := by kernel_rfl
 c212 := by kernel_rfl
 c213 := by kernel_rfl
 c232 := by kernel_rfl
 c233 := by kernel_rfl }
def lays146_ren : Go.Shelf.Ren := ⟨fun | 146 => 45 | 221 => 64 | 268 => 80 | 138 => 81 | 143 => 82 | 195 => 94 | 197 => 95 | 218 => 96 | 219 => 97 | 260 => 107 | 217 => 62 | 225 => 108 | 224 => 109 | 267 => 110 | 266 => 78 | 314 => 121 | n => n, fun | 9 => 9 | 31 => 53 | 3 => 3 | 4 => 4 | 0 => 0 | 105 => 95 | 21 => 21 | 5 => 5 | 46 => 108 | 119 => 120 | 139 => 123 | 138 => 122 | 146 => 124 | 51 => 117 | n => n, fun | 1 => 0 | 3 => 2 | 4 => 3 | n => n⟩
theorem lays146 : Go.Proofs.Lays.n146 Tryd.prog lays146_ren := {
 mixed := by kernel_rfl
 f138 := Tryd.func81.trans (congrArg some (by kernel_rfl))
 f143 := Tryd.func82.trans (congrArg some (by kernel_rfl))
 f146 := Tryd.func45.trans (congrArg some (by kernel_rfl))
 f195 := Tryd.func94.trans (congrArg some (by kernel_rfl))
 f197 := Tryd.func95.trans (congrArg some (by kernel_rfl))
 f217 := Tryd.func62.trans (congrArg some (by kernel_rfl))
 f218 := Tryd.func96.trans (congrArg some (by kernel_rfl))
 f219 := Tryd.func97.trans (congrArg some (by kernel_rfl))
 f221 := Tryd.func64.trans (congrArg some (by kernel_rfl))
 f224 := Tryd.func109.trans (congrArg some (by kernel_rfl))
 f225 := Tryd.func108.trans (congrArg some (by kernel_rfl))
 f260 := Tryd.func107.trans (congrArg some (by kernel_rfl))
 f266 := Tryd.func78.trans (congrArg some (by kernel_rfl))
 f267 := Tryd.func110.trans (congrArg some (by kernel_rfl))
 f268 := Tryd.func80.trans (congrArg some (by kernel_rfl))
 f314 := Tryd.func121.trans (congrArg some (by kernel_rfl))
 t0 := Tryd.underlying0
 a0 := Tryd.isAgg0
 z0 := Tryd.sizeOf0
 v0 := Tryd.zeroValue0
 t3 := Tryd.underlying3
 a3 := Tryd.isAgg3
 z3 := Tryd.sizeOf3
 v3 := Tryd.zeroValue3
 t4 := Tryd.underlying4
 a4 := Tryd.isAgg4
 z4 := Tryd.sizeOf4
 v4 := Tryd.zeroValue4
 t5 := Tryd.underlying5
 a5 := Tryd.isAgg5
 z5 := Tryd.sizeOf5
 v5 := Tryd.zeroValue5
 t9 := Tryd.underlying9
 a9 := Tryd.isAgg9
 z9 := Tryd.sizeOf9
 v9 := Tryd.zeroValue9
 t21 := Tryd.underlying21
 a21 := Tryd.isAgg21
 z21 := Tryd.sizeOf21
 v21 := Tryd.zeroValue21
 t31 := Tryd.underlying53
 a31 := Tryd.isAgg53
 z31 := Tryd.sizeOf53
 v31 := Tryd.zeroValue53
 t46 := Tryd.underlying108
 a46 := Tryd.isAgg108
 z46 := Tryd.sizeOf108
 v46 := Tryd.zeroValue108
 t51 := Tryd.underlying117
 a51 := Tryd.isAgg117
 z51 := Tryd.sizeOf117
 v51 := Tryd.zeroValue117
 t105 := Tryd.underlying95
 a105 := Tryd.isAgg95
 z105 := Tryd.sizeOf95
 v105 := Tryd.zeroValue95
 t119 := Tryd.underlying120
 a119 := Tryd.isAgg120
 z119 := Tryd.sizeOf120
 t138 := Tryd.underlying122
 a138 := Tryd.isAgg122
 z138 := Tryd.sizeOf122
 v138 := Tryd.zeroValue122
 t139 := Tryd.underlying123
 a139 := Tryd.isAgg123
 z139 := Tryd.sizeOf123
 v139 := Tryd.zeroValue123
 t146 := Tryd.underlying124
 a146 := Tryd.isAgg124
 z146 := Tryd.sizeOf124
 v146 := Tryd.zeroValue124
 g1 := by kernel_rfl
 g3 := by kernel_rfl
 g4 := by kernel_rfl }
end Go.Proofs.YtnogehmgpfpjmaaDoor
end
section
namespace Go.Ab
open Go Go.Dk
end Go.Ab
end
section
namespace Go.Dk
open Go
section
variable {P : Program} {ops : Array Oper} {Q : Exit → Act → World → Prop} {dr : Bool} {fu k : Nat} {rest : List (Nat × Oper)} {a : Act} {w w0 : World} {M Z0 : Zone} {L : List Res} {φ : Fact}
 {d : Option Tmp} {ty : TypeId} {pos : String} {aft : Array Edge} {gd : Option (Nat × Bool)} {x y : Operand} {t t' : TypeId}
end
end Go.Dk
namespace Go.Dk
open Go
end Go.Dk
end
section
namespace Go.Dk
open Go
theorem Grow.of_below {w w' : World} (h : Go.RowKit.Below w.heap.size w w') : Grow w w' := ⟨h.os, h.tape, h.output, h.size, fun k hk _ => h.block k hk⟩
section
variable {P : Program} {ops : Array Oper} {Q : Exit → Act → World → Prop} {dr : Bool} {fu k : Nat} {rest : List (Nat × Oper)} {a : Act} {w w0 : World} {M Z0 : Zone} {L : List Res} {φ : Fact} {S : World → Prop}
 {d : Option Tmp} {ty : TypeId} {pos : String} {aft : Array Edge} {gd : Option (Nat × Bool)} {x y : Operand} {t t' : TypeId}
theorem N1 {v : Value} {b : Bool} (hw : S w) (hg : Region.wanted ⟨d, .binOp .neq t x (.const .nilIface) t', ty, pos, aft, gd⟩ (yielded ops a.tmps) = true)
   (hd : (!dr || soleB ops ((k, ⟨d, .binOp .neq t x (.const .nilIface) t', ty, pos, aft, gd⟩) :: rest) k ⟨d, .binOp .neq t x (.const .nilIface) t', ty, pos, aft, gd⟩) = true)
   (hk : P.isIface t = true) (hx : a.eval x = v) (hv : (v = .nilIface ∧ b = false) ∨ ((∃ u p, v = .iface u p) ∧ b = true))
   (h : wpT P ops Q dr fu S rest (a.put d (.bool b)) w) : wpT P ops Q dr (fu + 1) S ((k, ⟨d, .binOp .neq t x (.const .nilIface) t', ty, pos, aft, gd⟩) :: rest) a w := by
 have hy : a.eval (.const .nilIface) = .nilIface := rfl
 refine T_go hd hg (w' := w) ?_ (fun _ _ h => h) hw h
 rcases hv with ⟨rfl, rfl⟩ | ⟨⟨u, p, rfl⟩, rfl⟩
 ·simp only [execOp, hx, hy, eqGuard, Sem.run_bind]
  simp [run_neq_nil_nil_at w t hk, Sem.run_bind]
 ·simp only [execOp, hx, hy, eqGuard, Sem.run_bind]
  simp [run_neq_iface_nil w t hk, Sem.run_bind]
end
end Go.Dk
namespace Go.Proofs.YtnogehmgpfpjmaaDoor
open Go Go.Ab Go.Dk
theorem gl_facts {w : World} (h : GL noneZ w) : (∃ m, w.cell? ⟨0, 0, none⟩ = some (.int .i64 m)) ∧
   (∃ ev, w.cell? ⟨4, 0, none⟩ = some ev ∧ (ev = .nilIface ∨ ∃ t p, ev = .iface t p)) ∧
   (∃ ev, w.cell? ⟨5, 0, none⟩ = some ev ∧ (ev = .nilIface ∨ ∃ t p, ev = .iface t p)) ∧
   ∃ t p, w.heap[1]? = some (.cells (Lib.pow10Tab.map fun z => Value.int .u64 z).toArray t p) := by
 obtain ⟨W, ⟨⟨m, h1⟩, ⟨e1, h2, h2'⟩, ⟨e2, h3, h3'⟩, t, p, h4⟩, hk⟩ := h
 exact ⟨⟨m, (cell_keep (hk _ (by decide)).2.2).trans h1⟩, ⟨e1, (cell_keep (hk _ (by decide)).2.2).trans h2, h2'⟩, ⟨e2, (cell_keep (hk _ (by decide)).2.2).trans h3, h3'⟩, t, p, (hk _ (by decide)).2.2.trans h4⟩
theorem tab_is {w : World} (h : GL noneZ w) {n : String} (hn : Tryd.prog.globalNamed n = some 1) : Lib.TabIs Tryd.prog w n .u64 Lib.pow10Tab := by
 obtain ⟨_, _, _, t, p, h4⟩ := gl_facts h
 unfold Lib.TabIs World.var?
 rw [hn]
 simp only [Option.bind_some, h4]
theorem i_Itoa (n : Int) (h0 : 0 ≤ n) (h1 : n ≤ 9223372036854775807) (w : World) (hgl : GL noneZ w) : Calls Tryd.prog 63 #[.int .i64 n] w fun e w' => e = .returned (.string (bytesOf (Lib.itoa n))) ∧ Grow w w' :=
 (Any.strconv_Itoa laysM171 n (by omega) h1 w (tab_is hgl (by kernel_rfl))).mono fun e w' ⟨he, k, os, hw⟩ => ⟨he, by
  subst hw
  refine ⟨rfl, rfl, rfl, ?_, fun b hb _ => ?_⟩
  ·show w.heap.size ≤ (w.heap ++ os).size; simp
  ·show (w.heap ++ os)[b]? = w.heap[b]?
   rw [Array.getElem?_append_left hb]⟩
theorem split_tab : ∀ e ∈ shTab, (Lib.splitB (bytesOf [46]) 0 (Lib.countB (bytesOf e.1) (bytesOf [46])) (bytesOf e.1)).map ByteArray.toList = e.2 ∧ Lib.countB (bytesOf e.1) (bytesOf [46]) + 1 = e.2.length := by decide +kernel
theorem lookup_mem2 {α β : Type} [BEq α] [LawfulBEq α] {a : α} {b : β} : ∀ {l : List (α × β)}, l.lookup a = some b → ∃ e ∈ l, e.1 = a ∧ e.2 = b
 | [], h => by cases h
 | (x1, x2) :: l, h => by
  rw [List.lookup_cons] at h
  cases hb : a == x1 with
  | true =>
   rw [hb] at h
   simp only [Option.some.injEq] at h
   exact ⟨(x1, x2), by simp, (eq_of_beq hb).symm, h⟩
  | false =>
   rw [hb] at h
   obtain ⟨e, he, h1, h2⟩ := lookup_mem2 h
   exact ⟨e, by simp [he], h1, h2⟩
theorem lookup_mem {α β : Type} [BEq α] [LawfulBEq α] {a : α} {b : β} {l : List (α × β)} (h : l.lookup a = some b) : ∃ e ∈ l, e.2 = b := by
 obtain ⟨e, h1, _, h2⟩ := lookup_mem2 h
 exact ⟨e, h1, h2⟩
theorem i_Split (s : ByteArray) (ps : List (List UInt8)) (hs : shTab.lookup s.toList = some ps) (w : World) (hgl : GL noneZ w) : Calls Tryd.prog 45 #[.string s, .string (bytesOf [46])] w fun e w' =>
   ∃ b, e = .returned (.slice (some ⟨b, 0, none⟩) ps.length ps.length) ∧ Grow w w' ∧ w.heap.size ≤ b ∧ w'.heap[b]? = some (.cells ((ps.map bytesOf).map Value.string).toArray 9 (0, 0)) := by
 obtain ⟨⟨m, hm⟩, _⟩ := gl_facts hgl
 have hmem := lookup_mem2 hs
 obtain ⟨⟨l, ps'⟩, he, h1, h2⟩ := hmem
 simp only at h1 h2
 subst h2
 have hsb : s = bytesOf l := by rw [h1]; unfold bytesOf; apply ByteArray.ext; simp [ByteArray.toList_eq]
 subst hsb
 obtain ⟨t1, t2⟩ := split_tab _ he
 simp only at t1 t2
 have hl : l.length ≤ 100 := by
  have : ∀ e ∈ shTab, e.1.length ≤ 100 := by decide
  exact this _ he
 have hsz : (bytesOf l).size < 4294967281 := by show l.toArray.size < _; simp; omega
 have t3 : Lib.splitB (bytesOf [46]) 0 (Lib.countB (bytesOf l) (bytesOf [46])) (bytesOf l) = ps'.map bytesOf := by
  rw [← t1, List.map_map]
  conv => lhs; rw [← List.map_id (Lib.splitB _ _ _ _)]
  apply List.map_congr_left
  intro b _
  show b = bytesOf b.toList
  unfold bytesOf; apply ByteArray.ext; simp [ByteArray.toList_eq]
 refine (Any.strings_Split lays146 (by kernel_rfl) (bytesOf l) (bytesOf [46]) m w hsz hm (by decide)).mono fun e w' ⟨he, hw⟩ => ⟨w.heap.size, ?_, ?_, Nat.le_refl _, ?_⟩
 ·rw [he, t2]
 ·rw [hw]; exact Grow.alloc _ _
 ·rw [hw, t3]; exact alloc_get _ _
theorem ext_drop (s : ByteArray) (i : Nat) : s.extract i s.size = bytesOf (s.data.toList.drop i) := by
 unfold bytesOf; apply ByteArray.ext; apply Array.toList_inj.1
 rw [ByteArray.data_extract, Array.toList_extract]
 show List.take (s.data.size - i) (List.drop i s.data.toList) = _
 rw [List.take_of_length_le (by simp)]
theorem tw_at (p : UInt8 → Bool) : ∀ l : List UInt8, (∀ i, i < (l.takeWhile p).length → ∃ c, l[i]? = some c ∧ p c = true) ∧ (∀ c, l[(l.takeWhile p).length]? = some c → p c = false) ∧ l.take (l.takeWhile p).length = l.takeWhile p ∧ l.drop (l.takeWhile p).length = l.dropWhile p ∧ (l.takeWhile p).length ≤ l.length
 | [] => ⟨by simp, by simp, rfl, rfl, Nat.le_refl _⟩
 | x :: l => by
  obtain ⟨h1, h2, h3, h4, h5⟩ := tw_at p l
  cases hx : p x with
  | true =>
   simp only [List.takeWhile_cons, List.dropWhile_cons, hx, if_true, List.length_cons]
   refine ⟨fun i hi => ?_, fun c hc => h2 c (by simpa using hc), by simp [h3], by simp [h4], by omega⟩
   cases i with
   | zero => exact ⟨x, rfl, hx⟩
   | succ i => exact h1 i (by omega)
  | false =>
   simp only [List.takeWhile_cons, List.dropWhile_cons, hx, Bool.false_eq_true, if_false, List.length_nil]
   exact ⟨fun i hi => by omega, fun c hc => by simp at hc; rw [← hc]; exact hx, rfl, rfl, by omega⟩
theorem i_Atoi (s : ByteArray) (hs : s.size ≤ 1073741824) (w : World) (hgl : GL noneZ w) : Calls Tryd.prog 90 #[.string s] w fun e w' => ∃ (v : Int) (ev : Value) (b : Bool), e = .returned (.tuple #[.int .i64 v, ev]) ∧ Grow w w' ∧
   ((ev = .nilIface ∧ b = false) ∨ ((∃ u p, ev = .iface u p) ∧ b = true)) ∧ (b = false → Lib.atoiAll s.data.toList = .ok v) ∧ (b = true → ∀ v, Lib.atoiAll s.data.toList ≠ .ok v) := by
 obtain ⟨_, ⟨e1, h1, h1'⟩, ⟨e2, h2, h2'⟩, _⟩ := gl_facts hgl
 rcases h : Lib.atoiAll s.data.toList with v | _ | _
 ·refine (Any.strconv_Atoi_ok laysC172 s (by omega) v h w).mono fun e w' ⟨he, hw⟩ => ⟨v, .nilIface, false, he, ?_, .inl ⟨rfl, rfl⟩, fun _ => rfl, fun h => by cases h⟩
  rcases hw with rfl | ⟨t, rfl⟩
  ·exact Ext.refl _ _
  ·exact Grow.of_below (Go.Joins.below_bytesWorld _ w _ t (Nat.le_refl _))
 ·exact (Any.strconv_Atoi_syntax laysC172 s (by omega) h e1 w h1 h1').mono fun e w' ⟨N, he, _, _, hb⟩ => ⟨_, _, true, he, Grow.of_below hb, .inr ⟨⟨_, _, rfl⟩, rfl⟩, fun h => (by cases h), fun _ v hv => (by cases hv)⟩
 ·exact (Any.strconv_Atoi_range laysC172 s (by omega) h e2 w h2 h2').mono fun e w' ⟨N, he, _, _, hb⟩ => ⟨_, _, true, he, Grow.of_below hb, .inr ⟨⟨_, _, rfl⟩, rfl⟩, fun h => (by cases h), fun _ v hv => (by cases hv)⟩
attribute [local irreducible] Calls
set_option maxRecDepth 100000 in
set_option maxHeartbeats 1000000 in
theorem i_readNumber (s : ByteArray) (hs : s.size ≤ 1073741824) (w : World) (hgl : GL noneZ w) : Calls Tryd.prog 74 #[.string s] w fun e w' => e = .returned (.tuple #[.int .i64 (rnN s.toList), .string (bytesOf (rnR s.toList))]) ∧ Grow w w' := by
 have H := St.init w noneZ noneZ Stable.true trivial
 have hsl : s.toList = s.data.toList := ByteArray.toList_eq s
 have hsz : s.data.toList.length = s.size := by rw [Array.length_toList]; rfl
 obtain ⟨d1, d2, d3, d4, d5⟩ := tw_at digB s.data.toList
 obtain ⟨K, hK⟩ : ∃ K, (s.data.toList.takeWhile digB).length = K := ⟨_, rfl⟩
 rw [hK] at d1 d2 d3 d4 d5
 have hdg : dgs s.toList = s.data.toList.take K := by rw [hsl, d3]; rfl
 have hdr : s.toList.dropWhile digB = s.data.toList.drop K := by rw [hsl, d4]
 have hby : ∀ i c, s.data.toList[i]? = some c → byteAt s i = c := fun i c h => by unfold byteAt; rw [h]; rfl
 go_enter Tryd.func74, Tryd.ntmps74
 repeat' ((first | (refine T_nil ?_) | ((first | apply U0 | (apply U1; (case hd => decide +kernel)) | (apply U2 (hw := H); (case hd => decide +kernel)) | (apply U3 1; (case hp => rfl); (case hd => decide +kernel)) | (apply U3 2; (case hp => rfl); (case hd => decide +kernel)) | (apply U3 3; (case hp => rfl); (case hd => decide +kernel)) | (apply U3 4; (case hp => rfl); (case hd => decide +kernel)) | (apply U3 5; (case hp => rfl); (case hd => decide +kernel)) | (apply U3 6; (case hp => rfl); (case hd => decide +kernel)) | (apply U3 7; (case hp => rfl); (case hd => decide +kernel)) | (apply U3 8; (case hp => rfl); (case hd => decide +kernel)) | (apply U3 9; (case hp => rfl); (case hd => decide +kernel)) | (apply U3 10; (case hp => rfl); (case hd => decide +kernel)) | (apply U3 11; (case hp => rfl); (case hd => decide +kernel))); (case hg => rfl); (case hy => (first | (apply Yi.a; constructor; all_goals (first | rfl | (constructor <;> omega) | (apply CellIs.own; (case h => repeat constructor); rfl) | (apply Cell3.own; (case h => repeat constructor); all_goals rfl))) | (apply Yi.b; constructor; all_goals (first | rfl | (constructor <;> omega) | (apply CellIs.own; (case h => repeat constructor); rfl) | (apply Cell3.own; (case h => repeat constructor); all_goals rfl))) | (apply Yi.c; constructor; all_goals (first | rfl | (constructor <;> omega) | (apply CellIs.own; (case h => repeat constructor); rfl) | (apply Cell3.own; (case h => repeat constructor); all_goals rfl)))))) | ((first | apply V0 | apply Go.Dk.V1 | apply V2 (hw := H)); (case hg => rfl); try decide +kernel) | ((first | refine G0 H ?_ | (refine G1 H (fun _ _ _ _ h => h) (by decide +kernel) ?_; clear H; intro _ H)); simp only [enum, Nat.reduceAdd]) | (apply B0 (hw := H); (case hg => rfl); (case hd => first | with_reducible exact hd_false | decide +kernel); (case hx => rfl); (case hc => rfl); clear H; intro bx _ H) | (apply B1 (hw := H); (case hg => rfl); (case hd => first | with_reducible exact hd_false | decide +kernel); clear H; intro ax _ H) | go_step | (apply X0; (case hy => rfl); all_goals (intro hb; simp only [hb]; (try simp only [decide_eq_true_eq, decide_eq_false_iff_not, Bool.not_eq_true', Bool.not_eq_false', Bool.and_eq_true, Bool.or_eq_true, Bool.and_eq_false_iff, Bool.or_eq_false_iff] at hb); try (exfalso; omega)))) <;> try simp only [List.getElem_toArray, List.getElem_cons_zero, List.getElem_cons_succ, Act.put, evalT, evalC, evalF, List.setIfInBounds_toArray, List.set_cons_succ, List.set_cons_zero, List.getD_cons_succ, List.getD_cons_zero, Nat.reduceAdd, Nat.reduceMul, Nat.add_zero, Nat.zero_add, Int.toNat_natCast, Int.reduceToNat, List.eraseIdx_cons_succ, List.eraseIdx_cons_zero, cond_true, cond_false])
 go_loopg [4] K (fun g v wr => ∃ (i : Nat), v = .int .i64 i ∧ i + g = K ∧ St w noneZ noneZ [] trueF wr)
 case atStart => exact ⟨0, rfl, by omega, H⟩
 case round =>
  clear H
  obtain ⟨i, rfl, hi, H⟩ := hrel
  by_cases hlt : i < K
  ·obtain ⟨c, hc, hd⟩ := d1 i hlt
   have hlt2 : i < s.size := by rw [← hsz]; exact (List.getElem?_eq_some_iff.1 hc).1
   have hb := hby i c hc
   simp only [digB, Bool.and_eq_true, decide_eq_true_eq] at hd
   have hlo : 48 ≤ (byteAt s i).toNat ∧ (byteAt s i).toNat ≤ 57 := by rw [hb]; exact hd
   repeat' ((first | (refine T_nil ?_) | ((first | apply U0 | (apply U1; (case hd => decide +kernel)) | (apply U2 (hw := H); (case hd => decide +kernel)) | (apply U3 1; (case hp => rfl); (case hd => decide +kernel)) | (apply U3 2; (case hp => rfl); (case hd => decide +kernel)) | (apply U3 3; (case hp => rfl); (case hd => decide +kernel)) | (apply U3 4; (case hp => rfl); (case hd => decide +kernel)) | (apply U3 5; (case hp => rfl); (case hd => decide +kernel)) | (apply U3 6; (case hp => rfl); (case hd => decide +kernel)) | (apply U3 7; (case hp => rfl); (case hd => decide +kernel)) | (apply U3 8; (case hp => rfl); (case hd => decide +kernel)) | (apply U3 9; (case hp => rfl); (case hd => decide +kernel)) | (apply U3 10; (case hp => rfl); (case hd => decide +kernel)) | (apply U3 11; (case hp => rfl); (case hd => decide +kernel))); (case hg => rfl); (case hy => (first | (apply Yi.a; constructor; all_goals (first | rfl | (constructor <;> omega) | (apply CellIs.own; (case h => repeat constructor); rfl) | (apply Cell3.own; (case h => repeat constructor); all_goals rfl))) | (apply Yi.b; constructor; all_goals (first | rfl | (constructor <;> omega) | (apply CellIs.own; (case h => repeat constructor); rfl) | (apply Cell3.own; (case h => repeat constructor); all_goals rfl))) | (apply Yi.c; constructor; all_goals (first | rfl | (constructor <;> omega) | (apply CellIs.own; (case h => repeat constructor); rfl) | (apply Cell3.own; (case h => repeat constructor); all_goals rfl)))))) | ((first | apply V0 | apply Go.Dk.V1 | apply V2 (hw := H)); (case hg => rfl); try decide +kernel) | ((first | refine G0 H ?_ | (refine G1 H (fun _ _ _ _ h => h) (by decide +kernel) ?_; clear H; intro _ H)); simp only [enum, Nat.reduceAdd]) | (apply B0 (hw := H); (case hg => rfl); (case hd => first | with_reducible exact hd_false | decide +kernel); (case hx => rfl); (case hc => rfl); clear H; intro bx _ H) | (apply B1 (hw := H); (case hg => rfl); (case hd => first | with_reducible exact hd_false | decide +kernel); clear H; intro ax _ H) | go_step | (apply X0; (case hy => rfl); all_goals (intro hb; simp only [hb]; (try simp only [decide_eq_true_eq, decide_eq_false_iff_not, Bool.not_eq_true', Bool.not_eq_false', Bool.and_eq_true, Bool.or_eq_true, Bool.and_eq_false_iff, Bool.or_eq_false_iff] at hb); try (exfalso; omega)))) <;> try simp only [List.getElem_toArray, List.getElem_cons_zero, List.getElem_cons_succ, Act.put, evalT, evalC, evalF, List.setIfInBounds_toArray, List.set_cons_succ, List.set_cons_zero, List.getD_cons_succ, List.getD_cons_zero, Nat.reduceAdd, Nat.reduceMul, Nat.add_zero, Nat.zero_add, Int.toNat_natCast, Int.reduceToNat, List.eraseIdx_cons_succ, List.eraseIdx_cons_zero, cond_true, cond_false])
   all_goals first | (exfalso; omega; done) | skip
   go_roundg (gk - 1)
   case measure => omega
   case rel => exact ⟨i + 1, by simp, by omega, H⟩
  ·obtain rfl : i = K := by omega
   have hend : (∃ c, s.data.toList[i]? = some c ∧ digB c = false) ∨ ¬ ((i : Int) < (s.size : Int)) := by
    cases hc : s.data.toList[i]? with
    | some c => exact .inl ⟨c, rfl, d2 c hc⟩
    | none => right; rw [List.getElem?_eq_none_iff] at hc; omega
   have hcut : s.extract 0 i = bytesOf (s.data.toList.take i) := by unfold bytesOf; apply ByteArray.ext; apply Array.toList_inj.1; simp
   have hat : (s.extract 0 i).data.toList = dgs s.toList := by rw [hcut, hdg]; rfl
   have hK2 : i ≤ s.size := by omega
   have hsz2 : (s.extract 0 i).size ≤ 1073741824 := by rw [ByteArray.size_extract]; omega
   have hend : ((byteAt s i).toNat < 48 ∨ 57 < (byteAt s i).toNat) ∨ ¬ ((i : Int) < (s.size : Int)) := by
    rcases hend with ⟨c, hc, hd⟩ | h
    ·left
     rw [hby i c hc]
     simp only [digB, Bool.and_eq_false_iff, decide_eq_false_iff_not] at hd
     omega
    ·exact .inr h
   repeat' ((first | (refine T_nil ?_) | ((first | apply U0 | (apply U1; (case hd => decide +kernel)) | (apply U2 (hw := H); (case hd => decide +kernel)) | (apply U3 1; (case hp => rfl); (case hd => decide +kernel)) | (apply U3 2; (case hp => rfl); (case hd => decide +kernel)) | (apply U3 3; (case hp => rfl); (case hd => decide +kernel)) | (apply U3 4; (case hp => rfl); (case hd => decide +kernel)) | (apply U3 5; (case hp => rfl); (case hd => decide +kernel)) | (apply U3 6; (case hp => rfl); (case hd => decide +kernel)) | (apply U3 7; (case hp => rfl); (case hd => decide +kernel)) | (apply U3 8; (case hp => rfl); (case hd => decide +kernel)) | (apply U3 9; (case hp => rfl); (case hd => decide +kernel)) | (apply U3 10; (case hp => rfl); (case hd => decide +kernel)) | (apply U3 11; (case hp => rfl); (case hd => decide +kernel))); (case hg => rfl); (case hy => (first | (apply Yi.a; constructor; all_goals (first | rfl | (constructor <;> omega) | (apply CellIs.own; (case h => repeat constructor); rfl) | (apply Cell3.own; (case h => repeat constructor); all_goals rfl))) | (apply Yi.b; constructor; all_goals (first | rfl | (constructor <;> omega) | (apply CellIs.own; (case h => repeat constructor); rfl) | (apply Cell3.own; (case h => repeat constructor); all_goals rfl))) | (apply Yi.c; constructor; all_goals (first | rfl | (constructor <;> omega) | (apply CellIs.own; (case h => repeat constructor); rfl) | (apply Cell3.own; (case h => repeat constructor); all_goals rfl)))))) | ((first | apply V0 | apply Go.Dk.V1 | apply V2 (hw := H)); (case hg => rfl); try decide +kernel) | ((first | refine G0 H ?_ | (refine G1 H (fun _ _ _ _ h => h) (by decide +kernel) ?_; clear H; intro _ H)); simp only [enum, Nat.reduceAdd]) | (apply B0 (hw := H); (case hg => rfl); (case hd => first | with_reducible exact hd_false | decide +kernel); (case hx => rfl); (case hc => rfl); clear H; intro bx _ H) | (apply B1 (hw := H); (case hg => rfl); (case hd => first | with_reducible exact hd_false | decide +kernel); clear H; intro ax _ H) | ((apply C1; (case hg => rfl); (case hd => first | with_reducible exact hd_false | decide +kernel); (case hxs => rfl); (case hc => exact i_Atoi (s.extract 0 i) hsz2 _ (hgl.now H.ext)); rintro _ _ ⟨v, ev, b, rfl, hg, hev, hb0, hb1⟩; replace H := H.grow hg; (try simp only [List.set_cons_succ, List.set_cons_zero] at H); refine ⟨_, rfl, _, (by first | exact fun _ _ h => h | exact fun _ _ h => h.tail | exact fun _ _ h => h.unfact (by repeat' (first | exact Stable.true | exact rdF_stable _ | exact iF_stable _ _ | exact sF_stable _ _ | apply Stable.and)) (fun _ _ h => h.2) | exact nofun), H, ?_⟩)) | go_step | (apply X0; (case hy => rfl); all_goals (intro hb; simp only [hb]; (try simp only [decide_eq_true_eq, decide_eq_false_iff_not, Bool.not_eq_true', Bool.not_eq_false', Bool.and_eq_true, Bool.or_eq_true, Bool.and_eq_false_iff, Bool.or_eq_false_iff] at hb); try (exfalso; omega)))) <;> try simp only [List.getElem_toArray, List.getElem_cons_zero, List.getElem_cons_succ, Act.put, evalT, evalC, evalF, List.setIfInBounds_toArray, List.set_cons_succ, List.set_cons_zero, List.getD_cons_succ, List.getD_cons_zero, Nat.reduceAdd, Nat.reduceMul, Nat.add_zero, Nat.zero_add, Int.toNat_natCast, Int.reduceToNat, List.eraseIdx_cons_succ, List.eraseIdx_cons_zero, cond_true, cond_false])
   all_goals first | (exfalso; omega; done) | skip
   all_goals
    (rw [hat] at hb0 hb1
     apply N1 H
     (case hg => rfl)
     (case hd => exact hd_false)
     (case hk => kernel_rfl)
     (case hx => rfl)
     (case hv => exact hev)
     simp only [List.getElem_toArray, List.getElem_cons_zero, List.getElem_cons_succ, Act.put, evalT, evalC, evalF, List.setIfInBounds_toArray, List.set_cons_succ, List.set_cons_zero, List.getD_cons_succ, List.getD_cons_zero, Nat.reduceAdd, Nat.reduceMul, Nat.add_zero, Nat.zero_add, Int.toNat_natCast, Int.reduceToNat, List.eraseIdx_cons_succ, List.eraseIdx_cons_zero, cond_true, cond_false]
     cases b
     all_goals
      (repeat' ((first | (refine T_nil ?_) | ((first | apply U0 | (apply U1; (case hd => decide +kernel)) | (apply U2 (hw := H); (case hd => decide +kernel)) | (apply U3 1; (case hp => rfl); (case hd => decide +kernel)) | (apply U3 2; (case hp => rfl); (case hd => decide +kernel)) | (apply U3 3; (case hp => rfl); (case hd => decide +kernel)) | (apply U3 4; (case hp => rfl); (case hd => decide +kernel)) | (apply U3 5; (case hp => rfl); (case hd => decide +kernel)) | (apply U3 6; (case hp => rfl); (case hd => decide +kernel)) | (apply U3 7; (case hp => rfl); (case hd => decide +kernel)) | (apply U3 8; (case hp => rfl); (case hd => decide +kernel)) | (apply U3 9; (case hp => rfl); (case hd => decide +kernel)) | (apply U3 10; (case hp => rfl); (case hd => decide +kernel)) | (apply U3 11; (case hp => rfl); (case hd => decide +kernel))); (case hg => rfl); (case hy => (first | (apply Yi.a; constructor; all_goals (first | rfl | (constructor <;> omega) | (apply CellIs.own; (case h => repeat constructor); rfl) | (apply Cell3.own; (case h => repeat constructor); all_goals rfl))) | (apply Yi.b; constructor; all_goals (first | rfl | (constructor <;> omega) | (apply CellIs.own; (case h => repeat constructor); rfl) | (apply Cell3.own; (case h => repeat constructor); all_goals rfl))) | (apply Yi.c; constructor; all_goals (first | rfl | (constructor <;> omega) | (apply CellIs.own; (case h => repeat constructor); rfl) | (apply Cell3.own; (case h => repeat constructor); all_goals rfl)))))) | ((first | apply V0 | apply Go.Dk.V1 | apply V2 (hw := H)); (case hg => rfl); try decide +kernel) | ((first | refine G0 H ?_ | (refine G1 H (fun _ _ _ _ h => h) (by decide +kernel) ?_; clear H; intro _ H)); simp only [enum, Nat.reduceAdd]) | (apply B0 (hw := H); (case hg => rfl); (case hd => first | with_reducible exact hd_false | decide +kernel); (case hx => rfl); (case hc => rfl); clear H; intro bx _ H) | (apply B1 (hw := H); (case hg => rfl); (case hd => first | with_reducible exact hd_false | decide +kernel); clear H; intro ax _ H) | go_step | (apply X0; (case hy => rfl); all_goals (intro hb; simp only [hb]; (try simp only [decide_eq_true_eq, decide_eq_false_iff_not, Bool.not_eq_true', Bool.not_eq_false', Bool.and_eq_true, Bool.or_eq_true, Bool.and_eq_false_iff, Bool.or_eq_false_iff] at hb); try (exfalso; omega)))) <;> try simp only [List.getElem_toArray, List.getElem_cons_zero, List.getElem_cons_succ, Act.put, evalT, evalC, evalF, List.setIfInBounds_toArray, List.set_cons_succ, List.set_cons_zero, List.getD_cons_succ, List.getD_cons_zero, Nat.reduceAdd, Nat.reduceMul, Nat.add_zero, Nat.zero_add, Int.toNat_natCast, Int.reduceToNat, List.eraseIdx_cons_succ, List.eraseIdx_cons_zero, cond_true, cond_false])
       ((try simp only [Exit.inBlock, Exit.then]); refine ret_post (res2 rfl (R_tmp rfl) (R_tmp rfl)) ?_; try simp only [List.getD_cons_succ, List.getD_cons_zero])))
   all_goals first
    | (have e1 : rnN s.toList = v := by unfold rnN; rw [hb0 rfl]
       have e2 : rnR s.toList = s.data.toList.drop i := by unfold rnR; rw [hb0 rfl]; exact hdr
       rw [e1, e2]
       have e3 := ext_drop s i
       rw [← e3]
       exact ⟨rfl, H.ext⟩)
    | (have e1 : rnN s.toList = -1 := by
         unfold rnN
         cases h : Lib.atoiAll (dgs s.toList) with
         | ok v => exact absurd h (hb1 rfl v)
         | _ => rfl
       have e2 : rnR s.toList = [] := by
        unfold rnR
        cases h : Lib.atoiAll (dgs s.toList) with
        | ok v => exact absurd h (hb1 rfl v)
        | _ => rfl
       rw [e1, e2]
       exact ⟨rfl, H.ext⟩)
end Go.Proofs.YtnogehmgpfpjmaaDoor
end
section
namespace Go.Proofs.YtnogehmgpfpjmaaDoor
open Go Go.Ab Go.Dk
theorem primF_some {f : FuncId} {g : List V1 → OR} (h : primF f = some g) : (f = 74 ∧ g = rnP) ∨ (f = 63 ∧ g = itP) ∨ (f = 45 ∧ g = spP) := by
 unfold primF at h
 have key : ∀ (a : Nat) (x y : Option (List V1 → OR)), cond (Nat.beq f a) x y = some g → (f = a ∧ x = some g) ∨ y = some g := by
  intro a x y h
  cases hb : Nat.beq f a with
  | true => rw [hb] at h; exact .inl ⟨Nat.eq_of_beq_eq_true hb, h⟩
  | false => rw [hb] at h; exact .inr h
 rcases key _ _ _ h with ⟨h1, h2⟩ | h
 ·first | exact .inl ⟨h1, (Option.some.inj h2).symm⟩ | exact .inr (.inl ⟨h1, (Option.some.inj h2).symm⟩) | exact .inr (.inr ⟨h1, (Option.some.inj h2).symm⟩)
 rcases key _ _ _ h with ⟨h1, h2⟩ | h
 ·first | exact .inl ⟨h1, (Option.some.inj h2).symm⟩ | exact .inr (.inl ⟨h1, (Option.some.inj h2).symm⟩) | exact .inr (.inr ⟨h1, (Option.some.inj h2).symm⟩)
 rcases key _ _ _ h with ⟨h1, h2⟩ | h
 ·first | exact .inl ⟨h1, (Option.some.inj h2).symm⟩ | exact .inr (.inl ⟨h1, (Option.some.inj h2).symm⟩) | exact .inr (.inr ⟨h1, (Option.some.inj h2).symm⟩)
 ·cases h
theorem inv_out {w0 M Z0 G args vals w w'} (hI : InvG w0 M Z0 0 G ⟨args, []⟩ vals w) (hg : Grow w w') {outs : List V1} {xs : List Value} (h : All2 (RV [] (fun b => Go.Dk.zone w0 Z0 [] b ∨ w.heap.size ≤ b) w') (outs.map .v) xs) :
   ∃ G', InvG w0 M Z0 ([] : List AObj).length G' ⟨outs.map .v, []⟩ xs w' ∧ UpW G G' := by
 have hG : G = [] := hI.st.per.2.nil_inv
 subst hG
 have s0 : St w0 M Z0 [] (relF ⟨args, []⟩ [] vals) w := hI.st
 have st : St w0 M Z0 [] (relF ⟨outs.map .v, []⟩ [] xs) w' := (s0.call hg (relF_stable _ _ _) ⟨h, All2.nil⟩).unfact (relF_stable _ _ _) (fun _ _ h => h.1)
 exact ⟨[], ⟨st, fun j _ hl => by simp at hl, hI.mz⟩, UpW.refl _⟩
theorem inv_gl {w0 M Z0 G args vals w} (hI : InvG w0 M Z0 0 G ⟨args, []⟩ vals w) : GL noneZ w := hI.mz.2.now hI.st.ext
theorem hprim : PrimsOK Tryd.prog SS := by
 intro f g args out hf hg w0 M Z0 G vals w hI
 have hgl := inv_gl hI
 rcases primF_some hf with ⟨rfl, rfl⟩ | ⟨rfl, rfl⟩ | ⟨rfl, rfl⟩
 ·unfold rnP at hg
  split at hg
  ·rename_i s
   split at hg
   ·rename_i hs
    obtain rfl := (Option.some.inj hg)
    obtain ⟨x, xs, rfl, h1, h2⟩ := hI.st.per.1.cons_inv
    obtain rfl := h2.nil_inv
    obtain rfl := str_inv h1
    refine (i_readNumber s hs w hgl).mono fun e w' ⟨he, hgr⟩ => ?_
    obtain ⟨G', h3, h4⟩ := inv_out hI hgr (outs := [.one (.int .i64 (rnN s.toList)), .one (.str (bytesOf (rnR s.toList)))]) (xs := [.int .i64 (rnN s.toList), .string (bytesOf (rnR s.toList))]) (All2.cons ⟨rfl, fun _ => rfl⟩ (All2.cons ⟨rfl, fun _ => rfl⟩ All2.nil))
    exact ⟨[.int .i64 (rnN s.toList), .string (bytesOf (rnR s.toList))], G', he, h3, h4⟩
   ·cases hg
  ·cases hg
 ·unfold itP at hg
  split at hg
  ·rename_i n
   split at hg
   ·rename_i hn
    obtain rfl := (Option.some.inj hg)
    obtain ⟨x, xs, rfl, h1, h2⟩ := hI.st.per.1.cons_inv
    obtain rfl := h2.nil_inv
    obtain rfl := int_inv h1
    refine (i_Itoa n hn.1 hn.2 w hgl).mono fun e w' ⟨he, hgr⟩ => ?_
    obtain ⟨G', h3, h4⟩ := inv_out hI hgr (outs := [.one (.str (bytesOf (Lib.itoa n)))]) (xs := [.string (bytesOf (Lib.itoa n))]) (All2.cons ⟨rfl, fun _ => rfl⟩ All2.nil)
    exact ⟨[.string (bytesOf (Lib.itoa n))], G', he, h3, h4⟩
   ·cases hg
  ·cases hg
 ·unfold spP at hg
  split at hg
  ·rename_i s d
   split at hg
   ·rename_i hd
    cases hp : shTab.lookup s.toList with
    | none => rw [hp] at hg; cases hg
    | some ps =>
     rw [hp] at hg
     obtain rfl := (Option.some.inj hg)
     obtain ⟨x, xs, rfl, h1, h2⟩ := hI.st.per.1.cons_inv
     obtain ⟨y, ys, rfl, h3, h4⟩ := h2.cons_inv
     obtain rfl := h4.nil_inv
     obtain rfl := str_inv h1
     obtain rfl := str_inv h3
     have hdb : d = bytesOf [46] := by unfold bytesOf; apply ByteArray.ext; apply Array.toList_inj.1; rw [← ByteArray.toList_eq]; exact hd
     subst hdb
     refine (i_Split s ps hp w hgl).mono fun e w' ⟨b, he, hgr, hb, hc⟩ => ?_
     have hlen : ps.length ≤ 100 := by
      have : ∀ e ∈ shTab, e.2.length ≤ 100 := by decide
      obtain ⟨q, hq, hq2⟩ := lookup_mem hp
      have := this _ hq
      rw [hq2] at this; exact this
     obtain ⟨G', h5, h6⟩ := inv_out hI hgr (outs := [.one (.fr (.ss (ps.map bytesOf)))]) (xs := [.slice (some ⟨b, 0, none⟩) ps.length ps.length]) (All2.cons ⟨⟨some ⟨b, 0, none⟩, ps.length, (ps.map bytesOf).map .string, by simp [SD.len], by simp [SD.len], by simp only [SD.len, maxLen, List.length_map]; omega, rfl, .inr ⟨b, 0, rfl, .inr hb, fun i v hi => by
      simp only [World.cell?, hc]
      simpa using hi⟩⟩, fun _ => rfl⟩ All2.nil)
     exact ⟨[.slice (some ⟨b, 0, none⟩) ps.length ps.length], G', he, h5, h6⟩
   ·cases hg
  ·cases hg
end Go.Proofs.YtnogehmgpfpjmaaDoor
end
section
namespace Go.Proofs.YtnogehmgpfpjmaaDoor
open Go Go.Ab Go.Dk
def Ev (f : FuncId) (args : List V1) (h : List AObj) (r : List V1 × List AObj) : Prop := ∃ N, ∀ n, N ≤ n → FF n f args h = some r
theorem hibX (f : FuncId) (h : Nat.beq f 78 = true) : extIB Tryd.prog f := by
 have : f = 78 := Nat.eq_of_beq_eq_true h
 subst this
 exact XIB.out
theorem hib : ∀ f, SS.D.ib f = true → extIB Tryd.prog f := by
 intro f hf
 first
 | exact hibX f hf
 | exact absurd hf (by decide)
 | cases hf
-- hprim: see XPr, XPq
theorem ev_law {f : FuncId} {fn : Func} {args : List V1} {vals : List Value} {w : World} (hfn : Tryd.prog.funcs[f]? = some fn) (hb : fn.body.isSome = true) (hr : All2 (RV [] anyB w) (args.map .v) vals) (hgl : GL noneZ w)
   (h : Ev f args [] ([.one (.bool true)], [])) : Calls Tryd.prog f vals.toArray w fun e w' => e = .returned (.bool true) ∧ Grow w w' := by
 obtain ⟨N, h⟩ := h
 exact abs_law hprim hib hfn hb hr hgl (h N (Nat.le_refl N))
theorem Ev.of {f : FuncId} {args : List V1} {h : List AObj} {r : List V1 × List AObj} (N : Nat) (hh : ∀ n, N ≤ n → FF (n + 1) f args h = some r) : Ev f args h r :=
 ⟨N + 1, fun n hn => by obtain ⟨m, rfl⟩ : ∃ m, n = m + 1 := ⟨n - 1, by omega⟩; exact hh m (by omega)⟩
theorem wrap64 {a : Int} (h : -9223372036854775808 ≤ a ∧ a ≤ 9223372036854775807) : IntKind.i64.wrap a = a := IntWalk.i64_in _ h
theorem ik_self (a : IntKind) : ikEq a a = true := by simp [ikEq]
theorem nb_self (a : Nat) : Nat.beq a a = true := Nat.beq_refl a
theorem cond_dec {α : Type} (p : Prop) [Decidable p] (a b : α) : cond (decide p) a b = if p then a else b := by by_cases h : p <;> simp [h]
theorem byte_bd (c : UInt8) : 0 ≤ (c.toNat : Int) ∧ (c.toNat : Int) ≤ 255 := by have := c.toNat_lt; omega
theorem byte_rt (c : UInt8) : UInt8.ofNat ((c.toNat : Int)).toNat = c := by simp
theorem byte_ok (c : UInt8) : (decide (0 ≤ (c.toNat : Int)) && decide ((c.toNat : Int) ≤ 255)) = true := by have := byte_bd c; simp; omega
section
variable {V W : Type} (l : List V1) (c : List SV) (o : List AObj)
theorem c_rInt (a : IntKind) (n : Int) (k) : rInt a (.one (.int a n) :: l) k = k n l := by simp [rInt, ikEq]
theorem c_rBool (b : Bool) (k) : rBool (.one (.bool b) :: l) k = k b l := rfl
theorem c_rStr (x : ByteArray) (k) : rStr (.one (.str x) :: l) k = k x l := rfl
theorem c_rTs (x : List T) (k) : rTs (.one (.fr (.ts x)) :: l) k = k x l := rfl
theorem c_rIs (x : List Int) (k) : rIs (.one (.fr (.is x)) :: l) k = k x l := rfl
theorem c_rIss (x : List (List Int)) (k) : rIss (.one (.fr (.iss x)) :: l) k = k x l := rfl
theorem c_rSs (x : List ByteArray) (k) : rSs (.one (.fr (.ss x)) :: l) k = k x l := rfl
theorem c_rBs (x : List UInt8) (k) : rBs (.one (.fr (.bs x)) :: l) k = k x l := rfl
theorem c_rTerm (a b : Int) (x : List T) (k) : rTerm (.agg [.int .i64 a, .int .i64 b, .fr (.ts x)] :: l) k = k (.mk a b x) l := rfl
theorem c_rOwnT (j : Nat) (a b : Int) (k) : rOwnT j (.agg [.int .i64 a, .int .i64 b, .own j 0] :: l) k = k a b l := by simp [rOwnT]
theorem c_rOwn (j : Nat) (k) : rOwn j (.one (.own j 0) :: l) k = k l := by simp [rOwn]
theorem c_rPtr (j : Nat) (k) : rPtr j (.one (.ptr j 0) :: l) k = k l := by simp [rPtr]
theorem c_nilV (k) : nilV [] k = k := rfl
theorem c_nilO (k) : nilO [] k = k := rfl
theorem c_objC (x : List SV) (k) : objC (.cells x :: o) k = k x o := rfl
theorem c_dropC (x : AObj) (k) : dropC (x :: o) k = k o := rfl
theorem c_intC (a : IntKind) (n : Int) (k) : intC a (.int a n :: c) k = k n c := by simp [intC, ikEq]
theorem c_boolC (b : Bool) (k) : boolC (.bool b :: c) k = k b c := rfl
theorem c_strC (x : ByteArray) (k) : strC (.str x :: c) k = k x c := rfl
theorem c_tsC (x : List T) (k) : tsC (.fr (.ts x) :: c) k = k x c := rfl
theorem c_isC (x : List Int) (k) : isC (.fr (.is x) :: c) k = k x c := rfl
theorem c_issC (x : List (List Int)) (k) : issC (.fr (.iss x) :: c) k = k x c := rfl
theorem c_ssC (x : List ByteArray) (k) : ssC (.fr (.ss x) :: c) k = k x c := rfl
theorem c_bsC (x : List UInt8) (k) : bsC (.fr (.bs x) :: c) k = k x c := rfl
theorem c_anyC (x : SV) (k) : anyC (x :: c) k = k c := rfl
theorem c_nilC (k) : nilC [] k = k := rfl
theorem c_arrTs (e : TypeId) (x : List T) (k) : arrTsC e (.arr e (.ts x) 0 false :: o) k = k x o := by simp [arrTsC]
theorem c_arrIs (e : TypeId) (x : List Int) (k) : arrIsC e (.arr e (.is x) 0 false :: o) k = k x o := by simp [arrIsC]
theorem c_arrIss (e : TypeId) (x : List (List Int)) (k) : arrIssC e (.arr e (.iss x) 0 false :: o) k = k x o := by simp [arrIssC]
theorem c_arrSs (e : TypeId) (x : List ByteArray) (k) : arrSsC e (.arr e (.ss x) 0 false :: o) k = k x o := by simp [arrSsC]
theorem c_arrBs (e : TypeId) (x : List UInt8) (k) : arrBsC e (.arr e (.bs x) 0 false :: o) k = k x o := by simp [arrBsC]
end
theorem evs : type_of% (And.intro @Option.bind_some.{0,0} <| And.intro @c_rInt <| And.intro @c_rBool <| And.intro @c_rStr <| And.intro @c_rTs <| And.intro @c_rIs <| And.intro @c_rIss <| And.intro @c_rSs <| And.intro @c_rBs <| And.intro @c_rTerm <| And.intro @c_rOwnT <| And.intro @c_rOwn <| And.intro @c_rPtr <| And.intro @c_nilV <| And.intro @c_nilO <| And.intro @c_objC <| And.intro @c_dropC <| And.intro @c_intC <| And.intro @c_boolC <| And.intro @c_strC <| And.intro @c_tsC <| And.intro @c_isC <| And.intro @c_issC <| And.intro @c_ssC <| And.intro @c_bsC <| And.intro @c_anyC <| And.intro @c_nilC <| And.intro @c_arrTs <| And.intro @c_arrIs <| And.intro @c_arrIss <| And.intro @c_arrSs <| And.intro @c_arrBs <| And.intro @ik_self <| And.intro @nb_self <| And.intro @cond_true.{1} @cond_false.{1}) := And.intro @Option.bind_some.{0,0} <| And.intro @c_rInt <| And.intro @c_rBool <| And.intro @c_rStr <| And.intro @c_rTs <| And.intro @c_rIs <| And.intro @c_rIss <| And.intro @c_rSs <| And.intro @c_rBs <| And.intro @c_rTerm <| And.intro @c_rOwnT <| And.intro @c_rOwn <| And.intro @c_rPtr <| And.intro @c_nilV <| And.intro @c_nilO <| And.intro @c_objC <| And.intro @c_dropC <| And.intro @c_intC <| And.intro @c_boolC <| And.intro @c_strC <| And.intro @c_tsC <| And.intro @c_isC <| And.intro @c_issC <| And.intro @c_ssC <| And.intro @c_bsC <| And.intro @c_anyC <| And.intro @c_nilC <| And.intro @c_arrTs <| And.intro @c_arrIs <| And.intro @c_arrIss <| And.intro @c_arrSs <| And.intro @c_arrBs <| And.intro @ik_self <| And.intro @nb_self <| And.intro @cond_true.{1} @cond_false.{1}
end Go.Proofs.YtnogehmgpfpjmaaDoor
end
section
namespace Go.Proofs.YtnogehmgpfpjmaaDoor
open Go Go.Ab Go.Dk
def RdOk (l : List UInt8) (p m : Int) : Prop := l.length ≤ 2000 ∧ 0 ≤ p ∧ p ≤ m
theorem RdOk.mono {l : List UInt8} {p m m' : Int} (h : RdOk l p m) (hm : m ≤ m') : RdOk l p m' := ⟨h.1, h.2.1, by have := h.2.2; omega⟩
def EvA (C : Nat) (f : FuncId) (args : List V1) (h : List AObj) (r : List V1 × List AObj) : Prop := ∀ n, C ≤ n → FF n f args h = some r
theorem EvA.ev {C f args h r} (k : EvA C f args h r) : Ev f args h r := ⟨C, k⟩
theorem EvA.of {f args h r} (C : Nat) (hh : ∀ n, C ≤ n → FF (n + 1) f args h = some r) : EvA (C + 1) f args h r := fun n hn => by obtain ⟨m, rfl⟩ : ∃ m, n = m + 1 := ⟨n - 1, by omega⟩; exact hh m (by omega)
end Go.Proofs.YtnogehmgpfpjmaaDoor
end
section
namespace Go.Proofs.YtnogehmgpfpjmaaDoor
open Go Go.Ab Go.Dk
abbrev tm (t : T) : V1 := .agg [.int .i64 t.k, .int .i64 t.n, .fr (.ts t.kids)]
abbrev tms (l : List T) : V1 := .one (.fr (.ts l))
abbrev nt (n : Int) : V1 := .one (.int .i64 n)
abbrev bl (b : Bool) : V1 := .one (.bool b)
abbrev termT : TypeId := 29
abbrev ow (t : T) : List V1 × List AObj := ([.agg [.int .i64 t.k, .int .i64 t.n, .own 0 0]], [.arr termT (.ts t.kids) 0 false])
theorem T.eta (t : T) : T.mk t.k t.n t.kids = t := by cases t; rfl
theorem mk_k (k n : Int) (l : List T) : (T.mk k n l).k = k := rfl
theorem mk_n (k n : Int) (l : List T) : (T.mk k n l).n = n := rfl
theorem mk_kids (k n : Int) (l : List T) : (T.mk k n l).kids = l := rfl
theorem rTerm_tm (t : T) (l : List V1) (k : T → List V1 → OR) : rTerm (.agg [.int .i64 t.k, .int .i64 t.n, .fr (.ts t.kids)] :: l) k = k t l := by cases t; rfl
theorem evt : type_of% (And.intro @evs <| And.intro @rTerm_tm <| And.intro @T.eta <| And.intro @mk_k <| And.intro @mk_n <| And.intro @mk_kids <| And.intro @Option.bind_none.{0,0} <| And.intro @Bool.not_true <| And.intro @Bool.not_false <| And.intro @Bool.true_and <| And.intro @Bool.and_true <| And.intro @Bool.and_false <| And.intro @Bool.false_and <| And.intro @Bool.and_self <| And.intro @decide_true @decide_false) := And.intro @evs <| And.intro @rTerm_tm <| And.intro @T.eta <| And.intro @mk_k <| And.intro @mk_n <| And.intro @mk_kids <| And.intro @Option.bind_none.{0,0} <| And.intro @Bool.not_true <| And.intro @Bool.not_false <| And.intro @Bool.true_and <| And.intro @Bool.and_true <| And.intro @Bool.and_false <| And.intro @Bool.false_and <| And.intro @Bool.and_self <| And.intro @decide_true @decide_false
theorem pos_succ {n : Nat} (h : 0 < n) : ∃ m, n = m + 1 := ⟨n - 1, by omega⟩
theorem cast1 (i : Nat) : (i : Int) + 1 = ((i + 1 : Nat) : Int) := rfl
theorem roomB_ok {n : Nat} (h : n ≤ 1099511627776) : roomB n = true := decide_eq_true h
theorem f_within {n : Nat} (hn : 1 ≤ n) (a b c : Int) : FF n 60 [nt a, nt b, nt c] [] = some ([bl (decide (b ≤ a) && decide (a ≤ c))], []) := by
 obtain ⟨n, rfl⟩ := pos_succ (show 0 < n by omega)
 rw [E_impl_within]
 by_cases h : b ≤ a <;> simp [h]
theorem f_most {n : Nat} (hn : 1 ≤ n) (k : Int) : FF n 61 [nt k] [] = some ([nt (mostOf k)], []) := by
 obtain ⟨n, rfl⟩ := pos_succ (show 0 < n by omega)
 rw [E_impl_most]
 unfold mostOf
 by_cases h : k = 1 <;> by_cases h2 : k = 2 <;> simp [h, h2]
theorem f_l1Most {n : Nat} (hn : 1 ≤ n) (k : Int) : FF n 54 [nt k] [] = some ([nt (mostOf k)], []) := by
 obtain ⟨n, rfl⟩ := pos_succ (show 0 < n by omega)
 rw [E_spec_l1Most]
 unfold mostOf
 by_cases h : k = 1 <;> by_cases h2 : k = 2 <;> simp [h, h2]
theorem ops_list (k : Int) (h : 1 ≤ k ∧ k ≤ 16) : ([0, 0, 2, 2, 2, 0, 0, 1, 4, 3, 1, 3, 2, 3, 1, 1] : List Int)[(k - 1).toNat]? = some (opsOf k) := by
 have : k = 1 ∨ k = 2 ∨ k = 3 ∨ k = 4 ∨ k = 5 ∨ k = 6 ∨ k = 7 ∨ k = 8 ∨ k = 9 ∨ k = 10 ∨ k = 11 ∨ k = 12 ∨ k = 13 ∨ k = 14 ∨ k = 15 ∨ k = 16 := by omega
 rcases this with rfl | rfl | rfl | rfl | rfl | rfl | rfl | rfl | rfl | rfl | rfl | rfl | rfl | rfl | rfl | rfl <;> rfl
theorem f_operands {n : Nat} (hn : 2 ≤ n) (k : Int) : FF n 59 [nt k] [] = some ([nt (opsOf k)], []) := by
 obtain ⟨n, rfl⟩ := pos_succ (show 0 < n by omega)
 rw [E_impl_operands, f_within (by omega)]
 by_cases h : 1 ≤ k ∧ k ≤ 16
 ·simp only [evs, decide_eq_true h.1, decide_eq_true h.2, Bool.and_self, Bool.not_true, wrap64 (show -9223372036854775808 ≤ k - 1 ∧ k - 1 ≤ 9223372036854775807 by omega), decide_eq_true (show 0 ≤ k - 1 by omega),
    show (([0, 0, 2, 2, 2, 0, 0, 1, 4, 3, 1, 3, 2, 3, 1, 1] : List Nat).length : Int) = 16 from rfl, decide_eq_true (show k - 1 < 16 by omega), ops_list k h]
 ·have : (decide (1 ≤ k) && decide (k ≤ 16)) = false := by
    rw [Bool.and_eq_false_iff, decide_eq_false_iff_not, decide_eq_false_iff_not]; omega
  simp only [evs, this, Bool.not_false]
  unfold opsOf
  rw [if_neg (by omega), if_neg (by omega), if_neg (by omega), if_neg (by omega), if_neg (by omega)]
theorem f_l1Kids {n : Nat} (hn : 1 ≤ n) (k : Int) : FF n 53 [nt k] [] = some ([nt (opsOf k)], []) := by
 obtain ⟨n, rfl⟩ := pos_succ (show 0 < n by omega)
 rw [E_spec_l1Kids]
 by_cases h : k = 1 ∨ k = 2 ∨ k = 3 ∨ k = 4 ∨ k = 5 ∨ k = 6 ∨ k = 7 ∨ k = 8 ∨ k = 9 ∨ k = 10 ∨ k = 11 ∨ k = 12 ∨ k = 13 ∨ k = 14 ∨ k = 15 ∨ k = 16
 ·rcases h with rfl | rfl | rfl | rfl | rfl | rfl | rfl | rfl | rfl | rfl | rfl | rfl | rfl | rfl | rfl | rfl <;> rfl
 ·unfold opsOf
  rw [if_neg (by omega), if_neg (by omega), if_neg (by omega), if_neg (by omega), if_neg (by omega)]
  simp (disch := omega) only [cond_dec, if_neg]
theorem f_isBinder {n : Nat} (hn : 1 ≤ n) (k : Int) : FF n 47 [nt k] [] = some ([bl (decide (k = 3 ∨ k = 4 ∨ k = 13))], []) := by
 obtain ⟨n, rfl⟩ := pos_succ (show 0 < n by omega)
 rw [E_impl_isBinder]
 by_cases h : k = 3 <;> by_cases h2 : k = 4 <;> simp [h, h2]
theorem f_l1Leaf {n : Nat} (hn : 1 ≤ n) (k m : Int) : FF n 69 [nt k, nt m] [] = some ([tm (.mk k m [])], []) := by
 obtain ⟨n, rfl⟩ := pos_succ (show 0 < n by omega)
 exact E_spec_l1Leaf n k m
theorem f_variable {n : Nat} (hn : 1 ≤ n) (m : Int) : FF n 72 [nt m] [] = some ([tm (.mk 1 m [])], []) := by
 obtain ⟨n, rfl⟩ := pos_succ (show 0 < n by omega)
 exact E_impl_variable n m
theorem f_l1Node {n : Nat} (hn : 1 ≤ n) (k : Int) (l : List T) (hl : l.length ≤ 1099511627776) : FF n 66 [nt k, tms l] [] = some ([tm (.mk k 0 l)], []) := by
 obtain ⟨n, rfl⟩ := pos_succ (show 0 < n by omega)
 rw [E_spec_l1Node, List.nil_append, roomB_ok hl]; rfl
theorem ops_le (k : Int) : opsOf k ≤ 4 := by
 unfold opsOf
 repeat' split
 all_goals omega
theorem scan_loop (n : Nat) (d : Int) (ts : List T) (hd : 0 ≤ d ∧ d ≤ 31) (hl : ts.length ≤ 1099511627776)
   (h : ∀ u ∈ ts, ∀ c : Int, 0 ≤ c → c ≤ 400 → FF n 38 [tm u, nt (d + 1), .one (.ptr 0 0)] [.cells [.int .i64 c]] = some ([bl (scanF u (d + 1) c).1], [.cells [.int .i64 (scanF u (d + 1) c).2]])) :
   ∀ g m (i : Nat) (c : Int), g < m → i + g = ts.length → 0 ≤ c → c ≤ 400 → L_impl_scan_0 n m d ts ts.length i c = some ([bl (scanL (ts.drop i) (d + 1) c).1], [.cells [.int .i64 (scanL (ts.drop i) (d + 1) c).2]])
 | g, 0, i, c, hg, _, _, _ => by omega
 | 0, m + 1, i, c, _, hi, _, _ => by
  rw [L_impl_scan_0_eq, List.drop_of_length_le (by omega)]
  simp only [cond_dec, if_neg (show ¬ (i : Int) < ts.length by omega), scanL]
 | g + 1, m + 1, i, c, hg, hi, h0, h1 => by
  have hlt : i < ts.length := by omega
  have hb := scanF_bd ts[i] (d + 1) c
  rw [List.drop_eq_getElem_cons hlt, scanL]
  rw [L_impl_scan_0_eq]; simp (disch := omega) only [evt, cond_dec, Int.toNat_natCast, cast1, wrap64, roomB_ok, List.length_append, List.length_cons, List.length_nil, if_pos (show (i : Int) < ts.length by omega), if_pos (show 0 ≤ (i : Int) by omega), List.getElem?_eq_getElem hlt, h _ (List.getElem_mem hlt) c h0 h1]
  cases hs : (scanF ts[i] (d + 1) c).1 with
  | false => simp
  | true =>
   have := hb hs
   simp only [Bool.not_true, cond_false, if_true]
   exact scan_loop n d ts hd hl h g m (i + 1) _ (by omega) (by omega) (by omega) (by omega)
theorem f_scan (t : T) : ∀ {n : Nat}, t.size + 5 ≤ n → ∀ d c : Int, 0 ≤ d → d ≤ 31 → 0 ≤ c → c ≤ 400 →
   FF n 38 [tm t, nt d, .one (.ptr 0 0)] [.cells [.int .i64 c]] = some ([bl (scanF t d c).1], [.cells [.int .i64 (scanF t d c).2]]) := by
 induction t using T.ind with | h t ih =>
 intro n hn d c h0 h1 h2 h3
 have hsz := T.size_eq t
 have hl := T.sizeL_len t.kids
 obtain ⟨n, rfl⟩ := pos_succ (show 0 < n by omega)
 rw [E_impl_scan, scanF_eq]
 simp (disch := omega) only [evt, f_operands, f_most, f_within, wrap64]
 by_cases c1 : 400 < c + 1
 ·simp [c1]
 by_cases c2 : 30 < d
 ·simp [c1, c2]
 by_cases c3 : opsOf t.k = t.kids.length
 ·by_cases c4 : 0 ≤ t.n ∧ t.n ≤ mostOf t.k
  ·have e : (decide (0 ≤ t.n) && decide (t.n ≤ mostOf t.k)) = true := by simp [c4]
   rw [if_neg (by intro hh; rcases hh with hh | hh | hh | hh <;> first | omega | exact hh c3 | exact hh c4), e]
   simp only [decide_eq_false c1, decide_eq_false c2, cond_false, decide_eq_true c3, Bool.not_true]
   by_cases hk : t.kids = []
   ·rw [hk]
    obtain ⟨n, rfl⟩ := pos_succ (show 0 < n by omega)
    rw [L_impl_scan_0_eq]; simp [scanL]
   ·have := scan_loop n d t.kids ⟨h0, h1⟩ (by have := ops_le t.k; omega) (fun u hu c' hc hc' => ih u hu (by have := T.sizeL_mem hu; omega) (d + 1) c' (by omega) (by omega) hc hc') t.kids.length n 0 (c + 1) (by omega) (by omega) (by omega) (by omega)
    simpa using this
  ·have e : (decide (0 ≤ t.n) && decide (t.n ≤ mostOf t.k)) = false := by
     rw [← Bool.not_eq_true, Bool.and_eq_true, decide_eq_true_eq, decide_eq_true_eq]; exact c4
   rw [if_pos (.inr (.inr (.inr c4))), e]
   simp [c1, c2, c3]
 ·rw [if_pos (.inr (.inr (.inl c3)))]
  simp [c1, c2, c3]
theorem f_TermValid {n : Nat} {t : T} (hn : t.size + 6 ≤ n) : FF n 19 [tm t] [] = some ([bl (validB t)], []) := by
 obtain ⟨n, rfl⟩ := pos_succ (show 0 < n by omega)
 rw [E_impl_TermValid, ← scan_valid]
 simp (disch := omega) only [evt, f_scan]
theorem shape_loop (n : Nat) (d : Nat) (k0 n0 : Int) (ts : List T) (hd : d ≤ 30) (h1d : 1 ≤ d) (hl : ts.length ≤ 1099511627776)
   (h : ∀ u ∈ ts, FF n 29 [tm u, nt ((d - 1 : Nat) : Int)] [] = some ([bl (shapeF u (d - 1))], [])) :
   ∀ g m (i : Nat), g < m → i + g = ts.length → L_spec_l1Shape_0 n m (d : Int) i k0 n0 ts = some ([bl (shapeL (ts.drop i) (d - 1))], [])
 | g, 0, i, hg, _ => by omega
 | 0, m + 1, i, _, hi => by
  rw [L_spec_l1Shape_0_eq, List.drop_of_length_le (by omega)]
  simp only [cond_dec, if_neg (show ¬ (i : Int) < ts.length by omega), shapeL]
 | g + 1, m + 1, i, hg, hi => by
  have hlt : i < ts.length := by omega
  rw [List.drop_eq_getElem_cons hlt, shapeL]
  have w : IntKind.i64.wrap ((d : Int) - 1) = ((d - 1 : Nat) : Int) := by rw [wrap64 (by omega)]; omega
  rw [L_spec_l1Shape_0_eq]; simp (disch := omega) only [evt, cond_dec, Int.toNat_natCast, cast1, wrap64, roomB_ok, List.length_append, List.length_cons, List.length_nil, if_pos (show (i : Int) < ts.length by omega), if_pos (show 0 ≤ (i : Int) by omega), List.getElem?_eq_getElem hlt, w, h _ (List.getElem_mem hlt)]
  cases hs : shapeF ts[i] (d - 1) with
  | false => simp
  | true =>
   simp only [Bool.not_true, cond_false, Bool.true_and]
   exact shape_loop n d k0 n0 ts hd h1d hl h g m (i + 1) (by omega) (by omega)
theorem f_l1Shape (t : T) : ∀ {n : Nat}, t.size + 5 ≤ n → ∀ d : Nat, d ≤ 30 → FF n 29 [tm t, nt (d : Int)] [] = some ([bl (shapeF t d)], []) := by
 induction t using T.ind with | h t ih =>
 intro n hn d hd
 have hsz := T.size_eq t
 have hl := T.sizeL_len t.kids
 obtain ⟨n, rfl⟩ := pos_succ (show 0 < n by omega)
 rw [E_spec_l1Shape, shapeF_eq]
 simp (disch := omega) only [evt, f_l1Kids, f_l1Most]
 by_cases c1 : (d : Int) < 1
 ·simp [c1, show ¬ 1 ≤ d by omega]
 by_cases c3 : opsOf t.k = t.kids.length
 ·by_cases c4 : 0 ≤ t.n ∧ t.n ≤ mostOf t.k
  ·simp only [decide_eq_false c1, cond_false, decide_eq_true c3, Bool.not_true, decide_eq_false (show ¬ t.n < 0 by omega), decide_eq_false (show ¬ mostOf t.k < t.n by omega), decide_eq_true (show 1 ≤ d by omega), decide_eq_true c4, Bool.true_and]
   exact shape_loop n d t.k t.n t.kids hd (by omega) (by have := ops_le t.k; omega) (fun u hu => ih u hu (by have := T.sizeL_mem hu; omega) (d - 1) (by omega)) t.kids.length n 0 (by omega) (by omega)
  ·simp only [decide_eq_false c1, cond_false, decide_eq_true c3, Bool.not_true, decide_eq_true (show 1 ≤ d by omega), decide_eq_false c4, Bool.true_and, Bool.false_and]
   by_cases c5 : t.n < 0
   ·simp [c5]
   ·simp [c5, show mostOf t.k < t.n by omega]
 ·simp [c1, c3]
theorem count_loop (n : Nat) (most : Nat) (k0 n0 : Int) (ts : List T) (hm : most ≤ 400) (hl : ts.length ≤ 1099511627776)
   (h : ∀ u ∈ ts, ∀ m : Nat, m ≤ 400 → FF n 30 [tm u, nt (m : Int)] [] = some ([nt (cntF u m : Int)], [])) :
   ∀ g m (i c : Nat), g < m → i + g = ts.length → L_spec_l1Count_0 n m (most : Int) c i k0 n0 ts = some ([nt ((if c ≤ most then min (c + T.sizeL (ts.drop i)) (most + 1) else c : Nat) : Int)], [])
 | g, 0, i, c, hg, _ => by omega
 | 0, m + 1, i, c, _, hi => by
  rw [L_spec_l1Count_0_eq, List.drop_of_length_le (by omega)]
  simp only [cond_dec, if_neg (show ¬ (i : Int) < ts.length by omega), T.sizeL]
  split
  ·rw [Nat.min_eq_left (by omega)]; rfl
  ·rfl
 | g + 1, m + 1, i, c, hg, hi => by
  have hlt : i < ts.length := by omega
  rw [List.drop_eq_getElem_cons hlt, T.sizeL]
  by_cases hc : c ≤ most
  ·have w : IntKind.i64.wrap ((most : Int) - c) = ((most - c : Nat) : Int) := by rw [wrap64 (by omega)]; omega
   have hcn : cntF ts[i] (most - c) ≤ most - c + 1 := by unfold cntF; omega
   have w2 : IntKind.i64.wrap ((c : Int) + (cntF ts[i] (most - c) : Int)) = ((c + cntF ts[i] (most - c) : Nat) : Int) := by rw [wrap64 (by omega)]; rfl
   rw [L_spec_l1Count_0_eq]; simp (disch := omega) only [evt, cond_dec, Int.toNat_natCast, cast1, wrap64, roomB_ok, List.length_append, List.length_cons, List.length_nil, if_pos (show (i : Int) < ts.length by omega), if_pos (show 0 ≤ (i : Int) by omega), if_pos (show (c : Int) ≤ most by omega), List.getElem?_eq_getElem hlt, w, w2, h _ (List.getElem_mem hlt) (most - c) (by omega)]
   rw [count_loop n most k0 n0 ts hm hl h g m (i + 1) _ (by omega) (by omega)]
   have e : (if c + cntF ts[i] (most - c) ≤ most then min (c + cntF ts[i] (most - c) + T.sizeL (ts.drop (i + 1))) (most + 1) else c + cntF ts[i] (most - c)) = min (c + (ts[i].size + T.sizeL (ts.drop (i + 1)))) (most + 1) := by
    unfold cntF
    split <;> omega
   rw [e, if_pos hc]
  ·rw [L_spec_l1Count_0_eq]
   simp only [cond_dec, if_pos (show (i : Int) < ts.length by omega), if_neg (show ¬ (c : Int) ≤ most by omega), if_neg hc]
theorem f_l1Count (t : T) : ∀ {n : Nat}, t.size + 5 ≤ n → t.size ≤ 4000000 → ∀ m : Nat, m ≤ 400 → FF n 30 [tm t, nt (m : Int)] [] = some ([nt (cntF t m : Int)], []) := by
 induction t using T.ind with | h t ih =>
 intro n hn hz m hm
 have hsz := T.size_eq t
 have hl := T.sizeL_len t.kids
 obtain ⟨n, rfl⟩ := pos_succ (show 0 < n by omega)
 rw [E_spec_l1Count]
 have := count_loop n m t.k t.n t.kids hm (by omega) (fun u hu m hm => ih u hu (by have := T.sizeL_mem hu; omega) (by have := T.sizeL_mem hu; omega) m hm) t.kids.length n 0 1 (by omega) (by omega)
 have e : (if 1 ≤ m then min (1 + T.sizeL t.kids) (m + 1) else 1) = cntF t m := by unfold cntF; split <;> omega
 rw [List.drop_zero, e] at this
 exact this
theorem f_TermValidS {n : Nat} {t : T} (hn : t.size + 6 ≤ n) (hz : t.size ≤ 4000000) : FF n 13 [tm t] [] = some ([bl (validB t)], []) := by
 obtain ⟨n, rfl⟩ := pos_succ (show 0 < n by omega)
 rw [E_spec_TermValid, validB]
 have h1 := f_l1Shape t (n := n) (by omega) 30 (by omega)
 have h2 := f_l1Count t (n := n) (by omega) hz 400 (by omega)
 rw [show (30 : Int) = ((30 : Nat) : Int) from rfl, show (400 : Int) = ((400 : Nat) : Int) from rfl, h1, h2]
 simp only [evt]
 cases shapeF t 30
 ·rfl
 ·simp only [cond_true, Bool.true_and]
  have e : decide ((cntF t 400 : Int) ≤ ((400 : Nat) : Int)) = decide (t.size ≤ 400) := by
   unfold cntF
   exact decide_eq_decide.2 (by omega)
  rw [e]
theorem f_valid {n : Nat} {t : T} (hn : t.size + 7 ≤ n) : FF n 51 [tm t] [] = some ([tm (if validB t then t else .mk 0 0 []), bl (validB t)], []) := by
 obtain ⟨n, rfl⟩ := pos_succ (show 0 < n by omega)
 rw [E_impl_valid]
 simp (disch := omega) only [evt, f_TermValid]
 cases validB t <;> rfl
theorem same_loop (n : Nat) (ts us : List T) (k0 n0 k1 n1 : Int) (hl : ts.length ≤ 4000000) (he : ts.length = us.length) (h : ∀ t ∈ ts, ∀ u, FF n 26 [tm t, tm u] [] = some ([bl (T.beq t u)], [])) :
   ∀ g m (i : Nat), g < m → i + g = ts.length → L_spec_TermSame_0 n m i k0 n0 ts k1 n1 us = some ([bl (T.beqL (ts.drop i) (us.drop i))], [])
 | g, 0, i, hg, _ => by omega
 | 0, m + 1, i, _, hi => by
  rw [L_spec_TermSame_0_eq, List.drop_of_length_le (by omega), List.drop_of_length_le (by omega)]
  simp only [cond_dec, if_neg (show ¬ (i : Int) < ts.length by omega), T.beqL]
 | g + 1, m + 1, i, hg, hi => by
  have hlt : i < ts.length := by omega
  have hlt2 : i < us.length := by omega
  rw [List.drop_eq_getElem_cons hlt, List.drop_eq_getElem_cons hlt2, T.beqL]
  rw [L_spec_TermSame_0_eq]; simp (disch := omega) only [evt, cond_dec, Int.toNat_natCast, cast1, wrap64, roomB_ok, List.length_append, List.length_cons, List.length_nil, if_pos (show (i : Int) < ts.length by omega), if_pos (show 0 ≤ (i : Int) by omega), List.getElem?_eq_getElem hlt, List.getElem?_eq_getElem hlt2, h _ (List.getElem_mem hlt)]
  cases hs : T.beq ts[i] us[i] with
  | false => simp
  | true =>
   simp only [Bool.not_true, cond_false, Bool.true_and]
   exact same_loop n ts us k0 n0 k1 n1 hl he h g m (i + 1) (by omega) (by omega)
theorem beqL_len : ∀ {ts us : List T}, ts.length ≠ us.length → T.beqL ts us = false
 | [], [], h => absurd rfl h
 | [], _ :: _, _ => rfl
 | _ :: _, [], _ => rfl
 | t :: ts, u :: us, h => by rw [T.beqL, beqL_len (fun e => h (by simp [e])), Bool.and_false]
theorem f_TermSameS (t : T) : ∀ {n : Nat}, t.size + 5 ≤ n → t.size ≤ 4000000 → ∀ u : T, FF n 26 [tm t, tm u] [] = some ([bl (T.beq t u)], []) := by
 induction t using T.ind with | h t ih =>
 intro n hn hz u
 have hsz := T.size_eq t
 have hl := T.sizeL_len t.kids
 obtain ⟨n, rfl⟩ := pos_succ (show 0 < n by omega)
 rw [E_spec_TermSame, T.beq_eq]
 by_cases c1 : t.k = u.k
 ·by_cases c2 : t.n = u.n
  ·by_cases c3 : t.kids.length = u.kids.length
   ·have := same_loop n t.kids u.kids t.k t.n u.k u.n (by omega) c3 (fun v hv w => ih v hv (by have := T.sizeL_mem hv; omega) (by have := T.sizeL_mem hv; omega) w) t.kids.length n 0 (by omega) (by omega)
    simp only [decide_eq_true c1, decide_eq_true c2, decide_eq_true (show (t.kids.length : Int) = u.kids.length by omega), Bool.not_true, cond_false, Bool.true_and]
    simpa using this
   ·simp only [decide_eq_true c1, decide_eq_true c2, decide_eq_false (show ¬ (t.kids.length : Int) = u.kids.length by omega), Bool.not_true, Bool.not_false, cond_false, cond_true, Bool.true_and, beqL_len c3]
  ·simp [c1, c2]
 ·simp [c1]
end Go.Proofs.YtnogehmgpfpjmaaDoor
end
section
namespace Go.Proofs.YtnogehmgpfpjmaaDoor
open Go Go.Ab Go.Dk
end Go.Proofs.YtnogehmgpfpjmaaDoor
end
section
namespace Go.Proofs.YtnogehmgpfpjmaaDoor
open Go Go.Ab Go.Dk
mutual
def clF : T → Int → Bool
 | .mk k n ks, d => (!(decide (k = 1) && decide (d ≤ n))) && clL ks k 0 d
def clL : List T → Int → Nat → Int → Bool
 | [], _, _, _ => true
 | t :: ts, k, i, d => clF t (d + under k i) && clL ts k (i + 1) d
end
theorem und_bd (k : Int) (i : Nat) : 0 ≤ under k i ∧ under k i ≤ 1 := by unfold under; split <;> omega
mutual
theorem clF_mono : ∀ (t : T) {d e : Int}, clF t d = true → d ≤ e → clF t e = true
 | .mk k n ks, d, e, h, hd => by
  simp only [clF, Bool.and_eq_true, Bool.not_eq_true', Bool.and_eq_false_iff, decide_eq_false_iff_not] at h ⊢
  exact ⟨h.1.imp id (fun h => by omega), clL_mono ks h.2 hd⟩
theorem clL_mono : ∀ (ts : List T) {k : Int} {i : Nat} {d e : Int}, clL ts k i d = true → d ≤ e → clL ts k i e = true
 | [], _, _, _, _, _, _ => rfl
 | t :: ts, k, i, d, e, h, hd => by
  simp only [clL, Bool.and_eq_true] at h ⊢
  exact ⟨clF_mono t h.1 (by omega), clL_mono ts h.2 hd⟩
end
mutual
theorem clF_valid : ∀ (t : T) (g : Nat) {d : Int}, shapeF t g = true → 21 ≤ d → clF t d = true
 | .mk k n ks, g, d, h, hd => by
  simp only [shapeF, Bool.and_eq_true, decide_eq_true_eq] at h
  simp only [clF, Bool.and_eq_true, Bool.not_eq_true', Bool.and_eq_false_iff, decide_eq_false_iff_not]
  refine ⟨?_, clL_valid ks _ h.2.2.2 hd⟩
  by_cases hk : k = 1
  ·subst hk
   right
   have h1 := h.2.2.1.2
   rw [show mostOf 1 = 20 from rfl] at h1
   omega
  ·exact .inl hk
theorem clL_valid : ∀ (ts : List T) (g : Nat) {k : Int} {i : Nat} {d : Int}, shapeL ts g = true → 21 ≤ d → clL ts k i d = true
 | [], _, _, _, _, _, _ => rfl
 | t :: ts, g, k, i, d, h, hd => by
  simp only [shapeL, Bool.and_eq_true] at h
  have hu := und_bd k i
  simp only [clL, Bool.and_eq_true]
  exact ⟨clF_valid t _ h.1 (by omega), clL_valid ts _ h.2 hd⟩
end
def mfN (t : T) : Nat := ((List.range 21).find? fun v : Nat => clF t (v : Int)).getD 21
theorem mfN_iff {t : T} (hv : validB t = true) (d : Nat) : mfN t ≤ d ↔ clF t (d : Int) = true := by
 have hs : shapeF t 30 = true := by
  unfold validB at hv
  rw [Bool.and_eq_true] at hv
  exact hv.1
 unfold mfN
 cases h : (List.range 21).find? fun v : Nat => clF t (v : Int) with
 | some v =>
  have h1 : clF t (v : Int) = true := by simpa using List.find?_some h
  have h2 := List.mem_of_find?_eq_some h
  show v ≤ d ↔ _
  refine ⟨fun hd => clF_mono t h1 (by omega), fun hd => ?_⟩
  refine Classical.byContradiction fun hlt => ?_
  have hlt : d < v := by omega
  rw [List.find?_eq_some_iff_getElem] at h
  obtain ⟨_, i, hi, he, hall⟩ := h
  have hiv : i = v := by simpa using he
  have := hall d (by omega)
  simp [hd] at this
 | none =>
  show 21 ≤ d ↔ _
  refine ⟨fun hd => clF_valid t 30 hs (by omega), fun hd => ?_⟩
  refine Classical.byContradiction fun hlt => ?_
  rw [List.find?_eq_none] at h
  have := h d (by simp; omega)
  simp [hd] at this
end Go.Proofs.YtnogehmgpfpjmaaDoor
end
section
namespace Go.Proofs.YtnogehmgpfpjmaaDoor
open Go Go.Dk
theorem rdS_all (p : List UInt8 → Option (T × List UInt8)) (last : UInt8) (P : T → Prop) (hp : ∀ s t r, p s = some (t, r) → P t) : ∀ n s ts r, rdS p last n s = some (ts, r) → ∀ t ∈ ts, P t
 | 0, s, ts, r, h, t, ht => by cases h; cases ht
 | n + 1, s, ts, r, h, t, ht => by
  rw [rdS] at h
  cases e1 : p s with
  | none => rw [e1] at h; cases h
  | some x =>
   rw [e1] at h
   simp only [Option.bind_some] at h
   cases e2 : eat (if n = 0 then last else 44) x.2 with
   | none => rw [e2] at h; cases h
   | some r2 =>
    rw [e2] at h
    simp only [Option.bind_some] at h
    cases e3 : rdS p last n r2 with
    | none => rw [e3] at h; cases h
    | some y =>
     rw [e3] at h
     simp only [Option.map_some, Option.some.injEq, Prod.mk.injEq] at h
     obtain ⟨rfl, _⟩ := h
     rcases List.mem_cons.1 ht with rfl | ht
     ·exact hp s _ _ e1
     ·exact rdS_all p last P hp n r2 y.1 y.2 e3 t ht
theorem clL_of {k : Int} (hk : isBd k = false) : ∀ (ts : List T) (i : Nat) (d : Int), (∀ u ∈ ts, clF u d = true) → clL ts k i d = true
 | [], _, _, _ => rfl
 | t :: ts, i, d, h => by
  have h0 : under k i = 0 := by
   unfold under; rw [if_neg]
   simp only [isBd, Bool.or_eq_false_iff, decide_eq_false_iff_not] at hk
   omega
  simp only [clL, h0, Bool.and_eq_true, Int.add_zero]
  exact ⟨h t (by simp), clL_of hk ts (i + 1) d fun u hu => h u (by simp [hu])⟩
theorem cl_flat {k n : Int} {ts : List T} {d : Int} (hk : isBd k = false) (h1 : k ≠ 1) (h : ∀ u ∈ ts, clF u d = true) : clF (.mk k n ts) d = true := by
 rw [clF, clL_of hk ts 0 d h, decide_eq_false h1]; rfl
theorem cl_two {k : Int} {a b : T} {d : Int} (hk : isBd k = true) (ha : clF a d = true) (hb : clF b (d + 1) = true) : clF (.mk k 0 [a, b]) d = true := by
 have hu0 : under k 0 = 0 := by unfold under; rw [if_neg (by omega)]
 have hk' : k = 3 ∨ k = 4 ∨ k = 13 := by simpa [isBd] using hk
 have hu1 : under k 1 = 1 := by unfold under; rw [if_pos ⟨rfl, hk'⟩]
 rw [clF, decide_eq_false (show ¬ k = 1 by omega)]
 simp only [clL, hu0, hu1, Nat.zero_add, Int.add_zero, ha, hb]; rfl
theorem rd_cl : ∀ (d : Nat) (env s : List UInt8) (t : T) (r : List UInt8), rdN d env s = some (t, r) → clF t (env.length : Nat) = true
 | 0, env, s, t, r, h => by cases h
 | d + 1, env, [], t, r, h => by cases h
 | d + 1, env, c :: s, t, r, h => by
  have one : ∀ {k : Int} {s : List UInt8}, isBd k = false → k ≠ 1 → (rdN d env s).map (fun x => ((T.mk k 0 [x.1], x.2) : T × List UInt8)) = some (t, r) → clF t (env.length : Nat) = true := fun {k s} hk h1 h => by
   cases e : rdN d env s with
   | none => rw [e] at h; cases h
   | some x =>
    rw [e] at h
    simp only [Option.map_some, Option.some.injEq, Prod.mk.injEq] at h
    obtain ⟨rfl, _⟩ := h
    exact cl_flat hk h1 fun u hu => by rw [List.mem_singleton.1 hu]; exact rd_cl d env s _ _ e
  have ser : ∀ {k : Int} {last : UInt8} {n : Nat} {s : List UInt8}, isBd k = false → k ≠ 1 → (rdS (rdN d env) last n s).map (fun y => ((T.mk k 0 y.1, y.2) : T × List UInt8)) = some (t, r) → clF t (env.length : Nat) = true := fun {k last n s} hk h1 h => by
   cases e : rdS (rdN d env) last n s with
   | none => rw [e] at h; cases h
   | some x =>
    rw [e] at h
    simp only [Option.map_some, Option.some.injEq, Prod.mk.injEq] at h
    obtain ⟨rfl, _⟩ := h
    exact cl_flat hk h1 (rdS_all _ _ (fun t => clF t (env.length : Nat) = true) (fun s t r h => rd_cl d env s t r h) _ _ _ _ e)
  rw [rdN] at h
  by_cases hq0 : letB c = true
  ·rw [if_pos hq0] at h
   cases e : fnd env c with
   | none => rw [e] at h; cases h
   | some k =>
    rw [e] at h
    have := fnd_lt env c e
    simp only [Option.bind_some] at h
    split at h
    ·simp only [Option.some.injEq, Prod.mk.injEq] at h
     obtain ⟨rfl, _⟩ := h
     rw [clF, clL, decide_eq_false (show ¬ ((env.length : Nat) : Int) ≤ (k : Int) by omega)]; simp
    ·cases h
  rw [if_neg hq0] at h
  by_cases hq1 : c = 42
  ·rw [if_pos hq1] at h
   cases s with
   | nil => cases h
   | cons x s =>
    rw [rdNum] at h
    split at h
    ·simp only [Option.some.injEq, Prod.mk.injEq] at h
     obtain ⟨rfl, _⟩ := h
     exact cl_flat (by decide) (by decide) fun u hu => by cases hu
    ·cases h
  rw [if_neg hq1] at h
  by_cases hq2 : c = 78
  ·rw [if_pos hq2] at h
   simp only [Option.some.injEq, Prod.mk.injEq] at h
   obtain ⟨rfl, _⟩ := h
   exact cl_flat (by decide) (by decide) fun u hu => by cases hu
  rw [if_neg hq2] at h
  by_cases hq3 : c = 48
  ·rw [if_pos hq3] at h
   simp only [Option.some.injEq, Prod.mk.injEq] at h
   obtain ⟨rfl, _⟩ := h
   exact cl_flat (by decide) (by decide) fun u hu => by cases hu
  rw [if_neg hq3] at h
  by_cases hq4 : c = 43
  ·rw [if_pos hq4] at h
   exact one (by decide) (by decide) h
  rw [if_neg hq4] at h
  by_cases hq5 : c = 33
  ·rw [if_pos hq5] at h
   exact one (by decide) (by decide) h
  rw [if_neg hq5] at h
  by_cases hq6 : c = 94
  ·rw [if_pos hq6] at h
   exact one (by decide) (by decide) h
  rw [if_neg hq6] at h
  by_cases hq7 : c = 95
  ·rw [if_pos hq7] at h
   exact one (by decide) (by decide) h
  rw [if_neg hq7] at h
  by_cases hq8 : c = 40
  ·rw [if_pos hq8] at h
   split at h
   ·rename_i x s' _
    cases e1 : rdN d env s' with
    | none => rw [e1] at h; cases h
    | some a =>
     rw [e1] at h
     simp only [Option.bind_some] at h
     have ha := rd_cl d env s' _ _ e1
     have fin : ∀ {k : Int} {r2 : List UInt8}, isBd k = true → ((rdN d (x :: env) r2).bind fun b => (eat 41 b.2).map fun r => ((T.mk k 0 [a.1, b.1], r) : T × List UInt8)) = some (t, r) → clF t (env.length : Nat) = true := fun {k r2} hk h => by
      cases e2 : rdN d (x :: env) r2 with
      | none => rw [e2] at h; cases h
      | some b =>
       rw [e2] at h
       simp only [Option.bind_some] at h
       have hb := rd_cl d (x :: env) r2 _ _ e2
       cases e3 : eat 41 b.2 with
       | none => rw [e3] at h; cases h
       | some r3 =>
        rw [e3] at h
        simp only [Option.map_some, Option.some.injEq, Prod.mk.injEq] at h
        obtain ⟨rfl, _⟩ := h
        exact cl_two hk ha (by simpa using hb)
     split at h
     ·split at h
      ·exact fin (by decide) h
      ·split at h
       ·exact fin (by decide) h
       ·cases h
     ·cases h
   ·cases e1 : rdN d env s with
    | none => rw [e1] at h; cases h
    | some a =>
     rw [e1] at h
     simp only [Option.bind_some] at h
     have ha := rd_cl d env s _ _ e1
     cases e2 : eat 32 a.2 with
     | none => rw [e2] at h; cases h
     | some r2 =>
      rw [e2] at h
      simp only [Option.bind_some] at h
      cases e3 : rdN d env r2 with
      | none => rw [e3] at h; cases h
      | some b =>
       rw [e3] at h
       simp only [Option.bind_some] at h
       have hb := rd_cl d env r2 _ _ e3
       cases e4 : eat 41 b.2 with
       | none => rw [e4] at h; cases h
       | some r3 =>
        rw [e4] at h
        simp only [Option.map_some, Option.some.injEq, Prod.mk.injEq] at h
        obtain ⟨rfl, _⟩ := h
        refine cl_flat (by decide) (by decide) fun u hu => ?_
        rcases List.mem_cons.1 hu with rfl | hu
        ·exact ha
        ·rw [List.mem_singleton.1 hu]; exact hb
  rw [if_neg hq8] at h
  by_cases hq9 : c = 91
  ·rw [if_pos hq9] at h
   cases e0 : bnd s with
   | none => rw [e0] at h; cases h
   | some x =>
    rw [e0] at h
    simp only [Option.bind_some] at h
    cases e1 : rdN d env x.2 with
    | none => rw [e1] at h; cases h
    | some a =>
     rw [e1] at h
     simp only [Option.bind_some] at h
     have ha := rd_cl d env x.2 _ _ e1
     cases e2 : eat 93 a.2 with
     | none => rw [e2] at h; cases h
     | some r2 =>
      rw [e2] at h
      simp only [Option.bind_some] at h
      cases e3 : rdN d (x.1 :: env) r2 with
      | none => rw [e3] at h; cases h
      | some b =>
       rw [e3] at h
       have hb := rd_cl d (x.1 :: env) r2 _ _ e3
       simp only [Option.map_some, Option.some.injEq, Prod.mk.injEq] at h
       obtain ⟨rfl, _⟩ := h
       exact cl_two (by decide) ha (by simpa using hb)
  rw [if_neg hq9] at h
  by_cases hq10 : c = 60
  ·rw [if_pos hq10] at h
   exact ser (by decide) (by decide) h
  rw [if_neg hq10] at h
  by_cases hq11 : c = 123
  ·rw [if_pos hq11] at h
   exact ser (by decide) (by decide) h
  rw [if_neg hq11] at h
  by_cases hq12 : c = 124
  ·rw [if_pos hq12] at h
   exact ser (by decide) (by decide) h
  rw [if_neg hq12] at h
  by_cases hq13 : c = 64
  ·rw [if_pos hq13] at h
   cases e0 : eat 60 s with
   | none => rw [e0] at h; cases h
   | some x => rw [e0] at h; exact ser (by decide) (by decide) h
  rw [if_neg hq13] at h
  cases h
end Go.Proofs.YtnogehmgpfpjmaaDoor
end
section
namespace Go.Proofs.YtnogehmgpfpjmaaDoor
open Go Go.Dk
def letterB (c : UInt8) : Bool := decide (97 ≤ (c.toNat : Int)) && decide ((c.toNat : Int) ≤ 122)
theorem idxB_neg (s : ByteArray) (c : UInt8) : idxB s c < 0 ↔ c ∉ s.data.toList := by
 unfold idxB
 cases h : s.data.toList.findIdx? (· == c) with
 | none =>
  rw [List.findIdx?_eq_none_iff] at h
  simp only [Int.reduceNeg, Int.neg_neg_iff_pos, Int.zero_lt_one, true_iff]
  intro hc
  simpa using h c hc
 | some k =>
  rw [List.findIdx?_eq_some_iff_getElem] at h
  obtain ⟨hk, hp, _⟩ := h
  simp only [Int.not_lt.2 (Int.natCast_nonneg k), false_iff, Decidable.not_not]
  have : s.data.toList[k] = c := by simpa using hp
  rw [← this]; exact List.getElem_mem hk
theorem extract_take (s : ByteArray) (i : Nat) (h : i ≤ s.size) : (s.extract 0 i).data.toList = s.data.toList.take i := by
 simp
def nvAt (s : ByteArray) (i : Nat) : Bool := letterB (byteAt s i) && !(s.data.toList.take i).contains (byteAt s i)
def nvB (s : ByteArray) : Bool := (List.range s.size).all (nvAt s) && decide (s.size ≤ 20)
theorem nvB_false {s : ByteArray} {i : Nat} (hi : i < s.size) (h : nvAt s i = false) : nvB s = false := by
 unfold nvB
 rw [Bool.and_eq_false_iff]; left
 rw [List.all_eq_false]
 exact ⟨i, by simpa using hi, by simp [h]⟩
theorem nvB_all {s : ByteArray} (h : ∀ j, j < s.size → nvAt s j = true) : nvB s = decide (s.size ≤ 20) := by
 unfold nvB
 rw [List.all_eq_true.2 (fun x hx => h x (by simpa using hx)), Bool.true_and]
def findFrom (s : ByteArray) (c : UInt8) : Nat → Int
 | 0 => -1
 | k + 1 => if byteAt s k = c then (s.size : Int) - 1 - k else findFrom s c k
def findB (s : ByteArray) (c : UInt8) : Int := findFrom s c s.size
theorem findFrom_neg (s : ByteArray) (c : UInt8) : ∀ k, k ≤ s.size → (findFrom s c k < 0 ↔ ∀ j, j < k → byteAt s j ≠ c)
 | 0, _ => by simp [findFrom]
 | k + 1, hk => by
  unfold findFrom
  split
  ·rename_i h
   constructor
   ·intro h1; omega
   ·intro h1; exact absurd h (h1 k (by omega))
  ·rename_i h
   rw [findFrom_neg s c k (by omega)]
   constructor
   ·intro h1 j hj
    rcases Nat.lt_succ_iff_lt_or_eq.1 hj with hj | rfl
    ·exact h1 j hj
    ·exact h
   ·intro h1 j hj; exact h1 j (by omega)
theorem mem_bytes (s : ByteArray) (c : UInt8) : c ∈ s.data.toList ↔ ∃ j, j < s.size ∧ byteAt s j = c := by
 rw [List.mem_iff_getElem]
 constructor
 ·rintro ⟨j, hj, h⟩
  refine ⟨j, by simpa using hj, ?_⟩
  unfold byteAt; rw [List.getElem?_eq_getElem hj]; exact h
 ·rintro ⟨j, hj, h⟩
  have hj' : j < s.data.toList.length := by simpa using hj
  refine ⟨j, hj', ?_⟩
  unfold byteAt at h; rw [List.getElem?_eq_getElem hj'] at h; exact h
theorem findB_neg (s : ByteArray) (c : UInt8) : findB s c < 0 ↔ c ∉ s.data.toList := by
 unfold findB
 rw [findFrom_neg s c s.size (Nat.le_refl _), mem_bytes]
 constructor
 ·rintro h ⟨j, hj, e⟩; exact h j hj e
 ·intro h j hj e; exact h ⟨j, hj, e⟩
theorem byte_eq {a b : UInt8} : ((a.toNat : Int) = (b.toNat : Int)) ↔ a = b := by
 rw [Int.natCast_inj]
 exact ⟨fun h => UInt8.toNat_inj.1 h, fun h => by rw [h]⟩
theorem nvB_size {s : ByteArray} (h : nvB s = true) : s.size ≤ 20 := by
 unfold nvB at h
 simp only [Bool.and_eq_true, decide_eq_true_eq] at h
 exact h.2
end Go.Proofs.YtnogehmgpfpjmaaDoor
end
section
namespace Go.Proofs.YtnogehmgpfpjmaaDoor
open Go Go.Ab Go.Dk
theorem find_loop (s : ByteArray) (c : UInt8) (hs : s.size ≤ 1048577) (n : Nat) : ∀ k d, k < d → k ≤ s.size → L_spec_l6Find_0 n d s (c.toNat : Int) ((k : Int) - 1) = some ([.one (.int .i64 (findFrom s c k))], [])
 | k, 0, h, _ => by omega
 | 0, d + 1, _, _ => by
  rw [L_spec_l6Find_0_eq]
  simp [findFrom]
 | k + 1, d + 1, h, hk => by
  rw [L_spec_l6Find_0_eq]
  have e : ((k + 1 : Nat) : Int) - 1 = k := by omega
  have w1 : IntKind.i64.wrap ((k : Int) - 1) = (k : Int) - 1 := wrap64 (by omega)
  have w2 : IntKind.i64.wrap ((s.size : Int) - 1) = (s.size : Int) - 1 := wrap64 (by omega)
  have w3 : IntKind.i64.wrap ((s.size : Int) - 1 - k) = (s.size : Int) - 1 - k := wrap64 (by omega)
  simp only [e, w1, w2, w3, cond_dec, if_pos (show (0 : Int) ≤ k by omega), decide_eq_true (show (0 : Int) ≤ k by omega), decide_eq_true (show (k : Int) < s.size by omega), Bool.and_self, cond_true, Int.toNat_natCast, byte_eq, findFrom, find_loop s c hs n k d (by omega) (by omega)]
  split <;> rfl
theorem nvI_loop (s : ByteArray) (hs : s.size ≤ 1048577) (n : Nat) (h1 : ∀ c : UInt8, FF n 39 [.one (.int .u8 (c.toNat : Int))] [] = some ([.one (.bool (letterB c))], []))
   (h2 : ∀ (s : ByteArray) (c : UInt8), FF n 40 [.one (.str s), .one (.int .u8 (c.toNat : Int))] [] = some ([.one (.int .i64 (idxB s c))], [])) :
   ∀ g d k, g < d → k + g = s.size → (∀ j, j < k → nvAt s j = true) → L_impl_NamesValid_0 n d s (s.size : Int) (k : Int) = some ([.one (.bool (nvB s))], [])
 | g, 0, k, h, _, _ => by omega
 | 0, d + 1, k, _, hk, ha => by
  rw [L_impl_NamesValid_0_eq, nvB_all (fun j hj => ha j (by omega))]
  simp only [cond_dec, if_neg (show ¬ (k : Int) < s.size by omega)]
  have : decide ((s.size : Int) ≤ 20) = decide (s.size ≤ 20) := decide_eq_decide.2 (by omega)
  rw [this]
 | g + 1, d + 1, k, h, hk, ha => by
  rw [L_impl_NamesValid_0_eq]
  have w1 : IntKind.i64.wrap ((k : Int) + 1) = ((k + 1 : Nat) : Int) := wrap64 (by omega)
  simp only [w1, inB, cond_dec, h1, h2, evs, if_pos (show (k : Int) < s.size by omega), decide_eq_true (show (0 : Int) ≤ k by omega), decide_eq_true (show (k : Int) < s.size by omega), decide_eq_true (show (k : Int) ≤ s.size by omega), decide_eq_true (Int.le_refl 0), Bool.and_self, Int.toNat_natCast, Int.toNat_zero]
  have hx := idxB_neg (s.extract 0 k) (byteAt s k)
  rw [extract_take s k (by omega)] at hx
  cases hl : letterB (byteAt s k) with
  | false => rw [nvB_false (i := k) (by omega) (by unfold nvAt; rw [hl]; rfl)]; rfl
  | true =>
   simp only [Bool.not_true, cond_false]
   by_cases h0 : 0 ≤ idxB (s.extract 0 k) (byteAt s k)
   ·rw [if_pos h0, nvB_false (i := k) (by omega)]
    unfold nvAt
    have : byteAt s k ∈ s.data.toList.take k := by
     refine Classical.byContradiction fun hc => ?_
     have := hx.2 hc; omega
    simp [this]
   ·rw [if_neg h0]
    refine nvI_loop s hs n h1 h2 g d (k + 1) (by omega) (by omega) fun j hj => ?_
    rcases Nat.lt_succ_iff_lt_or_eq.1 hj with hj | rfl
    ·exact ha j hj
    ·unfold nvAt
     have hn : byteAt s j ∉ s.data.toList.take j := hx.1 (by omega)
     rw [hl]; simp only [Bool.true_and, Bool.not_eq_true']
     rw [← Bool.not_eq_true, List.contains_iff_mem]; exact hn
theorem nvS_loop (s : ByteArray) (hs : s.size ≤ 1048577) (n : Nat) (h1 : ∀ c : UInt8, FF n 31 [.one (.int .u8 (c.toNat : Int))] [] = some ([.one (.bool (letterB c))], []))
   (h2 : ∀ (t : ByteArray) (c : UInt8), t.size ≤ s.size → FF n 32 [.one (.str t), .one (.int .u8 (c.toNat : Int))] [] = some ([.one (.int .i64 (findB t c))], [])) :
   ∀ g d k, g < d → k + g = s.size → (∀ j, j < k → nvAt s j = true) → L_spec_NamesValid_0 n d s (k : Int) = some ([.one (.bool (nvB s))], [])
 | g, 0, k, h, _, _ => by omega
 | 0, d + 1, k, _, hk, ha => by
  rw [L_spec_NamesValid_0_eq, nvB_all (fun j hj => ha j (by omega))]
  simp only [cond_dec, if_neg (show ¬ (k : Int) < s.size by omega)]
  have : decide ((s.size : Int) ≤ 20) = decide (s.size ≤ 20) := decide_eq_decide.2 (by omega)
  rw [this]
 | g + 1, d + 1, k, h, hk, ha => by
  rw [L_spec_NamesValid_0_eq]
  have w1 : IntKind.i64.wrap ((k : Int) + 1) = ((k + 1 : Nat) : Int) := wrap64 (by omega)
  simp only [w1, inB, cond_dec, h1, h2 _ _ (show (s.extract 0 k).size ≤ s.size by rw [ByteArray.size_extract]; omega), evs, if_pos (show (k : Int) < s.size by omega), decide_eq_true (show (0 : Int) ≤ k by omega), decide_eq_true (show (k : Int) < s.size by omega), decide_eq_true (show (k : Int) ≤ s.size by omega), decide_eq_true (Int.le_refl 0), Bool.and_self, Int.toNat_natCast, Int.toNat_zero]
  have hx := findB_neg (s.extract 0 k) (byteAt s k)
  rw [extract_take s k (by omega)] at hx
  cases hl : letterB (byteAt s k) with
  | false => rw [nvB_false (i := k) (by omega) (by unfold nvAt; rw [hl]; rfl)]; rfl
  | true =>
   simp only [Bool.not_true, cond_false]
   by_cases h0 : 0 ≤ findB (s.extract 0 k) (byteAt s k)
   ·rw [if_pos h0, nvB_false (i := k) (by omega)]
    unfold nvAt
    have : byteAt s k ∈ s.data.toList.take k := by
     refine Classical.byContradiction fun hc => ?_
     have := hx.2 hc; omega
    simp [this]
   ·rw [if_neg h0]
    refine nvS_loop s hs n h1 h2 g d (k + 1) (by omega) (by omega) fun j hj => ?_
    rcases Nat.lt_succ_iff_lt_or_eq.1 hj with hj | rfl
    ·exact ha j hj
    ·unfold nvAt
     have hn : byteAt s j ∉ s.data.toList.take j := hx.1 (by omega)
     rw [hl]; simp only [Bool.true_and, Bool.not_eq_true']
     rw [← Bool.not_eq_true, List.contains_iff_mem]; exact hn
end Go.Proofs.YtnogehmgpfpjmaaDoor
end
section
namespace Go.Proofs.YtnogehmgpfpjmaaDoor
open Go Go.Ab Go.Dk
abbrev sr (l : List UInt8) : V1 := .one (.str (bytesOf l))
theorem by_size (l : List UInt8) : (bytesOf l).size = l.length := by unfold bytesOf; show l.toArray.size = _; simp
theorem by_toList (l : List UInt8) : (bytesOf l).toList = l := by rw [ByteArray.toList_eq]; rfl
theorem by_app (l m : List UInt8) : bytesOf l ++ bytesOf m = bytesOf (l ++ m) := by unfold bytesOf; apply ByteArray.ext; apply Array.toList_inj.1; simp
theorem by_ext (l : List UInt8) (a b : Nat) : (bytesOf l).extract a b = bytesOf ((l.take b).drop a) := by
 unfold bytesOf; apply ByteArray.ext; apply Array.toList_inj.1
 rw [ByteArray.data_extract, Array.toList_extract]
 simp [List.drop_take]
theorem by_at (l : List UInt8) (i : Nat) : byteAt (bytesOf l) i = (l[i]?).getD 0 := rfl
theorem ne_nil {l : List UInt8} : (l == ([] : List UInt8)) = decide (l = []) := by cases l <;> rfl
section
variable {n : Nat} (l p : List UInt8)
theorem f_HasPrefix (hn : 1 ≤ n) : FF n 102 [sr l, sr p] [] = some ([bl (p.isPrefixOf l)], []) := by
 obtain ⟨n, rfl⟩ := pos_succ (show 0 < n by omega)
 rw [E_stringslite_HasPrefix]
 simp only [by_size]
 by_cases h : p.length ≤ l.length
 ·rw [decide_eq_true (show (p.length : Int) ≤ l.length by omega), cond_true]
  have hin : Go.Ab.inB 0 (p.length : Int) l.length = true := by simp only [inB, Bool.and_eq_true, decide_eq_true_eq]; omega
  rw [hin, cond_true, Int.toNat_natCast, show (0 : Int).toNat = 0 from rfl, by_ext, by_toList, by_toList, List.drop_zero]
  congr 5
  rw [Bool.eq_iff_iff, List.isPrefixOf_iff_prefix, beq_iff_eq, List.prefix_iff_eq_take]
  exact eq_comm
 ·rw [decide_eq_false (show ¬ (p.length : Int) ≤ l.length by omega), cond_false]
  have : p.isPrefixOf l = false := by
   cases h2 : p.isPrefixOf l with
   | false => rfl
   | true => rw [List.isPrefixOf_iff_prefix] at h2; exact absurd h2.length_le h
  rw [this]
def cutP (p l : List UInt8) : Option (List UInt8) := if p.isPrefixOf l = true then some (l.drop p.length) else none
theorem in_pre {p l : List UInt8} (h : p.isPrefixOf l = true) : Go.Ab.inB (p.length : Int) l.length l.length = true := by
 have := (List.isPrefixOf_iff_prefix.1 h).length_le
 simp only [inB, Bool.and_eq_true, decide_eq_true_eq]; omega
theorem f_CutPrefix (hn : 3 ≤ n) : FF n 77 [sr l, sr p] [] = some ([sr ((cutP p l).getD l), bl (cutP p l).isSome], []) := by
 obtain ⟨n, rfl⟩ := pos_succ (show 0 < n by omega)
 rw [E_strings_CutPrefix]
 obtain ⟨n, rfl⟩ := pos_succ (show 0 < n by omega)
 rw [E_stringslite_CutPrefix, f_HasPrefix _ _ (by omega)]
 simp only [evt]
 unfold cutP
 cases h : p.isPrefixOf l with
 | true =>
  simp only [Bool.not_true, cond_false, by_size, in_pre h, cond_true, if_true]
  rw [Int.toNat_natCast, Int.toNat_natCast, by_ext, List.take_length]
  simp only [evt, Option.getD_some, Option.isSome_some]
 | false =>
  simp only [Bool.not_false, cond_true, Bool.false_eq_true, if_false]
  simp only [evt, Option.getD_none, Option.isSome_none]
theorem f_TrimPrefix (hn : 3 ≤ n) : FF n 76 [sr l, sr p] [] = some ([sr ((cutP p l).getD l)], []) := by
 obtain ⟨n, rfl⟩ := pos_succ (show 0 < n by omega)
 rw [E_strings_TrimPrefix]
 obtain ⟨n, rfl⟩ := pos_succ (show 0 < n by omega)
 rw [E_stringslite_TrimPrefix, f_HasPrefix _ _ (by omega)]
 simp only [evt]
 unfold cutP
 cases h : p.isPrefixOf l with
 | true =>
  simp only [by_size, in_pre h, cond_true, if_true]
  rw [Int.toNat_natCast, Int.toNat_natCast, by_ext, List.take_length]
  simp only [evt, Option.getD_some]
 | false =>
  simp only [cond_false, Bool.false_eq_true, if_false]
  simp only [evt, Option.getD_none]
end
theorem cut_nil (l : List UInt8) : cutP [] l = some l := by simp [cutP]
theorem cut_one (c : UInt8) (l : List UInt8) : cutP [c] l = eat c l := by
 cases l with
 | nil => rfl
 | cons x l =>
  unfold cutP eat
  simp only [List.isPrefixOf, Bool.and_true, beq_iff_eq]
  by_cases h : c = x
  ·subst h; simp
  ·rw [if_neg h, if_neg (fun e => h e.symm)]
theorem f_Split {n : Nat} (s : List UInt8) {ps : List (List UInt8)} (hs : shTab.lookup s = some ps) : FF (n + 1) 45 [sr s, .one (.str (bytesOf [46]))] [] = some ([.one (.fr (.ss (ps.map bytesOf)))], []) := by
 have e : FF (n + 1) 45 [sr s, .one (.str (bytesOf [46]))] [] = spP [sr s, .one (.str (bytesOf [46]))] := by kernel_rfl
 rw [e]
 unfold spP
 simp only [by_toList, if_true, hs, Option.bind_some]
theorem f_Itoa {n : Nat} {k : Int} (h0 : 0 ≤ k) (h1 : k ≤ 9223372036854775807) : FF (n + 1) 63 [nt k] [] = some ([sr (Lib.itoa k)], []) := by
 have e : FF (n + 1) 63 [nt k] [] = itP [nt k] := by kernel_rfl
 rw [e]
 unfold itP
 simp only [if_pos (show 0 ≤ k ∧ k ≤ 9223372036854775807 from ⟨h0, h1⟩)]
theorem f_readNumber {n : Nat} {l : List UInt8} (h : l.length ≤ 1073741824) : FF (n + 1) 74 [sr l] [] = some ([nt (rnN l), sr (rnR l)], []) := by
 have e : FF (n + 1) 74 [sr l] [] = rnP [sr l] := by kernel_rfl
 rw [e]
 unfold rnP
 simp only [by_size, if_pos h, by_toList]
theorem fnd_none {c : UInt8} : ∀ {l : List UInt8}, c ∉ l → fnd l c = none
 | [], _ => rfl
 | x :: l, h => by
  rw [fnd, if_neg (fun e => h (by rw [e]; exact List.mem_cons_self ..)), fnd_none (fun hm => h (List.mem_cons_of_mem _ hm))]; rfl
theorem fnd_first {c : UInt8} : ∀ {l : List UInt8} {k : Nat} (h : k < l.length), l[k] = c → (∀ j, j < k → l[j]? ≠ some c) → fnd l c = some k
 | x :: l, 0, h, e, _ => by
  rw [fnd, if_pos (by simpa using e)]
 | x :: l, k + 1, h, e, hn => by
  rw [fnd, if_neg (fun e2 => hn 0 (by omega) (by rw [e2]; rfl)), fnd_first (l := l) (k := k) (by simpa using h) (by simpa using e) (fun j hj => by have := hn (j + 1) (by omega); simpa using this)]; rfl
theorem last_loop (e : List UInt8) (c : UInt8) (he : e.length ≤ 1000) (n : Nat) : ∀ g m, g < m → g ≤ e.length → (∀ k, k < e.length - g → e[k]? ≠ some c) →
   L_bytealg_LastIndexByteString_0 n m (bytesOf e.reverse) (c.toNat : Int) ((g : Int) - 1) = some ([nt (match fnd e c with | some k => (e.length : Int) - 1 - k | none => -1)], [])
 | g, 0, h, _, _ => by omega
 | 0, m + 1, _, _, hno => by
  rw [L_bytealg_LastIndexByteString_0_eq, decide_eq_false (show ¬ (0 : Int) ≤ ((0 : Nat) : Int) - 1 by omega), cond_false]
  have : fnd e c = none := fnd_none fun hm => by
   obtain ⟨k, hk, e1⟩ := List.getElem_of_mem hm
   exact hno k (by omega) (by rw [List.getElem?_eq_getElem hk, e1])
  rw [this]
 | g + 1, m + 1, hg, hl, hno => by
  have hi : ((g + 1 : Nat) : Int) - 1 = (g : Int) := by omega
  have hlt : g < e.reverse.length := by rw [List.length_reverse]; omega
  have hat : (e.reverse)[g]? = e[e.length - 1 - g]? := by rw [List.getElem?_reverse (by omega)]
  have hk : e.length - 1 - g < e.length := by omega
  rw [hi, L_bytealg_LastIndexByteString_0_eq, decide_eq_true (show (0 : Int) ≤ (g : Int) by omega), cond_true, by_size, decide_eq_true (show (g : Int) < ((e.reverse.length : Nat) : Int) by omega)]
  simp only [Bool.and_true, decide_true, cond_true, Int.toNat_natCast, by_at, hat, List.getElem?_eq_getElem hk, Option.getD_some, decide_eq_true (show (0 : Int) ≤ (g : Int) by omega)]
  by_cases hc : e[e.length - 1 - g] = c
  ·rw [hc, decide_eq_true rfl, cond_true]
   have : fnd e c = some (e.length - 1 - g) := fnd_first hk hc fun k hk' => fun e1 => hno k (by omega) e1
   rw [this]
   simp only [nt]
   congr 5; omega
  ·rw [decide_eq_false (show ¬ ((e[e.length - 1 - g].toNat : Int) = (c.toNat : Int)) from fun h => hc (byte_eq.1 h)), cond_false, wrap64 (show -9223372036854775808 ≤ (g : Int) - 1 ∧ (g : Int) - 1 ≤ 9223372036854775807 by omega)]
   exact last_loop e c he n g m (by omega) (by omega) fun k hk2 => by
    by_cases hk3 : k = e.length - 1 - g
    ·subst hk3; rw [List.getElem?_eq_getElem hk]; intro h; injection h with h; exact hc h
    ·exact hno k (by omega)
theorem f_LastIndexByte {n : Nat} (e : List UInt8) (c : UInt8) (he : e.length ≤ 1000) (hn : e.length + 3 ≤ n) : FF n 71 [sr e.reverse, .one (.int .u8 (c.toNat : Int))] [] = some ([nt (match fnd e c with | some k => (e.length : Int) - 1 - k | none => -1)], []) := by
 obtain ⟨n, rfl⟩ := pos_succ (show 0 < n by omega)
 rw [E_strings_LastIndexByte]
 obtain ⟨n, rfl⟩ := pos_succ (show 0 < n by omega)
 rw [E_bytealg_LastIndexByteString, by_size, List.length_reverse, wrap64 (show -9223372036854775808 ≤ (e.length : Int) - 1 ∧ (e.length : Int) - 1 ≤ 9223372036854775807 by omega), last_loop e c he n e.length n (by omega) (Nat.le_refl _) (fun k hk => by omega)]
 simp only [evt]
theorem findB_fnd (e : List UInt8) (c : UInt8) : findB (bytesOf e.reverse) c = (match fnd e c with | some k => (k : Int) | none => -1) := by
 have key : ∀ g, g ≤ e.length → (∀ k, k < e.length - g → e[k]? ≠ some c) → findFrom (bytesOf e.reverse) c g = (match fnd e c with | some k => (k : Int) | none => -1) := by
  intro g
  induction g with
  | zero =>
   intro _ hno
   have : fnd e c = none := fnd_none fun hm => by
    obtain ⟨k, hk, e1⟩ := List.getElem_of_mem hm
    exact hno k (by omega) (by rw [List.getElem?_eq_getElem hk, e1])
   rw [this]; rfl
  | succ g ih =>
   intro hg hno
   have hat : (e.reverse)[g]? = e[e.length - 1 - g]? := by rw [List.getElem?_reverse (by omega)]
   have hk : e.length - 1 - g < e.length := by omega
   rw [findFrom, by_at, hat, List.getElem?_eq_getElem hk, Option.getD_some, by_size, List.length_reverse]
   by_cases hc : e[e.length - 1 - g] = c
   ·rw [if_pos hc, fnd_first hk hc fun k hk' => fun e1 => hno k (by omega) e1]
    show (e.length : Int) - 1 - g = ((e.length - 1 - g : Nat) : Int)
    omega
   ·rw [if_neg hc]
    exact ih (by omega) fun k hk2 => by
     by_cases hk3 : k = e.length - 1 - g
     ·subst hk3; rw [List.getElem?_eq_getElem hk]; intro h; injection h with h; exact hc h
     ·exact hno k (by omega)
 have := key e.length (Nat.le_refl _) (fun k hk => by omega)
 unfold findB
 rw [by_size, List.length_reverse]; exact this
end Go.Proofs.YtnogehmgpfpjmaaDoor
end
section
namespace Go.Proofs.YtnogehmgpfpjmaaDoor
open Go Go.Ab Go.Dk
def numI (s : List UInt8) : Option (T × List UInt8) := if 0 ≤ rnN s ∧ rnR s = (cutP (Lib.itoa (rnN s)) s).getD s then some (.mk 2 (rnN s) [], rnR s) else none
def rdI : Nat → List UInt8 → List UInt8 → Option (T × List UInt8)
 | 0, _, _ => none
 | _ + 1, _, [] => none
 | d + 1, env, c :: s =>
  if letB c = true then (fnd env c).map fun k => (.mk 1 k [], s)
  else if c = 42 then numI s
  else if c = 78 then some (.mk 6 0 [], s)
  else if c = 48 then some (.mk 7 0 [], s)
  else if c = 43 then (rdI d env s).map fun x => (.mk 8 0 [x.1], x.2)
  else if c = 33 then (rdI d env s).map fun x => (.mk 11 0 [x.1], x.2)
  else if c = 94 then (rdI d env s).map fun x => (.mk 15 0 [x.1], x.2)
  else if c = 95 then (rdI d env s).map fun x => (.mk 16 0 [x.1], x.2)
  else if c = 40 then (match bnd s with
   | some (x, s) => (rdI d env s).bind fun a => (match a.2 with
    | y :: r => if y = 62 then (rdI d (x :: env) r).bind fun b => (eat 41 b.2).map fun r => (.mk 3 0 [a.1, b.1], r)
     else if y = 42 then (rdI d (x :: env) r).bind fun b => (eat 41 b.2).map fun r => (.mk 13 0 [a.1, b.1], r) else none
    | [] => none)
   | none => (rdI d env s).bind fun a => (eat 32 a.2).bind fun r => (rdI d env r).bind fun b => (eat 41 b.2).map fun r => (.mk 5 0 [a.1, b.1], r))
  else if c = 91 then (bnd s).bind fun x => (rdI d env x.2).bind fun a => (eat 93 a.2).bind fun r => (rdI d (x.1 :: env) r).map fun b => (.mk 4 0 [a.1, b.1], b.2)
  else if c = 60 then (rdS (rdI d env) 62 4 s).map fun y => (.mk 9 0 y.1, y.2)
  else if c = 123 then (rdS (rdI d env) 125 3 s).map fun y => (.mk 10 0 y.1, y.2)
  else if c = 124 then (rdS (rdI d env) 124 3 s).map fun y => (.mk 14 0 y.1, y.2)
  else if c = 64 then (eat 60 s).bind fun s => (rdS (rdI d env) 62 3 s).map fun y => (.mk 12 0 y.1, y.2)
  else none
mutual
def smT : T → Bool
 | .mk k n ts => (!decide (k = 1) || decide (n ≤ 20)) && ((!decide (k = 2) || decide (n ≤ 9)) && smL ts)
def smL : List T → Bool
 | [] => true
 | t :: ts => smT t && smL ts
end
def grd (o : Option (T × List UInt8)) : Option (T × List UInt8) := o.bind fun x => if smT x.1 = true then some x else none
def grdL (o : Option (List T × List UInt8)) : Option (List T × List UInt8) := o.bind fun x => if smL x.1 = true then some x else none
theorem dgs_stop {x : UInt8} {r : List UInt8} (hx : digB x = true) (hr : dhead r = false) : dgs (x :: r) = [x] ∧ (x :: r).dropWhile digB = r := by
 have hr' : r.takeWhile digB = [] ∧ r.dropWhile digB = r := by
  cases r with
  | nil => exact ⟨rfl, rfl⟩
  | cons y r => have : digB y = false := hr; simp [this]
 unfold dgs
 simp [hx, hr'.1, hr'.2]
theorem dig_cases {x : UInt8} (h : digB x = true) : x = 48 ∨ x = 49 ∨ x = 50 ∨ x = 51 ∨ x = 52 ∨ x = 53 ∨ x = 54 ∨ x = 55 ∨ x = 56 ∨ x = 57 := by
 simp only [digB, Bool.and_eq_true, decide_eq_true_eq] at h
 have e : x = UInt8.ofNat x.toNat := by simp
 have : x.toNat = 48 ∨ x.toNat = 49 ∨ x.toNat = 50 ∨ x.toNat = 51 ∨ x.toNat = 52 ∨ x.toNat = 53 ∨ x.toNat = 54 ∨ x.toNat = 55 ∨ x.toNat = 56 ∨ x.toNat = 57 := by omega
 rcases this with h | h | h | h | h | h | h | h | h | h <;> rw [h] at e <;> subst e <;> decide
theorem atoi_one {x : UInt8} (h : digB x = true) : Lib.atoiAll [x] = .ok ((x.toNat : Int) - 48) := by
 rcases dig_cases h with h | h | h | h | h | h | h | h | h | h <;> subst h <;> rfl
theorem itoa_one {x : UInt8} (h : digB x = true) : Lib.itoa ((x.toNat : Int) - 48) = [x] := by
 rcases dig_cases h with h | h | h | h | h | h | h | h | h | h <;> subst h <;> decide +kernel
theorem dw_len (p : UInt8 → Bool) : ∀ l : List UInt8, (l.dropWhile p).length ≤ l.length
 | [] => Nat.le_refl _
 | x :: l => by
  have := dw_len p l
  rw [List.dropWhile_cons]
  split <;> simp <;> omega
theorem num_grd (s : List UInt8) : rdNum s = grd (numI s) := by
 cases s with
 | nil => rfl
 | cons x r =>
  cases hx : digB x with
  | false =>
   have h1 : rnN (x :: r) = -1 := by
    unfold rnN dgs
    simp only [List.takeWhile_cons, hx, Bool.false_eq_true, if_false]; rfl
   simp only [rdNum, hx, Bool.false_eq_true, false_and, if_false, numI, h1]
   rfl
  | true =>
   cases hr : dhead r with
   | false =>
    obtain ⟨h1, h2⟩ := dgs_stop hx hr
    have e1 : rnN (x :: r) = (x.toNat : Int) - 48 := by unfold rnN; rw [h1, atoi_one hx]
    have e2 : rnR (x :: r) = r := by unfold rnR; rw [h1, atoi_one hx]; exact h2
    have hx' := hx
    simp only [digB, Bool.and_eq_true, decide_eq_true_eq] at hx'
    simp only [rdNum, hx, hr, and_self, if_true, numI, e1, e2, itoa_one hx, cut_one, eat, Option.getD_some]
    rw [if_pos (by exact ⟨by omega, trivial⟩)]
    show _ = (if smT (.mk 2 ((x.toNat : Int) - 48) []) = true then _ else _)
    rw [if_pos]
    simp only [smT, smL, Bool.and_true, Bool.and_eq_true, Bool.or_eq_true, decide_eq_true_eq, Bool.not_eq_true', decide_eq_false_iff_not]
    omega
   | true =>
    simp only [rdNum, hx, hr, Bool.true_eq_false, and_false, if_false]
    symm
    unfold grd numI
    split
    ·rename_i hn
     obtain ⟨h0, h1⟩ := hn
     show (if smT (.mk 2 (rnN (x :: r)) []) = true then _ else _) = none
     rw [if_neg]
     intro hs
     simp only [smT, smL, Bool.and_true, Bool.and_eq_true, Bool.or_eq_true, decide_eq_true_eq, Bool.not_eq_true', decide_eq_false_iff_not] at hs
     have h9 : rnN (x :: r) ≤ 9 := by
      rcases hs.2 with h | h
      ·exact absurd trivial h
      ·exact h
     obtain ⟨y, hy, hyd⟩ : ∃ y : UInt8, rnN (x :: r) = (y.toNat : Int) - 48 ∧ digB y = true := by
      generalize rnN (x :: r) = k at h0 h9
      have : k = 0 ∨ k = 1 ∨ k = 2 ∨ k = 3 ∨ k = 4 ∨ k = 5 ∨ k = 6 ∨ k = 7 ∨ k = 8 ∨ k = 9 := by omega
      rcases this with h | h | h | h | h | h | h | h | h | h <;> subst h
      ·exact ⟨48, rfl, rfl⟩
      ·exact ⟨49, rfl, rfl⟩
      ·exact ⟨50, rfl, rfl⟩
      ·exact ⟨51, rfl, rfl⟩
      ·exact ⟨52, rfl, rfl⟩
      ·exact ⟨53, rfl, rfl⟩
      ·exact ⟨54, rfl, rfl⟩
      ·exact ⟨55, rfl, rfl⟩
      ·exact ⟨56, rfl, rfl⟩
      ·exact ⟨57, rfl, rfl⟩
     rw [hy, itoa_one hyd, cut_one] at h1
     have hlen : (rnR (x :: r)).length < r.length := by
      have hd : (x :: r).dropWhile digB = r.dropWhile digB := by simp [hx]
      cases r with
      | nil => cases hr
      | cons z r =>
       have hz : digB z = true := hr
       unfold rnR
       split
       ·rw [hd, List.dropWhile_cons, if_pos hz]
        have := dw_len digB r
        simp; omega
       ·simp
     rw [h1] at hlen
     have he : eat y (x :: r) = if x = y then some r else none := rfl
     rw [he] at hlen
     split at hlen
     ·simp at hlen
     ·simp at hlen; omega
    ·rfl
theorem rdS_grd {p q : List UInt8 → Option (T × List UInt8)} (h : ∀ s, p s = grd (q s)) (last : UInt8) : ∀ n s, rdS p last n s = grdL (rdS q last n s)
 | 0, s => rfl
 | n + 1, s => by
  rw [rdS, rdS, h s]
  cases hq : q s with
  | none => rfl
  | some x =>
   obtain ⟨t, r⟩ := x
   simp only [grd, Option.bind_some]
   cases ht : smT t with
   | false =>
    simp only [Bool.false_eq_true, if_false, Option.bind_none]
    cases he : eat (if n = 0 then last else 44) r with
    | none => rfl
    | some r2 =>
     simp only [Option.bind_some]
     cases hr : rdS q last n r2 with
     | none => rfl
     | some y => simp [grdL, smL, ht]
   | true =>
    simp only [if_true, Option.bind_some]
    cases he : eat (if n = 0 then last else 44) r with
    | none => rfl
    | some r2 =>
     simp only [Option.bind_some]
     rw [rdS_grd h last n r2]
     cases hr : rdS q last n r2 with
     | none => rfl
     | some y =>
      cases hy : smL y.1 <;> simp [grdL, smL, ht, hy]
theorem sm_one (k : Int) (a : T) (h1 : k ≠ 1) (h2 : k ≠ 2) : smT (.mk k 0 [a]) = smT a := by simp [smT, smL, h1, h2]
theorem sm_two (k : Int) (a b : T) (h1 : k ≠ 1) (h2 : k ≠ 2) : smT (.mk k 0 [a, b]) = (smT a && smT b) := by simp [smT, smL, h1, h2]
theorem sm_list (k : Int) (l : List T) (h1 : k ≠ 1) (h2 : k ≠ 2) : smT (.mk k 0 l) = smL l := by simp [smT, h1, h2]
theorem grd_map1 (k : Int) (h1 : k ≠ 1) (h2 : k ≠ 2) (o : Option (T × List UInt8)) : (grd o).map (fun x => (T.mk k 0 [x.1], x.2)) = grd (o.map fun x => (T.mk k 0 [x.1], x.2)) := by
 cases o with
 | none => rfl
 | some x => simp only [grd, Option.bind_some, Option.map_some, sm_one k x.1 h1 h2]; split <;> rfl
theorem grd_mapL (k : Int) (h1 : k ≠ 1) (h2 : k ≠ 2) (o : Option (List T × List UInt8)) : (grdL o).map (fun x => (T.mk k 0 x.1, x.2)) = grd (o.map fun x => (T.mk k 0 x.1, x.2)) := by
 cases o with
 | none => rfl
 | some x => simp only [grd, grdL, Option.bind_some, Option.map_some, sm_list k x.1 h1 h2]; split <;> rfl
theorem grd_two (k : Int) (h1 : k ≠ 1) (h2 : k ≠ 2) (o : Option (T × List UInt8)) (q : List UInt8 → Option (List UInt8)) (p : List UInt8 → Option (T × List UInt8)) (e : List UInt8 → Option (List UInt8)) :
   ((grd o).bind fun a => (q a.2).bind fun r => (grd (p r)).bind fun b => (e b.2).map fun r => (T.mk k 0 [a.1, b.1], r)) = grd (o.bind fun a => (q a.2).bind fun r => (p r).bind fun b => (e b.2).map fun r => (T.mk k 0 [a.1, b.1], r)) := by
 cases o with
 | none => rfl
 | some a =>
  obtain ⟨a, s⟩ := a
  simp only [grd, Option.bind_some]
  cases ha : smT a with
  | false =>
   simp only [Bool.false_eq_true, if_false, Option.bind_none]
   cases hq : q s with
   | none => rfl
   | some r =>
    simp only [Option.bind_some]
    cases hp : p r with
    | none => rfl
    | some b =>
     simp only [Option.bind_some]
     cases he : e b.2 with
     | none => rfl
     | some r2 => simp [sm_two k a b.1 h1 h2, ha]
  | true =>
   simp only [if_true, Option.bind_some]
   cases hq : q s with
   | none => rfl
   | some r =>
    simp only [Option.bind_some]
    cases hp : p r with
    | none => rfl
    | some b =>
     simp only [Option.bind_some]
     cases hb : smT b.1 with
     | false =>
      simp only [Bool.false_eq_true, if_false, Option.bind_none]
      cases he : e b.2 with
      | none => rfl
      | some r2 => simp [sm_two k a b.1 h1 h2, hb]
     | true =>
      simp only [if_true, Option.bind_some]
      cases he : e b.2 with
      | none => rfl
      | some r2 => simp [sm_two k a b.1 h1 h2, ha, hb]
theorem rd_grd : ∀ (d : Nat) (env s : List UInt8), rdN d env s = grd (rdI d env s)
 | 0, _, _ => rfl
 | _ + 1, _, [] => rfl
 | d + 1, env, c :: s => by
  rw [rdN, rdI]
  by_cases h0 : letB c = true
  ·rw [if_pos h0, if_pos h0]
   cases fnd env c with
   | none => rfl
   | some k =>
    show (if k ≤ 20 then _ else _) = (if smT (.mk 1 (k : Int) []) = true then _ else _)
    have : (smT (.mk 1 (k : Int) []) = true) ↔ k ≤ 20 := by simp [smT, smL]; omega
    by_cases h : k ≤ 20
    ·rw [if_pos h, if_pos (this.2 h)]
    ·rw [if_neg h, if_neg (fun e => h (this.1 e))]
  rw [if_neg h0, if_neg h0]
  by_cases h1 : c = 42
  ·rw [if_pos h1, if_pos h1]
   exact num_grd s
  rw [if_neg h1, if_neg h1]
  by_cases h2 : c = 78
  ·rw [if_pos h2, if_pos h2]
   rfl
  rw [if_neg h2, if_neg h2]
  by_cases h3 : c = 48
  ·rw [if_pos h3, if_pos h3]
   rfl
  rw [if_neg h3, if_neg h3]
  by_cases h4 : c = 43
  ·rw [if_pos h4, if_pos h4]
   rw [rd_grd d]; exact grd_map1 8 (by decide) (by decide) _
  rw [if_neg h4, if_neg h4]
  by_cases h5 : c = 33
  ·rw [if_pos h5, if_pos h5]
   rw [rd_grd d]; exact grd_map1 11 (by decide) (by decide) _
  rw [if_neg h5, if_neg h5]
  by_cases h6 : c = 94
  ·rw [if_pos h6, if_pos h6]
   rw [rd_grd d]; exact grd_map1 15 (by decide) (by decide) _
  rw [if_neg h6, if_neg h6]
  by_cases h7 : c = 95
  ·rw [if_pos h7, if_pos h7]
   rw [rd_grd d]; exact grd_map1 16 (by decide) (by decide) _
  rw [if_neg h7, if_neg h7]
  by_cases h8 : c = 40
  ·rw [if_pos h8, if_pos h8]
   cases hb : bnd s with
   | none =>
    simp only [rd_grd d]
    exact grd_two 5 (by decide) (by decide) (rdI d env s) (eat 32) (rdI d env) (eat 41)
   | some x =>
    obtain ⟨x, s⟩ := x
    simp only [rd_grd d]
    cases ho : rdI d env s with
    | none => rfl
    | some a =>
     obtain ⟨a, s2⟩ := a
     cases s2 with
     | nil => simp only [grd, Option.bind_some]; split <;> rfl
     | cons y r =>
      by_cases h1 : y = 62
      ·subst h1
       have := grd_two 3 (by decide) (by decide) (some (a, 62 :: r)) (eat 62) (rdI d (x :: env)) (eat 41)
       simp only [Option.bind_some, eat, if_true] at this ⊢
       rw [← this]
       simp only [grd, Option.bind_some]
       split <;> rfl
      ·by_cases h2 : y = 42
       ·subst h2
        have := grd_two 13 (by decide) (by decide) (some (a, 42 :: r)) (eat 42) (rdI d (x :: env)) (eat 41)
        simp only [Option.bind_some, eat, if_true, show ¬ ((42 : UInt8) = 62) from by decide, if_false] at this ⊢
        rw [← this]
        simp only [grd, Option.bind_some]
        split <;> rfl
       ·simp only [grd, Option.bind_some, if_neg h1, if_neg h2, Option.bind_none]
        split <;> simp [h1, h2]
  rw [if_neg h8, if_neg h8]
  by_cases h9 : c = 91
  ·rw [if_pos h9, if_pos h9]
   cases hb : bnd s with
   | none => rfl
   | some x =>
    simp only [Option.bind_some, rd_grd d]
    have := grd_two 4 (by decide) (by decide) (rdI d env x.2) (eat 93) (rdI d (x.1 :: env)) some
    simp only [Option.map_some] at this
    simp only [Option.map_eq_bind, Function.comp_def]
    exact this
  rw [if_neg h9, if_neg h9]
  by_cases h10 : c = 60
  ·rw [if_pos h10, if_pos h10]
   rw [rdS_grd (rd_grd d env)]; exact grd_mapL 9 (by decide) (by decide) _
  rw [if_neg h10, if_neg h10]
  by_cases h11 : c = 123
  ·rw [if_pos h11, if_pos h11]
   rw [rdS_grd (rd_grd d env)]; exact grd_mapL 10 (by decide) (by decide) _
  rw [if_neg h11, if_neg h11]
  by_cases h12 : c = 124
  ·rw [if_pos h12, if_pos h12]
   rw [rdS_grd (rd_grd d env)]; exact grd_mapL 14 (by decide) (by decide) _
  rw [if_neg h12, if_neg h12]
  by_cases h13 : c = 64
  ·rw [if_pos h13, if_pos h13]
   cases eat 60 s with
   | none => rfl
   | some s =>
    simp only [Option.bind_some]
    rw [rdS_grd (rd_grd d env)]; exact grd_mapL 12 (by decide) (by decide) _
  rw [if_neg h13, if_neg h13]
  rfl
mutual
theorem sm_shape : ∀ (t : T) (g : Nat), shapeF t g = true → smT t = true
 | .mk k n ts, g, h => by
  simp only [shapeF, Bool.and_eq_true, decide_eq_true_eq] at h
  obtain ⟨h1, h2, h3, h4⟩ := h
  simp only [smT, Bool.and_eq_true, Bool.or_eq_true, Bool.not_eq_true', decide_eq_false_iff_not, decide_eq_true_eq]
  refine ⟨?_, ?_, smL_shape ts _ h4⟩
  ·by_cases hk : k = 1
   ·subst hk; right; rw [show mostOf 1 = 20 from rfl] at h3; omega
   ·exact .inl hk
  ·by_cases hk : k = 2
   ·subst hk; right; rw [show mostOf 2 = 3 from rfl] at h3; omega
   ·exact .inl hk
theorem smL_shape : ∀ (ts : List T) (g : Nat), shapeL ts g = true → smL ts = true
 | [], _, _ => rfl
 | t :: ts, g, h => by
  simp only [shapeL, Bool.and_eq_true] at h
  simp only [smL, sm_shape t g h.1, smL_shape ts g h.2, Bool.and_self]
end
def psR (s env : List UInt8) : T × Bool := match rdN 30 env s with
 | some (t, []) => if validB t = true then (t, true) else (.mk 0 0 [], false)
 | _ => (.mk 0 0 [], false)
theorem psR_I (s env : List UInt8) : psR s env = (match rdI 30 env s with
 | some (t, []) => if validB t = true then (t, true) else (.mk 0 0 [], false)
 | _ => (.mk 0 0 [], false)) := by
 unfold psR
 rw [rd_grd]
 cases h : rdI 30 env s with
 | none => rfl
 | some x =>
  obtain ⟨t, r⟩ := x
  simp only [grd, Option.bind_some]
  cases hs : smT t with
  | true => simp
  | false =>
   have hv : validB t ≠ true := fun hv => by
    unfold validB at hv
    rw [Bool.and_eq_true] at hv
    rw [sm_shape t 30 hv.1] at hs; cases hs
   simp only [Bool.false_eq_true, if_false]
   cases r with
   | nil => simp [hv]
   | cons _ _ => rfl
end Go.Proofs.YtnogehmgpfpjmaaDoor
end
