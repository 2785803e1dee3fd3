/- Part 4 of the proof. -/
import Derived.Test.YtnogehmgpfpjmaaDoorS01
import Derived.Test.YtnogehmgpfpjmaaDoorS02
import Derived.Test.YtnogehmgpfpjmaaDoorS03
import Derived.ChangeArms
import Derived.Deep.Slices
import Derived.Deep.Strs
import Derived.WalkKit
import Derived.ProofKit
import Derived.OpenShut
import Derived.ShutString
import Derived.ChangeOld
import Derived.Below
import Derived.Shelf.Strconv.Itoa3
import Derived.Shelf.Strconv.AtoiAll
import Derived.Shelf.Strings.Split
import Derived.Test.YtnogehmgpfpjmaaDoorProg
import Derived.Stop.IfaceNil
import Derived.Lib.SmallJoins
import Derived.Lib.LaidTab
set_option linter.unusedVariables false
set_option linter.unusedSimpArgs false
section
namespace Go.Proofs.YtnogehmgpfpjmaaDoor
open Go Go.Ab Go.Dk
theorem E_spec_ShowNamed (n : Nat) (v0 v1 : Int) (v2 : List T) (v3 : ByteArray) : FF (n + 1) 6 [.agg [.int .i64 v0, .int .i64 v1, .fr (.ts v2)], .one (.str v3)] [] =
 ((FF n 13 [.agg [.int .i64 v0, .int .i64 v1, .fr (.ts v2)]] []).bind fun x0 =>
 (rBool x0.1 fun x1 x2 =>
 (nilV x2 (nilO x0.2
 (cond (!x1)
 (some ([.one (.str (bytesOf []))], []))
 ((FF n 14 [.one (.str v3)] []).bind fun x3 =>
 (rBool x3.1 fun x4 x5 =>
 (nilV x5 (nilO x3.2
 (cond (!x4)
 (some ([.one (.str (bytesOf []))], []))
 ((FF n 15 [.agg [.int .i64 v0, .int .i64 v1, .fr (.ts v2)]] []).bind fun x6 =>
 (rInt .i64 x6.1 fun x7 x8 =>
 (nilV x8 (nilO x6.2
 (cond (decide ((v3.size : Int) < x7))
 (some ([.one (.str (bytesOf []))], []))
 ((FF n 16 [.agg [.int .i64 v0, .int .i64 v1, .fr (.ts v2)]] []).bind fun x9 =>
 (rInt .i64 x9.1 fun x10 x11 =>
 (nilV x11 (nilO x9.2
 (cond (decide (20 < (IntKind.i64.wrap (x10 + (v3.size : Int)))))
 (some ([.one (.str (bytesOf []))], []))
 ((FF n 17 [.agg [.int .i64 v0, .int .i64 v1, .fr (.ts v2)], .one (.str v3)] []).bind fun x12 =>
 (rStr x12.1 fun x13 x14 =>
 (nilV x14 (nilO x12.2
 (some ([.one (.str x13)], [])))))))))))))))))))))))))) := by kernel_rfl
theorem E_impl_ShowNamed (n : Nat) (v0 v1 : Int) (v2 : List T) (v3 : ByteArray) : FF (n + 1) 8 [.agg [.int .i64 v0, .int .i64 v1, .fr (.ts v2)], .one (.str v3)] [] =
 ((FF n 19 [.agg [.int .i64 v0, .int .i64 v1, .fr (.ts v2)]] []).bind fun x0 =>
 (rBool x0.1 fun x1 x2 =>
 (nilV x2 (nilO x0.2
 (cond (!x1)
 (some ([.one (.str (bytesOf []))], []))
 ((FF n 20 [.one (.str v3)] []).bind fun x3 =>
 (rBool x3.1 fun x4 x5 =>
 (nilV x5 (nilO x3.2
 (cond (!x4)
 (some ([.one (.str (bytesOf []))], []))
 ((FF n 21 [.agg [.int .i64 v0, .int .i64 v1, .fr (.ts v2)]] []).bind fun x6 =>
 (rInt .i64 x6.1 fun x7 x8 =>
 (nilV x8 (nilO x6.2
 (cond (decide ((v3.size : Int) < x7))
 (some ([.one (.str (bytesOf []))], []))
 ((FF n 22 [.agg [.int .i64 v0, .int .i64 v1, .fr (.ts v2)]] []).bind fun x9 =>
 (rInt .i64 x9.1 fun x10 x11 =>
 (nilV x11 (nilO x9.2
 (cond (decide (20 < (IntKind.i64.wrap ((v3.size : Int) + x10))))
 (some ([.one (.str (bytesOf []))], []))
 ((FF n 23 [.agg [.int .i64 v0, .int .i64 v1, .fr (.ts v2)], .one (.str v3)] []).bind fun x12 =>
 (rStr x12.1 fun x13 x14 =>
 (nilV x14 (nilO x12.2
 (some ([.one (.str x13)], [])))))))))))))))))))))))))) := by kernel_rfl
theorem E_spec_TermValid (n : Nat) (v0 v1 : Int) (v2 : List T) : FF (n + 1) 13 [.agg [.int .i64 v0, .int .i64 v1, .fr (.ts v2)]] [] =
 ((FF n 29 [.agg [.int .i64 v0, .int .i64 v1, .fr (.ts v2)], .one (.int .i64 30)] []).bind fun x0 =>
 (rBool x0.1 fun x1 x2 =>
 (nilV x2 (nilO x0.2
 (cond x1
 ((FF n 30 [.agg [.int .i64 v0, .int .i64 v1, .fr (.ts v2)], .one (.int .i64 400)] []).bind fun x3 =>
 (rInt .i64 x3.1 fun x4 x5 =>
 (nilV x5 (nilO x3.2
 (some ([.one (.bool (decide (x4 ≤ 400)))], []))))))
 (some ([.one (.bool false)], []))))))) := by kernel_rfl
noncomputable def L_spec_NamesValid_0 (n c : Nat) (v0 : ByteArray) (v1 : Int) : OR := runLoop Tryd.prog SS n 14 0 [1, 0, 1, 0] [] c ⟨[.v (.one (.str v0)), anyV, anyV, .v (.one (.int .i64 v1)), anyV, anyV, anyV, anyV, anyV, anyV, anyV, anyV, anyV, anyV, anyV, anyV, anyV, anyV, anyV, anyV, anyV, anyV, anyV, anyV, anyV, anyV, anyV, anyV],
 []⟩
theorem L_spec_NamesValid_0_eq (n c : Nat) (v0 : ByteArray) (v1 : Int) : L_spec_NamesValid_0 n (c + 1) v0 v1 =
 (cond (decide (v1 < (v0.size : Int)))
 (cond (decide (0 ≤ v1) && decide (v1 < ((v0.size : Nat) : Int)))
 ((FF n 31 [.one (.int .u8 ((byteAt v0 (v1 : Int).toNat).toNat : Int))] []).bind fun x0 =>
 (rBool x0.1 fun x1 x2 =>
 (nilV x2 (nilO x0.2
 (cond (!x1)
 (some ([.one (.bool false)], []))
 (cond (Go.Ab.inB 0 v1 v0.size)
 (cond (decide (0 ≤ v1) && decide (v1 < ((v0.size : Nat) : Int)))
 ((FF n 32 [.one (.str (v0.extract (0 : Int).toNat (v1 : Int).toNat)), .one (.int .u8 ((byteAt v0 (v1 : Int).toNat).toNat : Int))] []).bind fun x3 =>
 (rInt .i64 x3.1 fun x4 x5 =>
 (nilV x5 (nilO x3.2
 (cond (decide (0 ≤ x4))
 (some ([.one (.bool false)], []))
 (L_spec_NamesValid_0 n c v0 (IntKind.i64.wrap (v1 + 1))))))))
 none)
 none))))))
 none)
 (some ([.one (.bool (decide ((v0.size : Int) ≤ 20)))], []))) := by kernel_rfl
theorem E_spec_NamesValid (n : Nat) (v0 : ByteArray) : FF (n + 1) 14 [.one (.str v0)] [] =
 L_spec_NamesValid_0 n n v0 0 := by kernel_rfl
theorem E_spec_MaxFree (n : Nat) (v0 v1 : Int) (v2 : List T) : FF (n + 1) 15 [.agg [.int .i64 v0, .int .i64 v1, .fr (.ts v2)]] [] =
 ((FF n 13 [.agg [.int .i64 v0, .int .i64 v1, .fr (.ts v2)]] []).bind fun x0 =>
 (rBool x0.1 fun x1 x2 =>
 (nilV x2 (nilO x0.2
 (cond (!x1)
 (some ([.one (.int .i64 (-1))], []))
 ((FF n 33 [.agg [.int .i64 v0, .int .i64 v1, .fr (.ts v2)], .one (.int .i64 0)] []).bind fun x3 =>
 (rInt .i64 x3.1 fun x4 x5 =>
 (nilV x5 (nilO x3.2
 (some ([.one (.int .i64 x4)], []))))))))))) := by kernel_rfl
noncomputable def L_spec_l6Deep_0 (n c : Nat) (v0 v1 v2 v3 : Int) (v4 : List T) : OR := runLoop Tryd.prog SS n 16 0 [1, 1, 0, 1, 0] [] c ⟨[anyV, .v (.one (.ptr 0 0)), anyV, .v (.one (.int .i64 v0)), .v (.one (.int .i64 v1)), anyV, anyV, anyV, anyV, anyV, anyV, anyV, anyV, anyV, anyV, anyV, anyV, anyV, anyV, anyV, anyV, anyV, anyV, anyV, anyV, anyV, anyV, anyV, anyV],
 [.cells [.int .i64 v2, .int .i64 v3, .fr (.ts v4)]]⟩
theorem L_spec_l6Deep_0_eq (n c : Nat) (v0 v1 v2 v3 : Int) (v4 : List T) : L_spec_l6Deep_0 n (c + 1) v0 v1 v2 v3 v4 =
 (cond (decide (v1 < (v4.length : Int)))
 (cond (decide (0 ≤ v1))
 (v4[(v1 : Int).toNat]?.bind fun x0 =>
 ((FF n 16 [.agg [.int .i64 x0.k, .int .i64 x0.n, .fr (.ts x0.kids)]] []).bind fun x1 =>
 (rInt .i64 x1.1 fun x2 x3 =>
 (nilV x3 (nilO x1.2
 ((FF n 34 [.one (.int .i64 v2), .one (.int .i64 v1)] []).bind fun x4 =>
 (rInt .i64 x4.1 fun x5 x6 =>
 (nilV x6 (nilO x4.2
 (cond (decide (v0 < (IntKind.i64.wrap (x2 + x5))))
 (L_spec_l6Deep_0 n c (IntKind.i64.wrap (x2 + x5)) (IntKind.i64.wrap (v1 + 1)) v2 v3 v4)
 (L_spec_l6Deep_0 n c v0 (IntKind.i64.wrap (v1 + 1)) v2 v3 v4)))))))))))
 none)
 (some ([.one (.int .i64 v0)], []))) := by kernel_rfl
theorem E_spec_l6Deep (n : Nat) (v0 v1 : Int) (v2 : List T) : FF (n + 1) 16 [.agg [.int .i64 v0, .int .i64 v1, .fr (.ts v2)]] [] =
 L_spec_l6Deep_0 n n 0 0 v0 v1 v2 := by kernel_rfl
theorem E_spec_l6Show (n : Nat) (v0 v1 : Int) (v2 : List T) (v3 : ByteArray) : FF (n + 1) 17 [.agg [.int .i64 v0, .int .i64 v1, .fr (.ts v2)], .one (.str v3)] [] =
 (cond (decide (v0 = 1))
 (cond (Go.Ab.inB (IntKind.i64.wrap ((IntKind.i64.wrap ((v3.size : Int) - 1)) - v1)) (IntKind.i64.wrap ((IntKind.i64.wrap ((IntKind.i64.wrap ((v3.size : Int) - 1)) - v1)) + 1)) v3.size)
 (some ([.one (.str (v3.extract ((IntKind.i64.wrap ((IntKind.i64.wrap ((v3.size : Int) - 1)) - v1)) : Int).toNat ((IntKind.i64.wrap ((IntKind.i64.wrap ((IntKind.i64.wrap ((v3.size : Int) - 1)) - v1)) + 1)) : Int).toNat))], []))
 none)
 (cond (decide (v0 = 4))
 ((FF n 35 [.agg [.int .i64 v0, .int .i64 v1, .fr (.ts v2)], .one (.str v3)] []).bind fun x0 =>
 (rStr x0.1 fun x1 x2 =>
 (nilV x2 (nilO x0.2
 (some ([.one (.str x1)], []))))))
 (cond (decide (v0 = 3))
 ((FF n 35 [.agg [.int .i64 v0, .int .i64 v1, .fr (.ts v2)], .one (.str v3)] []).bind fun x0 =>
 (rStr x0.1 fun x1 x2 =>
 (nilV x2 (nilO x0.2
 (some ([.one (.str x1)], []))))))
 (cond (decide (v0 = 13))
 ((FF n 35 [.agg [.int .i64 v0, .int .i64 v1, .fr (.ts v2)], .one (.str v3)] []).bind fun x0 =>
 (rStr x0.1 fun x1 x2 =>
 (nilV x2 (nilO x0.2
 (some ([.one (.str x1)], []))))))
 (cond (decide (v0 = 8))
 (v2[(0 : Int).toNat]?.bind fun x0 =>
 ((FF n 17 [.agg [.int .i64 x0.k, .int .i64 x0.n, .fr (.ts x0.kids)], .one (.str v3)] []).bind fun x1 =>
 (rStr x1.1 fun x2 x3 =>
 (nilV x3 (nilO x1.2
 (cond (decide ((bytesOf [43]).size + x2.size ≤ 9223372036854775807))
 (some ([.one (.str ((bytesOf [43]) ++ x2))], []))
 none))))))
 (cond (decide (v0 = 11))
 (v2[(0 : Int).toNat]?.bind fun x0 =>
 ((FF n 17 [.agg [.int .i64 x0.k, .int .i64 x0.n, .fr (.ts x0.kids)], .one (.str v3)] []).bind fun x1 =>
 (rStr x1.1 fun x2 x3 =>
 (nilV x3 (nilO x1.2
 (cond (decide ((bytesOf [33]).size + x2.size ≤ 9223372036854775807))
 (some ([.one (.str ((bytesOf [33]) ++ x2))], []))
 none))))))
 (cond (decide (v0 = 15))
 (v2[(0 : Int).toNat]?.bind fun x0 =>
 ((FF n 17 [.agg [.int .i64 x0.k, .int .i64 x0.n, .fr (.ts x0.kids)], .one (.str v3)] []).bind fun x1 =>
 (rStr x1.1 fun x2 x3 =>
 (nilV x3 (nilO x1.2
 (cond (decide ((bytesOf [94]).size + x2.size ≤ 9223372036854775807))
 (some ([.one (.str ((bytesOf [94]) ++ x2))], []))
 none))))))
 (cond (decide (v0 = 16))
 (v2[(0 : Int).toNat]?.bind fun x0 =>
 ((FF n 17 [.agg [.int .i64 x0.k, .int .i64 x0.n, .fr (.ts x0.kids)], .one (.str v3)] []).bind fun x1 =>
 (rStr x1.1 fun x2 x3 =>
 (nilV x3 (nilO x1.2
 (cond (decide ((bytesOf [95]).size + x2.size ≤ 9223372036854775807))
 (some ([.one (.str ((bytesOf [95]) ++ x2))], []))
 none))))))
 (cond (decide (v0 = 5))
 (v2[(0 : Int).toNat]?.bind fun x0 =>
 ((FF n 17 [.agg [.int .i64 x0.k, .int .i64 x0.n, .fr (.ts x0.kids)], .one (.str v3)] []).bind fun x1 =>
 (rStr x1.1 fun x2 x3 =>
 (nilV x3 (nilO x1.2
 (cond (decide ((bytesOf [40]).size + x2.size ≤ 9223372036854775807))
 (cond (decide (((bytesOf [40]) ++ x2).size + (bytesOf [32]).size ≤ 9223372036854775807))
 (v2[(1 : Int).toNat]?.bind fun x4 =>
 ((FF n 17 [.agg [.int .i64 x4.k, .int .i64 x4.n, .fr (.ts x4.kids)], .one (.str v3)] []).bind fun x5 =>
 (rStr x5.1 fun x6 x7 =>
 (nilV x7 (nilO x5.2
 (cond (decide ((((bytesOf [40]) ++ x2) ++ (bytesOf [32])).size + x6.size ≤ 9223372036854775807))
 (cond (decide (((((bytesOf [40]) ++ x2) ++ (bytesOf [32])) ++ x6).size + (bytesOf [41]).size ≤ 9223372036854775807))
 (some ([.one (.str (((((bytesOf [40]) ++ x2) ++ (bytesOf [32])) ++ x6) ++ (bytesOf [41])))], []))
 none)
 none))))))
 none)
 none))))))
 (cond (decide (v0 = 10))
 ((FF n 36 [.one (.fr (.ts v2)), .one (.str v3)] []).bind fun x0 =>
 (rStr x0.1 fun x1 x2 =>
 (nilV x2 (nilO x0.2
 (cond (decide ((bytesOf [123]).size + x1.size ≤ 9223372036854775807))
 (cond (decide (((bytesOf [123]) ++ x1).size + (bytesOf [125]).size ≤ 9223372036854775807))
 (some ([.one (.str (((bytesOf [123]) ++ x1) ++ (bytesOf [125])))], []))
 none)
 none)))))
 (cond (decide (v0 = 14))
 ((FF n 36 [.one (.fr (.ts v2)), .one (.str v3)] []).bind fun x0 =>
 (rStr x0.1 fun x1 x2 =>
 (nilV x2 (nilO x0.2
 (cond (decide ((bytesOf [124]).size + x1.size ≤ 9223372036854775807))
 (cond (decide (((bytesOf [124]) ++ x1).size + (bytesOf [124]).size ≤ 9223372036854775807))
 (some ([.one (.str (((bytesOf [124]) ++ x1) ++ (bytesOf [124])))], []))
 none)
 none)))))
 (cond (decide (v0 = 12))
 ((FF n 36 [.one (.fr (.ts v2)), .one (.str v3)] []).bind fun x0 =>
 (rStr x0.1 fun x1 x2 =>
 (nilV x2 (nilO x0.2
 (cond (decide ((bytesOf [64, 60]).size + x1.size ≤ 9223372036854775807))
 (cond (decide (((bytesOf [64, 60]) ++ x1).size + (bytesOf [62]).size ≤ 9223372036854775807))
 (some ([.one (.str (((bytesOf [64, 60]) ++ x1) ++ (bytesOf [62])))], []))
 none)
 none)))))
 (cond (decide (v0 = 9))
 ((FF n 36 [.one (.fr (.ts v2)), .one (.str v3)] []).bind fun x0 =>
 (rStr x0.1 fun x1 x2 =>
 (nilV x2 (nilO x0.2
 (cond (decide ((bytesOf [60]).size + x1.size ≤ 9223372036854775807))
 (cond (decide (((bytesOf [60]) ++ x1).size + (bytesOf [62]).size ≤ 9223372036854775807))
 (some ([.one (.str (((bytesOf [60]) ++ x1) ++ (bytesOf [62])))], []))
 none)
 none)))))
 ((FF n 37 [.agg [.int .i64 v0, .int .i64 v1, .fr (.ts v2)]] []).bind fun x0 =>
 (rStr x0.1 fun x1 x2 =>
 (nilV x2 (nilO x0.2
 (some ([.one (.str x1)], []))))))))))))))))))) := by kernel_rfl
theorem E_impl_TermValid (n : Nat) (v0 v1 : Int) (v2 : List T) : FF (n + 1) 19 [.agg [.int .i64 v0, .int .i64 v1, .fr (.ts v2)]] [] =
 ((FF n 38 [.agg [.int .i64 v0, .int .i64 v1, .fr (.ts v2)], .one (.int .i64 1), .one (.ptr 0 0)] [.cells [.int .i64 0]]).bind fun x0 =>
 (objC x0.2 fun x1 x2 =>
 (intC .i64 x1 fun x3 x4 =>
 (nilC x4
 (rBool x0.1 fun x5 x6 =>
 (nilV x6 (nilO x2
 (some ([.one (.bool x5)], []))))))))) := by kernel_rfl
noncomputable def L_impl_NamesValid_0 (n c : Nat) (v0 : ByteArray) (v1 v2 : Int) : OR := runLoop Tryd.prog SS n 20 0 [1, 0, 1, 0] [] c ⟨[.v (.one (.str v0)), anyV, anyV, anyV, anyV, .v (.one (.int .i64 v1)), .v (.one (.int .i64 v2)), anyV, anyV, anyV, anyV, anyV, anyV, anyV, anyV, anyV, anyV, anyV, anyV, anyV, anyV, anyV, anyV, anyV, anyV, anyV, anyV, anyV],
 []⟩
theorem L_impl_NamesValid_0_eq (n c : Nat) (v0 : ByteArray) (v1 v2 : Int) : L_impl_NamesValid_0 n (c + 1) v0 v1 v2 =
 (cond (decide (v2 < v1))
 (cond (decide (0 ≤ v2) && decide (v2 < ((v0.size : Nat) : Int)))
 ((FF n 39 [.one (.int .u8 ((byteAt v0 (v2 : Int).toNat).toNat : Int))] []).bind fun x0 =>
 (rBool x0.1 fun x1 x2 =>
 (nilV x2 (nilO x0.2
 (cond (!x1)
 (some ([.one (.bool false)], []))
 (cond (Go.Ab.inB 0 v2 v0.size)
 (cond (decide (0 ≤ v2) && decide (v2 < ((v0.size : Nat) : Int)))
 ((FF n 40 [.one (.str (v0.extract (0 : Int).toNat (v2 : Int).toNat)), .one (.int .u8 ((byteAt v0 (v2 : Int).toNat).toNat : Int))] []).bind fun x3 =>
 (rInt .i64 x3.1 fun x4 x5 =>
 (nilV x5 (nilO x3.2
 (cond (decide (0 ≤ x4))
 (some ([.one (.bool false)], []))
 (L_impl_NamesValid_0 n c v0 v1 (IntKind.i64.wrap (v2 + 1))))))))
 none)
 none))))))
 none)
 (some ([.one (.bool (decide ((v0.size : Int) ≤ 20)))], []))) := by kernel_rfl
theorem E_impl_NamesValid (n : Nat) (v0 : ByteArray) : FF (n + 1) 20 [.one (.str v0)] [] =
 L_impl_NamesValid_0 n n v0 ((v0.size : Int) : Int) 0 := by kernel_rfl
theorem E_impl_maxFree (n : Nat) (v0 v1 : Int) (v2 : List T) : FF (n + 1) 21 [.agg [.int .i64 v0, .int .i64 v1, .fr (.ts v2)]] [] =
 ((FF n 41 [.agg [.int .i64 v0, .int .i64 v1, .fr (.ts v2)], .one (.int .i64 0), .one (.fn 42 [0])] [.cells [.int .i64 0]]).bind fun x0 =>
 (objC x0.2 fun x1 x2 =>
 (intC .i64 x1 fun x3 x4 =>
 (nilC x4
 (nilV x0.1 (nilO x2
 (some ([.one (.int .i64 x3)], [])))))))) := by kernel_rfl
noncomputable def L_impl_mostBinders_0 (n c : Nat) (v0 : Int) (v1 : List T) (v2 v3 v4 v5 : Int) (v6 : List T) : OR := runLoop Tryd.prog SS n 22 0 [1, 1, 0, 1, 0] [] c ⟨[anyV, .v (.one (.ptr 0 0)), anyV, .v (.one (.int .i64 v0)), anyV, anyV, anyV, .v (.one (.fr (.ts v1))), .v (.one (.int .i64 v2)), .v (.one (.int .i64 v3)), anyV, anyV, anyV, anyV, anyV, anyV, anyV, anyV, anyV, anyV, anyV, anyV, anyV, anyV, anyV],
 [.cells [.int .i64 v4, .int .i64 v5, .fr (.ts v6)]]⟩
theorem L_impl_mostBinders_0_eq (n c : Nat) (v0 : Int) (v1 : List T) (v2 v3 v4 v5 : Int) (v6 : List T) : L_impl_mostBinders_0 n (c + 1) v0 v1 v2 v3 v4 v5 v6 =
 (cond (decide (v3 < v2))
 (cond (decide (0 ≤ v3))
 (v1[(v3 : Int).toNat]?.bind fun x0 =>
 ((FF n 22 [.agg [.int .i64 x0.k, .int .i64 x0.n, .fr (.ts x0.kids)]] []).bind fun x1 =>
 (rInt .i64 x1.1 fun x2 x3 =>
 (nilV x3 (nilO x1.2
 ((FF n 43 [.one (.int .i64 v4), .one (.int .i64 v3)] []).bind fun x4 =>
 (rInt .i64 x4.1 fun x5 x6 =>
 (nilV x6 (nilO x4.2
 (L_impl_mostBinders_0 n c (max v0 (IntKind.i64.wrap (x2 + x5))) v1 v2 (IntKind.i64.wrap (v3 + 1)) v4 v5 v6))))))))))
 none)
 (some ([.one (.int .i64 v0)], []))) := by kernel_rfl
theorem E_impl_mostBinders (n : Nat) (v0 v1 : Int) (v2 : List T) : FF (n + 1) 22 [.agg [.int .i64 v0, .int .i64 v1, .fr (.ts v2)]] [] =
 L_impl_mostBinders_0 n n 0 v2 ((v2.length : Int) : Int) 0 v0 v1 v2 := by kernel_rfl
noncomputable def L_impl_shown_0 (n c : Nat) (v0 : ByteArray) (v1 : List ByteArray) (v2 v3 : ByteArray) (v4 : List T) (v5 v6 v7 v8 : Int) (v9 : List T) : OR := runLoop Tryd.prog SS n 23 0 [1, 1, 1, 1, 1, 1, 1, 0, 1, 0] [] c ⟨[anyV, .v (.one (.str v0)), .v (.one (.ptr 0 0)), anyV, anyV, anyV, .v (.one (.fr (.ss v1))), .v (.one (.str v2)), .v (.one (.str v3)), anyV, anyV, anyV, anyV, anyV, anyV, anyV, anyV, anyV, anyV, anyV, anyV, anyV, anyV, anyV, anyV, anyV, anyV, anyV, anyV, anyV, anyV, anyV, anyV, anyV, anyV, anyV, anyV, anyV, anyV, anyV, anyV, anyV, anyV, anyV, anyV, anyV, anyV, anyV, anyV, anyV, anyV, anyV, anyV, anyV, anyV, .v (.one (.fr (.ts v4))), .v (.one (.int .i64 v5)), .v (.one (.int .i64 v6)), anyV, anyV, anyV, anyV, anyV, anyV, anyV, anyV, anyV, anyV, anyV, anyV, anyV, anyV, anyV, anyV, anyV, anyV, anyV, anyV, anyV, anyV, anyV, anyV, anyV, anyV, anyV, anyV, anyV, anyV, anyV, anyV, anyV],
 [.cells [.int .i64 v7, .int .i64 v8, .fr (.ts v9)]]⟩
theorem L_impl_shown_0_eq (n c : Nat) (v0 : ByteArray) (v1 : List ByteArray) (v2 v3 : ByteArray) (v4 : List T) (v5 v6 v7 v8 : Int) (v9 : List T) : L_impl_shown_0 n (c + 1) v0 v1 v2 v3 v4 v5 v6 v7 v8 v9 =
 (cond (decide (v6 < v5))
 (cond (decide (0 ≤ v6))
 (v4[(v6 : Int).toNat]?.bind fun x0 =>
 ((FF n 43 [.one (.int .i64 v7), .one (.int .i64 v6)] []).bind fun x1 =>
 (rInt .i64 x1.1 fun x2 x3 =>
 (nilV x3 (nilO x1.2
 (cond (decide (0 < x2))
 ((FF n 23 [.agg [.int .i64 x0.k, .int .i64 x0.n, .fr (.ts x0.kids)], .one (.str v3)] []).bind fun x4 =>
 (rStr x4.1 fun x5 x6 =>
 (nilV x6 (nilO x4.2
 (cond (decide (0 ≤ (IntKind.i64.wrap (v6 + 1))))
 (v1[((IntKind.i64.wrap (v6 + 1)) : Int).toNat]?.bind fun x7 =>
 (cond (decide (x5.size + x7.size ≤ 9223372036854775807))
 (cond (decide (v2.size + (x5 ++ x7).size ≤ 9223372036854775807))
 (L_impl_shown_0 n c v0 v1 (v2 ++ (x5 ++ x7)) v3 v4 v5 (IntKind.i64.wrap (v6 + 1)) v7 v8 v9)
 none)
 none))
 none)))))
 ((FF n 23 [.agg [.int .i64 x0.k, .int .i64 x0.n, .fr (.ts x0.kids)], .one (.str v0)] []).bind fun x4 =>
 (rStr x4.1 fun x5 x6 =>
 (nilV x6 (nilO x4.2
 (cond (decide (0 ≤ (IntKind.i64.wrap (v6 + 1))))
 (v1[((IntKind.i64.wrap (v6 + 1)) : Int).toNat]?.bind fun x7 =>
 (cond (decide (x5.size + x7.size ≤ 9223372036854775807))
 (cond (decide (v2.size + (x5 ++ x7).size ≤ 9223372036854775807))
 (L_impl_shown_0 n c v0 v1 (v2 ++ (x5 ++ x7)) v3 v4 v5 (IntKind.i64.wrap (v6 + 1)) v7 v8 v9)
 none)
 none))
 none)))))))))))
 none)
 (some ([.one (.str v2)], []))) := by kernel_rfl
theorem E_impl_shown (n : Nat) (v0 v1 : Int) (v2 : List T) (v3 : ByteArray) : FF (n + 1) 23 [.agg [.int .i64 v0, .int .i64 v1, .fr (.ts v2)], .one (.str v3)] [] =
 (cond (decide (v0 = 1))
 (cond (Go.Ab.inB (IntKind.i64.wrap ((IntKind.i64.wrap ((v3.size : Int) - 1)) - v1)) (IntKind.i64.wrap ((IntKind.i64.wrap ((IntKind.i64.wrap ((v3.size : Int) - 1)) - v1)) + 1)) v3.size)
 (some ([.one (.str (v3.extract ((IntKind.i64.wrap ((IntKind.i64.wrap ((v3.size : Int) - 1)) - v1)) : Int).toNat ((IntKind.i64.wrap ((IntKind.i64.wrap ((IntKind.i64.wrap ((v3.size : Int) - 1)) - v1)) + 1)) : Int).toNat))], []))
 none)
 (cond (decide (v0 = 2))
 ((FF n 44 [.agg [.int .i64 v0, .int .i64 v1, .fr (.ts v2)]] []).bind fun x0 =>
 (rStr x0.1 fun x1 x2 =>
 (nilV x2 (nilO x0.2
 (some ([.one (.str x1)], []))))))
 ((FF n 46 [] []).bind fun x0 =>
 (rSs x0.1 fun x1 x2 =>
 (nilV x2 (nilO x0.2
 (cond (decide (0 ≤ (IntKind.i64.wrap (v0 - 1))))
 (x1[((IntKind.i64.wrap (v0 - 1)) : Int).toNat]?.bind fun x3 =>
 ((FF n 45 [.one (.str x3), .one (.str (bytesOf [46]))] []).bind fun x4 =>
 (rSs x4.1 fun x5 x6 =>
 (nilV x6 (nilO x4.2
 (x5[(0 : Int).toNat]?.bind fun x7 =>
 ((FF n 47 [.one (.int .i64 v0)] []).bind fun x8 =>
 (rBool x8.1 fun x9 x10 =>
 (nilV x10 (nilO x8.2
 (cond x9
 ((FF n 48 [.one (.str v3)] []).bind fun x11 =>
 (rStr x11.1 fun x12 x13 =>
 (nilV x13 (nilO x11.2
 (cond (decide (v3.size + x12.size ≤ 9223372036854775807))
 (cond (decide (x12.size + (bytesOf [58]).size ≤ 9223372036854775807))
 (cond (decide (x7.size + (x12 ++ (bytesOf [58])).size ≤ 9223372036854775807))
 (L_impl_shown_0 n n v3 x5 (x7 ++ (x12 ++ (bytesOf [58]))) (v3 ++ x12) v2 ((v2.length : Int) : Int) 0 v0 v1 v2)
 none)
 none)
 none)))))
 (L_impl_shown_0 n n v3 x5 x7 v3 v2 ((v2.length : Int) : Int) 0 v0 v1 v2))))))))))))
 none))))))) := by kernel_rfl
noncomputable def L_spec_l1Shape_0 (n c : Nat) (v0 v1 v2 v3 : Int) (v4 : List T) : OR := runLoop Tryd.prog SS n 29 0 [1, 1, 0, 1, 0] [] c ⟨[anyV, .v (.one (.int .i64 v0)), .v (.one (.ptr 0 0)), anyV, anyV, .v (.one (.int .i64 v1)), anyV, anyV, anyV, anyV, anyV, anyV, anyV, anyV, anyV, anyV, anyV, anyV, anyV, anyV, anyV, anyV, anyV, anyV, anyV, anyV, anyV, anyV, anyV, anyV, anyV, anyV, anyV, anyV, anyV, anyV, anyV, anyV, anyV, anyV, anyV, anyV, anyV, anyV, anyV, anyV],
 [.cells [.int .i64 v2, .int .i64 v3, .fr (.ts v4)]]⟩
theorem L_spec_l1Shape_0_eq (n c : Nat) (v0 v1 v2 v3 : Int) (v4 : List T) : L_spec_l1Shape_0 n (c + 1) v0 v1 v2 v3 v4 =
 (cond (decide (v1 < (v4.length : Int)))
 (cond (decide (0 ≤ v1))
 (v4[(v1 : Int).toNat]?.bind fun x0 =>
 ((FF n 29 [.agg [.int .i64 x0.k, .int .i64 x0.n, .fr (.ts x0.kids)], .one (.int .i64 (IntKind.i64.wrap (v0 - 1)))] []).bind fun x1 =>
 (rBool x1.1 fun x2 x3 =>
 (nilV x3 (nilO x1.2
 (cond (!x2)
 (some ([.one (.bool false)], []))
 (L_spec_l1Shape_0 n c v0 (IntKind.i64.wrap (v1 + 1)) v2 v3 v4)))))))
 none)
 (some ([.one (.bool true)], []))) := by kernel_rfl
theorem E_spec_l1Shape (n : Nat) (v0 v1 : Int) (v2 : List T) (v3 : Int) : FF (n + 1) 29 [.agg [.int .i64 v0, .int .i64 v1, .fr (.ts v2)], .one (.int .i64 v3)] [] =
 (cond (decide (v3 < 1))
 (some ([.one (.bool false)], []))
 ((FF n 53 [.one (.int .i64 v0)] []).bind fun x0 =>
 (rInt .i64 x0.1 fun x1 x2 =>
 (nilV x2 (nilO x0.2
 (cond (!decide (x1 = (v2.length : Int)))
 (some ([.one (.bool false)], []))
 (cond (decide (v1 < 0))
 (some ([.one (.bool false)], []))
 ((FF n 54 [.one (.int .i64 v0)] []).bind fun x3 =>
 (rInt .i64 x3.1 fun x4 x5 =>
 (nilV x5 (nilO x3.2
 (cond (decide (x4 < v1))
 (some ([.one (.bool false)], []))
 (L_spec_l1Shape_0 n n v3 0 v0 v1 v2))))))))))))) := by kernel_rfl
noncomputable def L_spec_l1Count_0 (n c : Nat) (v0 v1 v2 v3 v4 : Int) (v5 : List T) : OR := runLoop Tryd.prog SS n 30 0 [1, 1, 0, 1, 0] [] c ⟨[anyV, .v (.one (.int .i64 v0)), .v (.one (.ptr 0 0)), anyV, anyV, .v (.one (.int .i64 v1)), .v (.one (.int .i64 v2)), anyV, anyV, anyV, anyV, anyV, anyV, anyV, anyV, anyV, anyV, anyV, anyV, anyV, anyV, anyV, anyV, anyV, anyV, anyV, anyV, anyV, anyV, anyV, anyV],
 [.cells [.int .i64 v3, .int .i64 v4, .fr (.ts v5)]]⟩
theorem L_spec_l1Count_0_eq (n c : Nat) (v0 v1 v2 v3 v4 : Int) (v5 : List T) : L_spec_l1Count_0 n (c + 1) v0 v1 v2 v3 v4 v5 =
 (cond (decide (v2 < (v5.length : Int)))
 (cond (decide (v1 ≤ v0))
 (cond (decide (0 ≤ v2))
 (v5[(v2 : Int).toNat]?.bind fun x0 =>
 ((FF n 30 [.agg [.int .i64 x0.k, .int .i64 x0.n, .fr (.ts x0.kids)], .one (.int .i64 (IntKind.i64.wrap (v0 - v1)))] []).bind fun x1 =>
 (rInt .i64 x1.1 fun x2 x3 =>
 (nilV x3 (nilO x1.2
 (L_spec_l1Count_0 n c v0 (IntKind.i64.wrap (v1 + x2)) (IntKind.i64.wrap (v2 + 1)) v3 v4 v5))))))
 none)
 (some ([.one (.int .i64 v1)], [])))
 (some ([.one (.int .i64 v1)], []))) := by kernel_rfl
theorem E_spec_l1Count (n : Nat) (v0 v1 : Int) (v2 : List T) (v3 : Int) : FF (n + 1) 30 [.agg [.int .i64 v0, .int .i64 v1, .fr (.ts v2)], .one (.int .i64 v3)] [] =
 L_spec_l1Count_0 n n v3 1 0 v0 v1 v2 := by kernel_rfl
theorem E_spec_l6Letter (n : Nat) (v0 : Int) : FF (n + 1) 31 [.one (.int .u8 v0)] [] =
 (cond (decide (97 ≤ v0))
 (some ([.one (.bool (decide (v0 ≤ 122)))], []))
 (some ([.one (.bool false)], []))) := by kernel_rfl
noncomputable def L_spec_l6Find_0 (n c : Nat) (v0 : ByteArray) (v1 v2 : Int) : OR := runLoop Tryd.prog SS n 32 0 [1, 0, 1, 0] [] c ⟨[.v (.one (.str v0)), .v (.one (.int .u8 v1)), anyV, anyV, anyV, .v (.one (.int .i64 v2)), anyV, anyV, anyV, anyV, anyV, anyV, anyV, anyV, anyV, anyV, anyV, anyV, anyV, anyV, anyV, anyV, anyV],
 []⟩
theorem L_spec_l6Find_0_eq (n c : Nat) (v0 : ByteArray) (v1 v2 : Int) : L_spec_l6Find_0 n (c + 1) v0 v1 v2 =
 (cond (decide (0 ≤ v2))
 (cond (decide (0 ≤ v2) && decide (v2 < ((v0.size : Nat) : Int)))
 (cond (decide (((byteAt v0 (v2 : Int).toNat).toNat : Int) = v1))
 (some ([.one (.int .i64 (IntKind.i64.wrap ((IntKind.i64.wrap ((v0.size : Int) - 1)) - v2)))], []))
 (L_spec_l6Find_0 n c v0 v1 (IntKind.i64.wrap (v2 - 1))))
 none)
 (some ([.one (.int .i64 (-1))], []))) := by kernel_rfl
theorem E_spec_l6Find (n : Nat) (v0 : ByteArray) (v1 : Int) : FF (n + 1) 32 [.one (.str v0), .one (.int .u8 v1)] [] =
 L_spec_l6Find_0 n n v0 v1 (IntKind.i64.wrap ((v0.size : Int) - 1)) := by kernel_rfl
noncomputable def L_spec_l2Most_0 (n c : Nat) (v0 v1 v2 v3 v4 : Int) (v5 : List T) : OR := runLoop Tryd.prog SS n 33 0 [1, 1, 1, 0, 1, 0] [] c ⟨[anyV, .v (.one (.int .i64 v0)), .v (.one (.ptr 0 0)), anyV, anyV, .v (.one (.int .i64 v1)), .v (.one (.int .i64 v2)), anyV, anyV, anyV, anyV, anyV, anyV, anyV, anyV, anyV, anyV, anyV, anyV, anyV, anyV, anyV, anyV, anyV, anyV, anyV, anyV, anyV, anyV, anyV, anyV, anyV, anyV, anyV, anyV, anyV, anyV, anyV, anyV, anyV, anyV, anyV, anyV, anyV, anyV, anyV],
 [.cells [.int .i64 v3, .int .i64 v4, .fr (.ts v5)]]⟩
theorem L_spec_l2Most_0_eq (n c : Nat) (v0 v1 v2 v3 v4 : Int) (v5 : List T) : L_spec_l2Most_0 n (c + 1) v0 v1 v2 v3 v4 v5 =
 (cond (decide (v2 < (v5.length : Int)))
 (cond (decide (0 ≤ v2))
 (v5[(v2 : Int).toNat]?.bind fun x0 =>
 ((FF n 34 [.one (.int .i64 v3), .one (.int .i64 v2)] []).bind fun x1 =>
 (rInt .i64 x1.1 fun x2 x3 =>
 (nilV x3 (nilO x1.2
 ((FF n 33 [.agg [.int .i64 x0.k, .int .i64 x0.n, .fr (.ts x0.kids)], .one (.int .i64 (IntKind.i64.wrap (v0 + x2)))] []).bind fun x4 =>
 (rInt .i64 x4.1 fun x5 x6 =>
 (nilV x6 (nilO x4.2
 (cond (decide (v1 < x5))
 (L_spec_l2Most_0 n c v0 x5 (IntKind.i64.wrap (v2 + 1)) v3 v4 v5)
 (L_spec_l2Most_0 n c v0 v1 (IntKind.i64.wrap (v2 + 1)) v3 v4 v5)))))))))))
 none)
 (some ([.one (.int .i64 v1)], []))) := by kernel_rfl
theorem E_spec_l2Most (n : Nat) (v0 v1 : Int) (v2 : List T) (v3 : Int) : FF (n + 1) 33 [.agg [.int .i64 v0, .int .i64 v1, .fr (.ts v2)], .one (.int .i64 v3)] [] =
 (cond (decide (v0 = 1))
 (cond (decide (v3 ≤ v1))
 (L_spec_l2Most_0 n n v3 (IntKind.i64.wrap ((IntKind.i64.wrap (v1 - v3)) + 1)) 0 v0 v1 v2)
 (L_spec_l2Most_0 n n v3 0 0 v0 v1 v2))
 (L_spec_l2Most_0 n n v3 0 0 v0 v1 v2)) := by kernel_rfl
theorem E_spec_l2Under (n : Nat) (v0 v1 : Int) : FF (n + 1) 34 [.one (.int .i64 v0), .one (.int .i64 v1)] [] =
 ((FF n 55 [.one (.int .i64 v0), .one (.int .i64 v1)] []).bind fun x0 =>
 (rBool x0.1 fun x1 x2 =>
 (nilV x2 (nilO x0.2
 (cond x1
 (some ([.one (.int .i64 1)], []))
 (some ([.one (.int .i64 0)], []))))))) := by kernel_rfl
theorem E_spec_l6Bound (n : Nat) (v0 v1 : Int) (v2 : List T) (v3 : ByteArray) : FF (n + 1) 35 [.agg [.int .i64 v0, .int .i64 v1, .fr (.ts v2)], .one (.str v3)] [] =
 ((FF n 56 [.one (.str v3)] []).bind fun x0 =>
 (rInt .u8 x0.1 fun x1 x2 =>
 (nilV x2 (nilO x0.2
 (cond (decide (0 ≤ x1) && decide (x1 ≤ 255))
 (cond (decide ((ByteArray.mk ([(UInt8.ofNat x1.toNat)]).toArray).size + (bytesOf [58]).size ≤ 9223372036854775807))
 (v2[(0 : Int).toNat]?.bind fun x3 =>
 ((FF n 17 [.agg [.int .i64 x3.k, .int .i64 x3.n, .fr (.ts x3.kids)], .one (.str v3)] []).bind fun x4 =>
 (rStr x4.1 fun x5 x6 =>
 (nilV x6 (nilO x4.2
 (cond (decide (((ByteArray.mk ([(UInt8.ofNat x1.toNat)]).toArray) ++ (bytesOf [58])).size + x5.size ≤ 9223372036854775807))
 (v2[(1 : Int).toNat]?.bind fun x7 =>
 (cond (decide (v3.size + (ByteArray.mk ([(UInt8.ofNat x1.toNat)]).toArray).size ≤ 9223372036854775807))
 ((FF n 17 [.agg [.int .i64 x7.k, .int .i64 x7.n, .fr (.ts x7.kids)], .one (.str (v3 ++ (ByteArray.mk ([(UInt8.ofNat x1.toNat)]).toArray)))] []).bind fun x8 =>
 (rStr x8.1 fun x9 x10 =>
 (nilV x10 (nilO x8.2
 (cond (decide (v0 = 4))
 (cond (decide ((bytesOf [91]).size + (((ByteArray.mk ([(UInt8.ofNat x1.toNat)]).toArray) ++ (bytesOf [58])) ++ x5).size ≤ 9223372036854775807))
 (cond (decide (((bytesOf [91]) ++ (((ByteArray.mk ([(UInt8.ofNat x1.toNat)]).toArray) ++ (bytesOf [58])) ++ x5)).size + (bytesOf [93]).size ≤ 9223372036854775807))
 (cond (decide ((((bytesOf [91]) ++ (((ByteArray.mk ([(UInt8.ofNat x1.toNat)]).toArray) ++ (bytesOf [58])) ++ x5)) ++ (bytesOf [93])).size + x9.size ≤ 9223372036854775807))
 (some ([.one (.str ((((bytesOf [91]) ++ (((ByteArray.mk ([(UInt8.ofNat x1.toNat)]).toArray) ++ (bytesOf [58])) ++ x5)) ++ (bytesOf [93])) ++ x9))], []))
 none)
 none)
 none)
 (cond (decide (v0 = 3))
 (cond (decide ((bytesOf [40]).size + (((ByteArray.mk ([(UInt8.ofNat x1.toNat)]).toArray) ++ (bytesOf [58])) ++ x5).size ≤ 9223372036854775807))
 (cond (decide (((bytesOf [40]) ++ (((ByteArray.mk ([(UInt8.ofNat x1.toNat)]).toArray) ++ (bytesOf [58])) ++ x5)).size + (bytesOf [62]).size ≤ 9223372036854775807))
 (cond (decide ((((bytesOf [40]) ++ (((ByteArray.mk ([(UInt8.ofNat x1.toNat)]).toArray) ++ (bytesOf [58])) ++ x5)) ++ (bytesOf [62])).size + x9.size ≤ 9223372036854775807))
 (cond (decide (((((bytesOf [40]) ++ (((ByteArray.mk ([(UInt8.ofNat x1.toNat)]).toArray) ++ (bytesOf [58])) ++ x5)) ++ (bytesOf [62])) ++ x9).size + (bytesOf [41]).size ≤ 9223372036854775807))
 (some ([.one (.str (((((bytesOf [40]) ++ (((ByteArray.mk ([(UInt8.ofNat x1.toNat)]).toArray) ++ (bytesOf [58])) ++ x5)) ++ (bytesOf [62])) ++ x9) ++ (bytesOf [41])))], []))
 none)
 none)
 none)
 none)
 (cond (decide ((bytesOf [40]).size + (((ByteArray.mk ([(UInt8.ofNat x1.toNat)]).toArray) ++ (bytesOf [58])) ++ x5).size ≤ 9223372036854775807))
 (cond (decide (((bytesOf [40]) ++ (((ByteArray.mk ([(UInt8.ofNat x1.toNat)]).toArray) ++ (bytesOf [58])) ++ x5)).size + (bytesOf [42]).size ≤ 9223372036854775807))
 (cond (decide ((((bytesOf [40]) ++ (((ByteArray.mk ([(UInt8.ofNat x1.toNat)]).toArray) ++ (bytesOf [58])) ++ x5)) ++ (bytesOf [42])).size + x9.size ≤ 9223372036854775807))
 (cond (decide (((((bytesOf [40]) ++ (((ByteArray.mk ([(UInt8.ofNat x1.toNat)]).toArray) ++ (bytesOf [58])) ++ x5)) ++ (bytesOf [42])) ++ x9).size + (bytesOf [41]).size ≤ 9223372036854775807))
 (some ([.one (.str (((((bytesOf [40]) ++ (((ByteArray.mk ([(UInt8.ofNat x1.toNat)]).toArray) ++ (bytesOf [58])) ++ x5)) ++ (bytesOf [42])) ++ x9) ++ (bytesOf [41])))], []))
 none)
 none)
 none)
 none)))))))
 none))
 none))))))
 none)
 none))))) := by kernel_rfl
noncomputable def L_spec_l6List_0 (n c : Nat) (v0 : List T) (v1 v2 : ByteArray) (v3 : Int) : OR := runLoop Tryd.prog SS n 36 0 [1, 1, 0, 1, 0] [] c ⟨[.v (.one (.fr (.ts v0))), .v (.one (.str v1)), anyV, anyV, anyV, .v (.one (.str v2)), .v (.one (.int .i64 v3)), anyV, anyV, anyV, anyV, anyV, anyV, anyV, anyV, anyV, anyV, anyV, anyV, anyV, anyV, anyV, anyV, anyV, anyV, anyV],
 []⟩
theorem L_spec_l6List_0_eq (n c : Nat) (v0 : List T) (v1 v2 : ByteArray) (v3 : Int) : L_spec_l6List_0 n (c + 1) v0 v1 v2 v3 =
 (cond (decide (v3 < (v0.length : Int)))
 (cond (decide (0 < v3))
 (cond (decide (v2.size + (bytesOf [44]).size ≤ 9223372036854775807))
 (cond (decide (0 ≤ v3))
 (v0[(v3 : Int).toNat]?.bind fun x0 =>
 ((FF n 17 [.agg [.int .i64 x0.k, .int .i64 x0.n, .fr (.ts x0.kids)], .one (.str v1)] []).bind fun x1 =>
 (rStr x1.1 fun x2 x3 =>
 (nilV x3 (nilO x1.2
 (cond (decide ((v2 ++ (bytesOf [44])).size + x2.size ≤ 9223372036854775807))
 (L_spec_l6List_0 n c v0 v1 ((v2 ++ (bytesOf [44])) ++ x2) (IntKind.i64.wrap (v3 + 1)))
 none))))))
 none)
 none)
 (cond (decide (0 ≤ v3))
 (v0[(v3 : Int).toNat]?.bind fun x0 =>
 ((FF n 17 [.agg [.int .i64 x0.k, .int .i64 x0.n, .fr (.ts x0.kids)], .one (.str v1)] []).bind fun x1 =>
 (rStr x1.1 fun x2 x3 =>
 (nilV x3 (nilO x1.2
 (cond (decide (v2.size + x2.size ≤ 9223372036854775807))
 (L_spec_l6List_0 n c v0 v1 (v2 ++ x2) (IntKind.i64.wrap (v3 + 1)))
 none))))))
 none))
 (some ([.one (.str v2)], []))) := by kernel_rfl
theorem E_spec_l6List (n : Nat) (v0 : List T) (v1 : ByteArray) : FF (n + 1) 36 [.one (.fr (.ts v0)), .one (.str v1)] [] =
 L_spec_l6List_0 n n v0 v1 (bytesOf []) 0 := by kernel_rfl
theorem E_spec_l1Text (n : Nat) (v0 v1 : Int) (v2 : List T) : FF (n + 1) 37 [.agg [.int .i64 v0, .int .i64 v1, .fr (.ts v2)]] [] =
 (cond (decide (v0 = 1))
 ((FF n 57 [.one (.int .i64 v1)] []).bind fun x0 =>
 (rStr x0.1 fun x1 x2 =>
 (nilV x2 (nilO x0.2
 (cond (decide ((bytesOf [35]).size + x1.size ≤ 9223372036854775807))
 (some ([.one (.str ((bytesOf [35]) ++ x1))], []))
 none)))))
 (cond (decide (v0 = 2))
 ((FF n 57 [.one (.int .i64 v1)] []).bind fun x0 =>
 (rStr x0.1 fun x1 x2 =>
 (nilV x2 (nilO x0.2
 (cond (decide ((bytesOf [42]).size + x1.size ≤ 9223372036854775807))
 (some ([.one (.str ((bytesOf [42]) ++ x1))], []))
 none)))))
 (cond (decide (v0 = 6))
 (some ([.one (.str (bytesOf [78]))], []))
 (cond (decide (v0 = 7))
 (some ([.one (.str (bytesOf [48]))], []))
 (cond (decide (v0 = 8))
 (v2[(0 : Int).toNat]?.bind fun x0 =>
 ((FF n 37 [.agg [.int .i64 x0.k, .int .i64 x0.n, .fr (.ts x0.kids)]] []).bind fun x1 =>
 (rStr x1.1 fun x2 x3 =>
 (nilV x3 (nilO x1.2
 (cond (decide ((bytesOf [43]).size + x2.size ≤ 9223372036854775807))
 (some ([.one (.str ((bytesOf [43]) ++ x2))], []))
 none))))))
 (cond (decide (v0 = 11))
 (v2[(0 : Int).toNat]?.bind fun x0 =>
 ((FF n 37 [.agg [.int .i64 x0.k, .int .i64 x0.n, .fr (.ts x0.kids)]] []).bind fun x1 =>
 (rStr x1.1 fun x2 x3 =>
 (nilV x3 (nilO x1.2
 (cond (decide ((bytesOf [33]).size + x2.size ≤ 9223372036854775807))
 (some ([.one (.str ((bytesOf [33]) ++ x2))], []))
 none))))))
 (cond (decide (v0 = 15))
 (v2[(0 : Int).toNat]?.bind fun x0 =>
 ((FF n 37 [.agg [.int .i64 x0.k, .int .i64 x0.n, .fr (.ts x0.kids)]] []).bind fun x1 =>
 (rStr x1.1 fun x2 x3 =>
 (nilV x3 (nilO x1.2
 (cond (decide ((bytesOf [94]).size + x2.size ≤ 9223372036854775807))
 (some ([.one (.str ((bytesOf [94]) ++ x2))], []))
 none))))))
 (cond (decide (v0 = 16))
 (v2[(0 : Int).toNat]?.bind fun x0 =>
 ((FF n 37 [.agg [.int .i64 x0.k, .int .i64 x0.n, .fr (.ts x0.kids)]] []).bind fun x1 =>
 (rStr x1.1 fun x2 x3 =>
 (nilV x3 (nilO x1.2
 (cond (decide ((bytesOf [95]).size + x2.size ≤ 9223372036854775807))
 (some ([.one (.str ((bytesOf [95]) ++ x2))], []))
 none))))))
 (cond (decide (v0 = 3))
 (v2[(0 : Int).toNat]?.bind fun x0 =>
 ((FF n 37 [.agg [.int .i64 x0.k, .int .i64 x0.n, .fr (.ts x0.kids)]] []).bind fun x1 =>
 (rStr x1.1 fun x2 x3 =>
 (nilV x3 (nilO x1.2
 (cond (decide ((bytesOf [40]).size + x2.size ≤ 9223372036854775807))
 (cond (decide (((bytesOf [40]) ++ x2).size + (bytesOf [62]).size ≤ 9223372036854775807))
 (v2[(1 : Int).toNat]?.bind fun x4 =>
 ((FF n 37 [.agg [.int .i64 x4.k, .int .i64 x4.n, .fr (.ts x4.kids)]] []).bind fun x5 =>
 (rStr x5.1 fun x6 x7 =>
 (nilV x7 (nilO x5.2
 (cond (decide ((((bytesOf [40]) ++ x2) ++ (bytesOf [62])).size + x6.size ≤ 9223372036854775807))
 (cond (decide (((((bytesOf [40]) ++ x2) ++ (bytesOf [62])) ++ x6).size + (bytesOf [41]).size ≤ 9223372036854775807))
 (some ([.one (.str (((((bytesOf [40]) ++ x2) ++ (bytesOf [62])) ++ x6) ++ (bytesOf [41])))], []))
 none)
 none))))))
 none)
 none))))))
 (cond (decide (v0 = 13))
 (v2[(0 : Int).toNat]?.bind fun x0 =>
 ((FF n 37 [.agg [.int .i64 x0.k, .int .i64 x0.n, .fr (.ts x0.kids)]] []).bind fun x1 =>
 (rStr x1.1 fun x2 x3 =>
 (nilV x3 (nilO x1.2
 (cond (decide ((bytesOf [40]).size + x2.size ≤ 9223372036854775807))
 (cond (decide (((bytesOf [40]) ++ x2).size + (bytesOf [42]).size ≤ 9223372036854775807))
 (v2[(1 : Int).toNat]?.bind fun x4 =>
 ((FF n 37 [.agg [.int .i64 x4.k, .int .i64 x4.n, .fr (.ts x4.kids)]] []).bind fun x5 =>
 (rStr x5.1 fun x6 x7 =>
 (nilV x7 (nilO x5.2
 (cond (decide ((((bytesOf [40]) ++ x2) ++ (bytesOf [42])).size + x6.size ≤ 9223372036854775807))
 (cond (decide (((((bytesOf [40]) ++ x2) ++ (bytesOf [42])) ++ x6).size + (bytesOf [41]).size ≤ 9223372036854775807))
 (some ([.one (.str (((((bytesOf [40]) ++ x2) ++ (bytesOf [42])) ++ x6) ++ (bytesOf [41])))], []))
 none)
 none))))))
 none)
 none))))))
 (cond (decide (v0 = 5))
 (v2[(0 : Int).toNat]?.bind fun x0 =>
 ((FF n 37 [.agg [.int .i64 x0.k, .int .i64 x0.n, .fr (.ts x0.kids)]] []).bind fun x1 =>
 (rStr x1.1 fun x2 x3 =>
 (nilV x3 (nilO x1.2
 (cond (decide ((bytesOf [40]).size + x2.size ≤ 9223372036854775807))
 (cond (decide (((bytesOf [40]) ++ x2).size + (bytesOf [32]).size ≤ 9223372036854775807))
 (v2[(1 : Int).toNat]?.bind fun x4 =>
 ((FF n 37 [.agg [.int .i64 x4.k, .int .i64 x4.n, .fr (.ts x4.kids)]] []).bind fun x5 =>
 (rStr x5.1 fun x6 x7 =>
 (nilV x7 (nilO x5.2
 (cond (decide ((((bytesOf [40]) ++ x2) ++ (bytesOf [32])).size + x6.size ≤ 9223372036854775807))
 (cond (decide (((((bytesOf [40]) ++ x2) ++ (bytesOf [32])) ++ x6).size + (bytesOf [41]).size ≤ 9223372036854775807))
 (some ([.one (.str (((((bytesOf [40]) ++ x2) ++ (bytesOf [32])) ++ x6) ++ (bytesOf [41])))], []))
 none)
 none))))))
 none)
 none))))))
 (cond (decide (v0 = 4))
 (v2[(0 : Int).toNat]?.bind fun x0 =>
 ((FF n 37 [.agg [.int .i64 x0.k, .int .i64 x0.n, .fr (.ts x0.kids)]] []).bind fun x1 =>
 (rStr x1.1 fun x2 x3 =>
 (nilV x3 (nilO x1.2
 (cond (decide ((bytesOf [91]).size + x2.size ≤ 9223372036854775807))
 (cond (decide (((bytesOf [91]) ++ x2).size + (bytesOf [93]).size ≤ 9223372036854775807))
 (v2[(1 : Int).toNat]?.bind fun x4 =>
 ((FF n 37 [.agg [.int .i64 x4.k, .int .i64 x4.n, .fr (.ts x4.kids)]] []).bind fun x5 =>
 (rStr x5.1 fun x6 x7 =>
 (nilV x7 (nilO x5.2
 (cond (decide ((((bytesOf [91]) ++ x2) ++ (bytesOf [93])).size + x6.size ≤ 9223372036854775807))
 (some ([.one (.str ((((bytesOf [91]) ++ x2) ++ (bytesOf [93])) ++ x6))], []))
 none))))))
 none)
 none))))))
 (cond (decide (v0 = 10))
 ((FF n 58 [.one (.fr (.ts v2))] []).bind fun x0 =>
 (rStr x0.1 fun x1 x2 =>
 (nilV x2 (nilO x0.2
 (cond (decide ((bytesOf [123]).size + x1.size ≤ 9223372036854775807))
 (cond (decide (((bytesOf [123]) ++ x1).size + (bytesOf [125]).size ≤ 9223372036854775807))
 (some ([.one (.str (((bytesOf [123]) ++ x1) ++ (bytesOf [125])))], []))
 none)
 none)))))
 (cond (decide (v0 = 14))
 ((FF n 58 [.one (.fr (.ts v2))] []).bind fun x0 =>
 (rStr x0.1 fun x1 x2 =>
 (nilV x2 (nilO x0.2
 (cond (decide ((bytesOf [124]).size + x1.size ≤ 9223372036854775807))
 (cond (decide (((bytesOf [124]) ++ x1).size + (bytesOf [124]).size ≤ 9223372036854775807))
 (some ([.one (.str (((bytesOf [124]) ++ x1) ++ (bytesOf [124])))], []))
 none)
 none)))))
 (cond (decide (v0 = 12))
 ((FF n 58 [.one (.fr (.ts v2))] []).bind fun x0 =>
 (rStr x0.1 fun x1 x2 =>
 (nilV x2 (nilO x0.2
 (cond (decide ((bytesOf [64, 60]).size + x1.size ≤ 9223372036854775807))
 (cond (decide (((bytesOf [64, 60]) ++ x1).size + (bytesOf [62]).size ≤ 9223372036854775807))
 (some ([.one (.str (((bytesOf [64, 60]) ++ x1) ++ (bytesOf [62])))], []))
 none)
 none)))))
 ((FF n 58 [.one (.fr (.ts v2))] []).bind fun x0 =>
 (rStr x0.1 fun x1 x2 =>
 (nilV x2 (nilO x0.2
 (cond (decide ((bytesOf [60]).size + x1.size ≤ 9223372036854775807))
 (cond (decide (((bytesOf [60]) ++ x1).size + (bytesOf [62]).size ≤ 9223372036854775807))
 (some ([.one (.str (((bytesOf [60]) ++ x1) ++ (bytesOf [62])))], []))
 none)
 none)))))))))))))))))))) := by kernel_rfl
noncomputable def L_impl_scan_0 (n c : Nat) (v0 : Int) (v1 : List T) (v2 v3 v4 : Int) : OR := runLoop Tryd.prog SS n 38 1 [1, 1, 1, 0, 1, 0] [] c ⟨[anyV, .v (.one (.int .i64 v0)), .v (.one (.ptr 0 0)), anyV, anyV, anyV, anyV, anyV, anyV, anyV, anyV, anyV, anyV, anyV, anyV, anyV, anyV, anyV, anyV, anyV, anyV, anyV, anyV, anyV, anyV, anyV, anyV, anyV, anyV, anyV, anyV, anyV, anyV, anyV, anyV, anyV, anyV, anyV, anyV, anyV, anyV, .v (.one (.fr (.ts v1))), .v (.one (.int .i64 v2)), .v (.one (.int .i64 v3)), anyV, anyV, anyV, anyV, anyV, anyV, anyV, anyV, anyV, anyV],
 [.cells [.int .i64 v4]]⟩
theorem L_impl_scan_0_eq (n c : Nat) (v0 : Int) (v1 : List T) (v2 v3 v4 : Int) : L_impl_scan_0 n (c + 1) v0 v1 v2 v3 v4 =
 (cond (decide (v3 < v2))
 (cond (decide (0 ≤ v3))
 (v1[(v3 : Int).toNat]?.bind fun x0 =>
 ((FF n 38 [.agg [.int .i64 x0.k, .int .i64 x0.n, .fr (.ts x0.kids)], .one (.int .i64 (IntKind.i64.wrap (v0 + 1))), .one (.ptr 0 0)] [.cells [.int .i64 v4]]).bind fun x1 =>
 (objC x1.2 fun x2 x3 =>
 (intC .i64 x2 fun x4 x5 =>
 (nilC x5
 (rBool x1.1 fun x6 x7 =>
 (nilV x7 (nilO x3
 (cond (!x6)
 (some ([.one (.bool false)], [.cells [.int .i64 x4]]))
 (L_impl_scan_0 n c v0 v1 v2 (IntKind.i64.wrap (v3 + 1)) x4))))))))))
 none)
 (some ([.one (.bool true)], [.cells [.int .i64 v4]]))) := by kernel_rfl
theorem E_impl_scan (n : Nat) (v0 v1 : Int) (v2 : List T) (v3 v4 : Int) : FF (n + 1) 38 [.agg [.int .i64 v0, .int .i64 v1, .fr (.ts v2)], .one (.int .i64 v3), .one (.ptr 0 0)] [.cells [.int .i64 v4]] =
 (cond (decide (400 < (IntKind.i64.wrap (v4 + 1))))
 (some ([.one (.bool false)], [.cells [.int .i64 (IntKind.i64.wrap (v4 + 1))]]))
 (cond (decide (30 < v3))
 (some ([.one (.bool false)], [.cells [.int .i64 (IntKind.i64.wrap (v4 + 1))]]))
 ((FF n 59 [.one (.int .i64 v0)] []).bind fun x0 =>
 (rInt .i64 x0.1 fun x1 x2 =>
 (nilV x2 (nilO x0.2
 (cond (!decide (x1 = (v2.length : Int)))
 (some ([.one (.bool false)], [.cells [.int .i64 (IntKind.i64.wrap (v4 + 1))]]))
 ((FF n 61 [.one (.int .i64 v0)] []).bind fun x3 =>
 (rInt .i64 x3.1 fun x4 x5 =>
 (nilV x5 (nilO x3.2
 ((FF n 60 [.one (.int .i64 v1), .one (.int .i64 0), .one (.int .i64 x4)] []).bind fun x6 =>
 (rBool x6.1 fun x7 x8 =>
 (nilV x8 (nilO x6.2
 (cond (!x7)
 (some ([.one (.bool false)], [.cells [.int .i64 (IntKind.i64.wrap (v4 + 1))]]))
 (L_impl_scan_0 n n v3 v2 ((v2.length : Int) : Int) 0 (IntKind.i64.wrap (v4 + 1))))))))))))))))))) := by kernel_rfl
theorem E_impl_isLetter (n : Nat) (v0 : Int) : FF (n + 1) 39 [.one (.int .u8 v0)] [] =
 (cond (decide (97 ≤ v0))
 (some ([.one (.bool (decide (v0 ≤ 122)))], []))
 (some ([.one (.bool false)], []))) := by kernel_rfl
theorem E_strings_IndexByte (n : Nat) (v0 : ByteArray) (v1 : Int) : FF (n + 1) 40 [.one (.str v0), .one (.int .u8 v1)] [] =
 ((FF n 62 [.one (.str v0), .one (.int .u8 v1)] []).bind fun x0 =>
 (rInt .i64 x0.1 fun x1 x2 =>
 (nilV x2 (nilO x0.2
 (some ([.one (.int .i64 x1)], [])))))) := by kernel_rfl
end Go.Proofs.YtnogehmgpfpjmaaDoor
end
section
namespace Go.Proofs.YtnogehmgpfpjmaaDoor
open Go Go.Ab Go.Dk
noncomputable def L_impl_free_impl_maxFree_1_0 (n c : Nat) (v0 : Int) (v1 : List T) (v2 v3 v4 v5 v6 : Int) (v7 : List T) : OR := runLoop Tryd.prog SS n 41 1 [1, 1, 1, 0] [] c ⟨[anyV, .v (.one (.int .i64 v0)), .v (.one (.fn 42 [0])), .v (.one (.ptr 1 0)), anyV, anyV, anyV, anyV, anyV, anyV, anyV, anyV, anyV, anyV, anyV, anyV, anyV, anyV, anyV, anyV, anyV, anyV, anyV, anyV, .v (.one (.fr (.ts v1))), .v (.one (.int .i64 v2)), .v (.one (.int .i64 v3)), anyV, anyV, anyV, anyV, anyV, anyV, anyV, anyV, anyV, anyV, anyV, anyV, anyV, anyV],
 [.cells [.int .i64 v4], .cells [.int .i64 v5, .int .i64 v6, .fr (.ts v7)]]⟩
theorem L_impl_free_impl_maxFree_1_0_eq (n c : Nat) (v0 : Int) (v1 : List T) (v2 v3 v4 v5 v6 : Int) (v7 : List T) : L_impl_free_impl_maxFree_1_0 n (c + 1) v0 v1 v2 v3 v4 v5 v6 v7 =
 (cond (decide (v3 < v2))
 (cond (decide (0 ≤ v3))
 (v1[(v3 : Int).toNat]?.bind fun x0 =>
 ((FF n 43 [.one (.int .i64 v5), .one (.int .i64 v3)] []).bind fun x1 =>
 (rInt .i64 x1.1 fun x2 x3 =>
 (nilV x3 (nilO x1.2
 ((FF n 41 [.agg [.int .i64 x0.k, .int .i64 x0.n, .fr (.ts x0.kids)], .one (.int .i64 (IntKind.i64.wrap (v0 + x2))), .one (.fn 42 [0])] [.cells [.int .i64 v4]]).bind fun x4 =>
 (objC x4.2 fun x5 x6 =>
 (intC .i64 x5 fun x7 x8 =>
 (nilC x8
 (nilV x4.1 (nilO x6
 (L_impl_free_impl_maxFree_1_0 n c v0 v1 v2 (IntKind.i64.wrap (v3 + 1)) x7 v5 v6 v7))))))))))))
 none)
 (some ([], [.cells [.int .i64 v4]]))) := by kernel_rfl
theorem E_impl_free_impl_maxFree_1 (n : Nat) (v0 v1 : Int) (v2 : List T) (v3 v4 : Int) : FF (n + 1) 41 [.agg [.int .i64 v0, .int .i64 v1, .fr (.ts v2)], .one (.int .i64 v3), .one (.fn 42 [0])] [.cells [.int .i64 v4]] =
 (cond (decide (v0 = 1))
 (cond (decide (v3 ≤ v1))
 ((FF n 42 [.one (.int .i64 (IntKind.i64.wrap (v1 - v3))), .one (.ptr 0 0)] [.cells [.int .i64 v4]]).bind fun x0 =>
 (objC x0.2 fun x1 x2 =>
 (intC .i64 x1 fun x3 x4 =>
 (nilC x4
 (nilV x0.1 (nilO x2
 (L_impl_free_impl_maxFree_1_0 n n v3 v2 ((v2.length : Int) : Int) 0 x3 v0 v1 v2)))))))
 (L_impl_free_impl_maxFree_1_0 n n v3 v2 ((v2.length : Int) : Int) 0 v4 v0 v1 v2))
 (L_impl_free_impl_maxFree_1_0 n n v3 v2 ((v2.length : Int) : Int) 0 v4 v0 v1 v2)) := by kernel_rfl
theorem E_impl_under (n : Nat) (v0 v1 : Int) : FF (n + 1) 43 [.one (.int .i64 v0), .one (.int .i64 v1)] [] =
 (cond (decide (v1 = 1))
 ((FF n 47 [.one (.int .i64 v0)] []).bind fun x0 =>
 (rBool x0.1 fun x1 x2 =>
 (nilV x2 (nilO x0.2
 (cond x1
 (some ([.one (.int .i64 1)], []))
 (some ([.one (.int .i64 0)], [])))))))
 (some ([.one (.int .i64 0)], []))) := by kernel_rfl
noncomputable def L_impl_termText_0 (n c : Nat) (v0 : List ByteArray) (v1 : ByteArray) (v2 : List T) (v3 v4 : Int) : OR := runLoop Tryd.prog SS n 44 0 [1, 1, 1, 1, 1, 0, 1, 0] [] c ⟨[anyV, anyV, anyV, anyV, .v (.one (.fr (.ss v0))), .v (.one (.str v1)), anyV, anyV, anyV, anyV, anyV, anyV, anyV, anyV, anyV, anyV, anyV, anyV, anyV, anyV, anyV, anyV, anyV, anyV, anyV, anyV, anyV, anyV, anyV, anyV, anyV, anyV, anyV, .v (.one (.fr (.ts v2))), .v (.one (.int .i64 v3)), .v (.one (.int .i64 v4)), anyV, anyV, anyV, anyV, anyV, anyV, anyV, anyV, anyV, anyV, anyV, anyV, anyV, anyV, anyV, anyV],
 []⟩
theorem E_impl_termText (n : Nat) (v0 v1 : Int) (v2 : List T) : FF (n + 1) 44 [.agg [.int .i64 v0, .int .i64 v1, .fr (.ts v2)]] [] =
 ((FF n 46 [] []).bind fun x0 =>
 (rSs x0.1 fun x1 x2 =>
 (nilV x2 (nilO x0.2
 (cond (decide (0 ≤ (IntKind.i64.wrap (v0 - 1))))
 (x1[((IntKind.i64.wrap (v0 - 1)) : Int).toNat]?.bind fun x3 =>
 (cond (decide (v0 = 1))
 ((FF n 63 [.one (.int .i64 v1)] []).bind fun x4 =>
 (rStr x4.1 fun x5 x6 =>
 (nilV x6 (nilO x4.2
 (cond (decide (x3.size + x5.size ≤ 9223372036854775807))
 (some ([.one (.str (x3 ++ x5))], []))
 none)))))
 (cond (decide (v0 = 2))
 ((FF n 63 [.one (.int .i64 v1)] []).bind fun x4 =>
 (rStr x4.1 fun x5 x6 =>
 (nilV x6 (nilO x4.2
 (cond (decide (x3.size + x5.size ≤ 9223372036854775807))
 (some ([.one (.str (x3 ++ x5))], []))
 none)))))
 ((FF n 45 [.one (.str x3), .one (.str (bytesOf [46]))] []).bind fun x4 =>
 (rSs x4.1 fun x5 x6 =>
 (nilV x6 (nilO x4.2
 (x5[(0 : Int).toNat]?.bind fun x7 =>
 L_impl_termText_0 n n x5 x7 v2 ((v2.length : Int) : Int) 0))))))))
 none))))) := by kernel_rfl
theorem E_impl_shapes (n : Nat) : FF (n + 1) 46 [] [] =
 some ([.one (.fr (.ss [(bytesOf [35]), (bytesOf [42]), (bytesOf [40, 46, 62, 46, 41]), (bytesOf [91, 46, 93, 46]), (bytesOf [40, 46, 32, 46, 41]), (bytesOf [78]), (bytesOf [48]), (bytesOf [43, 46]), (bytesOf [60, 46, 44, 46, 44, 46, 44, 46, 62]), (bytesOf [123, 46, 44, 46, 44, 46, 125]), (bytesOf [33, 46]), (bytesOf [64, 60, 46, 44, 46, 44, 46, 62]), (bytesOf [40, 46, 42, 46, 41]), (bytesOf [124, 46, 44, 46, 44, 46, 124]), (bytesOf [94, 46]), (bytesOf [95, 46])]))], []) := by kernel_rfl
theorem E_impl_isBinder (n : Nat) (v0 : Int) : FF (n + 1) 47 [.one (.int .i64 v0)] [] =
 (cond (decide (v0 = 3))
 (some ([.one (.bool true)], []))
 (cond (decide (v0 = 4))
 (some ([.one (.bool true)], []))
 (some ([.one (.bool (decide (v0 = 13)))], [])))) := by kernel_rfl
noncomputable def L_impl_fresh_0 (n c : Nat) (v0 : ByteArray) (v1 : Int) : OR := runLoop Tryd.prog SS n 48 0 [1, 0, 1, 0] [] c ⟨[.v (.one (.str v0)), anyV, anyV, .v (.one (.int .u8 v1)), anyV, anyV, anyV, anyV, anyV, anyV, anyV, anyV, anyV, anyV, anyV],
 []⟩
theorem L_impl_fresh_0_eq (n c : Nat) (v0 : ByteArray) (v1 : Int) : L_impl_fresh_0 n (c + 1) v0 v1 =
 (cond (decide (v1 < 122))
 ((FF n 40 [.one (.str v0), .one (.int .u8 v1)] []).bind fun x0 =>
 (rInt .i64 x0.1 fun x1 x2 =>
 (nilV x2 (nilO x0.2
 (cond (decide (x1 < 0))
 (cond (decide (0 ≤ v1) && decide (v1 ≤ 255))
 (some ([.one (.str (ByteArray.mk ([(UInt8.ofNat v1.toNat)]).toArray))], []))
 none)
 (L_impl_fresh_0 n c v0 (IntKind.u8.wrap (v1 + 1))))))))
 (some ([.one (.str (bytesOf [122]))], []))) := by kernel_rfl
theorem E_impl_fresh (n : Nat) (v0 : ByteArray) : FF (n + 1) 48 [.one (.str v0)] [] =
 L_impl_fresh_0 n n v0 97 := by kernel_rfl
theorem E_spec_l1Kids (n : Nat) (v0 : Int) : FF (n + 1) 53 [.one (.int .i64 v0)] [] =
 (cond (decide (v0 = 1))
 (some ([.one (.int .i64 0)], []))
 (cond (decide (v0 = 2))
 (some ([.one (.int .i64 0)], []))
 (cond (decide (v0 = 6))
 (some ([.one (.int .i64 0)], []))
 (cond (decide (v0 = 7))
 (some ([.one (.int .i64 0)], []))
 (cond (decide (v0 = 8))
 (some ([.one (.int .i64 1)], []))
 (cond (decide (v0 = 11))
 (some ([.one (.int .i64 1)], []))
 (cond (decide (v0 = 15))
 (some ([.one (.int .i64 1)], []))
 (cond (decide (v0 = 16))
 (some ([.one (.int .i64 1)], []))
 (cond (decide (v0 = 3))
 (some ([.one (.int .i64 2)], []))
 (cond (decide (v0 = 4))
 (some ([.one (.int .i64 2)], []))
 (cond (decide (v0 = 5))
 (some ([.one (.int .i64 2)], []))
 (cond (decide (v0 = 13))
 (some ([.one (.int .i64 2)], []))
 (cond (decide (v0 = 10))
 (some ([.one (.int .i64 3)], []))
 (cond (decide (v0 = 12))
 (some ([.one (.int .i64 3)], []))
 (cond (decide (v0 = 14))
 (some ([.one (.int .i64 3)], []))
 (cond (decide (v0 = 9))
 (some ([.one (.int .i64 4)], []))
 (some ([.one (.int .i64 (-1))], [])))))))))))))))))) := by kernel_rfl
theorem E_spec_l1Most (n : Nat) (v0 : Int) : FF (n + 1) 54 [.one (.int .i64 v0)] [] =
 (cond (decide (v0 = 1))
 (some ([.one (.int .i64 20)], []))
 (cond (decide (v0 = 2))
 (some ([.one (.int .i64 3)], []))
 (some ([.one (.int .i64 0)], [])))) := by kernel_rfl
theorem E_spec_l2Binds (n : Nat) (v0 v1 : Int) : FF (n + 1) 55 [.one (.int .i64 v0), .one (.int .i64 v1)] [] =
 (cond (decide (v1 = 1))
 (cond (decide (v0 = 3))
 (some ([.one (.bool true)], []))
 (cond (decide (v0 = 4))
 (some ([.one (.bool true)], []))
 (some ([.one (.bool (decide (v0 = 13)))], []))))
 (some ([.one (.bool false)], []))) := by kernel_rfl
noncomputable def L_spec_l6Fresh_0 (n c : Nat) (v0 : ByteArray) (v1 : Int) : OR := runLoop Tryd.prog SS n 56 0 [1, 0, 1, 0] [] c ⟨[.v (.one (.str v0)), anyV, anyV, .v (.one (.int .u8 v1)), anyV, anyV, anyV, anyV, anyV, anyV, anyV, anyV, anyV],
 []⟩
theorem L_spec_l6Fresh_0_eq (n c : Nat) (v0 : ByteArray) (v1 : Int) : L_spec_l6Fresh_0 n (c + 1) v0 v1 =
 (cond (decide (v1 ≤ 122))
 ((FF n 32 [.one (.str v0), .one (.int .u8 v1)] []).bind fun x0 =>
 (rInt .i64 x0.1 fun x1 x2 =>
 (nilV x2 (nilO x0.2
 (cond (decide (x1 < 0))
 (some ([.one (.int .u8 v1)], []))
 (L_spec_l6Fresh_0 n c v0 (IntKind.u8.wrap (v1 + 1))))))))
 (some ([.one (.int .u8 0)], []))) := by kernel_rfl
theorem E_spec_l6Fresh (n : Nat) (v0 : ByteArray) : FF (n + 1) 56 [.one (.str v0)] [] =
 L_spec_l6Fresh_0 n n v0 97 := by kernel_rfl
noncomputable def L_spec_l19Dec_0 (n c : Nat) (v0 : Int) (v1 : ByteArray) : OR := runLoop Tryd.prog SS n 57 0 [1, 1, 1, 1, 0, 0] [] c ⟨[.v (.one (.int .i64 v0)), anyV, anyV, .v (.one (.str v1)), anyV, anyV, anyV, anyV, anyV, anyV, anyV, anyV, anyV, anyV, anyV, anyV, anyV, anyV, anyV, anyV, anyV, anyV, anyV, anyV, anyV, anyV, anyV, anyV, anyV, anyV, anyV],
 []⟩
theorem L_spec_l19Dec_0_eq (n c : Nat) (v0 : Int) (v1 : ByteArray) : L_spec_l19Dec_0 n (c + 1) v0 v1 =
 (cond (decide (9 < v0))
 (cond (decide (0 ≤ (IntKind.u8.wrap (IntKind.i64.wrap (48 + (Int.tmod v0 10))))) && decide ((IntKind.u8.wrap (IntKind.i64.wrap (48 + (Int.tmod v0 10)))) ≤ 255))
 (cond (decide ((ByteArray.mk ([(UInt8.ofNat (IntKind.u8.wrap (IntKind.i64.wrap (48 + (Int.tmod v0 10)))).toNat)]).toArray).size + v1.size ≤ 9223372036854775807))
 (L_spec_l19Dec_0 n c (IntKind.i64.wrap (Int.tdiv v0 10)) (((ByteArray.mk ([(UInt8.ofNat (IntKind.u8.wrap (IntKind.i64.wrap (48 + (Int.tmod v0 10)))).toNat)]).toArray) ++ v1) : ByteArray))
 none)
 none)
 (cond (decide (0 ≤ (IntKind.u8.wrap (IntKind.i64.wrap (48 + v0)))) && decide ((IntKind.u8.wrap (IntKind.i64.wrap (48 + v0))) ≤ 255))
 (cond (decide ((ByteArray.mk ([(UInt8.ofNat (IntKind.u8.wrap (IntKind.i64.wrap (48 + v0))).toNat)]).toArray).size + v1.size ≤ 9223372036854775807))
 (some ([.one (.str ((ByteArray.mk ([(UInt8.ofNat (IntKind.u8.wrap (IntKind.i64.wrap (48 + v0))).toNat)]).toArray) ++ v1))], []))
 none)
 none)) := by kernel_rfl
theorem E_spec_l19Dec (n : Nat) (v0 : Int) : FF (n + 1) 57 [.one (.int .i64 v0)] [] =
 (cond (decide (v0 < (-9223372036854775807)))
 (some ([.one (.str (bytesOf [45, 57, 50, 50, 51, 51, 55, 50, 48, 51, 54, 56, 53, 52, 55, 55, 53, 56, 48, 56]))], []))
 (cond (decide (v0 < 0))
 ((FF n 57 [.one (.int .i64 (IntKind.i64.wrap (0 - v0)))] []).bind fun x0 =>
 (rStr x0.1 fun x1 x2 =>
 (nilV x2 (nilO x0.2
 (cond (decide ((bytesOf [45]).size + x1.size ≤ 9223372036854775807))
 (some ([.one (.str ((bytesOf [45]) ++ x1))], []))
 none)))))
 (L_spec_l19Dec_0 n n v0 (bytesOf [])))) := by kernel_rfl
theorem E_impl_operands (n : Nat) (v0 : Int) : FF (n + 1) 59 [.one (.int .i64 v0)] [] =
 ((FF n 60 [.one (.int .i64 v0), .one (.int .i64 1), .one (.int .i64 16)] []).bind fun x0 =>
 (rBool x0.1 fun x1 x2 =>
 (nilV x2 (nilO x0.2
 (cond (!x1)
 (some ([.one (.int .i64 (-1))], []))
 (cond (decide (0 ≤ (IntKind.i64.wrap (v0 - 1))))
 (cond (decide ((IntKind.i64.wrap (v0 - 1)) < (([0, 0, 2, 2, 2, 0, 0, 1, 4, 3, 1, 3, 2, 3, 1, 1]).length : Int)))
 (([0, 0, 2, 2, 2, 0, 0, 1, 4, 3, 1, 3, 2, 3, 1, 1])[((IntKind.i64.wrap (v0 - 1)) : Int).toNat]?.bind fun x3 =>
 some ([.one (.int .i64 x3)], []))
 none)
 none)))))) := by kernel_rfl
theorem E_impl_most (n : Nat) (v0 : Int) : FF (n + 1) 61 [.one (.int .i64 v0)] [] =
 (cond (decide (v0 = 1))
 (some ([.one (.int .i64 20)], []))
 (cond (decide (v0 = 2))
 (some ([.one (.int .i64 3)], []))
 (some ([.one (.int .i64 0)], [])))) := by kernel_rfl
theorem E_impl_within (n : Nat) (v0 v1 v2 : Int) : FF (n + 1) 60 [.one (.int .i64 v0), .one (.int .i64 v1), .one (.int .i64 v2)] [] =
 (cond (decide (v1 ≤ v0))
 (some ([.one (.bool (decide (v0 ≤ v2)))], []))
 (some ([.one (.bool false)], []))) := by kernel_rfl
theorem E_stringslite_IndexByte (n : Nat) (v0 : ByteArray) (v1 : Int) : FF (n + 1) 62 [.one (.str v0), .one (.int .u8 v1)] [] =
 (cond (decide (0 ≤ v1) && decide (v1 ≤ 255))
 (some ([.one (.int .i64 (idxB v0 (UInt8.ofNat (v1 : Int).toNat)))], []))
 none) := by kernel_rfl
theorem E_impl_maxFree_1 (n : Nat) (v0 v1 : Int) : FF (n + 1) 42 [.one (.int .i64 v0), .one (.ptr 0 0)] [.cells [.int .i64 v1]] =
 some ([], [.cells [.int .i64 (max v1 (IntKind.i64.wrap (v0 + 1)))]]) := by kernel_rfl
end Go.Proofs.YtnogehmgpfpjmaaDoor
end
section
namespace Go.Proofs.YtnogehmgpfpjmaaDoor
open Go Go.Ab Go.Dk
end Go.Proofs.YtnogehmgpfpjmaaDoor
end
section

end
section
namespace Go.Ab
open Go Go.Dk
open Go.ChangeShapes Go.WideShapes Go.ChangeAt Go.RowKit
end Go.Ab
end
section
namespace Go.Proofs.YtnogehmgpfpjmaaDoor
open Go Go.Ab Go.Dk
end Go.Proofs.YtnogehmgpfpjmaaDoor
end
section
namespace Go.Proofs.YtnogehmgpfpjmaaDoor
open Go.Shelf
def laysM171_ren : Go.Shelf.Ren := ⟨fun | 171 => 63 | 243 => 79 | 246 => 93 | 283 => 103 | 284 => 104 | 285 => 105 | 286 => 106 | 129 => 117 | 317 => 116 | 318 => 118 | 319 => 119 | 320 => 120 | 337 => 125 | 338 => 126 | n => n, fun | 3 => 3 | 9 => 9 | 2 => 2 | 4 => 4 | 171 => 102 | 0 => 0 | 53 => 103 | 37 => 67 | 5 => 5 | 173 => 106 | 212 => 116 | 51 => 117 | 20 => 20 | 213 => 118 | 46 => 108 | 232 => 137 | 233 => 138 | n => n, fun | 17 => 1 | 18 => 6 | 19 => 7 | n => n⟩
theorem laysM171 : Go.Proofs.LaysM.n171 Tryd.prog laysM171_ren := {
 mixed := by kernel_rfl
 f129 := Tryd.func117.trans (congrArg some (by kernel_rfl))
 f171 := Tryd.func63.trans (congrArg some (by kernel_rfl))
 f243 := Tryd.func79.trans (congrArg some (by kernel_rfl))
 f246 := Tryd.func93.trans (congrArg some (by kernel_rfl))
 f283 := Tryd.func103.trans (congrArg some (by kernel_rfl))
 f284 := Tryd.func104.trans (congrArg some (by kernel_rfl))
 f285 := Tryd.func105.trans (congrArg some (by kernel_rfl))
 f286 := Tryd.func106.trans (congrArg some (by kernel_rfl))
 f317 := Tryd.func116.trans (congrArg some (by kernel_rfl))
 f318 := Tryd.func118.trans (congrArg some (by kernel_rfl))
 f319 := Tryd.func119.trans (congrArg some (by kernel_rfl))
 f320 := Tryd.func120.trans (congrArg some (by kernel_rfl))
 f337 := Tryd.func125.trans (congrArg some (by kernel_rfl))
 f338 := Tryd.func126.trans (congrArg some (by kernel_rfl))
 t0 := Tryd.underlying0
 a0 := Tryd.isAgg0
 z0 := Tryd.sizeOf0
 v0 := Tryd.zeroValue0
 t2 := Tryd.underlying2
 a2 := Tryd.isAgg2
 z2 := Tryd.sizeOf2
 v2 := Tryd.zeroValue2
 t3 := Tryd.underlying3
 a3 := Tryd.isAgg3
 z3 := Tryd.sizeOf3
 v3 := Tryd.zeroValue3
 t4 := Tryd.underlying4
 a4 := Tryd.isAgg4
 z4 := Tryd.sizeOf4
 v4 := Tryd.zeroValue4
 t5 := Tryd.underlying5
 a5 := Tryd.isAgg5
 z5 := Tryd.sizeOf5
 v5 := Tryd.zeroValue5
 t9 := Tryd.underlying9
 a9 := Tryd.isAgg9
 z9 := Tryd.sizeOf9
 v9 := Tryd.zeroValue9
 t20 := Tryd.underlying20
 a20 := Tryd.isAgg20
 z20 := Tryd.sizeOf20
 v20 := Tryd.zeroValue20
 t37 := Tryd.underlying67
 a37 := Tryd.isAgg67
 z37 := Tryd.sizeOf67
 v37 := Tryd.zeroValue67
 t46 := Tryd.underlying108
 a46 := Tryd.isAgg108
 z46 := Tryd.sizeOf108
 v46 := Tryd.zeroValue108
 t51 := Tryd.underlying117
 a51 := Tryd.isAgg117
 z51 := Tryd.sizeOf117
 v51 := Tryd.zeroValue117
 t53 := Tryd.underlying103
 a53 := Tryd.isAgg103
 z53 := Tryd.sizeOf103
 v53 := Tryd.zeroValue103
 t171 := Tryd.underlying102
 a171 := Tryd.isAgg102
 z171 := Tryd.sizeOf102
 v171 := Tryd.zeroValue102
 t173 := Tryd.underlying106
 a173 := Tryd.isAgg106
 z173 := Tryd.sizeOf106
 v173 := Tryd.zeroValue106
 t212 := Tryd.underlying116
 a212 := Tryd.isAgg116
 z212 := Tryd.sizeOf116
 v212 := Tryd.zeroValue116
 t213 := Tryd.underlying118
 a213 := Tryd.isAgg118
 z213 := Tryd.sizeOf118
 t232 := Tryd.underlying137
 a232 := Tryd.isAgg137
 z232 := Tryd.sizeOf137
 v232 := Tryd.zeroValue137
 t233 := Tryd.underlying138
 a233 := Tryd.isAgg138
 z233 := Tryd.sizeOf138
 v233 := Tryd.zeroValue138
 g17 := by kernel_rfl
 g18 := by kernel_rfl
 g19 := by kernel_rfl
 i0 := by kernel_rfl
 i2 := by kernel_rfl
 i3 := by kernel_rfl
 i4 := by kernel_rfl
 i5 := by kernel_rfl
 i9 := by kernel_rfl
 i20 := by kernel_rfl
 i37 := by kernel_rfl
 i46 := by kernel_rfl
 i51 := by kernel_rfl
 i53 := by kernel_rfl
 i171 := by kernel_rfl
 i173 := by kernel_rfl
 i212 := by kernel_rfl
 i232 := by kernel_rfl
 i233 := by kernel_rfl
 m17 := by kernel_rfl
 m18 := by kernel_rfl
 m19 := by kernel_rfl }
def lays146_ren : Go.Shelf.Ren := ⟨fun | 146 => 45 | 221 => 64 | 268 => 80 | 138 => 81 | 143 => 82 | 195 => 94 | 197 => 95 | 218 => 96 | 219 => 97 | 260 => 107 | 217 => 62 | 225 => 108 | 224 => 109 | 267 => 110 | 266 => 78 | 314 => 121 | n => n, fun | 9 => 9 | 31 => 53 | 3 => 3 | 4 => 4 | 0 => 0 | 105 => 95 | 21 => 21 | 5 => 5 | 46 => 108 | 119 => 120 | 139 => 123 | 138 => 122 | 146 => 124 | 51 => 117 | n => n, fun | 1 => 0 | 3 => 2 | 4 => 3 | n => n⟩
theorem lays146 : Go.Proofs.Lays.n146 Tryd.prog lays146_ren := {
 mixed := by kernel_rfl
 f138 := Tryd.func81.trans (congrArg some (by kernel_rfl))
 f143 := Tryd.func82.trans (congrArg some (by kernel_rfl))
 f146 := Tryd.func45.trans (congrArg some (by kernel_rfl))
 f195 := Tryd.func94.trans (congrArg some (by kernel_rfl))
 f197 := Tryd.func95.trans (congrArg some (by kernel_rfl))
 f217 := Tryd.func62.trans (congrArg some (by kernel_rfl))
 f218 := Tryd.func96.trans (congrArg some (by kernel_rfl))
 f219 := Tryd.func97.trans (congrArg some (by kernel_rfl))
 f221 := Tryd.func64.trans (congrArg some (by kernel_rfl))
 f224 := Tryd.func109.trans (congrArg some (by kernel_rfl))
 f225 := Tryd.func108.trans (congrArg some (by kernel_rfl))
 f260 := Tryd.func107.trans (congrArg some (by kernel_rfl))
 f266 := Tryd.func78.trans (congrArg some (by kernel_rfl))
 f267 := Tryd.func110.trans (congrArg some (by kernel_rfl))
 f268 := Tryd.func80.trans (congrArg some (by kernel_rfl))
 f314 := Tryd.func121.trans (congrArg some (by kernel_rfl))
 t0 := Tryd.underlying0
 a0 := Tryd.isAgg0
 z0 := Tryd.sizeOf0
 v0 := Tryd.zeroValue0
 t3 := Tryd.underlying3
 a3 := Tryd.isAgg3
 z3 := Tryd.sizeOf3
 v3 := Tryd.zeroValue3
 t4 := Tryd.underlying4
 a4 := Tryd.isAgg4
 z4 := Tryd.sizeOf4
 v4 := Tryd.zeroValue4
 t5 := Tryd.underlying5
 a5 := Tryd.isAgg5
 z5 := Tryd.sizeOf5
 v5 := Tryd.zeroValue5
 t9 := Tryd.underlying9
 a9 := Tryd.isAgg9
 z9 := Tryd.sizeOf9
 v9 := Tryd.zeroValue9
 t21 := Tryd.underlying21
 a21 := Tryd.isAgg21
 z21 := Tryd.sizeOf21
 v21 := Tryd.zeroValue21
 t31 := Tryd.underlying53
 a31 := Tryd.isAgg53
 z31 := Tryd.sizeOf53
 v31 := Tryd.zeroValue53
 t46 := Tryd.underlying108
 a46 := Tryd.isAgg108
 z46 := Tryd.sizeOf108
 v46 := Tryd.zeroValue108
 t51 := Tryd.underlying117
 a51 := Tryd.isAgg117
 z51 := Tryd.sizeOf117
 v51 := Tryd.zeroValue117
 t105 := Tryd.underlying95
 a105 := Tryd.isAgg95
 z105 := Tryd.sizeOf95
 v105 := Tryd.zeroValue95
 t119 := Tryd.underlying120
 a119 := Tryd.isAgg120
 z119 := Tryd.sizeOf120
 t138 := Tryd.underlying122
 a138 := Tryd.isAgg122
 z138 := Tryd.sizeOf122
 v138 := Tryd.zeroValue122
 t139 := Tryd.underlying123
 a139 := Tryd.isAgg123
 z139 := Tryd.sizeOf123
 v139 := Tryd.zeroValue123
 t146 := Tryd.underlying124
 a146 := Tryd.isAgg124
 z146 := Tryd.sizeOf124
 v146 := Tryd.zeroValue124
 g1 := by kernel_rfl
 g3 := by kernel_rfl
 g4 := by kernel_rfl }
end Go.Proofs.YtnogehmgpfpjmaaDoor
end
section
namespace Go.Ab
open Go Go.Dk
theorem abs_call {P : Program} [DrM P] {S : Say} (hp : PrimsOK P S) (hib : ∀ f, S.D.ib f = true → extIB P f) {f : FuncId} {fn : Func} {n : Nat} {args outs : List V1} {vals : List Value} {w : World} {Z : Zone}
   (hfn : P.funcs[f]? = some fn) (hb : fn.body.isSome = true) (hr : All2 (RV1 [] Z w) args vals) (hgl : GL noneZ w) (h : evF P S n f args [] = some (outs, [])) :
   Calls P f vals.toArray w fun e w' => ∃ xs : List Value, e = .returned (if h : xs.toArray.size = 1 then xs.toArray[0] else .tuple xs.toArray) ∧ Grow w w' ∧ All2 (RV1 [] (fun b => Z b ∨ w.heap.size ≤ b) w') outs xs := by
 have hr' : All2 (RV [] Z w) (args.map .v) vals := by
  refine ⟨by simpa using hr.1, fun i a b ha hb => ?_⟩
  rw [List.getElem?_map] at ha
  cases hx : args[i]? with
  | none => rw [hx] at ha; cases ha
  | some x =>
   rw [hx] at ha
   obtain rfl : AV.v x = a := Option.some.inj ha
   exact hr.2 i x b hx hb
 have h0 : InvG w noneZ Z 0 [] ⟨args.map .v, []⟩ vals w := by
  refine ⟨St.init w noneZ Z (relF_stable _ _ _) ⟨hr', All2.nil⟩, fun j _ hl => by simp at hl, fun k hk => hk.elim, hgl⟩
 have := abs_sound hp hib n f fn args [] _ hfn hb h w noneZ Z [] vals w h0
 refine this.mono fun e w' ⟨xs, G', he, hI, _⟩ => ?_
 have hG : G' = [] := hI.st.per.2.nil_inv
 subst hG
 have hs := relF_stable ⟨outs.map .v, []⟩ [] xs _ (fun b => Z b ∨ w.heap.size ≤ b) w' w' (fun b hb _ => ⟨hb.1, rfl⟩) hI.st.per
 refine ⟨xs, he, hI.st.ext, ?_⟩
 refine ⟨by simpa using hs.1.1, fun i a b ha hb => ?_⟩
 exact hs.1.2 i (.v a) b (by rw [List.getElem?_map, ha]; rfl) hb
theorem term_arg' {t : HT} {w : World} {Z : Zone} (h : Rd Z w t) : RV1 [] Z w (.agg [.int .i64 t.er.k, .int .i64 t.er.n, .fr (.ts t.er.kids)]) t.val := by
 refine ⟨[.int .i64 t.k, .int .i64 t.n, t.sl], ?_, All2.cons ?_ (All2.cons ?_ (All2.cons ⟨Rd_sl h, rfl⟩ All2.nil))⟩
 ·cases t; rfl
 ·rw [HT.er_k]; exact ⟨rfl, rfl⟩
 ·rw [HT.er_n]; exact ⟨rfl, rfl⟩
theorem str_arg' {x : ByteArray} {w : World} {Z : Zone} : RV1 [] Z w (.one (.str x)) (.string x) := ⟨rfl, fun _ => rfl⟩
end Go.Ab
end
section
namespace Go.Dk
open Go
section
variable {P : Program} {ops : Array Oper} {Q : Exit → Act → World → Prop} {dr : Bool} {fu k : Nat} {rest : List (Nat × Oper)} {a : Act} {w w0 : World} {M Z0 : Zone} {L : List Res} {φ : Fact}
 {d : Option Tmp} {ty : TypeId} {pos : String} {aft : Array Edge} {gd : Option (Nat × Bool)} {x y : Operand} {t t' : TypeId}
end
end Go.Dk
namespace Go.Dk
open Go
end Go.Dk
end
section
namespace Go.Dk
open Go
section
variable {P : Program} {ops : Array Oper} {Q : Exit → Act → World → Prop} {dr : Bool} {fu k : Nat} {rest : List (Nat × Oper)} {a : Act} {w w0 : World} {M Z0 : Zone} {L : List Res} {φ : Fact} {S : World → Prop}
 {d : Option Tmp} {ty : TypeId} {pos : String} {aft : Array Edge} {gd : Option (Nat × Bool)} {x y : Operand} {t t' : TypeId}
end
end Go.Dk
namespace Go.Proofs.YtnogehmgpfpjmaaDoor
open Go Go.Ab Go.Dk
theorem gl_facts {w : World} (h : GL noneZ w) : (∃ m, w.cell? ⟨0, 0, none⟩ = some (.int .i64 m)) ∧
   ∃ t p, w.heap[1]? = some (.cells (Lib.pow10Tab.map fun z => Value.int .u64 z).toArray t p) := by
 obtain ⟨W, ⟨⟨m, h1⟩, t, p, h4⟩, hk⟩ := h
 exact ⟨⟨m, (cell_keep (hk _ (by decide)).2.2).trans h1⟩, t, p, (hk _ (by decide)).2.2.trans h4⟩
theorem tab_is {w : World} (h : GL noneZ w) {n : String} (hn : Tryd.prog.globalNamed n = some 1) : Lib.TabIs Tryd.prog w n .u64 Lib.pow10Tab := by
 obtain ⟨_, t, p, h4⟩ := gl_facts h
 unfold Lib.TabIs World.var?
 rw [hn]
 simp only [Option.bind_some, h4]
theorem i_Itoa (n : Int) (h0 : 0 ≤ n) (h1 : n ≤ 9223372036854775807) (w : World) (hgl : GL noneZ w) : Calls Tryd.prog 63 #[.int .i64 n] w fun e w' => e = .returned (.string (bytesOf (Lib.itoa n))) ∧ Grow w w' :=
 (Any.strconv_Itoa laysM171 n (by omega) h1 w (tab_is hgl (by kernel_rfl))).mono fun e w' ⟨he, k, os, hw⟩ => ⟨he, by
  subst hw
  refine ⟨rfl, rfl, rfl, ?_, fun b hb _ => ?_⟩
  ·show w.heap.size ≤ (w.heap ++ os).size; simp
  ·show (w.heap ++ os)[b]? = w.heap[b]?
   rw [Array.getElem?_append_left hb]⟩
theorem split_tab : ∀ e ∈ shTab, (Lib.splitB (bytesOf [46]) 0 (Lib.countB (bytesOf e.1) (bytesOf [46])) (bytesOf e.1)).map ByteArray.toList = e.2 ∧ Lib.countB (bytesOf e.1) (bytesOf [46]) + 1 = e.2.length := by decide +kernel
theorem lookup_mem2 {α β : Type} [BEq α] [LawfulBEq α] {a : α} {b : β} : ∀ {l : List (α × β)}, l.lookup a = some b → ∃ e ∈ l, e.1 = a ∧ e.2 = b
 | [], h => by cases h
 | (x1, x2) :: l, h => by
  rw [List.lookup_cons] at h
  cases hb : a == x1 with
  | true =>
   rw [hb] at h
   simp only [Option.some.injEq] at h
   exact ⟨(x1, x2), by simp, (eq_of_beq hb).symm, h⟩
  | false =>
   rw [hb] at h
   obtain ⟨e, he, h1, h2⟩ := lookup_mem2 h
   exact ⟨e, by simp [he], h1, h2⟩
theorem lookup_mem {α β : Type} [BEq α] [LawfulBEq α] {a : α} {b : β} {l : List (α × β)} (h : l.lookup a = some b) : ∃ e ∈ l, e.2 = b := by
 obtain ⟨e, h1, _, h2⟩ := lookup_mem2 h
 exact ⟨e, h1, h2⟩
theorem i_Split (s : ByteArray) (ps : List (List UInt8)) (hs : shTab.lookup s.toList = some ps) (w : World) (hgl : GL noneZ w) : Calls Tryd.prog 45 #[.string s, .string (bytesOf [46])] w fun e w' =>
   ∃ b, e = .returned (.slice (some ⟨b, 0, none⟩) ps.length ps.length) ∧ Grow w w' ∧ w.heap.size ≤ b ∧ w'.heap[b]? = some (.cells ((ps.map bytesOf).map Value.string).toArray 9 (0, 0)) := by
 obtain ⟨⟨m, hm⟩, _⟩ := gl_facts hgl
 have hmem := lookup_mem2 hs
 obtain ⟨⟨l, ps'⟩, he, h1, h2⟩ := hmem
 simp only at h1 h2
 subst h2
 have hsb : s = bytesOf l := by rw [h1]; unfold bytesOf; apply ByteArray.ext; simp [ByteArray.toList_eq]
 subst hsb
 obtain ⟨t1, t2⟩ := split_tab _ he
 simp only at t1 t2
 have hl : l.length ≤ 100 := by
  have : ∀ e ∈ shTab, e.1.length ≤ 100 := by decide
  exact this _ he
 have hsz : (bytesOf l).size < 4294967281 := by show l.toArray.size < _; simp; omega
 have t3 : Lib.splitB (bytesOf [46]) 0 (Lib.countB (bytesOf l) (bytesOf [46])) (bytesOf l) = ps'.map bytesOf := by
  rw [← t1, List.map_map]
  conv => lhs; rw [← List.map_id (Lib.splitB _ _ _ _)]
  apply List.map_congr_left
  intro b _
  show b = bytesOf b.toList
  unfold bytesOf; apply ByteArray.ext; simp [ByteArray.toList_eq]
 refine (Any.strings_Split lays146 (by kernel_rfl) (bytesOf l) (bytesOf [46]) m w hsz hm (by decide)).mono fun e w' ⟨he, hw⟩ => ⟨w.heap.size, ?_, ?_, Nat.le_refl _, ?_⟩
 ·rw [he, t2]
 ·rw [hw]; exact Grow.alloc _ _
 ·rw [hw, t3]; exact alloc_get _ _
end Go.Proofs.YtnogehmgpfpjmaaDoor
end
section
namespace Go.Proofs.YtnogehmgpfpjmaaDoor
open Go Go.Ab Go.Dk
theorem primF_some {f : FuncId} {g : List V1 → OR} (h : primF f = some g) : (f = 63 ∧ g = itP) ∨ (f = 45 ∧ g = spP) := by
 unfold primF at h
 have key : ∀ (a : Nat) (x y : Option (List V1 → OR)), cond (Nat.beq f a) x y = some g → (f = a ∧ x = some g) ∨ y = some g := by
  intro a x y h
  cases hb : Nat.beq f a with
  | true => rw [hb] at h; exact .inl ⟨Nat.eq_of_beq_eq_true hb, h⟩
  | false => rw [hb] at h; exact .inr h
 rcases key _ _ _ h with ⟨h1, h2⟩ | h
 ·first | exact .inl ⟨h1, (Option.some.inj h2).symm⟩ | exact .inr ⟨h1, (Option.some.inj h2).symm⟩
 rcases key _ _ _ h with ⟨h1, h2⟩ | h
 ·first | exact .inl ⟨h1, (Option.some.inj h2).symm⟩ | exact .inr ⟨h1, (Option.some.inj h2).symm⟩
 ·cases h
theorem inv_out {w0 M Z0 G args vals w w'} (hI : InvG w0 M Z0 0 G ⟨args, []⟩ vals w) (hg : Grow w w') {outs : List V1} {xs : List Value} (h : All2 (RV [] (fun b => Go.Dk.zone w0 Z0 [] b ∨ w.heap.size ≤ b) w') (outs.map .v) xs) :
   ∃ G', InvG w0 M Z0 ([] : List AObj).length G' ⟨outs.map .v, []⟩ xs w' ∧ UpW G G' := by
 have hG : G = [] := hI.st.per.2.nil_inv
 subst hG
 have s0 : St w0 M Z0 [] (relF ⟨args, []⟩ [] vals) w := hI.st
 have st : St w0 M Z0 [] (relF ⟨outs.map .v, []⟩ [] xs) w' := (s0.call hg (relF_stable _ _ _) ⟨h, All2.nil⟩).unfact (relF_stable _ _ _) (fun _ _ h => h.1)
 exact ⟨[], ⟨st, fun j _ hl => by simp at hl, hI.mz⟩, UpW.refl _⟩
theorem inv_gl {w0 M Z0 G args vals w} (hI : InvG w0 M Z0 0 G ⟨args, []⟩ vals w) : GL noneZ w := hI.mz.2.now hI.st.ext
theorem hprim : PrimsOK Tryd.prog SS := by
 intro f g args out hf hg w0 M Z0 G vals w hI
 have hgl := inv_gl hI
 rcases primF_some hf with ⟨rfl, rfl⟩ | ⟨rfl, rfl⟩
 ·unfold itP at hg
  split at hg
  ·rename_i n
   split at hg
   ·rename_i hn
    obtain rfl := (Option.some.inj hg)
    obtain ⟨x, xs, rfl, h1, h2⟩ := hI.st.per.1.cons_inv
    obtain rfl := h2.nil_inv
    obtain rfl := int_inv h1
    refine (i_Itoa n hn.1 hn.2 w hgl).mono fun e w' ⟨he, hgr⟩ => ?_
    obtain ⟨G', h3, h4⟩ := inv_out hI hgr (outs := [.one (.str (bytesOf (Lib.itoa n)))]) (xs := [.string (bytesOf (Lib.itoa n))]) (All2.cons ⟨rfl, fun _ => rfl⟩ All2.nil)
    exact ⟨[.string (bytesOf (Lib.itoa n))], G', he, h3, h4⟩
   ·cases hg
  ·cases hg
 ·unfold spP at hg
  split at hg
  ·rename_i s d
   split at hg
   ·rename_i hd
    cases hp : shTab.lookup s.toList with
    | none => rw [hp] at hg; cases hg
    | some ps =>
     rw [hp] at hg
     obtain rfl := (Option.some.inj hg)
     obtain ⟨x, xs, rfl, h1, h2⟩ := hI.st.per.1.cons_inv
     obtain ⟨y, ys, rfl, h3, h4⟩ := h2.cons_inv
     obtain rfl := h4.nil_inv
     obtain rfl := str_inv h1
     obtain rfl := str_inv h3
     have hdb : d = bytesOf [46] := by unfold bytesOf; apply ByteArray.ext; apply Array.toList_inj.1; rw [← ByteArray.toList_eq]; exact hd
     subst hdb
     refine (i_Split s ps hp w hgl).mono fun e w' ⟨b, he, hgr, hb, hc⟩ => ?_
     have hlen : ps.length ≤ 100 := by
      have : ∀ e ∈ shTab, e.2.length ≤ 100 := by decide
      obtain ⟨q, hq, hq2⟩ := lookup_mem hp
      have := this _ hq
      rw [hq2] at this; exact this
     obtain ⟨G', h5, h6⟩ := inv_out hI hgr (outs := [.one (.fr (.ss (ps.map bytesOf)))]) (xs := [.slice (some ⟨b, 0, none⟩) ps.length ps.length]) (All2.cons ⟨⟨some ⟨b, 0, none⟩, ps.length, (ps.map bytesOf).map .string, by simp [SD.len], by simp [SD.len], by simp only [SD.len, maxLen, List.length_map]; omega, rfl, .inr ⟨b, 0, rfl, .inr hb, fun i v hi => by
      simp only [World.cell?, hc]
      simpa using hi⟩⟩, fun _ => rfl⟩ All2.nil)
     exact ⟨[.slice (some ⟨b, 0, none⟩) ps.length ps.length], G', he, h5, h6⟩
   ·cases hg
  ·cases hg
end Go.Proofs.YtnogehmgpfpjmaaDoor
end
section
namespace Go.Proofs.YtnogehmgpfpjmaaDoor
open Go Go.Ab Go.Dk
def Ev (f : FuncId) (args : List V1) (h : List AObj) (r : List V1 × List AObj) : Prop := ∃ N, ∀ n, N ≤ n → FF n f args h = some r
theorem hibX (f : FuncId) (h : Nat.beq f 78 = true) : extIB Tryd.prog f := by
 have : f = 78 := Nat.eq_of_beq_eq_true h
 subst this
 exact XIB.out
theorem hib : ∀ f, SS.D.ib f = true → extIB Tryd.prog f := by
 intro f hf
 first
 | exact hibX f hf
 | exact absurd hf (by decide)
 | cases hf
-- hprim: see XPr, XPq
theorem Ev.of {f : FuncId} {args : List V1} {h : List AObj} {r : List V1 × List AObj} (N : Nat) (hh : ∀ n, N ≤ n → FF (n + 1) f args h = some r) : Ev f args h r :=
 ⟨N + 1, fun n hn => by obtain ⟨m, rfl⟩ : ∃ m, n = m + 1 := ⟨n - 1, by omega⟩; exact hh m (by omega)⟩
theorem wrap64 {a : Int} (h : -9223372036854775808 ≤ a ∧ a ≤ 9223372036854775807) : IntKind.i64.wrap a = a := IntWalk.i64_in _ h
theorem ik_self (a : IntKind) : ikEq a a = true := by simp [ikEq]
theorem nb_self (a : Nat) : Nat.beq a a = true := Nat.beq_refl a
theorem cond_dec {α : Type} (p : Prop) [Decidable p] (a b : α) : cond (decide p) a b = if p then a else b := by by_cases h : p <;> simp [h]
theorem byte_bd (c : UInt8) : 0 ≤ (c.toNat : Int) ∧ (c.toNat : Int) ≤ 255 := by have := c.toNat_lt; omega
theorem byte_rt (c : UInt8) : UInt8.ofNat ((c.toNat : Int)).toNat = c := by simp
theorem byte_ok (c : UInt8) : (decide (0 ≤ (c.toNat : Int)) && decide ((c.toNat : Int) ≤ 255)) = true := by have := byte_bd c; simp; omega
section
variable {V W : Type} (l : List V1) (c : List SV) (o : List AObj)
theorem c_rInt (a : IntKind) (n : Int) (k) : rInt a (.one (.int a n) :: l) k = k n l := by simp [rInt, ikEq]
theorem c_rBool (b : Bool) (k) : rBool (.one (.bool b) :: l) k = k b l := rfl
theorem c_rStr (x : ByteArray) (k) : rStr (.one (.str x) :: l) k = k x l := rfl
theorem c_rTs (x : List T) (k) : rTs (.one (.fr (.ts x)) :: l) k = k x l := rfl
theorem c_rIs (x : List Int) (k) : rIs (.one (.fr (.is x)) :: l) k = k x l := rfl
theorem c_rIss (x : List (List Int)) (k) : rIss (.one (.fr (.iss x)) :: l) k = k x l := rfl
theorem c_rSs (x : List ByteArray) (k) : rSs (.one (.fr (.ss x)) :: l) k = k x l := rfl
theorem c_rBs (x : List UInt8) (k) : rBs (.one (.fr (.bs x)) :: l) k = k x l := rfl
theorem c_rTerm (a b : Int) (x : List T) (k) : rTerm (.agg [.int .i64 a, .int .i64 b, .fr (.ts x)] :: l) k = k (.mk a b x) l := rfl
theorem c_rOwnT (j : Nat) (a b : Int) (k) : rOwnT j (.agg [.int .i64 a, .int .i64 b, .own j 0] :: l) k = k a b l := by simp [rOwnT]
theorem c_rOwn (j : Nat) (k) : rOwn j (.one (.own j 0) :: l) k = k l := by simp [rOwn]
theorem c_rPtr (j : Nat) (k) : rPtr j (.one (.ptr j 0) :: l) k = k l := by simp [rPtr]
theorem c_nilV (k) : nilV [] k = k := rfl
theorem c_nilO (k) : nilO [] k = k := rfl
theorem c_objC (x : List SV) (k) : objC (.cells x :: o) k = k x o := rfl
theorem c_dropC (x : AObj) (k) : dropC (x :: o) k = k o := rfl
theorem c_intC (a : IntKind) (n : Int) (k) : intC a (.int a n :: c) k = k n c := by simp [intC, ikEq]
theorem c_boolC (b : Bool) (k) : boolC (.bool b :: c) k = k b c := rfl
theorem c_strC (x : ByteArray) (k) : strC (.str x :: c) k = k x c := rfl
theorem c_tsC (x : List T) (k) : tsC (.fr (.ts x) :: c) k = k x c := rfl
theorem c_isC (x : List Int) (k) : isC (.fr (.is x) :: c) k = k x c := rfl
theorem c_issC (x : List (List Int)) (k) : issC (.fr (.iss x) :: c) k = k x c := rfl
theorem c_ssC (x : List ByteArray) (k) : ssC (.fr (.ss x) :: c) k = k x c := rfl
theorem c_bsC (x : List UInt8) (k) : bsC (.fr (.bs x) :: c) k = k x c := rfl
theorem c_anyC (x : SV) (k) : anyC (x :: c) k = k c := rfl
theorem c_nilC (k) : nilC [] k = k := rfl
theorem c_arrTs (e : TypeId) (x : List T) (k) : arrTsC e (.arr e (.ts x) 0 false :: o) k = k x o := by simp [arrTsC]
theorem c_arrIs (e : TypeId) (x : List Int) (k) : arrIsC e (.arr e (.is x) 0 false :: o) k = k x o := by simp [arrIsC]
theorem c_arrIss (e : TypeId) (x : List (List Int)) (k) : arrIssC e (.arr e (.iss x) 0 false :: o) k = k x o := by simp [arrIssC]
theorem c_arrSs (e : TypeId) (x : List ByteArray) (k) : arrSsC e (.arr e (.ss x) 0 false :: o) k = k x o := by simp [arrSsC]
theorem c_arrBs (e : TypeId) (x : List UInt8) (k) : arrBsC e (.arr e (.bs x) 0 false :: o) k = k x o := by simp [arrBsC]
end
theorem evs : type_of% (And.intro @Option.bind_some.{0,0} <| And.intro @c_rInt <| And.intro @c_rBool <| And.intro @c_rStr <| And.intro @c_rTs <| And.intro @c_rIs <| And.intro @c_rIss <| And.intro @c_rSs <| And.intro @c_rBs <| And.intro @c_rTerm <| And.intro @c_rOwnT <| And.intro @c_rOwn <| And.intro @c_rPtr <| And.intro @c_nilV <| And.intro @c_nilO <| And.intro @c_objC <| And.intro @c_dropC <| And.intro @c_intC <| And.intro @c_boolC <| And.intro @c_strC <| And.intro @c_tsC <| And.intro @c_isC <| And.intro @c_issC <| And.intro @c_ssC <| And.intro @c_bsC <| And.intro @c_anyC <| And.intro @c_nilC <| And.intro @c_arrTs <| And.intro @c_arrIs <| And.intro @c_arrIss <| And.intro @c_arrSs <| And.intro @c_arrBs <| And.intro @ik_self <| And.intro @nb_self <| And.intro @cond_true.{1} @cond_false.{1}) := And.intro @Option.bind_some.{0,0} <| And.intro @c_rInt <| And.intro @c_rBool <| And.intro @c_rStr <| And.intro @c_rTs <| And.intro @c_rIs <| And.intro @c_rIss <| And.intro @c_rSs <| And.intro @c_rBs <| And.intro @c_rTerm <| And.intro @c_rOwnT <| And.intro @c_rOwn <| And.intro @c_rPtr <| And.intro @c_nilV <| And.intro @c_nilO <| And.intro @c_objC <| And.intro @c_dropC <| And.intro @c_intC <| And.intro @c_boolC <| And.intro @c_strC <| And.intro @c_tsC <| And.intro @c_isC <| And.intro @c_issC <| And.intro @c_ssC <| And.intro @c_bsC <| And.intro @c_anyC <| And.intro @c_nilC <| And.intro @c_arrTs <| And.intro @c_arrIs <| And.intro @c_arrIss <| And.intro @c_arrSs <| And.intro @c_arrBs <| And.intro @ik_self <| And.intro @nb_self <| And.intro @cond_true.{1} @cond_false.{1}
end Go.Proofs.YtnogehmgpfpjmaaDoor
end
section
namespace Go.Proofs.YtnogehmgpfpjmaaDoor
open Go Go.Ab Go.Dk
def RdOk (l : List UInt8) (p m : Int) : Prop := l.length ≤ 2000 ∧ 0 ≤ p ∧ p ≤ m
theorem RdOk.mono {l : List UInt8} {p m m' : Int} (h : RdOk l p m) (hm : m ≤ m') : RdOk l p m' := ⟨h.1, h.2.1, by have := h.2.2; omega⟩
def EvA (C : Nat) (f : FuncId) (args : List V1) (h : List AObj) (r : List V1 × List AObj) : Prop := ∀ n, C ≤ n → FF n f args h = some r
theorem EvA.ev {C f args h r} (k : EvA C f args h r) : Ev f args h r := ⟨C, k⟩
theorem EvA.of {f args h r} (C : Nat) (hh : ∀ n, C ≤ n → FF (n + 1) f args h = some r) : EvA (C + 1) f args h r := fun n hn => by obtain ⟨m, rfl⟩ : ∃ m, n = m + 1 := ⟨n - 1, by omega⟩; exact hh m (by omega)
end Go.Proofs.YtnogehmgpfpjmaaDoor
end
section
namespace Go.Proofs.YtnogehmgpfpjmaaDoor
open Go Go.Ab Go.Dk
abbrev tm (t : T) : V1 := .agg [.int .i64 t.k, .int .i64 t.n, .fr (.ts t.kids)]
abbrev tms (l : List T) : V1 := .one (.fr (.ts l))
abbrev nt (n : Int) : V1 := .one (.int .i64 n)
abbrev bl (b : Bool) : V1 := .one (.bool b)
abbrev termT : TypeId := 29
abbrev ow (t : T) : List V1 × List AObj := ([.agg [.int .i64 t.k, .int .i64 t.n, .own 0 0]], [.arr termT (.ts t.kids) 0 false])
theorem T.eta (t : T) : T.mk t.k t.n t.kids = t := by cases t; rfl
theorem mk_k (k n : Int) (l : List T) : (T.mk k n l).k = k := rfl
theorem mk_n (k n : Int) (l : List T) : (T.mk k n l).n = n := rfl
theorem mk_kids (k n : Int) (l : List T) : (T.mk k n l).kids = l := rfl
theorem rTerm_tm (t : T) (l : List V1) (k : T → List V1 → OR) : rTerm (.agg [.int .i64 t.k, .int .i64 t.n, .fr (.ts t.kids)] :: l) k = k t l := by cases t; rfl
theorem evt : type_of% (And.intro @evs <| And.intro @rTerm_tm <| And.intro @T.eta <| And.intro @mk_k <| And.intro @mk_n <| And.intro @mk_kids <| And.intro @Option.bind_none.{0,0} <| And.intro @Bool.not_true <| And.intro @Bool.not_false <| And.intro @Bool.true_and <| And.intro @Bool.and_true <| And.intro @Bool.and_false <| And.intro @Bool.false_and <| And.intro @Bool.and_self <| And.intro @decide_true @decide_false) := And.intro @evs <| And.intro @rTerm_tm <| And.intro @T.eta <| And.intro @mk_k <| And.intro @mk_n <| And.intro @mk_kids <| And.intro @Option.bind_none.{0,0} <| And.intro @Bool.not_true <| And.intro @Bool.not_false <| And.intro @Bool.true_and <| And.intro @Bool.and_true <| And.intro @Bool.and_false <| And.intro @Bool.false_and <| And.intro @Bool.and_self <| And.intro @decide_true @decide_false
theorem pos_succ {n : Nat} (h : 0 < n) : ∃ m, n = m + 1 := ⟨n - 1, by omega⟩
theorem cast1 (i : Nat) : (i : Int) + 1 = ((i + 1 : Nat) : Int) := rfl
theorem roomB_ok {n : Nat} (h : n ≤ 1099511627776) : roomB n = true := decide_eq_true h
theorem f_within {n : Nat} (hn : 1 ≤ n) (a b c : Int) : FF n 60 [nt a, nt b, nt c] [] = some ([bl (decide (b ≤ a) && decide (a ≤ c))], []) := by
 obtain ⟨n, rfl⟩ := pos_succ (show 0 < n by omega)
 rw [E_impl_within]
 by_cases h : b ≤ a <;> simp [h]
theorem f_most {n : Nat} (hn : 1 ≤ n) (k : Int) : FF n 61 [nt k] [] = some ([nt (mostOf k)], []) := by
 obtain ⟨n, rfl⟩ := pos_succ (show 0 < n by omega)
 rw [E_impl_most]
 unfold mostOf
 by_cases h : k = 1 <;> by_cases h2 : k = 2 <;> simp [h, h2]
theorem f_l1Most {n : Nat} (hn : 1 ≤ n) (k : Int) : FF n 54 [nt k] [] = some ([nt (mostOf k)], []) := by
 obtain ⟨n, rfl⟩ := pos_succ (show 0 < n by omega)
 rw [E_spec_l1Most]
 unfold mostOf
 by_cases h : k = 1 <;> by_cases h2 : k = 2 <;> simp [h, h2]
theorem ops_list (k : Int) (h : 1 ≤ k ∧ k ≤ 16) : ([0, 0, 2, 2, 2, 0, 0, 1, 4, 3, 1, 3, 2, 3, 1, 1] : List Int)[(k - 1).toNat]? = some (opsOf k) := by
 have : k = 1 ∨ k = 2 ∨ k = 3 ∨ k = 4 ∨ k = 5 ∨ k = 6 ∨ k = 7 ∨ k = 8 ∨ k = 9 ∨ k = 10 ∨ k = 11 ∨ k = 12 ∨ k = 13 ∨ k = 14 ∨ k = 15 ∨ k = 16 := by omega
 rcases this with rfl | rfl | rfl | rfl | rfl | rfl | rfl | rfl | rfl | rfl | rfl | rfl | rfl | rfl | rfl | rfl <;> rfl
theorem f_operands {n : Nat} (hn : 2 ≤ n) (k : Int) : FF n 59 [nt k] [] = some ([nt (opsOf k)], []) := by
 obtain ⟨n, rfl⟩ := pos_succ (show 0 < n by omega)
 rw [E_impl_operands, f_within (by omega)]
 by_cases h : 1 ≤ k ∧ k ≤ 16
 ·simp only [evs, decide_eq_true h.1, decide_eq_true h.2, Bool.and_self, Bool.not_true, wrap64 (show -9223372036854775808 ≤ k - 1 ∧ k - 1 ≤ 9223372036854775807 by omega), decide_eq_true (show 0 ≤ k - 1 by omega),
    show (([0, 0, 2, 2, 2, 0, 0, 1, 4, 3, 1, 3, 2, 3, 1, 1] : List Nat).length : Int) = 16 from rfl, decide_eq_true (show k - 1 < 16 by omega), ops_list k h]
 ·have : (decide (1 ≤ k) && decide (k ≤ 16)) = false := by
    rw [Bool.and_eq_false_iff, decide_eq_false_iff_not, decide_eq_false_iff_not]; omega
  simp only [evs, this, Bool.not_false]
  unfold opsOf
  rw [if_neg (by omega), if_neg (by omega), if_neg (by omega), if_neg (by omega), if_neg (by omega)]
theorem f_l1Kids {n : Nat} (hn : 1 ≤ n) (k : Int) : FF n 53 [nt k] [] = some ([nt (opsOf k)], []) := by
 obtain ⟨n, rfl⟩ := pos_succ (show 0 < n by omega)
 rw [E_spec_l1Kids]
 by_cases h : k = 1 ∨ k = 2 ∨ k = 3 ∨ k = 4 ∨ k = 5 ∨ k = 6 ∨ k = 7 ∨ k = 8 ∨ k = 9 ∨ k = 10 ∨ k = 11 ∨ k = 12 ∨ k = 13 ∨ k = 14 ∨ k = 15 ∨ k = 16
 ·rcases h with rfl | rfl | rfl | rfl | rfl | rfl | rfl | rfl | rfl | rfl | rfl | rfl | rfl | rfl | rfl | rfl <;> rfl
 ·unfold opsOf
  rw [if_neg (by omega), if_neg (by omega), if_neg (by omega), if_neg (by omega), if_neg (by omega)]
  simp (disch := omega) only [cond_dec, if_neg]
theorem f_isBinder {n : Nat} (hn : 1 ≤ n) (k : Int) : FF n 47 [nt k] [] = some ([bl (decide (k = 3 ∨ k = 4 ∨ k = 13))], []) := by
 obtain ⟨n, rfl⟩ := pos_succ (show 0 < n by omega)
 rw [E_impl_isBinder]
 by_cases h : k = 3 <;> by_cases h2 : k = 4 <;> simp [h, h2]
theorem und_cast (k : Int) (i : Nat) : under k i = if (i : Int) = 1 ∧ (k = 3 ∨ k = 4 ∨ k = 13) then 1 else 0 := by
 unfold under
 by_cases h : i = 1
 ·subst h; simp
 ·rw [if_neg (fun hh => h hh.1), if_neg (fun hh => h (by have := hh.1; omega))]
theorem f_under {n : Nat} (hn : 2 ≤ n) (k : Int) (i : Nat) : FF n 43 [nt k, nt i] [] = some ([nt (under k i)], []) := by
 obtain ⟨n, rfl⟩ := pos_succ (show 0 < n by omega)
 rw [E_impl_under, f_isBinder (by omega), und_cast]
 by_cases h : (i : Int) = 1
 ·simp only [evs, h, decide_true]
  by_cases h2 : k = 3 ∨ k = 4 ∨ k = 13 <;> simp [h2]
 ·simp [h]
theorem f_l2Binds {n : Nat} (hn : 1 ≤ n) (k : Int) (i : Nat) : FF n 55 [nt k, nt i] [] = some ([bl (decide ((i : Int) = 1 ∧ (k = 3 ∨ k = 4 ∨ k = 13)))], []) := by
 obtain ⟨n, rfl⟩ := pos_succ (show 0 < n by omega)
 rw [E_spec_l2Binds]
 by_cases h : (i : Int) = 1 <;> by_cases h1 : k = 3 <;> by_cases h2 : k = 4 <;> simp [h, h1, h2]
theorem f_l2Under {n : Nat} (hn : 2 ≤ n) (k : Int) (i : Nat) : FF n 34 [nt k, nt i] [] = some ([nt (under k i)], []) := by
 obtain ⟨n, rfl⟩ := pos_succ (show 0 < n by omega)
 rw [E_spec_l2Under, f_l2Binds (by omega), und_cast]
 by_cases h : (i : Int) = 1 ∧ (k = 3 ∨ k = 4 ∨ k = 13) <;> simp [evs, h]
theorem ops_le (k : Int) : opsOf k ≤ 4 := by
 unfold opsOf
 repeat' split
 all_goals omega
theorem scan_loop (n : Nat) (d : Int) (ts : List T) (hd : 0 ≤ d ∧ d ≤ 31) (hl : ts.length ≤ 1099511627776)
   (h : ∀ u ∈ ts, ∀ c : Int, 0 ≤ c → c ≤ 400 → FF n 38 [tm u, nt (d + 1), .one (.ptr 0 0)] [.cells [.int .i64 c]] = some ([bl (scanF u (d + 1) c).1], [.cells [.int .i64 (scanF u (d + 1) c).2]])) :
   ∀ g m (i : Nat) (c : Int), g < m → i + g = ts.length → 0 ≤ c → c ≤ 400 → L_impl_scan_0 n m d ts ts.length i c = some ([bl (scanL (ts.drop i) (d + 1) c).1], [.cells [.int .i64 (scanL (ts.drop i) (d + 1) c).2]])
 | g, 0, i, c, hg, _, _, _ => by omega
 | 0, m + 1, i, c, _, hi, _, _ => by
  rw [L_impl_scan_0_eq, List.drop_of_length_le (by omega)]
  simp only [cond_dec, if_neg (show ¬ (i : Int) < ts.length by omega), scanL]
 | g + 1, m + 1, i, c, hg, hi, h0, h1 => by
  have hlt : i < ts.length := by omega
  have hb := scanF_bd ts[i] (d + 1) c
  rw [List.drop_eq_getElem_cons hlt, scanL]
  rw [L_impl_scan_0_eq]; simp (disch := omega) only [evt, cond_dec, Int.toNat_natCast, cast1, wrap64, roomB_ok, List.length_append, List.length_cons, List.length_nil, if_pos (show (i : Int) < ts.length by omega), if_pos (show 0 ≤ (i : Int) by omega), List.getElem?_eq_getElem hlt, h _ (List.getElem_mem hlt) c h0 h1]
  cases hs : (scanF ts[i] (d + 1) c).1 with
  | false => simp
  | true =>
   have := hb hs
   simp only [Bool.not_true, cond_false, if_true]
   exact scan_loop n d ts hd hl h g m (i + 1) _ (by omega) (by omega) (by omega) (by omega)
theorem f_scan (t : T) : ∀ {n : Nat}, t.size + 5 ≤ n → ∀ d c : Int, 0 ≤ d → d ≤ 31 → 0 ≤ c → c ≤ 400 →
   FF n 38 [tm t, nt d, .one (.ptr 0 0)] [.cells [.int .i64 c]] = some ([bl (scanF t d c).1], [.cells [.int .i64 (scanF t d c).2]]) := by
 induction t using T.ind with | h t ih =>
 intro n hn d c h0 h1 h2 h3
 have hsz := T.size_eq t
 have hl := T.sizeL_len t.kids
 obtain ⟨n, rfl⟩ := pos_succ (show 0 < n by omega)
 rw [E_impl_scan, scanF_eq]
 simp (disch := omega) only [evt, f_operands, f_most, f_within, wrap64]
 by_cases c1 : 400 < c + 1
 ·simp [c1]
 by_cases c2 : 30 < d
 ·simp [c1, c2]
 by_cases c3 : opsOf t.k = t.kids.length
 ·by_cases c4 : 0 ≤ t.n ∧ t.n ≤ mostOf t.k
  ·have e : (decide (0 ≤ t.n) && decide (t.n ≤ mostOf t.k)) = true := by simp [c4]
   rw [if_neg (by intro hh; rcases hh with hh | hh | hh | hh <;> first | omega | exact hh c3 | exact hh c4), e]
   simp only [decide_eq_false c1, decide_eq_false c2, cond_false, decide_eq_true c3, Bool.not_true]
   by_cases hk : t.kids = []
   ·rw [hk]
    obtain ⟨n, rfl⟩ := pos_succ (show 0 < n by omega)
    rw [L_impl_scan_0_eq]; simp [scanL]
   ·have := scan_loop n d t.kids ⟨h0, h1⟩ (by have := ops_le t.k; omega) (fun u hu c' hc hc' => ih u hu (by have := T.sizeL_mem hu; omega) (d + 1) c' (by omega) (by omega) hc hc') t.kids.length n 0 (c + 1) (by omega) (by omega) (by omega) (by omega)
    simpa using this
  ·have e : (decide (0 ≤ t.n) && decide (t.n ≤ mostOf t.k)) = false := by
     rw [← Bool.not_eq_true, Bool.and_eq_true, decide_eq_true_eq, decide_eq_true_eq]; exact c4
   rw [if_pos (.inr (.inr (.inr c4))), e]
   simp [c1, c2, c3]
 ·rw [if_pos (.inr (.inr (.inl c3)))]
  simp [c1, c2, c3]
theorem f_TermValid {n : Nat} {t : T} (hn : t.size + 6 ≤ n) : FF n 19 [tm t] [] = some ([bl (validB t)], []) := by
 obtain ⟨n, rfl⟩ := pos_succ (show 0 < n by omega)
 rw [E_impl_TermValid, ← scan_valid]
 simp (disch := omega) only [evt, f_scan]
theorem shape_loop (n : Nat) (d : Nat) (k0 n0 : Int) (ts : List T) (hd : d ≤ 30) (h1d : 1 ≤ d) (hl : ts.length ≤ 1099511627776)
   (h : ∀ u ∈ ts, FF n 29 [tm u, nt ((d - 1 : Nat) : Int)] [] = some ([bl (shapeF u (d - 1))], [])) :
   ∀ g m (i : Nat), g < m → i + g = ts.length → L_spec_l1Shape_0 n m (d : Int) i k0 n0 ts = some ([bl (shapeL (ts.drop i) (d - 1))], [])
 | g, 0, i, hg, _ => by omega
 | 0, m + 1, i, _, hi => by
  rw [L_spec_l1Shape_0_eq, List.drop_of_length_le (by omega)]
  simp only [cond_dec, if_neg (show ¬ (i : Int) < ts.length by omega), shapeL]
 | g + 1, m + 1, i, hg, hi => by
  have hlt : i < ts.length := by omega
  rw [List.drop_eq_getElem_cons hlt, shapeL]
  have w : IntKind.i64.wrap ((d : Int) - 1) = ((d - 1 : Nat) : Int) := by rw [wrap64 (by omega)]; omega
  rw [L_spec_l1Shape_0_eq]; simp (disch := omega) only [evt, cond_dec, Int.toNat_natCast, cast1, wrap64, roomB_ok, List.length_append, List.length_cons, List.length_nil, if_pos (show (i : Int) < ts.length by omega), if_pos (show 0 ≤ (i : Int) by omega), List.getElem?_eq_getElem hlt, w, h _ (List.getElem_mem hlt)]
  cases hs : shapeF ts[i] (d - 1) with
  | false => simp
  | true =>
   simp only [Bool.not_true, cond_false, Bool.true_and]
   exact shape_loop n d k0 n0 ts hd h1d hl h g m (i + 1) (by omega) (by omega)
theorem f_l1Shape (t : T) : ∀ {n : Nat}, t.size + 5 ≤ n → ∀ d : Nat, d ≤ 30 → FF n 29 [tm t, nt (d : Int)] [] = some ([bl (shapeF t d)], []) := by
 induction t using T.ind with | h t ih =>
 intro n hn d hd
 have hsz := T.size_eq t
 have hl := T.sizeL_len t.kids
 obtain ⟨n, rfl⟩ := pos_succ (show 0 < n by omega)
 rw [E_spec_l1Shape, shapeF_eq]
 simp (disch := omega) only [evt, f_l1Kids, f_l1Most]
 by_cases c1 : (d : Int) < 1
 ·simp [c1, show ¬ 1 ≤ d by omega]
 by_cases c3 : opsOf t.k = t.kids.length
 ·by_cases c4 : 0 ≤ t.n ∧ t.n ≤ mostOf t.k
  ·simp only [decide_eq_false c1, cond_false, decide_eq_true c3, Bool.not_true, decide_eq_false (show ¬ t.n < 0 by omega), decide_eq_false (show ¬ mostOf t.k < t.n by omega), decide_eq_true (show 1 ≤ d by omega), decide_eq_true c4, Bool.true_and]
   exact shape_loop n d t.k t.n t.kids hd (by omega) (by have := ops_le t.k; omega) (fun u hu => ih u hu (by have := T.sizeL_mem hu; omega) (d - 1) (by omega)) t.kids.length n 0 (by omega) (by omega)
  ·simp only [decide_eq_false c1, cond_false, decide_eq_true c3, Bool.not_true, decide_eq_true (show 1 ≤ d by omega), decide_eq_false c4, Bool.true_and, Bool.false_and]
   by_cases c5 : t.n < 0
   ·simp [c5]
   ·simp [c5, show mostOf t.k < t.n by omega]
 ·simp [c1, c3]
theorem count_loop (n : Nat) (most : Nat) (k0 n0 : Int) (ts : List T) (hm : most ≤ 400) (hl : ts.length ≤ 1099511627776)
   (h : ∀ u ∈ ts, ∀ m : Nat, m ≤ 400 → FF n 30 [tm u, nt (m : Int)] [] = some ([nt (cntF u m : Int)], [])) :
   ∀ g m (i c : Nat), g < m → i + g = ts.length → L_spec_l1Count_0 n m (most : Int) c i k0 n0 ts = some ([nt ((if c ≤ most then min (c + T.sizeL (ts.drop i)) (most + 1) else c : Nat) : Int)], [])
 | g, 0, i, c, hg, _ => by omega
 | 0, m + 1, i, c, _, hi => by
  rw [L_spec_l1Count_0_eq, List.drop_of_length_le (by omega)]
  simp only [cond_dec, if_neg (show ¬ (i : Int) < ts.length by omega), T.sizeL]
  split
  ·rw [Nat.min_eq_left (by omega)]; rfl
  ·rfl
 | g + 1, m + 1, i, c, hg, hi => by
  have hlt : i < ts.length := by omega
  rw [List.drop_eq_getElem_cons hlt, T.sizeL]
  by_cases hc : c ≤ most
  ·have w : IntKind.i64.wrap ((most : Int) - c) = ((most - c : Nat) : Int) := by rw [wrap64 (by omega)]; omega
   have hcn : cntF ts[i] (most - c) ≤ most - c + 1 := by unfold cntF; omega
   have w2 : IntKind.i64.wrap ((c : Int) + (cntF ts[i] (most - c) : Int)) = ((c + cntF ts[i] (most - c) : Nat) : Int) := by rw [wrap64 (by omega)]; rfl
   rw [L_spec_l1Count_0_eq]; simp (disch := omega) only [evt, cond_dec, Int.toNat_natCast, cast1, wrap64, roomB_ok, List.length_append, List.length_cons, List.length_nil, if_pos (show (i : Int) < ts.length by omega), if_pos (show 0 ≤ (i : Int) by omega), if_pos (show (c : Int) ≤ most by omega), List.getElem?_eq_getElem hlt, w, w2, h _ (List.getElem_mem hlt) (most - c) (by omega)]
   rw [count_loop n most k0 n0 ts hm hl h g m (i + 1) _ (by omega) (by omega)]
   have e : (if c + cntF ts[i] (most - c) ≤ most then min (c + cntF ts[i] (most - c) + T.sizeL (ts.drop (i + 1))) (most + 1) else c + cntF ts[i] (most - c)) = min (c + (ts[i].size + T.sizeL (ts.drop (i + 1)))) (most + 1) := by
    unfold cntF
    split <;> omega
   rw [e, if_pos hc]
  ·rw [L_spec_l1Count_0_eq]
   simp only [cond_dec, if_pos (show (i : Int) < ts.length by omega), if_neg (show ¬ (c : Int) ≤ most by omega), if_neg hc]
theorem f_l1Count (t : T) : ∀ {n : Nat}, t.size + 5 ≤ n → t.size ≤ 4000000 → ∀ m : Nat, m ≤ 400 → FF n 30 [tm t, nt (m : Int)] [] = some ([nt (cntF t m : Int)], []) := by
 induction t using T.ind with | h t ih =>
 intro n hn hz m hm
 have hsz := T.size_eq t
 have hl := T.sizeL_len t.kids
 obtain ⟨n, rfl⟩ := pos_succ (show 0 < n by omega)
 rw [E_spec_l1Count]
 have := count_loop n m t.k t.n t.kids hm (by omega) (fun u hu m hm => ih u hu (by have := T.sizeL_mem hu; omega) (by have := T.sizeL_mem hu; omega) m hm) t.kids.length n 0 1 (by omega) (by omega)
 have e : (if 1 ≤ m then min (1 + T.sizeL t.kids) (m + 1) else 1) = cntF t m := by unfold cntF; split <;> omega
 rw [List.drop_zero, e] at this
 exact this
theorem f_TermValidS {n : Nat} {t : T} (hn : t.size + 6 ≤ n) (hz : t.size ≤ 4000000) : FF n 13 [tm t] [] = some ([bl (validB t)], []) := by
 obtain ⟨n, rfl⟩ := pos_succ (show 0 < n by omega)
 rw [E_spec_TermValid, validB]
 have h1 := f_l1Shape t (n := n) (by omega) 30 (by omega)
 have h2 := f_l1Count t (n := n) (by omega) hz 400 (by omega)
 rw [show (30 : Int) = ((30 : Nat) : Int) from rfl, show (400 : Int) = ((400 : Nat) : Int) from rfl, h1, h2]
 simp only [evt]
 cases shapeF t 30
 ·rfl
 ·simp only [cond_true, Bool.true_and]
  have e : decide ((cntF t 400 : Int) ≤ ((400 : Nat) : Int)) = decide (t.size ≤ 400) := by
   unfold cntF
   exact decide_eq_decide.2 (by omega)
  rw [e]
end Go.Proofs.YtnogehmgpfpjmaaDoor
end
section
namespace Go.Proofs.YtnogehmgpfpjmaaDoor
open Go Go.Ab Go.Dk
end Go.Proofs.YtnogehmgpfpjmaaDoor
end
section
namespace Go.Proofs.YtnogehmgpfpjmaaDoor
open Go Go.Ab Go.Dk
mutual
def clF : T → Int → Bool
 | .mk k n ks, d => (!(decide (k = 1) && decide (d ≤ n))) && clL ks k 0 d
def clL : List T → Int → Nat → Int → Bool
 | [], _, _, _ => true
 | t :: ts, k, i, d => clF t (d + under k i) && clL ts k (i + 1) d
end
theorem clF_eq (t : T) (d : Int) : clF t d = ((!(decide (t.k = 1) && decide (d ≤ t.n))) && clL t.kids t.k 0 d) := by cases t; simp only [clF]; rfl
theorem und_bd (k : Int) (i : Nat) : 0 ≤ under k i ∧ under k i ≤ 1 := by unfold under; split <;> omega
mutual
theorem clF_mono : ∀ (t : T) {d e : Int}, clF t d = true → d ≤ e → clF t e = true
 | .mk k n ks, d, e, h, hd => by
  simp only [clF, Bool.and_eq_true, Bool.not_eq_true', Bool.and_eq_false_iff, decide_eq_false_iff_not] at h ⊢
  exact ⟨h.1.imp id (fun h => by omega), clL_mono ks h.2 hd⟩
theorem clL_mono : ∀ (ts : List T) {k : Int} {i : Nat} {d e : Int}, clL ts k i d = true → d ≤ e → clL ts k i e = true
 | [], _, _, _, _, _, _ => rfl
 | t :: ts, k, i, d, e, h, hd => by
  simp only [clL, Bool.and_eq_true] at h ⊢
  exact ⟨clF_mono t h.1 (by omega), clL_mono ts h.2 hd⟩
end
abbrev FreeTo (h L : Int) (P : Int → Prop) (o : OR) : Prop := ∃ h', o = some ([], [.cells [.int .i64 h']]) ∧ h ≤ h' ∧ (h ≤ L → h' ≤ L) ∧ P h'
theorem free_loop (n : Nat) (hn : 10 ≤ n) (L d k k1 n1 : Int) (ks0 : List T) (ts : List T) (hl : ts.length ≤ 1000000) (hd : 0 ≤ d ∧ d ≤ 1000000) (hh : ∀ u ∈ ts, ∀ d' h : Int, d ≤ d' → d' ≤ d + 1 → 0 ≤ h → h ≤ L → clF u (d' + L) = true → FreeTo h L (fun h' => clF u (d' + h') = true) (FF n 41 [tm u, nt d', .one (.fn 42 [0])] [.cells [.int .i64 h]])) (hL : 0 ≤ L ∧ L ≤ 1000000) :
   ∀ g m (i : Nat) (h : Int), g < m → i + g = ts.length → 0 ≤ h → h ≤ L → clL (ts.drop i) k i (d + L) = true → FreeTo h L (fun h' => clL (ts.drop i) k i (d + h') = true) (L_impl_free_impl_maxFree_1_0 n m d ts ts.length i h k n1 ks0)
 | g, 0, i, h, hg, _, _, _, _ => by omega
 | 0, m + 1, i, h, _, hi, h0, h1, hc => by
  rw [L_impl_free_impl_maxFree_1_0_eq, decide_eq_false (show ¬ (i : Int) < ts.length by omega)]
  exact ⟨h, rfl, Int.le_refl _, fun h => h, by rw [List.drop_of_length_le (by omega)]; rfl⟩
 | g + 1, m + 1, i, h, hg, hi, h0, h1, hc => by
  have hlt : i < ts.length := by omega
  have hu := und_bd k i
  rw [List.drop_eq_getElem_cons hlt, clL, Bool.and_eq_true] at hc
  obtain ⟨h', e1, e2, e3, p3⟩ := hh _ (List.getElem_mem hlt) (d + under k i) h (by omega) (by omega) h0 h1 (by rw [show d + under k i + L = d + L + under k i by omega]; exact hc.1)
  have h3 := e3 h1
  rw [L_impl_free_impl_maxFree_1_0_eq, decide_eq_true (show (i : Int) < ts.length by omega), cond_true, decide_eq_true (show (0 : Int) ≤ i by omega), cond_true, Int.toNat_natCast, List.getElem?_eq_getElem hlt, f_under (n := n) (by omega), wrap64 (show -9223372036854775808 ≤ (i : Int) + 1 ∧ (i : Int) + 1 ≤ 9223372036854775807 by omega)]
  simp only [evt]
  rw [wrap64 (show -9223372036854775808 ≤ d + under k i ∧ d + under k i ≤ 9223372036854775807 by omega)]
  simp only [tm] at e1
  rw [e1]
  simp only [evt]
  obtain ⟨h2, e4, e5, e6, p6⟩ := free_loop n hn L d k k1 n1 ks0 ts hl hd hh hL g m (i + 1) h' (by omega) (by omega) (by omega) h3 hc.2
  refine ⟨h2, e4, by omega, fun _ => e6 h3, ?_⟩
  show clL (ts.drop i) k i (d + h2) = true
  rw [List.drop_eq_getElem_cons hlt, clL, Bool.and_eq_true]
  exact ⟨clF_mono _ p3 (by omega), p6⟩
theorem f_free (t : T) : ∀ {n : Nat} {L d h : Int}, 3 * t.size + 20 ≤ n → t.size ≤ 100000 → 0 ≤ L ∧ L ≤ 1000000 → 0 ≤ d ∧ d + t.size ≤ 1000000 → 0 ≤ h → h ≤ L → clF t (d + L) = true → FreeTo h L (fun h' => clF t (d + h') = true) (FF n 41 [tm t, nt d, .one (.fn 42 [0])] [.cells [.int .i64 h]]) := by
 induction t using T.ind with | h t ih =>
 intro n L d h hn hz hL hd h0 h1 hc
 have hsz := T.size_eq t
 have hl := T.sizeL_len t.kids
 rw [clF_eq, Bool.and_eq_true] at hc
 obtain ⟨n, rfl⟩ := pos_succ (show 0 < n by omega)
 have lp : ∀ h, 0 ≤ h → h ≤ L → FreeTo h L (fun h' => clL t.kids t.k 0 (d + h') = true) (L_impl_free_impl_maxFree_1_0 n n d t.kids t.kids.length 0 h t.k t.n t.kids) := fun h h0 h1 =>
  free_loop n (by omega) L d t.k t.k t.n t.kids t.kids (by omega) (by omega) (fun u hu d' h' q1 q2 q3 q4 q5 => by
   have := T.sizeL_mem hu
   exact ih u hu (by omega) (by omega) hL (by omega) q3 q4 q5) hL t.kids.length n 0 h (by omega) (by omega) h0 h1 (by simpa using hc.2)
 have fin : ∀ h', (t.k = 1 → t.n < d + h') → clL t.kids t.k 0 (d + h') = true → clF t (d + h') = true := fun h' q p => by
  rw [clF_eq, p, Bool.and_true, Bool.not_eq_true', Bool.and_eq_false_iff, decide_eq_false_iff_not, decide_eq_false_iff_not]
  by_cases hk : t.k = 1
  ·exact .inr (by have := q hk; omega)
  ·exact .inl hk
 rw [E_impl_free_impl_maxFree_1]
 by_cases hk : t.k = 1
 ·rw [decide_eq_true hk, cond_true]
  by_cases hdn : d ≤ t.n
  ·rw [decide_eq_true hdn, cond_true]
   have hb : t.n < d + L := by
    have := hc.1
    rw [hk] at this
    simp only [decide_true, Bool.true_and, Bool.not_eq_true', decide_eq_false_iff_not] at this
    omega
   obtain ⟨n', rfl⟩ := pos_succ (show 0 < n by omega)
   rw [E_impl_maxFree_1, wrap64 (show -9223372036854775808 ≤ t.n - d ∧ t.n - d ≤ 9223372036854775807 by omega), wrap64 (show -9223372036854775808 ≤ t.n - d + 1 ∧ t.n - d + 1 ≤ 9223372036854775807 by omega)]
   simp only [evt]
   obtain ⟨h', e1, e2, e3, e4⟩ := lp (max h (t.n - d + 1)) (by omega) (by omega)
   exact ⟨h', e1, by omega, fun _ => e3 (by omega), fin h' (fun _ => by omega) e4⟩
  ·rw [decide_eq_false hdn, cond_false]
   obtain ⟨h', e1, e2, e3, e4⟩ := lp h h0 h1
   exact ⟨h', e1, e2, e3, fin h' (fun _ => by omega) e4⟩
 ·rw [decide_eq_false hk, cond_false]
  obtain ⟨h', e1, e2, e3, e4⟩ := lp h h0 h1
  exact ⟨h', e1, e2, e3, fin h' (fun q => absurd q hk) e4⟩
mutual
theorem clF_valid : ∀ (t : T) (g : Nat) {d : Int}, shapeF t g = true → 21 ≤ d → clF t d = true
 | .mk k n ks, g, d, h, hd => by
  simp only [shapeF, Bool.and_eq_true, decide_eq_true_eq] at h
  simp only [clF, Bool.and_eq_true, Bool.not_eq_true', Bool.and_eq_false_iff, decide_eq_false_iff_not]
  refine ⟨?_, clL_valid ks _ h.2.2.2 hd⟩
  by_cases hk : k = 1
  ·subst hk
   right
   have h1 := h.2.2.1.2
   rw [show mostOf 1 = 20 from rfl] at h1
   omega
  ·exact .inl hk
theorem clL_valid : ∀ (ts : List T) (g : Nat) {k : Int} {i : Nat} {d : Int}, shapeL ts g = true → 21 ≤ d → clL ts k i d = true
 | [], _, _, _, _, _, _ => rfl
 | t :: ts, g, k, i, d, h, hd => by
  simp only [shapeL, Bool.and_eq_true] at h
  have hu := und_bd k i
  simp only [clL, Bool.and_eq_true]
  exact ⟨clF_valid t _ h.1 (by omega), clL_valid ts _ h.2 hd⟩
end
def mfN (t : T) : Nat := ((List.range 21).find? fun v : Nat => clF t (v : Int)).getD 21
theorem mfN_iff {t : T} (hv : validB t = true) (d : Nat) : mfN t ≤ d ↔ clF t (d : Int) = true := by
 have hs : shapeF t 30 = true := by
  unfold validB at hv
  rw [Bool.and_eq_true] at hv
  exact hv.1
 unfold mfN
 cases h : (List.range 21).find? fun v : Nat => clF t (v : Int) with
 | some v =>
  have h1 : clF t (v : Int) = true := by simpa using List.find?_some h
  have h2 := List.mem_of_find?_eq_some h
  show v ≤ d ↔ _
  refine ⟨fun hd => clF_mono t h1 (by omega), fun hd => ?_⟩
  refine Classical.byContradiction fun hlt => ?_
  have hlt : d < v := by omega
  rw [List.find?_eq_some_iff_getElem] at h
  obtain ⟨_, i, hi, he, hall⟩ := h
  have hiv : i = v := by simpa using he
  have := hall d (by omega)
  simp [hd] at this
 | none =>
  show 21 ≤ d ↔ _
  refine ⟨fun hd => clF_valid t 30 hs (by omega), fun hd => ?_⟩
  refine Classical.byContradiction fun hlt => ?_
  rw [List.find?_eq_none] at h
  have := h d (by simp; omega)
  simp [hd] at this
theorem mfN_le {t : T} (hv : validB t = true) : mfN t ≤ 21 := (mfN_iff hv 21).2 (clF_valid t 30 (by unfold validB at hv; rw [Bool.and_eq_true] at hv; exact hv.1) (by omega))
theorem mf_uniq {t : T} (hv : validB t = true) {v : Int} (h0 : 0 ≤ v) (h1 : clF t v = true) (h2 : ∀ d : Nat, d ≤ 21 → clF t (d : Int) = true → v ≤ d) : v = (mfN t : Int) := by
 obtain ⟨w, rfl⟩ : ∃ w : Nat, v = w := ⟨v.toNat, by omega⟩
 have a := (mfN_iff hv w).2 h1
 have b := h2 (mfN t) (mfN_le hv) ((mfN_iff hv _).1 (Nat.le_refl _))
 omega
theorem f_maxFreeI {n : Nat} {t : T} (hn : 5000 ≤ n) (hv : validB t = true) : FF n 21 [tm t] [] = some ([nt (mfN t : Int)], []) := by
 obtain ⟨n, rfl⟩ := pos_succ (show 0 < n by omega)
 have hz := validB_size hv
 have hs : shapeF t 30 = true := by
  unfold validB at hv
  rw [Bool.and_eq_true] at hv
  exact hv.1
 have go : ∀ L : Int, 0 ≤ L → L ≤ 21 → clF t L = true → ∃ v, FF (n + 1) 21 [tm t] [] = some ([nt v], []) ∧ 0 ≤ v ∧ v ≤ L ∧ clF t v = true := fun L h0 h1 hc => by
  rw [E_impl_maxFree]
  obtain ⟨v, e1, e2, e3, e4⟩ := f_free t (n := n) (L := L) (d := 0) (h := 0) (by omega) (by omega) ⟨h0, by omega⟩ (by omega) (by omega) h0 (by simpa using hc)
  simp only [tm] at e1
  rw [e1]
  simp only [evt]
  exact ⟨v, rfl, e2, e3 h0, by simpa using e4⟩
 obtain ⟨v, e1, e2, e3, e4⟩ := go 21 (by omega) (by omega) (clF_valid t 30 hs (by omega))
 rw [e1, mf_uniq hv e2 e4 fun d hd hc => ?_]
 obtain ⟨u, f1, f2, f3, f4⟩ := go d (by omega) (by omega) hc
 rw [e1] at f1
 injection f1 with f1
 injection f1 with f1
 injection f1 with f1
 injection f1 with f1
 injection f1 with _ f1
 omega
theorem s_loop (n : Nat) (hn : 10 ≤ n) (L d k k1 n1 : Int) (ks : List T) (hl : ks.length ≤ 100000) (hd : 0 ≤ d ∧ d ≤ 100000) (hL : 0 ≤ L ∧ L ≤ 1000)
   (hh : ∀ u ∈ ks, ∀ d' : Int, d ≤ d' → d' ≤ d + 1 → clF u (d' + L) = true → ∃ v, FF n 33 [tm u, nt d'] [] = some ([nt v], []) ∧ 0 ≤ v ∧ v ≤ L ∧ clF u (d' + v) = true) :
   ∀ g m (i : Nat) (h : Int), g < m → i + g = ks.length → 0 ≤ h → h ≤ L → clL (ks.drop i) k i (d + L) = true → ∃ v, L_spec_l2Most_0 n m d h i k n1 ks = some ([nt v], []) ∧ h ≤ v ∧ v ≤ L ∧ clL (ks.drop i) k i (d + v) = true
 | g, 0, i, h, hg, _, _, _, _ => by omega
 | 0, m + 1, i, h, _, hi, h0, h1, hc => by
  rw [L_spec_l2Most_0_eq, decide_eq_false (show ¬ (i : Int) < ks.length by omega)]
  exact ⟨h, rfl, Int.le_refl _, h1, by rw [List.drop_of_length_le (by omega)]; rfl⟩
 | g + 1, m + 1, i, h, hg, hi, h0, h1, hc => by
  have hlt : i < ks.length := by omega
  have hu := und_bd k i
  rw [List.drop_eq_getElem_cons hlt, clL, Bool.and_eq_true] at hc
  obtain ⟨v, e1, e2, e3, p3⟩ := hh _ (List.getElem_mem hlt) (d + under k i) (by omega) (by omega) (by rw [show d + under k i + L = d + L + under k i by omega]; exact hc.1)
  rw [L_spec_l2Most_0_eq, decide_eq_true (show (i : Int) < ks.length by omega), cond_true, decide_eq_true (show (0 : Int) ≤ i by omega), cond_true, Int.toNat_natCast, List.getElem?_eq_getElem hlt, f_l2Under (n := n) (by omega), wrap64 (show -9223372036854775808 ≤ (i : Int) + 1 ∧ (i : Int) + 1 ≤ 9223372036854775807 by omega)]
  simp only [evt]
  rw [wrap64 (show -9223372036854775808 ≤ d + under k i ∧ d + under k i ≤ 9223372036854775807 by omega)]
  simp only [tm] at e1
  rw [e1]
  simp only [evt]
  have step : ∀ h', 0 ≤ h' → h' ≤ L → v ≤ h' → h ≤ h' → L_spec_l2Most_0 n m d h' ((i + 1 : Nat) : Int) k n1 ks = L_spec_l2Most_0 n m d h' ((i + 1 : Nat) : Int) k n1 ks → ∃ v', L_spec_l2Most_0 n m d h' ((i + 1 : Nat) : Int) k n1 ks = some ([nt v'], []) ∧ h ≤ v' ∧ v' ≤ L ∧ clL (ks.drop i) k i (d + v') = true := fun h' q0 q1 q2 q3 _ => by
   obtain ⟨v2, e4, e5, e6, p6⟩ := s_loop n hn L d k k1 n1 ks hl hd hL hh g m (i + 1) h' (by omega) (by omega) q0 q1 hc.2
   refine ⟨v2, e4, by omega, e6, ?_⟩
   rw [List.drop_eq_getElem_cons hlt, clL, Bool.and_eq_true]
   exact ⟨clF_mono _ p3 (by omega), p6⟩
  by_cases hv : h < v
  ·rw [decide_eq_true hv, cond_true]
   exact step v e2 e3 (Int.le_refl _) (by omega) rfl
  ·rw [decide_eq_false hv, cond_false]
   exact step h h0 h1 (by omega) (Int.le_refl _) rfl
theorem f_l2Most (t : T) : ∀ {n : Nat} {L d : Int}, 2 * t.size + 20 ≤ n → t.size ≤ 1000 → 0 ≤ L ∧ L ≤ 1000 → 0 ≤ d ∧ d + t.size ≤ 10000 → clF t (d + L) = true → ∃ v, FF n 33 [tm t, nt d] [] = some ([nt v], []) ∧ 0 ≤ v ∧ v ≤ L ∧ clF t (d + v) = true := by
 induction t using T.ind with | h t ih =>
 intro n L d hn hz hL hd hc
 have hsz := T.size_eq t
 have hl := T.sizeL_len t.kids
 rw [clF_eq, Bool.and_eq_true] at hc
 obtain ⟨n, rfl⟩ := pos_succ (show 0 < n by omega)
 have lp : ∀ h, 0 ≤ h → h ≤ L → ∃ v, L_spec_l2Most_0 n n d h 0 t.k t.n t.kids = some ([nt v], []) ∧ h ≤ v ∧ v ≤ L ∧ clL t.kids t.k 0 (d + v) = true := fun h h0 h1 => by
  have := s_loop n (by omega) L d t.k t.k t.n t.kids (by omega) (by omega) hL (fun u hu d' q1 q2 q5 => by
   have := T.sizeL_mem hu
   exact ih u hu (by omega) (by omega) hL (by omega) q5) t.kids.length n 0 h (by omega) (by omega) h0 h1 (by simpa using hc.2)
  simpa using this
 have fin : ∀ h', (t.k = 1 → t.n < d + h') → clL t.kids t.k 0 (d + h') = true → clF t (d + h') = true := fun h' q p => by
  rw [clF_eq, p, Bool.and_true, Bool.not_eq_true', Bool.and_eq_false_iff, decide_eq_false_iff_not, decide_eq_false_iff_not]
  by_cases hk : t.k = 1
  ·exact .inr (by have := q hk; omega)
  ·exact .inl hk
 rw [E_spec_l2Most]
 by_cases hk : t.k = 1
 ·rw [decide_eq_true hk, cond_true]
  by_cases hdn : d ≤ t.n
  ·rw [decide_eq_true hdn, cond_true]
   have hb : t.n < d + L := by
    have := hc.1
    rw [hk] at this
    simp only [decide_true, Bool.true_and, Bool.not_eq_true', decide_eq_false_iff_not] at this
    omega
   rw [wrap64 (show -9223372036854775808 ≤ t.n - d ∧ t.n - d ≤ 9223372036854775807 by omega), wrap64 (show -9223372036854775808 ≤ t.n - d + 1 ∧ t.n - d + 1 ≤ 9223372036854775807 by omega)]
   obtain ⟨h', e1, e2, e3, e4⟩ := lp (t.n - d + 1) (by omega) (by omega)
   exact ⟨h', e1, by omega, e3, fin h' (fun _ => by omega) e4⟩
  ·rw [decide_eq_false hdn, cond_false]
   obtain ⟨h', e1, e2, e3, e4⟩ := lp 0 (Int.le_refl _) hL.1
   exact ⟨h', e1, e2, e3, fin h' (fun _ => by omega) e4⟩
 ·rw [decide_eq_false hk, cond_false]
  obtain ⟨h', e1, e2, e3, e4⟩ := lp 0 (Int.le_refl _) hL.1
  exact ⟨h', e1, e2, e3, fin h' (fun q => absurd q hk) e4⟩
theorem f_MaxFreeS {n : Nat} {t : T} (hn : 6000 ≤ n) (hv : validB t = true) : FF n 15 [tm t] [] = some ([nt (mfN t : Int)], []) := by
 obtain ⟨n, rfl⟩ := pos_succ (show 0 < n by omega)
 have hz := validB_size hv
 have hs : shapeF t 30 = true := by
  unfold validB at hv
  rw [Bool.and_eq_true] at hv
  exact hv.1
 have go : ∀ L : Int, 0 ≤ L → L ≤ 21 → clF t L = true → ∃ v, FF n 33 [tm t, nt 0] [] = some ([nt v], []) ∧ 0 ≤ v ∧ v ≤ L ∧ clF t v = true := fun L h0 h1 hc => by
  obtain ⟨v, e1, e2, e3, e4⟩ := f_l2Most t (n := n) (L := L) (d := 0) (by omega) (by omega) ⟨h0, by omega⟩ (by omega) (by simpa using hc)
  exact ⟨v, e1, e2, e3, by simpa using e4⟩
 obtain ⟨v, e1, e2, e3, e4⟩ := go 21 (by omega) (by omega) (clF_valid t 30 hs (by omega))
 have hm := mf_uniq hv e2 e4 fun d hd hc => by
  obtain ⟨u, f1, f2, f3, f4⟩ := go d (by omega) (by omega) hc
  rw [e1] at f1
  injection f1 with f1
  injection f1 with f1
  injection f1 with f1
  injection f1 with f1
  injection f1 with _ f1
  omega
 rw [E_spec_MaxFree, f_TermValidS (by omega) (by omega), hv]
 simp only [evt]
 simp only [tm] at e1
 rw [e1]
 simp only [evt]
 rw [hm]
end Go.Proofs.YtnogehmgpfpjmaaDoor
end
section
namespace Go.Proofs.YtnogehmgpfpjmaaDoor
open Go Go.Dk
theorem shNL_same (env : List UInt8) : ∀ (i : Nat) (ts : List T), shNL env env i ts = ts.map (shN env)
 | _, [] => by simp [shNL]
 | i, t :: ts => by rw [shNL, shNL_same env (i + 1) ts]; simp
theorem kind_of {k : Int} {l : Nat} (h : opsOf k = (l : Int)) : (k = 1 ∨ k = 2 ∨ k = 6 ∨ k = 7) ∧ l = 0 ∨ (k = 8 ∨ k = 11 ∨ k = 15 ∨ k = 16) ∧ l = 1 ∨ (k = 3 ∨ k = 4 ∨ k = 5 ∨ k = 13) ∧ l = 2 ∨ (k = 10 ∨ k = 12 ∨ k = 14) ∧ l = 3 ∨ k = 9 ∧ l = 4 := by
 unfold opsOf at h
 split at h
 ·rename_i h'; exact .inl ⟨h', by omega⟩
 split at h
 ·rename_i h'; exact .inr (.inl ⟨h', by omega⟩)
 split at h
 ·rename_i h'; exact .inr (.inr (.inl ⟨h', by omega⟩))
 split at h
 ·rename_i h'; exact .inr (.inr (.inr (.inl ⟨h', by omega⟩)))
 split at h
 ·rename_i h'; exact .inr (.inr (.inr (.inr ⟨h', by omega⟩)))
 ·omega
theorem len1 {α : Type} {l : List α} (h : l.length = 1) : ∃ a, l = [a] := by
 match l, h with
 | [a], _ => exact ⟨a, rfl⟩
theorem len2 {α : Type} {l : List α} (h : l.length = 2) : ∃ a b, l = [a, b] := by
 match l, h with
 | [a, b], _ => exact ⟨a, b, rfl⟩
theorem shape_node {k n : Int} {ts : List T} {d : Nat} (h : shapeF (.mk k n ts) d = true) : ∃ e, d = e + 1 ∧ opsOf k = ts.length ∧ (0 ≤ n ∧ n ≤ mostOf k) ∧ ∀ u ∈ ts, shapeF u e = true := by
 simp only [shapeF, Bool.and_eq_true, decide_eq_true_eq] at h
 obtain ⟨h1, h2, h3, h4⟩ := h
 exact ⟨d - 1, by omega, h2, h3, fun u hu => shapeL_mem h4 hu⟩
theorem clL_flat {k : Int} (hk : isBd k = false) : ∀ (ts : List T) (i : Nat) (d : Int), clL ts k i d = true → ∀ u ∈ ts, clF u d = true
 | [], _, _, _, _, hu => by cases hu
 | t :: ts, i, d, h, u, hu => by
  simp only [clL, Bool.and_eq_true] at h
  have h0 : under k i = 0 := by
   unfold under; rw [if_neg]
   simp only [isBd, Bool.or_eq_false_iff, decide_eq_false_iff_not] at hk
   omega
  rw [h0] at h
  rcases List.mem_cons.1 hu with rfl | hu
  ·simpa using h.1
  ·exact clL_flat hk ts (i + 1) d h.2 u hu
theorem mbL_mem {k : Int} : ∀ (ts : List T) (i : Nat) {u : T}, u ∈ ts → mbF u ≤ mbL k i ts
 | t :: ts, i, u, hu => by
  rw [mbL]
  rcases List.mem_cons.1 hu with rfl | hu
  ·omega
  ·have := mbL_mem (k := k) ts (i + 1) hu; omega
end Go.Proofs.YtnogehmgpfpjmaaDoor
end
section
namespace Go.Proofs.YtnogehmgpfpjmaaDoor
open Go Go.Dk
def letterB (c : UInt8) : Bool := decide (97 ≤ (c.toNat : Int)) && decide ((c.toNat : Int) ≤ 122)
theorem idxB_neg (s : ByteArray) (c : UInt8) : idxB s c < 0 ↔ c ∉ s.data.toList := by
 unfold idxB
 cases h : s.data.toList.findIdx? (· == c) with
 | none =>
  rw [List.findIdx?_eq_none_iff] at h
  simp only [Int.reduceNeg, Int.neg_neg_iff_pos, Int.zero_lt_one, true_iff]
  intro hc
  simpa using h c hc
 | some k =>
  rw [List.findIdx?_eq_some_iff_getElem] at h
  obtain ⟨hk, hp, _⟩ := h
  simp only [Int.not_lt.2 (Int.natCast_nonneg k), false_iff, Decidable.not_not]
  have : s.data.toList[k] = c := by simpa using hp
  rw [← this]; exact List.getElem_mem hk
theorem extract_take (s : ByteArray) (i : Nat) (h : i ≤ s.size) : (s.extract 0 i).data.toList = s.data.toList.take i := by
 simp
def nvAt (s : ByteArray) (i : Nat) : Bool := letterB (byteAt s i) && !(s.data.toList.take i).contains (byteAt s i)
def nvB (s : ByteArray) : Bool := (List.range s.size).all (nvAt s) && decide (s.size ≤ 20)
theorem nvB_false {s : ByteArray} {i : Nat} (hi : i < s.size) (h : nvAt s i = false) : nvB s = false := by
 unfold nvB
 rw [Bool.and_eq_false_iff]; left
 rw [List.all_eq_false]
 exact ⟨i, by simpa using hi, by simp [h]⟩
theorem nvB_all {s : ByteArray} (h : ∀ j, j < s.size → nvAt s j = true) : nvB s = decide (s.size ≤ 20) := by
 unfold nvB
 rw [List.all_eq_true.2 (fun x hx => h x (by simpa using hx)), Bool.true_and]
def findFrom (s : ByteArray) (c : UInt8) : Nat → Int
 | 0 => -1
 | k + 1 => if byteAt s k = c then (s.size : Int) - 1 - k else findFrom s c k
def findB (s : ByteArray) (c : UInt8) : Int := findFrom s c s.size
theorem findFrom_neg (s : ByteArray) (c : UInt8) : ∀ k, k ≤ s.size → (findFrom s c k < 0 ↔ ∀ j, j < k → byteAt s j ≠ c)
 | 0, _ => by simp [findFrom]
 | k + 1, hk => by
  unfold findFrom
  split
  ·rename_i h
   constructor
   ·intro h1; omega
   ·intro h1; exact absurd h (h1 k (by omega))
  ·rename_i h
   rw [findFrom_neg s c k (by omega)]
   constructor
   ·intro h1 j hj
    rcases Nat.lt_succ_iff_lt_or_eq.1 hj with hj | rfl
    ·exact h1 j hj
    ·exact h
   ·intro h1 j hj; exact h1 j (by omega)
theorem mem_bytes (s : ByteArray) (c : UInt8) : c ∈ s.data.toList ↔ ∃ j, j < s.size ∧ byteAt s j = c := by
 rw [List.mem_iff_getElem]
 constructor
 ·rintro ⟨j, hj, h⟩
  refine ⟨j, by simpa using hj, ?_⟩
  unfold byteAt; rw [List.getElem?_eq_getElem hj]; exact h
 ·rintro ⟨j, hj, h⟩
  have hj' : j < s.data.toList.length := by simpa using hj
  refine ⟨j, hj', ?_⟩
  unfold byteAt at h; rw [List.getElem?_eq_getElem hj'] at h; exact h
theorem findB_neg (s : ByteArray) (c : UInt8) : findB s c < 0 ↔ c ∉ s.data.toList := by
 unfold findB
 rw [findFrom_neg s c s.size (Nat.le_refl _), mem_bytes]
 constructor
 ·rintro h ⟨j, hj, e⟩; exact h j hj e
 ·intro h j hj e; exact h ⟨j, hj, e⟩
theorem byte_eq {a b : UInt8} : ((a.toNat : Int) = (b.toNat : Int)) ↔ a = b := by
 rw [Int.natCast_inj]
 exact ⟨fun h => UInt8.toNat_inj.1 h, fun h => by rw [h]⟩
def freshFrom (s : ByteArray) : Nat → Nat → UInt8
 | 0, _ => 122
 | f + 1, k => if (UInt8.ofNat k) ∉ s.data.toList then UInt8.ofNat k else freshFrom s f (k + 1)
def freshB (s : ByteArray) : UInt8 := freshFrom s 25 97
def freshSFrom (s : ByteArray) : Nat → Nat → UInt8
 | 0, _ => 0
 | f + 1, k => if (UInt8.ofNat k) ∉ s.data.toList then UInt8.ofNat k else freshSFrom s f (k + 1)
theorem len_le {α : Type} [DecidableEq α] : ∀ (l m : List α), l.Nodup → (∀ x ∈ l, x ∈ m) → l.length ≤ m.length
 | [], _, _, _ => by simp
 | a :: l, m, hn, hs => by
  have hm := hs a (List.mem_cons_self ..)
  simp only [List.nodup_cons] at hn
  have := len_le l (m.erase a) hn.2 (fun x hx => (List.mem_erase_of_ne (fun e => hn.1 (by rw [← e]; exact hx))).2 (hs x (List.mem_cons_of_mem _ hx)))
  rw [List.length_erase_of_mem hm] at this
  have := List.length_pos_of_mem hm
  simp only [List.length_cons]; omega
theorem fresh_eq_from (s : ByteArray) : ∀ g k, k + g = 122 → (∃ j, k ≤ j ∧ j ≤ 122 ∧ (UInt8.ofNat j) ∉ s.data.toList) → freshSFrom s (g + 1) k = freshFrom s g k
 | 0, k, hk, ⟨j, h1, h2, h3⟩ => by
  have : j = 122 := by omega
  subst this
  have : k = 122 := by omega
  subst this
  rw [freshSFrom, if_pos h3, freshFrom]; rfl
 | g + 1, k, hk, ⟨j, h1, h2, h3⟩ => by
  rw [freshSFrom, freshFrom]
  split
  ·rfl
  ·rename_i h
   refine fresh_eq_from s g (k + 1) (by omega) ⟨j, ?_, h2, h3⟩
   rcases Nat.eq_or_lt_of_le h1 with rfl | h1
   ·exact absurd h3 h
   ·omega
theorem fresh_eq (s : ByteArray) (h : s.size ≤ 20) : freshSFrom s 26 97 = freshB s := by
 refine fresh_eq_from s 25 97 rfl ?_
 refine Classical.byContradiction fun hn => ?_
 have hall : ∀ x ∈ (List.range' 97 26).map UInt8.ofNat, x ∈ s.data.toList := by
  intro x hx
  obtain ⟨j, hj, rfl⟩ := List.mem_map.1 hx
  rw [List.mem_range'_1] at hj
  exact Classical.byContradiction fun hm => hn ⟨j, by omega, by omega, hm⟩
 have := len_le _ _ (by decide) hall
 simp at this
 omega
theorem nvB_size {s : ByteArray} (h : nvB s = true) : s.size ≤ 20 := by
 unfold nvB at h
 simp only [Bool.and_eq_true, decide_eq_true_eq] at h
 exact h.2
end Go.Proofs.YtnogehmgpfpjmaaDoor
end
section
namespace Go.Proofs.YtnogehmgpfpjmaaDoor
open Go Go.Ab Go.Dk
theorem find_loop (s : ByteArray) (c : UInt8) (hs : s.size ≤ 1048577) (n : Nat) : ∀ k d, k < d → k ≤ s.size → L_spec_l6Find_0 n d s (c.toNat : Int) ((k : Int) - 1) = some ([.one (.int .i64 (findFrom s c k))], [])
 | k, 0, h, _ => by omega
 | 0, d + 1, _, _ => by
  rw [L_spec_l6Find_0_eq]
  simp [findFrom]
 | k + 1, d + 1, h, hk => by
  rw [L_spec_l6Find_0_eq]
  have e : ((k + 1 : Nat) : Int) - 1 = k := by omega
  have w1 : IntKind.i64.wrap ((k : Int) - 1) = (k : Int) - 1 := wrap64 (by omega)
  have w2 : IntKind.i64.wrap ((s.size : Int) - 1) = (s.size : Int) - 1 := wrap64 (by omega)
  have w3 : IntKind.i64.wrap ((s.size : Int) - 1 - k) = (s.size : Int) - 1 - k := wrap64 (by omega)
  simp only [e, w1, w2, w3, cond_dec, if_pos (show (0 : Int) ≤ k by omega), decide_eq_true (show (0 : Int) ≤ k by omega), decide_eq_true (show (k : Int) < s.size by omega), Bool.and_self, cond_true, Int.toNat_natCast, byte_eq, findFrom, find_loop s c hs n k d (by omega) (by omega)]
  split <;> rfl
theorem nvI_loop (s : ByteArray) (hs : s.size ≤ 1048577) (n : Nat) (h1 : ∀ c : UInt8, FF n 39 [.one (.int .u8 (c.toNat : Int))] [] = some ([.one (.bool (letterB c))], []))
   (h2 : ∀ (s : ByteArray) (c : UInt8), FF n 40 [.one (.str s), .one (.int .u8 (c.toNat : Int))] [] = some ([.one (.int .i64 (idxB s c))], [])) :
   ∀ g d k, g < d → k + g = s.size → (∀ j, j < k → nvAt s j = true) → L_impl_NamesValid_0 n d s (s.size : Int) (k : Int) = some ([.one (.bool (nvB s))], [])
 | g, 0, k, h, _, _ => by omega
 | 0, d + 1, k, _, hk, ha => by
  rw [L_impl_NamesValid_0_eq, nvB_all (fun j hj => ha j (by omega))]
  simp only [cond_dec, if_neg (show ¬ (k : Int) < s.size by omega)]
  have : decide ((s.size : Int) ≤ 20) = decide (s.size ≤ 20) := decide_eq_decide.2 (by omega)
  rw [this]
 | g + 1, d + 1, k, h, hk, ha => by
  rw [L_impl_NamesValid_0_eq]
  have w1 : IntKind.i64.wrap ((k : Int) + 1) = ((k + 1 : Nat) : Int) := wrap64 (by omega)
  simp only [w1, inB, cond_dec, h1, h2, evs, if_pos (show (k : Int) < s.size by omega), decide_eq_true (show (0 : Int) ≤ k by omega), decide_eq_true (show (k : Int) < s.size by omega), decide_eq_true (show (k : Int) ≤ s.size by omega), decide_eq_true (Int.le_refl 0), Bool.and_self, Int.toNat_natCast, Int.toNat_zero]
  have hx := idxB_neg (s.extract 0 k) (byteAt s k)
  rw [extract_take s k (by omega)] at hx
  cases hl : letterB (byteAt s k) with
  | false => rw [nvB_false (i := k) (by omega) (by unfold nvAt; rw [hl]; rfl)]; rfl
  | true =>
   simp only [Bool.not_true, cond_false]
   by_cases h0 : 0 ≤ idxB (s.extract 0 k) (byteAt s k)
   ·rw [if_pos h0, nvB_false (i := k) (by omega)]
    unfold nvAt
    have : byteAt s k ∈ s.data.toList.take k := by
     refine Classical.byContradiction fun hc => ?_
     have := hx.2 hc; omega
    simp [this]
   ·rw [if_neg h0]
    refine nvI_loop s hs n h1 h2 g d (k + 1) (by omega) (by omega) fun j hj => ?_
    rcases Nat.lt_succ_iff_lt_or_eq.1 hj with hj | rfl
    ·exact ha j hj
    ·unfold nvAt
     have hn : byteAt s j ∉ s.data.toList.take j := hx.1 (by omega)
     rw [hl]; simp only [Bool.true_and, Bool.not_eq_true']
     rw [← Bool.not_eq_true, List.contains_iff_mem]; exact hn
theorem nvS_loop (s : ByteArray) (hs : s.size ≤ 1048577) (n : Nat) (h1 : ∀ c : UInt8, FF n 31 [.one (.int .u8 (c.toNat : Int))] [] = some ([.one (.bool (letterB c))], []))
   (h2 : ∀ (t : ByteArray) (c : UInt8), t.size ≤ s.size → FF n 32 [.one (.str t), .one (.int .u8 (c.toNat : Int))] [] = some ([.one (.int .i64 (findB t c))], [])) :
   ∀ g d k, g < d → k + g = s.size → (∀ j, j < k → nvAt s j = true) → L_spec_NamesValid_0 n d s (k : Int) = some ([.one (.bool (nvB s))], [])
 | g, 0, k, h, _, _ => by omega
 | 0, d + 1, k, _, hk, ha => by
  rw [L_spec_NamesValid_0_eq, nvB_all (fun j hj => ha j (by omega))]
  simp only [cond_dec, if_neg (show ¬ (k : Int) < s.size by omega)]
  have : decide ((s.size : Int) ≤ 20) = decide (s.size ≤ 20) := decide_eq_decide.2 (by omega)
  rw [this]
 | g + 1, d + 1, k, h, hk, ha => by
  rw [L_spec_NamesValid_0_eq]
  have w1 : IntKind.i64.wrap ((k : Int) + 1) = ((k + 1 : Nat) : Int) := wrap64 (by omega)
  simp only [w1, inB, cond_dec, h1, h2 _ _ (show (s.extract 0 k).size ≤ s.size by rw [ByteArray.size_extract]; omega), evs, if_pos (show (k : Int) < s.size by omega), decide_eq_true (show (0 : Int) ≤ k by omega), decide_eq_true (show (k : Int) < s.size by omega), decide_eq_true (show (k : Int) ≤ s.size by omega), decide_eq_true (Int.le_refl 0), Bool.and_self, Int.toNat_natCast, Int.toNat_zero]
  have hx := findB_neg (s.extract 0 k) (byteAt s k)
  rw [extract_take s k (by omega)] at hx
  cases hl : letterB (byteAt s k) with
  | false => rw [nvB_false (i := k) (by omega) (by unfold nvAt; rw [hl]; rfl)]; rfl
  | true =>
   simp only [Bool.not_true, cond_false]
   by_cases h0 : 0 ≤ findB (s.extract 0 k) (byteAt s k)
   ·rw [if_pos h0, nvB_false (i := k) (by omega)]
    unfold nvAt
    have : byteAt s k ∈ s.data.toList.take k := by
     refine Classical.byContradiction fun hc => ?_
     have := hx.2 hc; omega
    simp [this]
   ·rw [if_neg h0]
    refine nvS_loop s hs n h1 h2 g d (k + 1) (by omega) (by omega) fun j hj => ?_
    rcases Nat.lt_succ_iff_lt_or_eq.1 hj with hj | rfl
    ·exact ha j hj
    ·unfold nvAt
     have hn : byteAt s j ∉ s.data.toList.take j := hx.1 (by omega)
     rw [hl]; simp only [Bool.true_and, Bool.not_eq_true']
     rw [← Bool.not_eq_true, List.contains_iff_mem]; exact hn
theorem freshI_loop (s : ByteArray) (n : Nat) (h2 : ∀ (s : ByteArray) (c : UInt8), FF n 40 [.one (.str s), .one (.int .u8 (c.toNat : Int))] [] = some ([.one (.int .i64 (idxB s c))], [])) :
   ∀ g d (k : Nat), g < d → k + g = 122 → 97 ≤ k → L_impl_fresh_0 n d s (k : Int) = some ([.one (.str ⟨#[freshFrom s g k]⟩)], [])
 | g, 0, k, h, _, _ => by omega
 | 0, d + 1, k, _, hk, _ => by
  rw [L_impl_fresh_0_eq]
  simp only [cond_dec, if_neg (show ¬ (k : Int) < 122 by omega)]; rfl
 | g + 1, d + 1, k, h, hk, h97 => by
  rw [L_impl_fresh_0_eq]
  have hv : (k : Int) = ((UInt8.ofNat k).toNat : Int) := by rw [UInt8.toNat_ofNat_of_lt' (by simp [UInt8.size]; omega)]
  have hi := h2 s (UInt8.ofNat k)
  rw [← hv] at hi
  have w1 : IntKind.u8.wrap ((k : Int) + 1) = ((k + 1 : Nat) : Int) := by
   rw [IntKind.wrap]; simp [IntKind.signed, IntKind.bits]; omega
  simp only [cond_dec, if_pos (show (k : Int) < 122 by omega), hi, evs, decide_eq_true (show (0 : Int) ≤ k by omega), decide_eq_true (show (k : Int) ≤ 255 by omega), Bool.and_self, Int.toNat_natCast, w1]
  have hx := idxB_neg s (UInt8.ofNat k)
  unfold freshFrom
  by_cases h0 : idxB s (UInt8.ofNat k) < 0
  ·rw [if_pos h0, if_pos (hx.1 h0)]
  ·rw [if_neg h0, if_neg (fun h => h0 (hx.2 h))]
   exact freshI_loop s n h2 g d (k + 1) (by omega) (by omega) (by omega)
theorem freshS_loop (s : ByteArray) (n : Nat) (h2 : ∀ c : UInt8, FF n 32 [.one (.str s), .one (.int .u8 (c.toNat : Int))] [] = some ([.one (.int .i64 (findB s c))], [])) :
   ∀ g d (k : Nat), g < d → k + g = 123 → 97 ≤ k → L_spec_l6Fresh_0 n d s (k : Int) = some ([.one (.int .u8 ((freshSFrom s g k).toNat : Int))], [])
 | g, 0, k, h, _, _ => by omega
 | 0, d + 1, k, _, hk, _ => by
  rw [L_spec_l6Fresh_0_eq]
  simp only [cond_dec, if_neg (show ¬ (k : Int) ≤ 122 by omega)]; rfl
 | g + 1, d + 1, k, h, hk, h97 => by
  rw [L_spec_l6Fresh_0_eq]
  have hv : (k : Int) = ((UInt8.ofNat k).toNat : Int) := by rw [UInt8.toNat_ofNat_of_lt' (by simp [UInt8.size]; omega)]
  have hi := h2 (UInt8.ofNat k)
  rw [← hv] at hi
  have w1 : IntKind.u8.wrap ((k : Int) + 1) = ((k + 1 : Nat) : Int) := by
   rw [IntKind.wrap]; simp [IntKind.signed, IntKind.bits]; omega
  simp only [cond_dec, if_pos (show (k : Int) ≤ 122 by omega), hi, evs, w1]
  have hx := findB_neg s (UInt8.ofNat k)
  unfold freshSFrom
  by_cases h0 : findB s (UInt8.ofNat k) < 0
  ·rw [if_pos h0, if_pos (hx.1 h0), ← hv]
  ·rw [if_neg h0, if_neg (fun h => h0 (hx.2 h))]
   exact freshS_loop s n h2 g d (k + 1) (by omega) (by omega) (by omega)
end Go.Proofs.YtnogehmgpfpjmaaDoor
end
section
namespace Go.Proofs.YtnogehmgpfpjmaaDoor
open Go Go.Ab Go.Dk
abbrev sr (l : List UInt8) : V1 := .one (.str (bytesOf l))
theorem by_size (l : List UInt8) : (bytesOf l).size = l.length := by unfold bytesOf; show l.toArray.size = _; simp
theorem by_data (l : List UInt8) : (bytesOf l).data.toList = l := rfl
theorem by_toList (l : List UInt8) : (bytesOf l).toList = l := by rw [ByteArray.toList_eq]; rfl
theorem by_app (l m : List UInt8) : bytesOf l ++ bytesOf m = bytesOf (l ++ m) := by unfold bytesOf; apply ByteArray.ext; apply Array.toList_inj.1; simp
theorem by_ext (l : List UInt8) (a b : Nat) : (bytesOf l).extract a b = bytesOf ((l.take b).drop a) := by
 unfold bytesOf; apply ByteArray.ext; apply Array.toList_inj.1
 rw [ByteArray.data_extract, Array.toList_extract]
 simp [List.drop_take]
section
variable {n : Nat} (l p : List UInt8)
end
theorem f_Split {n : Nat} (s : List UInt8) {ps : List (List UInt8)} (hs : shTab.lookup s = some ps) : FF (n + 1) 45 [sr s, .one (.str (bytesOf [46]))] [] = some ([.one (.fr (.ss (ps.map bytesOf)))], []) := by
 have e : FF (n + 1) 45 [sr s, .one (.str (bytesOf [46]))] [] = spP [sr s, .one (.str (bytesOf [46]))] := by kernel_rfl
 rw [e]
 unfold spP
 simp only [by_toList, if_true, hs, Option.bind_some]
theorem f_Itoa {n : Nat} {k : Int} (h0 : 0 ≤ k) (h1 : k ≤ 9223372036854775807) : FF (n + 1) 63 [nt k] [] = some ([sr (Lib.itoa k)], []) := by
 have e : FF (n + 1) 63 [nt k] [] = itP [nt k] := by kernel_rfl
 rw [e]
 unfold itP
 simp only [if_pos (show 0 ≤ k ∧ k ≤ 9223372036854775807 from ⟨h0, h1⟩)]
end Go.Proofs.YtnogehmgpfpjmaaDoor
end
section
namespace Go.Proofs.YtnogehmgpfpjmaaDoor
open Go Go.Ab Go.Dk
theorem dig_cases {x : UInt8} (h : digB x = true) : x = 48 ∨ x = 49 ∨ x = 50 ∨ x = 51 ∨ x = 52 ∨ x = 53 ∨ x = 54 ∨ x = 55 ∨ x = 56 ∨ x = 57 := by
 simp only [digB, Bool.and_eq_true, decide_eq_true_eq] at h
 have e : x = UInt8.ofNat x.toNat := by simp
 have : x.toNat = 48 ∨ x.toNat = 49 ∨ x.toNat = 50 ∨ x.toNat = 51 ∨ x.toNat = 52 ∨ x.toNat = 53 ∨ x.toNat = 54 ∨ x.toNat = 55 ∨ x.toNat = 56 ∨ x.toNat = 57 := by omega
 rcases this with h | h | h | h | h | h | h | h | h | h <;> rw [h] at e <;> subst e <;> decide
theorem itoa_one {x : UInt8} (h : digB x = true) : Lib.itoa ((x.toNat : Int) - 48) = [x] := by
 rcases dig_cases h with h | h | h | h | h | h | h | h | h | h <;> subst h <;> decide +kernel
end Go.Proofs.YtnogehmgpfpjmaaDoor
end
section
namespace Go.Proofs.YtnogehmgpfpjmaaDoor
open Go Go.Ab Go.Dk
def shps : List (List UInt8) := [[35], [42], [40, 46, 62, 46, 41], [91, 46, 93, 46], [40, 46, 32, 46, 41], [78], [48], [43, 46], [60, 46, 44, 46, 44, 46, 44, 46, 62], [123, 46, 44, 46, 44, 46, 125], [33, 46], [64, 60, 46, 44, 46, 44, 46, 62], [40, 46, 42, 46, 41], [124, 46, 44, 46, 44, 46, 124], [94, 46], [95, 46]]
theorem f_shapes {n : Nat} (hn : 1 ≤ n) : FF n 46 [] [] = some ([.one (.fr (.ss (shps.map bytesOf)))], []) := by
 obtain ⟨n, rfl⟩ := pos_succ (show 0 < n by omega)
 rw [E_impl_shapes]; rfl
theorem f_isBd {n : Nat} (hn : 1 ≤ n) (k : Int) : FF n 47 [nt k] [] = some ([bl (isBd k)], []) := by
 rw [f_isBinder hn]
 congr 5
 unfold isBd
 rw [Bool.eq_iff_iff]; simp
def RD (B : Nat) (o : Option (T × List UInt8)) (res : OR) : Prop := ∃ t r b, res = some ([tm t, sr r, bl b], []) ∧ (∀ x, o = some x → t = x.1 ∧ r = x.2 ∧ b = true) ∧ (o = none → b = false) ∧ (b = true → r.length ≤ B)
theorem RD.ok {B : Nat} {res : OR} {t : T} {r : List UInt8} (h : res = some ([tm t, sr r, bl true], [])) (hb : r.length ≤ B) : RD B (some (t, r)) res := ⟨t, r, true, h, fun x e => (by cases e; exact ⟨rfl, rfl, rfl⟩), fun h => (by cases h), fun _ => hb⟩
section
variable {n c : Nat} {x : UInt8} {s e ins : List UInt8} {deep : Int} {ps : List (List UInt8)} {rest : List UInt8} {binds : Bool} {i : Nat} {z1 z2 : Int} {z3 : List T} {k N : Int} {ks : List T}
end
theorem letB_eq (c : UInt8) : letterB c = letB c := by unfold letterB letB; rw [Bool.eq_iff_iff]; simp; omega
theorem f_isLetter {n : Nat} (hn : 1 ≤ n) (c : UInt8) : FF n 39 [.one (.int .u8 (c.toNat : Int))] [] = some ([bl (letB c)], []) := by
 obtain ⟨n, rfl⟩ := pos_succ (show 0 < n by omega)
 rw [E_impl_isLetter, ← letB_eq]
 unfold letterB
 by_cases h : (97 : Int) ≤ c.toNat <;> simp only [h, decide_true, decide_false, cond_true, cond_false, Bool.true_and, Bool.false_and]
section
variable {n B : Nat} {x : UInt8} {s e : List UInt8} {deep : Int}
end
end Go.Proofs.YtnogehmgpfpjmaaDoor
end
section
namespace Go.Proofs.YtnogehmgpfpjmaaDoor
open Go Go.Ab Go.Dk
section
variable {n B : Nat} {x : UInt8} {s e : List UInt8} {deep : Int}
end
end Go.Proofs.YtnogehmgpfpjmaaDoor
end
section
namespace Go.Proofs.YtnogehmgpfpjmaaDoor
open Go Go.Ab Go.Dk
section
variable {n B m : Nat} {x : UInt8} {s e ins : List UInt8} {deep : Int} {rest : List UInt8} {binds : Bool} {z1 z2 : Int} {z3 : List T} {k : Int}
end
end Go.Proofs.YtnogehmgpfpjmaaDoor
end
section
namespace Go.Proofs.YtnogehmgpfpjmaaDoor
open Go Go.Ab Go.Dk
def RQ (S : List UInt8) (o : Option (T × List UInt8)) (t : T) (k : Int) : Prop :=
 (∃ j, o = some (t, S.drop j) ∧ j ≤ S.length ∧ k = (j : Int)) ∨ (o = none ∧ k = -1) ∨ (o = none ∧ ∃ (j : Nat) (y : UInt8) (r : List UInt8), k = (j : Int) ∧ S.drop j = y :: r ∧ digB y = true)
def RP (S : List UInt8) (o : Option (T × List UInt8)) (res : OR) : Prop := ∃ t k, res = some ([tm t, nt k], []) ∧ RQ S o t k
theorem RP.ok {S : List UInt8} {res : OR} {t : T} {j : Nat} {r : List UInt8} (h : res = some ([tm t, nt (j : Int)], [])) (hj : j ≤ S.length) (hr : r = S.drop j) : RP S (some (t, r)) res := ⟨t, j, h, .inl ⟨j, by rw [hr], hj, rfl⟩⟩
section
variable {S : List UInt8} {j : Nat} {y : UInt8} {r : List UInt8}
theorem dp_nil (h : S.drop j = []) : S.length ≤ j := by simpa using h
end
theorem f_l6Letter {n : Nat} (hn : 1 ≤ n) (c : UInt8) : FF n 31 [.one (.int .u8 (c.toNat : Int))] [] = some ([bl (letB c)], []) := by
 obtain ⟨n, rfl⟩ := pos_succ (show 0 < n by omega)
 rw [E_spec_l6Letter, ← letB_eq]
 unfold letterB
 by_cases h : (97 : Int) ≤ c.toNat <;> simp only [h, decide_true, decide_false, cond_true, cond_false, Bool.true_and, Bool.false_and]
end Go.Proofs.YtnogehmgpfpjmaaDoor
end
section
namespace Go.Proofs.YtnogehmgpfpjmaaDoor
open Go Go.Ab Go.Dk
section
variable {S : List UInt8} {o : Option (T × List UInt8)} {t : T} {k : Int}
theorem RQ.cases (h : RQ S o t k) : (k = -1 ∧ o = none) ∨ (∃ j : Nat, k = j ∧ S.length ≤ j ∧ o = some (t, [])) ∨ (∃ (j : Nat) (z : UInt8) (r : List UInt8), k = j ∧ S.drop j = z :: r ∧ (o = some (t, z :: r) ∨ (o = none ∧ digB z = true))) := by
 rcases h with ⟨j, h1, h2, h3⟩ | ⟨h1, h2⟩ | ⟨h1, j, y, r, h2, h3, h4⟩
 ·cases hd : S.drop j with
  | nil => rw [hd] at h1; exact .inr (.inl ⟨j, h3, dp_nil hd, h1⟩)
  | cons z r => rw [hd] at h1; exact .inr (.inr ⟨j, z, r, h3, hd, .inl h1⟩)
 ·exact .inl ⟨h2, h1⟩
 ·exact .inr (.inr ⟨j, y, r, h2, h3, .inr ⟨h1, h4⟩⟩)
theorem RQ.map (h : RQ S o t k) (f : T → T) : RQ S (o.map fun b => (f b.1, b.2)) (f t) k := by
 rcases h with ⟨j, h1, h2, h3⟩ | ⟨h1, h2⟩ | ⟨h1, j, y, r, h2, h3, h4⟩
 ·subst h1; exact .inl ⟨j, rfl, h2, h3⟩
 ·subst h1; exact .inr (.inl ⟨rfl, h2⟩)
 ·subst h1; exact .inr (.inr ⟨rfl, j, y, r, h2, h3, h4⟩)
end
section
variable {S e : List UInt8} {d n : Nat} (hn : 20 ≤ n) (hS : S.length ≤ 1099511627776)
include hn hS
end
end Go.Proofs.YtnogehmgpfpjmaaDoor
end
section
namespace Go.Proofs.YtnogehmgpfpjmaaDoor
open Go Go.Ab Go.Dk
section
variable {S e : List UInt8} {d n : Nat} (hn : 20 ≤ n) (hS : S.length ≤ 1099511627776)
include hn hS
end
theorem RP.pass {S : List UInt8} {o : Option (T × List UInt8)} {res : OR} (h : RP S o res) : RP S o (res.bind fun x0 => rTerm x0.1 fun x1 x2 => rInt .i64 x2 fun x3 x4 => nilV x4 (nilO x0.2 (some ([.agg [.int .i64 x1.k, .int .i64 x1.n, .fr (.ts x1.kids)], .one (.int .i64 x3)], [])))) := by
 obtain ⟨t, k, hr, hq⟩ := h
 rw [hr]
 simp only [evt]
 exact ⟨t, k, rfl, hq⟩
end Go.Proofs.YtnogehmgpfpjmaaDoor
end
section
namespace Go.Proofs.YtnogehmgpfpjmaaDoor
open Go Go.Ab Go.Dk
def Dec (p : List UInt8 → Option (T × List UInt8)) : Prop := ∀ s t r, p s = some (t, r) → t.size + r.length ≤ s.length
theorem f_NamesValidI {n : Nat} (l : List UInt8) (hl : l.length ≤ 1048577) (hn : l.length + 5 ≤ n) : FF n 20 [sr l] [] = some ([bl (nvB (bytesOf l))], []) := by
 obtain ⟨n, rfl⟩ : ∃ m, n = m + 3 := ⟨n - 3, by omega⟩
 have hs := by_size l
 rw [E_impl_NamesValid]
 refine nvI_loop (bytesOf l) (by omega) _ (fun c => ?_) (fun s c => ?_) (bytesOf l).size _ 0 (by omega) (by omega) (fun j hj => by omega)
 ·rw [f_isLetter (by omega), ← letB_eq]
 ·rw [E_strings_IndexByte, E_stringslite_IndexByte]
  simp only [byte_ok, byte_rt, evs]
theorem f_NamesValidS {n : Nat} (l : List UInt8) (hl : l.length ≤ 1048577) (hn : l.length + 5 ≤ n) : FF n 14 [sr l] [] = some ([bl (nvB (bytesOf l))], []) := by
 obtain ⟨n, rfl⟩ : ∃ m, n = m + 2 := ⟨n - 2, by omega⟩
 have hs := by_size l
 rw [E_spec_NamesValid]
 refine nvS_loop (bytesOf l) (by omega) _ (fun c => ?_) (fun t c ht => ?_) (bytesOf l).size _ 0 (by omega) (by omega) (fun j hj => by omega)
 ·rw [f_l6Letter (by omega), ← letB_eq]
 ·rw [E_spec_l6Find, wrap64 (by omega), find_loop t c (by omega) n t.size n (by omega) (Nat.le_refl _)]; rfl
end Go.Proofs.YtnogehmgpfpjmaaDoor
end
section
namespace Go.Proofs.YtnogehmgpfpjmaaDoor
open Go Go.Ab Go.Dk
theorem und_nn (k : Int) (i : Nat) : 0 ≤ under k i ∧ under k i ≤ 1 := und_bd k i
theorem mb_size : (∀ t : T, mbF t ≤ t.size) := by
 intro t
 induction t using T.ind with | h t ih =>
 cases t with
 | mk k n ts =>
 rw [mbF, T.size]
 have : ∀ (ts' : List T) (i : Nat), (∀ u ∈ ts', mbF u ≤ u.size) → mbL k i ts' ≤ 1 + T.sizeL ts' := by
  intro ts'
  induction ts' with
  | nil => intro i _; simp [mbL]
  | cons u us ih2 =>
   intro i h
   have h1 := h u (by simp)
   have h2 := ih2 (i + 1) (fun v hv => h v (List.mem_cons_of_mem _ hv))
   have := und_nn k i
   have := size_pos u
   rw [mbL, T.sizeL]; omega
 exact this ts 0 ih
theorem mb_loopI {n : Nat} (hn : 10 ≤ n) (k n1 : Int) (ks ts : List T) (hl : ts.length ≤ 1000000) (hb : ∀ u ∈ ts, mbF u ≤ 1000000) (h : ∀ u ∈ ts, FF n 22 [tm u] [] = some ([nt (mbF u : Int)], [])) :
   ∀ g m (i : Nat) (v : Nat), g < m → i + g = ts.length → v ≤ 2000000 → L_impl_mostBinders_0 n m (v : Int) ts ts.length i k n1 ks = some ([nt ((max v (mbL k i (ts.drop i)) : Nat) : Int)], []) := by
 intro g
 induction g with
 | zero =>
  intro m i v hm hi hv
  obtain ⟨m, rfl⟩ := pos_succ (show 0 < m by omega)
  rw [L_impl_mostBinders_0_eq, decide_eq_false (show ¬ (i : Int) < ts.length by omega), cond_false, List.drop_of_length_le (by omega), mbL, Nat.max_zero]
 | succ g ih =>
  intro m i v hm hi hv
  obtain ⟨m, rfl⟩ := pos_succ (show 0 < m by omega)
  have hlt : i < ts.length := by omega
  have hu := und_nn k i
  have hbu := hb _ (List.getElem_mem hlt)
  rw [L_impl_mostBinders_0_eq, decide_eq_true (show (i : Int) < ts.length by omega), cond_true, decide_eq_true (show (0 : Int) ≤ i by omega), cond_true, Int.toNat_natCast, List.getElem?_eq_getElem hlt]
  simp only [Option.bind_some]
  rw [show (V1.agg [.int .i64 (ts[i]).k, .int .i64 (ts[i]).n, .fr (.ts (ts[i]).kids)]) = tm ts[i] from rfl, h _ (List.getElem_mem hlt)]
  simp only [evt]
  have hf := f_under (n := n) (by omega) k i
  simp only [nt] at hf
  rw [hf]
  simp only [evt]
  rw [wrap64 (show -9223372036854775808 ≤ (mbF ts[i] : Int) + under k i ∧ (mbF ts[i] : Int) + under k i ≤ 9223372036854775807 by omega), wrap64 (show -9223372036854775808 ≤ (i : Int) + 1 ∧ (i : Int) + 1 ≤ 9223372036854775807 by omega)]
  have e : max (v : Int) ((mbF ts[i] : Int) + under k i) = ((max v (mbF ts[i] + (under k i).toNat) : Nat) : Int) := by omega
  rw [e, show (i : Int) + 1 = ((i + 1 : Nat) : Int) by omega, ih m (i + 1) _ (by omega) (by omega) (by omega), List.drop_eq_getElem_cons hlt, mbL, Nat.max_assoc]
theorem f_mostBinders (t : T) : ∀ {n : Nat}, t.size + 20 ≤ n → t.size ≤ 100000 → FF n 22 [tm t] [] = some ([nt (mbF t : Int)], []) := by
 induction t using T.ind with | h t ih =>
 intro n hn hz
 obtain ⟨n, rfl⟩ := pos_succ (show 0 < n by omega)
 have hsz := T.size_eq t
 have hl := T.sizeL_len t.kids
 rw [E_impl_mostBinders, show (0 : Int) = ((0 : Nat) : Int) from rfl, mb_loopI (by omega) t.k t.n t.kids t.kids (by omega) (fun u hu => by have := mb_size u; have := T.sizeL_mem hu; omega) (fun u hu => ih u hu (by have := T.sizeL_mem hu; omega) (by have := T.sizeL_mem hu; omega)) t.kids.length n 0 0 (by omega) (by omega) (by omega)]
 cases t; simp [mbF, mk_k, mk_kids]
theorem mb_loopS {n : Nat} (hn : 10 ≤ n) (k n1 : Int) (ts : List T) (hl : ts.length ≤ 1000000) (hb : ∀ u ∈ ts, mbF u ≤ 1000000) (h : ∀ u ∈ ts, FF n 16 [tm u] [] = some ([nt (mbF u : Int)], [])) :
   ∀ g m (i : Nat) (v : Nat), g < m → i + g = ts.length → v ≤ 2000000 → L_spec_l6Deep_0 n m (v : Int) i k n1 ts = some ([nt ((max v (mbL k i (ts.drop i)) : Nat) : Int)], []) := by
 intro g
 induction g with
 | zero =>
  intro m i v hm hi hv
  obtain ⟨m, rfl⟩ := pos_succ (show 0 < m by omega)
  rw [L_spec_l6Deep_0_eq, decide_eq_false (show ¬ (i : Int) < ts.length by omega), cond_false, List.drop_of_length_le (by omega), mbL, Nat.max_zero]
 | succ g ih =>
  intro m i v hm hi hv
  obtain ⟨m, rfl⟩ := pos_succ (show 0 < m by omega)
  have hlt : i < ts.length := by omega
  have hu := und_nn k i
  have hbu := hb _ (List.getElem_mem hlt)
  rw [L_spec_l6Deep_0_eq, decide_eq_true (show (i : Int) < ts.length by omega), cond_true, decide_eq_true (show (0 : Int) ≤ i by omega), cond_true, Int.toNat_natCast, List.getElem?_eq_getElem hlt]
  simp only [Option.bind_some]
  rw [show (V1.agg [.int .i64 (ts[i]).k, .int .i64 (ts[i]).n, .fr (.ts (ts[i]).kids)]) = tm ts[i] from rfl, h _ (List.getElem_mem hlt)]
  simp only [evt]
  have hf := f_l2Under (n := n) (by omega) k i
  simp only [nt] at hf
  rw [hf]
  simp only [evt]
  rw [wrap64 (show -9223372036854775808 ≤ (mbF ts[i] : Int) + under k i ∧ (mbF ts[i] : Int) + under k i ≤ 9223372036854775807 by omega), wrap64 (show -9223372036854775808 ≤ (i : Int) + 1 ∧ (i : Int) + 1 ≤ 9223372036854775807 by omega)]
  rw [show (i : Int) + 1 = ((i + 1 : Nat) : Int) by omega, List.drop_eq_getElem_cons hlt, mbL]
  by_cases hc : (v : Int) < (mbF ts[i] : Int) + under k i
  ·rw [decide_eq_true hc, cond_true, show (mbF ts[i] : Int) + under k i = ((mbF ts[i] + (under k i).toNat : Nat) : Int) by omega, ih m (i + 1) _ (by omega) (by omega) (by omega), ← Nat.max_assoc, show max v (mbF ts[i] + (under k i).toNat) = mbF ts[i] + (under k i).toNat by omega]
  ·rw [decide_eq_false hc, cond_false, ih m (i + 1) _ (by omega) (by omega) (by omega), ← Nat.max_assoc, show max v (mbF ts[i] + (under k i).toNat) = v by omega]
theorem f_l6Deep (t : T) : ∀ {n : Nat}, t.size + 20 ≤ n → t.size ≤ 100000 → FF n 16 [tm t] [] = some ([nt (mbF t : Int)], []) := by
 induction t using T.ind with | h t ih =>
 intro n hn hz
 obtain ⟨n, rfl⟩ := pos_succ (show 0 < n by omega)
 have hsz := T.size_eq t
 have hl := T.sizeL_len t.kids
 rw [E_spec_l6Deep, show (0 : Int) = ((0 : Nat) : Int) from rfl, mb_loopS (by omega) t.k t.n t.kids (by omega) (fun u hu => by have := mb_size u; have := T.sizeL_mem hu; omega) (fun u hu => ih u hu (by have := T.sizeL_mem hu; omega) (by have := T.sizeL_mem hu; omega)) t.kids.length n 0 0 (by omega) (by omega) (by omega)]
 cases t; simp [mbF, mk_k, mk_kids]
theorem fresh_frF (l : List UInt8) : ∀ f k, freshFrom (bytesOf l.reverse) f k = frF l f k
 | 0, _ => rfl
 | f + 1, k => by
  rw [freshFrom, frF, fresh_frF l f (k + 1), by_data]
  simp only [List.mem_reverse]
theorem f_fresh {n : Nat} (hn : 40 ≤ n) (e : List UInt8) : FF n 48 [sr e.reverse] [] = some ([sr [frL e]], []) := by
 obtain ⟨n, rfl⟩ : ∃ m, n = m + 3 := ⟨n - 3, by omega⟩
 rw [E_impl_fresh]
 have := freshI_loop (bytesOf e.reverse) (n + 2) (fun s c => by rw [E_strings_IndexByte, E_stringslite_IndexByte]; simp only [byte_ok, byte_rt, evs]) 25 (n + 2) 97 (by omega) (by omega) (by omega)
 rw [fresh_frF] at this
 exact this
theorem f_l6Fresh {n : Nat} (hn : 100 ≤ n) (e : List UInt8) (he : e.length ≤ 20) : FF n 56 [sr e.reverse] [] = some ([.one (.int .u8 ((frL e).toNat : Int))], []) := by
 obtain ⟨n, rfl⟩ : ∃ m, n = m + 2 := ⟨n - 2, by omega⟩
 have hs : (bytesOf e.reverse).size = e.length := by rw [by_size, List.length_reverse]
 rw [E_spec_l6Fresh]
 have := freshS_loop (bytesOf e.reverse) (n + 1) (fun c => by rw [E_spec_l6Find, wrap64 (by omega), find_loop _ c (by omega) n (bytesOf e.reverse).size n (by omega) (Nat.le_refl _)]; rfl) 26 (n + 1) 97 (by omega) (by omega) (by omega)
 rw [fresh_eq _ (by omega)] at this
 unfold freshB at this
 rw [fresh_frF] at this
 exact this
def sumL (xs : List (List UInt8)) : Nat := (xs.map List.length).sum
theorem sumL_cons (x : List UInt8) (xs : List (List UInt8)) : sumL (x :: xs) = x.length + sumL xs := by simp [sumL]
theorem joinC_le : ∀ xs : List (List UInt8), (joinC xs).length ≤ sumL xs + xs.length
 | [] => by simp [joinC]
 | [x] => by simp [joinC, sumL]
 | x :: y :: xs => by have := joinC_le (y :: xs); rw [sumL_cons]; show (x ++ 44 :: joinC (y :: xs)).length ≤ _; simp only [List.length_append, List.length_cons] at this ⊢; omega
theorem getD01_le : ∀ xs : List (List UInt8), (xs.getD 0 []).length + (xs.getD 1 []).length ≤ sumL xs
 | [] => by simp [sumL]
 | [x] => by simp [sumL]
 | x :: y :: xs => by rw [sumL_cons, sumL_cons]; simp
theorem ite_len {p : Prop} [Decidable p] {a b : List UInt8} {N : Nat} (ha : a.length ≤ N) (hb : b.length ≤ N) : (if p then a else b).length ≤ N := by split <;> assumption
theorem wv_le (k : Int) (c : UInt8) (xs : List (List UInt8)) : (wv k c xs).length ≤ sumL xs + xs.length + 6 := by
 have h1 := joinC_le xs
 have h2 := getD01_le xs
 unfold wv
 repeat' apply ite_len
 all_goals simp only [List.length_append, List.length_cons, List.length_nil]
 all_goals omega
theorem shN_bd (t : T) : ∀ e : List UInt8, (shN e t).length + 1 ≤ 8 * t.size := by
 induction t using T.ind with | h t ih =>
 intro e
 cases t with
 | mk k n ts =>
 have hL : ∀ (us : List T) (i : Nat) (e e' : List UInt8), (∀ u ∈ us, ∀ e, (shN e u).length + 1 ≤ 8 * u.size) → sumL (shNL e e' i us) + us.length ≤ 8 * T.sizeL us ∧ (shNL e e' i us).length = us.length := by
  intro us
  induction us with
  | nil => intro i e e' _; simp [shNL, sumL]
  | cons u us ih2 =>
   intro i e e' h
   have h1 := h u (by simp) (if i = 1 then e' else e)
   have h2 := ih2 (i + 1) e e' (fun v hv => h v (List.mem_cons_of_mem _ hv))
   rw [shNL, sumL_cons, T.sizeL]
   simp only [List.length_cons]
   omega
 have := hL ts 0 e (if isBd k = true then frL e :: e else e) ih
 rw [shN, T.size]
 split
 ·simp; omega
 ·split
  ·simp; omega
  ·have := wv_le k (frL e) (shNL e (if isBd k = true then frL e :: e else e) 0 ts)
   omega
def catP : List (List UInt8) → List (List UInt8) → List UInt8
 | x :: xs, p :: ps => x ++ (p ++ catP xs ps)
 | _, _ => []
theorem szc {a b : Nat} (h : a + b ≤ 1000000000) : decide (a + b ≤ 9223372036854775807) = true := decide_eq_true (by omega)
theorem shown_loop {n : Nat} (hn : 10 ≤ n) (k n1 : Int) (ks ts : List T) (xs ps : List (List UInt8)) (e inn : List UInt8) (hx : xs.length = ts.length) (hp : ps.length = ts.length + 1) (hl : ts.length ≤ 10) (hp3 : ∀ p ∈ ps, p.length ≤ 3)
   (h : ∀ (j : Nat) (hj : j < ts.length), FF n 23 [tm ts[j], sr (if 0 < under k j then inn else e)] [] = some ([sr (xs[j]'(by omega))], [])) :
   ∀ g m (i : Nat) (out : List UInt8), g < m → i + g = ts.length → out.length + sumL (xs.drop i) + 3 * g ≤ 100000000 →
   L_impl_shown_0 n m (bytesOf e) (ps.map bytesOf) (bytesOf out) (bytesOf inn) ts ts.length i k n1 ks = some ([sr (out ++ catP (xs.drop i) (ps.drop (i + 1)))], []) := by
 intro g
 induction g with
 | zero =>
  intro m i out hm hi hb
  obtain ⟨m, rfl⟩ := pos_succ (show 0 < m by omega)
  rw [L_impl_shown_0_eq, decide_eq_false (show ¬ (i : Int) < ts.length by omega), cond_false, List.drop_of_length_le (show xs.length ≤ i by omega)]
  simp [catP]
 | succ g ih =>
  intro m i out hm hi hb
  obtain ⟨m, rfl⟩ := pos_succ (show 0 < m by omega)
  have hlt : i < ts.length := by omega
  have hltx : i < xs.length := by omega
  have hltp : i + 1 < ps.length := by omega
  have hu := und_nn k i
  have hi1 := h i hlt
  have hpl := hp3 _ (List.getElem_mem hltp)
  rw [List.drop_eq_getElem_cons hltx, sumL_cons] at hb
  have hw : IntKind.i64.wrap ((i : Int) + 1) = ((i + 1 : Nat) : Int) := by rw [wrap64 (by omega)]; omega
  rw [L_impl_shown_0_eq, decide_eq_true (show (i : Int) < ts.length by omega), cond_true, decide_eq_true (show (0 : Int) ≤ i by omega), cond_true, Int.toNat_natCast, List.getElem?_eq_getElem hlt]
  simp only [Option.bind_some]
  have hf := f_under (n := n) (by omega) k i
  simp only [nt] at hf
  rw [hf]
  simp only [evt]
  rw [hw, decide_eq_true (show (0 : Int) ≤ ((i + 1 : Nat) : Int) by omega), Int.toNat_natCast, List.getElem?_map, List.getElem?_eq_getElem hltp]
  simp only [Option.map_some, Option.bind_some, cond_true]
  have s1 : decide ((bytesOf xs[i]).size + (bytesOf ps[i + 1]).size ≤ 9223372036854775807) = true := szc (by rw [by_size, by_size]; omega)
  have s2 : decide ((bytesOf out).size + (bytesOf xs[i] ++ bytesOf ps[i + 1]).size ≤ 9223372036854775807) = true := szc (by rw [by_app, by_size, by_size, List.length_append]; omega)
  have e1 : bytesOf out ++ (bytesOf xs[i] ++ bytesOf ps[i + 1]) = bytesOf (out ++ (xs[i] ++ ps[i + 1])) := by rw [by_app, by_app]
  have fin : out ++ catP (xs.drop i) (ps.drop (i + 1)) = (out ++ (xs[i] ++ ps[i + 1])) ++ catP (xs.drop (i + 1)) (ps.drop (i + 1 + 1)) := by
   rw [List.drop_eq_getElem_cons hltx, List.drop_eq_getElem_cons hltp, catP]; simp
  by_cases hc : 0 < under k i
  ·rw [if_pos hc] at hi1
   simp only [sr] at hi1
   rw [decide_eq_true hc, cond_true, hi1]
   simp only [evt]
   rw [s1, cond_true, s2, cond_true, e1, ih m (i + 1) _ (by omega) (by omega) (by simp only [List.length_append]; omega), fin]
  ·rw [if_neg hc] at hi1
   simp only [sr] at hi1
   rw [decide_eq_false hc, cond_false, hi1]
   simp only [evt]
   rw [s1, cond_true, s2, cond_true, e1, ih m (i + 1) _ (by omega) (by omega) (by simp only [List.length_append]; omega), fin]
theorem joinC_cons (x : List UInt8) : ∀ xs, joinC (x :: xs) = x ++ (xs.map (44 :: ·)).flatten
 | [] => by simp [joinC]
 | y :: xs => by
  show x ++ 44 :: joinC (y :: xs) = _
  rw [joinC_cons y xs]; simp
theorem list_loopS {n : Nat} (ts : List T) (e : List UInt8) (hl : ts.length ≤ 10) (hz : T.sizeL ts ≤ 100000) (h : ∀ u ∈ ts, FF n 17 [tm u, sr e] [] = some ([sr (shN e.reverse u)], [])) :
   ∀ g m (i : Nat) (out : List UInt8), g < m → i + g = ts.length → 1 ≤ i → out.length + 9 * T.sizeL (ts.drop i) ≤ 100000000 →
   L_spec_l6List_0 n m ts (bytesOf e) (bytesOf out) i = some ([sr (out ++ ((ts.drop i).map fun u => 44 :: shN e.reverse u).flatten)], []) := by
 intro g
 induction g with
 | zero =>
  intro m i out hm hi h1 hb
  obtain ⟨m, rfl⟩ := pos_succ (show 0 < m by omega)
  rw [L_spec_l6List_0_eq, decide_eq_false (show ¬ (i : Int) < ts.length by omega), cond_false, List.drop_of_length_le (show ts.length ≤ i by omega)]
  simp
 | succ g ih =>
  intro m i out hm hi h1 hb
  obtain ⟨m, rfl⟩ := pos_succ (show 0 < m by omega)
  have hlt : i < ts.length := by omega
  have hi1 := h _ (List.getElem_mem hlt)
  have hbd := shN_bd ts[i] e.reverse
  rw [List.drop_eq_getElem_cons hlt, T.sizeL] at hb
  simp only [sr] at hi1
  have hw : IntKind.i64.wrap ((i : Int) + 1) = ((i + 1 : Nat) : Int) := by rw [wrap64 (by omega)]; omega
  rw [L_spec_l6List_0_eq, decide_eq_true (show (i : Int) < ts.length by omega), cond_true, decide_eq_true (show (0 : Int) < i by omega), cond_true, szc (by rw [by_size, by_size]; simp only [List.length_cons, List.length_nil]; omega), cond_true, decide_eq_true (show (0 : Int) ≤ i by omega), cond_true, Int.toNat_natCast, List.getElem?_eq_getElem hlt]
  simp only [Option.bind_some]
  rw [show (V1.agg [.int .i64 (ts[i]).k, .int .i64 (ts[i]).n, .fr (.ts (ts[i]).kids)]) = tm ts[i] from rfl, hi1]
  simp only [evt]
  rw [by_app, szc (by rw [by_size, by_size]; simp only [List.length_append, List.length_cons, List.length_nil]; omega), cond_true, by_app, hw, ih m (i + 1) _ (by omega) (by omega) (by omega) (by simp only [List.length_append, List.length_cons, List.length_nil]; omega), List.drop_eq_getElem_cons hlt]
  simp only [List.map_cons, List.flatten_cons, List.append_assoc, List.cons_append, List.nil_append]
theorem f_l6List {n : Nat} (hn : 20 ≤ n) (ts : List T) (e : List UInt8) (h0 : ts ≠ []) (hl : ts.length ≤ 10) (hz : T.sizeL ts ≤ 100000) (h : ∀ u ∈ ts, FF n 17 [tm u, sr e] [] = some ([sr (shN e.reverse u)], [])) :
   FF (n + 1) 36 [tms ts, sr e] [] = some ([sr (joinC (ts.map (shN e.reverse)))], []) := by
 obtain ⟨m, rfl⟩ := pos_succ (show 0 < n by omega)
 cases ts with
 | nil => exact absurd rfl h0
 | cons t ts =>
  have hi1 := h t (by simp)
  have hbd := shN_bd t e.reverse
  have hs : T.sizeL (t :: ts) = t.size + T.sizeL ts := rfl
  rw [E_spec_l6List, L_spec_l6List_0_eq]
  simp only [sr] at hi1
  rw [decide_eq_true (show (0 : Int) < (t :: ts).length by simp only [List.length_cons]; omega), cond_true, show decide ((0 : Int) < 0) = false from rfl, cond_false, show decide ((0 : Int) ≤ 0) = true from rfl, cond_true, show (t :: ts)[(0 : Int).toNat]? = some t from rfl]
  simp only [Option.bind_some]
  rw [show (V1.agg [.int .i64 t.k, .int .i64 t.n, .fr (.ts t.kids)]) = tm t from rfl, hi1]
  simp only [evt]
  rw [szc (by rw [by_size, by_size]; simp only [List.length_nil]; omega), cond_true, by_app, show IntKind.i64.wrap ((0 : Int) + 1) = ((1 : Nat) : Int) from rfl]
  have := list_loopS (t :: ts) e hl hz h ts.length m 1 ([] ++ shN e.reverse t) (by simp only [List.length_cons] at hl; omega) (by simp; omega) (by omega) (by simp; omega)
  rw [this, List.map_cons, joinC_cons]
  simp [Function.comp_def]
end Go.Proofs.YtnogehmgpfpjmaaDoor
end
section
namespace Go.Proofs.YtnogehmgpfpjmaaDoor
open Go Go.Ab Go.Dk
theorem shown_node {n : Nat} {k n1 : Int} {ts : List T} {e sh p0 : List UInt8} {xs ps : List (List UInt8)} (hn : 60 ≤ n) (he : e.length ≤ 1000) (hk : 3 ≤ k ∧ k ≤ 16) (hsh : shps[(k - 1).toNat]? = some sh) (hsp : shTab.lookup sh = some (p0 :: ps))
   (hx : xs.length = ts.length) (hp : ps.length = ts.length) (hl : ts.length ≤ 10) (hp3 : ∀ p ∈ p0 :: ps, p.length ≤ 3) (hb : sumL xs ≤ 10000000)
   (h : ∀ (j : Nat) (hj : j < ts.length), FF n 23 [tm ts[j], sr (if 0 < under k j then (if isBd k = true then (frL e :: e).reverse else e.reverse) else e.reverse)] [] = some ([sr (xs[j]'(by omega))], [])) :
   FF (n + 1) 23 [tm (.mk k n1 ts), sr e.reverse] [] = some ([sr ((if isBd k = true then p0 ++ [frL e, 58] else p0) ++ catP xs ps)], []) := by
 have hp0 := hp3 p0 (by simp)
 show FF (n + 1) 23 [.agg [.int .i64 k, .int .i64 n1, .fr (.ts ts)], .one (.str (bytesOf e.reverse))] [] = _
 rw [E_impl_shown]
 rw [decide_eq_false (show ¬ k = 1 by omega), cond_false, decide_eq_false (show ¬ k = 2 by omega), cond_false, f_shapes (by omega)]
 simp only [evt]
 rw [wrap64 (show -9223372036854775808 ≤ k - 1 ∧ k - 1 ≤ 9223372036854775807 by omega), decide_eq_true (show 0 ≤ k - 1 by omega), cond_true, List.getElem?_map, hsh]
 simp only [Option.map_some, Option.bind_some]
 obtain ⟨n, rfl⟩ := pos_succ (show 0 < n by omega)
 rw [f_Split sh hsp]
 simp only [evt]
 simp only [List.map_cons, Int.toNat_zero, List.getElem?_cons_zero, Option.bind_some]
 have hib := f_isBd (n := n + 1) (by omega) k
 simp only [nt] at hib
 rw [hib]
 simp only [evt]
 have loop := fun (inn out : List UInt8) (hh : ∀ (j : Nat) (hj : j < ts.length), FF (n + 1) 23 [tm ts[j], sr (if 0 < under k j then inn else e.reverse)] [] = some ([sr (xs[j]'(by omega))], [])) (hbb : out.length + sumL (xs.drop 0) + 3 * ts.length ≤ 100000000) => shown_loop (n := n + 1) (by omega) k n1 ts ts xs (p0 :: ps) e.reverse inn hx (by simp; omega) hl hp3 hh ts.length (n + 1) 0 out (by omega) (by omega) hbb
 cases hi : isBd k with
 | false =>
  simp only [hi, Bool.false_eq_true, if_false, ite_self] at h ⊢
  rw [cond_false]
  have := loop e.reverse p0 (by simpa using h) (by simp only [List.drop_zero]; omega)
  simp only [List.map_cons, List.drop_zero, List.drop_succ_cons, Nat.zero_add] at this
  exact this
 | true =>
  simp only [hi, if_true] at h ⊢
  rw [cond_true]
  have hf := f_fresh (n := n + 1) (by omega) e
  simp only [sr] at hf
  rw [hf]
  simp only [evt]
  rw [szc (by rw [by_size, by_size]; simp only [List.length_reverse, List.length_cons, List.length_nil]; omega), cond_true, szc (by rw [by_size, by_size]; simp only [List.length_cons, List.length_nil]; omega), cond_true, by_app, szc (by rw [by_size, by_size]; simp only [List.length_append, List.length_cons, List.length_nil]; omega), cond_true, by_app, by_app]
  have := loop (e.reverse ++ [frL e]) (p0 ++ ([frL e] ++ [58])) (by simpa using h) (by simp only [List.drop_zero, List.length_append, List.length_cons, List.length_nil]; omega)
  simp only [List.map_cons, List.drop_zero, List.drop_succ_cons, Nat.zero_add] at this
  exact this
theorem sumL_map_le (e : List UInt8) : ∀ ts : List T, sumL (ts.map (shN e)) ≤ 8 * T.sizeL ts
 | [] => by simp [sumL]
 | t :: ts => by have := sumL_map_le e ts; have := shN_bd t e; rw [List.map_cons, sumL_cons, T.sizeL]; omega
theorem under_flat {k : Int} (h : isBd k = false) (i : Nat) : under k i = 0 := by
 unfold under
 rw [if_neg]
 intro hh
 simp only [isBd, Bool.or_eq_false_iff, decide_eq_false_iff_not] at h
 omega
theorem under_two {k : Int} (h : isBd k = true) : under k 0 = 0 ∧ under k 1 = 1 := by
 simp only [isBd, Bool.or_eq_true, decide_eq_true_eq] at h
 constructor
 ·unfold under; rw [if_neg (by omega)]
 ·unfold under; rw [if_pos ⟨rfl, h⟩]
def SH (t : T) (d : Nat) (e : List UInt8) : Prop := shapeF t d = true ∧ clF t (e.length : Nat) = true ∧ e.length + mbF t ≤ 20
theorem sh_flat {k n : Int} {ts : List T} {d : Nat} {e : List UInt8} (h : SH (.mk k n ts) d e) (hb : isBd k = false) : ∃ d2, ∀ u ∈ ts, SH u d2 e := by
 obtain ⟨hs, hc, hm⟩ := h
 obtain ⟨d2, rfl, ho, hnn, hk⟩ := shape_node hs
 rw [clF] at hc
 simp only [Bool.and_eq_true] at hc
 rw [mbF] at hm
 exact ⟨d2, fun u hu => ⟨hk u hu, clL_flat hb ts 0 _ hc.2 u hu, by have := mbL_mem (k := k) ts 0 hu; omega⟩⟩
theorem sh_two {k n : Int} {a b : T} {d : Nat} {e : List UInt8} (h : SH (.mk k n [a, b]) d e) (hb : isBd k = true) : ∃ d2, SH a d2 e ∧ SH b d2 (frL e :: e) := by
 obtain ⟨hs, hc, hm⟩ := h
 obtain ⟨d2, rfl, ho, hnn, hk⟩ := shape_node hs
 obtain ⟨hu0, hu1⟩ := under_two hb
 rw [clF] at hc
 simp only [Bool.and_eq_true] at hc
 have hc2 := hc.2
 simp only [clL, hu0, hu1, Bool.and_eq_true, Nat.zero_add] at hc2
 rw [mbF] at hm
 simp only [mbL, hu0, hu1, Nat.zero_add] at hm
 have m1 : mbF a ≤ 20 - e.length ∧ mbF b + 1 + e.length ≤ 20 := by
  have : (Int.toNat 1) = 1 := rfl
  have : (Int.toNat 0) = 0 := rfl
  omega
 exact ⟨d2, ⟨hk a (by simp), by simpa using hc2.1, by omega⟩, hk b (by simp), by simpa using hc2.2.1, by simp only [List.length_cons]; omega⟩
theorem f_itoaS {n : Nat} {k : Int} (h : 0 ≤ k ∧ k ≤ 3) : FF (n + 2) 57 [nt k] [] = some ([sr [UInt8.ofNat (48 + k.toNat)]], []) := by
 have : k = 0 ∨ k = 1 ∨ k = 2 ∨ k = 3 := by omega
 rcases this with h | h | h | h <;> subst h <;> rw [E_spec_l19Dec, L_spec_l19Dec_0_eq] <;> rfl
theorem itoa_few {k : Int} (h : 0 ≤ k ∧ k ≤ 3) : Lib.itoa k = [UInt8.ofNat (48 + k.toNat)] := by
 have : k = 0 ∨ k = 1 ∨ k = 2 ∨ k = 3 := by omega
 rcases this with h | h | h | h <;> subst h
 ·exact itoa_one (x := 48) rfl
 ·exact itoa_one (x := 49) rfl
 ·exact itoa_one (x := 50) rfl
 ·exact itoa_one (x := 51) rfl
theorem f_termText2 {n : Nat} (hn : 10 ≤ n) {m : Int} {ts : List T} (h : 0 ≤ m ∧ m ≤ 3) : FF n 44 [tm (.mk 2 m ts)] [] = some ([sr [42, UInt8.ofNat (48 + m.toNat)]], []) := by
 obtain ⟨n, rfl⟩ : ∃ j, n = j + 2 := ⟨n - 2, by omega⟩
 show FF (n + 2) 44 [.agg [.int .i64 2, .int .i64 m, .fr (.ts ts)]] [] = _
 rw [E_impl_termText]
 rw [f_shapes (by omega)]
 simp only [evt]
 rw [show IntKind.i64.wrap ((2 : Int) - 1) = 1 from rfl, show decide ((0 : Int) ≤ 1) = true from rfl, cond_true, show (shps.map bytesOf)[(1 : Int).toNat]? = some (bytesOf [42]) from rfl]
 simp only [Option.bind_some]
 rw [show decide ((2 : Int) = 1) = false from rfl, cond_false]
 have hI := f_Itoa (n := n) (k := m) h.1 (by omega)
 simp only [nt] at hI
 rw [hI, itoa_few h]
 simp only [evt]
 rw [szc (by rw [by_size, by_size]; simp), by_app]
 rfl
theorem ix_env {e : List UInt8} {m : Int} (h0 : 0 ≤ m) (h1 : m < e.length) : (e.reverse)[e.length - 1 - m.toNat]? = some (e.getD m.toNat 0) := by
 have hm : m.toNat < e.length := by omega
 rw [List.getElem?_reverse (by omega), show e.length - 1 - (e.length - 1 - m.toNat) = m.toNat by omega, List.getElem?_eq_getElem hm, List.getD_eq_getElem?_getD, List.getElem?_eq_getElem hm]; rfl
theorem var_text {e : List UInt8} {m : Int} (he : e.length ≤ 1000) (h0 : 0 ≤ m) (h1 : m < e.length) :
   Go.Ab.inB (IntKind.i64.wrap ((IntKind.i64.wrap ((((bytesOf e.reverse).size : Nat) : Int) - 1)) - m)) (IntKind.i64.wrap ((IntKind.i64.wrap ((IntKind.i64.wrap ((((bytesOf e.reverse).size : Nat) : Int) - 1)) - m)) + 1)) (bytesOf e.reverse).size = true ∧
   (bytesOf e.reverse).extract ((IntKind.i64.wrap ((IntKind.i64.wrap ((((bytesOf e.reverse).size : Nat) : Int) - 1)) - m)) : Int).toNat ((IntKind.i64.wrap ((IntKind.i64.wrap ((IntKind.i64.wrap ((((bytesOf e.reverse).size : Nat) : Int) - 1)) - m)) + 1)) : Int).toNat = bytesOf [e.getD m.toNat 0] := by
 rw [by_size, List.length_reverse, wrap64 (show -9223372036854775808 ≤ (e.length : Int) - 1 ∧ (e.length : Int) - 1 ≤ 9223372036854775807 by omega), wrap64 (show -9223372036854775808 ≤ (e.length : Int) - 1 - m ∧ (e.length : Int) - 1 - m ≤ 9223372036854775807 by omega), wrap64 (show -9223372036854775808 ≤ (e.length : Int) - 1 - m + 1 ∧ (e.length : Int) - 1 - m + 1 ≤ 9223372036854775807 by omega)]
 constructor
 ·simp only [inB, Bool.and_eq_true, decide_eq_true_eq]; omega
 ·rw [by_ext, show ((e.length : Int) - 1 - m).toNat = e.length - 1 - m.toNat by omega, show ((e.length : Int) - 1 - m + 1).toNat = e.length - 1 - m.toNat + 1 by omega, List.drop_take]
  have hlt : e.length - 1 - m.toNat < e.reverse.length := by rw [List.length_reverse]; omega
  have hg := ix_env h0 h1
  rw [List.getElem?_eq_getElem hlt] at hg
  rw [List.drop_eq_getElem_cons hlt, Option.some.inj hg]
  simp
theorem len3 {α : Type} {l : List α} (h : l.length = 3) : ∃ a b c, l = [a, b, c] := by
 match l, h with
 | [a, b, c], _ => exact ⟨a, b, c, rfl⟩
theorem len4 {α : Type} {l : List α} (h : l.length = 4) : ∃ a b c d, l = [a, b, c, d] := by
 match l, h with
 | [a, b, c, d], _ => exact ⟨a, b, c, d, rfl⟩
theorem f_shown (t : T) : ∀ {n d : Nat} {e : List UInt8}, t.size + 70 ≤ n → t.size ≤ 100000 → SH t d e → FF n 23 [tm t, sr e.reverse] [] = some ([sr (shN e t)], []) := by
 induction t using T.ind with | h t ih =>
 intro n d e hn hz hsh
 cases t with
 | mk k n1 ts =>
 obtain ⟨n, rfl⟩ := pos_succ (show 0 < n by omega)
 obtain ⟨d2, _, ho, hnn, _⟩ := shape_node hsh.1
 have hel : e.length ≤ 20 := by have := hsh.2.2; omega
 have hsz : (T.mk k n1 ts).size = 1 + T.sizeL ts := rfl
 have hlen := T.sizeL_len ts
 have flat : isBd k = false → 3 ≤ k → k ≤ 16 → ts.length ≤ 10 → ∀ (sh p0 : List UInt8) (ps : List (List UInt8)), shps[(k - 1).toNat]? = some sh → shTab.lookup sh = some (p0 :: ps) → ps.length = ts.length → (∀ p ∈ p0 :: ps, p.length ≤ 3) → FF (n + 1) 23 [tm (.mk k n1 ts), sr e.reverse] [] = some ([sr (p0 ++ catP (ts.map (shN e)) ps)], []) := by
  intro hb h3 h16 hl sh p0 ps h1 h2 h4 h5
  obtain ⟨d3, hkids⟩ := sh_flat hsh hb
  have := shown_node (n := n) (k := k) (n1 := n1) (ts := ts) (e := e) (xs := ts.map (shN e)) (by omega) (by omega) ⟨h3, h16⟩ h1 h2 (by simp) h4 hl h5 (by have := sumL_map_le e ts; omega) (fun j hj => by
   rw [under_flat hb, if_neg (by omega), List.getElem_map]
   have := T.sizeL_mem (List.getElem_mem hj)
   exact ih _ (List.getElem_mem hj) (by omega) (by omega) (hkids _ (List.getElem_mem hj)))
  rw [if_neg (by simp [hb])] at this
  exact this
 have two : ∀ {a b : T}, isBd k = true → ts = [a, b] → 3 ≤ k → k ≤ 16 → ∀ (sh p0 : List UInt8) (ps : List (List UInt8)), shps[(k - 1).toNat]? = some sh → shTab.lookup sh = some (p0 :: ps) → ps.length = 2 → (∀ p ∈ p0 :: ps, p.length ≤ 3) → FF (n + 1) 23 [tm (.mk k n1 ts), sr e.reverse] [] = some ([sr ((p0 ++ [frL e, 58]) ++ catP [shN e a, shN (frL e :: e) b] ps)], []) := by
  intro a b hb hts h3 h16 sh p0 ps h1 h2 h4 h5
  subst hts
  obtain ⟨d3, ha, hbb⟩ := sh_two hsh hb
  obtain ⟨hu0, hu1⟩ := under_two hb
  have hs2 : T.sizeL [a, b] = a.size + (b.size + 0) := rfl
  have := shown_node (n := n) (k := k) (n1 := n1) (ts := [a, b]) (e := e) (xs := [shN e a, shN (frL e :: e) b]) (by omega) (by omega) ⟨h3, h16⟩ h1 h2 rfl h4 (by simp) h5 (by have := shN_bd a e; have := shN_bd b (frL e :: e); simp only [sumL, List.map_cons, List.map_nil, List.sum_cons, List.sum_nil]; omega) (fun j hj => by
   match j, hj with
   | 0, _ => rw [hu0, if_neg (by decide)]; exact ih a (by simp [mk_kids]) (by omega) (by omega) ha
   | 1, _ => rw [hu1, if_pos (by decide), if_pos hb]; exact ih b (by simp [mk_kids]) (by omega) (by omega) hbb)
  rw [if_pos hb] at this
  exact this
 have hcl := hsh.2.1
 rw [clF] at hcl
 simp only [Bool.and_eq_true, Bool.not_eq_true', Bool.and_eq_false_iff, decide_eq_false_iff_not] at hcl
 rw [shN]
 rcases kind_of ho with ⟨h, hl⟩ | ⟨h, hl⟩ | ⟨h, hl⟩ | ⟨h, hl⟩ | ⟨h, hl⟩
 ·have hts := List.eq_nil_of_length_eq_zero hl
  subst hts
  rcases h with h | h | h | h <;> subst h
  ·have h1 : n1 < e.length := by rcases hcl.1 with h | h <;> omega
   obtain ⟨v1, v2⟩ := var_text (e := e) (by omega) hnn.1 h1
   show FF (n + 1) 23 [.agg [.int .i64 1, .int .i64 n1, .fr (.ts [])], .one (.str (bytesOf e.reverse))] [] = _
   rw [E_impl_shown]
   rw [show decide ((1 : Int) = 1) = true from rfl, cond_true, v1, cond_true, v2, if_pos rfl]
  ·rw [show mostOf 2 = 3 from rfl] at hnn
   have ht : FF n 44 [.agg [.int .i64 2, .int .i64 n1, .fr (.ts [])]] [] = _ := f_termText2 (n := n) (ts := []) (by omega) hnn
   show FF (n + 1) 23 [.agg [.int .i64 2, .int .i64 n1, .fr (.ts [])], .one (.str (bytesOf e.reverse))] [] = _
   rw [E_impl_shown]
   rw [show decide ((2 : Int) = 1) = false from rfl, cond_false, show decide ((2 : Int) = 2) = true from rfl, cond_true, ht]
   simp only [evt]
   rw [if_neg (by decide), if_pos trivial]
  ·rw [flat rfl (by decide) (by decide) (by simp) [78] [78] [] rfl rfl rfl (by decide), if_neg (by decide), if_neg (by decide), show isBd 6 = false from rfl, if_neg (by decide), shNL_same]
   simp [wv, catP, joinC]
  ·rw [flat rfl (by decide) (by decide) (by simp) [48] [48] [] rfl rfl rfl (by decide), if_neg (by decide), if_neg (by decide), show isBd 7 = false from rfl, if_neg (by decide), shNL_same]
   simp [wv, catP, joinC]
 ·obtain ⟨a, rfl⟩ := len1 hl
  rcases h with h | h | h | h <;> subst h
  ·rw [flat rfl (by decide) (by decide) (by simp) [43, 46] [43] [[]] rfl rfl rfl (by decide), if_neg (by decide), if_neg (by decide), show isBd 8 = false from rfl, if_neg (by decide), shNL_same]
   simp [wv, catP, joinC]
  ·rw [flat rfl (by decide) (by decide) (by simp) [33, 46] [33] [[]] rfl rfl rfl (by decide), if_neg (by decide), if_neg (by decide), show isBd 11 = false from rfl, if_neg (by decide), shNL_same]
   simp [wv, catP, joinC]
  ·rw [flat rfl (by decide) (by decide) (by simp) [94, 46] [94] [[]] rfl rfl rfl (by decide), if_neg (by decide), if_neg (by decide), show isBd 15 = false from rfl, if_neg (by decide), shNL_same]
   simp [wv, catP, joinC]
  ·rw [flat rfl (by decide) (by decide) (by simp) [95, 46] [95] [[]] rfl rfl rfl (by decide), if_neg (by decide), if_neg (by decide), show isBd 16 = false from rfl, if_neg (by decide), shNL_same]
   simp [wv, catP, joinC]
 ·obtain ⟨a, b, rfl⟩ := len2 hl
  rcases h with h | h | h | h <;> subst h
  ·rw [two rfl rfl (by decide) (by decide) [40, 46, 62, 46, 41] [40] [[62], [41]] rfl rfl rfl (by decide), if_neg (by decide), if_neg (by decide), show isBd 3 = true from rfl, if_pos rfl]
   simp [wv, catP, shNL]
  ·rw [two rfl rfl (by decide) (by decide) [91, 46, 93, 46] [91] [[93], []] rfl rfl rfl (by decide), if_neg (by decide), if_neg (by decide), show isBd 4 = true from rfl, if_pos rfl]
   simp [wv, catP, shNL]
  ·rw [flat rfl (by decide) (by decide) (by simp) [40, 46, 32, 46, 41] [40] [[32], [41]] rfl rfl rfl (by decide), if_neg (by decide), if_neg (by decide), show isBd 5 = false from rfl, if_neg (by decide), shNL_same]
   simp [wv, catP, joinC]
  ·rw [two rfl rfl (by decide) (by decide) [40, 46, 42, 46, 41] [40] [[42], [41]] rfl rfl rfl (by decide), if_neg (by decide), if_neg (by decide), show isBd 13 = true from rfl, if_pos rfl]
   simp [wv, catP, shNL]
 ·obtain ⟨a, b, c, rfl⟩ := len3 hl
  rcases h with h | h | h <;> subst h
  ·rw [flat rfl (by decide) (by decide) (by simp) [123, 46, 44, 46, 44, 46, 125] [123] [[44], [44], [125]] rfl rfl rfl (by decide), if_neg (by decide), if_neg (by decide), show isBd 10 = false from rfl, if_neg (by decide), shNL_same]
   simp [wv, catP, joinC]
  ·rw [flat rfl (by decide) (by decide) (by simp) [64, 60, 46, 44, 46, 44, 46, 62] [64, 60] [[44], [44], [62]] rfl rfl rfl (by decide), if_neg (by decide), if_neg (by decide), show isBd 12 = false from rfl, if_neg (by decide), shNL_same]
   simp [wv, catP, joinC]
  ·rw [flat rfl (by decide) (by decide) (by simp) [124, 46, 44, 46, 44, 46, 124] [124] [[44], [44], [124]] rfl rfl rfl (by decide), if_neg (by decide), if_neg (by decide), show isBd 14 = false from rfl, if_neg (by decide), shNL_same]
   simp [wv, catP, joinC]
 ·obtain ⟨a, b, c, q, rfl⟩ := len4 hl
  subst h
  rw [flat rfl (by decide) (by decide) (by simp) [60, 46, 44, 46, 44, 46, 44, 46, 62] [60] [[44], [44], [44], [62]] rfl rfl rfl (by decide), if_neg (by decide), if_neg (by decide), show isBd 9 = false from rfl, if_neg (by decide), shNL_same]
  simp [wv, catP, joinC]
end Go.Proofs.YtnogehmgpfpjmaaDoor
end
section
namespace Go.Proofs.YtnogehmgpfpjmaaDoor
open Go Go.Ab Go.Dk
theorem szd {a : Nat} [inst : Decidable (a ≤ 9223372036854775807)] (h : a ≤ 1000000000) : @decide (a ≤ 9223372036854775807) inst = true := by
 rw [decide_eq_true_eq]; omega
theorem mk_one (c : UInt8) : ByteArray.mk ([c]).toArray = bytesOf [c] := rfl
theorem f_l6Bound {n : Nat} {k n1 : Int} {a b : T} {e xa xb : List UInt8} (hn : 100 ≤ n) (he : e.length ≤ 20) (hk : k = 3 ∨ k = 4 ∨ k = 13) (h1 : xa.length ≤ 1000000) (h2 : xb.length ≤ 1000000)
   (ha : FF n 17 [tm a, sr e.reverse] [] = some ([sr xa], [])) (hb : FF n 17 [tm b, sr (frL e :: e).reverse] [] = some ([sr xb], [])) :
   FF (n + 1) 35 [.agg [.int .i64 k, .int .i64 n1, .fr (.ts [a, b])], sr e.reverse] [] = some ([sr (wv k (frL e) [xa, xb])], []) := by
 have hf := f_l6Fresh (n := n) (by omega) e he
 simp only [sr, List.reverse_cons] at hf ha hb
 rw [E_spec_l6Bound, hf]
 simp only [evt]
 rw [byte_ok, cond_true, byte_rt]
 simp only [mk_one, by_app]
 simp only [show ([a, b])[(0 : Int).toNat]? = some a from rfl, show ([a, b])[(1 : Int).toNat]? = some b from rfl, Option.bind_some]
 simp only [show (V1.agg [.int .i64 a.k, .int .i64 a.n, .fr (.ts a.kids)]) = tm a from rfl, show (V1.agg [.int .i64 b.k, .int .i64 b.n, .fr (.ts b.kids)]) = tm b from rfl]
 rw [ha, hb]
 simp (disch := omega) only [evt, by_app, by_size, List.length_append, List.length_cons, List.length_nil, List.length_reverse, szd, cond_true]
 rcases hk with h | h | h <;> subst h
 ·simp [wv]
 ·simp [wv]
 ·simp [wv]
theorem f_l1Text0 {n : Nat} (hn : 10 ≤ n) {k m : Int} (h : (k = 2 ∧ 0 ≤ m ∧ m ≤ 3) ∨ k = 6 ∨ k = 7) : FF n 37 [.agg [.int .i64 k, .int .i64 m, .fr (.ts [])]] [] = some ([sr (if k = 2 then [42, UInt8.ofNat (48 + m.toNat)] else if k = 6 then [78] else [48])], []) := by
 obtain ⟨n, rfl⟩ : ∃ j, n = j + 3 := ⟨n - 3, by omega⟩
 rcases h with ⟨h, h1⟩ | h | h <;> subst h <;> rw [E_spec_l1Text]
 ·have hI := f_itoaS (n := n) h1
  simp only [nt] at hI
  rw [show decide ((2 : Int) = 1) = false from rfl, cond_false, show decide ((2 : Int) = 2) = true from rfl, cond_true, hI]
  simp only [evt]
  rw [szc (by rw [by_size, by_size]; simp), by_app]
  rfl
 ·rfl
 ·rfl
theorem f_l6Show (t : T) : ∀ {n d : Nat} {e : List UInt8}, 2 * t.size + 150 ≤ n → t.size ≤ 10000 → SH t d e → FF n 17 [tm t, sr e.reverse] [] = some ([sr (shN e t)], []) := by
 induction t using T.ind with | h t ih =>
 intro n d e hn hz hsh
 cases t with
 | mk k n1 ts =>
 obtain ⟨n, rfl⟩ : ∃ j, n = j + 2 := ⟨n - 2, by omega⟩
 obtain ⟨d2, _, ho, hnn, _⟩ := shape_node hsh.1
 have hel : e.length ≤ 20 := by have := hsh.2.2; omega
 have hsz : (T.mk k n1 ts).size = 1 + T.sizeL ts := rfl
 have hlen := T.sizeL_len ts
 have flat : isBd k = false → ∀ m, n ≤ m → ∀ u ∈ ts, FF m 17 [tm u, sr e.reverse] [] = some ([sr (shN e u)], []) := by
  intro hb m hm u hu
  obtain ⟨d3, hkids⟩ := sh_flat hsh hb
  have := T.sizeL_mem hu
  exact ih u hu (by omega) (by omega) (hkids u hu)
 have bd : ∀ (u : T) (e : List UInt8), u ∈ ts → (shN e u).length ≤ 100000 := fun u e hu => by have := shN_bd u e; have := T.sizeL_mem hu; omega
 have two : ∀ {a b : T}, isBd k = true → ts = [a, b] → FF (n + 1) 35 [.agg [.int .i64 k, .int .i64 n1, .fr (.ts ts)], sr e.reverse] [] = some ([sr (wv k (frL e) [shN e a, shN (frL e :: e) b])], []) := by
  intro a b hb hts
  subst hts
  obtain ⟨d3, ha, hbb⟩ := sh_two hsh hb
  have hs2 : T.sizeL [a, b] = a.size + (b.size + 0) := rfl
  refine f_l6Bound (by omega) hel (by simpa [isBd] using hb) (by have := bd a e (by simp); omega) (by have := bd b (frL e :: e) (by simp); omega) ?_ ?_
  ·exact ih a (by simp [mk_kids]) (by omega) (by omega) ha
  ·exact ih b (by simp [mk_kids]) (by omega) (by omega) hbb
 have list : isBd k = false → ts ≠ [] → ts.length ≤ 10 → FF (n + 1) 36 [tms ts, sr e.reverse] [] = some ([sr (joinC (ts.map (shN e)))], []) := by
  intro hb h0 hl
  have := f_l6List (n := n) (by omega) ts e.reverse h0 hl (by omega) (by rw [List.reverse_reverse]; exact flat hb n (by omega))
  rw [List.reverse_reverse] at this
  exact this
 have jb : isBd k = false → (joinC (ts.map (shN e))).length ≤ 200000 := fun _ => by
  have h1 := joinC_le (ts.map (shN e)); have := sumL_map_le e ts; rw [List.length_map] at h1; omega
 have hcl := hsh.2.1
 rw [clF] at hcl
 simp only [Bool.and_eq_true, Bool.not_eq_true', Bool.and_eq_false_iff, decide_eq_false_iff_not] at hcl
 rw [shN]
 show FF (n + 1 + 1) 17 [.agg [.int .i64 k, .int .i64 n1, .fr (.ts ts)], .one (.str (bytesOf e.reverse))] [] = _
 rw [E_spec_l6Show]
 simp only [tms, sr] at list two
 rcases kind_of ho with ⟨h, hl⟩ | ⟨h, hl⟩ | ⟨h, hl⟩ | ⟨h, hl⟩ | ⟨h, hl⟩
 ·have hts := List.eq_nil_of_length_eq_zero hl
  subst hts
  rcases h with h | h | h | h <;> subst h
  ·have h1 : n1 < e.length := by rcases hcl.1 with h | h <;> omega
   obtain ⟨v1, v2⟩ := var_text (e := e) (by omega) hnn.1 h1
   rw [show decide ((1 : Int) = 1) = true from rfl, cond_true, v1, cond_true, v2, if_pos rfl]
  ·rw [show mostOf 2 = 3 from rfl] at hnn
   rw [show decide ((2 : Int) = 1) = false from rfl, cond_false, show decide ((2 : Int) = 4) = false from rfl, cond_false, show decide ((2 : Int) = 3) = false from rfl, cond_false, show decide ((2 : Int) = 13) = false from rfl, cond_false, show decide ((2 : Int) = 8) = false from rfl, cond_false, show decide ((2 : Int) = 11) = false from rfl, cond_false, show decide ((2 : Int) = 15) = false from rfl, cond_false, show decide ((2 : Int) = 16) = false from rfl, cond_false, show decide ((2 : Int) = 5) = false from rfl, cond_false, show decide ((2 : Int) = 10) = false from rfl, cond_false, show decide ((2 : Int) = 14) = false from rfl, cond_false, show decide ((2 : Int) = 12) = false from rfl, cond_false, show decide ((2 : Int) = 9) = false from rfl, cond_false, f_l1Text0 (by omega) (.inl ⟨rfl, hnn⟩)]
   simp only [evt]
   rfl
  ·rw [show decide ((6 : Int) = 1) = false from rfl, cond_false, show decide ((6 : Int) = 4) = false from rfl, cond_false, show decide ((6 : Int) = 3) = false from rfl, cond_false, show decide ((6 : Int) = 13) = false from rfl, cond_false, show decide ((6 : Int) = 8) = false from rfl, cond_false, show decide ((6 : Int) = 11) = false from rfl, cond_false, show decide ((6 : Int) = 15) = false from rfl, cond_false, show decide ((6 : Int) = 16) = false from rfl, cond_false, show decide ((6 : Int) = 5) = false from rfl, cond_false, show decide ((6 : Int) = 10) = false from rfl, cond_false, show decide ((6 : Int) = 14) = false from rfl, cond_false, show decide ((6 : Int) = 12) = false from rfl, cond_false, show decide ((6 : Int) = 9) = false from rfl, cond_false, f_l1Text0 (by omega) (.inr (.inl rfl))]
   simp only [evt]
   rfl
  ·rw [show decide ((7 : Int) = 1) = false from rfl, cond_false, show decide ((7 : Int) = 4) = false from rfl, cond_false, show decide ((7 : Int) = 3) = false from rfl, cond_false, show decide ((7 : Int) = 13) = false from rfl, cond_false, show decide ((7 : Int) = 8) = false from rfl, cond_false, show decide ((7 : Int) = 11) = false from rfl, cond_false, show decide ((7 : Int) = 15) = false from rfl, cond_false, show decide ((7 : Int) = 16) = false from rfl, cond_false, show decide ((7 : Int) = 5) = false from rfl, cond_false, show decide ((7 : Int) = 10) = false from rfl, cond_false, show decide ((7 : Int) = 14) = false from rfl, cond_false, show decide ((7 : Int) = 12) = false from rfl, cond_false, show decide ((7 : Int) = 9) = false from rfl, cond_false, f_l1Text0 (by omega) (.inr (.inr rfl))]
   simp only [evt]
   rfl
 ·obtain ⟨a, rfl⟩ := len1 hl
  have hba := bd a e (by simp)
  rcases h with h | h | h | h <;> subst h
  ·have ha := flat rfl (n + 1) (by omega) a (by simp)
   simp only [sr] at ha
   rw [show decide ((8 : Int) = 1) = false from rfl, cond_false, show decide ((8 : Int) = 4) = false from rfl, cond_false, show decide ((8 : Int) = 3) = false from rfl, cond_false, show decide ((8 : Int) = 13) = false from rfl, cond_false, show decide ((8 : Int) = 8) = true from rfl, cond_true, show ([a])[(0 : Int).toNat]? = some a from rfl]
   simp only [Option.bind_some]
   rw [show (V1.agg [.int .i64 a.k, .int .i64 a.n, .fr (.ts a.kids)]) = tm a from rfl, ha]
   simp only [evt]
   rw [szc (by rw [by_size, by_size]; simp only [List.length_cons, List.length_nil]; omega), cond_true, by_app, if_neg (by decide), if_neg (by decide), show isBd 8 = false from rfl, if_neg (by decide), shNL_same]
   simp [wv]
  ·have ha := flat rfl (n + 1) (by omega) a (by simp)
   simp only [sr] at ha
   rw [show decide ((11 : Int) = 1) = false from rfl, cond_false, show decide ((11 : Int) = 4) = false from rfl, cond_false, show decide ((11 : Int) = 3) = false from rfl, cond_false, show decide ((11 : Int) = 13) = false from rfl, cond_false, show decide ((11 : Int) = 8) = false from rfl, cond_false, show decide ((11 : Int) = 11) = true from rfl, cond_true, show ([a])[(0 : Int).toNat]? = some a from rfl]
   simp only [Option.bind_some]
   rw [show (V1.agg [.int .i64 a.k, .int .i64 a.n, .fr (.ts a.kids)]) = tm a from rfl, ha]
   simp only [evt]
   rw [szc (by rw [by_size, by_size]; simp only [List.length_cons, List.length_nil]; omega), cond_true, by_app, if_neg (by decide), if_neg (by decide), show isBd 11 = false from rfl, if_neg (by decide), shNL_same]
   simp [wv]
  ·have ha := flat rfl (n + 1) (by omega) a (by simp)
   simp only [sr] at ha
   rw [show decide ((15 : Int) = 1) = false from rfl, cond_false, show decide ((15 : Int) = 4) = false from rfl, cond_false, show decide ((15 : Int) = 3) = false from rfl, cond_false, show decide ((15 : Int) = 13) = false from rfl, cond_false, show decide ((15 : Int) = 8) = false from rfl, cond_false, show decide ((15 : Int) = 11) = false from rfl, cond_false, show decide ((15 : Int) = 15) = true from rfl, cond_true, show ([a])[(0 : Int).toNat]? = some a from rfl]
   simp only [Option.bind_some]
   rw [show (V1.agg [.int .i64 a.k, .int .i64 a.n, .fr (.ts a.kids)]) = tm a from rfl, ha]
   simp only [evt]
   rw [szc (by rw [by_size, by_size]; simp only [List.length_cons, List.length_nil]; omega), cond_true, by_app, if_neg (by decide), if_neg (by decide), show isBd 15 = false from rfl, if_neg (by decide), shNL_same]
   simp [wv]
  ·have ha := flat rfl (n + 1) (by omega) a (by simp)
   simp only [sr] at ha
   rw [show decide ((16 : Int) = 1) = false from rfl, cond_false, show decide ((16 : Int) = 4) = false from rfl, cond_false, show decide ((16 : Int) = 3) = false from rfl, cond_false, show decide ((16 : Int) = 13) = false from rfl, cond_false, show decide ((16 : Int) = 8) = false from rfl, cond_false, show decide ((16 : Int) = 11) = false from rfl, cond_false, show decide ((16 : Int) = 15) = false from rfl, cond_false, show decide ((16 : Int) = 16) = true from rfl, cond_true, show ([a])[(0 : Int).toNat]? = some a from rfl]
   simp only [Option.bind_some]
   rw [show (V1.agg [.int .i64 a.k, .int .i64 a.n, .fr (.ts a.kids)]) = tm a from rfl, ha]
   simp only [evt]
   rw [szc (by rw [by_size, by_size]; simp only [List.length_cons, List.length_nil]; omega), cond_true, by_app, if_neg (by decide), if_neg (by decide), show isBd 16 = false from rfl, if_neg (by decide), shNL_same]
   simp [wv]
 ·obtain ⟨a, b, rfl⟩ := len2 hl
  have hba := bd a e (by simp)
  have hbb := bd b e (by simp)
  rcases h with h | h | h | h <;> subst h
  ·rw [show decide ((3 : Int) = 1) = false from rfl, cond_false, show decide ((3 : Int) = 4) = false from rfl, cond_false, show decide ((3 : Int) = 3) = true from rfl, cond_true, two rfl rfl]
   simp only [evt]
   rw [if_neg (by decide), if_neg (by decide), show isBd 3 = true from rfl, if_pos rfl]
   simp [shNL]
  ·rw [show decide ((4 : Int) = 1) = false from rfl, cond_false, show decide ((4 : Int) = 4) = true from rfl, cond_true, two rfl rfl]
   simp only [evt]
   rw [if_neg (by decide), if_neg (by decide), show isBd 4 = true from rfl, if_pos rfl]
   simp [shNL]
  ·have ha := flat rfl (n + 1) (by omega) a (by simp)
   have hb := flat rfl (n + 1) (by omega) b (by simp)
   simp only [sr] at ha hb
   rw [show decide ((5 : Int) = 1) = false from rfl, cond_false, show decide ((5 : Int) = 4) = false from rfl, cond_false, show decide ((5 : Int) = 3) = false from rfl, cond_false, show decide ((5 : Int) = 13) = false from rfl, cond_false, show decide ((5 : Int) = 8) = false from rfl, cond_false, show decide ((5 : Int) = 11) = false from rfl, cond_false, show decide ((5 : Int) = 15) = false from rfl, cond_false, show decide ((5 : Int) = 16) = false from rfl, cond_false, show decide ((5 : Int) = 5) = true from rfl, cond_true, show ([a, b])[(0 : Int).toNat]? = some a from rfl, show ([a, b])[(1 : Int).toNat]? = some b from rfl]
   simp only [Option.bind_some]
   rw [show (V1.agg [.int .i64 a.k, .int .i64 a.n, .fr (.ts a.kids)]) = tm a from rfl, show (V1.agg [.int .i64 b.k, .int .i64 b.n, .fr (.ts b.kids)]) = tm b from rfl, ha, hb]
   simp (disch := omega) only [evt, by_app, by_size, List.length_append, List.length_cons, List.length_nil, szd, cond_true]
   rw [if_neg (by decide), if_neg (by decide), show isBd 5 = false from rfl, if_neg (by decide), shNL_same]
   simp [wv]
  ·rw [show decide ((13 : Int) = 1) = false from rfl, cond_false, show decide ((13 : Int) = 4) = false from rfl, cond_false, show decide ((13 : Int) = 3) = false from rfl, cond_false, show decide ((13 : Int) = 13) = true from rfl, cond_true, two rfl rfl]
   simp only [evt]
   rw [if_neg (by decide), if_neg (by decide), show isBd 13 = true from rfl, if_pos rfl]
   simp [shNL]
 ·obtain ⟨a, b, c, rfl⟩ := len3 hl
  rcases h with h | h | h <;> subst h
  ·have hj := jb rfl
   rw [show decide ((10 : Int) = 1) = false from rfl, cond_false, show decide ((10 : Int) = 4) = false from rfl, cond_false, show decide ((10 : Int) = 3) = false from rfl, cond_false, show decide ((10 : Int) = 13) = false from rfl, cond_false, show decide ((10 : Int) = 8) = false from rfl, cond_false, show decide ((10 : Int) = 11) = false from rfl, cond_false, show decide ((10 : Int) = 15) = false from rfl, cond_false, show decide ((10 : Int) = 16) = false from rfl, cond_false, show decide ((10 : Int) = 5) = false from rfl, cond_false, show decide ((10 : Int) = 10) = true from rfl, cond_true, list rfl (by simp) (by simp)]
   simp (disch := omega) only [evt, by_app, by_size, List.length_append, List.length_cons, List.length_nil, szd, cond_true]
   rw [if_neg (by decide), if_neg (by decide), show isBd 10 = false from rfl, if_neg (by decide), shNL_same]
   simp [wv]
  ·have hj := jb rfl
   rw [show decide ((12 : Int) = 1) = false from rfl, cond_false, show decide ((12 : Int) = 4) = false from rfl, cond_false, show decide ((12 : Int) = 3) = false from rfl, cond_false, show decide ((12 : Int) = 13) = false from rfl, cond_false, show decide ((12 : Int) = 8) = false from rfl, cond_false, show decide ((12 : Int) = 11) = false from rfl, cond_false, show decide ((12 : Int) = 15) = false from rfl, cond_false, show decide ((12 : Int) = 16) = false from rfl, cond_false, show decide ((12 : Int) = 5) = false from rfl, cond_false, show decide ((12 : Int) = 10) = false from rfl, cond_false, show decide ((12 : Int) = 14) = false from rfl, cond_false, show decide ((12 : Int) = 12) = true from rfl, cond_true, list rfl (by simp) (by simp)]
   simp (disch := omega) only [evt, by_app, by_size, List.length_append, List.length_cons, List.length_nil, szd, cond_true]
   rw [if_neg (by decide), if_neg (by decide), show isBd 12 = false from rfl, if_neg (by decide), shNL_same]
   simp [wv]
  ·have hj := jb rfl
   rw [show decide ((14 : Int) = 1) = false from rfl, cond_false, show decide ((14 : Int) = 4) = false from rfl, cond_false, show decide ((14 : Int) = 3) = false from rfl, cond_false, show decide ((14 : Int) = 13) = false from rfl, cond_false, show decide ((14 : Int) = 8) = false from rfl, cond_false, show decide ((14 : Int) = 11) = false from rfl, cond_false, show decide ((14 : Int) = 15) = false from rfl, cond_false, show decide ((14 : Int) = 16) = false from rfl, cond_false, show decide ((14 : Int) = 5) = false from rfl, cond_false, show decide ((14 : Int) = 10) = false from rfl, cond_false, show decide ((14 : Int) = 14) = true from rfl, cond_true, list rfl (by simp) (by simp)]
   simp (disch := omega) only [evt, by_app, by_size, List.length_append, List.length_cons, List.length_nil, szd, cond_true]
   rw [if_neg (by decide), if_neg (by decide), show isBd 14 = false from rfl, if_neg (by decide), shNL_same]
   simp [wv]
 ·obtain ⟨a, b, c, q, rfl⟩ := len4 hl
  subst h
  have hj := jb rfl
  rw [show decide ((9 : Int) = 1) = false from rfl, cond_false, show decide ((9 : Int) = 4) = false from rfl, cond_false, show decide ((9 : Int) = 3) = false from rfl, cond_false, show decide ((9 : Int) = 13) = false from rfl, cond_false, show decide ((9 : Int) = 8) = false from rfl, cond_false, show decide ((9 : Int) = 11) = false from rfl, cond_false, show decide ((9 : Int) = 15) = false from rfl, cond_false, show decide ((9 : Int) = 16) = false from rfl, cond_false, show decide ((9 : Int) = 5) = false from rfl, cond_false, show decide ((9 : Int) = 10) = false from rfl, cond_false, show decide ((9 : Int) = 14) = false from rfl, cond_false, show decide ((9 : Int) = 12) = false from rfl, cond_false, show decide ((9 : Int) = 9) = true from rfl, cond_true, list rfl (by simp) (by simp)]
  simp (disch := omega) only [evt, by_app, by_size, List.length_append, List.length_cons, List.length_nil, szd, cond_true]
  rw [if_neg (by decide), if_neg (by decide), show isBd 9 = false from rfl, if_neg (by decide), shNL_same]
  simp [wv]
end Go.Proofs.YtnogehmgpfpjmaaDoor
end
section
namespace Go.Proofs.YtnogehmgpfpjmaaDoor
open Go Go.Ab Go.Dk
abbrev ins (w : List Nat) : List Int := w.map fun i : Nat => (i : Int)
end Go.Proofs.YtnogehmgpfpjmaaDoor
end
section
namespace Go.Proofs.YtnogehmgpfpjmaaDoor
open Go Go.Ab Go.Dk
def shX (t : T) (names : List UInt8) : List UInt8 := if validB t = true ∧ nvB (bytesOf names) = true ∧ mfN t ≤ names.length ∧ names.length + mbF t ≤ 20 then shN names.reverse t else []
theorem valid_shape {t : T} (h : validB t = true) : shapeF t 30 = true := by unfold validB at h; rw [Bool.and_eq_true] at h; exact h.1
theorem SH_of {t : T} {names : List UInt8} (h : validB t = true ∧ nvB (bytesOf names) = true ∧ mfN t ≤ names.length ∧ names.length + mbF t ≤ 20) : SH t 30 names.reverse := by
 obtain ⟨h1, h2, h3, h4⟩ := h
 refine ⟨valid_shape h1, ?_, by rw [List.length_reverse]; exact h4⟩
 rw [List.length_reverse]
 exact (mfN_iff h1 _).1 h3
theorem f_ShowNamedI {n : Nat} {t : T} {names : List UInt8} (hn : 5000000 ≤ n) (hz : t.size ≤ 4000000) (hm : names.length ≤ 1048577) : FF n 8 [tm t, sr names] [] = some ([sr (shX t names)], []) := by
 obtain ⟨n, rfl⟩ := pos_succ (show 0 < n by omega)
 show FF (n + 1) 8 [.agg [.int .i64 t.k, .int .i64 t.n, .fr (.ts t.kids)], .one (.str (bytesOf names))] [] = _
 rw [E_impl_ShowNamed, show (V1.agg [.int .i64 t.k, .int .i64 t.n, .fr (.ts t.kids)]) = tm t from rfl, f_TermValid (by omega)]
 simp only [evt]
 unfold shX
 cases hv : validB t with
 | false => rw [if_neg (fun h => by cases h.1), Bool.not_false, cond_true]
 | true =>
  have hz := validB_size hv
  have hN := f_NamesValidI (n := n) names hm (by omega)
  simp only [sr] at hN
  rw [Bool.not_true, cond_false, hN]
  simp only [evt]
  cases hnv : nvB (bytesOf names) with
  | false => rw [if_neg (fun h => by cases h.2.1), Bool.not_false, cond_true]
  | true =>
   have h20 := nvB_size hnv
   rw [by_size] at h20
   rw [Bool.not_true, cond_false, f_maxFreeI (n := n) (by omega) hv]
   simp only [evt]
   rw [by_size]
   by_cases h3 : mfN t ≤ names.length
   ·rw [decide_eq_false (show ¬ ((names.length : Nat) : Int) < (mfN t : Int) by omega), cond_false, f_mostBinders t (by omega) (by omega)]
    simp only [evt]
    have hmb := mb_size t
    rw [wrap64 (show -9223372036854775808 ≤ ((names.length : Nat) : Int) + (mbF t : Int) ∧ ((names.length : Nat) : Int) + (mbF t : Int) ≤ 9223372036854775807 by omega)]
    by_cases h4 : names.length + mbF t ≤ 20
    ·have hh : validB t = true ∧ nvB (bytesOf names) = true ∧ mfN t ≤ names.length ∧ names.length + mbF t ≤ 20 := ⟨hv, hnv, h3, h4⟩
     have hs := f_shown t (n := n) (by omega) (by omega) (SH_of hh)
     rw [List.reverse_reverse] at hs
     simp only [sr] at hs
     rw [decide_eq_false (show ¬ (20 : Int) < ((names.length : Nat) : Int) + (mbF t : Int) by omega), cond_false, hs, if_pos ⟨trivial, trivial, h3, h4⟩]
     simp only [evt]
    ·rw [decide_eq_true (show (20 : Int) < ((names.length : Nat) : Int) + (mbF t : Int) by omega), cond_true, if_neg (fun h => h4 h.2.2.2)]
   ·rw [decide_eq_true (show ((names.length : Nat) : Int) < (mfN t : Int) by omega), cond_true, if_neg (fun h => h3 h.2.2.1)]
theorem f_ShowNamedS {n : Nat} {t : T} {names : List UInt8} (hn : 5000000 ≤ n) (hz : t.size ≤ 4000000) (hm : names.length ≤ 1048577) : FF n 6 [tm t, sr names] [] = some ([sr (shX t names)], []) := by
 obtain ⟨n, rfl⟩ := pos_succ (show 0 < n by omega)
 show FF (n + 1) 6 [.agg [.int .i64 t.k, .int .i64 t.n, .fr (.ts t.kids)], .one (.str (bytesOf names))] [] = _
 rw [E_spec_ShowNamed, show (V1.agg [.int .i64 t.k, .int .i64 t.n, .fr (.ts t.kids)]) = tm t from rfl, f_TermValidS (by omega) hz]
 simp only [evt]
 unfold shX
 cases hv : validB t with
 | false => rw [if_neg (fun h => by cases h.1), Bool.not_false, cond_true]
 | true =>
  have hz := validB_size hv
  have hN := f_NamesValidS (n := n) names hm (by omega)
  simp only [sr] at hN
  rw [Bool.not_true, cond_false, hN]
  simp only [evt]
  cases hnv : nvB (bytesOf names) with
  | false => rw [if_neg (fun h => by cases h.2.1), Bool.not_false, cond_true]
  | true =>
   have h20 := nvB_size hnv
   rw [by_size] at h20
   rw [Bool.not_true, cond_false, f_MaxFreeS (n := n) (by omega) hv]
   simp only [evt]
   rw [by_size]
   by_cases h3 : mfN t ≤ names.length
   ·rw [decide_eq_false (show ¬ ((names.length : Nat) : Int) < (mfN t : Int) by omega), cond_false, f_l6Deep t (by omega) (by omega)]
    simp only [evt]
    have hmb := mb_size t
    rw [wrap64 (show -9223372036854775808 ≤ (mbF t : Int) + ((names.length : Nat) : Int) ∧ (mbF t : Int) + ((names.length : Nat) : Int) ≤ 9223372036854775807 by omega)]
    by_cases h4 : names.length + mbF t ≤ 20
    ·have hh : validB t = true ∧ nvB (bytesOf names) = true ∧ mfN t ≤ names.length ∧ names.length + mbF t ≤ 20 := ⟨hv, hnv, h3, h4⟩
     have hs := f_l6Show t (n := n) (by omega) (by omega) (SH_of hh)
     rw [List.reverse_reverse] at hs
     simp only [sr] at hs
     rw [decide_eq_false (show ¬ (20 : Int) < (mbF t : Int) + ((names.length : Nat) : Int) by omega), cond_false, hs, if_pos ⟨trivial, trivial, h3, h4⟩]
     simp only [evt]
    ·rw [decide_eq_true (show (20 : Int) < (mbF t : Int) + ((names.length : Nat) : Int) by omega), cond_true, if_neg (fun h => h4 h.2.2.2)]
   ·rw [decide_eq_true (show ((names.length : Nat) : Int) < (mfN t : Int) by omega), cond_true, if_neg (fun h => h3 h.2.2.1)]
end Go.Proofs.YtnogehmgpfpjmaaDoor
end
section
namespace Go.Proofs.YtnogehmgpfpjmaaDoor
open Go Go.Ab
open Go.Dk (Rd HT Grow T noneZ)
abbrev newZ (Z : Go.Dk.Zone) (w : World) : Go.Dk.Zone := fun b => Z b ∨ w.heap.size ≤ b
section
variable {f : FuncId} {fn : Func} {n : Nat} {args : List V1} {vals : List Value} {w : World} {Z : Go.Dk.Zone}
theorem ab_call {outs : List V1} (hfn : Tryd.prog.funcs[f]? = some fn) (hb : fn.body.isSome = true) (hr : All2 (RV1 [] Z w) args vals) (hgl : GL noneZ w) (h : FF n f args [] = some (outs, [])) :
   Calls Tryd.prog f vals.toArray w fun e w' => ∃ xs : List Value, e = .returned (if h : xs.toArray.size = 1 then xs.toArray[0] else .tuple xs.toArray) ∧ Grow w w' ∧ All2 (RV1 [] (newZ Z w) w') outs xs :=
 abs_call hprim hib hfn hb hr hgl h
end
end Go.Proofs.YtnogehmgpfpjmaaDoor
end
section
namespace Go.Ab
open Go Go.Dk
section
variable {z : List V1 × List AObj}
end
end Go.Ab
namespace Go.Dk
open Go
def sF (a : Option Addr) (l : List ByteArray) : Fact := fun Z w => ∀ i v, l[i]? = some v → ∃ b off, a = some ⟨b, off, none⟩ ∧ Z b ∧ w.cell? ⟨b, off + i, none⟩ = some (.string v)
theorem sF_stable (a : Option Addr) (l : List ByteArray) : Stable (sF a l) := fun Z Z' w w' hz h i v hi => by
 obtain ⟨b, off, ha, hb, hc⟩ := h i v hi
 have hk := hz b hb (cell_lt hc)
 exact ⟨b, off, ha, hk.1, (cell_keep hk.2).trans hc⟩
theorem sF.cell {Z : Zone} {w : World} {b off i : Nat} {l : List ByteArray} {v : ByteArray} (h : sF (some ⟨b, off, none⟩) l Z w) (hv : l[i]? = some v) : w.cell? ⟨b, off + i, none⟩ = some (.string v) := by
 obtain ⟨b', off', ha, _, hc⟩ := h i v hv
 injection ha with ha
 injection ha with h1 h2
 subst h1 h2
 exact hc
end Go.Dk
namespace Go.Ab
open Go Go.Dk
theorem str_res {n : ByteArray} {x : Value} {w : World} {Z : Zone} (h : RV1 [] Z w (.one (.str n)) x) : x = .string n := h.1
end Go.Ab
end
section
namespace Go.Proofs.YtnogehmgpfpjmaaDoor
open Go Go.Ab
open Go.Dk (Rd HT Grow T Own sF noneZ)
section
variable {f : FuncId} {fn : Func} {n : Nat} {args : List V1} {vals : List Value} {w : World} {Z : Go.Dk.Zone}
theorem ab_str {b : ByteArray} (hfn : Tryd.prog.funcs[f]? = some fn) (hb : fn.body.isSome = true) (hr : All2 (RV1 [] Z w) args vals) (hgl : GL noneZ w) (h : FF n f args [] = some ([.one (.str b)], [])) :
   Calls Tryd.prog f vals.toArray w fun e w' => e = .returned (.string b) ∧ Grow w w' :=
 (ab_call hfn hb hr hgl h).mono fun e w' ⟨xs, he, hg, hx⟩ => by
  obtain ⟨x, xs, rfl, h1, hx⟩ := hx.cons_inv
  obtain rfl := hx.nil_inv
  obtain rfl := str_res h1
  exact ⟨he, hg⟩
end
end Go.Proofs.YtnogehmgpfpjmaaDoor
end
section
namespace Go.Dk
open Go
section
variable {w0 w w' : World} {M Z0 : Zone} {L : List Res} {φ : Fact} {r r1 r2 : Res}
end
theorem RdL_cells {Z : Zone} {w : World} {b : Nat} : ∀ (ts : List HT) (off : Nat), RdL Z w b off ts → ∀ j u, (flatT ts)[j]? = some u → w.cell? ⟨b, off + j, none⟩ = some u
 | [], off, _, j, u, hj => by simp [flatT_nil] at hj
 | t :: ts, off, h, j, u, hj => by
  simp only [RdL] at h
  rw [flatT_cons] at hj
  match j, hj with
  | 0, hj => simp only [List.getElem?_cons_zero, Option.some.injEq] at hj; subst hj; exact h.1.1
  | 1, hj => simp only [List.getElem?_cons_succ, List.getElem?_cons_zero, Option.some.injEq] at hj; subst hj; exact h.1.2.1
  | 2, hj => simp only [List.getElem?_cons_succ, List.getElem?_cons_zero, Option.some.injEq] at hj; subst hj; exact h.1.2.2
  | j + 3, hj =>
   have := RdL_cells ts (off + 3) h.2.2 j u (by simpa using hj)
   rwa [show off + (j + 3) = off + 3 + j by omega]
section
variable {w0 w w' : World} {M Z0 : Zone} {L : List Res} {φ : Fact}
end
end Go.Dk
end
section
namespace Go.Dk
open Go
def pairR (u v : HT) : Res := ⟨fun b => b ∈ u.blocks ∨ b ∈ v.blocks, fun w => (treeR u).own w ∧ (treeR v).own w ∧ ∀ b ∈ u.blocks, b ∉ v.blocks⟩
structure Own2 (w w' : World) (u v : HT) : Prop where
 own : (pairR u v).own w'
 new : ∀ b, (b ∈ u.blocks ∨ b ∈ v.blocks) → w.heap.size ≤ b
end Go.Dk
end
