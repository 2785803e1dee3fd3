/- Part 4 of the proof. -/
import Derived.Test.YtnogehmgpfpjmaaGreatDoorJ01
import Derived.Test.YtnogehmgpfpjmaaGreatDoorJ02
import Derived.Test.YtnogehmgpfpjmaaGreatDoorJ03
import Derived.ChangeArms
import Derived.Deep.Slices
import Derived.Deep.Strs
import Derived.WalkKit
import Derived.ProofKit
import Derived.OpenShut
import Derived.ShutString
import Derived.ChangeOld
import Derived.Below
import Derived.Shelf.Strconv.Itoa3
import Derived.Shelf.Strconv.AtoiAll
import Derived.Shelf.Strings.Split
import Derived.Test.YtnogehmgpfpjmaaGreatDoorProg
set_option linter.unusedVariables false
set_option linter.unusedSimpArgs false
section
namespace Go.Proofs.YtnogehmgpfpjmaaGreatDoor
open Go Go.Ab Go.Dk
theorem E_spec_ParseNamed (n : Nat) (v0 v1 : ByteArray) : FF (n + 1) 9 [.one (.str v0), .one (.str v1)] [] =
 ((FF n 24 [.one (.str v1)] []).bind fun x0 =>
 (rBool x0.1 fun x1 x2 =>
 (nilV x2 (nilO x0.2
 (cond (!x1)
 (some ([.agg [.int .i64 0, .int .i64 0, .fr (.ts [])], .one (.bool false)], []))
 ((FF n 25 [.one (.str v0), .one (.int .i64 0), .one (.str v1), .one (.int .i64 30)] []).bind fun x3 =>
 (rTerm x3.1 fun x4 x5 =>
 (rInt .i64 x5 fun x6 x7 =>
 (nilV x7 (nilO x3.2
 (cond (!decide (x6 = (v0.size : Int)))
 (some ([.agg [.int .i64 0, .int .i64 0, .fr (.ts [])], .one (.bool false)], []))
 ((FF n 26 [.agg [.int .i64 x4.k, .int .i64 x4.n, .fr (.ts x4.kids)]] []).bind fun x8 =>
 (rBool x8.1 fun x9 x10 =>
 (nilV x10 (nilO x8.2
 (cond (!x9)
 (some ([.agg [.int .i64 0, .int .i64 0, .fr (.ts [])], .one (.bool false)], []))
 (some ([.agg [.int .i64 x4.k, .int .i64 x4.n, .fr (.ts x4.kids)], .one (.bool true)], [])))))))))))))))))) := by kernel_rfl
theorem E_impl_ParseNamed (n : Nat) (v0 v1 : ByteArray) : FF (n + 1) 10 [.one (.str v0), .one (.str v1)] [] =
 ((FF n 27 [.one (.str v1)] []).bind fun x0 =>
 (rBool x0.1 fun x1 x2 =>
 (nilV x2 (nilO x0.2
 (cond (!x1)
 (some ([.agg [.int .i64 0, .int .i64 0, .fr (.ts [])], .one (.bool false)], []))
 ((FF n 28 [.one (.str v0), .one (.str v1), .one (.int .i64 1)] []).bind fun x3 =>
 (rTerm x3.1 fun x4 x5 =>
 (rStr x5 fun x6 x7 =>
 (rBool x7 fun x8 x9 =>
 (nilV x9 (nilO x3.2
 (cond (!x8)
 (some ([.agg [.int .i64 0, .int .i64 0, .fr (.ts [])], .one (.bool false)], []))
 (cond (!(x6.toList == (bytesOf []).toList))
 (some ([.agg [.int .i64 0, .int .i64 0, .fr (.ts [])], .one (.bool false)], []))
 ((FF n 29 [.agg [.int .i64 x4.k, .int .i64 x4.n, .fr (.ts x4.kids)]] []).bind fun x10 =>
 (rTerm x10.1 fun x11 x12 =>
 (rBool x12 fun x13 x14 =>
 (nilV x14 (nilO x10.2
 (some ([.agg [.int .i64 x11.k, .int .i64 x11.n, .fr (.ts x11.kids)], .one (.bool x13)], [])))))))))))))))))))) := by kernel_rfl
theorem E_spec_DrawParseNamed (n : Nat) (v0 : List UInt8) : FF (n + 1) 14 [.one (.fr (.bs v0))] [] =
 ((FF n 33 [.one (.fr (.bs v0))] []).bind fun x0 =>
 (rPtr 0 x0.1 fun x1 =>
 (objC x0.2 fun x2 x3 =>
 (bsC x2 fun x4 x5 =>
 (intC .i64 x5 fun x6 x7 =>
 (nilC x7
 (nilV x1 (nilO x3
 ((FF n 34 [.one (.ptr 0 0)] [.cells [.fr (.bs x4), .int .i64 x6]]).bind fun x8 =>
 (objC x8.2 fun x9 x10 =>
 (bsC x9 fun x11 x12 =>
 (intC .i64 x12 fun x13 x14 =>
 (nilC x14
 (rTerm x8.1 fun x15 x16 =>
 (nilV x16 (nilO x10
 ((FF n 35 [.one (.ptr 0 0), .one (.fr (.ss [(bytesOf [120, 121, 122]), (bytesOf [102, 120, 121, 122]), (bytesOf [97, 98]), (bytesOf [119, 120, 121, 122, 97, 98, 99, 100])]))] [.cells [.fr (.bs x11), .int .i64 x13]]).bind fun x17 =>
 (objC x17.2 fun x18 x19 =>
 (bsC x18 fun x20 x21 =>
 (intC .i64 x21 fun x22 x23 =>
 (nilC x23
 (rStr x17.1 fun x24 x25 =>
 (nilV x25 (nilO x19
 ((FF n 23 [.agg [.int .i64 x15.k, .int .i64 x15.n, .fr (.ts x15.kids)], .one (.str x24)] []).bind fun x26 =>
 (rStr x26.1 fun x27 x28 =>
 (nilV x28 (nilO x26.2
 ((FF n 36 [.one (.ptr 0 0), .one (.str x27), .one (.fr (.ss [(bytesOf []), (bytesOf [97]), (bytesOf [120]), (bytesOf [58]), (bytesOf [40]), (bytesOf [93]), (bytesOf [98, 58]), (bytesOf [78])]))] [.cells [.fr (.bs x20), .int .i64 x22]]).bind fun x29 =>
 (objC x29.2 fun x30 x31 =>
 (bsC x30 fun x32 x33 =>
 (intC .i64 x33 fun x34 x35 =>
 (nilC x35
 (rStr x29.1 fun x36 x37 =>
 (nilV x37 (nilO x31
 (some ([.one (.str x36), .one (.str x24)], [])))))))))))))))))))))))))))))))))))))) := by kernel_rfl
theorem E_impl_TermSame (n : Nat) (v0 v1 : Int) (v2 : List T) (v3 v4 : Int) (v5 : List T) : FF (n + 1) 15 [.agg [.int .i64 v0, .int .i64 v1, .fr (.ts v2)], .agg [.int .i64 v3, .int .i64 v4, .fr (.ts v5)]] [] =
 (cond (decide (v0 = v3))
 (cond (decide (v1 = v4))
 ((FF n 37 [.one (.fr (.ts v2)), .one (.fr (.ts v5)), .one (.fn 15 [])] []).bind fun x0 =>
 (rBool x0.1 fun x1 x2 =>
 (nilV x2 (nilO x0.2
 (some ([.one (.bool x1)], []))))))
 (some ([.one (.bool false)], [])))
 (some ([.one (.bool false)], []))) := by kernel_rfl
theorem E_impl_ShowNamed (n : Nat) (v0 v1 : Int) (v2 : List T) (v3 : ByteArray) : FF (n + 1) 16 [.agg [.int .i64 v0, .int .i64 v1, .fr (.ts v2)], .one (.str v3)] [] =
 ((FF n 17 [.agg [.int .i64 v0, .int .i64 v1, .fr (.ts v2)]] []).bind fun x0 =>
 (rBool x0.1 fun x1 x2 =>
 (nilV x2 (nilO x0.2
 (cond (!x1)
 (some ([.one (.str (bytesOf []))], []))
 ((FF n 27 [.one (.str v3)] []).bind fun x3 =>
 (rBool x3.1 fun x4 x5 =>
 (nilV x5 (nilO x3.2
 (cond (!x4)
 (some ([.one (.str (bytesOf []))], []))
 ((FF n 38 [.agg [.int .i64 v0, .int .i64 v1, .fr (.ts v2)]] []).bind fun x6 =>
 (rInt .i64 x6.1 fun x7 x8 =>
 (nilV x8 (nilO x6.2
 (cond (decide ((v3.size : Int) < x7))
 (some ([.one (.str (bytesOf []))], []))
 ((FF n 39 [.agg [.int .i64 v0, .int .i64 v1, .fr (.ts v2)]] []).bind fun x9 =>
 (rInt .i64 x9.1 fun x10 x11 =>
 (nilV x11 (nilO x9.2
 (cond (decide (20 < (IntKind.i64.wrap ((v3.size : Int) + x10))))
 (some ([.one (.str (bytesOf []))], []))
 ((FF n 40 [.agg [.int .i64 v0, .int .i64 v1, .fr (.ts v2)], .one (.str v3)] []).bind fun x12 =>
 (rStr x12.1 fun x13 x14 =>
 (nilV x14 (nilO x12.2
 (some ([.one (.str x13)], [])))))))))))))))))))))))))) := by kernel_rfl
theorem E_impl_TermValid (n : Nat) (v0 v1 : Int) (v2 : List T) : FF (n + 1) 17 [.agg [.int .i64 v0, .int .i64 v1, .fr (.ts v2)]] [] =
 ((FF n 41 [.agg [.int .i64 v0, .int .i64 v1, .fr (.ts v2)], .one (.int .i64 1), .one (.ptr 0 0)] [.cells [.int .i64 0]]).bind fun x0 =>
 (objC x0.2 fun x1 x2 =>
 (intC .i64 x1 fun x3 x4 =>
 (nilC x4
 (rBool x0.1 fun x5 x6 =>
 (nilV x6 (nilO x2
 (some ([.one (.bool x5)], []))))))))) := by kernel_rfl
theorem E_impl_MaxFree (n : Nat) (v0 v1 : Int) (v2 : List T) : FF (n + 1) 18 [.agg [.int .i64 v0, .int .i64 v1, .fr (.ts v2)]] [] =
 ((FF n 17 [.agg [.int .i64 v0, .int .i64 v1, .fr (.ts v2)]] []).bind fun x0 =>
 (rBool x0.1 fun x1 x2 =>
 (nilV x2 (nilO x0.2
 (cond (!x1)
 (some ([.one (.int .i64 (-1))], []))
 ((FF n 38 [.agg [.int .i64 v0, .int .i64 v1, .fr (.ts v2)]] []).bind fun x3 =>
 (rInt .i64 x3.1 fun x4 x5 =>
 (nilV x5 (nilO x3.2
 (some ([.one (.int .i64 x4)], []))))))))))) := by kernel_rfl
theorem E_impl_NamedSame (n : Nat) (v0 v1 v2 : ByteArray) : FF (n + 1) 19 [.one (.str v0), .one (.str v1), .one (.str v2)] [] =
 ((FF n 10 [.one (.str v0), .one (.str v2)] []).bind fun x0 =>
 (rTerm x0.1 fun x1 x2 =>
 (rBool x2 fun x3 x4 =>
 (nilV x4 (nilO x0.2
 ((FF n 10 [.one (.str v1), .one (.str v2)] []).bind fun x5 =>
 (rTerm x5.1 fun x6 x7 =>
 (rBool x7 fun x8 x9 =>
 (nilV x9 (nilO x5.2
 (cond x3
 (cond x8
 ((FF n 15 [.agg [.int .i64 x1.k, .int .i64 x1.n, .fr (.ts x1.kids)], .agg [.int .i64 x6.k, .int .i64 x6.n, .fr (.ts x6.kids)]] []).bind fun x10 =>
 (rBool x10.1 fun x11 x12 =>
 (nilV x12 (nilO x10.2
 (some ([.one (.bool x11)], []))))))
 (some ([.one (.bool false)], [])))
 (some ([.one (.bool false)], []))))))))))))) := by kernel_rfl
theorem E_spec_DrawNamedSame (n : Nat) (v0 : List UInt8) : FF (n + 1) 20 [.one (.fr (.bs v0))] [] =
 ((FF n 33 [.one (.fr (.bs v0))] []).bind fun x0 =>
 (rPtr 0 x0.1 fun x1 =>
 (objC x0.2 fun x2 x3 =>
 (bsC x2 fun x4 x5 =>
 (intC .i64 x5 fun x6 x7 =>
 (nilC x7
 (nilV x1 (nilO x3
 ((FF n 34 [.one (.ptr 0 0)] [.cells [.fr (.bs x4), .int .i64 x6]]).bind fun x8 =>
 (objC x8.2 fun x9 x10 =>
 (bsC x9 fun x11 x12 =>
 (intC .i64 x12 fun x13 x14 =>
 (nilC x14
 (rTerm x8.1 fun x15 x16 =>
 (nilV x16 (nilO x10
 ((FF n 35 [.one (.ptr 0 0), .one (.fr (.ss [(bytesOf [120, 121, 122]), (bytesOf [102, 120, 121, 122]), (bytesOf [97, 98])]))] [.cells [.fr (.bs x11), .int .i64 x13]]).bind fun x17 =>
 (objC x17.2 fun x18 x19 =>
 (bsC x18 fun x20 x21 =>
 (intC .i64 x21 fun x22 x23 =>
 (nilC x23
 (rStr x17.1 fun x24 x25 =>
 (nilV x25 (nilO x19
 ((FF n 23 [.agg [.int .i64 x15.k, .int .i64 x15.n, .fr (.ts x15.kids)], .one (.str x24)] []).bind fun x26 =>
 (rStr x26.1 fun x27 x28 =>
 (nilV x28 (nilO x26.2
 (cond (decide (0 < (x27.size : Int)))
 ((FF n 42 [.one (.ptr 0 0), .one (.int .i64 2)] [.cells [.fr (.bs x20), .int .i64 x22]]).bind fun x29 =>
 (objC x29.2 fun x30 x31 =>
 (bsC x30 fun x32 x33 =>
 (intC .i64 x33 fun x34 x35 =>
 (nilC x35
 (rInt .i64 x29.1 fun x36 x37 =>
 (nilV x37 (nilO x31
 (cond (decide (x36 = 0))
 ((FF n 36 [.one (.ptr 0 0), .one (.str x27), .one (.fr (.ss [(bytesOf [97]), (bytesOf [98]), (bytesOf [120])]))] [.cells [.fr (.bs x32), .int .i64 x34]]).bind fun x38 =>
 (objC x38.2 fun x39 x40 =>
 (bsC x39 fun x41 x42 =>
 (intC .i64 x42 fun x43 x44 =>
 (nilC x44
 (rStr x38.1 fun x45 x46 =>
 (nilV x46 (nilO x40
 (some ([.one (.str x27), .one (.str x45), .one (.str x24)], []))))))))))
 (some ([.one (.str x27), .one (.str x27), .one (.str x24)], [])))))))))))
 (some ([.one (.str x27), .one (.str x27), .one (.str x24)], []))))))))))))))))))))))))))))))) := by kernel_rfl
theorem E_spec_NamedSame (n : Nat) (v0 v1 v2 : ByteArray) : FF (n + 1) 21 [.one (.str v0), .one (.str v1), .one (.str v2)] [] =
 ((FF n 9 [.one (.str v0), .one (.str v2)] []).bind fun x0 =>
 (rTerm x0.1 fun x1 x2 =>
 (rBool x2 fun x3 x4 =>
 (nilV x4 (nilO x0.2
 ((FF n 9 [.one (.str v1), .one (.str v2)] []).bind fun x5 =>
 (rTerm x5.1 fun x6 x7 =>
 (rBool x7 fun x8 x9 =>
 (nilV x9 (nilO x5.2
 (cond x3
 (cond x8
 ((FF n 43 [.agg [.int .i64 x1.k, .int .i64 x1.n, .fr (.ts x1.kids)], .agg [.int .i64 x6.k, .int .i64 x6.n, .fr (.ts x6.kids)]] []).bind fun x10 =>
 (rBool x10.1 fun x11 x12 =>
 (nilV x12 (nilO x10.2
 (some ([.one (.bool x11)], []))))))
 (some ([.one (.bool false)], [])))
 (some ([.one (.bool false)], []))))))))))))) := by kernel_rfl
theorem E_spec_DrawShowNamed (n : Nat) (v0 : List UInt8) : FF (n + 1) 22 [.one (.fr (.bs v0))] [] =
 ((FF n 33 [.one (.fr (.bs v0))] []).bind fun x0 =>
 (rPtr 0 x0.1 fun x1 =>
 (objC x0.2 fun x2 x3 =>
 (bsC x2 fun x4 x5 =>
 (intC .i64 x5 fun x6 x7 =>
 (nilC x7
 (nilV x1 (nilO x3
 ((FF n 34 [.one (.ptr 0 0)] [.cells [.fr (.bs x4), .int .i64 x6]]).bind fun x8 =>
 (objC x8.2 fun x9 x10 =>
 (bsC x9 fun x11 x12 =>
 (intC .i64 x12 fun x13 x14 =>
 (nilC x14
 (rTerm x8.1 fun x15 x16 =>
 (nilV x16 (nilO x10
 ((FF n 42 [.one (.ptr 0 0), .one (.int .i64 2)] [.cells [.fr (.bs x11), .int .i64 x13]]).bind fun x17 =>
 (objC x17.2 fun x18 x19 =>
 (bsC x18 fun x20 x21 =>
 (intC .i64 x21 fun x22 x23 =>
 (nilC x23
 (rInt .i64 x17.1 fun x24 x25 =>
 (nilV x25 (nilO x19
 (cond (decide (x24 = 0))
 ((FF n 44 [.one (.ptr 0 0)] [.cells [.fr (.bs x20), .int .i64 x22]]).bind fun x26 =>
 (objC x26.2 fun x27 x28 =>
 (bsC x27 fun x29 x30 =>
 (intC .i64 x30 fun x31 x32 =>
 (nilC x32
 (rTs x26.1 fun x33 x34 =>
 (rTerm x34 fun x35 x36 =>
 (nilV x36 (nilO x28
 ((FF n 35 [.one (.ptr 0 0), .one (.fr (.ss [(bytesOf [120, 121, 122]), (bytesOf [102, 120, 121, 122]), (bytesOf [97, 98]), (bytesOf []), (bytesOf [120])]))] [.cells [.fr (.bs x29), .int .i64 x31]]).bind fun x37 =>
 (objC x37.2 fun x38 x39 =>
 (bsC x38 fun x40 x41 =>
 (intC .i64 x41 fun x42 x43 =>
 (nilC x43
 (rStr x37.1 fun x44 x45 =>
 (nilV x45 (nilO x39
 ((FF n 42 [.one (.ptr 0 0), .one (.int .i64 8)] [.cells [.fr (.bs x40), .int .i64 x42]]).bind fun x46 =>
 (objC x46.2 fun x47 x48 =>
 (bsC x47 fun x49 x50 =>
 (intC .i64 x50 fun x51 x52 =>
 (nilC x52
 (rInt .i64 x46.1 fun x53 x54 =>
 (nilV x54 (nilO x48
 (cond (decide (x53 = 0))
 ((FF n 45 [.one (.ptr 0 0)] [.cells [.fr (.bs x49), .int .i64 x51]]).bind fun x55 =>
 (objC x55.2 fun x56 x57 =>
 (bsC x56 fun x58 x59 =>
 (intC .i64 x59 fun x60 x61 =>
 (nilC x61
 (rStr x55.1 fun x62 x63 =>
 (nilV x63 (nilO x57
 ((FF n 46 [.one (.ptr 0 0), .agg [.int .i64 x35.k, .int .i64 x35.n, .fr (.ts x35.kids)]] [.cells [.fr (.bs x58), .int .i64 x60]]).bind fun x64 =>
 (objC x64.2 fun x65 x66 =>
 (bsC x65 fun x67 x68 =>
 (intC .i64 x68 fun x69 x70 =>
 (nilC x70
 (rTerm x64.1 fun x71 x72 =>
 (nilV x72 (nilO x66
 (some ([.agg [.int .i64 x71.k, .int .i64 x71.n, .fr (.ts x71.kids)], .one (.str x62)], []))))))))))))))))))
 ((FF n 46 [.one (.ptr 0 0), .agg [.int .i64 x35.k, .int .i64 x35.n, .fr (.ts x35.kids)]] [.cells [.fr (.bs x49), .int .i64 x51]]).bind fun x55 =>
 (objC x55.2 fun x56 x57 =>
 (bsC x56 fun x58 x59 =>
 (intC .i64 x59 fun x60 x61 =>
 (nilC x61
 (rTerm x55.1 fun x62 x63 =>
 (nilV x63 (nilO x57
 (some ([.agg [.int .i64 x62.k, .int .i64 x62.n, .fr (.ts x62.kids)], .one (.str x44)], []))))))))))))))))))))))))))))))))))))
 ((FF n 35 [.one (.ptr 0 0), .one (.fr (.ss [(bytesOf [120, 121, 122]), (bytesOf [102, 120, 121, 122]), (bytesOf [97, 98]), (bytesOf []), (bytesOf [120])]))] [.cells [.fr (.bs x20), .int .i64 x22]]).bind fun x26 =>
 (objC x26.2 fun x27 x28 =>
 (bsC x27 fun x29 x30 =>
 (intC .i64 x30 fun x31 x32 =>
 (nilC x32
 (rStr x26.1 fun x33 x34 =>
 (nilV x34 (nilO x28
 ((FF n 42 [.one (.ptr 0 0), .one (.int .i64 8)] [.cells [.fr (.bs x29), .int .i64 x31]]).bind fun x35 =>
 (objC x35.2 fun x36 x37 =>
 (bsC x36 fun x38 x39 =>
 (intC .i64 x39 fun x40 x41 =>
 (nilC x41
 (rInt .i64 x35.1 fun x42 x43 =>
 (nilV x43 (nilO x37
 (cond (decide (x42 = 0))
 ((FF n 45 [.one (.ptr 0 0)] [.cells [.fr (.bs x38), .int .i64 x40]]).bind fun x44 =>
 (objC x44.2 fun x45 x46 =>
 (bsC x45 fun x47 x48 =>
 (intC .i64 x48 fun x49 x50 =>
 (nilC x50
 (rStr x44.1 fun x51 x52 =>
 (nilV x52 (nilO x46
 ((FF n 46 [.one (.ptr 0 0), .agg [.int .i64 x15.k, .int .i64 x15.n, .fr (.ts x15.kids)]] [.cells [.fr (.bs x47), .int .i64 x49]]).bind fun x53 =>
 (objC x53.2 fun x54 x55 =>
 (bsC x54 fun x56 x57 =>
 (intC .i64 x57 fun x58 x59 =>
 (nilC x59
 (rTerm x53.1 fun x60 x61 =>
 (nilV x61 (nilO x55
 (some ([.agg [.int .i64 x60.k, .int .i64 x60.n, .fr (.ts x60.kids)], .one (.str x51)], []))))))))))))))))))
 ((FF n 46 [.one (.ptr 0 0), .agg [.int .i64 x15.k, .int .i64 x15.n, .fr (.ts x15.kids)]] [.cells [.fr (.bs x38), .int .i64 x40]]).bind fun x44 =>
 (objC x44.2 fun x45 x46 =>
 (bsC x45 fun x47 x48 =>
 (intC .i64 x48 fun x49 x50 =>
 (nilC x50
 (rTerm x44.1 fun x51 x52 =>
 (nilV x52 (nilO x46
 (some ([.agg [.int .i64 x51.k, .int .i64 x51.n, .fr (.ts x51.kids)], .one (.str x33)], [])))))))))))))))))))))))))))))))))))))))))))))))))))) := by kernel_rfl
theorem E_spec_ShowNamed (n : Nat) (v0 v1 : Int) (v2 : List T) (v3 : ByteArray) : FF (n + 1) 23 [.agg [.int .i64 v0, .int .i64 v1, .fr (.ts v2)], .one (.str v3)] [] =
 ((FF n 26 [.agg [.int .i64 v0, .int .i64 v1, .fr (.ts v2)]] []).bind fun x0 =>
 (rBool x0.1 fun x1 x2 =>
 (nilV x2 (nilO x0.2
 (cond (!x1)
 (some ([.one (.str (bytesOf []))], []))
 ((FF n 24 [.one (.str v3)] []).bind fun x3 =>
 (rBool x3.1 fun x4 x5 =>
 (nilV x5 (nilO x3.2
 (cond (!x4)
 (some ([.one (.str (bytesOf []))], []))
 ((FF n 47 [.agg [.int .i64 v0, .int .i64 v1, .fr (.ts v2)]] []).bind fun x6 =>
 (rInt .i64 x6.1 fun x7 x8 =>
 (nilV x8 (nilO x6.2
 (cond (decide ((v3.size : Int) < x7))
 (some ([.one (.str (bytesOf []))], []))
 ((FF n 48 [.agg [.int .i64 v0, .int .i64 v1, .fr (.ts v2)]] []).bind fun x9 =>
 (rInt .i64 x9.1 fun x10 x11 =>
 (nilV x11 (nilO x9.2
 (cond (decide (20 < (IntKind.i64.wrap (x10 + (v3.size : Int)))))
 (some ([.one (.str (bytesOf []))], []))
 ((FF n 49 [.agg [.int .i64 v0, .int .i64 v1, .fr (.ts v2)], .one (.str v3)] []).bind fun x12 =>
 (rStr x12.1 fun x13 x14 =>
 (nilV x14 (nilO x12.2
 (some ([.one (.str x13)], [])))))))))))))))))))))))))) := by kernel_rfl
noncomputable def L_spec_NamesValid_0 (n c : Nat) (v0 : ByteArray) (v1 : Int) : OR := runLoop Tryz.prog SS n 24 0 [1, 0, 1, 0] [] c ⟨[.v (.one (.str v0)), anyV, anyV, .v (.one (.int .i64 v1)), anyV, anyV, anyV, anyV, anyV, anyV, anyV, anyV, anyV, anyV, anyV, anyV, anyV, anyV, anyV, anyV, anyV, anyV, anyV, anyV, anyV, anyV, anyV, anyV],
 []⟩
theorem L_spec_NamesValid_0_eq (n c : Nat) (v0 : ByteArray) (v1 : Int) : L_spec_NamesValid_0 n (c + 1) v0 v1 =
 (cond (decide (v1 < (v0.size : Int)))
 (cond (decide (0 ≤ v1) && decide (v1 < ((v0.size : Nat) : Int)))
 ((FF n 50 [.one (.int .u8 ((byteAt v0 (v1 : Int).toNat).toNat : Int))] []).bind fun x0 =>
 (rBool x0.1 fun x1 x2 =>
 (nilV x2 (nilO x0.2
 (cond (!x1)
 (some ([.one (.bool false)], []))
 (cond (Go.Ab.inB 0 v1 v0.size)
 (cond (decide (0 ≤ v1) && decide (v1 < ((v0.size : Nat) : Int)))
 ((FF n 51 [.one (.str (v0.extract (0 : Int).toNat (v1 : Int).toNat)), .one (.int .u8 ((byteAt v0 (v1 : Int).toNat).toNat : Int))] []).bind fun x3 =>
 (rInt .i64 x3.1 fun x4 x5 =>
 (nilV x5 (nilO x3.2
 (cond (decide (0 ≤ x4))
 (some ([.one (.bool false)], []))
 (L_spec_NamesValid_0 n c v0 (IntKind.i64.wrap (v1 + 1))))))))
 none)
 none))))))
 none)
 (some ([.one (.bool (decide ((v0.size : Int) ≤ 20)))], []))) := by kernel_rfl
theorem E_spec_NamesValid (n : Nat) (v0 : ByteArray) : FF (n + 1) 24 [.one (.str v0)] [] =
 L_spec_NamesValid_0 n n v0 0 := by kernel_rfl
theorem E_spec_l6Parse (n : Nat) (v0 : ByteArray) (v1 : Int) (v2 : ByteArray) (v3 : Int) : FF (n + 1) 25 [.one (.str v0), .one (.int .i64 v1), .one (.str v2), .one (.int .i64 v3)] [] =
 (cond (decide (v3 < 1))
 (some ([.agg [.int .i64 0, .int .i64 0, .fr (.ts [])], .one (.int .i64 (-1))], []))
 (cond (decide (v1 < 0))
 (some ([.agg [.int .i64 0, .int .i64 0, .fr (.ts [])], .one (.int .i64 (-1))], []))
 (cond (decide ((v0.size : Int) ≤ v1))
 (some ([.agg [.int .i64 0, .int .i64 0, .fr (.ts [])], .one (.int .i64 (-1))], []))
 (cond (decide (0 ≤ v1) && decide (v1 < ((v0.size : Nat) : Int)))
 (cond (decide (((byteAt v0 (v1 : Int).toNat).toNat : Int) = 42))
 ((FF n 52 [.one (.str v0), .one (.int .i64 v1), .one (.int .i64 v3)] []).bind fun x0 =>
 (rTerm x0.1 fun x1 x2 =>
 (rInt .i64 x2 fun x3 x4 =>
 (nilV x4 (nilO x0.2
 (some ([.agg [.int .i64 x1.k, .int .i64 x1.n, .fr (.ts x1.kids)], .one (.int .i64 x3)], [])))))))
 (cond (decide (((byteAt v0 (v1 : Int).toNat).toNat : Int) = 78))
 ((FF n 52 [.one (.str v0), .one (.int .i64 v1), .one (.int .i64 v3)] []).bind fun x0 =>
 (rTerm x0.1 fun x1 x2 =>
 (rInt .i64 x2 fun x3 x4 =>
 (nilV x4 (nilO x0.2
 (some ([.agg [.int .i64 x1.k, .int .i64 x1.n, .fr (.ts x1.kids)], .one (.int .i64 x3)], [])))))))
 (cond (decide (((byteAt v0 (v1 : Int).toNat).toNat : Int) = 48))
 ((FF n 52 [.one (.str v0), .one (.int .i64 v1), .one (.int .i64 v3)] []).bind fun x0 =>
 (rTerm x0.1 fun x1 x2 =>
 (rInt .i64 x2 fun x3 x4 =>
 (nilV x4 (nilO x0.2
 (some ([.agg [.int .i64 x1.k, .int .i64 x1.n, .fr (.ts x1.kids)], .one (.int .i64 x3)], [])))))))
 (cond (decide (((byteAt v0 (v1 : Int).toNat).toNat : Int) = 43))
 ((FF n 25 [.one (.str v0), .one (.int .i64 (IntKind.i64.wrap (v1 + 1))), .one (.str v2), .one (.int .i64 (IntKind.i64.wrap (v3 - 1)))] []).bind fun x0 =>
 (rTerm x0.1 fun x1 x2 =>
 (rInt .i64 x2 fun x3 x4 =>
 (nilV x4 (nilO x0.2
 (cond (decide (((byteAt v0 (v1 : Int).toNat).toNat : Int) = 33))
 ((FF n 53 [.one (.int .i64 11), .one (.fr (.ts [(T.mk x1.k x1.n x1.kids)]))] []).bind fun x5 =>
 (rTerm x5.1 fun x6 x7 =>
 (nilV x7 (nilO x5.2
 (some ([.agg [.int .i64 x6.k, .int .i64 x6.n, .fr (.ts x6.kids)], .one (.int .i64 x3)], []))))))
 (cond (decide (((byteAt v0 (v1 : Int).toNat).toNat : Int) = 94))
 ((FF n 53 [.one (.int .i64 15), .one (.fr (.ts [(T.mk x1.k x1.n x1.kids)]))] []).bind fun x5 =>
 (rTerm x5.1 fun x6 x7 =>
 (nilV x7 (nilO x5.2
 (some ([.agg [.int .i64 x6.k, .int .i64 x6.n, .fr (.ts x6.kids)], .one (.int .i64 x3)], []))))))
 (cond (decide (((byteAt v0 (v1 : Int).toNat).toNat : Int) = 95))
 ((FF n 53 [.one (.int .i64 16), .one (.fr (.ts [(T.mk x1.k x1.n x1.kids)]))] []).bind fun x5 =>
 (rTerm x5.1 fun x6 x7 =>
 (nilV x7 (nilO x5.2
 (some ([.agg [.int .i64 x6.k, .int .i64 x6.n, .fr (.ts x6.kids)], .one (.int .i64 x3)], []))))))
 ((FF n 53 [.one (.int .i64 8), .one (.fr (.ts [(T.mk x1.k x1.n x1.kids)]))] []).bind fun x5 =>
 (rTerm x5.1 fun x6 x7 =>
 (nilV x7 (nilO x5.2
 (some ([.agg [.int .i64 x6.k, .int .i64 x6.n, .fr (.ts x6.kids)], .one (.int .i64 x3)], []))))))))))))))
 (cond (decide (((byteAt v0 (v1 : Int).toNat).toNat : Int) = 33))
 ((FF n 25 [.one (.str v0), .one (.int .i64 (IntKind.i64.wrap (v1 + 1))), .one (.str v2), .one (.int .i64 (IntKind.i64.wrap (v3 - 1)))] []).bind fun x0 =>
 (rTerm x0.1 fun x1 x2 =>
 (rInt .i64 x2 fun x3 x4 =>
 (nilV x4 (nilO x0.2
 (cond (decide (((byteAt v0 (v1 : Int).toNat).toNat : Int) = 33))
 ((FF n 53 [.one (.int .i64 11), .one (.fr (.ts [(T.mk x1.k x1.n x1.kids)]))] []).bind fun x5 =>
 (rTerm x5.1 fun x6 x7 =>
 (nilV x7 (nilO x5.2
 (some ([.agg [.int .i64 x6.k, .int .i64 x6.n, .fr (.ts x6.kids)], .one (.int .i64 x3)], []))))))
 (cond (decide (((byteAt v0 (v1 : Int).toNat).toNat : Int) = 94))
 ((FF n 53 [.one (.int .i64 15), .one (.fr (.ts [(T.mk x1.k x1.n x1.kids)]))] []).bind fun x5 =>
 (rTerm x5.1 fun x6 x7 =>
 (nilV x7 (nilO x5.2
 (some ([.agg [.int .i64 x6.k, .int .i64 x6.n, .fr (.ts x6.kids)], .one (.int .i64 x3)], []))))))
 (cond (decide (((byteAt v0 (v1 : Int).toNat).toNat : Int) = 95))
 ((FF n 53 [.one (.int .i64 16), .one (.fr (.ts [(T.mk x1.k x1.n x1.kids)]))] []).bind fun x5 =>
 (rTerm x5.1 fun x6 x7 =>
 (nilV x7 (nilO x5.2
 (some ([.agg [.int .i64 x6.k, .int .i64 x6.n, .fr (.ts x6.kids)], .one (.int .i64 x3)], []))))))
 ((FF n 53 [.one (.int .i64 8), .one (.fr (.ts [(T.mk x1.k x1.n x1.kids)]))] []).bind fun x5 =>
 (rTerm x5.1 fun x6 x7 =>
 (nilV x7 (nilO x5.2
 (some ([.agg [.int .i64 x6.k, .int .i64 x6.n, .fr (.ts x6.kids)], .one (.int .i64 x3)], []))))))))))))))
 (cond (decide (((byteAt v0 (v1 : Int).toNat).toNat : Int) = 94))
 ((FF n 25 [.one (.str v0), .one (.int .i64 (IntKind.i64.wrap (v1 + 1))), .one (.str v2), .one (.int .i64 (IntKind.i64.wrap (v3 - 1)))] []).bind fun x0 =>
 (rTerm x0.1 fun x1 x2 =>
 (rInt .i64 x2 fun x3 x4 =>
 (nilV x4 (nilO x0.2
 (cond (decide (((byteAt v0 (v1 : Int).toNat).toNat : Int) = 33))
 ((FF n 53 [.one (.int .i64 11), .one (.fr (.ts [(T.mk x1.k x1.n x1.kids)]))] []).bind fun x5 =>
 (rTerm x5.1 fun x6 x7 =>
 (nilV x7 (nilO x5.2
 (some ([.agg [.int .i64 x6.k, .int .i64 x6.n, .fr (.ts x6.kids)], .one (.int .i64 x3)], []))))))
 (cond (decide (((byteAt v0 (v1 : Int).toNat).toNat : Int) = 94))
 ((FF n 53 [.one (.int .i64 15), .one (.fr (.ts [(T.mk x1.k x1.n x1.kids)]))] []).bind fun x5 =>
 (rTerm x5.1 fun x6 x7 =>
 (nilV x7 (nilO x5.2
 (some ([.agg [.int .i64 x6.k, .int .i64 x6.n, .fr (.ts x6.kids)], .one (.int .i64 x3)], []))))))
 (cond (decide (((byteAt v0 (v1 : Int).toNat).toNat : Int) = 95))
 ((FF n 53 [.one (.int .i64 16), .one (.fr (.ts [(T.mk x1.k x1.n x1.kids)]))] []).bind fun x5 =>
 (rTerm x5.1 fun x6 x7 =>
 (nilV x7 (nilO x5.2
 (some ([.agg [.int .i64 x6.k, .int .i64 x6.n, .fr (.ts x6.kids)], .one (.int .i64 x3)], []))))))
 ((FF n 53 [.one (.int .i64 8), .one (.fr (.ts [(T.mk x1.k x1.n x1.kids)]))] []).bind fun x5 =>
 (rTerm x5.1 fun x6 x7 =>
 (nilV x7 (nilO x5.2
 (some ([.agg [.int .i64 x6.k, .int .i64 x6.n, .fr (.ts x6.kids)], .one (.int .i64 x3)], []))))))))))))))
 (cond (decide (((byteAt v0 (v1 : Int).toNat).toNat : Int) = 95))
 ((FF n 25 [.one (.str v0), .one (.int .i64 (IntKind.i64.wrap (v1 + 1))), .one (.str v2), .one (.int .i64 (IntKind.i64.wrap (v3 - 1)))] []).bind fun x0 =>
 (rTerm x0.1 fun x1 x2 =>
 (rInt .i64 x2 fun x3 x4 =>
 (nilV x4 (nilO x0.2
 (cond (decide (((byteAt v0 (v1 : Int).toNat).toNat : Int) = 33))
 ((FF n 53 [.one (.int .i64 11), .one (.fr (.ts [(T.mk x1.k x1.n x1.kids)]))] []).bind fun x5 =>
 (rTerm x5.1 fun x6 x7 =>
 (nilV x7 (nilO x5.2
 (some ([.agg [.int .i64 x6.k, .int .i64 x6.n, .fr (.ts x6.kids)], .one (.int .i64 x3)], []))))))
 (cond (decide (((byteAt v0 (v1 : Int).toNat).toNat : Int) = 94))
 ((FF n 53 [.one (.int .i64 15), .one (.fr (.ts [(T.mk x1.k x1.n x1.kids)]))] []).bind fun x5 =>
 (rTerm x5.1 fun x6 x7 =>
 (nilV x7 (nilO x5.2
 (some ([.agg [.int .i64 x6.k, .int .i64 x6.n, .fr (.ts x6.kids)], .one (.int .i64 x3)], []))))))
 (cond (decide (((byteAt v0 (v1 : Int).toNat).toNat : Int) = 95))
 ((FF n 53 [.one (.int .i64 16), .one (.fr (.ts [(T.mk x1.k x1.n x1.kids)]))] []).bind fun x5 =>
 (rTerm x5.1 fun x6 x7 =>
 (nilV x7 (nilO x5.2
 (some ([.agg [.int .i64 x6.k, .int .i64 x6.n, .fr (.ts x6.kids)], .one (.int .i64 x3)], []))))))
 ((FF n 53 [.one (.int .i64 8), .one (.fr (.ts [(T.mk x1.k x1.n x1.kids)]))] []).bind fun x5 =>
 (rTerm x5.1 fun x6 x7 =>
 (nilV x7 (nilO x5.2
 (some ([.agg [.int .i64 x6.k, .int .i64 x6.n, .fr (.ts x6.kids)], .one (.int .i64 x3)], []))))))))))))))
 (cond (decide (((byteAt v0 (v1 : Int).toNat).toNat : Int) = 40))
 ((FF n 54 [.one (.str v0), .one (.int .i64 (IntKind.i64.wrap (v1 + 1))), .one (.str v2), .one (.int .i64 (IntKind.i64.wrap (v3 - 1)))] []).bind fun x0 =>
 (rTerm x0.1 fun x1 x2 =>
 (rInt .i64 x2 fun x3 x4 =>
 (nilV x4 (nilO x0.2
 (some ([.agg [.int .i64 x1.k, .int .i64 x1.n, .fr (.ts x1.kids)], .one (.int .i64 x3)], [])))))))
 (cond (decide (((byteAt v0 (v1 : Int).toNat).toNat : Int) = 91))
 ((FF n 55 [.one (.str v0), .one (.int .i64 (IntKind.i64.wrap (v1 + 1))), .one (.str v2), .one (.int .i64 (IntKind.i64.wrap (v3 - 1)))] []).bind fun x0 =>
 (rTerm x0.1 fun x1 x2 =>
 (rInt .i64 x2 fun x3 x4 =>
 (nilV x4 (nilO x0.2
 (some ([.agg [.int .i64 x1.k, .int .i64 x1.n, .fr (.ts x1.kids)], .one (.int .i64 x3)], [])))))))
 ((FF n 50 [.one (.int .u8 ((byteAt v0 (v1 : Int).toNat).toNat : Int))] []).bind fun x0 =>
 (rBool x0.1 fun x1 x2 =>
 (nilV x2 (nilO x0.2
 (cond x1
 ((FF n 51 [.one (.str v2), .one (.int .u8 ((byteAt v0 (v1 : Int).toNat).toNat : Int))] []).bind fun x3 =>
 (rInt .i64 x3.1 fun x4 x5 =>
 (nilV x5 (nilO x3.2
 (cond (decide (x4 < 0))
 (some ([.agg [.int .i64 0, .int .i64 0, .fr (.ts [])], .one (.int .i64 (-1))], []))
 (cond (decide (20 < x4))
 (some ([.agg [.int .i64 0, .int .i64 0, .fr (.ts [])], .one (.int .i64 (-1))], []))
 ((FF n 56 [.one (.int .i64 1), .one (.int .i64 x4)] []).bind fun x6 =>
 (rTerm x6.1 fun x7 x8 =>
 (nilV x8 (nilO x6.2
 (some ([.agg [.int .i64 x7.k, .int .i64 x7.n, .fr (.ts x7.kids)], .one (.int .i64 (IntKind.i64.wrap (v1 + 1)))], []))))))))))))
 ((FF n 57 [.one (.str v0), .one (.int .i64 v1), .one (.str v2), .one (.int .i64 v3)] []).bind fun x3 =>
 (rTerm x3.1 fun x4 x5 =>
 (rInt .i64 x5 fun x6 x7 =>
 (nilV x7 (nilO x3.2
 (some ([.agg [.int .i64 x4.k, .int .i64 x4.n, .fr (.ts x4.kids)], .one (.int .i64 x6)], [])))))))))))))))))))))
 none)))) := by kernel_rfl
theorem E_spec_TermValid (n : Nat) (v0 v1 : Int) (v2 : List T) : FF (n + 1) 26 [.agg [.int .i64 v0, .int .i64 v1, .fr (.ts v2)]] [] =
 ((FF n 58 [.agg [.int .i64 v0, .int .i64 v1, .fr (.ts v2)], .one (.int .i64 30)] []).bind fun x0 =>
 (rBool x0.1 fun x1 x2 =>
 (nilV x2 (nilO x0.2
 (cond x1
 ((FF n 59 [.agg [.int .i64 v0, .int .i64 v1, .fr (.ts v2)], .one (.int .i64 400)] []).bind fun x3 =>
 (rInt .i64 x3.1 fun x4 x5 =>
 (nilV x5 (nilO x3.2
 (some ([.one (.bool (decide (x4 ≤ 400)))], []))))))
 (some ([.one (.bool false)], []))))))) := by kernel_rfl
noncomputable def L_impl_NamesValid_0 (n c : Nat) (v0 : ByteArray) (v1 v2 : Int) : OR := runLoop Tryz.prog SS n 27 0 [1, 0, 1, 0] [] c ⟨[.v (.one (.str v0)), anyV, anyV, anyV, anyV, .v (.one (.int .i64 v1)), .v (.one (.int .i64 v2)), anyV, anyV, anyV, anyV, anyV, anyV, anyV, anyV, anyV, anyV, anyV, anyV, anyV, anyV, anyV, anyV, anyV, anyV, anyV, anyV, anyV],
 []⟩
theorem L_impl_NamesValid_0_eq (n c : Nat) (v0 : ByteArray) (v1 v2 : Int) : L_impl_NamesValid_0 n (c + 1) v0 v1 v2 =
 (cond (decide (v2 < v1))
 (cond (decide (0 ≤ v2) && decide (v2 < ((v0.size : Nat) : Int)))
 ((FF n 60 [.one (.int .u8 ((byteAt v0 (v2 : Int).toNat).toNat : Int))] []).bind fun x0 =>
 (rBool x0.1 fun x1 x2 =>
 (nilV x2 (nilO x0.2
 (cond (!x1)
 (some ([.one (.bool false)], []))
 (cond (Go.Ab.inB 0 v2 v0.size)
 (cond (decide (0 ≤ v2) && decide (v2 < ((v0.size : Nat) : Int)))
 ((FF n 61 [.one (.str (v0.extract (0 : Int).toNat (v2 : Int).toNat)), .one (.int .u8 ((byteAt v0 (v2 : Int).toNat).toNat : Int))] []).bind fun x3 =>
 (rInt .i64 x3.1 fun x4 x5 =>
 (nilV x5 (nilO x3.2
 (cond (decide (0 ≤ x4))
 (some ([.one (.bool false)], []))
 (L_impl_NamesValid_0 n c v0 v1 (IntKind.i64.wrap (v2 + 1))))))))
 none)
 none))))))
 none)
 (some ([.one (.bool (decide ((v0.size : Int) ≤ 20)))], []))) := by kernel_rfl
theorem E_impl_NamesValid (n : Nat) (v0 : ByteArray) : FF (n + 1) 27 [.one (.str v0)] [] =
 L_impl_NamesValid_0 n n v0 ((v0.size : Int) : Int) 0 := by kernel_rfl
noncomputable def L_impl_readNamed_0_oo (n c : Nat) (v0 v1 : ByteArray) (v2 : Int) (v3 : List ByteArray) (v4 : ByteArray) (v5 : Bool) (v6 : ByteArray) (v7 : Bool) (v8 v9 v10 : Int) (v11 : List T) (v12 v13 : Int) (v14 : List T) : OR := runLoop Tryz.prog SS n 28 0 [1, 1, 1, 1, 1, 1, 1, 1, 1, 1, 1, 0, 1, 0] [] c ⟨[.v (.one (.str v0)), .v (.one (.str v1)), .v (.one (.int .i64 v2)), anyV, anyV, anyV, .v (.one (.ptr 0 0)), anyV, anyV, anyV, anyV, anyV, anyV, .v (.one (.fr (.ss v3))), .v (.one (.str v4)), .v (.one (.bool v5)), .v (.one (.str v6)), .v (.one (.bool v7)), .v (.one (.ptr 2 0)), .v (.one (.int .i64 v8)), anyV, anyV, anyV, anyV, anyV, anyV, anyV, anyV, anyV, anyV, anyV, anyV, anyV, anyV, anyV, anyV, anyV, anyV, anyV, anyV, anyV, anyV, anyV, anyV, anyV, anyV, anyV, anyV, anyV, anyV, anyV, anyV, anyV, anyV, anyV, anyV, anyV, anyV, anyV, anyV, anyV, anyV, anyV, anyV, anyV, anyV, anyV, anyV, anyV, anyV, anyV, anyV, anyV, anyV, anyV, anyV, anyV, anyV, anyV, anyV, anyV, anyV, anyV, anyV, anyV, anyV, anyV, anyV, anyV, anyV, anyV, anyV, anyV, anyV, anyV, anyV, anyV, anyV, anyV, anyV, anyV, anyV, anyV, anyV, anyV, anyV, anyV, anyV, anyV, anyV, anyV, anyV, anyV, anyV, anyV, anyV, anyV, anyV, anyV, anyV, anyV, anyV, anyV, anyV, anyV, anyV, anyV, anyV, anyV, anyV, anyV, anyV, anyV, anyV, anyV, anyV, anyV, anyV, anyV, anyV, anyV, anyV, anyV, anyV, anyV, anyV, anyV, anyV, anyV, anyV, anyV, anyV, anyV, anyV, anyV, anyV, anyV, anyV, anyV, anyV, anyV, anyV, anyV, anyV, anyV, anyV, anyV, anyV, anyV, anyV, anyV, anyV, anyV, anyV, anyV, anyV, anyV, anyV, anyV, anyV, anyV, anyV, anyV, anyV, anyV, anyV, anyV, anyV, anyV, anyV, anyV, anyV, anyV, anyV, anyV, anyV, anyV, anyV, anyV, anyV, anyV, anyV, anyV, anyV, anyV, anyV, anyV],
 [.cells [.int .i64 v9, .int .i64 v10, .own 1 0], .arr 24 (.ts v11) 0 false, .cells [.int .i64 v12, .int .i64 v13, .own 3 0], .arr 24 (.ts v14) 0 false]⟩
theorem L_impl_readNamed_0_oo_eq (n c : Nat) (v0 v1 : ByteArray) (v2 : Int) (v3 : List ByteArray) (v4 : ByteArray) (v5 : Bool) (v6 : ByteArray) (v7 : Bool) (v8 v9 v10 : Int) (v11 : List T) (v12 v13 : Int) (v14 : List T) : L_impl_readNamed_0_oo n (c + 1) v0 v1 v2 v3 v4 v5 v6 v7 v8 v9 v10 v11 v12 v13 v14 =
 (cond (decide (v8 < (v3.length : Int)))
 (cond v5
 (cond (decide (v8 = 2))
 ((FF n 72 [.one (.int .i64 v12)] []).bind fun x0 =>
 (rBool x0.1 fun x1 x2 =>
 (nilV x2 (nilO x0.2
 (cond x1
 ((FF n 28 [.one (.str v4), .one (.str v6), .one (.int .i64 (IntKind.i64.wrap (v2 + 1)))] []).bind fun x3 =>
 (rTerm x3.1 fun x4 x5 =>
 (rStr x5 fun x6 x7 =>
 (rBool x7 fun x8 x9 =>
 (nilV x9 (nilO x3.2
 (cond (!x8)
 (some ([.agg [.int .i64 0, .int .i64 0, .fr (.ts [])], .one (.str (bytesOf [])), .one (.bool false)], []))
 (cond (roomB (v14 ++ [(T.mk x4.k x4.n x4.kids)]).length)
 (cond (decide (0 ≤ 0) && decide (0 < ((v0.size : Nat) : Int)))
 (cond (decide (((byteAt v0 (0 : Int).toNat).toNat : Int) = 40))
 (cond (decide (v8 = 1))
 (cond (!(x6.toList == (bytesOf []).toList))
 (cond (decide (0 ≤ 0) && decide (0 < ((x6.size : Nat) : Int)))
 (cond (decide (((byteAt x6 (0 : Int).toNat).toNat : Int) = 32))
 ((FF n 70 [] []).bind fun x10 =>
 (rSs x10.1 fun x11 x12 =>
 (nilV x12 (nilO x10.2
 (x11[(4 : Int).toNat]?.bind fun x13 =>
 ((FF n 69 [.one (.str x13), .one (.str (bytesOf [46]))] []).bind fun x14 =>
 (rSs x14.1 fun x15 x16 =>
 (nilV x16 (nilO x14.2
 (cond (decide (0 ≤ v8))
 (x15[(v8 : Int).toNat]?.bind fun x17 =>
 ((FF n 71 [.one (.str x6), .one (.str x17)] []).bind fun x18 =>
 (rStr x18.1 fun x19 x20 =>
 (rBool x20 fun x21 x22 =>
 (nilV x22 (nilO x18.2
 (L_impl_readNamed_0_oo n c v0 v1 v2 x15 x19 x21 v6 v7 (IntKind.i64.wrap (v8 + 1)) v9 v10 v11 5 v13 (v14 ++ [(T.mk x4.k x4.n x4.kids)]))))))))
 none))))))))))
 (cond (decide (((byteAt x6 (0 : Int).toNat).toNat : Int) = 42))
 ((FF n 70 [] []).bind fun x10 =>
 (rSs x10.1 fun x11 x12 =>
 (nilV x12 (nilO x10.2
 (x11[(12 : Int).toNat]?.bind fun x13 =>
 ((FF n 69 [.one (.str x13), .one (.str (bytesOf [46]))] []).bind fun x14 =>
 (rSs x14.1 fun x15 x16 =>
 (nilV x16 (nilO x14.2
 (cond (decide (0 ≤ v8))
 (x15[(v8 : Int).toNat]?.bind fun x17 =>
 ((FF n 71 [.one (.str x6), .one (.str x17)] []).bind fun x18 =>
 (rStr x18.1 fun x19 x20 =>
 (rBool x20 fun x21 x22 =>
 (nilV x22 (nilO x18.2
 (L_impl_readNamed_0_oo n c v0 v1 v2 x15 x19 x21 v6 v7 (IntKind.i64.wrap (v8 + 1)) v9 v10 v11 13 v13 (v14 ++ [(T.mk x4.k x4.n x4.kids)]))))))))
 none))))))))))
 ((FF n 70 [] []).bind fun x10 =>
 (rSs x10.1 fun x11 x12 =>
 (nilV x12 (nilO x10.2
 (x11[(2 : Int).toNat]?.bind fun x13 =>
 ((FF n 69 [.one (.str x13), .one (.str (bytesOf [46]))] []).bind fun x14 =>
 (rSs x14.1 fun x15 x16 =>
 (nilV x16 (nilO x14.2
 (cond (decide (0 ≤ v8))
 (x15[(v8 : Int).toNat]?.bind fun x17 =>
 ((FF n 71 [.one (.str x6), .one (.str x17)] []).bind fun x18 =>
 (rStr x18.1 fun x19 x20 =>
 (rBool x20 fun x21 x22 =>
 (nilV x22 (nilO x18.2
 (L_impl_readNamed_0_oo n c v0 v1 v2 x15 x19 x21 v6 v7 (IntKind.i64.wrap (v8 + 1)) v9 v10 v11 3 v13 (v14 ++ [(T.mk x4.k x4.n x4.kids)]))))))))
 none))))))))))))
 none)
 (cond (decide (0 ≤ v8))
 (v3[(v8 : Int).toNat]?.bind fun x10 =>
 ((FF n 71 [.one (.str x6), .one (.str x10)] []).bind fun x11 =>
 (rStr x11.1 fun x12 x13 =>
 (rBool x13 fun x14 x15 =>
 (nilV x15 (nilO x11.2
 (L_impl_readNamed_0_oo n c v0 v1 v2 v3 x12 x14 v6 v7 (IntKind.i64.wrap (v8 + 1)) v9 v10 v11 v12 v13 (v14 ++ [(T.mk x4.k x4.n x4.kids)]))))))))
 none))
 (cond (decide (0 ≤ v8))
 (v3[(v8 : Int).toNat]?.bind fun x10 =>
 ((FF n 71 [.one (.str x6), .one (.str x10)] []).bind fun x11 =>
 (rStr x11.1 fun x12 x13 =>
 (rBool x13 fun x14 x15 =>
 (nilV x15 (nilO x11.2
 (L_impl_readNamed_0_oo n c v0 v1 v2 v3 x12 x14 v6 v7 (IntKind.i64.wrap (v8 + 1)) v9 v10 v11 v12 v13 (v14 ++ [(T.mk x4.k x4.n x4.kids)]))))))))
 none))
 (cond (decide (0 ≤ v8))
 (v3[(v8 : Int).toNat]?.bind fun x10 =>
 ((FF n 71 [.one (.str x6), .one (.str x10)] []).bind fun x11 =>
 (rStr x11.1 fun x12 x13 =>
 (rBool x13 fun x14 x15 =>
 (nilV x15 (nilO x11.2
 (L_impl_readNamed_0_oo n c v0 v1 v2 v3 x12 x14 v6 v7 (IntKind.i64.wrap (v8 + 1)) v9 v10 v11 v12 v13 (v14 ++ [(T.mk x4.k x4.n x4.kids)]))))))))
 none))
 none)
 none))))))))
 ((FF n 28 [.one (.str v4), .one (.str v1), .one (.int .i64 (IntKind.i64.wrap (v2 + 1)))] []).bind fun x3 =>
 (rTerm x3.1 fun x4 x5 =>
 (rStr x5 fun x6 x7 =>
 (rBool x7 fun x8 x9 =>
 (nilV x9 (nilO x3.2
 (cond (!x8)
 (some ([.agg [.int .i64 0, .int .i64 0, .fr (.ts [])], .one (.str (bytesOf [])), .one (.bool false)], []))
 (cond (roomB (v14 ++ [(T.mk x4.k x4.n x4.kids)]).length)
 (cond (decide (0 ≤ 0) && decide (0 < ((v0.size : Nat) : Int)))
 (cond (decide (((byteAt v0 (0 : Int).toNat).toNat : Int) = 40))
 (cond (decide (v8 = 1))
 (cond (!(x6.toList == (bytesOf []).toList))
 (cond (decide (0 ≤ 0) && decide (0 < ((x6.size : Nat) : Int)))
 (cond (decide (((byteAt x6 (0 : Int).toNat).toNat : Int) = 32))
 ((FF n 70 [] []).bind fun x10 =>
 (rSs x10.1 fun x11 x12 =>
 (nilV x12 (nilO x10.2
 (x11[(4 : Int).toNat]?.bind fun x13 =>
 ((FF n 69 [.one (.str x13), .one (.str (bytesOf [46]))] []).bind fun x14 =>
 (rSs x14.1 fun x15 x16 =>
 (nilV x16 (nilO x14.2
 (cond (decide (0 ≤ v8))
 (x15[(v8 : Int).toNat]?.bind fun x17 =>
 ((FF n 71 [.one (.str x6), .one (.str x17)] []).bind fun x18 =>
 (rStr x18.1 fun x19 x20 =>
 (rBool x20 fun x21 x22 =>
 (nilV x22 (nilO x18.2
 (L_impl_readNamed_0_oo n c v0 v1 v2 x15 x19 x21 v6 v7 (IntKind.i64.wrap (v8 + 1)) v9 v10 v11 5 v13 (v14 ++ [(T.mk x4.k x4.n x4.kids)]))))))))
 none))))))))))
 (cond (decide (((byteAt x6 (0 : Int).toNat).toNat : Int) = 42))
 ((FF n 70 [] []).bind fun x10 =>
 (rSs x10.1 fun x11 x12 =>
 (nilV x12 (nilO x10.2
 (x11[(12 : Int).toNat]?.bind fun x13 =>
 ((FF n 69 [.one (.str x13), .one (.str (bytesOf [46]))] []).bind fun x14 =>
 (rSs x14.1 fun x15 x16 =>
 (nilV x16 (nilO x14.2
 (cond (decide (0 ≤ v8))
 (x15[(v8 : Int).toNat]?.bind fun x17 =>
 ((FF n 71 [.one (.str x6), .one (.str x17)] []).bind fun x18 =>
 (rStr x18.1 fun x19 x20 =>
 (rBool x20 fun x21 x22 =>
 (nilV x22 (nilO x18.2
 (L_impl_readNamed_0_oo n c v0 v1 v2 x15 x19 x21 v6 v7 (IntKind.i64.wrap (v8 + 1)) v9 v10 v11 13 v13 (v14 ++ [(T.mk x4.k x4.n x4.kids)]))))))))
 none))))))))))
 ((FF n 70 [] []).bind fun x10 =>
 (rSs x10.1 fun x11 x12 =>
 (nilV x12 (nilO x10.2
 (x11[(2 : Int).toNat]?.bind fun x13 =>
 ((FF n 69 [.one (.str x13), .one (.str (bytesOf [46]))] []).bind fun x14 =>
 (rSs x14.1 fun x15 x16 =>
 (nilV x16 (nilO x14.2
 (cond (decide (0 ≤ v8))
 (x15[(v8 : Int).toNat]?.bind fun x17 =>
 ((FF n 71 [.one (.str x6), .one (.str x17)] []).bind fun x18 =>
 (rStr x18.1 fun x19 x20 =>
 (rBool x20 fun x21 x22 =>
 (nilV x22 (nilO x18.2
 (L_impl_readNamed_0_oo n c v0 v1 v2 x15 x19 x21 v6 v7 (IntKind.i64.wrap (v8 + 1)) v9 v10 v11 3 v13 (v14 ++ [(T.mk x4.k x4.n x4.kids)]))))))))
 none))))))))))))
 none)
 (cond (decide (0 ≤ v8))
 (v3[(v8 : Int).toNat]?.bind fun x10 =>
 ((FF n 71 [.one (.str x6), .one (.str x10)] []).bind fun x11 =>
 (rStr x11.1 fun x12 x13 =>
 (rBool x13 fun x14 x15 =>
 (nilV x15 (nilO x11.2
 (L_impl_readNamed_0_oo n c v0 v1 v2 v3 x12 x14 v6 v7 (IntKind.i64.wrap (v8 + 1)) v9 v10 v11 v12 v13 (v14 ++ [(T.mk x4.k x4.n x4.kids)]))))))))
 none))
 (cond (decide (0 ≤ v8))
 (v3[(v8 : Int).toNat]?.bind fun x10 =>
 ((FF n 71 [.one (.str x6), .one (.str x10)] []).bind fun x11 =>
 (rStr x11.1 fun x12 x13 =>
 (rBool x13 fun x14 x15 =>
 (nilV x15 (nilO x11.2
 (L_impl_readNamed_0_oo n c v0 v1 v2 v3 x12 x14 v6 v7 (IntKind.i64.wrap (v8 + 1)) v9 v10 v11 v12 v13 (v14 ++ [(T.mk x4.k x4.n x4.kids)]))))))))
 none))
 (cond (decide (0 ≤ v8))
 (v3[(v8 : Int).toNat]?.bind fun x10 =>
 ((FF n 71 [.one (.str x6), .one (.str x10)] []).bind fun x11 =>
 (rStr x11.1 fun x12 x13 =>
 (rBool x13 fun x14 x15 =>
 (nilV x15 (nilO x11.2
 (L_impl_readNamed_0_oo n c v0 v1 v2 v3 x12 x14 v6 v7 (IntKind.i64.wrap (v8 + 1)) v9 v10 v11 v12 v13 (v14 ++ [(T.mk x4.k x4.n x4.kids)]))))))))
 none))
 none)
 none)))))))))))))
 ((FF n 28 [.one (.str v4), .one (.str v1), .one (.int .i64 (IntKind.i64.wrap (v2 + 1)))] []).bind fun x0 =>
 (rTerm x0.1 fun x1 x2 =>
 (rStr x2 fun x3 x4 =>
 (rBool x4 fun x5 x6 =>
 (nilV x6 (nilO x0.2
 (cond (!x5)
 (some ([.agg [.int .i64 0, .int .i64 0, .fr (.ts [])], .one (.str (bytesOf [])), .one (.bool false)], []))
 (cond (roomB (v14 ++ [(T.mk x1.k x1.n x1.kids)]).length)
 (cond (decide (0 ≤ 0) && decide (0 < ((v0.size : Nat) : Int)))
 (cond (decide (((byteAt v0 (0 : Int).toNat).toNat : Int) = 40))
 (cond (decide (v8 = 1))
 (cond (!(x3.toList == (bytesOf []).toList))
 (cond (decide (0 ≤ 0) && decide (0 < ((x3.size : Nat) : Int)))
 (cond (decide (((byteAt x3 (0 : Int).toNat).toNat : Int) = 32))
 ((FF n 70 [] []).bind fun x7 =>
 (rSs x7.1 fun x8 x9 =>
 (nilV x9 (nilO x7.2
 (x8[(4 : Int).toNat]?.bind fun x10 =>
 ((FF n 69 [.one (.str x10), .one (.str (bytesOf [46]))] []).bind fun x11 =>
 (rSs x11.1 fun x12 x13 =>
 (nilV x13 (nilO x11.2
 (cond (decide (0 ≤ v8))
 (x12[(v8 : Int).toNat]?.bind fun x14 =>
 ((FF n 71 [.one (.str x3), .one (.str x14)] []).bind fun x15 =>
 (rStr x15.1 fun x16 x17 =>
 (rBool x17 fun x18 x19 =>
 (nilV x19 (nilO x15.2
 (L_impl_readNamed_0_oo n c v0 v1 v2 x12 x16 x18 v6 v7 (IntKind.i64.wrap (v8 + 1)) v9 v10 v11 5 v13 (v14 ++ [(T.mk x1.k x1.n x1.kids)]))))))))
 none))))))))))
 (cond (decide (((byteAt x3 (0 : Int).toNat).toNat : Int) = 42))
 ((FF n 70 [] []).bind fun x7 =>
 (rSs x7.1 fun x8 x9 =>
 (nilV x9 (nilO x7.2
 (x8[(12 : Int).toNat]?.bind fun x10 =>
 ((FF n 69 [.one (.str x10), .one (.str (bytesOf [46]))] []).bind fun x11 =>
 (rSs x11.1 fun x12 x13 =>
 (nilV x13 (nilO x11.2
 (cond (decide (0 ≤ v8))
 (x12[(v8 : Int).toNat]?.bind fun x14 =>
 ((FF n 71 [.one (.str x3), .one (.str x14)] []).bind fun x15 =>
 (rStr x15.1 fun x16 x17 =>
 (rBool x17 fun x18 x19 =>
 (nilV x19 (nilO x15.2
 (L_impl_readNamed_0_oo n c v0 v1 v2 x12 x16 x18 v6 v7 (IntKind.i64.wrap (v8 + 1)) v9 v10 v11 13 v13 (v14 ++ [(T.mk x1.k x1.n x1.kids)]))))))))
 none))))))))))
 ((FF n 70 [] []).bind fun x7 =>
 (rSs x7.1 fun x8 x9 =>
 (nilV x9 (nilO x7.2
 (x8[(2 : Int).toNat]?.bind fun x10 =>
 ((FF n 69 [.one (.str x10), .one (.str (bytesOf [46]))] []).bind fun x11 =>
 (rSs x11.1 fun x12 x13 =>
 (nilV x13 (nilO x11.2
 (cond (decide (0 ≤ v8))
 (x12[(v8 : Int).toNat]?.bind fun x14 =>
 ((FF n 71 [.one (.str x3), .one (.str x14)] []).bind fun x15 =>
 (rStr x15.1 fun x16 x17 =>
 (rBool x17 fun x18 x19 =>
 (nilV x19 (nilO x15.2
 (L_impl_readNamed_0_oo n c v0 v1 v2 x12 x16 x18 v6 v7 (IntKind.i64.wrap (v8 + 1)) v9 v10 v11 3 v13 (v14 ++ [(T.mk x1.k x1.n x1.kids)]))))))))
 none))))))))))))
 none)
 (cond (decide (0 ≤ v8))
 (v3[(v8 : Int).toNat]?.bind fun x7 =>
 ((FF n 71 [.one (.str x3), .one (.str x7)] []).bind fun x8 =>
 (rStr x8.1 fun x9 x10 =>
 (rBool x10 fun x11 x12 =>
 (nilV x12 (nilO x8.2
 (L_impl_readNamed_0_oo n c v0 v1 v2 v3 x9 x11 v6 v7 (IntKind.i64.wrap (v8 + 1)) v9 v10 v11 v12 v13 (v14 ++ [(T.mk x1.k x1.n x1.kids)]))))))))
 none))
 (cond (decide (0 ≤ v8))
 (v3[(v8 : Int).toNat]?.bind fun x7 =>
 ((FF n 71 [.one (.str x3), .one (.str x7)] []).bind fun x8 =>
 (rStr x8.1 fun x9 x10 =>
 (rBool x10 fun x11 x12 =>
 (nilV x12 (nilO x8.2
 (L_impl_readNamed_0_oo n c v0 v1 v2 v3 x9 x11 v6 v7 (IntKind.i64.wrap (v8 + 1)) v9 v10 v11 v12 v13 (v14 ++ [(T.mk x1.k x1.n x1.kids)]))))))))
 none))
 (cond (decide (0 ≤ v8))
 (v3[(v8 : Int).toNat]?.bind fun x7 =>
 ((FF n 71 [.one (.str x3), .one (.str x7)] []).bind fun x8 =>
 (rStr x8.1 fun x9 x10 =>
 (rBool x10 fun x11 x12 =>
 (nilV x12 (nilO x8.2
 (L_impl_readNamed_0_oo n c v0 v1 v2 v3 x9 x11 v6 v7 (IntKind.i64.wrap (v8 + 1)) v9 v10 v11 v12 v13 (v14 ++ [(T.mk x1.k x1.n x1.kids)]))))))))
 none))
 none)
 none)))))))))
 (cond v5
 ((FF n 72 [.one (.int .i64 v12)] []).bind fun x0 =>
 (rBool x0.1 fun x1 x2 =>
 (nilV x2 (nilO x0.2
 (some ([.agg [.int .i64 v12, .int .i64 v13, .fr (.ts v14)], .one (.str v4), .one (.bool (decide (x1 = v7)))], []))))))
 (some ([.agg [.int .i64 v12, .int .i64 v13, .fr (.ts v14)], .one (.str v4), .one (.bool false)], []))))
 (cond v5
 ((FF n 72 [.one (.int .i64 v12)] []).bind fun x0 =>
 (rBool x0.1 fun x1 x2 =>
 (nilV x2 (nilO x0.2
 (some ([.agg [.int .i64 v12, .int .i64 v13, .fr (.ts v14)], .one (.str v4), .one (.bool (decide (x1 = v7)))], []))))))
 (some ([.agg [.int .i64 v12, .int .i64 v13, .fr (.ts v14)], .one (.str v4), .one (.bool false)], [])))) := by kernel_rfl
theorem E_impl_readNamed (n : Nat) (v0 v1 : ByteArray) (v2 : Int) : FF (n + 1) 28 [.one (.str v0), .one (.str v1), .one (.int .i64 v2)] [] =
 (cond (v0.toList == (bytesOf []).toList)
 (some ([.agg [.int .i64 0, .int .i64 0, .fr (.ts [])], .one (.str (bytesOf [])), .one (.bool false)], []))
 (cond (decide (30 < v2))
 (some ([.agg [.int .i64 0, .int .i64 0, .fr (.ts [])], .one (.str (bytesOf [])), .one (.bool false)], []))
 (cond (decide (0 ≤ 0) && decide (0 < ((v0.size : Nat) : Int)))
 ((FF n 60 [.one (.int .u8 ((byteAt v0 (0 : Int).toNat).toNat : Int))] []).bind fun x0 =>
 (rBool x0.1 fun x1 x2 =>
 (nilV x2 (nilO x0.2
 (cond x1
 (cond (decide (0 ≤ 0) && decide (0 < ((v0.size : Nat) : Int)))
 ((FF n 62 [.one (.str v1), .one (.int .u8 ((byteAt v0 (0 : Int).toNat).toNat : Int))] []).bind fun x3 =>
 (rInt .i64 x3.1 fun x4 x5 =>
 (nilV x5 (nilO x3.2
 ((FF n 63 [.one (.int .i64 (IntKind.i64.wrap ((IntKind.i64.wrap ((v1.size : Int) - 1)) - x4)))] []).bind fun x6 =>
 (rTerm x6.1 fun x7 x8 =>
 (nilV x8 (nilO x6.2
 (cond (Go.Ab.inB 1 v0.size v0.size)
 (some ([.agg [.int .i64 x7.k, .int .i64 x7.n, .fr (.ts x7.kids)], .one (.str (v0.extract (1 : Int).toNat (v0.size : Int).toNat)), .one (.bool (decide (0 ≤ x4)))], []))
 none)))))))))
 none)
 ((FF n 64 [.one (.str v0)] []).bind fun x3 =>
 (rInt .i64 x3.1 fun x4 x5 =>
 (nilV x5 (nilO x3.2
 (cond (decide (x4 < 0))
 (some ([.agg [.int .i64 0, .int .i64 0, .fr (.ts [])], .one (.str (bytesOf [])), .one (.bool false)], []))
 (cond (decide (x4 = 1))
 (some ([.agg [.int .i64 0, .int .i64 0, .fr (.ts [])], .one (.str (bytesOf [])), .one (.bool false)], []))
 (cond (decide (x4 = 2))
 (cond (Go.Ab.inB 1 v0.size v0.size)
 ((FF n 65 [.one (.str (v0.extract (1 : Int).toNat (v0.size : Int).toNat))] []).bind fun x6 =>
 (rInt .i64 x6.1 fun x7 x8 =>
 (rStr x8 fun x9 x10 =>
 (nilV x10 (nilO x6.2
 ((FF n 66 [.one (.int .i64 x7)] []).bind fun x11 =>
 (rTerm x11.1 fun x12 x13 =>
 (nilV x13 (nilO x11.2
 (cond (decide (0 ≤ x7))
 (cond (Go.Ab.inB 1 v0.size v0.size)
 ((FF n 68 [.one (.int .i64 x7)] []).bind fun x14 =>
 (rStr x14.1 fun x15 x16 =>
 (nilV x16 (nilO x14.2
 ((FF n 67 [.one (.str (v0.extract (1 : Int).toNat (v0.size : Int).toNat)), .one (.str x15)] []).bind fun x17 =>
 (rStr x17.1 fun x18 x19 =>
 (nilV x19 (nilO x17.2
 (some ([.agg [.int .i64 x12.k, .int .i64 x12.n, .fr (.ts x12.kids)], .one (.str x9), .one (.bool (x9.toList == x18.toList))], []))))))))))
 none)
 (some ([.agg [.int .i64 x12.k, .int .i64 x12.n, .fr (.ts x12.kids)], .one (.str x9), .one (.bool false)], []))))))))))))
 none)
 ((FF n 70 [] []).bind fun x6 =>
 (rSs x6.1 fun x7 x8 =>
 (nilV x8 (nilO x6.2
 (cond (decide (0 ≤ (IntKind.i64.wrap (x4 - 1))))
 (x7[((IntKind.i64.wrap (x4 - 1)) : Int).toNat]?.bind fun x9 =>
 ((FF n 69 [.one (.str x9), .one (.str (bytesOf [46]))] []).bind fun x10 =>
 (rSs x10.1 fun x11 x12 =>
 (nilV x12 (nilO x10.2
 (x11[(0 : Int).toNat]?.bind fun x13 =>
 ((FF n 71 [.one (.str v0), .one (.str x13)] []).bind fun x14 =>
 (rStr x14.1 fun x15 x16 =>
 (rBool x16 fun x17 x18 =>
 (nilV x18 (nilO x14.2
 (cond (decide (0 ≤ 0) && decide (0 < ((v0.size : Nat) : Int)))
 (cond (decide (((byteAt v0 (0 : Int).toNat).toNat : Int) = 40))
 (cond (decide (1 < (x15.size : Int)))
 (cond (decide (0 ≤ 0) && decide (0 < ((x15.size : Nat) : Int)))
 ((FF n 60 [.one (.int .u8 ((byteAt x15 (0 : Int).toNat).toNat : Int))] []).bind fun x19 =>
 (rBool x19.1 fun x20 x21 =>
 (nilV x21 (nilO x19.2
 (cond x20
 (cond (decide (0 ≤ 1) && decide (1 < ((x15.size : Nat) : Int)))
 (cond (decide (((byteAt x15 (1 : Int).toNat).toNat : Int) = 58))
 (cond (Go.Ab.inB 0 1 x15.size)
 (cond (decide (v1.size + (x15.extract (0 : Int).toNat (1 : Int).toNat).size ≤ 9223372036854775807))
 (cond (Go.Ab.inB 2 x15.size x15.size)
 (L_impl_readNamed_0_oo n n v0 v1 v2 x11 ((x15.extract (2 : Int).toNat (x15.size : Int).toNat) : ByteArray) x17 ((v1 ++ (x15.extract (0 : Int).toNat (1 : Int).toNat)) : ByteArray) (true) 1 0 0 ([]) x4 0 ([]))
 none)
 none)
 none)
 (L_impl_readNamed_0_oo n n v0 v1 v2 x11 x15 x17 v1 (false) 1 0 0 ([]) x4 0 ([])))
 none)
 (L_impl_readNamed_0_oo n n v0 v1 v2 x11 x15 x17 v1 (false) 1 0 0 ([]) x4 0 ([])))))))
 none)
 (L_impl_readNamed_0_oo n n v0 v1 v2 x11 x15 x17 v1 (false) 1 0 0 ([]) x4 0 ([])))
 (cond (decide (0 ≤ 0) && decide (0 < ((v0.size : Nat) : Int)))
 (cond (decide (((byteAt v0 (0 : Int).toNat).toNat : Int) = 91))
 (cond (decide (1 < (x15.size : Int)))
 (cond (decide (0 ≤ 0) && decide (0 < ((x15.size : Nat) : Int)))
 ((FF n 60 [.one (.int .u8 ((byteAt x15 (0 : Int).toNat).toNat : Int))] []).bind fun x19 =>
 (rBool x19.1 fun x20 x21 =>
 (nilV x21 (nilO x19.2
 (cond x20
 (cond (decide (0 ≤ 1) && decide (1 < ((x15.size : Nat) : Int)))
 (cond (decide (((byteAt x15 (1 : Int).toNat).toNat : Int) = 58))
 (cond (Go.Ab.inB 0 1 x15.size)
 (cond (decide (v1.size + (x15.extract (0 : Int).toNat (1 : Int).toNat).size ≤ 9223372036854775807))
 (cond (Go.Ab.inB 2 x15.size x15.size)
 (L_impl_readNamed_0_oo n n v0 v1 v2 x11 ((x15.extract (2 : Int).toNat (x15.size : Int).toNat) : ByteArray) x17 ((v1 ++ (x15.extract (0 : Int).toNat (1 : Int).toNat)) : ByteArray) (true) 1 0 0 ([]) x4 0 ([]))
 none)
 none)
 none)
 (L_impl_readNamed_0_oo n n v0 v1 v2 x11 x15 x17 v1 (false) 1 0 0 ([]) x4 0 ([])))
 none)
 (L_impl_readNamed_0_oo n n v0 v1 v2 x11 x15 x17 v1 (false) 1 0 0 ([]) x4 0 ([])))))))
 none)
 (L_impl_readNamed_0_oo n n v0 v1 v2 x11 x15 x17 v1 (false) 1 0 0 ([]) x4 0 ([])))
 (L_impl_readNamed_0_oo n n v0 v1 v2 x11 x15 x17 v1 (false) 1 0 0 ([]) x4 0 ([])))
 none))
 none))))))))))))
 none)))))))))))))))))
 none))) := by kernel_rfl
theorem E_impl_valid (n : Nat) (v0 v1 : Int) (v2 : List T) : FF (n + 1) 29 [.agg [.int .i64 v0, .int .i64 v1, .fr (.ts v2)]] [] =
 ((FF n 17 [.agg [.int .i64 v0, .int .i64 v1, .fr (.ts v2)]] []).bind fun x0 =>
 (rBool x0.1 fun x1 x2 =>
 (nilV x2 (nilO x0.2
 (cond (!x1)
 (some ([.agg [.int .i64 0, .int .i64 0, .fr (.ts [])], .one (.bool false)], []))
 (some ([.agg [.int .i64 v0, .int .i64 v1, .fr (.ts v2)], .one (.bool true)], []))))))) := by kernel_rfl
theorem E_spec_l19Open (n : Nat) (v0 : List UInt8) : FF (n + 1) 33 [.one (.fr (.bs v0))] [] =
 (cond (decide (2000 < (v0.length : Int)))
 (cond (Go.Ab.inB 0 2000 v0.length)
 (some ([.one (.ptr 0 0)], [.cells [.fr (.bs ((v0.take (2000 : Int).toNat).drop (0 : Int).toNat)), .int .i64 0]]))
 none)
 (some ([.one (.ptr 0 0)], [.cells [.fr (.bs v0), .int .i64 0]]))) := by kernel_rfl
end Go.Proofs.YtnogehmgpfpjmaaGreatDoor
end
section
namespace Go.Proofs.YtnogehmgpfpjmaaGreatDoor
open Go Go.Ab Go.Dk
theorem E_spec_l3Draw (n : Nat) (v0 : List UInt8) (v1 : Int) : FF (n + 1) 34 [.one (.ptr 0 0)] [.cells [.fr (.bs v0), .int .i64 v1]] =
 ((FF n 73 [] []).bind fun x0 =>
 (rStr x0.1 fun x1 x2 =>
 (nilV x2 (nilO x0.2
 (cond (decide ((bytesOf [40]).size + x1.size ≤ 9223372036854775807))
 (cond (decide (((bytesOf [40]) ++ x1).size + (bytesOf [32, 43, 43, 48, 41]).size ≤ 9223372036854775807))
 ((FF n 73 [] []).bind fun x3 =>
 (rStr x3.1 fun x4 x5 =>
 (nilV x5 (nilO x3.2
 (cond (decide ((bytesOf [40, 40]).size + x4.size ≤ 9223372036854775807))
 (cond (decide (((bytesOf [40, 40]) ++ x4).size + (bytesOf [32, 43, 43, 48, 41, 32, 43, 48, 41]).size ≤ 9223372036854775807))
 ((FF n 35 [.one (.ptr 0 0), .one (.fr (.ss [(((bytesOf [40]) ++ x1) ++ (bytesOf [32, 43, 43, 48, 41])), (((bytesOf [40, 40]) ++ x4) ++ (bytesOf [32, 43, 43, 48, 41, 32, 43, 48, 41])), (bytesOf [40, 91, 78, 93, 43, 35, 48, 32, 40, 91, 78, 93, 43, 43, 35, 48, 32, 48, 41, 41]), (bytesOf [94, 124, 40, 78, 42, 78, 41, 44, 40, 91, 78, 93, 35, 48, 32, 48, 41, 44, 43, 48, 124]), (bytesOf [95, 124, 40, 78, 42, 78, 41, 44, 48, 44, 40, 91, 78, 93, 43, 35, 48, 32, 48, 41, 124]), (bytesOf [64, 60, 91, 78, 93, 123, 78, 44, 48, 44, 35, 48, 125, 44, 33, 48, 44, 33, 48, 62]), (bytesOf [40, 91, 42, 48, 93, 91, 35, 48, 93, 35, 48, 32, 78, 41]), (bytesOf [40, 91, 78, 93, 40, 35, 48, 32, 35, 48, 41, 32, 91, 78, 93, 35, 48, 41]), (bytesOf [40, 91, 78, 93, 40, 35, 48, 32, 35, 48, 41, 32, 91, 78, 93, 40, 35, 48, 32, 35, 48, 41, 41]), (bytesOf [60, 91, 78, 93, 42, 48, 44, 78, 44, 91, 78, 93, 91, 42, 48, 93, 40, 78, 62, 35, 49, 41, 44, 43, 43, 43, 48, 62]), (bytesOf [91, 78, 93, 40, 91, 78, 93, 40, 35, 48, 32, 35, 49, 41, 32, 35, 48, 41]), (bytesOf [40, 40, 91, 40, 78, 62, 78, 41, 93, 91, 78, 93, 40, 35, 49, 32, 40, 35, 49, 32, 35, 48, 41, 41, 32, 91, 78, 93, 43, 35, 48, 41, 32, 35, 48, 41]), (bytesOf [60, 91, 78, 93, 78, 44, 48, 44, 91, 78, 93, 91, 78, 93, 35, 49, 44, 40, 91, 78, 93, 43, 35, 48, 32, 35, 50, 41, 62])]))] [.cells [.fr (.bs v0), .int .i64 v1]]).bind fun x6 =>
 (objC x6.2 fun x7 x8 =>
 (bsC x7 fun x9 x10 =>
 (intC .i64 x10 fun x11 x12 =>
 (nilC x12
 (rStr x6.1 fun x13 x14 =>
 (nilV x14 (nilO x8
 ((FF n 74 [.one (.str x13)] []).bind fun x15 =>
 (rTerm x15.1 fun x16 x17 =>
 (rBool x17 fun x18 x19 =>
 (nilV x19 (nilO x15.2
 (cond x18
 ((FF n 42 [.one (.ptr 0 0), .one (.int .i64 3)] [.cells [.fr (.bs x9), .int .i64 x11]]).bind fun x20 =>
 (objC x20.2 fun x21 x22 =>
 (bsC x21 fun x23 x24 =>
 (intC .i64 x24 fun x25 x26 =>
 (nilC x26
 (rInt .i64 x20.1 fun x27 x28 =>
 (nilV x28 (nilO x22
 (cond (decide (0 < x27))
 (some ([.agg [.int .i64 x16.k, .int .i64 x16.n, .fr (.ts x16.kids)]], [.cells [.fr (.bs x23), .int .i64 x25]]))
 ((FF n 75 [.one (.ptr 0 0)] [.cells [.fr (.bs x23), .int .i64 x25]]).bind fun x29 =>
 (objC x29.2 fun x30 x31 =>
 (bsC x30 fun x32 x33 =>
 (intC .i64 x33 fun x34 x35 =>
 (nilC x35
 (rTerm x29.1 fun x36 x37 =>
 (nilV x37 (nilO x31
 (some ([.agg [.int .i64 x36.k, .int .i64 x36.n, .fr (.ts x36.kids)]], [.cells [.fr (.bs x32), .int .i64 x34]])))))))))))))))))))
 ((FF n 75 [.one (.ptr 0 0)] [.cells [.fr (.bs x9), .int .i64 x11]]).bind fun x20 =>
 (objC x20.2 fun x21 x22 =>
 (bsC x21 fun x23 x24 =>
 (intC .i64 x24 fun x25 x26 =>
 (nilC x26
 (rTerm x20.1 fun x27 x28 =>
 (nilV x28 (nilO x22
 (some ([.agg [.int .i64 x27.k, .int .i64 x27.n, .fr (.ts x27.kids)]], [.cells [.fr (.bs x23), .int .i64 x25]]))))))))))))))))))))))))
 none)
 none)))))
 none)
 none))))) := by kernel_rfl
theorem E_spec_l19Rd_of (n : Nat) (v0 : List ByteArray) (v1 : List UInt8) (v2 : Int) : FF (n + 1) 35 [.one (.ptr 0 0), .one (.fr (.ss v0))] [.cells [.fr (.bs v1), .int .i64 v2]] =
 ((FF n 42 [.one (.ptr 0 0), .one (.int .i64 (v0.length : Int))] [.cells [.fr (.bs v1), .int .i64 v2]]).bind fun x0 =>
 (objC x0.2 fun x1 x2 =>
 (bsC x1 fun x3 x4 =>
 (intC .i64 x4 fun x5 x6 =>
 (nilC x6
 (rInt .i64 x0.1 fun x7 x8 =>
 (nilV x8 (nilO x2
 (cond (decide (0 ≤ x7))
 (v0[(x7 : Int).toNat]?.bind fun x9 =>
 some ([.one (.str x9)], [.cells [.fr (.bs x3), .int .i64 x5]]))
 none))))))))) := by kernel_rfl
theorem E_spec_l1Bend (n : Nat) (v0 : ByteArray) (v1 : List ByteArray) (v2 : List UInt8) (v3 : Int) : FF (n + 1) 36 [.one (.ptr 0 0), .one (.str v0), .one (.fr (.ss v1))] [.cells [.fr (.bs v2), .int .i64 v3]] =
 (cond (decide ((v0.size : Int) = 0))
 (some ([.one (.str v0)], [.cells [.fr (.bs v2), .int .i64 v3]]))
 ((FF n 42 [.one (.ptr 0 0), .one (.int .i64 2)] [.cells [.fr (.bs v2), .int .i64 v3]]).bind fun x0 =>
 (objC x0.2 fun x1 x2 =>
 (bsC x1 fun x3 x4 =>
 (intC .i64 x4 fun x5 x6 =>
 (nilC x6
 (rInt .i64 x0.1 fun x7 x8 =>
 (nilV x8 (nilO x2
 (cond (decide (x7 = 0))
 (some ([.one (.str v0)], [.cells [.fr (.bs x3), .int .i64 x5]]))
 ((FF n 42 [.one (.ptr 0 0), .one (.int .i64 (v0.size : Int))] [.cells [.fr (.bs x3), .int .i64 x5]]).bind fun x9 =>
 (objC x9.2 fun x10 x11 =>
 (bsC x10 fun x12 x13 =>
 (intC .i64 x13 fun x14 x15 =>
 (nilC x15
 (rInt .i64 x9.1 fun x16 x17 =>
 (nilV x17 (nilO x11
 (cond (Go.Ab.inB 0 x16 v0.size)
 ((FF n 35 [.one (.ptr 0 0), .one (.fr (.ss v1))] [.cells [.fr (.bs x12), .int .i64 x14]]).bind fun x18 =>
 (objC x18.2 fun x19 x20 =>
 (bsC x19 fun x21 x22 =>
 (intC .i64 x22 fun x23 x24 =>
 (nilC x24
 (rStr x18.1 fun x25 x26 =>
 (nilV x26 (nilO x20
 (cond (decide ((v0.extract (0 : Int).toNat (x16 : Int).toNat).size + x25.size ≤ 9223372036854775807))
 ((FF n 42 [.one (.ptr 0 0), .one (.int .i64 2)] [.cells [.fr (.bs x21), .int .i64 x23]]).bind fun x27 =>
 (objC x27.2 fun x28 x29 =>
 (bsC x28 fun x30 x31 =>
 (intC .i64 x31 fun x32 x33 =>
 (nilC x33
 (rInt .i64 x27.1 fun x34 x35 =>
 (nilV x35 (nilO x29
 (cond (Go.Ab.inB (IntKind.i64.wrap (x16 + x34)) v0.size v0.size)
 (cond (decide (((v0.extract (0 : Int).toNat (x16 : Int).toNat) ++ x25).size + (v0.extract ((IntKind.i64.wrap (x16 + x34)) : Int).toNat (v0.size : Int).toNat).size ≤ 9223372036854775807))
 (some ([.one (.str (((v0.extract (0 : Int).toNat (x16 : Int).toNat) ++ x25) ++ (v0.extract ((IntKind.i64.wrap (x16 + x34)) : Int).toNat (v0.size : Int).toNat)))], [.cells [.fr (.bs x30), .int .i64 x32]]))
 none)
 none)))))))))
 none)))))))))
 none))))))))))))))))))) := by kernel_rfl
noncomputable def L_slices_EqualFunc_impl_TermSame_0 (n c : Nat) (v0 v1 : List T) (v2 v3 : Int) : OR := runLoop Tryz.prog SS n 37 0 [1, 1, 0, 1, 0] [] c ⟨[anyV, .v (.one (.fr (.ts v0))), .v (.one (.fn 15 [])), anyV, anyV, anyV, anyV, anyV, anyV, anyV, anyV, anyV, anyV, anyV, anyV, .v (.one (.fr (.ts v1))), .v (.one (.int .i64 v2)), .v (.one (.int .i64 v3)), anyV, anyV, anyV, anyV, anyV, anyV, anyV, anyV, anyV, anyV, anyV, anyV, anyV, anyV],
 []⟩
theorem L_slices_EqualFunc_impl_TermSame_0_eq (n c : Nat) (v0 v1 : List T) (v2 v3 : Int) : L_slices_EqualFunc_impl_TermSame_0 n (c + 1) v0 v1 v2 v3 =
 (cond (decide (v3 < v2))
 (cond (decide (0 ≤ v3))
 (v1[(v3 : Int).toNat]?.bind fun x0 =>
 (cond (decide (0 ≤ v3))
 (v0[(v3 : Int).toNat]?.bind fun x1 =>
 ((FF n 15 [.agg [.int .i64 x0.k, .int .i64 x0.n, .fr (.ts x0.kids)], .agg [.int .i64 x1.k, .int .i64 x1.n, .fr (.ts x1.kids)]] []).bind fun x2 =>
 (rBool x2.1 fun x3 x4 =>
 (nilV x4 (nilO x2.2
 (cond (!x3)
 (some ([.one (.bool false)], []))
 (L_slices_EqualFunc_impl_TermSame_0 n c v0 v1 v2 (IntKind.i64.wrap (v3 + 1)))))))))
 none))
 none)
 (some ([.one (.bool true)], []))) := by kernel_rfl
theorem E_slices_EqualFunc_impl_TermSame (n : Nat) (v0 v1 : List T) : FF (n + 1) 37 [.one (.fr (.ts v0)), .one (.fr (.ts v1)), .one (.fn 15 [])] [] =
 (cond (!decide ((v0.length : Int) = (v1.length : Int)))
 (some ([.one (.bool false)], []))
 (L_slices_EqualFunc_impl_TermSame_0 n n v1 v0 ((v0.length : Int) : Int) 0)) := by kernel_rfl
theorem E_impl_maxFree (n : Nat) (v0 v1 : Int) (v2 : List T) : FF (n + 1) 38 [.agg [.int .i64 v0, .int .i64 v1, .fr (.ts v2)]] [] =
 ((FF n 76 [.agg [.int .i64 v0, .int .i64 v1, .fr (.ts v2)], .one (.int .i64 0), .one (.fn 77 [0])] [.cells [.int .i64 0]]).bind fun x0 =>
 (objC x0.2 fun x1 x2 =>
 (intC .i64 x1 fun x3 x4 =>
 (nilC x4
 (nilV x0.1 (nilO x2
 (some ([.one (.int .i64 x3)], [])))))))) := by kernel_rfl
noncomputable def L_impl_mostBinders_0 (n c : Nat) (v0 : Int) (v1 : List T) (v2 v3 v4 v5 : Int) (v6 : List T) : OR := runLoop Tryz.prog SS n 39 0 [1, 1, 0, 1, 0] [] c ⟨[anyV, .v (.one (.ptr 0 0)), anyV, .v (.one (.int .i64 v0)), anyV, anyV, anyV, .v (.one (.fr (.ts v1))), .v (.one (.int .i64 v2)), .v (.one (.int .i64 v3)), anyV, anyV, anyV, anyV, anyV, anyV, anyV, anyV, anyV, anyV, anyV, anyV, anyV, anyV, anyV],
 [.cells [.int .i64 v4, .int .i64 v5, .fr (.ts v6)]]⟩
theorem L_impl_mostBinders_0_eq (n c : Nat) (v0 : Int) (v1 : List T) (v2 v3 v4 v5 : Int) (v6 : List T) : L_impl_mostBinders_0 n (c + 1) v0 v1 v2 v3 v4 v5 v6 =
 (cond (decide (v3 < v2))
 (cond (decide (0 ≤ v3))
 (v1[(v3 : Int).toNat]?.bind fun x0 =>
 ((FF n 39 [.agg [.int .i64 x0.k, .int .i64 x0.n, .fr (.ts x0.kids)]] []).bind fun x1 =>
 (rInt .i64 x1.1 fun x2 x3 =>
 (nilV x3 (nilO x1.2
 ((FF n 78 [.one (.int .i64 v4), .one (.int .i64 v3)] []).bind fun x4 =>
 (rInt .i64 x4.1 fun x5 x6 =>
 (nilV x6 (nilO x4.2
 (L_impl_mostBinders_0 n c (max v0 (IntKind.i64.wrap (x2 + x5))) v1 v2 (IntKind.i64.wrap (v3 + 1)) v4 v5 v6))))))))))
 none)
 (some ([.one (.int .i64 v0)], []))) := by kernel_rfl
theorem E_impl_mostBinders (n : Nat) (v0 v1 : Int) (v2 : List T) : FF (n + 1) 39 [.agg [.int .i64 v0, .int .i64 v1, .fr (.ts v2)]] [] =
 L_impl_mostBinders_0 n n 0 v2 ((v2.length : Int) : Int) 0 v0 v1 v2 := by kernel_rfl
noncomputable def L_impl_shown_0 (n c : Nat) (v0 : ByteArray) (v1 : List ByteArray) (v2 v3 : ByteArray) (v4 : List T) (v5 v6 v7 v8 : Int) (v9 : List T) : OR := runLoop Tryz.prog SS n 40 0 [1, 1, 1, 1, 1, 1, 1, 0, 1, 0] [] c ⟨[anyV, .v (.one (.str v0)), .v (.one (.ptr 0 0)), anyV, anyV, anyV, .v (.one (.fr (.ss v1))), .v (.one (.str v2)), .v (.one (.str v3)), anyV, anyV, anyV, anyV, anyV, anyV, anyV, anyV, anyV, anyV, anyV, anyV, anyV, anyV, anyV, anyV, anyV, anyV, anyV, anyV, anyV, anyV, anyV, anyV, anyV, anyV, anyV, anyV, anyV, anyV, anyV, anyV, anyV, anyV, anyV, anyV, anyV, anyV, anyV, anyV, anyV, anyV, anyV, anyV, anyV, anyV, .v (.one (.fr (.ts v4))), .v (.one (.int .i64 v5)), .v (.one (.int .i64 v6)), anyV, anyV, anyV, anyV, anyV, anyV, anyV, anyV, anyV, anyV, anyV, anyV, anyV, anyV, anyV, anyV, anyV, anyV, anyV, anyV, anyV, anyV, anyV, anyV, anyV, anyV, anyV, anyV, anyV, anyV, anyV, anyV, anyV],
 [.cells [.int .i64 v7, .int .i64 v8, .fr (.ts v9)]]⟩
theorem L_impl_shown_0_eq (n c : Nat) (v0 : ByteArray) (v1 : List ByteArray) (v2 v3 : ByteArray) (v4 : List T) (v5 v6 v7 v8 : Int) (v9 : List T) : L_impl_shown_0 n (c + 1) v0 v1 v2 v3 v4 v5 v6 v7 v8 v9 =
 (cond (decide (v6 < v5))
 (cond (decide (0 ≤ v6))
 (v4[(v6 : Int).toNat]?.bind fun x0 =>
 ((FF n 78 [.one (.int .i64 v7), .one (.int .i64 v6)] []).bind fun x1 =>
 (rInt .i64 x1.1 fun x2 x3 =>
 (nilV x3 (nilO x1.2
 (cond (decide (0 < x2))
 ((FF n 40 [.agg [.int .i64 x0.k, .int .i64 x0.n, .fr (.ts x0.kids)], .one (.str v3)] []).bind fun x4 =>
 (rStr x4.1 fun x5 x6 =>
 (nilV x6 (nilO x4.2
 (cond (decide (0 ≤ (IntKind.i64.wrap (v6 + 1))))
 (v1[((IntKind.i64.wrap (v6 + 1)) : Int).toNat]?.bind fun x7 =>
 (cond (decide (x5.size + x7.size ≤ 9223372036854775807))
 (cond (decide (v2.size + (x5 ++ x7).size ≤ 9223372036854775807))
 (L_impl_shown_0 n c v0 v1 (v2 ++ (x5 ++ x7)) v3 v4 v5 (IntKind.i64.wrap (v6 + 1)) v7 v8 v9)
 none)
 none))
 none)))))
 ((FF n 40 [.agg [.int .i64 x0.k, .int .i64 x0.n, .fr (.ts x0.kids)], .one (.str v0)] []).bind fun x4 =>
 (rStr x4.1 fun x5 x6 =>
 (nilV x6 (nilO x4.2
 (cond (decide (0 ≤ (IntKind.i64.wrap (v6 + 1))))
 (v1[((IntKind.i64.wrap (v6 + 1)) : Int).toNat]?.bind fun x7 =>
 (cond (decide (x5.size + x7.size ≤ 9223372036854775807))
 (cond (decide (v2.size + (x5 ++ x7).size ≤ 9223372036854775807))
 (L_impl_shown_0 n c v0 v1 (v2 ++ (x5 ++ x7)) v3 v4 v5 (IntKind.i64.wrap (v6 + 1)) v7 v8 v9)
 none)
 none))
 none)))))))))))
 none)
 (some ([.one (.str v2)], []))) := by kernel_rfl
theorem E_impl_shown (n : Nat) (v0 v1 : Int) (v2 : List T) (v3 : ByteArray) : FF (n + 1) 40 [.agg [.int .i64 v0, .int .i64 v1, .fr (.ts v2)], .one (.str v3)] [] =
 (cond (decide (v0 = 1))
 (cond (Go.Ab.inB (IntKind.i64.wrap ((IntKind.i64.wrap ((v3.size : Int) - 1)) - v1)) (IntKind.i64.wrap ((IntKind.i64.wrap ((IntKind.i64.wrap ((v3.size : Int) - 1)) - v1)) + 1)) v3.size)
 (some ([.one (.str (v3.extract ((IntKind.i64.wrap ((IntKind.i64.wrap ((v3.size : Int) - 1)) - v1)) : Int).toNat ((IntKind.i64.wrap ((IntKind.i64.wrap ((IntKind.i64.wrap ((v3.size : Int) - 1)) - v1)) + 1)) : Int).toNat))], []))
 none)
 (cond (decide (v0 = 2))
 ((FF n 79 [.agg [.int .i64 v0, .int .i64 v1, .fr (.ts v2)]] []).bind fun x0 =>
 (rStr x0.1 fun x1 x2 =>
 (nilV x2 (nilO x0.2
 (some ([.one (.str x1)], []))))))
 ((FF n 70 [] []).bind fun x0 =>
 (rSs x0.1 fun x1 x2 =>
 (nilV x2 (nilO x0.2
 (cond (decide (0 ≤ (IntKind.i64.wrap (v0 - 1))))
 (x1[((IntKind.i64.wrap (v0 - 1)) : Int).toNat]?.bind fun x3 =>
 ((FF n 69 [.one (.str x3), .one (.str (bytesOf [46]))] []).bind fun x4 =>
 (rSs x4.1 fun x5 x6 =>
 (nilV x6 (nilO x4.2
 (x5[(0 : Int).toNat]?.bind fun x7 =>
 ((FF n 72 [.one (.int .i64 v0)] []).bind fun x8 =>
 (rBool x8.1 fun x9 x10 =>
 (nilV x10 (nilO x8.2
 (cond x9
 ((FF n 80 [.one (.str v3)] []).bind fun x11 =>
 (rStr x11.1 fun x12 x13 =>
 (nilV x13 (nilO x11.2
 (cond (decide (v3.size + x12.size ≤ 9223372036854775807))
 (cond (decide (x12.size + (bytesOf [58]).size ≤ 9223372036854775807))
 (cond (decide (x7.size + (x12 ++ (bytesOf [58])).size ≤ 9223372036854775807))
 (L_impl_shown_0 n n v3 x5 (x7 ++ (x12 ++ (bytesOf [58]))) (v3 ++ x12) v2 ((v2.length : Int) : Int) 0 v0 v1 v2)
 none)
 none)
 none)))))
 (L_impl_shown_0 n n v3 x5 x7 v3 v2 ((v2.length : Int) : Int) 0 v0 v1 v2))))))))))))
 none))))))) := by kernel_rfl
noncomputable def L_impl_scan_0 (n c : Nat) (v0 : Int) (v1 : List T) (v2 v3 v4 : Int) : OR := runLoop Tryz.prog SS n 41 1 [1, 1, 1, 0, 1, 0] [] c ⟨[anyV, .v (.one (.int .i64 v0)), .v (.one (.ptr 0 0)), anyV, anyV, anyV, anyV, anyV, anyV, anyV, anyV, anyV, anyV, anyV, anyV, anyV, anyV, anyV, anyV, anyV, anyV, anyV, anyV, anyV, anyV, anyV, anyV, anyV, anyV, anyV, anyV, anyV, anyV, anyV, anyV, anyV, anyV, anyV, anyV, anyV, anyV, .v (.one (.fr (.ts v1))), .v (.one (.int .i64 v2)), .v (.one (.int .i64 v3)), anyV, anyV, anyV, anyV, anyV, anyV, anyV, anyV, anyV, anyV],
 [.cells [.int .i64 v4]]⟩
theorem L_impl_scan_0_eq (n c : Nat) (v0 : Int) (v1 : List T) (v2 v3 v4 : Int) : L_impl_scan_0 n (c + 1) v0 v1 v2 v3 v4 =
 (cond (decide (v3 < v2))
 (cond (decide (0 ≤ v3))
 (v1[(v3 : Int).toNat]?.bind fun x0 =>
 ((FF n 41 [.agg [.int .i64 x0.k, .int .i64 x0.n, .fr (.ts x0.kids)], .one (.int .i64 (IntKind.i64.wrap (v0 + 1))), .one (.ptr 0 0)] [.cells [.int .i64 v4]]).bind fun x1 =>
 (objC x1.2 fun x2 x3 =>
 (intC .i64 x2 fun x4 x5 =>
 (nilC x5
 (rBool x1.1 fun x6 x7 =>
 (nilV x7 (nilO x3
 (cond (!x6)
 (some ([.one (.bool false)], [.cells [.int .i64 x4]]))
 (L_impl_scan_0 n c v0 v1 v2 (IntKind.i64.wrap (v3 + 1)) x4))))))))))
 none)
 (some ([.one (.bool true)], [.cells [.int .i64 v4]]))) := by kernel_rfl
theorem E_impl_scan (n : Nat) (v0 v1 : Int) (v2 : List T) (v3 v4 : Int) : FF (n + 1) 41 [.agg [.int .i64 v0, .int .i64 v1, .fr (.ts v2)], .one (.int .i64 v3), .one (.ptr 0 0)] [.cells [.int .i64 v4]] =
 (cond (decide (400 < (IntKind.i64.wrap (v4 + 1))))
 (some ([.one (.bool false)], [.cells [.int .i64 (IntKind.i64.wrap (v4 + 1))]]))
 (cond (decide (30 < v3))
 (some ([.one (.bool false)], [.cells [.int .i64 (IntKind.i64.wrap (v4 + 1))]]))
 ((FF n 81 [.one (.int .i64 v0)] []).bind fun x0 =>
 (rInt .i64 x0.1 fun x1 x2 =>
 (nilV x2 (nilO x0.2
 (cond (!decide (x1 = (v2.length : Int)))
 (some ([.one (.bool false)], [.cells [.int .i64 (IntKind.i64.wrap (v4 + 1))]]))
 ((FF n 83 [.one (.int .i64 v0)] []).bind fun x3 =>
 (rInt .i64 x3.1 fun x4 x5 =>
 (nilV x5 (nilO x3.2
 ((FF n 82 [.one (.int .i64 v1), .one (.int .i64 0), .one (.int .i64 x4)] []).bind fun x6 =>
 (rBool x6.1 fun x7 x8 =>
 (nilV x8 (nilO x6.2
 (cond (!x7)
 (some ([.one (.bool false)], [.cells [.int .i64 (IntKind.i64.wrap (v4 + 1))]]))
 (L_impl_scan_0 n n v3 v2 ((v2.length : Int) : Int) 0 (IntKind.i64.wrap (v4 + 1))))))))))))))))))) := by kernel_rfl
theorem E_spec_l19Rd_pick (n : Nat) (v0 : Int) (v1 : List UInt8) (v2 : Int) : FF (n + 1) 42 [.one (.ptr 0 0), .one (.int .i64 v0)] [.cells [.fr (.bs v1), .int .i64 v2]] =
 (cond (decide (v0 < 1))
 (some ([.one (.int .i64 0)], [.cells [.fr (.bs v1), .int .i64 (IntKind.i64.wrap (v2 + 1))]]))
 (cond (decide ((v1.length : Int) = 0))
 (some ([.one (.int .i64 0)], [.cells [.fr (.bs v1), .int .i64 (IntKind.i64.wrap (v2 + 1))]]))
 (cond (decide ((IntKind.i64.wrap ((IntKind.i64.wrap (v2 + 1)) - 1)) < (v1.length : Int)))
 (cond (decide (0 ≤ (IntKind.i64.wrap ((IntKind.i64.wrap (v2 + 1)) - 1))))
 (v1[((IntKind.i64.wrap ((IntKind.i64.wrap (v2 + 1)) - 1)) : Int).toNat]?.bind fun x0 =>
 (cond (decide (v0 = 0))
 none
 (some ([.one (.int .i64 (Int.tmod (IntKind.i64.wrap (x0.toNat : Int)) v0))], [.cells [.fr (.bs v1), .int .i64 (IntKind.i64.wrap (v2 + 1))]]))))
 none)
 (cond (decide ((v1.length : Int) = 0))
 none
 (cond (decide (0 ≤ (Int.tmod (IntKind.i64.wrap ((IntKind.i64.wrap (v2 + 1)) - 1)) (v1.length : Int))))
 (v1[((Int.tmod (IntKind.i64.wrap ((IntKind.i64.wrap (v2 + 1)) - 1)) (v1.length : Int)) : Int).toNat]?.bind fun x0 =>
 (cond (decide ((v1.length : Int) = 0))
 none
 (cond (decide (0 ≤ (Int.tmod (IntKind.i64.wrap ((IntKind.i64.wrap ((IntKind.i64.wrap ((IntKind.i64.wrap (v2 + 1)) - 1)) * 7)) + 3)) (v1.length : Int))))
 (v1[((Int.tmod (IntKind.i64.wrap ((IntKind.i64.wrap ((IntKind.i64.wrap ((IntKind.i64.wrap (v2 + 1)) - 1)) * 7)) + 3)) (v1.length : Int)) : Int).toNat]?.bind fun x1 =>
 (cond (decide ((v1.length : Int) = 0))
 none
 (cond (decide (v0 = 0))
 none
 (some ([.one (.int .i64 (Int.tmod (IntKind.i64.wrap (BitVec.ofInt IntKind.i64.bits (IntKind.i64.wrap ((IntKind.i64.wrap ((IntKind.i64.wrap ((IntKind.i64.wrap ((IntKind.i64.wrap (x0.toNat : Int)) * 131)) + (IntKind.i64.wrap ((IntKind.i64.wrap (x1.toNat : Int)) * 1117)))) + (IntKind.i64.wrap ((IntKind.i64.wrap ((IntKind.i64.wrap (v2 + 1)) - 1)) * 29)))) + (IntKind.i64.wrap ((IntKind.i64.wrap (Int.tdiv (IntKind.i64.wrap ((IntKind.i64.wrap (v2 + 1)) - 1)) (v1.length : Int))) * 53)))) ^^^ BitVec.ofInt IntKind.i64.bits (IntKind.i64.wrap (Int.tdiv (IntKind.i64.wrap ((IntKind.i64.wrap ((IntKind.i64.wrap ((IntKind.i64.wrap ((IntKind.i64.wrap (x0.toNat : Int)) * 131)) + (IntKind.i64.wrap ((IntKind.i64.wrap (x1.toNat : Int)) * 1117)))) + (IntKind.i64.wrap ((IntKind.i64.wrap ((IntKind.i64.wrap (v2 + 1)) - 1)) * 29)))) + (IntKind.i64.wrap ((IntKind.i64.wrap (Int.tdiv (IntKind.i64.wrap ((IntKind.i64.wrap (v2 + 1)) - 1)) (v1.length : Int))) * 53)))) 64))).toNat) v0))], [.cells [.fr (.bs v1), .int .i64 (IntKind.i64.wrap (v2 + 1))]])))))
 none)))
 none))))) := by kernel_rfl
noncomputable def L_spec_TermSame_0 (n c : Nat) (v0 v1 v2 : Int) (v3 : List T) (v4 v5 : Int) (v6 : List T) : OR := runLoop Tryz.prog SS n 43 0 [1, 1, 0, 1, 0] [] c ⟨[anyV, anyV, .v (.one (.ptr 0 0)), .v (.one (.ptr 1 0)), anyV, .v (.one (.int .i64 v0)), anyV, anyV, anyV, anyV, anyV, anyV, anyV, anyV, anyV, anyV, anyV, anyV, anyV, anyV, anyV, anyV, anyV, anyV, anyV, anyV, anyV, anyV, anyV, anyV, anyV, anyV, anyV, anyV, anyV, anyV, anyV, anyV, anyV, anyV, anyV, anyV, anyV, anyV, anyV, anyV],
 [.cells [.int .i64 v1, .int .i64 v2, .fr (.ts v3)], .cells [.int .i64 v4, .int .i64 v5, .fr (.ts v6)]]⟩
theorem L_spec_TermSame_0_eq (n c : Nat) (v0 v1 v2 : Int) (v3 : List T) (v4 v5 : Int) (v6 : List T) : L_spec_TermSame_0 n (c + 1) v0 v1 v2 v3 v4 v5 v6 =
 (cond (decide (v0 < (v3.length : Int)))
 (cond (decide (0 ≤ v0))
 (v3[(v0 : Int).toNat]?.bind fun x0 =>
 (cond (decide (0 ≤ v0))
 (v6[(v0 : Int).toNat]?.bind fun x1 =>
 ((FF n 43 [.agg [.int .i64 x0.k, .int .i64 x0.n, .fr (.ts x0.kids)], .agg [.int .i64 x1.k, .int .i64 x1.n, .fr (.ts x1.kids)]] []).bind fun x2 =>
 (rBool x2.1 fun x3 x4 =>
 (nilV x4 (nilO x2.2
 (cond (!x3)
 (some ([.one (.bool false)], []))
 (L_spec_TermSame_0 n c (IntKind.i64.wrap (v0 + 1)) v1 v2 v3 v4 v5 v6)))))))
 none))
 none)
 (some ([.one (.bool true)], []))) := by kernel_rfl
theorem E_spec_TermSame (n : Nat) (v0 v1 : Int) (v2 : List T) (v3 v4 : Int) (v5 : List T) : FF (n + 1) 43 [.agg [.int .i64 v0, .int .i64 v1, .fr (.ts v2)], .agg [.int .i64 v3, .int .i64 v4, .fr (.ts v5)]] [] =
 (cond (!decide (v0 = v3))
 (some ([.one (.bool false)], []))
 (cond (!decide (v1 = v4))
 (some ([.one (.bool false)], []))
 (cond (!decide ((v2.length : Int) = (v5.length : Int)))
 (some ([.one (.bool false)], []))
 (L_spec_TermSame_0 n n 0 v0 v1 v2 v3 v4 v5)))) := by kernel_rfl
noncomputable def L_spec_l5Draw_0_fo (n c : Nat) (v0 v1 : Int) (v2 : List UInt8) (v3 v4 v5 : Int) (v6 v7 : List T) : OR := runLoop Tryz.prog SS n 44 1 [1, 0, 1, 0, 1, 1, 0, 1, 0] [] c ⟨[.v (.one (.ptr 0 0)), anyV, anyV, .v (.one (.ptr 1 0)), .v (.one (.int .i64 v0)), .v (.one (.own 3 0)), .v (.one (.int .i64 v1)), anyV, anyV, anyV, anyV, anyV, anyV, anyV, anyV, anyV, anyV, anyV, anyV, anyV, anyV, anyV, anyV, anyV, anyV, anyV, anyV, anyV, anyV, anyV, anyV, anyV, anyV, anyV, anyV, anyV, anyV, anyV, anyV, anyV, anyV, anyV, anyV, anyV, anyV, anyV, anyV, anyV, anyV, anyV, anyV, anyV, anyV, anyV],
 [.cells [.fr (.bs v2), .int .i64 v3], .cells [.int .i64 v4, .int .i64 v5, .own 2 0], .arr 24 (.ts v6) 0 false, .arr 24 (.ts v7) 0 false]⟩
theorem L_spec_l5Draw_0_fo_eq (n c : Nat) (v0 v1 : Int) (v2 : List UInt8) (v3 v4 v5 : Int) (v6 v7 : List T) : L_spec_l5Draw_0_fo n (c + 1) v0 v1 v2 v3 v4 v5 v6 v7 =
 (cond (decide (v1 < v0))
 ((FF n 56 [.one (.int .i64 6), .one (.int .i64 0)] []).bind fun x0 =>
 (rTerm x0.1 fun x1 x2 =>
 (nilV x2 (nilO x0.2
 (cond (roomB (v7 ++ [(T.mk x1.k x1.n x1.kids)]).length)
 (L_spec_l5Draw_0_fo n c v0 (IntKind.i64.wrap (v1 + 1)) v2 v3 v4 v5 v6 (v7 ++ [(T.mk x1.k x1.n x1.kids)]))
 none)))))
 ((FF n 84 [.one (.ptr 0 0), .one (.fr (.is [3, 2, 4, 1]))] [.cells [.fr (.bs v2), .int .i64 v3]]).bind fun x0 =>
 (objC x0.2 fun x1 x2 =>
 (bsC x1 fun x3 x4 =>
 (intC .i64 x4 fun x5 x6 =>
 (nilC x6
 (rInt .i64 x0.1 fun x7 x8 =>
 (nilV x8 (nilO x2
 ((FF n 85 [.one (.ptr 0 0), .one (.int .i64 v0), .one (.int .i64 x7)] [.cells [.fr (.bs x3), .int .i64 x5]]).bind fun x9 =>
 (objC x9.2 fun x10 x11 =>
 (bsC x10 fun x12 x13 =>
 (intC .i64 x13 fun x14 x15 =>
 (nilC x15
 (rTerm x9.1 fun x16 x17 =>
 (nilV x17 (nilO x11
 ((FF n 26 [.agg [.int .i64 x16.k, .int .i64 x16.n, .fr (.ts x16.kids)]] []).bind fun x18 =>
 (rBool x18.1 fun x19 x20 =>
 (nilV x20 (nilO x18.2
 (cond x19
 (some ([.one (.fr (.ts v7)), .agg [.int .i64 x16.k, .int .i64 x16.n, .fr (.ts x16.kids)]], [.cells [.fr (.bs x12), .int .i64 x14]]))
 ((FF n 42 [.one (.ptr 0 0), .one (.int .i64 4)] [.cells [.fr (.bs x12), .int .i64 x14]]).bind fun x21 =>
 (objC x21.2 fun x22 x23 =>
 (bsC x22 fun x24 x25 =>
 (intC .i64 x25 fun x26 x27 =>
 (nilC x27
 (rInt .i64 x21.1 fun x28 x29 =>
 (nilV x29 (nilO x23
 ((FF n 86 [.one (.int .i64 x28)] []).bind fun x30 =>
 (rSs x30.1 fun x31 x32 =>
 (rSs x32 fun x33 x34 =>
 (nilV x34 (nilO x30.2
 ((FF n 87 [.one (.fr (.ss x33))] []).bind fun x35 =>
 (rTs x35.1 fun x36 x37 =>
 (nilV x37 (nilO x35.2
 ((FF n 87 [.one (.fr (.ss x31))] []).bind fun x38 =>
 (rTs x38.1 fun x39 x40 =>
 (nilV x40 (nilO x38.2
 ((FF n 42 [.one (.ptr 0 0), .one (.int .i64 (x36.length : Int))] [.cells [.fr (.bs x24), .int .i64 x26]]).bind fun x41 =>
 (objC x41.2 fun x42 x43 =>
 (bsC x42 fun x44 x45 =>
 (intC .i64 x45 fun x46 x47 =>
 (nilC x47
 (rInt .i64 x41.1 fun x48 x49 =>
 (nilV x49 (nilO x43
 (cond (decide (0 ≤ x48))
 (x36[(x48 : Int).toNat]?.bind fun x50 =>
 some ([.one (.fr (.ts x39)), .agg [.int .i64 x50.k, .int .i64 x50.n, .fr (.ts x50.kids)]], [.cells [.fr (.bs x44), .int .i64 x46]]))
 none)))))))))))))))))))))))))))))))))))))))))))))))))))) := by kernel_rfl
theorem E_spec_l5Draw (n : Nat) (v0 : List UInt8) (v1 : Int) : FF (n + 1) 44 [.one (.ptr 0 0)] [.cells [.fr (.bs v0), .int .i64 v1]] =
 ((FF n 42 [.one (.ptr 0 0), .one (.int .i64 2)] [.cells [.fr (.bs v0), .int .i64 v1]]).bind fun x0 =>
 (objC x0.2 fun x1 x2 =>
 (bsC x1 fun x3 x4 =>
 (intC .i64 x4 fun x5 x6 =>
 (nilC x6
 (rInt .i64 x0.1 fun x7 x8 =>
 (nilV x8 (nilO x2
 (cond (decide (x7 = 0))
 ((FF n 84 [.one (.ptr 0 0), .one (.fr (.is [0, 1, 2, 0]))] [.cells [.fr (.bs x3), .int .i64 x5]]).bind fun x9 =>
 (objC x9.2 fun x10 x11 =>
 (bsC x10 fun x12 x13 =>
 (intC .i64 x13 fun x14 x15 =>
 (nilC x15
 (rInt .i64 x9.1 fun x16 x17 =>
 (nilV x17 (nilO x11
 (L_spec_l5Draw_0_fo n n x16 0 x12 x14 0 0 ([]) ([]))))))))))
 ((FF n 42 [.one (.ptr 0 0), .one (.int .i64 4)] [.cells [.fr (.bs x3), .int .i64 x5]]).bind fun x9 =>
 (objC x9.2 fun x10 x11 =>
 (bsC x10 fun x12 x13 =>
 (intC .i64 x13 fun x14 x15 =>
 (nilC x15
 (rInt .i64 x9.1 fun x16 x17 =>
 (nilV x17 (nilO x11
 ((FF n 86 [.one (.int .i64 x16)] []).bind fun x18 =>
 (rSs x18.1 fun x19 x20 =>
 (rSs x20 fun x21 x22 =>
 (nilV x22 (nilO x18.2
 ((FF n 87 [.one (.fr (.ss x21))] []).bind fun x23 =>
 (rTs x23.1 fun x24 x25 =>
 (nilV x25 (nilO x23.2
 ((FF n 87 [.one (.fr (.ss x19))] []).bind fun x26 =>
 (rTs x26.1 fun x27 x28 =>
 (nilV x28 (nilO x26.2
 ((FF n 42 [.one (.ptr 0 0), .one (.int .i64 (x24.length : Int))] [.cells [.fr (.bs x12), .int .i64 x14]]).bind fun x29 =>
 (objC x29.2 fun x30 x31 =>
 (bsC x30 fun x32 x33 =>
 (intC .i64 x33 fun x34 x35 =>
 (nilC x35
 (rInt .i64 x29.1 fun x36 x37 =>
 (nilV x37 (nilO x31
 (cond (decide (0 ≤ x36))
 (x24[(x36 : Int).toNat]?.bind fun x38 =>
 some ([.one (.fr (.ts x27)), .agg [.int .i64 x38.k, .int .i64 x38.n, .fr (.ts x38.kids)]], [.cells [.fr (.bs x32), .int .i64 x34]]))
 none))))))))))))))))))))))))))))))))))))))) := by kernel_rfl
theorem E_spec_l6Names (n : Nat) (v0 : List UInt8) (v1 : Int) : FF (n + 1) 45 [.one (.ptr 0 0)] [.cells [.fr (.bs v0), .int .i64 v1]] =
 ((FF n 35 [.one (.ptr 0 0), .one (.fr (.ss [(bytesOf []), (bytesOf [120]), (bytesOf [120, 121]), (bytesOf [97, 98]), (bytesOf [102, 120, 121]), (bytesOf [97, 98, 99, 100, 101, 102, 103, 104, 105, 106, 107, 108, 109, 110, 111, 112, 113, 114, 115, 116]), (bytesOf [97, 97]), (bytesOf [88]), (bytesOf [97, 98, 99, 100, 101, 102, 103, 104, 105, 106, 107, 108, 109, 110, 111, 112, 113, 114, 115, 116, 117])]))] [.cells [.fr (.bs v0), .int .i64 v1]]).bind fun x0 =>
 (objC x0.2 fun x1 x2 =>
 (bsC x1 fun x3 x4 =>
 (intC .i64 x4 fun x5 x6 =>
 (nilC x6
 (rStr x0.1 fun x7 x8 =>
 (nilV x8 (nilO x2
 (some ([.one (.str x7)], [.cells [.fr (.bs x3), .int .i64 x5]])))))))))) := by kernel_rfl
theorem E_spec_l1Mutate (n : Nat) (v0 v1 : Int) (v2 : List T) (v3 : List UInt8) (v4 : Int) : FF (n + 1) 46 [.one (.ptr 0 0), .agg [.int .i64 v0, .int .i64 v1, .fr (.ts v2)]] [.cells [.fr (.bs v3), .int .i64 v4]] =
 ((FF n 88 [.agg [.int .i64 v0, .int .i64 v1, .fr (.ts v2)]] []).bind fun x0 =>
 (rOwnT 0 x0.1 fun x1 x2 x3 =>
 (arrTsC 24 x0.2 fun x4 x5 =>
 (nilV x3 (nilO x5
 ((FF n 42 [.one (.ptr 0 0), .one (.int .i64 50)] [.cells [.fr (.bs v3), .int .i64 v4]]).bind fun x6 =>
 (objC x6.2 fun x7 x8 =>
 (bsC x7 fun x9 x10 =>
 (intC .i64 x10 fun x11 x12 =>
 (nilC x12
 (rInt .i64 x6.1 fun x13 x14 =>
 (nilV x14 (nilO x8
 (cond (decide (x13 = 0))
 ((FF n 84 [.one (.ptr 0 0), .one (.fr (.is [0, 17, 1, 5, 6]))] [.cells [.fr (.bs x9), .int .i64 x11]]).bind fun x15 =>
 (objC x15.2 fun x16 x17 =>
 (bsC x16 fun x18 x19 =>
 (intC .i64 x19 fun x20 x21 =>
 (nilC x21
 (rInt .i64 x15.1 fun x22 x23 =>
 (nilV x23 (nilO x17
 (some ([.agg [.int .i64 x22, .int .i64 x2, .fr (.ts x4)]], [.cells [.fr (.bs x18), .int .i64 x20]]))))))))))
 (cond (decide (x13 = 1))
 ((FF n 84 [.one (.ptr 0 0), .one (.fr (.is [21, (-1), 1, 9223372036854775807]))] [.cells [.fr (.bs x9), .int .i64 x11]]).bind fun x15 =>
 (objC x15.2 fun x16 x17 =>
 (bsC x16 fun x18 x19 =>
 (intC .i64 x19 fun x20 x21 =>
 (nilC x21
 (rInt .i64 x15.1 fun x22 x23 =>
 (nilV x23 (nilO x17
 (some ([.agg [.int .i64 x1, .int .i64 x22, .fr (.ts x4)]], [.cells [.fr (.bs x18), .int .i64 x20]]))))))))))
 (cond (decide (x13 = 2))
 ((FF n 56 [.one (.int .i64 7), .one (.int .i64 0)] []).bind fun x15 =>
 (rTerm x15.1 fun x16 x17 =>
 (nilV x17 (nilO x15.2
 (cond (roomB (x4 ++ [(T.mk x16.k x16.n x16.kids)]).length)
 (some ([.agg [.int .i64 x1, .int .i64 x2, .fr (.ts (x4 ++ [(T.mk x16.k x16.n x16.kids)]))]], [.cells [.fr (.bs x9), .int .i64 x11]]))
 none)))))
 (cond (decide (x13 = 3))
 ((FF n 53 [.one (.int .i64 8), .one (.fr (.ts [(T.mk x1 x2 x4)]))] []).bind fun x15 =>
 (rTerm x15.1 fun x16 x17 =>
 (nilV x17 (nilO x15.2
 (some ([.agg [.int .i64 x16.k, .int .i64 x16.n, .fr (.ts x16.kids)]], [.cells [.fr (.bs x9), .int .i64 x11]]))))))
 (cond (decide (x13 = 4))
 (cond (decide (0 < (x4.length : Int)))
 ((FF n 56 [.one (.int .i64 1), .one (.int .i64 25)] []).bind fun x15 =>
 (rTerm x15.1 fun x16 x17 =>
 (nilV x17 (nilO x15.2
 (cond (decide (0 < (x4.length : Int)))
 (some ([.agg [.int .i64 x1, .int .i64 x2, .fr (.ts (x4.set (0 : Int).toNat (T.mk x16.k x16.n x16.kids)))]], [.cells [.fr (.bs x9), .int .i64 x11]]))
 none)))))
 (some ([.agg [.int .i64 x1, .int .i64 x2, .fr (.ts x4)]], [.cells [.fr (.bs x9), .int .i64 x11]])))
 (some ([.agg [.int .i64 x1, .int .i64 x2, .fr (.ts x4)]], [.cells [.fr (.bs x9), .int .i64 x11]])))))))))))))))))))) := by kernel_rfl
theorem E_spec_MaxFree (n : Nat) (v0 v1 : Int) (v2 : List T) : FF (n + 1) 47 [.agg [.int .i64 v0, .int .i64 v1, .fr (.ts v2)]] [] =
 ((FF n 26 [.agg [.int .i64 v0, .int .i64 v1, .fr (.ts v2)]] []).bind fun x0 =>
 (rBool x0.1 fun x1 x2 =>
 (nilV x2 (nilO x0.2
 (cond (!x1)
 (some ([.one (.int .i64 (-1))], []))
 ((FF n 89 [.agg [.int .i64 v0, .int .i64 v1, .fr (.ts v2)], .one (.int .i64 0)] []).bind fun x3 =>
 (rInt .i64 x3.1 fun x4 x5 =>
 (nilV x5 (nilO x3.2
 (some ([.one (.int .i64 x4)], []))))))))))) := by kernel_rfl
noncomputable def L_spec_l6Deep_0 (n c : Nat) (v0 v1 v2 v3 : Int) (v4 : List T) : OR := runLoop Tryz.prog SS n 48 0 [1, 1, 0, 1, 0] [] c ⟨[anyV, .v (.one (.ptr 0 0)), anyV, .v (.one (.int .i64 v0)), .v (.one (.int .i64 v1)), anyV, anyV, anyV, anyV, anyV, anyV, anyV, anyV, anyV, anyV, anyV, anyV, anyV, anyV, anyV, anyV, anyV, anyV, anyV, anyV, anyV, anyV, anyV, anyV],
 [.cells [.int .i64 v2, .int .i64 v3, .fr (.ts v4)]]⟩
theorem L_spec_l6Deep_0_eq (n c : Nat) (v0 v1 v2 v3 : Int) (v4 : List T) : L_spec_l6Deep_0 n (c + 1) v0 v1 v2 v3 v4 =
 (cond (decide (v1 < (v4.length : Int)))
 (cond (decide (0 ≤ v1))
 (v4[(v1 : Int).toNat]?.bind fun x0 =>
 ((FF n 48 [.agg [.int .i64 x0.k, .int .i64 x0.n, .fr (.ts x0.kids)]] []).bind fun x1 =>
 (rInt .i64 x1.1 fun x2 x3 =>
 (nilV x3 (nilO x1.2
 ((FF n 90 [.one (.int .i64 v2), .one (.int .i64 v1)] []).bind fun x4 =>
 (rInt .i64 x4.1 fun x5 x6 =>
 (nilV x6 (nilO x4.2
 (cond (decide (v0 < (IntKind.i64.wrap (x2 + x5))))
 (L_spec_l6Deep_0 n c (IntKind.i64.wrap (x2 + x5)) (IntKind.i64.wrap (v1 + 1)) v2 v3 v4)
 (L_spec_l6Deep_0 n c v0 (IntKind.i64.wrap (v1 + 1)) v2 v3 v4)))))))))))
 none)
 (some ([.one (.int .i64 v0)], []))) := by kernel_rfl
theorem E_spec_l6Deep (n : Nat) (v0 v1 : Int) (v2 : List T) : FF (n + 1) 48 [.agg [.int .i64 v0, .int .i64 v1, .fr (.ts v2)]] [] =
 L_spec_l6Deep_0 n n 0 0 v0 v1 v2 := by kernel_rfl
theorem E_spec_l6Show (n : Nat) (v0 v1 : Int) (v2 : List T) (v3 : ByteArray) : FF (n + 1) 49 [.agg [.int .i64 v0, .int .i64 v1, .fr (.ts v2)], .one (.str v3)] [] =
 (cond (decide (v0 = 1))
 (cond (Go.Ab.inB (IntKind.i64.wrap ((IntKind.i64.wrap ((v3.size : Int) - 1)) - v1)) (IntKind.i64.wrap ((IntKind.i64.wrap ((IntKind.i64.wrap ((v3.size : Int) - 1)) - v1)) + 1)) v3.size)
 (some ([.one (.str (v3.extract ((IntKind.i64.wrap ((IntKind.i64.wrap ((v3.size : Int) - 1)) - v1)) : Int).toNat ((IntKind.i64.wrap ((IntKind.i64.wrap ((IntKind.i64.wrap ((v3.size : Int) - 1)) - v1)) + 1)) : Int).toNat))], []))
 none)
 (cond (decide (v0 = 4))
 ((FF n 91 [.agg [.int .i64 v0, .int .i64 v1, .fr (.ts v2)], .one (.str v3)] []).bind fun x0 =>
 (rStr x0.1 fun x1 x2 =>
 (nilV x2 (nilO x0.2
 (some ([.one (.str x1)], []))))))
 (cond (decide (v0 = 3))
 ((FF n 91 [.agg [.int .i64 v0, .int .i64 v1, .fr (.ts v2)], .one (.str v3)] []).bind fun x0 =>
 (rStr x0.1 fun x1 x2 =>
 (nilV x2 (nilO x0.2
 (some ([.one (.str x1)], []))))))
 (cond (decide (v0 = 13))
 ((FF n 91 [.agg [.int .i64 v0, .int .i64 v1, .fr (.ts v2)], .one (.str v3)] []).bind fun x0 =>
 (rStr x0.1 fun x1 x2 =>
 (nilV x2 (nilO x0.2
 (some ([.one (.str x1)], []))))))
 (cond (decide (v0 = 8))
 (v2[(0 : Int).toNat]?.bind fun x0 =>
 ((FF n 49 [.agg [.int .i64 x0.k, .int .i64 x0.n, .fr (.ts x0.kids)], .one (.str v3)] []).bind fun x1 =>
 (rStr x1.1 fun x2 x3 =>
 (nilV x3 (nilO x1.2
 (cond (decide ((bytesOf [43]).size + x2.size ≤ 9223372036854775807))
 (some ([.one (.str ((bytesOf [43]) ++ x2))], []))
 none))))))
 (cond (decide (v0 = 11))
 (v2[(0 : Int).toNat]?.bind fun x0 =>
 ((FF n 49 [.agg [.int .i64 x0.k, .int .i64 x0.n, .fr (.ts x0.kids)], .one (.str v3)] []).bind fun x1 =>
 (rStr x1.1 fun x2 x3 =>
 (nilV x3 (nilO x1.2
 (cond (decide ((bytesOf [33]).size + x2.size ≤ 9223372036854775807))
 (some ([.one (.str ((bytesOf [33]) ++ x2))], []))
 none))))))
 (cond (decide (v0 = 15))
 (v2[(0 : Int).toNat]?.bind fun x0 =>
 ((FF n 49 [.agg [.int .i64 x0.k, .int .i64 x0.n, .fr (.ts x0.kids)], .one (.str v3)] []).bind fun x1 =>
 (rStr x1.1 fun x2 x3 =>
 (nilV x3 (nilO x1.2
 (cond (decide ((bytesOf [94]).size + x2.size ≤ 9223372036854775807))
 (some ([.one (.str ((bytesOf [94]) ++ x2))], []))
 none))))))
 (cond (decide (v0 = 16))
 (v2[(0 : Int).toNat]?.bind fun x0 =>
 ((FF n 49 [.agg [.int .i64 x0.k, .int .i64 x0.n, .fr (.ts x0.kids)], .one (.str v3)] []).bind fun x1 =>
 (rStr x1.1 fun x2 x3 =>
 (nilV x3 (nilO x1.2
 (cond (decide ((bytesOf [95]).size + x2.size ≤ 9223372036854775807))
 (some ([.one (.str ((bytesOf [95]) ++ x2))], []))
 none))))))
 (cond (decide (v0 = 5))
 (v2[(0 : Int).toNat]?.bind fun x0 =>
 ((FF n 49 [.agg [.int .i64 x0.k, .int .i64 x0.n, .fr (.ts x0.kids)], .one (.str v3)] []).bind fun x1 =>
 (rStr x1.1 fun x2 x3 =>
 (nilV x3 (nilO x1.2
 (cond (decide ((bytesOf [40]).size + x2.size ≤ 9223372036854775807))
 (cond (decide (((bytesOf [40]) ++ x2).size + (bytesOf [32]).size ≤ 9223372036854775807))
 (v2[(1 : Int).toNat]?.bind fun x4 =>
 ((FF n 49 [.agg [.int .i64 x4.k, .int .i64 x4.n, .fr (.ts x4.kids)], .one (.str v3)] []).bind fun x5 =>
 (rStr x5.1 fun x6 x7 =>
 (nilV x7 (nilO x5.2
 (cond (decide ((((bytesOf [40]) ++ x2) ++ (bytesOf [32])).size + x6.size ≤ 9223372036854775807))
 (cond (decide (((((bytesOf [40]) ++ x2) ++ (bytesOf [32])) ++ x6).size + (bytesOf [41]).size ≤ 9223372036854775807))
 (some ([.one (.str (((((bytesOf [40]) ++ x2) ++ (bytesOf [32])) ++ x6) ++ (bytesOf [41])))], []))
 none)
 none))))))
 none)
 none))))))
 (cond (decide (v0 = 10))
 ((FF n 92 [.one (.fr (.ts v2)), .one (.str v3)] []).bind fun x0 =>
 (rStr x0.1 fun x1 x2 =>
 (nilV x2 (nilO x0.2
 (cond (decide ((bytesOf [123]).size + x1.size ≤ 9223372036854775807))
 (cond (decide (((bytesOf [123]) ++ x1).size + (bytesOf [125]).size ≤ 9223372036854775807))
 (some ([.one (.str (((bytesOf [123]) ++ x1) ++ (bytesOf [125])))], []))
 none)
 none)))))
 (cond (decide (v0 = 14))
 ((FF n 92 [.one (.fr (.ts v2)), .one (.str v3)] []).bind fun x0 =>
 (rStr x0.1 fun x1 x2 =>
 (nilV x2 (nilO x0.2
 (cond (decide ((bytesOf [124]).size + x1.size ≤ 9223372036854775807))
 (cond (decide (((bytesOf [124]) ++ x1).size + (bytesOf [124]).size ≤ 9223372036854775807))
 (some ([.one (.str (((bytesOf [124]) ++ x1) ++ (bytesOf [124])))], []))
 none)
 none)))))
 (cond (decide (v0 = 12))
 ((FF n 92 [.one (.fr (.ts v2)), .one (.str v3)] []).bind fun x0 =>
 (rStr x0.1 fun x1 x2 =>
 (nilV x2 (nilO x0.2
 (cond (decide ((bytesOf [64, 60]).size + x1.size ≤ 9223372036854775807))
 (cond (decide (((bytesOf [64, 60]) ++ x1).size + (bytesOf [62]).size ≤ 9223372036854775807))
 (some ([.one (.str (((bytesOf [64, 60]) ++ x1) ++ (bytesOf [62])))], []))
 none)
 none)))))
 (cond (decide (v0 = 9))
 ((FF n 92 [.one (.fr (.ts v2)), .one (.str v3)] []).bind fun x0 =>
 (rStr x0.1 fun x1 x2 =>
 (nilV x2 (nilO x0.2
 (cond (decide ((bytesOf [60]).size + x1.size ≤ 9223372036854775807))
 (cond (decide (((bytesOf [60]) ++ x1).size + (bytesOf [62]).size ≤ 9223372036854775807))
 (some ([.one (.str (((bytesOf [60]) ++ x1) ++ (bytesOf [62])))], []))
 none)
 none)))))
 ((FF n 93 [.agg [.int .i64 v0, .int .i64 v1, .fr (.ts v2)]] []).bind fun x0 =>
 (rStr x0.1 fun x1 x2 =>
 (nilV x2 (nilO x0.2
 (some ([.one (.str x1)], []))))))))))))))))))) := by kernel_rfl
theorem E_spec_l6Letter (n : Nat) (v0 : Int) : FF (n + 1) 50 [.one (.int .u8 v0)] [] =
 (cond (decide (97 ≤ v0))
 (some ([.one (.bool (decide (v0 ≤ 122)))], []))
 (some ([.one (.bool false)], []))) := by kernel_rfl
noncomputable def L_spec_l6Find_0 (n c : Nat) (v0 : ByteArray) (v1 v2 : Int) : OR := runLoop Tryz.prog SS n 51 0 [1, 0, 1, 0] [] c ⟨[.v (.one (.str v0)), .v (.one (.int .u8 v1)), anyV, anyV, anyV, .v (.one (.int .i64 v2)), anyV, anyV, anyV, anyV, anyV, anyV, anyV, anyV, anyV, anyV, anyV, anyV, anyV, anyV, anyV, anyV, anyV],
 []⟩
theorem L_spec_l6Find_0_eq (n c : Nat) (v0 : ByteArray) (v1 v2 : Int) : L_spec_l6Find_0 n (c + 1) v0 v1 v2 =
 (cond (decide (0 ≤ v2))
 (cond (decide (0 ≤ v2) && decide (v2 < ((v0.size : Nat) : Int)))
 (cond (decide (((byteAt v0 (v2 : Int).toNat).toNat : Int) = v1))
 (some ([.one (.int .i64 (IntKind.i64.wrap ((IntKind.i64.wrap ((v0.size : Int) - 1)) - v2)))], []))
 (L_spec_l6Find_0 n c v0 v1 (IntKind.i64.wrap (v2 - 1))))
 none)
 (some ([.one (.int .i64 (-1))], []))) := by kernel_rfl
theorem E_spec_l6Find (n : Nat) (v0 : ByteArray) (v1 : Int) : FF (n + 1) 51 [.one (.str v0), .one (.int .u8 v1)] [] =
 L_spec_l6Find_0 n n v0 v1 (IntKind.i64.wrap ((v0.size : Int) - 1)) := by kernel_rfl
theorem E_spec_l1Parse (n : Nat) (v0 : ByteArray) (v1 v2 : Int) : FF (n + 1) 52 [.one (.str v0), .one (.int .i64 v1), .one (.int .i64 v2)] [] =
 (cond (decide (v2 < 1))
 (some ([.agg [.int .i64 0, .int .i64 0, .fr (.ts [])], .one (.int .i64 (-1))], []))
 (cond (decide (v1 < 0))
 (some ([.agg [.int .i64 0, .int .i64 0, .fr (.ts [])], .one (.int .i64 (-1))], []))
 (cond (decide ((v0.size : Int) ≤ v1))
 (some ([.agg [.int .i64 0, .int .i64 0, .fr (.ts [])], .one (.int .i64 (-1))], []))
 (cond (decide (0 ≤ v1) && decide (v1 < ((v0.size : Nat) : Int)))
 (cond (decide (((byteAt v0 (v1 : Int).toNat).toNat : Int) = 35))
 ((FF n 94 [.one (.str v0), .one (.int .i64 (IntKind.i64.wrap (v1 + 1))), .one (.int .i64 2)] []).bind fun x0 =>
 (rInt .i64 x0.1 fun x1 x2 =>
 (rInt .i64 x2 fun x3 x4 =>
 (nilV x4 (nilO x0.2
 ((FF n 56 [.one (.int .i64 1), .one (.int .i64 x1)] []).bind fun x5 =>
 (rTerm x5.1 fun x6 x7 =>
 (nilV x7 (nilO x5.2
 (some ([.agg [.int .i64 x6.k, .int .i64 x6.n, .fr (.ts x6.kids)], .one (.int .i64 x3)], [])))))))))))
 (cond (decide (((byteAt v0 (v1 : Int).toNat).toNat : Int) = 42))
 ((FF n 94 [.one (.str v0), .one (.int .i64 (IntKind.i64.wrap (v1 + 1))), .one (.int .i64 1)] []).bind fun x0 =>
 (rInt .i64 x0.1 fun x1 x2 =>
 (rInt .i64 x2 fun x3 x4 =>
 (nilV x4 (nilO x0.2
 ((FF n 56 [.one (.int .i64 2), .one (.int .i64 x1)] []).bind fun x5 =>
 (rTerm x5.1 fun x6 x7 =>
 (nilV x7 (nilO x5.2
 (some ([.agg [.int .i64 x6.k, .int .i64 x6.n, .fr (.ts x6.kids)], .one (.int .i64 x3)], [])))))))))))
 (cond (decide (((byteAt v0 (v1 : Int).toNat).toNat : Int) = 78))
 ((FF n 56 [.one (.int .i64 6), .one (.int .i64 0)] []).bind fun x0 =>
 (rTerm x0.1 fun x1 x2 =>
 (nilV x2 (nilO x0.2
 (some ([.agg [.int .i64 x1.k, .int .i64 x1.n, .fr (.ts x1.kids)], .one (.int .i64 (IntKind.i64.wrap (v1 + 1)))], []))))))
 (cond (decide (((byteAt v0 (v1 : Int).toNat).toNat : Int) = 48))
 ((FF n 56 [.one (.int .i64 7), .one (.int .i64 0)] []).bind fun x0 =>
 (rTerm x0.1 fun x1 x2 =>
 (nilV x2 (nilO x0.2
 (some ([.agg [.int .i64 x1.k, .int .i64 x1.n, .fr (.ts x1.kids)], .one (.int .i64 (IntKind.i64.wrap (v1 + 1)))], []))))))
 (cond (decide (((byteAt v0 (v1 : Int).toNat).toNat : Int) = 43))
 ((FF n 95 [.one (.str v0), .one (.int .i64 v1), .one (.int .i64 v2)] []).bind fun x0 =>
 (rTerm x0.1 fun x1 x2 =>
 (rInt .i64 x2 fun x3 x4 =>
 (nilV x4 (nilO x0.2
 (some ([.agg [.int .i64 x1.k, .int .i64 x1.n, .fr (.ts x1.kids)], .one (.int .i64 x3)], [])))))))
 (cond (decide (((byteAt v0 (v1 : Int).toNat).toNat : Int) = 33))
 ((FF n 95 [.one (.str v0), .one (.int .i64 v1), .one (.int .i64 v2)] []).bind fun x0 =>
 (rTerm x0.1 fun x1 x2 =>
 (rInt .i64 x2 fun x3 x4 =>
 (nilV x4 (nilO x0.2
 (some ([.agg [.int .i64 x1.k, .int .i64 x1.n, .fr (.ts x1.kids)], .one (.int .i64 x3)], [])))))))
 (cond (decide (((byteAt v0 (v1 : Int).toNat).toNat : Int) = 94))
 ((FF n 95 [.one (.str v0), .one (.int .i64 v1), .one (.int .i64 v2)] []).bind fun x0 =>
 (rTerm x0.1 fun x1 x2 =>
 (rInt .i64 x2 fun x3 x4 =>
 (nilV x4 (nilO x0.2
 (some ([.agg [.int .i64 x1.k, .int .i64 x1.n, .fr (.ts x1.kids)], .one (.int .i64 x3)], [])))))))
 (cond (decide (((byteAt v0 (v1 : Int).toNat).toNat : Int) = 95))
 ((FF n 95 [.one (.str v0), .one (.int .i64 v1), .one (.int .i64 v2)] []).bind fun x0 =>
 (rTerm x0.1 fun x1 x2 =>
 (rInt .i64 x2 fun x3 x4 =>
 (nilV x4 (nilO x0.2
 (some ([.agg [.int .i64 x1.k, .int .i64 x1.n, .fr (.ts x1.kids)], .one (.int .i64 x3)], [])))))))
 (cond (decide (((byteAt v0 (v1 : Int).toNat).toNat : Int) = 40))
 ((FF n 96 [.one (.str v0), .one (.int .i64 (IntKind.i64.wrap (v1 + 1))), .one (.int .i64 (IntKind.i64.wrap (v2 - 1)))] []).bind fun x0 =>
 (rTerm x0.1 fun x1 x2 =>
 (rInt .i64 x2 fun x3 x4 =>
 (nilV x4 (nilO x0.2
 (some ([.agg [.int .i64 x1.k, .int .i64 x1.n, .fr (.ts x1.kids)], .one (.int .i64 x3)], [])))))))
 (cond (decide (((byteAt v0 (v1 : Int).toNat).toNat : Int) = 91))
 ((FF n 52 [.one (.str v0), .one (.int .i64 (IntKind.i64.wrap (v1 + 1))), .one (.int .i64 (IntKind.i64.wrap (v2 - 1)))] []).bind fun x0 =>
 (rTerm x0.1 fun x1 x2 =>
 (rInt .i64 x2 fun x3 x4 =>
 (nilV x4 (nilO x0.2
 (cond (decide (x3 < 0))
 (some ([.agg [.int .i64 0, .int .i64 0, .fr (.ts [])], .one (.int .i64 (-1))], []))
 (cond (decide ((v0.size : Int) ≤ x3))
 (some ([.agg [.int .i64 0, .int .i64 0, .fr (.ts [])], .one (.int .i64 (-1))], []))
 (cond (decide (0 ≤ x3) && decide (x3 < ((v0.size : Nat) : Int)))
 (cond (!decide (((byteAt v0 (x3 : Int).toNat).toNat : Int) = 93))
 (some ([.agg [.int .i64 0, .int .i64 0, .fr (.ts [])], .one (.int .i64 (-1))], []))
 ((FF n 52 [.one (.str v0), .one (.int .i64 (IntKind.i64.wrap (x3 + 1))), .one (.int .i64 (IntKind.i64.wrap (v2 - 1)))] []).bind fun x5 =>
 (rTerm x5.1 fun x6 x7 =>
 (rInt .i64 x7 fun x8 x9 =>
 (nilV x9 (nilO x5.2
 ((FF n 53 [.one (.int .i64 4), .one (.fr (.ts [(T.mk x1.k x1.n x1.kids), (T.mk x6.k x6.n x6.kids)]))] []).bind fun x10 =>
 (rTerm x10.1 fun x11 x12 =>
 (nilV x12 (nilO x10.2
 (some ([.agg [.int .i64 x11.k, .int .i64 x11.n, .fr (.ts x11.kids)], .one (.int .i64 x8)], []))))))))))))
 none))))))))
 ((FF n 97 [.one (.str v0), .one (.int .i64 v1), .one (.int .i64 v2)] []).bind fun x0 =>
 (rTerm x0.1 fun x1 x2 =>
 (rInt .i64 x2 fun x3 x4 =>
 (nilV x4 (nilO x0.2
 (some ([.agg [.int .i64 x1.k, .int .i64 x1.n, .fr (.ts x1.kids)], .one (.int .i64 x3)], [])))))))))))))))))
 none)))) := by kernel_rfl
theorem E_spec_l1Node (n : Nat) (v0 : Int) (v1 : List T) : FF (n + 1) 53 [.one (.int .i64 v0), .one (.fr (.ts v1))] [] =
 (cond (roomB ([] ++ v1).length)
 (some ([.agg [.int .i64 v0, .int .i64 0, .fr (.ts ([] ++ v1))]], []))
 none) := by kernel_rfl
theorem E_spec_l6Square (n : Nat) (v0 : ByteArray) (v1 : Int) (v2 : ByteArray) (v3 : Int) : FF (n + 1) 55 [.one (.str v0), .one (.int .i64 v1), .one (.str v2), .one (.int .i64 v3)] [] =
 ((FF n 98 [.one (.str v0), .one (.int .i64 v1)] []).bind fun x0 =>
 (rBool x0.1 fun x1 x2 =>
 (nilV x2 (nilO x0.2
 (cond (!x1)
 (some ([.agg [.int .i64 0, .int .i64 0, .fr (.ts [])], .one (.int .i64 (-1))], []))
 ((FF n 25 [.one (.str v0), .one (.int .i64 (IntKind.i64.wrap (v1 + 2))), .one (.str v2), .one (.int .i64 v3)] []).bind fun x3 =>
 (rTerm x3.1 fun x4 x5 =>
 (rInt .i64 x5 fun x6 x7 =>
 (nilV x7 (nilO x3.2
 (cond (decide (x6 < 0))
 (some ([.agg [.int .i64 0, .int .i64 0, .fr (.ts [])], .one (.int .i64 (-1))], []))
 (cond (decide ((v0.size : Int) ≤ x6))
 (some ([.agg [.int .i64 0, .int .i64 0, .fr (.ts [])], .one (.int .i64 (-1))], []))
 (cond (decide (0 ≤ x6) && decide (x6 < ((v0.size : Nat) : Int)))
 (cond (!decide (((byteAt v0 (x6 : Int).toNat).toNat : Int) = 93))
 (some ([.agg [.int .i64 0, .int .i64 0, .fr (.ts [])], .one (.int .i64 (-1))], []))
 (cond (Go.Ab.inB v1 (IntKind.i64.wrap (v1 + 1)) v0.size)
 (cond (decide (v2.size + (v0.extract (v1 : Int).toNat ((IntKind.i64.wrap (v1 + 1)) : Int).toNat).size ≤ 9223372036854775807))
 ((FF n 25 [.one (.str v0), .one (.int .i64 (IntKind.i64.wrap (x6 + 1))), .one (.str (v2 ++ (v0.extract (v1 : Int).toNat ((IntKind.i64.wrap (v1 + 1)) : Int).toNat))), .one (.int .i64 v3)] []).bind fun x8 =>
 (rTerm x8.1 fun x9 x10 =>
 (rInt .i64 x10 fun x11 x12 =>
 (nilV x12 (nilO x8.2
 ((FF n 53 [.one (.int .i64 4), .one (.fr (.ts [(T.mk x4.k x4.n x4.kids), (T.mk x9.k x9.n x9.kids)]))] []).bind fun x13 =>
 (rTerm x13.1 fun x14 x15 =>
 (nilV x15 (nilO x13.2
 (some ([.agg [.int .i64 x14.k, .int .i64 x14.n, .fr (.ts x14.kids)], .one (.int .i64 x11)], [])))))))))))
 none)
 none))
 none))))))))))))) := by kernel_rfl
theorem E_spec_l1Leaf (n : Nat) (v0 v1 : Int) : FF (n + 1) 56 [.one (.int .i64 v0), .one (.int .i64 v1)] [] =
 some ([.agg [.int .i64 v0, .int .i64 v1, .fr (.ts [])]], []) := by kernel_rfl
theorem E_spec_l6Block (n : Nat) (v0 : ByteArray) (v1 : Int) (v2 : ByteArray) (v3 : Int) : FF (n + 1) 57 [.one (.str v0), .one (.int .i64 v1), .one (.str v2), .one (.int .i64 v3)] [] =
 (cond (decide (0 ≤ v1) && decide (v1 < ((v0.size : Nat) : Int)))
 (cond (decide (((byteAt v0 (v1 : Int).toNat).toNat : Int) = 60))
 ((FF n 99 [.one (.str v0), .one (.int .i64 (IntKind.i64.wrap (v1 + 1))), .one (.str v2), .one (.int .i64 (IntKind.i64.wrap (v3 - 1))), .one (.int .i64 4), .one (.int .u8 62)] []).bind fun x0 =>
 (rTs x0.1 fun x1 x2 =>
 (rInt .i64 x2 fun x3 x4 =>
 (nilV x4 (nilO x0.2
 (some ([.agg [.int .i64 9, .int .i64 0, .fr (.ts x1)], .one (.int .i64 x3)], [])))))))
 (cond (decide (((byteAt v0 (v1 : Int).toNat).toNat : Int) = 123))
 ((FF n 99 [.one (.str v0), .one (.int .i64 (IntKind.i64.wrap (v1 + 1))), .one (.str v2), .one (.int .i64 (IntKind.i64.wrap (v3 - 1))), .one (.int .i64 3), .one (.int .u8 125)] []).bind fun x0 =>
 (rTs x0.1 fun x1 x2 =>
 (rInt .i64 x2 fun x3 x4 =>
 (nilV x4 (nilO x0.2
 (some ([.agg [.int .i64 10, .int .i64 0, .fr (.ts x1)], .one (.int .i64 x3)], [])))))))
 (cond (decide (((byteAt v0 (v1 : Int).toNat).toNat : Int) = 124))
 ((FF n 99 [.one (.str v0), .one (.int .i64 (IntKind.i64.wrap (v1 + 1))), .one (.str v2), .one (.int .i64 (IntKind.i64.wrap (v3 - 1))), .one (.int .i64 3), .one (.int .u8 124)] []).bind fun x0 =>
 (rTs x0.1 fun x1 x2 =>
 (rInt .i64 x2 fun x3 x4 =>
 (nilV x4 (nilO x0.2
 (some ([.agg [.int .i64 14, .int .i64 0, .fr (.ts x1)], .one (.int .i64 x3)], [])))))))
 (cond (decide (((byteAt v0 (v1 : Int).toNat).toNat : Int) = 64))
 (cond (decide ((IntKind.i64.wrap (v1 + 1)) < (v0.size : Int)))
 (cond (decide (0 ≤ (IntKind.i64.wrap (v1 + 1))) && decide ((IntKind.i64.wrap (v1 + 1)) < ((v0.size : Nat) : Int)))
 (cond (decide (((byteAt v0 ((IntKind.i64.wrap (v1 + 1)) : Int).toNat).toNat : Int) = 60))
 ((FF n 99 [.one (.str v0), .one (.int .i64 (IntKind.i64.wrap (v1 + 2))), .one (.str v2), .one (.int .i64 (IntKind.i64.wrap (v3 - 1))), .one (.int .i64 3), .one (.int .u8 62)] []).bind fun x0 =>
 (rTs x0.1 fun x1 x2 =>
 (rInt .i64 x2 fun x3 x4 =>
 (nilV x4 (nilO x0.2
 (some ([.agg [.int .i64 12, .int .i64 0, .fr (.ts x1)], .one (.int .i64 x3)], [])))))))
 (some ([.agg [.int .i64 0, .int .i64 0, .fr (.ts [])], .one (.int .i64 (-1))], [])))
 none)
 (some ([.agg [.int .i64 0, .int .i64 0, .fr (.ts [])], .one (.int .i64 (-1))], [])))
 (some ([.agg [.int .i64 0, .int .i64 0, .fr (.ts [])], .one (.int .i64 (-1))], []))))))
 none) := by kernel_rfl
noncomputable def L_spec_l1Shape_0 (n c : Nat) (v0 v1 v2 v3 : Int) (v4 : List T) : OR := runLoop Tryz.prog SS n 58 0 [1, 1, 0, 1, 0] [] c ⟨[anyV, .v (.one (.int .i64 v0)), .v (.one (.ptr 0 0)), anyV, anyV, .v (.one (.int .i64 v1)), anyV, anyV, anyV, anyV, anyV, anyV, anyV, anyV, anyV, anyV, anyV, anyV, anyV, anyV, anyV, anyV, anyV, anyV, anyV, anyV, anyV, anyV, anyV, anyV, anyV, anyV, anyV, anyV, anyV, anyV, anyV, anyV, anyV, anyV, anyV, anyV, anyV, anyV, anyV, anyV],
 [.cells [.int .i64 v2, .int .i64 v3, .fr (.ts v4)]]⟩
theorem L_spec_l1Shape_0_eq (n c : Nat) (v0 v1 v2 v3 : Int) (v4 : List T) : L_spec_l1Shape_0 n (c + 1) v0 v1 v2 v3 v4 =
 (cond (decide (v1 < (v4.length : Int)))
 (cond (decide (0 ≤ v1))
 (v4[(v1 : Int).toNat]?.bind fun x0 =>
 ((FF n 58 [.agg [.int .i64 x0.k, .int .i64 x0.n, .fr (.ts x0.kids)], .one (.int .i64 (IntKind.i64.wrap (v0 - 1)))] []).bind fun x1 =>
 (rBool x1.1 fun x2 x3 =>
 (nilV x3 (nilO x1.2
 (cond (!x2)
 (some ([.one (.bool false)], []))
 (L_spec_l1Shape_0 n c v0 (IntKind.i64.wrap (v1 + 1)) v2 v3 v4)))))))
 none)
 (some ([.one (.bool true)], []))) := by kernel_rfl
theorem E_spec_l1Shape (n : Nat) (v0 v1 : Int) (v2 : List T) (v3 : Int) : FF (n + 1) 58 [.agg [.int .i64 v0, .int .i64 v1, .fr (.ts v2)], .one (.int .i64 v3)] [] =
 (cond (decide (v3 < 1))
 (some ([.one (.bool false)], []))
 ((FF n 100 [.one (.int .i64 v0)] []).bind fun x0 =>
 (rInt .i64 x0.1 fun x1 x2 =>
 (nilV x2 (nilO x0.2
 (cond (!decide (x1 = (v2.length : Int)))
 (some ([.one (.bool false)], []))
 (cond (decide (v1 < 0))
 (some ([.one (.bool false)], []))
 ((FF n 101 [.one (.int .i64 v0)] []).bind fun x3 =>
 (rInt .i64 x3.1 fun x4 x5 =>
 (nilV x5 (nilO x3.2
 (cond (decide (x4 < v1))
 (some ([.one (.bool false)], []))
 (L_spec_l1Shape_0 n n v3 0 v0 v1 v2))))))))))))) := by kernel_rfl
end Go.Proofs.YtnogehmgpfpjmaaGreatDoor
end
section
namespace Go.Proofs.YtnogehmgpfpjmaaGreatDoor
open Go Go.Ab Go.Dk
noncomputable def L_spec_l1Count_0 (n c : Nat) (v0 v1 v2 v3 v4 : Int) (v5 : List T) : OR := runLoop Tryz.prog SS n 59 0 [1, 1, 0, 1, 0] [] c ⟨[anyV, .v (.one (.int .i64 v0)), .v (.one (.ptr 0 0)), anyV, anyV, .v (.one (.int .i64 v1)), .v (.one (.int .i64 v2)), anyV, anyV, anyV, anyV, anyV, anyV, anyV, anyV, anyV, anyV, anyV, anyV, anyV, anyV, anyV, anyV, anyV, anyV, anyV, anyV, anyV, anyV, anyV, anyV],
 [.cells [.int .i64 v3, .int .i64 v4, .fr (.ts v5)]]⟩
theorem L_spec_l1Count_0_eq (n c : Nat) (v0 v1 v2 v3 v4 : Int) (v5 : List T) : L_spec_l1Count_0 n (c + 1) v0 v1 v2 v3 v4 v5 =
 (cond (decide (v2 < (v5.length : Int)))
 (cond (decide (v1 ≤ v0))
 (cond (decide (0 ≤ v2))
 (v5[(v2 : Int).toNat]?.bind fun x0 =>
 ((FF n 59 [.agg [.int .i64 x0.k, .int .i64 x0.n, .fr (.ts x0.kids)], .one (.int .i64 (IntKind.i64.wrap (v0 - v1)))] []).bind fun x1 =>
 (rInt .i64 x1.1 fun x2 x3 =>
 (nilV x3 (nilO x1.2
 (L_spec_l1Count_0 n c v0 (IntKind.i64.wrap (v1 + x2)) (IntKind.i64.wrap (v2 + 1)) v3 v4 v5))))))
 none)
 (some ([.one (.int .i64 v1)], [])))
 (some ([.one (.int .i64 v1)], []))) := by kernel_rfl
theorem E_spec_l1Count (n : Nat) (v0 v1 : Int) (v2 : List T) (v3 : Int) : FF (n + 1) 59 [.agg [.int .i64 v0, .int .i64 v1, .fr (.ts v2)], .one (.int .i64 v3)] [] =
 L_spec_l1Count_0 n n v3 1 0 v0 v1 v2 := by kernel_rfl
theorem E_impl_isLetter (n : Nat) (v0 : Int) : FF (n + 1) 60 [.one (.int .u8 v0)] [] =
 (cond (decide (97 ≤ v0))
 (some ([.one (.bool (decide (v0 ≤ 122)))], []))
 (some ([.one (.bool false)], []))) := by kernel_rfl
theorem E_strings_IndexByte (n : Nat) (v0 : ByteArray) (v1 : Int) : FF (n + 1) 61 [.one (.str v0), .one (.int .u8 v1)] [] =
 ((FF n 102 [.one (.str v0), .one (.int .u8 v1)] []).bind fun x0 =>
 (rInt .i64 x0.1 fun x1 x2 =>
 (nilV x2 (nilO x0.2
 (some ([.one (.int .i64 x1)], [])))))) := by kernel_rfl
theorem E_strings_LastIndexByte (n : Nat) (v0 : ByteArray) (v1 : Int) : FF (n + 1) 62 [.one (.str v0), .one (.int .u8 v1)] [] =
 ((FF n 103 [.one (.str v0), .one (.int .u8 v1)] []).bind fun x0 =>
 (rInt .i64 x0.1 fun x1 x2 =>
 (nilV x2 (nilO x0.2
 (some ([.one (.int .i64 x1)], [])))))) := by kernel_rfl
theorem E_impl_variable (n : Nat) (v0 : Int) : FF (n + 1) 63 [.one (.int .i64 v0)] [] =
 some ([.agg [.int .i64 1, .int .i64 v0, .fr (.ts [])]], []) := by kernel_rfl
noncomputable def L_impl_kindAt_0 (n c : Nat) (v0 : ByteArray) (v1 : List ByteArray) (v2 v3 : Int) : OR := runLoop Tryz.prog SS n 64 0 [1, 1, 0, 1, 0] [] c ⟨[.v (.one (.str v0)), anyV, anyV, anyV, anyV, anyV, anyV, .v (.one (.fr (.ss v1))), .v (.one (.int .i64 v2)), .v (.one (.int .i64 v3)), anyV, anyV, anyV, anyV, anyV, anyV, anyV, anyV, anyV, anyV, anyV, anyV],
 []⟩
theorem L_impl_kindAt_0_eq (n c : Nat) (v0 : ByteArray) (v1 : List ByteArray) (v2 v3 : Int) : L_impl_kindAt_0 n (c + 1) v0 v1 v2 v3 =
 (cond (decide (v3 < v2))
 (cond (decide (0 ≤ v3))
 (v1[(v3 : Int).toNat]?.bind fun x0 =>
 (cond (decide (0 ≤ 0) && decide (0 < ((x0.size : Nat) : Int)))
 (cond (decide (0 ≤ 0) && decide (0 < ((v0.size : Nat) : Int)))
 (cond (decide (((byteAt x0 (0 : Int).toNat).toNat : Int) = ((byteAt v0 (0 : Int).toNat).toNat : Int)))
 (some ([.one (.int .i64 (IntKind.i64.wrap (1 + v3)))], []))
 (L_impl_kindAt_0 n c v0 v1 v2 (IntKind.i64.wrap (v3 + 1))))
 none)
 none))
 none)
 (some ([.one (.int .i64 (-1))], []))) := by kernel_rfl
theorem E_impl_kindAt (n : Nat) (v0 : ByteArray) : FF (n + 1) 64 [.one (.str v0)] [] =
 (cond (v0.toList == (bytesOf []).toList)
 (some ([.one (.int .i64 (-1))], []))
 ((FF n 70 [] []).bind fun x0 =>
 (rSs x0.1 fun x1 x2 =>
 (nilV x2 (nilO x0.2
 (L_impl_kindAt_0 n n v0 x1 ((x1.length : Int) : Int) 0)))))) := by kernel_rfl
theorem E_impl_sort (n : Nat) (v0 : Int) : FF (n + 1) 66 [.one (.int .i64 v0)] [] =
 some ([.agg [.int .i64 2, .int .i64 v0, .fr (.ts [])]], []) := by kernel_rfl
theorem E_strings_TrimPrefix (n : Nat) (v0 v1 : ByteArray) : FF (n + 1) 67 [.one (.str v0), .one (.str v1)] [] =
 ((FF n 105 [.one (.str v0), .one (.str v1)] []).bind fun x0 =>
 (rStr x0.1 fun x1 x2 =>
 (nilV x2 (nilO x0.2
 (some ([.one (.str x1)], [])))))) := by kernel_rfl
theorem E_impl_shapes (n : Nat) : FF (n + 1) 70 [] [] =
 some ([.one (.fr (.ss [(bytesOf [35]), (bytesOf [42]), (bytesOf [40, 46, 62, 46, 41]), (bytesOf [91, 46, 93, 46]), (bytesOf [40, 46, 32, 46, 41]), (bytesOf [78]), (bytesOf [48]), (bytesOf [43, 46]), (bytesOf [60, 46, 44, 46, 44, 46, 44, 46, 62]), (bytesOf [123, 46, 44, 46, 44, 46, 125]), (bytesOf [33, 46]), (bytesOf [64, 60, 46, 44, 46, 44, 46, 62]), (bytesOf [40, 46, 42, 46, 41]), (bytesOf [124, 46, 44, 46, 44, 46, 124]), (bytesOf [94, 46]), (bytesOf [95, 46])]))], []) := by kernel_rfl
theorem E_strings_CutPrefix (n : Nat) (v0 v1 : ByteArray) : FF (n + 1) 71 [.one (.str v0), .one (.str v1)] [] =
 ((FF n 108 [.one (.str v0), .one (.str v1)] []).bind fun x0 =>
 (rStr x0.1 fun x1 x2 =>
 (rBool x2 fun x3 x4 =>
 (nilV x4 (nilO x0.2
 (some ([.one (.str x1), .one (.bool x3)], []))))))) := by kernel_rfl
theorem E_impl_isBinder (n : Nat) (v0 : Int) : FF (n + 1) 72 [.one (.int .i64 v0)] [] =
 (cond (decide (v0 = 3))
 (some ([.one (.bool true)], []))
 (cond (decide (v0 = 4))
 (some ([.one (.bool true)], []))
 (some ([.one (.bool (decide (v0 = 13)))], [])))) := by kernel_rfl
theorem E_spec_l3Plus (n : Nat) : FF (n + 1) 73 [] [] =
 some ([.one (.str (bytesOf [91, 78, 93, 91, 78, 93, 60, 91, 78, 93, 78, 44, 35, 49, 44, 91, 78, 93, 91, 78, 93, 43, 35, 48, 44, 35, 48, 62]))], []) := by kernel_rfl
theorem E_spec_ParseTerm (n : Nat) (v0 : ByteArray) : FF (n + 1) 74 [.one (.str v0)] [] =
 ((FF n 52 [.one (.str v0), .one (.int .i64 0), .one (.int .i64 30)] []).bind fun x0 =>
 (rTerm x0.1 fun x1 x2 =>
 (rInt .i64 x2 fun x3 x4 =>
 (nilV x4 (nilO x0.2
 (cond (v0.toList == (bytesOf []).toList)
 (some ([.agg [.int .i64 0, .int .i64 0, .fr (.ts [])], .one (.bool false)], []))
 (cond (!decide (x3 = (v0.size : Int)))
 (some ([.agg [.int .i64 0, .int .i64 0, .fr (.ts [])], .one (.bool false)], []))
 ((FF n 109 [.agg [.int .i64 x1.k, .int .i64 x1.n, .fr (.ts x1.kids)]] []).bind fun x5 =>
 (rStr x5.1 fun x6 x7 =>
 (nilV x7 (nilO x5.2
 (cond (!(x6.toList == v0.toList))
 (some ([.agg [.int .i64 0, .int .i64 0, .fr (.ts [])], .one (.bool false)], []))
 (some ([.agg [.int .i64 x1.k, .int .i64 x1.n, .fr (.ts x1.kids)], .one (.bool true)], [])))))))))))))) := by kernel_rfl
theorem E_spec_l1Any (n : Nat) (v0 : List UInt8) (v1 : Int) : FF (n + 1) 75 [.one (.ptr 0 0)] [.cells [.fr (.bs v0), .int .i64 v1]] =
 ((FF n 84 [.one (.ptr 0 0), .one (.fr (.is [3, 4, 2, 3, 1]))] [.cells [.fr (.bs v0), .int .i64 v1]]).bind fun x0 =>
 (objC x0.2 fun x1 x2 =>
 (bsC x1 fun x3 x4 =>
 (intC .i64 x4 fun x5 x6 =>
 (nilC x6
 (rInt .i64 x0.1 fun x7 x8 =>
 (nilV x8 (nilO x2
 ((FF n 110 [.one (.ptr 0 0), .one (.int .i64 x7)] [.cells [.fr (.bs x3), .int .i64 x5]]).bind fun x9 =>
 (objC x9.2 fun x10 x11 =>
 (bsC x10 fun x12 x13 =>
 (intC .i64 x13 fun x14 x15 =>
 (nilC x15
 (rTerm x9.1 fun x16 x17 =>
 (nilV x17 (nilO x11
 ((FF n 26 [.agg [.int .i64 x16.k, .int .i64 x16.n, .fr (.ts x16.kids)]] []).bind fun x18 =>
 (rBool x18.1 fun x19 x20 =>
 (nilV x20 (nilO x18.2
 (cond x19
 (some ([.agg [.int .i64 x16.k, .int .i64 x16.n, .fr (.ts x16.kids)]], [.cells [.fr (.bs x12), .int .i64 x14]]))
 ((FF n 56 [.one (.int .i64 7), .one (.int .i64 0)] []).bind fun x21 =>
 (rTerm x21.1 fun x22 x23 =>
 (nilV x23 (nilO x21.2
 (some ([.agg [.int .i64 x22.k, .int .i64 x22.n, .fr (.ts x22.kids)]], [.cells [.fr (.bs x12), .int .i64 x14]]))))))))))))))))))))))))))) := by kernel_rfl
noncomputable def L_impl_free_impl_maxFree_1_0 (n c : Nat) (v0 : Int) (v1 : List T) (v2 v3 v4 v5 v6 : Int) (v7 : List T) : OR := runLoop Tryz.prog SS n 76 1 [1, 1, 1, 0] [] c ⟨[anyV, .v (.one (.int .i64 v0)), .v (.one (.fn 77 [0])), .v (.one (.ptr 1 0)), anyV, anyV, anyV, anyV, anyV, anyV, anyV, anyV, anyV, anyV, anyV, anyV, anyV, anyV, anyV, anyV, anyV, anyV, anyV, anyV, .v (.one (.fr (.ts v1))), .v (.one (.int .i64 v2)), .v (.one (.int .i64 v3)), anyV, anyV, anyV, anyV, anyV, anyV, anyV, anyV, anyV, anyV, anyV, anyV, anyV, anyV],
 [.cells [.int .i64 v4], .cells [.int .i64 v5, .int .i64 v6, .fr (.ts v7)]]⟩
theorem L_impl_free_impl_maxFree_1_0_eq (n c : Nat) (v0 : Int) (v1 : List T) (v2 v3 v4 v5 v6 : Int) (v7 : List T) : L_impl_free_impl_maxFree_1_0 n (c + 1) v0 v1 v2 v3 v4 v5 v6 v7 =
 (cond (decide (v3 < v2))
 (cond (decide (0 ≤ v3))
 (v1[(v3 : Int).toNat]?.bind fun x0 =>
 ((FF n 78 [.one (.int .i64 v5), .one (.int .i64 v3)] []).bind fun x1 =>
 (rInt .i64 x1.1 fun x2 x3 =>
 (nilV x3 (nilO x1.2
 ((FF n 76 [.agg [.int .i64 x0.k, .int .i64 x0.n, .fr (.ts x0.kids)], .one (.int .i64 (IntKind.i64.wrap (v0 + x2))), .one (.fn 77 [0])] [.cells [.int .i64 v4]]).bind fun x4 =>
 (objC x4.2 fun x5 x6 =>
 (intC .i64 x5 fun x7 x8 =>
 (nilC x8
 (nilV x4.1 (nilO x6
 (L_impl_free_impl_maxFree_1_0 n c v0 v1 v2 (IntKind.i64.wrap (v3 + 1)) x7 v5 v6 v7))))))))))))
 none)
 (some ([], [.cells [.int .i64 v4]]))) := by kernel_rfl
theorem E_impl_free_impl_maxFree_1 (n : Nat) (v0 v1 : Int) (v2 : List T) (v3 v4 : Int) : FF (n + 1) 76 [.agg [.int .i64 v0, .int .i64 v1, .fr (.ts v2)], .one (.int .i64 v3), .one (.fn 77 [0])] [.cells [.int .i64 v4]] =
 (cond (decide (v0 = 1))
 (cond (decide (v3 ≤ v1))
 ((FF n 77 [.one (.int .i64 (IntKind.i64.wrap (v1 - v3))), .one (.ptr 0 0)] [.cells [.int .i64 v4]]).bind fun x0 =>
 (objC x0.2 fun x1 x2 =>
 (intC .i64 x1 fun x3 x4 =>
 (nilC x4
 (nilV x0.1 (nilO x2
 (L_impl_free_impl_maxFree_1_0 n n v3 v2 ((v2.length : Int) : Int) 0 x3 v0 v1 v2)))))))
 (L_impl_free_impl_maxFree_1_0 n n v3 v2 ((v2.length : Int) : Int) 0 v4 v0 v1 v2))
 (L_impl_free_impl_maxFree_1_0 n n v3 v2 ((v2.length : Int) : Int) 0 v4 v0 v1 v2)) := by kernel_rfl
theorem E_impl_under (n : Nat) (v0 v1 : Int) : FF (n + 1) 78 [.one (.int .i64 v0), .one (.int .i64 v1)] [] =
 (cond (decide (v1 = 1))
 ((FF n 72 [.one (.int .i64 v0)] []).bind fun x0 =>
 (rBool x0.1 fun x1 x2 =>
 (nilV x2 (nilO x0.2
 (cond x1
 (some ([.one (.int .i64 1)], []))
 (some ([.one (.int .i64 0)], [])))))))
 (some ([.one (.int .i64 0)], []))) := by kernel_rfl
noncomputable def L_impl_termText_0 (n c : Nat) (v0 : List ByteArray) (v1 : ByteArray) (v2 : List T) (v3 v4 : Int) : OR := runLoop Tryz.prog SS n 79 0 [1, 1, 1, 1, 1, 0, 1, 0] [] c ⟨[anyV, anyV, anyV, anyV, .v (.one (.fr (.ss v0))), .v (.one (.str v1)), anyV, anyV, anyV, anyV, anyV, anyV, anyV, anyV, anyV, anyV, anyV, anyV, anyV, anyV, anyV, anyV, anyV, anyV, anyV, anyV, anyV, anyV, anyV, anyV, anyV, anyV, anyV, .v (.one (.fr (.ts v2))), .v (.one (.int .i64 v3)), .v (.one (.int .i64 v4)), anyV, anyV, anyV, anyV, anyV, anyV, anyV, anyV, anyV, anyV, anyV, anyV, anyV, anyV, anyV, anyV],
 []⟩
theorem E_impl_termText (n : Nat) (v0 v1 : Int) (v2 : List T) : FF (n + 1) 79 [.agg [.int .i64 v0, .int .i64 v1, .fr (.ts v2)]] [] =
 ((FF n 70 [] []).bind fun x0 =>
 (rSs x0.1 fun x1 x2 =>
 (nilV x2 (nilO x0.2
 (cond (decide (0 ≤ (IntKind.i64.wrap (v0 - 1))))
 (x1[((IntKind.i64.wrap (v0 - 1)) : Int).toNat]?.bind fun x3 =>
 (cond (decide (v0 = 1))
 ((FF n 68 [.one (.int .i64 v1)] []).bind fun x4 =>
 (rStr x4.1 fun x5 x6 =>
 (nilV x6 (nilO x4.2
 (cond (decide (x3.size + x5.size ≤ 9223372036854775807))
 (some ([.one (.str (x3 ++ x5))], []))
 none)))))
 (cond (decide (v0 = 2))
 ((FF n 68 [.one (.int .i64 v1)] []).bind fun x4 =>
 (rStr x4.1 fun x5 x6 =>
 (nilV x6 (nilO x4.2
 (cond (decide (x3.size + x5.size ≤ 9223372036854775807))
 (some ([.one (.str (x3 ++ x5))], []))
 none)))))
 ((FF n 69 [.one (.str x3), .one (.str (bytesOf [46]))] []).bind fun x4 =>
 (rSs x4.1 fun x5 x6 =>
 (nilV x6 (nilO x4.2
 (x5[(0 : Int).toNat]?.bind fun x7 =>
 L_impl_termText_0 n n x5 x7 v2 ((v2.length : Int) : Int) 0))))))))
 none))))) := by kernel_rfl
noncomputable def L_impl_fresh_0 (n c : Nat) (v0 : ByteArray) (v1 : Int) : OR := runLoop Tryz.prog SS n 80 0 [1, 0, 1, 0] [] c ⟨[.v (.one (.str v0)), anyV, anyV, .v (.one (.int .u8 v1)), anyV, anyV, anyV, anyV, anyV, anyV, anyV, anyV, anyV, anyV, anyV],
 []⟩
theorem L_impl_fresh_0_eq (n c : Nat) (v0 : ByteArray) (v1 : Int) : L_impl_fresh_0 n (c + 1) v0 v1 =
 (cond (decide (v1 < 122))
 ((FF n 61 [.one (.str v0), .one (.int .u8 v1)] []).bind fun x0 =>
 (rInt .i64 x0.1 fun x1 x2 =>
 (nilV x2 (nilO x0.2
 (cond (decide (x1 < 0))
 (cond (decide (0 ≤ v1) && decide (v1 ≤ 255))
 (some ([.one (.str (ByteArray.mk ([(UInt8.ofNat v1.toNat)]).toArray))], []))
 none)
 (L_impl_fresh_0 n c v0 (IntKind.u8.wrap (v1 + 1))))))))
 (some ([.one (.str (bytesOf [122]))], []))) := by kernel_rfl
theorem E_impl_fresh (n : Nat) (v0 : ByteArray) : FF (n + 1) 80 [.one (.str v0)] [] =
 L_impl_fresh_0 n n v0 97 := by kernel_rfl
theorem E_impl_operands (n : Nat) (v0 : Int) : FF (n + 1) 81 [.one (.int .i64 v0)] [] =
 ((FF n 82 [.one (.int .i64 v0), .one (.int .i64 1), .one (.int .i64 16)] []).bind fun x0 =>
 (rBool x0.1 fun x1 x2 =>
 (nilV x2 (nilO x0.2
 (cond (!x1)
 (some ([.one (.int .i64 (-1))], []))
 (cond (decide (0 ≤ (IntKind.i64.wrap (v0 - 1))))
 (cond (decide ((IntKind.i64.wrap (v0 - 1)) < (([0, 0, 2, 2, 2, 0, 0, 1, 4, 3, 1, 3, 2, 3, 1, 1]).length : Int)))
 (([0, 0, 2, 2, 2, 0, 0, 1, 4, 3, 1, 3, 2, 3, 1, 1])[((IntKind.i64.wrap (v0 - 1)) : Int).toNat]?.bind fun x3 =>
 some ([.one (.int .i64 x3)], []))
 none)
 none)))))) := by kernel_rfl
theorem E_impl_most (n : Nat) (v0 : Int) : FF (n + 1) 83 [.one (.int .i64 v0)] [] =
 (cond (decide (v0 = 1))
 (some ([.one (.int .i64 20)], []))
 (cond (decide (v0 = 2))
 (some ([.one (.int .i64 3)], []))
 (some ([.one (.int .i64 0)], [])))) := by kernel_rfl
theorem E_impl_within (n : Nat) (v0 v1 v2 : Int) : FF (n + 1) 82 [.one (.int .i64 v0), .one (.int .i64 v1), .one (.int .i64 v2)] [] =
 (cond (decide (v1 ≤ v0))
 (some ([.one (.bool (decide (v0 ≤ v2)))], []))
 (some ([.one (.bool false)], []))) := by kernel_rfl
theorem E_spec_l19Rd_num (n : Nat) (v0 : List Int) (v1 : List UInt8) (v2 : Int) : FF (n + 1) 84 [.one (.ptr 0 0), .one (.fr (.is v0))] [.cells [.fr (.bs v1), .int .i64 v2]] =
 ((FF n 42 [.one (.ptr 0 0), .one (.int .i64 (v0.length : Int))] [.cells [.fr (.bs v1), .int .i64 v2]]).bind fun x0 =>
 (objC x0.2 fun x1 x2 =>
 (bsC x1 fun x3 x4 =>
 (intC .i64 x4 fun x5 x6 =>
 (nilC x6
 (rInt .i64 x0.1 fun x7 x8 =>
 (nilV x8 (nilO x2
 (cond (decide (0 ≤ x7))
 (v0[(x7 : Int).toNat]?.bind fun x9 =>
 some ([.one (.int .i64 x9)], [.cells [.fr (.bs x3), .int .i64 x5]]))
 none))))))))) := by kernel_rfl
theorem E_spec_l5Pairs (n : Nat) (v0 : Int) : FF (n + 1) 86 [.one (.int .i64 v0)] [] =
 (cond (decide (v0 = 0))
 (some ([.one (.fr (.ss [])), .one (.fr (.ss [(bytesOf [91, 42, 48, 93, 91, 35, 48, 93, 35, 48]), (bytesOf [91, 78, 93, 33, 35, 48]), (bytesOf [91, 78, 93, 91, 78, 93, 60, 91, 78, 93, 78, 44, 35, 49, 44, 91, 78, 93, 91, 78, 93, 43, 35, 48, 44, 35, 48, 62]), (bytesOf [40, 78, 62, 42, 48, 41]), (bytesOf [40, 91, 42, 48, 93, 91, 35, 48, 93, 35, 48, 32, 78, 41]), (bytesOf [91, 40, 78, 42, 78, 41, 93, 124, 40, 78, 42, 78, 41, 44, 95, 35, 48, 44, 94, 35, 48, 124]), (bytesOf [91, 78, 93, 124, 40, 78, 42, 123, 78, 44, 35, 48, 44, 35, 49, 125, 41, 44, 35, 48, 44, 33, 35, 48, 124]), (bytesOf [91, 78, 93, 91, 78, 93, 91, 123, 78, 44, 35, 49, 44, 35, 48, 125, 93, 64, 60, 91, 78, 93, 123, 78, 44, 35, 48, 44, 35, 51, 125, 44, 35, 48, 44, 33, 35, 50, 62]), (bytesOf [60, 91, 78, 93, 42, 48, 44, 78, 44, 91, 78, 93, 91, 42, 48, 93, 40, 78, 62, 35, 49, 41, 44, 43, 43, 48, 62]), (bytesOf [40, 42, 48, 62, 40, 35, 48, 62, 35, 49, 41, 41]), (bytesOf [91, 42, 48, 93, 91, 40, 35, 48, 62, 35, 49, 41, 93, 35, 48]), (bytesOf [42, 50])]))], []))
 (cond (decide (v0 = 1))
 (some ([.one (.fr (.ss [(bytesOf [42, 48]), (bytesOf [35, 48]), (bytesOf [40, 35, 49, 62, 35, 50, 41])])), .one (.fr (.ss [(bytesOf [40, 35, 48, 32, 35, 49, 41]), (bytesOf [33, 35, 49]), (bytesOf [123, 35, 50, 44, 35, 49, 44, 40, 35, 48, 32, 35, 49, 41, 125]), (bytesOf [91, 35, 50, 93, 35, 49]), (bytesOf [124, 40, 35, 50, 42, 35, 51, 41, 44, 35, 49, 44, 40, 35, 48, 32, 35, 49, 41, 124]), (bytesOf [91, 123, 35, 50, 44, 35, 49, 44, 40, 35, 48, 32, 35, 49, 41, 125, 93, 64, 60, 91, 35, 51, 93, 35, 52, 44, 35, 48, 44, 35, 50, 62])]))], []))
 (cond (decide (v0 = 2))
 (some ([.one (.fr (.ss [(bytesOf [78]), (bytesOf [123, 78, 44, 35, 48, 44, 43, 48, 125])])), .one (.fr (.ss [(bytesOf [35, 48]), (bytesOf [64, 60, 91, 78, 93, 123, 78, 44, 43, 35, 50, 44, 43, 35, 48, 125, 44, 35, 48, 44, 33, 43, 35, 49, 62]), (bytesOf [43, 35, 49]), (bytesOf [64, 60, 91, 78, 93, 78, 44, 35, 48, 44, 35, 49, 62]), (bytesOf [60, 91, 78, 93, 78, 44, 48, 44, 91, 78, 93, 91, 78, 93, 35, 49, 44, 35, 49, 62])]))], []))
 (some ([.one (.fr (.ss [(bytesOf [40, 78, 62, 42, 48, 41]), (bytesOf [40, 78, 62, 40, 35, 49, 32, 35, 48, 41, 41])])), .one (.fr (.ss [(bytesOf [40, 35, 48, 32, 48, 41]), (bytesOf [91, 78, 93, 40, 35, 49, 32, 35, 48, 41]), (bytesOf [40, 35, 49, 32, 43, 43, 48, 41]), (bytesOf [91, 78, 93, 91, 123, 78, 44, 35, 48, 44, 48, 125, 93, 64, 60, 35, 51, 44, 35, 48, 44, 40, 35, 50, 32, 35, 49, 41, 62])]))], []))))) := by kernel_rfl
noncomputable def L_spec_l5Read_0 (n c : Nat) (v0 : List ByteArray) (v1 : Int) (v2 : List T) : OR := runLoop Tryz.prog SS n 87 0 [1, 1, 0, 1, 0] [] c ⟨[.v (.one (.fr (.ss v0))), anyV, anyV, .v (.one (.own 0 0)), .v (.one (.int .i64 v1)), anyV, anyV, anyV, anyV, anyV, anyV, anyV, anyV, anyV, anyV, anyV, anyV, anyV, anyV, anyV, anyV, anyV, anyV, anyV, anyV, anyV, anyV, anyV],
 [.arr 24 (.ts v2) 0 false]⟩
theorem L_spec_l5Read_0_eq (n c : Nat) (v0 : List ByteArray) (v1 : Int) (v2 : List T) : L_spec_l5Read_0 n (c + 1) v0 v1 v2 =
 (cond (decide (v1 < (v0.length : Int)))
 (cond (decide (0 ≤ v1))
 (v0[(v1 : Int).toNat]?.bind fun x0 =>
 ((FF n 74 [.one (.str x0)] []).bind fun x1 =>
 (rTerm x1.1 fun x2 x3 =>
 (rBool x3 fun x4 x5 =>
 (nilV x5 (nilO x1.2
 (cond x4
 (cond (roomB (v2 ++ [(T.mk x2.k x2.n x2.kids)]).length)
 (L_spec_l5Read_0 n c v0 (IntKind.i64.wrap (v1 + 1)) (v2 ++ [(T.mk x2.k x2.n x2.kids)]))
 none)
 (L_spec_l5Read_0 n c v0 (IntKind.i64.wrap (v1 + 1)) v2))))))))
 none)
 (some ([.one (.fr (.ts v2))], []))) := by kernel_rfl
theorem E_spec_l5Read (n : Nat) (v0 : List ByteArray) : FF (n + 1) 87 [.one (.fr (.ss v0))] [] =
 L_spec_l5Read_0 n n v0 0 ([]) := by kernel_rfl
theorem E_spec_l5Nat (n : Nat) (v0 v1 : Int) (v2 : List UInt8) (v3 : Int) : FF (n + 1) 85 [.one (.ptr 0 0), .one (.int .i64 v0), .one (.int .i64 v1)] [.cells [.fr (.bs v2), .int .i64 v3]] =
 ((FF n 56 [.one (.int .i64 7), .one (.int .i64 0)] []).bind fun x0 =>
 (rTerm x0.1 fun x1 x2 =>
 (nilV x2 (nilO x0.2
 ((FF n 56 [.one (.int .i64 6), .one (.int .i64 0)] []).bind fun x3 =>
 (rTerm x3.1 fun x4 x5 =>
 (nilV x5 (nilO x3.2
 (cond (decide (v1 < 1))
 (cond (decide (0 < v0))
 ((FF n 42 [.one (.ptr 0 0), .one (.int .i64 2)] [.cells [.fr (.bs v2), .int .i64 v3]]).bind fun x6 =>
 (objC x6.2 fun x7 x8 =>
 (bsC x7 fun x9 x10 =>
 (intC .i64 x10 fun x11 x12 =>
 (nilC x12
 (rInt .i64 x6.1 fun x13 x14 =>
 (nilV x14 (nilO x8
 (cond (decide (x13 = 0))
 ((FF n 42 [.one (.ptr 0 0), .one (.int .i64 v0)] [.cells [.fr (.bs x9), .int .i64 x11]]).bind fun x15 =>
 (objC x15.2 fun x16 x17 =>
 (bsC x16 fun x18 x19 =>
 (intC .i64 x19 fun x20 x21 =>
 (nilC x21
 (rInt .i64 x15.1 fun x22 x23 =>
 (nilV x23 (nilO x17
 ((FF n 56 [.one (.int .i64 1), .one (.int .i64 x22)] []).bind fun x24 =>
 (rTerm x24.1 fun x25 x26 =>
 (nilV x26 (nilO x24.2
 (some ([.agg [.int .i64 x25.k, .int .i64 x25.n, .fr (.ts x25.kids)]], [.cells [.fr (.bs x18), .int .i64 x20]]))))))))))))))
 (some ([.agg [.int .i64 x1.k, .int .i64 x1.n, .fr (.ts x1.kids)]], [.cells [.fr (.bs x9), .int .i64 x11]])))))))))))
 (some ([.agg [.int .i64 x1.k, .int .i64 x1.n, .fr (.ts x1.kids)]], [.cells [.fr (.bs v2), .int .i64 v3]])))
 ((FF n 42 [.one (.ptr 0 0), .one (.int .i64 7)] [.cells [.fr (.bs v2), .int .i64 v3]]).bind fun x6 =>
 (objC x6.2 fun x7 x8 =>
 (bsC x7 fun x9 x10 =>
 (intC .i64 x10 fun x11 x12 =>
 (nilC x12
 (rInt .i64 x6.1 fun x13 x14 =>
 (nilV x14 (nilO x8
 (cond (decide (x13 = 0))
 ((FF n 85 [.one (.ptr 0 0), .one (.int .i64 (IntKind.i64.wrap (v0 + 1))), .one (.int .i64 (IntKind.i64.wrap (v1 - 1)))] [.cells [.fr (.bs x9), .int .i64 x11]]).bind fun x15 =>
 (objC x15.2 fun x16 x17 =>
 (bsC x16 fun x18 x19 =>
 (intC .i64 x19 fun x20 x21 =>
 (nilC x21
 (rTerm x15.1 fun x22 x23 =>
 (nilV x23 (nilO x17
 ((FF n 53 [.one (.int .i64 4), .one (.fr (.ts [(T.mk x4.k x4.n x4.kids), (T.mk x22.k x22.n x22.kids)]))] []).bind fun x24 =>
 (rTerm x24.1 fun x25 x26 =>
 (nilV x26 (nilO x24.2
 ((FF n 85 [.one (.ptr 0 0), .one (.int .i64 v0), .one (.int .i64 (IntKind.i64.wrap (v1 - 1)))] [.cells [.fr (.bs x18), .int .i64 x20]]).bind fun x27 =>
 (objC x27.2 fun x28 x29 =>
 (bsC x28 fun x30 x31 =>
 (intC .i64 x31 fun x32 x33 =>
 (nilC x33
 (rTerm x27.1 fun x34 x35 =>
 (nilV x35 (nilO x29
 ((FF n 53 [.one (.int .i64 5), .one (.fr (.ts [(T.mk x25.k x25.n x25.kids), (T.mk x34.k x34.n x34.kids)]))] []).bind fun x36 =>
 (rTerm x36.1 fun x37 x38 =>
 (nilV x38 (nilO x36.2
 (some ([.agg [.int .i64 x37.k, .int .i64 x37.n, .fr (.ts x37.kids)]], [.cells [.fr (.bs x30), .int .i64 x32]]))))))))))))))))))))))))))
 (cond (decide (x13 = 1))
 ((FF n 85 [.one (.ptr 0 0), .one (.int .i64 (IntKind.i64.wrap (v0 + 2))), .one (.int .i64 (IntKind.i64.wrap (v1 - 2)))] [.cells [.fr (.bs x9), .int .i64 x11]]).bind fun x15 =>
 (objC x15.2 fun x16 x17 =>
 (bsC x16 fun x18 x19 =>
 (intC .i64 x19 fun x20 x21 =>
 (nilC x21
 (rTerm x15.1 fun x22 x23 =>
 (nilV x23 (nilO x17
 ((FF n 53 [.one (.int .i64 4), .one (.fr (.ts [(T.mk x4.k x4.n x4.kids), (T.mk x22.k x22.n x22.kids)]))] []).bind fun x24 =>
 (rTerm x24.1 fun x25 x26 =>
 (nilV x26 (nilO x24.2
 ((FF n 53 [.one (.int .i64 4), .one (.fr (.ts [(T.mk x4.k x4.n x4.kids), (T.mk x25.k x25.n x25.kids)]))] []).bind fun x27 =>
 (rTerm x27.1 fun x28 x29 =>
 (nilV x29 (nilO x27.2
 ((FF n 53 [.one (.int .i64 4), .one (.fr (.ts [(T.mk x4.k x4.n x4.kids), (T.mk x4.k x4.n x4.kids)]))] []).bind fun x30 =>
 (rTerm x30.1 fun x31 x32 =>
 (nilV x32 (nilO x30.2
 ((FF n 85 [.one (.ptr 0 0), .one (.int .i64 v0), .one (.int .i64 (IntKind.i64.wrap (v1 - 2)))] [.cells [.fr (.bs x18), .int .i64 x20]]).bind fun x33 =>
 (objC x33.2 fun x34 x35 =>
 (bsC x34 fun x36 x37 =>
 (intC .i64 x37 fun x38 x39 =>
 (nilC x39
 (rTerm x33.1 fun x40 x41 =>
 (nilV x41 (nilO x35
 ((FF n 85 [.one (.ptr 0 0), .one (.int .i64 v0), .one (.int .i64 (IntKind.i64.wrap (v1 - 1)))] [.cells [.fr (.bs x36), .int .i64 x38]]).bind fun x42 =>
 (objC x42.2 fun x43 x44 =>
 (bsC x43 fun x45 x46 =>
 (intC .i64 x46 fun x47 x48 =>
 (nilC x48
 (rTerm x42.1 fun x49 x50 =>
 (nilV x50 (nilO x44
 ((FF n 53 [.one (.int .i64 9), .one (.fr (.ts [(T.mk x31.k x31.n x31.kids), (T.mk x40.k x40.n x40.kids), (T.mk x28.k x28.n x28.kids), (T.mk x49.k x49.n x49.kids)]))] []).bind fun x51 =>
 (rTerm x51.1 fun x52 x53 =>
 (nilV x53 (nilO x51.2
 (some ([.agg [.int .i64 x52.k, .int .i64 x52.n, .fr (.ts x52.kids)]], [.cells [.fr (.bs x45), .int .i64 x47]]))))))))))))))))))))))))))))))))))))))))))
 (cond (decide (x13 = 2))
 ((FF n 53 [.one (.int .i64 13), .one (.fr (.ts [(T.mk x4.k x4.n x4.kids), (T.mk x4.k x4.n x4.kids)]))] []).bind fun x15 =>
 (rTerm x15.1 fun x16 x17 =>
 (nilV x17 (nilO x15.2
 ((FF n 85 [.one (.ptr 0 0), .one (.int .i64 v0), .one (.int .i64 (IntKind.i64.wrap (v1 - 1)))] [.cells [.fr (.bs x9), .int .i64 x11]]).bind fun x18 =>
 (objC x18.2 fun x19 x20 =>
 (bsC x19 fun x21 x22 =>
 (intC .i64 x22 fun x23 x24 =>
 (nilC x24
 (rTerm x18.1 fun x25 x26 =>
 (nilV x26 (nilO x20
 ((FF n 85 [.one (.ptr 0 0), .one (.int .i64 v0), .one (.int .i64 (IntKind.i64.wrap (v1 - 2)))] [.cells [.fr (.bs x21), .int .i64 x23]]).bind fun x27 =>
 (objC x27.2 fun x28 x29 =>
 (bsC x28 fun x30 x31 =>
 (intC .i64 x31 fun x32 x33 =>
 (nilC x33
 (rTerm x27.1 fun x34 x35 =>
 (nilV x35 (nilO x29
 ((FF n 53 [.one (.int .i64 14), .one (.fr (.ts [(T.mk x16.k x16.n x16.kids), (T.mk x25.k x25.n x25.kids), (T.mk x34.k x34.n x34.kids)]))] []).bind fun x36 =>
 (rTerm x36.1 fun x37 x38 =>
 (nilV x38 (nilO x36.2
 ((FF n 84 [.one (.ptr 0 0), .one (.fr (.is [15, 16]))] [.cells [.fr (.bs x30), .int .i64 x32]]).bind fun x39 =>
 (objC x39.2 fun x40 x41 =>
 (bsC x40 fun x42 x43 =>
 (intC .i64 x43 fun x44 x45 =>
 (nilC x45
 (rInt .i64 x39.1 fun x46 x47 =>
 (nilV x47 (nilO x41
 ((FF n 53 [.one (.int .i64 x46), .one (.fr (.ts [(T.mk x37.k x37.n x37.kids)]))] []).bind fun x48 =>
 (rTerm x48.1 fun x49 x50 =>
 (nilV x50 (nilO x48.2
 (some ([.agg [.int .i64 x49.k, .int .i64 x49.n, .fr (.ts x49.kids)]], [.cells [.fr (.bs x42), .int .i64 x44]]))))))))))))))))))))))))))))))))))))))
 (cond (decide (x13 = 3))
 ((FF n 53 [.one (.int .i64 4), .one (.fr (.ts [(T.mk x4.k x4.n x4.kids), (T.mk x4.k x4.n x4.kids)]))] []).bind fun x15 =>
 (rTerm x15.1 fun x16 x17 =>
 (nilV x17 (nilO x15.2
 ((FF n 85 [.one (.ptr 0 0), .one (.int .i64 v0), .one (.int .i64 (IntKind.i64.wrap (v1 - 2)))] [.cells [.fr (.bs x9), .int .i64 x11]]).bind fun x18 =>
 (objC x18.2 fun x19 x20 =>
 (bsC x19 fun x21 x22 =>
 (intC .i64 x22 fun x23 x24 =>
 (nilC x24
 (rTerm x18.1 fun x25 x26 =>
 (nilV x26 (nilO x20
 ((FF n 53 [.one (.int .i64 11), .one (.fr (.ts [(T.mk x25.k x25.n x25.kids)]))] []).bind fun x27 =>
 (rTerm x27.1 fun x28 x29 =>
 (nilV x29 (nilO x27.2
 ((FF n 85 [.one (.ptr 0 0), .one (.int .i64 v0), .one (.int .i64 (IntKind.i64.wrap (v1 - 1)))] [.cells [.fr (.bs x21), .int .i64 x23]]).bind fun x30 =>
 (objC x30.2 fun x31 x32 =>
 (bsC x31 fun x33 x34 =>
 (intC .i64 x34 fun x35 x36 =>
 (nilC x36
 (rTerm x30.1 fun x37 x38 =>
 (nilV x38 (nilO x32
 ((FF n 53 [.one (.int .i64 12), .one (.fr (.ts [(T.mk x16.k x16.n x16.kids), (T.mk x28.k x28.n x28.kids), (T.mk x37.k x37.n x37.kids)]))] []).bind fun x39 =>
 (rTerm x39.1 fun x40 x41 =>
 (nilV x41 (nilO x39.2
 (some ([.agg [.int .i64 x40.k, .int .i64 x40.n, .fr (.ts x40.kids)]], [.cells [.fr (.bs x33), .int .i64 x35]]))))))))))))))))))))))))))))))
 (cond (decide (x13 = 4))
 ((FF n 85 [.one (.ptr 0 0), .one (.int .i64 v0), .one (.int .i64 0)] [.cells [.fr (.bs x9), .int .i64 x11]]).bind fun x15 =>
 (objC x15.2 fun x16 x17 =>
 (bsC x16 fun x18 x19 =>
 (intC .i64 x19 fun x20 x21 =>
 (nilC x21
 (rTerm x15.1 fun x22 x23 =>
 (nilV x23 (nilO x17
 (some ([.agg [.int .i64 x22.k, .int .i64 x22.n, .fr (.ts x22.kids)]], [.cells [.fr (.bs x18), .int .i64 x20]]))))))))))
 ((FF n 85 [.one (.ptr 0 0), .one (.int .i64 v0), .one (.int .i64 (IntKind.i64.wrap (v1 - 1)))] [.cells [.fr (.bs x9), .int .i64 x11]]).bind fun x15 =>
 (objC x15.2 fun x16 x17 =>
 (bsC x16 fun x18 x19 =>
 (intC .i64 x19 fun x20 x21 =>
 (nilC x21
 (rTerm x15.1 fun x22 x23 =>
 (nilV x23 (nilO x17
 ((FF n 53 [.one (.int .i64 8), .one (.fr (.ts [(T.mk x22.k x22.n x22.kids)]))] []).bind fun x24 =>
 (rTerm x24.1 fun x25 x26 =>
 (nilV x26 (nilO x24.2
 (some ([.agg [.int .i64 x25.k, .int .i64 x25.n, .fr (.ts x25.kids)]], [.cells [.fr (.bs x18), .int .i64 x20]])))))))))))))))))))))))))))))))))))) := by kernel_rfl
noncomputable def L_spec_l1Copy_0_foo (n c : Nat) (v0 v1 v2 : Int) (v3 : List T) (v4 v5 : Int) (v6 : List T) (v7 v8 : Int) (v9 : List T) : OR := runLoop Tryz.prog SS n 88 0 [1, 1, 0, 1, 0] [] c ⟨[anyV, .v (.one (.ptr 0 0)), .v (.one (.ptr 1 0)), .v (.one (.ptr 3 0)), .v (.one (.int .i64 v0)), anyV, anyV, anyV, anyV, anyV, anyV, anyV, anyV, anyV, anyV, anyV, anyV, anyV, anyV, anyV, anyV, anyV, anyV, anyV, anyV, anyV, anyV, anyV, anyV],
 [.cells [.int .i64 v1, .int .i64 v2, .fr (.ts v3)], .cells [.int .i64 v4, .int .i64 v5, .own 2 0], .arr 24 (.ts v6) 0 false, .cells [.int .i64 v7, .int .i64 v8, .own 4 0], .arr 24 (.ts v9) 0 false]⟩
theorem L_spec_l1Copy_0_foo_eq (n c : Nat) (v0 v1 v2 : Int) (v3 : List T) (v4 v5 : Int) (v6 : List T) (v7 v8 : Int) (v9 : List T) : L_spec_l1Copy_0_foo n (c + 1) v0 v1 v2 v3 v4 v5 v6 v7 v8 v9 =
 (cond (decide (v0 < (v3.length : Int)))
 (cond (decide (0 ≤ v0))
 (v3[(v0 : Int).toNat]?.bind fun x0 =>
 ((FF n 88 [.agg [.int .i64 x0.k, .int .i64 x0.n, .fr (.ts x0.kids)]] []).bind fun x1 =>
 (rOwnT 0 x1.1 fun x2 x3 x4 =>
 (arrTsC 24 x1.2 fun x5 x6 =>
 (nilV x4 (nilO x6
 (cond (roomB (v9 ++ [(T.mk x2 x3 x5)]).length)
 (L_spec_l1Copy_0_foo n c (IntKind.i64.wrap (v0 + 1)) v1 v2 v3 v4 v5 v6 v7 v8 (v9 ++ [(T.mk x2 x3 x5)]))
 none)))))))
 none)
 (some ([.agg [.int .i64 v7, .int .i64 v8, .own 0 0]], [.arr 24 (.ts v9) 0 false]))) := by kernel_rfl
theorem E_spec_l1Copy (n : Nat) (v0 v1 : Int) (v2 : List T) : FF (n + 1) 88 [.agg [.int .i64 v0, .int .i64 v1, .fr (.ts v2)]] [] =
 L_spec_l1Copy_0_foo n n 0 v0 v1 v2 0 0 ([]) v0 v1 ([]) := by kernel_rfl
noncomputable def L_spec_l2Most_0 (n c : Nat) (v0 v1 v2 v3 v4 : Int) (v5 : List T) : OR := runLoop Tryz.prog SS n 89 0 [1, 1, 1, 0, 1, 0] [] c ⟨[anyV, .v (.one (.int .i64 v0)), .v (.one (.ptr 0 0)), anyV, anyV, .v (.one (.int .i64 v1)), .v (.one (.int .i64 v2)), anyV, anyV, anyV, anyV, anyV, anyV, anyV, anyV, anyV, anyV, anyV, anyV, anyV, anyV, anyV, anyV, anyV, anyV, anyV, anyV, anyV, anyV, anyV, anyV, anyV, anyV, anyV, anyV, anyV, anyV, anyV, anyV, anyV, anyV, anyV, anyV, anyV, anyV, anyV],
 [.cells [.int .i64 v3, .int .i64 v4, .fr (.ts v5)]]⟩
theorem L_spec_l2Most_0_eq (n c : Nat) (v0 v1 v2 v3 v4 : Int) (v5 : List T) : L_spec_l2Most_0 n (c + 1) v0 v1 v2 v3 v4 v5 =
 (cond (decide (v2 < (v5.length : Int)))
 (cond (decide (0 ≤ v2))
 (v5[(v2 : Int).toNat]?.bind fun x0 =>
 ((FF n 90 [.one (.int .i64 v3), .one (.int .i64 v2)] []).bind fun x1 =>
 (rInt .i64 x1.1 fun x2 x3 =>
 (nilV x3 (nilO x1.2
 ((FF n 89 [.agg [.int .i64 x0.k, .int .i64 x0.n, .fr (.ts x0.kids)], .one (.int .i64 (IntKind.i64.wrap (v0 + x2)))] []).bind fun x4 =>
 (rInt .i64 x4.1 fun x5 x6 =>
 (nilV x6 (nilO x4.2
 (cond (decide (v1 < x5))
 (L_spec_l2Most_0 n c v0 x5 (IntKind.i64.wrap (v2 + 1)) v3 v4 v5)
 (L_spec_l2Most_0 n c v0 v1 (IntKind.i64.wrap (v2 + 1)) v3 v4 v5)))))))))))
 none)
 (some ([.one (.int .i64 v1)], []))) := by kernel_rfl
theorem E_spec_l2Most (n : Nat) (v0 v1 : Int) (v2 : List T) (v3 : Int) : FF (n + 1) 89 [.agg [.int .i64 v0, .int .i64 v1, .fr (.ts v2)], .one (.int .i64 v3)] [] =
 (cond (decide (v0 = 1))
 (cond (decide (v3 ≤ v1))
 (L_spec_l2Most_0 n n v3 (IntKind.i64.wrap ((IntKind.i64.wrap (v1 - v3)) + 1)) 0 v0 v1 v2)
 (L_spec_l2Most_0 n n v3 0 0 v0 v1 v2))
 (L_spec_l2Most_0 n n v3 0 0 v0 v1 v2)) := by kernel_rfl
theorem E_spec_l2Under (n : Nat) (v0 v1 : Int) : FF (n + 1) 90 [.one (.int .i64 v0), .one (.int .i64 v1)] [] =
 ((FF n 111 [.one (.int .i64 v0), .one (.int .i64 v1)] []).bind fun x0 =>
 (rBool x0.1 fun x1 x2 =>
 (nilV x2 (nilO x0.2
 (cond x1
 (some ([.one (.int .i64 1)], []))
 (some ([.one (.int .i64 0)], []))))))) := by kernel_rfl
theorem E_spec_l6Bound (n : Nat) (v0 v1 : Int) (v2 : List T) (v3 : ByteArray) : FF (n + 1) 91 [.agg [.int .i64 v0, .int .i64 v1, .fr (.ts v2)], .one (.str v3)] [] =
 ((FF n 112 [.one (.str v3)] []).bind fun x0 =>
 (rInt .u8 x0.1 fun x1 x2 =>
 (nilV x2 (nilO x0.2
 (cond (decide (0 ≤ x1) && decide (x1 ≤ 255))
 (cond (decide ((ByteArray.mk ([(UInt8.ofNat x1.toNat)]).toArray).size + (bytesOf [58]).size ≤ 9223372036854775807))
 (v2[(0 : Int).toNat]?.bind fun x3 =>
 ((FF n 49 [.agg [.int .i64 x3.k, .int .i64 x3.n, .fr (.ts x3.kids)], .one (.str v3)] []).bind fun x4 =>
 (rStr x4.1 fun x5 x6 =>
 (nilV x6 (nilO x4.2
 (cond (decide (((ByteArray.mk ([(UInt8.ofNat x1.toNat)]).toArray) ++ (bytesOf [58])).size + x5.size ≤ 9223372036854775807))
 (v2[(1 : Int).toNat]?.bind fun x7 =>
 (cond (decide (v3.size + (ByteArray.mk ([(UInt8.ofNat x1.toNat)]).toArray).size ≤ 9223372036854775807))
 ((FF n 49 [.agg [.int .i64 x7.k, .int .i64 x7.n, .fr (.ts x7.kids)], .one (.str (v3 ++ (ByteArray.mk ([(UInt8.ofNat x1.toNat)]).toArray)))] []).bind fun x8 =>
 (rStr x8.1 fun x9 x10 =>
 (nilV x10 (nilO x8.2
 (cond (decide (v0 = 4))
 (cond (decide ((bytesOf [91]).size + (((ByteArray.mk ([(UInt8.ofNat x1.toNat)]).toArray) ++ (bytesOf [58])) ++ x5).size ≤ 9223372036854775807))
 (cond (decide (((bytesOf [91]) ++ (((ByteArray.mk ([(UInt8.ofNat x1.toNat)]).toArray) ++ (bytesOf [58])) ++ x5)).size + (bytesOf [93]).size ≤ 9223372036854775807))
 (cond (decide ((((bytesOf [91]) ++ (((ByteArray.mk ([(UInt8.ofNat x1.toNat)]).toArray) ++ (bytesOf [58])) ++ x5)) ++ (bytesOf [93])).size + x9.size ≤ 9223372036854775807))
 (some ([.one (.str ((((bytesOf [91]) ++ (((ByteArray.mk ([(UInt8.ofNat x1.toNat)]).toArray) ++ (bytesOf [58])) ++ x5)) ++ (bytesOf [93])) ++ x9))], []))
 none)
 none)
 none)
 (cond (decide (v0 = 3))
 (cond (decide ((bytesOf [40]).size + (((ByteArray.mk ([(UInt8.ofNat x1.toNat)]).toArray) ++ (bytesOf [58])) ++ x5).size ≤ 9223372036854775807))
 (cond (decide (((bytesOf [40]) ++ (((ByteArray.mk ([(UInt8.ofNat x1.toNat)]).toArray) ++ (bytesOf [58])) ++ x5)).size + (bytesOf [62]).size ≤ 9223372036854775807))
 (cond (decide ((((bytesOf [40]) ++ (((ByteArray.mk ([(UInt8.ofNat x1.toNat)]).toArray) ++ (bytesOf [58])) ++ x5)) ++ (bytesOf [62])).size + x9.size ≤ 9223372036854775807))
 (cond (decide (((((bytesOf [40]) ++ (((ByteArray.mk ([(UInt8.ofNat x1.toNat)]).toArray) ++ (bytesOf [58])) ++ x5)) ++ (bytesOf [62])) ++ x9).size + (bytesOf [41]).size ≤ 9223372036854775807))
 (some ([.one (.str (((((bytesOf [40]) ++ (((ByteArray.mk ([(UInt8.ofNat x1.toNat)]).toArray) ++ (bytesOf [58])) ++ x5)) ++ (bytesOf [62])) ++ x9) ++ (bytesOf [41])))], []))
 none)
 none)
 none)
 none)
 (cond (decide ((bytesOf [40]).size + (((ByteArray.mk ([(UInt8.ofNat x1.toNat)]).toArray) ++ (bytesOf [58])) ++ x5).size ≤ 9223372036854775807))
 (cond (decide (((bytesOf [40]) ++ (((ByteArray.mk ([(UInt8.ofNat x1.toNat)]).toArray) ++ (bytesOf [58])) ++ x5)).size + (bytesOf [42]).size ≤ 9223372036854775807))
 (cond (decide ((((bytesOf [40]) ++ (((ByteArray.mk ([(UInt8.ofNat x1.toNat)]).toArray) ++ (bytesOf [58])) ++ x5)) ++ (bytesOf [42])).size + x9.size ≤ 9223372036854775807))
 (cond (decide (((((bytesOf [40]) ++ (((ByteArray.mk ([(UInt8.ofNat x1.toNat)]).toArray) ++ (bytesOf [58])) ++ x5)) ++ (bytesOf [42])) ++ x9).size + (bytesOf [41]).size ≤ 9223372036854775807))
 (some ([.one (.str (((((bytesOf [40]) ++ (((ByteArray.mk ([(UInt8.ofNat x1.toNat)]).toArray) ++ (bytesOf [58])) ++ x5)) ++ (bytesOf [42])) ++ x9) ++ (bytesOf [41])))], []))
 none)
 none)
 none)
 none)))))))
 none))
 none))))))
 none)
 none))))) := by kernel_rfl
noncomputable def L_spec_l6List_0 (n c : Nat) (v0 : List T) (v1 v2 : ByteArray) (v3 : Int) : OR := runLoop Tryz.prog SS n 92 0 [1, 1, 0, 1, 0] [] c ⟨[.v (.one (.fr (.ts v0))), .v (.one (.str v1)), anyV, anyV, anyV, .v (.one (.str v2)), .v (.one (.int .i64 v3)), anyV, anyV, anyV, anyV, anyV, anyV, anyV, anyV, anyV, anyV, anyV, anyV, anyV, anyV, anyV, anyV, anyV, anyV, anyV],
 []⟩
theorem L_spec_l6List_0_eq (n c : Nat) (v0 : List T) (v1 v2 : ByteArray) (v3 : Int) : L_spec_l6List_0 n (c + 1) v0 v1 v2 v3 =
 (cond (decide (v3 < (v0.length : Int)))
 (cond (decide (0 < v3))
 (cond (decide (v2.size + (bytesOf [44]).size ≤ 9223372036854775807))
 (cond (decide (0 ≤ v3))
 (v0[(v3 : Int).toNat]?.bind fun x0 =>
 ((FF n 49 [.agg [.int .i64 x0.k, .int .i64 x0.n, .fr (.ts x0.kids)], .one (.str v1)] []).bind fun x1 =>
 (rStr x1.1 fun x2 x3 =>
 (nilV x3 (nilO x1.2
 (cond (decide ((v2 ++ (bytesOf [44])).size + x2.size ≤ 9223372036854775807))
 (L_spec_l6List_0 n c v0 v1 ((v2 ++ (bytesOf [44])) ++ x2) (IntKind.i64.wrap (v3 + 1)))
 none))))))
 none)
 none)
 (cond (decide (0 ≤ v3))
 (v0[(v3 : Int).toNat]?.bind fun x0 =>
 ((FF n 49 [.agg [.int .i64 x0.k, .int .i64 x0.n, .fr (.ts x0.kids)], .one (.str v1)] []).bind fun x1 =>
 (rStr x1.1 fun x2 x3 =>
 (nilV x3 (nilO x1.2
 (cond (decide (v2.size + x2.size ≤ 9223372036854775807))
 (L_spec_l6List_0 n c v0 v1 (v2 ++ x2) (IntKind.i64.wrap (v3 + 1)))
 none))))))
 none))
 (some ([.one (.str v2)], []))) := by kernel_rfl
theorem E_spec_l6List (n : Nat) (v0 : List T) (v1 : ByteArray) : FF (n + 1) 92 [.one (.fr (.ts v0)), .one (.str v1)] [] =
 L_spec_l6List_0 n n v0 v1 (bytesOf []) 0 := by kernel_rfl
theorem E_spec_l1Text (n : Nat) (v0 v1 : Int) (v2 : List T) : FF (n + 1) 93 [.agg [.int .i64 v0, .int .i64 v1, .fr (.ts v2)]] [] =
 (cond (decide (v0 = 1))
 ((FF n 113 [.one (.int .i64 v1)] []).bind fun x0 =>
 (rStr x0.1 fun x1 x2 =>
 (nilV x2 (nilO x0.2
 (cond (decide ((bytesOf [35]).size + x1.size ≤ 9223372036854775807))
 (some ([.one (.str ((bytesOf [35]) ++ x1))], []))
 none)))))
 (cond (decide (v0 = 2))
 ((FF n 113 [.one (.int .i64 v1)] []).bind fun x0 =>
 (rStr x0.1 fun x1 x2 =>
 (nilV x2 (nilO x0.2
 (cond (decide ((bytesOf [42]).size + x1.size ≤ 9223372036854775807))
 (some ([.one (.str ((bytesOf [42]) ++ x1))], []))
 none)))))
 (cond (decide (v0 = 6))
 (some ([.one (.str (bytesOf [78]))], []))
 (cond (decide (v0 = 7))
 (some ([.one (.str (bytesOf [48]))], []))
 (cond (decide (v0 = 8))
 (v2[(0 : Int).toNat]?.bind fun x0 =>
 ((FF n 93 [.agg [.int .i64 x0.k, .int .i64 x0.n, .fr (.ts x0.kids)]] []).bind fun x1 =>
 (rStr x1.1 fun x2 x3 =>
 (nilV x3 (nilO x1.2
 (cond (decide ((bytesOf [43]).size + x2.size ≤ 9223372036854775807))
 (some ([.one (.str ((bytesOf [43]) ++ x2))], []))
 none))))))
 (cond (decide (v0 = 11))
 (v2[(0 : Int).toNat]?.bind fun x0 =>
 ((FF n 93 [.agg [.int .i64 x0.k, .int .i64 x0.n, .fr (.ts x0.kids)]] []).bind fun x1 =>
 (rStr x1.1 fun x2 x3 =>
 (nilV x3 (nilO x1.2
 (cond (decide ((bytesOf [33]).size + x2.size ≤ 9223372036854775807))
 (some ([.one (.str ((bytesOf [33]) ++ x2))], []))
 none))))))
 (cond (decide (v0 = 15))
 (v2[(0 : Int).toNat]?.bind fun x0 =>
 ((FF n 93 [.agg [.int .i64 x0.k, .int .i64 x0.n, .fr (.ts x0.kids)]] []).bind fun x1 =>
 (rStr x1.1 fun x2 x3 =>
 (nilV x3 (nilO x1.2
 (cond (decide ((bytesOf [94]).size + x2.size ≤ 9223372036854775807))
 (some ([.one (.str ((bytesOf [94]) ++ x2))], []))
 none))))))
 (cond (decide (v0 = 16))
 (v2[(0 : Int).toNat]?.bind fun x0 =>
 ((FF n 93 [.agg [.int .i64 x0.k, .int .i64 x0.n, .fr (.ts x0.kids)]] []).bind fun x1 =>
 (rStr x1.1 fun x2 x3 =>
 (nilV x3 (nilO x1.2
 (cond (decide ((bytesOf [95]).size + x2.size ≤ 9223372036854775807))
 (some ([.one (.str ((bytesOf [95]) ++ x2))], []))
 none))))))
 (cond (decide (v0 = 3))
 (v2[(0 : Int).toNat]?.bind fun x0 =>
 ((FF n 93 [.agg [.int .i64 x0.k, .int .i64 x0.n, .fr (.ts x0.kids)]] []).bind fun x1 =>
 (rStr x1.1 fun x2 x3 =>
 (nilV x3 (nilO x1.2
 (cond (decide ((bytesOf [40]).size + x2.size ≤ 9223372036854775807))
 (cond (decide (((bytesOf [40]) ++ x2).size + (bytesOf [62]).size ≤ 9223372036854775807))
 (v2[(1 : Int).toNat]?.bind fun x4 =>
 ((FF n 93 [.agg [.int .i64 x4.k, .int .i64 x4.n, .fr (.ts x4.kids)]] []).bind fun x5 =>
 (rStr x5.1 fun x6 x7 =>
 (nilV x7 (nilO x5.2
 (cond (decide ((((bytesOf [40]) ++ x2) ++ (bytesOf [62])).size + x6.size ≤ 9223372036854775807))
 (cond (decide (((((bytesOf [40]) ++ x2) ++ (bytesOf [62])) ++ x6).size + (bytesOf [41]).size ≤ 9223372036854775807))
 (some ([.one (.str (((((bytesOf [40]) ++ x2) ++ (bytesOf [62])) ++ x6) ++ (bytesOf [41])))], []))
 none)
 none))))))
 none)
 none))))))
 (cond (decide (v0 = 13))
 (v2[(0 : Int).toNat]?.bind fun x0 =>
 ((FF n 93 [.agg [.int .i64 x0.k, .int .i64 x0.n, .fr (.ts x0.kids)]] []).bind fun x1 =>
 (rStr x1.1 fun x2 x3 =>
 (nilV x3 (nilO x1.2
 (cond (decide ((bytesOf [40]).size + x2.size ≤ 9223372036854775807))
 (cond (decide (((bytesOf [40]) ++ x2).size + (bytesOf [42]).size ≤ 9223372036854775807))
 (v2[(1 : Int).toNat]?.bind fun x4 =>
 ((FF n 93 [.agg [.int .i64 x4.k, .int .i64 x4.n, .fr (.ts x4.kids)]] []).bind fun x5 =>
 (rStr x5.1 fun x6 x7 =>
 (nilV x7 (nilO x5.2
 (cond (decide ((((bytesOf [40]) ++ x2) ++ (bytesOf [42])).size + x6.size ≤ 9223372036854775807))
 (cond (decide (((((bytesOf [40]) ++ x2) ++ (bytesOf [42])) ++ x6).size + (bytesOf [41]).size ≤ 9223372036854775807))
 (some ([.one (.str (((((bytesOf [40]) ++ x2) ++ (bytesOf [42])) ++ x6) ++ (bytesOf [41])))], []))
 none)
 none))))))
 none)
 none))))))
 (cond (decide (v0 = 5))
 (v2[(0 : Int).toNat]?.bind fun x0 =>
 ((FF n 93 [.agg [.int .i64 x0.k, .int .i64 x0.n, .fr (.ts x0.kids)]] []).bind fun x1 =>
 (rStr x1.1 fun x2 x3 =>
 (nilV x3 (nilO x1.2
 (cond (decide ((bytesOf [40]).size + x2.size ≤ 9223372036854775807))
 (cond (decide (((bytesOf [40]) ++ x2).size + (bytesOf [32]).size ≤ 9223372036854775807))
 (v2[(1 : Int).toNat]?.bind fun x4 =>
 ((FF n 93 [.agg [.int .i64 x4.k, .int .i64 x4.n, .fr (.ts x4.kids)]] []).bind fun x5 =>
 (rStr x5.1 fun x6 x7 =>
 (nilV x7 (nilO x5.2
 (cond (decide ((((bytesOf [40]) ++ x2) ++ (bytesOf [32])).size + x6.size ≤ 9223372036854775807))
 (cond (decide (((((bytesOf [40]) ++ x2) ++ (bytesOf [32])) ++ x6).size + (bytesOf [41]).size ≤ 9223372036854775807))
 (some ([.one (.str (((((bytesOf [40]) ++ x2) ++ (bytesOf [32])) ++ x6) ++ (bytesOf [41])))], []))
 none)
 none))))))
 none)
 none))))))
 (cond (decide (v0 = 4))
 (v2[(0 : Int).toNat]?.bind fun x0 =>
 ((FF n 93 [.agg [.int .i64 x0.k, .int .i64 x0.n, .fr (.ts x0.kids)]] []).bind fun x1 =>
 (rStr x1.1 fun x2 x3 =>
 (nilV x3 (nilO x1.2
 (cond (decide ((bytesOf [91]).size + x2.size ≤ 9223372036854775807))
 (cond (decide (((bytesOf [91]) ++ x2).size + (bytesOf [93]).size ≤ 9223372036854775807))
 (v2[(1 : Int).toNat]?.bind fun x4 =>
 ((FF n 93 [.agg [.int .i64 x4.k, .int .i64 x4.n, .fr (.ts x4.kids)]] []).bind fun x5 =>
 (rStr x5.1 fun x6 x7 =>
 (nilV x7 (nilO x5.2
 (cond (decide ((((bytesOf [91]) ++ x2) ++ (bytesOf [93])).size + x6.size ≤ 9223372036854775807))
 (some ([.one (.str ((((bytesOf [91]) ++ x2) ++ (bytesOf [93])) ++ x6))], []))
 none))))))
 none)
 none))))))
 (cond (decide (v0 = 10))
 ((FF n 114 [.one (.fr (.ts v2))] []).bind fun x0 =>
 (rStr x0.1 fun x1 x2 =>
 (nilV x2 (nilO x0.2
 (cond (decide ((bytesOf [123]).size + x1.size ≤ 9223372036854775807))
 (cond (decide (((bytesOf [123]) ++ x1).size + (bytesOf [125]).size ≤ 9223372036854775807))
 (some ([.one (.str (((bytesOf [123]) ++ x1) ++ (bytesOf [125])))], []))
 none)
 none)))))
 (cond (decide (v0 = 14))
 ((FF n 114 [.one (.fr (.ts v2))] []).bind fun x0 =>
 (rStr x0.1 fun x1 x2 =>
 (nilV x2 (nilO x0.2
 (cond (decide ((bytesOf [124]).size + x1.size ≤ 9223372036854775807))
 (cond (decide (((bytesOf [124]) ++ x1).size + (bytesOf [124]).size ≤ 9223372036854775807))
 (some ([.one (.str (((bytesOf [124]) ++ x1) ++ (bytesOf [124])))], []))
 none)
 none)))))
 (cond (decide (v0 = 12))
 ((FF n 114 [.one (.fr (.ts v2))] []).bind fun x0 =>
 (rStr x0.1 fun x1 x2 =>
 (nilV x2 (nilO x0.2
 (cond (decide ((bytesOf [64, 60]).size + x1.size ≤ 9223372036854775807))
 (cond (decide (((bytesOf [64, 60]) ++ x1).size + (bytesOf [62]).size ≤ 9223372036854775807))
 (some ([.one (.str (((bytesOf [64, 60]) ++ x1) ++ (bytesOf [62])))], []))
 none)
 none)))))
 ((FF n 114 [.one (.fr (.ts v2))] []).bind fun x0 =>
 (rStr x0.1 fun x1 x2 =>
 (nilV x2 (nilO x0.2
 (cond (decide ((bytesOf [60]).size + x1.size ≤ 9223372036854775807))
 (cond (decide (((bytesOf [60]) ++ x1).size + (bytesOf [62]).size ≤ 9223372036854775807))
 (some ([.one (.str (((bytesOf [60]) ++ x1) ++ (bytesOf [62])))], []))
 none)
 none)))))))))))))))))))) := by kernel_rfl
noncomputable def L_spec_l1Number_0 (n c : Nat) (v0 : ByteArray) (v1 v2 v3 : Int) : OR := runLoop Tryz.prog SS n 94 0 [1, 1, 0, 0] [] c ⟨[.v (.one (.str v0)), .v (.one (.int .i64 v1)), .v (.one (.int .i64 v2)), anyV, anyV, anyV, anyV, anyV, .v (.one (.int .i64 v3)), anyV, anyV, anyV, anyV, anyV, anyV, anyV, anyV, anyV, anyV, anyV, anyV, anyV, anyV, anyV, anyV, anyV, anyV, anyV, anyV, anyV, anyV, anyV, anyV, anyV, anyV, anyV, anyV, anyV, anyV, anyV, anyV, anyV, anyV, anyV, anyV, anyV, anyV, anyV, anyV],
 []⟩
theorem L_spec_l1Number_0_eq (n c : Nat) (v0 : ByteArray) (v1 v2 v3 : Int) : L_spec_l1Number_0 n (c + 1) v0 v1 v2 v3 =
 (cond (decide (v3 < (v0.size : Int)))
 (cond (decide (v3 < (IntKind.i64.wrap (v1 + v2))))
 (cond (decide (0 ≤ v3) && decide (v3 < ((v0.size : Nat) : Int)))
 (cond (decide (48 ≤ ((byteAt v0 (v3 : Int).toNat).toNat : Int)))
 (cond (decide (0 ≤ v3) && decide (v3 < ((v0.size : Nat) : Int)))
 (cond (decide (((byteAt v0 (v3 : Int).toNat).toNat : Int) ≤ 57))
 (L_spec_l1Number_0 n c v0 v1 v2 (IntKind.i64.wrap (v3 + 1)))
 (cond (Go.Ab.inB v1 v3 v0.size)
 ((FF n 115 [.one (.str (v0.extract (v1 : Int).toNat (v3 : Int).toNat))] []).bind fun x0 =>
 (rInt .i64 x0.1 fun x1 x2 =>
 (rBool x2 fun x3 x4 =>
 (nilV x4 (nilO x0.2
 (cond (!x3)
 (some ([.one (.int .i64 0), .one (.int .i64 (-1))], []))
 (some ([.one (.int .i64 x1), .one (.int .i64 v3)], []))))))))
 none))
 none)
 (cond (Go.Ab.inB v1 v3 v0.size)
 ((FF n 115 [.one (.str (v0.extract (v1 : Int).toNat (v3 : Int).toNat))] []).bind fun x0 =>
 (rInt .i64 x0.1 fun x1 x2 =>
 (rBool x2 fun x3 x4 =>
 (nilV x4 (nilO x0.2
 (cond (!x3)
 (some ([.one (.int .i64 0), .one (.int .i64 (-1))], []))
 (some ([.one (.int .i64 x1), .one (.int .i64 v3)], []))))))))
 none))
 none)
 (cond (Go.Ab.inB v1 v3 v0.size)
 ((FF n 115 [.one (.str (v0.extract (v1 : Int).toNat (v3 : Int).toNat))] []).bind fun x0 =>
 (rInt .i64 x0.1 fun x1 x2 =>
 (rBool x2 fun x3 x4 =>
 (nilV x4 (nilO x0.2
 (cond (!x3)
 (some ([.one (.int .i64 0), .one (.int .i64 (-1))], []))
 (some ([.one (.int .i64 x1), .one (.int .i64 v3)], []))))))))
 none))
 (cond (Go.Ab.inB v1 v3 v0.size)
 ((FF n 115 [.one (.str (v0.extract (v1 : Int).toNat (v3 : Int).toNat))] []).bind fun x0 =>
 (rInt .i64 x0.1 fun x1 x2 =>
 (rBool x2 fun x3 x4 =>
 (nilV x4 (nilO x0.2
 (cond (!x3)
 (some ([.one (.int .i64 0), .one (.int .i64 (-1))], []))
 (some ([.one (.int .i64 x1), .one (.int .i64 v3)], []))))))))
 none)) := by kernel_rfl
theorem E_spec_l1Number (n : Nat) (v0 : ByteArray) (v1 v2 : Int) : FF (n + 1) 94 [.one (.str v0), .one (.int .i64 v1), .one (.int .i64 v2)] [] =
 L_spec_l1Number_0 n n v0 v1 v2 v1 := by kernel_rfl
theorem E_spec_l1Prefix (n : Nat) (v0 : ByteArray) (v1 v2 : Int) : FF (n + 1) 95 [.one (.str v0), .one (.int .i64 v1), .one (.int .i64 v2)] [] =
 (cond (decide (0 ≤ v1) && decide (v1 < ((v0.size : Nat) : Int)))
 (cond (decide (((byteAt v0 (v1 : Int).toNat).toNat : Int) = 33))
 ((FF n 52 [.one (.str v0), .one (.int .i64 (IntKind.i64.wrap (v1 + 1))), .one (.int .i64 (IntKind.i64.wrap (v2 - 1)))] []).bind fun x0 =>
 (rTerm x0.1 fun x1 x2 =>
 (rInt .i64 x2 fun x3 x4 =>
 (nilV x4 (nilO x0.2
 ((FF n 53 [.one (.int .i64 11), .one (.fr (.ts [(T.mk x1.k x1.n x1.kids)]))] []).bind fun x5 =>
 (rTerm x5.1 fun x6 x7 =>
 (nilV x7 (nilO x5.2
 (some ([.agg [.int .i64 x6.k, .int .i64 x6.n, .fr (.ts x6.kids)], .one (.int .i64 x3)], [])))))))))))
 (cond (decide (((byteAt v0 (v1 : Int).toNat).toNat : Int) = 94))
 ((FF n 52 [.one (.str v0), .one (.int .i64 (IntKind.i64.wrap (v1 + 1))), .one (.int .i64 (IntKind.i64.wrap (v2 - 1)))] []).bind fun x0 =>
 (rTerm x0.1 fun x1 x2 =>
 (rInt .i64 x2 fun x3 x4 =>
 (nilV x4 (nilO x0.2
 ((FF n 53 [.one (.int .i64 15), .one (.fr (.ts [(T.mk x1.k x1.n x1.kids)]))] []).bind fun x5 =>
 (rTerm x5.1 fun x6 x7 =>
 (nilV x7 (nilO x5.2
 (some ([.agg [.int .i64 x6.k, .int .i64 x6.n, .fr (.ts x6.kids)], .one (.int .i64 x3)], [])))))))))))
 (cond (decide (((byteAt v0 (v1 : Int).toNat).toNat : Int) = 95))
 ((FF n 52 [.one (.str v0), .one (.int .i64 (IntKind.i64.wrap (v1 + 1))), .one (.int .i64 (IntKind.i64.wrap (v2 - 1)))] []).bind fun x0 =>
 (rTerm x0.1 fun x1 x2 =>
 (rInt .i64 x2 fun x3 x4 =>
 (nilV x4 (nilO x0.2
 ((FF n 53 [.one (.int .i64 16), .one (.fr (.ts [(T.mk x1.k x1.n x1.kids)]))] []).bind fun x5 =>
 (rTerm x5.1 fun x6 x7 =>
 (nilV x7 (nilO x5.2
 (some ([.agg [.int .i64 x6.k, .int .i64 x6.n, .fr (.ts x6.kids)], .one (.int .i64 x3)], [])))))))))))
 ((FF n 52 [.one (.str v0), .one (.int .i64 (IntKind.i64.wrap (v1 + 1))), .one (.int .i64 (IntKind.i64.wrap (v2 - 1)))] []).bind fun x0 =>
 (rTerm x0.1 fun x1 x2 =>
 (rInt .i64 x2 fun x3 x4 =>
 (nilV x4 (nilO x0.2
 ((FF n 53 [.one (.int .i64 8), .one (.fr (.ts [(T.mk x1.k x1.n x1.kids)]))] []).bind fun x5 =>
 (rTerm x5.1 fun x6 x7 =>
 (nilV x7 (nilO x5.2
 (some ([.agg [.int .i64 x6.k, .int .i64 x6.n, .fr (.ts x6.kids)], .one (.int .i64 x3)], []))))))))))))))
 none) := by kernel_rfl
end Go.Proofs.YtnogehmgpfpjmaaGreatDoor
end
section
namespace Go.Proofs.YtnogehmgpfpjmaaGreatDoor
open Go Go.Ab Go.Dk
theorem E_spec_l1Round (n : Nat) (v0 : ByteArray) (v1 v2 : Int) : FF (n + 1) 96 [.one (.str v0), .one (.int .i64 v1), .one (.int .i64 v2)] [] =
 ((FF n 52 [.one (.str v0), .one (.int .i64 v1), .one (.int .i64 v2)] []).bind fun x0 =>
 (rTerm x0.1 fun x1 x2 =>
 (rInt .i64 x2 fun x3 x4 =>
 (nilV x4 (nilO x0.2
 (cond (decide (x3 < 0))
 (some ([.agg [.int .i64 0, .int .i64 0, .fr (.ts [])], .one (.int .i64 (-1))], []))
 (cond (decide ((v0.size : Int) ≤ x3))
 (some ([.agg [.int .i64 0, .int .i64 0, .fr (.ts [])], .one (.int .i64 (-1))], []))
 (cond (decide (0 ≤ x3) && decide (x3 < ((v0.size : Nat) : Int)))
 (cond (decide (((byteAt v0 (x3 : Int).toNat).toNat : Int) = 62))
 ((FF n 52 [.one (.str v0), .one (.int .i64 (IntKind.i64.wrap (x3 + 1))), .one (.int .i64 v2)] []).bind fun x5 =>
 (rTerm x5.1 fun x6 x7 =>
 (rInt .i64 x7 fun x8 x9 =>
 (nilV x9 (nilO x5.2
 (cond (decide (x8 < 0))
 (some ([.agg [.int .i64 0, .int .i64 0, .fr (.ts [])], .one (.int .i64 (-1))], []))
 (cond (decide ((v0.size : Int) ≤ x8))
 (some ([.agg [.int .i64 0, .int .i64 0, .fr (.ts [])], .one (.int .i64 (-1))], []))
 (cond (decide (0 ≤ x8) && decide (x8 < ((v0.size : Nat) : Int)))
 (cond (!decide (((byteAt v0 (x8 : Int).toNat).toNat : Int) = 41))
 (some ([.agg [.int .i64 0, .int .i64 0, .fr (.ts [])], .one (.int .i64 (-1))], []))
 ((FF n 53 [.one (.int .i64 3), .one (.fr (.ts [(T.mk x1.k x1.n x1.kids), (T.mk x6.k x6.n x6.kids)]))] []).bind fun x10 =>
 (rTerm x10.1 fun x11 x12 =>
 (nilV x12 (nilO x10.2
 (some ([.agg [.int .i64 x11.k, .int .i64 x11.n, .fr (.ts x11.kids)], .one (.int .i64 (IntKind.i64.wrap (x8 + 1)))], [])))))))
 none))))))))
 (cond (decide (((byteAt v0 (x3 : Int).toNat).toNat : Int) = 42))
 ((FF n 52 [.one (.str v0), .one (.int .i64 (IntKind.i64.wrap (x3 + 1))), .one (.int .i64 v2)] []).bind fun x5 =>
 (rTerm x5.1 fun x6 x7 =>
 (rInt .i64 x7 fun x8 x9 =>
 (nilV x9 (nilO x5.2
 (cond (decide (x8 < 0))
 (some ([.agg [.int .i64 0, .int .i64 0, .fr (.ts [])], .one (.int .i64 (-1))], []))
 (cond (decide ((v0.size : Int) ≤ x8))
 (some ([.agg [.int .i64 0, .int .i64 0, .fr (.ts [])], .one (.int .i64 (-1))], []))
 (cond (decide (0 ≤ x8) && decide (x8 < ((v0.size : Nat) : Int)))
 (cond (!decide (((byteAt v0 (x8 : Int).toNat).toNat : Int) = 41))
 (some ([.agg [.int .i64 0, .int .i64 0, .fr (.ts [])], .one (.int .i64 (-1))], []))
 ((FF n 53 [.one (.int .i64 13), .one (.fr (.ts [(T.mk x1.k x1.n x1.kids), (T.mk x6.k x6.n x6.kids)]))] []).bind fun x10 =>
 (rTerm x10.1 fun x11 x12 =>
 (nilV x12 (nilO x10.2
 (some ([.agg [.int .i64 x11.k, .int .i64 x11.n, .fr (.ts x11.kids)], .one (.int .i64 (IntKind.i64.wrap (x8 + 1)))], [])))))))
 none))))))))
 (cond (decide (((byteAt v0 (x3 : Int).toNat).toNat : Int) = 32))
 ((FF n 52 [.one (.str v0), .one (.int .i64 (IntKind.i64.wrap (x3 + 1))), .one (.int .i64 v2)] []).bind fun x5 =>
 (rTerm x5.1 fun x6 x7 =>
 (rInt .i64 x7 fun x8 x9 =>
 (nilV x9 (nilO x5.2
 (cond (decide (x8 < 0))
 (some ([.agg [.int .i64 0, .int .i64 0, .fr (.ts [])], .one (.int .i64 (-1))], []))
 (cond (decide ((v0.size : Int) ≤ x8))
 (some ([.agg [.int .i64 0, .int .i64 0, .fr (.ts [])], .one (.int .i64 (-1))], []))
 (cond (decide (0 ≤ x8) && decide (x8 < ((v0.size : Nat) : Int)))
 (cond (!decide (((byteAt v0 (x8 : Int).toNat).toNat : Int) = 41))
 (some ([.agg [.int .i64 0, .int .i64 0, .fr (.ts [])], .one (.int .i64 (-1))], []))
 ((FF n 53 [.one (.int .i64 5), .one (.fr (.ts [(T.mk x1.k x1.n x1.kids), (T.mk x6.k x6.n x6.kids)]))] []).bind fun x10 =>
 (rTerm x10.1 fun x11 x12 =>
 (nilV x12 (nilO x10.2
 (some ([.agg [.int .i64 x11.k, .int .i64 x11.n, .fr (.ts x11.kids)], .one (.int .i64 (IntKind.i64.wrap (x8 + 1)))], [])))))))
 none))))))))
 ((FF n 52 [.one (.str v0), .one (.int .i64 (IntKind.i64.wrap (x3 + 1))), .one (.int .i64 v2)] []).bind fun x5 =>
 (rTerm x5.1 fun x6 x7 =>
 (rInt .i64 x7 fun x8 x9 =>
 (nilV x9 (nilO x5.2
 (some ([.agg [.int .i64 0, .int .i64 0, .fr (.ts [])], .one (.int .i64 (-1))], []))))))))))
 none)))))))) := by kernel_rfl
theorem E_spec_l1Block (n : Nat) (v0 : ByteArray) (v1 v2 : Int) : FF (n + 1) 97 [.one (.str v0), .one (.int .i64 v1), .one (.int .i64 v2)] [] =
 (cond (decide (0 ≤ v1) && decide (v1 < ((v0.size : Nat) : Int)))
 (cond (decide (((byteAt v0 (v1 : Int).toNat).toNat : Int) = 60))
 ((FF n 100 [.one (.int .i64 9)] []).bind fun x0 =>
 (rInt .i64 x0.1 fun x1 x2 =>
 (nilV x2 (nilO x0.2
 ((FF n 116 [.one (.str v0), .one (.int .i64 (IntKind.i64.wrap (v1 + 1))), .one (.int .i64 (IntKind.i64.wrap (v2 - 1))), .one (.int .i64 x1), .one (.int .u8 62)] []).bind fun x3 =>
 (rTs x3.1 fun x4 x5 =>
 (rInt .i64 x5 fun x6 x7 =>
 (nilV x7 (nilO x3.2
 (some ([.agg [.int .i64 9, .int .i64 0, .fr (.ts x4)], .one (.int .i64 x6)], [])))))))))))
 (cond (decide (((byteAt v0 (v1 : Int).toNat).toNat : Int) = 123))
 ((FF n 100 [.one (.int .i64 10)] []).bind fun x0 =>
 (rInt .i64 x0.1 fun x1 x2 =>
 (nilV x2 (nilO x0.2
 ((FF n 116 [.one (.str v0), .one (.int .i64 (IntKind.i64.wrap (v1 + 1))), .one (.int .i64 (IntKind.i64.wrap (v2 - 1))), .one (.int .i64 x1), .one (.int .u8 125)] []).bind fun x3 =>
 (rTs x3.1 fun x4 x5 =>
 (rInt .i64 x5 fun x6 x7 =>
 (nilV x7 (nilO x3.2
 (some ([.agg [.int .i64 10, .int .i64 0, .fr (.ts x4)], .one (.int .i64 x6)], [])))))))))))
 (cond (decide (((byteAt v0 (v1 : Int).toNat).toNat : Int) = 124))
 ((FF n 100 [.one (.int .i64 14)] []).bind fun x0 =>
 (rInt .i64 x0.1 fun x1 x2 =>
 (nilV x2 (nilO x0.2
 ((FF n 116 [.one (.str v0), .one (.int .i64 (IntKind.i64.wrap (v1 + 1))), .one (.int .i64 (IntKind.i64.wrap (v2 - 1))), .one (.int .i64 x1), .one (.int .u8 124)] []).bind fun x3 =>
 (rTs x3.1 fun x4 x5 =>
 (rInt .i64 x5 fun x6 x7 =>
 (nilV x7 (nilO x3.2
 (some ([.agg [.int .i64 14, .int .i64 0, .fr (.ts x4)], .one (.int .i64 x6)], [])))))))))))
 (cond (decide (((byteAt v0 (v1 : Int).toNat).toNat : Int) = 64))
 (cond (decide ((v0.size : Int) < (IntKind.i64.wrap (v1 + 2))))
 (some ([.agg [.int .i64 0, .int .i64 0, .fr (.ts [])], .one (.int .i64 (-1))], []))
 (cond (decide (0 ≤ (IntKind.i64.wrap (v1 + 1))) && decide ((IntKind.i64.wrap (v1 + 1)) < ((v0.size : Nat) : Int)))
 (cond (!decide (((byteAt v0 ((IntKind.i64.wrap (v1 + 1)) : Int).toNat).toNat : Int) = 60))
 (some ([.agg [.int .i64 0, .int .i64 0, .fr (.ts [])], .one (.int .i64 (-1))], []))
 ((FF n 100 [.one (.int .i64 12)] []).bind fun x0 =>
 (rInt .i64 x0.1 fun x1 x2 =>
 (nilV x2 (nilO x0.2
 ((FF n 116 [.one (.str v0), .one (.int .i64 (IntKind.i64.wrap (v1 + 2))), .one (.int .i64 (IntKind.i64.wrap (v2 - 1))), .one (.int .i64 x1), .one (.int .u8 62)] []).bind fun x3 =>
 (rTs x3.1 fun x4 x5 =>
 (rInt .i64 x5 fun x6 x7 =>
 (nilV x7 (nilO x3.2
 (some ([.agg [.int .i64 12, .int .i64 0, .fr (.ts x4)], .one (.int .i64 x6)], []))))))))))))
 none))
 (some ([.agg [.int .i64 0, .int .i64 0, .fr (.ts [])], .one (.int .i64 (-1))], []))))))
 none) := by kernel_rfl
theorem E_spec_l6Colon (n : Nat) (v0 : ByteArray) (v1 : Int) : FF (n + 1) 98 [.one (.str v0), .one (.int .i64 v1)] [] =
 (cond (decide ((IntKind.i64.wrap (v1 + 1)) < (v0.size : Int)))
 (cond (decide (0 ≤ v1) && decide (v1 < ((v0.size : Nat) : Int)))
 ((FF n 50 [.one (.int .u8 ((byteAt v0 (v1 : Int).toNat).toNat : Int))] []).bind fun x0 =>
 (rBool x0.1 fun x1 x2 =>
 (nilV x2 (nilO x0.2
 (cond x1
 (cond (decide (0 ≤ (IntKind.i64.wrap (v1 + 1))) && decide ((IntKind.i64.wrap (v1 + 1)) < ((v0.size : Nat) : Int)))
 (some ([.one (.bool (decide (((byteAt v0 ((IntKind.i64.wrap (v1 + 1)) : Int).toNat).toNat : Int) = 58)))], []))
 none)
 (some ([.one (.bool false)], [])))))))
 none)
 (some ([.one (.bool false)], []))) := by kernel_rfl
noncomputable def L_spec_l6Kids_0 (n c : Nat) (v0 : ByteArray) (v1 : Int) (v2 : ByteArray) (v3 v4 v5 v6 : Int) (v7 : List T) : OR := runLoop Tryz.prog SS n 99 0 [1, 1, 0, 1, 0] [] c ⟨[.v (.one (.str v0)), .v (.one (.int .i64 v1)), .v (.one (.str v2)), .v (.one (.int .i64 v3)), .v (.one (.int .i64 v4)), .v (.one (.int .u8 v5)), anyV, anyV, anyV, anyV, anyV, anyV, anyV, anyV, .v (.one (.own 0 0)), .v (.one (.int .i64 v6)), anyV, anyV, anyV, anyV, anyV, anyV, anyV, anyV, anyV, anyV, anyV, anyV, anyV, anyV, anyV, anyV, anyV, anyV, anyV, anyV, anyV, anyV, anyV, anyV, anyV, anyV, anyV, anyV, anyV, anyV, anyV, anyV, anyV, anyV, anyV, anyV, anyV, anyV, anyV, anyV, anyV, anyV, anyV, anyV, anyV, anyV, anyV, anyV, anyV, anyV, anyV, anyV, anyV, anyV, anyV, anyV, anyV],
 [.arr 24 (.ts v7) 0 false]⟩
theorem L_spec_l6Kids_0_eq (n c : Nat) (v0 : ByteArray) (v1 : Int) (v2 : ByteArray) (v3 v4 v5 v6 : Int) (v7 : List T) : L_spec_l6Kids_0 n (c + 1) v0 v1 v2 v3 v4 v5 v6 v7 =
 (cond (decide (v6 < v4))
 ((FF n 25 [.one (.str v0), .one (.int .i64 v1), .one (.str v2), .one (.int .i64 v3)] []).bind fun x0 =>
 (rTerm x0.1 fun x1 x2 =>
 (rInt .i64 x2 fun x3 x4 =>
 (nilV x4 (nilO x0.2
 (cond (decide (x3 < 0))
 (some ([.one (.fr (.ts [])), .one (.int .i64 (-1))], []))
 (cond (decide ((v0.size : Int) ≤ x3))
 (some ([.one (.fr (.ts [])), .one (.int .i64 (-1))], []))
 (cond (decide ((IntKind.i64.wrap (v6 + 1)) < v4))
 (cond (decide (0 ≤ x3) && decide (x3 < ((v0.size : Nat) : Int)))
 (cond (!decide (((byteAt v0 (x3 : Int).toNat).toNat : Int) = 44))
 (some ([.one (.fr (.ts [])), .one (.int .i64 (-1))], []))
 (cond (decide ((IntKind.i64.wrap (v6 + 1)) = v4))
 (cond (decide (0 ≤ x3) && decide (x3 < ((v0.size : Nat) : Int)))
 (cond (!decide (((byteAt v0 (x3 : Int).toNat).toNat : Int) = v5))
 (some ([.one (.fr (.ts [])), .one (.int .i64 (-1))], []))
 (cond (roomB (v7 ++ [(T.mk x1.k x1.n x1.kids)]).length)
 (L_spec_l6Kids_0 n c v0 (IntKind.i64.wrap (x3 + 1)) v2 v3 v4 v5 (IntKind.i64.wrap (v6 + 1)) (v7 ++ [(T.mk x1.k x1.n x1.kids)]))
 none))
 none)
 (cond (roomB (v7 ++ [(T.mk x1.k x1.n x1.kids)]).length)
 (L_spec_l6Kids_0 n c v0 (IntKind.i64.wrap (x3 + 1)) v2 v3 v4 v5 (IntKind.i64.wrap (v6 + 1)) (v7 ++ [(T.mk x1.k x1.n x1.kids)]))
 none)))
 none)
 (cond (decide ((IntKind.i64.wrap (v6 + 1)) = v4))
 (cond (decide (0 ≤ x3) && decide (x3 < ((v0.size : Nat) : Int)))
 (cond (!decide (((byteAt v0 (x3 : Int).toNat).toNat : Int) = v5))
 (some ([.one (.fr (.ts [])), .one (.int .i64 (-1))], []))
 (cond (roomB (v7 ++ [(T.mk x1.k x1.n x1.kids)]).length)
 (L_spec_l6Kids_0 n c v0 (IntKind.i64.wrap (x3 + 1)) v2 v3 v4 v5 (IntKind.i64.wrap (v6 + 1)) (v7 ++ [(T.mk x1.k x1.n x1.kids)]))
 none))
 none)
 (cond (roomB (v7 ++ [(T.mk x1.k x1.n x1.kids)]).length)
 (L_spec_l6Kids_0 n c v0 (IntKind.i64.wrap (x3 + 1)) v2 v3 v4 v5 (IntKind.i64.wrap (v6 + 1)) (v7 ++ [(T.mk x1.k x1.n x1.kids)]))
 none))))))))))
 (some ([.one (.fr (.ts v7)), .one (.int .i64 v1)], []))) := by kernel_rfl
theorem E_spec_l6Kids (n : Nat) (v0 : ByteArray) (v1 : Int) (v2 : ByteArray) (v3 v4 v5 : Int) : FF (n + 1) 99 [.one (.str v0), .one (.int .i64 v1), .one (.str v2), .one (.int .i64 v3), .one (.int .i64 v4), .one (.int .u8 v5)] [] =
 L_spec_l6Kids_0 n n v0 v1 v2 v3 v4 v5 0 ([]) := by kernel_rfl
theorem E_spec_l1Kids (n : Nat) (v0 : Int) : FF (n + 1) 100 [.one (.int .i64 v0)] [] =
 (cond (decide (v0 = 1))
 (some ([.one (.int .i64 0)], []))
 (cond (decide (v0 = 2))
 (some ([.one (.int .i64 0)], []))
 (cond (decide (v0 = 6))
 (some ([.one (.int .i64 0)], []))
 (cond (decide (v0 = 7))
 (some ([.one (.int .i64 0)], []))
 (cond (decide (v0 = 8))
 (some ([.one (.int .i64 1)], []))
 (cond (decide (v0 = 11))
 (some ([.one (.int .i64 1)], []))
 (cond (decide (v0 = 15))
 (some ([.one (.int .i64 1)], []))
 (cond (decide (v0 = 16))
 (some ([.one (.int .i64 1)], []))
 (cond (decide (v0 = 3))
 (some ([.one (.int .i64 2)], []))
 (cond (decide (v0 = 4))
 (some ([.one (.int .i64 2)], []))
 (cond (decide (v0 = 5))
 (some ([.one (.int .i64 2)], []))
 (cond (decide (v0 = 13))
 (some ([.one (.int .i64 2)], []))
 (cond (decide (v0 = 10))
 (some ([.one (.int .i64 3)], []))
 (cond (decide (v0 = 12))
 (some ([.one (.int .i64 3)], []))
 (cond (decide (v0 = 14))
 (some ([.one (.int .i64 3)], []))
 (cond (decide (v0 = 9))
 (some ([.one (.int .i64 4)], []))
 (some ([.one (.int .i64 (-1))], [])))))))))))))))))) := by kernel_rfl
theorem E_spec_l1Most (n : Nat) (v0 : Int) : FF (n + 1) 101 [.one (.int .i64 v0)] [] =
 (cond (decide (v0 = 1))
 (some ([.one (.int .i64 20)], []))
 (cond (decide (v0 = 2))
 (some ([.one (.int .i64 3)], []))
 (some ([.one (.int .i64 0)], [])))) := by kernel_rfl
theorem E_stringslite_IndexByte (n : Nat) (v0 : ByteArray) (v1 : Int) : FF (n + 1) 102 [.one (.str v0), .one (.int .u8 v1)] [] =
 (cond (decide (0 ≤ v1) && decide (v1 ≤ 255))
 (some ([.one (.int .i64 (idxB v0 (UInt8.ofNat (v1 : Int).toNat)))], []))
 none) := by kernel_rfl
noncomputable def L_bytealg_LastIndexByteString_0 (n c : Nat) (v0 : ByteArray) (v1 v2 : Int) : OR := runLoop Tryz.prog SS n 103 0 [1, 0, 1, 0] [] c ⟨[.v (.one (.str v0)), .v (.one (.int .u8 v1)), anyV, anyV, anyV, .v (.one (.int .i64 v2)), anyV, anyV, anyV, anyV, anyV, anyV, anyV, anyV, anyV, anyV, anyV, anyV, anyV],
 []⟩
theorem L_bytealg_LastIndexByteString_0_eq (n c : Nat) (v0 : ByteArray) (v1 v2 : Int) : L_bytealg_LastIndexByteString_0 n (c + 1) v0 v1 v2 =
 (cond (decide (0 ≤ v2))
 (cond (decide (0 ≤ v2) && decide (v2 < ((v0.size : Nat) : Int)))
 (cond (decide (((byteAt v0 (v2 : Int).toNat).toNat : Int) = v1))
 (some ([.one (.int .i64 v2)], []))
 (L_bytealg_LastIndexByteString_0 n c v0 v1 (IntKind.i64.wrap (v2 - 1))))
 none)
 (some ([.one (.int .i64 (-1))], []))) := by kernel_rfl
theorem E_bytealg_LastIndexByteString (n : Nat) (v0 : ByteArray) (v1 : Int) : FF (n + 1) 103 [.one (.str v0), .one (.int .u8 v1)] [] =
 L_bytealg_LastIndexByteString_0 n n v0 v1 (IntKind.i64.wrap ((v0.size : Int) - 1)) := by kernel_rfl
theorem E_stringslite_TrimPrefix (n : Nat) (v0 v1 : ByteArray) : FF (n + 1) 105 [.one (.str v0), .one (.str v1)] [] =
 ((FF n 120 [.one (.str v0), .one (.str v1)] []).bind fun x0 =>
 (rBool x0.1 fun x1 x2 =>
 (nilV x2 (nilO x0.2
 (cond x1
 (cond (Go.Ab.inB (v1.size : Int) v0.size v0.size)
 (some ([.one (.str (v0.extract ((v1.size : Int) : Int).toNat (v0.size : Int).toNat))], []))
 none)
 (some ([.one (.str v0)], []))))))) := by kernel_rfl
theorem E_stringslite_CutPrefix (n : Nat) (v0 v1 : ByteArray) : FF (n + 1) 108 [.one (.str v0), .one (.str v1)] [] =
 ((FF n 120 [.one (.str v0), .one (.str v1)] []).bind fun x0 =>
 (rBool x0.1 fun x1 x2 =>
 (nilV x2 (nilO x0.2
 (cond (!x1)
 (some ([.one (.str v0), .one (.bool false)], []))
 (cond (Go.Ab.inB (v1.size : Int) v0.size v0.size)
 (some ([.one (.str (v0.extract ((v1.size : Int) : Int).toNat (v0.size : Int).toNat)), .one (.bool true)], []))
 none)))))) := by kernel_rfl
theorem E_spec_FormatTerm (n : Nat) (v0 v1 : Int) (v2 : List T) : FF (n + 1) 109 [.agg [.int .i64 v0, .int .i64 v1, .fr (.ts v2)]] [] =
 ((FF n 26 [.agg [.int .i64 v0, .int .i64 v1, .fr (.ts v2)]] []).bind fun x0 =>
 (rBool x0.1 fun x1 x2 =>
 (nilV x2 (nilO x0.2
 (cond (!x1)
 (some ([.one (.str (bytesOf []))], []))
 ((FF n 93 [.agg [.int .i64 v0, .int .i64 v1, .fr (.ts v2)]] []).bind fun x3 =>
 (rStr x3.1 fun x4 x5 =>
 (nilV x5 (nilO x3.2
 (some ([.one (.str x4)], []))))))))))) := by kernel_rfl
noncomputable def L_spec_l1Draw_0_foo (n c : Nat) (v0 v1 v2 : Int) (v3 : List UInt8) (v4 v5 v6 : Int) (v7 : List T) (v8 v9 : Int) (v10 : List T) : OR := runLoop Tryz.prog SS n 110 1 [1, 1, 1, 1, 1, 0, 1, 0] [] c ⟨[.v (.one (.ptr 0 0)), .v (.one (.int .i64 v0)), anyV, anyV, .v (.one (.ptr 1 0)), .v (.one (.int .i64 v1)), .v (.one (.ptr 3 0)), .v (.one (.int .i64 v2)), anyV, anyV, anyV, anyV, anyV, anyV, anyV, anyV, anyV, anyV, anyV, anyV, anyV, anyV, anyV, anyV, anyV, anyV, anyV, anyV, anyV, anyV, anyV, anyV, anyV, anyV, anyV, anyV, anyV, anyV, anyV, anyV, anyV],
 [.cells [.fr (.bs v3), .int .i64 v4], .cells [.int .i64 v5, .int .i64 v6, .own 2 0], .arr 24 (.ts v7) 0 false, .cells [.int .i64 v8, .int .i64 v9, .own 4 0], .arr 24 (.ts v10) 0 false]⟩
theorem L_spec_l1Draw_0_foo_eq (n c : Nat) (v0 v1 v2 : Int) (v3 : List UInt8) (v4 v5 v6 : Int) (v7 : List T) (v8 v9 : Int) (v10 : List T) : L_spec_l1Draw_0_foo n (c + 1) v0 v1 v2 v3 v4 v5 v6 v7 v8 v9 v10 =
 ((FF n 100 [.one (.int .i64 v1)] []).bind fun x0 =>
 (rInt .i64 x0.1 fun x1 x2 =>
 (nilV x2 (nilO x0.2
 (cond (decide (v2 < x1))
 ((FF n 110 [.one (.ptr 0 0), .one (.int .i64 (IntKind.i64.wrap (v0 - 1)))] [.cells [.fr (.bs v3), .int .i64 v4]]).bind fun x3 =>
 (objC x3.2 fun x4 x5 =>
 (bsC x4 fun x6 x7 =>
 (intC .i64 x7 fun x8 x9 =>
 (nilC x9
 (rTerm x3.1 fun x10 x11 =>
 (nilV x11 (nilO x5
 (cond (roomB (v10 ++ [(T.mk x10.k x10.n x10.kids)]).length)
 (L_spec_l1Draw_0_foo n c v0 v1 (IntKind.i64.wrap (v2 + 1)) x6 x8 v5 v6 v7 v8 v9 (v10 ++ [(T.mk x10.k x10.n x10.kids)]))
 none)))))))))
 (some ([.agg [.int .i64 v8, .int .i64 v9, .fr (.ts v10)]], [.cells [.fr (.bs v3), .int .i64 v4]]))))))) := by kernel_rfl
theorem E_spec_l1Draw (n : Nat) (v0 : Int) (v1 : List UInt8) (v2 : Int) : FF (n + 1) 110 [.one (.ptr 0 0), .one (.int .i64 v0)] [.cells [.fr (.bs v1), .int .i64 v2]] =
 ((FF n 84 [.one (.ptr 0 0), .one (.fr (.is [1, 5, 4, 8, 9, 3, 6, 7, 11, 15, 14, 10, 12, 13, 16, 2]))] [.cells [.fr (.bs v1), .int .i64 v2]]).bind fun x0 =>
 (objC x0.2 fun x1 x2 =>
 (bsC x1 fun x3 x4 =>
 (intC .i64 x4 fun x5 x6 =>
 (nilC x6
 (rInt .i64 x0.1 fun x7 x8 =>
 (nilV x8 (nilO x2
 (cond (decide (v0 < 2))
 ((FF n 84 [.one (.ptr 0 0), .one (.fr (.is [1, 7, 6, 2, 1]))] [.cells [.fr (.bs x3), .int .i64 x5]]).bind fun x9 =>
 (objC x9.2 fun x10 x11 =>
 (bsC x10 fun x12 x13 =>
 (intC .i64 x13 fun x14 x15 =>
 (nilC x15
 (rInt .i64 x9.1 fun x16 x17 =>
 (nilV x17 (nilO x11
 ((FF n 101 [.one (.int .i64 x16)] []).bind fun x18 =>
 (rInt .i64 x18.1 fun x19 x20 =>
 (nilV x20 (nilO x18.2
 (cond (decide (0 < x19))
 ((FF n 84 [.one (.ptr 0 0), .one (.fr (.is [0, 1, 0, 2, 1, 3]))] [.cells [.fr (.bs x12), .int .i64 x14]]).bind fun x21 =>
 (objC x21.2 fun x22 x23 =>
 (bsC x22 fun x24 x25 =>
 (intC .i64 x25 fun x26 x27 =>
 (nilC x27
 (rInt .i64 x21.1 fun x28 x29 =>
 (nilV x29 (nilO x23
 (L_spec_l1Draw_0_foo n n v0 x16 0 x24 x26 0 0 ([]) x16 x28 ([]))))))))))
 (L_spec_l1Draw_0_foo n n v0 x16 0 x12 x14 0 0 ([]) x16 0 ([])))))))))))))))
 ((FF n 101 [.one (.int .i64 x7)] []).bind fun x9 =>
 (rInt .i64 x9.1 fun x10 x11 =>
 (nilV x11 (nilO x9.2
 (cond (decide (0 < x10))
 ((FF n 84 [.one (.ptr 0 0), .one (.fr (.is [0, 1, 0, 2, 1, 3]))] [.cells [.fr (.bs x3), .int .i64 x5]]).bind fun x12 =>
 (objC x12.2 fun x13 x14 =>
 (bsC x13 fun x15 x16 =>
 (intC .i64 x16 fun x17 x18 =>
 (nilC x18
 (rInt .i64 x12.1 fun x19 x20 =>
 (nilV x20 (nilO x14
 (L_spec_l1Draw_0_foo n n v0 x7 0 x15 x17 0 0 ([]) x7 x19 ([]))))))))))
 (L_spec_l1Draw_0_foo n n v0 x7 0 x3 x5 0 0 ([]) x7 0 ([])))))))))))))))) := by kernel_rfl
theorem E_impl_maxFree_1 (n : Nat) (v0 v1 : Int) : FF (n + 1) 77 [.one (.int .i64 v0), .one (.ptr 0 0)] [.cells [.int .i64 v1]] =
 some ([], [.cells [.int .i64 (max v1 (IntKind.i64.wrap (v0 + 1)))]]) := by kernel_rfl
theorem E_spec_l2Binds (n : Nat) (v0 v1 : Int) : FF (n + 1) 111 [.one (.int .i64 v0), .one (.int .i64 v1)] [] =
 (cond (decide (v1 = 1))
 (cond (decide (v0 = 3))
 (some ([.one (.bool true)], []))
 (cond (decide (v0 = 4))
 (some ([.one (.bool true)], []))
 (some ([.one (.bool (decide (v0 = 13)))], []))))
 (some ([.one (.bool false)], []))) := by kernel_rfl
noncomputable def L_spec_l6Fresh_0 (n c : Nat) (v0 : ByteArray) (v1 : Int) : OR := runLoop Tryz.prog SS n 112 0 [1, 0, 1, 0] [] c ⟨[.v (.one (.str v0)), anyV, anyV, .v (.one (.int .u8 v1)), anyV, anyV, anyV, anyV, anyV, anyV, anyV, anyV, anyV],
 []⟩
theorem L_spec_l6Fresh_0_eq (n c : Nat) (v0 : ByteArray) (v1 : Int) : L_spec_l6Fresh_0 n (c + 1) v0 v1 =
 (cond (decide (v1 ≤ 122))
 ((FF n 51 [.one (.str v0), .one (.int .u8 v1)] []).bind fun x0 =>
 (rInt .i64 x0.1 fun x1 x2 =>
 (nilV x2 (nilO x0.2
 (cond (decide (x1 < 0))
 (some ([.one (.int .u8 v1)], []))
 (L_spec_l6Fresh_0 n c v0 (IntKind.u8.wrap (v1 + 1))))))))
 (some ([.one (.int .u8 0)], []))) := by kernel_rfl
theorem E_spec_l6Fresh (n : Nat) (v0 : ByteArray) : FF (n + 1) 112 [.one (.str v0)] [] =
 L_spec_l6Fresh_0 n n v0 97 := by kernel_rfl
noncomputable def L_spec_l19Dec_0 (n c : Nat) (v0 : Int) (v1 : ByteArray) : OR := runLoop Tryz.prog SS n 113 0 [1, 1, 1, 1, 0, 0] [] c ⟨[.v (.one (.int .i64 v0)), anyV, anyV, .v (.one (.str v1)), anyV, anyV, anyV, anyV, anyV, anyV, anyV, anyV, anyV, anyV, anyV, anyV, anyV, anyV, anyV, anyV, anyV, anyV, anyV, anyV, anyV, anyV, anyV, anyV, anyV, anyV, anyV],
 []⟩
theorem L_spec_l19Dec_0_eq (n c : Nat) (v0 : Int) (v1 : ByteArray) : L_spec_l19Dec_0 n (c + 1) v0 v1 =
 (cond (decide (9 < v0))
 (cond (decide (0 ≤ (IntKind.u8.wrap (IntKind.i64.wrap (48 + (Int.tmod v0 10))))) && decide ((IntKind.u8.wrap (IntKind.i64.wrap (48 + (Int.tmod v0 10)))) ≤ 255))
 (cond (decide ((ByteArray.mk ([(UInt8.ofNat (IntKind.u8.wrap (IntKind.i64.wrap (48 + (Int.tmod v0 10)))).toNat)]).toArray).size + v1.size ≤ 9223372036854775807))
 (L_spec_l19Dec_0 n c (IntKind.i64.wrap (Int.tdiv v0 10)) (((ByteArray.mk ([(UInt8.ofNat (IntKind.u8.wrap (IntKind.i64.wrap (48 + (Int.tmod v0 10)))).toNat)]).toArray) ++ v1) : ByteArray))
 none)
 none)
 (cond (decide (0 ≤ (IntKind.u8.wrap (IntKind.i64.wrap (48 + v0)))) && decide ((IntKind.u8.wrap (IntKind.i64.wrap (48 + v0))) ≤ 255))
 (cond (decide ((ByteArray.mk ([(UInt8.ofNat (IntKind.u8.wrap (IntKind.i64.wrap (48 + v0))).toNat)]).toArray).size + v1.size ≤ 9223372036854775807))
 (some ([.one (.str ((ByteArray.mk ([(UInt8.ofNat (IntKind.u8.wrap (IntKind.i64.wrap (48 + v0))).toNat)]).toArray) ++ v1))], []))
 none)
 none)) := by kernel_rfl
theorem E_spec_l19Dec (n : Nat) (v0 : Int) : FF (n + 1) 113 [.one (.int .i64 v0)] [] =
 (cond (decide (v0 < (-9223372036854775807)))
 (some ([.one (.str (bytesOf [45, 57, 50, 50, 51, 51, 55, 50, 48, 51, 54, 56, 53, 52, 55, 55, 53, 56, 48, 56]))], []))
 (cond (decide (v0 < 0))
 ((FF n 113 [.one (.int .i64 (IntKind.i64.wrap (0 - v0)))] []).bind fun x0 =>
 (rStr x0.1 fun x1 x2 =>
 (nilV x2 (nilO x0.2
 (cond (decide ((bytesOf [45]).size + x1.size ≤ 9223372036854775807))
 (some ([.one (.str ((bytesOf [45]) ++ x1))], []))
 none)))))
 (L_spec_l19Dec_0 n n v0 (bytesOf [])))) := by kernel_rfl
noncomputable def L_spec_l1List_0 (n c : Nat) (v0 : List T) (v1 : ByteArray) (v2 : Int) : OR := runLoop Tryz.prog SS n 114 0 [1, 1, 0, 1, 0] [] c ⟨[.v (.one (.fr (.ts v0))), anyV, anyV, .v (.one (.str v1)), .v (.one (.int .i64 v2)), anyV, anyV, anyV, anyV, anyV, anyV, anyV, anyV, anyV, anyV, anyV, anyV, anyV, anyV, anyV, anyV, anyV, anyV],
 []⟩
theorem L_spec_l1List_0_eq (n c : Nat) (v0 : List T) (v1 : ByteArray) (v2 : Int) : L_spec_l1List_0 n (c + 1) v0 v1 v2 =
 (cond (decide (v2 < (v0.length : Int)))
 (cond (decide (0 < v2))
 (cond (decide (v1.size + (bytesOf [44]).size ≤ 9223372036854775807))
 (cond (decide (0 ≤ v2))
 (v0[(v2 : Int).toNat]?.bind fun x0 =>
 ((FF n 93 [.agg [.int .i64 x0.k, .int .i64 x0.n, .fr (.ts x0.kids)]] []).bind fun x1 =>
 (rStr x1.1 fun x2 x3 =>
 (nilV x3 (nilO x1.2
 (cond (decide ((v1 ++ (bytesOf [44])).size + x2.size ≤ 9223372036854775807))
 (L_spec_l1List_0 n c v0 ((v1 ++ (bytesOf [44])) ++ x2) (IntKind.i64.wrap (v2 + 1)))
 none))))))
 none)
 none)
 (cond (decide (0 ≤ v2))
 (v0[(v2 : Int).toNat]?.bind fun x0 =>
 ((FF n 93 [.agg [.int .i64 x0.k, .int .i64 x0.n, .fr (.ts x0.kids)]] []).bind fun x1 =>
 (rStr x1.1 fun x2 x3 =>
 (nilV x3 (nilO x1.2
 (cond (decide (v1.size + x2.size ≤ 9223372036854775807))
 (L_spec_l1List_0 n c v0 (v1 ++ x2) (IntKind.i64.wrap (v2 + 1)))
 none))))))
 none))
 (some ([.one (.str v1)], []))) := by kernel_rfl
theorem E_spec_l1List (n : Nat) (v0 : List T) : FF (n + 1) 114 [.one (.fr (.ts v0))] [] =
 L_spec_l1List_0 n n v0 (bytesOf []) 0 := by kernel_rfl
noncomputable def L_spec_l19Num_0 (n c : Nat) (v0 : ByteArray) (v1 : Bool) (v2 v3 : Int) : OR := runLoop Tryz.prog SS n 115 0 [1, 1, 1, 1, 1, 0, 1, 0] [] c ⟨[.v (.one (.str v0)), anyV, anyV, anyV, .v (.one (.bool v1)), .v (.one (.int .i64 v2)), .v (.one (.int .i64 v3)), anyV, anyV, anyV, anyV, anyV, anyV, anyV, anyV, anyV, anyV, anyV, anyV, anyV, anyV, anyV, anyV, anyV, anyV, anyV, anyV, anyV, anyV, anyV, anyV, anyV, anyV, anyV, anyV, anyV, anyV, anyV, anyV, anyV, anyV, anyV, anyV, anyV, anyV, anyV, anyV, anyV, anyV, anyV, anyV, anyV, anyV, anyV, anyV, anyV, anyV, anyV, anyV, anyV, anyV, anyV, anyV, anyV, anyV, anyV, anyV],
 []⟩
theorem L_spec_l19Num_0_eq (n c : Nat) (v0 : ByteArray) (v1 : Bool) (v2 v3 : Int) : L_spec_l19Num_0 n (c + 1) v0 v1 v2 v3 =
 (cond (decide (v3 < (v0.size : Int)))
 (cond (decide (0 ≤ v3) && decide (v3 < ((v0.size : Nat) : Int)))
 (cond (decide (((byteAt v0 (v3 : Int).toNat).toNat : Int) < 48))
 (some ([.one (.int .i64 0), .one (.bool false)], []))
 (cond (decide (0 ≤ v3) && decide (v3 < ((v0.size : Nat) : Int)))
 (cond (decide (57 < ((byteAt v0 (v3 : Int).toNat).toNat : Int)))
 (some ([.one (.int .i64 0), .one (.bool false)], []))
 (cond (decide (0 ≤ v3) && decide (v3 < ((v0.size : Nat) : Int)))
 (L_spec_l19Num_0 n c v0 v1 (IntKind.i64.wrap ((IntKind.i64.wrap (v2 * 10)) + (IntKind.i64.wrap (IntKind.u8.wrap (((byteAt v0 (v3 : Int).toNat).toNat : Int) - 48))))) (IntKind.i64.wrap (v3 + 1)))
 none))
 none))
 none)
 (cond v1
 (some ([.one (.int .i64 (IntKind.i64.wrap (0 - v2))), .one (.bool true)], []))
 (some ([.one (.int .i64 v2), .one (.bool true)], [])))) := by kernel_rfl
theorem E_spec_l19Num (n : Nat) (v0 : ByteArray) : FF (n + 1) 115 [.one (.str v0)] [] =
 (cond (decide (0 < (v0.size : Int)))
 (cond (decide (0 ≤ 0) && decide (0 < ((v0.size : Nat) : Int)))
 (cond (decide (((byteAt v0 (0 : Int).toNat).toNat : Int) = 45))
 (cond (Go.Ab.inB 1 v0.size v0.size)
 (cond (decide (((v0.extract (1 : Int).toNat (v0.size : Int).toNat).size : Int) = 0))
 (some ([.one (.int .i64 0), .one (.bool false)], []))
 (cond (decide (17 < ((v0.extract (1 : Int).toNat (v0.size : Int).toNat).size : Int)))
 (some ([.one (.int .i64 0), .one (.bool false)], []))
 (cond (decide (0 ≤ 0) && decide (0 < (((v0.extract (1 : Int).toNat (v0.size : Int).toNat).size : Nat) : Int)))
 (cond (decide (((byteAt (v0.extract (1 : Int).toNat (v0.size : Int).toNat) (0 : Int).toNat).toNat : Int) = 48))
 (cond (decide (1 < ((v0.extract (1 : Int).toNat (v0.size : Int).toNat).size : Int)))
 (some ([.one (.int .i64 0), .one (.bool false)], []))
 (cond (decide (((byteAt v0 (0 : Int).toNat).toNat : Int) = 45))
 (some ([.one (.int .i64 0), .one (.bool false)], []))
 (L_spec_l19Num_0 n n ((v0.extract (1 : Int).toNat (v0.size : Int).toNat) : ByteArray) ((decide (((byteAt v0 (0 : Int).toNat).toNat : Int) = 45)) : Bool) 0 0)))
 (L_spec_l19Num_0 n n ((v0.extract (1 : Int).toNat (v0.size : Int).toNat) : ByteArray) ((decide (((byteAt v0 (0 : Int).toNat).toNat : Int) = 45)) : Bool) 0 0))
 none)))
 none)
 (cond (decide ((v0.size : Int) = 0))
 (some ([.one (.int .i64 0), .one (.bool false)], []))
 (cond (decide (17 < (v0.size : Int)))
 (some ([.one (.int .i64 0), .one (.bool false)], []))
 (cond (decide (0 ≤ 0) && decide (0 < ((v0.size : Nat) : Int)))
 (cond (decide (((byteAt v0 (0 : Int).toNat).toNat : Int) = 48))
 (cond (decide (1 < (v0.size : Int)))
 (some ([.one (.int .i64 0), .one (.bool false)], []))
 (cond (decide (((byteAt v0 (0 : Int).toNat).toNat : Int) = 45))
 (some ([.one (.int .i64 0), .one (.bool false)], []))
 (L_spec_l19Num_0 n n v0 ((decide (((byteAt v0 (0 : Int).toNat).toNat : Int) = 45)) : Bool) 0 0)))
 (L_spec_l19Num_0 n n v0 ((decide (((byteAt v0 (0 : Int).toNat).toNat : Int) = 45)) : Bool) 0 0))
 none))))
 none)
 (cond (decide ((v0.size : Int) = 0))
 (some ([.one (.int .i64 0), .one (.bool false)], []))
 (cond (decide (17 < (v0.size : Int)))
 (some ([.one (.int .i64 0), .one (.bool false)], []))
 (cond (decide (0 ≤ 0) && decide (0 < ((v0.size : Nat) : Int)))
 (cond (decide (((byteAt v0 (0 : Int).toNat).toNat : Int) = 48))
 (cond (decide (1 < (v0.size : Int)))
 (some ([.one (.int .i64 0), .one (.bool false)], []))
 (L_spec_l19Num_0 n n v0 (false) 0 0))
 (L_spec_l19Num_0 n n v0 (false) 0 0))
 none)))) := by kernel_rfl
noncomputable def L_spec_l1Series_0 (n c : Nat) (v0 : ByteArray) (v1 v2 v3 v4 v5 : Int) (v6 : List T) : OR := runLoop Tryz.prog SS n 116 0 [1, 1, 0, 1, 0] [] c ⟨[.v (.one (.str v0)), .v (.one (.int .i64 v1)), .v (.one (.int .i64 v2)), .v (.one (.int .i64 v3)), .v (.one (.int .u8 v4)), anyV, anyV, anyV, anyV, anyV, anyV, anyV, .v (.one (.own 0 0)), .v (.one (.int .i64 v5)), anyV, anyV, anyV, anyV, anyV, anyV, anyV, anyV, anyV, anyV, anyV, anyV, anyV, anyV, anyV, anyV, anyV, anyV, anyV, anyV, anyV, anyV, anyV, anyV, anyV, anyV, anyV, anyV, anyV, anyV, anyV, anyV, anyV, anyV, anyV, anyV, anyV, anyV, anyV, anyV, anyV, anyV, anyV, anyV, anyV, anyV, anyV, anyV, anyV, anyV, anyV, anyV, anyV, anyV, anyV, anyV],
 [.arr 24 (.ts v6) 0 false]⟩
theorem L_spec_l1Series_0_eq (n c : Nat) (v0 : ByteArray) (v1 v2 v3 v4 v5 : Int) (v6 : List T) : L_spec_l1Series_0 n (c + 1) v0 v1 v2 v3 v4 v5 v6 =
 (cond (decide (v5 < v3))
 ((FF n 52 [.one (.str v0), .one (.int .i64 v1), .one (.int .i64 v2)] []).bind fun x0 =>
 (rTerm x0.1 fun x1 x2 =>
 (rInt .i64 x2 fun x3 x4 =>
 (nilV x4 (nilO x0.2
 (cond (decide (x3 < 0))
 (some ([.one (.fr (.ts [])), .one (.int .i64 (-1))], []))
 (cond (decide ((v0.size : Int) ≤ x3))
 (some ([.one (.fr (.ts [])), .one (.int .i64 (-1))], []))
 (cond (decide ((IntKind.i64.wrap (v5 + 1)) < v3))
 (cond (decide (0 ≤ x3) && decide (x3 < ((v0.size : Nat) : Int)))
 (cond (!decide (((byteAt v0 (x3 : Int).toNat).toNat : Int) = 44))
 (some ([.one (.fr (.ts [])), .one (.int .i64 (-1))], []))
 (cond (decide ((IntKind.i64.wrap (v5 + 1)) = v3))
 (cond (decide (0 ≤ x3) && decide (x3 < ((v0.size : Nat) : Int)))
 (cond (!decide (((byteAt v0 (x3 : Int).toNat).toNat : Int) = v4))
 (some ([.one (.fr (.ts [])), .one (.int .i64 (-1))], []))
 (cond (roomB (v6 ++ [(T.mk x1.k x1.n x1.kids)]).length)
 (L_spec_l1Series_0 n c v0 (IntKind.i64.wrap (x3 + 1)) v2 v3 v4 (IntKind.i64.wrap (v5 + 1)) (v6 ++ [(T.mk x1.k x1.n x1.kids)]))
 none))
 none)
 (cond (roomB (v6 ++ [(T.mk x1.k x1.n x1.kids)]).length)
 (L_spec_l1Series_0 n c v0 (IntKind.i64.wrap (x3 + 1)) v2 v3 v4 (IntKind.i64.wrap (v5 + 1)) (v6 ++ [(T.mk x1.k x1.n x1.kids)]))
 none)))
 none)
 (cond (decide ((IntKind.i64.wrap (v5 + 1)) = v3))
 (cond (decide (0 ≤ x3) && decide (x3 < ((v0.size : Nat) : Int)))
 (cond (!decide (((byteAt v0 (x3 : Int).toNat).toNat : Int) = v4))
 (some ([.one (.fr (.ts [])), .one (.int .i64 (-1))], []))
 (cond (roomB (v6 ++ [(T.mk x1.k x1.n x1.kids)]).length)
 (L_spec_l1Series_0 n c v0 (IntKind.i64.wrap (x3 + 1)) v2 v3 v4 (IntKind.i64.wrap (v5 + 1)) (v6 ++ [(T.mk x1.k x1.n x1.kids)]))
 none))
 none)
 (cond (roomB (v6 ++ [(T.mk x1.k x1.n x1.kids)]).length)
 (L_spec_l1Series_0 n c v0 (IntKind.i64.wrap (x3 + 1)) v2 v3 v4 (IntKind.i64.wrap (v5 + 1)) (v6 ++ [(T.mk x1.k x1.n x1.kids)]))
 none))))))))))
 (some ([.one (.fr (.ts v6)), .one (.int .i64 v1)], []))) := by kernel_rfl
theorem E_spec_l1Series (n : Nat) (v0 : ByteArray) (v1 v2 v3 v4 : Int) : FF (n + 1) 116 [.one (.str v0), .one (.int .i64 v1), .one (.int .i64 v2), .one (.int .i64 v3), .one (.int .u8 v4)] [] =
 L_spec_l1Series_0 n n v0 v1 v2 v3 v4 0 ([]) := by kernel_rfl
theorem E_stringslite_HasPrefix (n : Nat) (v0 v1 : ByteArray) : FF (n + 1) 120 [.one (.str v0), .one (.str v1)] [] =
 (cond (decide ((v1.size : Int) ≤ (v0.size : Int)))
 (cond (Go.Ab.inB 0 (v1.size : Int) v0.size)
 (some ([.one (.bool ((v0.extract (0 : Int).toNat ((v1.size : Int) : Int).toNat).toList == v1.toList))], []))
 none)
 (some ([.one (.bool false)], []))) := by kernel_rfl
end Go.Proofs.YtnogehmgpfpjmaaGreatDoor
end
section

end
section
namespace Go.Ab
open Go Go.Dk
open Go.ChangeShapes Go.WideShapes Go.ChangeAt Go.RowKit
abbrev anyB : Zone := fun _ => True
theorem abs_law {P : Program} [DrM P] {S : Say} (hp : PrimsOK P S) (hib : ∀ f, S.D.ib f = true → extIB P f) {f : FuncId} {fn : Func} {n : Nat} {args : List V1} {vals : List Value} {w : World}
   (hfn : P.funcs[f]? = some fn) (hb : fn.body.isSome = true) (hr : All2 (RV [] anyB w) (args.map .v) vals) (hgl : GL noneZ w) (h : evF P S n f args [] = some ([.one (.bool true)], [])) :
   Calls P f vals.toArray w fun e w' => e = .returned (.bool true) ∧ Grow w w' := by
 have h0 : InvG w noneZ anyB 0 [] ⟨args.map .v, []⟩ vals w := by
  refine ⟨St.init w noneZ anyB (relF_stable _ _ _) ⟨hr, All2.nil⟩, fun j _ hl => by simp at hl, fun k hk => trivial, hgl⟩
 have := abs_sound hp hib n f fn args [] _ hfn hb h w noneZ anyB [] vals w h0
 refine this.mono fun e w' ⟨xs, G', he, hI, _⟩ => ?_
 obtain ⟨x, xs', rfl, h1, h2⟩ := hI.st.per.1.cons_inv
 obtain rfl := h2.nil_inv
 obtain rfl := bool_inv h1
 exact ⟨he, hI.st.ext⟩
theorem bytes_arg {d : SD} {v : Value} {w : World} (h : SlR anyB w d v) : RV1 [] anyB w (.one (.fr d)) v := ⟨h, fun _ => by obtain ⟨a, cap, xs, rfl, _⟩ := h; rfl⟩
theorem open_bytes {H : Type} {enc : TypeId × Value → H} {P : Program} {W : World} {base : Nat} {tB tU : TypeId} (hB : P.underlying tB = some (.slice tU)) (hU : P.underlying tU = some (.int .u8)) (hc : P.cellsOf tU = 1)
   {v : Value} {d : DataW H} {p : List MemPlace} (hval : Value.okWide P W .any base tB v) (h : DataW.Trod enc P W 0 (fun _ => true) true tB v d p) : ∃ l : List UInt8, SlR anyB W (.bs l) v := by
 obtain ⟨a1, len, cap, rfl⟩ := okWide_slice hB hval
 obtain ⟨fuel, hf⟩ := h
 rcases open_ints hB hU hc hf with ⟨hcs, hx⟩ | ⟨a, len', cap', zs, hcs, _, hl, hm, hz, hx, hcell, hwz⟩
 ·simp [Value.cells] at hcs
  obtain ⟨rfl, rfl, rfl⟩ := hcs
  exact ⟨[], none, 0, [], rfl, Nat.zero_le _, Nat.zero_le _, rfl, .inl rfl⟩
 ·simp [Value.cells] at hcs
  obtain ⟨rfl, rfl, rfl⟩ := hcs
  simp only [if_true] at hz
  refine ⟨(zs.take len).map (fun n : Int => UInt8.ofNat n.toNat), ?_⟩
  have hlen : ((zs.take len).map fun n => UInt8.ofNat n.toNat).length = len := by simp; omega
  by_cases h0 : len = 0
  ·subst h0
   exact ⟨some a, cap, [], by simp [SD.len], Nat.zero_le _, Nat.zero_le _, by simp [ElemsR], .inl rfl⟩
  ·obtain ⟨ab, ao, spot⟩ := a
   have hspot : spot = none := by simpa [Addr.add] using World.cell?_spot (hcell 0 (by omega))
   subst hspot
   refine ⟨some ⟨ab, ao, none⟩, cap, ((zs.take len).map (fun n : Int => UInt8.ofNat n.toNat)).map (fun c => Value.int .u8 ((UInt8.toNat c : Nat) : Int)), ?_, ?_, ?_, rfl, .inr ⟨ab, ao, rfl, trivial, fun i x hx => ?_⟩⟩
   ·simp only [SD.len, hlen]
   ·simp only [SD.len, hlen]; exact hl
   ·simp only [SD.len, hlen]; exact Nat.le_trans hl hm
   ·rw [List.getElem?_map, List.getElem?_map] at hx
    cases hzi : (zs.take len)[i]? with
    | none => rw [hzi] at hx; simp at hx
    | some n =>
     rw [hzi] at hx
     simp at hx
     subst hx
     have hil : i < len := by
      rcases Nat.lt_or_ge i len with h' | h'
      ·exact h'
      ·rw [List.getElem?_eq_none (by simp; omega)] at hzi; cases hzi
     have hzi' : zs[i]? = some n := by rw [List.getElem?_take_of_lt hil] at hzi; exact hzi
     have hc' := hcell i (by omega)
     rw [addr_add] at hc'
     rw [hc']
     have hn : zs.getD i 0 = n := by simp [List.getD, hzi']
     rw [hn]
     have hw := hwz n (List.mem_of_getElem? hzi')
     have hnn : 0 ≤ n ∧ n ≤ 255 := by
      simp [Lit.wf, IntKind.min, IntKind.max, IntKind.signed, IntKind.bits] at hw
      omega
     have hb : max n 0 % 256 = n := by omega
     rw [hb]
end Go.Ab
end
section
namespace Go.Proofs.YtnogehmgpfpjmaaGreatDoor
open Go Go.Ab Go.Dk
def fstC : Code → Code
 | .seq a _ => a
 | c => c
def sndC : Code → Code
 | .seq _ b => b
 | c => c
noncomputable def B_r : Code := Tryz.f54.body.getD .skip
noncomputable def EE_r (n : Nat) : Env := ⟨Tryz.prog, evF Tryz.prog SS n, SS.D, n, 0, SS.live 54⟩
noncomputable def KK_r : Kont := finK Tryz.prog (SS.D.own 54) Tryz.f54 0
noncomputable def S0_r (v0 : ByteArray) (v1 : Int) (v2 : ByteArray) (v3 : Int) : AS := ⟨[.v (.one (.str v0)), .v (.one (.int .i64 v1)), .v (.one (.str v2)), .v (.one (.int .i64 v3))] ++ List.replicate 106 anyV, []⟩
noncomputable def S1_r (v0 : ByteArray) (v1 : Int) (v2 : ByteArray) (v3 : Int) (x1 : Bool) : AS := ⟨[.v (.one (.str v0)), .v (.one (.int .i64 v1)), .v (.one (.str v2)), .v (.one (.int .i64 v3)), anyV, anyV, anyV, anyV, .v (.one (.ptr 0 0)), .v (.one (.int .i64 0)), .v (.one (.bool x1)), anyV, anyV, anyV, anyV, anyV, anyV, anyV, .v (.one (.str v0)), .v (.one (.int .i64 v1)), .v (.one (.bool x1)), anyV, anyV, anyV, anyV, anyV, anyV, anyV, anyV, anyV, anyV, anyV, anyV, anyV, anyV, anyV, anyV, anyV, anyV, anyV, anyV, anyV, anyV, anyV, anyV, anyV, anyV, anyV, anyV, anyV, anyV, anyV, anyV, anyV, anyV, anyV, anyV, anyV, anyV, anyV, anyV, anyV, anyV, anyV, anyV, anyV, anyV, anyV, anyV, anyV, anyV, anyV, anyV, anyV, anyV, anyV, anyV, anyV, anyV, anyV, anyV, anyV, anyV, anyV, anyV, anyV, anyV, anyV, anyV, anyV, anyV, anyV, anyV, anyV, anyV, anyV, anyV, anyV, anyV, anyV, anyV, anyV, anyV, anyV, anyV, anyV, anyV, anyV, anyV, anyV], [.cells [.int .i64 0, .int .i64 0, .emp (some (24, SK.t))]]⟩
noncomputable def K_spec_l6Round (n : Nat) (v0 : ByteArray) (v1 : Int) (v2 : ByteArray) (v3 : Int) (x1 : Bool) : OR := evC (EE_r n) 0 (sndC (sndC B_r)) (S1_r v0 v1 v2 v3 x1) KK_r
theorem K_spec_l6Round_t (n : Nat) (v0 : ByteArray) (v1 : Int) (v2 : ByteArray) (v3 : Int) : K_spec_l6Round n v0 v1 v2 v3 true =
 (((cond (Go.Ab.inB v1 (IntKind.i64.wrap (v1 + 1)) (v0).size)
 ((cond (decide ((v2).size + (((v0).extract (v1 : Int).toNat ((IntKind.i64.wrap (v1 + 1)) : Int).toNat)).size ≤ 9223372036854775807))
 (((FF n 25 [.one (.str v0), .one (.int .i64 (IntKind.i64.wrap (v1 + 2))), .one (.str v2), .one (.int .i64 v3)] []).bind fun x3 =>
 (rTerm x3.1 fun x4 x5 =>
 (rInt .i64 x5 fun x6 x7 =>
 (nilV x7 (nilO x3.2
 ((cond ((decide (x6 < 0)))
 (some ([.agg [.int .i64 0, .int .i64 0, .fr (.ts [])], .one (.int .i64 (-1))], []))
 ((cond ((decide (((v0).size : Int) ≤ x6)))
 (some ([.agg [.int .i64 0, .int .i64 0, .fr (.ts [])], .one (.int .i64 (-1))], []))
 (((cond (decide (0 ≤ x6) && decide (x6 < (((v0).size : Nat) : Int)))
 ((cond ((decide (((byteAt v0 (x6 : Int).toNat).toNat : Int) = 62)))
 (((FF n 25 [.one (.str v0), .one (.int .i64 (IntKind.i64.wrap (x6 + 1))), .one (.str (v2 ++ ((v0).extract (v1 : Int).toNat ((IntKind.i64.wrap (v1 + 1)) : Int).toNat))), .one (.int .i64 v3)] []).bind fun x8 =>
 (rTerm x8.1 fun x9 x10 =>
 (rInt .i64 x10 fun x11 x12 =>
 (nilV x12 (nilO x8.2
 ((cond ((decide (x11 < 0)))
 (some ([.agg [.int .i64 0, .int .i64 0, .fr (.ts [])], .one (.int .i64 (-1))], []))
 ((cond ((decide (((v0).size : Int) ≤ x11)))
 (some ([.agg [.int .i64 0, .int .i64 0, .fr (.ts [])], .one (.int .i64 (-1))], []))
 ((cond (decide (0 ≤ x11) && decide (x11 < (((v0).size : Nat) : Int)))
 ((cond ((!decide (((byteAt v0 (x11 : Int).toNat).toNat : Int) = 41)))
 (some ([.agg [.int .i64 0, .int .i64 0, .fr (.ts [])], .one (.int .i64 (-1))], []))
 (((FF n 53 [.one (.int .i64 3), .one (.fr (.ts [(T.mk (x4).k (x4).n (x4).kids), (T.mk (x9).k (x9).n (x9).kids)]))] []).bind fun x13 =>
 (rTerm x13.1 fun x14 x15 =>
 (nilV x15 (nilO x13.2
 (some ([.agg [.int .i64 (x14).k, .int .i64 (x14).n, .fr (.ts (x14).kids)], .one (.int .i64 (IntKind.i64.wrap (x11 + 1)))], [])))))))))
 (none)))))))))))))
 (((cond (decide (0 ≤ x6) && decide (x6 < (((v0).size : Nat) : Int)))
 ((cond ((decide (((byteAt v0 (x6 : Int).toNat).toNat : Int) = 42)))
 (((FF n 25 [.one (.str v0), .one (.int .i64 (IntKind.i64.wrap (x6 + 1))), .one (.str (v2 ++ ((v0).extract (v1 : Int).toNat ((IntKind.i64.wrap (v1 + 1)) : Int).toNat))), .one (.int .i64 v3)] []).bind fun x8 =>
 (rTerm x8.1 fun x9 x10 =>
 (rInt .i64 x10 fun x11 x12 =>
 (nilV x12 (nilO x8.2
 ((cond ((decide (x11 < 0)))
 (some ([.agg [.int .i64 0, .int .i64 0, .fr (.ts [])], .one (.int .i64 (-1))], []))
 ((cond ((decide (((v0).size : Int) ≤ x11)))
 (some ([.agg [.int .i64 0, .int .i64 0, .fr (.ts [])], .one (.int .i64 (-1))], []))
 ((cond (decide (0 ≤ x11) && decide (x11 < (((v0).size : Nat) : Int)))
 ((cond ((!decide (((byteAt v0 (x11 : Int).toNat).toNat : Int) = 41)))
 (some ([.agg [.int .i64 0, .int .i64 0, .fr (.ts [])], .one (.int .i64 (-1))], []))
 (((FF n 53 [.one (.int .i64 13), .one (.fr (.ts [(T.mk (x4).k (x4).n (x4).kids), (T.mk (x9).k (x9).n (x9).kids)]))] []).bind fun x13 =>
 (rTerm x13.1 fun x14 x15 =>
 (nilV x15 (nilO x13.2
 (some ([.agg [.int .i64 (x14).k, .int .i64 (x14).n, .fr (.ts (x14).kids)], .one (.int .i64 (IntKind.i64.wrap (x11 + 1)))], [])))))))))
 (none)))))))))))))
 ((((FF n 25 [.one (.str v0), .one (.int .i64 (IntKind.i64.wrap (x6 + 1))), .one (.str (v2 ++ ((v0).extract (v1 : Int).toNat ((IntKind.i64.wrap (v1 + 1)) : Int).toNat))), .one (.int .i64 v3)] []).bind fun x8 =>
 (rTerm x8.1 fun x9 x10 =>
 (rInt .i64 x10 fun x11 x12 =>
 (nilV x12 (nilO x8.2
 (some ([.agg [.int .i64 0, .int .i64 0, .fr (.ts [])], .one (.int .i64 (-1))], [])))))))))))
 (none))))))
 (none))))))))))))))
 (none)))
 (none)))) := by kernel_rfl
theorem K_spec_l6Round_f (n : Nat) (v0 : ByteArray) (v1 : Int) (v2 : ByteArray) (v3 : Int) : K_spec_l6Round n v0 v1 v2 v3 false =
 ((((FF n 25 [.one (.str v0), .one (.int .i64 v1), .one (.str v2), .one (.int .i64 v3)] []).bind fun x3 =>
 (rTerm x3.1 fun x4 x5 =>
 (rInt .i64 x5 fun x6 x7 =>
 (nilV x7 (nilO x3.2
 ((cond ((decide (x6 < 0)))
 (some ([.agg [.int .i64 0, .int .i64 0, .fr (.ts [])], .one (.int .i64 (-1))], []))
 ((cond ((decide (((v0).size : Int) ≤ x6)))
 (some ([.agg [.int .i64 0, .int .i64 0, .fr (.ts [])], .one (.int .i64 (-1))], []))
 (((((cond (decide (0 ≤ x6) && decide (x6 < (((v0).size : Nat) : Int)))
 ((cond ((decide (((byteAt v0 (x6 : Int).toNat).toNat : Int) = 32)))
 (((FF n 25 [.one (.str v0), .one (.int .i64 (IntKind.i64.wrap (x6 + 1))), .one (.str v2), .one (.int .i64 v3)] []).bind fun x8 =>
 (rTerm x8.1 fun x9 x10 =>
 (rInt .i64 x10 fun x11 x12 =>
 (nilV x12 (nilO x8.2
 ((cond ((decide (x11 < 0)))
 (some ([.agg [.int .i64 0, .int .i64 0, .fr (.ts [])], .one (.int .i64 (-1))], []))
 ((cond ((decide (((v0).size : Int) ≤ x11)))
 (some ([.agg [.int .i64 0, .int .i64 0, .fr (.ts [])], .one (.int .i64 (-1))], []))
 ((cond (decide (0 ≤ x11) && decide (x11 < (((v0).size : Nat) : Int)))
 ((cond ((!decide (((byteAt v0 (x11 : Int).toNat).toNat : Int) = 41)))
 (some ([.agg [.int .i64 0, .int .i64 0, .fr (.ts [])], .one (.int .i64 (-1))], []))
 (((FF n 53 [.one (.int .i64 5), .one (.fr (.ts [(T.mk (x4).k (x4).n (x4).kids), (T.mk (x9).k (x9).n (x9).kids)]))] []).bind fun x13 =>
 (rTerm x13.1 fun x14 x15 =>
 (nilV x15 (nilO x13.2
 (some ([.agg [.int .i64 (x14).k, .int .i64 (x14).n, .fr (.ts (x14).kids)], .one (.int .i64 (IntKind.i64.wrap (x11 + 1)))], [])))))))))
 (none)))))))))))))
 (((FF n 25 [.one (.str v0), .one (.int .i64 (IntKind.i64.wrap (x6 + 1))), .one (.str v2), .one (.int .i64 v3)] []).bind fun x8 =>
 (rTerm x8.1 fun x9 x10 =>
 (rInt .i64 x10 fun x11 x12 =>
 (nilV x12 (nilO x8.2
 (some ([.agg [.int .i64 0, .int .i64 0, .fr (.ts [])], .one (.int .i64 (-1))], []))))))))))
 (none))))))))))))))))) := by kernel_rfl
theorem step_r (n : Nat) (v0 : ByteArray) (v1 : Int) (v2 : ByteArray) (v3 : Int) (R : Code) (k : Kont) : evC (EE_r n) 0 (.seq (fstC B_r) (.seq (fstC (sndC B_r)) R)) (S0_r v0 v1 v2 v3) k =
 ((FF n 98 [.one (.str v0), .one (.int .i64 v1)] []).bind fun x0 =>
 (rBool x0.1 fun x1 x2 =>
 (nilV x2 (nilO x0.2
 (evC (EE_r n) 0 R (S1_r v0 v1 v2 v3 x1) k))))) := by kernel_rfl
theorem body_r : B_r = .seq (fstC B_r) (.seq (fstC (sndC B_r)) (sndC (sndC B_r))) := by kernel_rfl
theorem enter_r (n : Nat) (v0 : ByteArray) (v1 : Int) (v2 : ByteArray) (v3 : Int) : FF (n + 1) 54 [.one (.str v0), .one (.int .i64 v1), .one (.str v2), .one (.int .i64 v3)] [] = evC (EE_r n) 0 B_r (S0_r v0 v1 v2 v3) KK_r := by kernel_rfl
theorem cond_r (n : Nat) (v0 : ByteArray) (v1 : Int) (v2 : ByteArray) (v3 : Int) (b : Bool) : evC (EE_r n) 0 (sndC (sndC B_r)) (S1_r v0 v1 v2 v3 b) KK_r = cond b (
 (((cond (Go.Ab.inB v1 (IntKind.i64.wrap (v1 + 1)) (v0).size)
 ((cond (decide ((v2).size + (((v0).extract (v1 : Int).toNat ((IntKind.i64.wrap (v1 + 1)) : Int).toNat)).size ≤ 9223372036854775807))
 (((FF n 25 [.one (.str v0), .one (.int .i64 (IntKind.i64.wrap (v1 + 2))), .one (.str v2), .one (.int .i64 v3)] []).bind fun x3 =>
 (rTerm x3.1 fun x4 x5 =>
 (rInt .i64 x5 fun x6 x7 =>
 (nilV x7 (nilO x3.2
 ((cond ((decide (x6 < 0)))
 (some ([.agg [.int .i64 0, .int .i64 0, .fr (.ts [])], .one (.int .i64 (-1))], []))
 ((cond ((decide (((v0).size : Int) ≤ x6)))
 (some ([.agg [.int .i64 0, .int .i64 0, .fr (.ts [])], .one (.int .i64 (-1))], []))
 (((cond (decide (0 ≤ x6) && decide (x6 < (((v0).size : Nat) : Int)))
 ((cond ((decide (((byteAt v0 (x6 : Int).toNat).toNat : Int) = 62)))
 (((FF n 25 [.one (.str v0), .one (.int .i64 (IntKind.i64.wrap (x6 + 1))), .one (.str (v2 ++ ((v0).extract (v1 : Int).toNat ((IntKind.i64.wrap (v1 + 1)) : Int).toNat))), .one (.int .i64 v3)] []).bind fun x8 =>
 (rTerm x8.1 fun x9 x10 =>
 (rInt .i64 x10 fun x11 x12 =>
 (nilV x12 (nilO x8.2
 ((cond ((decide (x11 < 0)))
 (some ([.agg [.int .i64 0, .int .i64 0, .fr (.ts [])], .one (.int .i64 (-1))], []))
 ((cond ((decide (((v0).size : Int) ≤ x11)))
 (some ([.agg [.int .i64 0, .int .i64 0, .fr (.ts [])], .one (.int .i64 (-1))], []))
 ((cond (decide (0 ≤ x11) && decide (x11 < (((v0).size : Nat) : Int)))
 ((cond ((!decide (((byteAt v0 (x11 : Int).toNat).toNat : Int) = 41)))
 (some ([.agg [.int .i64 0, .int .i64 0, .fr (.ts [])], .one (.int .i64 (-1))], []))
 (((FF n 53 [.one (.int .i64 3), .one (.fr (.ts [(T.mk (x4).k (x4).n (x4).kids), (T.mk (x9).k (x9).n (x9).kids)]))] []).bind fun x13 =>
 (rTerm x13.1 fun x14 x15 =>
 (nilV x15 (nilO x13.2
 (some ([.agg [.int .i64 (x14).k, .int .i64 (x14).n, .fr (.ts (x14).kids)], .one (.int .i64 (IntKind.i64.wrap (x11 + 1)))], [])))))))))
 (none)))))))))))))
 (((cond (decide (0 ≤ x6) && decide (x6 < (((v0).size : Nat) : Int)))
 ((cond ((decide (((byteAt v0 (x6 : Int).toNat).toNat : Int) = 42)))
 (((FF n 25 [.one (.str v0), .one (.int .i64 (IntKind.i64.wrap (x6 + 1))), .one (.str (v2 ++ ((v0).extract (v1 : Int).toNat ((IntKind.i64.wrap (v1 + 1)) : Int).toNat))), .one (.int .i64 v3)] []).bind fun x8 =>
 (rTerm x8.1 fun x9 x10 =>
 (rInt .i64 x10 fun x11 x12 =>
 (nilV x12 (nilO x8.2
 ((cond ((decide (x11 < 0)))
 (some ([.agg [.int .i64 0, .int .i64 0, .fr (.ts [])], .one (.int .i64 (-1))], []))
 ((cond ((decide (((v0).size : Int) ≤ x11)))
 (some ([.agg [.int .i64 0, .int .i64 0, .fr (.ts [])], .one (.int .i64 (-1))], []))
 ((cond (decide (0 ≤ x11) && decide (x11 < (((v0).size : Nat) : Int)))
 ((cond ((!decide (((byteAt v0 (x11 : Int).toNat).toNat : Int) = 41)))
 (some ([.agg [.int .i64 0, .int .i64 0, .fr (.ts [])], .one (.int .i64 (-1))], []))
 (((FF n 53 [.one (.int .i64 13), .one (.fr (.ts [(T.mk (x4).k (x4).n (x4).kids), (T.mk (x9).k (x9).n (x9).kids)]))] []).bind fun x13 =>
 (rTerm x13.1 fun x14 x15 =>
 (nilV x15 (nilO x13.2
 (some ([.agg [.int .i64 (x14).k, .int .i64 (x14).n, .fr (.ts (x14).kids)], .one (.int .i64 (IntKind.i64.wrap (x11 + 1)))], [])))))))))
 (none)))))))))))))
 ((((FF n 25 [.one (.str v0), .one (.int .i64 (IntKind.i64.wrap (x6 + 1))), .one (.str (v2 ++ ((v0).extract (v1 : Int).toNat ((IntKind.i64.wrap (v1 + 1)) : Int).toNat))), .one (.int .i64 v3)] []).bind fun x8 =>
 (rTerm x8.1 fun x9 x10 =>
 (rInt .i64 x10 fun x11 x12 =>
 (nilV x12 (nilO x8.2
 (some ([.agg [.int .i64 0, .int .i64 0, .fr (.ts [])], .one (.int .i64 (-1))], [])))))))))))
 (none))))))
 (none))))))))))))))
 (none)))
 (none))))) (
 ((((FF n 25 [.one (.str v0), .one (.int .i64 v1), .one (.str v2), .one (.int .i64 v3)] []).bind fun x3 =>
 (rTerm x3.1 fun x4 x5 =>
 (rInt .i64 x5 fun x6 x7 =>
 (nilV x7 (nilO x3.2
 ((cond ((decide (x6 < 0)))
 (some ([.agg [.int .i64 0, .int .i64 0, .fr (.ts [])], .one (.int .i64 (-1))], []))
 ((cond ((decide (((v0).size : Int) ≤ x6)))
 (some ([.agg [.int .i64 0, .int .i64 0, .fr (.ts [])], .one (.int .i64 (-1))], []))
 (((((cond (decide (0 ≤ x6) && decide (x6 < (((v0).size : Nat) : Int)))
 ((cond ((decide (((byteAt v0 (x6 : Int).toNat).toNat : Int) = 32)))
 (((FF n 25 [.one (.str v0), .one (.int .i64 (IntKind.i64.wrap (x6 + 1))), .one (.str v2), .one (.int .i64 v3)] []).bind fun x8 =>
 (rTerm x8.1 fun x9 x10 =>
 (rInt .i64 x10 fun x11 x12 =>
 (nilV x12 (nilO x8.2
 ((cond ((decide (x11 < 0)))
 (some ([.agg [.int .i64 0, .int .i64 0, .fr (.ts [])], .one (.int .i64 (-1))], []))
 ((cond ((decide (((v0).size : Int) ≤ x11)))
 (some ([.agg [.int .i64 0, .int .i64 0, .fr (.ts [])], .one (.int .i64 (-1))], []))
 ((cond (decide (0 ≤ x11) && decide (x11 < (((v0).size : Nat) : Int)))
 ((cond ((!decide (((byteAt v0 (x11 : Int).toNat).toNat : Int) = 41)))
 (some ([.agg [.int .i64 0, .int .i64 0, .fr (.ts [])], .one (.int .i64 (-1))], []))
 (((FF n 53 [.one (.int .i64 5), .one (.fr (.ts [(T.mk (x4).k (x4).n (x4).kids), (T.mk (x9).k (x9).n (x9).kids)]))] []).bind fun x13 =>
 (rTerm x13.1 fun x14 x15 =>
 (nilV x15 (nilO x13.2
 (some ([.agg [.int .i64 (x14).k, .int .i64 (x14).n, .fr (.ts (x14).kids)], .one (.int .i64 (IntKind.i64.wrap (x11 + 1)))], [])))))))))
 (none)))))))))))))
 (((FF n 25 [.one (.str v0), .one (.int .i64 (IntKind.i64.wrap (x6 + 1))), .one (.str v2), .one (.int .i64 v3)] []).bind fun x8 =>
 (rTerm x8.1 fun x9 x10 =>
 (rInt .i64 x10 fun x11 x12 =>
 (nilV x12 (nilO x8.2
 (some ([.agg [.int .i64 0, .int .i64 0, .fr (.ts [])], .one (.int .i64 (-1))], []))))))))))
 (none)))))))))))))))))) := by
  cases b
  ·exact K_spec_l6Round_f n v0 v1 v2 v3
  ·exact K_spec_l6Round_t n v0 v1 v2 v3
theorem E_spec_l6Round (n : Nat) (v0 : ByteArray) (v1 : Int) (v2 : ByteArray) (v3 : Int) : FF (n + 1) 54 [.one (.str v0), .one (.int .i64 v1), .one (.str v2), .one (.int .i64 v3)] [] =
 ((FF n 98 [.one (.str v0), .one (.int .i64 v1)] []).bind fun x0 =>
 (rBool x0.1 fun x1 x2 =>
 (nilV x2 (nilO x0.2
 (cond x1 (
 (((cond (Go.Ab.inB v1 (IntKind.i64.wrap (v1 + 1)) (v0).size)
 ((cond (decide ((v2).size + (((v0).extract (v1 : Int).toNat ((IntKind.i64.wrap (v1 + 1)) : Int).toNat)).size ≤ 9223372036854775807))
 (((FF n 25 [.one (.str v0), .one (.int .i64 (IntKind.i64.wrap (v1 + 2))), .one (.str v2), .one (.int .i64 v3)] []).bind fun x3 =>
 (rTerm x3.1 fun x4 x5 =>
 (rInt .i64 x5 fun x6 x7 =>
 (nilV x7 (nilO x3.2
 ((cond ((decide (x6 < 0)))
 (some ([.agg [.int .i64 0, .int .i64 0, .fr (.ts [])], .one (.int .i64 (-1))], []))
 ((cond ((decide (((v0).size : Int) ≤ x6)))
 (some ([.agg [.int .i64 0, .int .i64 0, .fr (.ts [])], .one (.int .i64 (-1))], []))
 (((cond (decide (0 ≤ x6) && decide (x6 < (((v0).size : Nat) : Int)))
 ((cond ((decide (((byteAt v0 (x6 : Int).toNat).toNat : Int) = 62)))
 (((FF n 25 [.one (.str v0), .one (.int .i64 (IntKind.i64.wrap (x6 + 1))), .one (.str (v2 ++ ((v0).extract (v1 : Int).toNat ((IntKind.i64.wrap (v1 + 1)) : Int).toNat))), .one (.int .i64 v3)] []).bind fun x8 =>
 (rTerm x8.1 fun x9 x10 =>
 (rInt .i64 x10 fun x11 x12 =>
 (nilV x12 (nilO x8.2
 ((cond ((decide (x11 < 0)))
 (some ([.agg [.int .i64 0, .int .i64 0, .fr (.ts [])], .one (.int .i64 (-1))], []))
 ((cond ((decide (((v0).size : Int) ≤ x11)))
 (some ([.agg [.int .i64 0, .int .i64 0, .fr (.ts [])], .one (.int .i64 (-1))], []))
 ((cond (decide (0 ≤ x11) && decide (x11 < (((v0).size : Nat) : Int)))
 ((cond ((!decide (((byteAt v0 (x11 : Int).toNat).toNat : Int) = 41)))
 (some ([.agg [.int .i64 0, .int .i64 0, .fr (.ts [])], .one (.int .i64 (-1))], []))
 (((FF n 53 [.one (.int .i64 3), .one (.fr (.ts [(T.mk (x4).k (x4).n (x4).kids), (T.mk (x9).k (x9).n (x9).kids)]))] []).bind fun x13 =>
 (rTerm x13.1 fun x14 x15 =>
 (nilV x15 (nilO x13.2
 (some ([.agg [.int .i64 (x14).k, .int .i64 (x14).n, .fr (.ts (x14).kids)], .one (.int .i64 (IntKind.i64.wrap (x11 + 1)))], [])))))))))
 (none)))))))))))))
 (((cond (decide (0 ≤ x6) && decide (x6 < (((v0).size : Nat) : Int)))
 ((cond ((decide (((byteAt v0 (x6 : Int).toNat).toNat : Int) = 42)))
 (((FF n 25 [.one (.str v0), .one (.int .i64 (IntKind.i64.wrap (x6 + 1))), .one (.str (v2 ++ ((v0).extract (v1 : Int).toNat ((IntKind.i64.wrap (v1 + 1)) : Int).toNat))), .one (.int .i64 v3)] []).bind fun x8 =>
 (rTerm x8.1 fun x9 x10 =>
 (rInt .i64 x10 fun x11 x12 =>
 (nilV x12 (nilO x8.2
 ((cond ((decide (x11 < 0)))
 (some ([.agg [.int .i64 0, .int .i64 0, .fr (.ts [])], .one (.int .i64 (-1))], []))
 ((cond ((decide (((v0).size : Int) ≤ x11)))
 (some ([.agg [.int .i64 0, .int .i64 0, .fr (.ts [])], .one (.int .i64 (-1))], []))
 ((cond (decide (0 ≤ x11) && decide (x11 < (((v0).size : Nat) : Int)))
 ((cond ((!decide (((byteAt v0 (x11 : Int).toNat).toNat : Int) = 41)))
 (some ([.agg [.int .i64 0, .int .i64 0, .fr (.ts [])], .one (.int .i64 (-1))], []))
 (((FF n 53 [.one (.int .i64 13), .one (.fr (.ts [(T.mk (x4).k (x4).n (x4).kids), (T.mk (x9).k (x9).n (x9).kids)]))] []).bind fun x13 =>
 (rTerm x13.1 fun x14 x15 =>
 (nilV x15 (nilO x13.2
 (some ([.agg [.int .i64 (x14).k, .int .i64 (x14).n, .fr (.ts (x14).kids)], .one (.int .i64 (IntKind.i64.wrap (x11 + 1)))], [])))))))))
 (none)))))))))))))
 ((((FF n 25 [.one (.str v0), .one (.int .i64 (IntKind.i64.wrap (x6 + 1))), .one (.str (v2 ++ ((v0).extract (v1 : Int).toNat ((IntKind.i64.wrap (v1 + 1)) : Int).toNat))), .one (.int .i64 v3)] []).bind fun x8 =>
 (rTerm x8.1 fun x9 x10 =>
 (rInt .i64 x10 fun x11 x12 =>
 (nilV x12 (nilO x8.2
 (some ([.agg [.int .i64 0, .int .i64 0, .fr (.ts [])], .one (.int .i64 (-1))], [])))))))))))
 (none))))))
 (none))))))))))))))
 (none)))
 (none))))) (
 ((((FF n 25 [.one (.str v0), .one (.int .i64 v1), .one (.str v2), .one (.int .i64 v3)] []).bind fun x3 =>
 (rTerm x3.1 fun x4 x5 =>
 (rInt .i64 x5 fun x6 x7 =>
 (nilV x7 (nilO x3.2
 ((cond ((decide (x6 < 0)))
 (some ([.agg [.int .i64 0, .int .i64 0, .fr (.ts [])], .one (.int .i64 (-1))], []))
 ((cond ((decide (((v0).size : Int) ≤ x6)))
 (some ([.agg [.int .i64 0, .int .i64 0, .fr (.ts [])], .one (.int .i64 (-1))], []))
 (((((cond (decide (0 ≤ x6) && decide (x6 < (((v0).size : Nat) : Int)))
 ((cond ((decide (((byteAt v0 (x6 : Int).toNat).toNat : Int) = 32)))
 (((FF n 25 [.one (.str v0), .one (.int .i64 (IntKind.i64.wrap (x6 + 1))), .one (.str v2), .one (.int .i64 v3)] []).bind fun x8 =>
 (rTerm x8.1 fun x9 x10 =>
 (rInt .i64 x10 fun x11 x12 =>
 (nilV x12 (nilO x8.2
 ((cond ((decide (x11 < 0)))
 (some ([.agg [.int .i64 0, .int .i64 0, .fr (.ts [])], .one (.int .i64 (-1))], []))
 ((cond ((decide (((v0).size : Int) ≤ x11)))
 (some ([.agg [.int .i64 0, .int .i64 0, .fr (.ts [])], .one (.int .i64 (-1))], []))
 ((cond (decide (0 ≤ x11) && decide (x11 < (((v0).size : Nat) : Int)))
 ((cond ((!decide (((byteAt v0 (x11 : Int).toNat).toNat : Int) = 41)))
 (some ([.agg [.int .i64 0, .int .i64 0, .fr (.ts [])], .one (.int .i64 (-1))], []))
 (((FF n 53 [.one (.int .i64 5), .one (.fr (.ts [(T.mk (x4).k (x4).n (x4).kids), (T.mk (x9).k (x9).n (x9).kids)]))] []).bind fun x13 =>
 (rTerm x13.1 fun x14 x15 =>
 (nilV x15 (nilO x13.2
 (some ([.agg [.int .i64 (x14).k, .int .i64 (x14).n, .fr (.ts (x14).kids)], .one (.int .i64 (IntKind.i64.wrap (x11 + 1)))], [])))))))))
 (none)))))))))))))
 (((FF n 25 [.one (.str v0), .one (.int .i64 (IntKind.i64.wrap (x6 + 1))), .one (.str v2), .one (.int .i64 v3)] []).bind fun x8 =>
 (rTerm x8.1 fun x9 x10 =>
 (rInt .i64 x10 fun x11 x12 =>
 (nilV x12 (nilO x8.2
 (some ([.agg [.int .i64 0, .int .i64 0, .fr (.ts [])], .one (.int .i64 (-1))], []))))))))))
 (none))))))))))))))))))))))) := by
  rw [enter_r, body_r, step_r]
  simp only [cond_r]
end Go.Proofs.YtnogehmgpfpjmaaGreatDoor
end
section
namespace Go.Proofs.YtnogehmgpfpjmaaGreatDoor
open Go.Shelf
def laysM171_ren : Go.Shelf.Ren := ⟨fun | 171 => 68 | 243 => 106 | 246 => 121 | 283 => 130 | 284 => 131 | 285 => 132 | 286 => 133 | 129 => 142 | 317 => 141 | 318 => 143 | 319 => 144 | 320 => 145 | 337 => 152 | 338 => 153 | n => n, fun | 3 => 3 | 9 => 9 | 2 => 2 | 4 => 4 | 171 => 126 | 0 => 0 | 53 => 127 | 37 => 30 | 5 => 5 | 173 => 130 | 212 => 141 | 51 => 142 | 20 => 20 | 213 => 143 | 46 => 136 | 232 => 157 | 233 => 158 | n => n, fun | 17 => 3 | 18 => 6 | 19 => 7 | n => n⟩
theorem laysM171 : Go.Proofs.LaysM.n171 Tryz.prog laysM171_ren := {
 mixed := by kernel_rfl
 f129 := Tryz.func142.trans (congrArg some (by kernel_rfl))
 f171 := Tryz.func68.trans (congrArg some (by kernel_rfl))
 f243 := Tryz.func106.trans (congrArg some (by kernel_rfl))
 f246 := Tryz.func121.trans (congrArg some (by kernel_rfl))
 f283 := Tryz.func130.trans (congrArg some (by kernel_rfl))
 f284 := Tryz.func131.trans (congrArg some (by kernel_rfl))
 f285 := Tryz.func132.trans (congrArg some (by kernel_rfl))
 f286 := Tryz.func133.trans (congrArg some (by kernel_rfl))
 f317 := Tryz.func141.trans (congrArg some (by kernel_rfl))
 f318 := Tryz.func143.trans (congrArg some (by kernel_rfl))
 f319 := Tryz.func144.trans (congrArg some (by kernel_rfl))
 f320 := Tryz.func145.trans (congrArg some (by kernel_rfl))
 f337 := Tryz.func152.trans (congrArg some (by kernel_rfl))
 f338 := Tryz.func153.trans (congrArg some (by kernel_rfl))
 t0 := Tryz.underlying0
 a0 := Tryz.isAgg0
 z0 := Tryz.sizeOf0
 v0 := Tryz.zeroValue0
 t2 := Tryz.underlying2
 a2 := Tryz.isAgg2
 z2 := Tryz.sizeOf2
 v2 := Tryz.zeroValue2
 t3 := Tryz.underlying3
 a3 := Tryz.isAgg3
 z3 := Tryz.sizeOf3
 v3 := Tryz.zeroValue3
 t4 := Tryz.underlying4
 a4 := Tryz.isAgg4
 z4 := Tryz.sizeOf4
 v4 := Tryz.zeroValue4
 t5 := Tryz.underlying5
 a5 := Tryz.isAgg5
 z5 := Tryz.sizeOf5
 v5 := Tryz.zeroValue5
 t9 := Tryz.underlying9
 a9 := Tryz.isAgg9
 z9 := Tryz.sizeOf9
 v9 := Tryz.zeroValue9
 t20 := Tryz.underlying20
 a20 := Tryz.isAgg20
 z20 := Tryz.sizeOf20
 v20 := Tryz.zeroValue20
 t37 := Tryz.underlying30
 a37 := Tryz.isAgg30
 z37 := Tryz.sizeOf30
 v37 := Tryz.zeroValue30
 t46 := Tryz.underlying136
 a46 := Tryz.isAgg136
 z46 := Tryz.sizeOf136
 v46 := Tryz.zeroValue136
 t51 := Tryz.underlying142
 a51 := Tryz.isAgg142
 z51 := Tryz.sizeOf142
 v51 := Tryz.zeroValue142
 t53 := Tryz.underlying127
 a53 := Tryz.isAgg127
 z53 := Tryz.sizeOf127
 v53 := Tryz.zeroValue127
 t171 := Tryz.underlying126
 a171 := Tryz.isAgg126
 z171 := Tryz.sizeOf126
 v171 := Tryz.zeroValue126
 t173 := Tryz.underlying130
 a173 := Tryz.isAgg130
 z173 := Tryz.sizeOf130
 v173 := Tryz.zeroValue130
 t212 := Tryz.underlying141
 a212 := Tryz.isAgg141
 z212 := Tryz.sizeOf141
 v212 := Tryz.zeroValue141
 t213 := Tryz.underlying143
 a213 := Tryz.isAgg143
 z213 := Tryz.sizeOf143
 t232 := Tryz.underlying157
 a232 := Tryz.isAgg157
 z232 := Tryz.sizeOf157
 v232 := Tryz.zeroValue157
 t233 := Tryz.underlying158
 a233 := Tryz.isAgg158
 z233 := Tryz.sizeOf158
 v233 := Tryz.zeroValue158
 g17 := by kernel_rfl
 g18 := by kernel_rfl
 g19 := by kernel_rfl
 i0 := by kernel_rfl
 i2 := by kernel_rfl
 i3 := by kernel_rfl
 i4 := by kernel_rfl
 i5 := by kernel_rfl
 i9 := by kernel_rfl
 i20 := by kernel_rfl
 i37 := by kernel_rfl
 i46 := by kernel_rfl
 i51 := by kernel_rfl
 i53 := by kernel_rfl
 i171 := by kernel_rfl
 i173 := by kernel_rfl
 i212 := by kernel_rfl
 i232 := by kernel_rfl
 i233 := by kernel_rfl
 m17 := by kernel_rfl
 m18 := by kernel_rfl
 m19 := by kernel_rfl }
def laysC172_ren : Go.Shelf.Ren := ⟨fun | 172 => 104 | 244 => 118 | 245 => 119 | 247 => 125 | 279 => 126 | 280 => 127 | 281 => 128 | 282 => 129 | 287 => 138 | 316 => 139 | 171 => 68 | 205 => 140 | 321 => 150 | 322 => 151 | 243 => 106 | 246 => 121 | 283 => 130 | 284 => 131 | 285 => 132 | 286 => 133 | 129 => 142 | 317 => 141 | 318 => 143 | 319 => 144 | 320 => 145 | 337 => 152 | 338 => 153 | n => n, fun | 9 => 9 | 3 => 3 | 75 => 105 | 76 => 106 | 4 => 4 | 5 => 5 | 167 => 120 | 37 => 30 | 0 => 0 | 85 => 121 | 2 => 2 | 168 => 123 | 53 => 127 | 175 => 134 | 46 => 136 | 210 => 138 | 127 => 146 | 145 => 149 | 143 => 147 | 21 => 21 | 171 => 126 | 173 => 130 | 212 => 141 | 51 => 142 | 20 => 20 | 213 => 143 | 232 => 157 | 233 => 158 | 80 => 83 | n => n, fun | 15 => 1 | 16 => 2 | 17 => 3 | 18 => 6 | 19 => 7 | n => n⟩
theorem laysC172 : Go.Proofs.LaysC.n172 Tryz.prog laysC172_ren := {
 mixed := by kernel_rfl
 f129 := Tryz.func142.trans (congrArg some (by kernel_rfl))
 f171 := Tryz.func68.trans (congrArg some (by kernel_rfl))
 f172 := Tryz.func104.trans (congrArg some (by kernel_rfl))
 f205 := Tryz.func140.trans (congrArg some (by kernel_rfl))
 f243 := Tryz.func106.trans (congrArg some (by kernel_rfl))
 f244 := Tryz.func118.trans (congrArg some (by kernel_rfl))
 f245 := Tryz.func119.trans (congrArg some (by kernel_rfl))
 f246 := Tryz.func121.trans (congrArg some (by kernel_rfl))
 f247 := Tryz.func125.trans (congrArg some (by kernel_rfl))
 f279 := Tryz.func126.trans (congrArg some (by kernel_rfl))
 f280 := Tryz.func127.trans (congrArg some (by kernel_rfl))
 f281 := Tryz.func128.trans (congrArg some (by kernel_rfl))
 f282 := Tryz.func129.trans (congrArg some (by kernel_rfl))
 f283 := Tryz.func130.trans (congrArg some (by kernel_rfl))
 f284 := Tryz.func131.trans (congrArg some (by kernel_rfl))
 f285 := Tryz.func132.trans (congrArg some (by kernel_rfl))
 f286 := Tryz.func133.trans (congrArg some (by kernel_rfl))
 f287 := Tryz.func138.trans (congrArg some (by kernel_rfl))
 f316 := Tryz.func139.trans (congrArg some (by kernel_rfl))
 f317 := Tryz.func141.trans (congrArg some (by kernel_rfl))
 f318 := Tryz.func143.trans (congrArg some (by kernel_rfl))
 f319 := Tryz.func144.trans (congrArg some (by kernel_rfl))
 f320 := Tryz.func145.trans (congrArg some (by kernel_rfl))
 f321 := Tryz.func150.trans (congrArg some (by kernel_rfl))
 f322 := Tryz.func151.trans (congrArg some (by kernel_rfl))
 f337 := Tryz.func152.trans (congrArg some (by kernel_rfl))
 f338 := Tryz.func153.trans (congrArg some (by kernel_rfl))
 t0 := Tryz.underlying0
 a0 := Tryz.isAgg0
 z0 := Tryz.sizeOf0
 v0 := Tryz.zeroValue0
 t2 := Tryz.underlying2
 a2 := Tryz.isAgg2
 z2 := Tryz.sizeOf2
 v2 := Tryz.zeroValue2
 t3 := Tryz.underlying3
 a3 := Tryz.isAgg3
 z3 := Tryz.sizeOf3
 v3 := Tryz.zeroValue3
 t4 := Tryz.underlying4
 a4 := Tryz.isAgg4
 z4 := Tryz.sizeOf4
 v4 := Tryz.zeroValue4
 t5 := Tryz.underlying5
 a5 := Tryz.isAgg5
 z5 := Tryz.sizeOf5
 v5 := Tryz.zeroValue5
 t9 := Tryz.underlying9
 a9 := Tryz.isAgg9
 z9 := Tryz.sizeOf9
 v9 := Tryz.zeroValue9
 t20 := Tryz.underlying20
 a20 := Tryz.isAgg20
 z20 := Tryz.sizeOf20
 v20 := Tryz.zeroValue20
 t21 := Tryz.underlying21
 a21 := Tryz.isAgg21
 z21 := Tryz.sizeOf21
 v21 := Tryz.zeroValue21
 t37 := Tryz.underlying30
 a37 := Tryz.isAgg30
 z37 := Tryz.sizeOf30
 v37 := Tryz.zeroValue30
 t46 := Tryz.underlying136
 a46 := Tryz.isAgg136
 z46 := Tryz.sizeOf136
 v46 := Tryz.zeroValue136
 t51 := Tryz.underlying142
 a51 := Tryz.isAgg142
 z51 := Tryz.sizeOf142
 v51 := Tryz.zeroValue142
 t53 := Tryz.underlying127
 a53 := Tryz.isAgg127
 z53 := Tryz.sizeOf127
 v53 := Tryz.zeroValue127
 t75 := Tryz.underlying105
 a75 := Tryz.isAgg105
 z75 := Tryz.sizeOf105
 v75 := Tryz.zeroValue105
 t76 := Tryz.underlying106
 a76 := Tryz.isAgg106
 z76 := Tryz.sizeOf106
 v76 := Tryz.zeroValue106
 t85 := Tryz.underlying121
 a85 := Tryz.isAgg121
 z85 := Tryz.sizeOf121
 v85 := Tryz.zeroValue121
 t127 := Tryz.underlying146
 a127 := Tryz.isAgg146
 z127 := Tryz.sizeOf146
 v127 := Tryz.zeroValue146
 t143 := Tryz.underlying147
 a143 := Tryz.isAgg147
 z143 := Tryz.sizeOf147
 v143 := Tryz.zeroValue147
 t145 := Tryz.underlying149
 a145 := Tryz.isAgg149
 z145 := Tryz.sizeOf149
 v145 := Tryz.zeroValue149
 t167 := Tryz.underlying120
 a167 := Tryz.isAgg120
 z167 := Tryz.sizeOf120
 v167 := Tryz.zeroValue120
 t168 := Tryz.underlying123
 a168 := Tryz.isAgg123
 z168 := Tryz.sizeOf123
 v168 := Tryz.zeroValue123
 t171 := Tryz.underlying126
 a171 := Tryz.isAgg126
 z171 := Tryz.sizeOf126
 v171 := Tryz.zeroValue126
 t173 := Tryz.underlying130
 a173 := Tryz.isAgg130
 z173 := Tryz.sizeOf130
 v173 := Tryz.zeroValue130
 t175 := Tryz.underlying134
 a175 := Tryz.isAgg134
 z175 := Tryz.sizeOf134
 v175 := Tryz.zeroValue134
 t210 := Tryz.underlying138
 a210 := Tryz.isAgg138
 z210 := Tryz.sizeOf138
 v210 := Tryz.zeroValue138
 t212 := Tryz.underlying141
 a212 := Tryz.isAgg141
 z212 := Tryz.sizeOf141
 v212 := Tryz.zeroValue141
 t213 := Tryz.underlying143
 a213 := Tryz.isAgg143
 z213 := Tryz.sizeOf143
 t232 := Tryz.underlying157
 a232 := Tryz.isAgg157
 z232 := Tryz.sizeOf157
 v232 := Tryz.zeroValue157
 t233 := Tryz.underlying158
 a233 := Tryz.isAgg158
 z233 := Tryz.sizeOf158
 v233 := Tryz.zeroValue158
 g15 := by kernel_rfl
 g16 := by kernel_rfl
 g17 := by kernel_rfl
 g18 := by kernel_rfl
 g19 := by kernel_rfl
 t80 := Tryz.underlying83
 a80 := Tryz.isAgg83
 z80 := Tryz.sizeOf83
 v80 := Tryz.zeroValue83
 i0 := by kernel_rfl
 i2 := by kernel_rfl
 i3 := by kernel_rfl
 i4 := by kernel_rfl
 i5 := by kernel_rfl
 i9 := by kernel_rfl
 i20 := by kernel_rfl
 i21 := by kernel_rfl
 i37 := by kernel_rfl
 i46 := by kernel_rfl
 i51 := by kernel_rfl
 i53 := by kernel_rfl
 i75 := by kernel_rfl
 i76 := by kernel_rfl
 i80 := by kernel_rfl
 i85 := by kernel_rfl
 i127 := by kernel_rfl
 i143 := by kernel_rfl
 i145 := by kernel_rfl
 i167 := by kernel_rfl
 i168 := by kernel_rfl
 i171 := by kernel_rfl
 i173 := by kernel_rfl
 i175 := by kernel_rfl
 i210 := by kernel_rfl
 i212 := by kernel_rfl
 i232 := by kernel_rfl
 i233 := by kernel_rfl
 m15 := by kernel_rfl
 m16 := by kernel_rfl
 m17 := by kernel_rfl
 m18 := by kernel_rfl
 m19 := by kernel_rfl
 c0 := by kernel_rfl
 c2 := by kernel_rfl
 c3 := by kernel_rfl
 c4 := by kernel_rfl
 c5 := by kernel_rfl
 c9 := by kernel_rfl
 c20 := by kernel_rfl
 c21 := by kernel_rfl
 c37 := by kernel_rfl
 c46 := by kernel_rfl
 c51 := by kernel_rfl
 c53 := by kernel_rfl
 c75 := by kernel_rfl
 c76 := by kernel_rfl
 c80 := by kernel_rfl
 c85 := by kernel_rfl
 c127 := by kernel_rfl
 c143 := by kernel_rfl
 c145 := by kernel_rfl
 c167 := by kernel_rfl
 c168 := by kernel_rfl
 c171 := by kernel_rfl
 c173 := by kernel_rfl
 c175 := by kernel_rfl
 c210 := by kernel_rfl
 c212 := by kernel_rfl
 c213 := by kernel_rfl
 c232 := by kernel_rfl
 c233 := by kernel_rfl }
def lays146_ren : Go.Shelf.Ren := ⟨fun | 146 => 69 | 221 => 107 | 268 => 122 | 138 => 123 | 143 => 124 | 195 => 134 | 197 => 135 | 218 => 136 | 219 => 137 | 260 => 146 | 217 => 102 | 225 => 147 | 224 => 148 | 267 => 149 | 266 => 117 | 314 => 154 | n => n, fun | 9 => 9 | 31 => 54 | 3 => 3 | 4 => 4 | 0 => 0 | 105 => 132 | 21 => 21 | 5 => 5 | 46 => 136 | 119 => 151 | 139 => 154 | 138 => 153 | 146 => 155 | 51 => 142 | n => n, fun | 1 => 0 | 3 => 4 | 4 => 5 | n => n⟩
theorem lays146 : Go.Proofs.Lays.n146 Tryz.prog lays146_ren := {
 mixed := by kernel_rfl
 f138 := Tryz.func123.trans (congrArg some (by kernel_rfl))
 f143 := Tryz.func124.trans (congrArg some (by kernel_rfl))
 f146 := Tryz.func69.trans (congrArg some (by kernel_rfl))
 f195 := Tryz.func134.trans (congrArg some (by kernel_rfl))
 f197 := Tryz.func135.trans (congrArg some (by kernel_rfl))
 f217 := Tryz.func102.trans (congrArg some (by kernel_rfl))
 f218 := Tryz.func136.trans (congrArg some (by kernel_rfl))
 f219 := Tryz.func137.trans (congrArg some (by kernel_rfl))
 f221 := Tryz.func107.trans (congrArg some (by kernel_rfl))
 f224 := Tryz.func148.trans (congrArg some (by kernel_rfl))
 f225 := Tryz.func147.trans (congrArg some (by kernel_rfl))
 f260 := Tryz.func146.trans (congrArg some (by kernel_rfl))
 f266 := Tryz.func117.trans (congrArg some (by kernel_rfl))
 f267 := Tryz.func149.trans (congrArg some (by kernel_rfl))
 f268 := Tryz.func122.trans (congrArg some (by kernel_rfl))
 f314 := Tryz.func154.trans (congrArg some (by kernel_rfl))
 t0 := Tryz.underlying0
 a0 := Tryz.isAgg0
 z0 := Tryz.sizeOf0
 v0 := Tryz.zeroValue0
 t3 := Tryz.underlying3
 a3 := Tryz.isAgg3
 z3 := Tryz.sizeOf3
 v3 := Tryz.zeroValue3
 t4 := Tryz.underlying4
 a4 := Tryz.isAgg4
 z4 := Tryz.sizeOf4
 v4 := Tryz.zeroValue4
 t5 := Tryz.underlying5
 a5 := Tryz.isAgg5
 z5 := Tryz.sizeOf5
 v5 := Tryz.zeroValue5
 t9 := Tryz.underlying9
 a9 := Tryz.isAgg9
 z9 := Tryz.sizeOf9
 v9 := Tryz.zeroValue9
 t21 := Tryz.underlying21
 a21 := Tryz.isAgg21
 z21 := Tryz.sizeOf21
 v21 := Tryz.zeroValue21
 t31 := Tryz.underlying54
 a31 := Tryz.isAgg54
 z31 := Tryz.sizeOf54
 v31 := Tryz.zeroValue54
 t46 := Tryz.underlying136
 a46 := Tryz.isAgg136
 z46 := Tryz.sizeOf136
 v46 := Tryz.zeroValue136
 t51 := Tryz.underlying142
 a51 := Tryz.isAgg142
 z51 := Tryz.sizeOf142
 v51 := Tryz.zeroValue142
 t105 := Tryz.underlying132
 a105 := Tryz.isAgg132
 z105 := Tryz.sizeOf132
 v105 := Tryz.zeroValue132
 t119 := Tryz.underlying151
 a119 := Tryz.isAgg151
 z119 := Tryz.sizeOf151
 t138 := Tryz.underlying153
 a138 := Tryz.isAgg153
 z138 := Tryz.sizeOf153
 v138 := Tryz.zeroValue153
 t139 := Tryz.underlying154
 a139 := Tryz.isAgg154
 z139 := Tryz.sizeOf154
 v139 := Tryz.zeroValue154
 t146 := Tryz.underlying155
 a146 := Tryz.isAgg155
 z146 := Tryz.sizeOf155
 v146 := Tryz.zeroValue155
 g1 := by kernel_rfl
 g3 := by kernel_rfl
 g4 := by kernel_rfl }
end Go.Proofs.YtnogehmgpfpjmaaGreatDoor
end
section
namespace Go.Ab
open Go Go.Dk
end Go.Ab
end
section
namespace Go.Dk
open Go
section
variable {P : Program} {ops : Array Oper} {Q : Exit → Act → World → Prop} {dr : Bool} {fu k : Nat} {rest : List (Nat × Oper)} {a : Act} {w w0 : World} {M Z0 : Zone} {L : List Res} {φ : Fact}
 {d : Option Tmp} {ty : TypeId} {pos : String} {aft : Array Edge} {gd : Option (Nat × Bool)} {x y : Operand} {t t' : TypeId}
end
end Go.Dk
namespace Go.Dk
open Go
end Go.Dk
end
