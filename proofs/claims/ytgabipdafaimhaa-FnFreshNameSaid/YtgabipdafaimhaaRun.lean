/- What the program's functions come to in the abstract run. -/
import Derived.Test.YtgabipdafaimhaaRows
import Derived.Test.YtgabipdafaimhaaFacts
import Derived.Test.YtgabipdafaimhaaRes
import Derived.KernelRfl
set_option linter.unusedVariables false
namespace Go.Proofs.Ytgabipdafaimhaa
open Go Go.Ab Go.Dk
def live : FuncId → Nat → Option (List Nat)
  | 7, 0 => some [3, 4, 8, 9]
  | 10, 0 => some [0, 5, 6]
  | 29, 0 => some [0, 3]
  | 9, 0 => some [0, 3]
  | 28, 0 => some [0, 3]
  | 25, 0 => some [0, 1, 5]
  | _, _ => none
def ownF (f : FuncId) : Bool := hasN f []
def ibF (f : FuncId) : Bool := Nat.beq f 44
noncomputable def SS : Say := ⟨⟨ownF, ibF⟩, live, fun _ => none⟩
noncomputable def FF := evF Try.prog SS
/-! loop.example/depkernel/laws.FnFreshAdd -/
theorem E_laws_FnFreshAdd (n : Nat) (v0 : List UInt8) : FF (n + 1) 6 [.one (.fr (.bs v0))] [] =
 (cond ((decide (1048576 < ((v0).length : Int))))
 (some ([.one (.bool true)], []))
 (((FF n 18 [.one (.fr (.bs v0))] []).bind fun x0 =>
 (rStr x0.1 fun x1 x2 =>
 (nilV x2 (nilO x0.2
 (((FF n 12 [.one (.str x1)] []).bind fun x3 =>
 (rStr x3.1 fun x4 x5 =>
 (rBool x5 fun x6 x7 =>
 (nilV x7 (nilO x3.2
 (((FF n 11 [.one (.str x1)] []).bind fun x8 =>
 (rStr x8.1 fun x9 x10 =>
 (rBool x10 fun x11 x12 =>
 (nilV x12 (nilO x8.2
 ((cond ((!decide (x6 = x11)))
 ((cond ((decide (x6 = x11)))
 (some ([.one (.bool ((x4).toList == (x9).toList))], []))
 (some ([.one (.bool false)], []))))
 ((cond ((!((x4).toList == (x9).toList)))
 ((cond ((decide (x6 = x11)))
 (some ([.one (.bool ((x4).toList == (x9).toList))], []))
 (some ([.one (.bool false)], []))))
 ((cond ((!x6))
 ((cond ((decide (x6 = x11)))
 (some ([.one (.bool ((x4).toList == (x9).toList))], []))
 (some ([.one (.bool false)], []))))
 ((cond ((decide (20 ≤ ((x1).size : Int))))
 ((cond ((decide (x6 = x11)))
 (some ([.one (.bool ((x4).toList == (x9).toList))], []))
 (some ([.one (.bool false)], []))))
 ((cond (decide ((x1).size + (x4).size ≤ 9223372036854775807))
 (((FF n 12 [.one (.str (x1 ++ x4))] []).bind fun x13 =>
 (rStr x13.1 fun x14 x15 =>
 (rBool x15 fun x16 x17 =>
 (nilV x17 (nilO x13.2
 ((cond (decide ((x1).size + (x4).size ≤ 9223372036854775807))
 (((FF n 10 [.one (.str (x1 ++ x4))] []).bind fun x18 =>
 (rBool x18.1 fun x19 x20 =>
 (nilV x20 (nilO x18.2
 ((cond (x19)
 ((cond (x16)
 (some ([.one (.bool (!(Op.bytesLess (x14).toList (x4).toList || (x14).toList == (x4).toList)))], []))
 (some ([.one (.bool false)], []))))
 (some ([.one (.bool false)], [])))))))))
 (none)))))))))
 (none))))))))))))))))))))))))))))) := by kernel_rfl

/-! loop.example/depkernel/laws.FnFreshName -/
noncomputable def L_laws_FnFreshName_0 (n c : Nat) (v0 : ByteArray) (v1 : ByteArray) (v2 : Int) (v3 : Int) : OR := runLoop Try.prog SS n 7 0 [1, 1, 1, 1, 1, 1, 1, 0, 1, 0] [] c ⟨[.v (.one (.any)), .v (.one (.any)), .v (.one (.any)), .v (.one (.str v0)), .v (.one (.str v1)), .v (.one (.any)), .v (.one (.any)), .v (.one (.any)), .v (.one (.int .i64 v2)), .v (.one (.int .i64 v3)), .v (.one (.any)), .v (.one (.any)), .v (.one (.any)), .v (.one (.any)), .v (.one (.any)), .v (.one (.any)), .v (.one (.any)), .v (.one (.any)), .v (.one (.any)), .v (.one (.any)), .v (.one (.any)), .v (.one (.any)), .v (.one (.any)), .v (.one (.any)), .v (.one (.any)), .v (.one (.any)), .v (.one (.any)), .v (.one (.any)), .v (.one (.any)), .v (.one (.any)), .v (.one (.any)), .v (.one (.any)), .v (.one (.any)), .v (.one (.any)), .v (.one (.any)), .v (.one (.any)), .v (.one (.any)), .v (.one (.any)), .v (.one (.any)), .v (.one (.any)), .v (.one (.any)), .v (.one (.any)), .v (.one (.any)), .v (.one (.any)), .v (.one (.any)), .v (.one (.any)), .v (.one (.any)), .v (.one (.any)), .v (.one (.any)), .v (.one (.any)), .v (.one (.any)), .v (.one (.any)), .v (.one (.any)), .v (.one (.any)), .v (.one (.any)), .v (.one (.any)), .v (.one (.any)), .v (.one (.any)), .v (.one (.any)), .v (.one (.any)), .v (.one (.any)), .v (.one (.any)), .v (.one (.any)), .v (.one (.any)), .v (.one (.any)), .v (.one (.any)), .v (.one (.any)), .v (.one (.any)), .v (.one (.any)), .v (.one (.any)), .v (.one (.any)), .v (.one (.any)), .v (.one (.any)), .v (.one (.any)), .v (.one (.any)), .v (.one (.any)), .v (.one (.any)), .v (.one (.any)), .v (.one (.any)), .v (.one (.any)), .v (.one (.any)), .v (.one (.any)), .v (.one (.any)), .v (.one (.any)), .v (.one (.any)), .v (.one (.any)), .v (.one (.any)), .v (.one (.any))],
  []⟩
theorem L_laws_FnFreshName_0_eq (n c : Nat) (v0 : ByteArray) (v1 : ByteArray) (v2 : Int) (v3 : Int) : L_laws_FnFreshName_0 n (c + 1) v0 v1 v2 v3 =
 (cond ((decide (v3 < ((v0).size : Int))))
 ((cond (decide (0 ≤ v3) && decide (v3 < (((v0).size : Nat) : Int)))
 ((cond (decide (0 ≤ 0) && decide (0 < (((v1).size : Nat) : Int)))
 ((cond ((decide (((byteAt v0 (v3 : Int).toNat).toNat : Int) = ((byteAt v1 (0 : Int).toNat).toNat : Int))))
 (some ([.one (.bool false)], []))
 ((cond (decide (0 ≤ v3) && decide (v3 < (((v0).size : Nat) : Int)))
 ((cond (decide (0 ≤ 0) && decide (0 < (((v1).size : Nat) : Int)))
 ((cond ((decide (((byteAt v0 (v3 : Int).toNat).toNat : Int) < ((byteAt v1 (0 : Int).toNat).toNat : Int))))
 (L_laws_FnFreshName_0 n c (v0 : ByteArray) (v1 : ByteArray) ((IntKind.i64.wrap (v2 + 1)) : Int) ((IntKind.i64.wrap (v3 + 1)) : Int))
 (L_laws_FnFreshName_0 n c (v0 : ByteArray) (v1 : ByteArray) (v2 : Int) ((IntKind.i64.wrap (v3 + 1)) : Int))))
 (none)))
 (none)))))
 (none)))
 (none)))
 ((cond ((decide (((v1).size : Int) = 1)))
 ((cond (decide (0 ≤ 0) && decide (0 < (((v1).size : Nat) : Int)))
 (some ([.one (.bool (decide (v2 = (IntKind.i64.wrap (IntKind.u8.wrap (((byteAt v1 (0 : Int).toNat).toNat : Int) - 97))))))], []))
 (none)))
 (some ([.one (.bool false)], []))))) := by kernel_rfl
theorem E_laws_FnFreshName (n : Nat) (v0 : List UInt8) : FF (n + 1) 7 [.one (.fr (.bs v0))] [] =
 (cond ((decide (1048576 < ((v0).length : Int))))
 (some ([.one (.bool true)], []))
 (((FF n 18 [.one (.fr (.bs v0))] []).bind fun x0 =>
 (rStr x0.1 fun x1 x2 =>
 (nilV x2 (nilO x0.2
 (((FF n 12 [.one (.str x1)] []).bind fun x3 =>
 (rStr x3.1 fun x4 x5 =>
 (rBool x5 fun x6 x7 =>
 (nilV x7 (nilO x3.2
 (((FF n 11 [.one (.str x1)] []).bind fun x8 =>
 (rStr x8.1 fun x9 x10 =>
 (rBool x10 fun x11 x12 =>
 (nilV x12 (nilO x8.2
 ((cond ((!decide (x6 = x11)))
 ((cond ((decide (x6 = x11)))
 ((cond (((x4).toList == (x9).toList))
 (((FF n 10 [.one (.str x1)] []).bind fun x13 =>
 (rBool x13.1 fun x14 x15 =>
 (nilV x15 (nilO x13.2
 (some ([.one (.bool (decide (x6 = x14)))], [])))))))
 (some ([.one (.bool false)], []))))
 (some ([.one (.bool false)], []))))
 ((cond ((!((x4).toList == (x9).toList)))
 ((cond ((decide (x6 = x11)))
 ((cond (((x4).toList == (x9).toList))
 (((FF n 10 [.one (.str x1)] []).bind fun x13 =>
 (rBool x13.1 fun x14 x15 =>
 (nilV x15 (nilO x13.2
 (some ([.one (.bool (decide (x6 = x14)))], [])))))))
 (some ([.one (.bool false)], []))))
 (some ([.one (.bool false)], []))))
 (((FF n 10 [.one (.str x1)] []).bind fun x13 =>
 (rBool x13.1 fun x14 x15 =>
 (nilV x15 (nilO x13.2
 ((cond ((!decide (x6 = x14)))
 ((cond ((decide (x6 = x11)))
 ((cond (((x4).toList == (x9).toList))
 (((FF n 10 [.one (.str x1)] []).bind fun x16 =>
 (rBool x16.1 fun x17 x18 =>
 (nilV x18 (nilO x16.2
 (some ([.one (.bool (decide (x6 = x17)))], [])))))))
 (some ([.one (.bool false)], []))))
 (some ([.one (.bool false)], []))))
 ((cond ((!x6))
 ((cond ((decide (x6 = x11)))
 ((cond (((x4).toList == (x9).toList))
 (((FF n 10 [.one (.str x1)] []).bind fun x16 =>
 (rBool x16.1 fun x17 x18 =>
 (nilV x18 (nilO x16.2
 (some ([.one (.bool (decide (x6 = x17)))], [])))))))
 (some ([.one (.bool false)], []))))
 (some ([.one (.bool false)], []))))
 (L_laws_FnFreshName_0 n n (x1 : ByteArray) (x4 : ByteArray) (0 : Int) (0 : Int))))))))))))))))))))))))))))))))) := by kernel_rfl

/-! loop.example/depkernel/spec.DrawFreshName -/
theorem E_spec_DrawFreshName (n : Nat) (v0 : List UInt8) : FF (n + 1) 18 [.one (.fr (.bs v0))] [] =
 ((FF n 34 [.one (.fr (.bs v0))] []).bind fun x0 =>
 (rPtr 0 x0.1 fun x1 =>
 (objC x0.2 fun x2 x3 =>
 (bsC x2 fun x4 x5 =>
 (intC .i64 x5 fun x6 x7 =>
 (nilC x7
 ((nilV x1 (nilO x3
 (((FF n 33 [.one (.ptr 0 0)] [.cells [.fr (.bs x4), .int .i64 x6]]).bind fun x8 =>
 (objC x8.2 fun x9 x10 =>
 (bsC x9 fun x11 x12 =>
 (intC .i64 x12 fun x13 x14 =>
 (nilC x14
 ((rStr x8.1 fun x15 x16 =>
 (nilV x16 (nilO x10
 (some ([.one (.str x15)], []))))))))))))))))))))) := by kernel_rfl

/-! loop.example/depkernel/impl.FreshName -/
theorem E_impl_FreshName (n : Nat) (v0 : ByteArray) : FF (n + 1) 12 [.one (.str v0)] [] =
 ((FF n 10 [.one (.str v0)] []).bind fun x0 =>
 (rBool x0.1 fun x1 x2 =>
 (nilV x2 (nilO x0.2
 ((cond ((!x1))
 (some ([.one (.str (bytesOf [])), .one (.bool false)], []))
 (((FF n 29 [.one (.str v0)] []).bind fun x3 =>
 (rStr x3.1 fun x4 x5 =>
 (nilV x5 (nilO x3.2
 (some ([.one (.str x4), .one (.bool true)], []))))))))))))) := by kernel_rfl

/-! loop.example/depkernel/spec.FreshName -/
theorem E_spec_FreshName (n : Nat) (v0 : ByteArray) : FF (n + 1) 11 [.one (.str v0)] [] =
 ((FF n 9 [.one (.str v0)] []).bind fun x0 =>
 (rBool x0.1 fun x1 x2 =>
 (nilV x2 (nilO x0.2
 ((cond ((!x1))
 (some ([.one (.str (bytesOf [])), .one (.bool false)], []))
 (((FF n 28 [.one (.str v0)] []).bind fun x3 =>
 (rInt .u8 x3.1 fun x4 x5 =>
 (nilV x5 (nilO x3.2
 ((cond (decide (0 ≤ x4) && decide (x4 ≤ 255))
 (some ([.one (.str (ByteArray.mk ([(UInt8.ofNat (x4).toNat)]).toArray)), .one (.bool true)], []))
 (none)))))))))))))) := by kernel_rfl

/-! loop.example/depkernel/impl.NamesValid -/
noncomputable def L_impl_NamesValid_0 (n c : Nat) (v0 : ByteArray) (v1 : Int) (v2 : Int) : OR := runLoop Try.prog SS n 10 0 [1, 0, 1, 0] [] c ⟨[.v (.one (.str v0)), .v (.one (.any)), .v (.one (.any)), .v (.one (.any)), .v (.one (.any)), .v (.one (.int .i64 v1)), .v (.one (.int .i64 v2)), .v (.one (.any)), .v (.one (.any)), .v (.one (.any)), .v (.one (.any)), .v (.one (.any)), .v (.one (.any)), .v (.one (.any)), .v (.one (.any)), .v (.one (.any)), .v (.one (.any)), .v (.one (.any)), .v (.one (.any)), .v (.one (.any)), .v (.one (.any)), .v (.one (.any)), .v (.one (.any)), .v (.one (.any)), .v (.one (.any)), .v (.one (.any)), .v (.one (.any)), .v (.one (.any))],
  []⟩
theorem L_impl_NamesValid_0_eq (n c : Nat) (v0 : ByteArray) (v1 : Int) (v2 : Int) : L_impl_NamesValid_0 n (c + 1) v0 v1 v2 =
 (cond ((decide (v2 < v1)))
 ((cond (decide (0 ≤ v2) && decide (v2 < (((v0).size : Nat) : Int)))
 (((FF n 26 [.one (.int .u8 ((byteAt v0 (v2 : Int).toNat).toNat : Int))] []).bind fun x0 =>
 (rBool x0.1 fun x1 x2 =>
 (nilV x2 (nilO x0.2
 ((cond ((!x1))
 (some ([.one (.bool false)], []))
 ((cond (Go.Ab.inB 0 v2 (v0).size)
 ((cond (decide (0 ≤ v2) && decide (v2 < (((v0).size : Nat) : Int)))
 (((FF n 27 [.one (.str ((v0).extract (0 : Int).toNat (v2 : Int).toNat)), .one (.int .u8 ((byteAt v0 (v2 : Int).toNat).toNat : Int))] []).bind fun x3 =>
 (rInt .i64 x3.1 fun x4 x5 =>
 (nilV x5 (nilO x3.2
 ((cond ((decide (0 ≤ x4)))
 (some ([.one (.bool false)], []))
 (L_impl_NamesValid_0 n c (v0 : ByteArray) (v1 : Int) ((IntKind.i64.wrap (v2 + 1)) : Int)))))))))
 (none)))
 (none))))))))))
 (none)))
 (some ([.one (.bool (decide (((v0).size : Int) ≤ 20)))], []))) := by kernel_rfl
theorem E_impl_NamesValid (n : Nat) (v0 : ByteArray) : FF (n + 1) 10 [.one (.str v0)] [] =
 L_impl_NamesValid_0 n n (v0 : ByteArray) (((v0).size : Int) : Int) (0 : Int) := by kernel_rfl

/-! loop.example/depkernel/spec.l19Open -/
theorem E_spec_l19Open (n : Nat) (v0 : List UInt8) : FF (n + 1) 34 [.one (.fr (.bs v0))] [] =
 (cond ((decide (2000 < ((v0).length : Int))))
 ((cond (Go.Ab.inB 0 2000 (v0).length)
 (some ([.one (.ptr 0 0)], [.cells [.fr (.bs (((v0).take (2000 : Int).toNat).drop (0 : Int).toNat)), .int .i64 0]]))
 (none)))
 (some ([.one (.ptr 0 0)], [.cells [.fr (.bs v0), .int .i64 0]]))) := by kernel_rfl

/-! loop.example/depkernel/spec.l6Names -/
theorem E_spec_l6Names (n : Nat) (v0 : List UInt8) (v1 : Int) : FF (n + 1) 33 [.one (.ptr 0 0)] [.cells [.fr (.bs v0), .int .i64 v1]] =
 ((FF n 40 [.one (.ptr 0 0), .one (.fr (.ss [(bytesOf []), (bytesOf [120]), (bytesOf [120, 121]), (bytesOf [97, 98]), (bytesOf [102, 120, 121]), (bytesOf [97, 98, 99, 100, 101, 102, 103, 104, 105, 106, 107, 108, 109, 110, 111, 112, 113, 114, 115, 116]), (bytesOf [97, 97]), (bytesOf [88]), (bytesOf [97, 98, 99, 100, 101, 102, 103, 104, 105, 106, 107, 108, 109, 110, 111, 112, 113, 114, 115, 116, 117])]))] [.cells [.fr (.bs v0), .int .i64 v1]]).bind fun x0 =>
 (objC x0.2 fun x1 x2 =>
 (bsC x1 fun x3 x4 =>
 (intC .i64 x4 fun x5 x6 =>
 (nilC x6
 ((rStr x0.1 fun x7 x8 =>
 (nilV x8 (nilO x2
 (some ([.one (.str x7)], [.cells [.fr (.bs x3), .int .i64 x5]]))))))))))) := by kernel_rfl

/-! loop.example/depkernel/impl.fresh -/
noncomputable def L_impl_fresh_0 (n c : Nat) (v0 : ByteArray) (v1 : Int) : OR := runLoop Try.prog SS n 29 0 [1, 0, 1, 0] [] c ⟨[.v (.one (.str v0)), .v (.one (.any)), .v (.one (.any)), .v (.one (.int .u8 v1)), .v (.one (.any)), .v (.one (.any)), .v (.one (.any)), .v (.one (.any)), .v (.one (.any)), .v (.one (.any)), .v (.one (.any)), .v (.one (.any)), .v (.one (.any)), .v (.one (.any)), .v (.one (.any))],
  []⟩
theorem L_impl_fresh_0_eq (n c : Nat) (v0 : ByteArray) (v1 : Int) : L_impl_fresh_0 n (c + 1) v0 v1 =
 (cond ((decide (v1 < 122)))
 (((FF n 27 [.one (.str v0), .one (.int .u8 v1)] []).bind fun x0 =>
 (rInt .i64 x0.1 fun x1 x2 =>
 (nilV x2 (nilO x0.2
 ((cond ((decide (x1 < 0)))
 ((cond (decide (0 ≤ v1) && decide (v1 ≤ 255))
 (some ([.one (.str (ByteArray.mk ([(UInt8.ofNat (v1).toNat)]).toArray))], []))
 (none)))
 (L_impl_fresh_0 n c (v0 : ByteArray) ((IntKind.u8.wrap (v1 + 1)) : Int)))))))))
 (some ([.one (.str (bytesOf [122]))], []))) := by kernel_rfl
theorem E_impl_fresh (n : Nat) (v0 : ByteArray) : FF (n + 1) 29 [.one (.str v0)] [] =
 L_impl_fresh_0 n n (v0 : ByteArray) (97 : Int) := by kernel_rfl

/-! loop.example/depkernel/spec.NamesValid -/
noncomputable def L_spec_NamesValid_0 (n c : Nat) (v0 : ByteArray) (v1 : Int) : OR := runLoop Try.prog SS n 9 0 [1, 0, 1, 0] [] c ⟨[.v (.one (.str v0)), .v (.one (.any)), .v (.one (.any)), .v (.one (.int .i64 v1)), .v (.one (.any)), .v (.one (.any)), .v (.one (.any)), .v (.one (.any)), .v (.one (.any)), .v (.one (.any)), .v (.one (.any)), .v (.one (.any)), .v (.one (.any)), .v (.one (.any)), .v (.one (.any)), .v (.one (.any)), .v (.one (.any)), .v (.one (.any)), .v (.one (.any)), .v (.one (.any)), .v (.one (.any)), .v (.one (.any)), .v (.one (.any)), .v (.one (.any)), .v (.one (.any)), .v (.one (.any)), .v (.one (.any)), .v (.one (.any))],
  []⟩
theorem L_spec_NamesValid_0_eq (n c : Nat) (v0 : ByteArray) (v1 : Int) : L_spec_NamesValid_0 n (c + 1) v0 v1 =
 (cond ((decide (v1 < ((v0).size : Int))))
 ((cond (decide (0 ≤ v1) && decide (v1 < (((v0).size : Nat) : Int)))
 (((FF n 24 [.one (.int .u8 ((byteAt v0 (v1 : Int).toNat).toNat : Int))] []).bind fun x0 =>
 (rBool x0.1 fun x1 x2 =>
 (nilV x2 (nilO x0.2
 ((cond ((!x1))
 (some ([.one (.bool false)], []))
 ((cond (Go.Ab.inB 0 v1 (v0).size)
 ((cond (decide (0 ≤ v1) && decide (v1 < (((v0).size : Nat) : Int)))
 (((FF n 25 [.one (.str ((v0).extract (0 : Int).toNat (v1 : Int).toNat)), .one (.int .u8 ((byteAt v0 (v1 : Int).toNat).toNat : Int))] []).bind fun x3 =>
 (rInt .i64 x3.1 fun x4 x5 =>
 (nilV x5 (nilO x3.2
 ((cond ((decide (0 ≤ x4)))
 (some ([.one (.bool false)], []))
 (L_spec_NamesValid_0 n c (v0 : ByteArray) ((IntKind.i64.wrap (v1 + 1)) : Int)))))))))
 (none)))
 (none))))))))))
 (none)))
 (some ([.one (.bool (decide (((v0).size : Int) ≤ 20)))], []))) := by kernel_rfl
theorem E_spec_NamesValid (n : Nat) (v0 : ByteArray) : FF (n + 1) 9 [.one (.str v0)] [] =
 L_spec_NamesValid_0 n n (v0 : ByteArray) (0 : Int) := by kernel_rfl

/-! loop.example/depkernel/spec.l6Fresh -/
noncomputable def L_spec_l6Fresh_0 (n c : Nat) (v0 : ByteArray) (v1 : Int) : OR := runLoop Try.prog SS n 28 0 [1, 0, 1, 0] [] c ⟨[.v (.one (.str v0)), .v (.one (.any)), .v (.one (.any)), .v (.one (.int .u8 v1)), .v (.one (.any)), .v (.one (.any)), .v (.one (.any)), .v (.one (.any)), .v (.one (.any)), .v (.one (.any)), .v (.one (.any)), .v (.one (.any)), .v (.one (.any))],
  []⟩
theorem L_spec_l6Fresh_0_eq (n c : Nat) (v0 : ByteArray) (v1 : Int) : L_spec_l6Fresh_0 n (c + 1) v0 v1 =
 (cond ((decide (v1 ≤ 122)))
 (((FF n 25 [.one (.str v0), .one (.int .u8 v1)] []).bind fun x0 =>
 (rInt .i64 x0.1 fun x1 x2 =>
 (nilV x2 (nilO x0.2
 ((cond ((decide (x1 < 0)))
 (some ([.one (.int .u8 v1)], []))
 (L_spec_l6Fresh_0 n c (v0 : ByteArray) ((IntKind.u8.wrap (v1 + 1)) : Int)))))))))
 (some ([.one (.int .u8 0)], []))) := by kernel_rfl
theorem E_spec_l6Fresh (n : Nat) (v0 : ByteArray) : FF (n + 1) 28 [.one (.str v0)] [] =
 L_spec_l6Fresh_0 n n (v0 : ByteArray) (97 : Int) := by kernel_rfl

/-! loop.example/depkernel/impl.isLetter -/
theorem E_impl_isLetter (n : Nat) (v0 : Int) : FF (n + 1) 26 [.one (.int .u8 v0)] [] =
 (cond ((decide (97 ≤ v0)))
 (some ([.one (.bool (decide (v0 ≤ 122)))], []))
 (some ([.one (.bool false)], []))) := by kernel_rfl

/-! strings.IndexByte -/
theorem E_strings_IndexByte (n : Nat) (v0 : ByteArray) (v1 : Int) : FF (n + 1) 27 [.one (.str v0), .one (.int .u8 v1)] [] =
 ((FF n 39 [.one (.str v0), .one (.int .u8 v1)] []).bind fun x0 =>
 (rInt .i64 x0.1 fun x1 x2 =>
 (nilV x2 (nilO x0.2
 (some ([.one (.int .i64 x1)], [])))))) := by kernel_rfl

/-! (*loop.example/depkernel/spec.l19Rd).of -/
theorem E_spec_l19Rd_of (n : Nat) (v0 : List ByteArray) (v1 : List UInt8) (v2 : Int) : FF (n + 1) 40 [.one (.ptr 0 0), .one (.fr (.ss v0))] [.cells [.fr (.bs v1), .int .i64 v2]] =
 ((FF n 45 [.one (.ptr 0 0), .one (.int .i64 ((v0).length : Int))] [.cells [.fr (.bs v1), .int .i64 v2]]).bind fun x0 =>
 (objC x0.2 fun x1 x2 =>
 (bsC x1 fun x3 x4 =>
 (intC .i64 x4 fun x5 x6 =>
 (nilC x6
 ((rInt .i64 x0.1 fun x7 x8 =>
 (nilV x8 (nilO x2
 ((cond (decide (0 ≤ x7))
 (((v0)[(x7 : Int).toNat]?.bind fun x9 =>
 some ([.one (.str x9)], [.cells [.fr (.bs x3), .int .i64 x5]])))
 (none)))))))))))) := by kernel_rfl

/-! loop.example/depkernel/spec.l6Letter -/
theorem E_spec_l6Letter (n : Nat) (v0 : Int) : FF (n + 1) 24 [.one (.int .u8 v0)] [] =
 (cond ((decide (97 ≤ v0)))
 (some ([.one (.bool (decide (v0 ≤ 122)))], []))
 (some ([.one (.bool false)], []))) := by kernel_rfl

/-! loop.example/depkernel/spec.l6Find -/
noncomputable def L_spec_l6Find_0 (n c : Nat) (v0 : ByteArray) (v1 : Int) (v2 : Int) : OR := runLoop Try.prog SS n 25 0 [1, 0, 1, 0] [] c ⟨[.v (.one (.str v0)), .v (.one (.int .u8 v1)), .v (.one (.any)), .v (.one (.any)), .v (.one (.any)), .v (.one (.int .i64 v2)), .v (.one (.any)), .v (.one (.any)), .v (.one (.any)), .v (.one (.any)), .v (.one (.any)), .v (.one (.any)), .v (.one (.any)), .v (.one (.any)), .v (.one (.any)), .v (.one (.any)), .v (.one (.any)), .v (.one (.any)), .v (.one (.any)), .v (.one (.any)), .v (.one (.any)), .v (.one (.any)), .v (.one (.any))],
  []⟩
theorem L_spec_l6Find_0_eq (n c : Nat) (v0 : ByteArray) (v1 : Int) (v2 : Int) : L_spec_l6Find_0 n (c + 1) v0 v1 v2 =
 (cond ((decide (0 ≤ v2)))
 ((cond (decide (0 ≤ v2) && decide (v2 < (((v0).size : Nat) : Int)))
 ((cond ((decide (((byteAt v0 (v2 : Int).toNat).toNat : Int) = v1)))
 (some ([.one (.int .i64 (IntKind.i64.wrap ((IntKind.i64.wrap (((v0).size : Int) - 1)) - v2)))], []))
 (L_spec_l6Find_0 n c (v0 : ByteArray) (v1 : Int) ((IntKind.i64.wrap (v2 - 1)) : Int))))
 (none)))
 (some ([.one (.int .i64 (-1))], []))) := by kernel_rfl
theorem E_spec_l6Find (n : Nat) (v0 : ByteArray) (v1 : Int) : FF (n + 1) 25 [.one (.str v0), .one (.int .u8 v1)] [] =
 L_spec_l6Find_0 n n (v0 : ByteArray) (v1 : Int) ((IntKind.i64.wrap (((v0).size : Int) - 1)) : Int) := by kernel_rfl

/-! internal/stringslite.IndexByte -/
theorem E_stringslite_IndexByte (n : Nat) (v0 : ByteArray) (v1 : Int) : FF (n + 1) 39 [.one (.str v0), .one (.int .u8 v1)] [] =
 (cond (decide (0 ≤ v1) && decide (v1 ≤ 255))
 (some ([.one (.int .i64 (idxB v0 (UInt8.ofNat (v1 : Int).toNat)))], []))
 (none)) := by kernel_rfl

/-! (*loop.example/depkernel/spec.l19Rd).pick -/
theorem E_spec_l19Rd_pick (n : Nat) (v0 : Int) (v1 : List UInt8) (v2 : Int) : FF (n + 1) 45 [.one (.ptr 0 0), .one (.int .i64 v0)] [.cells [.fr (.bs v1), .int .i64 v2]] =
 (cond ((decide (v0 < 1)))
 (some ([.one (.int .i64 0)], [.cells [.fr (.bs v1), .int .i64 (IntKind.i64.wrap (v2 + 1))]]))
 ((cond ((decide (((v1).length : Int) = 0)))
 (some ([.one (.int .i64 0)], [.cells [.fr (.bs v1), .int .i64 (IntKind.i64.wrap (v2 + 1))]]))
 ((cond ((decide ((IntKind.i64.wrap ((IntKind.i64.wrap (v2 + 1)) - 1)) < ((v1).length : Int))))
 ((cond (decide (0 ≤ (IntKind.i64.wrap ((IntKind.i64.wrap (v2 + 1)) - 1))))
 (((v1)[((IntKind.i64.wrap ((IntKind.i64.wrap (v2 + 1)) - 1)) : Int).toNat]?.bind fun x0 =>
 (cond (decide (v0 = 0))
 (none)
 (some ([.one (.int .i64 (Int.tmod (IntKind.i64.wrap ((x0).toNat : Int)) v0))], [.cells [.fr (.bs v1), .int .i64 (IntKind.i64.wrap (v2 + 1))]])))))
 (none)))
 ((cond (decide (((v1).length : Int) = 0))
 (none)
 ((cond (decide (0 ≤ (Int.tmod (IntKind.i64.wrap ((IntKind.i64.wrap (v2 + 1)) - 1)) ((v1).length : Int))))
 (((v1)[((Int.tmod (IntKind.i64.wrap ((IntKind.i64.wrap (v2 + 1)) - 1)) ((v1).length : Int)) : Int).toNat]?.bind fun x0 =>
 (cond (decide (((v1).length : Int) = 0))
 (none)
 ((cond (decide (0 ≤ (Int.tmod (IntKind.i64.wrap ((IntKind.i64.wrap ((IntKind.i64.wrap ((IntKind.i64.wrap (v2 + 1)) - 1)) * 7)) + 3)) ((v1).length : Int))))
 (((v1)[((Int.tmod (IntKind.i64.wrap ((IntKind.i64.wrap ((IntKind.i64.wrap ((IntKind.i64.wrap (v2 + 1)) - 1)) * 7)) + 3)) ((v1).length : Int)) : Int).toNat]?.bind fun x1 =>
 (cond (decide (((v1).length : Int) = 0))
 (none)
 ((cond (decide (v0 = 0))
 (none)
 (some ([.one (.int .i64 (Int.tmod (IntKind.i64.wrap (BitVec.ofInt IntKind.i64.bits (IntKind.i64.wrap ((IntKind.i64.wrap ((IntKind.i64.wrap ((IntKind.i64.wrap ((IntKind.i64.wrap ((x0).toNat : Int)) * 131)) + (IntKind.i64.wrap ((IntKind.i64.wrap ((x1).toNat : Int)) * 1117)))) + (IntKind.i64.wrap ((IntKind.i64.wrap ((IntKind.i64.wrap (v2 + 1)) - 1)) * 29)))) + (IntKind.i64.wrap ((IntKind.i64.wrap (Int.tdiv (IntKind.i64.wrap ((IntKind.i64.wrap (v2 + 1)) - 1)) ((v1).length : Int))) * 53)))) ^^^ BitVec.ofInt IntKind.i64.bits (IntKind.i64.wrap (Int.tdiv (IntKind.i64.wrap ((IntKind.i64.wrap ((IntKind.i64.wrap ((IntKind.i64.wrap ((IntKind.i64.wrap ((x0).toNat : Int)) * 131)) + (IntKind.i64.wrap ((IntKind.i64.wrap ((x1).toNat : Int)) * 1117)))) + (IntKind.i64.wrap ((IntKind.i64.wrap ((IntKind.i64.wrap (v2 + 1)) - 1)) * 29)))) + (IntKind.i64.wrap ((IntKind.i64.wrap (Int.tdiv (IntKind.i64.wrap ((IntKind.i64.wrap (v2 + 1)) - 1)) ((v1).length : Int))) * 53)))) 64))).toNat) v0))], [.cells [.fr (.bs v1), .int .i64 (IntKind.i64.wrap (v2 + 1))]])))))))
 (none))))))
 (none)))))))))) := by kernel_rfl

end Go.Proofs.Ytgabipdafaimhaa
