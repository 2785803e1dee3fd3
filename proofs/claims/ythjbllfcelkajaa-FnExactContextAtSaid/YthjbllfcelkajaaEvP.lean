/- The reference's reading and writing of terms answers. -/
import Derived.Test.YthjbllfcelkajaaEvX
set_option linter.unusedVariables false
set_option linter.unusedSimpArgs false
namespace Go.Proofs.Ythjbllfcelkajaa
open Go Go.Ab Go.Dk
abbrev st (s : ByteArray) : V1 := .one (.str s)
/-- Any number, any truth value. -/
abbrev IsNB (r : List V1 × List AObj) : Prop := ∃ v b, r = ([nt v, bl b], [])
/-- A number and an offset behind it, or none. -/
abbrev IsOff (s : ByteArray) (lo : Int) (r : List V1 × List AObj) : Prop := ∃ v e : Int, r = ([nt v, nt e], []) ∧ -1 ≤ e ∧ e ≤ s.size ∧ (0 ≤ e → lo ≤ e)
/-- A term and an offset behind it, or none. -/
abbrev IsTerm (s : ByteArray) (a : Int) (r : List V1 × List AObj) : Prop := ∃ (t : T) (e : Int), r = ([tm t, nt e], []) ∧ -1 ≤ e ∧ e ≤ s.size ∧ (0 ≤ e → a + t.size ≤ e)
theorem t_leaf {n : Nat} (hn : 1 ≤ n) (k m : Int) : Tot (FF n 58 [nt k, nt m] []) (fun r => r = ([tm (.mk k m [])], [])) := ⟨_, f_l1Leaf hn k m, rfl⟩
theorem t_nodeS {n : Nat} (hn : 1 ≤ n) (k : Int) (l : List T) (hl : l.length ≤ 100) : Tot (FF n 71 [nt k, tms l] []) (fun r => r = ([tm (.mk k 0 l)], [])) := ⟨_, f_l1Node hn k l (by omega), rfl⟩
theorem t_kids {n : Nat} (hn : 1 ≤ n) (k : Int) : Tot (FF n 104 [nt k] []) (fun r => r = ([nt (opsOf k)], [])) := ⟨_, f_l1Kids hn k, rfl⟩
theorem t_most {n : Nat} (hn : 1 ≤ n) (k : Int) : Tot (FF n 105 [nt k] []) (fun r => r = ([nt (mostOf k)], [])) := ⟨_, f_l1Most hn k, rfl⟩
section
end
/-! The text of a term. -/
/-- A text of at most m bytes. -/
abbrev IsStr (m : Nat) (r : List V1 × List AObj) : Prop := ∃ s : ByteArray, r = ([st s], []) ∧ s.size ≤ m
theorem size_mk1 (c : UInt8) : (ByteArray.mk ([c].toArray)).size = 1 := rfl
theorem dec_byte (v : Int) (h : 0 ≤ v ∧ v ≤ 9) : IntKind.u8.wrap (IntKind.i64.wrap (48 + v)) = 48 + v := by
  rw [wrap64 (by omega)]
  rw [IntKind.wrap]; simp [IntKind.signed, IntKind.bits]; omega
theorem size_bytes (l : List UInt8) : (bytesOf l).size = l.length := by simp [bytesOf, ByteArray.size]
theorem tot_kid {t : T} {i : Nat} {k : T → OR} {Q : List V1 × List AObj → Prop} (h : i < t.kids.length) (hk : Tot (k (kd t i)) Q) : Tot (t.kids[i]?.bind k) Q := by
  rw [kid_get h]; exact hk
end Go.Proofs.Ythjbllfcelkajaa
