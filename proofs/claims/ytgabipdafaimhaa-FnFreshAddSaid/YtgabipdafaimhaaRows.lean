/-
  NARROWER THAN 'FOR EVERY INPUT', by the rows' own cells (each row's printed sentence says how): FnExactCountPi: loops.
  DERIVED. THE GIVEN ROWS OF THIS SEAT. 6 by the template 'for every input the law returns true; each argument reads behind the call as it read before'; 0 by the template 'total and deterministic' (their statements: YtgabipdafaimhaaTotals.lean).
  GIVEN WITH THE SEED: the statements are not yours to turn. If you find one false, say at which input.
  Laid BY PROGRAM, IN A SANDBOX (cutbox-rows.mjs): the forced cells as the released guide's own fill.sh prints them over the translation 72c734e0a6c4f8da… (all of the seat's roots in one cut). By AI agents, Wed Nov 11 2026. No macro, syntax, notation, axiom, sorry.
-/
import Derived.Test.YtgabipdafaimhaaChecked
import GoSem.Claim
import GoSem.ClaimJoined
import GoSem.ClaimMapViews
import Derived.JoinedTies
import Derived.KernelRfl
namespace Go.Proofs.Ytgabipdafaimhaa
/- THE CELL 'sum', in the pinned program and in every row, IS THE sha256 OF THE DUMP (.gsa) THAT YtgabipdafaimhaaProg.lean LOADS. Nothing in Lean hashes anything: it is a label: what it is worth is what the hold of that sum in a sandbox is worth. -/
noncomputable def Try.pinned : Pinned := { name := "ytgabipdafaimhaa", sum := "72c734e0a6c4f8dabf4c5d2ab6a65d7e5da296f70baeb74c2a57594e75ed9a90", checked := Try.checked }
namespace Rows
def none {H : Type} : Left H := { results := [], args := [] }

/-- 'laws.FnExactNamesValid': WHATEVER THE INPUT: true; the input reads as it did. -/
def fnExactNamesValidSpec : ChangeSpec := { name := "fnExactNamesValid", fn := fun _ => fun
  | [d] => { results := [.lit (.bool true)], args := [d] }
  | _ => none }
def fnExactNamesValidRow : OpenClaim := { program := "ytgabipdafaimhaa", sum := "72c734e0a6c4f8dabf4c5d2ab6a65d7e5da296f70baeb74c2a57594e75ed9a90", func := "loop.example/depkernel/laws.FnExactNamesValid", spec := "fnExactNamesValid", inPlace := ["internal/bytealg.IndexByteString"], apart := false }
def FnExactNamesValidSaid : Prop := fnExactNamesValidRow.holds Try.pinned (OpenSpec.ofChange fnExactNamesValidSpec)

/-- ITS FALSE NEIGHBOUR: 'it returns false'. Refute it at one input. -/
def fnExactNamesValidWrong : ChangeSpec := { name := "fnExactNamesValid", fn := fun _ => fun
  | [d] => { results := [.lit (.bool false)], args := [d] }
  | _ => none }
def FnExactNamesValidWrongFalsely : Prop := fnExactNamesValidRow.holds Try.pinned (OpenSpec.ofChange fnExactNamesValidWrong)

/-- 'laws.FnExactFreshName': WHATEVER THE INPUT: true; the input reads as it did. -/
def fnExactFreshNameSpec : ChangeSpec := { name := "fnExactFreshName", fn := fun _ => fun
  | [d] => { results := [.lit (.bool true)], args := [d] }
  | _ => none }
def fnExactFreshNameRow : OpenClaim := { program := "ytgabipdafaimhaa", sum := "72c734e0a6c4f8dabf4c5d2ab6a65d7e5da296f70baeb74c2a57594e75ed9a90", func := "loop.example/depkernel/laws.FnExactFreshName", spec := "fnExactFreshName", inPlace := ["internal/bytealg.IndexByteString"], apart := false }
def FnExactFreshNameSaid : Prop := fnExactFreshNameRow.holds Try.pinned (OpenSpec.ofChange fnExactFreshNameSpec)

/-- ITS FALSE NEIGHBOUR: 'it returns false'. Refute it at one input. -/
def fnExactFreshNameWrong : ChangeSpec := { name := "fnExactFreshName", fn := fun _ => fun
  | [d] => { results := [.lit (.bool false)], args := [d] }
  | _ => none }
def FnExactFreshNameWrongFalsely : Prop := fnExactFreshNameRow.holds Try.pinned (OpenSpec.ofChange fnExactFreshNameWrong)

/-- 'laws.FnExactContextVars': WHATEVER THE INPUT: true; the input reads as it did. -/
def fnExactContextVarsSpec : ChangeSpec := { name := "fnExactContextVars", fn := fun _ => fun
  | [d] => { results := [.lit (.bool true)], args := [d] }
  | _ => none }
def fnExactContextVarsRow : OpenClaim := { program := "ytgabipdafaimhaa", sum := "72c734e0a6c4f8dabf4c5d2ab6a65d7e5da296f70baeb74c2a57594e75ed9a90", func := "loop.example/depkernel/laws.FnExactContextVars", spec := "fnExactContextVars", recurses := true, apart := false }
def FnExactContextVarsSaid : Prop := fnExactContextVarsRow.holds Try.pinned (OpenSpec.ofChange fnExactContextVarsSpec)

/-- ITS FALSE NEIGHBOUR: 'it returns false'. Refute it at one input. -/
def fnExactContextVarsWrong : ChangeSpec := { name := "fnExactContextVars", fn := fun _ => fun
  | [d] => { results := [.lit (.bool false)], args := [d] }
  | _ => none }
def FnExactContextVarsWrongFalsely : Prop := fnExactContextVarsRow.holds Try.pinned (OpenSpec.ofChange fnExactContextVarsWrong)

/-- 'laws.FnFreshAdd': WHATEVER THE INPUT: true; the input reads as it did. -/
def fnFreshAddSpec : ChangeSpec := { name := "fnFreshAdd", fn := fun _ => fun
  | [d] => { results := [.lit (.bool true)], args := [d] }
  | _ => none }
def fnFreshAddRow : OpenClaim := { program := "ytgabipdafaimhaa", sum := "72c734e0a6c4f8dabf4c5d2ab6a65d7e5da296f70baeb74c2a57594e75ed9a90", func := "loop.example/depkernel/laws.FnFreshAdd", spec := "fnFreshAdd", inPlace := ["internal/bytealg.IndexByteString"], apart := false }
def FnFreshAddSaid : Prop := fnFreshAddRow.holds Try.pinned (OpenSpec.ofChange fnFreshAddSpec)

/-- ITS FALSE NEIGHBOUR: 'it returns false'. Refute it at one input. -/
def fnFreshAddWrong : ChangeSpec := { name := "fnFreshAdd", fn := fun _ => fun
  | [d] => { results := [.lit (.bool false)], args := [d] }
  | _ => none }
def FnFreshAddWrongFalsely : Prop := fnFreshAddRow.holds Try.pinned (OpenSpec.ofChange fnFreshAddWrong)

/-- 'laws.FnFreshName': WHATEVER THE INPUT: true; the input reads as it did. -/
def fnFreshNameSpec : ChangeSpec := { name := "fnFreshName", fn := fun _ => fun
  | [d] => { results := [.lit (.bool true)], args := [d] }
  | _ => none }
def fnFreshNameRow : OpenClaim := { program := "ytgabipdafaimhaa", sum := "72c734e0a6c4f8dabf4c5d2ab6a65d7e5da296f70baeb74c2a57594e75ed9a90", func := "loop.example/depkernel/laws.FnFreshName", spec := "fnFreshName", inPlace := ["internal/bytealg.IndexByteString"], apart := false }
def FnFreshNameSaid : Prop := fnFreshNameRow.holds Try.pinned (OpenSpec.ofChange fnFreshNameSpec)

/-- ITS FALSE NEIGHBOUR: 'it returns false'. Refute it at one input. -/
def fnFreshNameWrong : ChangeSpec := { name := "fnFreshName", fn := fun _ => fun
  | [d] => { results := [.lit (.bool false)], args := [d] }
  | _ => none }
def FnFreshNameWrongFalsely : Prop := fnFreshNameRow.holds Try.pinned (OpenSpec.ofChange fnFreshNameWrong)

/-- 'laws.FnExactCountPi': WHATEVER THE INPUT: true; the input reads as it did. -/
def fnExactCountPiSpec : ChangeSpec := { name := "fnExactCountPi", fn := fun _ => fun
  | [d] => { results := [.lit (.bool true)], args := [d] }
  | _ => none }
def fnExactCountPiRow : OpenClaim := { program := "ytgabipdafaimhaa", sum := "72c734e0a6c4f8dabf4c5d2ab6a65d7e5da296f70baeb74c2a57594e75ed9a90", func := "loop.example/depkernel/laws.FnExactCountPi", spec := "fnExactCountPi", recurses := true, loops := true, apart := false }
def FnExactCountPiSaid : Prop := fnExactCountPiRow.holds Try.pinned (OpenSpec.ofChange fnExactCountPiSpec)

/-- ITS FALSE NEIGHBOUR: 'it returns false'. Refute it at one input. -/
def fnExactCountPiWrong : ChangeSpec := { name := "fnExactCountPi", fn := fun _ => fun
  | [d] => { results := [.lit (.bool false)], args := [d] }
  | _ => none }
def FnExactCountPiWrongFalsely : Prop := fnExactCountPiRow.holds Try.pinned (OpenSpec.ofChange fnExactCountPiWrong)

/- THE SECOND FORM. 'bulk': how many values and letters a reading holds, each counted each time it is reached (what is shared counts as often as it is met; a slice's spare places count too). A statement '..UptoSaid' is the law's where the arguments, and the package variables that the reading takes, are together of bulk at most 1048576: NARROWER than '..Said'. Prove '..Said' where nothing that the law and all that it calls make is longer than what came in: it says more and counts as full. Else prove '..UptoSaid'. A law counts once. -/
mutual
def uptoBulk {H : Type} : DataW H → Nat
  | .lit (.string bytes) => bytes.length + 1
  | .lit _ => 1
  | .nil => 1
  | .ptr d => uptoBulk d + 1
  | .slice elems spare => uptoBulkAll elems + uptoBulkAll spare + 1
  | .agg parts => uptoBulkAll parts + 1
  | .iface _ d => uptoBulk d + 1
  | .map entries => uptoBulkEntries entries + 1
  | .held _ => 1
def uptoBulkAll {H : Type} : List (DataW H) → Nat
  | [] => 0
  | d :: r => uptoBulk d + uptoBulkAll r
def uptoBulkEntries {H : Type} : List (Lit × DataW H) → Nat
  | [] => 0
  | x :: r => uptoBulkEntry x + uptoBulkEntries r
def uptoBulkEntry {H : Type} : Lit × DataW H → Nat
  | (.string bytes, d) => bytes.length + uptoBulk d + 1
  | (_, d) => uptoBulk d + 1
 end
def uptoSmall : (H : Type) → List (DataW H) → Bool := fun _ ds => decide (uptoBulkAll ds ≤ 1048576)
def OpenSpec.upto (s : _root_.Go.ChangeSpec) : _root_.Go.OpenSpec := { _root_.Go.OpenSpec.ofChange s with cond := some uptoSmall }

/-- 'laws.FnExactNamesValid', WHERE WHAT IT READS IS OF BULK AT MOST 1048576: true; the input reads as it did. -/
def fnExactNamesValidUptoRow : OpenClaim := { program := "ytgabipdafaimhaa", sum := "72c734e0a6c4f8dabf4c5d2ab6a65d7e5da296f70baeb74c2a57594e75ed9a90", func := "loop.example/depkernel/laws.FnExactNamesValid", spec := "fnExactNamesValid", inPlace := ["internal/bytealg.IndexByteString"], apart := false, narrowed := true }
def FnExactNamesValidUptoSaid : Prop := fnExactNamesValidUptoRow.holds Try.pinned (OpenSpec.upto fnExactNamesValidSpec)

/-- 'laws.FnExactFreshName', WHERE WHAT IT READS IS OF BULK AT MOST 1048576: true; the input reads as it did. -/
def fnExactFreshNameUptoRow : OpenClaim := { program := "ytgabipdafaimhaa", sum := "72c734e0a6c4f8dabf4c5d2ab6a65d7e5da296f70baeb74c2a57594e75ed9a90", func := "loop.example/depkernel/laws.FnExactFreshName", spec := "fnExactFreshName", inPlace := ["internal/bytealg.IndexByteString"], apart := false, narrowed := true }
def FnExactFreshNameUptoSaid : Prop := fnExactFreshNameUptoRow.holds Try.pinned (OpenSpec.upto fnExactFreshNameSpec)

/-- 'laws.FnExactContextVars', WHERE WHAT IT READS IS OF BULK AT MOST 1048576: true; the input reads as it did. -/
def fnExactContextVarsUptoRow : OpenClaim := { program := "ytgabipdafaimhaa", sum := "72c734e0a6c4f8dabf4c5d2ab6a65d7e5da296f70baeb74c2a57594e75ed9a90", func := "loop.example/depkernel/laws.FnExactContextVars", spec := "fnExactContextVars", recurses := true, apart := false, narrowed := true }
def FnExactContextVarsUptoSaid : Prop := fnExactContextVarsUptoRow.holds Try.pinned (OpenSpec.upto fnExactContextVarsSpec)

/-- 'laws.FnFreshAdd', WHERE WHAT IT READS IS OF BULK AT MOST 1048576: true; the input reads as it did. -/
def fnFreshAddUptoRow : OpenClaim := { program := "ytgabipdafaimhaa", sum := "72c734e0a6c4f8dabf4c5d2ab6a65d7e5da296f70baeb74c2a57594e75ed9a90", func := "loop.example/depkernel/laws.FnFreshAdd", spec := "fnFreshAdd", inPlace := ["internal/bytealg.IndexByteString"], apart := false, narrowed := true }
def FnFreshAddUptoSaid : Prop := fnFreshAddUptoRow.holds Try.pinned (OpenSpec.upto fnFreshAddSpec)

/-- 'laws.FnFreshName', WHERE WHAT IT READS IS OF BULK AT MOST 1048576: true; the input reads as it did. -/
def fnFreshNameUptoRow : OpenClaim := { program := "ytgabipdafaimhaa", sum := "72c734e0a6c4f8dabf4c5d2ab6a65d7e5da296f70baeb74c2a57594e75ed9a90", func := "loop.example/depkernel/laws.FnFreshName", spec := "fnFreshName", inPlace := ["internal/bytealg.IndexByteString"], apart := false, narrowed := true }
def FnFreshNameUptoSaid : Prop := fnFreshNameUptoRow.holds Try.pinned (OpenSpec.upto fnFreshNameSpec)

/-- 'laws.FnExactCountPi', WHERE WHAT IT READS IS OF BULK AT MOST 1048576: true; the input reads as it did. -/
def fnExactCountPiUptoRow : OpenClaim := { program := "ytgabipdafaimhaa", sum := "72c734e0a6c4f8dabf4c5d2ab6a65d7e5da296f70baeb74c2a57594e75ed9a90", func := "loop.example/depkernel/laws.FnExactCountPi", spec := "fnExactCountPi", recurses := true, loops := true, apart := false, narrowed := true }
def FnExactCountPiUptoSaid : Prop := fnExactCountPiUptoRow.holds Try.pinned (OpenSpec.upto fnExactCountPiSpec)

end Rows
end Go.Proofs.Ytgabipdafaimhaa
