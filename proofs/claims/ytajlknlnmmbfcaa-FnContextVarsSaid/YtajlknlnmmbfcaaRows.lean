/-
  No cell of these rows narrows 'for every input' (looked for: loops, veiled, ifaces, maps, wideKeys, modest, calm, conditions, laid).
  DERIVED. THE GIVEN ROWS OF THIS SEAT. 3 by the template 'for every input the law returns true; each argument reads behind the call as it read before'; 0 by the template 'total and deterministic' (their statements: YtajlknlnmmbfcaaTotals.lean).
  GIVEN WITH THE SEED: the statements are not yours to turn. If you find one false, say at which input.
  Laid BY PROGRAM, IN A SANDBOX (cutbox-rows.mjs): the forced cells as the released guide's own fill.sh prints them over the translation ce1155c8e7239ac7… (all of the seat's roots in one cut). By AI agents, Wed Nov 11 2026. No macro, syntax, notation, axiom, sorry.
-/
import Derived.Test.YtajlknlnmmbfcaaChecked
import GoSem.Claim
import GoSem.ClaimJoined
import GoSem.ClaimMapViews
import Derived.JoinedTies
import Derived.KernelRfl
namespace Go.Proofs.Ytajlknlnmmbfcaa
/- THE CELL 'sum', in the pinned program and in every row, IS THE sha256 OF THE DUMP (.gsa) THAT YtajlknlnmmbfcaaProg.lean LOADS. Nothing in Lean hashes anything: it is a label: what it is worth is what the hold of that sum in a sandbox is worth. -/
noncomputable def Try.pinned : Pinned := { name := "ytajlknlnmmbfcaa", sum := "ce1155c8e7239ac7a3b412df47213409a8f172a9fe06d3d3b204e937e61a25d4", checked := Try.checked }
namespace Rows
def none {H : Type} : Left H := { results := [], args := [] }

/-- 'laws.FnContextVars': WHATEVER THE INPUT: true; the input reads as it did. -/
def fnContextVarsSpec : ChangeSpec := { name := "fnContextVars", fn := fun _ => fun
  | [d] => { results := [.lit (.bool true)], args := [d] }
  | _ => none }
def fnContextVarsRow : OpenClaim := { program := "ytajlknlnmmbfcaa", sum := "ce1155c8e7239ac7a3b412df47213409a8f172a9fe06d3d3b204e937e61a25d4", func := "loop.example/depkernel/laws.FnContextVars", spec := "fnContextVars", unfollowed := true, recurses := true, apart := false }
def FnContextVarsSaid : Prop := fnContextVarsRow.holds Try.pinned (OpenSpec.ofChange fnContextVarsSpec)

/-- ITS FALSE NEIGHBOUR: 'it returns false'. Refute it at one input. -/
def fnContextVarsWrong : ChangeSpec := { name := "fnContextVars", fn := fun _ => fun
  | [d] => { results := [.lit (.bool false)], args := [d] }
  | _ => none }
def FnContextVarsWrongFalsely : Prop := fnContextVarsRow.holds Try.pinned (OpenSpec.ofChange fnContextVarsWrong)

/-- 'laws.FnPiCount': WHATEVER THE INPUT: true; the input reads as it did. -/
def fnPiCountSpec : ChangeSpec := { name := "fnPiCount", fn := fun _ => fun
  | [d] => { results := [.lit (.bool true)], args := [d] }
  | _ => none }
def fnPiCountRow : OpenClaim := { program := "ytajlknlnmmbfcaa", sum := "ce1155c8e7239ac7a3b412df47213409a8f172a9fe06d3d3b204e937e61a25d4", func := "loop.example/depkernel/laws.FnPiCount", spec := "fnPiCount", unfollowed := true, recurses := true, apart := false }
def FnPiCountSaid : Prop := fnPiCountRow.holds Try.pinned (OpenSpec.ofChange fnPiCountSpec)

/-- ITS FALSE NEIGHBOUR: 'it returns false'. Refute it at one input. -/
def fnPiCountWrong : ChangeSpec := { name := "fnPiCount", fn := fun _ => fun
  | [d] => { results := [.lit (.bool false)], args := [d] }
  | _ => none }
def FnPiCountWrongFalsely : Prop := fnPiCountRow.holds Try.pinned (OpenSpec.ofChange fnPiCountWrong)

/-- 'laws.FnPiOver': WHATEVER THE INPUT: true; the input reads as it did. -/
def fnPiOverSpec : ChangeSpec := { name := "fnPiOver", fn := fun _ => fun
  | [d] => { results := [.lit (.bool true)], args := [d] }
  | _ => none }
def fnPiOverRow : OpenClaim := { program := "ytajlknlnmmbfcaa", sum := "ce1155c8e7239ac7a3b412df47213409a8f172a9fe06d3d3b204e937e61a25d4", func := "loop.example/depkernel/laws.FnPiOver", spec := "fnPiOver", unfollowed := true, recurses := true, apart := false }
def FnPiOverSaid : Prop := fnPiOverRow.holds Try.pinned (OpenSpec.ofChange fnPiOverSpec)

/-- ITS FALSE NEIGHBOUR: 'it returns false'. Refute it at one input. -/
def fnPiOverWrong : ChangeSpec := { name := "fnPiOver", fn := fun _ => fun
  | [d] => { results := [.lit (.bool false)], args := [d] }
  | _ => none }
def FnPiOverWrongFalsely : Prop := fnPiOverRow.holds Try.pinned (OpenSpec.ofChange fnPiOverWrong)

/- THE SECOND FORM. 'bulk': how many values and letters a reading holds, each counted each time it is reached (what is shared counts as often as it is met; a slice's spare places count too). A statement '..UptoSaid' is the law's where the arguments, and the package variables that the reading takes, are together of bulk at most 1048576: NARROWER than '..Said'. Prove '..Said' where nothing that the law and all that it calls make is longer than what came in: it says more and counts as full. Else prove '..UptoSaid'. A law counts once. -/
mutual
def uptoBulk {H : Type} : DataW H → Nat
  | .lit (.string bytes) => bytes.length + 1
  | .lit _ => 1
  | .nil => 1
  | .ptr d => uptoBulk d + 1
  | .slice elems spare => uptoBulkAll elems + uptoBulkAll spare + 1
  | .agg parts => uptoBulkAll parts + 1
  | .iface _ d => uptoBulk d + 1
  | .map entries => uptoBulkEntries entries + 1
  | .held _ => 1
def uptoBulkAll {H : Type} : List (DataW H) → Nat
  | [] => 0
  | d :: r => uptoBulk d + uptoBulkAll r
def uptoBulkEntries {H : Type} : List (Lit × DataW H) → Nat
  | [] => 0
  | x :: r => uptoBulkEntry x + uptoBulkEntries r
def uptoBulkEntry {H : Type} : Lit × DataW H → Nat
  | (.string bytes, d) => bytes.length + uptoBulk d + 1
  | (_, d) => uptoBulk d + 1
 end
def uptoSmall : (H : Type) → List (DataW H) → Bool := fun _ ds => decide (uptoBulkAll ds ≤ 1048576)
def OpenSpec.upto (s : _root_.Go.ChangeSpec) : _root_.Go.OpenSpec := { _root_.Go.OpenSpec.ofChange s with cond := some uptoSmall }

/-- 'laws.FnContextVars', WHERE WHAT IT READS IS OF BULK AT MOST 1048576: true; the input reads as it did. -/
def fnContextVarsUptoRow : OpenClaim := { program := "ytajlknlnmmbfcaa", sum := "ce1155c8e7239ac7a3b412df47213409a8f172a9fe06d3d3b204e937e61a25d4", func := "loop.example/depkernel/laws.FnContextVars", spec := "fnContextVars", unfollowed := true, recurses := true, apart := false, narrowed := true }
def FnContextVarsUptoSaid : Prop := fnContextVarsUptoRow.holds Try.pinned (OpenSpec.upto fnContextVarsSpec)

/-- 'laws.FnPiCount', WHERE WHAT IT READS IS OF BULK AT MOST 1048576: true; the input reads as it did. -/
def fnPiCountUptoRow : OpenClaim := { program := "ytajlknlnmmbfcaa", sum := "ce1155c8e7239ac7a3b412df47213409a8f172a9fe06d3d3b204e937e61a25d4", func := "loop.example/depkernel/laws.FnPiCount", spec := "fnPiCount", unfollowed := true, recurses := true, apart := false, narrowed := true }
def FnPiCountUptoSaid : Prop := fnPiCountUptoRow.holds Try.pinned (OpenSpec.upto fnPiCountSpec)

/-- 'laws.FnPiOver', WHERE WHAT IT READS IS OF BULK AT MOST 1048576: true; the input reads as it did. -/
def fnPiOverUptoRow : OpenClaim := { program := "ytajlknlnmmbfcaa", sum := "ce1155c8e7239ac7a3b412df47213409a8f172a9fe06d3d3b204e937e61a25d4", func := "loop.example/depkernel/laws.FnPiOver", spec := "fnPiOver", unfollowed := true, recurses := true, apart := false, narrowed := true }
def FnPiOverUptoSaid : Prop := fnPiOverUptoRow.holds Try.pinned (OpenSpec.upto fnPiOverSpec)

end Rows
end Go.Proofs.Ytajlknlnmmbfcaa
