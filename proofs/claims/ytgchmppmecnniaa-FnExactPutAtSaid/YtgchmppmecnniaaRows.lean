/-
  NARROWER THAN 'FOR EVERY INPUT', by the rows' own cells (each row's printed sentence says how): FnExactPutAt: loops.
  DERIVED. THE GIVEN ROWS OF THIS SEAT. 5 by the template 'for every input the law returns true; each argument reads behind the call as it read before'; 0 by the template 'total and deterministic' (their statements: YtgchmppmecnniaaTotals.lean).
  GIVEN WITH THE SEED: the statements are not yours to turn. If you find one false, say at which input.
  Laid BY PROGRAM, IN A SANDBOX (cutbox-rows.mjs): the forced cells as the released guide's own fill.sh prints them over the translation c2c0628a29f3603a… (all of the seat's roots in one cut). By AI agents, Wed Nov 11 2026. No macro, syntax, notation, axiom, sorry.
-/
import Derived.Test.YtgchmppmecnniaaChecked
import GoSem.Claim
import GoSem.ClaimJoined
import GoSem.ClaimMapViews
import Derived.JoinedTies
import Derived.KernelRfl
namespace Go.Proofs.Ytgchmppmecnniaa
/- THE CELL 'sum', in the pinned program and in every row, IS THE sha256 OF THE DUMP (.gsa) THAT YtgchmppmecnniaaProg.lean LOADS. Nothing in Lean hashes anything: it is a label: what it is worth is what the hold of that sum in a sandbox is worth. -/
noncomputable def Try.pinned : Pinned := { name := "ytgchmppmecnniaa", sum := "c2c0628a29f3603a6e21dd7af749a2af66ae66cbc867e062ba040d80f2fadde2", checked := Try.checked }
namespace Rows
def none {H : Type} : Left H := { results := [], args := [] }

/-- 'laws.FnApplyAll': WHATEVER THE INPUT: true; the input reads as it did. -/
def fnApplyAllSpec : ChangeSpec := { name := "fnApplyAll", fn := fun _ => fun
  | [d] => { results := [.lit (.bool true)], args := [d] }
  | _ => none }
def fnApplyAllRow : OpenClaim := { program := "ytgchmppmecnniaa", sum := "c2c0628a29f3603a6e21dd7af749a2af66ae66cbc867e062ba040d80f2fadde2", func := "loop.example/depkernel/laws.FnApplyAll", spec := "fnApplyAll", unfollowed := true, recurses := true, apart := false }
def FnApplyAllSaid : Prop := fnApplyAllRow.holds Try.pinned (OpenSpec.ofChange fnApplyAllSpec)

/-- ITS FALSE NEIGHBOUR: 'it returns false'. Refute it at one input. -/
def fnApplyAllWrong : ChangeSpec := { name := "fnApplyAll", fn := fun _ => fun
  | [d] => { results := [.lit (.bool false)], args := [d] }
  | _ => none }
def FnApplyAllWrongFalsely : Prop := fnApplyAllRow.holds Try.pinned (OpenSpec.ofChange fnApplyAllWrong)

/-- 'laws.FnSplitApp': WHATEVER THE INPUT: true; the input reads as it did. -/
def fnSplitAppSpec : ChangeSpec := { name := "fnSplitApp", fn := fun _ => fun
  | [d] => { results := [.lit (.bool true)], args := [d] }
  | _ => none }
def fnSplitAppRow : OpenClaim := { program := "ytgchmppmecnniaa", sum := "c2c0628a29f3603a6e21dd7af749a2af66ae66cbc867e062ba040d80f2fadde2", func := "loop.example/depkernel/laws.FnSplitApp", spec := "fnSplitApp", unfollowed := true, recurses := true, apart := false }
def FnSplitAppSaid : Prop := fnSplitAppRow.holds Try.pinned (OpenSpec.ofChange fnSplitAppSpec)

/-- ITS FALSE NEIGHBOUR: 'it returns false'. Refute it at one input. -/
def fnSplitAppWrong : ChangeSpec := { name := "fnSplitApp", fn := fun _ => fun
  | [d] => { results := [.lit (.bool false)], args := [d] }
  | _ => none }
def FnSplitAppWrongFalsely : Prop := fnSplitAppRow.holds Try.pinned (OpenSpec.ofChange fnSplitAppWrong)

/-- 'laws.FnDevelopTerm': WHATEVER THE INPUT: true; the input reads as it did. -/
def fnDevelopTermSpec : ChangeSpec := { name := "fnDevelopTerm", fn := fun _ => fun
  | [d] => { results := [.lit (.bool true)], args := [d] }
  | _ => none }
def fnDevelopTermRow : OpenClaim := { program := "ytgchmppmecnniaa", sum := "c2c0628a29f3603a6e21dd7af749a2af66ae66cbc867e062ba040d80f2fadde2", func := "loop.example/depkernel/laws.FnDevelopTerm", spec := "fnDevelopTerm", unfollowed := true, recurses := true, apart := false }
def FnDevelopTermSaid : Prop := fnDevelopTermRow.holds Try.pinned (OpenSpec.ofChange fnDevelopTermSpec)

/-- ITS FALSE NEIGHBOUR: 'it returns false'. Refute it at one input. -/
def fnDevelopTermWrong : ChangeSpec := { name := "fnDevelopTerm", fn := fun _ => fun
  | [d] => { results := [.lit (.bool false)], args := [d] }
  | _ => none }
def FnDevelopTermWrongFalsely : Prop := fnDevelopTermRow.holds Try.pinned (OpenSpec.ofChange fnDevelopTermWrong)

/-- 'laws.FnDevelopStep': WHATEVER THE INPUT: true; the input reads as it did. -/
def fnDevelopStepSpec : ChangeSpec := { name := "fnDevelopStep", fn := fun _ => fun
  | [d] => { results := [.lit (.bool true)], args := [d] }
  | _ => none }
def fnDevelopStepRow : OpenClaim := { program := "ytgchmppmecnniaa", sum := "c2c0628a29f3603a6e21dd7af749a2af66ae66cbc867e062ba040d80f2fadde2", func := "loop.example/depkernel/laws.FnDevelopStep", spec := "fnDevelopStep", unfollowed := true, recurses := true, apart := false }
def FnDevelopStepSaid : Prop := fnDevelopStepRow.holds Try.pinned (OpenSpec.ofChange fnDevelopStepSpec)

/-- ITS FALSE NEIGHBOUR: 'it returns false'. Refute it at one input. -/
def fnDevelopStepWrong : ChangeSpec := { name := "fnDevelopStep", fn := fun _ => fun
  | [d] => { results := [.lit (.bool false)], args := [d] }
  | _ => none }
def FnDevelopStepWrongFalsely : Prop := fnDevelopStepRow.holds Try.pinned (OpenSpec.ofChange fnDevelopStepWrong)

/-- 'laws.FnExactPutAt': WHATEVER THE INPUT: true; the input reads as it did. -/
def fnExactPutAtSpec : ChangeSpec := { name := "fnExactPutAt", fn := fun _ => fun
  | [d1, d2, d3] => { results := [.lit (.bool true)], args := [d1, d2, d3] }
  | _ => none }
def fnExactPutAtRow : OpenClaim := { program := "ytgchmppmecnniaa", sum := "c2c0628a29f3603a6e21dd7af749a2af66ae66cbc867e062ba040d80f2fadde2", func := "loop.example/depkernel/laws.FnExactPutAt", spec := "fnExactPutAt", recurses := true, loops := true, apart := false }
def FnExactPutAtSaid : Prop := fnExactPutAtRow.holds Try.pinned (OpenSpec.ofChange fnExactPutAtSpec)

/-- ITS FALSE NEIGHBOUR: 'it returns false'. Refute it at one input. -/
def fnExactPutAtWrong : ChangeSpec := { name := "fnExactPutAt", fn := fun _ => fun
  | [d1, d2, d3] => { results := [.lit (.bool false)], args := [d1, d2, d3] }
  | _ => none }
def FnExactPutAtWrongFalsely : Prop := fnExactPutAtRow.holds Try.pinned (OpenSpec.ofChange fnExactPutAtWrong)

/- THE SECOND FORM. 'bulk': how many values and letters a reading holds, each counted each time it is reached (what is shared counts as often as it is met; a slice's spare places count too). A statement '..UptoSaid' is the law's where the arguments, and the package variables that the reading takes, are together of bulk at most 1048576: NARROWER than '..Said'. Prove '..Said' where nothing that the law and all that it calls make is longer than what came in: it says more and counts as full. Else prove '..UptoSaid'. A law counts once. -/
mutual
def uptoBulk {H : Type} : DataW H → Nat
  | .lit (.string bytes) => bytes.length + 1
  | .lit _ => 1
  | .nil => 1
  | .ptr d => uptoBulk d + 1
  | .slice elems spare => uptoBulkAll elems + uptoBulkAll spare + 1
  | .agg parts => uptoBulkAll parts + 1
  | .iface _ d => uptoBulk d + 1
  | .map entries => uptoBulkEntries entries + 1
  | .held _ => 1
def uptoBulkAll {H : Type} : List (DataW H) → Nat
  | [] => 0
  | d :: r => uptoBulk d + uptoBulkAll r
def uptoBulkEntries {H : Type} : List (Lit × DataW H) → Nat
  | [] => 0
  | x :: r => uptoBulkEntry x + uptoBulkEntries r
def uptoBulkEntry {H : Type} : Lit × DataW H → Nat
  | (.string bytes, d) => bytes.length + uptoBulk d + 1
  | (_, d) => uptoBulk d + 1
 end
def uptoSmall : (H : Type) → List (DataW H) → Bool := fun _ ds => decide (uptoBulkAll ds ≤ 1048576)
def OpenSpec.upto (s : _root_.Go.ChangeSpec) : _root_.Go.OpenSpec := { _root_.Go.OpenSpec.ofChange s with cond := some uptoSmall }

/-- 'laws.FnApplyAll', WHERE WHAT IT READS IS OF BULK AT MOST 1048576: true; the input reads as it did. -/
def fnApplyAllUptoRow : OpenClaim := { program := "ytgchmppmecnniaa", sum := "c2c0628a29f3603a6e21dd7af749a2af66ae66cbc867e062ba040d80f2fadde2", func := "loop.example/depkernel/laws.FnApplyAll", spec := "fnApplyAll", unfollowed := true, recurses := true, apart := false, narrowed := true }
def FnApplyAllUptoSaid : Prop := fnApplyAllUptoRow.holds Try.pinned (OpenSpec.upto fnApplyAllSpec)

/-- 'laws.FnSplitApp', WHERE WHAT IT READS IS OF BULK AT MOST 1048576: true; the input reads as it did. -/
def fnSplitAppUptoRow : OpenClaim := { program := "ytgchmppmecnniaa", sum := "c2c0628a29f3603a6e21dd7af749a2af66ae66cbc867e062ba040d80f2fadde2", func := "loop.example/depkernel/laws.FnSplitApp", spec := "fnSplitApp", unfollowed := true, recurses := true, apart := false, narrowed := true }
def FnSplitAppUptoSaid : Prop := fnSplitAppUptoRow.holds Try.pinned (OpenSpec.upto fnSplitAppSpec)

/-- 'laws.FnDevelopTerm', WHERE WHAT IT READS IS OF BULK AT MOST 1048576: true; the input reads as it did. -/
def fnDevelopTermUptoRow : OpenClaim := { program := "ytgchmppmecnniaa", sum := "c2c0628a29f3603a6e21dd7af749a2af66ae66cbc867e062ba040d80f2fadde2", func := "loop.example/depkernel/laws.FnDevelopTerm", spec := "fnDevelopTerm", unfollowed := true, recurses := true, apart := false, narrowed := true }
def FnDevelopTermUptoSaid : Prop := fnDevelopTermUptoRow.holds Try.pinned (OpenSpec.upto fnDevelopTermSpec)

/-- 'laws.FnDevelopStep', WHERE WHAT IT READS IS OF BULK AT MOST 1048576: true; the input reads as it did. -/
def fnDevelopStepUptoRow : OpenClaim := { program := "ytgchmppmecnniaa", sum := "c2c0628a29f3603a6e21dd7af749a2af66ae66cbc867e062ba040d80f2fadde2", func := "loop.example/depkernel/laws.FnDevelopStep", spec := "fnDevelopStep", unfollowed := true, recurses := true, apart := false, narrowed := true }
def FnDevelopStepUptoSaid : Prop := fnDevelopStepUptoRow.holds Try.pinned (OpenSpec.upto fnDevelopStepSpec)

/-- 'laws.FnExactPutAt', WHERE WHAT IT READS IS OF BULK AT MOST 1048576: true; the input reads as it did. -/
def fnExactPutAtUptoRow : OpenClaim := { program := "ytgchmppmecnniaa", sum := "c2c0628a29f3603a6e21dd7af749a2af66ae66cbc867e062ba040d80f2fadde2", func := "loop.example/depkernel/laws.FnExactPutAt", spec := "fnExactPutAt", recurses := true, loops := true, apart := false, narrowed := true }
def FnExactPutAtUptoSaid : Prop := fnExactPutAtUptoRow.holds Try.pinned (OpenSpec.upto fnExactPutAtSpec)

end Rows
end Go.Proofs.Ytgchmppmecnniaa
