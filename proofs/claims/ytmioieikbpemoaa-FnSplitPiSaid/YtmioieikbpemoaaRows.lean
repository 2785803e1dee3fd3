/-
  No cell of these rows narrows 'for every input' (looked for: loops, veiled, ifaces, maps, wideKeys, modest, calm, conditions, laid).
  DERIVED. THE GIVEN ROWS OF THIS SEAT. 12 by the template 'for every input the law returns true; each argument reads behind the call as it read before'; 0 by the template 'total and deterministic' (their statements: YtmioieikbpemoaaTotals.lean).
  GIVEN WITH THE SEED: the statements are not yours to turn. If you find one false, say at which input.
  Laid BY PROGRAM, IN A SANDBOX (cutbox-rows.mjs): the forced cells as the released guide's own fill.sh prints them over the translation 9b15cc4b63f76cab… (all of the seat's roots in one cut). By AI agents, Wed Nov 11 2026. No macro, syntax, notation, axiom, sorry.
-/
import Derived.Test.YtmioieikbpemoaaChecked
import GoSem.Claim
import GoSem.ClaimJoined
import GoSem.ClaimMapViews
import Derived.JoinedTies
import Derived.KernelRfl
namespace Go.Proofs.Ytmioieikbpemoaa
/- THE CELL 'sum', in the pinned program and in every row, IS THE sha256 OF THE DUMP (.gsa) THAT YtmioieikbpemoaaProg.lean LOADS. Nothing in Lean hashes anything: it is a label: what it is worth is what the hold of that sum in a sandbox is worth. -/
noncomputable def Try.pinned : Pinned := { name := "ytmioieikbpemoaa", sum := "9b15cc4b63f76cab59499e838083e27e842f576deb3254fdbeab3c197d404413", checked := Try.checked }
namespace Rows
def none {H : Type} : Left H := { results := [], args := [] }

/-- 'laws.FnApplyOne': WHATEVER THE INPUT: true; the input reads as it did. -/
def fnApplyOneSpec : ChangeSpec := { name := "fnApplyOne", fn := fun _ => fun
  | [d1, d2] => { results := [.lit (.bool true)], args := [d1, d2] }
  | _ => none }
def fnApplyOneRow : OpenClaim := { program := "ytmioieikbpemoaa", sum := "9b15cc4b63f76cab59499e838083e27e842f576deb3254fdbeab3c197d404413", func := "loop.example/depkernel/laws.FnApplyOne", spec := "fnApplyOne", unfollowed := true, recurses := true, apart := false }
def FnApplyOneSaid : Prop := fnApplyOneRow.holds Try.pinned (OpenSpec.ofChange fnApplyOneSpec)

/-- ITS FALSE NEIGHBOUR: 'it returns false'. Refute it at one input. -/
def fnApplyOneWrong : ChangeSpec := { name := "fnApplyOne", fn := fun _ => fun
  | [d1, d2] => { results := [.lit (.bool false)], args := [d1, d2] }
  | _ => none }
def FnApplyOneWrongFalsely : Prop := fnApplyOneRow.holds Try.pinned (OpenSpec.ofChange fnApplyOneWrong)

/-- 'laws.FnApplyAll': WHATEVER THE INPUT: true; the input reads as it did. -/
def fnApplyAllSpec : ChangeSpec := { name := "fnApplyAll", fn := fun _ => fun
  | [d] => { results := [.lit (.bool true)], args := [d] }
  | _ => none }
def fnApplyAllRow : OpenClaim := { program := "ytmioieikbpemoaa", sum := "9b15cc4b63f76cab59499e838083e27e842f576deb3254fdbeab3c197d404413", func := "loop.example/depkernel/laws.FnApplyAll", spec := "fnApplyAll", unfollowed := true, recurses := true, apart := false }
def FnApplyAllSaid : Prop := fnApplyAllRow.holds Try.pinned (OpenSpec.ofChange fnApplyAllSpec)

/-- ITS FALSE NEIGHBOUR: 'it returns false'. Refute it at one input. -/
def fnApplyAllWrong : ChangeSpec := { name := "fnApplyAll", fn := fun _ => fun
  | [d] => { results := [.lit (.bool false)], args := [d] }
  | _ => none }
def FnApplyAllWrongFalsely : Prop := fnApplyAllRow.holds Try.pinned (OpenSpec.ofChange fnApplyAllWrong)

/-- 'laws.FnSplitApp': WHATEVER THE INPUT: true; the input reads as it did. -/
def fnSplitAppSpec : ChangeSpec := { name := "fnSplitApp", fn := fun _ => fun
  | [d] => { results := [.lit (.bool true)], args := [d] }
  | _ => none }
def fnSplitAppRow : OpenClaim := { program := "ytmioieikbpemoaa", sum := "9b15cc4b63f76cab59499e838083e27e842f576deb3254fdbeab3c197d404413", func := "loop.example/depkernel/laws.FnSplitApp", spec := "fnSplitApp", unfollowed := true, recurses := true, apart := false }
def FnSplitAppSaid : Prop := fnSplitAppRow.holds Try.pinned (OpenSpec.ofChange fnSplitAppSpec)

/-- ITS FALSE NEIGHBOUR: 'it returns false'. Refute it at one input. -/
def fnSplitAppWrong : ChangeSpec := { name := "fnSplitApp", fn := fun _ => fun
  | [d] => { results := [.lit (.bool false)], args := [d] }
  | _ => none }
def FnSplitAppWrongFalsely : Prop := fnSplitAppRow.holds Try.pinned (OpenSpec.ofChange fnSplitAppWrong)

/-- 'laws.FnSplitPi': WHATEVER THE INPUT: true; the input reads as it did. -/
def fnSplitPiSpec : ChangeSpec := { name := "fnSplitPi", fn := fun _ => fun
  | [d] => { results := [.lit (.bool true)], args := [d] }
  | _ => none }
def fnSplitPiRow : OpenClaim := { program := "ytmioieikbpemoaa", sum := "9b15cc4b63f76cab59499e838083e27e842f576deb3254fdbeab3c197d404413", func := "loop.example/depkernel/laws.FnSplitPi", spec := "fnSplitPi", unfollowed := true, recurses := true, apart := false }
def FnSplitPiSaid : Prop := fnSplitPiRow.holds Try.pinned (OpenSpec.ofChange fnSplitPiSpec)

/-- ITS FALSE NEIGHBOUR: 'it returns false'. Refute it at one input. -/
def fnSplitPiWrong : ChangeSpec := { name := "fnSplitPi", fn := fun _ => fun
  | [d] => { results := [.lit (.bool false)], args := [d] }
  | _ => none }
def FnSplitPiWrongFalsely : Prop := fnSplitPiRow.holds Try.pinned (OpenSpec.ofChange fnSplitPiWrong)

/-- 'laws.FnTraceTerm': WHATEVER THE INPUT: true; the input reads as it did. -/
def fnTraceTermSpec : ChangeSpec := { name := "fnTraceTerm", fn := fun _ => fun
  | [d] => { results := [.lit (.bool true)], args := [d] }
  | _ => none }
def fnTraceTermRow : OpenClaim := { program := "ytmioieikbpemoaa", sum := "9b15cc4b63f76cab59499e838083e27e842f576deb3254fdbeab3c197d404413", func := "loop.example/depkernel/laws.FnTraceTerm", spec := "fnTraceTerm", unfollowed := true, recurses := true, apart := false }
def FnTraceTermSaid : Prop := fnTraceTermRow.holds Try.pinned (OpenSpec.ofChange fnTraceTermSpec)

/-- ITS FALSE NEIGHBOUR: 'it returns false'. Refute it at one input. -/
def fnTraceTermWrong : ChangeSpec := { name := "fnTraceTerm", fn := fun _ => fun
  | [d] => { results := [.lit (.bool false)], args := [d] }
  | _ => none }
def FnTraceTermWrongFalsely : Prop := fnTraceTermRow.holds Try.pinned (OpenSpec.ofChange fnTraceTermWrong)

/-- 'laws.FnDevelopStep': WHATEVER THE INPUT: true; the input reads as it did. -/
def fnDevelopStepSpec : ChangeSpec := { name := "fnDevelopStep", fn := fun _ => fun
  | [d] => { results := [.lit (.bool true)], args := [d] }
  | _ => none }
def fnDevelopStepRow : OpenClaim := { program := "ytmioieikbpemoaa", sum := "9b15cc4b63f76cab59499e838083e27e842f576deb3254fdbeab3c197d404413", func := "loop.example/depkernel/laws.FnDevelopStep", spec := "fnDevelopStep", unfollowed := true, recurses := true, apart := false }
def FnDevelopStepSaid : Prop := fnDevelopStepRow.holds Try.pinned (OpenSpec.ofChange fnDevelopStepSpec)

/-- ITS FALSE NEIGHBOUR: 'it returns false'. Refute it at one input. -/
def fnDevelopStepWrong : ChangeSpec := { name := "fnDevelopStep", fn := fun _ => fun
  | [d] => { results := [.lit (.bool false)], args := [d] }
  | _ => none }
def FnDevelopStepWrongFalsely : Prop := fnDevelopStepRow.holds Try.pinned (OpenSpec.ofChange fnDevelopStepWrong)

/-- 'laws.FnDevelopTerm': WHATEVER THE INPUT: true; the input reads as it did. -/
def fnDevelopTermSpec : ChangeSpec := { name := "fnDevelopTerm", fn := fun _ => fun
  | [d] => { results := [.lit (.bool true)], args := [d] }
  | _ => none }
def fnDevelopTermRow : OpenClaim := { program := "ytmioieikbpemoaa", sum := "9b15cc4b63f76cab59499e838083e27e842f576deb3254fdbeab3c197d404413", func := "loop.example/depkernel/laws.FnDevelopTerm", spec := "fnDevelopTerm", unfollowed := true, recurses := true, apart := false }
def FnDevelopTermSaid : Prop := fnDevelopTermRow.holds Try.pinned (OpenSpec.ofChange fnDevelopTermSpec)

/-- ITS FALSE NEIGHBOUR: 'it returns false'. Refute it at one input. -/
def fnDevelopTermWrong : ChangeSpec := { name := "fnDevelopTerm", fn := fun _ => fun
  | [d] => { results := [.lit (.bool false)], args := [d] }
  | _ => none }
def FnDevelopTermWrongFalsely : Prop := fnDevelopTermRow.holds Try.pinned (OpenSpec.ofChange fnDevelopTermWrong)

/-- 'laws.FnTraceEnd': WHATEVER THE INPUT: true; the input reads as it did. -/
def fnTraceEndSpec : ChangeSpec := { name := "fnTraceEnd", fn := fun _ => fun
  | [d] => { results := [.lit (.bool true)], args := [d] }
  | _ => none }
def fnTraceEndRow : OpenClaim := { program := "ytmioieikbpemoaa", sum := "9b15cc4b63f76cab59499e838083e27e842f576deb3254fdbeab3c197d404413", func := "loop.example/depkernel/laws.FnTraceEnd", spec := "fnTraceEnd", unfollowed := true, recurses := true, apart := false }
def FnTraceEndSaid : Prop := fnTraceEndRow.holds Try.pinned (OpenSpec.ofChange fnTraceEndSpec)

/-- ITS FALSE NEIGHBOUR: 'it returns false'. Refute it at one input. -/
def fnTraceEndWrong : ChangeSpec := { name := "fnTraceEnd", fn := fun _ => fun
  | [d] => { results := [.lit (.bool false)], args := [d] }
  | _ => none }
def FnTraceEndWrongFalsely : Prop := fnTraceEndRow.holds Try.pinned (OpenSpec.ofChange fnTraceEndWrong)

/-- 'laws.FnConvTrace': WHATEVER THE INPUT: true; the input reads as it did. -/
def fnConvTraceSpec : ChangeSpec := { name := "fnConvTrace", fn := fun _ => fun
  | [d] => { results := [.lit (.bool true)], args := [d] }
  | _ => none }
def fnConvTraceRow : OpenClaim := { program := "ytmioieikbpemoaa", sum := "9b15cc4b63f76cab59499e838083e27e842f576deb3254fdbeab3c197d404413", func := "loop.example/depkernel/laws.FnConvTrace", spec := "fnConvTrace", unfollowed := true, recurses := true, apart := false }
def FnConvTraceSaid : Prop := fnConvTraceRow.holds Try.pinned (OpenSpec.ofChange fnConvTraceSpec)

/-- ITS FALSE NEIGHBOUR: 'it returns false'. Refute it at one input. -/
def fnConvTraceWrong : ChangeSpec := { name := "fnConvTrace", fn := fun _ => fun
  | [d] => { results := [.lit (.bool false)], args := [d] }
  | _ => none }
def FnConvTraceWrongFalsely : Prop := fnConvTraceRow.holds Try.pinned (OpenSpec.ofChange fnConvTraceWrong)

/-- 'laws.FnConvCongruent': WHATEVER THE INPUT: true; the input reads as it did. -/
def fnConvCongruentSpec : ChangeSpec := { name := "fnConvCongruent", fn := fun _ => fun
  | [d1, d2] => { results := [.lit (.bool true)], args := [d1, d2] }
  | _ => none }
def fnConvCongruentRow : OpenClaim := { program := "ytmioieikbpemoaa", sum := "9b15cc4b63f76cab59499e838083e27e842f576deb3254fdbeab3c197d404413", func := "loop.example/depkernel/laws.FnConvCongruent", spec := "fnConvCongruent", unfollowed := true, recurses := true, apart := false }
def FnConvCongruentSaid : Prop := fnConvCongruentRow.holds Try.pinned (OpenSpec.ofChange fnConvCongruentSpec)

/-- ITS FALSE NEIGHBOUR: 'it returns false'. Refute it at one input. -/
def fnConvCongruentWrong : ChangeSpec := { name := "fnConvCongruent", fn := fun _ => fun
  | [d1, d2] => { results := [.lit (.bool false)], args := [d1, d2] }
  | _ => none }
def FnConvCongruentWrongFalsely : Prop := fnConvCongruentRow.holds Try.pinned (OpenSpec.ofChange fnConvCongruentWrong)

/-- 'laws.FnConvTransitive': WHATEVER THE INPUT: true; the input reads as it did. -/
def fnConvTransitiveSpec : ChangeSpec := { name := "fnConvTransitive", fn := fun _ => fun
  | [d1, d2] => { results := [.lit (.bool true)], args := [d1, d2] }
  | _ => none }
def fnConvTransitiveRow : OpenClaim := { program := "ytmioieikbpemoaa", sum := "9b15cc4b63f76cab59499e838083e27e842f576deb3254fdbeab3c197d404413", func := "loop.example/depkernel/laws.FnConvTransitive", spec := "fnConvTransitive", unfollowed := true, recurses := true, apart := false }
def FnConvTransitiveSaid : Prop := fnConvTransitiveRow.holds Try.pinned (OpenSpec.ofChange fnConvTransitiveSpec)

/-- ITS FALSE NEIGHBOUR: 'it returns false'. Refute it at one input. -/
def fnConvTransitiveWrong : ChangeSpec := { name := "fnConvTransitive", fn := fun _ => fun
  | [d1, d2] => { results := [.lit (.bool false)], args := [d1, d2] }
  | _ => none }
def FnConvTransitiveWrongFalsely : Prop := fnConvTransitiveRow.holds Try.pinned (OpenSpec.ofChange fnConvTransitiveWrong)

/-- 'laws.FnConvertible': WHATEVER THE INPUT: true; the input reads as it did. -/
def fnConvertibleSpec : ChangeSpec := { name := "fnConvertible", fn := fun _ => fun
  | [d] => { results := [.lit (.bool true)], args := [d] }
  | _ => none }
def fnConvertibleRow : OpenClaim := { program := "ytmioieikbpemoaa", sum := "9b15cc4b63f76cab59499e838083e27e842f576deb3254fdbeab3c197d404413", func := "loop.example/depkernel/laws.FnConvertible", spec := "fnConvertible", unfollowed := true, recurses := true, apart := false }
def FnConvertibleSaid : Prop := fnConvertibleRow.holds Try.pinned (OpenSpec.ofChange fnConvertibleSpec)

/-- ITS FALSE NEIGHBOUR: 'it returns false'. Refute it at one input. -/
def fnConvertibleWrong : ChangeSpec := { name := "fnConvertible", fn := fun _ => fun
  | [d] => { results := [.lit (.bool false)], args := [d] }
  | _ => none }
def FnConvertibleWrongFalsely : Prop := fnConvertibleRow.holds Try.pinned (OpenSpec.ofChange fnConvertibleWrong)

/- THE SECOND FORM. 'bulk': how many values and letters a reading holds, each counted each time it is reached (what is shared counts as often as it is met; a slice's spare places count too). A statement '..UptoSaid' is the law's where the arguments, and the package variables that the reading takes, are together of bulk at most 1048576: NARROWER than '..Said'. Prove '..Said' where nothing that the law and all that it calls make is longer than what came in: it says more and counts as full. Else prove '..UptoSaid'. A law counts once. -/
mutual
def uptoBulk {H : Type} : DataW H → Nat
  | .lit (.string bytes) => bytes.length + 1
  | .lit _ => 1
  | .nil => 1
  | .ptr d => uptoBulk d + 1
  | .slice elems spare => uptoBulkAll elems + uptoBulkAll spare + 1
  | .agg parts => uptoBulkAll parts + 1
  | .iface _ d => uptoBulk d + 1
  | .map entries => uptoBulkEntries entries + 1
  | .held _ => 1
def uptoBulkAll {H : Type} : List (DataW H) → Nat
  | [] => 0
  | d :: r => uptoBulk d + uptoBulkAll r
def uptoBulkEntries {H : Type} : List (Lit × DataW H) → Nat
  | [] => 0
  | x :: r => uptoBulkEntry x + uptoBulkEntries r
def uptoBulkEntry {H : Type} : Lit × DataW H → Nat
  | (.string bytes, d) => bytes.length + uptoBulk d + 1
  | (_, d) => uptoBulk d + 1
 end
def uptoSmall : (H : Type) → List (DataW H) → Bool := fun _ ds => decide (uptoBulkAll ds ≤ 1048576)
def OpenSpec.upto (s : _root_.Go.ChangeSpec) : _root_.Go.OpenSpec := { _root_.Go.OpenSpec.ofChange s with cond := some uptoSmall }

/-- 'laws.FnApplyOne', WHERE WHAT IT READS IS OF BULK AT MOST 1048576: true; the input reads as it did. -/
def fnApplyOneUptoRow : OpenClaim := { program := "ytmioieikbpemoaa", sum := "9b15cc4b63f76cab59499e838083e27e842f576deb3254fdbeab3c197d404413", func := "loop.example/depkernel/laws.FnApplyOne", spec := "fnApplyOne", unfollowed := true, recurses := true, apart := false, narrowed := true }
def FnApplyOneUptoSaid : Prop := fnApplyOneUptoRow.holds Try.pinned (OpenSpec.upto fnApplyOneSpec)

/-- 'laws.FnApplyAll', WHERE WHAT IT READS IS OF BULK AT MOST 1048576: true; the input reads as it did. -/
def fnApplyAllUptoRow : OpenClaim := { program := "ytmioieikbpemoaa", sum := "9b15cc4b63f76cab59499e838083e27e842f576deb3254fdbeab3c197d404413", func := "loop.example/depkernel/laws.FnApplyAll", spec := "fnApplyAll", unfollowed := true, recurses := true, apart := false, narrowed := true }
def FnApplyAllUptoSaid : Prop := fnApplyAllUptoRow.holds Try.pinned (OpenSpec.upto fnApplyAllSpec)

/-- 'laws.FnSplitApp', WHERE WHAT IT READS IS OF BULK AT MOST 1048576: true; the input reads as it did. -/
def fnSplitAppUptoRow : OpenClaim := { program := "ytmioieikbpemoaa", sum := "9b15cc4b63f76cab59499e838083e27e842f576deb3254fdbeab3c197d404413", func := "loop.example/depkernel/laws.FnSplitApp", spec := "fnSplitApp", unfollowed := true, recurses := true, apart := false, narrowed := true }
def FnSplitAppUptoSaid : Prop := fnSplitAppUptoRow.holds Try.pinned (OpenSpec.upto fnSplitAppSpec)

/-- 'laws.FnSplitPi', WHERE WHAT IT READS IS OF BULK AT MOST 1048576: true; the input reads as it did. -/
def fnSplitPiUptoRow : OpenClaim := { program := "ytmioieikbpemoaa", sum := "9b15cc4b63f76cab59499e838083e27e842f576deb3254fdbeab3c197d404413", func := "loop.example/depkernel/laws.FnSplitPi", spec := "fnSplitPi", unfollowed := true, recurses := true, apart := false, narrowed := true }
def FnSplitPiUptoSaid : Prop := fnSplitPiUptoRow.holds Try.pinned (OpenSpec.upto fnSplitPiSpec)

/-- 'laws.FnTraceTerm', WHERE WHAT IT READS IS OF BULK AT MOST 1048576: true; the input reads as it did. -/
def fnTraceTermUptoRow : OpenClaim := { program := "ytmioieikbpemoaa", sum := "9b15cc4b63f76cab59499e838083e27e842f576deb3254fdbeab3c197d404413", func := "loop.example/depkernel/laws.FnTraceTerm", spec := "fnTraceTerm", unfollowed := true, recurses := true, apart := false, narrowed := true }
def FnTraceTermUptoSaid : Prop := fnTraceTermUptoRow.holds Try.pinned (OpenSpec.upto fnTraceTermSpec)

/-- 'laws.FnDevelopStep', WHERE WHAT IT READS IS OF BULK AT MOST 1048576: true; the input reads as it did. -/
def fnDevelopStepUptoRow : OpenClaim := { program := "ytmioieikbpemoaa", sum := "9b15cc4b63f76cab59499e838083e27e842f576deb3254fdbeab3c197d404413", func := "loop.example/depkernel/laws.FnDevelopStep", spec := "fnDevelopStep", unfollowed := true, recurses := true, apart := false, narrowed := true }
def FnDevelopStepUptoSaid : Prop := fnDevelopStepUptoRow.holds Try.pinned (OpenSpec.upto fnDevelopStepSpec)

/-- 'laws.FnDevelopTerm', WHERE WHAT IT READS IS OF BULK AT MOST 1048576: true; the input reads as it did. -/
def fnDevelopTermUptoRow : OpenClaim := { program := "ytmioieikbpemoaa", sum := "9b15cc4b63f76cab59499e838083e27e842f576deb3254fdbeab3c197d404413", func := "loop.example/depkernel/laws.FnDevelopTerm", spec := "fnDevelopTerm", unfollowed := true, recurses := true, apart := false, narrowed := true }
def FnDevelopTermUptoSaid : Prop := fnDevelopTermUptoRow.holds Try.pinned (OpenSpec.upto fnDevelopTermSpec)

/-- 'laws.FnTraceEnd', WHERE WHAT IT READS IS OF BULK AT MOST 1048576: true; the input reads as it did. -/
def fnTraceEndUptoRow : OpenClaim := { program := "ytmioieikbpemoaa", sum := "9b15cc4b63f76cab59499e838083e27e842f576deb3254fdbeab3c197d404413", func := "loop.example/depkernel/laws.FnTraceEnd", spec := "fnTraceEnd", unfollowed := true, recurses := true, apart := false, narrowed := true }
def FnTraceEndUptoSaid : Prop := fnTraceEndUptoRow.holds Try.pinned (OpenSpec.upto fnTraceEndSpec)

/-- 'laws.FnConvTrace', WHERE WHAT IT READS IS OF BULK AT MOST 1048576: true; the input reads as it did. -/
def fnConvTraceUptoRow : OpenClaim := { program := "ytmioieikbpemoaa", sum := "9b15cc4b63f76cab59499e838083e27e842f576deb3254fdbeab3c197d404413", func := "loop.example/depkernel/laws.FnConvTrace", spec := "fnConvTrace", unfollowed := true, recurses := true, apart := false, narrowed := true }
def FnConvTraceUptoSaid : Prop := fnConvTraceUptoRow.holds Try.pinned (OpenSpec.upto fnConvTraceSpec)

/-- 'laws.FnConvCongruent', WHERE WHAT IT READS IS OF BULK AT MOST 1048576: true; the input reads as it did. -/
def fnConvCongruentUptoRow : OpenClaim := { program := "ytmioieikbpemoaa", sum := "9b15cc4b63f76cab59499e838083e27e842f576deb3254fdbeab3c197d404413", func := "loop.example/depkernel/laws.FnConvCongruent", spec := "fnConvCongruent", unfollowed := true, recurses := true, apart := false, narrowed := true }
def FnConvCongruentUptoSaid : Prop := fnConvCongruentUptoRow.holds Try.pinned (OpenSpec.upto fnConvCongruentSpec)

/-- 'laws.FnConvTransitive', WHERE WHAT IT READS IS OF BULK AT MOST 1048576: true; the input reads as it did. -/
def fnConvTransitiveUptoRow : OpenClaim := { program := "ytmioieikbpemoaa", sum := "9b15cc4b63f76cab59499e838083e27e842f576deb3254fdbeab3c197d404413", func := "loop.example/depkernel/laws.FnConvTransitive", spec := "fnConvTransitive", unfollowed := true, recurses := true, apart := false, narrowed := true }
def FnConvTransitiveUptoSaid : Prop := fnConvTransitiveUptoRow.holds Try.pinned (OpenSpec.upto fnConvTransitiveSpec)

/-- 'laws.FnConvertible', WHERE WHAT IT READS IS OF BULK AT MOST 1048576: true; the input reads as it did. -/
def fnConvertibleUptoRow : OpenClaim := { program := "ytmioieikbpemoaa", sum := "9b15cc4b63f76cab59499e838083e27e842f576deb3254fdbeab3c197d404413", func := "loop.example/depkernel/laws.FnConvertible", spec := "fnConvertible", unfollowed := true, recurses := true, apart := false, narrowed := true }
def FnConvertibleUptoSaid : Prop := fnConvertibleUptoRow.holds Try.pinned (OpenSpec.upto fnConvertibleSpec)

end Rows
end Go.Proofs.Ytmioieikbpemoaa
