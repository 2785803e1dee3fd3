/-
  No cell of these rows narrows 'for every input' (looked for: loops, veiled, ifaces, maps, wideKeys, modest, calm, conditions, laid).
  DERIVED. THE GIVEN ROWS OF THIS SEAT. 16 by the template 'for every input the law returns true; each argument reads behind the call as it read before'; 0 by the template 'total and deterministic' (their statements: YtajlknlnmmbfcaaGreatTotals.lean).
  GIVEN WITH THE SEED: the statements are not yours to turn. If you find one false, say at which input.
  Laid BY PROGRAM, IN A SANDBOX (cutbox-rows.mjs): the forced cells as the released guide's own fill.sh prints them over the translation a0ba7cb695c1ae7f… (all of the seat's roots in one cut). By AI agents, Wed Nov 11 2026. No macro, syntax, notation, axiom, sorry.
-/
import Derived.Test.YtajlknlnmmbfcaaGreatChecked
import GoSem.Claim
import GoSem.ClaimJoined
import GoSem.ClaimMapViews
import Derived.JoinedTies
import Derived.KernelRfl
namespace Go.Proofs.YtajlknlnmmbfcaaGreat
/- THE CELL 'sum', in the pinned program and in every row, IS THE sha256 OF THE DUMP (.gsa) THAT YtajlknlnmmbfcaaGreatProg.lean LOADS. Nothing in Lean hashes anything: it is a label: what it is worth is what the hold of that sum in a sandbox is worth. -/
noncomputable def Tryz.pinned : Pinned := { name := "ytajlknlnmmbfcaagreat", sum := "a0ba7cb695c1ae7f0a9f6a4888fdea4046e2e1c3d8b935f3669981b947014d83", checked := Tryz.checked }
namespace Rows
def none {H : Type} : Left H := { results := [], args := [] }

/-- 'laws.FnTypeApply': WHATEVER THE INPUT: true; the input reads as it did. -/
def fnTypeApplySpec : ChangeSpec := { name := "fnTypeApply", fn := fun _ => fun
  | [d] => { results := [.lit (.bool true)], args := [d] }
  | _ => none }
def fnTypeApplyRow : OpenClaim := { program := "ytajlknlnmmbfcaagreat", sum := "a0ba7cb695c1ae7f0a9f6a4888fdea4046e2e1c3d8b935f3669981b947014d83", func := "loop.example/depkernel/laws.FnTypeApply", spec := "fnTypeApply", unfollowed := true, recurses := true, apart := false }
def FnTypeApplySaid : Prop := fnTypeApplyRow.holds Tryz.pinned (OpenSpec.ofChange fnTypeApplySpec)

/-- ITS FALSE NEIGHBOUR: 'it returns false'. Refute it at one input. -/
def fnTypeApplyWrong : ChangeSpec := { name := "fnTypeApply", fn := fun _ => fun
  | [d] => { results := [.lit (.bool false)], args := [d] }
  | _ => none }
def FnTypeApplyWrongFalsely : Prop := fnTypeApplyRow.holds Tryz.pinned (OpenSpec.ofChange fnTypeApplyWrong)

/-- 'laws.FnTypeClosed': WHATEVER THE INPUT: true; the input reads as it did. -/
def fnTypeClosedSpec : ChangeSpec := { name := "fnTypeClosed", fn := fun _ => fun
  | [d] => { results := [.lit (.bool true)], args := [d] }
  | _ => none }
def fnTypeClosedRow : OpenClaim := { program := "ytajlknlnmmbfcaagreat", sum := "a0ba7cb695c1ae7f0a9f6a4888fdea4046e2e1c3d8b935f3669981b947014d83", func := "loop.example/depkernel/laws.FnTypeClosed", spec := "fnTypeClosed", unfollowed := true, recurses := true, apart := false }
def FnTypeClosedSaid : Prop := fnTypeClosedRow.holds Tryz.pinned (OpenSpec.ofChange fnTypeClosedSpec)

/-- ITS FALSE NEIGHBOUR: 'it returns false'. Refute it at one input. -/
def fnTypeClosedWrong : ChangeSpec := { name := "fnTypeClosed", fn := fun _ => fun
  | [d] => { results := [.lit (.bool false)], args := [d] }
  | _ => none }
def FnTypeClosedWrongFalsely : Prop := fnTypeClosedRow.holds Tryz.pinned (OpenSpec.ofChange fnTypeClosedWrong)

/-- 'laws.FnLamApply': WHATEVER THE INPUT: true; the input reads as it did. -/
def fnLamApplySpec : ChangeSpec := { name := "fnLamApply", fn := fun _ => fun
  | [d] => { results := [.lit (.bool true)], args := [d] }
  | _ => none }
def fnLamApplyRow : OpenClaim := { program := "ytajlknlnmmbfcaagreat", sum := "a0ba7cb695c1ae7f0a9f6a4888fdea4046e2e1c3d8b935f3669981b947014d83", func := "loop.example/depkernel/laws.FnLamApply", spec := "fnLamApply", unfollowed := true, recurses := true, apart := false }
def FnLamApplySaid : Prop := fnLamApplyRow.holds Tryz.pinned (OpenSpec.ofChange fnLamApplySpec)

/-- ITS FALSE NEIGHBOUR: 'it returns false'. Refute it at one input. -/
def fnLamApplyWrong : ChangeSpec := { name := "fnLamApply", fn := fun _ => fun
  | [d] => { results := [.lit (.bool false)], args := [d] }
  | _ => none }
def FnLamApplyWrongFalsely : Prop := fnLamApplyRow.holds Tryz.pinned (OpenSpec.ofChange fnLamApplyWrong)

/-- 'laws.FnCheckContext': WHATEVER THE INPUT: true; the input reads as it did. -/
def fnCheckContextSpec : ChangeSpec := { name := "fnCheckContext", fn := fun _ => fun
  | [d] => { results := [.lit (.bool true)], args := [d] }
  | _ => none }
def fnCheckContextRow : OpenClaim := { program := "ytajlknlnmmbfcaagreat", sum := "a0ba7cb695c1ae7f0a9f6a4888fdea4046e2e1c3d8b935f3669981b947014d83", func := "loop.example/depkernel/laws.FnCheckContext", spec := "fnCheckContext", unfollowed := true, recurses := true, apart := false }
def FnCheckContextSaid : Prop := fnCheckContextRow.holds Tryz.pinned (OpenSpec.ofChange fnCheckContextSpec)

/-- ITS FALSE NEIGHBOUR: 'it returns false'. Refute it at one input. -/
def fnCheckContextWrong : ChangeSpec := { name := "fnCheckContext", fn := fun _ => fun
  | [d] => { results := [.lit (.bool false)], args := [d] }
  | _ => none }
def FnCheckContextWrongFalsely : Prop := fnCheckContextRow.holds Tryz.pinned (OpenSpec.ofChange fnCheckContextWrong)

/-- 'laws.FnTypeVar': WHATEVER THE INPUT: true; the input reads as it did. -/
def fnTypeVarSpec : ChangeSpec := { name := "fnTypeVar", fn := fun _ => fun
  | [d1, d2] => { results := [.lit (.bool true)], args := [d1, d2] }
  | _ => none }
def fnTypeVarRow : OpenClaim := { program := "ytajlknlnmmbfcaagreat", sum := "a0ba7cb695c1ae7f0a9f6a4888fdea4046e2e1c3d8b935f3669981b947014d83", func := "loop.example/depkernel/laws.FnTypeVar", spec := "fnTypeVar", unfollowed := true, recurses := true, apart := false }
def FnTypeVarSaid : Prop := fnTypeVarRow.holds Tryz.pinned (OpenSpec.ofChange fnTypeVarSpec)

/-- ITS FALSE NEIGHBOUR: 'it returns false'. Refute it at one input. -/
def fnTypeVarWrong : ChangeSpec := { name := "fnTypeVar", fn := fun _ => fun
  | [d1, d2] => { results := [.lit (.bool false)], args := [d1, d2] }
  | _ => none }
def FnTypeVarWrongFalsely : Prop := fnTypeVarRow.holds Tryz.pinned (OpenSpec.ofChange fnTypeVarWrong)

/-- 'laws.FnTypeNormal': WHATEVER THE INPUT: true; the input reads as it did. -/
def fnTypeNormalSpec : ChangeSpec := { name := "fnTypeNormal", fn := fun _ => fun
  | [d] => { results := [.lit (.bool true)], args := [d] }
  | _ => none }
def fnTypeNormalRow : OpenClaim := { program := "ytajlknlnmmbfcaagreat", sum := "a0ba7cb695c1ae7f0a9f6a4888fdea4046e2e1c3d8b935f3669981b947014d83", func := "loop.example/depkernel/laws.FnTypeNormal", spec := "fnTypeNormal", unfollowed := true, recurses := true, apart := false }
def FnTypeNormalSaid : Prop := fnTypeNormalRow.holds Tryz.pinned (OpenSpec.ofChange fnTypeNormalSpec)

/-- ITS FALSE NEIGHBOUR: 'it returns false'. Refute it at one input. -/
def fnTypeNormalWrong : ChangeSpec := { name := "fnTypeNormal", fn := fun _ => fun
  | [d] => { results := [.lit (.bool false)], args := [d] }
  | _ => none }
def FnTypeNormalWrongFalsely : Prop := fnTypeNormalRow.holds Tryz.pinned (OpenSpec.ofChange fnTypeNormalWrong)

/-- 'laws.FnTypeWeaken': WHATEVER THE INPUT: true; the input reads as it did. -/
def fnTypeWeakenSpec : ChangeSpec := { name := "fnTypeWeaken", fn := fun _ => fun
  | [d] => { results := [.lit (.bool true)], args := [d] }
  | _ => none }
def fnTypeWeakenRow : OpenClaim := { program := "ytajlknlnmmbfcaagreat", sum := "a0ba7cb695c1ae7f0a9f6a4888fdea4046e2e1c3d8b935f3669981b947014d83", func := "loop.example/depkernel/laws.FnTypeWeaken", spec := "fnTypeWeaken", unfollowed := true, recurses := true, apart := false }
def FnTypeWeakenSaid : Prop := fnTypeWeakenRow.holds Tryz.pinned (OpenSpec.ofChange fnTypeWeakenSpec)

/-- ITS FALSE NEIGHBOUR: 'it returns false'. Refute it at one input. -/
def fnTypeWeakenWrong : ChangeSpec := { name := "fnTypeWeaken", fn := fun _ => fun
  | [d] => { results := [.lit (.bool false)], args := [d] }
  | _ => none }
def FnTypeWeakenWrongFalsely : Prop := fnTypeWeakenRow.holds Tryz.pinned (OpenSpec.ofChange fnTypeWeakenWrong)

/-- 'laws.FnTypeOfType': WHATEVER THE INPUT: true; the input reads as it did. -/
def fnTypeOfTypeSpec : ChangeSpec := { name := "fnTypeOfType", fn := fun _ => fun
  | [d] => { results := [.lit (.bool true)], args := [d] }
  | _ => none }
def fnTypeOfTypeRow : OpenClaim := { program := "ytajlknlnmmbfcaagreat", sum := "a0ba7cb695c1ae7f0a9f6a4888fdea4046e2e1c3d8b935f3669981b947014d83", func := "loop.example/depkernel/laws.FnTypeOfType", spec := "fnTypeOfType", unfollowed := true, recurses := true, apart := false }
def FnTypeOfTypeSaid : Prop := fnTypeOfTypeRow.holds Tryz.pinned (OpenSpec.ofChange fnTypeOfTypeSpec)

/-- ITS FALSE NEIGHBOUR: 'it returns false'. Refute it at one input. -/
def fnTypeOfTypeWrong : ChangeSpec := { name := "fnTypeOfType", fn := fun _ => fun
  | [d] => { results := [.lit (.bool false)], args := [d] }
  | _ => none }
def FnTypeOfTypeWrongFalsely : Prop := fnTypeOfTypeRow.holds Tryz.pinned (OpenSpec.ofChange fnTypeOfTypeWrong)

/-- 'laws.FnTypeStep': WHATEVER THE INPUT: true; the input reads as it did. -/
def fnTypeStepSpec : ChangeSpec := { name := "fnTypeStep", fn := fun _ => fun
  | [d] => { results := [.lit (.bool true)], args := [d] }
  | _ => none }
def fnTypeStepRow : OpenClaim := { program := "ytajlknlnmmbfcaagreat", sum := "a0ba7cb695c1ae7f0a9f6a4888fdea4046e2e1c3d8b935f3669981b947014d83", func := "loop.example/depkernel/laws.FnTypeStep", spec := "fnTypeStep", unfollowed := true, recurses := true, apart := false }
def FnTypeStepSaid : Prop := fnTypeStepRow.holds Tryz.pinned (OpenSpec.ofChange fnTypeStepSpec)

/-- ITS FALSE NEIGHBOUR: 'it returns false'. Refute it at one input. -/
def fnTypeStepWrong : ChangeSpec := { name := "fnTypeStep", fn := fun _ => fun
  | [d] => { results := [.lit (.bool false)], args := [d] }
  | _ => none }
def FnTypeStepWrongFalsely : Prop := fnTypeStepRow.holds Tryz.pinned (OpenSpec.ofChange fnTypeStepWrong)

/-- 'laws.FnTypeSucc': WHATEVER THE INPUT: true; the input reads as it did. -/
def fnTypeSuccSpec : ChangeSpec := { name := "fnTypeSucc", fn := fun _ => fun
  | [d] => { results := [.lit (.bool true)], args := [d] }
  | _ => none }
def fnTypeSuccRow : OpenClaim := { program := "ytajlknlnmmbfcaagreat", sum := "a0ba7cb695c1ae7f0a9f6a4888fdea4046e2e1c3d8b935f3669981b947014d83", func := "loop.example/depkernel/laws.FnTypeSucc", spec := "fnTypeSucc", unfollowed := true, recurses := true, apart := false }
def FnTypeSuccSaid : Prop := fnTypeSuccRow.holds Tryz.pinned (OpenSpec.ofChange fnTypeSuccSpec)

/-- ITS FALSE NEIGHBOUR: 'it returns false'. Refute it at one input. -/
def fnTypeSuccWrong : ChangeSpec := { name := "fnTypeSucc", fn := fun _ => fun
  | [d] => { results := [.lit (.bool false)], args := [d] }
  | _ => none }
def FnTypeSuccWrongFalsely : Prop := fnTypeSuccRow.holds Tryz.pinned (OpenSpec.ofChange fnTypeSuccWrong)

/-- 'laws.FnTypeParts': WHATEVER THE INPUT: true; the input reads as it did. -/
def fnTypePartsSpec : ChangeSpec := { name := "fnTypeParts", fn := fun _ => fun
  | [d] => { results := [.lit (.bool true)], args := [d] }
  | _ => none }
def fnTypePartsRow : OpenClaim := { program := "ytajlknlnmmbfcaagreat", sum := "a0ba7cb695c1ae7f0a9f6a4888fdea4046e2e1c3d8b935f3669981b947014d83", func := "loop.example/depkernel/laws.FnTypeParts", spec := "fnTypeParts", unfollowed := true, recurses := true, apart := false }
def FnTypePartsSaid : Prop := fnTypePartsRow.holds Tryz.pinned (OpenSpec.ofChange fnTypePartsSpec)

/-- ITS FALSE NEIGHBOUR: 'it returns false'. Refute it at one input. -/
def fnTypePartsWrong : ChangeSpec := { name := "fnTypeParts", fn := fun _ => fun
  | [d] => { results := [.lit (.bool false)], args := [d] }
  | _ => none }
def FnTypePartsWrongFalsely : Prop := fnTypePartsRow.holds Tryz.pinned (OpenSpec.ofChange fnTypePartsWrong)

/-- 'laws.FnTypeInner': WHATEVER THE INPUT: true; the input reads as it did. -/
def fnTypeInnerSpec : ChangeSpec := { name := "fnTypeInner", fn := fun _ => fun
  | [d] => { results := [.lit (.bool true)], args := [d] }
  | _ => none }
def fnTypeInnerRow : OpenClaim := { program := "ytajlknlnmmbfcaagreat", sum := "a0ba7cb695c1ae7f0a9f6a4888fdea4046e2e1c3d8b935f3669981b947014d83", func := "loop.example/depkernel/laws.FnTypeInner", spec := "fnTypeInner", unfollowed := true, recurses := true, apart := false }
def FnTypeInnerSaid : Prop := fnTypeInnerRow.holds Tryz.pinned (OpenSpec.ofChange fnTypeInnerSpec)

/-- ITS FALSE NEIGHBOUR: 'it returns false'. Refute it at one input. -/
def fnTypeInnerWrong : ChangeSpec := { name := "fnTypeInner", fn := fun _ => fun
  | [d] => { results := [.lit (.bool false)], args := [d] }
  | _ => none }
def FnTypeInnerWrongFalsely : Prop := fnTypeInnerRow.holds Tryz.pinned (OpenSpec.ofChange fnTypeInnerWrong)

/-- 'laws.FnTypeSubst': WHATEVER THE INPUT: true; the input reads as it did. -/
def fnTypeSubstSpec : ChangeSpec := { name := "fnTypeSubst", fn := fun _ => fun
  | [d1, d2] => { results := [.lit (.bool true)], args := [d1, d2] }
  | _ => none }
def fnTypeSubstRow : OpenClaim := { program := "ytajlknlnmmbfcaagreat", sum := "a0ba7cb695c1ae7f0a9f6a4888fdea4046e2e1c3d8b935f3669981b947014d83", func := "loop.example/depkernel/laws.FnTypeSubst", spec := "fnTypeSubst", unfollowed := true, recurses := true, apart := false }
def FnTypeSubstSaid : Prop := fnTypeSubstRow.holds Tryz.pinned (OpenSpec.ofChange fnTypeSubstSpec)

/-- ITS FALSE NEIGHBOUR: 'it returns false'. Refute it at one input. -/
def fnTypeSubstWrong : ChangeSpec := { name := "fnTypeSubst", fn := fun _ => fun
  | [d1, d2] => { results := [.lit (.bool false)], args := [d1, d2] }
  | _ => none }
def FnTypeSubstWrongFalsely : Prop := fnTypeSubstRow.holds Tryz.pinned (OpenSpec.ofChange fnTypeSubstWrong)

/-- 'laws.FnTypePi': WHATEVER THE INPUT: true; the input reads as it did. -/
def fnTypePiSpec : ChangeSpec := { name := "fnTypePi", fn := fun _ => fun
  | [d] => { results := [.lit (.bool true)], args := [d] }
  | _ => none }
def fnTypePiRow : OpenClaim := { program := "ytajlknlnmmbfcaagreat", sum := "a0ba7cb695c1ae7f0a9f6a4888fdea4046e2e1c3d8b935f3669981b947014d83", func := "loop.example/depkernel/laws.FnTypePi", spec := "fnTypePi", unfollowed := true, recurses := true, apart := false }
def FnTypePiSaid : Prop := fnTypePiRow.holds Tryz.pinned (OpenSpec.ofChange fnTypePiSpec)

/-- ITS FALSE NEIGHBOUR: 'it returns false'. Refute it at one input. -/
def fnTypePiWrong : ChangeSpec := { name := "fnTypePi", fn := fun _ => fun
  | [d] => { results := [.lit (.bool false)], args := [d] }
  | _ => none }
def FnTypePiWrongFalsely : Prop := fnTypePiRow.holds Tryz.pinned (OpenSpec.ofChange fnTypePiWrong)

/-- 'laws.FnSortOf': WHATEVER THE INPUT: true; the input reads as it did. -/
def fnSortOfSpec : ChangeSpec := { name := "fnSortOf", fn := fun _ => fun
  | [d] => { results := [.lit (.bool true)], args := [d] }
  | _ => none }
def fnSortOfRow : OpenClaim := { program := "ytajlknlnmmbfcaagreat", sum := "a0ba7cb695c1ae7f0a9f6a4888fdea4046e2e1c3d8b935f3669981b947014d83", func := "loop.example/depkernel/laws.FnSortOf", spec := "fnSortOf", unfollowed := true, recurses := true, apart := false }
def FnSortOfSaid : Prop := fnSortOfRow.holds Tryz.pinned (OpenSpec.ofChange fnSortOfSpec)

/-- ITS FALSE NEIGHBOUR: 'it returns false'. Refute it at one input. -/
def fnSortOfWrong : ChangeSpec := { name := "fnSortOf", fn := fun _ => fun
  | [d] => { results := [.lit (.bool false)], args := [d] }
  | _ => none }
def FnSortOfWrongFalsely : Prop := fnSortOfRow.holds Tryz.pinned (OpenSpec.ofChange fnSortOfWrong)

/-- 'laws.FnCheckType': WHATEVER THE INPUT: true; the input reads as it did. -/
def fnCheckTypeSpec : ChangeSpec := { name := "fnCheckType", fn := fun _ => fun
  | [d] => { results := [.lit (.bool true)], args := [d] }
  | _ => none }
def fnCheckTypeRow : OpenClaim := { program := "ytajlknlnmmbfcaagreat", sum := "a0ba7cb695c1ae7f0a9f6a4888fdea4046e2e1c3d8b935f3669981b947014d83", func := "loop.example/depkernel/laws.FnCheckType", spec := "fnCheckType", unfollowed := true, recurses := true, apart := false }
def FnCheckTypeSaid : Prop := fnCheckTypeRow.holds Tryz.pinned (OpenSpec.ofChange fnCheckTypeSpec)

/-- ITS FALSE NEIGHBOUR: 'it returns false'. Refute it at one input. -/
def fnCheckTypeWrong : ChangeSpec := { name := "fnCheckType", fn := fun _ => fun
  | [d] => { results := [.lit (.bool false)], args := [d] }
  | _ => none }
def FnCheckTypeWrongFalsely : Prop := fnCheckTypeRow.holds Tryz.pinned (OpenSpec.ofChange fnCheckTypeWrong)

/- THE SECOND FORM. 'bulk': how many values and letters a reading holds, each counted each time it is reached (what is shared counts as often as it is met; a slice's spare places count too). A statement '..UptoSaid' is the law's where the arguments, and the package variables that the reading takes, are together of bulk at most 1048576: NARROWER than '..Said'. Prove '..Said' where nothing that the law and all that it calls make is longer than what came in: it says more and counts as full. Else prove '..UptoSaid'. A law counts once. -/
mutual
def uptoBulk {H : Type} : DataW H → Nat
  | .lit (.string bytes) => bytes.length + 1
  | .lit _ => 1
  | .nil => 1
  | .ptr d => uptoBulk d + 1
  | .slice elems spare => uptoBulkAll elems + uptoBulkAll spare + 1
  | .agg parts => uptoBulkAll parts + 1
  | .iface _ d => uptoBulk d + 1
  | .map entries => uptoBulkEntries entries + 1
  | .held _ => 1
def uptoBulkAll {H : Type} : List (DataW H) → Nat
  | [] => 0
  | d :: r => uptoBulk d + uptoBulkAll r
def uptoBulkEntries {H : Type} : List (Lit × DataW H) → Nat
  | [] => 0
  | x :: r => uptoBulkEntry x + uptoBulkEntries r
def uptoBulkEntry {H : Type} : Lit × DataW H → Nat
  | (.string bytes, d) => bytes.length + uptoBulk d + 1
  | (_, d) => uptoBulk d + 1
 end
def uptoSmall : (H : Type) → List (DataW H) → Bool := fun _ ds => decide (uptoBulkAll ds ≤ 1048576)
def OpenSpec.upto (s : _root_.Go.ChangeSpec) : _root_.Go.OpenSpec := { _root_.Go.OpenSpec.ofChange s with cond := some uptoSmall }

/-- 'laws.FnTypeApply', WHERE WHAT IT READS IS OF BULK AT MOST 1048576: true; the input reads as it did. -/
def fnTypeApplyUptoRow : OpenClaim := { program := "ytajlknlnmmbfcaagreat", sum := "a0ba7cb695c1ae7f0a9f6a4888fdea4046e2e1c3d8b935f3669981b947014d83", func := "loop.example/depkernel/laws.FnTypeApply", spec := "fnTypeApply", unfollowed := true, recurses := true, apart := false, narrowed := true }
def FnTypeApplyUptoSaid : Prop := fnTypeApplyUptoRow.holds Tryz.pinned (OpenSpec.upto fnTypeApplySpec)

/-- 'laws.FnTypeClosed', WHERE WHAT IT READS IS OF BULK AT MOST 1048576: true; the input reads as it did. -/
def fnTypeClosedUptoRow : OpenClaim := { program := "ytajlknlnmmbfcaagreat", sum := "a0ba7cb695c1ae7f0a9f6a4888fdea4046e2e1c3d8b935f3669981b947014d83", func := "loop.example/depkernel/laws.FnTypeClosed", spec := "fnTypeClosed", unfollowed := true, recurses := true, apart := false, narrowed := true }
def FnTypeClosedUptoSaid : Prop := fnTypeClosedUptoRow.holds Tryz.pinned (OpenSpec.upto fnTypeClosedSpec)

/-- 'laws.FnLamApply', WHERE WHAT IT READS IS OF BULK AT MOST 1048576: true; the input reads as it did. -/
def fnLamApplyUptoRow : OpenClaim := { program := "ytajlknlnmmbfcaagreat", sum := "a0ba7cb695c1ae7f0a9f6a4888fdea4046e2e1c3d8b935f3669981b947014d83", func := "loop.example/depkernel/laws.FnLamApply", spec := "fnLamApply", unfollowed := true, recurses := true, apart := false, narrowed := true }
def FnLamApplyUptoSaid : Prop := fnLamApplyUptoRow.holds Tryz.pinned (OpenSpec.upto fnLamApplySpec)

/-- 'laws.FnCheckContext', WHERE WHAT IT READS IS OF BULK AT MOST 1048576: true; the input reads as it did. -/
def fnCheckContextUptoRow : OpenClaim := { program := "ytajlknlnmmbfcaagreat", sum := "a0ba7cb695c1ae7f0a9f6a4888fdea4046e2e1c3d8b935f3669981b947014d83", func := "loop.example/depkernel/laws.FnCheckContext", spec := "fnCheckContext", unfollowed := true, recurses := true, apart := false, narrowed := true }
def FnCheckContextUptoSaid : Prop := fnCheckContextUptoRow.holds Tryz.pinned (OpenSpec.upto fnCheckContextSpec)

/-- 'laws.FnTypeVar', WHERE WHAT IT READS IS OF BULK AT MOST 1048576: true; the input reads as it did. -/
def fnTypeVarUptoRow : OpenClaim := { program := "ytajlknlnmmbfcaagreat", sum := "a0ba7cb695c1ae7f0a9f6a4888fdea4046e2e1c3d8b935f3669981b947014d83", func := "loop.example/depkernel/laws.FnTypeVar", spec := "fnTypeVar", unfollowed := true, recurses := true, apart := false, narrowed := true }
def FnTypeVarUptoSaid : Prop := fnTypeVarUptoRow.holds Tryz.pinned (OpenSpec.upto fnTypeVarSpec)

/-- 'laws.FnTypeNormal', WHERE WHAT IT READS IS OF BULK AT MOST 1048576: true; the input reads as it did. -/
def fnTypeNormalUptoRow : OpenClaim := { program := "ytajlknlnmmbfcaagreat", sum := "a0ba7cb695c1ae7f0a9f6a4888fdea4046e2e1c3d8b935f3669981b947014d83", func := "loop.example/depkernel/laws.FnTypeNormal", spec := "fnTypeNormal", unfollowed := true, recurses := true, apart := false, narrowed := true }
def FnTypeNormalUptoSaid : Prop := fnTypeNormalUptoRow.holds Tryz.pinned (OpenSpec.upto fnTypeNormalSpec)

/-- 'laws.FnTypeWeaken', WHERE WHAT IT READS IS OF BULK AT MOST 1048576: true; the input reads as it did. -/
def fnTypeWeakenUptoRow : OpenClaim := { program := "ytajlknlnmmbfcaagreat", sum := "a0ba7cb695c1ae7f0a9f6a4888fdea4046e2e1c3d8b935f3669981b947014d83", func := "loop.example/depkernel/laws.FnTypeWeaken", spec := "fnTypeWeaken", unfollowed := true, recurses := true, apart := false, narrowed := true }
def FnTypeWeakenUptoSaid : Prop := fnTypeWeakenUptoRow.holds Tryz.pinned (OpenSpec.upto fnTypeWeakenSpec)

/-- 'laws.FnTypeOfType', WHERE WHAT IT READS IS OF BULK AT MOST 1048576: true; the input reads as it did. -/
def fnTypeOfTypeUptoRow : OpenClaim := { program := "ytajlknlnmmbfcaagreat", sum := "a0ba7cb695c1ae7f0a9f6a4888fdea4046e2e1c3d8b935f3669981b947014d83", func := "loop.example/depkernel/laws.FnTypeOfType", spec := "fnTypeOfType", unfollowed := true, recurses := true, apart := false, narrowed := true }
def FnTypeOfTypeUptoSaid : Prop := fnTypeOfTypeUptoRow.holds Tryz.pinned (OpenSpec.upto fnTypeOfTypeSpec)

/-- 'laws.FnTypeStep', WHERE WHAT IT READS IS OF BULK AT MOST 1048576: true; the input reads as it did. -/
def fnTypeStepUptoRow : OpenClaim := { program := "ytajlknlnmmbfcaagreat", sum := "a0ba7cb695c1ae7f0a9f6a4888fdea4046e2e1c3d8b935f3669981b947014d83", func := "loop.example/depkernel/laws.FnTypeStep", spec := "fnTypeStep", unfollowed := true, recurses := true, apart := false, narrowed := true }
def FnTypeStepUptoSaid : Prop := fnTypeStepUptoRow.holds Tryz.pinned (OpenSpec.upto fnTypeStepSpec)

/-- 'laws.FnTypeSucc', WHERE WHAT IT READS IS OF BULK AT MOST 1048576: true; the input reads as it did. -/
def fnTypeSuccUptoRow : OpenClaim := { program := "ytajlknlnmmbfcaagreat", sum := "a0ba7cb695c1ae7f0a9f6a4888fdea4046e2e1c3d8b935f3669981b947014d83", func := "loop.example/depkernel/laws.FnTypeSucc", spec := "fnTypeSucc", unfollowed := true, recurses := true, apart := false, narrowed := true }
def FnTypeSuccUptoSaid : Prop := fnTypeSuccUptoRow.holds Tryz.pinned (OpenSpec.upto fnTypeSuccSpec)

/-- 'laws.FnTypeParts', WHERE WHAT IT READS IS OF BULK AT MOST 1048576: true; the input reads as it did. -/
def fnTypePartsUptoRow : OpenClaim := { program := "ytajlknlnmmbfcaagreat", sum := "a0ba7cb695c1ae7f0a9f6a4888fdea4046e2e1c3d8b935f3669981b947014d83", func := "loop.example/depkernel/laws.FnTypeParts", spec := "fnTypeParts", unfollowed := true, recurses := true, apart := false, narrowed := true }
def FnTypePartsUptoSaid : Prop := fnTypePartsUptoRow.holds Tryz.pinned (OpenSpec.upto fnTypePartsSpec)

/-- 'laws.FnTypeInner', WHERE WHAT IT READS IS OF BULK AT MOST 1048576: true; the input reads as it did. -/
def fnTypeInnerUptoRow : OpenClaim := { program := "ytajlknlnmmbfcaagreat", sum := "a0ba7cb695c1ae7f0a9f6a4888fdea4046e2e1c3d8b935f3669981b947014d83", func := "loop.example/depkernel/laws.FnTypeInner", spec := "fnTypeInner", unfollowed := true, recurses := true, apart := false, narrowed := true }
def FnTypeInnerUptoSaid : Prop := fnTypeInnerUptoRow.holds Tryz.pinned (OpenSpec.upto fnTypeInnerSpec)

/-- 'laws.FnTypeSubst', WHERE WHAT IT READS IS OF BULK AT MOST 1048576: true; the input reads as it did. -/
def fnTypeSubstUptoRow : OpenClaim := { program := "ytajlknlnmmbfcaagreat", sum := "a0ba7cb695c1ae7f0a9f6a4888fdea4046e2e1c3d8b935f3669981b947014d83", func := "loop.example/depkernel/laws.FnTypeSubst", spec := "fnTypeSubst", unfollowed := true, recurses := true, apart := false, narrowed := true }
def FnTypeSubstUptoSaid : Prop := fnTypeSubstUptoRow.holds Tryz.pinned (OpenSpec.upto fnTypeSubstSpec)

/-- 'laws.FnTypePi', WHERE WHAT IT READS IS OF BULK AT MOST 1048576: true; the input reads as it did. -/
def fnTypePiUptoRow : OpenClaim := { program := "ytajlknlnmmbfcaagreat", sum := "a0ba7cb695c1ae7f0a9f6a4888fdea4046e2e1c3d8b935f3669981b947014d83", func := "loop.example/depkernel/laws.FnTypePi", spec := "fnTypePi", unfollowed := true, recurses := true, apart := false, narrowed := true }
def FnTypePiUptoSaid : Prop := fnTypePiUptoRow.holds Tryz.pinned (OpenSpec.upto fnTypePiSpec)

/-- 'laws.FnSortOf', WHERE WHAT IT READS IS OF BULK AT MOST 1048576: true; the input reads as it did. -/
def fnSortOfUptoRow : OpenClaim := { program := "ytajlknlnmmbfcaagreat", sum := "a0ba7cb695c1ae7f0a9f6a4888fdea4046e2e1c3d8b935f3669981b947014d83", func := "loop.example/depkernel/laws.FnSortOf", spec := "fnSortOf", unfollowed := true, recurses := true, apart := false, narrowed := true }
def FnSortOfUptoSaid : Prop := fnSortOfUptoRow.holds Tryz.pinned (OpenSpec.upto fnSortOfSpec)

/-- 'laws.FnCheckType', WHERE WHAT IT READS IS OF BULK AT MOST 1048576: true; the input reads as it did. -/
def fnCheckTypeUptoRow : OpenClaim := { program := "ytajlknlnmmbfcaagreat", sum := "a0ba7cb695c1ae7f0a9f6a4888fdea4046e2e1c3d8b935f3669981b947014d83", func := "loop.example/depkernel/laws.FnCheckType", spec := "fnCheckType", unfollowed := true, recurses := true, apart := false, narrowed := true }
def FnCheckTypeUptoSaid : Prop := fnCheckTypeUptoRow.holds Tryz.pinned (OpenSpec.upto fnCheckTypeSpec)

end Rows
end Go.Proofs.YtajlknlnmmbfcaaGreat
