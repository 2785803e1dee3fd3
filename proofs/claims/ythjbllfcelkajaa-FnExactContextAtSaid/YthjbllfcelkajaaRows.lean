/-
  NARROWER THAN 'FOR EVERY INPUT', by the rows' own cells (each row's printed sentence says how): FnExactSplitApp: loops · FnExactSplitPi: loops · FnExactBindersAt: loops · FnExactApplyAll: loops · FnExactLamOver: loops · FnExactPiOver: loops · FnExactTermAt: loops · FnExactPlacesOf: loops · FnExactRedexPlaces: loops · FnExactContextAt: loops · FnExactPutAt: loops · FnExactContractAt: loops.
  DERIVED. THE GIVEN ROWS OF THIS SEAT. 13 by the template 'for every input the law returns true; each argument reads behind the call as it read before'; 0 by the template 'total and deterministic' (their statements: YthjbllfcelkajaaTotals.lean).
  GIVEN WITH THE SEED: the statements are not yours to turn. If you find one false, say at which input.
  Laid BY PROGRAM, IN A SANDBOX (cutbox-rows.mjs): the forced cells as the released guide's own fill.sh prints them over the translation 122fd35c5127d0b7… (all of the seat's roots in one cut). By AI agents, Wed Nov 11 2026. No macro, syntax, notation, axiom, sorry.
-/
import Derived.Test.YthjbllfcelkajaaChecked
import GoSem.Claim
import GoSem.ClaimJoined
import GoSem.ClaimMapViews
import Derived.JoinedTies
import Derived.KernelRfl
namespace Go.Proofs.Ythjbllfcelkajaa
/- THE CELL 'sum', in the pinned program and in every row, IS THE sha256 OF THE DUMP (.gsa) THAT YthjbllfcelkajaaProg.lean LOADS. Nothing in Lean hashes anything: it is a label: what it is worth is what the hold of that sum in a sandbox is worth. -/
noncomputable def Try.pinned : Pinned := { name := "ythjbllfcelkajaa", sum := "122fd35c5127d0b7fcf74f097bfda8899d4e0b978ca50a59d440cd9a71b5fb31", checked := Try.checked }
namespace Rows
def none {H : Type} : Left H := { results := [], args := [] }

/-- 'laws.FnExactContextVars': WHATEVER THE INPUT: true; the input reads as it did. -/
def fnExactContextVarsSpec : ChangeSpec := { name := "fnExactContextVars", fn := fun _ => fun
  | [d] => { results := [.lit (.bool true)], args := [d] }
  | _ => none }
def fnExactContextVarsRow : OpenClaim := { program := "ythjbllfcelkajaa", sum := "122fd35c5127d0b7fcf74f097bfda8899d4e0b978ca50a59d440cd9a71b5fb31", func := "loop.example/depkernel/laws.FnExactContextVars", spec := "fnExactContextVars", recurses := true, apart := false }
def FnExactContextVarsSaid : Prop := fnExactContextVarsRow.holds Try.pinned (OpenSpec.ofChange fnExactContextVarsSpec)

/-- ITS FALSE NEIGHBOUR: 'it returns false'. Refute it at one input. -/
def fnExactContextVarsWrong : ChangeSpec := { name := "fnExactContextVars", fn := fun _ => fun
  | [d] => { results := [.lit (.bool false)], args := [d] }
  | _ => none }
def FnExactContextVarsWrongFalsely : Prop := fnExactContextVarsRow.holds Try.pinned (OpenSpec.ofChange fnExactContextVarsWrong)

/-- 'laws.FnExactSplitApp': WHATEVER THE INPUT: true; the input reads as it did. -/
def fnExactSplitAppSpec : ChangeSpec := { name := "fnExactSplitApp", fn := fun _ => fun
  | [d] => { results := [.lit (.bool true)], args := [d] }
  | _ => none }
def fnExactSplitAppRow : OpenClaim := { program := "ythjbllfcelkajaa", sum := "122fd35c5127d0b7fcf74f097bfda8899d4e0b978ca50a59d440cd9a71b5fb31", func := "loop.example/depkernel/laws.FnExactSplitApp", spec := "fnExactSplitApp", recurses := true, loops := true, apart := false }
def FnExactSplitAppSaid : Prop := fnExactSplitAppRow.holds Try.pinned (OpenSpec.ofChange fnExactSplitAppSpec)

/-- ITS FALSE NEIGHBOUR: 'it returns false'. Refute it at one input. -/
def fnExactSplitAppWrong : ChangeSpec := { name := "fnExactSplitApp", fn := fun _ => fun
  | [d] => { results := [.lit (.bool false)], args := [d] }
  | _ => none }
def FnExactSplitAppWrongFalsely : Prop := fnExactSplitAppRow.holds Try.pinned (OpenSpec.ofChange fnExactSplitAppWrong)

/-- 'laws.FnExactSplitPi': WHATEVER THE INPUT: true; the input reads as it did. -/
def fnExactSplitPiSpec : ChangeSpec := { name := "fnExactSplitPi", fn := fun _ => fun
  | [d1, d2] => { results := [.lit (.bool true)], args := [d1, d2] }
  | _ => none }
def fnExactSplitPiRow : OpenClaim := { program := "ythjbllfcelkajaa", sum := "122fd35c5127d0b7fcf74f097bfda8899d4e0b978ca50a59d440cd9a71b5fb31", func := "loop.example/depkernel/laws.FnExactSplitPi", spec := "fnExactSplitPi", recurses := true, loops := true, apart := false }
def FnExactSplitPiSaid : Prop := fnExactSplitPiRow.holds Try.pinned (OpenSpec.ofChange fnExactSplitPiSpec)

/-- ITS FALSE NEIGHBOUR: 'it returns false'. Refute it at one input. -/
def fnExactSplitPiWrong : ChangeSpec := { name := "fnExactSplitPi", fn := fun _ => fun
  | [d1, d2] => { results := [.lit (.bool false)], args := [d1, d2] }
  | _ => none }
def FnExactSplitPiWrongFalsely : Prop := fnExactSplitPiRow.holds Try.pinned (OpenSpec.ofChange fnExactSplitPiWrong)

/-- 'laws.FnExactBindersAt': WHATEVER THE INPUT: true; the input reads as it did. -/
def fnExactBindersAtSpec : ChangeSpec := { name := "fnExactBindersAt", fn := fun _ => fun
  | [d1, d2] => { results := [.lit (.bool true)], args := [d1, d2] }
  | _ => none }
def fnExactBindersAtRow : OpenClaim := { program := "ythjbllfcelkajaa", sum := "122fd35c5127d0b7fcf74f097bfda8899d4e0b978ca50a59d440cd9a71b5fb31", func := "loop.example/depkernel/laws.FnExactBindersAt", spec := "fnExactBindersAt", recurses := true, loops := true, apart := false }
def FnExactBindersAtSaid : Prop := fnExactBindersAtRow.holds Try.pinned (OpenSpec.ofChange fnExactBindersAtSpec)

/-- ITS FALSE NEIGHBOUR: 'it returns false'. Refute it at one input. -/
def fnExactBindersAtWrong : ChangeSpec := { name := "fnExactBindersAt", fn := fun _ => fun
  | [d1, d2] => { results := [.lit (.bool false)], args := [d1, d2] }
  | _ => none }
def FnExactBindersAtWrongFalsely : Prop := fnExactBindersAtRow.holds Try.pinned (OpenSpec.ofChange fnExactBindersAtWrong)

/-- 'laws.FnExactApplyAll': WHATEVER THE INPUT: true; the input reads as it did. -/
def fnExactApplyAllSpec : ChangeSpec := { name := "fnExactApplyAll", fn := fun _ => fun
  | [d1, d2] => { results := [.lit (.bool true)], args := [d1, d2] }
  | _ => none }
def fnExactApplyAllRow : OpenClaim := { program := "ythjbllfcelkajaa", sum := "122fd35c5127d0b7fcf74f097bfda8899d4e0b978ca50a59d440cd9a71b5fb31", func := "loop.example/depkernel/laws.FnExactApplyAll", spec := "fnExactApplyAll", unfollowed := true, recurses := true, loops := true, apart := false }
def FnExactApplyAllSaid : Prop := fnExactApplyAllRow.holds Try.pinned (OpenSpec.ofChange fnExactApplyAllSpec)

/-- ITS FALSE NEIGHBOUR: 'it returns false'. Refute it at one input. -/
def fnExactApplyAllWrong : ChangeSpec := { name := "fnExactApplyAll", fn := fun _ => fun
  | [d1, d2] => { results := [.lit (.bool false)], args := [d1, d2] }
  | _ => none }
def FnExactApplyAllWrongFalsely : Prop := fnExactApplyAllRow.holds Try.pinned (OpenSpec.ofChange fnExactApplyAllWrong)

/-- 'laws.FnExactLamOver': WHATEVER THE INPUT: true; the input reads as it did. -/
def fnExactLamOverSpec : ChangeSpec := { name := "fnExactLamOver", fn := fun _ => fun
  | [d1, d2] => { results := [.lit (.bool true)], args := [d1, d2] }
  | _ => none }
def fnExactLamOverRow : OpenClaim := { program := "ythjbllfcelkajaa", sum := "122fd35c5127d0b7fcf74f097bfda8899d4e0b978ca50a59d440cd9a71b5fb31", func := "loop.example/depkernel/laws.FnExactLamOver", spec := "fnExactLamOver", unfollowed := true, recurses := true, loops := true, apart := false }
def FnExactLamOverSaid : Prop := fnExactLamOverRow.holds Try.pinned (OpenSpec.ofChange fnExactLamOverSpec)

/-- ITS FALSE NEIGHBOUR: 'it returns false'. Refute it at one input. -/
def fnExactLamOverWrong : ChangeSpec := { name := "fnExactLamOver", fn := fun _ => fun
  | [d1, d2] => { results := [.lit (.bool false)], args := [d1, d2] }
  | _ => none }
def FnExactLamOverWrongFalsely : Prop := fnExactLamOverRow.holds Try.pinned (OpenSpec.ofChange fnExactLamOverWrong)

/-- 'laws.FnExactPiOver': WHATEVER THE INPUT: true; the input reads as it did. -/
def fnExactPiOverSpec : ChangeSpec := { name := "fnExactPiOver", fn := fun _ => fun
  | [d1, d2] => { results := [.lit (.bool true)], args := [d1, d2] }
  | _ => none }
def fnExactPiOverRow : OpenClaim := { program := "ythjbllfcelkajaa", sum := "122fd35c5127d0b7fcf74f097bfda8899d4e0b978ca50a59d440cd9a71b5fb31", func := "loop.example/depkernel/laws.FnExactPiOver", spec := "fnExactPiOver", unfollowed := true, recurses := true, loops := true, apart := false }
def FnExactPiOverSaid : Prop := fnExactPiOverRow.holds Try.pinned (OpenSpec.ofChange fnExactPiOverSpec)

/-- ITS FALSE NEIGHBOUR: 'it returns false'. Refute it at one input. -/
def fnExactPiOverWrong : ChangeSpec := { name := "fnExactPiOver", fn := fun _ => fun
  | [d1, d2] => { results := [.lit (.bool false)], args := [d1, d2] }
  | _ => none }
def FnExactPiOverWrongFalsely : Prop := fnExactPiOverRow.holds Try.pinned (OpenSpec.ofChange fnExactPiOverWrong)

/-- 'laws.FnExactTermAt': WHATEVER THE INPUT: true; the input reads as it did. -/
def fnExactTermAtSpec : ChangeSpec := { name := "fnExactTermAt", fn := fun _ => fun
  | [d1, d2] => { results := [.lit (.bool true)], args := [d1, d2] }
  | _ => none }
def fnExactTermAtRow : OpenClaim := { program := "ythjbllfcelkajaa", sum := "122fd35c5127d0b7fcf74f097bfda8899d4e0b978ca50a59d440cd9a71b5fb31", func := "loop.example/depkernel/laws.FnExactTermAt", spec := "fnExactTermAt", recurses := true, loops := true, apart := false }
def FnExactTermAtSaid : Prop := fnExactTermAtRow.holds Try.pinned (OpenSpec.ofChange fnExactTermAtSpec)

/-- ITS FALSE NEIGHBOUR: 'it returns false'. Refute it at one input. -/
def fnExactTermAtWrong : ChangeSpec := { name := "fnExactTermAt", fn := fun _ => fun
  | [d1, d2] => { results := [.lit (.bool false)], args := [d1, d2] }
  | _ => none }
def FnExactTermAtWrongFalsely : Prop := fnExactTermAtRow.holds Try.pinned (OpenSpec.ofChange fnExactTermAtWrong)

/-- 'laws.FnExactPlacesOf': WHATEVER THE INPUT: true; the input reads as it did. -/
def fnExactPlacesOfSpec : ChangeSpec := { name := "fnExactPlacesOf", fn := fun _ => fun
  | [d] => { results := [.lit (.bool true)], args := [d] }
  | _ => none }
def fnExactPlacesOfRow : OpenClaim := { program := "ythjbllfcelkajaa", sum := "122fd35c5127d0b7fcf74f097bfda8899d4e0b978ca50a59d440cd9a71b5fb31", func := "loop.example/depkernel/laws.FnExactPlacesOf", spec := "fnExactPlacesOf", unfollowed := true, recurses := true, loops := true, apart := false }
def FnExactPlacesOfSaid : Prop := fnExactPlacesOfRow.holds Try.pinned (OpenSpec.ofChange fnExactPlacesOfSpec)

/-- ITS FALSE NEIGHBOUR: 'it returns false'. Refute it at one input. -/
def fnExactPlacesOfWrong : ChangeSpec := { name := "fnExactPlacesOf", fn := fun _ => fun
  | [d] => { results := [.lit (.bool false)], args := [d] }
  | _ => none }
def FnExactPlacesOfWrongFalsely : Prop := fnExactPlacesOfRow.holds Try.pinned (OpenSpec.ofChange fnExactPlacesOfWrong)

/-- 'laws.FnExactRedexPlaces': WHATEVER THE INPUT: true; the input reads as it did. -/
def fnExactRedexPlacesSpec : ChangeSpec := { name := "fnExactRedexPlaces", fn := fun _ => fun
  | [d] => { results := [.lit (.bool true)], args := [d] }
  | _ => none }
def fnExactRedexPlacesRow : OpenClaim := { program := "ythjbllfcelkajaa", sum := "122fd35c5127d0b7fcf74f097bfda8899d4e0b978ca50a59d440cd9a71b5fb31", func := "loop.example/depkernel/laws.FnExactRedexPlaces", spec := "fnExactRedexPlaces", unfollowed := true, recurses := true, loops := true, apart := false }
def FnExactRedexPlacesSaid : Prop := fnExactRedexPlacesRow.holds Try.pinned (OpenSpec.ofChange fnExactRedexPlacesSpec)

/-- ITS FALSE NEIGHBOUR: 'it returns false'. Refute it at one input. -/
def fnExactRedexPlacesWrong : ChangeSpec := { name := "fnExactRedexPlaces", fn := fun _ => fun
  | [d] => { results := [.lit (.bool false)], args := [d] }
  | _ => none }
def FnExactRedexPlacesWrongFalsely : Prop := fnExactRedexPlacesRow.holds Try.pinned (OpenSpec.ofChange fnExactRedexPlacesWrong)

/-- 'laws.FnExactContextAt': WHATEVER THE INPUT: true; the input reads as it did. -/
def fnExactContextAtSpec : ChangeSpec := { name := "fnExactContextAt", fn := fun _ => fun
  | [d1, d2, d3] => { results := [.lit (.bool true)], args := [d1, d2, d3] }
  | _ => none }
def fnExactContextAtRow : OpenClaim := { program := "ythjbllfcelkajaa", sum := "122fd35c5127d0b7fcf74f097bfda8899d4e0b978ca50a59d440cd9a71b5fb31", func := "loop.example/depkernel/laws.FnExactContextAt", spec := "fnExactContextAt", unfollowed := true, recurses := true, loops := true, apart := false }
def FnExactContextAtSaid : Prop := fnExactContextAtRow.holds Try.pinned (OpenSpec.ofChange fnExactContextAtSpec)

/-- ITS FALSE NEIGHBOUR: 'it returns false'. Refute it at one input. -/
def fnExactContextAtWrong : ChangeSpec := { name := "fnExactContextAt", fn := fun _ => fun
  | [d1, d2, d3] => { results := [.lit (.bool false)], args := [d1, d2, d3] }
  | _ => none }
def FnExactContextAtWrongFalsely : Prop := fnExactContextAtRow.holds Try.pinned (OpenSpec.ofChange fnExactContextAtWrong)

/-- 'laws.FnExactPutAt': WHATEVER THE INPUT: true; the input reads as it did. -/
def fnExactPutAtSpec : ChangeSpec := { name := "fnExactPutAt", fn := fun _ => fun
  | [d1, d2, d3] => { results := [.lit (.bool true)], args := [d1, d2, d3] }
  | _ => none }
def fnExactPutAtRow : OpenClaim := { program := "ythjbllfcelkajaa", sum := "122fd35c5127d0b7fcf74f097bfda8899d4e0b978ca50a59d440cd9a71b5fb31", func := "loop.example/depkernel/laws.FnExactPutAt", spec := "fnExactPutAt", recurses := true, loops := true, apart := false }
def FnExactPutAtSaid : Prop := fnExactPutAtRow.holds Try.pinned (OpenSpec.ofChange fnExactPutAtSpec)

/-- ITS FALSE NEIGHBOUR: 'it returns false'. Refute it at one input. -/
def fnExactPutAtWrong : ChangeSpec := { name := "fnExactPutAt", fn := fun _ => fun
  | [d1, d2, d3] => { results := [.lit (.bool false)], args := [d1, d2, d3] }
  | _ => none }
def FnExactPutAtWrongFalsely : Prop := fnExactPutAtRow.holds Try.pinned (OpenSpec.ofChange fnExactPutAtWrong)

/-- 'laws.FnExactContractAt': WHATEVER THE INPUT: true; the input reads as it did. -/
def fnExactContractAtSpec : ChangeSpec := { name := "fnExactContractAt", fn := fun _ => fun
  | [d1, d2] => { results := [.lit (.bool true)], args := [d1, d2] }
  | _ => none }
def fnExactContractAtRow : OpenClaim := { program := "ythjbllfcelkajaa", sum := "122fd35c5127d0b7fcf74f097bfda8899d4e0b978ca50a59d440cd9a71b5fb31", func := "loop.example/depkernel/laws.FnExactContractAt", spec := "fnExactContractAt", unfollowed := true, recurses := true, loops := true, apart := false }
def FnExactContractAtSaid : Prop := fnExactContractAtRow.holds Try.pinned (OpenSpec.ofChange fnExactContractAtSpec)

/-- ITS FALSE NEIGHBOUR: 'it returns false'. Refute it at one input. -/
def fnExactContractAtWrong : ChangeSpec := { name := "fnExactContractAt", fn := fun _ => fun
  | [d1, d2] => { results := [.lit (.bool false)], args := [d1, d2] }
  | _ => none }
def FnExactContractAtWrongFalsely : Prop := fnExactContractAtRow.holds Try.pinned (OpenSpec.ofChange fnExactContractAtWrong)

/- THE SECOND FORM. 'bulk': how many values and letters a reading holds, each counted each time it is reached (what is shared counts as often as it is met; a slice's spare places count too). A statement '..UptoSaid' is the law's where the arguments, and the package variables that the reading takes, are together of bulk at most 1048576: NARROWER than '..Said'. Prove '..Said' where nothing that the law and all that it calls make is longer than what came in: it says more and counts as full. Else prove '..UptoSaid'. A law counts once. -/
mutual
def uptoBulk {H : Type} : DataW H → Nat
  | .lit (.string bytes) => bytes.length + 1
  | .lit _ => 1
  | .nil => 1
  | .ptr d => uptoBulk d + 1
  | .slice elems spare => uptoBulkAll elems + uptoBulkAll spare + 1
  | .agg parts => uptoBulkAll parts + 1
  | .iface _ d => uptoBulk d + 1
  | .map entries => uptoBulkEntries entries + 1
  | .held _ => 1
def uptoBulkAll {H : Type} : List (DataW H) → Nat
  | [] => 0
  | d :: r => uptoBulk d + uptoBulkAll r
def uptoBulkEntries {H : Type} : List (Lit × DataW H) → Nat
  | [] => 0
  | x :: r => uptoBulkEntry x + uptoBulkEntries r
def uptoBulkEntry {H : Type} : Lit × DataW H → Nat
  | (.string bytes, d) => bytes.length + uptoBulk d + 1
  | (_, d) => uptoBulk d + 1
 end
def uptoSmall : (H : Type) → List (DataW H) → Bool := fun _ ds => decide (uptoBulkAll ds ≤ 1048576)
def OpenSpec.upto (s : _root_.Go.ChangeSpec) : _root_.Go.OpenSpec := { _root_.Go.OpenSpec.ofChange s with cond := some uptoSmall }

/-- 'laws.FnExactContextVars', WHERE WHAT IT READS IS OF BULK AT MOST 1048576: true; the input reads as it did. -/
def fnExactContextVarsUptoRow : OpenClaim := { program := "ythjbllfcelkajaa", sum := "122fd35c5127d0b7fcf74f097bfda8899d4e0b978ca50a59d440cd9a71b5fb31", func := "loop.example/depkernel/laws.FnExactContextVars", spec := "fnExactContextVars", recurses := true, apart := false, narrowed := true }
def FnExactContextVarsUptoSaid : Prop := fnExactContextVarsUptoRow.holds Try.pinned (OpenSpec.upto fnExactContextVarsSpec)

/-- 'laws.FnExactSplitApp', WHERE WHAT IT READS IS OF BULK AT MOST 1048576: true; the input reads as it did. -/
def fnExactSplitAppUptoRow : OpenClaim := { program := "ythjbllfcelkajaa", sum := "122fd35c5127d0b7fcf74f097bfda8899d4e0b978ca50a59d440cd9a71b5fb31", func := "loop.example/depkernel/laws.FnExactSplitApp", spec := "fnExactSplitApp", recurses := true, loops := true, apart := false, narrowed := true }
def FnExactSplitAppUptoSaid : Prop := fnExactSplitAppUptoRow.holds Try.pinned (OpenSpec.upto fnExactSplitAppSpec)

/-- 'laws.FnExactSplitPi', WHERE WHAT IT READS IS OF BULK AT MOST 1048576: true; the input reads as it did. -/
def fnExactSplitPiUptoRow : OpenClaim := { program := "ythjbllfcelkajaa", sum := "122fd35c5127d0b7fcf74f097bfda8899d4e0b978ca50a59d440cd9a71b5fb31", func := "loop.example/depkernel/laws.FnExactSplitPi", spec := "fnExactSplitPi", recurses := true, loops := true, apart := false, narrowed := true }
def FnExactSplitPiUptoSaid : Prop := fnExactSplitPiUptoRow.holds Try.pinned (OpenSpec.upto fnExactSplitPiSpec)

/-- 'laws.FnExactBindersAt', WHERE WHAT IT READS IS OF BULK AT MOST 1048576: true; the input reads as it did. -/
def fnExactBindersAtUptoRow : OpenClaim := { program := "ythjbllfcelkajaa", sum := "122fd35c5127d0b7fcf74f097bfda8899d4e0b978ca50a59d440cd9a71b5fb31", func := "loop.example/depkernel/laws.FnExactBindersAt", spec := "fnExactBindersAt", recurses := true, loops := true, apart := false, narrowed := true }
def FnExactBindersAtUptoSaid : Prop := fnExactBindersAtUptoRow.holds Try.pinned (OpenSpec.upto fnExactBindersAtSpec)

/-- 'laws.FnExactApplyAll', WHERE WHAT IT READS IS OF BULK AT MOST 1048576: true; the input reads as it did. -/
def fnExactApplyAllUptoRow : OpenClaim := { program := "ythjbllfcelkajaa", sum := "122fd35c5127d0b7fcf74f097bfda8899d4e0b978ca50a59d440cd9a71b5fb31", func := "loop.example/depkernel/laws.FnExactApplyAll", spec := "fnExactApplyAll", unfollowed := true, recurses := true, loops := true, apart := false, narrowed := true }
def FnExactApplyAllUptoSaid : Prop := fnExactApplyAllUptoRow.holds Try.pinned (OpenSpec.upto fnExactApplyAllSpec)

/-- 'laws.FnExactLamOver', WHERE WHAT IT READS IS OF BULK AT MOST 1048576: true; the input reads as it did. -/
def fnExactLamOverUptoRow : OpenClaim := { program := "ythjbllfcelkajaa", sum := "122fd35c5127d0b7fcf74f097bfda8899d4e0b978ca50a59d440cd9a71b5fb31", func := "loop.example/depkernel/laws.FnExactLamOver", spec := "fnExactLamOver", unfollowed := true, recurses := true, loops := true, apart := false, narrowed := true }
def FnExactLamOverUptoSaid : Prop := fnExactLamOverUptoRow.holds Try.pinned (OpenSpec.upto fnExactLamOverSpec)

/-- 'laws.FnExactPiOver', WHERE WHAT IT READS IS OF BULK AT MOST 1048576: true; the input reads as it did. -/
def fnExactPiOverUptoRow : OpenClaim := { program := "ythjbllfcelkajaa", sum := "122fd35c5127d0b7fcf74f097bfda8899d4e0b978ca50a59d440cd9a71b5fb31", func := "loop.example/depkernel/laws.FnExactPiOver", spec := "fnExactPiOver", unfollowed := true, recurses := true, loops := true, apart := false, narrowed := true }
def FnExactPiOverUptoSaid : Prop := fnExactPiOverUptoRow.holds Try.pinned (OpenSpec.upto fnExactPiOverSpec)

/-- 'laws.FnExactTermAt', WHERE WHAT IT READS IS OF BULK AT MOST 1048576: true; the input reads as it did. -/
def fnExactTermAtUptoRow : OpenClaim := { program := "ythjbllfcelkajaa", sum := "122fd35c5127d0b7fcf74f097bfda8899d4e0b978ca50a59d440cd9a71b5fb31", func := "loop.example/depkernel/laws.FnExactTermAt", spec := "fnExactTermAt", recurses := true, loops := true, apart := false, narrowed := true }
def FnExactTermAtUptoSaid : Prop := fnExactTermAtUptoRow.holds Try.pinned (OpenSpec.upto fnExactTermAtSpec)

/-- 'laws.FnExactPlacesOf', WHERE WHAT IT READS IS OF BULK AT MOST 1048576: true; the input reads as it did. -/
def fnExactPlacesOfUptoRow : OpenClaim := { program := "ythjbllfcelkajaa", sum := "122fd35c5127d0b7fcf74f097bfda8899d4e0b978ca50a59d440cd9a71b5fb31", func := "loop.example/depkernel/laws.FnExactPlacesOf", spec := "fnExactPlacesOf", unfollowed := true, recurses := true, loops := true, apart := false, narrowed := true }
def FnExactPlacesOfUptoSaid : Prop := fnExactPlacesOfUptoRow.holds Try.pinned (OpenSpec.upto fnExactPlacesOfSpec)

/-- 'laws.FnExactRedexPlaces', WHERE WHAT IT READS IS OF BULK AT MOST 1048576: true; the input reads as it did. -/
def fnExactRedexPlacesUptoRow : OpenClaim := { program := "ythjbllfcelkajaa", sum := "122fd35c5127d0b7fcf74f097bfda8899d4e0b978ca50a59d440cd9a71b5fb31", func := "loop.example/depkernel/laws.FnExactRedexPlaces", spec := "fnExactRedexPlaces", unfollowed := true, recurses := true, loops := true, apart := false, narrowed := true }
def FnExactRedexPlacesUptoSaid : Prop := fnExactRedexPlacesUptoRow.holds Try.pinned (OpenSpec.upto fnExactRedexPlacesSpec)

/-- 'laws.FnExactContextAt', WHERE WHAT IT READS IS OF BULK AT MOST 1048576: true; the input reads as it did. -/
def fnExactContextAtUptoRow : OpenClaim := { program := "ythjbllfcelkajaa", sum := "122fd35c5127d0b7fcf74f097bfda8899d4e0b978ca50a59d440cd9a71b5fb31", func := "loop.example/depkernel/laws.FnExactContextAt", spec := "fnExactContextAt", unfollowed := true, recurses := true, loops := true, apart := false, narrowed := true }
def FnExactContextAtUptoSaid : Prop := fnExactContextAtUptoRow.holds Try.pinned (OpenSpec.upto fnExactContextAtSpec)

/-- 'laws.FnExactPutAt', WHERE WHAT IT READS IS OF BULK AT MOST 1048576: true; the input reads as it did. -/
def fnExactPutAtUptoRow : OpenClaim := { program := "ythjbllfcelkajaa", sum := "122fd35c5127d0b7fcf74f097bfda8899d4e0b978ca50a59d440cd9a71b5fb31", func := "loop.example/depkernel/laws.FnExactPutAt", spec := "fnExactPutAt", recurses := true, loops := true, apart := false, narrowed := true }
def FnExactPutAtUptoSaid : Prop := fnExactPutAtUptoRow.holds Try.pinned (OpenSpec.upto fnExactPutAtSpec)

/-- 'laws.FnExactContractAt', WHERE WHAT IT READS IS OF BULK AT MOST 1048576: true; the input reads as it did. -/
def fnExactContractAtUptoRow : OpenClaim := { program := "ythjbllfcelkajaa", sum := "122fd35c5127d0b7fcf74f097bfda8899d4e0b978ca50a59d440cd9a71b5fb31", func := "loop.example/depkernel/laws.FnExactContractAt", spec := "fnExactContractAt", unfollowed := true, recurses := true, loops := true, apart := false, narrowed := true }
def FnExactContractAtUptoSaid : Prop := fnExactContractAtUptoRow.holds Try.pinned (OpenSpec.upto fnExactContractAtSpec)

end Rows
end Go.Proofs.Ythjbllfcelkajaa
