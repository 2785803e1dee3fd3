/- What is said of the program's functions for the abstract run. -/
import Derived.Test.YtbkpfjabcohnpaaRows
import Derived.Test.YtbkpfjabcohnpaaFacts
import Derived.Test.YtbkpfjabcohnpaaRes
import Derived.KernelRfl
set_option linter.unusedVariables false
namespace Go.Proofs.Ytbkpfjabcohnpaa
open Go Go.Ab Go.Dk
def live : FuncId → Nat → Option (List Nat)
  | 30, 0 => some [1, 2, 5]
  | 31, 0 => some [1, 2, 5, 6]
  | 33, 0 => some [1, 2, 41, 42, 43]
  | _, _ => none
def ownF (f : FuncId) : Bool := hasN f []
def ibF (f : FuncId) : Bool := false
noncomputable def SS : Say := ⟨⟨ownF, ibF⟩, live, fun _ => none⟩
noncomputable def FF := evF Try.prog SS
end Go.Proofs.Ytbkpfjabcohnpaa
