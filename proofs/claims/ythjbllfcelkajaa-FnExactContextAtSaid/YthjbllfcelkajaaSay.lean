/- What is said of the program's functions for the abstract run. -/
import Derived.Test.YthjbllfcelkajaaRows
import Derived.Test.YthjbllfcelkajaaFacts
import Derived.Test.YthjbllfcelkajaaRes
import Derived.KernelRfl
set_option linter.unusedVariables false
namespace Go.Proofs.Ythjbllfcelkajaa
open Go Go.Ab Go.Dk
def live : FuncId → Nat → Option (List Nat)
  | 16, 0 => some [4, 5]
  | 17, 0 => some [4, 5]
  | 22, 0 => some [1, 2, 5]
  | 24, 0 => some [1, 2, 5]
  | 28, 0 => some [1, 2, 5, 7, 8]
  | 29, 0 => some [2, 5, 7, 20, 21]
  | 35, 0 => some [1, 4, 6, 7]
  | 37, 0 => some [4, 6, 19, 20, 21]
  | 52, 2 => some [2, 4, 10, 12]
  | 52, 0 => some [0, 2, 4, 10, 11]
  | 31, 0 => some [0, 3, 4]
  | 30, 0 => some [1, 2, 8, 9]
  | 33, 0 => some [0, 1, 5]
  | 62, 0 => some [1, 2, 3, 4]
  | 64, 0 => some [2, 3, 12, 13, 14]
  | 65, 0 => some [0, 2, 3]
  | 66, 0 => some [1, 3]
  | 67, 0 => some [1, 3]
  | 70, 0 => some [0, 3]
  | 76, 0 => some [0, 1, 6, 7, 8]
  | 77, 0 => some [0, 1, 6, 8, 9]
  | 78, 0 => some [1, 2, 4, 6]
  | 69, 0 => some [2, 4, 7, 10, 11, 12]
  | 79, 0 => some [0, 2, 3, 5, 9]
  | 80, 0 => some [1, 2, 7, 19, 20, 21]
  | 86, 0 => some [3, 6, 7, 8]
  | 34, 0 => some [0, 1, 5]
  | 36, 0 => some [0, 3, 4]
  | 18, 0 => some [0, 1, 5]
  | 92, 0 => some [1, 2, 5]
  | 93, 0 => some [1, 2, 5, 6]
  | 94, 0 => some [1, 2, 41, 42, 43]
  | 99, 0 => some [1, 3, 5, 6, 7, 8]
  | 101, 0 => some [1, 3, 4, 6, 8, 9, 10]
  | 103, 0 => some [2, 4, 7, 8, 9]
  | 109, 0 => some [0, 1, 7, 8]
  | 110, 0 => some [1, 2, 3, 6, 7, 8]
  | 112, 0 => some [1, 2, 3, 6, 7, 24, 25, 26]
  | _, _ => none
def ownF (f : FuncId) : Bool := hasN f [62, 98, 100]
def ibF (f : FuncId) : Bool := false
noncomputable def SS : Say := ⟨⟨ownF, ibF⟩, live, fun _ => none⟩
noncomputable def FF := evF Try.prog SS
end Go.Proofs.Ythjbllfcelkajaa
