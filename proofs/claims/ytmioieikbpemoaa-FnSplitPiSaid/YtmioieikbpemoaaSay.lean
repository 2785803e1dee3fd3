/- What is said of the program's functions for the abstract run. -/
import Derived.Test.YtmioieikbpemoaaRows
import Derived.Test.YtmioieikbpemoaaFacts
import Derived.Test.YtmioieikbpemoaaRes
import Derived.KernelRfl
set_option linter.unusedVariables false
namespace Go.Proofs.Ytmioieikbpemoaa
open Go Go.Ab Go.Dk
def live : FuncId → Nat → Option (List Nat)
  | 7, 0 => some [3, 4, 5, 6]
  | 11, 0 => some [3, 4, 5]
  | 15, 0 => some [2, 4, 5, 6, 7]
  | 16, 0 => some [4, 6, 19, 20, 21]
  | 17, 0 => some [1, 4, 6, 7]
  | 19, 0 => some [1, 2, 5]
  | 20, 0 => some [0, 1, 5]
  | 22, 0 => some [1, 2, 5]
  | 24, 0 => some [2, 5, 7, 20, 21]
  | 25, 0 => some [1, 2, 5, 7, 8]
  | 28, 0 => some [3]
  | 29, 0 => some [3]
  | 47, 0 => some [0, 1, 4, 5, 6, 7]
  | 51, 0 => some [2, 3, 12, 13, 14]
  | 53, 0 => some [0, 3]
  | 54, 0 => some [1, 2, 3, 4]
  | 57, 0 => some [1, 2, 15, 16, 17]
  | 58, 0 => some [0, 2, 3]
  | 59, 0 => some [0, 3, 4, 5, 6]
  | 64, 0 => some [1, 3]
  | 65, 0 => some [1, 3]
  | 66, 0 => some [0, 1, 6, 8, 9]
  | 71, 0 => some [1, 2, 41, 42, 43]
  | 72, 0 => some [1, 2, 4, 15, 16, 17]
  | 73, 0 => some [1, 2, 4, 5, 6]
  | 75, 0 => some [1, 2, 3, 6, 9]
  | 70, 0 => some [12, 13, 14]
  | 77, 0 => some [1, 2, 3, 6]
  | 89, 0 => some [1, 2, 5]
  | 90, 0 => some [1, 2, 5, 6]
  | 93, 0 => some [0, 3, 4]
  | 94, 0 => some [0, 1, 6, 7, 8]
  | 95, 0 => some [1, 2, 4, 6]
  | 74, 0 => some [1, 9, 10, 11]
  | 103, 0 => some [1, 2, 3, 24, 25, 26]
  | 105, 0 => some [2, 3, 5]
  | 108, 0 => some [0, 1, 7, 8]
  | 110, 0 => some [1, 3, 5, 6, 7, 8]
  | 111, 0 => some [2, 4, 7, 8, 9]
  | 115, 0 => some [0, 1, 2, 8]
  | 120, 0 => some [1, 3, 4, 6, 8, 9, 10]
  | 122, 0 => some [1, 2, 3, 6, 7, 24, 25, 26]
  | 127, 0 => some [0, 4, 5, 6]
  | 128, 0 => some [0, 1, 2, 3, 4, 12, 13]
  | 129, 0 => some [0, 3]
  | 130, 0 => some [0, 3, 4]
  | 131, 0 => some [1, 2, 3, 6, 7, 8]
  | 73, 1000012 => some []
  | _, _ => none
def ownF (f : FuncId) : Bool := hasN f [54, 121]
def ibF (f : FuncId) : Bool := false
noncomputable def SS : Say := ⟨⟨ownF, ibF⟩, live, fun _ => none⟩
noncomputable def FF := evF Try.prog SS
end Go.Proofs.Ytmioieikbpemoaa
