/- Texts that the reference reads as valid terms: run in the kernel. -/
import Derived.Test.YtmioieikbpemoaaEvP
set_option linter.unusedVariables false
namespace Go.Proofs.Ytmioieikbpemoaa
open Go Go.Ab Go.Dk
/-- The reference reads the text as a valid term. -/
def readsB (r : OR) : Bool := match r with | some (_ :: .one (.bool b) :: _, _) => b | _ => false
set_option maxRecDepth 100000 in
theorem reads0 (n : Nat) : readsB (FF (n + 200) 84 [st (bytesOf [35, 48])] []) = true := by kernel_rfl
set_option maxRecDepth 100000 in
theorem reads1 (n : Nat) : readsB (FF (n + 200) 84 [st (bytesOf [33, 35, 49])] []) = true := by kernel_rfl
set_option maxRecDepth 100000 in
theorem reads2 (n : Nat) : readsB (FF (n + 200) 84 [st (bytesOf [40, 78, 62, 42, 48, 41])] []) = true := by kernel_rfl
set_option maxRecDepth 100000 in
theorem reads3 (n : Nat) : readsB (FF (n + 200) 84 [st (bytesOf [40, 35, 48, 32, 48, 41])] []) = true := by kernel_rfl
end Go.Proofs.Ytmioieikbpemoaa
