/- The walks of the laws on places of nodes. -/
import Derived.Test.YtbkpfjabcohnpaaPls
import Derived.Test.YtbkpfjabcohnpaaWrap
import Derived.Test.YtbkpfjabcohnpaaOpenI
set_option linter.unusedVariables false
set_option linter.unusedSimpArgs false
namespace Go.Proofs.Ytbkpfjabcohnpaa
open Go Go.Dk
theorem pq_bd {r : Bool} {t : T} {xs : List IR} (h : xs.map IR.l = pqR r t) : xs.length ≤ 400 ∧ sumL (xs.map IR.l) ≤ 160000 ∧ ∀ x ∈ xs, x.l.length ≤ 1048576 := by
  obtain ⟨h1, h2, h3⟩ := pqR_len r t
  rw [← h] at h1 h2 h3
  rw [List.length_map] at h1
  exact ⟨h1, h2, fun x hx => by have := h3 x.l (List.mem_map.2 ⟨x, hx, rfl⟩); omega⟩
end Go.Proofs.Ytbkpfjabcohnpaa
