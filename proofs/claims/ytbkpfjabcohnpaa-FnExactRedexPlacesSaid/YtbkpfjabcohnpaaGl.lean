/- What stands in the program's own variables when a law begins, and goes on standing. -/
import Derived.Test.YtbkpfjabcohnpaaTree
set_option linter.unusedVariables false
namespace Go.Ab
open Go Go.Dk
/-- No variable is known. -/
def GLK : Nat := 0
def GP (_ : World) : Prop := True
/-- The blocks of the program's variables are as they were in a world of which GP holds, and none may be turned. -/
def GL (M : Zone) (w0 : World) : Prop := ∃ W0, GP W0 ∧ ∀ g, g < GLK → ¬ M g ∧ g < w0.heap.size ∧ w0.heap[g]? = W0.heap[g]?
theorem GL.sub {M M' : Zone} {w0 w : World} (h : GL M w0) (he : Ext M w0 w) (hk : ∀ k, M' k → M k ∨ w0.heap.size ≤ k) : GL M' w := by
  obtain ⟨W0, h0, h1⟩ := h
  refine ⟨W0, h0, fun g hg => ?_⟩
  obtain ⟨a, b, c⟩ := h1 g hg
  refine ⟨fun hm => ?_, Nat.lt_of_lt_of_le b he.size, (he.block g b a).trans c⟩
  rcases hk g hm with h | h
  · exact a h
  · omega
theorem GL.now {M : Zone} {w0 w : World} (h : GL M w0) (he : Ext M w0 w) : GL noneZ w := h.sub he fun k hk => hk.elim
def MZ (M Z0 : Zone) (w0 : World) : Prop := (∀ k, M k → Z0 k) ∧ GL M w0
end Go.Ab
