/- Validity of a tree of one's own, in walks. -/
import Derived.Test.YtbkpfjabcohnpaaWrap
import Derived.Test.YtbkpfjabcohnpaaHeld
import Derived.Test.YtbkpfjabcohnpaaApp
import Derived.Test.YtbkpfjabcohnpaaAbk
import Derived.Test.YtbkpfjabcohnpaaEvX
import Derived.Test.YtbkpfjabcohnpaaOpen
set_option linter.unusedVariables false
set_option linter.unusedSimpArgs false
namespace Go.Proofs.Ytbkpfjabcohnpaa
open Go Go.Ab
open Go.Dk (Rd HT Grow T)
theorem sizeT {t : HT} (h : T.sizeL t.er.kids ≤ 1048576) : t.er.size ≤ 1048577 := by rw [T.size_eq]; omega
end Go.Proofs.Ytbkpfjabcohnpaa
namespace Go.Proofs.Ytbkpfjabcohnpaa
open Go Go.Dk
theorem zero_own (w w' : World) : Own w w' (.mk 0 0 none 0 []) :=
  ⟨⟨Rd_none, by simp [HT.blocks, HT.head, HT.blocksL], fun b hb => by simp [HT.blocks, HT.head, HT.blocksL] at hb⟩, fun b hb => by simp [HT.blocks, HT.head, HT.blocksL] at hb⟩
end Go.Proofs.Ytbkpfjabcohnpaa
