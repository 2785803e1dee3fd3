/- Trees of a call's own: marks, two trees. No program in sight. -/
import Derived.Test.YtbkpfjabcohnpaaDig
set_option linter.unusedVariables false
set_option linter.unusedSimpArgs false
namespace Go.Dk
open Go
theorem St.remark {w0 w w' : World} {M Z0 : Zone} {L : List Res} {φ : Fact} {t : HT} {us : List HT} (h : St w0 M Z0 L φ w) {n : Nat} (hn : L[n]? = some (treeR t)) (ho : (treeR (HT.mk t.k t.n t.a t.cap us)).own w')
    (hb : HT.blocks (HT.mk t.k t.n t.a t.cap us) = t.blocks) (hx : Ext (· ∈ t.blocks) w w') : St w0 M Z0 (L.set n (treeR (HT.mk t.k t.n t.a t.cap us))) φ w' :=
  h.upd hn hx (treeR_local _) ho fun b hb' => ⟨.inl (by show b ∈ t.blocks; rw [← hb]; exact hb'), (Rd.zone _ ho.1 b hb').2⟩
abbrev zoneOf {w0 w : World} {M Z0 : Zone} {L : List Res} {φ : Fact} (_ : St w0 M Z0 L φ w) : Zone := zone w0 Z0 L
/-- Two trees of the call's own. -/
def pairR (u v : HT) : Res := ⟨fun b => b ∈ u.blocks ∨ b ∈ v.blocks, fun w => (treeR u).own w ∧ (treeR v).own w ∧ ∀ b ∈ u.blocks, b ∉ v.blocks⟩
theorem pairR_local (u v : HT) : (pairR u v).Local := fun w w' h k =>
  ⟨treeR_local u w w' (fun b hb => h b (.inl hb)) k.1, treeR_local v w w' (fun b hb => h b (.inr hb)) k.2.1, k.2.2⟩
/-- What a function that hands back two trees of its own says. -/
structure Own2 (w w' : World) (u v : HT) : Prop where
  own : (pairR u v).own w'
  new : ∀ b, (b ∈ u.blocks ∨ b ∈ v.blocks) → w.heap.size ≤ b
theorem St.pushTwo {w0 w w' : World} {M Z0 : Zone} {L : List Res} {φ : Fact} {u v : HT} (h : St w0 M Z0 L φ w) (hg : Grow w w') (ho : Own2 w w' u v) : St w0 M Z0 (treeR u :: treeR v :: L) φ w' := by
  have h1 := h.push hg (pairR_local u v) ho.own (fun b hb => ⟨ho.new b hb, by
    rcases hb with hb | hb
    · exact (Rd.zone u ho.own.1.1 b hb).2
    · exact (Rd.zone v ho.own.2.1.1 b hb).2⟩)
  exact h1.cut (treeR_local u) (treeR_local v) (fun b hb => .inl hb) (fun b hb => .inr hb) ho.own.1 ho.own.2.1 ho.own.2.2
theorem St.outTwo {w0 w : World} {Z0 : Zone} {L : List Res} {φ : Fact} {u v : HT} (h : St w0 noneZ Z0 (treeR u :: treeR v :: L) φ w) : Own2 w0 w u v := by
  have hd := h.dis
  rw [List.pairwise_cons] at hd
  refine ⟨⟨h.own (treeR u) (by simp), h.own (treeR v) (by simp), fun b hb hb' => hd.1 (treeR v) (by simp) b hb hb'⟩, fun b hb => ?_⟩
  rcases hb with hb | hb
  · exact ((h.key (treeR u) (by simp) b hb).1).resolve_left (fun h => h)
  · exact ((h.key (treeR v) (by simp) b hb).1).resolve_left (fun h => h)
end Go.Dk
