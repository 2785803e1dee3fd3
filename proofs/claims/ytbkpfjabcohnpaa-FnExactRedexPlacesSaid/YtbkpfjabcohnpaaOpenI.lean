/- A law's argument that is a row of numbers. -/
import Derived.Test.YtbkpfjabcohnpaaLaw
import Derived.Test.YtbkpfjabcohnpaaInts
import Derived.WalkKit
import Derived.ProofKit
import Derived.OpenShut
import Derived.ShutString
import Derived.ChangeOld
import Derived.Below
set_option linter.unusedVariables false
namespace Go.Ab
open Go Go.Dk
open Go.ChangeShapes Go.WideShapes Go.ChangeAt Go.RowKit
theorem open_intsS {H : Type} {enc : TypeId × Value → H} {P : Program} {W : World} {base : Nat} {tB tU : TypeId} (hB : P.underlying tB = some (.slice tU)) (hU : P.underlying tU = some (.int .i64)) (hc : P.cellsOf tU = 1)
    {v : Value} {d : DataW H} {p : List MemPlace} (hval : Value.okWide P W .any base tB v) (h : DataW.Trod enc P W 0 (fun _ => true) true tB v d p) : ∃ l : List Int, SlR anyB W (.is l) v := by
  obtain ⟨a1, len, cap, rfl⟩ := okWide_slice hB hval
  obtain ⟨fuel, hf⟩ := h
  rcases open_ints hB hU hc hf with ⟨hcs, hx⟩ | ⟨a, len', cap', zs, hcs, _, hl, hm, hz, hx, hcell, hwz⟩
  · simp [Value.cells] at hcs
    obtain ⟨rfl, rfl, rfl⟩ := hcs
    exact ⟨[], none, 0, [], rfl, Nat.zero_le _, Nat.zero_le _, rfl, .inl rfl⟩
  · simp [Value.cells] at hcs
    obtain ⟨rfl, rfl, rfl⟩ := hcs
    simp only [if_true] at hz
    have hlen : (zs.take len).length = len := by simp; omega
    refine ⟨zs.take len, ?_⟩
    by_cases h0 : len = 0
    · subst h0
      exact ⟨some a, cap, [], by simp [SD.len], Nat.zero_le _, Nat.zero_le _, by simp [ElemsR], .inl rfl⟩
    · obtain ⟨ab, ao, spot⟩ := a
      have hspot : spot = none := by simpa [Addr.add] using World.cell?_spot (hcell 0 (by omega))
      subst hspot
      refine ⟨some ⟨ab, ao, none⟩, cap, (zs.take len).map (Value.int .i64 ·), ?_, ?_, ?_, rfl, .inr ⟨ab, ao, rfl, trivial, fun i x hx => ?_⟩⟩
      · simp only [SD.len, hlen]
      · simp only [SD.len, hlen]; exact hl
      · simp only [SD.len, hlen]; exact Nat.le_trans hl hm
      · rw [List.getElem?_map] at hx
        cases hzi : (zs.take len)[i]? with
        | none => rw [hzi] at hx; simp at hx
        | some n =>
          rw [hzi] at hx
          simp at hx
          subst hx
          have hil : i < len := by
            rcases Nat.lt_or_ge i len with h' | h'
            · exact h'
            · rw [List.getElem?_eq_none (by simp; omega)] at hzi; cases hzi
          have hzi' : zs[i]? = some n := by rw [List.getElem?_take_of_lt hil] at hzi; exact hzi
          have hc' := hcell i (by omega)
          rw [addr_add] at hc'
          rw [hc']
          have hn : zs.getD i 0 = n := by simp [List.getD, hzi']
          rw [hn]
end Go.Ab
