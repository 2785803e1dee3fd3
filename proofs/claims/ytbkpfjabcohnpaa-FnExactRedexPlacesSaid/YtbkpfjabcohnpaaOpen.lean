/- A law's argument that is a row of terms; sizes of arguments. -/
import Derived.Test.YtbkpfjabcohnpaaBase
import Derived.Test.YtbkpfjabcohnpaaMarks
import Derived.WalkKit
import Derived.ProofKit
import Derived.OpenShut
import Derived.ShutString
import Derived.ChangeOld
import Derived.Below
namespace Go.Proofs.Ytbkpfjabcohnpaa
open Go.ChangeShapes Go.WideShapes Go.ChangeAt Go.RowKit
open Go.ChangeMaps (open_string shut_string)
set_option linter.unusedVariables false
set_option linter.unusedSimpArgs false
open Go.Dk
theorem szL_le (ts : List T) (left : Int) : szL ts left ≤ left ∨ left < -1 := by unfold szL; split <;> omega
theorem szL_out {ts : List T} {left : Int} (h : 0 ≤ szL ts left) : (T.sizeL ts : Int) ≤ left ∧ szL ts left = left - T.sizeL ts := by
  unfold szL at h ⊢
  split at h
  · rename_i h1; rw [if_pos h1]; exact ⟨h1, rfl⟩
  · omega
section
variable {H : Type} {enc : TypeId × Value → H} {P : Program} {W : World} {sp : Nat → Bool} {hd : Bool}
theorem open_terms {tT sT iT : TypeId} {f0 f1 f2 : Field} (hT : P.underlying tT = some (.struct #[f0, f1, f2])) (hS : P.underlying sT = some (.slice tT)) (hI : P.underlying iT = some (.int .i64))
    (hf : f0.type = iT ∧ f0.offset = 0 ∧ f1.type = iT ∧ f1.offset = 1 ∧ f2.type = sT ∧ f2.offset = 2 ∧ P.cellsOf tT = 3 ∧ P.cellsOf iT = 1 ∧ P.cellsOf sT = 1) :
    ∀ (fuel : Nat) (cs : List Value) (x : DataW H × List MemPlace), DataW.trod enc P W 0 sp hd fuel sT cs = some x → ∃ t : HT, cs = [t.sl] ∧ Rd (fun _ => True) W t := by
  intro fuel cs x g2
  have cT := hf.2.2.2.2.2.2.1
  rcases DataW.trod_slice hS g2 with ⟨hc, _⟩ | ⟨a, len, cap, elems, rest, n', rfl, hc, _, _, hle, hcap, hel, hget, _, _⟩
  · exact ⟨.mk 0 0 none 0 [], hc, Rd_none⟩
  · have each : ∀ i, i < len → ∃ t : HT, (W.cell? (a.add (i * 3)) = some (.int .i64 t.k) ∧ W.cell? ((a.add (i * 3)).add 1) = some (.int .i64 t.n) ∧ W.cell? ((a.add (i * 3)).add 2) = some t.sl) ∧ Rd (fun _ => True) W t := by
      intro i hi
      have := hget i hi
      rw [cT, List.getElem?_eq_getElem (by omega)] at this
      obtain ⟨cs', hc1, hc2⟩ := Option.bind_eq_some_iff.1 this
      obtain ⟨t, rfl, ht⟩ := open_term hT hS hI hf n' _ _ hc2
      obtain ⟨_, _, hcell⟩ := World.cells?_some hc1
      exact ⟨t, ⟨by simpa [Addr.add] using hcell 0 (by omega), by simpa using hcell 1 (by omega), by simpa using hcell 2 (by omega)⟩, ht⟩
    have hmax : cap ≤ 9223372036854775807 := by simp only [maxLen] at hcap; omega
    rcases Nat.eq_zero_or_pos len with rfl | hpos
    · exact ⟨.mk 0 0 (some a) cap [], hc, Rd_none⟩
    · obtain ⟨t0, ⟨hz, _, _⟩, _⟩ := each 0 hpos
      obtain ⟨b, off, spot⟩ := a
      have hspot : spot = none := by simpa [Addr.add] using World.cell?_spot hz
      subst hspot
      obtain ⟨ts, hl, hr⟩ := open_kids (W := W) (b := b) (off := off) (len := len) (fun i hi => by
        obtain ⟨t, ⟨e0, e1, e2⟩, ht⟩ := each i hi
        rw [addr_add] at e0 e1 e2
        rw [addr_add] at e1 e2
        exact ⟨t, ⟨e0, e1, e2⟩, ht⟩) len (Nat.le_refl _)
      rw [Nat.sub_self, Nat.zero_mul, Nat.add_zero] at hr
      refine ⟨.mk 0 0 (some ⟨b, off, none⟩) cap ts, ?_, Rd_mk (by omega) (by omega) trivial hr⟩
      rw [hc]
      simp only [HT.sl, HT.a, HT.kids, HT.cap, hl]
end
end Go.Proofs.Ytbkpfjabcohnpaa
