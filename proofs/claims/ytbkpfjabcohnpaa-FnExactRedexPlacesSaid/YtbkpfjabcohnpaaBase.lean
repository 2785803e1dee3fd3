/- What every law's step leans on. -/
import Derived.Test.YtbkpfjabcohnpaaFacts
import Derived.ChangeArms
import Derived.Deep.Slices
import Derived.Deep.Strs
import Derived.WalkKit
import Derived.ProofKit
import Derived.OpenShut
import Derived.ShutString
import Derived.ChangeOld
import Derived.Below
namespace Go.Proofs.Ytbkpfjabcohnpaa
open Go.ChangeShapes Go.WideShapes Go.ChangeAt Go.RowKit
open Go.ChangeMaps (open_string shut_string)
set_option linter.unusedVariables false
set_option linter.unusedSimpArgs false
open Go.Dk
theorem own : ownKnob Try.prog.godebug = none := by kernel_rfl
theorem laidOut : laidOutB Try.prog = true := by kernel_rfl
section
variable {H : Type} {enc : TypeId × Value → H} {P : Program} {W : World} {sp : Nat → Bool} {hd : Bool}
theorem okWide_agg {r : Reach} {b0 : Nat} {t : TypeId} {fs : Array Field} {v : Value} (ht : P.underlying t = some (.struct fs)) (h : Value.okWide P W r b0 t v) : ∃ cs, v = .agg cs := by
  simp only [Value.okWide, ht] at h
  obtain ⟨cs, h, _⟩ := h
  exact ⟨cs, h⟩
/-- Terms that are read one by one lie in a row. -/
theorem open_kids {b off len : Nat} (h : ∀ i, i < len → ∃ t : HT, (W.cell? ⟨b, off + i * 3, none⟩ = some (.int .i64 t.k) ∧ W.cell? ⟨b, off + i * 3 + 1, none⟩ = some (.int .i64 t.n) ∧ W.cell? ⟨b, off + i * 3 + 2, none⟩ = some t.sl) ∧ Rd (fun _ => True) W t) :
    ∀ m, m ≤ len → ∃ ts : List HT, ts.length = m ∧ RdL (fun _ => True) W b (off + (len - m) * 3) ts
  | 0, _ => ⟨[], rfl, by simp [RdL]⟩
  | m + 1, hm => by
    obtain ⟨ts, hl, hr⟩ := open_kids h m (by omega)
    obtain ⟨t, hc, ht⟩ := h (len - (m + 1)) (by omega)
    refine ⟨t :: ts, by simp [hl], ?_⟩
    simp only [RdL]
    refine ⟨hc, ht, ?_⟩
    rw [show off + (len - (m + 1)) * 3 + 3 = off + (len - m) * 3 by omega]
    exact hr
theorem open_term {tT sT iT : TypeId} {f0 f1 f2 : Field} (hT : P.underlying tT = some (.struct #[f0, f1, f2])) (hS : P.underlying sT = some (.slice tT)) (hI : P.underlying iT = some (.int .i64))
    (hf : f0.type = iT ∧ f0.offset = 0 ∧ f1.type = iT ∧ f1.offset = 1 ∧ f2.type = sT ∧ f2.offset = 2 ∧ P.cellsOf tT = 3 ∧ P.cellsOf iT = 1 ∧ P.cellsOf sT = 1) :
    ∀ (fuel : Nat) (cs : List Value) (x : DataW H × List MemPlace), DataW.trod enc P W 0 sp hd fuel tT cs = some x → ∃ t : HT, cs = [.int .i64 t.k, .int .i64 t.n, t.sl] ∧ Rd (fun _ => True) W t := by
  obtain ⟨h0, o0, h1, o1, h2, o2, cT, cI, cS⟩ := hf
  intro fuel
  induction fuel using Nat.strongRecOn with | _ fuel ih =>
  intro cs x hx
  obtain ⟨xs, n, rfl, _, hlen, _, hfs⟩ := DataW.trod_struct hT hx
  rw [cT] at hlen
  obtain ⟨c0, c1, c2, rfl⟩ : ∃ c0 c1 c2, cs = [c0, c1, c2] := by
    match cs, hlen with
    | [c0, c1, c2], _ => exact ⟨c0, c1, c2, rfl⟩
  have hsz : xs.length = 3 := by rename_i h; simpa using h
  have g0 := hfs 0 f0 rfl
  have g1 := hfs 1 f1 rfl
  have g2 := hfs 2 f2 rfl
  rw [h0, o0, cI, List.getElem?_eq_getElem (by omega)] at g0
  rw [h1, o1, cI, List.getElem?_eq_getElem (by omega)] at g1
  rw [h2, o2, cS, List.getElem?_eq_getElem (by omega)] at g2
  obtain ⟨k, hk, _, _⟩ := DataW.trod_int hI g0
  obtain ⟨m, hm, _, _⟩ := DataW.trod_int hI g1
  simp at hk hm
  subst hk hm
  rcases DataW.trod_slice hS g2 with ⟨hc, _⟩ | ⟨a, len, cap, elems, rest, n', rfl, hc, _, _, hle, hcap, hel, hget, _, _⟩
  · simp at hc
    subst hc
    exact ⟨.mk k m none 0 [], rfl, Rd_none⟩
  · simp at hc
    subst hc
    have each : ∀ i, i < len → ∃ t : HT, (W.cell? (a.add (i * 3)) = some (.int .i64 t.k) ∧ W.cell? ((a.add (i * 3)).add 1) = some (.int .i64 t.n) ∧ W.cell? ((a.add (i * 3)).add 2) = some t.sl) ∧ Rd (fun _ => True) W t := by
      intro i hi
      have := hget i hi
      rw [cT, List.getElem?_eq_getElem (by omega)] at this
      obtain ⟨cs', hc1, hc2⟩ := Option.bind_eq_some_iff.1 this
      obtain ⟨t, rfl, ht⟩ := ih n' (by omega) _ _ hc2
      obtain ⟨_, _, hcell⟩ := World.cells?_some hc1
      exact ⟨t, ⟨by simpa [Addr.add] using hcell 0 (by omega), by simpa using hcell 1 (by omega), by simpa using hcell 2 (by omega)⟩, ht⟩
    have hmax : cap ≤ 9223372036854775807 := by simp only [maxLen] at hcap; omega
    rcases Nat.eq_zero_or_pos len with rfl | hpos
    · exact ⟨.mk k m (some a) cap [], rfl, Rd_none⟩
    · obtain ⟨t0, ⟨hz, _, _⟩, _⟩ := each 0 hpos
      obtain ⟨b, off, spot⟩ := a
      have hspot : spot = none := by simpa [Addr.add] using World.cell?_spot hz
      subst hspot
      obtain ⟨ts, hl, hr⟩ := open_kids (W := W) (b := b) (off := off) (len := len) (fun i hi => by
        obtain ⟨t, ⟨e0, e1, e2⟩, ht⟩ := each i hi
        rw [addr_add] at e0 e1 e2
        rw [addr_add] at e1 e2
        exact ⟨t, ⟨e0, e1, e2⟩, ht⟩) len (Nat.le_refl _)
      rw [Nat.sub_self, Nat.zero_mul, Nat.add_zero] at hr
      refine ⟨.mk k m (some ⟨b, off, none⟩) cap ts, ?_, Rd_mk (by omega) (by omega) trivial hr⟩
      simp only [HT.k, HT.n, HT.sl, HT.a, HT.kids, HT.cap, hl]
end
end Go.Proofs.Ytbkpfjabcohnpaa
