/- From the abstract run of a law to what the law's call answers. No program in sight. -/
import Derived.Test.YtbkpfjabcohnpaaRes
import Derived.ChangeArms
import Derived.Deep.Slices
import Derived.Deep.Strs
import Derived.WalkKit
import Derived.ProofKit
import Derived.OpenShut
import Derived.ShutString
import Derived.ChangeOld
import Derived.Below
set_option linter.unusedVariables false
namespace Go.Ab
open Go Go.Dk
open Go.ChangeShapes Go.WideShapes Go.ChangeAt Go.RowKit

abbrev anyB : Zone := fun _ => True
theorem abs_law {P : Program} [DrM P] {S : Say} (hp : PrimsOK P S) (hib : ∀ f, S.D.ib f = true → extIB P f) {f : FuncId} {fn : Func} {n : Nat} {args : List V1} {vals : List Value} {w : World}
    (hfn : P.funcs[f]? = some fn) (hb : fn.body.isSome = true) (hr : All2 (RV [] anyB w) (args.map .v) vals) (h : evF P S n f args [] = some ([.one (.bool true)], [])) :
    Calls P f vals.toArray w fun e w' => e = .returned (.bool true) ∧ Grow w w' := by
  have h0 : InvG w noneZ anyB 0 [] ⟨args.map .v, []⟩ vals w := by
    refine ⟨St.init w noneZ anyB (relF_stable _ _ _) ⟨hr, All2.nil⟩, fun j _ hl => by simp at hl, fun k hk => trivial, ⟨w, trivial, fun g h => absurd h (Nat.not_lt_zero g)⟩⟩
  have := abs_sound hp hib n f fn args [] _ hfn hb h w noneZ anyB [] vals w h0
  refine this.mono fun e w' ⟨xs, G', he, hI, _⟩ => ?_
  obtain ⟨x, xs', rfl, h1, h2⟩ := hI.st.per.1.cons_inv
  obtain rfl := h2.nil_inv
  obtain rfl := bool_inv h1
  exact ⟨he, hI.st.ext⟩
theorem term_arg {t : HT} {w : World} (h : Rd anyB w t) : RV1 [] anyB w (.agg [.int .i64 t.er.k, .int .i64 t.er.n, .fr (.ts t.er.kids)]) t.val := by
  refine ⟨[.int .i64 t.k, .int .i64 t.n, t.sl], ?_, All2.cons ?_ (All2.cons ?_ (All2.cons ⟨Rd_sl h, rfl⟩ All2.nil))⟩
  · cases t; rfl
  · rw [HT.er_k]; exact int_one _ _
  · rw [HT.er_n]; exact int_one _ _
theorem bytes_arg {d : SD} {v : Value} {w : World} (h : SlR anyB w d v) : RV1 [] anyB w (.one (.fr d)) v := ⟨h, fun _ => by obtain ⟨a, cap, xs, rfl, _⟩ := h; rfl⟩
theorem str_arg {x : ByteArray} {w : World} : RV1 [] anyB w (.one (.str x)) (.string x) := ⟨rfl, fun _ => rfl⟩
theorem int_arg {k : IntKind} {n : Int} {w : World} : RV1 [] anyB w (.one (.int k n)) (.int k n) := ⟨rfl, fun _ => rfl⟩
theorem open_bytes {H : Type} {enc : TypeId × Value → H} {P : Program} {W : World} {base : Nat} {tB tU : TypeId} (hB : P.underlying tB = some (.slice tU)) (hU : P.underlying tU = some (.int .u8)) (hc : P.cellsOf tU = 1)
    {v : Value} {d : DataW H} {p : List MemPlace} (hval : Value.okWide P W .any base tB v) (h : DataW.Trod enc P W 0 (fun _ => true) true tB v d p) : ∃ l : List UInt8, SlR anyB W (.bs l) v := by
  obtain ⟨a1, len, cap, rfl⟩ := okWide_slice hB hval
  obtain ⟨fuel, hf⟩ := h
  rcases open_ints hB hU hc hf with ⟨hcs, hx⟩ | ⟨a, len', cap', zs, hcs, _, hl, hm, hz, hx, hcell, hwz⟩
  · simp [Value.cells] at hcs
    obtain ⟨rfl, rfl, rfl⟩ := hcs
    exact ⟨[], none, 0, [], rfl, Nat.zero_le _, Nat.zero_le _, rfl, .inl rfl⟩
  · simp [Value.cells] at hcs
    obtain ⟨rfl, rfl, rfl⟩ := hcs
    simp only [if_true] at hz
    refine ⟨(zs.take len).map (fun n : Int => UInt8.ofNat n.toNat), ?_⟩
    have hlen : ((zs.take len).map fun n => UInt8.ofNat n.toNat).length = len := by simp; omega
    by_cases h0 : len = 0
    · subst h0
      exact ⟨some a, cap, [], by simp [SD.len], Nat.zero_le _, Nat.zero_le _, by simp [ElemsR], .inl rfl⟩
    · obtain ⟨ab, ao, spot⟩ := a
      have hspot : spot = none := by simpa [Addr.add] using World.cell?_spot (hcell 0 (by omega))
      subst hspot
      refine ⟨some ⟨ab, ao, none⟩, cap, ((zs.take len).map (fun n : Int => UInt8.ofNat n.toNat)).map (fun c => Value.int .u8 ((UInt8.toNat c : Nat) : Int)), ?_, ?_, ?_, rfl, .inr ⟨ab, ao, rfl, trivial, fun i x hx => ?_⟩⟩
      · simp only [SD.len, hlen]
      · simp only [SD.len, hlen]; exact hl
      · simp only [SD.len, hlen]; exact Nat.le_trans hl hm
      · rw [List.getElem?_map, List.getElem?_map] at hx
        cases hzi : (zs.take len)[i]? with
        | none => rw [hzi] at hx; simp at hx
        | some n =>
          rw [hzi] at hx
          simp at hx
          subst hx
          have hil : i < len := by
            rcases Nat.lt_or_ge i len with h' | h'
            · exact h'
            · rw [List.getElem?_eq_none (by simp; omega)] at hzi; cases hzi
          have hzi' : zs[i]? = some n := by rw [List.getElem?_take_of_lt hil] at hzi; exact hzi
          have hc' := hcell i (by omega)
          rw [addr_add] at hc'
          rw [hc']
          have hn : zs.getD i 0 = n := by simp [List.getD, hzi']
          rw [hn]
          have hw := hwz n (List.mem_of_getElem? hzi')
          have hnn : 0 ≤ n ∧ n ≤ 255 := by
            simp [Lit.wf, IntKind.min, IntKind.max, IntKind.signed, IntKind.bits] at hw
            omega
          have hb : max n 0 % 256 = n := by omega
          rw [hb]
end Go.Ab
