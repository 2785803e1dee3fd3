/- What functions answer, given fuel enough. -/
import Derived.Test.YtgabipdafaimhaaRun
import Derived.Test.YtgabipdafaimhaaLaw
set_option linter.unusedVariables false
set_option linter.unusedSimpArgs false
namespace Go.Proofs.Ytgabipdafaimhaa
open Go Go.Ab Go.Dk
/-- With fuel enough, f answers r. -/
def Ev (f : FuncId) (args : List V1) (h : List AObj) (r : List V1 × List AObj) : Prop := ∃ N, ∀ n, N ≤ n → FF n f args h = some r
theorem hib : ∀ f, SS.D.ib f = true → extIB Try.prog f := by
  intro f hf
  have : f = 44 := by
    show f = _
    have h : Nat.beq f 44 = true := hf
    exact Nat.eq_of_beq_eq_true h
  subst this
  exact XIB.out
theorem ev_law {f : FuncId} {fn : Func} {args : List V1} {vals : List Value} {w : World} (hp : PrimsOK Try.prog SS) (hfn : Try.prog.funcs[f]? = some fn) (hb : fn.body.isSome = true) (hr : All2 (RV [] anyB w) (args.map .v) vals)
    (h : Ev f args [] ([.one (.bool true)], [])) : Calls Try.prog f vals.toArray w fun e w' => e = .returned (.bool true) ∧ Grow w w' := by
  obtain ⟨N, h⟩ := h
  exact abs_law hp hib hfn hb hr (h N (Nat.le_refl N))
theorem Ev.of {f : FuncId} {args : List V1} {h : List AObj} {r : List V1 × List AObj} (N : Nat) (hh : ∀ n, N ≤ n → FF (n + 1) f args h = some r) : Ev f args h r :=
  ⟨N + 1, fun n hn => by obtain ⟨m, rfl⟩ : ∃ m, n = m + 1 := ⟨n - 1, by omega⟩; exact hh m (by omega)⟩
theorem wrap64 {a : Int} (h : -9223372036854775808 ≤ a ∧ a ≤ 9223372036854775807) : IntKind.i64.wrap a = a := IntWalk.i64_in _ h
theorem ik_self (a : IntKind) : ikEq a a = true := by simp [ikEq]
theorem nb_self (a : Nat) : Nat.beq a a = true := Nat.beq_refl a
theorem cond_dec {α : Type} (p : Prop) [Decidable p] (a b : α) : cond (decide p) a b = if p then a else b := by by_cases h : p <;> simp [h]
theorem cond_ndec {α : Type} (p : Prop) [Decidable p] (a b : α) : cond (!decide p) a b = if p then b else a := by by_cases h : p <;> simp [h]
theorem byte_bd (c : UInt8) : 0 ≤ (c.toNat : Int) ∧ (c.toNat : Int) ≤ 255 := by have := c.toNat_lt; omega
theorem byte_rt (c : UInt8) : UInt8.ofNat ((c.toNat : Int)).toNat = c := by simp
theorem byte_ok (c : UInt8) : (decide (0 ≤ (c.toNat : Int)) && decide ((c.toNat : Int) ≤ 255)) = true := by have := byte_bd c; simp; omega
theorem wrapB (c : UInt8) : IntKind.i64.wrap (c.toNat : Int) = c.toNat := wrap64 (by have := byte_bd c; omega)
end Go.Proofs.Ytgabipdafaimhaa
