/- From the abstract run of a function to what its calls answer: values that stand in memory. -/
import Derived.Test.YtbkpfjabcohnpaaEvT
import Derived.Test.YtbkpfjabcohnpaaAb0
set_option linter.unusedVariables false
set_option linter.unusedSimpArgs false
namespace Go.Proofs.Ytbkpfjabcohnpaa
open Go Go.Ab
open Go.Dk (Rd HT Grow T)
set_option linter.unusedVariables false
set_option linter.unusedSimpArgs false
abbrev newZ (Z : Go.Dk.Zone) (w : World) : Go.Dk.Zone := fun b => Z b ∨ w.heap.size ≤ b
section
variable {f : FuncId} {fn : Func} {n : Nat} {args : List V1} {vals : List Value} {w : World} {Z : Go.Dk.Zone}
theorem ab_call {outs : List V1} (hfn : Try.prog.funcs[f]? = some fn) (hb : fn.body.isSome = true) (hr : All2 (RV1 [] Z w) args vals) (h : FF n f args [] = some (outs, [])) :
    Calls Try.prog f vals.toArray w fun e w' => ∃ xs : List Value, e = .returned (if h : xs.toArray.size = 1 then xs.toArray[0] else .tuple xs.toArray) ∧ Grow w w' ∧ All2 (RV1 [] (newZ Z w) w') outs xs :=
  abs_call hprim hib hfn hb hr h
theorem ab_bool {b : Bool} (hfn : Try.prog.funcs[f]? = some fn) (hb : fn.body.isSome = true) (hr : All2 (RV1 [] Z w) args vals) (h : FF n f args [] = some ([bl b], [])) :
    Calls Try.prog f vals.toArray w fun e w' => e = .returned (.bool b) ∧ Grow w w' :=
  (ab_call hfn hb hr h).mono fun e w' ⟨xs, he, hg, hx⟩ => by
    obtain ⟨x, xs, rfl, h1, hx⟩ := hx.cons_inv
    obtain rfl := hx.nil_inv
    obtain rfl := bool_res h1
    exact ⟨he, hg⟩
theorem ab_int {b : Int} (hfn : Try.prog.funcs[f]? = some fn) (hb : fn.body.isSome = true) (hr : All2 (RV1 [] Z w) args vals) (h : FF n f args [] = some ([nt b], [])) :
    Calls Try.prog f vals.toArray w fun e w' => e = .returned (.int .i64 b) ∧ Grow w w' :=
  (ab_call hfn hb hr h).mono fun e w' ⟨xs, he, hg, hx⟩ => by
    obtain ⟨x, xs, rfl, h1, hx⟩ := hx.cons_inv
    obtain rfl := hx.nil_inv
    obtain rfl := int_res h1
    exact ⟨he, hg⟩
/-- A term. -/
theorem ab_term {t : T} (hfn : Try.prog.funcs[f]? = some fn) (hb : fn.body.isSome = true) (hr : All2 (RV1 [] Z w) args vals) (h : FF n f args [] = some ([tm t], [])) :
    Calls Try.prog f vals.toArray w fun e w' => ∃ u : HT, e = .returned u.val ∧ Grow w w' ∧ Rd (newZ Z w) w' u ∧ u.er = t :=
  (ab_call hfn hb hr h).mono fun e w' ⟨xs, he, hg, hx⟩ => by
    obtain ⟨x, xs, rfl, h1, hx⟩ := hx.cons_inv
    obtain rfl := hx.nil_inv
    obtain ⟨u, rfl, hu, e1⟩ := term_res h1
    exact ⟨u, he, hg, hu, e1⟩
/-- A term and a truth. -/
theorem ab_term_bool {t : T} {b : Bool} (hfn : Try.prog.funcs[f]? = some fn) (hb : fn.body.isSome = true) (hr : All2 (RV1 [] Z w) args vals) (h : FF n f args [] = some ([tm t, bl b], [])) :
    Calls Try.prog f vals.toArray w fun e w' => ∃ u : HT, e = .returned (.tuple #[u.val, .bool b]) ∧ Grow w w' ∧ Rd (newZ Z w) w' u ∧ u.er = t :=
  (ab_call hfn hb hr h).mono fun e w' ⟨xs, he, hg, hx⟩ => by
    obtain ⟨x, xs, rfl, h1, hx⟩ := hx.cons_inv
    obtain ⟨y, xs, rfl, h2, hx⟩ := hx.cons_inv
    obtain rfl := hx.nil_inv
    obtain ⟨u, rfl, hu, e1⟩ := term_res h1
    obtain rfl := bool_res h2
    exact ⟨u, he, hg, hu, e1⟩
/-- Terms and a truth. -/
theorem ab_terms_bool {ts : List T} {b : Bool} (hfn : Try.prog.funcs[f]? = some fn) (hb : fn.body.isSome = true) (hr : All2 (RV1 [] Z w) args vals) (h : FF n f args [] = some ([tms ts, bl b], [])) :
    Calls Try.prog f vals.toArray w fun e w' => ∃ u : HT, e = .returned (.tuple #[u.sl, .bool b]) ∧ Grow w w' ∧ Rd (newZ Z w) w' u ∧ u.er = .mk 0 0 ts :=
  (ab_call hfn hb hr h).mono fun e w' ⟨xs, he, hg, hx⟩ => by
    obtain ⟨x, xs, rfl, h1, hx⟩ := hx.cons_inv
    obtain ⟨y, xs, rfl, h2, hx⟩ := hx.cons_inv
    obtain rfl := hx.nil_inv
    obtain ⟨u, rfl, hu, e1⟩ := terms_res 0 0 h1.1
    obtain rfl := bool_res h2
    exact ⟨u, he, hg, hu, e1⟩
/-- Terms, a term and a truth. -/
theorem ab_terms_term_bool {ts : List T} {t : T} {b : Bool} (hfn : Try.prog.funcs[f]? = some fn) (hb : fn.body.isSome = true) (hr : All2 (RV1 [] Z w) args vals) (h : FF n f args [] = some ([tms ts, tm t, bl b], [])) :
    Calls Try.prog f vals.toArray w fun e w' => ∃ u v : HT, e = .returned (.tuple #[u.sl, v.val, .bool b]) ∧ Grow w w' ∧ Rd (newZ Z w) w' u ∧ u.er = .mk 0 0 ts ∧ Rd (newZ Z w) w' v ∧ v.er = t :=
  (ab_call hfn hb hr h).mono fun e w' ⟨xs, he, hg, hx⟩ => by
    obtain ⟨x, xs, rfl, h1, hx⟩ := hx.cons_inv
    obtain ⟨y, xs, rfl, h2, hx⟩ := hx.cons_inv
    obtain ⟨z, xs, rfl, h3, hx⟩ := hx.cons_inv
    obtain rfl := hx.nil_inv
    obtain ⟨u, rfl, hu, e1⟩ := terms_res 0 0 h1.1
    obtain ⟨v, rfl, hv, e2⟩ := term_res h2
    obtain rfl := bool_res h3
    exact ⟨u, v, he, hg, hu, e1, hv, e2⟩
/-- A term, terms and a truth. -/
theorem ab_term_terms_bool {ts : List T} {t : T} {b : Bool} (hfn : Try.prog.funcs[f]? = some fn) (hb : fn.body.isSome = true) (hr : All2 (RV1 [] Z w) args vals) (h : FF n f args [] = some ([tm t, tms ts, bl b], [])) :
    Calls Try.prog f vals.toArray w fun e w' => ∃ v u : HT, e = .returned (.tuple #[v.val, u.sl, .bool b]) ∧ Grow w w' ∧ Rd (newZ Z w) w' v ∧ v.er = t ∧ Rd (newZ Z w) w' u ∧ u.er = .mk 0 0 ts :=
  (ab_call hfn hb hr h).mono fun e w' ⟨xs, he, hg, hx⟩ => by
    obtain ⟨x, xs, rfl, h1, hx⟩ := hx.cons_inv
    obtain ⟨y, xs, rfl, h2, hx⟩ := hx.cons_inv
    obtain ⟨z, xs, rfl, h3, hx⟩ := hx.cons_inv
    obtain rfl := hx.nil_inv
    obtain ⟨u, rfl, hu, e1⟩ := terms_res 0 0 h2.1
    obtain ⟨v, rfl, hv, e2⟩ := term_res h1
    obtain rfl := bool_res h3
    exact ⟨v, u, he, hg, hv, e2, hu, e1⟩
end
theorem i_within (a b c : Int) (w : World) : Calls Try.prog 38 #[.int .i64 a, .int .i64 b, .int .i64 c] w fun e w' => e = .returned (.bool (decide (b ≤ a) && decide (a ≤ c))) ∧ Grow w w' :=
  ab_bool (Z := Go.Dk.noneZ) Try.func38 (by kernel_rfl) (All2.cons int_arg' (All2.cons int_arg' (All2.cons int_arg' All2.nil))) (f_within (n := 1) (by omega) a b c)
theorem i_TermValid (t : HT) (Z : Go.Dk.Zone) (w : World) (hr : Rd Z w t) : Calls Try.prog 20 #[t.val] w fun e w' => e = .returned (.bool (validB t.er)) ∧ Grow w w' :=
  ab_bool Try.func20 (by kernel_rfl) (All2.cons (term_arg' hr) All2.nil) (f_TermValid (n := t.er.size + 6) (by omega))
end Go.Proofs.Ytbkpfjabcohnpaa
