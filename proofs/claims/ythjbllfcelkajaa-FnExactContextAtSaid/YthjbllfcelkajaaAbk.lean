/- From the abstract run of a function to what its calls answer: values that stand in memory. -/
import Derived.Test.YthjbllfcelkajaaEvT
set_option linter.unusedVariables false
set_option linter.unusedSimpArgs false
namespace Go.Ab
open Go Go.Dk
theorem abs_call {P : Program} [DrM P] {S : Say} (hp : PrimsOK P S) (hib : ∀ f, S.D.ib f = true → extIB P f) {f : FuncId} {fn : Func} {n : Nat} {args outs : List V1} {vals : List Value} {w : World} {Z : Zone}
    (hfn : P.funcs[f]? = some fn) (hb : fn.body.isSome = true) (hr : All2 (RV1 [] Z w) args vals) (h : evF P S n f args [] = some (outs, [])) :
    Calls P f vals.toArray w fun e w' => ∃ xs : List Value, e = .returned (if h : xs.toArray.size = 1 then xs.toArray[0] else .tuple xs.toArray) ∧ Grow w w' ∧ All2 (RV1 [] (fun b => Z b ∨ w.heap.size ≤ b) w') outs xs := by
  have hr' : All2 (RV [] Z w) (args.map .v) vals := by
    refine ⟨by simpa using hr.1, fun i a b ha hb => ?_⟩
    rw [List.getElem?_map] at ha
    cases hx : args[i]? with
    | none => rw [hx] at ha; cases ha
    | some x =>
      rw [hx] at ha
      obtain rfl : AV.v x = a := Option.some.inj ha
      exact hr.2 i x b hx hb
  have h0 : InvG w noneZ Z 0 [] ⟨args.map .v, []⟩ vals w := by
    refine ⟨St.init w noneZ Z (relF_stable _ _ _) ⟨hr', All2.nil⟩, fun j _ hl => by simp at hl, fun k hk => hk.elim⟩
  have := abs_sound hp hib n f fn args [] _ hfn hb h w noneZ Z [] vals w h0
  refine this.mono fun e w' ⟨xs, G', he, hI, _⟩ => ?_
  have hG : G' = [] := hI.st.per.2.nil_inv
  subst hG
  have hs := relF_stable ⟨outs.map .v, []⟩ [] xs _ (fun b => Z b ∨ w.heap.size ≤ b) w' w' (fun b hb _ => ⟨hb.1, rfl⟩) hI.st.per
  refine ⟨xs, he, hI.st.ext, ?_⟩
  refine ⟨by simpa using hs.1.1, fun i a b ha hb => ?_⟩
  exact hs.1.2 i (.v a) b (by rw [List.getElem?_map, ha]; rfl) hb
/-- A row of terms, seen as the operands of one. -/
theorem terms_res {Z : Zone} {w : World} {ts : List T} {x : Value} (k n : Int) (h : SlR Z w (.ts ts) x) : ∃ u : HT, x = u.sl ∧ Rd Z w u ∧ u.er = .mk k n ts := by
  obtain ⟨a, cap, xs, rfl, hc, hm, ⟨hs, h1, h2, h3⟩, h4⟩ := h
  have hl : hs.length = ts.length := by rw [← h1]; simp
  refine ⟨.mk k n a cap hs, ?_, ?_, ?_⟩
  · simp only [HT.sl, HT.a, HT.kids, HT.cap, hl, SD.len]
  · rcases h4 with h4 | ⟨b, off, rfl, hz, hat⟩
    · have : hs = [] := by
        cases hs with
        | nil => rfl
        | cons t hs => rw [h4] at h2; simp [flatT_cons] at h2
      subst this
      exact Rd_none
    · simp only [SD.len, maxLen] at hc hm
      refine Rd_mk (by omega) (by omega) hz (RdL_of_cells hs off (fun j u hj => hat j u (by rw [h2]; exact hj)) h3)
  · rw [HT.er_eq]
    simp only [HT.k, HT.n, HT.kids, h1]
theorem term_res {Z : Zone} {w : World} {t : T} {x : Value} (h : RV1 [] Z w (.agg [.int .i64 t.k, .int .i64 t.n, .fr (.ts t.kids)]) x) : ∃ u : HT, x = u.val ∧ Rd Z w u ∧ u.er = t := by
  obtain ⟨xs, rfl, h1⟩ := h
  obtain ⟨a, xs, rfl, ha, h1⟩ := h1.cons_inv
  obtain ⟨b, xs, rfl, hb, h1⟩ := h1.cons_inv
  obtain ⟨c, xs, rfl, hc, h1⟩ := h1.cons_inv
  obtain rfl := h1.nil_inv
  obtain ⟨u, rfl, hu, he⟩ := terms_res t.k t.n hc.1
  obtain rfl : a = .int .i64 t.k := ha.1
  obtain rfl : b = .int .i64 t.n := hb.1
  have e1 : u.k = t.k := by rw [← HT.er_k, he]; rfl
  have e2 : u.n = t.n := by rw [← HT.er_n, he]; rfl
  refine ⟨u, ?_, hu, by rw [he]; cases t; rfl⟩
  rw [← e1, ← e2]
  cases u; rfl
theorem term_arg' {t : HT} {w : World} {Z : Zone} (h : Rd Z w t) : RV1 [] Z w (.agg [.int .i64 t.er.k, .int .i64 t.er.n, .fr (.ts t.er.kids)]) t.val := by
  refine ⟨[.int .i64 t.k, .int .i64 t.n, t.sl], ?_, All2.cons ?_ (All2.cons ?_ (All2.cons ⟨Rd_sl h, rfl⟩ All2.nil))⟩
  · cases t; rfl
  · rw [HT.er_k]; exact ⟨rfl, rfl⟩
  · rw [HT.er_n]; exact ⟨rfl, rfl⟩
theorem terms_arg {t : HT} {w : World} {Z : Zone} (h : Rd Z w t) : RV1 [] Z w (.one (.fr (.ts t.er.kids))) t.sl := ⟨Rd_sl h, fun _ => rfl⟩
theorem int_arg' {k : IntKind} {n : Int} {w : World} {Z : Zone} : RV1 [] Z w (.one (.int k n)) (.int k n) := ⟨rfl, fun _ => rfl⟩
theorem str_arg' {x : ByteArray} {w : World} {Z : Zone} : RV1 [] Z w (.one (.str x)) (.string x) := ⟨rfl, fun _ => rfl⟩
theorem ints_arg {l : List Int} {x : Value} {w : World} {Z : Zone} (h : SlR Z w (.is l) x) : RV1 [] Z w (.one (.fr (.is l))) x := ⟨h, fun _ => by obtain ⟨a, cap, xs, rfl, _⟩ := h; rfl⟩
theorem int_res {k : IntKind} {n : Int} {x : Value} {w : World} {Z : Zone} (h : RV1 [] Z w (.one (.int k n)) x) : x = .int k n := h.1
theorem bool_res {b : Bool} {x : Value} {w : World} {Z : Zone} (h : RV1 [] Z w (.one (.bool b)) x) : x = .bool b := h.1
end Go.Ab
namespace Go.Proofs.Ythjbllfcelkajaa
open Go Go.Ab
open Go.Dk (Rd HT Grow T)
set_option linter.unusedVariables false
set_option linter.unusedSimpArgs false
abbrev newZ (Z : Go.Dk.Zone) (w : World) : Go.Dk.Zone := fun b => Z b ∨ w.heap.size ≤ b
section
variable {f : FuncId} {fn : Func} {n : Nat} {args : List V1} {vals : List Value} {w : World} {Z : Go.Dk.Zone}
theorem ab_call {outs : List V1} (hfn : Try.prog.funcs[f]? = some fn) (hb : fn.body.isSome = true) (hr : All2 (RV1 [] Z w) args vals) (h : FF n f args [] = some (outs, [])) :
    Calls Try.prog f vals.toArray w fun e w' => ∃ xs : List Value, e = .returned (if h : xs.toArray.size = 1 then xs.toArray[0] else .tuple xs.toArray) ∧ Grow w w' ∧ All2 (RV1 [] (newZ Z w) w') outs xs :=
  abs_call hprim hib hfn hb hr h
theorem ab_bool {b : Bool} (hfn : Try.prog.funcs[f]? = some fn) (hb : fn.body.isSome = true) (hr : All2 (RV1 [] Z w) args vals) (h : FF n f args [] = some ([bl b], [])) :
    Calls Try.prog f vals.toArray w fun e w' => e = .returned (.bool b) ∧ Grow w w' :=
  (ab_call hfn hb hr h).mono fun e w' ⟨xs, he, hg, hx⟩ => by
    obtain ⟨x, xs, rfl, h1, hx⟩ := hx.cons_inv
    obtain rfl := hx.nil_inv
    obtain rfl := bool_res h1
    exact ⟨he, hg⟩
theorem ab_int {b : Int} (hfn : Try.prog.funcs[f]? = some fn) (hb : fn.body.isSome = true) (hr : All2 (RV1 [] Z w) args vals) (h : FF n f args [] = some ([nt b], [])) :
    Calls Try.prog f vals.toArray w fun e w' => e = .returned (.int .i64 b) ∧ Grow w w' :=
  (ab_call hfn hb hr h).mono fun e w' ⟨xs, he, hg, hx⟩ => by
    obtain ⟨x, xs, rfl, h1, hx⟩ := hx.cons_inv
    obtain rfl := hx.nil_inv
    obtain rfl := int_res h1
    exact ⟨he, hg⟩
/-- A term. -/
theorem ab_term {t : T} (hfn : Try.prog.funcs[f]? = some fn) (hb : fn.body.isSome = true) (hr : All2 (RV1 [] Z w) args vals) (h : FF n f args [] = some ([tm t], [])) :
    Calls Try.prog f vals.toArray w fun e w' => ∃ u : HT, e = .returned u.val ∧ Grow w w' ∧ Rd (newZ Z w) w' u ∧ u.er = t :=
  (ab_call hfn hb hr h).mono fun e w' ⟨xs, he, hg, hx⟩ => by
    obtain ⟨x, xs, rfl, h1, hx⟩ := hx.cons_inv
    obtain rfl := hx.nil_inv
    obtain ⟨u, rfl, hu, e1⟩ := term_res h1
    exact ⟨u, he, hg, hu, e1⟩
/-- A term and a truth. -/
theorem ab_term_bool {t : T} {b : Bool} (hfn : Try.prog.funcs[f]? = some fn) (hb : fn.body.isSome = true) (hr : All2 (RV1 [] Z w) args vals) (h : FF n f args [] = some ([tm t, bl b], [])) :
    Calls Try.prog f vals.toArray w fun e w' => ∃ u : HT, e = .returned (.tuple #[u.val, .bool b]) ∧ Grow w w' ∧ Rd (newZ Z w) w' u ∧ u.er = t :=
  (ab_call hfn hb hr h).mono fun e w' ⟨xs, he, hg, hx⟩ => by
    obtain ⟨x, xs, rfl, h1, hx⟩ := hx.cons_inv
    obtain ⟨y, xs, rfl, h2, hx⟩ := hx.cons_inv
    obtain rfl := hx.nil_inv
    obtain ⟨u, rfl, hu, e1⟩ := term_res h1
    obtain rfl := bool_res h2
    exact ⟨u, he, hg, hu, e1⟩
/-- Terms and a truth. -/
theorem ab_terms_bool {ts : List T} {b : Bool} (hfn : Try.prog.funcs[f]? = some fn) (hb : fn.body.isSome = true) (hr : All2 (RV1 [] Z w) args vals) (h : FF n f args [] = some ([tms ts, bl b], [])) :
    Calls Try.prog f vals.toArray w fun e w' => ∃ u : HT, e = .returned (.tuple #[u.sl, .bool b]) ∧ Grow w w' ∧ Rd (newZ Z w) w' u ∧ u.er = .mk 0 0 ts :=
  (ab_call hfn hb hr h).mono fun e w' ⟨xs, he, hg, hx⟩ => by
    obtain ⟨x, xs, rfl, h1, hx⟩ := hx.cons_inv
    obtain ⟨y, xs, rfl, h2, hx⟩ := hx.cons_inv
    obtain rfl := hx.nil_inv
    obtain ⟨u, rfl, hu, e1⟩ := terms_res 0 0 h1.1
    obtain rfl := bool_res h2
    exact ⟨u, he, hg, hu, e1⟩
/-- Terms, a term and a truth. -/
theorem ab_terms_term_bool {ts : List T} {t : T} {b : Bool} (hfn : Try.prog.funcs[f]? = some fn) (hb : fn.body.isSome = true) (hr : All2 (RV1 [] Z w) args vals) (h : FF n f args [] = some ([tms ts, tm t, bl b], [])) :
    Calls Try.prog f vals.toArray w fun e w' => ∃ u v : HT, e = .returned (.tuple #[u.sl, v.val, .bool b]) ∧ Grow w w' ∧ Rd (newZ Z w) w' u ∧ u.er = .mk 0 0 ts ∧ Rd (newZ Z w) w' v ∧ v.er = t :=
  (ab_call hfn hb hr h).mono fun e w' ⟨xs, he, hg, hx⟩ => by
    obtain ⟨x, xs, rfl, h1, hx⟩ := hx.cons_inv
    obtain ⟨y, xs, rfl, h2, hx⟩ := hx.cons_inv
    obtain ⟨z, xs, rfl, h3, hx⟩ := hx.cons_inv
    obtain rfl := hx.nil_inv
    obtain ⟨u, rfl, hu, e1⟩ := terms_res 0 0 h1.1
    obtain ⟨v, rfl, hv, e2⟩ := term_res h2
    obtain rfl := bool_res h3
    exact ⟨u, v, he, hg, hu, e1, hv, e2⟩
/-- A term, terms and a truth. -/
theorem ab_term_terms_bool {ts : List T} {t : T} {b : Bool} (hfn : Try.prog.funcs[f]? = some fn) (hb : fn.body.isSome = true) (hr : All2 (RV1 [] Z w) args vals) (h : FF n f args [] = some ([tm t, tms ts, bl b], [])) :
    Calls Try.prog f vals.toArray w fun e w' => ∃ v u : HT, e = .returned (.tuple #[v.val, u.sl, .bool b]) ∧ Grow w w' ∧ Rd (newZ Z w) w' v ∧ v.er = t ∧ Rd (newZ Z w) w' u ∧ u.er = .mk 0 0 ts :=
  (ab_call hfn hb hr h).mono fun e w' ⟨xs, he, hg, hx⟩ => by
    obtain ⟨x, xs, rfl, h1, hx⟩ := hx.cons_inv
    obtain ⟨y, xs, rfl, h2, hx⟩ := hx.cons_inv
    obtain ⟨z, xs, rfl, h3, hx⟩ := hx.cons_inv
    obtain rfl := hx.nil_inv
    obtain ⟨u, rfl, hu, e1⟩ := terms_res 0 0 h2.1
    obtain ⟨v, rfl, hv, e2⟩ := term_res h1
    obtain rfl := bool_res h3
    exact ⟨v, u, he, hg, hv, e2, hu, e1⟩
end
theorem i_within (a b c : Int) (w : World) : Calls Try.prog 59 #[.int .i64 a, .int .i64 b, .int .i64 c] w fun e w' => e = .returned (.bool (decide (b ≤ a) && decide (a ≤ c))) ∧ Grow w w' :=
  ab_bool (Z := Go.Dk.noneZ) Try.func59 (by kernel_rfl) (All2.cons int_arg' (All2.cons int_arg' (All2.cons int_arg' All2.nil))) (f_within (n := 1) (by omega) a b c)
theorem i_TermValid (t : HT) (Z : Go.Dk.Zone) (w : World) (hr : Rd Z w t) : Calls Try.prog 63 #[t.val] w fun e w' => e = .returned (.bool (validB t.er)) ∧ Grow w w' :=
  ab_bool Try.func63 (by kernel_rfl) (All2.cons (term_arg' hr) All2.nil) (f_TermValid (n := t.er.size + 6) (by omega))
theorem i_node2 (k : Int) (s : HT) (Z : Go.Dk.Zone) (w : World) (hr : Rd Z w s) : Calls Try.prog 74 #[.int .i64 k, s.sl] w fun e w' => ∃ u : HT, e = .returned u.val ∧ Grow w w' ∧ Rd (newZ Z w) w' u ∧ u.er = .mk k 0 s.er.kids :=
  ab_term Try.func74 (by kernel_rfl) (All2.cons int_arg' (All2.cons (terms_arg hr) All2.nil)) (f_node (n := 1) (by omega) k s.er.kids)
theorem i_variable (m : Int) (w : World) : Calls Try.prog 60 #[.int .i64 m] w fun e w' => ∃ u : HT, e = .returned u.val ∧ Grow w w' ∧ Rd (newZ Go.Dk.noneZ w) w' u ∧ u.er = .mk 1 m [] :=
  ab_term Try.func60 (by kernel_rfl) (All2.cons int_arg' All2.nil) (f_variable (n := 1) (by omega) m)
end Go.Proofs.Ythjbllfcelkajaa
