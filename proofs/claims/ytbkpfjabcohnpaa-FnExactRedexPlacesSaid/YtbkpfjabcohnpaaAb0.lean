/- From the abstract run of a function to what its calls answer: values that stand in memory. No program in sight. -/
import Derived.Test.YtbkpfjabcohnpaaLaw
set_option linter.unusedVariables false
set_option linter.unusedSimpArgs false
namespace Go.Ab
open Go Go.Dk
theorem abs_call {P : Program} [DrM P] {S : Say} (hp : PrimsOK P S) (hib : ∀ f, S.D.ib f = true → extIB P f) {f : FuncId} {fn : Func} {n : Nat} {args outs : List V1} {vals : List Value} {w : World} {Z : Zone}
    (hfn : P.funcs[f]? = some fn) (hb : fn.body.isSome = true) (hr : All2 (RV1 [] Z w) args vals) (h : evF P S n f args [] = some (outs, [])) :
    Calls P f vals.toArray w fun e w' => ∃ xs : List Value, e = .returned (if h : xs.toArray.size = 1 then xs.toArray[0] else .tuple xs.toArray) ∧ Grow w w' ∧ All2 (RV1 [] (fun b => Z b ∨ w.heap.size ≤ b) w') outs xs := by
  have hr' : All2 (RV [] Z w) (args.map .v) vals := by
    refine ⟨by simpa using hr.1, fun i a b ha hb => ?_⟩
    rw [List.getElem?_map] at ha
    cases hx : args[i]? with
    | none => rw [hx] at ha; cases ha
    | some x =>
      rw [hx] at ha
      obtain rfl : AV.v x = a := Option.some.inj ha
      exact hr.2 i x b hx hb
  have h0 : InvG w noneZ Z 0 [] ⟨args.map .v, []⟩ vals w := by
    refine ⟨St.init w noneZ Z (relF_stable _ _ _) ⟨hr', All2.nil⟩, fun j _ hl => by simp at hl, fun k hk => hk.elim, ⟨w, trivial, fun g h => absurd h (Nat.not_lt_zero g)⟩⟩
  have := abs_sound hp hib n f fn args [] _ hfn hb h w noneZ Z [] vals w h0
  refine this.mono fun e w' ⟨xs, G', he, hI, _⟩ => ?_
  have hG : G' = [] := hI.st.per.2.nil_inv
  subst hG
  have hs := relF_stable ⟨outs.map .v, []⟩ [] xs _ (fun b => Z b ∨ w.heap.size ≤ b) w' w' (fun b hb _ => ⟨hb.1, rfl⟩) hI.st.per
  refine ⟨xs, he, hI.st.ext, ?_⟩
  refine ⟨by simpa using hs.1.1, fun i a b ha hb => ?_⟩
  exact hs.1.2 i (.v a) b (by rw [List.getElem?_map, ha]; rfl) hb
/-- A row of terms, seen as the operands of one. -/
theorem terms_res {Z : Zone} {w : World} {ts : List T} {x : Value} (k n : Int) (h : SlR Z w (.ts ts) x) : ∃ u : HT, x = u.sl ∧ Rd Z w u ∧ u.er = .mk k n ts := by
  obtain ⟨a, cap, xs, rfl, hc, hm, ⟨hs, h1, h2, h3⟩, h4⟩ := h
  have hl : hs.length = ts.length := by rw [← h1]; simp
  refine ⟨.mk k n a cap hs, ?_, ?_, ?_⟩
  · simp only [HT.sl, HT.a, HT.kids, HT.cap, hl, SD.len]
  · rcases h4 with h4 | ⟨b, off, rfl, hz, hat⟩
    · have : hs = [] := by
        cases hs with
        | nil => rfl
        | cons t hs => rw [h4] at h2; simp [flatT_cons] at h2
      subst this
      exact Rd_none
    · simp only [SD.len, maxLen] at hc hm
      refine Rd_mk (by omega) (by omega) hz (RdL_of_cells hs off (fun j u hj => hat j u (by rw [h2]; exact hj)) h3)
  · rw [HT.er_eq]
    simp only [HT.k, HT.n, HT.kids, h1]
theorem term_res {Z : Zone} {w : World} {t : T} {x : Value} (h : RV1 [] Z w (.agg [.int .i64 t.k, .int .i64 t.n, .fr (.ts t.kids)]) x) : ∃ u : HT, x = u.val ∧ Rd Z w u ∧ u.er = t := by
  obtain ⟨xs, rfl, h1⟩ := h
  obtain ⟨a, xs, rfl, ha, h1⟩ := h1.cons_inv
  obtain ⟨b, xs, rfl, hb, h1⟩ := h1.cons_inv
  obtain ⟨c, xs, rfl, hc, h1⟩ := h1.cons_inv
  obtain rfl := h1.nil_inv
  obtain ⟨u, rfl, hu, he⟩ := terms_res t.k t.n hc.1
  obtain rfl : a = .int .i64 t.k := ha.1
  obtain rfl : b = .int .i64 t.n := hb.1
  have e1 : u.k = t.k := by rw [← HT.er_k, he]; rfl
  have e2 : u.n = t.n := by rw [← HT.er_n, he]; rfl
  refine ⟨u, ?_, hu, by rw [he]; cases t; rfl⟩
  rw [← e1, ← e2]
  cases u; rfl
theorem term_arg' {t : HT} {w : World} {Z : Zone} (h : Rd Z w t) : RV1 [] Z w (.agg [.int .i64 t.er.k, .int .i64 t.er.n, .fr (.ts t.er.kids)]) t.val := by
  refine ⟨[.int .i64 t.k, .int .i64 t.n, t.sl], ?_, All2.cons ?_ (All2.cons ?_ (All2.cons ⟨Rd_sl h, rfl⟩ All2.nil))⟩
  · cases t; rfl
  · rw [HT.er_k]; exact ⟨rfl, rfl⟩
  · rw [HT.er_n]; exact ⟨rfl, rfl⟩
theorem terms_arg {t : HT} {w : World} {Z : Zone} (h : Rd Z w t) : RV1 [] Z w (.one (.fr (.ts t.er.kids))) t.sl := ⟨Rd_sl h, fun _ => rfl⟩
theorem int_arg' {k : IntKind} {n : Int} {w : World} {Z : Zone} : RV1 [] Z w (.one (.int k n)) (.int k n) := ⟨rfl, fun _ => rfl⟩
theorem str_arg' {x : ByteArray} {w : World} {Z : Zone} : RV1 [] Z w (.one (.str x)) (.string x) := ⟨rfl, fun _ => rfl⟩
theorem ints_arg {l : List Int} {x : Value} {w : World} {Z : Zone} (h : SlR Z w (.is l) x) : RV1 [] Z w (.one (.fr (.is l))) x := ⟨h, fun _ => by obtain ⟨a, cap, xs, rfl, _⟩ := h; rfl⟩
theorem int_res {k : IntKind} {n : Int} {x : Value} {w : World} {Z : Zone} (h : RV1 [] Z w (.one (.int k n)) x) : x = .int k n := h.1
theorem bool_res {b : Bool} {x : Value} {w : World} {Z : Zone} (h : RV1 [] Z w (.one (.bool b)) x) : x = .bool b := h.1
end Go.Ab
