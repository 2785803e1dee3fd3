/- BindersAt by the abstract run. -/
import Derived.Test.YthjbllfcelkajaaPathW
set_option linter.unusedVariables false
set_option linter.unusedSimpArgs false
namespace Go.Proofs.Ythjbllfcelkajaa
open Go Go.Ab
open Go.Dk (Rd HT Grow T iF)
theorem wk_len : ∀ (p : List Int) (t : T) (acc : List T) (u : T) (r : List T), wkT t p acc = some (u, r) → acc.length ≤ r.length
  | [], t, acc, u, r, h => by
    simp only [wkT, Option.some.injEq, Prod.mk.injEq] at h
    rw [h.2]; exact Nat.le_refl _
  | i :: p, t, acc, u, r, h => by
    rw [wkT] at h
    split at h
    · have := wk_len p _ _ u r h
      split at this
      · simp only [List.length_append, List.length_cons, List.length_nil] at this; omega
      · exact this
    · cases h
theorem bn_loop (n : Nat) (hn : 5 ≤ n) (p : List Int) (hp : p.length ≤ 1048576) (R : T × List T) : ∀ g m (j : Nat) (t : T) (acc : List T), g < m → j + g = p.length → acc.length ≤ j → wkT t (p.drop j) acc = some R →
    L_spec_BindersAt_0 n m p acc.length j t.k t.n t.kids = some ([nt (R.2.length : Int), bl true], [])
  | g, 0, j, t, acc, hg, _, _, _ => by omega
  | 0, m + 1, j, t, acc, _, hj, ha, h => by
    rw [List.drop_of_length_le (by omega)] at h
    simp only [wkT, Option.some.injEq] at h
    subst h
    rw [L_spec_BindersAt_0_eq, decide_eq_false (show ¬ (j : Int) < (p.length : Int) by omega)]
    rfl
  | g + 1, m + 1, j, t, acc, hg, hj, ha, h => by
    have hlt : j < p.length := by omega
    rw [List.drop_eq_getElem_cons hlt, wkT] at h
    rw [L_spec_BindersAt_0_eq, decide_eq_true (show (j : Int) < (p.length : Int) by omega), decide_eq_true (show 0 ≤ (j : Int) by omega), Int.toNat_natCast, List.getElem?_eq_getElem hlt]
    generalize p[j] = i at h
    simp only [cond_true, Option.bind_some]
    by_cases hi : 0 ≤ i ∧ i < t.kids.length
    · rw [if_pos hi] at h
      rw [f_l2Under' (by omega) _ _ hi.1]
      simp only [Option.bind_some, c_rInt, c_rBool, c_rStr, c_rTs, c_rIs, c_rIss, c_rSs, c_rBs, c_rTerm, c_rOwnT, c_rOwn, c_rPtr, c_nilV, c_nilO, c_objC, c_dropC, c_intC, c_boolC, c_strC, c_tsC, c_isC, c_issC, c_ssC, c_bsC, c_anyC, c_nilC, c_arrTs, c_arrIs, c_arrIss, c_arrSs, c_arrBs, ik_self, nb_self, cond_true, cond_false, rTerm_tm, T.eta, mk_k, mk_n, mk_kids, Option.bind_none, Bool.not_true, Bool.not_false, Bool.true_and, Bool.and_true, Bool.and_false, Bool.false_and, Bool.and_self, decide_true, decide_false]
      rw [decide_eq_true hi.1, getElem_kd hi]
      simp only [cond_true, Option.bind_some]
      have w : IntKind.i64.wrap ((j : Int) + 1) = ((j + 1 : Nat) : Int) := wrap64 (by omega)
      rw [w]
      by_cases hc : i = 1 ∧ (t.k = 3 ∨ t.k = 4 ∨ t.k = 13)
      · rw [if_pos hc] at h ⊢
        have := bn_loop n hn p hp R g m (j + 1) (kd t i.toNat) (acc ++ [kd t 0]) (by omega) (by omega) (by simp; omega) h
        rw [wrap64 (show -9223372036854775808 ≤ (acc.length : Int) + 1 ∧ (acc.length : Int) + 1 ≤ 9223372036854775807 by omega), cast1, ← this]
        simp
      · rw [if_neg hc] at h ⊢
        have := bn_loop n hn p hp R g m (j + 1) (kd t i.toNat) acc (by omega) (by omega) (by omega) h
        rw [wrap64 (show -9223372036854775808 ≤ (acc.length : Int) + 0 ∧ (acc.length : Int) + 0 ≤ 9223372036854775807 by omega), Int.add_zero]
        exact this
    · rw [if_neg hi] at h; cases h
def bnR (t : T) (p : List Int) : Int × Bool := if validB t = true ∧ (wkR t p).2 = true then (((wkR t p).1.2.length : Int), true) else (0, false)
theorem f_BindersAtS {n : Nat} {t : T} {p : List Int} (hn : 5000000 ≤ n) (hp : p.length ≤ 1048576) (hz : t.size ≤ 1048577) : FF n 30 [tm t, .one (.fr (.is p))] [] = some ([nt (bnR t p).1, bl (bnR t p).2], []) := by
  obtain ⟨n, rfl⟩ := pos_succ (show 0 < n by omega)
  rw [E_spec_BindersAt, f_TermAtS (by omega) hp hz]
  simp only [Option.bind_some, c_rInt, c_rBool, c_rStr, c_rTs, c_rIs, c_rIss, c_rSs, c_rBs, c_rTerm, c_rOwnT, c_rOwn, c_rPtr, c_nilV, c_nilO, c_objC, c_dropC, c_intC, c_boolC, c_strC, c_tsC, c_isC, c_issC, c_ssC, c_bsC, c_anyC, c_nilC, c_arrTs, c_arrIs, c_arrIss, c_arrSs, c_arrBs, ik_self, nb_self, cond_true, cond_false, rTerm_tm, T.eta, mk_k, mk_n, mk_kids, Option.bind_none, Bool.not_true, Bool.not_false, Bool.true_and, Bool.and_true, Bool.and_false, Bool.false_and, Bool.and_self, decide_true, decide_false]
  unfold taR bnR
  by_cases h : validB t = true ∧ (wkR t p).2 = true
  · rw [if_pos h, if_pos h]
    simp only [Bool.not_true, cond_false]
    have hw := h.2
    unfold wkR at hw ⊢
    cases hh : wkT t p [] with
    | none => rw [hh] at hw; cases hw
    | some r =>
      have := bn_loop n (by omega) p hp r p.length n 0 t [] (by omega) (by omega) (by simp) (by rw [List.drop_zero]; exact hh)
      exact this
  · rw [if_neg h, if_neg h]; rfl
theorem f_BindersAt {n : Nat} {t : T} {p : List Int} (hn : 5000000 ≤ n) (hp : p.length ≤ 1048576) (hz : t.size ≤ 1048577) : FF n 32 [tm t, .one (.fr (.is p))] [] = some ([nt (bnR t p).1, bl (bnR t p).2], []) := by
  obtain ⟨n, rfl⟩ := pos_succ (show 0 < n by omega)
  rw [E_impl_BindersAt, f_TermValid (by omega)]
  simp only [Option.bind_some, c_rInt, c_rBool, c_rStr, c_rTs, c_rIs, c_rIss, c_rSs, c_rBs, c_rTerm, c_rOwnT, c_rOwn, c_rPtr, c_nilV, c_nilO, c_objC, c_dropC, c_intC, c_boolC, c_strC, c_tsC, c_isC, c_issC, c_ssC, c_bsC, c_anyC, c_nilC, c_arrTs, c_arrIs, c_arrIss, c_arrSs, c_arrBs, ik_self, nb_self, cond_true, cond_false, rTerm_tm, T.eta, mk_k, mk_n, mk_kids, Option.bind_none, Bool.not_true, Bool.not_false, Bool.true_and, Bool.and_true, Bool.and_false, Bool.false_and, Bool.and_self, decide_true, decide_false]
  unfold bnR
  cases hv : validB t with
  | false => rfl
  | true =>
    simp only [Bool.not_true, cond_false]
    rw [f_walked (by omega) hp hv]
    simp only [Option.bind_some, c_rInt, c_rBool, c_rStr, c_rTs, c_rIs, c_rIss, c_rSs, c_rBs, c_rTerm, c_rOwnT, c_rOwn, c_rPtr, c_nilV, c_nilO, c_objC, c_dropC, c_intC, c_boolC, c_strC, c_tsC, c_isC, c_issC, c_ssC, c_bsC, c_anyC, c_nilC, c_arrTs, c_arrIs, c_arrIss, c_arrSs, c_arrBs, ik_self, nb_self, cond_true, cond_false, rTerm_tm, T.eta, mk_k, mk_n, mk_kids, Option.bind_none, Bool.not_true, Bool.not_false, Bool.true_and, Bool.and_true, Bool.and_false, Bool.false_and, Bool.and_self, decide_true, decide_false]
    cases hw : (wkR t p).2 with
    | true => rfl
    | false =>
      have : (wkR t p).1.2 = [] := by
        unfold wkR at hw ⊢
        cases hh : wkT t p [] with
        | none => rfl
        | some r => rw [hh] at hw; cases hw
      rw [this]; rfl
section
variable {f : FuncId} {fn : Func} {n : Nat} {args : List V1} {vals : List Value} {w : World} {Z : Go.Dk.Zone}
theorem ab_int_bool {k : Int} {b : Bool} (hfn : Try.prog.funcs[f]? = some fn) (hb : fn.body.isSome = true) (hr : All2 (RV1 [] Z w) args vals) (h : FF n f args [] = some ([nt k, bl b], [])) :
    Calls Try.prog f vals.toArray w fun e w' => e = .returned (.tuple #[.int .i64 k, .bool b]) ∧ Grow w w' :=
  (ab_call hfn hb hr h).mono fun e w' ⟨xs, he, hg, hx⟩ => by
    obtain ⟨x, xs, rfl, h1, hx⟩ := hx.cons_inv
    obtain ⟨y, xs, rfl, h2, hx⟩ := hx.cons_inv
    obtain rfl := hx.nil_inv
    obtain rfl := int_res h1
    obtain rfl := bool_res h2
    exact ⟨he, hg⟩
end
theorem s_BindersAt (t : HT) (x : T) (et : t.er = x) (l : List Int) (a : Option Addr) (c : Nat) (hc : l.length ≤ c) (Z : Go.Dk.Zone) (w : World) (hr : Rd Z w t) (hi : iF a l Z w) (hs : T.sizeL x.kids ≤ 1048576) (hl : l.length ≤ 1048576) : Calls Try.prog 30 #[t.val, .slice a l.length c] w fun e w' => e = .returned (.tuple #[.int .i64 (bnR x l).1, .bool (bnR x l).2]) ∧ Grow w w' := by
  subst et
  exact ab_int_bool Try.func30 (by kernel_rfl) (All2.cons (term_arg' hr) (All2.cons (ints_arg (ints_to hc hl hi)) All2.nil)) (f_BindersAtS (n := 5000000) (by omega) hl (sizeT hs))
theorem i_BindersAt (t : HT) (x : T) (et : t.er = x) (l : List Int) (a : Option Addr) (c : Nat) (hc : l.length ≤ c) (Z : Go.Dk.Zone) (w : World) (hr : Rd Z w t) (hi : iF a l Z w) (hs : T.sizeL x.kids ≤ 1048576) (hl : l.length ≤ 1048576) : Calls Try.prog 32 #[t.val, .slice a l.length c] w fun e w' => e = .returned (.tuple #[.int .i64 (bnR x l).1, .bool (bnR x l).2]) ∧ Grow w w' := by
  subst et
  exact ab_int_bool Try.func32 (by kernel_rfl) (All2.cons (term_arg' hr) (All2.cons (ints_arg (ints_to hc hl hi)) All2.nil)) (f_BindersAt (n := 5000000) (by omega) hl (sizeT hs))
end Go.Proofs.Ythjbllfcelkajaa
