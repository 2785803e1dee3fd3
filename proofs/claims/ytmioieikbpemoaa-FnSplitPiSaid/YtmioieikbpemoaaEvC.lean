/- Conversion and traces in the abstract run. -/
import Derived.Test.YtmioieikbpemoaaEvY
import Derived.Test.YtmioieikbpemoaaCnv
set_option linter.unusedVariables false
set_option linter.unusedSimpArgs false
namespace Go.Proofs.Ytmioieikbpemoaa
open Go Go.Ab Go.Dk
theorem redF_size {inn : Bool} {g s : Nat} {t : T} (hv : validB t = true) : (redF inn g s t).1.size ≤ 400 := by
  induction g generalizing s t with
  | zero =>
    rw [redF]
    cases stT inn t with
    | none => exact validB_size hv
    | some u => simp [junk, T.size, T.sizeL]
  | succ g ih =>
    rw [redF]
    cases stT inn t with
    | none => exact validB_size hv
    | some u =>
      simp only
      cases hu : validB u with
      | false => simp [junk, T.size, T.sizeL]
      | true => exact ih hu
theorem redR_eq {inn : Bool} {t : T} {f : Int} (h : validB t = true ∧ 0 ≤ f ∧ f ≤ 200) : redR inn t f = redF inn f.toNat 0 t := if_pos h
theorem f_Convertible {n : Nat} {a b : T} {f : Int} (hn : 7000000 ≤ n) (ha : a.size ≤ 100000) (hb : b.size ≤ 100000) : FF n 40 [tm a, tm b, nt f] [] = some ([nt (convR a b f)], []) := by
  obtain ⟨n, rfl⟩ := pos_succ (show 0 < n by omega)
  rw [E_impl_Convertible, f_TermValid (by omega), f_TermValid (by omega), f_within (by omega), f_TermSame a (by omega) (by omega), f_Normalize (by omega), f_Normalize (by omega)]
  simp only [Option.bind_some, c_rInt, c_rBool, c_rStr, c_rTs, c_rIs, c_rIss, c_rSs, c_rBs, c_rTerm, c_rOwnT, c_rOwn, c_rPtr, c_nilV, c_nilO, c_objC, c_dropC, c_intC, c_boolC, c_strC, c_tsC, c_isC, c_issC, c_ssC, c_bsC, c_anyC, c_nilC, c_arrTs, c_arrIs, c_arrIss, c_arrSs, c_arrBs, ik_self, nb_self, cond_true, cond_false, rTerm_tm, T.eta, mk_k, mk_n, mk_kids, Option.bind_none, Bool.not_true, Bool.not_false, Bool.true_and, Bool.and_true, Bool.and_false, Bool.false_and, Bool.and_self, decide_true, decide_false]
  by_cases h : validB a = true ∧ validB b = true ∧ 0 ≤ f ∧ f ≤ 200
  · have e : (decide (0 ≤ f) && decide (f ≤ 200)) = true := by simp [h.2.2]
    have ra : redR false a f = redF false f.toNat 0 a := redR_eq ⟨h.1, h.2.2⟩
    have rb : redR false b f = redF false f.toNat 0 b := redR_eq ⟨h.2.1, h.2.2⟩
    have hz := redF_size (inn := false) (g := f.toNat) (s := 0) h.1
    rw [convR_pos h]
    simp only [h.1, h.2.1, e, Bool.not_true, cond_false, ra, rb, cond_ndec]
    unfold convC
    cases hs : T.beq a b with
    | true => rfl
    | false =>
      simp only [cond_false]
      rw [f_TermSame _ (by omega) (by omega)]
      simp only [Option.bind_some, c_rInt, c_rBool, c_rStr, c_rTs, c_rIs, c_rIss, c_rSs, c_rBs, c_rTerm, c_rOwnT, c_rOwn, c_rPtr, c_nilV, c_nilO, c_objC, c_dropC, c_intC, c_boolC, c_strC, c_tsC, c_isC, c_issC, c_ssC, c_bsC, c_anyC, c_nilC, c_arrTs, c_arrIs, c_arrIss, c_arrSs, c_arrBs, ik_self, nb_self, cond_true, cond_false, rTerm_tm, T.eta, mk_k, mk_n, mk_kids, Option.bind_none, Bool.not_true, Bool.not_false, Bool.true_and, Bool.and_true, Bool.and_false, Bool.false_and, Bool.and_self, decide_true, decide_false]
      by_cases c1 : (redF false f.toNat 0 a).2.2 = 0
      · by_cases c2 : (redF false f.toNat 0 b).2.2 = 0
        · cases hb2 : T.beq (redF false f.toNat 0 a).1 (redF false f.toNat 0 b).1 <;> simp [c1, c2]
        · simp [c1, c2]
      · simp [c1]
  · rw [show convR a b f = 0 from if_neg h]
    cases h1 : validB a with
    | false => simp
    | true =>
      cases h2 : validB b with
      | false => simp
      | true =>
        have e : (decide (0 ≤ f) && decide (f ≤ 200)) = false := by
          rw [← Bool.not_eq_true, Bool.and_eq_true, decide_eq_true_eq, decide_eq_true_eq]; exact fun hh => h ⟨h1, h2, hh⟩
        simp [e]
theorem f_l3Fits {n : Nat} {t : T} {f : Int} (hn : t.size + 10 ≤ n) (hz : t.size ≤ 1000000) : FF n 79 [tm t, nt f] [] = some ([bl (validB t && (decide (0 ≤ f) && decide (f ≤ 200)))], []) := by
  obtain ⟨n, rfl⟩ := pos_succ (show 0 < n by omega)
  rw [E_spec_l3Fits, f_TermValidS (by omega) hz]
  simp only [Option.bind_some, c_rInt, c_rBool, c_rStr, c_rTs, c_rIs, c_rIss, c_rSs, c_rBs, c_rTerm, c_rOwnT, c_rOwn, c_rPtr, c_nilV, c_nilO, c_objC, c_dropC, c_intC, c_boolC, c_strC, c_tsC, c_isC, c_issC, c_ssC, c_bsC, c_anyC, c_nilC, c_arrTs, c_arrIs, c_arrIss, c_arrSs, c_arrBs, ik_self, nb_self, cond_true, cond_false, rTerm_tm, T.eta, mk_k, mk_n, mk_kids, Option.bind_none, Bool.not_true, Bool.not_false, Bool.true_and, Bool.and_true, Bool.and_false, Bool.false_and, Bool.and_self, decide_true, decide_false]
  cases validB t
  · rfl
  · by_cases h : 0 ≤ f <;> simp [h]
theorem f_l4Conv {n : Nat} {a b : T} {g : Nat} (hn : 6000000 ≤ n) (ha : validB a = true) (hb : validB b = true) (hg : g ≤ 200) : FF n 80 [tm a, tm b, nt (g : Int)] [] = some ([nt (convC a b g)], []) := by
  obtain ⟨n, rfl⟩ := pos_succ (show 0 < n by omega)
  have za := validB_size ha
  have zb := validB_size hb
  have hz := redF_size (inn := false) (g := g) (s := 0) ha
  rw [E_spec_l4Conv, f_TermSameS a (by omega) (by omega), f_l3Norm (by omega) hg ha, f_l3Norm (by omega) hg hb]
  simp only [Option.bind_some, c_rInt, c_rBool, c_rStr, c_rTs, c_rIs, c_rIss, c_rSs, c_rBs, c_rTerm, c_rOwnT, c_rOwn, c_rPtr, c_nilV, c_nilO, c_objC, c_dropC, c_intC, c_boolC, c_strC, c_tsC, c_isC, c_issC, c_ssC, c_bsC, c_anyC, c_nilC, c_arrTs, c_arrIs, c_arrIss, c_arrSs, c_arrBs, ik_self, nb_self, cond_true, cond_false, rTerm_tm, T.eta, mk_k, mk_n, mk_kids, Option.bind_none, Bool.not_true, Bool.not_false, Bool.true_and, Bool.and_true, Bool.and_false, Bool.false_and, Bool.and_self, decide_true, decide_false, cond_ndec]
  unfold convC
  cases hs : T.beq a b with
  | true => rfl
  | false =>
    simp only [cond_false]
    rw [f_TermSameS _ (by omega) (by omega)]
    simp only [Option.bind_some, c_rInt, c_rBool, c_rStr, c_rTs, c_rIs, c_rIss, c_rSs, c_rBs, c_rTerm, c_rOwnT, c_rOwn, c_rPtr, c_nilV, c_nilO, c_objC, c_dropC, c_intC, c_boolC, c_strC, c_tsC, c_isC, c_issC, c_ssC, c_bsC, c_anyC, c_nilC, c_arrTs, c_arrIs, c_arrIss, c_arrSs, c_arrBs, ik_self, nb_self, cond_true, cond_false, rTerm_tm, T.eta, mk_k, mk_n, mk_kids, Option.bind_none, Bool.not_true, Bool.not_false, Bool.true_and, Bool.and_true, Bool.and_false, Bool.false_and, Bool.and_self, decide_true, decide_false]
    by_cases c1 : (redF false g 0 a).2.2 = 0
    · by_cases c2 : (redF false g 0 b).2.2 = 0
      · cases hb2 : T.beq (redF false g 0 a).1 (redF false g 0 b).1 <;> simp [c1, c2]
      · simp [c1, c2]
    · simp [c1]
theorem f_ConvertibleS {n : Nat} {a b : T} {f : Int} (hn : 7000000 ≤ n) (ha : a.size ≤ 100000) (hb : b.size ≤ 100000) : FF n 42 [tm a, tm b, nt f] [] = some ([nt (convR a b f)], []) := by
  obtain ⟨n, rfl⟩ := pos_succ (show 0 < n by omega)
  rw [E_spec_Convertible, f_l3Fits (by omega) (by omega), f_l3Fits (by omega) (by omega)]
  simp only [Option.bind_some, c_rInt, c_rBool, c_rStr, c_rTs, c_rIs, c_rIss, c_rSs, c_rBs, c_rTerm, c_rOwnT, c_rOwn, c_rPtr, c_nilV, c_nilO, c_objC, c_dropC, c_intC, c_boolC, c_strC, c_tsC, c_isC, c_issC, c_ssC, c_bsC, c_anyC, c_nilC, c_arrTs, c_arrIs, c_arrIss, c_arrSs, c_arrBs, ik_self, nb_self, cond_true, cond_false, rTerm_tm, T.eta, mk_k, mk_n, mk_kids, Option.bind_none, Bool.not_true, Bool.not_false, Bool.true_and, Bool.and_true, Bool.and_false, Bool.false_and, Bool.and_self, decide_true, decide_false]
  by_cases h : validB a = true ∧ validB b = true ∧ 0 ≤ f ∧ f ≤ 200
  · obtain ⟨g, rfl⟩ : ∃ g : Nat, f = g := ⟨f.toNat, by omega⟩
    have e : (decide (0 ≤ (g : Int)) && decide ((g : Int) ≤ 200)) = true := by simp; omega
    rw [convR_pos h, f_l4Conv (by omega) h.1 h.2.1 (by omega)]
    simp only [h.1, h.2.1, e, Option.bind_some, c_rInt, c_rBool, c_rStr, c_rTs, c_rIs, c_rIss, c_rSs, c_rBs, c_rTerm, c_rOwnT, c_rOwn, c_rPtr, c_nilV, c_nilO, c_objC, c_dropC, c_intC, c_boolC, c_strC, c_tsC, c_isC, c_issC, c_ssC, c_bsC, c_anyC, c_nilC, c_arrTs, c_arrIs, c_arrIss, c_arrSs, c_arrBs, ik_self, nb_self, cond_true, cond_false, rTerm_tm, T.eta, mk_k, mk_n, mk_kids, Option.bind_none, Bool.not_true, Bool.not_false, Bool.true_and, Bool.and_true, Bool.and_false, Bool.false_and, Bool.and_self, decide_true, decide_false, Int.toNat_natCast]
  · rw [show convR a b f = 0 from if_neg h]
    cases h1 : validB a with
    | false => simp
    | true =>
      cases h2 : validB b with
      | false => cases (decide (0 ≤ f) && decide (f ≤ 200)) <;> simp
      | true =>
        have e : (decide (0 ≤ f) && decide (f ≤ 200)) = false := by
          rw [← Bool.not_eq_true, Bool.and_eq_true, decide_eq_true_eq, decide_eq_true_eq]; exact fun hh => h ⟨h1, h2, hh⟩
        simp [e]
/-! Laws of conversion. -/
theorem conv_law {f : FuncId} {args : List V1} {C : Nat} (h : ∀ n, C ≤ n → Tot (FF n f args []) (fun r => r = ([bl true], []))) : Ev f args [] ([bl true], []) :=
  ⟨C, fun n hn => by obtain ⟨r, h1, rfl⟩ := h n hn; exact h1⟩
end Go.Proofs.Ytmioieikbpemoaa
