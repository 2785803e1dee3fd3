/- Places in terms, in the abstract run. -/
import Derived.Test.YthjbllfcelkajaaEvY
set_option linter.unusedVariables false
set_option linter.unusedSimpArgs false
namespace Go.Proofs.Ythjbllfcelkajaa
open Go Go.Ab Go.Dk
/-- The part at a place, and the first operands of the binders on the way. -/
def wkT : T → List Int → List T → Option (T × List T)
  | t, [], acc => some (t, acc)
  | t, i :: p, acc => if 0 ≤ i ∧ i < t.kids.length then wkT (kd t i.toNat) p (if i = 1 ∧ (t.k = 3 ∨ t.k = 4 ∨ t.k = 13) then acc ++ [kd t 0] else acc) else none
theorem wk_valid : ∀ (p : List Int) (t : T) (acc : List T) (u : T) (r : List T), validB t = true → (∀ x ∈ acc, validB x = true) → wkT t p acc = some (u, r) → validB u = true ∧ u.size + p.length ≤ t.size ∧ (∀ x ∈ r, validB x = true) ∧ r.length ≤ acc.length + p.length
  | [], t, acc, u, r, hv, ha, h => by
    simp only [wkT, Option.some.injEq, Prod.mk.injEq] at h
    obtain ⟨rfl, rfl⟩ := h
    exact ⟨hv, by simp, ha, by simp⟩
  | i :: p, t, acc, u, r, hv, ha, h => by
    rw [wkT] at h
    split at h
    · rename_i hi
      have hm : kd t i.toNat ∈ t.kids := kd_mem (by omega)
      have hk := validB_kid hv hm
      have hs := T.sizeL_mem hm
      have hz := T.size_eq t
      have hm0 : i = 1 → kd t 0 ∈ t.kids := fun _ => kd_mem (by omega)
      obtain ⟨h1, h2, h3, h4⟩ := wk_valid p _ _ u r hk (by
        intro x hx
        split at hx
        · rename_i hc
          rcases List.mem_append.1 hx with hx | hx
          · exact ha x hx
          · rw [List.mem_singleton.1 hx]; exact validB_kid hv (hm0 hc.1)
        · exact ha x hx) h
      refine ⟨h1, by simp only [List.length_cons]; omega, h3, ?_⟩
      refine Nat.le_trans h4 ?_
      split
      · simp only [List.length_append, List.length_cons, List.length_nil]; omega
      · simp only [List.length_cons]; omega
    · cases h
def wkR (t : T) (p : List Int) : (T × List T) × Bool := match wkT t p [] with
  | some r => (r, true)
  | none => ((.mk 0 0 [], []), false)
theorem getElem_kd {t : T} {i : Int} (h : 0 ≤ i ∧ i < t.kids.length) : t.kids[i.toNat]? = some (kd t i.toNat) := by
  unfold kd
  rw [List.getD_eq_getElem?_getD]
  rw [List.getElem?_eq_getElem (show i.toNat < t.kids.length by omega)]
  rfl
theorem f_under' {n : Nat} (hn : 2 ≤ n) (k i : Int) (hi : 0 ≤ i) : FF n 95 [nt k, nt i] [] = some ([nt (if i = 1 ∧ (k = 3 ∨ k = 4 ∨ k = 13) then 1 else 0)], []) := by
  obtain ⟨j, rfl⟩ : ∃ j : Nat, i = j := ⟨i.toNat, by omega⟩
  rw [f_under hn, und_cast]
theorem f_l2Under' {n : Nat} (hn : 2 ≤ n) (k i : Int) (hi : 0 ≤ i) : FF n 68 [nt k, nt i] [] = some ([nt (if i = 1 ∧ (k = 3 ∨ k = 4 ∨ k = 13) then 1 else 0)], []) := by
  obtain ⟨j, rfl⟩ : ∃ j : Nat, i = j := ⟨i.toNat, by omega⟩
  rw [f_l2Under hn, und_cast]
theorem wk_loop (n : Nat) (hn : 2 ≤ n) (z1 z2 : Int) (l0 : List T) (p : List Int) (hp : p.length ≤ 1048576) : ∀ g m (j : Nat) (t : T) (acc : List T), g < m → j + g = p.length → t.kids.length ≤ 1048576 → (∀ u ∈ t.kids, u.size ≤ 1048576) → t.size ≤ 4000000 → acc.length ≤ j →
    L_impl_walked_0_fo n m p p.length j t.k t.n t.kids z1 z2 l0 acc = (match wkT t (p.drop j) acc with
      | some r => some ([tm r.1, tms r.2, bl true], [])
      | none => some ([tm (.mk 0 0 []), tms [], bl false], []))
  | g, 0, j, t, acc, hg, _, _, _, _, _ => by omega
  | 0, m + 1, j, t, acc, _, hj, _, _, _, _ => by
    rw [L_impl_walked_0_fo_eq, decide_eq_false (show ¬ (j : Int) < (p.length : Int) by omega), List.drop_of_length_le (by omega)]
    rfl
  | g + 1, m + 1, j, t, acc, hg, hj, hl, hk, hs, ha => by
    have hlt : j < p.length := by omega
    rw [L_impl_walked_0_fo_eq, decide_eq_true (show (j : Int) < (p.length : Int) by omega), decide_eq_true (show 0 ≤ (j : Int) by omega), Int.toNat_natCast, List.getElem?_eq_getElem hlt, List.drop_eq_getElem_cons hlt, wkT]
    generalize p[j] = i
    simp only [cond_true, Option.bind_some]
    rw [f_within (by omega), wrap64 (show -9223372036854775808 ≤ (t.kids.length : Int) - 1 ∧ (t.kids.length : Int) - 1 ≤ 9223372036854775807 by omega)]
    simp only [Option.bind_some, c_rInt, c_rBool, c_rStr, c_rTs, c_rIs, c_rIss, c_rSs, c_rBs, c_rTerm, c_rOwnT, c_rOwn, c_rPtr, c_nilV, c_nilO, c_objC, c_dropC, c_intC, c_boolC, c_strC, c_tsC, c_isC, c_issC, c_ssC, c_bsC, c_anyC, c_nilC, c_arrTs, c_arrIs, c_arrIss, c_arrSs, c_arrBs, ik_self, nb_self, cond_true, cond_false, rTerm_tm, T.eta, mk_k, mk_n, mk_kids, Option.bind_none, Bool.not_true, Bool.not_false, Bool.true_and, Bool.and_true, Bool.and_false, Bool.false_and, Bool.and_self, decide_true, decide_false]
    by_cases hi : 0 ≤ i ∧ i < t.kids.length
    · rw [if_pos hi, decide_eq_true hi.1, decide_eq_true (show i ≤ (t.kids.length : Int) - 1 by omega)]
      simp only [Bool.and_self, Bool.not_true, cond_false]
      rw [f_under' hn _ _ hi.1]
      simp only [Option.bind_some, c_rInt, c_rBool, c_rStr, c_rTs, c_rIs, c_rIss, c_rSs, c_rBs, c_rTerm, c_rOwnT, c_rOwn, c_rPtr, c_nilV, c_nilO, c_objC, c_dropC, c_intC, c_boolC, c_strC, c_tsC, c_isC, c_issC, c_ssC, c_bsC, c_anyC, c_nilC, c_arrTs, c_arrIs, c_arrIss, c_arrSs, c_arrBs, ik_self, nb_self, cond_true, cond_false, rTerm_tm, T.eta, mk_k, mk_n, mk_kids, Option.bind_none, Bool.not_true, Bool.not_false, Bool.true_and, Bool.and_true, Bool.and_false, Bool.false_and, Bool.and_self, decide_true, decide_false]
      have hm : kd t i.toNat ∈ t.kids := kd_mem (by omega)
      have hz := hk _ hm
      have hz2 := T.size_eq (kd t i.toNat)
      have hz3 := T.sizeL_len (kd t i.toNat).kids
      have w : IntKind.i64.wrap ((j : Int) + 1) = ((j + 1 : Nat) : Int) := wrap64 (by omega)
      have nx := fun acc (h : acc.length ≤ j + 1) => wk_loop n hn z1 z2 l0 p hp g m (j + 1) (kd t i.toNat) acc (by omega) (by omega) (by omega) (fun u hu => by have := T.sizeL_mem hu; omega) (by omega) h
      by_cases hc : i = 1 ∧ (t.k = 3 ∨ t.k = 4 ∨ t.k = 13)
      · have h0 : t.kids[(0 : Int).toNat]? = some (kd t 0) := getElem_kd (i := 0) (by omega)
        rw [if_pos hc, if_pos hc, decide_eq_true (show (0 : Int) < 1 by omega), h0]
        simp only [cond_true, Option.bind_some]
        rw [roomB_ok (by simp; omega), getElem_kd hi, w]
        simp only [cond_true, Option.bind_some, T.eta]
        exact nx _ (by simp; omega)
      · rw [if_neg hc, if_neg hc, decide_eq_false (show ¬ (0 : Int) < 0 by omega)]
        simp only [cond_false]
        rw [getElem_kd hi, w]
        simp only [Option.bind_some]
        exact nx _ (by omega)
    · rw [if_neg hi]
      have : (decide (0 ≤ i) && decide (i ≤ (t.kids.length : Int) - 1)) = false := by
        rw [Bool.and_eq_false_iff, decide_eq_false_iff_not, decide_eq_false_iff_not]; omega
      rw [this]; rfl
theorem f_walked {n : Nat} {t : T} {p : List Int} (hn : p.length + 5 ≤ n) (hp : p.length ≤ 1048576) (hv : validB t = true) : FF n 69 [tm t, .one (.fr (.is p))] [] = some ([tm (wkR t p).1.1, tms (wkR t p).1.2, bl (wkR t p).2], []) := by
  obtain ⟨n, rfl⟩ := pos_succ (show 0 < n by omega)
  have hs := validB_size hv
  have h1 := T.size_eq t
  have h2 := T.sizeL_len t.kids
  rw [E_impl_walked, show (0 : Int) = ((0 : Nat) : Int) from rfl, wk_loop n (by omega) _ _ [] p hp p.length n 0 t [] (by omega) (by omega) (by omega) (fun u hu => by have := T.sizeL_mem hu; omega) (by omega) (by simp)]
  unfold wkR
  rw [List.drop_zero]
  cases wkT t p [] <;> rfl
theorem at_loop8 (n : Nat) (z1 z2 : Int) (l0 : List T) (p : List Int) (hp : p.length ≤ 1048576) : ∀ g m (j : Nat) (t : T) (acc : List T), g < m → j + g = p.length →
    L_spec_l8At_0_fo n m p j t.k t.n t.kids z1 z2 l0 = (match wkT t (p.drop j) acc with
      | some r => some ([tm r.1, bl true], [])
      | none => some ([tm (.mk 0 0 []), bl false], []))
  | g, 0, j, t, acc, hg, _ => by omega
  | 0, m + 1, j, t, acc, _, hj => by
    rw [L_spec_l8At_0_fo_eq, decide_eq_false (show ¬ (j : Int) < (p.length : Int) by omega), List.drop_of_length_le (by omega)]
    rfl
  | g + 1, m + 1, j, t, acc, hg, hj => by
    have hlt : j < p.length := by omega
    rw [L_spec_l8At_0_fo_eq, decide_eq_true (show (j : Int) < (p.length : Int) by omega), decide_eq_true (show 0 ≤ (j : Int) by omega), Int.toNat_natCast, List.getElem?_eq_getElem hlt, List.drop_eq_getElem_cons hlt, wkT]
    generalize p[j] = i
    simp only [cond_true, Option.bind_some]
    by_cases h0 : i < 0
    · rw [decide_eq_true h0, if_neg (by omega)]; rfl
    · rw [decide_eq_false h0]
      simp only [cond_false]
      by_cases h1 : (t.kids.length : Int) ≤ i
      · rw [decide_eq_true h1, if_neg (by omega)]; rfl
      · have w : IntKind.i64.wrap ((j : Int) + 1) = ((j + 1 : Nat) : Int) := wrap64 (by omega)
        rw [decide_eq_false h1, if_pos (by omega), decide_eq_true (show 0 ≤ i by omega), getElem_kd (by omega), w]
        simp only [cond_false, cond_true, Option.bind_some]
        exact at_loop8 n z1 z2 l0 p hp g m (j + 1) (kd t i.toNat) _ (by omega) (by omega)
theorem f_l8At {n : Nat} {t : T} {p : List Int} (hn : p.length + 5 ≤ n) (hp : p.length ≤ 1048576) : FF n 78 [tm t, .one (.fr (.is p))] [] = some ([tm (wkR t p).1.1, bl (wkR t p).2], []) := by
  obtain ⟨n, rfl⟩ := pos_succ (show 0 < n by omega)
  rw [E_spec_l8At, show (0 : Int) = ((0 : Nat) : Int) from rfl, at_loop8 n _ _ [] p hp p.length n 0 t [] (by omega) (by omega)]
  unfold wkR
  rw [List.drop_zero]
  cases wkT t p [] <;> rfl
/-- What TermAt hands back. -/
def taR (t : T) (p : List Int) : T × Bool := if validB t = true ∧ (wkR t p).2 = true then ((wkR t p).1.1, true) else (.mk 0 0 [], false)
theorem wkR_valid {t : T} {p : List Int} (hv : validB t = true) (h : (wkR t p).2 = true) : validB (wkR t p).1.1 = true ∧ (wkR t p).1.1.size + p.length ≤ t.size ∧ (∀ x ∈ (wkR t p).1.2, validB x = true) ∧ (wkR t p).1.2.length ≤ p.length := by
  unfold wkR at h ⊢
  cases hh : wkT t p [] with
  | none => rw [hh] at h; cases h
  | some r =>
    obtain ⟨h1, h2, h3, h4⟩ := wk_valid p t [] r.1 r.2 hv (by simp) hh
    exact ⟨h1, h2, h3, by simpa using h4⟩
theorem f_TermAtS {n : Nat} {t : T} {p : List Int} (hn : 4000000 ≤ n) (hp : p.length ≤ 1048576) (hz : t.size ≤ 1048577) : FF n 42 [tm t, .one (.fr (.is p))] [] = some ([tm (taR t p).1, bl (taR t p).2], []) := by
  obtain ⟨n, rfl⟩ := pos_succ (show 0 < n by omega)
  rw [E_spec_TermAt, f_TermValidS (by omega) (by omega)]
  unfold taR
  simp only [Option.bind_some, c_rInt, c_rBool, c_rStr, c_rTs, c_rIs, c_rIss, c_rSs, c_rBs, c_rTerm, c_rOwnT, c_rOwn, c_rPtr, c_nilV, c_nilO, c_objC, c_dropC, c_intC, c_boolC, c_strC, c_tsC, c_isC, c_issC, c_ssC, c_bsC, c_anyC, c_nilC, c_arrTs, c_arrIs, c_arrIss, c_arrSs, c_arrBs, ik_self, nb_self, cond_true, cond_false, rTerm_tm, T.eta, mk_k, mk_n, mk_kids, Option.bind_none, Bool.not_true, Bool.not_false, Bool.true_and, Bool.and_true, Bool.and_false, Bool.false_and, Bool.and_self, decide_true, decide_false]
  cases hv : validB t with
  | false => rfl
  | true =>
    simp only [Bool.not_true, cond_false]
    rw [f_l8At (by omega) hp]
    simp only [Option.bind_some, c_rInt, c_rBool, c_rStr, c_rTs, c_rIs, c_rIss, c_rSs, c_rBs, c_rTerm, c_rOwnT, c_rOwn, c_rPtr, c_nilV, c_nilO, c_objC, c_dropC, c_intC, c_boolC, c_strC, c_tsC, c_isC, c_issC, c_ssC, c_bsC, c_anyC, c_nilC, c_arrTs, c_arrIs, c_arrIss, c_arrSs, c_arrBs, ik_self, nb_self, cond_true, cond_false, rTerm_tm, T.eta, mk_k, mk_n, mk_kids, Option.bind_none, Bool.not_true, Bool.not_false, Bool.true_and, Bool.and_true, Bool.and_false, Bool.false_and, Bool.and_self, decide_true, decide_false]
    cases hw : (wkR t p).2 with
    | false => rfl
    | true =>
      have hs := validB_size (wkR_valid hv hw).1
      simp only [Bool.not_true, cond_false]
      rw [f_l1Copy _ (by omega) (by omega)]
      simp only [Option.bind_some, c_rInt, c_rBool, c_rStr, c_rTs, c_rIs, c_rIss, c_rSs, c_rBs, c_rTerm, c_rOwnT, c_rOwn, c_rPtr, c_nilV, c_nilO, c_objC, c_dropC, c_intC, c_boolC, c_strC, c_tsC, c_isC, c_issC, c_ssC, c_bsC, c_anyC, c_nilC, c_arrTs, c_arrIs, c_arrIss, c_arrSs, c_arrBs, ik_self, nb_self, cond_true, cond_false, rTerm_tm, T.eta, mk_k, mk_n, mk_kids, Option.bind_none, Bool.not_true, Bool.not_false, Bool.true_and, Bool.and_true, Bool.and_false, Bool.false_and, Bool.and_self, decide_true, decide_false]
      rfl
end Go.Proofs.Ythjbllfcelkajaa
