/- Steps and normalizations in the abstract run. -/
import Derived.Test.YtmioieikbpemoaaEvX
set_option linter.unusedVariables false
set_option linter.unusedSimpArgs false
namespace Go.Proofs.Ytmioieikbpemoaa
open Go Go.Ab Go.Dk
theorem f_clone {n : Nat} (hn : 1 ≤ n) (l : List T) (hl : l.length ≤ 1000000) : FF n 121 [tms l] [] = some ([.one (.own 0 0)], [.arr termT (.ts l) 0 false]) := by
  obtain ⟨n, rfl⟩ := pos_succ (show 0 < n by omega)
  rw [E_slices_Clone]
  simp (disch := omega) only [List.nil_append, roomB_ok, cond_true]
  cases l with
  | nil => exact same_self _
  | cons a l => rfl
theorem at_loop (n : Nat) (w : List Nat) (l0 : List T) (hw : w.length ≤ 1000000) : ∀ g m (i : Nat) (t : T), g < m → i + g = w.length → wyOk t (w.drop i) → L_impl_at_0_fo n m (ins w) (w.length : Int) i t.k t.n t.kids 0 0 l0 = some ([tm (atT t (w.drop i))], [])
  | g, 0, i, t, hg, _, _ => by omega
  | 0, m + 1, i, t, _, hi, _ => by
    rw [L_impl_at_0_fo_eq, List.drop_of_length_le (by omega)]
    simp only [cond_dec, if_neg (show ¬ (i : Int) < w.length by omega), atT]
  | g + 1, m + 1, i, t, hg, hi, ho => by
    have hlt : i < w.length := by omega
    rw [List.drop_eq_getElem_cons hlt] at ho ⊢
    have hget : (ins w)[i]? = some ((w[i] : Nat) : Int) := by simp [ins, hlt]
    rw [L_impl_at_0_fo_eq]
    simp (disch := omega) only [cond_dec, Int.toNat_natCast, cast1, wrap64, if_pos (show (i : Int) < w.length by omega), if_pos (show 0 ≤ (i : Int) by omega), hget, Option.bind_some, if_pos (show 0 ≤ ((w[i] : Nat) : Int) by omega), kid_get ho.1]
    exact at_loop n w l0 hw g m (i + 1) (kd t w[i]) (by omega) (by omega) ho.2
theorem f_at {n : Nat} {t : T} {w : List Nat} (hn : w.length + 2 ≤ n) (hw : w.length ≤ 1000000) (ho : wyOk t w) : FF n 111 [tm t, .one (.fr (.is (ins w)))] [] = some ([tm (atT t w)], []) := by
  obtain ⟨n, rfl⟩ := pos_succ (show 0 < n by omega)
  rw [E_impl_at]
  have := at_loop n w [] hw w.length n 0 t (by omega) (by omega) ho
  simpa [ins] using this
theorem f_put (u : T) : ∀ (w : List Nat) {n : Nat} {t : T}, w.length + 3 ≤ n → t.size ≤ 1000000 → w.length ≤ 1000000 → wyOk t w → FF n 112 [tm t, .one (.fr (.is (ins w))), tm u] [] = some ([tm (puT t w u)], [])
  | [], n, t, hn, hz, hw, _ => by
    obtain ⟨n, rfl⟩ := pos_succ (show 0 < n by omega)
    rw [E_impl_put]; rfl
  | i :: w, n, t, hn, hz, hw, ho => by
    obtain ⟨n, rfl⟩ := pos_succ (show 0 < n by omega)
    simp only [List.length_cons] at hn hw
    have hsz := T.size_eq t
    have hl := T.sizeL_len t.kids
    have hk := T.sizeL_mem (kd_mem ho.1)
    have h1 := f_put u w (n := n) (t := kd t i) (by omega) (by omega) (by omega) ho.2
    rw [E_impl_put, f_clone (by omega) _ (by omega)]
    have hlen : ((ins (i :: w)).length : Int) = ((w.length + 1 : Nat) : Int) := by simp [ins]
    have hsl : ((ins (i :: w)).take (w.length + 1)).drop (1 : Int).toNat = ins w := by
      show (ins w).take w.length = ins w
      exact List.take_of_length_le (by simp [ins])
    have h0 : (ins (i :: w))[(0 : Int).toNat]? = some (i : Int) := rfl
    simp only [Option.bind_some, c_rInt, c_rBool, c_rStr, c_rTs, c_rIs, c_rIss, c_rSs, c_rBs, c_rTerm, c_rOwnT, c_rOwn, c_rPtr, c_nilV, c_nilO, c_objC, c_dropC, c_intC, c_boolC, c_strC, c_tsC, c_isC, c_issC, c_ssC, c_bsC, c_anyC, c_nilC, c_arrTs, c_arrIs, c_arrIss, c_arrSs, c_arrBs, ik_self, nb_self, cond_true, cond_false, rTerm_tm, T.eta, mk_k, mk_n, mk_kids, Option.bind_none, Bool.not_true, Bool.not_false, Bool.true_and, Bool.and_true, Bool.and_false, Bool.false_and, Bool.and_self, decide_true, decide_false, cond_dec, hsl, h0, hlen, if_neg (show ¬ ((w.length + 1 : Nat) : Int) = 0 by omega), if_pos (show 0 ≤ (i : Int) by omega), Int.toNat_natCast, kid_get ho.1, inB, decide_eq_true (show (0 : Int) ≤ 1 by omega), decide_eq_true (show (1 : Int) ≤ ((w.length + 1 : Nat) : Int) by omega), Int.le_refl, h1, if_pos (show (i : Int) < (t.kids.length : Int) by have := ho.1; omega)]
    rfl
theorem okT_valid {t : T} (h : validB t = true) : okT t = t := if_pos h
theorem okT_not {t : T} (h : validB t = false) : okT t = .mk 0 0 [] := if_neg (by simp [h])
theorem f_contracted {n : Nat} (hn : 4000000 ≤ n) {t : T} (hv : validB t = true) {inn : Bool} {w : List Nat} (hw : wyT inn t = some w) {u : T} (hu : stT inn t = some u) :
    FF n 96 [tm t, .one (.fr (.is (ins w)))] [] = some ([tm (okT u), bl (validB u)], []) := by
  obtain ⟨ho, hr, hs⟩ := wy_some hw
  rw [hs] at hu
  obtain rfl := Option.some.inj hu
  have hz := validB_size hv
  have hwl := wy_len hw
  have va := at_valid ho hv
  have hcz := con_size va hr
  obtain ⟨n, rfl⟩ := pos_succ (show 0 < n by omega)
  rw [E_impl_contracted]
  simp only [Option.bind_some, c_rInt, c_rBool, c_rStr, c_rTs, c_rIs, c_rIss, c_rSs, c_rBs, c_rTerm, c_rOwnT, c_rOwn, c_rPtr, c_nilV, c_nilO, c_objC, c_dropC, c_intC, c_boolC, c_strC, c_tsC, c_isC, c_issC, c_ssC, c_bsC, c_anyC, c_nilC, c_arrTs, c_arrIs, c_arrIss, c_arrSs, c_arrBs, ik_self, nb_self, cond_true, cond_false, rTerm_tm, T.eta, mk_k, mk_n, mk_kids, Option.bind_none, Bool.not_true, Bool.not_false, Bool.true_and, Bool.and_true, Bool.and_false, Bool.false_and, Bool.and_self, decide_true, decide_false, f_at (n := n) (by omega) (by omega) ho, f_contract (n := n) (by omega) va hr]
  cases hc : validB (contractT (atT t w)) with
  | false =>
    have : validB (puT t w (contractT (atT t w))) = false := by
      cases hp : validB (puT t w (contractT (atT t w))) with
      | false => rfl
      | true => rw [put_valid ho hp] at hc; cases hc
    simp only [Bool.not_false, cond_true, this, okT_not this]; rfl
  | true =>
    have hp := put_size (u := contractT (atT t w)) ho
    have hov := f_ownValid (n := n) (t := puT t w (contractT (atT t w))) (by omega) (by omega)
    simp only [Bool.not_true, cond_false, okT_valid hc, f_put (contractT (atT t w)) w (n := n) (by omega) (by omega) (by omega) ho, Option.bind_some, c_rInt, c_rBool, c_rStr, c_rTs, c_rIs, c_rIss, c_rSs, c_rBs, c_rTerm, c_rOwnT, c_rOwn, c_rPtr, c_nilV, c_nilO, c_objC, c_dropC, c_intC, c_boolC, c_strC, c_tsC, c_isC, c_issC, c_ssC, c_bsC, c_anyC, c_nilC, c_arrTs, c_arrIs, c_arrIss, c_arrSs, c_arrBs, ik_self, nb_self, cond_true, cond_false, rTerm_tm, T.eta, mk_k, mk_n, mk_kids, Option.bind_none, Bool.not_true, Bool.not_false, Bool.true_and, Bool.and_true, Bool.and_false, Bool.false_and, Bool.and_self, decide_true, decide_false, hov]
theorem wy_none_iff {inn : Bool} {t : T} : wyT inn t = none ↔ stT inn t = none := by
  constructor
  · exact wy_none
  · intro h
    cases hw : wyT inn t with
    | none => rfl
    | some w => rw [(wy_some hw).2.2] at h; cases h
/-- What a step hands back, for all terms. -/
def stepR (inn : Bool) (t : T) : T × Int := if validB t then oneR inn t else (.mk 0 0 [], 3)
theorem f_step_outer {n : Nat} {t : T} (hn : 5000000 + t.size ≤ n) : FF n 69 [tm t, .one (.fn 70 [])] [] = some ([tm (stepR false t).1, nt (stepR false t).2], []) := by
  obtain ⟨n, rfl⟩ := pos_succ (show 0 < n by omega)
  rw [E_impl_step_impl_outer, f_TermValid (by omega)]
  simp only [Option.bind_some, c_rInt, c_rBool, c_rStr, c_rTs, c_rIs, c_rIss, c_rSs, c_rBs, c_rTerm, c_rOwnT, c_rOwn, c_rPtr, c_nilV, c_nilO, c_objC, c_dropC, c_intC, c_boolC, c_strC, c_tsC, c_isC, c_issC, c_ssC, c_bsC, c_anyC, c_nilC, c_arrTs, c_arrIs, c_arrIss, c_arrSs, c_arrBs, ik_self, nb_self, cond_true, cond_false]
  unfold stepR
  cases hv : validB t with
  | false => rfl
  | true =>
    have hz := validB_size hv
    simp only [Bool.not_true, cond_false, f_outer t (n := n) (by omega) hv, Option.bind_some, c_rInt, c_rBool, c_rStr, c_rTs, c_rIs, c_rIss, c_rSs, c_rBs, c_rTerm, c_rOwnT, c_rOwn, c_rPtr, c_nilV, c_nilO, c_objC, c_dropC, c_intC, c_boolC, c_strC, c_tsC, c_isC, c_issC, c_ssC, c_bsC, c_anyC, c_nilC, c_arrTs, c_arrIs, c_arrIss, c_arrSs, c_arrBs, ik_self, nb_self, cond_true, cond_false, oneR, if_true]
    cases hw : wyT false t with
    | none =>
      rw [wy_none_iff.1 hw]
      simp only [Option.isSome_none, Bool.not_false, cond_true, f_own t (n := n) (by omega) (by omega), Option.bind_some, c_rInt, c_rBool, c_rStr, c_rTs, c_rIs, c_rIss, c_rSs, c_rBs, c_rTerm, c_rOwnT, c_rOwn, c_rPtr, c_nilV, c_nilO, c_objC, c_dropC, c_intC, c_boolC, c_strC, c_tsC, c_isC, c_issC, c_ssC, c_bsC, c_anyC, c_nilC, c_arrTs, c_arrIs, c_arrIss, c_arrSs, c_arrBs, ik_self, nb_self, cond_true, cond_false, rTerm_tm, T.eta, mk_k, mk_n, mk_kids, Option.bind_none, Bool.not_true, Bool.not_false, Bool.true_and, Bool.and_true, Bool.and_false, Bool.false_and, Bool.and_self, decide_true, decide_false]
    | some w =>
      have hs := (wy_some hw).2.2
      rw [hs]
      simp only [Option.isSome_some, Option.getD_some, Bool.not_true, cond_false, f_contracted (n := n) (by omega) hv hw hs, Option.bind_some, c_rInt, c_rBool, c_rStr, c_rTs, c_rIs, c_rIss, c_rSs, c_rBs, c_rTerm, c_rOwnT, c_rOwn, c_rPtr, c_nilV, c_nilO, c_objC, c_dropC, c_intC, c_boolC, c_strC, c_tsC, c_isC, c_issC, c_ssC, c_bsC, c_anyC, c_nilC, c_arrTs, c_arrIs, c_arrIss, c_arrSs, c_arrBs, ik_self, nb_self, cond_true, cond_false, rTerm_tm, T.eta, mk_k, mk_n, mk_kids, Option.bind_none, Bool.not_true, Bool.not_false, Bool.true_and, Bool.and_true, Bool.and_false, Bool.false_and, Bool.and_self, decide_true, decide_false]
      cases hc : validB (puT t w (contractT (atT t w))) with
      | false => rfl
      | true => simp [okT_valid hc]
theorem f_step_inner {n : Nat} {t : T} (hn : 5000000 + t.size ≤ n) : FF n 69 [tm t, .one (.fn 74 [])] [] = some ([tm (stepR true t).1, nt (stepR true t).2], []) := by
  obtain ⟨n, rfl⟩ := pos_succ (show 0 < n by omega)
  rw [E_impl_step_impl_inner, f_TermValid (by omega)]
  simp only [Option.bind_some, c_rInt, c_rBool, c_rStr, c_rTs, c_rIs, c_rIss, c_rSs, c_rBs, c_rTerm, c_rOwnT, c_rOwn, c_rPtr, c_nilV, c_nilO, c_objC, c_dropC, c_intC, c_boolC, c_strC, c_tsC, c_isC, c_issC, c_ssC, c_bsC, c_anyC, c_nilC, c_arrTs, c_arrIs, c_arrIss, c_arrSs, c_arrBs, ik_self, nb_self, cond_true, cond_false]
  unfold stepR
  cases hv : validB t with
  | false => rfl
  | true =>
    have hz := validB_size hv
    simp only [Bool.not_true, cond_false, f_inner t (n := n) (by omega) hv, Option.bind_some, c_rInt, c_rBool, c_rStr, c_rTs, c_rIs, c_rIss, c_rSs, c_rBs, c_rTerm, c_rOwnT, c_rOwn, c_rPtr, c_nilV, c_nilO, c_objC, c_dropC, c_intC, c_boolC, c_strC, c_tsC, c_isC, c_issC, c_ssC, c_bsC, c_anyC, c_nilC, c_arrTs, c_arrIs, c_arrIss, c_arrSs, c_arrBs, ik_self, nb_self, cond_true, cond_false, oneR, if_true]
    cases hw : wyT true t with
    | none =>
      rw [wy_none_iff.1 hw]
      simp only [Option.isSome_none, Bool.not_false, cond_true, f_own t (n := n) (by omega) (by omega), Option.bind_some, c_rInt, c_rBool, c_rStr, c_rTs, c_rIs, c_rIss, c_rSs, c_rBs, c_rTerm, c_rOwnT, c_rOwn, c_rPtr, c_nilV, c_nilO, c_objC, c_dropC, c_intC, c_boolC, c_strC, c_tsC, c_isC, c_issC, c_ssC, c_bsC, c_anyC, c_nilC, c_arrTs, c_arrIs, c_arrIss, c_arrSs, c_arrBs, ik_self, nb_self, cond_true, cond_false, rTerm_tm, T.eta, mk_k, mk_n, mk_kids, Option.bind_none, Bool.not_true, Bool.not_false, Bool.true_and, Bool.and_true, Bool.and_false, Bool.false_and, Bool.and_self, decide_true, decide_false]
    | some w =>
      have hs := (wy_some hw).2.2
      rw [hs]
      simp only [Option.isSome_some, Option.getD_some, Bool.not_true, cond_false, f_contracted (n := n) (by omega) hv hw hs, Option.bind_some, c_rInt, c_rBool, c_rStr, c_rTs, c_rIs, c_rIss, c_rSs, c_rBs, c_rTerm, c_rOwnT, c_rOwn, c_rPtr, c_nilV, c_nilO, c_objC, c_dropC, c_intC, c_boolC, c_strC, c_tsC, c_isC, c_issC, c_ssC, c_bsC, c_anyC, c_nilC, c_arrTs, c_arrIs, c_arrIss, c_arrSs, c_arrBs, ik_self, nb_self, cond_true, cond_false, rTerm_tm, T.eta, mk_k, mk_n, mk_kids, Option.bind_none, Bool.not_true, Bool.not_false, Bool.true_and, Bool.and_true, Bool.and_false, Bool.false_and, Bool.and_self, decide_true, decide_false]
      cases hc : validB (puT t w (contractT (atT t w))) with
      | false => rfl
      | true => simp [okT_valid hc]
theorem f_StepTerm {n : Nat} {t : T} (hn : 5000001 + t.size ≤ n) : FF n 30 [tm t] [] = some ([tm (stepR false t).1, nt (stepR false t).2], []) := by
  obtain ⟨n, rfl⟩ := pos_succ (show 0 < n by omega)
  rw [E_impl_StepTerm, f_step_outer (by omega)]
  simp only [Option.bind_some, c_rInt, c_rBool, c_rStr, c_rTs, c_rIs, c_rIss, c_rSs, c_rBs, c_rTerm, c_rOwnT, c_rOwn, c_rPtr, c_nilV, c_nilO, c_objC, c_dropC, c_intC, c_boolC, c_strC, c_tsC, c_isC, c_issC, c_ssC, c_bsC, c_anyC, c_nilC, c_arrTs, c_arrIs, c_arrIss, c_arrSs, c_arrBs, ik_self, nb_self, cond_true, cond_false, rTerm_tm, T.eta, mk_k, mk_n, mk_kids, Option.bind_none, Bool.not_true, Bool.not_false, Bool.true_and, Bool.and_true, Bool.and_false, Bool.false_and, Bool.and_self, decide_true, decide_false]
theorem f_StepInner {n : Nat} {t : T} (hn : 5000001 + t.size ≤ n) : FF n 35 [tm t] [] = some ([tm (stepR true t).1, nt (stepR true t).2], []) := by
  obtain ⟨n, rfl⟩ := pos_succ (show 0 < n by omega)
  rw [E_impl_StepInner, f_step_inner (by omega)]
  simp only [Option.bind_some, c_rInt, c_rBool, c_rStr, c_rTs, c_rIs, c_rIss, c_rSs, c_rBs, c_rTerm, c_rOwnT, c_rOwn, c_rPtr, c_nilV, c_nilO, c_objC, c_dropC, c_intC, c_boolC, c_strC, c_tsC, c_isC, c_issC, c_ssC, c_bsC, c_anyC, c_nilC, c_arrTs, c_arrIs, c_arrIss, c_arrSs, c_arrBs, ik_self, nb_self, cond_true, cond_false, rTerm_tm, T.eta, mk_k, mk_n, mk_kids, Option.bind_none, Bool.not_true, Bool.not_false, Bool.true_and, Bool.and_true, Bool.and_false, Bool.false_and, Bool.and_self, decide_true, decide_false]
theorem f_NormalTerm {n : Nat} {t : T} (hn : 5000001 + t.size ≤ n) : FF n 37 [tm t] [] = some ([bl (validB t && nfB t)], []) := by
  obtain ⟨n, rfl⟩ := pos_succ (show 0 < n by omega)
  rw [E_impl_NormalTerm, f_TermValid (by omega)]
  simp only [Option.bind_some, c_rInt, c_rBool, c_rStr, c_rTs, c_rIs, c_rIss, c_rSs, c_rBs, c_rTerm, c_rOwnT, c_rOwn, c_rPtr, c_nilV, c_nilO, c_objC, c_dropC, c_intC, c_boolC, c_strC, c_tsC, c_isC, c_issC, c_ssC, c_bsC, c_anyC, c_nilC, c_arrTs, c_arrIs, c_arrIss, c_arrSs, c_arrBs, ik_self, nb_self, cond_true, cond_false]
  cases hv : validB t with
  | false => rfl
  | true =>
    have hz := validB_size hv
    simp only [Bool.not_true, cond_false, f_outer t (n := n) (by omega) hv, Option.bind_some, c_rInt, c_rBool, c_rStr, c_rTs, c_rIs, c_rIss, c_rSs, c_rBs, c_rTerm, c_rOwnT, c_rOwn, c_rPtr, c_nilV, c_nilO, c_objC, c_dropC, c_intC, c_boolC, c_strC, c_tsC, c_isC, c_issC, c_ssC, c_bsC, c_anyC, c_nilC, c_arrTs, c_arrIs, c_arrIss, c_arrSs, c_arrBs, ik_self, nb_self, cond_true, cond_false, Bool.true_and]
    have h1 := @wy_none_iff false t
    have h2 := @st_none false t
    cases hw : wyT false t with
    | none => rw [h2.1 (h1.1 hw)]; rfl
    | some w =>
      have : nfB t = false := by
        cases hn : nfB t with
        | false => rfl
        | true => rw [h1.2 (h2.2 hn)] at hw; cases hw
      rw [this]; rfl
theorem red_loop (n : Nat) (hn : 5000000 ≤ n) (fuel : Nat) (hf : fuel ≤ 200) (l0 : List T) : ∀ g m (s : Nat) (t : T), g < m → s + g = fuel → validB t = true →
    L_impl_reduce_impl_outer_0_fo n m (fuel : Int) s t.k t.n t.kids 0 0 l0 = some ([tm (redF false g s t).1, nt ((redF false g s t).2.1 : Int), nt (redF false g s t).2.2], [])
  | g, 0, s, t, hg, _, _ => by omega
  | g, m + 1, s, t, hg, hs, hv => by
    have hz := validB_size hv
    rw [L_impl_reduce_impl_outer_0_fo_eq, f_outer t (n := n) (by omega) hv]
    simp only [Option.bind_some, c_rInt, c_rBool, c_rStr, c_rTs, c_rIs, c_rIss, c_rSs, c_rBs, c_rTerm, c_rOwnT, c_rOwn, c_rPtr, c_nilV, c_nilO, c_objC, c_dropC, c_intC, c_boolC, c_strC, c_tsC, c_isC, c_issC, c_ssC, c_bsC, c_anyC, c_nilC, c_arrTs, c_arrIs, c_arrIss, c_arrSs, c_arrBs, ik_self, nb_self, cond_true, cond_false]
    cases hw : wyT false t with
    | none =>
      have h0 := wy_none_iff.1 hw
      have : redF false g s t = (t, s, 0) := by cases g <;> rw [redF, h0]
      rw [this]
      simp only [Option.isSome_none, Bool.not_false, cond_true, f_own t (n := n) (by omega) (by omega), Option.bind_some, c_rInt, c_rBool, c_rStr, c_rTs, c_rIs, c_rIss, c_rSs, c_rBs, c_rTerm, c_rOwnT, c_rOwn, c_rPtr, c_nilV, c_nilO, c_objC, c_dropC, c_intC, c_boolC, c_strC, c_tsC, c_isC, c_issC, c_ssC, c_bsC, c_anyC, c_nilC, c_arrTs, c_arrIs, c_arrIss, c_arrSs, c_arrBs, ik_self, nb_self, cond_true, cond_false, rTerm_tm, T.eta, mk_k, mk_n, mk_kids, Option.bind_none, Bool.not_true, Bool.not_false, Bool.true_and, Bool.and_true, Bool.and_false, Bool.false_and, Bool.and_self, decide_true, decide_false]
    | some w =>
      have hst := (wy_some hw).2.2
      simp only [Option.isSome_some, Option.getD_some, Bool.not_true, cond_false, cond_dec]
      cases g with
      | zero =>
        rw [if_pos (by omega), redF, hst]; rfl
      | succ g =>
        rw [if_neg (by omega), f_contracted (n := n) (by omega) hv hw hst, redF, hst]
        simp only [Option.bind_some, c_rInt, c_rBool, c_rStr, c_rTs, c_rIs, c_rIss, c_rSs, c_rBs, c_rTerm, c_rOwnT, c_rOwn, c_rPtr, c_nilV, c_nilO, c_objC, c_dropC, c_intC, c_boolC, c_strC, c_tsC, c_isC, c_issC, c_ssC, c_bsC, c_anyC, c_nilC, c_arrTs, c_arrIs, c_arrIss, c_arrSs, c_arrBs, ik_self, nb_self, cond_true, cond_false, rTerm_tm, T.eta, mk_k, mk_n, mk_kids, Option.bind_none, Bool.not_true, Bool.not_false, Bool.true_and, Bool.and_true, Bool.and_false, Bool.false_and, Bool.and_self, decide_true, decide_false]
        cases hc : validB (puT t w (contractT (atT t w))) with
        | false => rfl
        | true =>
          simp (disch := omega) only [okT_valid hc, Bool.not_true, cond_false, if_true, wrap64, cast1]
          exact red_loop n hn fuel hf l0 g m (s + 1) _ (by omega) (by omega) hc
/-- What a normalization hands back: the term, the number of steps, the code. -/
def redR (inn : Bool) (t : T) (fuel : Int) : T × Nat × Int := if validB t = true ∧ 0 ≤ fuel ∧ fuel ≤ 200 then redF inn fuel.toNat 0 t else (.mk 0 0 [], 0, 3)
theorem f_reduce_outer {n : Nat} {t : T} {fuel : Int} (hn : 6000000 + t.size ≤ n) : FF n 75 [tm t, nt fuel, .one (.fn 70 [])] [] = some ([tm (redR false t fuel).1, nt ((redR false t fuel).2.1 : Int), nt (redR false t fuel).2.2], []) := by
  obtain ⟨n, rfl⟩ := pos_succ (show 0 < n by omega)
  rw [E_impl_reduce_impl_outer, f_TermValid (by omega)]
  simp only [Option.bind_some, c_rInt, c_rBool, c_rStr, c_rTs, c_rIs, c_rIss, c_rSs, c_rBs, c_rTerm, c_rOwnT, c_rOwn, c_rPtr, c_nilV, c_nilO, c_objC, c_dropC, c_intC, c_boolC, c_strC, c_tsC, c_isC, c_issC, c_ssC, c_bsC, c_anyC, c_nilC, c_arrTs, c_arrIs, c_arrIss, c_arrSs, c_arrBs, ik_self, nb_self, cond_true, cond_false]
  unfold redR
  cases hv : validB t with
  | false => simp [mk_k, mk_n, mk_kids]
  | true =>
    simp (disch := omega) only [Bool.not_true, cond_false, f_within, Option.bind_some, c_rInt, c_rBool, c_rStr, c_rTs, c_rIs, c_rIss, c_rSs, c_rBs, c_rTerm, c_rOwnT, c_rOwn, c_rPtr, c_nilV, c_nilO, c_objC, c_dropC, c_intC, c_boolC, c_strC, c_tsC, c_isC, c_issC, c_ssC, c_bsC, c_anyC, c_nilC, c_arrTs, c_arrIs, c_arrIss, c_arrSs, c_arrBs, ik_self, nb_self, cond_true, cond_false, true_and]
    by_cases hf : 0 ≤ fuel ∧ fuel ≤ 200
    · obtain ⟨f, rfl⟩ : ∃ f : Nat, fuel = f := ⟨fuel.toNat, by omega⟩
      rw [if_pos hf, decide_eq_true hf.1, decide_eq_true hf.2, Int.toNat_natCast]
      simp only [Bool.and_self, Bool.not_true, cond_false]
      exact red_loop n (by omega) f (by omega) [] f n 0 t (by omega) (by omega) hv
    · rw [if_neg hf]
      have : (decide (0 ≤ fuel) && decide (fuel ≤ 200)) = false := by
        rw [← Bool.not_eq_true, Bool.and_eq_true, decide_eq_true_eq, decide_eq_true_eq]; exact hf
      rw [this]; rfl
theorem f_Normalize {n : Nat} {t : T} {fuel : Int} (hn : 6000001 + t.size ≤ n) : FF n 36 [tm t, nt fuel] [] = some ([tm (redR false t fuel).1, nt (redR false t fuel).2.2], []) := by
  obtain ⟨n, rfl⟩ := pos_succ (show 0 < n by omega)
  rw [E_impl_Normalize, f_reduce_outer (by omega)]
  simp only [Option.bind_some, c_rInt, c_rBool, c_rStr, c_rTs, c_rIs, c_rIss, c_rSs, c_rBs, c_rTerm, c_rOwnT, c_rOwn, c_rPtr, c_nilV, c_nilO, c_objC, c_dropC, c_intC, c_boolC, c_strC, c_tsC, c_isC, c_issC, c_ssC, c_bsC, c_anyC, c_nilC, c_arrTs, c_arrIs, c_arrIss, c_arrSs, c_arrBs, ik_self, nb_self, cond_true, cond_false, rTerm_tm, T.eta, mk_k, mk_n, mk_kids, Option.bind_none, Bool.not_true, Bool.not_false, Bool.true_and, Bool.and_true, Bool.and_false, Bool.false_and, Bool.and_self, decide_true, decide_false]
theorem f_ReduceSteps {n : Nat} {t : T} {fuel : Int} (hn : 6000001 + t.size ≤ n) : FF n 39 [tm t, nt fuel] [] = some ([nt ((redR false t fuel).2.1 : Int), nt (redR false t fuel).2.2], []) := by
  obtain ⟨n, rfl⟩ := pos_succ (show 0 < n by omega)
  rw [E_impl_ReduceSteps, f_reduce_outer (by omega)]
  simp only [Option.bind_some, c_rInt, c_rBool, c_rStr, c_rTs, c_rIs, c_rIss, c_rSs, c_rBs, c_rTerm, c_rOwnT, c_rOwn, c_rPtr, c_nilV, c_nilO, c_objC, c_dropC, c_intC, c_boolC, c_strC, c_tsC, c_isC, c_issC, c_ssC, c_bsC, c_anyC, c_nilC, c_arrTs, c_arrIs, c_arrIss, c_arrSs, c_arrBs, ik_self, nb_self, cond_true, cond_false, rTerm_tm, T.eta, mk_k, mk_n, mk_kids, Option.bind_none, Bool.not_true, Bool.not_false, Bool.true_and, Bool.and_true, Bool.and_false, Bool.false_and, Bool.and_self, decide_true, decide_false]
/-! The reference's. -/
theorem with_loop (n : Nat) (ts : List T) (j : Nat) (u : T) (k0 n0 : Int) (z1 z2 : Int) (l : List T) (k1 n1 : Int) (hl : ts.length ≤ 1000000) (h : ∀ t ∈ ts, FF n 54 [tm t] [] = some (ow t)) :
    ∀ g m (i : Nat), g < m → i + g = ts.length → L_spec_l3With_0_ffoo n m (j : Int) i k0 n0 ts u.k u.n u.kids z1 z2 l k1 n1 ((ts.set j u).take i) = some ([tm (.mk k1 n1 (ts.set j u))], [])
  | g, 0, i, hg, _ => by omega
  | 0, m + 1, i, _, hi => by
    rw [L_spec_l3With_0_ffoo_eq]
    simp only [cond_dec, if_neg (show ¬ (i : Int) < ts.length by omega), List.take_of_length_le (show (ts.set j u).length ≤ i by rw [List.length_set]; omega)]; rfl
  | g + 1, m + 1, i, hg, hi => by
    have hlt : i < ts.length := by omega
    have hlt2 : i < (ts.set j u).length := by rw [List.length_set]; exact hlt
    have ht : ((ts.set j u).take i).length = i := by rw [List.length_take]; omega
    have ht1 : ((ts.set j u).take (i + 1)).length = i + 1 := by rw [List.length_take]; omega
    rw [L_spec_l3With_0_ffoo_eq]
    by_cases hj : i = j
    · have he : (ts.set j u)[i]'hlt2 = u := by subst hj; simp
      have := take_snoc hlt2
      rw [he] at this
      simp (disch := omega) only [cond_dec, if_pos (show (i : Int) < ts.length by omega), if_pos (show (i : Int) = j by omega), List.length_append, List.length_cons, List.length_nil, ht, ht1, roomB_ok, cond_true, T.eta, this, wrap64, cast1]
      exact with_loop n ts j u k0 n0 z1 z2 l k1 n1 hl h g m (i + 1) (by omega) (by omega)
    · have he : (ts.set j u)[i]'hlt2 = ts[i] := by rw [List.getElem_set_ne (fun e => hj e.symm)]
      have := take_snoc hlt2
      rw [he] at this
      simp (disch := omega) only [cond_dec, if_pos (show (i : Int) < ts.length by omega), if_neg (show ¬ (i : Int) = j by omega), if_pos (show 0 ≤ (i : Int) by omega), Int.toNat_natCast, List.getElem?_eq_getElem hlt, h _ (List.getElem_mem hlt), Option.bind_some, c_rInt, c_rBool, c_rStr, c_rTs, c_rIs, c_rIss, c_rSs, c_rBs, c_rTerm, c_rOwnT, c_rOwn, c_rPtr, c_nilV, c_nilO, c_objC, c_dropC, c_intC, c_boolC, c_strC, c_tsC, c_isC, c_issC, c_ssC, c_bsC, c_anyC, c_nilC, c_arrTs, c_arrIs, c_arrIss, c_arrSs, c_arrBs, ik_self, nb_self, cond_true, cond_false, rTerm_tm, T.eta, mk_k, mk_n, mk_kids, Option.bind_none, Bool.not_true, Bool.not_false, Bool.true_and, Bool.and_true, Bool.and_false, Bool.false_and, Bool.and_self, decide_true, decide_false, List.length_append, List.length_cons, List.length_nil, ht, ht1, roomB_ok, this, wrap64, cast1]
      exact with_loop n ts j u k0 n0 z1 z2 l k1 n1 hl h g m (i + 1) (by omega) (by omega)
theorem f_l3With {n : Nat} {t u : T} {j : Nat} (hn : t.size + 6 ≤ n) (hz : t.size ≤ 1000000) : FF n 110 [tm t, nt (j : Int), tm u] [] = some ([tm (.mk t.k t.n (t.kids.set j u))], []) := by
  obtain ⟨n, rfl⟩ := pos_succ (show 0 < n by omega)
  have hsz := T.size_eq t
  have hl := T.sizeL_len t.kids
  rw [E_spec_l3With]
  have := with_loop n t.kids j u t.k t.n 0 0 [] t.k t.n (by omega) (fun v hv => f_l1Copy v (by have := T.sizeL_mem hv; omega) (by have := T.sizeL_mem hv; omega)) t.kids.length n 0 (by omega) (by omega)
  simpa using this
theorem stL_size {inn : Bool} {t u : T} (hv : validB t = true) (h : stT inn t = some u) : u.size ≤ 400 + 160000 := by
  cases hw : wyT inn t with
  | none => rw [wy_none hw] at h; cases h
  | some w =>
    obtain ⟨ho, hr, hs⟩ := wy_some hw
    rw [hs] at h
    obtain rfl := Option.some.inj h
    have h1 := put_size (u := contractT (atT t w)) ho
    have h2 := con_size (at_valid ho hv) hr
    have h3 := validB_size hv
    omega
/-- A step, with what the reference hands back if there is none. -/
def stR (inn : Bool) (t : T) : T × Bool := match stT inn t with | some u => (u, true) | none => (t, false)
theorem st3_loop (n : Nat) (hn : 3000000 ≤ n) (inn : Bool) (t : T) (hv : validB t = true) (ts : List T) (hts : t.kids = ts) (hr0 : inn = true ∨ ¬ Rx t) (l0 : List T)
    (h : ∀ u ∈ ts, FF n 95 [tm u, bl inn] [] = some ([tm (stR inn u).1, bl (stR inn u).2], [])) :
    ∀ g m (i : Nat), g < m → i + g = ts.length → stL inn (ts.take i) = none → L_spec_l3Step_0_fo n m inn i t.k t.n ts 0 0 l0 = some ([tm (stR inn t).1, bl (stR inn t).2], [])
  | g, 0, i, hg, _, _ => by omega
  | 0, m + 1, i, _, hi, hno => by
    rw [List.take_of_length_le (by omega)] at hno
    have e : stT inn t = if inn = true ∧ Rx t then some (contractT t) else none := by
      cases t with | mk k n ts' =>
      have : ts' = ts := hts
      subst this
      rw [stT, hno]
      rcases hr0 with h1 | h1
      · rw [if_neg (by simp [h1])]
      · rw [if_neg (fun hh => h1 hh.2)]
    rw [L_spec_l3Step_0_fo_eq]
    simp only [cond_dec, if_neg (show ¬ (i : Int) < ts.length by omega)]
    unfold stR
    rw [e, ← hts]
    cases inn with
    | false => simp
    | true =>
      simp only [cond_true, true_and, f_l3Redex (show 1 ≤ n by omega) hv, Option.bind_some, c_rInt, c_rBool, c_rStr, c_rTs, c_rIs, c_rIss, c_rSs, c_rBs, c_rTerm, c_rOwnT, c_rOwn, c_rPtr, c_nilV, c_nilO, c_objC, c_dropC, c_intC, c_boolC, c_strC, c_tsC, c_isC, c_issC, c_ssC, c_bsC, c_anyC, c_nilC, c_arrTs, c_arrIs, c_arrIss, c_arrSs, c_arrBs, ik_self, nb_self, cond_true, cond_false, cond_ndec, redex0]
      by_cases hr : Rx t
      · simp only [hr, not_true_eq_false, if_false, if_true, f_l3Contract hn hv hr, Option.bind_some, c_rInt, c_rBool, c_rStr, c_rTs, c_rIs, c_rIss, c_rSs, c_rBs, c_rTerm, c_rOwnT, c_rOwn, c_rPtr, c_nilV, c_nilO, c_objC, c_dropC, c_intC, c_boolC, c_strC, c_tsC, c_isC, c_issC, c_ssC, c_bsC, c_anyC, c_nilC, c_arrTs, c_arrIs, c_arrIss, c_arrSs, c_arrBs, ik_self, nb_self, cond_true, cond_false, rTerm_tm, T.eta, mk_k, mk_n, mk_kids, Option.bind_none, Bool.not_true, Bool.not_false, Bool.true_and, Bool.and_true, Bool.and_false, Bool.false_and, Bool.and_self, decide_true, decide_false]
      · simp only [hr, not_false_eq_true, if_true, if_false]
  | g + 1, m + 1, i, hg, hi, hno => by
    have hlt : i < ts.length := by omega
    have hm := List.getElem_mem hlt
    have hz := validB_size hv
    have hsz := T.size_eq t
    have hl := T.sizeL_len t.kids
    rw [hts] at hsz hl
    have hap : ∀ (l : List T) (x : T) (r : List T), stL inn l = none → stL inn (l ++ x :: r) = (stL inn (x :: r)).map (l ++ ·) := by
      intro l x r
      induction l with
      | nil => intro _; simp
      | cons a l ih =>
        intro h
        rw [stL] at h
        rw [List.cons_append, stL]
        cases ha : stT inn a with
        | some v => rw [ha] at h; cases h
        | none =>
          rw [ha] at h
          simp only [Option.map_eq_none_iff] at h
          simp only
          rw [ih h, Option.map_map]; rfl
    rw [L_spec_l3Step_0_fo_eq]
    simp (disch := omega) only [cond_dec, Int.toNat_natCast, cast1, wrap64, if_pos (show (i : Int) < ts.length by omega), if_pos (show 0 ≤ (i : Int) by omega), List.getElem?_eq_getElem hlt, Option.bind_some]
    rw [h _ hm]
    simp only [Option.bind_some, c_rInt, c_rBool, c_rStr, c_rTs, c_rIs, c_rIss, c_rSs, c_rBs, c_rTerm, c_rOwnT, c_rOwn, c_rPtr, c_nilV, c_nilO, c_objC, c_dropC, c_intC, c_boolC, c_strC, c_tsC, c_isC, c_issC, c_ssC, c_bsC, c_anyC, c_nilC, c_arrTs, c_arrIs, c_arrIss, c_arrSs, c_arrBs, ik_self, nb_self, cond_true, cond_false, rTerm_tm, T.eta, mk_k, mk_n, mk_kids, Option.bind_none, Bool.not_true, Bool.not_false, Bool.true_and, Bool.and_true, Bool.and_false, Bool.false_and, Bool.and_self, decide_true, decide_false]
    cases hs : stT inn ts[i] with
    | none =>
      simp only [stR, hs, cond_false]
      refine st3_loop n hn inn t hv ts hts hr0 l0 h g m (i + 1) (by omega) (by omega) ?_
      rw [← take_snoc hlt, hap _ _ _ hno, stL, hs]; rfl
    | some v =>
      have hst : stT inn t = some (.mk t.k t.n (ts.set i v)) := by
        have hsl : stL inn ts = some (ts.set i v) := by
          conv => lhs; rw [← List.take_append_drop i ts, List.drop_eq_getElem_cons hlt]
          rw [hap _ _ _ hno, stL, hs]
          simp only [Option.map_some, Option.some.injEq]
          rw [List.set_eq_take_append_cons_drop, if_pos hlt]
        cases t with | mk k n ts' =>
        have : ts' = ts := hts
        subst this
        rw [stT, hsl]
        rcases hr0 with h1 | h1
        · rw [if_neg (by simp [h1])]; rfl
        · rw [if_neg (fun hh => h1 hh.2)]; rfl
      have hw := f_l3With (n := n) (t := t) (u := v) (j := i) (by omega) (by omega)
      simp only [tm, mk_k, mk_n, mk_kids, hts] at hw
      simp only [stR, hs, hst, cond_true]
      rw [hw]
      simp only [Option.bind_some, c_rInt, c_rBool, c_rStr, c_rTs, c_rIs, c_rIss, c_rSs, c_rBs, c_rTerm, c_rOwnT, c_rOwn, c_rPtr, c_nilV, c_nilO, c_objC, c_dropC, c_intC, c_boolC, c_strC, c_tsC, c_isC, c_issC, c_ssC, c_bsC, c_anyC, c_nilC, c_arrTs, c_arrIs, c_arrIss, c_arrSs, c_arrBs, ik_self, nb_self, cond_true, cond_false, rTerm_tm, T.eta, mk_k, mk_n, mk_kids, Option.bind_none, Bool.not_true, Bool.not_false, Bool.true_and, Bool.and_true, Bool.and_false, Bool.false_and, Bool.and_self, decide_true, decide_false]
      rfl
theorem f_l3Step (inn : Bool) (t : T) : ∀ {n : Nat}, 4000000 + t.size ≤ n → validB t = true → FF n 95 [tm t, bl inn] [] = some ([tm (stR inn t).1, bl (stR inn t).2], []) := by
  induction t using T.ind with | h t ih =>
  intro n hn hv
  have hsz := T.size_eq t
  have hl := T.sizeL_len t.kids
  obtain ⟨n, rfl⟩ := pos_succ (show 0 < n by omega)
  have key : (inn = true ∨ ¬ Rx t) → L_spec_l3Step_0_fo n n inn 0 t.k t.n t.kids 0 0 [] = some ([tm (stR inn t).1, bl (stR inn t).2], []) := fun h0 =>
    st3_loop n (by omega) inn t hv t.kids rfl h0 [] (fun u hu => ih u hu (by have := T.sizeL_mem hu; omega) (validB_kid hv hu)) t.kids.length n 0 (by omega) (by omega) (by simp [stL])
  rw [E_spec_l3Step]
  cases inn with
  | true => simp only [Bool.not_true, cond_false, key (.inl rfl)]
  | false =>
    simp only [Bool.not_false, cond_true, f_l3Redex (show 1 ≤ n by omega) hv, Option.bind_some, c_rInt, c_rBool, c_rStr, c_rTs, c_rIs, c_rIss, c_rSs, c_rBs, c_rTerm, c_rOwnT, c_rOwn, c_rPtr, c_nilV, c_nilO, c_objC, c_dropC, c_intC, c_boolC, c_strC, c_tsC, c_isC, c_issC, c_ssC, c_bsC, c_anyC, c_nilC, c_arrTs, c_arrIs, c_arrIss, c_arrSs, c_arrBs, ik_self, nb_self, cond_true, cond_false, cond_ndec, redex0]
    by_cases hr : Rx t
    · have e : stT false t = some (contractT t) := by
        cases t with | mk k n ts =>
        rw [stT, if_pos ⟨rfl, hr⟩]
      simp only [hr, not_true_eq_false, if_false, f_l3Contract (show 3000000 ≤ n by omega) hv hr, Option.bind_some, c_rInt, c_rBool, c_rStr, c_rTs, c_rIs, c_rIss, c_rSs, c_rBs, c_rTerm, c_rOwnT, c_rOwn, c_rPtr, c_nilV, c_nilO, c_objC, c_dropC, c_intC, c_boolC, c_strC, c_tsC, c_isC, c_issC, c_ssC, c_bsC, c_anyC, c_nilC, c_arrTs, c_arrIs, c_arrIss, c_arrSs, c_arrBs, ik_self, nb_self, cond_true, cond_false, rTerm_tm, T.eta, mk_k, mk_n, mk_kids, Option.bind_none, Bool.not_true, Bool.not_false, Bool.true_and, Bool.and_true, Bool.and_false, Bool.false_and, Bool.and_self, decide_true, decide_false, stR, e]
    · simp only [hr, not_false_eq_true, if_true, key (.inr hr)]
theorem f_l3One {n : Nat} {t : T} {inn : Bool} (hn : 4000500 + t.size ≤ n) (hv : validB t = true) : FF n 68 [tm t, bl inn] [] = some ([tm (oneR inn t).1, nt (oneR inn t).2], []) := by
  obtain ⟨n, rfl⟩ := pos_succ (show 0 < n by omega)
  have hz := validB_size hv
  rw [E_spec_l3One, f_l3Step inn t (by omega) hv]
  simp only [Option.bind_some, c_rInt, c_rBool, c_rStr, c_rTs, c_rIs, c_rIss, c_rSs, c_rBs, c_rTerm, c_rOwnT, c_rOwn, c_rPtr, c_nilV, c_nilO, c_objC, c_dropC, c_intC, c_boolC, c_strC, c_tsC, c_isC, c_issC, c_ssC, c_bsC, c_anyC, c_nilC, c_arrTs, c_arrIs, c_arrIss, c_arrSs, c_arrBs, ik_self, nb_self, cond_true, cond_false, rTerm_tm, T.eta, mk_k, mk_n, mk_kids, Option.bind_none, Bool.not_true, Bool.not_false, Bool.true_and, Bool.and_true, Bool.and_false, Bool.false_and, Bool.and_self, decide_true, decide_false]
  unfold oneR stR
  cases hs : stT inn t with
  | none =>
    have hc := f_l1Copy t (n := n) (by omega) (by omega)
    simp only [Bool.not_false, cond_true, hc, Option.bind_some, c_rInt, c_rBool, c_rStr, c_rTs, c_rIs, c_rIss, c_rSs, c_rBs, c_rTerm, c_rOwnT, c_rOwn, c_rPtr, c_nilV, c_nilO, c_objC, c_dropC, c_intC, c_boolC, c_strC, c_tsC, c_isC, c_issC, c_ssC, c_bsC, c_anyC, c_nilC, c_arrTs, c_arrIs, c_arrIss, c_arrSs, c_arrBs, ik_self, nb_self, cond_true, cond_false, rTerm_tm, T.eta, mk_k, mk_n, mk_kids, Option.bind_none, Bool.not_true, Bool.not_false, Bool.true_and, Bool.and_true, Bool.and_false, Bool.false_and, Bool.and_self, decide_true, decide_false]
  | some u =>
    have hu := stL_size hv hs
    simp only [Bool.not_true, cond_false, f_TermValidS (n := n) (t := u) (by omega) (by omega), Option.bind_some, c_rInt, c_rBool, c_rStr, c_rTs, c_rIs, c_rIss, c_rSs, c_rBs, c_rTerm, c_rOwnT, c_rOwn, c_rPtr, c_nilV, c_nilO, c_objC, c_dropC, c_intC, c_boolC, c_strC, c_tsC, c_isC, c_issC, c_ssC, c_bsC, c_anyC, c_nilC, c_arrTs, c_arrIs, c_arrIss, c_arrSs, c_arrBs, ik_self, nb_self, cond_true, cond_false, rTerm_tm, T.eta, mk_k, mk_n, mk_kids, Option.bind_none, Bool.not_true, Bool.not_false, Bool.true_and, Bool.and_true, Bool.and_false, Bool.false_and, Bool.and_self, decide_true, decide_false]
    cases validB u <;> rfl
theorem norm_loop (n : Nat) (hn : 5000000 ≤ n) (inn : Bool) (l0 : List T) : ∀ g m (t : T) (s : Nat), g < m → g ≤ 200 → validB t = true →
    L_spec_l3Norm_0_fo n m (g : Int) inn t.k t.n t.kids 0 0 l0 = some ([tm (redF inn g s t).1, nt (redF inn g s t).2.2], [])
  | g, 0, t, s, hg, _, _ => by omega
  | g, m + 1, t, s, hg, hf, hv => by
    have hz := validB_size hv
    rw [L_spec_l3Norm_0_fo_eq, f_l3One (n := n) (by omega) hv]
    simp only [Option.bind_some, c_rInt, c_rBool, c_rStr, c_rTs, c_rIs, c_rIss, c_rSs, c_rBs, c_rTerm, c_rOwnT, c_rOwn, c_rPtr, c_nilV, c_nilO, c_objC, c_dropC, c_intC, c_boolC, c_strC, c_tsC, c_isC, c_issC, c_ssC, c_bsC, c_anyC, c_nilC, c_arrTs, c_arrIs, c_arrIss, c_arrSs, c_arrBs, ik_self, nb_self, cond_true, cond_false, rTerm_tm, T.eta, mk_k, mk_n, mk_kids, Option.bind_none, Bool.not_true, Bool.not_false, Bool.true_and, Bool.and_true, Bool.and_false, Bool.false_and, Bool.and_self, decide_true, decide_false, cond_dec]
    unfold oneR
    cases hs : stT inn t with
    | none => cases g <;> simp [redF, hs]
    | some u =>
      cases g with
      | zero =>
        rw [redF, hs]
        cases hu : validB u <;> simp [hu, junk, mk_k, mk_n, mk_kids]
      | succ g =>
        rw [redF, hs]
        cases hu : validB u with
        | false => simp [hu, junk, mk_k, mk_n, mk_kids, show ¬ ((g : Int) + 1 < 1) by omega]
        | true =>
          have w : IntKind.i64.wrap (((g + 1 : Nat) : Int) - 1) = (g : Int) := by rw [wrap64 (by omega)]; omega
          simp only [hu, if_true, show ¬ (1 : Int) = 0 by decide, show ¬ (1 : Int) = 2 by decide, if_false, if_neg (show ¬ ((g + 1 : Nat) : Int) < 1 by omega), w]
          exact norm_loop n hn inn l0 g m u (s + 1) (by omega) (by omega) hu
theorem f_l3Norm {n : Nat} {t : T} {inn : Bool} {g : Nat} (hn : 5000001 ≤ n) (hg : g ≤ 200) (hv : validB t = true) : FF n 77 [tm t, nt (g : Int), bl inn] [] = some ([tm (redF inn g 0 t).1, nt (redF inn g 0 t).2.2], []) := by
  obtain ⟨n, rfl⟩ := pos_succ (show 0 < n by omega)
  rw [E_spec_l3Norm]
  exact norm_loop n (by omega) inn [] g n t 0 (by omega) hg hv
end Go.Proofs.Ytmioieikbpemoaa
