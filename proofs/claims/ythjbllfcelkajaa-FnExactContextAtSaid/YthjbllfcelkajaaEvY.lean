/- Steps and normalizations in the abstract run. -/
import Derived.Test.YthjbllfcelkajaaEvX
set_option linter.unusedVariables false
set_option linter.unusedSimpArgs false
namespace Go.Proofs.Ythjbllfcelkajaa
open Go Go.Ab Go.Dk
theorem f_clone {n : Nat} (hn : 1 ≤ n) (l : List T) (hl : l.length ≤ 4000000) : FF n 100 [tms l] [] = some ([.one (.own 0 0)], [.arr termT (.ts l) 0 false]) := by
  obtain ⟨n, rfl⟩ := pos_succ (show 0 < n by omega)
  rw [E_slices_Clone]
  simp (disch := omega) only [List.nil_append, roomB_ok, cond_true]
  cases l with
  | nil => exact same_self _
  | cons a l => rfl
theorem at_loop (n : Nat) (w : List Nat) (l0 : List T) (hw : w.length ≤ 4000000) : ∀ g m (i : Nat) (t : T), g < m → i + g = w.length → wyOk t (w.drop i) → L_impl_at_0_fo n m (ins w) (w.length : Int) i t.k t.n t.kids 0 0 l0 = some ([tm (atT t (w.drop i))], [])
  | g, 0, i, t, hg, _, _ => by omega
  | 0, m + 1, i, t, _, hi, _ => by
    rw [L_impl_at_0_fo_eq, List.drop_of_length_le (by omega)]
    simp only [cond_dec, if_neg (show ¬ (i : Int) < w.length by omega), atT]
  | g + 1, m + 1, i, t, hg, hi, ho => by
    have hlt : i < w.length := by omega
    rw [List.drop_eq_getElem_cons hlt] at ho ⊢
    have hget : (ins w)[i]? = some ((w[i] : Nat) : Int) := by simp [ins, hlt]
    rw [L_impl_at_0_fo_eq]
    simp (disch := omega) only [cond_dec, Int.toNat_natCast, cast1, wrap64, if_pos (show (i : Int) < w.length by omega), if_pos (show 0 ≤ (i : Int) by omega), hget, Option.bind_some, if_pos (show 0 ≤ ((w[i] : Nat) : Int) by omega), kid_get ho.1]
    exact at_loop n w l0 hw g m (i + 1) (kd t w[i]) (by omega) (by omega) ho.2
theorem f_at {n : Nat} {t : T} {w : List Nat} (hn : w.length + 2 ≤ n) (hw : w.length ≤ 4000000) (ho : wyOk t w) : FF n 103 [tm t, .one (.fr (.is (ins w)))] [] = some ([tm (atT t w)], []) := by
  obtain ⟨n, rfl⟩ := pos_succ (show 0 < n by omega)
  rw [E_impl_at]
  have := at_loop n w [] hw w.length n 0 t (by omega) (by omega) ho
  simpa [ins] using this
theorem f_put (u : T) : ∀ (w : List Nat) {n : Nat} {t : T}, w.length + 3 ≤ n → t.size ≤ 4000000 → w.length ≤ 4000000 → wyOk t w → FF n 88 [tm t, .one (.fr (.is (ins w))), tm u] [] = some ([tm (puT t w u)], [])
  | [], n, t, hn, hz, hw, _ => by
    obtain ⟨n, rfl⟩ := pos_succ (show 0 < n by omega)
    rw [E_impl_put]; rfl
  | i :: w, n, t, hn, hz, hw, ho => by
    obtain ⟨n, rfl⟩ := pos_succ (show 0 < n by omega)
    simp only [List.length_cons] at hn hw
    have hsz := T.size_eq t
    have hl := T.sizeL_len t.kids
    have hk := T.sizeL_mem (kd_mem ho.1)
    have h1 := f_put u w (n := n) (t := kd t i) (by omega) (by omega) (by omega) ho.2
    rw [E_impl_put, f_clone (by omega) _ (by omega)]
    have hlen : ((ins (i :: w)).length : Int) = ((w.length + 1 : Nat) : Int) := by simp [ins]
    have hsl : ((ins (i :: w)).take (w.length + 1)).drop (1 : Int).toNat = ins w := by
      show (ins w).take w.length = ins w
      exact List.take_of_length_le (by simp [ins])
    have h0 : (ins (i :: w))[(0 : Int).toNat]? = some (i : Int) := rfl
    simp only [Option.bind_some, c_rInt, c_rBool, c_rStr, c_rTs, c_rIs, c_rIss, c_rSs, c_rBs, c_rTerm, c_rOwnT, c_rOwn, c_rPtr, c_nilV, c_nilO, c_objC, c_dropC, c_intC, c_boolC, c_strC, c_tsC, c_isC, c_issC, c_ssC, c_bsC, c_anyC, c_nilC, c_arrTs, c_arrIs, c_arrIss, c_arrSs, c_arrBs, ik_self, nb_self, cond_true, cond_false, rTerm_tm, T.eta, mk_k, mk_n, mk_kids, Option.bind_none, Bool.not_true, Bool.not_false, Bool.true_and, Bool.and_true, Bool.and_false, Bool.false_and, Bool.and_self, decide_true, decide_false, cond_dec, hsl, h0, hlen, if_neg (show ¬ ((w.length + 1 : Nat) : Int) = 0 by omega), if_pos (show 0 ≤ (i : Int) by omega), Int.toNat_natCast, kid_get ho.1, inB, decide_eq_true (show (0 : Int) ≤ 1 by omega), decide_eq_true (show (1 : Int) ≤ ((w.length + 1 : Nat) : Int) by omega), Int.le_refl, h1, if_pos (show (i : Int) < (t.kids.length : Int) by have := ho.1; omega)]
    rfl
theorem okT_valid {t : T} (h : validB t = true) : okT t = t := if_pos h
theorem okT_not {t : T} (h : validB t = false) : okT t = .mk 0 0 [] := if_neg (by simp [h])
theorem f_contracted {n : Nat} (hn : 4000000 ≤ n) {t : T} (hv : validB t = true) {inn : Bool} {w : List Nat} (hw : wyT inn t = some w) {u : T} (hu : stT inn t = some u) :
    FF n 91 [tm t, .one (.fr (.is (ins w)))] [] = some ([tm (okT u), bl (validB u)], []) := by
  obtain ⟨ho, hr, hs⟩ := wy_some hw
  rw [hs] at hu
  obtain rfl := Option.some.inj hu
  have hz := validB_size hv
  have hwl := wy_len hw
  have va := at_valid ho hv
  have hcz := con_size va hr
  obtain ⟨n, rfl⟩ := pos_succ (show 0 < n by omega)
  rw [E_impl_contracted]
  simp only [Option.bind_some, c_rInt, c_rBool, c_rStr, c_rTs, c_rIs, c_rIss, c_rSs, c_rBs, c_rTerm, c_rOwnT, c_rOwn, c_rPtr, c_nilV, c_nilO, c_objC, c_dropC, c_intC, c_boolC, c_strC, c_tsC, c_isC, c_issC, c_ssC, c_bsC, c_anyC, c_nilC, c_arrTs, c_arrIs, c_arrIss, c_arrSs, c_arrBs, ik_self, nb_self, cond_true, cond_false, rTerm_tm, T.eta, mk_k, mk_n, mk_kids, Option.bind_none, Bool.not_true, Bool.not_false, Bool.true_and, Bool.and_true, Bool.and_false, Bool.false_and, Bool.and_self, decide_true, decide_false, f_at (n := n) (by omega) (by omega) ho, f_contract (n := n) (by omega) va hr]
  cases hc : validB (contractT (atT t w)) with
  | false =>
    have : validB (puT t w (contractT (atT t w))) = false := by
      cases hp : validB (puT t w (contractT (atT t w))) with
      | false => rfl
      | true => rw [put_valid ho hp] at hc; cases hc
    simp only [Bool.not_false, cond_true, this, okT_not this]; rfl
  | true =>
    have hp := put_size (u := contractT (atT t w)) ho
    have hov := f_ownValid (n := n) (t := puT t w (contractT (atT t w))) (by omega) (by omega)
    simp only [Bool.not_true, cond_false, okT_valid hc, f_put (contractT (atT t w)) w (n := n) (by omega) (by omega) (by omega) ho, Option.bind_some, c_rInt, c_rBool, c_rStr, c_rTs, c_rIs, c_rIss, c_rSs, c_rBs, c_rTerm, c_rOwnT, c_rOwn, c_rPtr, c_nilV, c_nilO, c_objC, c_dropC, c_intC, c_boolC, c_strC, c_tsC, c_isC, c_issC, c_ssC, c_bsC, c_anyC, c_nilC, c_arrTs, c_arrIs, c_arrIss, c_arrSs, c_arrBs, ik_self, nb_self, cond_true, cond_false, rTerm_tm, T.eta, mk_k, mk_n, mk_kids, Option.bind_none, Bool.not_true, Bool.not_false, Bool.true_and, Bool.and_true, Bool.and_false, Bool.false_and, Bool.and_self, decide_true, decide_false, hov]
theorem wy_none_iff {inn : Bool} {t : T} : wyT inn t = none ↔ stT inn t = none := by
  constructor
  · exact wy_none
  · intro h
    cases hw : wyT inn t with
    | none => rfl
    | some w => rw [(wy_some hw).2.2] at h; cases h
/-- What a step hands back, for all terms. -/
def stepR (inn : Bool) (t : T) : T × Int := if validB t then oneR inn t else (.mk 0 0 [], 3)
/-- What a normalization hands back: the term, the number of steps, the code. -/
def redR (inn : Bool) (t : T) (fuel : Int) : T × Nat × Int := if validB t = true ∧ 0 ≤ fuel ∧ fuel ≤ 200 then redF inn fuel.toNat 0 t else (.mk 0 0 [], 0, 3)
/-! The reference's. -/
theorem with_loop (n : Nat) (ts : List T) (j : Nat) (u : T) (k0 n0 : Int) (z1 z2 : Int) (l : List T) (k1 n1 : Int) (hl : ts.length ≤ 4000000) (h : ∀ t ∈ ts, FF n 62 [tm t] [] = some (ow t)) :
    ∀ g m (i : Nat), g < m → i + g = ts.length → L_spec_l3With_0_ffoo n m (j : Int) i k0 n0 ts u.k u.n u.kids z1 z2 l k1 n1 ((ts.set j u).take i) = some ([tm (.mk k1 n1 (ts.set j u))], [])
  | g, 0, i, hg, _ => by omega
  | 0, m + 1, i, _, hi => by
    rw [L_spec_l3With_0_ffoo_eq]
    simp only [cond_dec, if_neg (show ¬ (i : Int) < ts.length by omega), List.take_of_length_le (show (ts.set j u).length ≤ i by rw [List.length_set]; omega)]; rfl
  | g + 1, m + 1, i, hg, hi => by
    have hlt : i < ts.length := by omega
    have hlt2 : i < (ts.set j u).length := by rw [List.length_set]; exact hlt
    have ht : ((ts.set j u).take i).length = i := by rw [List.length_take]; omega
    have ht1 : ((ts.set j u).take (i + 1)).length = i + 1 := by rw [List.length_take]; omega
    rw [L_spec_l3With_0_ffoo_eq]
    by_cases hj : i = j
    · have he : (ts.set j u)[i]'hlt2 = u := by subst hj; simp
      have := take_snoc hlt2
      rw [he] at this
      simp (disch := omega) only [cond_dec, if_pos (show (i : Int) < ts.length by omega), if_pos (show (i : Int) = j by omega), List.length_append, List.length_cons, List.length_nil, ht, ht1, roomB_ok, cond_true, T.eta, this, wrap64, cast1]
      exact with_loop n ts j u k0 n0 z1 z2 l k1 n1 hl h g m (i + 1) (by omega) (by omega)
    · have he : (ts.set j u)[i]'hlt2 = ts[i] := by rw [List.getElem_set_ne (fun e => hj e.symm)]
      have := take_snoc hlt2
      rw [he] at this
      simp (disch := omega) only [cond_dec, if_pos (show (i : Int) < ts.length by omega), if_neg (show ¬ (i : Int) = j by omega), if_pos (show 0 ≤ (i : Int) by omega), Int.toNat_natCast, List.getElem?_eq_getElem hlt, h _ (List.getElem_mem hlt), Option.bind_some, c_rInt, c_rBool, c_rStr, c_rTs, c_rIs, c_rIss, c_rSs, c_rBs, c_rTerm, c_rOwnT, c_rOwn, c_rPtr, c_nilV, c_nilO, c_objC, c_dropC, c_intC, c_boolC, c_strC, c_tsC, c_isC, c_issC, c_ssC, c_bsC, c_anyC, c_nilC, c_arrTs, c_arrIs, c_arrIss, c_arrSs, c_arrBs, ik_self, nb_self, cond_true, cond_false, rTerm_tm, T.eta, mk_k, mk_n, mk_kids, Option.bind_none, Bool.not_true, Bool.not_false, Bool.true_and, Bool.and_true, Bool.and_false, Bool.false_and, Bool.and_self, decide_true, decide_false, List.length_append, List.length_cons, List.length_nil, ht, ht1, roomB_ok, this, wrap64, cast1]
      exact with_loop n ts j u k0 n0 z1 z2 l k1 n1 hl h g m (i + 1) (by omega) (by omega)
theorem f_l3With {n : Nat} {t u : T} {j : Nat} (hn : t.size + 6 ≤ n) (hz : t.size ≤ 4000000) : FF n 99 [tm t, nt (j : Int), tm u] [] = some ([tm (.mk t.k t.n (t.kids.set j u))], []) := by
  obtain ⟨n, rfl⟩ := pos_succ (show 0 < n by omega)
  have hsz := T.size_eq t
  have hl := T.sizeL_len t.kids
  rw [E_spec_l3With]
  have := with_loop n t.kids j u t.k t.n 0 0 [] t.k t.n (by omega) (fun v hv => f_l1Copy v (by have := T.sizeL_mem hv; omega) (by have := T.sizeL_mem hv; omega)) t.kids.length n 0 (by omega) (by omega)
  simpa using this
theorem stL_size {inn : Bool} {t u : T} (hv : validB t = true) (h : stT inn t = some u) : u.size ≤ 400 + 160000 := by
  cases hw : wyT inn t with
  | none => rw [wy_none hw] at h; cases h
  | some w =>
    obtain ⟨ho, hr, hs⟩ := wy_some hw
    rw [hs] at h
    obtain rfl := Option.some.inj h
    have h1 := put_size (u := contractT (atT t w)) ho
    have h2 := con_size (at_valid ho hv) hr
    have h3 := validB_size hv
    omega
/-- A step, with what the reference hands back if there is none. -/
def stR (inn : Bool) (t : T) : T × Bool := match stT inn t with | some u => (u, true) | none => (t, false)
end Go.Proofs.Ythjbllfcelkajaa
