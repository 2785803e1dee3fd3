/- Function types taken apart and put together, in the abstract run. -/
import Derived.Test.YthjbllfcelkajaaEvA
set_option linter.unusedVariables false
set_option linter.unusedSimpArgs false
namespace Go.Proofs.Ythjbllfcelkajaa
open Go Go.Ab Go.Dk
/-- Leading function types; g bounds the term's nodes. -/
def cntP : Nat → T → Nat
  | 0, _ => 0
  | g + 1, t => if t.k = 3 then cntP g (t.kids.getD 1 t) + 1 else 0
theorem pi_kids {t : T} (h : validB t = true) (hk : t.k = 3) : ∃ a b, t = .mk 3 0 [a, b] ∧ validB a = true ∧ validB b = true ∧ b.size < t.size ∧ a.size < t.size := by
  obtain ⟨h1, h2, h3⟩ := validB_ops h
  cases t with
  | mk k n ts =>
    simp only [mk_k, mk_n, mk_kids] at hk h1 h2 h3
    subst hk
    have h4 : mostOf 3 = 0 := by decide
    have h5 : opsOf 3 = 2 := by decide
    rw [h4] at h3
    rw [h5] at h1
    obtain rfl : n = 0 := by omega
    match ts, h1 with
    | [a, b], _ => exact ⟨a, b, rfl, kid_of h (by simp), kid_of h (by simp), by simp only [T.size, T.sizeL]; omega, by simp only [T.size, T.sizeL]; omega⟩
theorem cntI_loop (n : Nat) : ∀ g m (t : T) (v : Nat), g < m → t.size ≤ g → validB t = true → v + g ≤ 4000000 → L_impl_CountPi_0 n m v t.k t.n t.kids = some ([nt ((v + cntP g t : Nat) : Int)], [])
  | 0, m, t, v, _, hz, _, _ => by have := size_pos t; omega
  | g + 1, 0, t, v, hg, _, _, _ => by omega
  | g + 1, m + 1, t, v, hg, hz, hv, hb => by
    rw [L_impl_CountPi_0_eq, cntP]
    by_cases h : t.k = 3
    · rw [decide_eq_true h, if_pos h]
      obtain ⟨a, b, rfl, ha, hb', hs, _⟩ := pi_kids hv h
      have := cntI_loop n g m b (v + 1) (by omega) (by omega) hb' (by omega)
      have w : IntKind.i64.wrap ((v : Int) + 1) = ((v + 1 : Nat) : Int) := wrap64 (by omega)
      rw [w]
      rw [show v + (cntP g ((T.mk 3 0 [a, b]).kids.getD 1 (T.mk 3 0 [a, b])) + 1) = v + 1 + cntP g b from by show v + (cntP g b + 1) = v + 1 + cntP g b; omega, ← this]
      simp only [cond_true, mk_kids, Int.toNat_one, List.getElem?_cons_zero, List.getElem?_cons_succ, Option.bind_some]
    · rw [decide_eq_false h, if_neg h]; rfl
theorem cntS_loop (n : Nat) (hn : 8000000 ≤ n) : ∀ g m (t : T) (v : Nat), g < m → t.size ≤ g → validB t = true → v + g ≤ 4000000 → L_spec_CountPi_0 n m v t.k t.n t.kids = some ([nt ((v + cntP g t : Nat) : Int)], [])
  | 0, m, t, v, _, hz, _, _ => by have := size_pos t; omega
  | g + 1, 0, t, v, hg, _, _, _ => by omega
  | g + 1, m + 1, t, v, hg, hz, hv, hb => by
    rw [L_spec_CountPi_0_eq, f_TermValidS (by omega) (by omega), hv, cntP]
    simp only [Option.bind_some, c_rInt, c_rBool, c_rStr, c_rTs, c_rIs, c_rIss, c_rSs, c_rBs, c_rTerm, c_rOwnT, c_rOwn, c_rPtr, c_nilV, c_nilO, c_objC, c_dropC, c_intC, c_boolC, c_strC, c_tsC, c_isC, c_issC, c_ssC, c_bsC, c_anyC, c_nilC, c_arrTs, c_arrIs, c_arrIss, c_arrSs, c_arrBs, ik_self, nb_self, cond_true, cond_false, rTerm_tm, T.eta, mk_k, mk_n, mk_kids, Option.bind_none, Bool.not_true, Bool.not_false, Bool.true_and, Bool.and_true, Bool.and_false, Bool.false_and, Bool.and_self, decide_true, decide_false]
    by_cases h : t.k = 3
    · rw [decide_eq_true h, if_pos h]
      obtain ⟨a, b, rfl, ha, hb', hs, _⟩ := pi_kids hv h
      have := cntS_loop n hn g m b (v + 1) (by omega) (by omega) hb' (by omega)
      have w : IntKind.i64.wrap ((v : Int) + 1) = ((v + 1 : Nat) : Int) := wrap64 (by omega)
      rw [w]
      rw [show v + (cntP g ((T.mk 3 0 [a, b]).kids.getD 1 (T.mk 3 0 [a, b])) + 1) = v + 1 + cntP g b from by show v + (cntP g b + 1) = v + 1 + cntP g b; omega, ← this]
      simp only [cond_true, mk_kids, Int.toNat_one, List.getElem?_cons_zero, List.getElem?_cons_succ, Option.bind_some]
    · rw [decide_eq_false h, if_neg h]; rfl
def countP (t : T) : Nat := if validB t = true then cntP 400 t else 0
theorem cntP_le : ∀ g (t : T), cntP g t ≤ g
  | 0, _ => by simp [cntP]
  | g + 1, t => by
    rw [cntP]; split
    · have := cntP_le g (t.kids.getD 1 t); omega
    · omega
theorem f_CountPi {n : Nat} {t : T} (hn : 8000000 ≤ n) (hz : t.size ≤ 4000000) : FF n 67 [tm t] [] = some ([nt (countP t : Nat)], []) := by
  obtain ⟨n, rfl⟩ := pos_succ (show 0 < n by omega)
  rw [E_impl_CountPi, f_TermValid (by omega)]
  simp only [Option.bind_some, c_rInt, c_rBool, c_rStr, c_rTs, c_rIs, c_rIss, c_rSs, c_rBs, c_rTerm, c_rOwnT, c_rOwn, c_rPtr, c_nilV, c_nilO, c_objC, c_dropC, c_intC, c_boolC, c_strC, c_tsC, c_isC, c_issC, c_ssC, c_bsC, c_anyC, c_nilC, c_arrTs, c_arrIs, c_arrIss, c_arrSs, c_arrBs, ik_self, nb_self, cond_true, cond_false, rTerm_tm, T.eta, mk_k, mk_n, mk_kids, Option.bind_none, Bool.not_true, Bool.not_false, Bool.true_and, Bool.and_true, Bool.and_false, Bool.false_and, Bool.and_self, decide_true, decide_false]
  unfold countP
  cases hv : validB t with
  | false => rfl
  | true =>
    have := cntI_loop n 400 n t 0 (by omega) (validB_size hv) hv (by omega)
    simp only [Nat.zero_add] at this
    simp only [Bool.not_true, cond_false, if_true]
    exact this
theorem f_CountPiS {n : Nat} {t : T} (hn : 8400000 ≤ n) (hz : t.size ≤ 4000000) : FF n 66 [tm t] [] = some ([nt (countP t : Nat)], []) := by
  obtain ⟨n, rfl⟩ := pos_succ (show 0 < n by omega)
  rw [E_spec_CountPi]
  unfold countP
  cases hv : validB t with
  | false =>
    obtain ⟨m, hm⟩ : ∃ m, n = m + 1 := ⟨n - 1, by omega⟩
    have e : L_spec_CountPi_0 n n 0 t.k t.n t.kids = L_spec_CountPi_0 n (m + 1) 0 t.k t.n t.kids := by rw [← hm]
    rw [e, L_spec_CountPi_0_eq, f_TermValidS (by omega) hz, hv]
    rfl
  | true =>
    have := cntS_loop n (by omega) 400 n t 0 (by omega) (validB_size hv) hv (by omega)
    simp only [Nat.zero_add] at this
    simp only [if_true]
    exact this
/-- The first types and what is behind them. -/
def splT : Nat → T → List T → List T × T
  | 0, t, acc => (acc, t)
  | j + 1, t, acc => splT j (t.kids.getD 1 t) (acc ++ [t.kids.getD 0 t])
/-- What SplitPi hands back. -/
def splR (t : T) (k : Int) : (List T × T) × Bool := if (validB t && decide (0 ≤ k ∧ k ≤ 8 ∧ k ≤ (countP t : Nat))) = true then (splT k.toNat t [], true) else (([], .mk 0 0 []), false)
theorem splI_loop (n : Nat) (hn : 20000 ≤ n) (z1 z2 : Int) (l0 : List T) (K : Nat) (hK : K ≤ 8) : ∀ j m (t : T) (i g : Nat) (acc : List T), j < m → i + j = K → validB t = true → t.size ≤ g → j ≤ cntP g t → acc.length = i →
    L_impl_SplitPi_0_fo n m K i t.k t.n t.kids z1 z2 l0 acc = some ([tms (splT j t acc).1, tm (splT j t acc).2, bl true], [])
  | j, 0, t, i, g, acc, hj, _, _, _, _, _ => by omega
  | 0, m + 1, t, i, g, acc, hj, hi, hv, hz, hc, ha => by
    have := validB_size hv
    rw [L_impl_SplitPi_0_fo_eq, decide_eq_false (show ¬ (i : Int) < K by omega)]
    simp only [cond_false]
    rw [f_own t (by omega) (by omega)]
    simp only [Option.bind_some, c_rInt, c_rBool, c_rStr, c_rTs, c_rIs, c_rIss, c_rSs, c_rBs, c_rTerm, c_rOwnT, c_rOwn, c_rPtr, c_nilV, c_nilO, c_objC, c_dropC, c_intC, c_boolC, c_strC, c_tsC, c_isC, c_issC, c_ssC, c_bsC, c_anyC, c_nilC, c_arrTs, c_arrIs, c_arrIss, c_arrSs, c_arrBs, ik_self, nb_self, cond_true, cond_false, rTerm_tm, T.eta, mk_k, mk_n, mk_kids, Option.bind_none, Bool.not_true, Bool.not_false, Bool.true_and, Bool.and_true, Bool.and_false, Bool.false_and, Bool.and_self, decide_true, decide_false]
    rfl
  | j + 1, m + 1, t, i, 0, acc, hj, hi, hv, hz, hc, ha => by have := size_pos t; omega
  | j + 1, m + 1, t, i, g + 1, acc, hj, hi, hv, hz, hc, ha => by
    rw [cntP] at hc
    by_cases h : t.k = 3
    · rw [if_pos h] at hc
      obtain ⟨a, b, rfl, hva, hvb, hs, hsa⟩ := pi_kids hv h
      have hsz := validB_size hv
      have hc' : j ≤ cntP g b := by have : cntP g ((T.mk 3 0 [a, b]).kids.getD 1 (T.mk 3 0 [a, b])) = cntP g b := rfl; omega
      have nx := splI_loop n hn z1 z2 l0 K hK j m b (i + 1) g (acc ++ [a]) (by omega) (by omega) hvb (by omega) hc' (by simp [ha])
      have w : IntKind.i64.wrap ((i : Int) + 1) = ((i + 1 : Nat) : Int) := wrap64 (by omega)
      rw [L_impl_SplitPi_0_fo_eq, decide_eq_true (show (i : Int) < K by omega), w]
      simp only [cond_true, mk_k, mk_n, mk_kids, Int.toNat_zero, Int.toNat_one, List.getElem?_cons_zero, List.getElem?_cons_succ, Option.bind_some]
      rw [f_own a (by omega) (by omega)]
      simp only [Option.bind_some, c_rInt, c_rBool, c_rStr, c_rTs, c_rIs, c_rIss, c_rSs, c_rBs, c_rTerm, c_rOwnT, c_rOwn, c_rPtr, c_nilV, c_nilO, c_objC, c_dropC, c_intC, c_boolC, c_strC, c_tsC, c_isC, c_issC, c_ssC, c_bsC, c_anyC, c_nilC, c_arrTs, c_arrIs, c_arrIss, c_arrSs, c_arrBs, ik_self, nb_self, cond_true, cond_false, rTerm_tm, T.eta, mk_k, mk_n, mk_kids, Option.bind_none, Bool.not_true, Bool.not_false, Bool.true_and, Bool.and_true, Bool.and_false, Bool.false_and, Bool.and_self, decide_true, decide_false]
      rw [roomB_ok (by simp; omega), cond_true, show splT (j + 1) (T.mk 3 0 [a, b]) acc = splT j b (acc ++ [a]) from rfl]
      exact nx
    · rw [if_neg h] at hc; omega
theorem splS_loop (n : Nat) (hn : 20000 ≤ n) (z1 z2 : Int) (l0 : List T) (K : Nat) (hK : K ≤ 8) : ∀ j m (t : T) (i g : Nat) (acc : List T), j < m → i + j = K → validB t = true → t.size ≤ g → j ≤ cntP g t → acc.length = i →
    L_spec_SplitPi_0_fo n m K i t.k t.n t.kids z1 z2 l0 acc = some ([tms (splT j t acc).1, tm (splT j t acc).2, bl true], [])
  | j, 0, t, i, g, acc, hj, _, _, _, _, _ => by omega
  | 0, m + 1, t, i, g, acc, hj, hi, hv, hz, hc, ha => by
    have := validB_size hv
    rw [L_spec_SplitPi_0_fo_eq, decide_eq_false (show ¬ (i : Int) < K by omega)]
    simp only [cond_false]
    rw [f_l1Copy t (by omega) (by omega)]
    simp only [Option.bind_some, c_rInt, c_rBool, c_rStr, c_rTs, c_rIs, c_rIss, c_rSs, c_rBs, c_rTerm, c_rOwnT, c_rOwn, c_rPtr, c_nilV, c_nilO, c_objC, c_dropC, c_intC, c_boolC, c_strC, c_tsC, c_isC, c_issC, c_ssC, c_bsC, c_anyC, c_nilC, c_arrTs, c_arrIs, c_arrIss, c_arrSs, c_arrBs, ik_self, nb_self, cond_true, cond_false, rTerm_tm, T.eta, mk_k, mk_n, mk_kids, Option.bind_none, Bool.not_true, Bool.not_false, Bool.true_and, Bool.and_true, Bool.and_false, Bool.false_and, Bool.and_self, decide_true, decide_false]
    rfl
  | j + 1, m + 1, t, i, 0, acc, hj, hi, hv, hz, hc, ha => by have := size_pos t; omega
  | j + 1, m + 1, t, i, g + 1, acc, hj, hi, hv, hz, hc, ha => by
    rw [cntP] at hc
    by_cases h : t.k = 3
    · rw [if_pos h] at hc
      obtain ⟨a, b, rfl, hva, hvb, hs, hsa⟩ := pi_kids hv h
      have hsz := validB_size hv
      have hc' : j ≤ cntP g b := by have : cntP g ((T.mk 3 0 [a, b]).kids.getD 1 (T.mk 3 0 [a, b])) = cntP g b := rfl; omega
      have nx := splS_loop n hn z1 z2 l0 K hK j m b (i + 1) g (acc ++ [a]) (by omega) (by omega) hvb (by omega) hc' (by simp [ha])
      have w : IntKind.i64.wrap ((i : Int) + 1) = ((i + 1 : Nat) : Int) := wrap64 (by omega)
      rw [L_spec_SplitPi_0_fo_eq, decide_eq_true (show (i : Int) < K by omega), w]
      simp only [cond_true, mk_k, mk_n, mk_kids, Int.toNat_zero, Int.toNat_one, List.getElem?_cons_zero, List.getElem?_cons_succ, Option.bind_some]
      rw [f_l1Copy a (by omega) (by omega)]
      simp only [Option.bind_some, c_rInt, c_rBool, c_rStr, c_rTs, c_rIs, c_rIss, c_rSs, c_rBs, c_rTerm, c_rOwnT, c_rOwn, c_rPtr, c_nilV, c_nilO, c_objC, c_dropC, c_intC, c_boolC, c_strC, c_tsC, c_isC, c_issC, c_ssC, c_bsC, c_anyC, c_nilC, c_arrTs, c_arrIs, c_arrIss, c_arrSs, c_arrBs, ik_self, nb_self, cond_true, cond_false, rTerm_tm, T.eta, mk_k, mk_n, mk_kids, Option.bind_none, Bool.not_true, Bool.not_false, Bool.true_and, Bool.and_true, Bool.and_false, Bool.false_and, Bool.and_self, decide_true, decide_false]
      rw [roomB_ok (by simp; omega), cond_true, show splT (j + 1) (T.mk 3 0 [a, b]) acc = splT j b (acc ++ [a]) from rfl]
      exact nx
    · rw [if_neg h] at hc; omega
theorem f_SplitPi {n : Nat} {t : T} {k : Int} (hn : 8800000 ≤ n) (hz : t.size ≤ 4000000) : FF n 29 [tm t, nt k] [] = some ([tms (splR t k).1.1, tm (splR t k).1.2, bl (splR t k).2], []) := by
  obtain ⟨n, rfl⟩ := pos_succ (show 0 < n by omega)
  rw [E_impl_SplitPi, f_TermValid (by omega)]
  simp only [Option.bind_some, c_rInt, c_rBool, c_rStr, c_rTs, c_rIs, c_rIss, c_rSs, c_rBs, c_rTerm, c_rOwnT, c_rOwn, c_rPtr, c_nilV, c_nilO, c_objC, c_dropC, c_intC, c_boolC, c_strC, c_tsC, c_isC, c_issC, c_ssC, c_bsC, c_anyC, c_nilC, c_arrTs, c_arrIs, c_arrIss, c_arrSs, c_arrBs, ik_self, nb_self, cond_true, cond_false, rTerm_tm, T.eta, mk_k, mk_n, mk_kids, Option.bind_none, Bool.not_true, Bool.not_false, Bool.true_and, Bool.and_true, Bool.and_false, Bool.false_and, Bool.and_self, decide_true, decide_false]
  unfold splR
  cases hv : validB t with
  | false => rfl
  | true =>
    simp only [Bool.not_true, cond_false, Bool.true_and, decide_eq_true_eq]
    rw [f_CountPi (by omega) hz]
    simp only [Option.bind_some, c_rInt, c_rBool, c_rStr, c_rTs, c_rIs, c_rIss, c_rSs, c_rBs, c_rTerm, c_rOwnT, c_rOwn, c_rPtr, c_nilV, c_nilO, c_objC, c_dropC, c_intC, c_boolC, c_strC, c_tsC, c_isC, c_issC, c_ssC, c_bsC, c_anyC, c_nilC, c_arrTs, c_arrIs, c_arrIss, c_arrSs, c_arrBs, ik_self, nb_self, cond_true, cond_false, rTerm_tm, T.eta, mk_k, mk_n, mk_kids, Option.bind_none, Bool.not_true, Bool.not_false, Bool.true_and, Bool.and_true, Bool.and_false, Bool.false_and, Bool.and_self, decide_true, decide_false]
    rw [f_within (by omega)]
    simp only [Option.bind_some, c_rInt, c_rBool, c_rStr, c_rTs, c_rIs, c_rIss, c_rSs, c_rBs, c_rTerm, c_rOwnT, c_rOwn, c_rPtr, c_nilV, c_nilO, c_objC, c_dropC, c_intC, c_boolC, c_strC, c_tsC, c_isC, c_issC, c_ssC, c_bsC, c_anyC, c_nilC, c_arrTs, c_arrIs, c_arrIss, c_arrSs, c_arrBs, ik_self, nb_self, cond_true, cond_false, rTerm_tm, T.eta, mk_k, mk_n, mk_kids, Option.bind_none, Bool.not_true, Bool.not_false, Bool.true_and, Bool.and_true, Bool.and_false, Bool.false_and, Bool.and_self, decide_true, decide_false]
    by_cases h : 0 ≤ k ∧ k ≤ 8 ∧ k ≤ (countP t : Nat)
    · rw [if_pos h, decide_eq_true (show 0 ≤ k by omega), decide_eq_true (show k ≤ min 8 ((countP t : Nat) : Int) by omega)]
      simp only [Bool.and_self, Bool.not_true, cond_false]
      have hc : k.toNat ≤ cntP 400 t := by have : countP t = cntP 400 t := if_pos hv; omega
      have := splI_loop n (by omega) 0 0 [] k.toNat (by omega) k.toNat n t 0 400 [] (by omega) (by omega) hv (validB_size hv) hc rfl
      rw [show ((k.toNat : Nat) : Int) = k by omega] at this
      exact this
    · rw [if_neg h, ← Bool.decide_and, decide_eq_false (show ¬ (0 ≤ k ∧ k ≤ min 8 ((countP t : Nat) : Int)) by omega)]
      rfl
theorem f_SplitPiS {n : Nat} {t : T} {k : Int} (hn : 8800000 ≤ n) (hz : t.size ≤ 4000000) : FF n 28 [tm t, nt k] [] = some ([tms (splR t k).1.1, tm (splR t k).1.2, bl (splR t k).2], []) := by
  obtain ⟨n, rfl⟩ := pos_succ (show 0 < n by omega)
  rw [E_spec_SplitPi]
  unfold splR
  by_cases h1 : k < 0
  · rw [decide_eq_true h1, decide_eq_false (show ¬ (0 ≤ k ∧ k ≤ 8 ∧ k ≤ (countP t : Nat)) by omega), Bool.and_false]; rfl
  rw [decide_eq_false h1]
  by_cases h2 : 8 < k
  · rw [decide_eq_true h2, decide_eq_false (show ¬ (0 ≤ k ∧ k ≤ 8 ∧ k ≤ (countP t : Nat)) by omega), Bool.and_false]; rfl
  rw [decide_eq_false h2, f_CountPiS (by omega) hz]
  simp only [Option.bind_some, c_rInt, c_rBool, c_rStr, c_rTs, c_rIs, c_rIss, c_rSs, c_rBs, c_rTerm, c_rOwnT, c_rOwn, c_rPtr, c_nilV, c_nilO, c_objC, c_dropC, c_intC, c_boolC, c_strC, c_tsC, c_isC, c_issC, c_ssC, c_bsC, c_anyC, c_nilC, c_arrTs, c_arrIs, c_arrIss, c_arrSs, c_arrBs, ik_self, nb_self, cond_true, cond_false, rTerm_tm, T.eta, mk_k, mk_n, mk_kids, Option.bind_none, Bool.not_true, Bool.not_false, Bool.true_and, Bool.and_true, Bool.and_false, Bool.false_and, Bool.and_self, decide_true, decide_false]
  by_cases h3 : ((countP t : Nat) : Int) < k
  · rw [decide_eq_true h3, decide_eq_false (show ¬ (0 ≤ k ∧ k ≤ 8 ∧ k ≤ (countP t : Nat)) by omega), Bool.and_false]; rfl
  rw [decide_eq_false h3, decide_eq_true (show (0 ≤ k ∧ k ≤ 8 ∧ k ≤ (countP t : Nat)) by omega), f_TermValidS (by omega) hz]
  simp only [Option.bind_some, c_rInt, c_rBool, c_rStr, c_rTs, c_rIs, c_rIss, c_rSs, c_rBs, c_rTerm, c_rOwnT, c_rOwn, c_rPtr, c_nilV, c_nilO, c_objC, c_dropC, c_intC, c_boolC, c_strC, c_tsC, c_isC, c_issC, c_ssC, c_bsC, c_anyC, c_nilC, c_arrTs, c_arrIs, c_arrIss, c_arrSs, c_arrBs, ik_self, nb_self, cond_true, cond_false, rTerm_tm, T.eta, mk_k, mk_n, mk_kids, Option.bind_none, Bool.not_true, Bool.not_false, Bool.true_and, Bool.and_true, Bool.and_false, Bool.false_and, Bool.and_self, decide_true, decide_false]
  cases hv : validB t with
  | false => rfl
  | true =>
    simp only [Bool.not_true, cond_false, if_true]
    have hc : k.toNat ≤ cntP 400 t := by have : countP t = cntP 400 t := if_pos hv; omega
    have := splS_loop n (by omega) 0 0 [] k.toNat (by omega) k.toNat n t 0 400 [] (by omega) (by omega) hv (validB_size hv) hc rfl
    rw [show ((k.toNat : Nat) : Int) = k by omega] at this
    exact this
/-! Types over contexts. -/
def overF (ps : List T) (t : T) : T := ps.foldr (fun a u => .mk 3 0 [a, u]) t
theorem over_size : ∀ (ps : List T) (t : T), (overF ps t).size = t.size + ps.length + T.sizeL ps
  | [], t => by simp [overF, T.sizeL]
  | a :: ps, t => by
    have := over_size ps t
    unfold overF at this ⊢
    rw [List.foldr_cons, T.size]
    simp only [T.sizeL, List.length_cons, this]; omega
theorem over_bound {ps : List T} {t : T} (ht : validB t = true) (hl : okA ps = true) : (overF ps t).size ≤ 5000 := by
  obtain ⟨h1, h2⟩ := okA_out hl
  have h3 := sizeL_le (k := 400) fun t ht => validB_size (h2 t ht)
  have h4 : ps.length * 400 ≤ 8 * 400 := Nat.mul_le_mul_right 400 h1
  rw [over_size]
  have := validB_size ht
  omega
def overR (ps : List T) (t : T) : T × Bool := if (okA ps && validB t) = true then (okT (overF ps t), validB (overF ps t)) else (.mk 0 0 [], false)
theorem over_loop (n : Nat) (hn : 20000 ≤ n) (ps : List T) (hl : ps.length ≤ 8) (z1 z2 : Int) (l0 : List T) (w : T) (hw : w.size ≤ 10000) : ∀ (i m : Nat) (u : T), i < m → i ≤ ps.length → overF (ps.take i) u = w →
    L_impl_over_0_of n m 3 ps ((i : Int) - 1) z1 z2 l0 u.k u.n u.kids = some ([tm (okT w), bl (validB w)], [])
  | i, 0, u, hm, _, _ => by omega
  | 0, m + 1, u, hm, hi, he => by
    have he : u = w := he
    subst he
    have ho := f_ownValid (n := n) (t := u) (by omega) (by omega)
    rw [L_impl_over_0_of_eq, decide_eq_false (show ¬ (0 : Int) ≤ ((0 : Nat) : Int) - 1 by omega)]
    simp only [cond_false]
    rw [ho.1]
    simp only [Option.bind_some, c_rInt, c_rBool, c_rStr, c_rTs, c_rIs, c_rIss, c_rSs, c_rBs, c_rTerm, c_rOwnT, c_rOwn, c_rPtr, c_nilV, c_nilO, c_objC, c_dropC, c_intC, c_boolC, c_strC, c_tsC, c_isC, c_issC, c_ssC, c_bsC, c_anyC, c_nilC, c_arrTs, c_arrIs, c_arrIss, c_arrSs, c_arrBs, ik_self, nb_self, cond_true, cond_false, rTerm_tm, T.eta, mk_k, mk_n, mk_kids, Option.bind_none, Bool.not_true, Bool.not_false, Bool.true_and, Bool.and_true, Bool.and_false, Bool.false_and, Bool.and_self, decide_true, decide_false]
    rw [ho.2]
    simp only [Option.bind_some, c_rInt, c_rBool, c_rStr, c_rTs, c_rIs, c_rIss, c_rSs, c_rBs, c_rTerm, c_rOwnT, c_rOwn, c_rPtr, c_nilV, c_nilO, c_objC, c_dropC, c_intC, c_boolC, c_strC, c_tsC, c_isC, c_issC, c_ssC, c_bsC, c_anyC, c_nilC, c_arrTs, c_arrIs, c_arrIss, c_arrSs, c_arrBs, ik_self, nb_self, cond_true, cond_false, rTerm_tm, T.eta, mk_k, mk_n, mk_kids, Option.bind_none, Bool.not_true, Bool.not_false, Bool.true_and, Bool.and_true, Bool.and_false, Bool.false_and, Bool.and_self, decide_true, decide_false]
  | i + 1, m + 1, u, hm, hi, he => by
    have hlt : i < ps.length := by omega
    have hx : ps.take (i + 1) = ps.take i ++ [ps[i]] := by rw [List.take_append_getElem hlt]
    have nx := over_loop n hn ps hl z1 z2 l0 w hw i m (.mk 3 0 [ps[i], u]) (by omega) (by omega) (by rw [← he, hx]; unfold overF; rw [List.foldr_append]; rfl)
    have w : IntKind.i64.wrap ((i : Int) - 1) = (i : Int) - 1 := wrap64 (by omega)
    rw [show (((i + 1 : Nat) : Int) - 1) = (i : Int) by omega, L_impl_over_0_of_eq, decide_eq_true (show 0 ≤ (i : Int) by omega), Int.toNat_natCast, List.getElem?_eq_getElem hlt, w]
    simp only [cond_true, Option.bind_some, T.eta]
    rw [f_node (show 1 ≤ n by omega)]
    simp only [Option.bind_some, c_rInt, c_rBool, c_rStr, c_rTs, c_rIs, c_rIss, c_rSs, c_rBs, c_rTerm, c_rOwnT, c_rOwn, c_rPtr, c_nilV, c_nilO, c_objC, c_dropC, c_intC, c_boolC, c_strC, c_tsC, c_isC, c_issC, c_ssC, c_bsC, c_anyC, c_nilC, c_arrTs, c_arrIs, c_arrIss, c_arrSs, c_arrBs, ik_self, nb_self, cond_true, cond_false, rTerm_tm, T.eta, mk_k, mk_n, mk_kids, Option.bind_none, Bool.not_true, Bool.not_false, Bool.true_and, Bool.and_true, Bool.and_false, Bool.false_and, Bool.and_self, decide_true, decide_false]
    exact nx
theorem f_PiOver {n : Nat} {ps : List T} {t : T} (hn : 4800000 ≤ n) (ht : t.size ≤ 4000000) (hl : ps.length ≤ 4000000) (hz : ∀ u ∈ ps, u.size ≤ 4000000) : FF n 41 [tms ps, tm t] [] = some ([tm (overR ps t).1, bl (overR ps t).2], []) := by
  obtain ⟨n, rfl⟩ : ∃ m, n = m + 2 := ⟨n - 2, by omega⟩
  rw [E_impl_PiOver, E_impl_over, f_areTerms (by omega) hl hz]
  simp only [Option.bind_some, c_rInt, c_rBool, c_rStr, c_rTs, c_rIs, c_rIss, c_rSs, c_rBs, c_rTerm, c_rOwnT, c_rOwn, c_rPtr, c_nilV, c_nilO, c_objC, c_dropC, c_intC, c_boolC, c_strC, c_tsC, c_isC, c_issC, c_ssC, c_bsC, c_anyC, c_nilC, c_arrTs, c_arrIs, c_arrIss, c_arrSs, c_arrBs, ik_self, nb_self, cond_true, cond_false, rTerm_tm, T.eta, mk_k, mk_n, mk_kids, Option.bind_none, Bool.not_true, Bool.not_false, Bool.true_and, Bool.and_true, Bool.and_false, Bool.false_and, Bool.and_self, decide_true, decide_false]
  unfold overR
  cases ho : okA ps with
  | false => rfl
  | true =>
    simp only [Bool.not_true, cond_false]
    rw [f_TermValid (by omega)]
    simp only [Option.bind_some, c_rInt, c_rBool, c_rStr, c_rTs, c_rIs, c_rIss, c_rSs, c_rBs, c_rTerm, c_rOwnT, c_rOwn, c_rPtr, c_nilV, c_nilO, c_objC, c_dropC, c_intC, c_boolC, c_strC, c_tsC, c_isC, c_issC, c_ssC, c_bsC, c_anyC, c_nilC, c_arrTs, c_arrIs, c_arrIss, c_arrSs, c_arrBs, ik_self, nb_self, cond_true, cond_false, rTerm_tm, T.eta, mk_k, mk_n, mk_kids, Option.bind_none, Bool.not_true, Bool.not_false, Bool.true_and, Bool.and_true, Bool.and_false, Bool.false_and, Bool.and_self, decide_true, decide_false]
    cases hv : validB t with
    | false => rfl
    | true =>
      simp only [Bool.not_true, cond_false, Bool.and_self, if_true]
      have h8 := (okA_out ho).1
      have := over_loop n (by omega) ps h8 0 0 [] (overF ps t) (by have := over_bound hv ho; omega) ps.length n t (by omega) (by omega) (by rw [List.take_length])
      rw [wrap64 (show -9223372036854775808 ≤ (ps.length : Int) - 1 ∧ (ps.length : Int) - 1 ≤ 9223372036854775807 by omega), this]
      simp only [Option.bind_some, c_rInt, c_rBool, c_rStr, c_rTs, c_rIs, c_rIss, c_rSs, c_rBs, c_rTerm, c_rOwnT, c_rOwn, c_rPtr, c_nilV, c_nilO, c_objC, c_dropC, c_intC, c_boolC, c_strC, c_tsC, c_isC, c_issC, c_ssC, c_bsC, c_anyC, c_nilC, c_arrTs, c_arrIs, c_arrIss, c_arrSs, c_arrBs, ik_self, nb_self, cond_true, cond_false, rTerm_tm, T.eta, mk_k, mk_n, mk_kids, Option.bind_none, Bool.not_true, Bool.not_false, Bool.true_and, Bool.and_true, Bool.and_false, Bool.false_and, Bool.and_self, decide_true, decide_false]
theorem overS_loop (n : Nat) (hn : 20000 ≤ n) (ps : List T) (hl : ps.length ≤ 8) (hz : ∀ t ∈ ps, t.size ≤ 400) (z1 z2 : Int) (l0 : List T) (w : T) : ∀ (i m : Nat) (u : T), i < m → i ≤ ps.length → overF (ps.take i) u = w →
    L_spec_l7Over_0_of n m 3 ps ((i : Int) - 1) z1 z2 l0 u.k u.n u.kids = some ([tm w], []) ∧ L_spec_l7Over_0_oo n m 3 ps ((i : Int) - 1) z1 z2 l0 u.k u.n u.kids = some ([tm w], [])
  | i, 0, u, hm, _, _ => by omega
  | 0, m + 1, u, hm, hi, he => by
    have he : u = w := he
    subst he
    rw [L_spec_l7Over_0_of_eq, L_spec_l7Over_0_oo_eq, decide_eq_false (show ¬ (0 : Int) ≤ ((0 : Nat) : Int) - 1 by omega)]
    exact ⟨rfl, rfl⟩
  | i + 1, m + 1, u, hm, hi, he => by
    have hlt : i < ps.length := by omega
    have hx : ps.take (i + 1) = ps.take i ++ [ps[i]] := by rw [List.take_append_getElem hlt]
    have nx := (overS_loop n hn ps hl hz z1 z2 l0 w i m (.mk 3 0 [ps[i], u]) (by omega) (by omega) (by rw [← he, hx]; unfold overF; rw [List.foldr_append]; rfl)).1
    have w : IntKind.i64.wrap ((i : Int) - 1) = (i : Int) - 1 := wrap64 (by omega)
    have hsz := hz _ (List.getElem_mem hlt)
    rw [show (((i + 1 : Nat) : Int) - 1) = (i : Int) by omega, L_spec_l7Over_0_of_eq, L_spec_l7Over_0_oo_eq, decide_eq_true (show 0 ≤ (i : Int) by omega), Int.toNat_natCast, List.getElem?_eq_getElem hlt, w]
    simp only [cond_true, Option.bind_some]
    rw [f_l1Copy ps[i] (by omega) (by omega)]
    simp only [Option.bind_some, c_rInt, c_rBool, c_rStr, c_rTs, c_rIs, c_rIss, c_rSs, c_rBs, c_rTerm, c_rOwnT, c_rOwn, c_rPtr, c_nilV, c_nilO, c_objC, c_dropC, c_intC, c_boolC, c_strC, c_tsC, c_isC, c_issC, c_ssC, c_bsC, c_anyC, c_nilC, c_arrTs, c_arrIs, c_arrIss, c_arrSs, c_arrBs, ik_self, nb_self, cond_true, cond_false, rTerm_tm, T.eta, mk_k, mk_n, mk_kids, Option.bind_none, Bool.not_true, Bool.not_false, Bool.true_and, Bool.and_true, Bool.and_false, Bool.false_and, Bool.and_self, decide_true, decide_false]
    rw [f_l1Node (show 1 ≤ n by omega) _ _ (by simp)]
    simp only [Option.bind_some, c_rInt, c_rBool, c_rStr, c_rTs, c_rIs, c_rIss, c_rSs, c_rBs, c_rTerm, c_rOwnT, c_rOwn, c_rPtr, c_nilV, c_nilO, c_objC, c_dropC, c_intC, c_boolC, c_strC, c_tsC, c_isC, c_issC, c_ssC, c_bsC, c_anyC, c_nilC, c_arrTs, c_arrIs, c_arrIss, c_arrSs, c_arrBs, ik_self, nb_self, cond_true, cond_false, rTerm_tm, T.eta, mk_k, mk_n, mk_kids, Option.bind_none, Bool.not_true, Bool.not_false, Bool.true_and, Bool.and_true, Bool.and_false, Bool.false_and, Bool.and_self, decide_true, decide_false]
    exact ⟨nx, nx⟩
theorem f_PiOverS {n : Nat} {ps : List T} {t : T} (hn : 4800000 ≤ n) (ht : t.size ≤ 4000000) (hl : ps.length ≤ 4000000) (hz : ∀ u ∈ ps, u.size ≤ 4000000) : FF n 40 [tms ps, tm t] [] = some ([tm (overR ps t).1, bl (overR ps t).2], []) := by
  obtain ⟨n, rfl⟩ : ∃ m, n = m + 2 := ⟨n - 2, by omega⟩
  rw [E_spec_PiOver, f_l5Fits (by omega) hl hz]
  simp only [Option.bind_some, c_rInt, c_rBool, c_rStr, c_rTs, c_rIs, c_rIss, c_rSs, c_rBs, c_rTerm, c_rOwnT, c_rOwn, c_rPtr, c_nilV, c_nilO, c_objC, c_dropC, c_intC, c_boolC, c_strC, c_tsC, c_isC, c_issC, c_ssC, c_bsC, c_anyC, c_nilC, c_arrTs, c_arrIs, c_arrIss, c_arrSs, c_arrBs, ik_self, nb_self, cond_true, cond_false, rTerm_tm, T.eta, mk_k, mk_n, mk_kids, Option.bind_none, Bool.not_true, Bool.not_false, Bool.true_and, Bool.and_true, Bool.and_false, Bool.false_and, Bool.and_self, decide_true, decide_false]
  unfold overR
  cases ho : okA ps with
  | false => rfl
  | true =>
    simp only [Bool.not_true, cond_false]
    rw [f_TermValidS (by omega) (by omega)]
    simp only [Option.bind_some, c_rInt, c_rBool, c_rStr, c_rTs, c_rIs, c_rIss, c_rSs, c_rBs, c_rTerm, c_rOwnT, c_rOwn, c_rPtr, c_nilV, c_nilO, c_objC, c_dropC, c_intC, c_boolC, c_strC, c_tsC, c_isC, c_issC, c_ssC, c_bsC, c_anyC, c_nilC, c_arrTs, c_arrIs, c_arrIss, c_arrSs, c_arrBs, ik_self, nb_self, cond_true, cond_false, rTerm_tm, T.eta, mk_k, mk_n, mk_kids, Option.bind_none, Bool.not_true, Bool.not_false, Bool.true_and, Bool.and_true, Bool.and_false, Bool.false_and, Bool.and_self, decide_true, decide_false]
    cases hv : validB t with
    | false => rfl
    | true =>
      simp only [Bool.not_true, cond_false, Bool.and_self, if_true]
      obtain ⟨h8, h9⟩ := okA_out ho
      have hb := over_bound hv ho
      have := (overS_loop n (by omega) ps h8 (fun u hu => validB_size (h9 u hu)) 0 0 [] (overF ps t) ps.length n t (by omega) (by omega) (by rw [List.take_length])).2
      have hl7 : FF (n + 1) 76 [nt 3, tms ps, tm t] [] = some ([tm (overF ps t)], []) := by
        rw [E_spec_l7Over, f_l1Copy t (by omega) (by omega)]
        simp only [Option.bind_some, c_rInt, c_rBool, c_rStr, c_rTs, c_rIs, c_rIss, c_rSs, c_rBs, c_rTerm, c_rOwnT, c_rOwn, c_rPtr, c_nilV, c_nilO, c_objC, c_dropC, c_intC, c_boolC, c_strC, c_tsC, c_isC, c_issC, c_ssC, c_bsC, c_anyC, c_nilC, c_arrTs, c_arrIs, c_arrIss, c_arrSs, c_arrBs, ik_self, nb_self, cond_true, cond_false, rTerm_tm, T.eta, mk_k, mk_n, mk_kids, Option.bind_none, Bool.not_true, Bool.not_false, Bool.true_and, Bool.and_true, Bool.and_false, Bool.false_and, Bool.and_self, decide_true, decide_false]
        rw [wrap64 (show -9223372036854775808 ≤ (ps.length : Int) - 1 ∧ (ps.length : Int) - 1 ≤ 9223372036854775807 by omega)]
        exact this
      rw [hl7]
      simp only [Option.bind_some, c_rInt, c_rBool, c_rStr, c_rTs, c_rIs, c_rIss, c_rSs, c_rBs, c_rTerm, c_rOwnT, c_rOwn, c_rPtr, c_nilV, c_nilO, c_objC, c_dropC, c_intC, c_boolC, c_strC, c_tsC, c_isC, c_issC, c_ssC, c_bsC, c_anyC, c_nilC, c_arrTs, c_arrIs, c_arrIss, c_arrSs, c_arrBs, ik_self, nb_self, cond_true, cond_false, rTerm_tm, T.eta, mk_k, mk_n, mk_kids, Option.bind_none, Bool.not_true, Bool.not_false, Bool.true_and, Bool.and_true, Bool.and_false, Bool.false_and, Bool.and_self, decide_true, decide_false]
      rw [f_l7Made (by omega) (by omega)]
      simp only [Option.bind_some, c_rInt, c_rBool, c_rStr, c_rTs, c_rIs, c_rIss, c_rSs, c_rBs, c_rTerm, c_rOwnT, c_rOwn, c_rPtr, c_nilV, c_nilO, c_objC, c_dropC, c_intC, c_boolC, c_strC, c_tsC, c_isC, c_issC, c_ssC, c_bsC, c_anyC, c_nilC, c_arrTs, c_arrIs, c_arrIss, c_arrSs, c_arrBs, ik_self, nb_self, cond_true, cond_false, rTerm_tm, T.eta, mk_k, mk_n, mk_kids, Option.bind_none, Bool.not_true, Bool.not_false, Bool.true_and, Bool.and_true, Bool.and_false, Bool.false_and, Bool.and_self, decide_true, decide_false]
      rfl
/-- Splits are joined. -/
theorem spl_over : ∀ (j g : Nat) (t : T) (acc : List T), validB t = true → j ≤ cntP g t → overF (splT j t acc).1 (splT j t acc).2 = overF acc t ∧ (splT j t acc).1.length = acc.length + j ∧ ((∀ u ∈ acc, validB u = true) → ∀ u ∈ (splT j t acc).1, validB u = true) ∧ validB (splT j t acc).2 = true
  | 0, g, t, acc, hv, _ => ⟨rfl, rfl, fun h => h, hv⟩
  | j + 1, 0, t, acc, hv, hc => by rw [cntP] at hc; omega
  | j + 1, g + 1, t, acc, hv, hc => by
    rw [cntP] at hc
    by_cases h : t.k = 3
    · rw [if_pos h] at hc
      obtain ⟨a, b, rfl, hva, hvb, hs, hsa⟩ := pi_kids hv h
      have hc' : j ≤ cntP g b := by have : cntP g ((T.mk 3 0 [a, b]).kids.getD 1 (T.mk 3 0 [a, b])) = cntP g b := rfl; omega
      obtain ⟨h1, h2, h3, h4⟩ := spl_over j g b (acc ++ [a]) hvb hc'
      refine ⟨?_, ?_, ?_, h4⟩
      · refine Eq.trans h1 ?_
        unfold overF; rw [List.foldr_append]; rfl
      · refine Eq.trans h2 ?_
        simp; omega
      · intro hh
        refine h3 ?_
        intro u hu
        rcases List.mem_append.1 hu with h | h
        · exact hh u h
        · rw [List.mem_singleton.1 h]; exact hva
    · rw [if_neg h] at hc; omega
end Go.Proofs.Ythjbllfcelkajaa
