/- Binders around a term, applications: the reference by the abstract run, the program by walks. -/
import Derived.Test.YthjbllfcelkajaaPis
set_option linter.unusedVariables false
set_option linter.unusedSimpArgs false
namespace Go.Proofs.Ythjbllfcelkajaa
open Go Go.Ab Go.Dk
def ovF (k : Int) (ps : List T) (t : T) : T := ps.foldr (fun a u => .mk k 0 [a, u]) t
theorem ov_size (k : Int) : ∀ (ps : List T) (t : T), (ovF k ps t).size = t.size + ps.length + T.sizeL ps
  | [], t => by simp [ovF, T.sizeL]
  | a :: ps, t => by
    have := ov_size k ps t
    unfold ovF at this ⊢
    rw [List.foldr_cons, T.size]
    simp only [T.sizeL, List.length_cons, this]; omega
theorem ov_bound {k : Int} {ps : List T} {t : T} (ht : validB t = true) (hl : okA ps = true) : (ovF k ps t).size ≤ 5000 := by
  obtain ⟨h1, h2⟩ := okA_out hl
  have h3 := sizeL_le (k := 400) fun t ht => validB_size (h2 t ht)
  have h4 : ps.length * 400 ≤ 8 * 400 := Nat.mul_le_mul_right 400 h1
  rw [ov_size]
  have := validB_size ht
  omega
def ovR (k : Int) (ps : List T) (t : T) : T × Bool := if (okA ps && validB t) = true then (okT (ovF k ps t), validB (ovF k ps t)) else (.mk 0 0 [], false)
theorem ov_loop (k : Int) (n : Nat) (hn : 20000 ≤ n) (ps : List T) (hl : ps.length ≤ 8) (z1 z2 : Int) (l0 : List T) (w : T) (hw : w.size ≤ 10000) : ∀ (i m : Nat) (u : T), i < m → i ≤ ps.length → ovF k (ps.take i) u = w →
    L_impl_over_0_of n m k ps ((i : Int) - 1) z1 z2 l0 u.k u.n u.kids = some ([tm (okT w), bl (validB w)], [])
  | i, 0, u, hm, _, _ => by omega
  | 0, m + 1, u, hm, hi, he => by
    have he : u = w := he
    subst he
    have ho := f_ownValid (n := n) (t := u) (by omega) (by omega)
    rw [L_impl_over_0_of_eq, decide_eq_false (show ¬ (0 : Int) ≤ ((0 : Nat) : Int) - 1 by omega)]
    simp only [cond_false]
    rw [ho.1]
    simp only [Option.bind_some, c_rInt, c_rBool, c_rStr, c_rTs, c_rIs, c_rIss, c_rSs, c_rBs, c_rTerm, c_rOwnT, c_rOwn, c_rPtr, c_nilV, c_nilO, c_objC, c_dropC, c_intC, c_boolC, c_strC, c_tsC, c_isC, c_issC, c_ssC, c_bsC, c_anyC, c_nilC, c_arrTs, c_arrIs, c_arrIss, c_arrSs, c_arrBs, ik_self, nb_self, cond_true, cond_false, rTerm_tm, T.eta, mk_k, mk_n, mk_kids, Option.bind_none, Bool.not_true, Bool.not_false, Bool.true_and, Bool.and_true, Bool.and_false, Bool.false_and, Bool.and_self, decide_true, decide_false]
    rw [ho.2]
    simp only [Option.bind_some, c_rInt, c_rBool, c_rStr, c_rTs, c_rIs, c_rIss, c_rSs, c_rBs, c_rTerm, c_rOwnT, c_rOwn, c_rPtr, c_nilV, c_nilO, c_objC, c_dropC, c_intC, c_boolC, c_strC, c_tsC, c_isC, c_issC, c_ssC, c_bsC, c_anyC, c_nilC, c_arrTs, c_arrIs, c_arrIss, c_arrSs, c_arrBs, ik_self, nb_self, cond_true, cond_false, rTerm_tm, T.eta, mk_k, mk_n, mk_kids, Option.bind_none, Bool.not_true, Bool.not_false, Bool.true_and, Bool.and_true, Bool.and_false, Bool.false_and, Bool.and_self, decide_true, decide_false]
  | i + 1, m + 1, u, hm, hi, he => by
    have hlt : i < ps.length := by omega
    have hx : ps.take (i + 1) = ps.take i ++ [ps[i]] := by rw [List.take_append_getElem hlt]
    have nx := ov_loop k n hn ps hl z1 z2 l0 w hw i m (.mk k 0 [ps[i], u]) (by omega) (by omega) (by rw [← he, hx]; unfold ovF; rw [List.foldr_append]; rfl)
    have w : IntKind.i64.wrap ((i : Int) - 1) = (i : Int) - 1 := wrap64 (by omega)
    rw [show (((i + 1 : Nat) : Int) - 1) = (i : Int) by omega, L_impl_over_0_of_eq, decide_eq_true (show 0 ≤ (i : Int) by omega), Int.toNat_natCast, List.getElem?_eq_getElem hlt, w]
    simp only [cond_true, Option.bind_some, T.eta]
    rw [f_node (show 1 ≤ n by omega)]
    simp only [Option.bind_some, c_rInt, c_rBool, c_rStr, c_rTs, c_rIs, c_rIss, c_rSs, c_rBs, c_rTerm, c_rOwnT, c_rOwn, c_rPtr, c_nilV, c_nilO, c_objC, c_dropC, c_intC, c_boolC, c_strC, c_tsC, c_isC, c_issC, c_ssC, c_bsC, c_anyC, c_nilC, c_arrTs, c_arrIs, c_arrIss, c_arrSs, c_arrBs, ik_self, nb_self, cond_true, cond_false, rTerm_tm, T.eta, mk_k, mk_n, mk_kids, Option.bind_none, Bool.not_true, Bool.not_false, Bool.true_and, Bool.and_true, Bool.and_false, Bool.false_and, Bool.and_self, decide_true, decide_false]
    exact nx
theorem f_over {k : Int} {n : Nat} {ps : List T} {t : T} (hn : 4800000 ≤ n) (ht : t.size ≤ 4000000) (hl : ps.length ≤ 4000000) (hz : ∀ u ∈ ps, u.size ≤ 4000000) : FF n 77 [nt k, tms ps, tm t] [] = some ([tm (ovR k ps t).1, bl (ovR k ps t).2], []) := by
  obtain ⟨n, rfl⟩ := pos_succ (show 0 < n by omega)
  rw [E_impl_over, f_areTerms (by omega) hl hz]
  simp only [Option.bind_some, c_rInt, c_rBool, c_rStr, c_rTs, c_rIs, c_rIss, c_rSs, c_rBs, c_rTerm, c_rOwnT, c_rOwn, c_rPtr, c_nilV, c_nilO, c_objC, c_dropC, c_intC, c_boolC, c_strC, c_tsC, c_isC, c_issC, c_ssC, c_bsC, c_anyC, c_nilC, c_arrTs, c_arrIs, c_arrIss, c_arrSs, c_arrBs, ik_self, nb_self, cond_true, cond_false, rTerm_tm, T.eta, mk_k, mk_n, mk_kids, Option.bind_none, Bool.not_true, Bool.not_false, Bool.true_and, Bool.and_true, Bool.and_false, Bool.false_and, Bool.and_self, decide_true, decide_false]
  unfold ovR
  cases ho : okA ps with
  | false => rfl
  | true =>
    simp only [Bool.not_true, cond_false]
    rw [f_TermValid (by omega)]
    simp only [Option.bind_some, c_rInt, c_rBool, c_rStr, c_rTs, c_rIs, c_rIss, c_rSs, c_rBs, c_rTerm, c_rOwnT, c_rOwn, c_rPtr, c_nilV, c_nilO, c_objC, c_dropC, c_intC, c_boolC, c_strC, c_tsC, c_isC, c_issC, c_ssC, c_bsC, c_anyC, c_nilC, c_arrTs, c_arrIs, c_arrIss, c_arrSs, c_arrBs, ik_self, nb_self, cond_true, cond_false, rTerm_tm, T.eta, mk_k, mk_n, mk_kids, Option.bind_none, Bool.not_true, Bool.not_false, Bool.true_and, Bool.and_true, Bool.and_false, Bool.false_and, Bool.and_self, decide_true, decide_false]
    cases hv : validB t with
    | false => rfl
    | true =>
      simp only [Bool.not_true, cond_false, Bool.and_self, if_true]
      have h8 := (okA_out ho).1
      have := ov_loop k n (by omega) ps h8 0 0 [] (ovF k ps t) (by have := ov_bound (k := k) hv ho; omega) ps.length n t (by omega) (by omega) (by rw [List.take_length])
      rw [wrap64 (show -9223372036854775808 ≤ (ps.length : Int) - 1 ∧ (ps.length : Int) - 1 ≤ 9223372036854775807 by omega), this]
theorem ovS_loop (k : Int) (n : Nat) (hn : 20000 ≤ n) (ps : List T) (hl : ps.length ≤ 8) (hz : ∀ t ∈ ps, t.size ≤ 400) (z1 z2 : Int) (l0 : List T) (w : T) : ∀ (i m : Nat) (u : T), i < m → i ≤ ps.length → ovF k (ps.take i) u = w →
    L_spec_l7Over_0_of n m k ps ((i : Int) - 1) z1 z2 l0 u.k u.n u.kids = some ([tm w], []) ∧ L_spec_l7Over_0_oo n m k ps ((i : Int) - 1) z1 z2 l0 u.k u.n u.kids = some ([tm w], [])
  | i, 0, u, hm, _, _ => by omega
  | 0, m + 1, u, hm, hi, he => by
    have he : u = w := he
    subst he
    rw [L_spec_l7Over_0_of_eq, L_spec_l7Over_0_oo_eq, decide_eq_false (show ¬ (0 : Int) ≤ ((0 : Nat) : Int) - 1 by omega)]
    exact ⟨rfl, rfl⟩
  | i + 1, m + 1, u, hm, hi, he => by
    have hlt : i < ps.length := by omega
    have hx : ps.take (i + 1) = ps.take i ++ [ps[i]] := by rw [List.take_append_getElem hlt]
    have nx := (ovS_loop k n hn ps hl hz z1 z2 l0 w i m (.mk k 0 [ps[i], u]) (by omega) (by omega) (by rw [← he, hx]; unfold ovF; rw [List.foldr_append]; rfl)).1
    have w : IntKind.i64.wrap ((i : Int) - 1) = (i : Int) - 1 := wrap64 (by omega)
    have hsz := hz _ (List.getElem_mem hlt)
    rw [show (((i + 1 : Nat) : Int) - 1) = (i : Int) by omega, L_spec_l7Over_0_of_eq, L_spec_l7Over_0_oo_eq, decide_eq_true (show 0 ≤ (i : Int) by omega), Int.toNat_natCast, List.getElem?_eq_getElem hlt, w]
    simp only [cond_true, Option.bind_some]
    rw [f_l1Copy ps[i] (by omega) (by omega)]
    simp only [Option.bind_some, c_rInt, c_rBool, c_rStr, c_rTs, c_rIs, c_rIss, c_rSs, c_rBs, c_rTerm, c_rOwnT, c_rOwn, c_rPtr, c_nilV, c_nilO, c_objC, c_dropC, c_intC, c_boolC, c_strC, c_tsC, c_isC, c_issC, c_ssC, c_bsC, c_anyC, c_nilC, c_arrTs, c_arrIs, c_arrIss, c_arrSs, c_arrBs, ik_self, nb_self, cond_true, cond_false, rTerm_tm, T.eta, mk_k, mk_n, mk_kids, Option.bind_none, Bool.not_true, Bool.not_false, Bool.true_and, Bool.and_true, Bool.and_false, Bool.false_and, Bool.and_self, decide_true, decide_false]
    rw [f_l1Node (show 1 ≤ n by omega) _ _ (by simp)]
    simp only [Option.bind_some, c_rInt, c_rBool, c_rStr, c_rTs, c_rIs, c_rIss, c_rSs, c_rBs, c_rTerm, c_rOwnT, c_rOwn, c_rPtr, c_nilV, c_nilO, c_objC, c_dropC, c_intC, c_boolC, c_strC, c_tsC, c_isC, c_issC, c_ssC, c_bsC, c_anyC, c_nilC, c_arrTs, c_arrIs, c_arrIss, c_arrSs, c_arrBs, ik_self, nb_self, cond_true, cond_false, rTerm_tm, T.eta, mk_k, mk_n, mk_kids, Option.bind_none, Bool.not_true, Bool.not_false, Bool.true_and, Bool.and_true, Bool.and_false, Bool.false_and, Bool.and_self, decide_true, decide_false]
    exact ⟨nx, nx⟩
theorem f_PiOverS2 {n : Nat} {ps : List T} {t : T} (hn : 4800000 ≤ n) (ht : t.size ≤ 4000000) (hl : ps.length ≤ 4000000) (hz : ∀ u ∈ ps, u.size ≤ 4000000) : FF n 40 [tms ps, tm t] [] = some ([tm (ovR 3 ps t).1, bl (ovR 3 ps t).2], []) := by
  obtain ⟨n, rfl⟩ : ∃ m, n = m + 2 := ⟨n - 2, by omega⟩
  rw [E_spec_PiOver, f_l5Fits (by omega) hl hz]
  simp only [Option.bind_some, c_rInt, c_rBool, c_rStr, c_rTs, c_rIs, c_rIss, c_rSs, c_rBs, c_rTerm, c_rOwnT, c_rOwn, c_rPtr, c_nilV, c_nilO, c_objC, c_dropC, c_intC, c_boolC, c_strC, c_tsC, c_isC, c_issC, c_ssC, c_bsC, c_anyC, c_nilC, c_arrTs, c_arrIs, c_arrIss, c_arrSs, c_arrBs, ik_self, nb_self, cond_true, cond_false, rTerm_tm, T.eta, mk_k, mk_n, mk_kids, Option.bind_none, Bool.not_true, Bool.not_false, Bool.true_and, Bool.and_true, Bool.and_false, Bool.false_and, Bool.and_self, decide_true, decide_false]
  unfold ovR
  cases ho : okA ps with
  | false => rfl
  | true =>
    simp only [Bool.not_true, cond_false]
    rw [f_TermValidS (by omega) (by omega)]
    simp only [Option.bind_some, c_rInt, c_rBool, c_rStr, c_rTs, c_rIs, c_rIss, c_rSs, c_rBs, c_rTerm, c_rOwnT, c_rOwn, c_rPtr, c_nilV, c_nilO, c_objC, c_dropC, c_intC, c_boolC, c_strC, c_tsC, c_isC, c_issC, c_ssC, c_bsC, c_anyC, c_nilC, c_arrTs, c_arrIs, c_arrIss, c_arrSs, c_arrBs, ik_self, nb_self, cond_true, cond_false, rTerm_tm, T.eta, mk_k, mk_n, mk_kids, Option.bind_none, Bool.not_true, Bool.not_false, Bool.true_and, Bool.and_true, Bool.and_false, Bool.false_and, Bool.and_self, decide_true, decide_false]
    cases hv : validB t with
    | false => rfl
    | true =>
      simp only [Bool.not_true, cond_false, Bool.and_self, if_true]
      obtain ⟨h8, h9⟩ := okA_out ho
      have hb := ov_bound (k := 3) hv ho
      have := (ovS_loop 3 n (by omega) ps h8 (fun u hu => validB_size (h9 u hu)) 0 0 [] (ovF 3 ps t) ps.length n t (by omega) (by omega) (by rw [List.take_length])).2
      have hl7 : FF (n + 1) 76 [nt 3, tms ps, tm t] [] = some ([tm (ovF 3 ps t)], []) := by
        rw [E_spec_l7Over, f_l1Copy t (by omega) (by omega)]
        simp only [Option.bind_some, c_rInt, c_rBool, c_rStr, c_rTs, c_rIs, c_rIss, c_rSs, c_rBs, c_rTerm, c_rOwnT, c_rOwn, c_rPtr, c_nilV, c_nilO, c_objC, c_dropC, c_intC, c_boolC, c_strC, c_tsC, c_isC, c_issC, c_ssC, c_bsC, c_anyC, c_nilC, c_arrTs, c_arrIs, c_arrIss, c_arrSs, c_arrBs, ik_self, nb_self, cond_true, cond_false, rTerm_tm, T.eta, mk_k, mk_n, mk_kids, Option.bind_none, Bool.not_true, Bool.not_false, Bool.true_and, Bool.and_true, Bool.and_false, Bool.false_and, Bool.and_self, decide_true, decide_false]
        rw [wrap64 (show -9223372036854775808 ≤ (ps.length : Int) - 1 ∧ (ps.length : Int) - 1 ≤ 9223372036854775807 by omega)]
        exact this
      rw [hl7]
      simp only [Option.bind_some, c_rInt, c_rBool, c_rStr, c_rTs, c_rIs, c_rIss, c_rSs, c_rBs, c_rTerm, c_rOwnT, c_rOwn, c_rPtr, c_nilV, c_nilO, c_objC, c_dropC, c_intC, c_boolC, c_strC, c_tsC, c_isC, c_issC, c_ssC, c_bsC, c_anyC, c_nilC, c_arrTs, c_arrIs, c_arrIss, c_arrSs, c_arrBs, ik_self, nb_self, cond_true, cond_false, rTerm_tm, T.eta, mk_k, mk_n, mk_kids, Option.bind_none, Bool.not_true, Bool.not_false, Bool.true_and, Bool.and_true, Bool.and_false, Bool.false_and, Bool.and_self, decide_true, decide_false]
      rw [f_l7Made (by omega) (by omega)]
      simp only [Option.bind_some, c_rInt, c_rBool, c_rStr, c_rTs, c_rIs, c_rIss, c_rSs, c_rBs, c_rTerm, c_rOwnT, c_rOwn, c_rPtr, c_nilV, c_nilO, c_objC, c_dropC, c_intC, c_boolC, c_strC, c_tsC, c_isC, c_issC, c_ssC, c_bsC, c_anyC, c_nilC, c_arrTs, c_arrIs, c_arrIss, c_arrSs, c_arrBs, ik_self, nb_self, cond_true, cond_false, rTerm_tm, T.eta, mk_k, mk_n, mk_kids, Option.bind_none, Bool.not_true, Bool.not_false, Bool.true_and, Bool.and_true, Bool.and_false, Bool.false_and, Bool.and_self, decide_true, decide_false]
      rfl
theorem f_LamOverS2 {n : Nat} {ps : List T} {t : T} (hn : 4800000 ≤ n) (ht : t.size ≤ 4000000) (hl : ps.length ≤ 4000000) (hz : ∀ u ∈ ps, u.size ≤ 4000000) : FF n 38 [tms ps, tm t] [] = some ([tm (ovR 4 ps t).1, bl (ovR 4 ps t).2], []) := by
  obtain ⟨n, rfl⟩ : ∃ m, n = m + 2 := ⟨n - 2, by omega⟩
  rw [E_spec_LamOver, f_l5Fits (by omega) hl hz]
  simp only [Option.bind_some, c_rInt, c_rBool, c_rStr, c_rTs, c_rIs, c_rIss, c_rSs, c_rBs, c_rTerm, c_rOwnT, c_rOwn, c_rPtr, c_nilV, c_nilO, c_objC, c_dropC, c_intC, c_boolC, c_strC, c_tsC, c_isC, c_issC, c_ssC, c_bsC, c_anyC, c_nilC, c_arrTs, c_arrIs, c_arrIss, c_arrSs, c_arrBs, ik_self, nb_self, cond_true, cond_false, rTerm_tm, T.eta, mk_k, mk_n, mk_kids, Option.bind_none, Bool.not_true, Bool.not_false, Bool.true_and, Bool.and_true, Bool.and_false, Bool.false_and, Bool.and_self, decide_true, decide_false]
  unfold ovR
  cases ho : okA ps with
  | false => rfl
  | true =>
    simp only [Bool.not_true, cond_false]
    rw [f_TermValidS (by omega) (by omega)]
    simp only [Option.bind_some, c_rInt, c_rBool, c_rStr, c_rTs, c_rIs, c_rIss, c_rSs, c_rBs, c_rTerm, c_rOwnT, c_rOwn, c_rPtr, c_nilV, c_nilO, c_objC, c_dropC, c_intC, c_boolC, c_strC, c_tsC, c_isC, c_issC, c_ssC, c_bsC, c_anyC, c_nilC, c_arrTs, c_arrIs, c_arrIss, c_arrSs, c_arrBs, ik_self, nb_self, cond_true, cond_false, rTerm_tm, T.eta, mk_k, mk_n, mk_kids, Option.bind_none, Bool.not_true, Bool.not_false, Bool.true_and, Bool.and_true, Bool.and_false, Bool.false_and, Bool.and_self, decide_true, decide_false]
    cases hv : validB t with
    | false => rfl
    | true =>
      simp only [Bool.not_true, cond_false, Bool.and_self, if_true]
      obtain ⟨h8, h9⟩ := okA_out ho
      have hb := ov_bound (k := 4) hv ho
      have := (ovS_loop 4 n (by omega) ps h8 (fun u hu => validB_size (h9 u hu)) 0 0 [] (ovF 4 ps t) ps.length n t (by omega) (by omega) (by rw [List.take_length])).2
      have hl7 : FF (n + 1) 76 [nt 4, tms ps, tm t] [] = some ([tm (ovF 4 ps t)], []) := by
        rw [E_spec_l7Over, f_l1Copy t (by omega) (by omega)]
        simp only [Option.bind_some, c_rInt, c_rBool, c_rStr, c_rTs, c_rIs, c_rIss, c_rSs, c_rBs, c_rTerm, c_rOwnT, c_rOwn, c_rPtr, c_nilV, c_nilO, c_objC, c_dropC, c_intC, c_boolC, c_strC, c_tsC, c_isC, c_issC, c_ssC, c_bsC, c_anyC, c_nilC, c_arrTs, c_arrIs, c_arrIss, c_arrSs, c_arrBs, ik_self, nb_self, cond_true, cond_false, rTerm_tm, T.eta, mk_k, mk_n, mk_kids, Option.bind_none, Bool.not_true, Bool.not_false, Bool.true_and, Bool.and_true, Bool.and_false, Bool.false_and, Bool.and_self, decide_true, decide_false]
        rw [wrap64 (show -9223372036854775808 ≤ (ps.length : Int) - 1 ∧ (ps.length : Int) - 1 ≤ 9223372036854775807 by omega)]
        exact this
      rw [hl7]
      simp only [Option.bind_some, c_rInt, c_rBool, c_rStr, c_rTs, c_rIs, c_rIss, c_rSs, c_rBs, c_rTerm, c_rOwnT, c_rOwn, c_rPtr, c_nilV, c_nilO, c_objC, c_dropC, c_intC, c_boolC, c_strC, c_tsC, c_isC, c_issC, c_ssC, c_bsC, c_anyC, c_nilC, c_arrTs, c_arrIs, c_arrIss, c_arrSs, c_arrBs, ik_self, nb_self, cond_true, cond_false, rTerm_tm, T.eta, mk_k, mk_n, mk_kids, Option.bind_none, Bool.not_true, Bool.not_false, Bool.true_and, Bool.and_true, Bool.and_false, Bool.false_and, Bool.and_self, decide_true, decide_false]
      rw [f_l7Made (by omega) (by omega)]
      simp only [Option.bind_some, c_rInt, c_rBool, c_rStr, c_rTs, c_rIs, c_rIss, c_rSs, c_rBs, c_rTerm, c_rOwnT, c_rOwn, c_rPtr, c_nilV, c_nilO, c_objC, c_dropC, c_intC, c_boolC, c_strC, c_tsC, c_isC, c_issC, c_ssC, c_bsC, c_anyC, c_nilC, c_arrTs, c_arrIs, c_arrIss, c_arrSs, c_arrBs, ik_self, nb_self, cond_true, cond_false, rTerm_tm, T.eta, mk_k, mk_n, mk_kids, Option.bind_none, Bool.not_true, Bool.not_false, Bool.true_and, Bool.and_true, Bool.and_false, Bool.false_and, Bool.and_self, decide_true, decide_false]
      rfl
end Go.Proofs.Ythjbllfcelkajaa
