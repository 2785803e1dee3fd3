/- Applications in the abstract run. -/
import Derived.Test.YthjbllfcelkajaaEvD
set_option linter.unusedVariables false
set_option linter.unusedSimpArgs false
namespace Go.Proofs.Ythjbllfcelkajaa
open Go Go.Ab Go.Dk
/-- Lists that the chapter takes: not too long, of valid terms. -/
def okA (l : List T) : Bool := decide (l.length ≤ 8) && l.all validB
theorem okA_out {l : List T} (h : okA l = true) : l.length ≤ 8 ∧ ∀ t ∈ l, validB t = true := by
  unfold okA at h
  rw [Bool.and_eq_true, decide_eq_true_eq, List.all_eq_true] at h
  exact h
theorem idx_loop (n : Nat) (l : List T) (hl : l.length ≤ 4000000) (h : ∀ t ∈ l, FF n 97 [tm t] [] = some ([bl (!validB t)], [])) :
    ∀ g m (i : Nat), g < m → i + g = l.length → ∃ v, L_slices_IndexFunc_impl_areTerms_1_0 n m l l.length i = some ([nt v], []) ∧ (0 ≤ v ↔ (l.drop i).all validB = false)
  | g, 0, i, hg, _ => by omega
  | 0, m + 1, i, _, hi => by
    rw [L_slices_IndexFunc_impl_areTerms_1_0_eq, List.drop_of_length_le (by omega), decide_eq_false (show ¬ (i : Int) < l.length by omega)]
    exact ⟨-1, rfl, by simp⟩
  | g + 1, m + 1, i, hg, hi => by
    have hlt : i < l.length := by omega
    rw [List.drop_eq_getElem_cons hlt, List.all_cons]
    rw [L_slices_IndexFunc_impl_areTerms_1_0_eq]; simp (disch := omega) only [Option.bind_some, c_rInt, c_rBool, c_rStr, c_rTs, c_rIs, c_rIss, c_rSs, c_rBs, c_rTerm, c_rOwnT, c_rOwn, c_rPtr, c_nilV, c_nilO, c_objC, c_dropC, c_intC, c_boolC, c_strC, c_tsC, c_isC, c_issC, c_ssC, c_bsC, c_anyC, c_nilC, c_arrTs, c_arrIs, c_arrIss, c_arrSs, c_arrBs, ik_self, nb_self, cond_true, cond_false, rTerm_tm, T.eta, mk_k, mk_n, mk_kids, Option.bind_none, Bool.not_true, Bool.not_false, Bool.true_and, Bool.and_true, Bool.and_false, Bool.false_and, Bool.and_self, decide_true, decide_false, cond_dec, Int.toNat_natCast, cast1, wrap64, roomB_ok, List.length_append, List.length_cons, List.length_nil, if_pos (show (i : Int) < l.length by omega), if_pos (show 0 ≤ (i : Int) by omega), List.getElem?_eq_getElem hlt, h _ (List.getElem_mem hlt)]
    cases hs : validB l[i] with
    | false => exact ⟨i, rfl, by simp⟩
    | true =>
      simp only [Bool.not_true, cond_false, Bool.true_and]
      exact idx_loop n l hl h g m (i + 1) (by omega) (by omega)
theorem f_areTerms {n : Nat} {l : List T} (hn : 4400000 ≤ n) (hl : l.length ≤ 4000000) (hz : ∀ t ∈ l, t.size ≤ 4000000) : FF n 73 [tms l] [] = some ([bl (okA l)], []) := by
  obtain ⟨n, rfl⟩ : ∃ m, n = m + 3 := ⟨n - 3, by omega⟩
  have hc : ∀ t ∈ l, FF n 97 [tm t] [] = some ([bl (!validB t)], []) := by
    intro t ht
    have := hz t ht
    obtain ⟨n, rfl⟩ : ∃ m, n = m + 1 := ⟨n - 1, by omega⟩
    rw [E_impl_areTerms_1, f_TermValid (by omega)]
    simp only [Option.bind_some, c_rInt, c_rBool, c_rStr, c_rTs, c_rIs, c_rIss, c_rSs, c_rBs, c_rTerm, c_rOwnT, c_rOwn, c_rPtr, c_nilV, c_nilO, c_objC, c_dropC, c_intC, c_boolC, c_strC, c_tsC, c_isC, c_issC, c_ssC, c_bsC, c_anyC, c_nilC, c_arrTs, c_arrIs, c_arrIss, c_arrSs, c_arrBs, ik_self, nb_self, cond_true, cond_false, rTerm_tm, T.eta, mk_k, mk_n, mk_kids, Option.bind_none, Bool.not_true, Bool.not_false, Bool.true_and, Bool.and_true, Bool.and_false, Bool.false_and, Bool.and_self, decide_true, decide_false]
  obtain ⟨v, h1, h2⟩ := idx_loop n l hl hc l.length n 0 (by omega) (by omega)
  rw [E_impl_areTerms]
  unfold okA
  by_cases h8 : l.length ≤ 8
  · rw [decide_eq_true (show (l.length : Int) ≤ 8 by omega), decide_eq_true h8, E_slices_ContainsFunc_impl_areTerms_1, E_slices_IndexFunc_impl_areTerms_1]
    rw [show (L_slices_IndexFunc_impl_areTerms_1_0 n n l l.length 0) = _ from h1]
    simp only [Option.bind_some, c_rInt, c_rBool, c_rStr, c_rTs, c_rIs, c_rIss, c_rSs, c_rBs, c_rTerm, c_rOwnT, c_rOwn, c_rPtr, c_nilV, c_nilO, c_objC, c_dropC, c_intC, c_boolC, c_strC, c_tsC, c_isC, c_issC, c_ssC, c_bsC, c_anyC, c_nilC, c_arrTs, c_arrIs, c_arrIss, c_arrSs, c_arrBs, ik_self, nb_self, cond_true, cond_false, rTerm_tm, T.eta, mk_k, mk_n, mk_kids, Option.bind_none, Bool.not_true, Bool.not_false, Bool.true_and, Bool.and_true, Bool.and_false, Bool.false_and, Bool.and_self, decide_true, decide_false]
    rw [List.drop_zero] at h2
    cases ha : l.all validB with
    | true =>
      rw [ha] at h2
      have : ¬ (0 : Int) ≤ v := fun hh => by have := h2.1 hh; cases this
      rw [decide_eq_false this]; rfl
    | false =>
      rw [ha] at h2
      rw [decide_eq_true (h2.2 rfl)]; rfl
  · rw [decide_eq_false (show ¬ (l.length : Int) ≤ 8 by omega), decide_eq_false h8]; rfl
theorem fits_loop (n : Nat) (l : List T) (hl : l.length ≤ 4000000) (h : ∀ t ∈ l, FF n 61 [tm t] [] = some ([bl (validB t)], [])) :
    ∀ g m (i : Nat), g < m → i + g = l.length → L_spec_l5Fits_0 n m l i = some ([bl ((l.drop i).all validB && decide (l.length ≤ 8))], [])
  | g, 0, i, hg, _ => by omega
  | 0, m + 1, i, _, hi => by
    rw [L_spec_l5Fits_0_eq, List.drop_of_length_le (by omega), decide_eq_false (show ¬ (i : Int) < l.length by omega)]
    have : decide ((l.length : Int) ≤ 8) = decide (l.length ≤ 8) := decide_eq_decide.2 (by omega)
    simp [this]
  | g + 1, m + 1, i, hg, hi => by
    have hlt : i < l.length := by omega
    rw [List.drop_eq_getElem_cons hlt, List.all_cons]
    rw [L_spec_l5Fits_0_eq]; simp (disch := omega) only [Option.bind_some, c_rInt, c_rBool, c_rStr, c_rTs, c_rIs, c_rIss, c_rSs, c_rBs, c_rTerm, c_rOwnT, c_rOwn, c_rPtr, c_nilV, c_nilO, c_objC, c_dropC, c_intC, c_boolC, c_strC, c_tsC, c_isC, c_issC, c_ssC, c_bsC, c_anyC, c_nilC, c_arrTs, c_arrIs, c_arrIss, c_arrSs, c_arrBs, ik_self, nb_self, cond_true, cond_false, rTerm_tm, T.eta, mk_k, mk_n, mk_kids, Option.bind_none, Bool.not_true, Bool.not_false, Bool.true_and, Bool.and_true, Bool.and_false, Bool.false_and, Bool.and_self, decide_true, decide_false, cond_dec, Int.toNat_natCast, cast1, wrap64, roomB_ok, List.length_append, List.length_cons, List.length_nil, if_pos (show (i : Int) < l.length by omega), if_pos (show 0 ≤ (i : Int) by omega), List.getElem?_eq_getElem hlt, h _ (List.getElem_mem hlt)]
    cases hs : validB l[i] with
    | false => simp
    | true =>
      simp only [Bool.not_true, cond_false, Bool.true_and]
      exact fits_loop n l hl h g m (i + 1) (by omega) (by omega)
theorem f_l5Fits {n : Nat} {l : List T} (hn : 4400000 ≤ n) (hl : l.length ≤ 4000000) (hz : ∀ t ∈ l, t.size ≤ 4000000) : FF n 70 [tms l] [] = some ([bl (okA l)], []) := by
  obtain ⟨n, rfl⟩ := pos_succ (show 0 < n by omega)
  rw [E_spec_l5Fits]
  have := fits_loop n l hl (fun t ht => f_TermValidS (by have := hz t ht; omega) (hz t ht)) l.length n 0 (by omega) (by omega)
  rw [List.drop_zero] at this
  unfold okA
  rw [Bool.and_comm]
  exact this
/-! Applications. -/
def appF (f : T) (l : List T) : T := l.foldl (fun t a => .mk 5 0 [t, a]) f
theorem app_size : ∀ (l : List T) (f : T), (appF f l).size = f.size + l.length + T.sizeL l
  | [], f => by simp [appF, T.sizeL]
  | a :: l, f => by
    have := app_size l (.mk 5 0 [f, a])
    unfold appF at this ⊢
    rw [List.foldl_cons, this]
    simp only [T.size, T.sizeL, List.length_cons]; omega
theorem sizeL_le {l : List T} {k : Nat} (h : ∀ t ∈ l, t.size ≤ k) : T.sizeL l ≤ l.length * k := by
  induction l with
  | nil => simp [T.sizeL]
  | cons t l ih =>
    rw [T.sizeL, List.length_cons, Nat.add_mul, Nat.one_mul]
    have h1 := h t (List.mem_cons_self ..)
    have h2 := ih fun u hu => h u (List.mem_cons_of_mem _ hu)
    omega
theorem app_bound {l : List T} {f : T} (hf : validB f = true) (hl : okA l = true) : (appF f l).size ≤ 5000 := by
  obtain ⟨h1, h2⟩ := okA_out hl
  have h3 := sizeL_le (k := 400) fun t ht => validB_size (h2 t ht)
  have h4 : l.length * 400 ≤ 8 * 400 := Nat.mul_le_mul_right 400 h1
  rw [app_size]
  have := validB_size hf
  omega
theorem app_loop (n : Nat) (hn : 20000 ≤ n) (l : List T) (hl : l.length ≤ 8) (z1 z2 : Int) (l0 : List T) (u : T) (hu : u.size ≤ 10000) : ∀ g m (i : Nat) (t : T), g < m → i + g = l.length → appF t (l.drop i) = u →
    L_impl_ApplyAll_0_of n m l l.length i z1 z2 l0 t.k t.n t.kids = some ([tm (okT u), bl (validB u)], [])
  | g, 0, i, t, hg, _, _ => by omega
  | 0, m + 1, i, t, _, hi, he => by
    rw [List.drop_of_length_le (by omega)] at he
    have he : t = u := he
    subst he
    have ho := f_ownValid (n := n) (t := t) (by omega) (by omega)
    rw [L_impl_ApplyAll_0_of_eq, decide_eq_false (show ¬ (i : Int) < l.length by omega)]
    simp only [cond_false, ho, Option.bind_some, c_rInt, c_rBool, c_rStr, c_rTs, c_rIs, c_rIss, c_rSs, c_rBs, c_rTerm, c_rOwnT, c_rOwn, c_rPtr, c_nilV, c_nilO, c_objC, c_dropC, c_intC, c_boolC, c_strC, c_tsC, c_isC, c_issC, c_ssC, c_bsC, c_anyC, c_nilC, c_arrTs, c_arrIs, c_arrIss, c_arrSs, c_arrBs, ik_self, nb_self, cond_true, cond_false, rTerm_tm, T.eta, mk_k, mk_n, mk_kids, Option.bind_none, Bool.not_true, Bool.not_false, Bool.true_and, Bool.and_true, Bool.and_false, Bool.false_and, Bool.and_self, decide_true, decide_false]
  | g + 1, m + 1, i, t, hg, hi, he => by
    have hlt : i < l.length := by omega
    rw [List.drop_eq_getElem_cons hlt] at he
    have w : IntKind.i64.wrap ((i : Int) + 1) = ((i + 1 : Nat) : Int) := wrap64 (by omega)
    have := app_loop n hn l hl z1 z2 l0 u hu g m (i + 1) (.mk 5 0 [t, l[i]]) (by omega) (by omega) he
    rw [L_impl_ApplyAll_0_of_eq, w, decide_eq_true (show (i : Int) < l.length by omega), decide_eq_true (show 0 ≤ (i : Int) by omega), Int.toNat_natCast, List.getElem?_eq_getElem hlt]
    simp only [cond_true, Option.bind_some, f_node (show 1 ≤ n by omega), Option.bind_some, c_rInt, c_rBool, c_rStr, c_rTs, c_rIs, c_rIss, c_rSs, c_rBs, c_rTerm, c_rOwnT, c_rOwn, c_rPtr, c_nilV, c_nilO, c_objC, c_dropC, c_intC, c_boolC, c_strC, c_tsC, c_isC, c_issC, c_ssC, c_bsC, c_anyC, c_nilC, c_arrTs, c_arrIs, c_arrIss, c_arrSs, c_arrBs, ik_self, nb_self, cond_true, cond_false, rTerm_tm, T.eta, mk_k, mk_n, mk_kids, Option.bind_none, Bool.not_true, Bool.not_false, Bool.true_and, Bool.and_true, Bool.and_false, Bool.false_and, Bool.and_self, decide_true, decide_false]
    exact this
/-- What ApplyAll hands back. -/
def appR (f : T) (l : List T) : T × Bool := if (validB f && okA l) = true then (okT (appF f l), validB (appF f l)) else (.mk 0 0 [], false)
theorem f_ApplyAll {n : Nat} {f : T} {l : List T} (hn : 4800000 ≤ n) (hf : f.size ≤ 4000000) (hl : l.length ≤ 4000000) (hz : ∀ t ∈ l, t.size ≤ 4000000) : FF n 37 [tm f, tms l] [] = some ([tm (appR f l).1, bl (appR f l).2], []) := by
  obtain ⟨n, rfl⟩ := pos_succ (show 0 < n by omega)
  rw [E_impl_ApplyAll, f_TermValid (by omega), f_areTerms (by omega) hl hz]
  simp only [Option.bind_some, c_rInt, c_rBool, c_rStr, c_rTs, c_rIs, c_rIss, c_rSs, c_rBs, c_rTerm, c_rOwnT, c_rOwn, c_rPtr, c_nilV, c_nilO, c_objC, c_dropC, c_intC, c_boolC, c_strC, c_tsC, c_isC, c_issC, c_ssC, c_bsC, c_anyC, c_nilC, c_arrTs, c_arrIs, c_arrIss, c_arrSs, c_arrBs, ik_self, nb_self, cond_true, cond_false, rTerm_tm, T.eta, mk_k, mk_n, mk_kids, Option.bind_none, Bool.not_true, Bool.not_false, Bool.true_and, Bool.and_true, Bool.and_false, Bool.false_and, Bool.and_self, decide_true, decide_false]
  unfold appR
  cases hv : validB f with
  | false => rfl
  | true =>
    cases ho : okA l with
    | false => rfl
    | true =>
      simp only [Bool.not_true, cond_false, Bool.and_self, if_true]
      exact app_loop n (by omega) l (okA_out ho).1 0 0 [] (appF f l) (by have := app_bound hv ho; omega) l.length n 0 f (by have := (okA_out ho).1; omega) (by omega) rfl
theorem appS_loop (n : Nat) (hn : 20000 ≤ n) (l : List T) (hl : l.length ≤ 8) (hlz : ∀ t ∈ l, t.size ≤ 400) (z1 z2 : Int) (l0 : List T) (u : T) (hu : u.size ≤ 10000) : ∀ g m (i : Nat) (t : T), g < m → i + g = l.length → appF t (l.drop i) = u →
    L_spec_ApplyAll_0_of n m l i z1 z2 l0 t.k t.n t.kids = some ([tm (okT u), bl (validB u)], []) ∧ L_spec_ApplyAll_0_oo n m l i z1 z2 l0 t.k t.n t.kids = some ([tm (okT u), bl (validB u)], [])
  | g, 0, i, t, hg, _, _ => by omega
  | 0, m + 1, i, t, _, hi, he => by
    rw [List.drop_of_length_le (by omega)] at he
    have he : t = u := he
    subst he
    have ho := f_l7Made (n := n) (t := t) (by omega) (by omega)
    rw [L_spec_ApplyAll_0_of_eq, L_spec_ApplyAll_0_oo_eq, decide_eq_false (show ¬ (i : Int) < l.length by omega)]
    simp only [cond_false, ho, Option.bind_some, c_rInt, c_rBool, c_rStr, c_rTs, c_rIs, c_rIss, c_rSs, c_rBs, c_rTerm, c_rOwnT, c_rOwn, c_rPtr, c_nilV, c_nilO, c_objC, c_dropC, c_intC, c_boolC, c_strC, c_tsC, c_isC, c_issC, c_ssC, c_bsC, c_anyC, c_nilC, c_arrTs, c_arrIs, c_arrIss, c_arrSs, c_arrBs, ik_self, nb_self, cond_true, cond_false, rTerm_tm, T.eta, mk_k, mk_n, mk_kids, Option.bind_none, Bool.not_true, Bool.not_false, Bool.true_and, Bool.and_true, Bool.and_false, Bool.false_and, Bool.and_self, decide_true, decide_false]
    exact ⟨rfl, rfl⟩
  | g + 1, m + 1, i, t, hg, hi, he => by
    have hlt : i < l.length := by omega
    rw [List.drop_eq_getElem_cons hlt] at he
    have w : IntKind.i64.wrap ((i : Int) + 1) = ((i + 1 : Nat) : Int) := wrap64 (by omega)
    have := (appS_loop n hn l hl hlz z1 z2 l0 u hu g m (i + 1) (.mk 5 0 [t, l[i]]) (by omega) (by omega) he).1
    have hz := hlz _ (List.getElem_mem hlt)
    rw [L_spec_ApplyAll_0_of_eq, L_spec_ApplyAll_0_oo_eq, w, decide_eq_true (show (i : Int) < l.length by omega), decide_eq_true (show 0 ≤ (i : Int) by omega), Int.toNat_natCast, List.getElem?_eq_getElem hlt]
    simp (disch := simp) only [cond_true, Option.bind_some, f_l1Copy l[i] (show l[i].size + 5 ≤ n by omega) (show l[i].size ≤ 4000000 by omega), f_l1Node (show 1 ≤ n by omega), Option.bind_some, c_rInt, c_rBool, c_rStr, c_rTs, c_rIs, c_rIss, c_rSs, c_rBs, c_rTerm, c_rOwnT, c_rOwn, c_rPtr, c_nilV, c_nilO, c_objC, c_dropC, c_intC, c_boolC, c_strC, c_tsC, c_isC, c_issC, c_ssC, c_bsC, c_anyC, c_nilC, c_arrTs, c_arrIs, c_arrIss, c_arrSs, c_arrBs, ik_self, nb_self, cond_true, cond_false, rTerm_tm, T.eta, mk_k, mk_n, mk_kids, Option.bind_none, Bool.not_true, Bool.not_false, Bool.true_and, Bool.and_true, Bool.and_false, Bool.false_and, Bool.and_self, decide_true, decide_false]
    exact ⟨this, this⟩
theorem f_ApplyAllS {n : Nat} {f : T} {l : List T} (hn : 4800000 ≤ n) (hf : f.size ≤ 4000000) (hl : l.length ≤ 4000000) (hz : ∀ t ∈ l, t.size ≤ 4000000) : FF n 35 [tm f, tms l] [] = some ([tm (appR f l).1, bl (appR f l).2], []) := by
  obtain ⟨n, rfl⟩ := pos_succ (show 0 < n by omega)
  rw [E_spec_ApplyAll, f_TermValidS (by omega) (by omega), f_l5Fits (by omega) hl hz]
  simp only [Option.bind_some, c_rInt, c_rBool, c_rStr, c_rTs, c_rIs, c_rIss, c_rSs, c_rBs, c_rTerm, c_rOwnT, c_rOwn, c_rPtr, c_nilV, c_nilO, c_objC, c_dropC, c_intC, c_boolC, c_strC, c_tsC, c_isC, c_issC, c_ssC, c_bsC, c_anyC, c_nilC, c_arrTs, c_arrIs, c_arrIss, c_arrSs, c_arrBs, ik_self, nb_self, cond_true, cond_false, rTerm_tm, T.eta, mk_k, mk_n, mk_kids, Option.bind_none, Bool.not_true, Bool.not_false, Bool.true_and, Bool.and_true, Bool.and_false, Bool.false_and, Bool.and_self, decide_true, decide_false]
  unfold appR
  cases hv : validB f with
  | false => rfl
  | true =>
    cases ho : okA l with
    | false => rfl
    | true =>
      obtain ⟨h1, h2⟩ := okA_out ho
      simp only [Bool.not_true, cond_false, Bool.and_self, if_true, f_l1Copy f (show f.size + 5 ≤ n by omega) (show f.size ≤ 4000000 by omega), Option.bind_some, c_rInt, c_rBool, c_rStr, c_rTs, c_rIs, c_rIss, c_rSs, c_rBs, c_rTerm, c_rOwnT, c_rOwn, c_rPtr, c_nilV, c_nilO, c_objC, c_dropC, c_intC, c_boolC, c_strC, c_tsC, c_isC, c_issC, c_ssC, c_bsC, c_anyC, c_nilC, c_arrTs, c_arrIs, c_arrIss, c_arrSs, c_arrBs, ik_self, nb_self, cond_true, cond_false, rTerm_tm, T.eta, mk_k, mk_n, mk_kids, Option.bind_none, Bool.not_true, Bool.not_false, Bool.true_and, Bool.and_true, Bool.and_false, Bool.false_and, Bool.and_self, decide_true, decide_false]
      exact (appS_loop n (by omega) l h1 (fun t ht => validB_size (h2 t ht)) 0 0 [] (appF f l) (by have := app_bound hv ho; omega) l.length n 0 f (by omega) (by omega) rfl).2
theorem okT_valid' {t : T} (h : validB t = true) : okT t = t := if_pos h
theorem app_app (f : T) (a b : List T) : appF (appF f a) b = appF f (a ++ b) := by unfold appF; rw [List.foldl_append]
/-- What is applied to the first arguments is valid if the whole is. -/
theorem app_valid' : ∀ {b : List T} {f : T}, validB (appF f b) = true → validB f = true
  | [], f, h => h
  | x :: b, f, h => kid_of (app_valid' (b := b) (f := .mk 5 0 [f, x]) h) (by simp)
theorem app_valid {f : T} {a b : List T} (h : validB (appF f (a ++ b)) = true) : validB (appF f a) = true := by
  rw [← app_app] at h
  exact app_valid' h
theorem okA_sub {a b : List T} (h : okA (a ++ b) = true) : okA a = true ∧ okA b = true := by
  obtain ⟨h1, h2⟩ := okA_out h
  rw [List.length_append] at h1
  unfold okA
  simp only [Bool.and_eq_true, decide_eq_true_eq, List.all_eq_true]
  exact ⟨⟨by omega, fun t ht => h2 t (List.mem_append_left _ ht)⟩, ⟨by omega, fun t ht => h2 t (List.mem_append_right _ ht)⟩⟩
theorem appR_true {f : T} {l : List T} (h : (appR f l).2 = true) : validB f = true ∧ okA l = true ∧ validB (appF f l) = true ∧ (appR f l).1 = appF f l := by
  by_cases hh : (validB f && okA l) = true
  · have e : appR f l = (okT (appF f l), validB (appF f l)) := if_pos hh
    rw [e] at h ⊢
    rw [Bool.and_eq_true] at hh
    exact ⟨hh.1, hh.2, h, okT_valid' h⟩
  · have e : appR f l = (.mk 0 0 [], false) := if_neg hh
    rw [e] at h
    cases h
theorem appR_ok {f : T} {l : List T} (hf : validB f = true) (hl : okA l = true) (h : validB (appF f l) = true) : appR f l = (appF f l, true) := by
  unfold appR
  rw [if_pos (by rw [hf, hl]; rfl), okT_valid' h, h]
theorem appF_size (f : T) (l : List T) : (appF f l).size = f.size + l.length + T.sizeL l := app_size l f
/-- A drawn function and drawn arguments. -/
abbrev IsApp (r : List V1 × List AObj) : Prop := ∃ (t : T) (l : List T), r = ([tm t, tms l], []) ∧ t.size ≤ 1000 ∧ l.length ≤ 10 ∧ ∀ u ∈ l, u.size ≤ 5
end Go.Proofs.Ythjbllfcelkajaa
