/- Traces in the abstract run. -/
import Derived.Test.YtmioieikbpemoaaEvC
set_option linter.unusedVariables false
set_option linter.unusedSimpArgs false
namespace Go.Proofs.Ytmioieikbpemoaa
open Go Go.Ab Go.Dk
/-- The last of a trace. -/
theorem last_get {l : List T} (h : l ≠ []) : l[l.length - 1]? = some (l.getLast h) := by
  rw [List.getLast_eq_getElem, List.getElem?_eq_getElem]
theorem trace_loop (n : Nat) (hn : 6000000 ≤ n) : ∀ g m (l : List T) (t : T), g < m → l.length + 1 + g = 12 → validB t = true → L_impl_TraceTerm_0 n m (l ++ [t]) = some ([tms (l ++ [t] ++ trF g t)], [])
  | g, 0, l, t, hg, _, _ => by omega
  | 0, m + 1, l, t, _, hl, hv => by
    rw [L_impl_TraceTerm_0_eq]
    rw [decide_eq_false (show ¬ ((l ++ [t]).length : Int) < 12 by simp; omega)]
    simp [trF]
  | g + 1, m + 1, l, t, hg, hl, hv => by
    have hlen : ((l ++ [t]).length : Int) = l.length + 1 := by simp
    have hz := validB_size hv
    rw [L_impl_TraceTerm_0_eq]
    have w : IntKind.i64.wrap (((l ++ [t]).length : Int) - 1) = (l.length : Int) := by rw [wrap64 (by omega)]; omega
    have hget : (l ++ [t])[l.length]? = some t := by simp
    rw [w, decide_eq_true (show ((l ++ [t]).length : Int) < 12 by omega), decide_eq_true (show 0 ≤ (l.length : Int) by omega), decide_eq_true (show (l.length : Int) < ((l ++ [t]).length : Int) by omega), Int.toNat_natCast, hget]
    simp only [cond_true, Option.bind_some]
    rw [f_StepTerm (by omega)]
    simp only [Option.bind_some, c_rInt, c_rBool, c_rStr, c_rTs, c_rIs, c_rIss, c_rSs, c_rBs, c_rTerm, c_rOwnT, c_rOwn, c_rPtr, c_nilV, c_nilO, c_objC, c_dropC, c_intC, c_boolC, c_strC, c_tsC, c_isC, c_issC, c_ssC, c_bsC, c_anyC, c_nilC, c_arrTs, c_arrIs, c_arrIss, c_arrSs, c_arrBs, ik_self, nb_self, cond_true, cond_false, rTerm_tm, T.eta, mk_k, mk_n, mk_kids, Option.bind_none, Bool.not_true, Bool.not_false, Bool.true_and, Bool.and_true, Bool.and_false, Bool.false_and, Bool.and_self, decide_true, decide_false]
    rw [show stepR false t = oneR false t from if_pos hv]
    unfold oneR
    rw [trF]
    cases hs : stT false t with
    | none => simp
    | some u =>
      simp only
      rcases Bool.eq_false_or_eq_true (validB u) with hu | hu
      rotate_left
      · simp [hu]
      · simp only [hu, if_true, decide_true, Bool.not_true, cond_false]
        rw [roomB_ok (by simp; omega), cond_true]
        have := trace_loop n hn g m (l ++ [t]) u (by omega) (by simp; omega) hu
        rw [this]; simp
theorem f_TraceTerm {n : Nat} {t : T} (hn : 7000000 ≤ n) (hz : t.size ≤ 100000) : FF n 28 [tm t] [] = some ([tms (traceR t)], []) := by
  obtain ⟨n, rfl⟩ := pos_succ (show 0 < n by omega)
  rw [E_impl_TraceTerm, f_TermValid (by omega)]
  simp only [Option.bind_some, c_rInt, c_rBool, c_rStr, c_rTs, c_rIs, c_rIss, c_rSs, c_rBs, c_rTerm, c_rOwnT, c_rOwn, c_rPtr, c_nilV, c_nilO, c_objC, c_dropC, c_intC, c_boolC, c_strC, c_tsC, c_isC, c_issC, c_ssC, c_bsC, c_anyC, c_nilC, c_arrTs, c_arrIs, c_arrIss, c_arrSs, c_arrBs, ik_self, nb_self, cond_true, cond_false, rTerm_tm, T.eta, mk_k, mk_n, mk_kids, Option.bind_none, Bool.not_true, Bool.not_false, Bool.true_and, Bool.and_true, Bool.and_false, Bool.false_and, Bool.and_self, decide_true, decide_false]
  unfold traceR
  cases hv : validB t with
  | false => rfl
  | true =>
    have hz := validB_size hv
    simp only [Bool.not_true, cond_false, f_own t (show t.size + 5 ≤ n by omega) (by omega), Option.bind_some, c_rInt, c_rBool, c_rStr, c_rTs, c_rIs, c_rIss, c_rSs, c_rBs, c_rTerm, c_rOwnT, c_rOwn, c_rPtr, c_nilV, c_nilO, c_objC, c_dropC, c_intC, c_boolC, c_strC, c_tsC, c_isC, c_issC, c_ssC, c_bsC, c_anyC, c_nilC, c_arrTs, c_arrIs, c_arrIss, c_arrSs, c_arrBs, ik_self, nb_self, cond_true, cond_false, rTerm_tm, T.eta, mk_k, mk_n, mk_kids, Option.bind_none, Bool.not_true, Bool.not_false, Bool.true_and, Bool.and_true, Bool.and_false, Bool.false_and, Bool.and_self, decide_true, decide_false, if_true]
    exact trace_loop n (by omega) 11 n [] t (by omega) rfl hv
theorem traceS_loop (n : Nat) (hn : 6000000 ≤ n) : ∀ g m (l : List T) (t : T), g < m → l.length + 1 + g = 12 → validB t = true → L_spec_TraceTerm_0 n m (l ++ [t]) = some ([tms (l ++ [t] ++ trF g t)], [])
  | g, 0, l, t, hg, _, _ => by omega
  | 0, m + 1, l, t, _, hl, hv => by
    rw [L_spec_TraceTerm_0_eq]
    rw [decide_eq_false (show ¬ ((l ++ [t]).length : Int) < 12 by simp; omega)]
    simp [trF]
  | g + 1, m + 1, l, t, hg, hl, hv => by
    have hlen : ((l ++ [t]).length : Int) = l.length + 1 := by simp
    have hz := validB_size hv
    rw [L_spec_TraceTerm_0_eq]
    have w : IntKind.i64.wrap (((l ++ [t]).length : Int) - 1) = (l.length : Int) := by rw [wrap64 (by omega)]; omega
    have hget : (l ++ [t])[l.length]? = some t := by simp
    rw [w, decide_eq_true (show ((l ++ [t]).length : Int) < 12 by omega), decide_eq_true (show 0 ≤ (l.length : Int) by omega), decide_eq_true (show (l.length : Int) < ((l ++ [t]).length : Int) by omega), Int.toNat_natCast, hget]
    simp only [cond_true, Option.bind_some]
    rw [f_l3One (by omega) hv]
    simp only [Option.bind_some, c_rInt, c_rBool, c_rStr, c_rTs, c_rIs, c_rIss, c_rSs, c_rBs, c_rTerm, c_rOwnT, c_rOwn, c_rPtr, c_nilV, c_nilO, c_objC, c_dropC, c_intC, c_boolC, c_strC, c_tsC, c_isC, c_issC, c_ssC, c_bsC, c_anyC, c_nilC, c_arrTs, c_arrIs, c_arrIss, c_arrSs, c_arrBs, ik_self, nb_self, cond_true, cond_false, rTerm_tm, T.eta, mk_k, mk_n, mk_kids, Option.bind_none, Bool.not_true, Bool.not_false, Bool.true_and, Bool.and_true, Bool.and_false, Bool.false_and, Bool.and_self, decide_true, decide_false]
    unfold oneR
    rw [trF]
    cases hs : stT false t with
    | none => simp
    | some u =>
      simp only
      rcases Bool.eq_false_or_eq_true (validB u) with hu | hu
      rotate_left
      · simp [hu]
      · simp only [hu, if_true, decide_true, Bool.not_true, cond_false]
        rw [roomB_ok (by simp; omega), cond_true]
        have := traceS_loop n hn g m (l ++ [t]) u (by omega) (by simp; omega) hu
        rw [this]; simp
theorem f_TraceTermS {n : Nat} {t : T} (hn : 7000000 ≤ n) (hz : t.size ≤ 100000) : FF n 29 [tm t] [] = some ([tms (traceR t)], []) := by
  obtain ⟨n, rfl⟩ := pos_succ (show 0 < n by omega)
  rw [E_spec_TraceTerm, f_TermValidS (by omega) (by omega)]
  simp only [Option.bind_some, c_rInt, c_rBool, c_rStr, c_rTs, c_rIs, c_rIss, c_rSs, c_rBs, c_rTerm, c_rOwnT, c_rOwn, c_rPtr, c_nilV, c_nilO, c_objC, c_dropC, c_intC, c_boolC, c_strC, c_tsC, c_isC, c_issC, c_ssC, c_bsC, c_anyC, c_nilC, c_arrTs, c_arrIs, c_arrIss, c_arrSs, c_arrBs, ik_self, nb_self, cond_true, cond_false, rTerm_tm, T.eta, mk_k, mk_n, mk_kids, Option.bind_none, Bool.not_true, Bool.not_false, Bool.true_and, Bool.and_true, Bool.and_false, Bool.false_and, Bool.and_self, decide_true, decide_false]
  unfold traceR
  cases hv : validB t with
  | false => rfl
  | true =>
    have hz := validB_size hv
    simp only [Bool.not_true, cond_false, f_l1Copy t (show t.size + 5 ≤ n by omega) (by omega), Option.bind_some, c_rInt, c_rBool, c_rStr, c_rTs, c_rIs, c_rIss, c_rSs, c_rBs, c_rTerm, c_rOwnT, c_rOwn, c_rPtr, c_nilV, c_nilO, c_objC, c_dropC, c_intC, c_boolC, c_strC, c_tsC, c_isC, c_issC, c_ssC, c_bsC, c_anyC, c_nilC, c_arrTs, c_arrIs, c_arrIss, c_arrSs, c_arrBs, ik_self, nb_self, cond_true, cond_false, rTerm_tm, T.eta, mk_k, mk_n, mk_kids, Option.bind_none, Bool.not_true, Bool.not_false, Bool.true_and, Bool.and_true, Bool.and_false, Bool.false_and, Bool.and_self, decide_true, decide_false, if_true, List.nil_append]
    rw [roomB_ok (by simp), cond_true]
    exact traceS_loop n (by omega) 11 n [] t (by omega) rfl hv
theorem trF_len : ∀ (g : Nat) (t : T), (trF g t).length ≤ g
  | 0, t => by simp [trF]
  | g + 1, t => by
    rw [trF]
    split
    · split
      · have := trF_len g ‹_›
        simp only [List.length_cons]; omega
      · simp
    · simp
theorem trF_valid : ∀ (g : Nat) (t u : T), u ∈ trF g t → validB u = true ∧ Red t u
  | 0, t, u, h => by simp [trF] at h
  | g + 1, t, u, h => by
    rw [trF] at h
    split at h
    · rename_i v hs
      split at h
      · rename_i hv
        rcases List.mem_cons.1 h with rfl | h
        · exact ⟨hv, .one (st_par hs)⟩
        · have := trF_valid g v u h
          exact ⟨this.1, .step (st_par hs) this.2⟩
      · simp at h
    · simp at h
theorem trace_valid {t u : T} (h : u ∈ traceR t) : validB u = true ∧ Red t u := by
  unfold traceR at h
  split at h
  · rename_i hv
    rcases List.mem_cons.1 h with rfl | h
    · exact ⟨hv, .refl⟩
    · exact trF_valid 11 t u h
  · simp at h
theorem trace_len (t : T) : (traceR t).length ≤ 12 := by
  unfold traceR
  split
  · have := trF_len 11 t
    simp only [List.length_cons]; omega
  · simp
/-! Equal lists. -/
theorem dk_loop (n : Nat) (ts us : List T) (hl : ts.length ≤ 1000000) (he : ts.length = us.length) (h : ∀ t ∈ ts, ∀ u, FF n 18 [tm t, tm u] [] = some ([bl (T.beq t u)], [])) :
    ∀ g m (i : Nat), g < m → i + g = ts.length → L_laws_dkTerms_0 n m ts us i = some ([bl (T.beqL (ts.drop i) (us.drop i))], [])
  | g, 0, i, hg, _ => by omega
  | 0, m + 1, i, _, hi => by
    rw [L_laws_dkTerms_0_eq, List.drop_of_length_le (by omega), List.drop_of_length_le (by omega)]
    simp only [cond_dec, if_neg (show ¬ (i : Int) < ts.length by omega), T.beqL]
  | g + 1, m + 1, i, hg, hi => by
    have hlt : i < ts.length := by omega
    have hlt2 : i < us.length := by omega
    rw [List.drop_eq_getElem_cons hlt, List.drop_eq_getElem_cons hlt2, T.beqL]
    rw [L_laws_dkTerms_0_eq]; simp (disch := omega) only [Option.bind_some, c_rInt, c_rBool, c_rStr, c_rTs, c_rIs, c_rIss, c_rSs, c_rBs, c_rTerm, c_rOwnT, c_rOwn, c_rPtr, c_nilV, c_nilO, c_objC, c_dropC, c_intC, c_boolC, c_strC, c_tsC, c_isC, c_issC, c_ssC, c_bsC, c_anyC, c_nilC, c_arrTs, c_arrIs, c_arrIss, c_arrSs, c_arrBs, ik_self, nb_self, cond_true, cond_false, rTerm_tm, T.eta, mk_k, mk_n, mk_kids, Option.bind_none, Bool.not_true, Bool.not_false, Bool.true_and, Bool.and_true, Bool.and_false, Bool.false_and, Bool.and_self, decide_true, decide_false, cond_dec, Int.toNat_natCast, cast1, wrap64, roomB_ok, List.length_append, List.length_cons, List.length_nil, if_pos (show (i : Int) < ts.length by omega), if_pos (show 0 ≤ (i : Int) by omega), List.getElem?_eq_getElem hlt, List.getElem?_eq_getElem hlt2, h _ (List.getElem_mem hlt)]
    cases hs : T.beq ts[i] us[i] with
    | false => simp
    | true =>
      simp only [Bool.not_true, cond_false, Bool.true_and]
      exact dk_loop n ts us hl he h g m (i + 1) (by omega) (by omega)
theorem f_dkTerms {n : Nat} {ts us : List T} (hn : 3000000 ≤ n) (hl : ts.length ≤ 1000000) (hz : ∀ t ∈ ts, t.size ≤ 1000000) : FF n 20 [tms ts, tms us] [] = some ([bl (T.beqL ts us)], []) := by
  obtain ⟨n, rfl⟩ := pos_succ (show 0 < n by omega)
  rw [E_laws_dkTerms]
  by_cases h : ts.length = us.length
  · rw [decide_eq_true (show (ts.length : Int) = us.length by omega)]
    have := dk_loop n ts us hl h (fun t ht u => f_TermSame t (by have := hz t ht; omega) (hz t ht) u) ts.length n 0 (by omega) (by omega)
    simpa using this
  · rw [decide_eq_false (show ¬ (ts.length : Int) = us.length by omega), beqL_len h]; rfl
theorem chain : ∀ (g : Nat) (t : T) (i : Nat) (h : i < (trF g t).length), oneR false ((t :: trF g t)[i]'(by simp; omega)) = ((trF g t)[i], 1)
  | 0, t, i, h => by simp [trF] at h
  | g + 1, t, i, h => by
    cases hs : stT false t with
    | none => simp [trF, hs] at h
    | some u =>
      rcases Bool.eq_false_or_eq_true (validB u) with hu | hu
      · have e : trF (g + 1) t = u :: trF g u := by rw [trF, hs]; simp [hu]
        have e1 : oneR false t = (u, 1) := by unfold oneR; rw [hs]; simp [hu]
        simp only [e] at h ⊢
        cases i with
        | zero => simpa using e1
        | succ i =>
          simp only [List.getElem_cons_succ]
          exact chain g u i (by simpa using h)
      · have e : trF (g + 1) t = [] := by rw [trF, hs]; simp [hu]
        simp [e] at h
theorem trF_end : ∀ (g G s : Nat) (t : T), g ≤ G → (trF g t).length < g → (oneR false ((t :: trF g t).getLast (by simp))).2 ≠ 1 ∧ ((redF false G s t).2.2 = 0 → (redF false G s t).2.1 = s + (trF g t).length)
  | 0, G, s, t, hg, h => by simp [trF] at h
  | g + 1, G, s, t, hg, h => by
    obtain ⟨G, rfl⟩ : ∃ k, G = k + 1 := ⟨G - 1, by omega⟩
    cases hs : stT false t with
    | none =>
      have e : trF (g + 1) t = [] := by rw [trF, hs]
      have e1 : oneR false t = (t, 0) := by unfold oneR; rw [hs]
      have e2 : redF false (G + 1) s t = (t, s, 0) := by rw [redF, hs]
      simp only [e, e2]
      simp [e1]
    | some u =>
      rcases Bool.eq_false_or_eq_true (validB u) with hu | hu
      · have e : trF (g + 1) t = u :: trF g u := by rw [trF, hs]; simp [hu]
        have e2 : redF false (G + 1) s t = redF false G (s + 1) u := by rw [redF, hs]; simp [hu]
        rw [e] at h
        have := trF_end g G (s + 1) u (by omega) (by simpa using h)
        simp only [e, e2]
        refine ⟨by simpa using this.1, fun h0 => ?_⟩
        rw [this.2 h0, List.length_cons]; omega
      · have e : trF (g + 1) t = [] := by rw [trF, hs]; simp [hu]
        have e1 : oneR false t = (junk, 2) := by unfold oneR; rw [hs]; simp [hu]
        have e2 : redF false (G + 1) s t = (junk, s, 2) := by rw [redF, hs]; simp [hu]
        simp only [e, e2]
        simp [e1]
end Go.Proofs.Ytmioieikbpemoaa
