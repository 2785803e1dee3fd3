/- The functions of terms in the abstract run: validity, copies, equality. -/
import Derived.Test.YtbkpfjabcohnpaaEvR
import Derived.Test.YtbkpfjabcohnpaaRed
set_option linter.unusedVariables false
set_option linter.unusedSimpArgs false
namespace Go.Proofs.Ytbkpfjabcohnpaa
open Go Go.Ab Go.Dk
abbrev tm (t : T) : V1 := .agg [.int .i64 t.k, .int .i64 t.n, .fr (.ts t.kids)]
abbrev tms (l : List T) : V1 := .one (.fr (.ts l))
abbrev nt (n : Int) : V1 := .one (.int .i64 n)
abbrev bl (b : Bool) : V1 := .one (.bool b)
abbrev termT : TypeId := 30
/-- A term whose operands are the call's own. -/
abbrev ow (t : T) : List V1 × List AObj := ([.agg [.int .i64 t.k, .int .i64 t.n, .own 0 0]], [.arr termT (.ts t.kids) 0 false])
theorem T.eta (t : T) : T.mk t.k t.n t.kids = t := by cases t; rfl
theorem mk_k (k n : Int) (l : List T) : (T.mk k n l).k = k := rfl
theorem mk_n (k n : Int) (l : List T) : (T.mk k n l).n = n := rfl
theorem mk_kids (k n : Int) (l : List T) : (T.mk k n l).kids = l := rfl
theorem rTerm_tm (t : T) (l : List V1) (k : T → List V1 → OR) : rTerm (.agg [.int .i64 t.k, .int .i64 t.n, .fr (.ts t.kids)] :: l) k = k t l := by cases t; rfl
theorem evt : type_of% (And.intro @evs <| And.intro @rTerm_tm <| And.intro @T.eta <| And.intro @mk_k <| And.intro @mk_n <| And.intro @mk_kids <| And.intro @Option.bind_none.{0,0} <| And.intro @Bool.not_true <| And.intro @Bool.not_false <| And.intro @Bool.true_and <| And.intro @Bool.and_true <| And.intro @Bool.and_false <| And.intro @Bool.false_and <| And.intro @Bool.and_self <| And.intro @decide_true @decide_false) := And.intro @evs <| And.intro @rTerm_tm <| And.intro @T.eta <| And.intro @mk_k <| And.intro @mk_n <| And.intro @mk_kids <| And.intro @Option.bind_none.{0,0} <| And.intro @Bool.not_true <| And.intro @Bool.not_false <| And.intro @Bool.true_and <| And.intro @Bool.and_true <| And.intro @Bool.and_false <| And.intro @Bool.false_and <| And.intro @Bool.and_self <| And.intro @decide_true @decide_false
theorem pos_succ {n : Nat} (h : 0 < n) : ∃ m, n = m + 1 := ⟨n - 1, by omega⟩
theorem cast1 (i : Nat) : (i : Int) + 1 = ((i + 1 : Nat) : Int) := rfl
theorem roomB_ok {n : Nat} (h : n ≤ 1099511627776) : roomB n = true := decide_eq_true h
theorem take_snoc {α : Type} {l : List α} {i : Nat} (h : i < l.length) : l.take i ++ [l[i]] = l.take (i + 1) := by rw [List.take_add_one, List.getElem?_eq_getElem h]; rfl
theorem f_within {n : Nat} (hn : 1 ≤ n) (a b c : Int) : FF n 38 [nt a, nt b, nt c] [] = some ([bl (decide (b ≤ a) && decide (a ≤ c))], []) := by
  obtain ⟨n, rfl⟩ := pos_succ (show 0 < n by omega)
  rw [E_impl_within]
  by_cases h : b ≤ a <;> simp [h]
theorem f_most {n : Nat} (hn : 1 ≤ n) (k : Int) : FF n 39 [nt k] [] = some ([nt (mostOf k)], []) := by
  obtain ⟨n, rfl⟩ := pos_succ (show 0 < n by omega)
  rw [E_impl_most]
  unfold mostOf
  by_cases h : k = 1 <;> by_cases h2 : k = 2 <;> simp [h, h2]
theorem f_l1Most {n : Nat} (hn : 1 ≤ n) (k : Int) : FF n 36 [nt k] [] = some ([nt (mostOf k)], []) := by
  obtain ⟨n, rfl⟩ := pos_succ (show 0 < n by omega)
  rw [E_spec_l1Most]
  unfold mostOf
  by_cases h : k = 1 <;> by_cases h2 : k = 2 <;> simp [h, h2]
theorem ops_list (k : Int) (h : 1 ≤ k ∧ k ≤ 16) : ([0, 0, 2, 2, 2, 0, 0, 1, 4, 3, 1, 3, 2, 3, 1, 1] : List Int)[(k - 1).toNat]? = some (opsOf k) := by
  have : k = 1 ∨ k = 2 ∨ k = 3 ∨ k = 4 ∨ k = 5 ∨ k = 6 ∨ k = 7 ∨ k = 8 ∨ k = 9 ∨ k = 10 ∨ k = 11 ∨ k = 12 ∨ k = 13 ∨ k = 14 ∨ k = 15 ∨ k = 16 := by omega
  rcases this with rfl | rfl | rfl | rfl | rfl | rfl | rfl | rfl | rfl | rfl | rfl | rfl | rfl | rfl | rfl | rfl <;> rfl
theorem f_operands {n : Nat} (hn : 2 ≤ n) (k : Int) : FF n 37 [nt k] [] = some ([nt (opsOf k)], []) := by
  obtain ⟨n, rfl⟩ := pos_succ (show 0 < n by omega)
  rw [E_impl_operands, f_within (by omega)]
  by_cases h : 1 ≤ k ∧ k ≤ 16
  · simp only [evs, decide_eq_true h.1, decide_eq_true h.2, Bool.and_self, Bool.not_true, wrap64 (show -9223372036854775808 ≤ k - 1 ∧ k - 1 ≤ 9223372036854775807 by omega), decide_eq_true (show 0 ≤ k - 1 by omega),
      show (([0, 0, 2, 2, 2, 0, 0, 1, 4, 3, 1, 3, 2, 3, 1, 1] : List Nat).length : Int) = 16 from rfl, decide_eq_true (show k - 1 < 16 by omega), ops_list k h]
  · have : (decide (1 ≤ k) && decide (k ≤ 16)) = false := by
      rw [Bool.and_eq_false_iff, decide_eq_false_iff_not, decide_eq_false_iff_not]; omega
    simp only [evs, this, Bool.not_false]
    unfold opsOf
    rw [if_neg (by omega), if_neg (by omega), if_neg (by omega), if_neg (by omega), if_neg (by omega)]
theorem f_l1Kids {n : Nat} (hn : 1 ≤ n) (k : Int) : FF n 35 [nt k] [] = some ([nt (opsOf k)], []) := by
  obtain ⟨n, rfl⟩ := pos_succ (show 0 < n by omega)
  rw [E_spec_l1Kids]
  by_cases h : k = 1 ∨ k = 2 ∨ k = 3 ∨ k = 4 ∨ k = 5 ∨ k = 6 ∨ k = 7 ∨ k = 8 ∨ k = 9 ∨ k = 10 ∨ k = 11 ∨ k = 12 ∨ k = 13 ∨ k = 14 ∨ k = 15 ∨ k = 16
  · rcases h with rfl | rfl | rfl | rfl | rfl | rfl | rfl | rfl | rfl | rfl | rfl | rfl | rfl | rfl | rfl | rfl <;> rfl
  · unfold opsOf
    rw [if_neg (by omega), if_neg (by omega), if_neg (by omega), if_neg (by omega), if_neg (by omega)]
    simp (disch := omega) only [cond_dec, if_neg]
theorem und_cast (k : Int) (i : Nat) : under k i = if (i : Int) = 1 ∧ (k = 3 ∨ k = 4 ∨ k = 13) then 1 else 0 := by
  unfold under
  by_cases h : i = 1
  · subst h; simp
  · rw [if_neg (fun hh => h hh.1), if_neg (fun hh => h (by have := hh.1; omega))]
/-! Is a term valid? -/
theorem ops_le (k : Int) : opsOf k ≤ 4 := by
  unfold opsOf
  repeat' split
  all_goals omega
theorem scan_loop (n : Nat) (d : Int) (ts : List T) (hd : 0 ≤ d ∧ d ≤ 31) (hl : ts.length ≤ 1099511627776)
    (h : ∀ u ∈ ts, ∀ c : Int, 0 ≤ c → c ≤ 400 → FF n 33 [tm u, nt (d + 1), .one (.ptr 0 0)] [.cells [.int .i64 c]] = some ([bl (scanF u (d + 1) c).1], [.cells [.int .i64 (scanF u (d + 1) c).2]])) :
    ∀ g m (i : Nat) (c : Int), g < m → i + g = ts.length → 0 ≤ c → c ≤ 400 → L_impl_scan_0 n m d ts ts.length i c = some ([bl (scanL (ts.drop i) (d + 1) c).1], [.cells [.int .i64 (scanL (ts.drop i) (d + 1) c).2]])
  | g, 0, i, c, hg, _, _, _ => by omega
  | 0, m + 1, i, c, _, hi, _, _ => by
    rw [L_impl_scan_0_eq, List.drop_of_length_le (by omega)]
    simp only [cond_dec, if_neg (show ¬ (i : Int) < ts.length by omega), scanL]
  | g + 1, m + 1, i, c, hg, hi, h0, h1 => by
    have hlt : i < ts.length := by omega
    have hb := scanF_bd ts[i] (d + 1) c
    rw [List.drop_eq_getElem_cons hlt, scanL]
    rw [L_impl_scan_0_eq]; simp (disch := omega) only [evt, cond_dec, Int.toNat_natCast, cast1, wrap64, roomB_ok, List.length_append, List.length_cons, List.length_nil, if_pos (show (i : Int) < ts.length by omega), if_pos (show 0 ≤ (i : Int) by omega), List.getElem?_eq_getElem hlt, h _ (List.getElem_mem hlt) c h0 h1]
    cases hs : (scanF ts[i] (d + 1) c).1 with
    | false => simp
    | true =>
      have := hb hs
      simp only [Bool.not_true, cond_false, if_true]
      exact scan_loop n d ts hd hl h g m (i + 1) _ (by omega) (by omega) (by omega) (by omega)
theorem f_scan (t : T) : ∀ {n : Nat}, t.size + 5 ≤ n → ∀ d c : Int, 0 ≤ d → d ≤ 31 → 0 ≤ c → c ≤ 400 →
    FF n 33 [tm t, nt d, .one (.ptr 0 0)] [.cells [.int .i64 c]] = some ([bl (scanF t d c).1], [.cells [.int .i64 (scanF t d c).2]]) := by
  induction t using T.ind with | h t ih =>
  intro n hn d c h0 h1 h2 h3
  have hsz := T.size_eq t
  have hl := T.sizeL_len t.kids
  obtain ⟨n, rfl⟩ := pos_succ (show 0 < n by omega)
  rw [E_impl_scan, scanF_eq]
  simp (disch := omega) only [evt, f_operands, f_most, f_within, wrap64]
  by_cases c1 : 400 < c + 1
  · simp [c1]
  by_cases c2 : 30 < d
  · simp [c1, c2]
  by_cases c3 : opsOf t.k = t.kids.length
  · by_cases c4 : 0 ≤ t.n ∧ t.n ≤ mostOf t.k
    · have e : (decide (0 ≤ t.n) && decide (t.n ≤ mostOf t.k)) = true := by simp [c4]
      rw [if_neg (by intro hh; rcases hh with hh | hh | hh | hh <;> first | omega | exact hh c3 | exact hh c4), e]
      simp only [decide_eq_false c1, decide_eq_false c2, cond_false, decide_eq_true c3, Bool.not_true]
      by_cases hk : t.kids = []
      · rw [hk]
        obtain ⟨n, rfl⟩ := pos_succ (show 0 < n by omega)
        rw [L_impl_scan_0_eq]; simp [scanL]
      · have := scan_loop n d t.kids ⟨h0, h1⟩ (by have := ops_le t.k; omega) (fun u hu c' hc hc' => ih u hu (by have := T.sizeL_mem hu; omega) (d + 1) c' (by omega) (by omega) hc hc') t.kids.length n 0 (c + 1) (by omega) (by omega) (by omega) (by omega)
        simpa using this
    · have e : (decide (0 ≤ t.n) && decide (t.n ≤ mostOf t.k)) = false := by
        rw [← Bool.not_eq_true, Bool.and_eq_true, decide_eq_true_eq, decide_eq_true_eq]; exact c4
      rw [if_pos (.inr (.inr (.inr c4))), e]
      simp [c1, c2, c3]
  · rw [if_pos (.inr (.inr (.inl c3)))]
    simp [c1, c2, c3]
theorem f_TermValid {n : Nat} {t : T} (hn : t.size + 6 ≤ n) : FF n 20 [tm t] [] = some ([bl (validB t)], []) := by
  obtain ⟨n, rfl⟩ := pos_succ (show 0 < n by omega)
  rw [E_impl_TermValid, ← scan_valid]
  simp (disch := omega) only [evt, f_scan]
theorem shape_loop (n : Nat) (d : Nat) (k0 n0 : Int) (ts : List T) (hd : d ≤ 30) (h1d : 1 ≤ d) (hl : ts.length ≤ 1099511627776)
    (h : ∀ u ∈ ts, FF n 30 [tm u, nt ((d - 1 : Nat) : Int)] [] = some ([bl (shapeF u (d - 1))], [])) :
    ∀ g m (i : Nat), g < m → i + g = ts.length → L_spec_l1Shape_0 n m (d : Int) i k0 n0 ts = some ([bl (shapeL (ts.drop i) (d - 1))], [])
  | g, 0, i, hg, _ => by omega
  | 0, m + 1, i, _, hi => by
    rw [L_spec_l1Shape_0_eq, List.drop_of_length_le (by omega)]
    simp only [cond_dec, if_neg (show ¬ (i : Int) < ts.length by omega), shapeL]
  | g + 1, m + 1, i, hg, hi => by
    have hlt : i < ts.length := by omega
    rw [List.drop_eq_getElem_cons hlt, shapeL]
    have w : IntKind.i64.wrap ((d : Int) - 1) = ((d - 1 : Nat) : Int) := by rw [wrap64 (by omega)]; omega
    rw [L_spec_l1Shape_0_eq]; simp (disch := omega) only [evt, cond_dec, Int.toNat_natCast, cast1, wrap64, roomB_ok, List.length_append, List.length_cons, List.length_nil, if_pos (show (i : Int) < ts.length by omega), if_pos (show 0 ≤ (i : Int) by omega), List.getElem?_eq_getElem hlt, w, h _ (List.getElem_mem hlt)]
    cases hs : shapeF ts[i] (d - 1) with
    | false => simp
    | true =>
      simp only [Bool.not_true, cond_false, Bool.true_and]
      exact shape_loop n d k0 n0 ts hd h1d hl h g m (i + 1) (by omega) (by omega)
theorem f_l1Shape (t : T) : ∀ {n : Nat}, t.size + 5 ≤ n → ∀ d : Nat, d ≤ 30 → FF n 30 [tm t, nt (d : Int)] [] = some ([bl (shapeF t d)], []) := by
  induction t using T.ind with | h t ih =>
  intro n hn d hd
  have hsz := T.size_eq t
  have hl := T.sizeL_len t.kids
  obtain ⟨n, rfl⟩ := pos_succ (show 0 < n by omega)
  rw [E_spec_l1Shape, shapeF_eq]
  simp (disch := omega) only [evt, f_l1Kids, f_l1Most]
  by_cases c1 : (d : Int) < 1
  · simp [c1, show ¬ 1 ≤ d by omega]
  by_cases c3 : opsOf t.k = t.kids.length
  · by_cases c4 : 0 ≤ t.n ∧ t.n ≤ mostOf t.k
    · simp only [decide_eq_false c1, cond_false, decide_eq_true c3, Bool.not_true, decide_eq_false (show ¬ t.n < 0 by omega), decide_eq_false (show ¬ mostOf t.k < t.n by omega), decide_eq_true (show 1 ≤ d by omega), decide_eq_true c4, Bool.true_and]
      exact shape_loop n d t.k t.n t.kids hd (by omega) (by have := ops_le t.k; omega) (fun u hu => ih u hu (by have := T.sizeL_mem hu; omega) (d - 1) (by omega)) t.kids.length n 0 (by omega) (by omega)
    · simp only [decide_eq_false c1, cond_false, decide_eq_true c3, Bool.not_true, decide_eq_true (show 1 ≤ d by omega), decide_eq_false c4, Bool.true_and, Bool.false_and]
      by_cases c5 : t.n < 0
      · simp [c5]
      · simp [c5, show mostOf t.k < t.n by omega]
  · simp [c1, c3]
theorem count_loop (n : Nat) (most : Nat) (k0 n0 : Int) (ts : List T) (hm : most ≤ 400) (hl : ts.length ≤ 1099511627776)
    (h : ∀ u ∈ ts, ∀ m : Nat, m ≤ 400 → FF n 31 [tm u, nt (m : Int)] [] = some ([nt (cntF u m : Int)], [])) :
    ∀ g m (i c : Nat), g < m → i + g = ts.length → L_spec_l1Count_0 n m (most : Int) c i k0 n0 ts = some ([nt ((if c ≤ most then min (c + T.sizeL (ts.drop i)) (most + 1) else c : Nat) : Int)], [])
  | g, 0, i, c, hg, _ => by omega
  | 0, m + 1, i, c, _, hi => by
    rw [L_spec_l1Count_0_eq, List.drop_of_length_le (by omega)]
    simp only [cond_dec, if_neg (show ¬ (i : Int) < ts.length by omega), T.sizeL]
    split
    · rw [Nat.min_eq_left (by omega)]; rfl
    · rfl
  | g + 1, m + 1, i, c, hg, hi => by
    have hlt : i < ts.length := by omega
    rw [List.drop_eq_getElem_cons hlt, T.sizeL]
    by_cases hc : c ≤ most
    · have w : IntKind.i64.wrap ((most : Int) - c) = ((most - c : Nat) : Int) := by rw [wrap64 (by omega)]; omega
      have hcn : cntF ts[i] (most - c) ≤ most - c + 1 := by unfold cntF; omega
      have w2 : IntKind.i64.wrap ((c : Int) + (cntF ts[i] (most - c) : Int)) = ((c + cntF ts[i] (most - c) : Nat) : Int) := by rw [wrap64 (by omega)]; rfl
      rw [L_spec_l1Count_0_eq]; simp (disch := omega) only [evt, cond_dec, Int.toNat_natCast, cast1, wrap64, roomB_ok, List.length_append, List.length_cons, List.length_nil, if_pos (show (i : Int) < ts.length by omega), if_pos (show 0 ≤ (i : Int) by omega), if_pos (show (c : Int) ≤ most by omega), List.getElem?_eq_getElem hlt, w, w2, h _ (List.getElem_mem hlt) (most - c) (by omega)]
      rw [count_loop n most k0 n0 ts hm hl h g m (i + 1) _ (by omega) (by omega)]
      have e : (if c + cntF ts[i] (most - c) ≤ most then min (c + cntF ts[i] (most - c) + T.sizeL (ts.drop (i + 1))) (most + 1) else c + cntF ts[i] (most - c)) = min (c + (ts[i].size + T.sizeL (ts.drop (i + 1)))) (most + 1) := by
        unfold cntF
        split <;> omega
      rw [e, if_pos hc]
    · rw [L_spec_l1Count_0_eq]
      simp only [cond_dec, if_pos (show (i : Int) < ts.length by omega), if_neg (show ¬ (c : Int) ≤ most by omega), if_neg hc]
theorem f_l1Count (t : T) : ∀ {n : Nat}, t.size + 5 ≤ n → t.size ≤ 4000000 → ∀ m : Nat, m ≤ 400 → FF n 31 [tm t, nt (m : Int)] [] = some ([nt (cntF t m : Int)], []) := by
  induction t using T.ind with | h t ih =>
  intro n hn hz m hm
  have hsz := T.size_eq t
  have hl := T.sizeL_len t.kids
  obtain ⟨n, rfl⟩ := pos_succ (show 0 < n by omega)
  rw [E_spec_l1Count]
  have := count_loop n m t.k t.n t.kids hm (by omega) (fun u hu m hm => ih u hu (by have := T.sizeL_mem hu; omega) (by have := T.sizeL_mem hu; omega) m hm) t.kids.length n 0 1 (by omega) (by omega)
  have e : (if 1 ≤ m then min (1 + T.sizeL t.kids) (m + 1) else 1) = cntF t m := by unfold cntF; split <;> omega
  rw [List.drop_zero, e] at this
  exact this
theorem f_TermValidS {n : Nat} {t : T} (hn : t.size + 6 ≤ n) (hz : t.size ≤ 4000000) : FF n 17 [tm t] [] = some ([bl (validB t)], []) := by
  obtain ⟨n, rfl⟩ := pos_succ (show 0 < n by omega)
  rw [E_spec_TermValid, validB]
  have h1 := f_l1Shape t (n := n) (by omega) 30 (by omega)
  have h2 := f_l1Count t (n := n) (by omega) hz 400 (by omega)
  rw [show (30 : Int) = ((30 : Nat) : Int) from rfl, show (400 : Int) = ((400 : Nat) : Int) from rfl, h1, h2]
  simp only [evt]
  cases shapeF t 30
  · rfl
  · simp only [cond_true, Bool.true_and]
    have e : decide ((cntF t 400 : Int) ≤ ((400 : Nat) : Int)) = decide (t.size ≤ 400) := by
      unfold cntF
      exact decide_eq_decide.2 (by omega)
    rw [e]
/-! Copies. -/
/-! Equality. -/
theorem beqL_len : ∀ {ts us : List T}, ts.length ≠ us.length → T.beqL ts us = false
  | [], [], h => absurd rfl h
  | [], _ :: _, _ => rfl
  | _ :: _, [], _ => rfl
  | t :: ts, u :: us, h => by rw [T.beqL, beqL_len (fun e => h (by simp [e])), Bool.and_false]
end Go.Proofs.Ytbkpfjabcohnpaa
