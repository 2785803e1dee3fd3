/- Drawn terms: the drawing answers. -/
import Derived.Test.YtmioieikbpemoaaEvY
import Derived.Test.YtmioieikbpemoaaEvP
set_option linter.unusedVariables false
set_option linter.unusedSimpArgs false
namespace Go.Proofs.Ytmioieikbpemoaa
open Go Go.Ab Go.Dk
theorem t_pick {n : Nat} (hn : 1 ≤ n) {l : List UInt8} {p m k : Int} (h : RdOk l p m) (hm : m ≤ 1000000000000) (hk : k ≤ 2147483648) :
    Tot (FF n 61 [.one (.ptr 0 0), nt k] [rdr l p]) (fun r => ∃ v p' : Int, r = ([nt v], [rdr l p']) ∧ 0 ≤ v ∧ (0 < k → v < k) ∧ RdOk l p' (m + 1)) := by
  obtain ⟨v, ⟨h1, h2, _⟩, h3, h4⟩ := s_pick h (by omega) hk
  exact ⟨_, h4 n hn, v, _, rfl, h1, h2, h3⟩
theorem t_num {n : Nat} (hn : 2 ≤ n) {l : List UInt8} {p m : Int} {ss : List Int} (h : RdOk l p m) (hm : m ≤ 1000000000000) (hs : ss ≠ []) (hl : ss.length ≤ 1000) :
    Tot (FF n 46 [.one (.ptr 0 0), .one (.fr (.is ss))] [rdr l p]) (fun r => ∃ v p' : Int, r = ([nt v], [rdr l p']) ∧ v ∈ ss ∧ RdOk l p' (m + 1)) := by
  obtain ⟨v, h1, h3, h4⟩ := s_num h (by omega) hs (by omega)
  exact ⟨_, h4 n hn, v, _, rfl, h1, h3⟩
theorem t_of {n : Nat} (hn : 2 ≤ n) {l : List UInt8} {p m : Int} {ss : List ByteArray} (h : RdOk l p m) (hm : m ≤ 1000000000000) (hs : ss ≠ []) (hl : ss.length ≤ 1000) :
    Tot (FF n 82 [.one (.ptr 0 0), .one (.fr (.ss ss))] [rdr l p]) (fun r => ∃ s, ∃ p' : Int, r = ([st s], [rdr l p']) ∧ s ∈ ss ∧ RdOk l p' (m + 1)) := by
  obtain ⟨v, h1, h3, h4⟩ := s_of h (by omega) hs (by omega)
  exact ⟨_, h4 n hn, v, _, rfl, h1, h3⟩
theorem t_open {n : Nat} (hn : 1 ≤ n) (l : List UInt8) : Tot (FF n 43 [.one (.fr (.bs l))] []) (fun r => ∃ l', r = ([.one (.ptr 0 0)], [rdr l' 0]) ∧ RdOk l' 0 0) := by
  obtain ⟨l', h1, h2⟩ := s_open l
  exact ⟨_, h2 n hn, l', rfl, h1⟩
/-- A drawn term of at most z nodes; the reader has read at most to m. -/
abbrev IsDraw (z : Nat) (l : List UInt8) (m : Int) (r : List V1 × List AObj) : Prop := ∃ (t : T) (p : Int), r = ([tm t], [rdr l p]) ∧ t.size ≤ z ∧ RdOk l p m
theorem draw_loop (Q : Int) (hQ : Q ≤ 900000000000) (n : Nat) (hn : 1 ≤ n) (l : List UInt8) (d kind : Int) (K : Nat) (M : Int)
    (ih : ∀ p m, RdOk l p m → m ≤ Q → Tot (FF n 47 [.one (.ptr 0 0), nt (d - 1)] [rdr l p]) (IsDraw K l (m + M))) (hM : 0 ≤ M ∧ M ≤ 1000000000) (hd : -100 ≤ d ∧ d ≤ 100) (hK : K ≤ 1000000) (z1 z2 : Int) (l0 : List T) (k1 n1 : Int) :
    ∀ (g c i : Nat) (p m : Int) (acc : List T), g < c → (opsOf kind = i + g ∨ (g = 0 ∧ opsOf kind ≤ i)) → i ≤ 4 → g ≤ 4 → RdOk l p m → m + g * M ≤ Q → acc.length = i →
      Tot (L_spec_l1Draw_0_foo n c d kind i l p z1 z2 l0 k1 n1 acc) (IsDraw (1 + T.sizeL acc + g * K) l (m + g * M))
  | g, 0, i, p, m, acc, hg, _, _, _, _, _, _ => by omega
  | 0, c + 1, i, p, m, acc, _, hi, _, _, hr, _, hl => by
    rw [L_spec_l1Draw_0_foo_eq, f_l1Kids hn]
    simp only [Option.bind_some, c_rInt, c_rBool, c_rStr, c_rTs, c_rIs, c_rIss, c_rSs, c_rBs, c_rTerm, c_rOwnT, c_rOwn, c_rPtr, c_nilV, c_nilO, c_objC, c_dropC, c_intC, c_boolC, c_strC, c_tsC, c_isC, c_issC, c_ssC, c_bsC, c_anyC, c_nilC, c_arrTs, c_arrIs, c_arrIss, c_arrSs, c_arrBs, ik_self, nb_self, cond_true, cond_false, rTerm_tm, T.eta, mk_k, mk_n, mk_kids, Option.bind_none, Bool.not_true, Bool.not_false, Bool.true_and, Bool.and_true, Bool.and_false, Bool.false_and, Bool.and_self, decide_true, decide_false]
    rw [decide_eq_false (show ¬ (i : Int) < opsOf kind by omega)]
    refine tot_some ?_
    exact ⟨.mk k1 n1 acc, p, rfl, by simp [T.size], by simpa using hr⟩
  | g + 1, c + 1, i, p, m, acc, hg, hi, hi4, hg4, hr, hm, hl => by
    rw [L_spec_l1Draw_0_foo_eq, f_l1Kids hn]
    simp only [Option.bind_some, c_rInt, c_rBool, c_rStr, c_rTs, c_rIs, c_rIss, c_rSs, c_rBs, c_rTerm, c_rOwnT, c_rOwn, c_rPtr, c_nilV, c_nilO, c_objC, c_dropC, c_intC, c_boolC, c_strC, c_tsC, c_isC, c_issC, c_ssC, c_bsC, c_anyC, c_nilC, c_arrTs, c_arrIs, c_arrIss, c_arrSs, c_arrBs, ik_self, nb_self, cond_true, cond_false, rTerm_tm, T.eta, mk_k, mk_n, mk_kids, Option.bind_none, Bool.not_true, Bool.not_false, Bool.true_and, Bool.and_true, Bool.and_false, Bool.false_and, Bool.and_self, decide_true, decide_false]
    have hgM : (((g + 1 : Nat)) : Int) * M = g * M + M := by rw [Int.natCast_add, Int.add_mul]; simp
    have hgK : (g + 1) * K = g * K + K := by rw [Nat.add_mul, Nat.one_mul]
    have ho := ops_le kind
    have hg0 : 0 ≤ (g : Int) * M := Int.mul_nonneg (by omega) hM.1
    rw [decide_eq_true (show (i : Int) < opsOf kind by omega), cond_true, wrap64 (show -9223372036854775808 ≤ d - 1 ∧ d - 1 ≤ 9223372036854775807 by omega)]
    refine tot_call (ih p m hr (by rw [hgM] at hm; omega)) ?_
    rintro _ ⟨t, p', rfl, ht, hr'⟩
    have w : IntKind.i64.wrap ((i : Int) + 1) = ((i + 1 : Nat) : Int) := wrap64 (by omega)
    simp only [Option.bind_some, c_rInt, c_rBool, c_rStr, c_rTs, c_rIs, c_rIss, c_rSs, c_rBs, c_rTerm, c_rOwnT, c_rOwn, c_rPtr, c_nilV, c_nilO, c_objC, c_dropC, c_intC, c_boolC, c_strC, c_tsC, c_isC, c_issC, c_ssC, c_bsC, c_anyC, c_nilC, c_arrTs, c_arrIs, c_arrIss, c_arrSs, c_arrBs, ik_self, nb_self, cond_true, cond_false, rTerm_tm, T.eta, mk_k, mk_n, mk_kids, Option.bind_none, Bool.not_true, Bool.not_false, Bool.true_and, Bool.and_true, Bool.and_false, Bool.false_and, Bool.and_self, decide_true, decide_false, w, List.length_append, List.length_cons, List.length_nil, hl]
    rw [roomB_ok (by omega), cond_true]
    have hsz : T.sizeL (acc ++ [t]) = T.sizeL acc + t.size := by
      clear hl
      induction acc with
      | nil => simp [T.sizeL]
      | cons x acc ih2 => simp only [List.cons_append, T.sizeL, ih2]; omega
    have := draw_loop Q hQ n hn l d kind K M ih hM hd hK z1 z2 l0 k1 n1 g c (i + 1) p' (m + M) (acc ++ [t]) (by omega) (by omega) (by omega) (by omega) hr' (by rw [hgM] at hm; omega) (by simp [hl])
    refine tot_mono this ?_
    rintro _ ⟨u, q, rfl, hu, hq⟩
    exact ⟨u, q, rfl, by rw [hsz] at hu; omega, hq.mono (by rw [hgM]; omega)⟩
theorem t_l1Draw_step (Q : Int) (hQ : Q ≤ 900000000000) {n : Nat} (hn : 10 ≤ n) (l : List UInt8) (d : Int) (K : Nat) (M : Int) (hM : 0 ≤ M ∧ M ≤ 1000000000) (hd : -100 ≤ d ∧ d ≤ 100) (hK : K ≤ 1000000) (hK1 : 1 ≤ K)
    (ih : ∀ m, n ≤ m + 1 → ∀ p q, RdOk l p q → q ≤ Q → Tot (FF m 47 [.one (.ptr 0 0), nt (d - 1)] [rdr l p]) (IsDraw K l (q + M))) {p m : Int} (hr : RdOk l p m) (hm : m + 3 + 4 * M ≤ Q) :
    Tot (FF n 47 [.one (.ptr 0 0), nt d] [rdr l p]) (IsDraw (1 + 4 * K) l (m + 3 + 4 * M)) := by
  refine tot_step (C := 9) (by omega) fun n hn e => ?_
  have fin : ∀ (kind k1 n1 q m' : Int), opsOf kind ≠ -1 → RdOk l q m' → m' ≤ m + 3 → Tot (L_spec_l1Draw_0_foo n n d kind 0 l q 0 0 [] k1 n1 []) (IsDraw (1 + 4 * K) l (m + 3 + 4 * M)) := by
    intro kind k1 n1 q m' hk hq hm'
    have h0 : 0 ≤ opsOf kind := by
      unfold opsOf at hk ⊢; repeat' split
      all_goals first | omega | (exfalso; simp_all)
    have h4 := ops_le kind
    obtain ⟨g, hg⟩ : ∃ g : Nat, opsOf kind = g := ⟨(opsOf kind).toNat, by omega⟩
    have hgM : (g : Int) * M ≤ 4 * M := Int.mul_le_mul_of_nonneg_right (by omega) hM.1
    have hgK : g * K ≤ 4 * K := Nat.mul_le_mul_right K (by omega)
    have := draw_loop Q hQ n (by omega) l d kind K M (fun p q => ih n (by omega) p q) hM hd hK 0 0 [] k1 n1 g n 0 q m' [] (by omega) (.inl (by omega)) (by omega) (by omega) hq (by omega) rfl
    refine tot_mono this ?_
    rintro _ ⟨u, q, rfl, hu, hq⟩
    exact ⟨u, q, rfl, by simp only [T.sizeL] at hu; omega, hq.mono (by omega)⟩
  have hk1 : ∀ v : Int, v ∈ ([1, 5, 4, 8, 9, 3, 6, 7, 11, 15, 14, 10, 12, 13, 16, 2] : List Int) → opsOf v ≠ -1 := fun v hv => by simpa using List.all_eq_true.1 (show (([1, 5, 4, 8, 9, 3, 6, 7, 11, 15, 14, 10, 12, 13, 16, 2] : List Int).all fun v => decide (opsOf v ≠ -1)) = true by decide +kernel) v hv
  have hk2 : ∀ v : Int, v ∈ ([1, 7, 6, 2, 1] : List Int) → opsOf v ≠ -1 := fun v hv => by simpa using List.all_eq_true.1 (show (([1, 7, 6, 2, 1] : List Int).all fun v => decide (opsOf v ≠ -1)) = true by decide +kernel) v hv
  rw [E_spec_l1Draw]
  refine tot_call (t_num (by omega) hr (by omega) (by simp) (by simp)) ?_
  rintro _ ⟨v, p1, rfl, hv, hr1⟩
  simp only [Option.bind_some, c_rInt, c_rBool, c_rStr, c_rTs, c_rIs, c_rIss, c_rSs, c_rBs, c_rTerm, c_rOwnT, c_rOwn, c_rPtr, c_nilV, c_nilO, c_objC, c_dropC, c_intC, c_boolC, c_strC, c_tsC, c_isC, c_issC, c_ssC, c_bsC, c_anyC, c_nilC, c_arrTs, c_arrIs, c_arrIss, c_arrSs, c_arrBs, ik_self, nb_self, cond_true, cond_false, rTerm_tm, T.eta, mk_k, mk_n, mk_kids, Option.bind_none, Bool.not_true, Bool.not_false, Bool.true_and, Bool.and_true, Bool.and_false, Bool.false_and, Bool.and_self, decide_true, decide_false]
  refine tot_cond (fun _ => ?_) (fun _ => ?_)
  · refine tot_call (t_num (by omega) hr1 (by omega) (by simp) (by simp)) ?_
    rintro _ ⟨v2, p2, rfl, hv2, hr2⟩
    simp only [Option.bind_some, c_rInt, c_rBool, c_rStr, c_rTs, c_rIs, c_rIss, c_rSs, c_rBs, c_rTerm, c_rOwnT, c_rOwn, c_rPtr, c_nilV, c_nilO, c_objC, c_dropC, c_intC, c_boolC, c_strC, c_tsC, c_isC, c_issC, c_ssC, c_bsC, c_anyC, c_nilC, c_arrTs, c_arrIs, c_arrIss, c_arrSs, c_arrBs, ik_self, nb_self, cond_true, cond_false, rTerm_tm, T.eta, mk_k, mk_n, mk_kids, Option.bind_none, Bool.not_true, Bool.not_false, Bool.true_and, Bool.and_true, Bool.and_false, Bool.false_and, Bool.and_self, decide_true, decide_false, f_l1Most (show 1 ≤ n by omega)]
    refine tot_cond (fun _ => ?_) (fun _ => ?_)
    · refine tot_call (t_num (by omega) hr2 (by omega) (by simp) (by simp)) ?_
      rintro _ ⟨v3, p3, rfl, hv3, hr3⟩
      simp only [Option.bind_some, c_rInt, c_rBool, c_rStr, c_rTs, c_rIs, c_rIss, c_rSs, c_rBs, c_rTerm, c_rOwnT, c_rOwn, c_rPtr, c_nilV, c_nilO, c_objC, c_dropC, c_intC, c_boolC, c_strC, c_tsC, c_isC, c_issC, c_ssC, c_bsC, c_anyC, c_nilC, c_arrTs, c_arrIs, c_arrIss, c_arrSs, c_arrBs, ik_self, nb_self, cond_true, cond_false, rTerm_tm, T.eta, mk_k, mk_n, mk_kids, Option.bind_none, Bool.not_true, Bool.not_false, Bool.true_and, Bool.and_true, Bool.and_false, Bool.false_and, Bool.and_self, decide_true, decide_false]
      exact fin _ _ _ _ _ (hk2 _ hv2) hr3 (by omega)
    · exact fin _ _ _ _ _ (hk2 _ hv2) hr2 (by omega)
  · simp only [f_l1Most (show 1 ≤ n by omega), Option.bind_some, c_rInt, c_rBool, c_rStr, c_rTs, c_rIs, c_rIss, c_rSs, c_rBs, c_rTerm, c_rOwnT, c_rOwn, c_rPtr, c_nilV, c_nilO, c_objC, c_dropC, c_intC, c_boolC, c_strC, c_tsC, c_isC, c_issC, c_ssC, c_bsC, c_anyC, c_nilC, c_arrTs, c_arrIs, c_arrIss, c_arrSs, c_arrBs, ik_self, nb_self, cond_true, cond_false, rTerm_tm, T.eta, mk_k, mk_n, mk_kids, Option.bind_none, Bool.not_true, Bool.not_false, Bool.true_and, Bool.and_true, Bool.and_false, Bool.false_and, Bool.and_self, decide_true, decide_false]
    refine tot_cond (fun _ => ?_) (fun _ => ?_)
    · refine tot_call (t_num (by omega) hr1 (by omega) (by simp) (by simp)) ?_
      rintro _ ⟨v3, p3, rfl, hv3, hr3⟩
      simp only [Option.bind_some, c_rInt, c_rBool, c_rStr, c_rTs, c_rIs, c_rIss, c_rSs, c_rBs, c_rTerm, c_rOwnT, c_rOwn, c_rPtr, c_nilV, c_nilO, c_objC, c_dropC, c_intC, c_boolC, c_strC, c_tsC, c_isC, c_issC, c_ssC, c_bsC, c_anyC, c_nilC, c_arrTs, c_arrIs, c_arrIss, c_arrSs, c_arrBs, ik_self, nb_self, cond_true, cond_false, rTerm_tm, T.eta, mk_k, mk_n, mk_kids, Option.bind_none, Bool.not_true, Bool.not_false, Bool.true_and, Bool.and_true, Bool.and_false, Bool.false_and, Bool.and_self, decide_true, decide_false]
      exact fin _ _ _ _ _ (hk1 _ hv) hr3 (by omega)
    · exact fin _ _ _ _ _ (hk1 _ hv) hr1 (by omega)
/-- Depths 1 to 4. -/
theorem t_l1Draw1 {n : Nat} (hn : 20 ≤ n) {l : List UInt8} {d : Int} (hd : -10 ≤ d ∧ d ≤ 1) {p m : Int} (hr : RdOk l p m) (hm : m ≤ 900000000000) : Tot (FF n 47 [.one (.ptr 0 0), nt d] [rdr l p]) (IsDraw 1 l (m + 3)) := by
  refine tot_step (C := 19) (by omega) fun n hn e => ?_
  have fin : ∀ (kind k1 n1 q m' : Int), opsOf kind = 0 → RdOk l q m' → m' ≤ m + 3 → Tot (L_spec_l1Draw_0_foo n n d kind 0 l q 0 0 [] k1 n1 []) (IsDraw 1 l (m + 3)) := by
    intro kind k1 n1 q m' hk hq hm'
    obtain ⟨c, rfl⟩ : ∃ c, n = c + 1 := ⟨n - 1, by omega⟩
    rw [L_spec_l1Draw_0_foo_eq, f_l1Kids (by omega), hk]
    simp only [Option.bind_some, c_rInt, c_rBool, c_rStr, c_rTs, c_rIs, c_rIss, c_rSs, c_rBs, c_rTerm, c_rOwnT, c_rOwn, c_rPtr, c_nilV, c_nilO, c_objC, c_dropC, c_intC, c_boolC, c_strC, c_tsC, c_isC, c_issC, c_ssC, c_bsC, c_anyC, c_nilC, c_arrTs, c_arrIs, c_arrIss, c_arrSs, c_arrBs, ik_self, nb_self, cond_true, cond_false, rTerm_tm, T.eta, mk_k, mk_n, mk_kids, Option.bind_none, Bool.not_true, Bool.not_false, Bool.true_and, Bool.and_true, Bool.and_false, Bool.false_and, Bool.and_self, decide_true, decide_false]
    refine tot_cond (fun h => by simp at h) (fun _ => tot_some ?_)
    exact ⟨.mk k1 n1 [], q, rfl, by simp [T.size, T.sizeL], hq.mono (by omega)⟩
  have hk2 : ∀ v : Int, v ∈ ([1, 7, 6, 2, 1] : List Int) → opsOf v = 0 := fun v hv => by simpa using List.all_eq_true.1 (show (([1, 7, 6, 2, 1] : List Int).all fun v => decide (opsOf v = 0)) = true by decide +kernel) v hv
  rw [E_spec_l1Draw]
  refine tot_call (t_num (by omega) hr (by omega) (by simp) (by simp)) ?_
  rintro _ ⟨v, p1, rfl, hv, hr1⟩
  simp only [Option.bind_some, c_rInt, c_rBool, c_rStr, c_rTs, c_rIs, c_rIss, c_rSs, c_rBs, c_rTerm, c_rOwnT, c_rOwn, c_rPtr, c_nilV, c_nilO, c_objC, c_dropC, c_intC, c_boolC, c_strC, c_tsC, c_isC, c_issC, c_ssC, c_bsC, c_anyC, c_nilC, c_arrTs, c_arrIs, c_arrIss, c_arrSs, c_arrBs, ik_self, nb_self, cond_true, cond_false, rTerm_tm, T.eta, mk_k, mk_n, mk_kids, Option.bind_none, Bool.not_true, Bool.not_false, Bool.true_and, Bool.and_true, Bool.and_false, Bool.false_and, Bool.and_self, decide_true, decide_false]
  rw [decide_eq_true (show d < 2 by omega), cond_true]
  refine tot_call (t_num (by omega) hr1 (by omega) (by simp) (by simp)) ?_
  rintro _ ⟨v2, p2, rfl, hv2, hr2⟩
  simp only [Option.bind_some, c_rInt, c_rBool, c_rStr, c_rTs, c_rIs, c_rIss, c_rSs, c_rBs, c_rTerm, c_rOwnT, c_rOwn, c_rPtr, c_nilV, c_nilO, c_objC, c_dropC, c_intC, c_boolC, c_strC, c_tsC, c_isC, c_issC, c_ssC, c_bsC, c_anyC, c_nilC, c_arrTs, c_arrIs, c_arrIss, c_arrSs, c_arrBs, ik_self, nb_self, cond_true, cond_false, rTerm_tm, T.eta, mk_k, mk_n, mk_kids, Option.bind_none, Bool.not_true, Bool.not_false, Bool.true_and, Bool.and_true, Bool.and_false, Bool.false_and, Bool.and_self, decide_true, decide_false, f_l1Most (show 1 ≤ n by omega)]
  refine tot_cond (fun _ => ?_) (fun _ => ?_)
  · refine tot_call (t_num (by omega) hr2 (by omega) (by simp) (by simp)) ?_
    rintro _ ⟨v3, p3, rfl, hv3, hr3⟩
    simp only [Option.bind_some, c_rInt, c_rBool, c_rStr, c_rTs, c_rIs, c_rIss, c_rSs, c_rBs, c_rTerm, c_rOwnT, c_rOwn, c_rPtr, c_nilV, c_nilO, c_objC, c_dropC, c_intC, c_boolC, c_strC, c_tsC, c_isC, c_issC, c_ssC, c_bsC, c_anyC, c_nilC, c_arrTs, c_arrIs, c_arrIss, c_arrSs, c_arrBs, ik_self, nb_self, cond_true, cond_false, rTerm_tm, T.eta, mk_k, mk_n, mk_kids, Option.bind_none, Bool.not_true, Bool.not_false, Bool.true_and, Bool.and_true, Bool.and_false, Bool.false_and, Bool.and_self, decide_true, decide_false]
    exact fin _ _ _ _ _ (hk2 _ hv2) hr3 (by omega)
  · exact fin _ _ _ _ _ (hk2 _ hv2) hr2 (by omega)
theorem draw_weaken {o : OR} {z z' : Nat} {l : List UInt8} {m m' : Int} (h : Tot o (IsDraw z l m)) (hz : z ≤ z') (hm : m ≤ m') : Tot o (IsDraw z' l m') :=
  tot_mono h fun r ⟨t, p, e, h1, h2⟩ => ⟨t, p, e, Nat.le_trans h1 hz, h2.mono hm⟩
theorem t_l1Draw2 {n : Nat} (hn : 40 ≤ n) {l : List UInt8} {p m : Int} (hr : RdOk l p m) (hm : m ≤ 800000000000) : Tot (FF n 47 [.one (.ptr 0 0), nt 2] [rdr l p]) (IsDraw 5 l (m + 15)) :=
  draw_weaken (t_l1Draw_step 900000000000 (by omega) (by omega) l 2 1 3 (by omega) (by omega) (by omega) (by omega) (fun k hk p q hr hq => t_l1Draw1 (by omega) (by omega) hr hq) hr (by omega)) (by omega) (by omega)
theorem t_l1Draw3 {n : Nat} (hn : 60 ≤ n) {l : List UInt8} {p m : Int} (hr : RdOk l p m) (hm : m ≤ 700000000000) : Tot (FF n 47 [.one (.ptr 0 0), nt 3] [rdr l p]) (IsDraw 21 l (m + 63)) :=
  draw_weaken (t_l1Draw_step 800000000000 (by omega) (by omega) l 3 5 15 (by omega) (by omega) (by omega) (by omega) (fun k hk p q hr hq => t_l1Draw2 (by omega) hr hq) hr (by omega)) (by omega) (by omega)
theorem t_l1Draw4 {n : Nat} (hn : 80 ≤ n) {l : List UInt8} {p m : Int} (hr : RdOk l p m) (hm : m ≤ 600000000000) : Tot (FF n 47 [.one (.ptr 0 0), nt 4] [rdr l p]) (IsDraw 85 l (m + 255)) :=
  draw_weaken (t_l1Draw_step 700000000000 (by omega) (by omega) l 4 21 63 (by omega) (by omega) (by omega) (by omega) (fun k hk p q hr hq => t_l1Draw3 (by omega) hr hq) hr (by omega)) (by omega) (by omega)
theorem t_valid {n : Nat} {t : T} (hn : t.size + 6 ≤ n) (hz : t.size ≤ 1000000) : Tot (FF n 52 [tm t] []) (fun r => r = ([bl (validB t)], [])) := ⟨_, f_TermValidS hn hz, rfl⟩
/-- A drawn valid term. -/
abbrev IsDrawV (l : List UInt8) (m : Int) (r : List V1 × List AObj) : Prop := ∃ (t : T) (p : Int), r = ([tm t], [rdr l p]) ∧ validB t = true ∧ RdOk l p m
theorem zero_valid : validB (.mk 7 0 []) = true := by decide +kernel
theorem t_l1Any {n : Nat} (hn : 500 ≤ n) {l : List UInt8} {p m : Int} (hr : RdOk l p m) (hm : m ≤ 500000000000) : Tot (FF n 62 [.one (.ptr 0 0)] [rdr l p]) (IsDrawV l (m + 256)) := by
  refine tot_step (C := 499) (by omega) fun n hn e => ?_
  rw [E_spec_l1Any]
  refine tot_call (t_num (by omega) hr (by omega) (by simp) (by simp)) ?_
  rintro _ ⟨v, p1, rfl, hv, hr1⟩
  simp only [Option.bind_some, c_rInt, c_rBool, c_rStr, c_rTs, c_rIs, c_rIss, c_rSs, c_rBs, c_rTerm, c_rOwnT, c_rOwn, c_rPtr, c_nilV, c_nilO, c_objC, c_dropC, c_intC, c_boolC, c_strC, c_tsC, c_isC, c_issC, c_ssC, c_bsC, c_anyC, c_nilC, c_arrTs, c_arrIs, c_arrIss, c_arrSs, c_arrBs, ik_self, nb_self, cond_true, cond_false, rTerm_tm, T.eta, mk_k, mk_n, mk_kids, Option.bind_none, Bool.not_true, Bool.not_false, Bool.true_and, Bool.and_true, Bool.and_false, Bool.false_and, Bool.and_self, decide_true, decide_false]
  have hd : Tot (FF n 47 [.one (.ptr 0 0), nt v] [rdr l p1]) (IsDraw 85 l (m + 256)) := by
    simp only [List.mem_cons, List.not_mem_nil, or_false] at hv
    rcases hv with rfl | rfl | rfl | rfl | rfl
    · exact draw_weaken (t_l1Draw3 (by omega) hr1 (by omega)) (by omega) (by omega)
    · exact draw_weaken (t_l1Draw4 (by omega) hr1 (by omega)) (by omega) (by omega)
    · exact draw_weaken (t_l1Draw2 (by omega) hr1 (by omega)) (by omega) (by omega)
    · exact draw_weaken (t_l1Draw3 (by omega) hr1 (by omega)) (by omega) (by omega)
    · exact draw_weaken (t_l1Draw1 (by omega) (by omega) hr1 (by omega)) (by omega) (by omega)
  refine tot_call hd ?_
  rintro _ ⟨t, p2, rfl, hz, hr2⟩
  simp only [Option.bind_some, c_rInt, c_rBool, c_rStr, c_rTs, c_rIs, c_rIss, c_rSs, c_rBs, c_rTerm, c_rOwnT, c_rOwn, c_rPtr, c_nilV, c_nilO, c_objC, c_dropC, c_intC, c_boolC, c_strC, c_tsC, c_isC, c_issC, c_ssC, c_bsC, c_anyC, c_nilC, c_arrTs, c_arrIs, c_arrIss, c_arrSs, c_arrBs, ik_self, nb_self, cond_true, cond_false, rTerm_tm, T.eta, mk_k, mk_n, mk_kids, Option.bind_none, Bool.not_true, Bool.not_false, Bool.true_and, Bool.and_true, Bool.and_false, Bool.false_and, Bool.and_self, decide_true, decide_false, f_TermValidS (show t.size + 6 ≤ n by omega) (show t.size ≤ 1000000 by omega)]
  refine tot_cond (fun h => tot_some ?_) (fun _ => ?_)
  · exact ⟨t, p2, rfl, h, hr2⟩
  · simp only [f_l1Leaf (show 1 ≤ n by omega), Option.bind_some, c_rInt, c_rBool, c_rStr, c_rTs, c_rIs, c_rIss, c_rSs, c_rBs, c_rTerm, c_rOwnT, c_rOwn, c_rPtr, c_nilV, c_nilO, c_objC, c_dropC, c_intC, c_boolC, c_strC, c_tsC, c_isC, c_issC, c_ssC, c_bsC, c_anyC, c_nilC, c_arrTs, c_arrIs, c_arrIss, c_arrSs, c_arrBs, ik_self, nb_self, cond_true, cond_false, rTerm_tm, T.eta, mk_k, mk_n, mk_kids, Option.bind_none, Bool.not_true, Bool.not_false, Bool.true_and, Bool.and_true, Bool.and_false, Bool.false_and, Bool.and_self, decide_true, decide_false]
    refine tot_some ?_
    exact ⟨.mk 7 0 [], p2, rfl, zero_valid, hr2⟩
theorem set_size (ts : List T) (v : T) (h : 0 < ts.length) : T.sizeL (ts.set 0 v) ≤ T.sizeL ts + v.size := by
  match ts, h with
  | t :: ts, _ => simp only [List.set_cons_zero, T.sizeL]; omega
theorem snoc_size (ts : List T) (v : T) : T.sizeL (ts ++ [v]) = T.sizeL ts + v.size := by
  induction ts with
  | nil => simp [T.sizeL]
  | cons x ts ih => simp only [List.cons_append, T.sizeL, ih]; omega
theorem t_copy {n : Nat} {t : T} (hn : t.size + 5 ≤ n) (hz : t.size ≤ 1000000) : Tot (FF n 54 [tm t] []) (fun r => r = ow t) := ⟨_, f_l1Copy t hn hz, rfl⟩
theorem t_l1Mutate {n : Nat} {t : T} (hz : t.size ≤ 500000) (hn : t.size + 500 ≤ n) {l : List UInt8} {p m : Int} (hr : RdOk l p m) (hm : m ≤ 500000000000) : Tot (FF n 44 [.one (.ptr 0 0), tm t] [rdr l p]) (IsDraw (t.size + 2) l (m + 2)) := by
  refine tot_step (C := t.size + 499) (by omega) fun n hn e => ?_
  have hsz := T.size_eq t
  have hl := T.sizeL_len t.kids
  rw [E_spec_l1Mutate, f_l1Copy t (by omega) (by omega)]
  simp only [Option.bind_some, c_rInt, c_rBool, c_rStr, c_rTs, c_rIs, c_rIss, c_rSs, c_rBs, c_rTerm, c_rOwnT, c_rOwn, c_rPtr, c_nilV, c_nilO, c_objC, c_dropC, c_intC, c_boolC, c_strC, c_tsC, c_isC, c_issC, c_ssC, c_bsC, c_anyC, c_nilC, c_arrTs, c_arrIs, c_arrIss, c_arrSs, c_arrBs, ik_self, nb_self, cond_true, cond_false, rTerm_tm, T.eta, mk_k, mk_n, mk_kids, Option.bind_none, Bool.not_true, Bool.not_false, Bool.true_and, Bool.and_true, Bool.and_false, Bool.false_and, Bool.and_self, decide_true, decide_false]
  refine tot_call (t_pick (by omega) hr (by omega) (by omega)) ?_
  rintro _ ⟨v, p1, rfl, hv0, hv1, hr1⟩
  have hap : roomB (t.kids ++ [T.mk 7 0 []]).length = true := roomB_ok (by simp; omega)
  have hs1 := snoc_size t.kids (.mk 7 0 [])
  have hs2 := set_size t.kids (.mk 1 25 [])
  have hz7 : (T.mk 7 0 []).size = 1 := rfl
  have hz1 : (T.mk 1 25 []).size = 1 := rfl
  rw [hz7] at hs1
  rw [hz1] at hs2
  simp (disch := simp) only [Option.bind_some, c_rInt, c_rBool, c_rStr, c_rTs, c_rIs, c_rIss, c_rSs, c_rBs, c_rTerm, c_rOwnT, c_rOwn, c_rPtr, c_nilV, c_nilO, c_objC, c_dropC, c_intC, c_boolC, c_strC, c_tsC, c_isC, c_issC, c_ssC, c_bsC, c_anyC, c_nilC, c_arrTs, c_arrIs, c_arrIss, c_arrSs, c_arrBs, ik_self, nb_self, cond_true, cond_false, rTerm_tm, T.eta, mk_k, mk_n, mk_kids, Option.bind_none, Bool.not_true, Bool.not_false, Bool.true_and, Bool.and_true, Bool.and_false, Bool.false_and, Bool.and_self, decide_true, decide_false, f_l1Leaf (show 1 ≤ n by omega), f_l1Node (show 1 ≤ n by omega), hap]
  repeat' (first | (simp (disch := omega) only [wrap64]; done) | (simp (disch := omega) only [wrap64]) | (with_reducible refine tot_cond (fun hq => ?_) (fun hq => ?_) <;> (try simp (disch := omega) only [wrap64] at hq) <;> (try simp only [decide_eq_true_eq, decide_eq_false_iff_not, Bool.not_eq_true', Bool.not_eq_false', Bool.and_eq_true, Bool.and_eq_false_iff, inB, Bool.not_true, Bool.not_false] at hq) <;> try (exfalso; omega; done)) | (with_reducible refine tot_call (t_num (by omega) hr1 (by omega) (by simp) (by simp)) ?_; rintro _ ⟨w, p2, rfl, hw, hr2⟩; simp only [Option.bind_some, c_rInt, c_rBool, c_rStr, c_rTs, c_rIs, c_rIss, c_rSs, c_rBs, c_rTerm, c_rOwnT, c_rOwn, c_rPtr, c_nilV, c_nilO, c_objC, c_dropC, c_intC, c_boolC, c_strC, c_tsC, c_isC, c_issC, c_ssC, c_bsC, c_anyC, c_nilC, c_arrTs, c_arrIs, c_arrIss, c_arrSs, c_arrBs, ik_self, nb_self, cond_true, cond_false, rTerm_tm, T.eta, mk_k, mk_n, mk_kids, Option.bind_none, Bool.not_true, Bool.not_false, Bool.true_and, Bool.and_true, Bool.and_false, Bool.false_and, Bool.and_self, decide_true, decide_false]) | ((with_reducible refine tot_some ?_); (exact ⟨.mk w t.n t.kids, _, rfl, by simp only [T.size]; omega, hr2.mono (by omega)⟩)) | ((with_reducible refine tot_some ?_); (exact ⟨.mk t.k w t.kids, _, rfl, by simp only [T.size]; omega, hr2.mono (by omega)⟩)) | ((with_reducible refine tot_some ?_); (exact ⟨t, _, rfl, by omega, hr1.mono (by omega)⟩)) | ((with_reducible refine tot_some ?_); (exact ⟨.mk t.k t.n (t.kids ++ [.mk 7 0 []]), _, rfl, by simp only [T.size]; omega, hr1.mono (by omega)⟩)) | ((with_reducible refine tot_some ?_); (exact ⟨.mk 8 0 [t], _, rfl, by simp only [T.size, T.sizeL]; omega, hr1.mono (by omega)⟩)) | ((with_reducible refine tot_some ?_); (exact ⟨.mk t.k t.n (t.kids.set 0 (.mk 1 25 [])), _, rfl, by simp only [T.size]; have := hs2 (by omega); omega, hr1.mono (by omega)⟩)))
theorem t_l3Plus {n : Nat} (hn : 1 ≤ n) : Tot (FF n 83 [] []) (fun r => r = ([st (bytesOf [91, 78, 93, 91, 78, 93, 60, 91, 78, 93, 78, 44, 35, 49, 44, 91, 78, 93, 91, 78, 93, 43, 35, 48, 44, 35, 48, 62])], [])) := by
  refine tot_step (C := 0) (by omega) fun n hn e => ?_
  exact ⟨_, E_spec_l3Plus n, rfl⟩
theorem all_small (l : List ByteArray) (h : (l.all fun s => decide (s.size ≤ 300)) = true) (s : ByteArray) (hs : s ∈ l) : s.size ≤ 300 := by
  simpa using List.all_eq_true.1 h s hs
theorem t_l3Draw {n : Nat} (hn : 10000 ≤ n) {l : List UInt8} {p m : Int} (hr : RdOk l p m) (hm : m ≤ 400000000000) : Tot (FF n 45 [.one (.ptr 0 0)] [rdr l p]) (IsDrawV l (m + 300)) := by
  refine tot_step (C := 9999) (by omega) fun n hn e => ?_
  rw [E_spec_l3Draw]
  refine tot_call (t_l3Plus (by omega)) ?_
  rintro _ rfl
  simp only [Option.bind_some, c_rInt, c_rBool, c_rStr, c_rTs, c_rIs, c_rIss, c_rSs, c_rBs, c_rTerm, c_rOwnT, c_rOwn, c_rPtr, c_nilV, c_nilO, c_objC, c_dropC, c_intC, c_boolC, c_strC, c_tsC, c_isC, c_issC, c_ssC, c_bsC, c_anyC, c_nilC, c_arrTs, c_arrIs, c_arrIss, c_arrSs, c_arrBs, ik_self, nb_self, cond_true, cond_false, rTerm_tm, T.eta, mk_k, mk_n, mk_kids, Option.bind_none, Bool.not_true, Bool.not_false, Bool.true_and, Bool.and_true, Bool.and_false, Bool.false_and, Bool.and_self, decide_true, decide_false]
  refine tot_cond (fun _ => ?_) (fun hq => by exfalso; revert hq; decide +kernel)
  refine tot_cond (fun _ => ?_) (fun hq => by exfalso; revert hq; decide +kernel)
  refine tot_call (t_l3Plus (by omega)) ?_
  rintro _ rfl
  simp only [Option.bind_some, c_rInt, c_rBool, c_rStr, c_rTs, c_rIs, c_rIss, c_rSs, c_rBs, c_rTerm, c_rOwnT, c_rOwn, c_rPtr, c_nilV, c_nilO, c_objC, c_dropC, c_intC, c_boolC, c_strC, c_tsC, c_isC, c_issC, c_ssC, c_bsC, c_anyC, c_nilC, c_arrTs, c_arrIs, c_arrIss, c_arrSs, c_arrBs, ik_self, nb_self, cond_true, cond_false, rTerm_tm, T.eta, mk_k, mk_n, mk_kids, Option.bind_none, Bool.not_true, Bool.not_false, Bool.true_and, Bool.and_true, Bool.and_false, Bool.false_and, Bool.and_self, decide_true, decide_false]
  refine tot_cond (fun _ => ?_) (fun hq => by exfalso; revert hq; decide +kernel)
  refine tot_cond (fun _ => ?_) (fun hq => by exfalso; revert hq; decide +kernel)
  refine tot_call (t_of (by omega) hr (by omega) (by simp) (by simp)) ?_
  rintro _ ⟨s, p1, rfl, hs, hr1⟩
  have hsz : s.size ≤ 300 := all_small _ (by decide +kernel) s hs
  clear hs
  simp only [Option.bind_some, c_rInt, c_rBool, c_rStr, c_rTs, c_rIs, c_rIss, c_rSs, c_rBs, c_rTerm, c_rOwnT, c_rOwn, c_rPtr, c_nilV, c_nilO, c_objC, c_dropC, c_intC, c_boolC, c_strC, c_tsC, c_isC, c_issC, c_ssC, c_bsC, c_anyC, c_nilC, c_arrTs, c_arrIs, c_arrIss, c_arrSs, c_arrBs, ik_self, nb_self, cond_true, cond_false, rTerm_tm, T.eta, mk_k, mk_n, mk_kids, Option.bind_none, Bool.not_true, Bool.not_false, Bool.true_and, Bool.and_true, Bool.and_false, Bool.false_and, Bool.and_self, decide_true, decide_false]
  refine tot_call (t_ParseTerm (s := s) (by omega) (by omega)) ?_
  rintro _ ⟨t, b, rfl, hb1, hb2⟩
  simp only [Option.bind_some, c_rInt, c_rBool, c_rStr, c_rTs, c_rIs, c_rIss, c_rSs, c_rBs, c_rTerm, c_rOwnT, c_rOwn, c_rPtr, c_nilV, c_nilO, c_objC, c_dropC, c_intC, c_boolC, c_strC, c_tsC, c_isC, c_issC, c_ssC, c_bsC, c_anyC, c_nilC, c_arrTs, c_arrIs, c_arrIss, c_arrSs, c_arrBs, ik_self, nb_self, cond_true, cond_false, rTerm_tm, T.eta, mk_k, mk_n, mk_kids, Option.bind_none, Bool.not_true, Bool.not_false, Bool.true_and, Bool.and_true, Bool.and_false, Bool.false_and, Bool.and_self, decide_true, decide_false]
  refine tot_cond (fun hq => ?_) (fun hq => ?_)
  · refine tot_call (t_pick (by omega) hr1 (by omega) (by omega)) ?_
    rintro _ ⟨v, p2, rfl, hv0, hv1, hr2⟩
    simp only [Option.bind_some, c_rInt, c_rBool, c_rStr, c_rTs, c_rIs, c_rIss, c_rSs, c_rBs, c_rTerm, c_rOwnT, c_rOwn, c_rPtr, c_nilV, c_nilO, c_objC, c_dropC, c_intC, c_boolC, c_strC, c_tsC, c_isC, c_issC, c_ssC, c_bsC, c_anyC, c_nilC, c_arrTs, c_arrIs, c_arrIss, c_arrSs, c_arrBs, ik_self, nb_self, cond_true, cond_false, rTerm_tm, T.eta, mk_k, mk_n, mk_kids, Option.bind_none, Bool.not_true, Bool.not_false, Bool.true_and, Bool.and_true, Bool.and_false, Bool.false_and, Bool.and_self, decide_true, decide_false]
    refine tot_cond (fun _ => tot_some ?_) (fun _ => ?_)
    · exact ⟨t, p2, rfl, hb1 hq, hr2.mono (by omega)⟩
    · refine tot_call (t_l1Any (by omega) hr2 (by omega)) ?_
      rintro _ ⟨u, p3, rfl, hu, hr3⟩
      simp only [Option.bind_some, c_rInt, c_rBool, c_rStr, c_rTs, c_rIs, c_rIss, c_rSs, c_rBs, c_rTerm, c_rOwnT, c_rOwn, c_rPtr, c_nilV, c_nilO, c_objC, c_dropC, c_intC, c_boolC, c_strC, c_tsC, c_isC, c_issC, c_ssC, c_bsC, c_anyC, c_nilC, c_arrTs, c_arrIs, c_arrIss, c_arrSs, c_arrBs, ik_self, nb_self, cond_true, cond_false, rTerm_tm, T.eta, mk_k, mk_n, mk_kids, Option.bind_none, Bool.not_true, Bool.not_false, Bool.true_and, Bool.and_true, Bool.and_false, Bool.false_and, Bool.and_self, decide_true, decide_false]
      refine tot_some ?_
      exact ⟨u, p3, rfl, hu, hr3.mono (by omega)⟩
  · refine tot_call (t_l1Any (by omega) hr1 (by omega)) ?_
    rintro _ ⟨u, p3, rfl, hu, hr3⟩
    simp only [Option.bind_some, c_rInt, c_rBool, c_rStr, c_rTs, c_rIs, c_rIss, c_rSs, c_rBs, c_rTerm, c_rOwnT, c_rOwn, c_rPtr, c_nilV, c_nilO, c_objC, c_dropC, c_intC, c_boolC, c_strC, c_tsC, c_isC, c_issC, c_ssC, c_bsC, c_anyC, c_nilC, c_arrTs, c_arrIs, c_arrIss, c_arrSs, c_arrBs, ik_self, nb_self, cond_true, cond_false, rTerm_tm, T.eta, mk_k, mk_n, mk_kids, Option.bind_none, Bool.not_true, Bool.not_false, Bool.true_and, Bool.and_true, Bool.and_false, Bool.false_and, Bool.and_self, decide_true, decide_false]
    refine tot_some ?_
    exact ⟨u, p3, rfl, hu, hr3.mono (by omega)⟩
theorem t_l3Fuel {n : Nat} (hn : 10 ≤ n) {l : List UInt8} {p m : Int} (hr : RdOk l p m) (hm : m ≤ 500000000000) : Tot (FF n 78 [.one (.ptr 0 0)] [rdr l p]) (fun r => ∃ v p' : Int, r = ([nt v], [rdr l p']) ∧ RdOk l p' (m + 1)) := by
  refine tot_step (C := 9) (by omega) fun n hn e => ?_
  rw [E_spec_l3Fuel]
  refine tot_call (t_num (by omega) hr (by omega) (by simp) (by simp)) ?_
  rintro _ ⟨v, p1, rfl, hv, hr1⟩
  simp only [Option.bind_some, c_rInt, c_rBool, c_rStr, c_rTs, c_rIs, c_rIss, c_rSs, c_rBs, c_rTerm, c_rOwnT, c_rOwn, c_rPtr, c_nilV, c_nilO, c_objC, c_dropC, c_intC, c_boolC, c_strC, c_tsC, c_isC, c_issC, c_ssC, c_bsC, c_anyC, c_nilC, c_arrTs, c_arrIs, c_arrIss, c_arrSs, c_arrBs, ik_self, nb_self, cond_true, cond_false, rTerm_tm, T.eta, mk_k, mk_n, mk_kids, Option.bind_none, Bool.not_true, Bool.not_false, Bool.true_and, Bool.and_true, Bool.and_false, Bool.false_and, Bool.and_self, decide_true, decide_false]
  refine tot_some ?_
  exact ⟨v, p1, rfl, hr1⟩
/-- A drawn term, of not too many nodes. -/
abbrev IsT (z : Nat) (r : List V1 × List AObj) : Prop := ∃ t : T, r = ([tm t], []) ∧ t.size ≤ z
theorem t_DrawRedexOf {n : Nat} (hn : 20000 ≤ n) (l : List UInt8) : Tot (FF n 67 [.one (.fr (.bs l))] []) (IsT 402) := by
  refine tot_step (C := 19999) (by omega) fun n hn e => ?_
  rw [E_spec_DrawRedexOf]
  refine tot_call (t_open (by omega) l) ?_
  rintro _ ⟨l', rfl, hr⟩
  simp only [Option.bind_some, c_rInt, c_rBool, c_rStr, c_rTs, c_rIs, c_rIss, c_rSs, c_rBs, c_rTerm, c_rOwnT, c_rOwn, c_rPtr, c_nilV, c_nilO, c_objC, c_dropC, c_intC, c_boolC, c_strC, c_tsC, c_isC, c_issC, c_ssC, c_bsC, c_anyC, c_nilC, c_arrTs, c_arrIs, c_arrIss, c_arrSs, c_arrBs, ik_self, nb_self, cond_true, cond_false, rTerm_tm, T.eta, mk_k, mk_n, mk_kids, Option.bind_none, Bool.not_true, Bool.not_false, Bool.true_and, Bool.and_true, Bool.and_false, Bool.false_and, Bool.and_self, decide_true, decide_false]
  refine tot_call (t_l3Draw (by omega) hr (by omega)) ?_
  rintro _ ⟨t, p1, rfl, hv, hr1⟩
  simp only [Option.bind_some, c_rInt, c_rBool, c_rStr, c_rTs, c_rIs, c_rIss, c_rSs, c_rBs, c_rTerm, c_rOwnT, c_rOwn, c_rPtr, c_nilV, c_nilO, c_objC, c_dropC, c_intC, c_boolC, c_strC, c_tsC, c_isC, c_issC, c_ssC, c_bsC, c_anyC, c_nilC, c_arrTs, c_arrIs, c_arrIss, c_arrSs, c_arrBs, ik_self, nb_self, cond_true, cond_false, rTerm_tm, T.eta, mk_k, mk_n, mk_kids, Option.bind_none, Bool.not_true, Bool.not_false, Bool.true_and, Bool.and_true, Bool.and_false, Bool.false_and, Bool.and_self, decide_true, decide_false]
  have hz := validB_size hv
  refine tot_call (t_l1Mutate (by omega) (by omega) hr1 (by omega)) ?_
  rintro _ ⟨u, p2, rfl, hu, hr2⟩
  simp only [Option.bind_some, c_rInt, c_rBool, c_rStr, c_rTs, c_rIs, c_rIss, c_rSs, c_rBs, c_rTerm, c_rOwnT, c_rOwn, c_rPtr, c_nilV, c_nilO, c_objC, c_dropC, c_intC, c_boolC, c_strC, c_tsC, c_isC, c_issC, c_ssC, c_bsC, c_anyC, c_nilC, c_arrTs, c_arrIs, c_arrIss, c_arrSs, c_arrBs, ik_self, nb_self, cond_true, cond_false, rTerm_tm, T.eta, mk_k, mk_n, mk_kids, Option.bind_none, Bool.not_true, Bool.not_false, Bool.true_and, Bool.and_true, Bool.and_false, Bool.false_and, Bool.and_self, decide_true, decide_false]
  refine tot_some ?_
  exact ⟨u, rfl, by omega⟩
theorem t_DrawTraceTerm {n : Nat} (hn : 20001 ≤ n) (l : List UInt8) : Tot (FF n 27 [.one (.fr (.bs l))] []) (IsT 402) := by
  refine tot_step (C := 20000) (by omega) fun n hn e => ?_
  rw [E_spec_DrawTraceTerm]
  refine tot_call (t_DrawRedexOf (by omega) l) ?_
  rintro _ ⟨t, rfl, hz⟩
  simp only [Option.bind_some, c_rInt, c_rBool, c_rStr, c_rTs, c_rIs, c_rIss, c_rSs, c_rBs, c_rTerm, c_rOwnT, c_rOwn, c_rPtr, c_nilV, c_nilO, c_objC, c_dropC, c_intC, c_boolC, c_strC, c_tsC, c_isC, c_issC, c_ssC, c_bsC, c_anyC, c_nilC, c_arrTs, c_arrIs, c_arrIss, c_arrSs, c_arrBs, ik_self, nb_self, cond_true, cond_false, rTerm_tm, T.eta, mk_k, mk_n, mk_kids, Option.bind_none, Bool.not_true, Bool.not_false, Bool.true_and, Bool.and_true, Bool.and_false, Bool.false_and, Bool.and_self, decide_true, decide_false]
  refine tot_some ?_
  exact ⟨t, rfl, hz⟩
theorem t_DrawDevelopTerm {n : Nat} (hn : 20001 ≤ n) (l : List UInt8) : Tot (FF n 32 [.one (.fr (.bs l))] []) (IsT 402) := by
  refine tot_step (C := 20000) (by omega) fun n hn e => ?_
  rw [E_spec_DrawDevelopTerm]
  refine tot_call (t_DrawRedexOf (by omega) l) ?_
  rintro _ ⟨t, rfl, hz⟩
  simp only [Option.bind_some, c_rInt, c_rBool, c_rStr, c_rTs, c_rIs, c_rIss, c_rSs, c_rBs, c_rTerm, c_rOwnT, c_rOwn, c_rPtr, c_nilV, c_nilO, c_objC, c_dropC, c_intC, c_boolC, c_strC, c_tsC, c_isC, c_issC, c_ssC, c_bsC, c_anyC, c_nilC, c_arrTs, c_arrIs, c_arrIss, c_arrSs, c_arrBs, ik_self, nb_self, cond_true, cond_false, rTerm_tm, T.eta, mk_k, mk_n, mk_kids, Option.bind_none, Bool.not_true, Bool.not_false, Bool.true_and, Bool.and_true, Bool.and_false, Bool.false_and, Bool.and_self, decide_true, decide_false]
  refine tot_some ?_
  exact ⟨t, rfl, hz⟩
theorem t_DrawConvertible {n : Nat} (hn : 6000000 ≤ n) (l : List UInt8) : Tot (FF n 41 [.one (.fr (.bs l))] []) (fun r => ∃ (t u : T) (f : Int), r = ([tm t, tm u, nt f], []) ∧ t.size ≤ 402 ∧ u.size ≤ 402) := by
  refine tot_step (C := 5999999) (by omega) fun n hn e => ?_
  rw [E_spec_DrawConvertible]
  refine tot_call (t_open (by omega) l) ?_
  rintro _ ⟨l', rfl, hr⟩
  simp only [Option.bind_some, c_rInt, c_rBool, c_rStr, c_rTs, c_rIs, c_rIss, c_rSs, c_rBs, c_rTerm, c_rOwnT, c_rOwn, c_rPtr, c_nilV, c_nilO, c_objC, c_dropC, c_intC, c_boolC, c_strC, c_tsC, c_isC, c_issC, c_ssC, c_bsC, c_anyC, c_nilC, c_arrTs, c_arrIs, c_arrIss, c_arrSs, c_arrBs, ik_self, nb_self, cond_true, cond_false, rTerm_tm, T.eta, mk_k, mk_n, mk_kids, Option.bind_none, Bool.not_true, Bool.not_false, Bool.true_and, Bool.and_true, Bool.and_false, Bool.false_and, Bool.and_self, decide_true, decide_false]
  refine tot_call (t_l3Draw (by omega) hr (by omega)) ?_
  rintro _ ⟨a, p1, rfl, ha, hr1⟩
  simp only [Option.bind_some, c_rInt, c_rBool, c_rStr, c_rTs, c_rIs, c_rIss, c_rSs, c_rBs, c_rTerm, c_rOwnT, c_rOwn, c_rPtr, c_nilV, c_nilO, c_objC, c_dropC, c_intC, c_boolC, c_strC, c_tsC, c_isC, c_issC, c_ssC, c_bsC, c_anyC, c_nilC, c_arrTs, c_arrIs, c_arrIss, c_arrSs, c_arrBs, ik_self, nb_self, cond_true, cond_false, rTerm_tm, T.eta, mk_k, mk_n, mk_kids, Option.bind_none, Bool.not_true, Bool.not_false, Bool.true_and, Bool.and_true, Bool.and_false, Bool.false_and, Bool.and_self, decide_true, decide_false]
  refine tot_call (t_l3Draw (by omega) hr1 (by omega)) ?_
  rintro _ ⟨b, p2, rfl, hb, hr2⟩
  simp only [Option.bind_some, c_rInt, c_rBool, c_rStr, c_rTs, c_rIs, c_rIss, c_rSs, c_rBs, c_rTerm, c_rOwnT, c_rOwn, c_rPtr, c_nilV, c_nilO, c_objC, c_dropC, c_intC, c_boolC, c_strC, c_tsC, c_isC, c_issC, c_ssC, c_bsC, c_anyC, c_nilC, c_arrTs, c_arrIs, c_arrIss, c_arrSs, c_arrBs, ik_self, nb_self, cond_true, cond_false, rTerm_tm, T.eta, mk_k, mk_n, mk_kids, Option.bind_none, Bool.not_true, Bool.not_false, Bool.true_and, Bool.and_true, Bool.and_false, Bool.false_and, Bool.and_self, decide_true, decide_false]
  refine tot_call (t_pick (by omega) hr2 (by omega) (by omega)) ?_
  rintro _ ⟨v, p3, rfl, hv0, hv1, hr3⟩
  simp only [Option.bind_some, c_rInt, c_rBool, c_rStr, c_rTs, c_rIs, c_rIss, c_rSs, c_rBs, c_rTerm, c_rOwnT, c_rOwn, c_rPtr, c_nilV, c_nilO, c_objC, c_dropC, c_intC, c_boolC, c_strC, c_tsC, c_isC, c_issC, c_ssC, c_bsC, c_anyC, c_nilC, c_arrTs, c_arrIs, c_arrIss, c_arrSs, c_arrBs, ik_self, nb_self, cond_true, cond_false, rTerm_tm, T.eta, mk_k, mk_n, mk_kids, Option.bind_none, Bool.not_true, Bool.not_false, Bool.true_and, Bool.and_true, Bool.and_false, Bool.false_and, Bool.and_self, decide_true, decide_false]
  have za := validB_size ha
  have zb := validB_size hb
  refine tot_cond (fun _ => ?_) (fun _ => ?_)
  · refine tot_call (t_num (by omega) hr3 (by omega) (by simp) (by simp)) ?_
    rintro _ ⟨f, p4, rfl, hf, hr4⟩
    simp only [Option.bind_some, c_rInt, c_rBool, c_rStr, c_rTs, c_rIs, c_rIss, c_rSs, c_rBs, c_rTerm, c_rOwnT, c_rOwn, c_rPtr, c_nilV, c_nilO, c_objC, c_dropC, c_intC, c_boolC, c_strC, c_tsC, c_isC, c_issC, c_ssC, c_bsC, c_anyC, c_nilC, c_arrTs, c_arrIs, c_arrIss, c_arrSs, c_arrBs, ik_self, nb_self, cond_true, cond_false, rTerm_tm, T.eta, mk_k, mk_n, mk_kids, Option.bind_none, Bool.not_true, Bool.not_false, Bool.true_and, Bool.and_true, Bool.and_false, Bool.false_and, Bool.and_self, decide_true, decide_false]
    refine tot_call (t_pick (by omega) hr4 (by omega) (by omega)) ?_
    rintro _ ⟨v2, p5, rfl, hv20, hv21, hr5⟩
    simp only [Option.bind_some, c_rInt, c_rBool, c_rStr, c_rTs, c_rIs, c_rIss, c_rSs, c_rBs, c_rTerm, c_rOwnT, c_rOwn, c_rPtr, c_nilV, c_nilO, c_objC, c_dropC, c_intC, c_boolC, c_strC, c_tsC, c_isC, c_issC, c_ssC, c_bsC, c_anyC, c_nilC, c_arrTs, c_arrIs, c_arrIss, c_arrSs, c_arrBs, ik_self, nb_self, cond_true, cond_false, rTerm_tm, T.eta, mk_k, mk_n, mk_kids, Option.bind_none, Bool.not_true, Bool.not_false, Bool.true_and, Bool.and_true, Bool.and_false, Bool.false_and, Bool.and_self, decide_true, decide_false]
    obtain ⟨g, rfl, hg⟩ : ∃ g : Nat, f = g ∧ g ≤ 200 := by
      simp only [List.mem_cons, List.not_mem_nil, or_false] at hf
      exact ⟨f.toNat, by omega, by omega⟩
    rw [f_l3Norm (show 5000001 ≤ n by omega) hg ha]
    simp only [Option.bind_some, c_rInt, c_rBool, c_rStr, c_rTs, c_rIs, c_rIss, c_rSs, c_rBs, c_rTerm, c_rOwnT, c_rOwn, c_rPtr, c_nilV, c_nilO, c_objC, c_dropC, c_intC, c_boolC, c_strC, c_tsC, c_isC, c_issC, c_ssC, c_bsC, c_anyC, c_nilC, c_arrTs, c_arrIs, c_arrIss, c_arrSs, c_arrBs, ik_self, nb_self, cond_true, cond_false, rTerm_tm, T.eta, mk_k, mk_n, mk_kids, Option.bind_none, Bool.not_true, Bool.not_false, Bool.true_and, Bool.and_true, Bool.and_false, Bool.false_and, Bool.and_self, decide_true, decide_false]
    refine tot_cond (fun hq => ?_) (fun hq => ?_)
    · have hx := redF_valid (inn := decide (v2 = 0)) g 0 a ha (by simpa using hq)
      have zx := validB_size hx
      refine tot_call (t_l1Mutate (by omega) (by omega) hr5 (by omega)) ?_
      rintro _ ⟨t, p6, rfl, ht, hr6⟩
      simp only [Option.bind_some, c_rInt, c_rBool, c_rStr, c_rTs, c_rIs, c_rIss, c_rSs, c_rBs, c_rTerm, c_rOwnT, c_rOwn, c_rPtr, c_nilV, c_nilO, c_objC, c_dropC, c_intC, c_boolC, c_strC, c_tsC, c_isC, c_issC, c_ssC, c_bsC, c_anyC, c_nilC, c_arrTs, c_arrIs, c_arrIss, c_arrSs, c_arrBs, ik_self, nb_self, cond_true, cond_false, rTerm_tm, T.eta, mk_k, mk_n, mk_kids, Option.bind_none, Bool.not_true, Bool.not_false, Bool.true_and, Bool.and_true, Bool.and_false, Bool.false_and, Bool.and_self, decide_true, decide_false]
      refine tot_call (t_l1Mutate (by omega) (by omega) hr6 (by omega)) ?_
      rintro _ ⟨u, p7, rfl, hu, hr7⟩
      simp only [Option.bind_some, c_rInt, c_rBool, c_rStr, c_rTs, c_rIs, c_rIss, c_rSs, c_rBs, c_rTerm, c_rOwnT, c_rOwn, c_rPtr, c_nilV, c_nilO, c_objC, c_dropC, c_intC, c_boolC, c_strC, c_tsC, c_isC, c_issC, c_ssC, c_bsC, c_anyC, c_nilC, c_arrTs, c_arrIs, c_arrIss, c_arrSs, c_arrBs, ik_self, nb_self, cond_true, cond_false, rTerm_tm, T.eta, mk_k, mk_n, mk_kids, Option.bind_none, Bool.not_true, Bool.not_false, Bool.true_and, Bool.and_true, Bool.and_false, Bool.false_and, Bool.and_self, decide_true, decide_false]
      refine tot_call (t_l3Fuel (by omega) hr7 (by omega)) ?_
      rintro _ ⟨w, p8, rfl, hr8⟩
      simp only [Option.bind_some, c_rInt, c_rBool, c_rStr, c_rTs, c_rIs, c_rIss, c_rSs, c_rBs, c_rTerm, c_rOwnT, c_rOwn, c_rPtr, c_nilV, c_nilO, c_objC, c_dropC, c_intC, c_boolC, c_strC, c_tsC, c_isC, c_issC, c_ssC, c_bsC, c_anyC, c_nilC, c_arrTs, c_arrIs, c_arrIss, c_arrSs, c_arrBs, ik_self, nb_self, cond_true, cond_false, rTerm_tm, T.eta, mk_k, mk_n, mk_kids, Option.bind_none, Bool.not_true, Bool.not_false, Bool.true_and, Bool.and_true, Bool.and_false, Bool.false_and, Bool.and_self, decide_true, decide_false]
      refine tot_some ?_
      exact ⟨t, u, w, rfl, by omega, by omega⟩
    · refine tot_call (t_l1Mutate (by omega) (by omega) hr5 (by omega)) ?_
      rintro _ ⟨t, p6, rfl, ht, hr6⟩
      simp only [Option.bind_some, c_rInt, c_rBool, c_rStr, c_rTs, c_rIs, c_rIss, c_rSs, c_rBs, c_rTerm, c_rOwnT, c_rOwn, c_rPtr, c_nilV, c_nilO, c_objC, c_dropC, c_intC, c_boolC, c_strC, c_tsC, c_isC, c_issC, c_ssC, c_bsC, c_anyC, c_nilC, c_arrTs, c_arrIs, c_arrIss, c_arrSs, c_arrBs, ik_self, nb_self, cond_true, cond_false, rTerm_tm, T.eta, mk_k, mk_n, mk_kids, Option.bind_none, Bool.not_true, Bool.not_false, Bool.true_and, Bool.and_true, Bool.and_false, Bool.false_and, Bool.and_self, decide_true, decide_false]
      refine tot_call (t_l1Mutate (by omega) (by omega) hr6 (by omega)) ?_
      rintro _ ⟨u, p7, rfl, hu, hr7⟩
      simp only [Option.bind_some, c_rInt, c_rBool, c_rStr, c_rTs, c_rIs, c_rIss, c_rSs, c_rBs, c_rTerm, c_rOwnT, c_rOwn, c_rPtr, c_nilV, c_nilO, c_objC, c_dropC, c_intC, c_boolC, c_strC, c_tsC, c_isC, c_issC, c_ssC, c_bsC, c_anyC, c_nilC, c_arrTs, c_arrIs, c_arrIss, c_arrSs, c_arrBs, ik_self, nb_self, cond_true, cond_false, rTerm_tm, T.eta, mk_k, mk_n, mk_kids, Option.bind_none, Bool.not_true, Bool.not_false, Bool.true_and, Bool.and_true, Bool.and_false, Bool.false_and, Bool.and_self, decide_true, decide_false]
      refine tot_call (t_l3Fuel (by omega) hr7 (by omega)) ?_
      rintro _ ⟨w, p8, rfl, hr8⟩
      simp only [Option.bind_some, c_rInt, c_rBool, c_rStr, c_rTs, c_rIs, c_rIss, c_rSs, c_rBs, c_rTerm, c_rOwnT, c_rOwn, c_rPtr, c_nilV, c_nilO, c_objC, c_dropC, c_intC, c_boolC, c_strC, c_tsC, c_isC, c_issC, c_ssC, c_bsC, c_anyC, c_nilC, c_arrTs, c_arrIs, c_arrIss, c_arrSs, c_arrBs, ik_self, nb_self, cond_true, cond_false, rTerm_tm, T.eta, mk_k, mk_n, mk_kids, Option.bind_none, Bool.not_true, Bool.not_false, Bool.true_and, Bool.and_true, Bool.and_false, Bool.false_and, Bool.and_self, decide_true, decide_false]
      refine tot_some ?_
      exact ⟨t, u, w, rfl, by omega, by omega⟩
  · refine tot_call (t_l1Mutate (by omega) (by omega) hr3 (by omega)) ?_
    rintro _ ⟨t, p6, rfl, ht, hr6⟩
    simp only [Option.bind_some, c_rInt, c_rBool, c_rStr, c_rTs, c_rIs, c_rIss, c_rSs, c_rBs, c_rTerm, c_rOwnT, c_rOwn, c_rPtr, c_nilV, c_nilO, c_objC, c_dropC, c_intC, c_boolC, c_strC, c_tsC, c_isC, c_issC, c_ssC, c_bsC, c_anyC, c_nilC, c_arrTs, c_arrIs, c_arrIss, c_arrSs, c_arrBs, ik_self, nb_self, cond_true, cond_false, rTerm_tm, T.eta, mk_k, mk_n, mk_kids, Option.bind_none, Bool.not_true, Bool.not_false, Bool.true_and, Bool.and_true, Bool.and_false, Bool.false_and, Bool.and_self, decide_true, decide_false]
    refine tot_call (t_l1Mutate (by omega) (by omega) hr6 (by omega)) ?_
    rintro _ ⟨u, p7, rfl, hu, hr7⟩
    simp only [Option.bind_some, c_rInt, c_rBool, c_rStr, c_rTs, c_rIs, c_rIss, c_rSs, c_rBs, c_rTerm, c_rOwnT, c_rOwn, c_rPtr, c_nilV, c_nilO, c_objC, c_dropC, c_intC, c_boolC, c_strC, c_tsC, c_isC, c_issC, c_ssC, c_bsC, c_anyC, c_nilC, c_arrTs, c_arrIs, c_arrIss, c_arrSs, c_arrBs, ik_self, nb_self, cond_true, cond_false, rTerm_tm, T.eta, mk_k, mk_n, mk_kids, Option.bind_none, Bool.not_true, Bool.not_false, Bool.true_and, Bool.and_true, Bool.and_false, Bool.false_and, Bool.and_self, decide_true, decide_false]
    refine tot_call (t_l3Fuel (by omega) hr7 (by omega)) ?_
    rintro _ ⟨w, p8, rfl, hr8⟩
    simp only [Option.bind_some, c_rInt, c_rBool, c_rStr, c_rTs, c_rIs, c_rIss, c_rSs, c_rBs, c_rTerm, c_rOwnT, c_rOwn, c_rPtr, c_nilV, c_nilO, c_objC, c_dropC, c_intC, c_boolC, c_strC, c_tsC, c_isC, c_issC, c_ssC, c_bsC, c_anyC, c_nilC, c_arrTs, c_arrIs, c_arrIss, c_arrSs, c_arrBs, ik_self, nb_self, cond_true, cond_false, rTerm_tm, T.eta, mk_k, mk_n, mk_kids, Option.bind_none, Bool.not_true, Bool.not_false, Bool.true_and, Bool.and_true, Bool.and_false, Bool.false_and, Bool.and_self, decide_true, decide_false]
    refine tot_some ?_
    exact ⟨t, u, w, rfl, by omega, by omega⟩
end Go.Proofs.Ytmioieikbpemoaa
