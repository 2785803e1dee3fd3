/- Drawn contexts and terms: the drawing answers. -/
import Derived.Test.YtmioieikbpemoaaEvB
import Derived.Test.YtmioieikbpemoaaEvF
set_option linter.unusedVariables false
set_option linter.unusedSimpArgs false
namespace Go.Proofs.Ytmioieikbpemoaa
open Go Go.Ab Go.Dk
def szN : Nat → Nat
  | 0 => 1
  | k + 1 => 8 + 3 * szN k
def rdN : Nat → Int
  | 0 => 2
  | k + 1 => 2 + 3 * rdN k
theorem szN_pos : ∀ k, 1 ≤ szN k
  | 0 => by simp [szN]
  | k + 1 => by simp only [szN]; omega
theorem rdN_pos : ∀ k, 2 ≤ rdN k
  | 0 => by simp [rdN]
  | k + 1 => by have := rdN_pos k; simp only [rdN]; omega
theorem t_l1Node {n : Nat} (hn : 1 ≤ n) (k : Int) (l : List T) (hl : l.length ≤ 1099511627776) : Tot (FF n 55 [nt k, tms l] []) (fun r => r = ([tm (.mk k 0 l)], [])) := ⟨_, f_l1Node hn k l hl, rfl⟩
theorem t_l1Leaf {n : Nat} (hn : 1 ≤ n) (k m : Int) : Tot (FF n 81 [nt k, nt m] []) (fun r => r = ([tm (.mk k m [])], [])) := ⟨_, f_l1Leaf hn k m, rfl⟩
theorem t_l5Nat : ∀ (k : Nat) {n : Nat} {l : List UInt8} {p m v d : Int}, 20 * k + 20 ≤ n → (0 ≤ v ∧ v + 2 * k ≤ 1000) → (-10 ≤ d ∧ d ≤ k) → RdOk l p m → m + rdN k ≤ 1000000000 → Tot (FF n 91 [.one (.ptr 0 0), nt v, nt d] [rdr l p]) (IsDraw (szN k) l (m + rdN k))
  | 0, n, l, p, m, v, d, hn, hv, hd, hr, hm => by
    refine tot_step (C := 19) (by omega) fun n hn e => ?_
    rw [E_spec_l5Nat]
    simp only [f_l1Leaf (show 1 ≤ n by omega), Option.bind_some, c_rInt, c_rBool, c_rStr, c_rTs, c_rIs, c_rIss, c_rSs, c_rBs, c_rTerm, c_rOwnT, c_rOwn, c_rPtr, c_nilV, c_nilO, c_objC, c_dropC, c_intC, c_boolC, c_strC, c_tsC, c_isC, c_issC, c_ssC, c_bsC, c_anyC, c_nilC, c_arrTs, c_arrIs, c_arrIss, c_arrSs, c_arrBs, ik_self, nb_self, cond_true, cond_false, rTerm_tm, T.eta, mk_k, mk_n, mk_kids, Option.bind_none, Bool.not_true, Bool.not_false, Bool.true_and, Bool.and_true, Bool.and_false, Bool.false_and, Bool.and_self, decide_true, decide_false]
    rw [decide_eq_true (show d < 1 by omega), cond_true]
    simp only [szN, rdN] at hm ⊢
    repeat' (first | (simp (disch := omega) only [wrap64]; done) | (simp (disch := omega) only [wrap64]) | (with_reducible refine tot_cond (fun hq => ?_) (fun hq => ?_) <;> (try simp (disch := omega) only [wrap64] at hq) <;> (try simp only [decide_eq_true_eq, decide_eq_false_iff_not, Bool.not_eq_true', Bool.not_eq_false', Bool.and_eq_true, Bool.and_eq_false_iff, inB, Bool.not_true, Bool.not_false] at hq) <;> try (exfalso; omega; done)) | (with_reducible refine tot_call (t_pick (by omega) hr (by omega) (by omega)) ?_; rintro _ ⟨w, p, rfl, hw, hw2, hr⟩; simp only [Option.bind_some, c_rInt, c_rBool, c_rStr, c_rTs, c_rIs, c_rIss, c_rSs, c_rBs, c_rTerm, c_rOwnT, c_rOwn, c_rPtr, c_nilV, c_nilO, c_objC, c_dropC, c_intC, c_boolC, c_strC, c_tsC, c_isC, c_issC, c_ssC, c_bsC, c_anyC, c_nilC, c_arrTs, c_arrIs, c_arrIss, c_arrSs, c_arrBs, ik_self, nb_self, cond_true, cond_false, rTerm_tm, T.eta, mk_k, mk_n, mk_kids, Option.bind_none, Bool.not_true, Bool.not_false, Bool.true_and, Bool.and_true, Bool.and_false, Bool.false_and, Bool.and_self, decide_true, decide_false]) | (with_reducible refine tot_call (t_l1Leaf (by omega) _ _) ?_; rintro _ rfl; simp only [Option.bind_some, c_rInt, c_rBool, c_rStr, c_rTs, c_rIs, c_rIss, c_rSs, c_rBs, c_rTerm, c_rOwnT, c_rOwn, c_rPtr, c_nilV, c_nilO, c_objC, c_dropC, c_intC, c_boolC, c_strC, c_tsC, c_isC, c_issC, c_ssC, c_bsC, c_anyC, c_nilC, c_arrTs, c_arrIs, c_arrIss, c_arrSs, c_arrBs, ik_self, nb_self, cond_true, cond_false, rTerm_tm, T.eta, mk_k, mk_n, mk_kids, Option.bind_none, Bool.not_true, Bool.not_false, Bool.true_and, Bool.and_true, Bool.and_false, Bool.false_and, Bool.and_self, decide_true, decide_false]) | ((with_reducible refine tot_some ?_); (exact ⟨.mk 7 0 [], _, rfl, by simp [T.size, T.sizeL], hr.mono (by omega)⟩)) | ((with_reducible refine tot_some ?_); (exact ⟨.mk 1 _ [], _, rfl, by simp [T.size, T.sizeL], hr.mono (by omega)⟩)))
  | k + 1, n, l, p, m, v, d, hn, hv, hd, hr, hm => by
    refine tot_step (C := 20 * k + 39) (by omega) fun n hn e => ?_
    have ih := @t_l5Nat k n l
    have s1 := szN_pos k
    have s2 := rdN_pos k
    rw [E_spec_l5Nat]
    simp only [f_l1Leaf (show 1 ≤ n by omega), Option.bind_some, c_rInt, c_rBool, c_rStr, c_rTs, c_rIs, c_rIss, c_rSs, c_rBs, c_rTerm, c_rOwnT, c_rOwn, c_rPtr, c_nilV, c_nilO, c_objC, c_dropC, c_intC, c_boolC, c_strC, c_tsC, c_isC, c_issC, c_ssC, c_bsC, c_anyC, c_nilC, c_arrTs, c_arrIs, c_arrIss, c_arrSs, c_arrBs, ik_self, nb_self, cond_true, cond_false, rTerm_tm, T.eta, mk_k, mk_n, mk_kids, Option.bind_none, Bool.not_true, Bool.not_false, Bool.true_and, Bool.and_true, Bool.and_false, Bool.false_and, Bool.and_self, decide_true, decide_false]
    simp only [szN, rdN] at hm ⊢
    repeat' (first | (simp (disch := omega) only [wrap64]; done) | (simp (disch := omega) only [wrap64]) | (with_reducible refine tot_cond (fun hq => ?_) (fun hq => ?_) <;> (try simp (disch := omega) only [wrap64] at hq) <;> (try simp only [decide_eq_true_eq, decide_eq_false_iff_not, Bool.not_eq_true', Bool.not_eq_false', Bool.and_eq_true, Bool.and_eq_false_iff, inB, Bool.not_true, Bool.not_false] at hq) <;> try (exfalso; omega; done)) | (with_reducible refine tot_call (t_pick (by omega) hr (by omega) (by omega)) ?_; rintro _ ⟨w, p, rfl, hw, hw2, hr⟩; simp only [Option.bind_some, c_rInt, c_rBool, c_rStr, c_rTs, c_rIs, c_rIss, c_rSs, c_rBs, c_rTerm, c_rOwnT, c_rOwn, c_rPtr, c_nilV, c_nilO, c_objC, c_dropC, c_intC, c_boolC, c_strC, c_tsC, c_isC, c_issC, c_ssC, c_bsC, c_anyC, c_nilC, c_arrTs, c_arrIs, c_arrIss, c_arrSs, c_arrBs, ik_self, nb_self, cond_true, cond_false, rTerm_tm, T.eta, mk_k, mk_n, mk_kids, Option.bind_none, Bool.not_true, Bool.not_false, Bool.true_and, Bool.and_true, Bool.and_false, Bool.false_and, Bool.and_self, decide_true, decide_false]) | (with_reducible refine tot_call (t_num (by omega) hr (by omega) (by simp) (by simp)) ?_; rintro _ ⟨w, p, rfl, hw, hr⟩; simp only [Option.bind_some, c_rInt, c_rBool, c_rStr, c_rTs, c_rIs, c_rIss, c_rSs, c_rBs, c_rTerm, c_rOwnT, c_rOwn, c_rPtr, c_nilV, c_nilO, c_objC, c_dropC, c_intC, c_boolC, c_strC, c_tsC, c_isC, c_issC, c_ssC, c_bsC, c_anyC, c_nilC, c_arrTs, c_arrIs, c_arrIss, c_arrSs, c_arrBs, ik_self, nb_self, cond_true, cond_false, rTerm_tm, T.eta, mk_k, mk_n, mk_kids, Option.bind_none, Bool.not_true, Bool.not_false, Bool.true_and, Bool.and_true, Bool.and_false, Bool.false_and, Bool.and_self, decide_true, decide_false]) | (with_reducible refine tot_call (t_l1Leaf (by omega) _ _) ?_; rintro _ rfl; simp only [Option.bind_some, c_rInt, c_rBool, c_rStr, c_rTs, c_rIs, c_rIss, c_rSs, c_rBs, c_rTerm, c_rOwnT, c_rOwn, c_rPtr, c_nilV, c_nilO, c_objC, c_dropC, c_intC, c_boolC, c_strC, c_tsC, c_isC, c_issC, c_ssC, c_bsC, c_anyC, c_nilC, c_arrTs, c_arrIs, c_arrIss, c_arrSs, c_arrBs, ik_self, nb_self, cond_true, cond_false, rTerm_tm, T.eta, mk_k, mk_n, mk_kids, Option.bind_none, Bool.not_true, Bool.not_false, Bool.true_and, Bool.and_true, Bool.and_false, Bool.false_and, Bool.and_self, decide_true, decide_false]) | (with_reducible refine tot_call (t_l1Node (by omega) _ _ (by simp)) ?_; rintro _ rfl; simp only [Option.bind_some, c_rInt, c_rBool, c_rStr, c_rTs, c_rIs, c_rIss, c_rSs, c_rBs, c_rTerm, c_rOwnT, c_rOwn, c_rPtr, c_nilV, c_nilO, c_objC, c_dropC, c_intC, c_boolC, c_strC, c_tsC, c_isC, c_issC, c_ssC, c_bsC, c_anyC, c_nilC, c_arrTs, c_arrIs, c_arrIss, c_arrSs, c_arrBs, ik_self, nb_self, cond_true, cond_false, rTerm_tm, T.eta, mk_k, mk_n, mk_kids, Option.bind_none, Bool.not_true, Bool.not_false, Bool.true_and, Bool.and_true, Bool.and_false, Bool.false_and, Bool.and_self, decide_true, decide_false]) | (with_reducible refine tot_call (ih (by omega) (by omega) (by omega) hr (by omega)) ?_; rintro _ ⟨t, p, rfl, hz, hr⟩; simp only [Option.bind_some, c_rInt, c_rBool, c_rStr, c_rTs, c_rIs, c_rIss, c_rSs, c_rBs, c_rTerm, c_rOwnT, c_rOwn, c_rPtr, c_nilV, c_nilO, c_objC, c_dropC, c_intC, c_boolC, c_strC, c_tsC, c_isC, c_issC, c_ssC, c_bsC, c_anyC, c_nilC, c_arrTs, c_arrIs, c_arrIss, c_arrSs, c_arrBs, ik_self, nb_self, cond_true, cond_false, rTerm_tm, T.eta, mk_k, mk_n, mk_kids, Option.bind_none, Bool.not_true, Bool.not_false, Bool.true_and, Bool.and_true, Bool.and_false, Bool.false_and, Bool.and_self, decide_true, decide_false]) | ((with_reducible refine tot_some ?_); (exact ⟨.mk 7 0 [], _, rfl, by simp only [T.size, T.sizeL]; omega, hr.mono (by omega)⟩)) | ((with_reducible refine tot_some ?_); (exact ⟨.mk 1 _ [], _, rfl, by simp only [T.size, T.sizeL]; omega, hr.mono (by omega)⟩)) | ((with_reducible refine tot_some ?_); (exact ⟨.mk 5 0 [.mk 4 0 [.mk 6 0 [], _], _], _, rfl, by simp only [T.size, T.sizeL]; omega, hr.mono (by omega)⟩)) | ((with_reducible refine tot_some ?_); (exact ⟨.mk 9 0 [.mk 4 0 [.mk 6 0 [], .mk 6 0 []], _, .mk 4 0 [.mk 6 0 [], .mk 4 0 [.mk 6 0 [], _]], _], _, rfl, by simp only [T.size, T.sizeL]; omega, hr.mono (by omega)⟩)) | ((with_reducible refine tot_some ?_); (exact ⟨.mk _ 0 [.mk 14 0 [.mk 13 0 [.mk 6 0 [], .mk 6 0 []], _, _]], _, rfl, by simp only [T.size, T.sizeL]; omega, hr.mono (by omega)⟩)) | ((with_reducible refine tot_some ?_); (exact ⟨.mk 12 0 [.mk 4 0 [.mk 6 0 [], .mk 6 0 []], .mk 11 0 [_], _], _, rfl, by simp only [T.size, T.sizeL]; omega, hr.mono (by omega)⟩)) | ((with_reducible refine tot_some ?_); (exact ⟨.mk 8 0 [_], _, rfl, by simp only [T.size, T.sizeL]; omega, hr.mono (by omega)⟩)) | ((with_reducible refine tot_some ?_); (exact ⟨_, _, rfl, by omega, hr.mono (by omega)⟩)))
/-- The reference reads every text of a list; at least one is read if the list holds one that it reads. -/
theorem read_loop (n : Nat) (hn : 7000 ≤ n) (ss : List ByteArray) (hs : ∀ s ∈ ss, s.size ≤ 300) (hl : ss.length ≤ 1000) : ∀ (g c i : Nat) (acc : List T), g < c → i + g = ss.length → acc.length ≤ i → (∀ t ∈ acc, validB t = true) →
    Tot (L_spec_l5Read_0 n c ss i acc) (fun r => ∃ ts, r = ([tms ts], []) ∧ (∀ t ∈ ts, validB t = true) ∧ ts.length ≤ ss.length ∧ acc.length ≤ ts.length ∧ ((∃ s ∈ ss.drop i, ∀ k, readsB (FF (k + 200) 84 [st s] []) = true) → ts ≠ []))
  | g, 0, i, acc, hg, _, _, _ => by omega
  | 0, c + 1, i, acc, _, hi, ha, hz => by
    rw [L_spec_l5Read_0_eq, decide_eq_false (show ¬ (i : Int) < ss.length by omega), List.drop_of_length_le (by omega)]
    exact ⟨_, rfl, acc, rfl, hz, by omega, Nat.le_refl _, fun ⟨s, h, _⟩ => by cases h⟩
  | g + 1, c + 1, i, acc, hg, hi, ha, hz => by
    have hlt : i < ss.length := by omega
    have hsz := hs _ (List.getElem_mem hlt)
    rw [L_spec_l5Read_0_eq, decide_eq_true (show (i : Int) < ss.length by omega), decide_eq_true (show 0 ≤ (i : Int) by omega), Int.toNat_natCast, List.getElem?_eq_getElem hlt]
    simp only [cond_true, Option.bind_some]
    obtain ⟨r, e, t, b, rfl, hb1, hb2⟩ := t_ParseTerm (n := n) (s := ss[i]) (by omega) (by omega)
    have w : IntKind.i64.wrap ((i : Int) + 1) = ((i + 1 : Nat) : Int) := wrap64 (by omega)
    rw [e, w]
    simp only [Option.bind_some, c_rInt, c_rBool, c_rStr, c_rTs, c_rIs, c_rIss, c_rSs, c_rBs, c_rTerm, c_rOwnT, c_rOwn, c_rPtr, c_nilV, c_nilO, c_objC, c_dropC, c_intC, c_boolC, c_strC, c_tsC, c_isC, c_issC, c_ssC, c_bsC, c_anyC, c_nilC, c_arrTs, c_arrIs, c_arrIss, c_arrSs, c_arrBs, ik_self, nb_self, cond_true, cond_false, rTerm_tm, T.eta, mk_k, mk_n, mk_kids, Option.bind_none, Bool.not_true, Bool.not_false, Bool.true_and, Bool.and_true, Bool.and_false, Bool.false_and, Bool.and_self, decide_true, decide_false]
    rw [List.drop_eq_getElem_cons hlt]
    cases b with
    | true =>
      simp only [cond_true]
      rw [roomB_ok (by simp; omega), cond_true]
      refine tot_mono (read_loop n hn ss hs hl g c (i + 1) (acc ++ [t]) (by omega) (by omega) (by simp; omega) (fun u hu => ?_)) ?_
      · rcases List.mem_append.1 hu with h | h
        · exact hz u h
        · rw [List.mem_singleton.1 h]; exact hb1 rfl
      · rintro _ ⟨ts, rfl, h1, h2, h3, h4⟩
        simp only [List.length_append, List.length_cons, List.length_nil] at h3
        exact ⟨ts, rfl, h1, h2, by omega, fun _ h => by rw [h] at h3; simp at h3⟩
    | false =>
      simp only [cond_false]
      refine tot_mono (read_loop n hn ss hs hl g c (i + 1) acc (by omega) (by omega) (by omega) hz) ?_
      rintro _ ⟨ts, rfl, h1, h2, h3, h4⟩
      refine ⟨ts, rfl, h1, h2, h3, fun ⟨s, hs', hr⟩ => ?_⟩
      rcases List.mem_cons.1 hs' with rfl | h
      · have := hr (n - 200)
        rw [show n - 200 + 200 = n by omega, e] at this
        cases this
      · exact h4 ⟨s, h, hr⟩
theorem t_l5Read {n : Nat} (hn : 7100 ≤ n) (ss : List ByteArray) (hs : ∀ s ∈ ss, s.size ≤ 300) (hl : ss.length ≤ 1000) :
    Tot (FF n 93 [.one (.fr (.ss ss))] []) (fun r => ∃ ts, r = ([tms ts], []) ∧ (∀ t ∈ ts, validB t = true) ∧ ts.length ≤ ss.length ∧ ((∃ s ∈ ss, ∀ k, readsB (FF (k + 200) 84 [st s] []) = true) → ts ≠ [])) := by
  refine tot_step (C := 7099) (by omega) fun n hn e => ?_
  rw [E_spec_l5Read]
  refine tot_mono (read_loop n (by omega) ss hs hl ss.length n 0 [] (by omega) (by omega) (by simp) (by simp)) ?_
  rintro _ ⟨ts, rfl, h1, h2, h3, h4⟩
  exact ⟨ts, rfl, h1, h2, by simpa using h4⟩
theorem t_l5Pairs {n : Nat} (hn : 1 ≤ n) (v : Int) : Tot (FF n 92 [nt v] []) (fun r => ∃ a b, r = ([.one (.fr (.ss a)), .one (.fr (.ss b))], []) ∧ (∀ s ∈ a, s.size ≤ 300) ∧ (∀ s ∈ b, s.size ≤ 300) ∧ a.length ≤ 6 ∧ b.length ≤ 100 ∧ ∃ s ∈ b, ∀ k, readsB (FF (k + 200) 84 [st s] []) = true) := by
  refine tot_step (C := 0) (by omega) fun n hn e => ?_
  rw [E_spec_l5Pairs]
  refine tot_cond (fun _ => ⟨_, rfl, _, _, rfl, all_small _ (by decide +kernel), all_small _ (by decide +kernel), by simp, by simp, _, ?_, reads2⟩) (fun _ => ?_)
  · simp
  refine tot_cond (fun _ => ⟨_, rfl, _, _, rfl, all_small _ (by decide +kernel), all_small _ (by decide +kernel), by simp, by simp, _, ?_, reads1⟩) (fun _ => ?_)
  · simp
  refine tot_cond (fun _ => ⟨_, rfl, _, _, rfl, all_small _ (by decide +kernel), all_small _ (by decide +kernel), by simp, by simp, _, ?_, reads0⟩) (fun _ => ⟨_, rfl, _, _, rfl, all_small _ (by decide +kernel), all_small _ (by decide +kernel), by simp, by simp, _, ?_, reads3⟩)
  · simp
  · simp
/-- A drawn context and a drawn term. -/
abbrev IsCtx (l : List UInt8) (m : Int) (r : List V1 × List AObj) : Prop := ∃ (g : List T) (t : T) (p : Int), r = ([tms g, tm t], [rdr l p]) ∧ validB t = true ∧ (∀ u ∈ g, validB u = true) ∧ g.length ≤ 6 ∧ RdOk l p m
theorem draw5_loop (n : Nat) (hn : 20000 ≤ n) (l : List UInt8) (z1 z2 : Int) (l0 : List T) (v : Nat) (hv : v ≤ 2) : ∀ (g c i : Nat) (p m : Int) (acc : List T), g < c → i + g = v → RdOk l p m → m ≤ 1000 → acc.length = i → (∀ u ∈ acc, validB u = true) →
    Tot (L_spec_l5Draw_0_fo n c v i l p z1 z2 l0 acc) (IsCtx l 1000000)
  | g, 0, i, p, m, acc, hg, _, _, _, _, _ => by omega
  | 0, c + 1, i, p, m, acc, _, hi, hr, hm, ha, hz => by
    rw [L_spec_l5Draw_0_fo_eq, decide_eq_false (show ¬ (i : Int) < v by omega), cond_false]
    refine tot_call (t_num (by omega) hr (by omega) (by simp) (by simp)) ?_
    rintro _ ⟨w, p, rfl, hw, hr⟩
    simp only [Option.bind_some, c_rInt, c_rBool, c_rStr, c_rTs, c_rIs, c_rIss, c_rSs, c_rBs, c_rTerm, c_rOwnT, c_rOwn, c_rPtr, c_nilV, c_nilO, c_objC, c_dropC, c_intC, c_boolC, c_strC, c_tsC, c_isC, c_issC, c_ssC, c_bsC, c_anyC, c_nilC, c_arrTs, c_arrIs, c_arrIss, c_arrSs, c_arrBs, ik_self, nb_self, cond_true, cond_false, rTerm_tm, T.eta, mk_k, mk_n, mk_kids, Option.bind_none, Bool.not_true, Bool.not_false, Bool.true_and, Bool.and_true, Bool.and_false, Bool.false_and, Bool.and_self, decide_true, decide_false]
    have hw4 : 0 ≤ w ∧ w ≤ 4 := by
      simp only [List.mem_cons, List.not_mem_nil, or_false] at hw
      omega
    have e0 : szN 4 = 401 := by decide
    have e1 : rdN 4 = 242 := by decide
    refine tot_call (t_l5Nat 4 (by omega) (by omega) (by omega) hr (by omega)) ?_
    rintro _ ⟨t, p, rfl, hz2, hr⟩
    simp only [Option.bind_some, c_rInt, c_rBool, c_rStr, c_rTs, c_rIs, c_rIss, c_rSs, c_rBs, c_rTerm, c_rOwnT, c_rOwn, c_rPtr, c_nilV, c_nilO, c_objC, c_dropC, c_intC, c_boolC, c_strC, c_tsC, c_isC, c_issC, c_ssC, c_bsC, c_anyC, c_nilC, c_arrTs, c_arrIs, c_arrIss, c_arrSs, c_arrBs, ik_self, nb_self, cond_true, cond_false, rTerm_tm, T.eta, mk_k, mk_n, mk_kids, Option.bind_none, Bool.not_true, Bool.not_false, Bool.true_and, Bool.and_true, Bool.and_false, Bool.false_and, Bool.and_self, decide_true, decide_false]
    rw [f_TermValidS (show t.size + 6 ≤ n by omega) (by omega)]
    simp only [Option.bind_some, c_rInt, c_rBool, c_rStr, c_rTs, c_rIs, c_rIss, c_rSs, c_rBs, c_rTerm, c_rOwnT, c_rOwn, c_rPtr, c_nilV, c_nilO, c_objC, c_dropC, c_intC, c_boolC, c_strC, c_tsC, c_isC, c_issC, c_ssC, c_bsC, c_anyC, c_nilC, c_arrTs, c_arrIs, c_arrIss, c_arrSs, c_arrBs, ik_self, nb_self, cond_true, cond_false, rTerm_tm, T.eta, mk_k, mk_n, mk_kids, Option.bind_none, Bool.not_true, Bool.not_false, Bool.true_and, Bool.and_true, Bool.and_false, Bool.false_and, Bool.and_self, decide_true, decide_false]
    refine tot_cond (fun hq => tot_some ⟨acc, t, p, rfl, hq, hz, by omega, hr.mono (by omega)⟩) (fun _ => ?_)
    refine tot_call (t_pick (by omega) hr (by omega) (by omega)) ?_
    rintro _ ⟨w, p, rfl, hw, hw2, hr⟩
    simp only [Option.bind_some, c_rInt, c_rBool, c_rStr, c_rTs, c_rIs, c_rIss, c_rSs, c_rBs, c_rTerm, c_rOwnT, c_rOwn, c_rPtr, c_nilV, c_nilO, c_objC, c_dropC, c_intC, c_boolC, c_strC, c_tsC, c_isC, c_issC, c_ssC, c_bsC, c_anyC, c_nilC, c_arrTs, c_arrIs, c_arrIss, c_arrSs, c_arrBs, ik_self, nb_self, cond_true, cond_false, rTerm_tm, T.eta, mk_k, mk_n, mk_kids, Option.bind_none, Bool.not_true, Bool.not_false, Bool.true_and, Bool.and_true, Bool.and_false, Bool.false_and, Bool.and_self, decide_true, decide_false]
    refine tot_call (t_l5Pairs (by omega) w) ?_
    rintro _ ⟨a, b, rfl, ha1, hb1, ha2, hb2, hx⟩
    simp only [Option.bind_some, c_rInt, c_rBool, c_rStr, c_rTs, c_rIs, c_rIss, c_rSs, c_rBs, c_rTerm, c_rOwnT, c_rOwn, c_rPtr, c_nilV, c_nilO, c_objC, c_dropC, c_intC, c_boolC, c_strC, c_tsC, c_isC, c_issC, c_ssC, c_bsC, c_anyC, c_nilC, c_arrTs, c_arrIs, c_arrIss, c_arrSs, c_arrBs, ik_self, nb_self, cond_true, cond_false, rTerm_tm, T.eta, mk_k, mk_n, mk_kids, Option.bind_none, Bool.not_true, Bool.not_false, Bool.true_and, Bool.and_true, Bool.and_false, Bool.false_and, Bool.and_self, decide_true, decide_false]
    refine tot_call (t_l5Read (by omega) b hb1 (by omega)) ?_
    rintro _ ⟨ts, rfl, ht1, ht2, ht3⟩
    simp only [Option.bind_some, c_rInt, c_rBool, c_rStr, c_rTs, c_rIs, c_rIss, c_rSs, c_rBs, c_rTerm, c_rOwnT, c_rOwn, c_rPtr, c_nilV, c_nilO, c_objC, c_dropC, c_intC, c_boolC, c_strC, c_tsC, c_isC, c_issC, c_ssC, c_bsC, c_anyC, c_nilC, c_arrTs, c_arrIs, c_arrIss, c_arrSs, c_arrBs, ik_self, nb_self, cond_true, cond_false, rTerm_tm, T.eta, mk_k, mk_n, mk_kids, Option.bind_none, Bool.not_true, Bool.not_false, Bool.true_and, Bool.and_true, Bool.and_false, Bool.false_and, Bool.and_self, decide_true, decide_false]
    refine tot_call (t_l5Read (by omega) a ha1 (by omega)) ?_
    rintro _ ⟨gs, rfl, hg1, hg2, hg3⟩
    simp only [Option.bind_some, c_rInt, c_rBool, c_rStr, c_rTs, c_rIs, c_rIss, c_rSs, c_rBs, c_rTerm, c_rOwnT, c_rOwn, c_rPtr, c_nilV, c_nilO, c_objC, c_dropC, c_intC, c_boolC, c_strC, c_tsC, c_isC, c_issC, c_ssC, c_bsC, c_anyC, c_nilC, c_arrTs, c_arrIs, c_arrIss, c_arrSs, c_arrBs, ik_self, nb_self, cond_true, cond_false, rTerm_tm, T.eta, mk_k, mk_n, mk_kids, Option.bind_none, Bool.not_true, Bool.not_false, Bool.true_and, Bool.and_true, Bool.and_false, Bool.false_and, Bool.and_self, decide_true, decide_false]
    have hpos := List.length_pos_iff.2 (ht3 hx)
    refine tot_call (t_pick (by omega) hr (by omega) (by omega)) ?_
    rintro _ ⟨w, p, rfl, hw, hw2, hr⟩
    have hw2 := hw2 (by omega)
    have hlt : w.toNat < ts.length := by omega
    simp only [Option.bind_some, c_rInt, c_rBool, c_rStr, c_rTs, c_rIs, c_rIss, c_rSs, c_rBs, c_rTerm, c_rOwnT, c_rOwn, c_rPtr, c_nilV, c_nilO, c_objC, c_dropC, c_intC, c_boolC, c_strC, c_tsC, c_isC, c_issC, c_ssC, c_bsC, c_anyC, c_nilC, c_arrTs, c_arrIs, c_arrIss, c_arrSs, c_arrBs, ik_self, nb_self, cond_true, cond_false, rTerm_tm, T.eta, mk_k, mk_n, mk_kids, Option.bind_none, Bool.not_true, Bool.not_false, Bool.true_and, Bool.and_true, Bool.and_false, Bool.false_and, Bool.and_self, decide_true, decide_false]
    rw [decide_eq_true hw, cond_true, List.getElem?_eq_getElem hlt]
    exact tot_some ⟨gs, ts[w.toNat], p, rfl, ht1 _ (List.getElem_mem hlt), hg1, by omega, hr.mono (by omega)⟩
  | g + 1, c + 1, i, p, m, acc, hg, hi, hr, hm, ha, hz => by
    rw [L_spec_l5Draw_0_fo_eq, decide_eq_true (show (i : Int) < v by omega), cond_true, f_l1Leaf (show 1 ≤ n by omega)]
    simp only [Option.bind_some, c_rInt, c_rBool, c_rStr, c_rTs, c_rIs, c_rIss, c_rSs, c_rBs, c_rTerm, c_rOwnT, c_rOwn, c_rPtr, c_nilV, c_nilO, c_objC, c_dropC, c_intC, c_boolC, c_strC, c_tsC, c_isC, c_issC, c_ssC, c_bsC, c_anyC, c_nilC, c_arrTs, c_arrIs, c_arrIss, c_arrSs, c_arrBs, ik_self, nb_self, cond_true, cond_false, rTerm_tm, T.eta, mk_k, mk_n, mk_kids, Option.bind_none, Bool.not_true, Bool.not_false, Bool.true_and, Bool.and_true, Bool.and_false, Bool.false_and, Bool.and_self, decide_true, decide_false]
    have w : IntKind.i64.wrap ((i : Int) + 1) = ((i + 1 : Nat) : Int) := wrap64 (by omega)
    rw [roomB_ok (by simp; omega), cond_true, w]
    have six : validB (.mk 6 0 []) = true := by decide +kernel
    have nx := draw5_loop n hn l z1 z2 l0 v hv g c (i + 1) p m (acc ++ [.mk 6 0 []]) (by omega) (by omega) hr hm (by simp; omega) (by
      intro u hu
      rcases List.mem_append.1 hu with h | h
      · exact hz u h
      · rw [List.mem_singleton.1 h]; exact six)
    with_reducible exact nx
theorem t_l5Draw {n : Nat} (hn : 20001 ≤ n) {l : List UInt8} {p m : Int} (hr : RdOk l p m) (hm : m ≤ 100) : Tot (FF n 59 [.one (.ptr 0 0)] [rdr l p]) (IsCtx l 1000000) := by
  refine tot_step (C := 20000) (by omega) fun n hn e => ?_
  rw [E_spec_l5Draw]
  refine tot_call (t_pick (by omega) hr (by omega) (by omega)) ?_
  rintro _ ⟨w, p, rfl, hw, hw2, hr⟩
  simp only [Option.bind_some, c_rInt, c_rBool, c_rStr, c_rTs, c_rIs, c_rIss, c_rSs, c_rBs, c_rTerm, c_rOwnT, c_rOwn, c_rPtr, c_nilV, c_nilO, c_objC, c_dropC, c_intC, c_boolC, c_strC, c_tsC, c_isC, c_issC, c_ssC, c_bsC, c_anyC, c_nilC, c_arrTs, c_arrIs, c_arrIss, c_arrSs, c_arrBs, ik_self, nb_self, cond_true, cond_false, rTerm_tm, T.eta, mk_k, mk_n, mk_kids, Option.bind_none, Bool.not_true, Bool.not_false, Bool.true_and, Bool.and_true, Bool.and_false, Bool.false_and, Bool.and_self, decide_true, decide_false]
  refine tot_cond (fun _ => ?_) (fun _ => ?_)
  · refine tot_call (t_num (by omega) hr (by omega) (by simp) (by simp)) ?_
    rintro _ ⟨w, p, rfl, hw, hr⟩
    simp only [Option.bind_some, c_rInt, c_rBool, c_rStr, c_rTs, c_rIs, c_rIss, c_rSs, c_rBs, c_rTerm, c_rOwnT, c_rOwn, c_rPtr, c_nilV, c_nilO, c_objC, c_dropC, c_intC, c_boolC, c_strC, c_tsC, c_isC, c_issC, c_ssC, c_bsC, c_anyC, c_nilC, c_arrTs, c_arrIs, c_arrIss, c_arrSs, c_arrBs, ik_self, nb_self, cond_true, cond_false, rTerm_tm, T.eta, mk_k, mk_n, mk_kids, Option.bind_none, Bool.not_true, Bool.not_false, Bool.true_and, Bool.and_true, Bool.and_false, Bool.false_and, Bool.and_self, decide_true, decide_false]
    obtain ⟨v, rfl, hv⟩ : ∃ v : Nat, w = v ∧ v ≤ 2 := by
      simp only [List.mem_cons, List.not_mem_nil, or_false] at hw
      exact ⟨w.toNat, by omega, by omega⟩
    exact draw5_loop n hn l 0 0 [] v hv v n 0 p _ [] (by omega) (by omega) hr (by omega) rfl (by simp)
  · refine tot_call (t_pick (by omega) hr (by omega) (by omega)) ?_
    rintro _ ⟨w, p, rfl, hw, hw2, hr⟩
    simp only [Option.bind_some, c_rInt, c_rBool, c_rStr, c_rTs, c_rIs, c_rIss, c_rSs, c_rBs, c_rTerm, c_rOwnT, c_rOwn, c_rPtr, c_nilV, c_nilO, c_objC, c_dropC, c_intC, c_boolC, c_strC, c_tsC, c_isC, c_issC, c_ssC, c_bsC, c_anyC, c_nilC, c_arrTs, c_arrIs, c_arrIss, c_arrSs, c_arrBs, ik_self, nb_self, cond_true, cond_false, rTerm_tm, T.eta, mk_k, mk_n, mk_kids, Option.bind_none, Bool.not_true, Bool.not_false, Bool.true_and, Bool.and_true, Bool.and_false, Bool.false_and, Bool.and_self, decide_true, decide_false]
    refine tot_call (t_l5Pairs (by omega) w) ?_
    rintro _ ⟨a, b, rfl, ha1, hb1, ha2, hb2, hx⟩
    simp only [Option.bind_some, c_rInt, c_rBool, c_rStr, c_rTs, c_rIs, c_rIss, c_rSs, c_rBs, c_rTerm, c_rOwnT, c_rOwn, c_rPtr, c_nilV, c_nilO, c_objC, c_dropC, c_intC, c_boolC, c_strC, c_tsC, c_isC, c_issC, c_ssC, c_bsC, c_anyC, c_nilC, c_arrTs, c_arrIs, c_arrIss, c_arrSs, c_arrBs, ik_self, nb_self, cond_true, cond_false, rTerm_tm, T.eta, mk_k, mk_n, mk_kids, Option.bind_none, Bool.not_true, Bool.not_false, Bool.true_and, Bool.and_true, Bool.and_false, Bool.false_and, Bool.and_self, decide_true, decide_false]
    refine tot_call (t_l5Read (by omega) b hb1 (by omega)) ?_
    rintro _ ⟨ts, rfl, ht1, ht2, ht3⟩
    simp only [Option.bind_some, c_rInt, c_rBool, c_rStr, c_rTs, c_rIs, c_rIss, c_rSs, c_rBs, c_rTerm, c_rOwnT, c_rOwn, c_rPtr, c_nilV, c_nilO, c_objC, c_dropC, c_intC, c_boolC, c_strC, c_tsC, c_isC, c_issC, c_ssC, c_bsC, c_anyC, c_nilC, c_arrTs, c_arrIs, c_arrIss, c_arrSs, c_arrBs, ik_self, nb_self, cond_true, cond_false, rTerm_tm, T.eta, mk_k, mk_n, mk_kids, Option.bind_none, Bool.not_true, Bool.not_false, Bool.true_and, Bool.and_true, Bool.and_false, Bool.false_and, Bool.and_self, decide_true, decide_false]
    refine tot_call (t_l5Read (by omega) a ha1 (by omega)) ?_
    rintro _ ⟨gs, rfl, hg1, hg2, hg3⟩
    simp only [Option.bind_some, c_rInt, c_rBool, c_rStr, c_rTs, c_rIs, c_rIss, c_rSs, c_rBs, c_rTerm, c_rOwnT, c_rOwn, c_rPtr, c_nilV, c_nilO, c_objC, c_dropC, c_intC, c_boolC, c_strC, c_tsC, c_isC, c_issC, c_ssC, c_bsC, c_anyC, c_nilC, c_arrTs, c_arrIs, c_arrIss, c_arrSs, c_arrBs, ik_self, nb_self, cond_true, cond_false, rTerm_tm, T.eta, mk_k, mk_n, mk_kids, Option.bind_none, Bool.not_true, Bool.not_false, Bool.true_and, Bool.and_true, Bool.and_false, Bool.false_and, Bool.and_self, decide_true, decide_false]
    have hpos := List.length_pos_iff.2 (ht3 hx)
    refine tot_call (t_pick (by omega) hr (by omega) (by omega)) ?_
    rintro _ ⟨w, p, rfl, hw, hw2, hr⟩
    have hw2 := hw2 (by omega)
    have hlt : w.toNat < ts.length := by omega
    simp only [Option.bind_some, c_rInt, c_rBool, c_rStr, c_rTs, c_rIs, c_rIss, c_rSs, c_rBs, c_rTerm, c_rOwnT, c_rOwn, c_rPtr, c_nilV, c_nilO, c_objC, c_dropC, c_intC, c_boolC, c_strC, c_tsC, c_isC, c_issC, c_ssC, c_bsC, c_anyC, c_nilC, c_arrTs, c_arrIs, c_arrIss, c_arrSs, c_arrBs, ik_self, nb_self, cond_true, cond_false, rTerm_tm, T.eta, mk_k, mk_n, mk_kids, Option.bind_none, Bool.not_true, Bool.not_false, Bool.true_and, Bool.and_true, Bool.and_false, Bool.false_and, Bool.and_self, decide_true, decide_false]
    rw [decide_eq_true hw, cond_true, List.getElem?_eq_getElem hlt]
    exact tot_some ⟨gs, ts[w.toNat], p, rfl, ht1 _ (List.getElem_mem hlt), hg1, by omega, hr.mono (by omega)⟩
theorem over_size_le {g : List T} {t : T} (ht : t.size ≤ 400) : (overR g t).1.size ≤ 5000 := by
  unfold overR
  split
  · rename_i hh
    rw [Bool.and_eq_true] at hh
    unfold okT
    split
    · exact over_bound hh.2 hh.1
    · exact (by decide +kernel : (T.mk 0 0 []).size ≤ 5000)
  · exact (by decide +kernel : (T.mk 0 0 []).size ≤ 5000)
theorem t_DrawSplitPi {n : Nat} (hn : 3000000 ≤ n) (l : List UInt8) : Tot (FF n 23 [.one (.fr (.bs l))] []) (fun r => ∃ (t : T) (k : Int), r = ([tm t, nt k], []) ∧ t.size ≤ 10000) := by
  refine tot_step (C := 2999999) (by omega) fun n hn e => ?_
  rw [E_spec_DrawSplitPi]
  refine tot_call (t_open (by omega) l) ?_
  rintro _ ⟨l', rfl, hr⟩
  simp only [Option.bind_some, c_rInt, c_rBool, c_rStr, c_rTs, c_rIs, c_rIss, c_rSs, c_rBs, c_rTerm, c_rOwnT, c_rOwn, c_rPtr, c_nilV, c_nilO, c_objC, c_dropC, c_intC, c_boolC, c_strC, c_tsC, c_isC, c_issC, c_ssC, c_bsC, c_anyC, c_nilC, c_arrTs, c_arrIs, c_arrIss, c_arrSs, c_arrBs, ik_self, nb_self, cond_true, cond_false, rTerm_tm, T.eta, mk_k, mk_n, mk_kids, Option.bind_none, Bool.not_true, Bool.not_false, Bool.true_and, Bool.and_true, Bool.and_false, Bool.false_and, Bool.and_self, decide_true, decide_false]
  refine tot_call (t_l5Draw (by omega) hr (by omega)) ?_
  rintro _ ⟨gs, t, p, rfl, hv, hg, hgl, hr⟩
  simp only [Option.bind_some, c_rInt, c_rBool, c_rStr, c_rTs, c_rIs, c_rIss, c_rSs, c_rBs, c_rTerm, c_rOwnT, c_rOwn, c_rPtr, c_nilV, c_nilO, c_objC, c_dropC, c_intC, c_boolC, c_strC, c_tsC, c_isC, c_issC, c_ssC, c_bsC, c_anyC, c_nilC, c_arrTs, c_arrIs, c_arrIss, c_arrSs, c_arrBs, ik_self, nb_self, cond_true, cond_false, rTerm_tm, T.eta, mk_k, mk_n, mk_kids, Option.bind_none, Bool.not_true, Bool.not_false, Bool.true_and, Bool.and_true, Bool.and_false, Bool.false_and, Bool.and_self, decide_true, decide_false]
  have hz := validB_size hv
  have hgz : ∀ u ∈ gs, u.size ≤ 1000000 := fun u hu => by have := validB_size (hg u hu); omega
  have hb := over_size_le (g := gs) hz
  rw [f_PiOverS (by omega) (by omega) (by omega) hgz]
  simp only [Option.bind_some, c_rInt, c_rBool, c_rStr, c_rTs, c_rIs, c_rIss, c_rSs, c_rBs, c_rTerm, c_rOwnT, c_rOwn, c_rPtr, c_nilV, c_nilO, c_objC, c_dropC, c_intC, c_boolC, c_strC, c_tsC, c_isC, c_issC, c_ssC, c_bsC, c_anyC, c_nilC, c_arrTs, c_arrIs, c_arrIss, c_arrSs, c_arrBs, ik_self, nb_self, cond_true, cond_false, rTerm_tm, T.eta, mk_k, mk_n, mk_kids, Option.bind_none, Bool.not_true, Bool.not_false, Bool.true_and, Bool.and_true, Bool.and_false, Bool.false_and, Bool.and_self, decide_true, decide_false]
  generalize hu : (overR gs t).1 = u at hb
  repeat' (first | (simp (disch := omega) only [wrap64]; done) | (simp (disch := omega) only [wrap64]) | (with_reducible refine tot_cond (fun hq => ?_) (fun hq => ?_) <;> (try simp (disch := omega) only [wrap64] at hq) <;> (try simp only [decide_eq_true_eq, decide_eq_false_iff_not, Bool.not_eq_true', Bool.not_eq_false', Bool.and_eq_true, Bool.and_eq_false_iff, inB, Bool.not_true, Bool.not_false] at hq) <;> try (exfalso; omega; done)) | (with_reducible refine tot_call (t_pick (by omega) hr (by omega) (by omega)) ?_; rintro _ ⟨w, p, rfl, hw, hw2, hr⟩; simp only [Option.bind_some, c_rInt, c_rBool, c_rStr, c_rTs, c_rIs, c_rIss, c_rSs, c_rBs, c_rTerm, c_rOwnT, c_rOwn, c_rPtr, c_nilV, c_nilO, c_objC, c_dropC, c_intC, c_boolC, c_strC, c_tsC, c_isC, c_issC, c_ssC, c_bsC, c_anyC, c_nilC, c_arrTs, c_arrIs, c_arrIss, c_arrSs, c_arrBs, ik_self, nb_self, cond_true, cond_false, rTerm_tm, T.eta, mk_k, mk_n, mk_kids, Option.bind_none, Bool.not_true, Bool.not_false, Bool.true_and, Bool.and_true, Bool.and_false, Bool.false_and, Bool.and_self, decide_true, decide_false]) | (with_reducible refine tot_call (t_l1Any (by omega) hr (by omega)) ?_; rintro _ ⟨x, p, rfl, hxv, hr⟩; simp only [Option.bind_some, c_rInt, c_rBool, c_rStr, c_rTs, c_rIs, c_rIss, c_rSs, c_rBs, c_rTerm, c_rOwnT, c_rOwn, c_rPtr, c_nilV, c_nilO, c_objC, c_dropC, c_intC, c_boolC, c_strC, c_tsC, c_isC, c_issC, c_ssC, c_bsC, c_anyC, c_nilC, c_arrTs, c_arrIs, c_arrIss, c_arrSs, c_arrBs, ik_self, nb_self, cond_true, cond_false, rTerm_tm, T.eta, mk_k, mk_n, mk_kids, Option.bind_none, Bool.not_true, Bool.not_false, Bool.true_and, Bool.and_true, Bool.and_false, Bool.false_and, Bool.and_self, decide_true, decide_false]) | (with_reducible refine tot_call (t_l1Mutate (t := _) (by first | omega | (have := validB_size hxv; omega)) (by first | omega | (have := validB_size hxv; omega)) hr (by omega)) ?_; rintro _ ⟨y, p, rfl, hy, hr⟩; simp only [Option.bind_some, c_rInt, c_rBool, c_rStr, c_rTs, c_rIs, c_rIss, c_rSs, c_rBs, c_rTerm, c_rOwnT, c_rOwn, c_rPtr, c_nilV, c_nilO, c_objC, c_dropC, c_intC, c_boolC, c_strC, c_tsC, c_isC, c_issC, c_ssC, c_bsC, c_anyC, c_nilC, c_arrTs, c_arrIs, c_arrIss, c_arrSs, c_arrBs, ik_self, nb_self, cond_true, cond_false, rTerm_tm, T.eta, mk_k, mk_n, mk_kids, Option.bind_none, Bool.not_true, Bool.not_false, Bool.true_and, Bool.and_true, Bool.and_false, Bool.false_and, Bool.and_self, decide_true, decide_false]) | (with_reducible refine tot_call (t_num (by omega) hr (by omega) (by simp) (by simp)) ?_; rintro _ ⟨w, p, rfl, hw, hr⟩; simp only [Option.bind_some, c_rInt, c_rBool, c_rStr, c_rTs, c_rIs, c_rIss, c_rSs, c_rBs, c_rTerm, c_rOwnT, c_rOwn, c_rPtr, c_nilV, c_nilO, c_objC, c_dropC, c_intC, c_boolC, c_strC, c_tsC, c_isC, c_issC, c_ssC, c_bsC, c_anyC, c_nilC, c_arrTs, c_arrIs, c_arrIss, c_arrSs, c_arrBs, ik_self, nb_self, cond_true, cond_false, rTerm_tm, T.eta, mk_k, mk_n, mk_kids, Option.bind_none, Bool.not_true, Bool.not_false, Bool.true_and, Bool.and_true, Bool.and_false, Bool.false_and, Bool.and_self, decide_true, decide_false]) | ((with_reducible refine tot_some ?_); (exact ⟨_, _, rfl, by first | omega | (have := validB_size hxv; omega)⟩)))
end Go.Proofs.Ytmioieikbpemoaa
