/- Redexes and steps in the abstract run. -/
import Derived.Test.YtmioieikbpemoaaEvS
set_option linter.unusedVariables false
set_option linter.unusedSimpArgs false
namespace Go.Proofs.Ytmioieikbpemoaa
open Go Go.Ab Go.Dk
/-! The program's equality. -/
theorem eqf_loop (n : Nat) (ts us : List T) (hl : ts.length ≤ 1000000) (he : ts.length = us.length) (h : ∀ t ∈ ts, ∀ u, FF n 18 [tm t, tm u] [] = some ([bl (T.beq t u)], [])) :
    ∀ g m (i : Nat), g < m → i + g = ts.length → L_slices_EqualFunc_impl_TermSame_0 n m us ts ts.length i = some ([bl (T.beqL (ts.drop i) (us.drop i))], [])
  | g, 0, i, hg, _ => by omega
  | 0, m + 1, i, _, hi => by
    rw [L_slices_EqualFunc_impl_TermSame_0_eq, List.drop_of_length_le (by omega), List.drop_of_length_le (by omega)]
    simp only [cond_dec, if_neg (show ¬ (i : Int) < ts.length by omega), T.beqL]
  | g + 1, m + 1, i, hg, hi => by
    have hlt : i < ts.length := by omega
    have hlt2 : i < us.length := by omega
    rw [List.drop_eq_getElem_cons hlt, List.drop_eq_getElem_cons hlt2, T.beqL]
    rw [L_slices_EqualFunc_impl_TermSame_0_eq]; simp (disch := omega) only [Option.bind_some, c_rInt, c_rBool, c_rStr, c_rTs, c_rIs, c_rIss, c_rSs, c_rBs, c_rTerm, c_rOwnT, c_rOwn, c_rPtr, c_nilV, c_nilO, c_objC, c_dropC, c_intC, c_boolC, c_strC, c_tsC, c_isC, c_issC, c_ssC, c_bsC, c_anyC, c_nilC, c_arrTs, c_arrIs, c_arrIss, c_arrSs, c_arrBs, ik_self, nb_self, cond_true, cond_false, rTerm_tm, T.eta, mk_k, mk_n, mk_kids, Option.bind_none, Bool.not_true, Bool.not_false, Bool.true_and, Bool.and_true, Bool.and_false, Bool.false_and, Bool.and_self, decide_true, decide_false, cond_dec, Int.toNat_natCast, cast1, wrap64, roomB_ok, List.length_append, List.length_cons, List.length_nil, if_pos (show (i : Int) < ts.length by omega), if_pos (show 0 ≤ (i : Int) by omega), List.getElem?_eq_getElem hlt, List.getElem?_eq_getElem hlt2, h _ (List.getElem_mem hlt)]
    cases hs : T.beq ts[i] us[i] with
    | false => simp
    | true =>
      simp only [Bool.not_true, cond_false, Bool.true_and]
      exact eqf_loop n ts us hl he h g m (i + 1) (by omega) (by omega)
theorem f_TermSame (t : T) : ∀ {n : Nat}, 2 * t.size + 5 ≤ n → t.size ≤ 1000000 → ∀ u : T, FF n 18 [tm t, tm u] [] = some ([bl (T.beq t u)], []) := by
  induction t using T.ind with | h t ih =>
  intro n hn hz u
  have hsz := T.size_eq t
  have hl := T.sizeL_len t.kids
  obtain ⟨n, rfl⟩ := pos_succ (show 0 < n by omega)
  rw [E_impl_TermSame, T.beq_eq]
  by_cases c1 : t.k = u.k
  · by_cases c2 : t.n = u.n
    · obtain ⟨n, rfl⟩ := pos_succ (show 0 < n by omega)
      rw [E_slices_EqualFunc_impl_TermSame]
      by_cases c3 : t.kids.length = u.kids.length
      · have := eqf_loop n t.kids u.kids (by omega) c3 (fun v hv w => ih v hv (by have := T.sizeL_mem hv; omega) (by have := T.sizeL_mem hv; omega) w) t.kids.length n 0 (by omega) (by omega)
        rw [List.drop_zero, List.drop_zero] at this
        simp only [decide_eq_true c1, decide_eq_true c2, decide_eq_true (show (t.kids.length : Int) = u.kids.length by omega), Bool.not_true, cond_false, cond_true, Bool.true_and]
        rw [show (0 : Int) = ((0 : Nat) : Int) from rfl, this]
        simp only [Option.bind_some, c_rInt, c_rBool, c_rStr, c_rTs, c_rIs, c_rIss, c_rSs, c_rBs, c_rTerm, c_rOwnT, c_rOwn, c_rPtr, c_nilV, c_nilO, c_objC, c_dropC, c_intC, c_boolC, c_strC, c_tsC, c_isC, c_issC, c_ssC, c_bsC, c_anyC, c_nilC, c_arrTs, c_arrIs, c_arrIss, c_arrSs, c_arrBs, ik_self, nb_self, cond_true, cond_false]
      · simp only [decide_eq_true c1, decide_eq_true c2, decide_eq_false (show ¬ (t.kids.length : Int) = u.kids.length by omega), Bool.not_true, Bool.not_false, cond_false, cond_true, Bool.true_and, beqL_len c3, Option.bind_some, c_rInt, c_rBool, c_rStr, c_rTs, c_rIs, c_rIss, c_rSs, c_rBs, c_rTerm, c_rOwnT, c_rOwn, c_rPtr, c_nilV, c_nilO, c_objC, c_dropC, c_intC, c_boolC, c_strC, c_tsC, c_isC, c_issC, c_ssC, c_bsC, c_anyC, c_nilC, c_arrTs, c_arrIs, c_arrIss, c_arrSs, c_arrBs, ik_self, nb_self, cond_true, cond_false]
    · simp [c1, c2]
  · simp [c1]
/-! Redexes. -/
theorem kid_get {t : T} {i : Nat} (h : i < t.kids.length) : t.kids[i]? = some (kd t i) := by
  unfold kd; simp [List.getD, h]
theorem ops_len {t : T} (hv : validB t = true) {c : Nat} (h : opsOf t.k = c) : t.kids.length = c := by
  have := (validB_ops hv).1
  omega
theorem f_redexes {n : Nat} (hn : 1 ≤ n) {t : T} (hv : validB t = true) : FF n 97 [tm t] [] = some ([nt (redexT t)], []) ∧ FF n 101 [tm t] [] = some ([nt (redexT t)], []) := by
  obtain ⟨n, rfl⟩ := pos_succ (show 0 < n by omega)
  rw [E_impl_redex, E_spec_l3Redex]
  simp only [cond_dec, Int.toNat_zero, Int.reduceToNat]
  unfold redexT
  by_cases k5 : t.k = 5
  · have hl := ops_len hv (c := 2) (by rw [k5]; rfl)
    simp only [k5, if_true, kid_get (show 0 < t.kids.length by omega), Option.bind_some]
    constructor <;> split <;> rfl
  by_cases k9 : t.k = 9
  · have hl := ops_len hv (c := 4) (by rw [k9]; rfl)
    simp only [k9, if_true, kid_get (show 3 < t.kids.length by omega), Option.bind_some, show ¬ (9 : Int) = 5 by decide, if_false]
    constructor <;> (split; rfl; split <;> rfl)
  by_cases k12 : t.k = 12
  · have hl := ops_len hv (c := 3) (by rw [k12]; rfl)
    simp only [k12, if_true, kid_get (show 1 < t.kids.length by omega), Option.bind_some, show ¬ (12 : Int) = 5 by decide, show ¬ (12 : Int) = 9 by decide, if_false]
    constructor <;> split <;> rfl
  by_cases k15 : t.k = 15
  · have hl := ops_len hv (c := 1) (by rw [k15]; rfl)
    simp only [k15, if_true, kid_get (show 0 < t.kids.length by omega), Option.bind_some, show ¬ (15 : Int) = 5 by decide, show ¬ (15 : Int) = 9 by decide, show ¬ (15 : Int) = 12 by decide, if_false]
    constructor <;> split <;> rfl
  by_cases k16 : t.k = 16
  · have hl := ops_len hv (c := 1) (by rw [k16]; rfl)
    simp only [k16, if_true, kid_get (show 0 < t.kids.length by omega), Option.bind_some, show ¬ (16 : Int) = 5 by decide, show ¬ (16 : Int) = 9 by decide, show ¬ (16 : Int) = 12 by decide, show ¬ (16 : Int) = 15 by decide, if_false]
    constructor <;> split <;> rfl
  simp [k5, k9, k12, k15, k16]
theorem f_redex {n : Nat} (hn : 1 ≤ n) {t : T} (hv : validB t = true) : FF n 97 [tm t] [] = some ([nt (redexT t)], []) := (f_redexes hn hv).1
theorem f_l3Redex {n : Nat} (hn : 1 ≤ n) {t : T} (hv : validB t = true) : FF n 101 [tm t] [] = some ([nt (redexT t)], []) := (f_redexes hn hv).2
theorem valid_kd {t : T} (hv : validB t = true) {i c : Nat} (h : opsOf t.k = c) (hi : i < c) : validB (kd t i) = true := validB_kid hv (kd_mem (by rw [ops_len hv h]; exact hi))
/-- The size of a contractum. -/
theorem con_size {t : T} (hv : validB t = true) (hr : Rx t) : (contractT t).size ≤ 160000 := by
  have hz := validB_size hv
  have kz : ∀ {i c : Nat}, opsOf t.k = c → i < c → (kd t i).size ≤ 400 := fun h hi => validB_size (valid_kd hv h hi)
  cases hr with
  | app h h' =>
    rw [con_app h]
    have h0 := valid_kd hv (i := 0) (c := 2) (by rw [h]; rfl) (by omega)
    have h1 := validB_size (valid_kd h0 (i := 1) (c := 2) (by rw [h']; rfl) (by omega))
    have h2 := kz (i := 1) (c := 2) (by rw [h]; rfl) (by omega)
    exact Nat.le_trans (sb_size _ _ _ _) (Nat.mul_le_mul h1 h2)
  | zero h h' => rw [con_zero h h']; have := kz (i := 1) (c := 4) (by rw [h]; rfl) (by omega); omega
  | succ h h' =>
    rw [con_succ h h']
    have h0 := kz (i := 0) (c := 4) (by rw [h]; rfl) (by omega)
    have h1 := kz (i := 1) (c := 4) (by rw [h]; rfl) (by omega)
    have h2 := kz (i := 2) (c := 4) (by rw [h]; rfl) (by omega)
    have h3 := validB_size (valid_kd (valid_kd hv (i := 3) (c := 4) (by rw [h]; rfl) (by omega)) (i := 0) (c := 1) (by rw [h']; rfl) (by omega))
    simp only [T.size, T.sizeL]; omega
  | move h h' => rw [con_move h]; have := kz (i := 2) (c := 3) (by rw [h]; rfl) (by omega); omega
  | fst h h' => rw [con_fst h]; have := validB_size (valid_kd (valid_kd hv (i := 0) (c := 1) (by rw [h]; rfl) (by omega)) (i := 1) (c := 3) (by rw [h']; rfl) (by omega)); omega
  | snd h h' => rw [con_snd h]; have := validB_size (valid_kd (valid_kd hv (i := 0) (c := 1) (by rw [h]; rfl) (by omega)) (i := 2) (c := 3) (by rw [h']; rfl) (by omega)); omega
/-- A term, or the zero value if it is not valid. -/
def okT (t : T) : T := if validB t then t else .mk 0 0 []
theorem f_ownValid {n : Nat} {t : T} (hn : t.size + 10 ≤ n) (hz : t.size ≤ 1000000) : FF n 51 [tm t] [] = some ([tm t], []) ∧ FF n 50 [tm t] [] = some ([tm (okT t), bl (validB t)], []) :=
  ⟨f_own t (by omega) hz, f_valid (by omega)⟩
theorem f_contract {n : Nat} (hn : 3000000 ≤ n) {t : T} (hv : validB t = true) (hr : Rx t) : FF n 100 [tm t] [] = some ([tm (okT (contractT t)), bl (validB (contractT t))], []) := by
  have hcz := con_size hv hr
  obtain ⟨n, rfl⟩ := pos_succ (show 0 < n by omega)
  rw [E_impl_contract, f_redex (by omega) hv]
  have hrx := (rx_iff t).2 hr
  have gk : ∀ {i c : Nat}, opsOf t.k = c → i < c → t.kids[i]? = some (kd t i) := fun h hi => kid_get (by rw [ops_len hv h]; exact hi)
  have vk : ∀ {i c : Nat}, opsOf t.k = c → i < c → validB (kd t i) = true := fun h hi => valid_kd hv h hi
  simp only [Option.bind_some, c_rInt, c_rBool, c_rStr, c_rTs, c_rIs, c_rIss, c_rSs, c_rBs, c_rTerm, c_rOwnT, c_rOwn, c_rPtr, c_nilV, c_nilO, c_objC, c_dropC, c_intC, c_boolC, c_strC, c_tsC, c_isC, c_issC, c_ssC, c_bsC, c_anyC, c_nilC, c_arrTs, c_arrIs, c_arrIss, c_arrSs, c_arrBs, ik_self, nb_self, cond_true, cond_false, rTerm_tm, T.eta, mk_k, mk_n, mk_kids, Option.bind_none, Bool.not_true, Bool.not_false, Bool.true_and, Bool.and_true, Bool.and_false, Bool.false_and, Bool.and_self, decide_true, decide_false, cond_dec, Int.toNat_zero, Int.reduceToNat, Int.toNat_one]
  cases hr with
  | app h h' =>
    have e : redexT t = 1 := by simp [redexT, h, h']
    have h2 : opsOf t.k = (2 : Nat) := by rw [h]; rfl
    have v0 := vk (i := 0) h2 (by omega)
    have h3 : opsOf (kd t 0).k = (2 : Nat) := by rw [h']; rfl
    have v01 := valid_kd v0 (i := 1) h3 (by omega)
    have v1 := vk (i := 1) h2 (by omega)
    have hs := f_subst (n := n) (t := kd (kd t 0) 1) (u := kd t 1) (x := 0) (by omega) (gd_valid v01) (by have := validB_size v01; omega) (gd_valid v1) (by have := validB_size v1; omega) (by omega)
    simp only [e, if_true, gk (i := 0) h2 (by omega), gk (i := 1) h2 (by omega), kid_get (t := kd t 0) (i := 1) (by rw [ops_len v0 h3]; omega), hs, Option.bind_some, c_rInt, c_rBool, c_rStr, c_rTs, c_rIs, c_rIss, c_rSs, c_rBs, c_rTerm, c_rOwnT, c_rOwn, c_rPtr, c_nilV, c_nilO, c_objC, c_dropC, c_intC, c_boolC, c_strC, c_tsC, c_isC, c_issC, c_ssC, c_bsC, c_anyC, c_nilC, c_arrTs, c_arrIs, c_arrIss, c_arrSs, c_arrBs, ik_self, nb_self, cond_true, cond_false, rTerm_tm, T.eta, mk_k, mk_n, mk_kids, Option.bind_none, Bool.not_true, Bool.not_false, Bool.true_and, Bool.and_true, Bool.and_false, Bool.false_and, Bool.and_self, decide_true, decide_false, con_app h, sbR, okT]
  | zero h h' =>
    have e : redexT t = 2 := by simp [redexT, h, h']
    have h2 : opsOf t.k = (4 : Nat) := by rw [h]; rfl
    rw [con_zero h h'] at hcz ⊢
    have ho := f_ownValid (n := n) (t := kd t 1) (by omega) (by omega)
    simp only [e, if_true, gk (i := 1) h2 (by omega), ho, Option.bind_some, c_rInt, c_rBool, c_rStr, c_rTs, c_rIs, c_rIss, c_rSs, c_rBs, c_rTerm, c_rOwnT, c_rOwn, c_rPtr, c_nilV, c_nilO, c_objC, c_dropC, c_intC, c_boolC, c_strC, c_tsC, c_isC, c_issC, c_ssC, c_bsC, c_anyC, c_nilC, c_arrTs, c_arrIs, c_arrIss, c_arrSs, c_arrBs, ik_self, nb_self, cond_true, cond_false, rTerm_tm, T.eta, mk_k, mk_n, mk_kids, Option.bind_none, Bool.not_true, Bool.not_false, Bool.true_and, Bool.and_true, Bool.and_false, Bool.false_and, Bool.and_self, decide_true, decide_false, show ¬ (2 : Int) = 1 by decide, if_false]
  | succ h h' =>
    have e : redexT t = 3 := by simp [redexT, h, h']
    have h2 : opsOf t.k = (4 : Nat) := by rw [h]; rfl
    have v3 := vk (i := 3) h2 (by omega)
    have h3 : opsOf (kd t 3).k = (1 : Nat) := by rw [h']; rfl
    rw [con_succ h h'] at hcz ⊢
    have ho := f_ownValid (n := n) (t := T.mk 5 0 [.mk 5 0 [kd t 2, kd (kd t 3) 0], .mk 9 0 [kd t 0, kd t 1, kd t 2, kd (kd t 3) 0]]) (by omega) (by omega)
    simp (disch := omega) only [e, if_true, gk (i := 0) h2 (by omega), gk (i := 1) h2 (by omega), gk (i := 2) h2 (by omega), gk (i := 3) h2 (by omega), kid_get (t := kd t 3) (i := 0) (by rw [ops_len v3 h3]; omega), f_node, Option.bind_some, c_rInt, c_rBool, c_rStr, c_rTs, c_rIs, c_rIss, c_rSs, c_rBs, c_rTerm, c_rOwnT, c_rOwn, c_rPtr, c_nilV, c_nilO, c_objC, c_dropC, c_intC, c_boolC, c_strC, c_tsC, c_isC, c_issC, c_ssC, c_bsC, c_anyC, c_nilC, c_arrTs, c_arrIs, c_arrIss, c_arrSs, c_arrBs, ik_self, nb_self, cond_true, cond_false, rTerm_tm, T.eta, mk_k, mk_n, mk_kids, Option.bind_none, Bool.not_true, Bool.not_false, Bool.true_and, Bool.and_true, Bool.and_false, Bool.false_and, Bool.and_self, decide_true, decide_false, show ¬ (3 : Int) = 1 by decide, show ¬ (3 : Int) = 2 by decide, if_false]
    have h1 := ho.1
    have h2 := ho.2
    simp only [tm, mk_k, mk_n, mk_kids] at h1 h2
    simp only [h1, h2, Option.bind_some, c_rInt, c_rBool, c_rStr, c_rTs, c_rIs, c_rIss, c_rSs, c_rBs, c_rTerm, c_rOwnT, c_rOwn, c_rPtr, c_nilV, c_nilO, c_objC, c_dropC, c_intC, c_boolC, c_strC, c_tsC, c_isC, c_issC, c_ssC, c_bsC, c_anyC, c_nilC, c_arrTs, c_arrIs, c_arrIss, c_arrSs, c_arrBs, ik_self, nb_self, cond_true, cond_false, rTerm_tm, T.eta, mk_k, mk_n, mk_kids, Option.bind_none, Bool.not_true, Bool.not_false, Bool.true_and, Bool.and_true, Bool.and_false, Bool.false_and, Bool.and_self, decide_true, decide_false]
  | move h h' =>
    have e : redexT t = 4 := by simp [redexT, h, h']
    have h2 : opsOf t.k = (3 : Nat) := by rw [h]; rfl
    rw [con_move h] at hcz ⊢
    have ho := f_ownValid (n := n) (t := kd t 2) (by omega) (by omega)
    simp only [e, if_true, gk (i := 2) h2 (by omega), ho, Option.bind_some, c_rInt, c_rBool, c_rStr, c_rTs, c_rIs, c_rIss, c_rSs, c_rBs, c_rTerm, c_rOwnT, c_rOwn, c_rPtr, c_nilV, c_nilO, c_objC, c_dropC, c_intC, c_boolC, c_strC, c_tsC, c_isC, c_issC, c_ssC, c_bsC, c_anyC, c_nilC, c_arrTs, c_arrIs, c_arrIss, c_arrSs, c_arrBs, ik_self, nb_self, cond_true, cond_false, rTerm_tm, T.eta, mk_k, mk_n, mk_kids, Option.bind_none, Bool.not_true, Bool.not_false, Bool.true_and, Bool.and_true, Bool.and_false, Bool.false_and, Bool.and_self, decide_true, decide_false, show ¬ (4 : Int) = 1 by decide, show ¬ (4 : Int) = 2 by decide, show ¬ (4 : Int) = 3 by decide, if_false]
  | fst h h' =>
    have e : redexT t = 5 := by simp [redexT, h, h']
    have h2 : opsOf t.k = (1 : Nat) := by rw [h]; rfl
    have v0 := vk (i := 0) h2 (by omega)
    have h3 : opsOf (kd t 0).k = (3 : Nat) := by rw [h']; rfl
    rw [con_fst h] at hcz ⊢
    have ho := f_ownValid (n := n) (t := kd (kd t 0) 1) (by omega) (by omega)
    simp only [e, if_true, gk (i := 0) h2 (by omega), kid_get (t := kd t 0) (i := 1) (by rw [ops_len v0 h3]; omega), ho, Option.bind_some, c_rInt, c_rBool, c_rStr, c_rTs, c_rIs, c_rIss, c_rSs, c_rBs, c_rTerm, c_rOwnT, c_rOwn, c_rPtr, c_nilV, c_nilO, c_objC, c_dropC, c_intC, c_boolC, c_strC, c_tsC, c_isC, c_issC, c_ssC, c_bsC, c_anyC, c_nilC, c_arrTs, c_arrIs, c_arrIss, c_arrSs, c_arrBs, ik_self, nb_self, cond_true, cond_false, rTerm_tm, T.eta, mk_k, mk_n, mk_kids, Option.bind_none, Bool.not_true, Bool.not_false, Bool.true_and, Bool.and_true, Bool.and_false, Bool.false_and, Bool.and_self, decide_true, decide_false, show ¬ (5 : Int) = 1 by decide, show ¬ (5 : Int) = 2 by decide, show ¬ (5 : Int) = 3 by decide, show ¬ (5 : Int) = 4 by decide, if_false]
  | snd h h' =>
    have e : redexT t = 6 := by simp [redexT, h, h']
    have h2 : opsOf t.k = (1 : Nat) := by rw [h]; rfl
    have v0 := vk (i := 0) h2 (by omega)
    have h3 : opsOf (kd t 0).k = (3 : Nat) := by rw [h']; rfl
    rw [con_snd h] at hcz ⊢
    have ho := f_ownValid (n := n) (t := kd (kd t 0) 2) (by omega) (by omega)
    simp only [e, if_true, gk (i := 0) h2 (by omega), kid_get (t := kd t 0) (i := 2) (by rw [ops_len v0 h3]; omega), ho, Option.bind_some, c_rInt, c_rBool, c_rStr, c_rTs, c_rIs, c_rIss, c_rSs, c_rBs, c_rTerm, c_rOwnT, c_rOwn, c_rPtr, c_nilV, c_nilO, c_objC, c_dropC, c_intC, c_boolC, c_strC, c_tsC, c_isC, c_issC, c_ssC, c_bsC, c_anyC, c_nilC, c_arrTs, c_arrIs, c_arrIss, c_arrSs, c_arrBs, ik_self, nb_self, cond_true, cond_false, rTerm_tm, T.eta, mk_k, mk_n, mk_kids, Option.bind_none, Bool.not_true, Bool.not_false, Bool.true_and, Bool.and_true, Bool.and_false, Bool.false_and, Bool.and_self, decide_true, decide_false, show ¬ (6 : Int) = 1 by decide, show ¬ (6 : Int) = 2 by decide, show ¬ (6 : Int) = 3 by decide, show ¬ (6 : Int) = 4 by decide, show ¬ (6 : Int) = 5 by decide, if_false]
/-! The reference's contraction. -/
theorem rOwnT_ow {t : T} (k : Int → Int → List V1 → OR) : rOwnT 0 (ow t).1 k = k t.k t.n [] := rfl
theorem f_l3Contract {n : Nat} (hn : 3000000 ≤ n) {t : T} (hv : validB t = true) (hr : Rx t) : FF n 109 [tm t] [] = some ([tm (contractT t)], []) := by
  obtain ⟨n, rfl⟩ := pos_succ (show 0 < n by omega)
  rw [E_spec_l3Contract, f_l3Redex (by omega) hv]
  have gk : ∀ {i c : Nat}, opsOf t.k = c → i < c → t.kids[i]? = some (kd t i) := fun h hi => kid_get (by rw [ops_len hv h]; exact hi)
  have vk : ∀ {i c : Nat}, opsOf t.k = c → i < c → validB (kd t i) = true := fun h hi => valid_kd hv h hi
  have cp : ∀ {u : T}, validB u = true → FF n 54 [tm u] [] = some (ow u) := fun h => f_l1Copy _ (by have := validB_size h; omega) (by have := validB_size h; omega)
  simp only [Option.bind_some, c_rInt, c_rBool, c_rStr, c_rTs, c_rIs, c_rIss, c_rSs, c_rBs, c_rTerm, c_rOwnT, c_rOwn, c_rPtr, c_nilV, c_nilO, c_objC, c_dropC, c_intC, c_boolC, c_strC, c_tsC, c_isC, c_issC, c_ssC, c_bsC, c_anyC, c_nilC, c_arrTs, c_arrIs, c_arrIss, c_arrSs, c_arrBs, ik_self, nb_self, cond_true, cond_false, rTerm_tm, T.eta, mk_k, mk_n, mk_kids, Option.bind_none, Bool.not_true, Bool.not_false, Bool.true_and, Bool.and_true, Bool.and_false, Bool.false_and, Bool.and_self, decide_true, decide_false, cond_dec, Int.toNat_zero, Int.reduceToNat, Int.toNat_one]
  cases hr with
  | app h h' =>
    have e : redexT t = 1 := by simp [redexT, h, h']
    have h2 : opsOf t.k = (2 : Nat) := by rw [h]; rfl
    have v0 := vk (i := 0) h2 (by omega)
    have h3 : opsOf (kd t 0).k = (2 : Nat) := by rw [h']; rfl
    have v01 := valid_kd v0 (i := 1) h3 (by omega)
    have v1 := vk (i := 1) h2 (by omega)
    have z1 := validB_size v01
    have z2 := validB_size v1
    have hs := f_l2Subst (kd t 1) (gd_valid v1) (by omega) (kd (kd t 0) 1) (n := n) (by omega) (gd_valid v01) 0 0 (by omega) (by omega) (by omega) (by omega)
    simp only [e, if_true, gk (i := 0) h2 (by omega), gk (i := 1) h2 (by omega), kid_get (t := kd t 0) (i := 1) (by rw [ops_len v0 h3]; omega), hs, Option.bind_some, c_rInt, c_rBool, c_rStr, c_rTs, c_rIs, c_rIss, c_rSs, c_rBs, c_rTerm, c_rOwnT, c_rOwn, c_rPtr, c_nilV, c_nilO, c_objC, c_dropC, c_intC, c_boolC, c_strC, c_tsC, c_isC, c_issC, c_ssC, c_bsC, c_anyC, c_nilC, c_arrTs, c_arrIs, c_arrIss, c_arrSs, c_arrBs, ik_self, nb_self, cond_true, cond_false, rTerm_tm, T.eta, mk_k, mk_n, mk_kids, Option.bind_none, Bool.not_true, Bool.not_false, Bool.true_and, Bool.and_true, Bool.and_false, Bool.false_and, Bool.and_self, decide_true, decide_false, con_app h]
  | zero h h' =>
    have e : redexT t = 2 := by simp [redexT, h, h']
    have h2 : opsOf t.k = (4 : Nat) := by rw [h]; rfl
    rw [con_zero h h']
    simp only [e, if_true, gk (i := 1) h2 (by omega), cp (vk (i := 1) h2 (by omega)), Option.bind_some, c_rInt, c_rBool, c_rStr, c_rTs, c_rIs, c_rIss, c_rSs, c_rBs, c_rTerm, c_rOwnT, c_rOwn, c_rPtr, c_nilV, c_nilO, c_objC, c_dropC, c_intC, c_boolC, c_strC, c_tsC, c_isC, c_issC, c_ssC, c_bsC, c_anyC, c_nilC, c_arrTs, c_arrIs, c_arrIss, c_arrSs, c_arrBs, ik_self, nb_self, cond_true, cond_false, rTerm_tm, T.eta, mk_k, mk_n, mk_kids, Option.bind_none, Bool.not_true, Bool.not_false, Bool.true_and, Bool.and_true, Bool.and_false, Bool.false_and, Bool.and_self, decide_true, decide_false, show ¬ (2 : Int) = 1 by decide, if_false]
  | succ h h' =>
    have e : redexT t = 3 := by simp [redexT, h, h']
    have h2 : opsOf t.k = (4 : Nat) := by rw [h]; rfl
    have v3 := vk (i := 3) h2 (by omega)
    have h3 : opsOf (kd t 3).k = (1 : Nat) := by rw [h']; rfl
    rw [con_succ h h']
    simp (disch := simp) only [e, if_true, gk (i := 0) h2 (by omega), gk (i := 1) h2 (by omega), gk (i := 2) h2 (by omega), gk (i := 3) h2 (by omega), kid_get (t := kd t 3) (i := 0) (by rw [ops_len v3 h3]; omega),
      cp (vk (i := 0) h2 (by omega)), cp (vk (i := 1) h2 (by omega)), cp (vk (i := 2) h2 (by omega)), cp (valid_kd v3 (i := 0) h3 (by omega)), f_l1Node (show 1 ≤ n by omega), Option.bind_some, c_rInt, c_rBool, c_rStr, c_rTs, c_rIs, c_rIss, c_rSs, c_rBs, c_rTerm, c_rOwnT, c_rOwn, c_rPtr, c_nilV, c_nilO, c_objC, c_dropC, c_intC, c_boolC, c_strC, c_tsC, c_isC, c_issC, c_ssC, c_bsC, c_anyC, c_nilC, c_arrTs, c_arrIs, c_arrIss, c_arrSs, c_arrBs, ik_self, nb_self, cond_true, cond_false, rTerm_tm, T.eta, mk_k, mk_n, mk_kids, Option.bind_none, Bool.not_true, Bool.not_false, Bool.true_and, Bool.and_true, Bool.and_false, Bool.false_and, Bool.and_self, decide_true, decide_false, show ¬ (3 : Int) = 1 by decide, show ¬ (3 : Int) = 2 by decide, if_false]
    rfl
  | move h h' =>
    have e : redexT t = 4 := by simp [redexT, h, h']
    have h2 : opsOf t.k = (3 : Nat) := by rw [h]; rfl
    rw [con_move h]
    simp only [e, if_true, gk (i := 2) h2 (by omega), cp (vk (i := 2) h2 (by omega)), Option.bind_some, c_rInt, c_rBool, c_rStr, c_rTs, c_rIs, c_rIss, c_rSs, c_rBs, c_rTerm, c_rOwnT, c_rOwn, c_rPtr, c_nilV, c_nilO, c_objC, c_dropC, c_intC, c_boolC, c_strC, c_tsC, c_isC, c_issC, c_ssC, c_bsC, c_anyC, c_nilC, c_arrTs, c_arrIs, c_arrIss, c_arrSs, c_arrBs, ik_self, nb_self, cond_true, cond_false, rTerm_tm, T.eta, mk_k, mk_n, mk_kids, Option.bind_none, Bool.not_true, Bool.not_false, Bool.true_and, Bool.and_true, Bool.and_false, Bool.false_and, Bool.and_self, decide_true, decide_false, show ¬ (4 : Int) = 1 by decide, show ¬ (4 : Int) = 2 by decide, show ¬ (4 : Int) = 3 by decide, if_false]
  | fst h h' =>
    have e : redexT t = 5 := by simp [redexT, h, h']
    have h2 : opsOf t.k = (1 : Nat) := by rw [h]; rfl
    have v0 := vk (i := 0) h2 (by omega)
    have h3 : opsOf (kd t 0).k = (3 : Nat) := by rw [h']; rfl
    rw [con_fst h]
    simp only [e, if_true, gk (i := 0) h2 (by omega), kid_get (t := kd t 0) (i := 1) (by rw [ops_len v0 h3]; omega), cp (valid_kd v0 (i := 1) h3 (by omega)), Option.bind_some, c_rInt, c_rBool, c_rStr, c_rTs, c_rIs, c_rIss, c_rSs, c_rBs, c_rTerm, c_rOwnT, c_rOwn, c_rPtr, c_nilV, c_nilO, c_objC, c_dropC, c_intC, c_boolC, c_strC, c_tsC, c_isC, c_issC, c_ssC, c_bsC, c_anyC, c_nilC, c_arrTs, c_arrIs, c_arrIss, c_arrSs, c_arrBs, ik_self, nb_self, cond_true, cond_false, rTerm_tm, T.eta, mk_k, mk_n, mk_kids, Option.bind_none, Bool.not_true, Bool.not_false, Bool.true_and, Bool.and_true, Bool.and_false, Bool.false_and, Bool.and_self, decide_true, decide_false, show ¬ (5 : Int) = 1 by decide, show ¬ (5 : Int) = 2 by decide, show ¬ (5 : Int) = 3 by decide, show ¬ (5 : Int) = 4 by decide, if_false]
  | snd h h' =>
    have e : redexT t = 6 := by simp [redexT, h, h']
    have h2 : opsOf t.k = (1 : Nat) := by rw [h]; rfl
    have v0 := vk (i := 0) h2 (by omega)
    have h3 : opsOf (kd t 0).k = (3 : Nat) := by rw [h']; rfl
    rw [con_snd h]
    simp only [e, if_true, gk (i := 0) h2 (by omega), kid_get (t := kd t 0) (i := 2) (by rw [ops_len v0 h3]; omega), cp (valid_kd v0 (i := 2) h3 (by omega)), Option.bind_some, c_rInt, c_rBool, c_rStr, c_rTs, c_rIs, c_rIss, c_rSs, c_rBs, c_rTerm, c_rOwnT, c_rOwn, c_rPtr, c_nilV, c_nilO, c_objC, c_dropC, c_intC, c_boolC, c_strC, c_tsC, c_isC, c_issC, c_ssC, c_bsC, c_anyC, c_nilC, c_arrTs, c_arrIs, c_arrIss, c_arrSs, c_arrBs, ik_self, nb_self, cond_true, cond_false, rTerm_tm, T.eta, mk_k, mk_n, mk_kids, Option.bind_none, Bool.not_true, Bool.not_false, Bool.true_and, Bool.and_true, Bool.and_false, Bool.false_and, Bool.and_self, decide_true, decide_false, show ¬ (6 : Int) = 1 by decide, show ¬ (6 : Int) = 2 by decide, show ¬ (6 : Int) = 3 by decide, show ¬ (6 : Int) = 4 by decide, show ¬ (6 : Int) = 5 by decide, if_false]
/-! Ways. -/
abbrev ins (w : List Nat) : List Int := w.map fun i : Nat => (i : Int)
theorem redex0 {t : T} : (redexT t = 0) ↔ ¬ Rx t := by rw [← rx_iff]; simp
theorem out_loop (n : Nat) (ts : List T) (hl : ts.length ≤ 1000000) (h : ∀ t ∈ ts, FF n 70 [tm t] [] = some ([.one (.fr (.is (ins ((wyT false t).getD [])))), bl (wyT false t).isSome], []))
    (hz : ∀ t ∈ ts, ∀ w, wyT false t = some w → w.length ≤ 1000000) :
    ∀ g m (i : Nat), g < m → i + g = ts.length → L_impl_outer_0 n m ts ts.length i = some ([.one (.fr (.is (ins ((wyL false i (ts.drop i)).getD [])))), bl (wyL false i (ts.drop i)).isSome], [])
  | g, 0, i, hg, _ => by omega
  | 0, m + 1, i, _, hi => by
    rw [L_impl_outer_0_eq, List.drop_of_length_le (by omega)]
    simp only [cond_dec, if_neg (show ¬ (i : Int) < ts.length by omega), wyL]; rfl
  | g + 1, m + 1, i, hg, hi => by
    have hlt : i < ts.length := by omega
    have hm := List.getElem_mem hlt
    rw [List.drop_eq_getElem_cons hlt, wyL]
    rw [L_impl_outer_0_eq]
    simp (disch := omega) only [cond_dec, Int.toNat_natCast, cast1, wrap64, if_pos (show (i : Int) < ts.length by omega), if_pos (show 0 ≤ (i : Int) by omega), List.getElem?_eq_getElem hlt, Option.bind_some]
    rw [h _ hm]
    simp only [Option.bind_some, c_rInt, c_rBool, c_rStr, c_rTs, c_rIs, c_rIss, c_rSs, c_rBs, c_rTerm, c_rOwnT, c_rOwn, c_rPtr, c_nilV, c_nilO, c_objC, c_dropC, c_intC, c_boolC, c_strC, c_tsC, c_isC, c_issC, c_ssC, c_bsC, c_anyC, c_nilC, c_arrTs, c_arrIs, c_arrIss, c_arrSs, c_arrBs, ik_self, nb_self, cond_true, cond_false]
    cases hs : wyT false ts[i] with
    | none =>
      simp only [Option.isSome_none, cond_false]
      exact out_loop n ts hl h hz g m (i + 1) (by omega) (by omega)
    | some w =>
      have := hz _ hm w hs
      simp only [Option.isSome_some, cond_true, Option.getD_some, roomB_ok (show ([(i : Int)] ++ ins w).length ≤ 1099511627776 by simp [ins]; omega)]
      rfl
mutual
theorem wy_len {inn : Bool} : ∀ {t : T} {w : List Nat}, wyT inn t = some w → w.length ≤ t.size
  | .mk k n ts, w, h => by
    rw [wyT] at h
    rw [T.size]
    split at h
    · obtain rfl := Option.some.inj h; simp
    · split at h
      · rename_i w' hw
        obtain rfl := Option.some.inj h
        have := wy_lenL hw; omega
      · split at h
        · obtain rfl := Option.some.inj h; simp
        · cases h
theorem wy_lenL {inn : Bool} : ∀ {ts : List T} {j : Nat} {w : List Nat}, wyL inn j ts = some w → w.length ≤ 1 + T.sizeL ts
  | [], j, w, h => by cases h
  | t :: ts, j, w, h => by
    rw [wyL] at h
    rw [T.sizeL]
    split at h
    · rename_i v hv
      obtain rfl := Option.some.inj h
      have := wy_len hv
      simp only [List.length_cons]; omega
    · have := wy_lenL h; omega
end
theorem f_outer (t : T) : ∀ {n : Nat}, t.size + 5 ≤ n → validB t = true → FF n 70 [tm t] [] = some ([.one (.fr (.is (ins ((wyT false t).getD [])))), bl (wyT false t).isSome], []) := by
  induction t using T.ind with | h t ih =>
  intro n hn hv
  have hsz := T.size_eq t
  have hz := validB_size hv
  have hl := T.sizeL_len t.kids
  obtain ⟨n, rfl⟩ := pos_succ (show 0 < n by omega)
  have e : wyT false t = if Rx t then some [] else wyL false 0 t.kids := by
    cases t with | mk k n ts =>
    rw [wyT]
    simp only [true_and, T.kids]
    split
    · rfl
    · cases wyL false 0 ts <;> simp
  rw [E_impl_outer, f_redex (by omega) hv, e]
  simp only [Option.bind_some, c_rInt, c_rBool, c_rStr, c_rTs, c_rIs, c_rIss, c_rSs, c_rBs, c_rTerm, c_rOwnT, c_rOwn, c_rPtr, c_nilV, c_nilO, c_objC, c_dropC, c_intC, c_boolC, c_strC, c_tsC, c_isC, c_issC, c_ssC, c_bsC, c_anyC, c_nilC, c_arrTs, c_arrIs, c_arrIss, c_arrSs, c_arrBs, ik_self, nb_self, cond_true, cond_false, cond_ndec, redex0]
  by_cases hr : Rx t
  · simp [hr]
  · simp only [hr, not_false_eq_true, if_true, if_false]
    have := out_loop n t.kids (by omega) (fun u hu => ih u hu (by have := T.sizeL_mem hu; omega) (validB_kid hv hu)) (fun u hu w hw => by have := wy_len hw; have := validB_size (validB_kid hv hu); omega) t.kids.length n 0 (by omega) (by omega)
    simpa using this
theorem in_loop (n : Nat) (t : T) (ts : List T) (hts : t.kids = ts) (hn : 1 ≤ n) (hv : validB t = true) (hl : ts.length ≤ 1000000) (h : ∀ t ∈ ts, FF n 74 [tm t] [] = some ([.one (.fr (.is (ins ((wyT true t).getD [])))), bl (wyT true t).isSome], []))
    (hz : ∀ t ∈ ts, ∀ w, wyT true t = some w → w.length ≤ 1000000) :
    ∀ g m (i : Nat), g < m → i + g = ts.length → L_impl_inner_0 n m ts ts.length i t.k t.n t.kids = some ([.one (.fr (.is (ins ((wyL true i (ts.drop i)).getD [])))), bl ((wyL true i (ts.drop i)).isSome || decide (Rx t))], [])
  | g, 0, i, hg, _ => by omega
  | 0, m + 1, i, _, hi => by
    rw [L_impl_inner_0_eq, List.drop_of_length_le (by omega)]
    simp only [cond_dec, if_neg (show ¬ (i : Int) < ts.length by omega), wyL, f_redex hn hv, Option.bind_some, c_rInt, c_rBool, c_rStr, c_rTs, c_rIs, c_rIss, c_rSs, c_rBs, c_rTerm, c_rOwnT, c_rOwn, c_rPtr, c_nilV, c_nilO, c_objC, c_dropC, c_intC, c_boolC, c_strC, c_tsC, c_isC, c_issC, c_ssC, c_bsC, c_anyC, c_nilC, c_arrTs, c_arrIs, c_arrIss, c_arrSs, c_arrBs, ik_self, nb_self, cond_true, cond_false]
    by_cases hr : Rx t
    · simp [hr, redex0]
    · simp [hr, redex0.2 hr]
  | g + 1, m + 1, i, hg, hi => by
    have hlt : i < ts.length := by omega
    have hm := List.getElem_mem hlt
    rw [List.drop_eq_getElem_cons hlt, wyL]
    rw [L_impl_inner_0_eq]
    simp (disch := omega) only [cond_dec, Int.toNat_natCast, cast1, wrap64, if_pos (show (i : Int) < ts.length by omega), if_pos (show 0 ≤ (i : Int) by omega), List.getElem?_eq_getElem hlt, Option.bind_some]
    rw [h _ hm]
    simp only [Option.bind_some, c_rInt, c_rBool, c_rStr, c_rTs, c_rIs, c_rIss, c_rSs, c_rBs, c_rTerm, c_rOwnT, c_rOwn, c_rPtr, c_nilV, c_nilO, c_objC, c_dropC, c_intC, c_boolC, c_strC, c_tsC, c_isC, c_issC, c_ssC, c_bsC, c_anyC, c_nilC, c_arrTs, c_arrIs, c_arrIss, c_arrSs, c_arrBs, ik_self, nb_self, cond_true, cond_false]
    cases hs : wyT true ts[i] with
    | none =>
      simp only [Option.isSome_none, cond_false]
      exact in_loop n t ts hts hn hv hl h hz g m (i + 1) (by omega) (by omega)
    | some w =>
      have := hz _ hm w hs
      simp only [Option.isSome_some, cond_true, Option.getD_some, roomB_ok (show ([(i : Int)] ++ ins w).length ≤ 1099511627776 by simp [ins]; omega)]
      rfl
theorem f_inner (t : T) : ∀ {n : Nat}, t.size + 5 ≤ n → validB t = true → FF n 74 [tm t] [] = some ([.one (.fr (.is (ins ((wyT true t).getD [])))), bl (wyT true t).isSome], []) := by
  induction t using T.ind with | h t ih =>
  intro n hn hv
  have hsz := T.size_eq t
  have hz := validB_size hv
  have hl := T.sizeL_len t.kids
  obtain ⟨n, rfl⟩ := pos_succ (show 0 < n by omega)
  have e : wyT true t = match wyL true 0 t.kids with | some w => some w | none => if Rx t then some [] else none := by
    cases t with | mk k n ts =>
    rw [wyT]
    cases hw : wyL true 0 ts <;> simp [T.kids, hw]
  have := in_loop n t t.kids rfl (by omega) hv (by omega) (fun u hu => ih u hu (by have := T.sizeL_mem hu; omega) (validB_kid hv hu)) (fun u hu w hw => by have := wy_len hw; have := validB_size (validB_kid hv hu); omega) t.kids.length n 0 (by omega) (by omega)
  rw [List.drop_zero] at this
  rw [E_impl_inner, e]
  refine this.trans ?_
  cases wyL true 0 t.kids with
  | some w => simp
  | none => by_cases hr : Rx t <;> simp [hr]
end Go.Proofs.Ytmioieikbpemoaa
