/- Redexes and steps in the abstract run. -/
import Derived.Test.YthjbllfcelkajaaEvS
set_option linter.unusedVariables false
set_option linter.unusedSimpArgs false
namespace Go.Proofs.Ythjbllfcelkajaa
open Go Go.Ab Go.Dk
/-! The program's equality. -/
/-! Redexes. -/
theorem kid_get {t : T} {i : Nat} (h : i < t.kids.length) : t.kids[i]? = some (kd t i) := by
  unfold kd; simp [List.getD, h]
theorem ops_len {t : T} (hv : validB t = true) {c : Nat} (h : opsOf t.k = c) : t.kids.length = c := by
  have := (validB_ops hv).1
  omega
theorem f_redexes {n : Nat} (hn : 1 ≤ n) {t : T} (hv : validB t = true) : FF n 84 [tm t] [] = some ([nt (redexT t)], []) ∧ FF n 89 [tm t] [] = some ([nt (redexT t)], []) := by
  obtain ⟨n, rfl⟩ := pos_succ (show 0 < n by omega)
  rw [E_impl_redex, E_spec_l3Redex]
  simp only [cond_dec, Int.toNat_zero, Int.reduceToNat]
  unfold redexT
  by_cases k5 : t.k = 5
  · have hl := ops_len hv (c := 2) (by rw [k5]; rfl)
    simp only [k5, if_true, kid_get (show 0 < t.kids.length by omega), Option.bind_some]
    constructor <;> split <;> rfl
  by_cases k9 : t.k = 9
  · have hl := ops_len hv (c := 4) (by rw [k9]; rfl)
    simp only [k9, if_true, kid_get (show 3 < t.kids.length by omega), Option.bind_some, show ¬ (9 : Int) = 5 by decide, if_false]
    constructor <;> (split; rfl; split <;> rfl)
  by_cases k12 : t.k = 12
  · have hl := ops_len hv (c := 3) (by rw [k12]; rfl)
    simp only [k12, if_true, kid_get (show 1 < t.kids.length by omega), Option.bind_some, show ¬ (12 : Int) = 5 by decide, show ¬ (12 : Int) = 9 by decide, if_false]
    constructor <;> split <;> rfl
  by_cases k15 : t.k = 15
  · have hl := ops_len hv (c := 1) (by rw [k15]; rfl)
    simp only [k15, if_true, kid_get (show 0 < t.kids.length by omega), Option.bind_some, show ¬ (15 : Int) = 5 by decide, show ¬ (15 : Int) = 9 by decide, show ¬ (15 : Int) = 12 by decide, if_false]
    constructor <;> split <;> rfl
  by_cases k16 : t.k = 16
  · have hl := ops_len hv (c := 1) (by rw [k16]; rfl)
    simp only [k16, if_true, kid_get (show 0 < t.kids.length by omega), Option.bind_some, show ¬ (16 : Int) = 5 by decide, show ¬ (16 : Int) = 9 by decide, show ¬ (16 : Int) = 12 by decide, show ¬ (16 : Int) = 15 by decide, if_false]
    constructor <;> split <;> rfl
  simp [k5, k9, k12, k15, k16]
theorem f_redex {n : Nat} (hn : 1 ≤ n) {t : T} (hv : validB t = true) : FF n 84 [tm t] [] = some ([nt (redexT t)], []) := (f_redexes hn hv).1
theorem f_l3Redex {n : Nat} (hn : 1 ≤ n) {t : T} (hv : validB t = true) : FF n 89 [tm t] [] = some ([nt (redexT t)], []) := (f_redexes hn hv).2
theorem valid_kd {t : T} (hv : validB t = true) {i c : Nat} (h : opsOf t.k = c) (hi : i < c) : validB (kd t i) = true := validB_kid hv (kd_mem (by rw [ops_len hv h]; exact hi))
/-- The size of a contractum. -/
theorem con_size {t : T} (hv : validB t = true) (hr : Rx t) : (contractT t).size ≤ 160000 := by
  have hz := validB_size hv
  have kz : ∀ {i c : Nat}, opsOf t.k = c → i < c → (kd t i).size ≤ 400 := fun h hi => validB_size (valid_kd hv h hi)
  cases hr with
  | app h h' =>
    rw [con_app h]
    have h0 := valid_kd hv (i := 0) (c := 2) (by rw [h]; rfl) (by omega)
    have h1 := validB_size (valid_kd h0 (i := 1) (c := 2) (by rw [h']; rfl) (by omega))
    have h2 := kz (i := 1) (c := 2) (by rw [h]; rfl) (by omega)
    exact Nat.le_trans (sb_size _ _ _ _) (Nat.mul_le_mul h1 h2)
  | zero h h' => rw [con_zero h h']; have := kz (i := 1) (c := 4) (by rw [h]; rfl) (by omega); omega
  | succ h h' =>
    rw [con_succ h h']
    have h0 := kz (i := 0) (c := 4) (by rw [h]; rfl) (by omega)
    have h1 := kz (i := 1) (c := 4) (by rw [h]; rfl) (by omega)
    have h2 := kz (i := 2) (c := 4) (by rw [h]; rfl) (by omega)
    have h3 := validB_size (valid_kd (valid_kd hv (i := 3) (c := 4) (by rw [h]; rfl) (by omega)) (i := 0) (c := 1) (by rw [h']; rfl) (by omega))
    simp only [T.size, T.sizeL]; omega
  | move h h' => rw [con_move h]; have := kz (i := 2) (c := 3) (by rw [h]; rfl) (by omega); omega
  | fst h h' => rw [con_fst h]; have := validB_size (valid_kd (valid_kd hv (i := 0) (c := 1) (by rw [h]; rfl) (by omega)) (i := 1) (c := 3) (by rw [h']; rfl) (by omega)); omega
  | snd h h' => rw [con_snd h]; have := validB_size (valid_kd (valid_kd hv (i := 0) (c := 1) (by rw [h]; rfl) (by omega)) (i := 2) (c := 3) (by rw [h']; rfl) (by omega)); omega
/-- A term, or the zero value if it is not valid. -/
def okT (t : T) : T := if validB t then t else .mk 0 0 []
theorem f_ownValid {n : Nat} {t : T} (hn : t.size + 10 ≤ n) (hz : t.size ≤ 4000000) : FF n 64 [tm t] [] = some ([tm t], []) ∧ FF n 75 [tm t] [] = some ([tm (okT t), bl (validB t)], []) :=
  ⟨f_own t (by omega) hz, f_valid (by omega)⟩
theorem f_contract {n : Nat} (hn : 3000000 ≤ n) {t : T} (hv : validB t = true) (hr : Rx t) : FF n 102 [tm t] [] = some ([tm (okT (contractT t)), bl (validB (contractT t))], []) := by
  have hcz := con_size hv hr
  obtain ⟨n, rfl⟩ := pos_succ (show 0 < n by omega)
  rw [E_impl_contract, f_redex (by omega) hv]
  have hrx := (rx_iff t).2 hr
  have gk : ∀ {i c : Nat}, opsOf t.k = c → i < c → t.kids[i]? = some (kd t i) := fun h hi => kid_get (by rw [ops_len hv h]; exact hi)
  have vk : ∀ {i c : Nat}, opsOf t.k = c → i < c → validB (kd t i) = true := fun h hi => valid_kd hv h hi
  simp only [Option.bind_some, c_rInt, c_rBool, c_rStr, c_rTs, c_rIs, c_rIss, c_rSs, c_rBs, c_rTerm, c_rOwnT, c_rOwn, c_rPtr, c_nilV, c_nilO, c_objC, c_dropC, c_intC, c_boolC, c_strC, c_tsC, c_isC, c_issC, c_ssC, c_bsC, c_anyC, c_nilC, c_arrTs, c_arrIs, c_arrIss, c_arrSs, c_arrBs, ik_self, nb_self, cond_true, cond_false, rTerm_tm, T.eta, mk_k, mk_n, mk_kids, Option.bind_none, Bool.not_true, Bool.not_false, Bool.true_and, Bool.and_true, Bool.and_false, Bool.false_and, Bool.and_self, decide_true, decide_false, cond_dec, Int.toNat_zero, Int.reduceToNat, Int.toNat_one]
  cases hr with
  | app h h' =>
    have e : redexT t = 1 := by simp [redexT, h, h']
    have h2 : opsOf t.k = (2 : Nat) := by rw [h]; rfl
    have v0 := vk (i := 0) h2 (by omega)
    have h3 : opsOf (kd t 0).k = (2 : Nat) := by rw [h']; rfl
    have v01 := valid_kd v0 (i := 1) h3 (by omega)
    have v1 := vk (i := 1) h2 (by omega)
    have hs := f_subst (n := n) (t := kd (kd t 0) 1) (u := kd t 1) (x := 0) (by omega) (gd_valid v01) (by have := validB_size v01; omega) (gd_valid v1) (by have := validB_size v1; omega) (by omega)
    simp only [e, if_true, gk (i := 0) h2 (by omega), gk (i := 1) h2 (by omega), kid_get (t := kd t 0) (i := 1) (by rw [ops_len v0 h3]; omega), hs, Option.bind_some, c_rInt, c_rBool, c_rStr, c_rTs, c_rIs, c_rIss, c_rSs, c_rBs, c_rTerm, c_rOwnT, c_rOwn, c_rPtr, c_nilV, c_nilO, c_objC, c_dropC, c_intC, c_boolC, c_strC, c_tsC, c_isC, c_issC, c_ssC, c_bsC, c_anyC, c_nilC, c_arrTs, c_arrIs, c_arrIss, c_arrSs, c_arrBs, ik_self, nb_self, cond_true, cond_false, rTerm_tm, T.eta, mk_k, mk_n, mk_kids, Option.bind_none, Bool.not_true, Bool.not_false, Bool.true_and, Bool.and_true, Bool.and_false, Bool.false_and, Bool.and_self, decide_true, decide_false, con_app h, sbR, okT]
  | zero h h' =>
    have e : redexT t = 2 := by simp [redexT, h, h']
    have h2 : opsOf t.k = (4 : Nat) := by rw [h]; rfl
    rw [con_zero h h'] at hcz ⊢
    have ho := f_ownValid (n := n) (t := kd t 1) (by omega) (by omega)
    simp only [e, if_true, gk (i := 1) h2 (by omega), ho, Option.bind_some, c_rInt, c_rBool, c_rStr, c_rTs, c_rIs, c_rIss, c_rSs, c_rBs, c_rTerm, c_rOwnT, c_rOwn, c_rPtr, c_nilV, c_nilO, c_objC, c_dropC, c_intC, c_boolC, c_strC, c_tsC, c_isC, c_issC, c_ssC, c_bsC, c_anyC, c_nilC, c_arrTs, c_arrIs, c_arrIss, c_arrSs, c_arrBs, ik_self, nb_self, cond_true, cond_false, rTerm_tm, T.eta, mk_k, mk_n, mk_kids, Option.bind_none, Bool.not_true, Bool.not_false, Bool.true_and, Bool.and_true, Bool.and_false, Bool.false_and, Bool.and_self, decide_true, decide_false, show ¬ (2 : Int) = 1 by decide, if_false]
  | succ h h' =>
    have e : redexT t = 3 := by simp [redexT, h, h']
    have h2 : opsOf t.k = (4 : Nat) := by rw [h]; rfl
    have v3 := vk (i := 3) h2 (by omega)
    have h3 : opsOf (kd t 3).k = (1 : Nat) := by rw [h']; rfl
    rw [con_succ h h'] at hcz ⊢
    have ho := f_ownValid (n := n) (t := T.mk 5 0 [.mk 5 0 [kd t 2, kd (kd t 3) 0], .mk 9 0 [kd t 0, kd t 1, kd t 2, kd (kd t 3) 0]]) (by omega) (by omega)
    simp (disch := omega) only [e, if_true, gk (i := 0) h2 (by omega), gk (i := 1) h2 (by omega), gk (i := 2) h2 (by omega), gk (i := 3) h2 (by omega), kid_get (t := kd t 3) (i := 0) (by rw [ops_len v3 h3]; omega), f_node, Option.bind_some, c_rInt, c_rBool, c_rStr, c_rTs, c_rIs, c_rIss, c_rSs, c_rBs, c_rTerm, c_rOwnT, c_rOwn, c_rPtr, c_nilV, c_nilO, c_objC, c_dropC, c_intC, c_boolC, c_strC, c_tsC, c_isC, c_issC, c_ssC, c_bsC, c_anyC, c_nilC, c_arrTs, c_arrIs, c_arrIss, c_arrSs, c_arrBs, ik_self, nb_self, cond_true, cond_false, rTerm_tm, T.eta, mk_k, mk_n, mk_kids, Option.bind_none, Bool.not_true, Bool.not_false, Bool.true_and, Bool.and_true, Bool.and_false, Bool.false_and, Bool.and_self, decide_true, decide_false, show ¬ (3 : Int) = 1 by decide, show ¬ (3 : Int) = 2 by decide, if_false]
    have h1 := ho.1
    have h2 := ho.2
    simp only [tm, mk_k, mk_n, mk_kids] at h1 h2
    simp only [h1, h2, Option.bind_some, c_rInt, c_rBool, c_rStr, c_rTs, c_rIs, c_rIss, c_rSs, c_rBs, c_rTerm, c_rOwnT, c_rOwn, c_rPtr, c_nilV, c_nilO, c_objC, c_dropC, c_intC, c_boolC, c_strC, c_tsC, c_isC, c_issC, c_ssC, c_bsC, c_anyC, c_nilC, c_arrTs, c_arrIs, c_arrIss, c_arrSs, c_arrBs, ik_self, nb_self, cond_true, cond_false, rTerm_tm, T.eta, mk_k, mk_n, mk_kids, Option.bind_none, Bool.not_true, Bool.not_false, Bool.true_and, Bool.and_true, Bool.and_false, Bool.false_and, Bool.and_self, decide_true, decide_false]
  | move h h' =>
    have e : redexT t = 4 := by simp [redexT, h, h']
    have h2 : opsOf t.k = (3 : Nat) := by rw [h]; rfl
    rw [con_move h] at hcz ⊢
    have ho := f_ownValid (n := n) (t := kd t 2) (by omega) (by omega)
    simp only [e, if_true, gk (i := 2) h2 (by omega), ho, Option.bind_some, c_rInt, c_rBool, c_rStr, c_rTs, c_rIs, c_rIss, c_rSs, c_rBs, c_rTerm, c_rOwnT, c_rOwn, c_rPtr, c_nilV, c_nilO, c_objC, c_dropC, c_intC, c_boolC, c_strC, c_tsC, c_isC, c_issC, c_ssC, c_bsC, c_anyC, c_nilC, c_arrTs, c_arrIs, c_arrIss, c_arrSs, c_arrBs, ik_self, nb_self, cond_true, cond_false, rTerm_tm, T.eta, mk_k, mk_n, mk_kids, Option.bind_none, Bool.not_true, Bool.not_false, Bool.true_and, Bool.and_true, Bool.and_false, Bool.false_and, Bool.and_self, decide_true, decide_false, show ¬ (4 : Int) = 1 by decide, show ¬ (4 : Int) = 2 by decide, show ¬ (4 : Int) = 3 by decide, if_false]
  | fst h h' =>
    have e : redexT t = 5 := by simp [redexT, h, h']
    have h2 : opsOf t.k = (1 : Nat) := by rw [h]; rfl
    have v0 := vk (i := 0) h2 (by omega)
    have h3 : opsOf (kd t 0).k = (3 : Nat) := by rw [h']; rfl
    rw [con_fst h] at hcz ⊢
    have ho := f_ownValid (n := n) (t := kd (kd t 0) 1) (by omega) (by omega)
    simp only [e, if_true, gk (i := 0) h2 (by omega), kid_get (t := kd t 0) (i := 1) (by rw [ops_len v0 h3]; omega), ho, Option.bind_some, c_rInt, c_rBool, c_rStr, c_rTs, c_rIs, c_rIss, c_rSs, c_rBs, c_rTerm, c_rOwnT, c_rOwn, c_rPtr, c_nilV, c_nilO, c_objC, c_dropC, c_intC, c_boolC, c_strC, c_tsC, c_isC, c_issC, c_ssC, c_bsC, c_anyC, c_nilC, c_arrTs, c_arrIs, c_arrIss, c_arrSs, c_arrBs, ik_self, nb_self, cond_true, cond_false, rTerm_tm, T.eta, mk_k, mk_n, mk_kids, Option.bind_none, Bool.not_true, Bool.not_false, Bool.true_and, Bool.and_true, Bool.and_false, Bool.false_and, Bool.and_self, decide_true, decide_false, show ¬ (5 : Int) = 1 by decide, show ¬ (5 : Int) = 2 by decide, show ¬ (5 : Int) = 3 by decide, show ¬ (5 : Int) = 4 by decide, if_false]
  | snd h h' =>
    have e : redexT t = 6 := by simp [redexT, h, h']
    have h2 : opsOf t.k = (1 : Nat) := by rw [h]; rfl
    have v0 := vk (i := 0) h2 (by omega)
    have h3 : opsOf (kd t 0).k = (3 : Nat) := by rw [h']; rfl
    rw [con_snd h] at hcz ⊢
    have ho := f_ownValid (n := n) (t := kd (kd t 0) 2) (by omega) (by omega)
    simp only [e, if_true, gk (i := 0) h2 (by omega), kid_get (t := kd t 0) (i := 2) (by rw [ops_len v0 h3]; omega), ho, Option.bind_some, c_rInt, c_rBool, c_rStr, c_rTs, c_rIs, c_rIss, c_rSs, c_rBs, c_rTerm, c_rOwnT, c_rOwn, c_rPtr, c_nilV, c_nilO, c_objC, c_dropC, c_intC, c_boolC, c_strC, c_tsC, c_isC, c_issC, c_ssC, c_bsC, c_anyC, c_nilC, c_arrTs, c_arrIs, c_arrIss, c_arrSs, c_arrBs, ik_self, nb_self, cond_true, cond_false, rTerm_tm, T.eta, mk_k, mk_n, mk_kids, Option.bind_none, Bool.not_true, Bool.not_false, Bool.true_and, Bool.and_true, Bool.and_false, Bool.false_and, Bool.and_self, decide_true, decide_false, show ¬ (6 : Int) = 1 by decide, show ¬ (6 : Int) = 2 by decide, show ¬ (6 : Int) = 3 by decide, show ¬ (6 : Int) = 4 by decide, show ¬ (6 : Int) = 5 by decide, if_false]
/-! The reference's contraction. -/
theorem rOwnT_ow {t : T} (k : Int → Int → List V1 → OR) : rOwnT 0 (ow t).1 k = k t.k t.n [] := rfl
theorem f_l3Contract {n : Nat} (hn : 3000000 ≤ n) {t : T} (hv : validB t = true) (hr : Rx t) : FF n 90 [tm t] [] = some ([tm (contractT t)], []) := by
  obtain ⟨n, rfl⟩ := pos_succ (show 0 < n by omega)
  rw [E_spec_l3Contract, f_l3Redex (by omega) hv]
  have gk : ∀ {i c : Nat}, opsOf t.k = c → i < c → t.kids[i]? = some (kd t i) := fun h hi => kid_get (by rw [ops_len hv h]; exact hi)
  have vk : ∀ {i c : Nat}, opsOf t.k = c → i < c → validB (kd t i) = true := fun h hi => valid_kd hv h hi
  have cp : ∀ {u : T}, validB u = true → FF n 62 [tm u] [] = some (ow u) := fun h => f_l1Copy _ (by have := validB_size h; omega) (by have := validB_size h; omega)
  simp only [Option.bind_some, c_rInt, c_rBool, c_rStr, c_rTs, c_rIs, c_rIss, c_rSs, c_rBs, c_rTerm, c_rOwnT, c_rOwn, c_rPtr, c_nilV, c_nilO, c_objC, c_dropC, c_intC, c_boolC, c_strC, c_tsC, c_isC, c_issC, c_ssC, c_bsC, c_anyC, c_nilC, c_arrTs, c_arrIs, c_arrIss, c_arrSs, c_arrBs, ik_self, nb_self, cond_true, cond_false, rTerm_tm, T.eta, mk_k, mk_n, mk_kids, Option.bind_none, Bool.not_true, Bool.not_false, Bool.true_and, Bool.and_true, Bool.and_false, Bool.false_and, Bool.and_self, decide_true, decide_false, cond_dec, Int.toNat_zero, Int.reduceToNat, Int.toNat_one]
  cases hr with
  | app h h' =>
    have e : redexT t = 1 := by simp [redexT, h, h']
    have h2 : opsOf t.k = (2 : Nat) := by rw [h]; rfl
    have v0 := vk (i := 0) h2 (by omega)
    have h3 : opsOf (kd t 0).k = (2 : Nat) := by rw [h']; rfl
    have v01 := valid_kd v0 (i := 1) h3 (by omega)
    have v1 := vk (i := 1) h2 (by omega)
    have z1 := validB_size v01
    have z2 := validB_size v1
    have hs := f_l2Subst (kd t 1) (gd_valid v1) (by omega) (kd (kd t 0) 1) (n := n) (by omega) (gd_valid v01) 0 0 (by omega) (by omega) (by omega) (by omega)
    simp only [e, if_true, gk (i := 0) h2 (by omega), gk (i := 1) h2 (by omega), kid_get (t := kd t 0) (i := 1) (by rw [ops_len v0 h3]; omega), hs, Option.bind_some, c_rInt, c_rBool, c_rStr, c_rTs, c_rIs, c_rIss, c_rSs, c_rBs, c_rTerm, c_rOwnT, c_rOwn, c_rPtr, c_nilV, c_nilO, c_objC, c_dropC, c_intC, c_boolC, c_strC, c_tsC, c_isC, c_issC, c_ssC, c_bsC, c_anyC, c_nilC, c_arrTs, c_arrIs, c_arrIss, c_arrSs, c_arrBs, ik_self, nb_self, cond_true, cond_false, rTerm_tm, T.eta, mk_k, mk_n, mk_kids, Option.bind_none, Bool.not_true, Bool.not_false, Bool.true_and, Bool.and_true, Bool.and_false, Bool.false_and, Bool.and_self, decide_true, decide_false, con_app h]
  | zero h h' =>
    have e : redexT t = 2 := by simp [redexT, h, h']
    have h2 : opsOf t.k = (4 : Nat) := by rw [h]; rfl
    rw [con_zero h h']
    simp only [e, if_true, gk (i := 1) h2 (by omega), cp (vk (i := 1) h2 (by omega)), Option.bind_some, c_rInt, c_rBool, c_rStr, c_rTs, c_rIs, c_rIss, c_rSs, c_rBs, c_rTerm, c_rOwnT, c_rOwn, c_rPtr, c_nilV, c_nilO, c_objC, c_dropC, c_intC, c_boolC, c_strC, c_tsC, c_isC, c_issC, c_ssC, c_bsC, c_anyC, c_nilC, c_arrTs, c_arrIs, c_arrIss, c_arrSs, c_arrBs, ik_self, nb_self, cond_true, cond_false, rTerm_tm, T.eta, mk_k, mk_n, mk_kids, Option.bind_none, Bool.not_true, Bool.not_false, Bool.true_and, Bool.and_true, Bool.and_false, Bool.false_and, Bool.and_self, decide_true, decide_false, show ¬ (2 : Int) = 1 by decide, if_false]
  | succ h h' =>
    have e : redexT t = 3 := by simp [redexT, h, h']
    have h2 : opsOf t.k = (4 : Nat) := by rw [h]; rfl
    have v3 := vk (i := 3) h2 (by omega)
    have h3 : opsOf (kd t 3).k = (1 : Nat) := by rw [h']; rfl
    rw [con_succ h h']
    simp (disch := simp) only [e, if_true, gk (i := 0) h2 (by omega), gk (i := 1) h2 (by omega), gk (i := 2) h2 (by omega), gk (i := 3) h2 (by omega), kid_get (t := kd t 3) (i := 0) (by rw [ops_len v3 h3]; omega),
      cp (vk (i := 0) h2 (by omega)), cp (vk (i := 1) h2 (by omega)), cp (vk (i := 2) h2 (by omega)), cp (valid_kd v3 (i := 0) h3 (by omega)), f_l1Node (show 1 ≤ n by omega), Option.bind_some, c_rInt, c_rBool, c_rStr, c_rTs, c_rIs, c_rIss, c_rSs, c_rBs, c_rTerm, c_rOwnT, c_rOwn, c_rPtr, c_nilV, c_nilO, c_objC, c_dropC, c_intC, c_boolC, c_strC, c_tsC, c_isC, c_issC, c_ssC, c_bsC, c_anyC, c_nilC, c_arrTs, c_arrIs, c_arrIss, c_arrSs, c_arrBs, ik_self, nb_self, cond_true, cond_false, rTerm_tm, T.eta, mk_k, mk_n, mk_kids, Option.bind_none, Bool.not_true, Bool.not_false, Bool.true_and, Bool.and_true, Bool.and_false, Bool.false_and, Bool.and_self, decide_true, decide_false, show ¬ (3 : Int) = 1 by decide, show ¬ (3 : Int) = 2 by decide, if_false]
    rfl
  | move h h' =>
    have e : redexT t = 4 := by simp [redexT, h, h']
    have h2 : opsOf t.k = (3 : Nat) := by rw [h]; rfl
    rw [con_move h]
    simp only [e, if_true, gk (i := 2) h2 (by omega), cp (vk (i := 2) h2 (by omega)), Option.bind_some, c_rInt, c_rBool, c_rStr, c_rTs, c_rIs, c_rIss, c_rSs, c_rBs, c_rTerm, c_rOwnT, c_rOwn, c_rPtr, c_nilV, c_nilO, c_objC, c_dropC, c_intC, c_boolC, c_strC, c_tsC, c_isC, c_issC, c_ssC, c_bsC, c_anyC, c_nilC, c_arrTs, c_arrIs, c_arrIss, c_arrSs, c_arrBs, ik_self, nb_self, cond_true, cond_false, rTerm_tm, T.eta, mk_k, mk_n, mk_kids, Option.bind_none, Bool.not_true, Bool.not_false, Bool.true_and, Bool.and_true, Bool.and_false, Bool.false_and, Bool.and_self, decide_true, decide_false, show ¬ (4 : Int) = 1 by decide, show ¬ (4 : Int) = 2 by decide, show ¬ (4 : Int) = 3 by decide, if_false]
  | fst h h' =>
    have e : redexT t = 5 := by simp [redexT, h, h']
    have h2 : opsOf t.k = (1 : Nat) := by rw [h]; rfl
    have v0 := vk (i := 0) h2 (by omega)
    have h3 : opsOf (kd t 0).k = (3 : Nat) := by rw [h']; rfl
    rw [con_fst h]
    simp only [e, if_true, gk (i := 0) h2 (by omega), kid_get (t := kd t 0) (i := 1) (by rw [ops_len v0 h3]; omega), cp (valid_kd v0 (i := 1) h3 (by omega)), Option.bind_some, c_rInt, c_rBool, c_rStr, c_rTs, c_rIs, c_rIss, c_rSs, c_rBs, c_rTerm, c_rOwnT, c_rOwn, c_rPtr, c_nilV, c_nilO, c_objC, c_dropC, c_intC, c_boolC, c_strC, c_tsC, c_isC, c_issC, c_ssC, c_bsC, c_anyC, c_nilC, c_arrTs, c_arrIs, c_arrIss, c_arrSs, c_arrBs, ik_self, nb_self, cond_true, cond_false, rTerm_tm, T.eta, mk_k, mk_n, mk_kids, Option.bind_none, Bool.not_true, Bool.not_false, Bool.true_and, Bool.and_true, Bool.and_false, Bool.false_and, Bool.and_self, decide_true, decide_false, show ¬ (5 : Int) = 1 by decide, show ¬ (5 : Int) = 2 by decide, show ¬ (5 : Int) = 3 by decide, show ¬ (5 : Int) = 4 by decide, if_false]
  | snd h h' =>
    have e : redexT t = 6 := by simp [redexT, h, h']
    have h2 : opsOf t.k = (1 : Nat) := by rw [h]; rfl
    have v0 := vk (i := 0) h2 (by omega)
    have h3 : opsOf (kd t 0).k = (3 : Nat) := by rw [h']; rfl
    rw [con_snd h]
    simp only [e, if_true, gk (i := 0) h2 (by omega), kid_get (t := kd t 0) (i := 2) (by rw [ops_len v0 h3]; omega), cp (valid_kd v0 (i := 2) h3 (by omega)), Option.bind_some, c_rInt, c_rBool, c_rStr, c_rTs, c_rIs, c_rIss, c_rSs, c_rBs, c_rTerm, c_rOwnT, c_rOwn, c_rPtr, c_nilV, c_nilO, c_objC, c_dropC, c_intC, c_boolC, c_strC, c_tsC, c_isC, c_issC, c_ssC, c_bsC, c_anyC, c_nilC, c_arrTs, c_arrIs, c_arrIss, c_arrSs, c_arrBs, ik_self, nb_self, cond_true, cond_false, rTerm_tm, T.eta, mk_k, mk_n, mk_kids, Option.bind_none, Bool.not_true, Bool.not_false, Bool.true_and, Bool.and_true, Bool.and_false, Bool.false_and, Bool.and_self, decide_true, decide_false, show ¬ (6 : Int) = 1 by decide, show ¬ (6 : Int) = 2 by decide, show ¬ (6 : Int) = 3 by decide, show ¬ (6 : Int) = 4 by decide, show ¬ (6 : Int) = 5 by decide, if_false]
/-! Ways. -/
abbrev ins (w : List Nat) : List Int := w.map fun i : Nat => (i : Int)
theorem redex0 {t : T} : (redexT t = 0) ↔ ¬ Rx t := by rw [← rx_iff]; simp
mutual
theorem wy_len {inn : Bool} : ∀ {t : T} {w : List Nat}, wyT inn t = some w → w.length ≤ t.size
  | .mk k n ts, w, h => by
    rw [wyT] at h
    rw [T.size]
    split at h
    · obtain rfl := Option.some.inj h; simp
    · split at h
      · rename_i w' hw
        obtain rfl := Option.some.inj h
        have := wy_lenL hw; omega
      · split at h
        · obtain rfl := Option.some.inj h; simp
        · cases h
theorem wy_lenL {inn : Bool} : ∀ {ts : List T} {j : Nat} {w : List Nat}, wyL inn j ts = some w → w.length ≤ 1 + T.sizeL ts
  | [], j, w, h => by cases h
  | t :: ts, j, w, h => by
    rw [wyL] at h
    rw [T.sizeL]
    split at h
    · rename_i v hv
      obtain rfl := Option.some.inj h
      have := wy_len hv
      simp only [List.length_cons]; omega
    · have := wy_lenL h; omega
end
end Go.Proofs.Ythjbllfcelkajaa
