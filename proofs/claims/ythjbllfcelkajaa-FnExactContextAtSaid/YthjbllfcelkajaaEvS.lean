/- Shifts and substitutions in the abstract run. -/
import Derived.Test.YthjbllfcelkajaaEvT
set_option linter.unusedVariables false
set_option linter.unusedSimpArgs false
namespace Go.Proofs.Ythjbllfcelkajaa
open Go Go.Ab Go.Dk
theorem take_sh {a k : Int} {ts : List T} {c : Int} {i : Nat} (h : i < ts.length) : (shL a k 0 ts c).take i ++ [shT a ts[i] (c + under k i)] = (shL a k 0 ts c).take (i + 1) := by
  rw [← take_snoc (l := shL a k 0 ts c) (i := i) (by rw [sh_len]; exact h), sh_elem a k ts 0 i c h, Nat.zero_add]
theorem take_sb {u : T} {k : Int} {ts : List T} {x d : Int} {i : Nat} (h : i < ts.length) : (sbL u k 0 ts x d).take i ++ [sbT u ts[i] (x + under k i) (d + under k i)] = (sbL u k 0 ts x d).take (i + 1) := by
  rw [← take_snoc (l := sbL u k 0 ts x d) (i := i) (by rw [sb_len]; exact h), sb_elem u k ts 0 i x d h, Nat.zero_add]
theorem l2Shift_loop (n : Nat) (a c : Int) (k n0 : Int) (ts : List T) (z1 z2 : Int) (l : List T) (k1 n1 : Int) (hl : ts.length ≤ 1000000) (hc : 0 ≤ c ∧ c ≤ 1000000)
    (h : ∀ (j : Nat) (hj : j < ts.length), FF n 110 [tm ts[j], nt a, nt (c + under k j)] [] = some ([tm (shT a ts[j] (c + under k j))], [])) (hn : 2 ≤ n) :
    ∀ g m (i : Nat), g < m → i + g = ts.length → L_spec_l2Shift_0_foo n m a c i k n0 ts z1 z2 l k1 n1 ((shL a k 0 ts c).take i) = some ([tm (.mk k1 n1 (shL a k 0 ts c))], [])
  | g, 0, i, hg, _ => by omega
  | 0, m + 1, i, _, hi => by
    rw [L_spec_l2Shift_0_foo_eq]
    simp only [cond_dec, if_neg (show ¬ (i : Int) < ts.length by omega), List.take_of_length_le (show (shL a k 0 ts c).length ≤ i by rw [sh_len]; omega)]; rfl
  | g + 1, m + 1, i, hg, hi => by
    have hlt : i < ts.length := by omega
    have ub := under_bd k i
    have ht : ((shL a k 0 ts c).take i).length = i := by rw [List.length_take, sh_len]; omega
    rw [L_spec_l2Shift_0_foo_eq]; simp (disch := omega) only [Option.bind_some, c_rInt, c_rBool, c_rStr, c_rTs, c_rIs, c_rIss, c_rSs, c_rBs, c_rTerm, c_rOwnT, c_rOwn, c_rPtr, c_nilV, c_nilO, c_objC, c_dropC, c_intC, c_boolC, c_strC, c_tsC, c_isC, c_issC, c_ssC, c_bsC, c_anyC, c_nilC, c_arrTs, c_arrIs, c_arrIss, c_arrSs, c_arrBs, ik_self, nb_self, cond_true, cond_false, rTerm_tm, T.eta, mk_k, mk_n, mk_kids, Option.bind_none, Bool.not_true, Bool.not_false, Bool.true_and, Bool.and_true, Bool.and_false, Bool.false_and, Bool.and_self, decide_true, decide_false, cond_dec, Int.toNat_natCast, cast1, wrap64, roomB_ok, List.length_append, List.length_cons, List.length_nil, if_pos (show (i : Int) < ts.length by omega), if_pos (show 0 ≤ (i : Int) by omega), List.getElem?_eq_getElem hlt, f_l2Under, h i hlt, ht, take_sh hlt]
    exact l2Shift_loop n a c k n0 ts z1 z2 l k1 n1 hl hc h hn g m (i + 1) (by omega) (by omega)
theorem f_l2Shift (a : Int) (ha : -1000 ≤ a ∧ a ≤ 1000) (t : T) : ∀ {n : Nat}, t.size + 5 ≤ n → gdB t = true → ∀ c : Int, 0 ≤ c → c + t.size ≤ 1000000 → FF n 110 [tm t, nt a, nt c] [] = some ([tm (shT a t c)], []) := by
  induction t using T.ind with | h t ih =>
  intro n hn hg c h0 h1
  have hsz := T.size_eq t
  have hl := T.sizeL_len t.kids
  obtain ⟨n, rfl⟩ := pos_succ (show 0 < n by omega)
  obtain ⟨g0, g1, g2, g3⟩ := gd_out hg
  rw [E_spec_l2Shift]
  have key : ∀ k1 n1, L_spec_l2Shift_0_foo n n a c 0 t.k t.n t.kids 0 0 [] k1 n1 [] = some ([tm (.mk k1 n1 (shL a t.k 0 t.kids c))], []) := by
    intro k1 n1
    have := l2Shift_loop n a c t.k t.n t.kids 0 0 [] k1 n1 (by omega) ⟨h0, by omega⟩ (fun j hj => by
      have hm := List.getElem_mem hj
      have := T.sizeL_mem hm
      have ub := under_bd t.k j
      exact ih _ hm (by omega) (g3 _ hm) _ (by omega) (by omega)) (by omega) t.kids.length n 0 (by omega) (by omega)
    simpa using this
  have e : shT a t c = .mk t.k (if t.k = 1 ∧ c ≤ t.n then t.n + a else t.n) (shL a t.k 0 t.kids c) := by cases t; rfl
  simp (disch := omega) only [wrap64, key, cond_dec, e]
  by_cases hk : t.k = 1 <;> by_cases hc : c ≤ t.n <;> simp [hk, hc]
theorem l2Subst_loop (n : Nat) (u : T) (x d : Int) (k n0 : Int) (ts : List T) (z1 z2 : Int) (l : List T) (k1 n1 : Int) (hl : ts.length ≤ 1000000) (hx : 0 ≤ x ∧ x ≤ 1000000) (hd : 0 ≤ d ∧ d ≤ 1000000)
    (h : ∀ (j : Nat) (hj : j < ts.length), FF n 101 [tm ts[j], nt (x + under k j), tm u, nt (d + under k j)] [] = some ([tm (sbT u ts[j] (x + under k j) (d + under k j))], [])) (hn : 2 ≤ n) :
    ∀ g m (i : Nat), g < m → i + g = ts.length → L_spec_l2Subst_0_ffoo n m x d i k n0 ts u.k u.n u.kids z1 z2 l k1 n1 ((sbL u k 0 ts x d).take i) = some ([tm (.mk k1 n1 (sbL u k 0 ts x d))], [])
  | g, 0, i, hg, _ => by omega
  | 0, m + 1, i, _, hi => by
    rw [L_spec_l2Subst_0_ffoo_eq]
    simp only [cond_dec, if_neg (show ¬ (i : Int) < ts.length by omega), List.take_of_length_le (show (sbL u k 0 ts x d).length ≤ i by rw [sb_len]; omega)]; rfl
  | g + 1, m + 1, i, hg, hi => by
    have hlt : i < ts.length := by omega
    have ub := under_bd k i
    have ht : ((sbL u k 0 ts x d).take i).length = i := by rw [List.length_take, sb_len]; omega
    rw [L_spec_l2Subst_0_ffoo_eq]; simp (disch := omega) only [Option.bind_some, c_rInt, c_rBool, c_rStr, c_rTs, c_rIs, c_rIss, c_rSs, c_rBs, c_rTerm, c_rOwnT, c_rOwn, c_rPtr, c_nilV, c_nilO, c_objC, c_dropC, c_intC, c_boolC, c_strC, c_tsC, c_isC, c_issC, c_ssC, c_bsC, c_anyC, c_nilC, c_arrTs, c_arrIs, c_arrIss, c_arrSs, c_arrBs, ik_self, nb_self, cond_true, cond_false, rTerm_tm, T.eta, mk_k, mk_n, mk_kids, Option.bind_none, Bool.not_true, Bool.not_false, Bool.true_and, Bool.and_true, Bool.and_false, Bool.false_and, Bool.and_self, decide_true, decide_false, cond_dec, Int.toNat_natCast, cast1, wrap64, roomB_ok, List.length_append, List.length_cons, List.length_nil, if_pos (show (i : Int) < ts.length by omega), if_pos (show 0 ≤ (i : Int) by omega), List.getElem?_eq_getElem hlt, f_l2Under, h i hlt, ht, take_sb hlt]
    exact l2Subst_loop n u x d k n0 ts z1 z2 l k1 n1 hl hx hd h hn g m (i + 1) (by omega) (by omega)
theorem f_l2Subst (u : T) (hu : gdB u = true) (hus : u.size ≤ 1000) (t : T) : ∀ {n : Nat}, t.size + u.size + 10 ≤ n → gdB t = true → ∀ x d : Int, 0 ≤ x → x + t.size ≤ 100000 → 0 ≤ d → d + t.size ≤ 1000 → FF n 101 [tm t, nt x, tm u, nt d] [] = some ([tm (sbT u t x d)], []) := by
  induction t using T.ind with | h t ih =>
  intro n hn hg x d h0 h1 h2 h3
  have hsz := T.size_eq t
  have hl := T.sizeL_len t.kids
  obtain ⟨n, rfl⟩ := pos_succ (show 0 < n by omega)
  obtain ⟨g0, g1, g2, g3⟩ := gd_out hg
  rw [E_spec_l2Subst]
  have key : ∀ k1 n1, L_spec_l2Subst_0_ffoo n n x d 0 t.k t.n t.kids u.k u.n u.kids 0 0 [] k1 n1 [] = some ([tm (.mk k1 n1 (sbL u t.k 0 t.kids x d))], []) := by
    intro k1 n1
    have := l2Subst_loop n u x d t.k t.n t.kids 0 0 [] k1 n1 (by omega) ⟨h0, by omega⟩ ⟨h2, by omega⟩ (fun j hj => by
      have hm := List.getElem_mem hj
      have := T.sizeL_mem hm
      have ub := under_bd t.k j
      exact ih _ hm (by omega) (g3 _ hm) _ _ (by omega) (by omega) (by omega) (by omega)) (by omega) t.kids.length n 0 (by omega) (by omega)
    simpa using this
  have e : sbT u t x d = if t.k = 1 ∧ t.n = x then shT d u 0 else .mk t.k (if t.k = 1 ∧ x < t.n then t.n - 1 else t.n) (sbL u t.k 0 t.kids x d) := by cases t; rfl
  have hs := f_l2Shift d (by omega) u (n := n) (by omega) hu 0 (by omega) (by omega)
  have w := wrap64 (a := t.n - 1) (by omega)
  simp (disch := omega) only [w, key, cond_dec, e, hs, Option.bind_some, c_rInt, c_rBool, c_rStr, c_rTs, c_rIs, c_rIss, c_rSs, c_rBs, c_rTerm, c_rOwnT, c_rOwn, c_rPtr, c_nilV, c_nilO, c_objC, c_dropC, c_intC, c_boolC, c_strC, c_tsC, c_isC, c_issC, c_ssC, c_bsC, c_anyC, c_nilC, c_arrTs, c_arrIs, c_arrIss, c_arrSs, c_arrBs, ik_self, nb_self, cond_true, cond_false, rTerm_tm, T.eta, mk_k, mk_n, mk_kids, Option.bind_none, Bool.not_true, Bool.not_false, Bool.true_and, Bool.and_true, Bool.and_false, Bool.false_and, Bool.and_self, decide_true, decide_false]
  by_cases hk : t.k = 1
  · by_cases hc : t.n = x
    · simp [hk, hc]
    · by_cases hc2 : x < t.n <;> simp [hk, hc, hc2]
  · simp [hk]
/-! The program's. -/
theorem f_shift1 {n : Nat} (hn : 2 ≤ n) (v b c a : Int) (ok : Bool) (hv : 0 ≤ v ∧ v ≤ 20) (hb : 0 ≤ b ∧ b ≤ 1000000) (hc : 0 ≤ c ∧ c ≤ 1000000) (ha : -1000 ≤ a ∧ a ≤ 1000) :
    FF n 115 [nt v, nt b, .one (.ptr 0 0), .one (.ptr 1 0), .one (.ptr 2 0)] [.cells [.int .i64 c], .cells [.int .i64 a], .cells [.bool ok]] =
      some ([tm (.mk 1 (if c + b ≤ v then v + a else v) [])], [.cells [.int .i64 c], .cells [.int .i64 a], .cells [.bool (ok && (if c + b ≤ v then decide (c + b ≤ v + a) && decide (v + a ≤ 20) else true))]]) := by
  obtain ⟨n, rfl⟩ := pos_succ (show 0 < n by omega)
  rw [E_impl_shift_1]
  simp (disch := omega) only [wrap64, f_variable, Option.bind_some, c_rInt, c_rBool, c_rStr, c_rTs, c_rIs, c_rIss, c_rSs, c_rBs, c_rTerm, c_rOwnT, c_rOwn, c_rPtr, c_nilV, c_nilO, c_objC, c_dropC, c_intC, c_boolC, c_strC, c_tsC, c_isC, c_issC, c_ssC, c_bsC, c_anyC, c_nilC, c_arrTs, c_arrIs, c_arrIss, c_arrSs, c_arrBs, ik_self, nb_self, cond_true, cond_false, rTerm_tm, T.eta, mk_k, mk_n, mk_kids, Option.bind_none, Bool.not_true, Bool.not_false, Bool.true_and, Bool.and_true, Bool.and_false, Bool.false_and, Bool.and_self, decide_true, decide_false, cond_dec]
  have e1 : (c ≤ v - b) = (c + b ≤ v) := by apply propext; omega
  have e2 : (c ≤ v + a - b) = (c + b ≤ v + a) := by apply propext; omega
  simp only [e1, e2]
  by_cases h1 : c + b ≤ v
  · cases ok
    · simp [h1, mk_k, mk_n, mk_kids]
    · by_cases h2 : c + b ≤ v + a <;> simp [h1, h2, mk_k, mk_n, mk_kids]
  · simp [h1, mk_k, mk_n, mk_kids]
theorem changed_sh_loop (n : Nat) (b c a : Int) (k n0 : Int) (ts : List T) (l0 : List T) (z1 z2 : Int) (l : List T) (k1 n1 : Int) (hl : ts.length ≤ 1000000) (hb : 0 ≤ b ∧ b ≤ 1000000)
    (h : ∀ (j : Nat) (hj : j < ts.length) (ok : Bool), FF n 112 [tm ts[j], nt (b + under k j), .one (.fn 115 [0, 1, 2])] [.cells [.int .i64 c], .cells [.int .i64 a], .cells [.bool ok]] =
      some ([tm (shT a ts[j] (c + b + under k j))], [.cells [.int .i64 c], .cells [.int .i64 a], .cells [.bool (ok && okS a ts[j] (c + b + under k j))]])) (hn : 2 ≤ n) :
    ∀ g m (i : Nat) (ok : Bool), g < m → i + g = ts.length → L_impl_changed_impl_shift_1_0_foo n m b ts ts.length i c a ok k n0 l0 z1 z2 l k1 n1 ((shL a k 0 ts (c + b)).take i) =
      some ([tm (.mk k1 n1 (shL a k 0 ts (c + b)))], [.cells [.int .i64 c], .cells [.int .i64 a], .cells [.bool (ok && okSL a k i (ts.drop i) (c + b))]])
  | g, 0, i, ok, hg, _ => by omega
  | 0, m + 1, i, ok, _, hi => by
    rw [L_impl_changed_impl_shift_1_0_foo_eq, List.drop_of_length_le (by omega)]
    simp only [cond_dec, if_neg (show ¬ (i : Int) < ts.length by omega), List.take_of_length_le (show (shL a k 0 ts (c + b)).length ≤ i by rw [sh_len]; omega), okSL, Bool.and_true]; rfl
  | g + 1, m + 1, i, ok, hg, hi => by
    have hlt : i < ts.length := by omega
    have ub := under_bd k i
    have ht : ((shL a k 0 ts (c + b)).take i).length = i := by rw [List.length_take, sh_len]; omega
    rw [List.drop_eq_getElem_cons hlt, okSL]
    rw [L_impl_changed_impl_shift_1_0_foo_eq]; simp (disch := omega) only [Option.bind_some, c_rInt, c_rBool, c_rStr, c_rTs, c_rIs, c_rIss, c_rSs, c_rBs, c_rTerm, c_rOwnT, c_rOwn, c_rPtr, c_nilV, c_nilO, c_objC, c_dropC, c_intC, c_boolC, c_strC, c_tsC, c_isC, c_issC, c_ssC, c_bsC, c_anyC, c_nilC, c_arrTs, c_arrIs, c_arrIss, c_arrSs, c_arrBs, ik_self, nb_self, cond_true, cond_false, rTerm_tm, T.eta, mk_k, mk_n, mk_kids, Option.bind_none, Bool.not_true, Bool.not_false, Bool.true_and, Bool.and_true, Bool.and_false, Bool.false_and, Bool.and_self, decide_true, decide_false, cond_dec, Int.toNat_natCast, cast1, wrap64, roomB_ok, List.length_append, List.length_cons, List.length_nil, if_pos (show (i : Int) < ts.length by omega), if_pos (show 0 ≤ (i : Int) by omega), List.getElem?_eq_getElem hlt, f_under, h i hlt, ht, take_sh hlt]
    rw [changed_sh_loop n b c a k n0 ts l0 z1 z2 l k1 n1 hl hb h hn g m (i + 1) _ (by omega) (by omega), Bool.and_assoc]
theorem f_changed_sh (c a : Int) (hc : 0 ≤ c ∧ c ≤ 1000) (ha : -1000 ≤ a ∧ a ≤ 1000) (t : T) : ∀ {n : Nat}, t.size + 5 ≤ n → gdB t = true → ∀ b : Int, 0 ≤ b → b + t.size ≤ 100000 → ∀ ok : Bool,
    FF n 112 [tm t, nt b, .one (.fn 115 [0, 1, 2])] [.cells [.int .i64 c], .cells [.int .i64 a], .cells [.bool ok]] =
      some ([tm (shT a t (c + b))], [.cells [.int .i64 c], .cells [.int .i64 a], .cells [.bool (ok && okS a t (c + b))]]) := by
  induction t using T.ind with | h t ih =>
  intro n hn hg b h0 h1 ok
  have hsz := T.size_eq t
  have hl := T.sizeL_len t.kids
  obtain ⟨n, rfl⟩ := pos_succ (show 0 < n by omega)
  obtain ⟨g0, g1, g2, g3⟩ := gd_out hg
  rw [E_impl_changed_impl_shift_1]
  have e : shT a t (c + b) = .mk t.k (if t.k = 1 ∧ c + b ≤ t.n then t.n + a else t.n) (shL a t.k 0 t.kids (c + b)) := by cases t; rfl
  have e2 : okS a t (c + b) = if t.k = 1 then (if c + b ≤ t.n then decide (c + b ≤ t.n + a) && decide (t.n + a ≤ 20) else true) else okSL a t.k 0 t.kids (c + b) := by cases t; rfl
  by_cases hk : t.k = 1
  · simp (disch := omega) only [f_shift1, Option.bind_some, c_rInt, c_rBool, c_rStr, c_rTs, c_rIs, c_rIss, c_rSs, c_rBs, c_rTerm, c_rOwnT, c_rOwn, c_rPtr, c_nilV, c_nilO, c_objC, c_dropC, c_intC, c_boolC, c_strC, c_tsC, c_isC, c_issC, c_ssC, c_bsC, c_anyC, c_nilC, c_arrTs, c_arrIs, c_arrIss, c_arrSs, c_arrBs, ik_self, nb_self, cond_true, cond_false, rTerm_tm, T.eta, mk_k, mk_n, mk_kids, Option.bind_none, Bool.not_true, Bool.not_false, Bool.true_and, Bool.and_true, Bool.and_false, Bool.false_and, Bool.and_self, decide_true, decide_false, cond_dec, if_pos hk, e, e2]
    rw [g2 hk, hk]; simp [shL, mk_k, mk_n, mk_kids]
  · have := changed_sh_loop n b c a t.k t.n t.kids t.kids 0 0 [] t.k t.n (by omega) ⟨h0, by omega⟩ (fun j hj ok => by
      have hm := List.getElem_mem hj
      have := T.sizeL_mem hm
      have ub := under_bd t.k j
      have := ih _ hm (n := n) (by omega) (g3 _ hm) (b + under t.k j) (by omega) (by omega) ok
      rwa [← Int.add_assoc] at this) (by omega) t.kids.length n 0 ok (by omega) (by omega)
    simp only [cond_dec, if_neg hk, e, e2, hk, false_and, if_false]
    simpa using this
/-- What a shift hands back. -/
def shR (a : Int) (t : T) (c : Int) : T := if validB (shT a t c) then shT a t c else .mk 0 0 []
theorem f_shift {n : Nat} {t : T} {a c : Int} (hn : t.size + 10 ≤ n) (hg : gdB t = true) (hs : t.size ≤ 1000) (ha : 0 ≤ a ∧ a ≤ 1000) (hc : 0 ≤ c ∧ c ≤ 1000) :
    FF n 114 [tm t, nt a, nt c] [] = some ([tm (shR a t c), bl (validB (shT a t c))], []) := by
  obtain ⟨n, rfl⟩ := pos_succ (show 0 < n by omega)
  have h1 := f_changed_sh c a hc (by omega) t (n := n) (by omega) hg 0 (by omega) (by omega) true
  rw [Int.add_zero, Bool.true_and] at h1
  have h2 := f_valid (n := n) (t := shT a t c) (by rw [sh_size]; omega)
  rw [E_impl_shift, h1]
  simp only [Option.bind_some, c_rInt, c_rBool, c_rStr, c_rTs, c_rIs, c_rIss, c_rSs, c_rBs, c_rTerm, c_rOwnT, c_rOwn, c_rPtr, c_nilV, c_nilO, c_objC, c_dropC, c_intC, c_boolC, c_strC, c_tsC, c_isC, c_issC, c_ssC, c_bsC, c_anyC, c_nilC, c_arrTs, c_arrIs, c_arrIss, c_arrSs, c_arrBs, ik_self, nb_self, cond_true, cond_false, rTerm_tm, T.eta, mk_k, mk_n, mk_kids, Option.bind_none, Bool.not_true, Bool.not_false, Bool.true_and, Bool.and_true, Bool.and_false, Bool.false_and, Bool.and_self, decide_true, decide_false]
  have hv := okS_valid ha.1 t c
  cases hk : okS a t c with
  | false =>
    have : validB (shT a t c) = false := by
      cases hvv : validB (shT a t c) with
      | false => rfl
      | true => rw [hv hvv] at hk; cases hk
    simp [shR, this, mk_k, mk_n, mk_kids]
  | true =>
    simp only [Bool.not_true, cond_false, h2, Option.bind_some, c_rInt, c_rBool, c_rStr, c_rTs, c_rIs, c_rIss, c_rSs, c_rBs, c_rTerm, c_rOwnT, c_rOwn, c_rPtr, c_nilV, c_nilO, c_objC, c_dropC, c_intC, c_boolC, c_strC, c_tsC, c_isC, c_issC, c_ssC, c_bsC, c_anyC, c_nilC, c_arrTs, c_arrIs, c_arrIss, c_arrSs, c_arrBs, ik_self, nb_self, cond_true, cond_false, rTerm_tm, T.eta, mk_k, mk_n, mk_kids, Option.bind_none, Bool.not_true, Bool.not_false, Bool.true_and, Bool.and_true, Bool.and_false, Bool.false_and, Bool.and_self, decide_true, decide_false, shR]
theorem f_subst1 {n : Nat} {u : T} (hn : u.size + 12 ≤ n) (hg : gdB u = true) (hs : u.size ≤ 1000) (v b x : Int) (ok : Bool) (hv : 0 ≤ v ∧ v ≤ 20) (hb : 0 ≤ b ∧ b ≤ 1000) (hx : 0 ≤ x ∧ x ≤ 1000) :
    FF n 113 [nt v, nt b, .one (.ptr 0 0), .one (.ptr 1 0), .one (.ptr 2 0)] [.cells [.int .i64 x], .cells [.int .i64 u.k, .int .i64 u.n, .fr (.ts u.kids)], .cells [.bool ok]] =
      some ([tm (if v = x + b then shR b u 0 else .mk 1 (if x + b < v then v - 1 else v) [])], [.cells [.int .i64 x], .cells [.int .i64 u.k, .int .i64 u.n, .fr (.ts u.kids)], .cells [.bool (ok && (if v = x + b then validB (shT b u 0) else true))]]) := by
  obtain ⟨n, rfl⟩ := pos_succ (show 0 < n by omega)
  rw [E_impl_subst_1]
  have h1 := f_shift (n := n) (t := u) (a := b) (c := 0) (by omega) hg hs hb (by omega)
  simp (disch := omega) only [wrap64, f_variable, h1, Option.bind_some, c_rInt, c_rBool, c_rStr, c_rTs, c_rIs, c_rIss, c_rSs, c_rBs, c_rTerm, c_rOwnT, c_rOwn, c_rPtr, c_nilV, c_nilO, c_objC, c_dropC, c_intC, c_boolC, c_strC, c_tsC, c_isC, c_issC, c_ssC, c_bsC, c_anyC, c_nilC, c_arrTs, c_arrIs, c_arrIss, c_arrSs, c_arrBs, ik_self, nb_self, cond_true, cond_false, rTerm_tm, T.eta, mk_k, mk_n, mk_kids, Option.bind_none, Bool.not_true, Bool.not_false, Bool.true_and, Bool.and_true, Bool.and_false, Bool.false_and, Bool.and_self, decide_true, decide_false, cond_dec]
  have e1 : (v - b = x) = (v = x + b) := by apply propext; omega
  have e2 : (x < v - b) = (x + b < v) := by apply propext; omega
  simp only [e1, e2]
  by_cases h1 : v = x + b
  · cases ok <;> simp [h1]
  · by_cases h2 : x + b < v <;> simp [h1, h2, mk_k, mk_n, mk_kids]
mutual
/-- A substitution with what the program puts where a shift fails. -/
def sbX (u : T) : T → Int → Int → T
  | .mk k n ts, x, d => if k = 1 then (if n = x then shR d u 0 else .mk 1 (if x < n then n - 1 else n) []) else .mk k n (sbXL u k 0 ts x d)
def sbXL (u : T) (k : Int) : Nat → List T → Int → Int → List T
  | _, [], _, _ => []
  | i, t :: ts, x, d => sbX u t (x + under k i) (d + under k i) :: sbXL u k (i + 1) ts x d
end
mutual
theorem sbX_eq (u : T) : ∀ (t : T) (x d : Int), gdB t = true → okB u t x d = true → sbX u t x d = sbT u t x d
  | .mk k n ts, x, d, hg, h => by
    rw [okB] at h
    rw [sbX, sbT]
    obtain ⟨_, _, g2, g3⟩ := gd_out hg
    by_cases hk : k = 1
    · subst hk
      rw [if_pos rfl] at h
      rw [if_pos rfl]
      by_cases hn : n = x
      · rw [if_pos hn] at h
        rw [if_pos hn, if_pos ⟨rfl, hn⟩, shR, if_pos h]
      · have : ts = [] := g2 rfl
        subst this
        simp [hn, sbL]
    · rw [if_neg hk] at h
      rw [if_neg hk, if_neg (fun hh => hk hh.1), if_neg (fun hh => hk hh.1), sbX_eqL u k ts 0 x d g3 h]
theorem sbX_eqL (u : T) (k : Int) : ∀ (ts : List T) (i : Nat) (x d : Int), (∀ t ∈ ts, gdB t = true) → okBL u k i ts x d = true → sbXL u k i ts x d = sbL u k i ts x d
  | [], i, x, d, _, _ => rfl
  | t :: ts, i, x, d, hg, h => by
    rw [okBL, Bool.and_eq_true] at h
    rw [sbXL, sbL, sbX_eq u t _ _ (hg t (List.mem_cons_self ..)) h.1, sbX_eqL u k ts (i + 1) x d (fun v hv => hg v (List.mem_cons_of_mem _ hv)) h.2]
end
theorem sbX_len (u : T) (k : Int) : ∀ (ts : List T) (i : Nat) (x d : Int), (sbXL u k i ts x d).length = ts.length
  | [], i, x, d => rfl
  | t :: ts, i, x, d => by rw [sbXL, List.length_cons, List.length_cons, sbX_len u k ts]
theorem sbX_elem (u : T) (k : Int) : ∀ (ts : List T) (i j : Nat) (x d : Int) (h : j < ts.length), (sbXL u k i ts x d)[j]'(by rw [sbX_len]; exact h) = sbX u ts[j] (x + under k (i + j)) (d + under k (i + j))
  | t :: ts, i, 0, x, d, h => rfl
  | t :: ts, i, j + 1, x, d, h => by
    have := sbX_elem u k ts (i + 1) j x d (by simpa using h)
    simp only [sbXL, List.getElem_cons_succ]
    rw [this, show i + 1 + j = i + (j + 1) by omega]
theorem take_sbX {u : T} {k : Int} {ts : List T} {x d : Int} {i : Nat} (h : i < ts.length) : (sbXL u k 0 ts x d).take i ++ [sbX u ts[i] (x + under k i) (d + under k i)] = (sbXL u k 0 ts x d).take (i + 1) := by
  rw [← take_snoc (l := sbXL u k 0 ts x d) (i := i) (by rw [sbX_len]; exact h), sbX_elem u k ts 0 i x d h, Nat.zero_add]
theorem changed_sb_loop (n : Nat) (u : T) (b x : Int) (k n0 : Int) (ts : List T) (l0 : List T) (z1 z2 : Int) (l : List T) (k1 n1 : Int) (hl : ts.length ≤ 1000000) (hb : 0 ≤ b ∧ b ≤ 1000000)
    (h : ∀ (j : Nat) (hj : j < ts.length) (ok : Bool), FF n 112 [tm ts[j], nt (b + under k j), .one (.fn 113 [0, 1, 2])] [.cells [.int .i64 x], .cells [.int .i64 u.k, .int .i64 u.n, .fr (.ts u.kids)], .cells [.bool ok]] =
      some ([tm (sbX u ts[j] (x + b + under k j) (b + under k j))], [.cells [.int .i64 x], .cells [.int .i64 u.k, .int .i64 u.n, .fr (.ts u.kids)], .cells [.bool (ok && okB u ts[j] (x + b + under k j) (b + under k j))]])) (hn : 2 ≤ n) :
    ∀ g m (i : Nat) (ok : Bool), g < m → i + g = ts.length → L_impl_changed_impl_subst_1_0_ffoo n m b ts ts.length i x u.k u.n u.kids ok k n0 l0 z1 z2 l k1 n1 ((sbXL u k 0 ts (x + b) b).take i) =
      some ([tm (.mk k1 n1 (sbXL u k 0 ts (x + b) b))], [.cells [.int .i64 x], .cells [.int .i64 u.k, .int .i64 u.n, .fr (.ts u.kids)], .cells [.bool (ok && okBL u k i (ts.drop i) (x + b) b)]])
  | g, 0, i, ok, hg, _ => by omega
  | 0, m + 1, i, ok, _, hi => by
    rw [L_impl_changed_impl_subst_1_0_ffoo_eq, List.drop_of_length_le (by omega)]
    simp only [cond_dec, if_neg (show ¬ (i : Int) < ts.length by omega), List.take_of_length_le (show (sbXL u k 0 ts (x + b) b).length ≤ i by rw [sbX_len]; omega), okBL, Bool.and_true]; rfl
  | g + 1, m + 1, i, ok, hg, hi => by
    have hlt : i < ts.length := by omega
    have ub := under_bd k i
    have ht : ((sbXL u k 0 ts (x + b) b).take i).length = i := by rw [List.length_take, sbX_len]; omega
    rw [List.drop_eq_getElem_cons hlt, okBL]
    rw [L_impl_changed_impl_subst_1_0_ffoo_eq]; simp (disch := omega) only [Option.bind_some, c_rInt, c_rBool, c_rStr, c_rTs, c_rIs, c_rIss, c_rSs, c_rBs, c_rTerm, c_rOwnT, c_rOwn, c_rPtr, c_nilV, c_nilO, c_objC, c_dropC, c_intC, c_boolC, c_strC, c_tsC, c_isC, c_issC, c_ssC, c_bsC, c_anyC, c_nilC, c_arrTs, c_arrIs, c_arrIss, c_arrSs, c_arrBs, ik_self, nb_self, cond_true, cond_false, rTerm_tm, T.eta, mk_k, mk_n, mk_kids, Option.bind_none, Bool.not_true, Bool.not_false, Bool.true_and, Bool.and_true, Bool.and_false, Bool.false_and, Bool.and_self, decide_true, decide_false, cond_dec, Int.toNat_natCast, cast1, wrap64, roomB_ok, List.length_append, List.length_cons, List.length_nil, if_pos (show (i : Int) < ts.length by omega), if_pos (show 0 ≤ (i : Int) by omega), List.getElem?_eq_getElem hlt, f_under, h i hlt, ht, take_sbX hlt]
    rw [changed_sb_loop n u b x k n0 ts l0 z1 z2 l k1 n1 hl hb h hn g m (i + 1) _ (by omega) (by omega), Bool.and_assoc]
theorem f_changed_sb (u : T) (hu : gdB u = true) (hus : u.size ≤ 1000) (x : Int) (hx : 0 ≤ x ∧ x ≤ 1000) (t : T) : ∀ {n : Nat}, t.size + u.size + 15 ≤ n → gdB t = true → ∀ b : Int, 0 ≤ b → b + t.size ≤ 1000 → ∀ ok : Bool,
    FF n 112 [tm t, nt b, .one (.fn 113 [0, 1, 2])] [.cells [.int .i64 x], .cells [.int .i64 u.k, .int .i64 u.n, .fr (.ts u.kids)], .cells [.bool ok]] =
      some ([tm (sbX u t (x + b) b)], [.cells [.int .i64 x], .cells [.int .i64 u.k, .int .i64 u.n, .fr (.ts u.kids)], .cells [.bool (ok && okB u t (x + b) b)]]) := by
  induction t using T.ind with | h t ih =>
  intro n hn hg b h0 h1 ok
  have hsz := T.size_eq t
  have hl := T.sizeL_len t.kids
  obtain ⟨n, rfl⟩ := pos_succ (show 0 < n by omega)
  obtain ⟨g0, g1, g2, g3⟩ := gd_out hg
  rw [E_impl_changed_impl_subst_1]
  have e : sbX u t (x + b) b = if t.k = 1 then (if t.n = x + b then shR b u 0 else .mk 1 (if x + b < t.n then t.n - 1 else t.n) []) else .mk t.k t.n (sbXL u t.k 0 t.kids (x + b) b) := by cases t; rfl
  have e2 : okB u t (x + b) b = if t.k = 1 then (if t.n = x + b then validB (shT b u 0) else true) else okBL u t.k 0 t.kids (x + b) b := by cases t; rfl
  by_cases hk : t.k = 1
  · simp (disch := first | omega | assumption) only [f_subst1, Option.bind_some, c_rInt, c_rBool, c_rStr, c_rTs, c_rIs, c_rIss, c_rSs, c_rBs, c_rTerm, c_rOwnT, c_rOwn, c_rPtr, c_nilV, c_nilO, c_objC, c_dropC, c_intC, c_boolC, c_strC, c_tsC, c_isC, c_issC, c_ssC, c_bsC, c_anyC, c_nilC, c_arrTs, c_arrIs, c_arrIss, c_arrSs, c_arrBs, ik_self, nb_self, cond_true, cond_false, rTerm_tm, T.eta, mk_k, mk_n, mk_kids, Option.bind_none, Bool.not_true, Bool.not_false, Bool.true_and, Bool.and_true, Bool.and_false, Bool.false_and, Bool.and_self, decide_true, decide_false, cond_dec, if_pos hk, e, e2]
  · have := changed_sb_loop n u b x t.k t.n t.kids t.kids 0 0 [] t.k t.n (by omega) ⟨h0, by omega⟩ (fun j hj ok => by
      have hm := List.getElem_mem hj
      have := T.sizeL_mem hm
      have ub := under_bd t.k j
      have := ih _ hm (n := n) (by omega) (g3 _ hm) (b + under t.k j) (by omega) (by omega) ok
      rwa [← Int.add_assoc] at this) (by omega) t.kids.length n 0 ok (by omega) (by omega)
    simp only [cond_dec, if_neg hk, e, e2]
    simpa using this
/-- What a substitution hands back. -/
def sbR (u t : T) (x : Int) : T := if validB (sbT u t x 0) then sbT u t x 0 else .mk 0 0 []
theorem f_subst {n : Nat} {t u : T} {x : Int} (hn : 2000000 ≤ n) (hg : gdB t = true) (hs : t.size ≤ 1000) (hu : gdB u = true) (hus : u.size ≤ 1000) (hx : 0 ≤ x ∧ x ≤ 1000) :
    FF n 111 [tm t, nt x, tm u] [] = some ([tm (sbR u t x), bl (validB (sbT u t x 0))], []) := by
  obtain ⟨n, rfl⟩ := pos_succ (show 0 < n by omega)
  have h1 := f_changed_sb u hu hus x hx t (n := n) (by omega) hg 0 (by omega) (by omega) true
  rw [Int.add_zero, Bool.true_and] at h1
  have hz := sb_size u t x 0
  have hz2 : t.size * u.size ≤ 1000 * 1000 := Nat.mul_le_mul hs hus
  rw [E_impl_subst, h1]
  simp only [Option.bind_some, c_rInt, c_rBool, c_rStr, c_rTs, c_rIs, c_rIss, c_rSs, c_rBs, c_rTerm, c_rOwnT, c_rOwn, c_rPtr, c_nilV, c_nilO, c_objC, c_dropC, c_intC, c_boolC, c_strC, c_tsC, c_isC, c_issC, c_ssC, c_bsC, c_anyC, c_nilC, c_arrTs, c_arrIs, c_arrIss, c_arrSs, c_arrBs, ik_self, nb_self, cond_true, cond_false, rTerm_tm, T.eta, mk_k, mk_n, mk_kids, Option.bind_none, Bool.not_true, Bool.not_false, Bool.true_and, Bool.and_true, Bool.and_false, Bool.false_and, Bool.and_self, decide_true, decide_false]
  have hv := okB_valid u t x 0
  cases hk : okB u t x 0 with
  | false =>
    have : validB (sbT u t x 0) = false := by
      cases hvv : validB (sbT u t x 0) with
      | false => rfl
      | true => rw [hv hvv] at hk; cases hk
    simp [sbR, this, mk_k, mk_n, mk_kids]
  | true =>
    rw [sbX_eq u t x 0 hg hk]
    have h2 := f_valid (n := n) (t := sbT u t x 0) (by omega)
    simp only [Bool.not_true, cond_false, h2, Option.bind_some, c_rInt, c_rBool, c_rStr, c_rTs, c_rIs, c_rIss, c_rSs, c_rBs, c_rTerm, c_rOwnT, c_rOwn, c_rPtr, c_nilV, c_nilO, c_objC, c_dropC, c_intC, c_boolC, c_strC, c_tsC, c_isC, c_issC, c_ssC, c_bsC, c_anyC, c_nilC, c_arrTs, c_arrIs, c_arrIss, c_arrSs, c_arrBs, ik_self, nb_self, cond_true, cond_false, rTerm_tm, T.eta, mk_k, mk_n, mk_kids, Option.bind_none, Bool.not_true, Bool.not_false, Bool.true_and, Bool.and_true, Bool.and_false, Bool.false_and, Bool.and_self, decide_true, decide_false, sbR]
end Go.Proofs.Ythjbllfcelkajaa
