/- Applications taken apart: the reference by the abstract run, the program by walks. -/
import Derived.Test.YthjbllfcelkajaaVal
set_option linter.unusedVariables false
set_option linter.unusedSimpArgs false
namespace Go.Proofs.Ythjbllfcelkajaa
open Go Go.Ab
open Go.Dk (Rd HT Grow T)
def saT : Nat → T → List T → T × List T
  | 0, t, acc => (t, acc)
  | g + 1, t, acc => if t.k = 5 then saT g (kd t 0) (kd t 1 :: acc) else (t, acc)
def saR (t : T) : (T × List T) × Bool := if validB t = true then (saT 400 t [], true) else ((.mk 0 0 [], []), false)
theorem app_kids {t : T} (h : validB t = true) (hk : t.k = 5) : t.kids = [kd t 0, kd t 1] ∧ validB (kd t 0) = true ∧ validB (kd t 1) = true ∧ (kd t 0).size + (kd t 1).size < t.size := by
  have h1 := (validB_ops h).1
  rw [hk, show opsOf 5 = 2 from by decide] at h1
  obtain ⟨a, b, hab⟩ : ∃ a b, t.kids = [a, b] := by
    match hh : t.kids, h1 with
    | [a, b], _ => exact ⟨a, b, rfl⟩
  have e0 : kd t 0 = a := by unfold kd; rw [hab]; rfl
  have e1 : kd t 1 = b := by unfold kd; rw [hab]; rfl
  rw [e0, e1]
  refine ⟨hab, validB_kid h (by rw [hab]; simp), validB_kid h (by rw [hab]; simp), ?_⟩
  rw [Go.Dk.T.size_eq t, hab]; simp only [Go.Dk.T.sizeL]; omega
theorem sa_valid : ∀ (g : Nat) (t : T) (acc : List T), validB t = true → (∀ u ∈ acc, validB u = true) → validB (saT g t acc).1 = true ∧ (∀ u ∈ (saT g t acc).2, validB u = true) ∧ Go.Dk.T.sizeL (saT g t acc).2 ≤ t.size + Go.Dk.T.sizeL acc ∧ (saT g t acc).2.length ≤ g + acc.length
  | 0, t, acc, h, ha => ⟨h, ha, by show Go.Dk.T.sizeL acc ≤ _; omega, by show acc.length ≤ _; omega⟩
  | g + 1, t, acc, h, ha => by
    rw [saT]
    by_cases hk : t.k = 5
    · obtain ⟨h1, h2, h3, h4⟩ := app_kids h hk
      rw [if_pos hk]
      obtain ⟨i1, i2, i3, i4⟩ := sa_valid g (kd t 0) (kd t 1 :: acc) h2 (by intro u hu; rcases List.mem_cons.1 hu with rfl | hu; exact h3; exact ha u hu)
      simp only [Go.Dk.T.sizeL, List.length_cons] at i3 i4
      exact ⟨i1, i2, by omega, by omega⟩
    · rw [if_neg hk]; exact ⟨h, ha, by show Go.Dk.T.sizeL acc ≤ _; omega, by show acc.length ≤ _; omega⟩
theorem sas_loop (n : Nat) (hn : 20000 ≤ n) (z1 z2 : Int) (l0 : List T) : ∀ g m (t : T) (acc : List T), g < m → t.size ≤ g → validB t = true → acc.length + g ≤ 1000 →
    L_spec_SplitApp_0_fo n m t.k t.n t.kids z1 z2 l0 acc = some ([tm (saT g t acc).1, tms (saT g t acc).2, bl true], [])
  | g, 0, t, acc, hg, _, _, _ => by omega
  | 0, m + 1, t, acc, _, hz, _, _ => by have := size_pos t; omega
  | g + 1, m + 1, t, acc, hg, hz, hv, hl => by
    have hs := validB_size hv
    rw [L_spec_SplitApp_0_fo_eq, saT]
    by_cases hk : t.k = 5
    · obtain ⟨h1, h2, h3, h4⟩ := app_kids hv hk
      rw [decide_eq_true hk, if_pos hk]
      have g1 : t.kids[(1 : Int).toNat]? = some (kd t 1) := by rw [h1]; rfl
      have g0 : t.kids[(0 : Int).toNat]? = some (kd t 0) := by rw [h1]; rfl
      simp only [cond_true, g1, g0, Option.bind_some]
      rw [f_l1Copy _ (by have := size_pos (kd t 0); omega) (by omega)]
      simp only [Option.bind_some, c_rInt, c_rBool, c_rStr, c_rTs, c_rIs, c_rIss, c_rSs, c_rBs, c_rTerm, c_rOwnT, c_rOwn, c_rPtr, c_nilV, c_nilO, c_objC, c_dropC, c_intC, c_boolC, c_strC, c_tsC, c_isC, c_issC, c_ssC, c_bsC, c_anyC, c_nilC, c_arrTs, c_arrIs, c_arrIss, c_arrSs, c_arrBs, ik_self, nb_self, cond_true, cond_false, rTerm_tm, T.eta, mk_k, mk_n, mk_kids, Option.bind_none, Bool.not_true, Bool.not_false, Bool.true_and, Bool.and_true, Bool.and_false, Bool.false_and, Bool.and_self, decide_true, decide_false]
      rw [roomB_ok (by simp; omega)]
      simp only [cond_true]
      have := size_pos (kd t 1)
      exact sas_loop n hn z1 z2 l0 g m (kd t 0) (kd t 1 :: acc) (by omega) (by omega) h2 (by simp; omega)
    · rw [decide_eq_false hk, if_neg hk]
      simp only [cond_false]
      rw [f_l1Copy t (by omega) (by omega)]
      simp only [Option.bind_some, c_rInt, c_rBool, c_rStr, c_rTs, c_rIs, c_rIss, c_rSs, c_rBs, c_rTerm, c_rOwnT, c_rOwn, c_rPtr, c_nilV, c_nilO, c_objC, c_dropC, c_intC, c_boolC, c_strC, c_tsC, c_isC, c_issC, c_ssC, c_bsC, c_anyC, c_nilC, c_arrTs, c_arrIs, c_arrIss, c_arrSs, c_arrBs, ik_self, nb_self, cond_true, cond_false, rTerm_tm, T.eta, mk_k, mk_n, mk_kids, Option.bind_none, Bool.not_true, Bool.not_false, Bool.true_and, Bool.and_true, Bool.and_false, Bool.false_and, Bool.and_self, decide_true, decide_false]
theorem f_SplitAppS {n : Nat} {t : T} (hn : 4000000 ≤ n) (hz : t.size ≤ 1048577) : FF n 22 [tm t] [] = some ([tm (saR t).1.1, tms (saR t).1.2, bl (saR t).2], []) := by
  obtain ⟨n, rfl⟩ := pos_succ (show 0 < n by omega)
  rw [E_spec_SplitApp, f_TermValidS (by omega) (by omega)]
  unfold saR
  simp only [Option.bind_some, c_rInt, c_rBool, c_rStr, c_rTs, c_rIs, c_rIss, c_rSs, c_rBs, c_rTerm, c_rOwnT, c_rOwn, c_rPtr, c_nilV, c_nilO, c_objC, c_dropC, c_intC, c_boolC, c_strC, c_tsC, c_isC, c_issC, c_ssC, c_bsC, c_anyC, c_nilC, c_arrTs, c_arrIs, c_arrIss, c_arrSs, c_arrBs, ik_self, nb_self, cond_true, cond_false, rTerm_tm, T.eta, mk_k, mk_n, mk_kids, Option.bind_none, Bool.not_true, Bool.not_false, Bool.true_and, Bool.and_true, Bool.and_false, Bool.false_and, Bool.and_self, decide_true, decide_false]
  cases hv : validB t with
  | false => rfl
  | true =>
    simp only [Bool.not_true, cond_false, if_true]
    exact sas_loop n (by omega) _ _ [] 400 n t [] (by omega) (validB_size hv) hv (by simp)
theorem s_SplitApp (t : HT) (x : T) (et : t.er = x) (Z : Go.Dk.Zone) (w : World) (hr : Rd Z w t) (hs : T.sizeL x.kids ≤ 1048576) : Calls Try.prog 22 #[t.val] w fun e w' =>
    ∃ v u : HT, e = .returned (.tuple #[v.val, u.sl, .bool (saR x).2]) ∧ Grow w w' ∧ Rd (newZ Z w) w' v ∧ v.er = (saR x).1.1 ∧ Rd (newZ Z w) w' u ∧ u.er = .mk 0 0 (saR x).1.2 := by
  subst et
  exact ab_term_terms_bool Try.func22 (by kernel_rfl) (All2.cons (term_arg' hr) All2.nil) (f_SplitAppS (n := 4000000) (by omega) (sizeT hs))
theorem saR_bd (t : T) : Go.Dk.T.sizeL (saR t).1.1.kids ≤ 1000000 ∧ Go.Dk.T.sizeL (saR t).1.2 ≤ 1000000 := by
  unfold saR
  by_cases hv : validB t = true
  · rw [if_pos hv]
    obtain ⟨h1, h2, h3, _⟩ := sa_valid 400 t [] hv (by simp)
    have h4 := validB_size h1
    have h5 := Go.Dk.T.size_eq (saT 400 t []).1
    have h6 := validB_size hv
    simp only [Go.Dk.T.sizeL] at h3
    exact ⟨by show Go.Dk.T.sizeL (saT 400 t []).1.kids ≤ 1000000; omega, by show Go.Dk.T.sizeL (saT 400 t []).2 ≤ 1000000; omega⟩
  · rw [if_neg hv]; exact ⟨by decide, by decide⟩
end Go.Proofs.Ythjbllfcelkajaa
namespace Go.Dk
open Go
theorem res0 {P : Program} {fn : Func} {tmps : List Value} {w : World} (h : fn.results = #[]) : (results fn tmps.toArray).run P w = .ok (.tuple #[]) w := by
  rw [results_eq, h]
  simp [Sem.run_bind]
theorem flat_set {R : List Value} : ∀ (vs : List HT) (i : Nat) (u : HT), i < vs.length → putL (flatT vs ++ R) (i * 3) [.int .i64 u.k, .int .i64 u.n, .slice u.a u.kids.length u.cap] = flatT (vs.set i u) ++ R := by
  intro vs i u hi
  have e : vs = vs.take i ++ vs[i] :: vs.drop (i + 1) := by
    rw [← List.drop_eq_getElem_cons hi, List.take_append_drop]
  have e2 : vs.set i u = vs.take i ++ u :: vs.drop (i + 1) := by
    rw [List.set_eq_take_append_cons_drop, if_pos hi]
  have hl : (flatT (vs.take i)).length = i * 3 := by rw [flatT_length, List.length_take, Nat.min_eq_left (by omega)]
  have h := putL_at (flatT (vs.take i)) (flatT (vs.drop (i + 1)) ++ R) [.int .i64 u.k, .int .i64 u.n, .slice u.a u.kids.length u.cap] [.int .i64 vs[i].k, .int .i64 vs[i].n, vs[i].sl] rfl
  rw [hl] at h
  rw [e2]
  conv => lhs; rw [e]
  rw [flatT_append, flatT_append, flatT_cons, flatT_cons, List.append_assoc, List.append_assoc]
  exact h
theorem flat_get {R : List Value} {vs : List HT} {i : Nat} {u : HT} (h : vs[i]? = some u) : (flatT vs ++ R)[i * 3]? = some (.int .i64 u.k) ∧ (flatT vs ++ R)[i * 3 + 1]? = some (.int .i64 u.n) ∧ (flatT vs ++ R)[i * 3 + 2]? = some (.slice u.a u.kids.length u.cap) := by
  have hi := (List.getElem?_eq_some_iff.1 h).1
  have e : vs = vs.take i ++ u :: vs.drop (i + 1) := by
    have := (List.getElem?_eq_some_iff.1 h).2
    rw [← this, ← List.drop_eq_getElem_cons hi, List.take_append_drop]
  have hl : (flatT (vs.take i)).length = i * 3 := by rw [flatT_length, List.length_take, Nat.min_eq_left (by omega)]
  rw [e, flatT_append, flatT_cons, List.append_assoc]
  refine ⟨?_, ?_, ?_⟩
  · rw [List.getElem?_append_right (by omega), hl, Nat.sub_self]; rfl
  · rw [List.getElem?_append_right (by omega), hl, show i * 3 + 1 - i * 3 = 1 by omega]; rfl
  · rw [List.getElem?_append_right (by omega), hl, show i * 3 + 2 - i * 3 = 2 by omega]; rfl
theorem kidsR_perm {ts us : List HT} (h : ts.Perm us) {w : World} (ho : (kidsR ts).own w) : (kidsR us).own w ∧ ∀ b, (kidsR us).foot b ↔ (kidsR ts).foot b := by
  have hb : (HT.blocksL ts).Perm (HT.blocksL us) := by
    have e : ∀ l : List HT, HT.blocksL l = l.flatMap HT.blocks := fun l => by
      induction l with
      | nil => rfl
      | cons x l ih => simp only [HT.blocksL, List.flatMap_cons, ih]
    rw [e, e]
    exact h.flatMap_right _
  refine ⟨⟨fun t ht => ho.1 t (h.mem_iff.2 ht), hb.nodup_iff.1 ho.2.1, fun b hb' => ho.2.2 b (hb.mem_iff.2 hb')⟩, fun b => (hb.mem_iff).symm⟩
theorem St.permKids {w0 w : World} {M Z0 : Zone} {L : List Res} {φ : Fact} {ts us : List HT} (h : St w0 M Z0 (kidsR ts :: L) φ w) (hp : ts.Perm us) : St w0 M Z0 (kidsR us :: L) φ w :=
  h.recast (kidsR_local us) (fun b hb => ((kidsR_perm hp (h.own _ (List.mem_cons_self ..))).2 b).1 hb) (fun ho => (kidsR_perm hp ho).1)
end Go.Dk
namespace Go.Proofs.Ythjbllfcelkajaa
open Go Go.Dk
set_option maxRecDepth 100000 in
set_option maxHeartbeats 1000000 in
theorem i_Reverse (us : List HT) (hl : us.length ≤ 1000000) (a : Option Addr) (c : Nat) (w : World) (ho : (rowR 33 3 (.slice a us.length c) us.length (flatT us)).own w) (hb : ∀ b, (Value.slice a us.length c).ownBlock = some b → b < w.heap.size) :
    Calls Try.prog 65 #[.slice a us.length c] w fun e w' => e = .returned (.tuple #[]) ∧ (rowR 33 3 (.slice a us.length c) us.length (flatT us.reverse)).own w' ∧ Ext (fun b => (Value.slice a us.length c).ownBlock = some b) w w' := by
  have ho' : w.ownsRow 0 _ 3 (.slice a us.length c) us.length (flatT us) := ho
  obtain ⟨h1, ⟨hv, h0⟩ | ⟨g, cap, cur, hv, hg, hc, hle, hmax, hsz, htk⟩⟩ := ho'
  · injection hv with ha _ hcc
    subst ha hcc
    have hus : us = [] := List.length_eq_zero_iff.1 h0
    subst hus
    have H := St.init w noneZ noneZ Stable.true trivial
    go_enter Try.func65, Try.ntmps65
    repeat' ((first | (refine T_nil ?_) | ((first | apply U0 | (apply U1; (case hd => decide +kernel)) | (apply U2 (hw := H); (case hd => decide +kernel)) | (apply U3 1; (case hp => rfl); (case hd => decide +kernel)) | (apply U3 2; (case hp => rfl); (case hd => decide +kernel)) | (apply U3 3; (case hp => rfl); (case hd => decide +kernel)) | (apply U3 4; (case hp => rfl); (case hd => decide +kernel)) | (apply U3 5; (case hp => rfl); (case hd => decide +kernel)) | (apply U3 6; (case hp => rfl); (case hd => decide +kernel)) | (apply U3 7; (case hp => rfl); (case hd => decide +kernel)) | (apply U3 8; (case hp => rfl); (case hd => decide +kernel)) | (apply U3 9; (case hp => rfl); (case hd => decide +kernel)) | (apply U3 10; (case hp => rfl); (case hd => decide +kernel)) | (apply U3 11; (case hp => rfl); (case hd => decide +kernel))); (case hg => rfl); (case hy => (first | (apply Yi.a; constructor; all_goals (first | rfl | (constructor <;> omega) | (apply CellIs.own; (case h => repeat constructor); rfl) | (apply Cell3.own; (case h => repeat constructor); all_goals rfl))) | (apply Yi.b; constructor; all_goals (first | rfl | (constructor <;> omega) | (apply CellIs.own; (case h => repeat constructor); rfl) | (apply Cell3.own; (case h => repeat constructor); all_goals rfl))) | (apply Yi.c; constructor; all_goals (first | rfl | (constructor <;> omega) | (apply CellIs.own; (case h => repeat constructor); rfl) | (apply Cell3.own; (case h => repeat constructor); all_goals rfl)))))) | ((first | apply V0 | apply V1 | apply V2 (hw := H)); (case hg => rfl); try decide +kernel) | ((first | refine G0 H ?_ | (refine G1 H (fun _ _ _ _ h => h) (by decide +kernel) ?_; clear H; intro _ H)); simp only [enum, Nat.reduceAdd]) | (apply B0 (hw := H); (case hg => rfl); (case hd => first | exact hd_false | decide +kernel); (case hx => rfl); (case hc => rfl); clear H; intro bx _ H) | (apply B1 (hw := H); (case hg => rfl); (case hd => first | exact hd_false | decide +kernel); clear H; intro ax _ H) | go_step | (apply X0; (case hy => rfl); all_goals (intro hb; simp only [hb]; (try simp only [decide_eq_true_eq, decide_eq_false_iff_not, Bool.not_eq_true', Bool.not_eq_false', Bool.and_eq_true, Bool.or_eq_true, Bool.and_eq_false_iff, Bool.or_eq_false_iff] at hb); try (exfalso; omega)))) <;> try simp only [List.getElem_toArray, List.getElem_cons_zero, List.getElem_cons_succ, Act.put, evalT, evalC, evalF, List.setIfInBounds_toArray, List.set_cons_succ, List.set_cons_zero, List.getD_cons_succ, List.getD_cons_zero, Nat.reduceAdd, Nat.reduceMul, Nat.add_zero, Nat.zero_add, Int.toNat_natCast, Int.reduceToNat, List.eraseIdx_cons_succ, List.eraseIdx_cons_zero, cond_true, cond_false])
    go_loopg [2, 3] 0 (fun g v1 v2 wr => v1 = .int .i64 0 ∧ v2 = .int .i64 (-1) ∧ St w noneZ noneZ [] trueF wr)
    case atStart => exact ⟨rfl, rfl, H⟩
    case round =>
      clear H
      obtain ⟨rfl, rfl, H⟩ := hrel
      repeat' ((first | (refine T_nil ?_) | ((first | apply U0 | (apply U1; (case hd => decide +kernel)) | (apply U2 (hw := H); (case hd => decide +kernel)) | (apply U3 1; (case hp => rfl); (case hd => decide +kernel)) | (apply U3 2; (case hp => rfl); (case hd => decide +kernel)) | (apply U3 3; (case hp => rfl); (case hd => decide +kernel)) | (apply U3 4; (case hp => rfl); (case hd => decide +kernel)) | (apply U3 5; (case hp => rfl); (case hd => decide +kernel)) | (apply U3 6; (case hp => rfl); (case hd => decide +kernel)) | (apply U3 7; (case hp => rfl); (case hd => decide +kernel)) | (apply U3 8; (case hp => rfl); (case hd => decide +kernel)) | (apply U3 9; (case hp => rfl); (case hd => decide +kernel)) | (apply U3 10; (case hp => rfl); (case hd => decide +kernel)) | (apply U3 11; (case hp => rfl); (case hd => decide +kernel))); (case hg => rfl); (case hy => (first | (apply Yi.a; constructor; all_goals (first | rfl | (constructor <;> omega) | (apply CellIs.own; (case h => repeat constructor); rfl) | (apply Cell3.own; (case h => repeat constructor); all_goals rfl))) | (apply Yi.b; constructor; all_goals (first | rfl | (constructor <;> omega) | (apply CellIs.own; (case h => repeat constructor); rfl) | (apply Cell3.own; (case h => repeat constructor); all_goals rfl))) | (apply Yi.c; constructor; all_goals (first | rfl | (constructor <;> omega) | (apply CellIs.own; (case h => repeat constructor); rfl) | (apply Cell3.own; (case h => repeat constructor); all_goals rfl)))))) | ((first | apply V0 | apply V1 | apply V2 (hw := H)); (case hg => rfl); try decide +kernel) | ((first | refine G0 H ?_ | (refine G1 H (fun _ _ _ _ h => h) (by decide +kernel) ?_; clear H; intro _ H)); simp only [enum, Nat.reduceAdd]) | (apply B0 (hw := H); (case hg => rfl); (case hd => first | exact hd_false | decide +kernel); (case hx => rfl); (case hc => rfl); clear H; intro bx _ H) | (apply B1 (hw := H); (case hg => rfl); (case hd => first | exact hd_false | decide +kernel); clear H; intro ax _ H) | go_step | (apply X0; (case hy => rfl); all_goals (intro hb; simp only [hb]; (try simp only [decide_eq_true_eq, decide_eq_false_iff_not, Bool.not_eq_true', Bool.not_eq_false', Bool.and_eq_true, Bool.or_eq_true, Bool.and_eq_false_iff, Bool.or_eq_false_iff] at hb); try (exfalso; omega)))) <;> try simp only [List.getElem_toArray, List.getElem_cons_zero, List.getElem_cons_succ, Act.put, evalT, evalC, evalF, List.setIfInBounds_toArray, List.set_cons_succ, List.set_cons_zero, List.getD_cons_succ, List.getD_cons_zero, Nat.reduceAdd, Nat.reduceMul, Nat.add_zero, Nat.zero_add, Int.toNat_natCast, Int.reduceToNat, List.eraseIdx_cons_succ, List.eraseIdx_cons_zero, cond_true, cond_false])
      refine end_post (res0 rfl) ⟨rfl, ?_, (H.ext).weak (fun _ _ h => h.elim)⟩
      exact World.ownsRow_nil wr 0 _ 3
  · injection hv with ha _ hcc
    subst ha hcc
    have hgo : (Value.slice (some ⟨g, 0, none⟩) us.length c).ownBlock = some g := rfl
    have hgb := hb g hgo
    have hx : (blk g (flatT us ++ cur.toList.drop (us.length * 3)) 33).own w := by
      show w.heap[g]? = _
      rw [hc, ← htk, List.take_append_drop]
    generalize hR : cur.toList.drop (us.length * 3) = R at hx
    have H := St.init1 w (fun b => (Value.slice (some ⟨g, 0, none⟩) us.length c).ownBlock = some b) noneZ Stable.true trivial (blk_local g _ _) hx (fun b hb' => by cases hb'; exact ⟨hgo, hgb⟩) (fun b _ h => h)
    have hRl : (flatT us ++ R).length = c * 3 := by rw [← hR, ← htk, List.take_append_drop, Array.length_toList, hsz]
    go_enter Try.func65, Try.ntmps65
    repeat' ((first | (refine T_nil ?_) | ((first | apply U0 | (apply U1; (case hd => decide +kernel)) | (apply U2 (hw := H); (case hd => decide +kernel)) | (apply U3 1; (case hp => rfl); (case hd => decide +kernel)) | (apply U3 2; (case hp => rfl); (case hd => decide +kernel)) | (apply U3 3; (case hp => rfl); (case hd => decide +kernel)) | (apply U3 4; (case hp => rfl); (case hd => decide +kernel)) | (apply U3 5; (case hp => rfl); (case hd => decide +kernel)) | (apply U3 6; (case hp => rfl); (case hd => decide +kernel)) | (apply U3 7; (case hp => rfl); (case hd => decide +kernel)) | (apply U3 8; (case hp => rfl); (case hd => decide +kernel)) | (apply U3 9; (case hp => rfl); (case hd => decide +kernel)) | (apply U3 10; (case hp => rfl); (case hd => decide +kernel)) | (apply U3 11; (case hp => rfl); (case hd => decide +kernel))); (case hg => rfl); (case hy => (first | (apply Yi.a; constructor; all_goals (first | rfl | (constructor <;> omega) | (apply CellIs.own; (case h => repeat constructor); rfl) | (apply Cell3.own; (case h => repeat constructor); all_goals rfl))) | (apply Yi.b; constructor; all_goals (first | rfl | (constructor <;> omega) | (apply CellIs.own; (case h => repeat constructor); rfl) | (apply Cell3.own; (case h => repeat constructor); all_goals rfl))) | (apply Yi.c; constructor; all_goals (first | rfl | (constructor <;> omega) | (apply CellIs.own; (case h => repeat constructor); rfl) | (apply Cell3.own; (case h => repeat constructor); all_goals rfl)))))) | ((first | apply V0 | apply V1 | apply V2 (hw := H)); (case hg => rfl); try decide +kernel) | ((first | refine G0 H ?_ | (refine G1 H (fun _ _ _ _ h => h) (by decide +kernel) ?_; clear H; intro _ H)); simp only [enum, Nat.reduceAdd]) | (apply B0 (hw := H); (case hg => rfl); (case hd => first | exact hd_false | decide +kernel); (case hx => rfl); (case hc => rfl); clear H; intro bx _ H) | (apply B1 (hw := H); (case hg => rfl); (case hd => first | exact hd_false | decide +kernel); clear H; intro ax _ H) | go_step | (apply X0; (case hy => rfl); all_goals (intro hb; simp only [hb]; (try simp only [decide_eq_true_eq, decide_eq_false_iff_not, Bool.not_eq_true', Bool.not_eq_false', Bool.and_eq_true, Bool.or_eq_true, Bool.and_eq_false_iff, Bool.or_eq_false_iff] at hb); try (exfalso; omega)))) <;> try simp only [List.getElem_toArray, List.getElem_cons_zero, List.getElem_cons_succ, Act.put, evalT, evalC, evalF, List.setIfInBounds_toArray, List.set_cons_succ, List.set_cons_zero, List.getD_cons_succ, List.getD_cons_zero, Nat.reduceAdd, Nat.reduceMul, Nat.add_zero, Nat.zero_add, Int.toNat_natCast, Int.reduceToNat, List.eraseIdx_cons_succ, List.eraseIdx_cons_zero, cond_true, cond_false])
    go_loopg [2, 3] us.length (fun gg v1 v2 wr => ∃ (i : Nat) (vs : List HT), v1 = .int .i64 i ∧ v2 = .int .i64 ((us.length : Int) - 1 - i) ∧ i + gg = us.length ∧ 2 * i ≤ us.length + 1 ∧ vs.length = us.length ∧ (∀ m, m < us.length → vs[m]? = if m < i ∨ us.length - i ≤ m then us[us.length - 1 - m]? else us[m]?) ∧
      St w (fun b => (Value.slice (some ⟨g, 0, none⟩) us.length c).ownBlock = some b) noneZ [blk g (flatT vs ++ R) 33] trueF wr)
    case atStart => exact ⟨0, us, rfl, by simp, by omega, by omega, rfl, fun m hm => by rw [if_neg (by omega)], H⟩
    case round =>
      clear H
      obtain ⟨i, vs, rfl, rfl, hi, h2i, hvl, hvm, H⟩ := hrel
      by_cases hlt : (i : Int) < (us.length : Int) - 1 - i
      · obtain ⟨j, hj⟩ : ∃ j : Nat, j = us.length - 1 - i := ⟨_, rfl⟩
        have ej : ((us.length : Int) - 1 - i) = (j : Int) := by omega
        rw [ej] at hlt ⊢
        have hu : vs[i]? = some vs[i] := List.getElem?_eq_getElem (by omega)
        have hv : vs[j]? = some vs[j] := List.getElem?_eq_getElem (by omega)
        generalize vs[i] = u at hu
        generalize vs[j] = v at hv
        have fu := flat_get (R := R) hu
        have fv := flat_get (R := R) hv
        have hvl2 : (flatT vs ++ R).length = c * 3 := by rw [List.length_append, flatT_length, hvl, ← flatT_length, ← List.length_append]; exact hRl
        repeat' ((first | (refine T_nil ?_) | ((first | apply U0 | (apply U1; (case hd => decide +kernel)) | (apply U2 (hw := H); (case hd => decide +kernel)) | (apply U3 1; (case hp => rfl); (case hd => decide +kernel)) | (apply U3 2; (case hp => rfl); (case hd => decide +kernel)) | (apply U3 3; (case hp => rfl); (case hd => decide +kernel)) | (apply U3 4; (case hp => rfl); (case hd => decide +kernel)) | (apply U3 5; (case hp => rfl); (case hd => decide +kernel)) | (apply U3 6; (case hp => rfl); (case hd => decide +kernel)) | (apply U3 7; (case hp => rfl); (case hd => decide +kernel)) | (apply U3 8; (case hp => rfl); (case hd => decide +kernel)) | (apply U3 9; (case hp => rfl); (case hd => decide +kernel)) | (apply U3 10; (case hp => rfl); (case hd => decide +kernel)) | (apply U3 11; (case hp => rfl); (case hd => decide +kernel))); (case hg => rfl); (case hy => (first | (apply Yi.a; constructor; all_goals (first | rfl | (constructor <;> omega) | (apply CellIs.own; (case h => repeat constructor); rfl) | (apply Cell3.own; (case h => repeat constructor); all_goals rfl) | exact .own (by repeat constructor) fv.1 fv.2.1 fv.2.2 | exact .own (by repeat constructor) fu.1 fu.2.1 fu.2.2)) | (apply Yi.b; constructor; all_goals (first | rfl | (constructor <;> omega) | (apply CellIs.own; (case h => repeat constructor); rfl) | (apply Cell3.own; (case h => repeat constructor); all_goals rfl) | exact .own (by repeat constructor) fv.1 fv.2.1 fv.2.2 | exact .own (by repeat constructor) fu.1 fu.2.1 fu.2.2)) | (apply Yi.c; constructor; all_goals (first | rfl | (constructor <;> omega) | (apply CellIs.own; (case h => repeat constructor); rfl) | (apply Cell3.own; (case h => repeat constructor); all_goals rfl) | exact .own (by repeat constructor) fv.1 fv.2.1 fv.2.2 | exact .own (by repeat constructor) fu.1 fu.2.1 fu.2.2))))) | ((first | apply V0 | apply V1 | apply V2 (hw := H)); (case hg => rfl); try decide +kernel) | ((first | refine G0 H ?_ | (refine G1 H (fun _ _ _ _ h => h) (by decide +kernel) ?_; clear H; intro _ H)); simp only [enum, Nat.reduceAdd]) | (apply B0 (hw := H); (case hg => rfl); (case hd => first | exact hd_false | decide +kernel); (case hx => rfl); (case hc => rfl); clear H; intro bx _ H) | (apply B1 (hw := H); (case hg => rfl); (case hd => first | exact hd_false | decide +kernel); clear H; intro ax _ H) | ((apply W0 (hw := H); (case hg => rfl); (case hd => first | exact hd_false | decide +kernel); (case hx => rfl); (case hy => rfl); (case hc => rfl); (case hn => repeat constructor); (case h1 => (rw [Bool.and_eq_true]; exact ⟨rfl, (by rw [Nat.ble_eq]; simp only [putL, List.length_cons, List.length_nil, List.length_set]; omega)⟩)); clear H; intro _ H; (try dsimp only at H); try simp only [evalT, evalC, List.getD_cons_succ, List.getD_cons_zero] at H)) | go_step | (apply X0; (case hy => rfl); all_goals (intro hb; simp only [hb]; (try simp only [decide_eq_true_eq, decide_eq_false_iff_not, Bool.not_eq_true', Bool.not_eq_false', Bool.and_eq_true, Bool.or_eq_true, Bool.and_eq_false_iff, Bool.or_eq_false_iff] at hb); try (exfalso; omega)))) <;> try simp only [List.getElem_toArray, List.getElem_cons_zero, List.getElem_cons_succ, Act.put, evalT, evalC, evalF, List.setIfInBounds_toArray, List.set_cons_succ, List.set_cons_zero, List.getD_cons_succ, List.getD_cons_zero, Nat.reduceAdd, Nat.reduceMul, Nat.add_zero, Nat.zero_add, Int.toNat_natCast, Int.reduceToNat, List.eraseIdx_cons_succ, List.eraseIdx_cons_zero, cond_true, cond_false])
        go_roundg (gk - 1)
        case measure => omega
        case rel =>
          have hni : i ≠ j := by omega
          refine ⟨i + 1, (vs.set i v).set j u, by simp, by congr 1; omega, by omega, by omega, by simp [hvl], fun m hm => ?_, ?_⟩
          · have hmi := hvm i (by omega)
            have hmj := hvm j (by omega)
            rw [if_neg (by omega)] at hmi hmj
            rw [hu] at hmi
            rw [hv] at hmj
            by_cases h1 : m = j
            · subst h1
              rw [List.getElem?_set_self (by simp; omega), if_pos (by omega), show us.length - 1 - m = i by omega, hmi]
            · rw [List.getElem?_set_ne (by omega)]
              by_cases h2 : m = i
              · subst h2
                rw [List.getElem?_set_self (by omega), if_pos (by omega), show us.length - 1 - m = j by omega, hmj]
              · rw [List.getElem?_set_ne (by omega), hvm m hm]
                by_cases h3 : m < i ∨ us.length - i ≤ m
                · rw [if_pos h3, if_pos (by omega)]
                · rw [if_neg h3, if_neg (by omega)]
          · rw [← flat_set (R := R) (vs.set i v) j u (by simp; omega), ← flat_set (R := R) vs i v (by omega)]
            exact H
      · repeat' ((first | (refine T_nil ?_) | ((first | apply U0 | (apply U1; (case hd => decide +kernel)) | (apply U2 (hw := H); (case hd => decide +kernel)) | (apply U3 1; (case hp => rfl); (case hd => decide +kernel)) | (apply U3 2; (case hp => rfl); (case hd => decide +kernel)) | (apply U3 3; (case hp => rfl); (case hd => decide +kernel)) | (apply U3 4; (case hp => rfl); (case hd => decide +kernel)) | (apply U3 5; (case hp => rfl); (case hd => decide +kernel)) | (apply U3 6; (case hp => rfl); (case hd => decide +kernel)) | (apply U3 7; (case hp => rfl); (case hd => decide +kernel)) | (apply U3 8; (case hp => rfl); (case hd => decide +kernel)) | (apply U3 9; (case hp => rfl); (case hd => decide +kernel)) | (apply U3 10; (case hp => rfl); (case hd => decide +kernel)) | (apply U3 11; (case hp => rfl); (case hd => decide +kernel))); (case hg => rfl); (case hy => (first | (apply Yi.a; constructor; all_goals (first | rfl | (constructor <;> omega) | (apply CellIs.own; (case h => repeat constructor); rfl) | (apply Cell3.own; (case h => repeat constructor); all_goals rfl))) | (apply Yi.b; constructor; all_goals (first | rfl | (constructor <;> omega) | (apply CellIs.own; (case h => repeat constructor); rfl) | (apply Cell3.own; (case h => repeat constructor); all_goals rfl))) | (apply Yi.c; constructor; all_goals (first | rfl | (constructor <;> omega) | (apply CellIs.own; (case h => repeat constructor); rfl) | (apply Cell3.own; (case h => repeat constructor); all_goals rfl)))))) | ((first | apply V0 | apply V1 | apply V2 (hw := H)); (case hg => rfl); try decide +kernel) | ((first | refine G0 H ?_ | (refine G1 H (fun _ _ _ _ h => h) (by decide +kernel) ?_; clear H; intro _ H)); simp only [enum, Nat.reduceAdd]) | (apply B0 (hw := H); (case hg => rfl); (case hd => first | exact hd_false | decide +kernel); (case hx => rfl); (case hc => rfl); clear H; intro bx _ H) | (apply B1 (hw := H); (case hg => rfl); (case hd => first | exact hd_false | decide +kernel); clear H; intro ax _ H) | go_step | (apply X0; (case hy => rfl); all_goals (intro hb; simp only [hb]; (try simp only [decide_eq_true_eq, decide_eq_false_iff_not, Bool.not_eq_true', Bool.not_eq_false', Bool.and_eq_true, Bool.or_eq_true, Bool.and_eq_false_iff, Bool.or_eq_false_iff] at hb); try (exfalso; omega)))) <;> try simp only [List.getElem_toArray, List.getElem_cons_zero, List.getElem_cons_succ, Act.put, evalT, evalC, evalF, List.setIfInBounds_toArray, List.set_cons_succ, List.set_cons_zero, List.getD_cons_succ, List.getD_cons_zero, Nat.reduceAdd, Nat.reduceMul, Nat.add_zero, Nat.zero_add, Int.toNat_natCast, Int.reduceToNat, List.eraseIdx_cons_succ, List.eraseIdx_cons_zero, cond_true, cond_false])
        have hvs : vs = us.reverse := by
          apply List.ext_getElem?
          intro m
          by_cases hm : m < us.length
          · rw [hvm m hm, List.getElem?_reverse hm]
            split
            · rfl
            · rw [show us.length - 1 - m = m by omega]
          · rw [List.getElem?_eq_none (by omega), List.getElem?_eq_none (by simp; omega)]
        refine end_post (res0 rfl) ⟨rfl, ?_, H.ext⟩
        have hw : wr.heap[g]? = some (.cells (flatT vs ++ R).toArray _ (0, 0)) := H.own _ (List.mem_cons_self ..)
        refine ⟨by rw [flatT_length, List.length_reverse], .inr ⟨g, c, (flatT vs ++ R).toArray, rfl, Nat.zero_le _, hw, hle, hmax, ?_, ?_⟩⟩
        · rw [List.size_toArray, List.length_append, flatT_length, hvl, ← flatT_length, ← List.length_append]; exact hRl
        · show (flatT vs ++ R).take (us.length * 3) = _
          rw [List.take_append_of_le_length (by rw [flatT_length]; omega), List.take_of_length_le (by rw [flatT_length]; omega), hvs]
theorem row_lt {w : World} {E : TypeId} {sz : Nat} {v : Value} {n : Nat} {xs : List Value} (h : (rowR E sz v n xs).own w) : ∀ b, v.ownBlock = some b → b < w.heap.size := fun b hb => (World.ownsRow.lt (show w.ownsRow 0 E sz v n xs from h) b hb).2
set_option maxRecDepth 100000 in
set_option maxHeartbeats 1000000 in
theorem i_SplitApp (t : HT) (x : T) (et : t.er = x) (Z : Zone) (w : World) (hr : Rd Z w t) (hs : T.sizeL x.kids ≤ 1048576) : Calls Try.prog 24 #[t.val] w fun e w' =>
    ∃ v u : HT, e = .returned (.tuple #[v.val, u.sl, .bool (saR x).2]) ∧ Grow w w' ∧ Own2 w w' v u ∧ v.er = (saR x).1.1 ∧ u.er = .mk 0 0 (saR x).1.2 := by
  subst et
  have H := St.init w noneZ Z (rdF_stable t) hr
  go_enter Try.func24, Try.ntmps24
  repeat' ((first | (refine T_nil ?_) | ((first | apply U0 | (apply U1; (case hd => decide +kernel)) | (apply U2 (hw := H); (case hd => decide +kernel)) | (apply U3 1; (case hp => rfl); (case hd => decide +kernel)) | (apply U3 2; (case hp => rfl); (case hd => decide +kernel)) | (apply U3 3; (case hp => rfl); (case hd => decide +kernel)) | (apply U3 4; (case hp => rfl); (case hd => decide +kernel)) | (apply U3 5; (case hp => rfl); (case hd => decide +kernel)) | (apply U3 6; (case hp => rfl); (case hd => decide +kernel)) | (apply U3 7; (case hp => rfl); (case hd => decide +kernel)) | (apply U3 8; (case hp => rfl); (case hd => decide +kernel)) | (apply U3 9; (case hp => rfl); (case hd => decide +kernel)) | (apply U3 10; (case hp => rfl); (case hd => decide +kernel)) | (apply U3 11; (case hp => rfl); (case hd => decide +kernel))); (case hg => rfl); (case hy => (first | (apply Yi.a; constructor; all_goals (first | rfl | (constructor <;> omega) | (apply CellIs.own; (case h => repeat constructor); rfl) | (apply Cell3.own; (case h => repeat constructor); all_goals rfl))) | (apply Yi.b; constructor; all_goals (first | rfl | (constructor <;> omega) | (apply CellIs.own; (case h => repeat constructor); rfl) | (apply Cell3.own; (case h => repeat constructor); all_goals rfl))) | (apply Yi.c; constructor; all_goals (first | rfl | (constructor <;> omega) | (apply CellIs.own; (case h => repeat constructor); rfl) | (apply Cell3.own; (case h => repeat constructor); all_goals rfl)))))) | ((first | apply V0 | apply V1 | apply V2 (hw := H)); (case hg => rfl); try decide +kernel) | ((first | refine G0 H ?_ | (refine G1 H (fun _ _ _ _ h => h) (by decide +kernel) ?_; clear H; intro _ H)); simp only [enum, Nat.reduceAdd]) | (apply B0 (hw := H); (case hg => rfl); (case hd => first | exact hd_false | decide +kernel); (case hx => rfl); (case hc => rfl); clear H; intro bx _ H) | (apply B1 (hw := H); (case hg => rfl); (case hd => first | exact hd_false | decide +kernel); clear H; intro ax _ H) | ((apply W0 (hw := H); (case hg => rfl); (case hd => first | exact hd_false | decide +kernel); (case hx => rfl); (case hy => rfl); (case hc => rfl); (case hn => repeat constructor); (case h1 => rfl); clear H; intro _ H; (try dsimp only at H); try simp only [putL, List.set_cons_succ, List.set_cons_zero, evalT, evalC, List.getD_cons_succ, List.getD_cons_zero, Nat.zero_add, Nat.reduceAdd] at H)) | ((apply C0 (hw := H); (case hg => rfl); (case hd => first | exact hd_false | decide +kernel); (case hxs => rfl); (case hc => exact i_TermValid t _ _ H.per); clear H; intro _ H)) | go_step | (apply X0; (case hy => rfl); all_goals (intro hb; simp only [hb]; (try simp only [decide_eq_true_eq, decide_eq_false_iff_not, Bool.not_eq_true', Bool.not_eq_false', Bool.and_eq_true, Bool.or_eq_true, Bool.and_eq_false_iff, Bool.or_eq_false_iff] at hb); try (exfalso; omega)))) <;> try simp only [List.getElem_toArray, List.getElem_cons_zero, List.getElem_cons_succ, Act.put, evalT, evalC, evalF, List.setIfInBounds_toArray, List.set_cons_succ, List.set_cons_zero, List.getD_cons_succ, List.getD_cons_zero, Nat.reduceAdd, Nat.reduceMul, Nat.add_zero, Nat.zero_add, Int.toNat_natCast, Int.reduceToNat, List.eraseIdx_cons_succ, List.eraseIdx_cons_zero, cond_true, cond_false])
  · have hv : (!validB t.er) = true := by assumption
    simp only [Bool.not_eq_true'] at hv
    ((try simp only [Exit.inBlock, Exit.then]); refine ret_post (res3 rfl (R_cell rfl (load3 (ST3.out) (H.cell at0 rfl) (H.cell at0 rfl) (H.cell at0 rfl))) (R_tmp rfl) (R_tmp rfl)) ?_; try simp only [List.getD_cons_succ, List.getD_cons_zero])
    have e : saR t.er = ((.mk 0 0 [], []), false) := if_neg (by rw [hv]; simp)
    rw [e]
    refine ⟨.mk 0 0 none 0 [], .mk 0 0 none 0 [], rfl, H.ext, ⟨⟨(zero_own w _).own, (zero_own w _).own, fun b hb => ?_⟩, fun b hb => ?_⟩, rfl, rfl⟩ <;> simp [HT.blocks, HT.head, HT.blocksL] at hb
  have hv : (!validB t.er) = false := by assumption
  simp only [Bool.not_eq_false'] at hv
  have e : saR t.er = (saT 400 t.er [], true) := if_pos hv
  have hsz := validB_size hv
  have hsum0 := (sa_valid 400 t.er [] hv (by simp)).2.2.2
  have H := (H.pushRow 33 3).pushNone
  go_loopg [5] 400 (fun g s wr => ∃ (us : List HT) (sa : Option Addr) (sc : Nat) (u : HT), s = .slice sa us.length sc ∧ us.length + g = 400 ∧ validB u.er = true ∧ u.er.size ≤ g ∧ (∀ Z w, Rd Z w t → Rd Z w u) ∧ saT g u.er (us.reverse.map HT.er) = saT 400 t.er [] ∧
    St w noneZ Z [kidsR us, rowR 33 3 (.slice sa us.length sc) us.length (flatT us), blk ax [.int .i64 0, .int .i64 0, .slice none 0 0] 33, blk bx [.int .i64 u.k, .int .i64 u.n, .slice u.a u.kids.length u.cap] 33] (rdF t) wr)
  case atStart => exact ⟨[], _, _, t, rfl, rfl, hv, hsz, fun _ _ h => h, rfl, H⟩
  case round =>
    clear H
    obtain ⟨us, sa, sc, u, rfl, hi, hvu, hG, hsub, hspl, H⟩ := hrel
    match gk, hi, hG, hspl with
    | 0, hi, hG, hspl => have := size_pos u.er; omega
    | g + 1, hi, hG, hspl =>
      have hsu := validB_size hvu
      rw [saT] at hspl
      by_cases hk : u.k = 5
      · have hk' : u.er.k = 5 := by rw [HT.er_k]; exact hk
        obtain ⟨hkk, hva, hvb, hsab⟩ := app_kids hvu hk'
        rw [if_pos hk'] at hspl
        obtain ⟨x, y, hxy⟩ : ∃ x y, u.kids = [x, y] := by
          have hl : u.kids.length = 2 := by rw [← HT.er_len, hkk]; rfl
          match hh : u.kids, hl with
          | [x, y], _ => exact ⟨x, y, rfl⟩
        have e0 : kd u.er 0 = x.er := by unfold kd; rw [HT.er_kids, hxy]; rfl
        have e1 : kd u.er 1 = y.er := by unfold kd; rw [HT.er_kids, hxy]; rfl
        rw [e0, e1] at hspl hsab
        rw [e0] at hva
        rw [e1] at hvb
        have hx : u.kids[0]? = some x := by rw [hxy]; rfl
        have hy : u.kids[1]? = some y := by rw [hxy]; rfl
        have hl2 : ((u.kids.length : Nat) : Int) = 2 := by rw [hxy]; rfl
        obtain ⟨b, off, ha⟩ := (hsub _ _ hr).addr hx
        have hsy := validB_size hvb
        have hpy := size_pos y.er
        repeat' ((first | (refine T_nil ?_) | ((first | apply U0 | (apply U1; (case hd => decide +kernel)) | (apply U2 (hw := H); (case hd => decide +kernel)) | (apply U3 1; (case hp => rfl); (case hd => decide +kernel)) | (apply U3 2; (case hp => rfl); (case hd => decide +kernel)) | (apply U3 3; (case hp => rfl); (case hd => decide +kernel)) | (apply U3 4; (case hp => rfl); (case hd => decide +kernel)) | (apply U3 5; (case hp => rfl); (case hd => decide +kernel)) | (apply U3 6; (case hp => rfl); (case hd => decide +kernel)) | (apply U3 7; (case hp => rfl); (case hd => decide +kernel)) | (apply U3 8; (case hp => rfl); (case hd => decide +kernel)) | (apply U3 9; (case hp => rfl); (case hd => decide +kernel)) | (apply U3 10; (case hp => rfl); (case hd => decide +kernel)) | (apply U3 11; (case hp => rfl); (case hd => decide +kernel))); (case hg => rfl); (case hy => (first | (apply Yi.a; constructor; all_goals (first | rfl | (constructor <;> omega) | (apply CellIs.own; (case h => repeat constructor); rfl) | (apply Cell3.own; (case h => repeat constructor); all_goals rfl) | exact ha | exact .mk fun w h => (Rd.elem (hsub _ _ h.per) ha hx).1 | exact .mk fun w h => (Rd.elem (hsub _ _ h.per) ha hy).1)) | (apply Yi.b; constructor; all_goals (first | rfl | (constructor <;> omega) | (apply CellIs.own; (case h => repeat constructor); rfl) | (apply Cell3.own; (case h => repeat constructor); all_goals rfl) | exact ha | exact .mk fun w h => (Rd.elem (hsub _ _ h.per) ha hx).1 | exact .mk fun w h => (Rd.elem (hsub _ _ h.per) ha hy).1)) | (apply Yi.c; constructor; all_goals (first | rfl | (constructor <;> omega) | (apply CellIs.own; (case h => repeat constructor); rfl) | (apply Cell3.own; (case h => repeat constructor); all_goals rfl) | exact ha | exact .mk fun w h => (Rd.elem (hsub _ _ h.per) ha hx).1 | exact .mk fun w h => (Rd.elem (hsub _ _ h.per) ha hy).1))))) | ((first | apply V0 | apply V1 | apply V2 (hw := H)); (case hg => rfl); try decide +kernel) | ((first | refine G0 H ?_ | (refine G1 H (fun _ _ _ _ h => h) (by decide +kernel) ?_; clear H; intro _ H)); simp only [enum, Nat.reduceAdd]) | (apply B0 (hw := H); (case hg => rfl); (case hd => first | exact hd_false | decide +kernel); (case hx => rfl); (case hc => rfl); clear H; intro bx _ H) | (apply B1 (hw := H); (case hg => rfl); (case hd => first | exact hd_false | decide +kernel); clear H; intro ax _ H) | ((apply W0 (hw := H); (case hg => rfl); (case hd => first | exact hd_false | decide +kernel); (case hx => rfl); (case hy => rfl); (case hc => rfl); (case hn => repeat constructor); (case h1 => rfl); clear H; intro _ H; (try dsimp only at H); try simp only [putL, List.set_cons_succ, List.set_cons_zero, evalT, evalC, List.getD_cons_succ, List.getD_cons_zero, Nat.zero_add, Nat.reduceAdd] at H)) | ((apply C1; (case hg => rfl); (case hd => first | exact hd_false | decide +kernel); (case hxs => rfl); (case hc => exact i_own y _ _ (Rd.elem (hsub _ _ H.per) ha hy).2 (by omega)); rintro _ _ ⟨z, rfl, hgr, ho, hez⟩; replace H := H.pushTree hgr ho; (try simp only [List.set_cons_succ, List.set_cons_zero] at H); refine ⟨_, rfl, _, (by first | exact fun _ _ h => h | exact fun _ _ h => h.tail | exact nofun | exact fun _ _ h => h.unfact (by repeat' (first | exact Stable.true | exact rdF_stable _ | exact iF_stable _ _ | apply Stable.and)) (fun _ _ h => h.2)), H, ?_⟩)) | ((apply B2 (hw := H); (case hg => rfl); (case hd => first | exact hd_false | decide +kernel); (case hvs => (simp only [List.map_cons, List.map_nil, evalT, evalC, List.getD_cons_succ, List.getD_cons_zero]; rfl)); (case hcs => (simp only [flatC, List.flatMap_cons, List.flatMap_nil, Value.cells, HT.val, List.cons_append, List.nil_append, List.append_nil]; rfl)); (case hix => rfl); (case hn => rfl); (case hsz => rfl); (case hb => rfl); clear H; intro sx _ H)) | ((apply A1 (hw := H) (i := 3) (p := 0); (case hg => rfl); (case hd => first | exact hd_false | decide +kernel); (case hx => rfl); (case hy => rfl); (case hi => rfl); (case hq => rfl); (case hl => rfl); (case h1 => rfl); (case hbytes => omega); (case h63 => omega); clear H; intro ra rc _ H; (try simp only [List.set_cons_succ, List.set_cons_zero] at H))) | go_step | (apply X0; (case hy => rfl); all_goals (intro hb; simp only [hb]; (try simp only [decide_eq_true_eq, decide_eq_false_iff_not, Bool.not_eq_true', Bool.not_eq_false', Bool.and_eq_true, Bool.or_eq_true, Bool.and_eq_false_iff, Bool.or_eq_false_iff] at hb); try (exfalso; omega)))) <;> try simp only [List.getElem_toArray, List.getElem_cons_zero, List.getElem_cons_succ, Act.put, evalT, evalC, evalF, List.setIfInBounds_toArray, List.set_cons_succ, List.set_cons_zero, List.getD_cons_succ, List.getD_cons_zero, Nat.reduceAdd, Nat.reduceMul, Nat.add_zero, Nat.zero_add, Int.toNat_natCast, Int.reduceToNat, List.eraseIdx_cons_succ, List.eraseIdx_cons_zero, cond_true, cond_false])
        have H := H.tail.snoc
        go_roundg g
        case measure => omega
        case rel =>
          refine ⟨us ++ [z], ra, rc, x, by simp, by simp; omega, hva, by omega, fun Z w h => (Rd.elem (hsub Z w h) ha hx).2, ?_, by rw [flatT_append, List.length_append]; exact H⟩
          rw [← hspl, List.reverse_append]
          simp only [List.reverse_cons, List.reverse_nil, List.nil_append, List.cons_append, List.map_cons, hez]
      · have hk' : ¬ u.er.k = 5 := by rw [HT.er_k]; exact hk
        rw [if_neg hk'] at hspl
        repeat' ((first | (refine T_nil ?_) | ((first | apply U0 | (apply U1; (case hd => decide +kernel)) | (apply U2 (hw := H); (case hd => decide +kernel)) | (apply U3 1; (case hp => rfl); (case hd => decide +kernel)) | (apply U3 2; (case hp => rfl); (case hd => decide +kernel)) | (apply U3 3; (case hp => rfl); (case hd => decide +kernel)) | (apply U3 4; (case hp => rfl); (case hd => decide +kernel)) | (apply U3 5; (case hp => rfl); (case hd => decide +kernel)) | (apply U3 6; (case hp => rfl); (case hd => decide +kernel)) | (apply U3 7; (case hp => rfl); (case hd => decide +kernel)) | (apply U3 8; (case hp => rfl); (case hd => decide +kernel)) | (apply U3 9; (case hp => rfl); (case hd => decide +kernel)) | (apply U3 10; (case hp => rfl); (case hd => decide +kernel)) | (apply U3 11; (case hp => rfl); (case hd => decide +kernel))); (case hg => rfl); (case hy => (first | (apply Yi.a; constructor; all_goals (first | rfl | (constructor <;> omega) | (apply CellIs.own; (case h => repeat constructor); rfl) | (apply Cell3.own; (case h => repeat constructor); all_goals rfl))) | (apply Yi.b; constructor; all_goals (first | rfl | (constructor <;> omega) | (apply CellIs.own; (case h => repeat constructor); rfl) | (apply Cell3.own; (case h => repeat constructor); all_goals rfl))) | (apply Yi.c; constructor; all_goals (first | rfl | (constructor <;> omega) | (apply CellIs.own; (case h => repeat constructor); rfl) | (apply Cell3.own; (case h => repeat constructor); all_goals rfl)))))) | ((first | apply V0 | apply V1 | apply V2 (hw := H)); (case hg => rfl); try decide +kernel) | ((first | refine G0 H ?_ | (refine G1 H (fun _ _ _ _ h => h) (by decide +kernel) ?_; clear H; intro _ H)); simp only [enum, Nat.reduceAdd]) | (apply B0 (hw := H); (case hg => rfl); (case hd => first | exact hd_false | decide +kernel); (case hx => rfl); (case hc => rfl); clear H; intro bx _ H) | (apply B1 (hw := H); (case hg => rfl); (case hd => first | exact hd_false | decide +kernel); clear H; intro ax _ H) | ((apply W0 (hw := H); (case hg => rfl); (case hd => first | exact hd_false | decide +kernel); (case hx => rfl); (case hy => rfl); (case hc => rfl); (case hn => repeat constructor); (case h1 => rfl); clear H; intro _ H; (try dsimp only at H); try simp only [putL, List.set_cons_succ, List.set_cons_zero, evalT, evalC, List.getD_cons_succ, List.getD_cons_zero, Nat.zero_add, Nat.reduceAdd] at H)) | go_step | (apply X0; (case hy => rfl); all_goals (intro hb; simp only [hb]; (try simp only [decide_eq_true_eq, decide_eq_false_iff_not, Bool.not_eq_true', Bool.not_eq_false', Bool.and_eq_true, Bool.or_eq_true, Bool.and_eq_false_iff, Bool.or_eq_false_iff] at hb); try (exfalso; omega)))) <;> try simp only [List.getElem_toArray, List.getElem_cons_zero, List.getElem_cons_succ, Act.put, evalT, evalC, evalF, List.setIfInBounds_toArray, List.set_cons_succ, List.set_cons_zero, List.getD_cons_succ, List.getD_cons_zero, Nat.reduceAdd, Nat.reduceMul, Nat.add_zero, Nat.zero_add, Int.toNat_natCast, Int.reduceToNat, List.eraseIdx_cons_succ, List.eraseIdx_cons_zero, cond_true, cond_false])
        have hrow := H.own _ (List.mem_cons_of_mem _ (List.mem_cons_self ..))
        (apply C2; (case hg => rfl); (case hd => first | exact hd_false | decide +kernel); (case hxs => rfl); (case hc => exact i_Reverse us (by omega) sa sc _ hrow (row_lt hrow)); rintro _ _ ⟨rfl, hro, hrx⟩; (first | replace H := H.upd (n := 1) rfl hrx (rowR_local _ _ _ _ _) hro (fun b hb => ⟨.inl hb, row_lt hro b hb⟩)); (try simp only [List.set_cons_succ, List.set_cons_zero] at H); refine ⟨_, rfl, _, H, ?_⟩)
        have H := H.permKids (List.reverse_perm us).symm
        obtain ⟨a', cap', hv2, H⟩ := H.swap.plantRow rfl (List.length_reverse).symm 0 0
        injection hv2 with h1 h2 h3
        subst h1 h3
        repeat' ((first | (refine T_nil ?_) | ((first | apply U0 | (apply U1; (case hd => decide +kernel)) | (apply U2 (hw := H); (case hd => decide +kernel)) | (apply U3 1; (case hp => rfl); (case hd => decide +kernel)) | (apply U3 2; (case hp => rfl); (case hd => decide +kernel)) | (apply U3 3; (case hp => rfl); (case hd => decide +kernel)) | (apply U3 4; (case hp => rfl); (case hd => decide +kernel)) | (apply U3 5; (case hp => rfl); (case hd => decide +kernel)) | (apply U3 6; (case hp => rfl); (case hd => decide +kernel)) | (apply U3 7; (case hp => rfl); (case hd => decide +kernel)) | (apply U3 8; (case hp => rfl); (case hd => decide +kernel)) | (apply U3 9; (case hp => rfl); (case hd => decide +kernel)) | (apply U3 10; (case hp => rfl); (case hd => decide +kernel)) | (apply U3 11; (case hp => rfl); (case hd => decide +kernel))); (case hg => rfl); (case hy => (first | (apply Yi.a; constructor; all_goals (first | rfl | (constructor <;> omega) | (apply CellIs.own; (case h => repeat constructor); rfl) | (apply Cell3.own; (case h => repeat constructor); all_goals rfl))) | (apply Yi.b; constructor; all_goals (first | rfl | (constructor <;> omega) | (apply CellIs.own; (case h => repeat constructor); rfl) | (apply Cell3.own; (case h => repeat constructor); all_goals rfl))) | (apply Yi.c; constructor; all_goals (first | rfl | (constructor <;> omega) | (apply CellIs.own; (case h => repeat constructor); rfl) | (apply Cell3.own; (case h => repeat constructor); all_goals rfl)))))) | ((first | apply V0 | apply V1 | apply V2 (hw := H)); (case hg => rfl); try decide +kernel) | ((first | refine G0 H ?_ | (refine G1 H (fun _ _ _ _ h => h) (by decide +kernel) ?_; clear H; intro _ H)); simp only [enum, Nat.reduceAdd]) | (apply B0 (hw := H); (case hg => rfl); (case hd => first | exact hd_false | decide +kernel); (case hx => rfl); (case hc => rfl); clear H; intro bx _ H) | (apply B1 (hw := H); (case hg => rfl); (case hd => first | exact hd_false | decide +kernel); clear H; intro ax _ H) | ((apply W0 (hw := H); (case hg => rfl); (case hd => first | exact hd_false | decide +kernel); (case hx => rfl); (case hy => rfl); (case hc => rfl); (case hn => repeat constructor); (case h1 => rfl); clear H; intro _ H; (try dsimp only at H); try simp only [putL, List.set_cons_succ, List.set_cons_zero, evalT, evalC, List.getD_cons_succ, List.getD_cons_zero, Nat.zero_add, Nat.reduceAdd] at H)) | ((apply C1; (case hg => rfl); (case hd => first | exact hd_false | decide +kernel); (case hxs => rfl); (case hc => exact i_own u _ _ (hsub _ _ H.per) (by omega)); rintro _ _ ⟨z, rfl, hgr, ho, hez⟩; replace H := H.pushTree hgr ho; (try simp only [List.set_cons_succ, List.set_cons_zero] at H); refine ⟨_, rfl, _, (by first | exact fun _ _ h => h | exact fun _ _ h => h.tail | exact nofun | exact fun _ _ h => h.unfact (by repeat' (first | exact Stable.true | exact rdF_stable _ | exact iF_stable _ _ | apply Stable.and)) (fun _ _ h => h.2)), H, ?_⟩)) | go_step | (apply X0; (case hy => rfl); all_goals (intro hb; simp only [hb]; (try simp only [decide_eq_true_eq, decide_eq_false_iff_not, Bool.not_eq_true', Bool.not_eq_false', Bool.and_eq_true, Bool.or_eq_true, Bool.and_eq_false_iff, Bool.or_eq_false_iff] at hb); try (exfalso; omega)))) <;> try simp only [List.getElem_toArray, List.getElem_cons_zero, List.getElem_cons_succ, Act.put, evalT, evalC, evalF, List.setIfInBounds_toArray, List.set_cons_succ, List.set_cons_zero, List.getD_cons_succ, List.getD_cons_zero, Nat.reduceAdd, Nat.reduceMul, Nat.add_zero, Nat.zero_add, Int.toNat_natCast, Int.reduceToNat, List.eraseIdx_cons_succ, List.eraseIdx_cons_zero, cond_true, cond_false])
        ((try simp only [Exit.inBlock, Exit.then]); refine ret_post (res3 rfl (R_cell rfl (load3 (ST3.out) (H.cell at2 rfl) (H.cell at2 rfl) (H.cell at2 rfl))) (R_tmp rfl) (R_tmp rfl)) ?_; try simp only [List.getD_cons_succ, List.getD_cons_zero])
        rw [e]
        refine ⟨z, .mk 0 0 sa sc us.reverse, ?_, H.ext, H.outTwo, ?_, ?_⟩
        · simp only [HT.sl, HT.a, HT.kids, HT.cap, List.length_reverse]; rfl
        · rw [← hspl]; exact hez
        · rw [← hspl, HT.er_eq]; rfl
end Go.Proofs.Ythjbllfcelkajaa
