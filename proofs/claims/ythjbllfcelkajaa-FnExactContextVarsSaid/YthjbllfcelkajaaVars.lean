/- The variables of a context: the reference by the abstract run, the program by a walk. -/
import Derived.Test.YthjbllfcelkajaaWrap
import Derived.Test.YthjbllfcelkajaaOwn
import Derived.Test.YthjbllfcelkajaaAbw
set_option linter.unusedVariables false
set_option linter.unusedSimpArgs false
namespace Go.Proofs.Ythjbllfcelkajaa
open Go Go.Ab
open Go.Dk (Rd HT Grow T)
def varsL : Nat → List T
  | 0 => []
  | n + 1 => .mk 1 n [] :: varsL n
theorem varsL_size : ∀ n, T.sizeL (varsL n) = n
  | 0 => rfl
  | n + 1 => by simp only [varsL, T.sizeL, T.size]; rw [varsL_size n]; omega
theorem varsL_len : ∀ n, (varsL n).length = n
  | 0 => rfl
  | n + 1 => by simp [varsL, varsL_len n]
theorem vars_loop (n : Nat) (hn : 1 ≤ n) : ∀ (k c : Nat) (acc : List T), k < c → k ≤ 8 → acc.length + k ≤ 8 → L_spec_ContextVars_0 n c ((k : Int) - 1) acc = some ([tms (acc ++ varsL k), bl true], [])
  | 0, c + 1, acc, _, _, _ => by
    rw [L_spec_ContextVars_0_eq, decide_eq_false (by omega)]
    simp only [varsL, List.append_nil, cond_false]
  | k + 1, c + 1, acc, hc, hk, hl => by
    rw [L_spec_ContextVars_0_eq, decide_eq_true (by omega), f_l1Leaf hn]
    have e1 : (((k + 1 : Nat) : Int) - 1) = k := by omega
    have e2 : ((k : Int) - 1) = (k : Int) - 1 := rfl
    simp only [Option.bind_some, c_rInt, c_rBool, c_rStr, c_rTs, c_rIs, c_rIss, c_rSs, c_rBs, c_rTerm, c_rOwnT, c_rOwn, c_rPtr, c_nilV, c_nilO, c_objC, c_dropC, c_intC, c_boolC, c_strC, c_tsC, c_isC, c_issC, c_ssC, c_bsC, c_anyC, c_nilC, c_arrTs, c_arrIs, c_arrIss, c_arrSs, c_arrBs, ik_self, nb_self, cond_true, cond_false, rTerm_tm, T.eta, mk_k, mk_n, mk_kids, Option.bind_none, Bool.not_true, Bool.not_false, Bool.true_and, Bool.and_true, Bool.and_false, Bool.false_and, Bool.and_self, decide_true, decide_false, e1]
    rw [wrap64 (by omega), roomB_ok (by simp; omega)]
    simp only [cond_true]
    rw [vars_loop n hn k c _ (by omega) (by omega) (by simp; omega)]
    simp [varsL]
def varsF (v : Int) : List T := if 0 ≤ v ∧ v ≤ 8 then varsL v.toNat else []
theorem f_ContextVarsS {n : Nat} (hn : 20 ≤ n) (v : Int) : FF n 16 [nt v] [] = some ([tms (varsF v), bl (decide (0 ≤ v ∧ v ≤ 8))], []) := by
  obtain ⟨n, rfl⟩ := pos_succ (show 0 < n by omega)
  rw [E_spec_ContextVars]
  unfold varsF
  by_cases h1 : v < 0
  · rw [decide_eq_true h1, if_neg (by omega), decide_eq_false (show ¬ (0 ≤ v ∧ v ≤ 8) by omega)]; rfl
  · by_cases h2 : 8 < v
    · rw [decide_eq_false h1, decide_eq_true h2, if_neg (by omega), decide_eq_false (show ¬ (0 ≤ v ∧ v ≤ 8) by omega)]; rfl
    · rw [decide_eq_false h1, decide_eq_false h2, if_pos (by omega), decide_eq_true (show 0 ≤ v ∧ v ≤ 8 by omega)]
      obtain ⟨k, rfl⟩ : ∃ k : Nat, v = k := ⟨v.toNat, by omega⟩
      simp only [cond_false]
      rw [wrap64 (by omega), vars_loop n (by omega) k n [] (by omega) (by omega) (by simp; omega)]
      simp
theorem s_ContextVars (v : Int) (Z : Go.Dk.Zone) (w : World) : Calls Try.prog 16 #[.int .i64 v] w fun e w' => ∃ u : HT, e = .returned (.tuple #[u.sl, .bool (decide (0 ≤ v ∧ v ≤ 8))]) ∧ Grow w w' ∧ Rd (newZ Z w) w' u ∧ u.er = .mk 0 0 (varsF v) :=
  ab_terms_bool Try.func16 (by kernel_rfl) (All2.cons int_arg' All2.nil) (f_ContextVarsS (n := 20) (by omega) v)
end Go.Proofs.Ythjbllfcelkajaa
namespace Go.Proofs.Ythjbllfcelkajaa
open Go Go.Dk
theorem leaf_own {u : HT} {k n : Int} (w : World) (h : u.er = .mk k n []) : (treeR u).own w ∧ u.blocks = [] ∧ u.kids = [] := by
  have hk : u.kids = [] := by
    have := HT.er_kids u
    rw [h] at this
    exact List.map_eq_nil_iff.1 this.symm
  have hb : u.blocks = [] := by rw [HT.blocks_eq, hk]; cases u.a <;> rfl
  refine ⟨⟨?_, by rw [hb]; exact List.nodup_nil, by rw [hb]; intro b hb; cases hb⟩, hb, hk⟩
  cases u with | mk k n a cap kids => simp only [HT.kids] at hk; subst hk; exact Rd_none
theorem leaf_Own {u : HT} {k n : Int} {w w' : World} (h : u.er = .mk k n []) : Own w w' u := by
  obtain ⟨h1, h2, _⟩ := leaf_own w' h
  exact ⟨h1, by rw [h2]; intro b hb; cases hb⟩
set_option maxRecDepth 100000 in
set_option maxHeartbeats 1000000 in
theorem i_ContextVars (v : Int) (w : World) : Calls Try.prog 17 #[.int .i64 v] w fun e w' => ∃ u : HT, e = .returned (.tuple #[u.sl, .bool (decide (0 ≤ v ∧ v ≤ 8))]) ∧ Grow w w' ∧ Own w w' u ∧ u.er = .mk 0 0 (varsF v) := by
  have H := St.init w noneZ noneZ Stable.true trivial
  go_enter Try.func17, Try.ntmps17
  repeat' ((first | (refine T_nil ?_) | ((first | apply U0 | (apply U1; (case hd => decide +kernel)) | (apply U2 (hw := H); (case hd => decide +kernel)) | (apply U3 1; (case hp => rfl); (case hd => decide +kernel)) | (apply U3 2; (case hp => rfl); (case hd => decide +kernel)) | (apply U3 3; (case hp => rfl); (case hd => decide +kernel)) | (apply U3 4; (case hp => rfl); (case hd => decide +kernel)) | (apply U3 5; (case hp => rfl); (case hd => decide +kernel)) | (apply U3 6; (case hp => rfl); (case hd => decide +kernel)) | (apply U3 7; (case hp => rfl); (case hd => decide +kernel)) | (apply U3 8; (case hp => rfl); (case hd => decide +kernel)) | (apply U3 9; (case hp => rfl); (case hd => decide +kernel)) | (apply U3 10; (case hp => rfl); (case hd => decide +kernel)) | (apply U3 11; (case hp => rfl); (case hd => decide +kernel))); (case hg => rfl); (case hy => (first | (apply Yi.a; constructor; all_goals (first | rfl | (constructor <;> omega) | (apply CellIs.own; (case h => repeat constructor); rfl) | (apply Cell3.own; (case h => repeat constructor); all_goals rfl))) | (apply Yi.b; constructor; all_goals (first | rfl | (constructor <;> omega) | (apply CellIs.own; (case h => repeat constructor); rfl) | (apply Cell3.own; (case h => repeat constructor); all_goals rfl))) | (apply Yi.c; constructor; all_goals (first | rfl | (constructor <;> omega) | (apply CellIs.own; (case h => repeat constructor); rfl) | (apply Cell3.own; (case h => repeat constructor); all_goals rfl)))))) | ((first | apply V0 | apply V1 | apply V2 (hw := H)); (case hg => rfl); try decide +kernel) | ((first | refine G0 H ?_ | (refine G1 H (fun _ _ _ _ h => h) (by decide +kernel) ?_; clear H; intro _ H)); simp only [enum, Nat.reduceAdd]) | (apply B0 (hw := H); (case hg => rfl); (case hd => first | exact hd_false | decide +kernel); (case hx => rfl); (case hc => rfl); clear H; intro bx _ H) | (apply B1 (hw := H); (case hg => rfl); (case hd => first | exact hd_false | decide +kernel); clear H; intro ax _ H) | ((apply C0 (hw := H); (case hg => rfl); (case hd => first | exact hd_false | decide +kernel); (case hxs => rfl); (case hc => exact i_within v 0 8 _); clear H; intro _ H)) | go_step | (apply X0; (case hy => rfl); all_goals (intro hb; simp only [hb]; (try simp only [decide_eq_true_eq, decide_eq_false_iff_not, Bool.not_eq_true', Bool.not_eq_false', Bool.and_eq_true, Bool.or_eq_true, Bool.and_eq_false_iff, Bool.or_eq_false_iff] at hb); try (exfalso; omega)))) <;> try simp only [List.getElem_toArray, List.getElem_cons_zero, List.getElem_cons_succ, Act.put, evalT, evalC, evalF, List.setIfInBounds_toArray, List.set_cons_succ, List.set_cons_zero, List.getD_cons_succ, List.getD_cons_zero, Nat.reduceAdd, Nat.reduceMul, Nat.add_zero, Nat.zero_add, Int.toNat_natCast, Int.reduceToNat, List.eraseIdx_cons_succ, List.eraseIdx_cons_zero, cond_true, cond_false])
  · have h : (!(decide (0 ≤ v) && decide (v ≤ 8))) = true := by assumption
    simp only [Bool.not_eq_true', Bool.and_eq_false_iff, decide_eq_false_iff_not] at h
    ((try simp only [Exit.inBlock, Exit.then]); refine ret_post (res2 rfl (R_tmp rfl) (R_tmp rfl)) ?_; try simp only [List.getD_cons_succ, List.getD_cons_zero])
    rw [decide_eq_false (show ¬ (0 ≤ v ∧ v ≤ 8) by omega), varsF, if_neg (by omega)]
    exact ⟨.mk 0 0 none 0 [], rfl, H.ext, leaf_Own (k := 0) (n := 0) rfl, rfl⟩
  have h : (!(decide (0 ≤ v) && decide (v ≤ 8))) = false := by assumption
  simp only [Bool.not_eq_false', Bool.and_eq_true, decide_eq_true_eq] at h
  obtain ⟨k, rfl⟩ : ∃ k : Nat, v = k := ⟨v.toNat, by omega⟩
  repeat' ((first | (refine T_nil ?_) | ((first | apply U0 | (apply U1; (case hd => decide +kernel)) | (apply U2 (hw := H); (case hd => decide +kernel)) | (apply U3 1; (case hp => rfl); (case hd => decide +kernel)) | (apply U3 2; (case hp => rfl); (case hd => decide +kernel)) | (apply U3 3; (case hp => rfl); (case hd => decide +kernel)) | (apply U3 4; (case hp => rfl); (case hd => decide +kernel)) | (apply U3 5; (case hp => rfl); (case hd => decide +kernel)) | (apply U3 6; (case hp => rfl); (case hd => decide +kernel)) | (apply U3 7; (case hp => rfl); (case hd => decide +kernel)) | (apply U3 8; (case hp => rfl); (case hd => decide +kernel)) | (apply U3 9; (case hp => rfl); (case hd => decide +kernel)) | (apply U3 10; (case hp => rfl); (case hd => decide +kernel)) | (apply U3 11; (case hp => rfl); (case hd => decide +kernel))); (case hg => rfl); (case hy => (first | (apply Yi.a; constructor; all_goals (first | rfl | (constructor <;> omega) | (apply CellIs.own; (case h => repeat constructor); rfl) | (apply Cell3.own; (case h => repeat constructor); all_goals rfl))) | (apply Yi.b; constructor; all_goals (first | rfl | (constructor <;> omega) | (apply CellIs.own; (case h => repeat constructor); rfl) | (apply Cell3.own; (case h => repeat constructor); all_goals rfl))) | (apply Yi.c; constructor; all_goals (first | rfl | (constructor <;> omega) | (apply CellIs.own; (case h => repeat constructor); rfl) | (apply Cell3.own; (case h => repeat constructor); all_goals rfl)))))) | ((first | apply V0 | apply V1 | apply V2 (hw := H)); (case hg => rfl); try decide +kernel) | ((first | refine G0 H ?_ | (refine G1 H (fun _ _ _ _ h => h) (by decide +kernel) ?_; clear H; intro _ H)); simp only [enum, Nat.reduceAdd]) | (apply B0 (hw := H); (case hg => rfl); (case hd => first | exact hd_false | decide +kernel); (case hx => rfl); (case hc => rfl); clear H; intro bx _ H) | (apply B1 (hw := H); (case hg => rfl); (case hd => first | exact hd_false | decide +kernel); clear H; intro ax _ H) | go_step | (apply X0; (case hy => rfl); all_goals (intro hb; simp only [hb]; (try simp only [decide_eq_true_eq, decide_eq_false_iff_not, Bool.not_eq_true', Bool.not_eq_false', Bool.and_eq_true, Bool.or_eq_true, Bool.and_eq_false_iff, Bool.or_eq_false_iff] at hb); try (exfalso; omega)))) <;> try simp only [List.getElem_toArray, List.getElem_cons_zero, List.getElem_cons_succ, Act.put, evalT, evalC, evalF, List.setIfInBounds_toArray, List.set_cons_succ, List.set_cons_zero, List.getD_cons_succ, List.getD_cons_zero, Nat.reduceAdd, Nat.reduceMul, Nat.add_zero, Nat.zero_add, Int.toNat_natCast, Int.reduceToNat, List.eraseIdx_cons_succ, List.eraseIdx_cons_zero, cond_true, cond_false])
  have H := (H.pushRow 33 3).pushNone
  go_loopg [4, 5] k (fun g s v wr => ∃ (us : List HT) (sa : Option Addr) (sc : Nat), s = .slice sa us.length sc ∧ v = .int .i64 ((g : Int) - 1) ∧ us.length + g = k ∧ us.map HT.er ++ varsL g = varsL k ∧
    St w noneZ noneZ [kidsR us, rowR 33 3 (.slice sa us.length sc) us.length (flatT us)] trueF wr)
  case atStart => exact ⟨[], _, _, rfl, rfl, by simp, rfl, H⟩
  case round =>
    clear H
    obtain ⟨us, sa, sc, rfl, rfl, hi, hsum, H⟩ := hrel
    match gk, hi, hsum with
    | g + 1, hi, hsum =>
      have e1 : (((g + 1 : Nat) : Int) - 1) = g := by omega
      rw [e1]
      repeat' ((first | (refine T_nil ?_) | ((first | apply U0 | (apply U1; (case hd => decide +kernel)) | (apply U2 (hw := H); (case hd => decide +kernel)) | (apply U3 1; (case hp => rfl); (case hd => decide +kernel)) | (apply U3 2; (case hp => rfl); (case hd => decide +kernel)) | (apply U3 3; (case hp => rfl); (case hd => decide +kernel)) | (apply U3 4; (case hp => rfl); (case hd => decide +kernel)) | (apply U3 5; (case hp => rfl); (case hd => decide +kernel)) | (apply U3 6; (case hp => rfl); (case hd => decide +kernel)) | (apply U3 7; (case hp => rfl); (case hd => decide +kernel)) | (apply U3 8; (case hp => rfl); (case hd => decide +kernel)) | (apply U3 9; (case hp => rfl); (case hd => decide +kernel)) | (apply U3 10; (case hp => rfl); (case hd => decide +kernel)) | (apply U3 11; (case hp => rfl); (case hd => decide +kernel))); (case hg => rfl); (case hy => (first | (apply Yi.a; constructor; all_goals (first | rfl | (constructor <;> omega) | (apply CellIs.own; (case h => repeat constructor); rfl) | (apply Cell3.own; (case h => repeat constructor); all_goals rfl))) | (apply Yi.b; constructor; all_goals (first | rfl | (constructor <;> omega) | (apply CellIs.own; (case h => repeat constructor); rfl) | (apply Cell3.own; (case h => repeat constructor); all_goals rfl))) | (apply Yi.c; constructor; all_goals (first | rfl | (constructor <;> omega) | (apply CellIs.own; (case h => repeat constructor); rfl) | (apply Cell3.own; (case h => repeat constructor); all_goals rfl)))))) | ((first | apply V0 | apply V1 | apply V2 (hw := H)); (case hg => rfl); try decide +kernel) | ((first | refine G0 H ?_ | (refine G1 H (fun _ _ _ _ h => h) (by decide +kernel) ?_; clear H; intro _ H)); simp only [enum, Nat.reduceAdd]) | (apply B0 (hw := H); (case hg => rfl); (case hd => first | exact hd_false | decide +kernel); (case hx => rfl); (case hc => rfl); clear H; intro bx _ H) | (apply B1 (hw := H); (case hg => rfl); (case hd => first | exact hd_false | decide +kernel); clear H; intro ax _ H) | ((apply C1; (case hg => rfl); (case hd => first | exact hd_false | decide +kernel); (case hxs => rfl); (case hc => exact i_variable (g : Int) _); rintro _ _ ⟨x, rfl, hg, _, he⟩; replace H := H.pushTree hg (leaf_Own he); (try simp only [List.set_cons_succ, List.set_cons_zero] at H); refine ⟨_, rfl, _, (by first | exact fun _ _ h => h | exact fun _ _ h => h.tail | exact nofun), H, ?_⟩)) | ((apply B2 (hw := H); (case hg => rfl); (case hd => first | exact hd_false | decide +kernel); (case hvs => (simp only [List.map_cons, List.map_nil, evalT, evalC, List.getD_cons_succ, List.getD_cons_zero]; rfl)); (case hcs => (simp only [flatC, List.flatMap_cons, List.flatMap_nil, Value.cells, HT.val, List.cons_append, List.nil_append, List.append_nil]; rfl)); (case hix => rfl); (case hn => rfl); (case hsz => rfl); (case hb => rfl); clear H; intro sx _ H)) | ((apply A1 (hw := H) (i := 3) (p := 0); (case hg => rfl); (case hd => first | exact hd_false | decide +kernel); (case hx => rfl); (case hy => rfl); (case hi => rfl); (case hq => rfl); (case hl => rfl); (case h1 => rfl); (case hbytes => omega); (case h63 => omega); clear H; intro ra rc _ H; (try simp only [List.set_cons_succ, List.set_cons_zero] at H))) | go_step | (apply X0; (case hy => rfl); all_goals (intro hb; simp only [hb]; (try simp only [decide_eq_true_eq, decide_eq_false_iff_not, Bool.not_eq_true', Bool.not_eq_false', Bool.and_eq_true, Bool.or_eq_true, Bool.and_eq_false_iff, Bool.or_eq_false_iff] at hb); try (exfalso; omega)))) <;> try simp only [List.getElem_toArray, List.getElem_cons_zero, List.getElem_cons_succ, Act.put, evalT, evalC, evalF, List.setIfInBounds_toArray, List.set_cons_succ, List.set_cons_zero, List.getD_cons_succ, List.getD_cons_zero, Nat.reduceAdd, Nat.reduceMul, Nat.add_zero, Nat.zero_add, Int.toNat_natCast, Int.reduceToNat, List.eraseIdx_cons_succ, List.eraseIdx_cons_zero, cond_true, cond_false])
      have H := H.tail.snoc
      go_roundg g
      case measure => omega
      case rel => exact ⟨us ++ [x], ra, rc, by simp, rfl, by simp; omega, by rw [List.map_append, List.append_assoc, List.map_cons, List.map_nil, he]; exact hsum, by rw [flatT_append, List.length_append]; exact H⟩
    | 0, hi, hsum =>
      obtain ⟨a, cap, hv, H⟩ := H.swap.plantRow rfl rfl 0 0
      injection hv with h1 h2 h3
      subst h1 h3
      simp only [varsL, List.append_nil] at hsum
      repeat' ((first | (refine T_nil ?_) | ((first | apply U0 | (apply U1; (case hd => decide +kernel)) | (apply U2 (hw := H); (case hd => decide +kernel)) | (apply U3 1; (case hp => rfl); (case hd => decide +kernel)) | (apply U3 2; (case hp => rfl); (case hd => decide +kernel)) | (apply U3 3; (case hp => rfl); (case hd => decide +kernel)) | (apply U3 4; (case hp => rfl); (case hd => decide +kernel)) | (apply U3 5; (case hp => rfl); (case hd => decide +kernel)) | (apply U3 6; (case hp => rfl); (case hd => decide +kernel)) | (apply U3 7; (case hp => rfl); (case hd => decide +kernel)) | (apply U3 8; (case hp => rfl); (case hd => decide +kernel)) | (apply U3 9; (case hp => rfl); (case hd => decide +kernel)) | (apply U3 10; (case hp => rfl); (case hd => decide +kernel)) | (apply U3 11; (case hp => rfl); (case hd => decide +kernel))); (case hg => rfl); (case hy => (first | (apply Yi.a; constructor; all_goals (first | rfl | (constructor <;> omega) | (apply CellIs.own; (case h => repeat constructor); rfl) | (apply Cell3.own; (case h => repeat constructor); all_goals rfl))) | (apply Yi.b; constructor; all_goals (first | rfl | (constructor <;> omega) | (apply CellIs.own; (case h => repeat constructor); rfl) | (apply Cell3.own; (case h => repeat constructor); all_goals rfl))) | (apply Yi.c; constructor; all_goals (first | rfl | (constructor <;> omega) | (apply CellIs.own; (case h => repeat constructor); rfl) | (apply Cell3.own; (case h => repeat constructor); all_goals rfl)))))) | ((first | apply V0 | apply V1 | apply V2 (hw := H)); (case hg => rfl); try decide +kernel) | ((first | refine G0 H ?_ | (refine G1 H (fun _ _ _ _ h => h) (by decide +kernel) ?_; clear H; intro _ H)); simp only [enum, Nat.reduceAdd]) | (apply B0 (hw := H); (case hg => rfl); (case hd => first | exact hd_false | decide +kernel); (case hx => rfl); (case hc => rfl); clear H; intro bx _ H) | (apply B1 (hw := H); (case hg => rfl); (case hd => first | exact hd_false | decide +kernel); clear H; intro ax _ H) | go_step | (apply X0; (case hy => rfl); all_goals (intro hb; simp only [hb]; (try simp only [decide_eq_true_eq, decide_eq_false_iff_not, Bool.not_eq_true', Bool.not_eq_false', Bool.and_eq_true, Bool.or_eq_true, Bool.and_eq_false_iff, Bool.or_eq_false_iff] at hb); try (exfalso; omega)))) <;> try simp only [List.getElem_toArray, List.getElem_cons_zero, List.getElem_cons_succ, Act.put, evalT, evalC, evalF, List.setIfInBounds_toArray, List.set_cons_succ, List.set_cons_zero, List.getD_cons_succ, List.getD_cons_zero, Nat.reduceAdd, Nat.reduceMul, Nat.add_zero, Nat.zero_add, Int.toNat_natCast, Int.reduceToNat, List.eraseIdx_cons_succ, List.eraseIdx_cons_zero, cond_true, cond_false])
      ((try simp only [Exit.inBlock, Exit.then]); refine ret_post (res2 rfl (R_tmp rfl) (R_tmp rfl)) ?_; try simp only [List.getD_cons_succ, List.getD_cons_zero])
      refine ⟨.mk 0 0 sa sc us, ?_, H.ext, H.outTree, ?_⟩
      · rw [decide_eq_true (show 0 ≤ (k : Int) ∧ (k : Int) ≤ 8 by omega)]; rfl
      · rw [HT.er_eq, varsF, if_pos (by omega), Int.toNat_natCast, ← hsum]; rfl
end Go.Proofs.Ythjbllfcelkajaa
