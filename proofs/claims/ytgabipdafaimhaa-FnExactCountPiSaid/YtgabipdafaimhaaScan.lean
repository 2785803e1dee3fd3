/- The walks of the program's check of a term. -/
import Derived.Test.YtgabipdafaimhaaFacts
namespace Go.Proofs.Ytgabipdafaimhaa
open Go Go.Dk
set_option linter.unusedVariables false
set_option linter.unusedSimpArgs false
def opsOf : Int → Int := fun k => if k = 1 ∨ k = 2 ∨ k = 6 ∨ k = 7 then 0 else if k = 8 ∨ k = 11 ∨ k = 15 ∨ k = 16 then 1 else if k = 3 ∨ k = 4 ∨ k = 5 ∨ k = 13 then 2 else if k = 10 ∨ k = 12 ∨ k = 14 then 3 else if k = 9 then 4 else -1
def mostOf : Int → Int := fun k => if k = 1 then 20 else if k = 2 then 3 else 0
set_option maxRecDepth 100000 in
set_option maxHeartbeats 1000000 in
theorem i_within (n l h : Int) (w : World) :
    Calls Try.prog 31 #[.int .i64 n, .int .i64 l, .int .i64 h] w fun e w' => e = .returned (.bool (decide (l ≤ n) && decide (n ≤ h))) ∧ Grow w w' := by
  have H := St.init w noneZ noneZ Stable.true trivial
  go_enter Try.func31, Try.ntmps31
  repeat' ((first | (refine T_nil ?_) | ((first | apply U0 | (apply U1; (case hd => decide +kernel)) | (apply U2 (hw := H); (case hd => decide +kernel)) | (apply U3 1; (case hp => rfl); (case hd => decide +kernel)) | (apply U3 2; (case hp => rfl); (case hd => decide +kernel)) | (apply U3 3; (case hp => rfl); (case hd => decide +kernel)) | (apply U3 4; (case hp => rfl); (case hd => decide +kernel)) | (apply U3 5; (case hp => rfl); (case hd => decide +kernel)) | (apply U3 6; (case hp => rfl); (case hd => decide +kernel)) | (apply U3 7; (case hp => rfl); (case hd => decide +kernel)) | (apply U3 8; (case hp => rfl); (case hd => decide +kernel)) | (apply U3 9; (case hp => rfl); (case hd => decide +kernel)) | (apply U3 10; (case hp => rfl); (case hd => decide +kernel)) | (apply U3 11; (case hp => rfl); (case hd => decide +kernel))); (case hg => rfl); (case hy => (first | (apply Yi.a; constructor; all_goals (first | rfl | (constructor <;> omega) | (apply CellIs.own; (case h => repeat constructor); rfl) | (apply Cell3.own; (case h => repeat constructor); all_goals rfl))) | (apply Yi.b; constructor; all_goals (first | rfl | (constructor <;> omega) | (apply CellIs.own; (case h => repeat constructor); rfl) | (apply Cell3.own; (case h => repeat constructor); all_goals rfl))) | (apply Yi.c; constructor; all_goals (first | rfl | (constructor <;> omega) | (apply CellIs.own; (case h => repeat constructor); rfl) | (apply Cell3.own; (case h => repeat constructor); all_goals rfl)))))) | ((first | apply V0 | apply V1 | apply V2 (hw := H)); (case hg => rfl); try decide +kernel) | ((first | refine G0 H ?_ | (refine G1 H (fun _ _ _ _ h => h) (by decide +kernel) ?_; clear H; intro _ H)); simp only [enum, Nat.reduceAdd]) | (apply B0 (hw := H); (case hg => rfl); (case hd => first | exact hd_false | decide +kernel); (case hx => rfl); (case hc => rfl); clear H; intro bx _ H) | (apply B1 (hw := H); (case hg => rfl); (case hd => first | exact hd_false | decide +kernel); clear H; intro ax _ H) | go_step | (apply X0; (case hy => rfl); all_goals (intro hb; simp only [hb]; (try simp only [decide_eq_true_eq, decide_eq_false_iff_not, Bool.not_eq_true', Bool.not_eq_false', Bool.and_eq_true, Bool.or_eq_true, Bool.and_eq_false_iff, Bool.or_eq_false_iff] at hb); try (exfalso; omega)))) <;> try simp only [Act.put, evalT, evalC, evalF, List.setIfInBounds_toArray, List.set_cons_succ, List.set_cons_zero, List.getD_cons_succ, List.getD_cons_zero, Nat.reduceAdd, Nat.reduceMul, Nat.add_zero, Nat.zero_add, Int.toNat_natCast, Int.reduceToNat, List.eraseIdx_cons_succ, List.eraseIdx_cons_zero, cond_true, cond_false])
  all_goals ((try simp only [Exit.inBlock, Exit.then]); refine ret_post (res1 rfl (R_tmp rfl)) ?_; try simp only [List.getD_cons_succ, List.getD_cons_zero])
  all_goals (refine ⟨?_, H.ext⟩; simp [*])
set_option maxRecDepth 100000 in
set_option maxHeartbeats 1000000 in
theorem i_most (k : Int) (w : World) :
    Calls Try.prog 49 #[.int .i64 k] w fun e w' => e = .returned (.int .i64 (mostOf k)) ∧ Grow w w' := by
  have H := St.init w noneZ noneZ Stable.true trivial
  go_enter Try.func49, Try.ntmps49
  repeat' ((first | (refine T_nil ?_) | ((first | apply U0 | (apply U1; (case hd => decide +kernel)) | (apply U2 (hw := H); (case hd => decide +kernel)) | (apply U3 1; (case hp => rfl); (case hd => decide +kernel)) | (apply U3 2; (case hp => rfl); (case hd => decide +kernel)) | (apply U3 3; (case hp => rfl); (case hd => decide +kernel)) | (apply U3 4; (case hp => rfl); (case hd => decide +kernel)) | (apply U3 5; (case hp => rfl); (case hd => decide +kernel)) | (apply U3 6; (case hp => rfl); (case hd => decide +kernel)) | (apply U3 7; (case hp => rfl); (case hd => decide +kernel)) | (apply U3 8; (case hp => rfl); (case hd => decide +kernel)) | (apply U3 9; (case hp => rfl); (case hd => decide +kernel)) | (apply U3 10; (case hp => rfl); (case hd => decide +kernel)) | (apply U3 11; (case hp => rfl); (case hd => decide +kernel))); (case hg => rfl); (case hy => (first | (apply Yi.a; constructor; all_goals (first | rfl | (constructor <;> omega) | (apply CellIs.own; (case h => repeat constructor); rfl) | (apply Cell3.own; (case h => repeat constructor); all_goals rfl))) | (apply Yi.b; constructor; all_goals (first | rfl | (constructor <;> omega) | (apply CellIs.own; (case h => repeat constructor); rfl) | (apply Cell3.own; (case h => repeat constructor); all_goals rfl))) | (apply Yi.c; constructor; all_goals (first | rfl | (constructor <;> omega) | (apply CellIs.own; (case h => repeat constructor); rfl) | (apply Cell3.own; (case h => repeat constructor); all_goals rfl)))))) | ((first | apply V0 | apply V1 | apply V2 (hw := H)); (case hg => rfl); try decide +kernel) | ((first | refine G0 H ?_ | (refine G1 H (fun _ _ _ _ h => h) (by decide +kernel) ?_; clear H; intro _ H)); simp only [enum, Nat.reduceAdd]) | (apply B0 (hw := H); (case hg => rfl); (case hd => first | exact hd_false | decide +kernel); (case hx => rfl); (case hc => rfl); clear H; intro bx _ H) | (apply B1 (hw := H); (case hg => rfl); (case hd => first | exact hd_false | decide +kernel); clear H; intro ax _ H) | go_step | (apply X0; (case hy => rfl); all_goals (intro hb; simp only [hb]; (try simp only [decide_eq_true_eq, decide_eq_false_iff_not, Bool.not_eq_true', Bool.not_eq_false', Bool.and_eq_true, Bool.or_eq_true, Bool.and_eq_false_iff, Bool.or_eq_false_iff] at hb); try (exfalso; omega)))) <;> try simp only [Act.put, evalT, evalC, evalF, List.setIfInBounds_toArray, List.set_cons_succ, List.set_cons_zero, List.getD_cons_succ, List.getD_cons_zero, Nat.reduceAdd, Nat.reduceMul, Nat.add_zero, Nat.zero_add, Int.toNat_natCast, Int.reduceToNat, List.eraseIdx_cons_succ, List.eraseIdx_cons_zero, cond_true, cond_false])
  all_goals ((try simp only [Exit.inBlock, Exit.then]); refine ret_post (res1 rfl (R_tmp rfl)) ?_; try simp only [List.getD_cons_succ, List.getD_cons_zero])
  all_goals (refine ⟨?_, H.ext⟩; unfold mostOf; simp [*])
set_option maxRecDepth 100000 in
set_option maxHeartbeats 1000000 in
theorem i_operands (k : Int) (w : World) :
    Calls Try.prog 48 #[.int .i64 k] w fun e w' => e = .returned (.int .i64 (opsOf k)) ∧ Grow w w' := by
  have H := St.init w noneZ noneZ Stable.true trivial
  by_cases hk : 1 ≤ k ∧ k ≤ 16
  · obtain ⟨m, rfl⟩ : ∃ m : Nat, k = (m : Int) + 1 := ⟨(k - 1).toNat, by omega⟩
    have hm : m < 16 := by omega
    have h1 : (decide ((1 : Int) ≤ (m : Int) + 1) && decide ((m : Int) + 1 ≤ 16)) = true := by simp; omega
    have h2 : (m : Int) + 1 - 1 = (m : Int) := by omega
    go_enter Try.func48, Try.ntmps48
    have hcell : [Value.int .i64 0, .int .i64 0, .int .i64 2, .int .i64 2, .int .i64 2, .int .i64 0, .int .i64 0, .int .i64 1, .int .i64 4, .int .i64 3, .int .i64 1, .int .i64 3, .int .i64 2, .int .i64 3, .int .i64 1, .int .i64 1][m * 1]? = some (.int .i64 (opsOf ((m : Int) + 1))) := by
      have : m = 0 ∨ m = 1 ∨ m = 2 ∨ m = 3 ∨ m = 4 ∨ m = 5 ∨ m = 6 ∨ m = 7 ∨ m = 8 ∨ m = 9 ∨ m = 10 ∨ m = 11 ∨ m = 12 ∨ m = 13 ∨ m = 14 ∨ m = 15 := by omega
      rcases this with rfl | rfl | rfl | rfl | rfl | rfl | rfl | rfl | rfl | rfl | rfl | rfl | rfl | rfl | rfl | rfl <;> rfl
    repeat' ((first | (refine T_nil ?_) | ((first | apply U0 | (apply U1; (case hd => decide +kernel)) | (apply U2 (hw := H); (case hd => decide +kernel)) | (apply U3 1; (case hp => rfl); (case hd => decide +kernel)) | (apply U3 2; (case hp => rfl); (case hd => decide +kernel)) | (apply U3 3; (case hp => rfl); (case hd => decide +kernel)) | (apply U3 4; (case hp => rfl); (case hd => decide +kernel)) | (apply U3 5; (case hp => rfl); (case hd => decide +kernel)) | (apply U3 6; (case hp => rfl); (case hd => decide +kernel)) | (apply U3 7; (case hp => rfl); (case hd => decide +kernel)) | (apply U3 8; (case hp => rfl); (case hd => decide +kernel)) | (apply U3 9; (case hp => rfl); (case hd => decide +kernel)) | (apply U3 10; (case hp => rfl); (case hd => decide +kernel)) | (apply U3 11; (case hp => rfl); (case hd => decide +kernel))); (case hg => rfl); (case hy => (first | (apply Yi.a; constructor; all_goals (first | rfl | (constructor <;> omega) | (apply CellIs.own; (case h => repeat constructor); rfl) | (apply Cell3.own; (case h => repeat constructor); all_goals rfl) | exact .own .here hcell)) | (apply Yi.b; constructor; all_goals (first | rfl | (constructor <;> omega) | (apply CellIs.own; (case h => repeat constructor); rfl) | (apply Cell3.own; (case h => repeat constructor); all_goals rfl) | exact .own .here hcell)) | (apply Yi.c; constructor; all_goals (first | rfl | (constructor <;> omega) | (apply CellIs.own; (case h => repeat constructor); rfl) | (apply Cell3.own; (case h => repeat constructor); all_goals rfl) | exact .own .here hcell))))) | ((first | apply V0 | apply V1 | apply V2 (hw := H)); (case hg => rfl); try decide +kernel) | ((first | refine G0 H ?_ | (refine G1 H (fun _ _ _ _ h => h) (by decide +kernel) ?_; clear H; intro _ H)); simp only [enum, Nat.reduceAdd]) | (apply B0 (hw := H); (case hg => rfl); (case hd => first | exact hd_false | decide +kernel); (case hx => rfl); (case hc => rfl); clear H; intro bx _ H) | (apply B1 (hw := H); (case hg => rfl); (case hd => first | exact hd_false | decide +kernel); clear H; intro ax _ H) | ((apply B2 (hw := H); (case hg => rfl); (case hd => first | exact hd_false | decide +kernel); (case hvs => (simp only [List.map_cons, List.map_nil, evalT, evalC, List.getD_cons_succ, List.getD_cons_zero]; rfl)); (case hcs => (simp only [flatC, List.flatMap_cons, List.flatMap_nil, Value.cells, HT.val, List.cons_append, List.nil_append, List.append_nil]; rfl)); (case hix => rfl); (case hn => rfl); (case hsz => rfl); (case hb => rfl); clear H; intro sx _ H)) | ((apply C0 (hw := H); (case hg => rfl); (case hd => first | exact hd_false | decide +kernel); (case hxs => rfl); (case hc => exact i_within _ _ _ _); clear H; intro _ H)) | ((simp only [h1, Bool.not_true, h2])) | go_step | (apply X0; (case hy => rfl); all_goals (intro hb; simp only [hb]; (try simp only [decide_eq_true_eq, decide_eq_false_iff_not, Bool.not_eq_true', Bool.not_eq_false', Bool.and_eq_true, Bool.or_eq_true, Bool.and_eq_false_iff, Bool.or_eq_false_iff] at hb); try (exfalso; omega)))) <;> try simp only [Act.put, evalT, evalC, evalF, List.setIfInBounds_toArray, List.set_cons_succ, List.set_cons_zero, List.getD_cons_succ, List.getD_cons_zero, Nat.reduceAdd, Nat.reduceMul, Nat.add_zero, Nat.zero_add, Int.toNat_natCast, Int.reduceToNat, List.eraseIdx_cons_succ, List.eraseIdx_cons_zero, cond_true, cond_false])
    ((try simp only [Exit.inBlock, Exit.then]); refine ret_post (res1 rfl (R_tmp rfl)) ?_; try simp only [List.getD_cons_succ, List.getD_cons_zero])
    exact ⟨trivial, H.ext⟩
  · have h1 : (decide ((1 : Int) ≤ k) && decide (k ≤ 16)) = false := by simp; omega
    go_enter Try.func48, Try.ntmps48
    repeat' ((first | (refine T_nil ?_) | ((first | apply U0 | (apply U1; (case hd => decide +kernel)) | (apply U2 (hw := H); (case hd => decide +kernel)) | (apply U3 1; (case hp => rfl); (case hd => decide +kernel)) | (apply U3 2; (case hp => rfl); (case hd => decide +kernel)) | (apply U3 3; (case hp => rfl); (case hd => decide +kernel)) | (apply U3 4; (case hp => rfl); (case hd => decide +kernel)) | (apply U3 5; (case hp => rfl); (case hd => decide +kernel)) | (apply U3 6; (case hp => rfl); (case hd => decide +kernel)) | (apply U3 7; (case hp => rfl); (case hd => decide +kernel)) | (apply U3 8; (case hp => rfl); (case hd => decide +kernel)) | (apply U3 9; (case hp => rfl); (case hd => decide +kernel)) | (apply U3 10; (case hp => rfl); (case hd => decide +kernel)) | (apply U3 11; (case hp => rfl); (case hd => decide +kernel))); (case hg => rfl); (case hy => (first | (apply Yi.a; constructor; all_goals (first | rfl | (constructor <;> omega) | (apply CellIs.own; (case h => repeat constructor); rfl) | (apply Cell3.own; (case h => repeat constructor); all_goals rfl))) | (apply Yi.b; constructor; all_goals (first | rfl | (constructor <;> omega) | (apply CellIs.own; (case h => repeat constructor); rfl) | (apply Cell3.own; (case h => repeat constructor); all_goals rfl))) | (apply Yi.c; constructor; all_goals (first | rfl | (constructor <;> omega) | (apply CellIs.own; (case h => repeat constructor); rfl) | (apply Cell3.own; (case h => repeat constructor); all_goals rfl)))))) | ((first | apply V0 | apply V1 | apply V2 (hw := H)); (case hg => rfl); try decide +kernel) | ((first | refine G0 H ?_ | (refine G1 H (fun _ _ _ _ h => h) (by decide +kernel) ?_; clear H; intro _ H)); simp only [enum, Nat.reduceAdd]) | (apply B0 (hw := H); (case hg => rfl); (case hd => first | exact hd_false | decide +kernel); (case hx => rfl); (case hc => rfl); clear H; intro bx _ H) | (apply B1 (hw := H); (case hg => rfl); (case hd => first | exact hd_false | decide +kernel); clear H; intro ax _ H) | ((apply C0 (hw := H); (case hg => rfl); (case hd => first | exact hd_false | decide +kernel); (case hxs => rfl); (case hc => exact i_within _ _ _ _); clear H; intro _ H)) | ((simp only [h1, Bool.not_false])) | go_step | (apply X0; (case hy => rfl); all_goals (intro hb; simp only [hb]; (try simp only [decide_eq_true_eq, decide_eq_false_iff_not, Bool.not_eq_true', Bool.not_eq_false', Bool.and_eq_true, Bool.or_eq_true, Bool.and_eq_false_iff, Bool.or_eq_false_iff] at hb); try (exfalso; omega)))) <;> try simp only [Act.put, evalT, evalC, evalF, List.setIfInBounds_toArray, List.set_cons_succ, List.set_cons_zero, List.getD_cons_succ, List.getD_cons_zero, Nat.reduceAdd, Nat.reduceMul, Nat.add_zero, Nat.zero_add, Int.toNat_natCast, Int.reduceToNat, List.eraseIdx_cons_succ, List.eraseIdx_cons_zero, cond_true, cond_false])
    all_goals ((try simp only [Exit.inBlock, Exit.then]); refine ret_post (res1 rfl (R_tmp rfl)) ?_; try simp only [List.getD_cons_succ, List.getD_cons_zero])
    refine ⟨?_, H.ext⟩
    unfold opsOf
    rw [if_neg (by omega), if_neg (by omega), if_neg (by omega), if_neg (by omega), if_neg (by omega)]
mutual
def scanF : T → Int → Int → Bool × Int
  | .mk k n kids, deep, c => if 400 < c + 1 ∨ 30 < deep ∨ opsOf k ≠ kids.length ∨ ¬ (0 ≤ n ∧ n ≤ mostOf k) then (false, c + 1) else scanL kids (deep + 1) (c + 1)
def scanL : List T → Int → Int → Bool × Int
  | [], _, c => (true, c)
  | t :: ts, d, c => if (scanF t d c).1 then scanL ts d (scanF t d c).2 else (false, (scanF t d c).2)
end
theorem scanF_eq (t : T) (d c : Int) : scanF t d c = if 400 < c + 1 ∨ 30 < d ∨ opsOf t.k ≠ t.kids.length ∨ ¬ (0 ≤ t.n ∧ t.n ≤ mostOf t.k) then (false, c + 1) else scanL t.kids (d + 1) (c + 1) := by
  cases t; simp only [scanF]; rfl
mutual
theorem scanF_bd (t : T) (d c : Int) : (scanF t d c).1 = true → c + 1 ≤ (scanF t d c).2 ∧ (scanF t d c).2 ≤ 400 := by
  cases t with
  | mk k n kids =>
    unfold scanF
    split
    · intro h; cases h
    · rename_i h
      intro h1
      have h2 : c + 1 ≤ 400 := by simp only [not_or] at h; omega
      have := scanL_bd kids (d + 1) (c + 1) h2 h1
      omega
theorem scanL_bd (ts : List T) (d c : Int) (hc : c ≤ 400) : (scanL ts d c).1 = true → c ≤ (scanL ts d c).2 ∧ (scanL ts d c).2 ≤ 400 := by
  cases ts with
  | nil => intro _; simp [scanL, hc]
  | cons t ts =>
    unfold scanL
    split
    · rename_i h
      intro h1
      have a := scanF_bd t d c h
      have b := scanL_bd ts d _ a.2 h1
      omega
    · intro h; cases h
end
set_option maxRecDepth 100000 in
set_option maxHeartbeats 1000000 in
theorem i_scan (t : HT) : ∀ (deep c : Int) (p : Nat) (Z : Zone) (w : World), Rd Z w t → w.heap[p]? = some (.cells #[.int .i64 c] 3 (0, 0)) → ¬ Z p → 0 ≤ c → c ≤ 400 → 0 ≤ deep → deep ≤ 31 →
    Calls Try.prog 43 #[t.val, .int .i64 deep, .pointer (some ⟨p, 0, none⟩)] w fun e w' =>
      e = .returned (.bool (scanF t.er deep c).1) ∧ Ext (· = p) w w' ∧ w'.heap[p]? = some (.cells #[.int .i64 (scanF t.er deep c).2] 3 (0, 0)) := by
  induction t using HT.ind with | h t ih =>
  intro deep c p Z w hr hp hz hc0 hc1 hd0 hd1
  have H := St.init1 (r := blk p [.int .i64 c] 3) w (· = p) Z (rdF_stable t) hr (blk_local _ _ _) hp (fun b hb => ⟨hb, by cases hb; exact lt_of_get hp⟩) (fun b hb hz' => hz (by cases hb; exact hz'))
  have hlen := hr.len
  clear hp
  go_enter Try.func43, Try.ntmps43
  repeat' ((first | (refine T_nil ?_) | ((first | apply U0 | (apply U1; (case hd => decide +kernel)) | (apply U2 (hw := H); (case hd => decide +kernel)) | (apply U3 1; (case hp => rfl); (case hd => decide +kernel)) | (apply U3 2; (case hp => rfl); (case hd => decide +kernel)) | (apply U3 3; (case hp => rfl); (case hd => decide +kernel)) | (apply U3 4; (case hp => rfl); (case hd => decide +kernel)) | (apply U3 5; (case hp => rfl); (case hd => decide +kernel)) | (apply U3 6; (case hp => rfl); (case hd => decide +kernel)) | (apply U3 7; (case hp => rfl); (case hd => decide +kernel)) | (apply U3 8; (case hp => rfl); (case hd => decide +kernel)) | (apply U3 9; (case hp => rfl); (case hd => decide +kernel)) | (apply U3 10; (case hp => rfl); (case hd => decide +kernel)) | (apply U3 11; (case hp => rfl); (case hd => decide +kernel))); (case hg => rfl); (case hy => (first | (apply Yi.a; constructor; all_goals (first | rfl | (constructor <;> omega) | (apply CellIs.own; (case h => repeat constructor); rfl) | (apply Cell3.own; (case h => repeat constructor); all_goals rfl))) | (apply Yi.b; constructor; all_goals (first | rfl | (constructor <;> omega) | (apply CellIs.own; (case h => repeat constructor); rfl) | (apply Cell3.own; (case h => repeat constructor); all_goals rfl))) | (apply Yi.c; constructor; all_goals (first | rfl | (constructor <;> omega) | (apply CellIs.own; (case h => repeat constructor); rfl) | (apply Cell3.own; (case h => repeat constructor); all_goals rfl)))))) | ((first | apply V0 | apply V1 | apply V2 (hw := H)); (case hg => rfl); try decide +kernel) | ((first | refine G0 H ?_ | (refine G1 H (fun _ _ _ _ h => h) (by decide +kernel) ?_; clear H; intro _ H)); simp only [enum, Nat.reduceAdd]) | (apply B0 (hw := H); (case hg => rfl); (case hd => first | exact hd_false | decide +kernel); (case hx => rfl); (case hc => rfl); clear H; intro bx _ H) | (apply B1 (hw := H); (case hg => rfl); (case hd => first | exact hd_false | decide +kernel); clear H; intro ax _ H) | ((apply W0 (hw := H); (case hg => rfl); (case hx => rfl); (case hy => rfl); (case hc => rfl); (case hn => repeat constructor); (case h1 => rfl); clear H; intro _ H; (try dsimp only at H); try simp only [putL, List.set_cons_succ, List.set_cons_zero, evalT, evalC, List.getD_cons_succ, List.getD_cons_zero, Nat.zero_add, Nat.reduceAdd] at H)) | ((apply C0 (hw := H); (case hg => rfl); (case hd => first | exact hd_false | decide +kernel); (case hxs => rfl); (case hc => exact i_operands _ _); clear H; intro _ H)) | ((apply C0 (hw := H); (case hg => rfl); (case hd => first | exact hd_false | decide +kernel); (case hxs => rfl); (case hc => exact i_most _ _); clear H; intro _ H)) | ((apply C0 (hw := H); (case hg => rfl); (case hd => first | exact hd_false | decide +kernel); (case hxs => rfl); (case hc => exact i_within _ _ _ _); clear H; intro _ H)) | go_step | (apply X0; (case hy => rfl); all_goals (intro hb; simp only [hb]; (try simp only [decide_eq_true_eq, decide_eq_false_iff_not, Bool.not_eq_true', Bool.not_eq_false', Bool.and_eq_true, Bool.or_eq_true, Bool.and_eq_false_iff, Bool.or_eq_false_iff] at hb); try (exfalso; omega)))) <;> try simp only [Act.put, evalT, evalC, evalF, List.setIfInBounds_toArray, List.set_cons_succ, List.set_cons_zero, List.getD_cons_succ, List.getD_cons_zero, Nat.reduceAdd, Nat.reduceMul, Nat.add_zero, Nat.zero_add, Int.toNat_natCast, Int.reduceToNat, List.eraseIdx_cons_succ, List.eraseIdx_cons_zero, cond_true, cond_false])
  · ((try simp only [Exit.inBlock, Exit.then]); refine ret_post (res1 rfl (R_tmp rfl)) ?_; try simp only [List.getD_cons_succ, List.getD_cons_zero])
    rw [scanF_eq, if_pos (by omega)]
    exact ⟨rfl, H.ext, H.get at1⟩
  · ((try simp only [Exit.inBlock, Exit.then]); refine ret_post (res1 rfl (R_tmp rfl)) ?_; try simp only [List.getD_cons_succ, List.getD_cons_zero])
    rw [scanF_eq, if_pos (by omega)]
    exact ⟨rfl, H.ext, H.get at1⟩
  · ((try simp only [Exit.inBlock, Exit.then]); refine ret_post (res1 rfl (R_tmp rfl)) ?_; try simp only [List.getD_cons_succ, List.getD_cons_zero])
    rw [scanF_eq, if_pos (by rw [HT.er_k, HT.er_kids]; simp; omega)]
    exact ⟨rfl, H.ext, H.get at1⟩
  · have hc : (!(decide (0 ≤ t.n) && decide (t.n ≤ mostOf t.k))) = true := by assumption
    simp only [Bool.not_eq_true', Bool.and_eq_false_iff, decide_eq_false_iff_not] at hc
    ((try simp only [Exit.inBlock, Exit.then]); refine ret_post (res1 rfl (R_tmp rfl)) ?_; try simp only [List.getD_cons_succ, List.getD_cons_zero])
    rw [scanF_eq, if_pos (by rw [HT.er_k, HT.er_n]; omega)]
    exact ⟨rfl, H.ext, H.get at1⟩
  · have hc : (!(decide (0 ≤ t.n) && decide (t.n ≤ mostOf t.k))) = false := by assumption
    simp only [Bool.not_eq_false', Bool.and_eq_true, decide_eq_true_eq] at hc
    have hs : scanF t.er deep c = scanL t.er.kids (deep + 1) (c + 1) := by
      rw [scanF_eq, if_neg (by rw [HT.er_k, HT.er_n, HT.er_kids]; simp; omega)]
    go_loopg [43] t.kids.length (fun g v wr => ∃ (i : Nat) (ci : Int), v = .int .i64 i ∧ i + g = t.kids.length ∧ c + 1 ≤ ci ∧ ci ≤ 400 ∧ scanL t.er.kids (deep + 1) (c + 1) = scanL (t.er.kids.drop i) (deep + 1) ci ∧
      St w (· = p) Z [blk bx [.int .i64 t.k, .int .i64 t.n, .slice t.a t.kids.length t.cap] 40, blk p [.int .i64 ci] 3] (rdF t) wr)
    case atStart => exact ⟨0, c + 1, rfl, by omega, by omega, by omega, rfl, H⟩
    case round =>
      clear H
      obtain ⟨i, ci, rfl, hi, hci, hci2, hsc, H⟩ := hrel
      by_cases hlt : i < t.kids.length
      · have hu : t.kids[i]? = some t.kids[i] := List.getElem?_eq_getElem hlt
        obtain ⟨b, off, ha⟩ := hr.addr hu
        generalize t.kids[i] = u at hu
        have hmem : u ∈ t.kids := List.mem_of_getElem? hu
        have hdrop : t.er.kids.drop i = u.er :: t.er.kids.drop (i + 1) := by
          rw [HT.er_kids, List.drop_eq_getElem_cons (by simpa using hlt)]
          congr 1
          rw [List.getElem_map]
          rw [List.getElem?_eq_getElem hlt] at hu
          rw [Option.some.inj hu]
        have hb := scanF_bd u.er (deep + 1) ci
        rw [hdrop, scanL] at hsc
        repeat' ((first | (refine T_nil ?_) | ((first | apply U0 | (apply U1; (case hd => decide +kernel)) | (apply U2 (hw := H); (case hd => decide +kernel)) | (apply U3 1; (case hp => rfl); (case hd => decide +kernel)) | (apply U3 2; (case hp => rfl); (case hd => decide +kernel)) | (apply U3 3; (case hp => rfl); (case hd => decide +kernel)) | (apply U3 4; (case hp => rfl); (case hd => decide +kernel)) | (apply U3 5; (case hp => rfl); (case hd => decide +kernel)) | (apply U3 6; (case hp => rfl); (case hd => decide +kernel)) | (apply U3 7; (case hp => rfl); (case hd => decide +kernel)) | (apply U3 8; (case hp => rfl); (case hd => decide +kernel)) | (apply U3 9; (case hp => rfl); (case hd => decide +kernel)) | (apply U3 10; (case hp => rfl); (case hd => decide +kernel)) | (apply U3 11; (case hp => rfl); (case hd => decide +kernel))); (case hg => rfl); (case hy => (first | (apply Yi.a; constructor; all_goals (first | rfl | (constructor <;> omega) | (apply CellIs.own; (case h => repeat constructor); rfl) | (apply Cell3.own; (case h => repeat constructor); all_goals rfl) | exact ha | exact .mk fun w h => (Rd.elem h.per ha hu).1)) | (apply Yi.b; constructor; all_goals (first | rfl | (constructor <;> omega) | (apply CellIs.own; (case h => repeat constructor); rfl) | (apply Cell3.own; (case h => repeat constructor); all_goals rfl) | exact ha | exact .mk fun w h => (Rd.elem h.per ha hu).1)) | (apply Yi.c; constructor; all_goals (first | rfl | (constructor <;> omega) | (apply CellIs.own; (case h => repeat constructor); rfl) | (apply Cell3.own; (case h => repeat constructor); all_goals rfl) | exact ha | exact .mk fun w h => (Rd.elem h.per ha hu).1))))) | ((first | apply V0 | apply V1 | apply V2 (hw := H)); (case hg => rfl); try decide +kernel) | ((first | refine G0 H ?_ | (refine G1 H (fun _ _ _ _ h => h) (by decide +kernel) ?_; clear H; intro _ H)); simp only [enum, Nat.reduceAdd]) | (apply B0 (hw := H); (case hg => rfl); (case hd => first | exact hd_false | decide +kernel); (case hx => rfl); (case hc => rfl); clear H; intro bx _ H) | (apply B1 (hw := H); (case hg => rfl); (case hd => first | exact hd_false | decide +kernel); clear H; intro ax _ H) | ((apply W0 (hw := H); (case hg => rfl); (case hx => rfl); (case hy => rfl); (case hc => rfl); (case hn => repeat constructor); (case h1 => rfl); clear H; intro _ H; (try dsimp only at H); try simp only [putL, List.set_cons_succ, List.set_cons_zero, evalT, evalC, List.getD_cons_succ, List.getD_cons_zero, Nat.zero_add, Nat.reduceAdd] at H)) | ((apply C1; (case hg => rfl); (case hd => first | exact hd_false | decide +kernel); (case hxs => rfl); (case hc => exact ih u hmem (deep + 1) ci p _ _ (Rd.elem H.per ha hu).2 (H.get at2) (fun hz => hz.2 _ (List.mem_of_getElem? at2) rfl) (by omega) (by omega) (by omega) (by omega)); rintro _ _ ⟨rfl, hx, hp⟩; replace H := (H.upd at2 hx (blk_local _ _ _) hp (fun b hb => ⟨.inl hb, by cases hb; exact lt_of_get hp⟩)); (try simp only [List.set_cons_succ, List.set_cons_zero] at H); refine ⟨_, rfl, _, (by first | exact fun _ _ h => h | exact nofun), H, ?_⟩)) | go_step | (apply X0; (case hy => rfl); all_goals (intro hb; simp only [hb]; (try simp only [decide_eq_true_eq, decide_eq_false_iff_not, Bool.not_eq_true', Bool.not_eq_false', Bool.and_eq_true, Bool.or_eq_true, Bool.and_eq_false_iff, Bool.or_eq_false_iff] at hb); try (exfalso; omega)))) <;> try simp only [Act.put, evalT, evalC, evalF, List.setIfInBounds_toArray, List.set_cons_succ, List.set_cons_zero, List.getD_cons_succ, List.getD_cons_zero, Nat.reduceAdd, Nat.reduceMul, Nat.add_zero, Nat.zero_add, Int.toNat_natCast, Int.reduceToNat, List.eraseIdx_cons_succ, List.eraseIdx_cons_zero, cond_true, cond_false])
        · have hf : (!(scanF u.er (deep + 1) ci).1) = true := by assumption
          ((try simp only [Exit.inBlock, Exit.then]); refine ret_post (res1 rfl (R_tmp rfl)) ?_; try simp only [List.getD_cons_succ, List.getD_cons_zero])
          rw [hs, hsc, if_neg (by simpa using hf)]
          exact ⟨rfl, H.ext, H.get at2⟩
        · have hf : (!(scanF u.er (deep + 1) ci).1) = false := by assumption
          simp only [Bool.not_eq_false'] at hf
          rw [if_pos hf] at hsc
          have hb2 := hb hf
          go_roundg (gk - 1)
          case measure => omega
          case rel => exact ⟨i + 1, (scanF u.er (deep + 1) ci).2, by simp, by omega, by omega, by omega, hsc, H.tail⟩
      · have h0 : i = t.kids.length := by omega
        rw [List.drop_of_length_le (by rw [HT.er_kids]; simp; omega), scanL] at hsc
        have hlt' : ¬ ((i : Int) < t.kids.length) := by omega
        repeat' ((first | (refine T_nil ?_) | ((first | apply U0 | (apply U1; (case hd => decide +kernel)) | (apply U2 (hw := H); (case hd => decide +kernel)) | (apply U3 1; (case hp => rfl); (case hd => decide +kernel)) | (apply U3 2; (case hp => rfl); (case hd => decide +kernel)) | (apply U3 3; (case hp => rfl); (case hd => decide +kernel)) | (apply U3 4; (case hp => rfl); (case hd => decide +kernel)) | (apply U3 5; (case hp => rfl); (case hd => decide +kernel)) | (apply U3 6; (case hp => rfl); (case hd => decide +kernel)) | (apply U3 7; (case hp => rfl); (case hd => decide +kernel)) | (apply U3 8; (case hp => rfl); (case hd => decide +kernel)) | (apply U3 9; (case hp => rfl); (case hd => decide +kernel)) | (apply U3 10; (case hp => rfl); (case hd => decide +kernel)) | (apply U3 11; (case hp => rfl); (case hd => decide +kernel))); (case hg => rfl); (case hy => (first | (apply Yi.a; constructor; all_goals (first | rfl | (constructor <;> omega) | (apply CellIs.own; (case h => repeat constructor); rfl) | (apply Cell3.own; (case h => repeat constructor); all_goals rfl))) | (apply Yi.b; constructor; all_goals (first | rfl | (constructor <;> omega) | (apply CellIs.own; (case h => repeat constructor); rfl) | (apply Cell3.own; (case h => repeat constructor); all_goals rfl))) | (apply Yi.c; constructor; all_goals (first | rfl | (constructor <;> omega) | (apply CellIs.own; (case h => repeat constructor); rfl) | (apply Cell3.own; (case h => repeat constructor); all_goals rfl)))))) | ((first | apply V0 | apply V1 | apply V2 (hw := H)); (case hg => rfl); try decide +kernel) | ((first | refine G0 H ?_ | (refine G1 H (fun _ _ _ _ h => h) (by decide +kernel) ?_; clear H; intro _ H)); simp only [enum, Nat.reduceAdd]) | (apply B0 (hw := H); (case hg => rfl); (case hd => first | exact hd_false | decide +kernel); (case hx => rfl); (case hc => rfl); clear H; intro bx _ H) | (apply B1 (hw := H); (case hg => rfl); (case hd => first | exact hd_false | decide +kernel); clear H; intro ax _ H) | go_step | (apply X0; (case hy => rfl); all_goals (intro hb; simp only [hb]; (try simp only [decide_eq_true_eq, decide_eq_false_iff_not, Bool.not_eq_true', Bool.not_eq_false', Bool.and_eq_true, Bool.or_eq_true, Bool.and_eq_false_iff, Bool.or_eq_false_iff] at hb); try (exfalso; omega)))) <;> try simp only [Act.put, evalT, evalC, evalF, List.setIfInBounds_toArray, List.set_cons_succ, List.set_cons_zero, List.getD_cons_succ, List.getD_cons_zero, Nat.reduceAdd, Nat.reduceMul, Nat.add_zero, Nat.zero_add, Int.toNat_natCast, Int.reduceToNat, List.eraseIdx_cons_succ, List.eraseIdx_cons_zero, cond_true, cond_false])
        ((try simp only [Exit.inBlock, Exit.then]); refine ret_post (res1 rfl (R_tmp rfl)) ?_; try simp only [List.getD_cons_succ, List.getD_cons_zero])
        rw [hs, hsc]
        exact ⟨rfl, H.ext, H.get at1⟩
end Go.Proofs.Ytgabipdafaimhaa
