/- Validity of a tree of one's own, in walks. -/
import Derived.Test.YthjbllfcelkajaaWrap
import Derived.Test.YthjbllfcelkajaaOwn
import Derived.Test.YthjbllfcelkajaaAbk
import Derived.Test.YthjbllfcelkajaaEvX
import Derived.Test.YthjbllfcelkajaaOpen
set_option linter.unusedVariables false
set_option linter.unusedSimpArgs false
namespace Go.Proofs.Ythjbllfcelkajaa
open Go Go.Ab
open Go.Dk (Rd HT Grow T)
theorem sizeT {t : HT} (h : T.sizeL t.er.kids ≤ 1048576) : t.er.size ≤ 1048577 := by rw [T.size_eq]; omega
end Go.Proofs.Ythjbllfcelkajaa
namespace Go.Proofs.Ythjbllfcelkajaa
open Go Go.Dk
theorem zero_own (w w' : World) : Own w w' (.mk 0 0 none 0 []) :=
  ⟨⟨Rd_none, by simp [HT.blocks, HT.head, HT.blocksL], fun b hb => by simp [HT.blocks, HT.head, HT.blocksL] at hb⟩, fun b hb => by simp [HT.blocks, HT.head, HT.blocksL] at hb⟩
set_option maxRecDepth 100000 in
set_option maxHeartbeats 1000000 in
theorem i_valid (t : HT) (Z : Zone) (w : World) (hr : Rd Z w t) : Calls Try.prog 75 #[t.val] w fun e w' => e = .returned (.tuple #[cond (validB t.er) t.val (.agg #[.int .i64 0, .int .i64 0, .slice none 0 0]), .bool (validB t.er)]) ∧ Grow w w' := by
  have H := St.init w noneZ Z (rdF_stable t) hr
  go_enter Try.func75, Try.ntmps75
  repeat' ((first | (refine T_nil ?_) | ((first | apply U0 | (apply U1; (case hd => decide +kernel)) | (apply U2 (hw := H); (case hd => decide +kernel)) | (apply U3 1; (case hp => rfl); (case hd => decide +kernel)) | (apply U3 2; (case hp => rfl); (case hd => decide +kernel)) | (apply U3 3; (case hp => rfl); (case hd => decide +kernel)) | (apply U3 4; (case hp => rfl); (case hd => decide +kernel)) | (apply U3 5; (case hp => rfl); (case hd => decide +kernel)) | (apply U3 6; (case hp => rfl); (case hd => decide +kernel)) | (apply U3 7; (case hp => rfl); (case hd => decide +kernel)) | (apply U3 8; (case hp => rfl); (case hd => decide +kernel)) | (apply U3 9; (case hp => rfl); (case hd => decide +kernel)) | (apply U3 10; (case hp => rfl); (case hd => decide +kernel)) | (apply U3 11; (case hp => rfl); (case hd => decide +kernel))); (case hg => rfl); (case hy => (first | (apply Yi.a; constructor; all_goals (first | rfl | (constructor <;> omega) | (apply CellIs.own; (case h => repeat constructor); rfl) | (apply Cell3.own; (case h => repeat constructor); all_goals rfl))) | (apply Yi.b; constructor; all_goals (first | rfl | (constructor <;> omega) | (apply CellIs.own; (case h => repeat constructor); rfl) | (apply Cell3.own; (case h => repeat constructor); all_goals rfl))) | (apply Yi.c; constructor; all_goals (first | rfl | (constructor <;> omega) | (apply CellIs.own; (case h => repeat constructor); rfl) | (apply Cell3.own; (case h => repeat constructor); all_goals rfl)))))) | ((first | apply V0 | apply V1 | apply V2 (hw := H)); (case hg => rfl); try decide +kernel) | ((first | refine G0 H ?_ | (refine G1 H (fun _ _ _ _ h => h) (by decide +kernel) ?_; clear H; intro _ H)); simp only [enum, Nat.reduceAdd]) | (apply B0 (hw := H); (case hg => rfl); (case hd => first | exact hd_false | decide +kernel); (case hx => rfl); (case hc => rfl); clear H; intro bx _ H) | (apply B1 (hw := H); (case hg => rfl); (case hd => first | exact hd_false | decide +kernel); clear H; intro ax _ H) | ((apply W0 (hw := H); (case hg => rfl); (case hd => first | exact hd_false | decide +kernel); (case hx => rfl); (case hy => rfl); (case hc => rfl); (case hn => repeat constructor); (case h1 => rfl); clear H; intro _ H; (try dsimp only at H); try simp only [putL, List.set_cons_succ, List.set_cons_zero, evalT, evalC, List.getD_cons_succ, List.getD_cons_zero, Nat.zero_add, Nat.reduceAdd] at H)) | ((apply C0 (hw := H); (case hg => rfl); (case hd => first | exact hd_false | decide +kernel); (case hxs => rfl); (case hc => exact i_TermValid t _ _ H.per); clear H; intro _ H)) | go_step | (apply X0; (case hy => rfl); all_goals (intro hb; simp only [hb]; (try simp only [decide_eq_true_eq, decide_eq_false_iff_not, Bool.not_eq_true', Bool.not_eq_false', Bool.and_eq_true, Bool.or_eq_true, Bool.and_eq_false_iff, Bool.or_eq_false_iff] at hb); try (exfalso; omega)))) <;> try simp only [List.getElem_toArray, List.getElem_cons_zero, List.getElem_cons_succ, Act.put, evalT, evalC, evalF, List.setIfInBounds_toArray, List.set_cons_succ, List.set_cons_zero, List.getD_cons_succ, List.getD_cons_zero, Nat.reduceAdd, Nat.reduceMul, Nat.add_zero, Nat.zero_add, Int.toNat_natCast, Int.reduceToNat, List.eraseIdx_cons_succ, List.eraseIdx_cons_zero, cond_true, cond_false])
  · have hv : (!validB t.er) = true := by assumption
    simp only [Bool.not_eq_true'] at hv
    ((try simp only [Exit.inBlock, Exit.then]); refine ret_post (res2 rfl (R_cell rfl (load3 (ST3.out) (H.cell at0 rfl) (H.cell at0 rfl) (H.cell at0 rfl))) (R_tmp rfl)) ?_; try simp only [List.getD_cons_succ, List.getD_cons_zero])
    rw [hv]
    exact ⟨rfl, H.ext⟩
  · have hv : (!validB t.er) = false := by assumption
    simp only [Bool.not_eq_false'] at hv
    ((try simp only [Exit.inBlock, Exit.then]); refine ret_post (res2 rfl (R_cell rfl (load3 (ST3.out) (H.cell at0 rfl) (H.cell at0 rfl) (H.cell at0 rfl))) (R_tmp rfl)) ?_; try simp only [List.getD_cons_succ, List.getD_cons_zero])
    rw [hv]
    exact ⟨rfl, H.ext⟩
theorem i_valid_of (t : HT) (b : Bool) (hb : validB t.er = b) (Z : Zone) (w : World) (hr : Rd Z w t) : Calls Try.prog 75 #[t.val] w fun e w' => e = .returned (.tuple #[cond b t.val (.agg #[.int .i64 0, .int .i64 0, .slice none 0 0]), .bool b]) ∧ Grow w w' := by
  subst hb; exact i_valid t Z w hr
end Go.Proofs.Ythjbllfcelkajaa
