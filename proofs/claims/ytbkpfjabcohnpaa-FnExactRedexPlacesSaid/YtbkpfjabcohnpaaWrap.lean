/- The laws' marks of single terms; rows of numbers. -/
import Derived.Test.YtbkpfjabcohnpaaWr0
import Derived.Test.YtbkpfjabcohnpaaHeld
import Derived.Test.YtbkpfjabcohnpaaCopy
import Derived.Test.YtbkpfjabcohnpaaAbk
namespace Go.Proofs.Ytbkpfjabcohnpaa
open Go Go.Dk
set_option linter.unusedVariables false
set_option linter.unusedSimpArgs false
set_option maxRecDepth 100000 in
set_option maxHeartbeats 1000000 in
theorem l_markTerm (t : HT) (k : Int) (w : World) (ho : (treeR t).own w) (h0 : 0 ≤ k) (h1 : k + 2 * T.sizeL t.er.kids ≤ 1000000000) :
    Calls Try.prog 11 #[t.val, .int .i64 k] w fun e w' => ∃ us : List HT, e = .returned (.int .i64 (k + 2 * T.sizeL t.er.kids)) ∧ us.length = t.kids.length ∧ (treeR (HT.mk t.k t.n t.a t.cap us)).own w' ∧ HT.blocks (HT.mk t.k t.n t.a t.cap us) = t.blocks ∧
      mkTs (us.map HT.er) k = true ∧ T.sizeL (us.map HT.er) = T.sizeL t.er.kids ∧ Ext (· ∈ t.blocks) w w' := by
  have H := St.init1 w (· ∈ t.blocks) noneZ Stable.true trivial (treeR_local t) ho (fun b hb => ⟨hb, (Rd.zone t ho.1 b hb).2⟩) (fun b _ h => h)
  go_enter Try.func11, Try.ntmps11
  repeat' ((first | (refine T_nil ?_) | ((first | apply U0 | (apply U1; (case hd => decide +kernel)) | (apply U2 (hw := H); (case hd => decide +kernel)) | (apply U3 1; (case hp => rfl); (case hd => decide +kernel)) | (apply U3 2; (case hp => rfl); (case hd => decide +kernel)) | (apply U3 3; (case hp => rfl); (case hd => decide +kernel)) | (apply U3 4; (case hp => rfl); (case hd => decide +kernel)) | (apply U3 5; (case hp => rfl); (case hd => decide +kernel)) | (apply U3 6; (case hp => rfl); (case hd => decide +kernel)) | (apply U3 7; (case hp => rfl); (case hd => decide +kernel)) | (apply U3 8; (case hp => rfl); (case hd => decide +kernel)) | (apply U3 9; (case hp => rfl); (case hd => decide +kernel)) | (apply U3 10; (case hp => rfl); (case hd => decide +kernel)) | (apply U3 11; (case hp => rfl); (case hd => decide +kernel))); (case hg => rfl); (case hy => (first | (apply Yi.a; constructor; all_goals (first | rfl | (constructor <;> omega) | (apply CellIs.own; (case h => repeat constructor); rfl) | (apply Cell3.own; (case h => repeat constructor); all_goals rfl))) | (apply Yi.b; constructor; all_goals (first | rfl | (constructor <;> omega) | (apply CellIs.own; (case h => repeat constructor); rfl) | (apply Cell3.own; (case h => repeat constructor); all_goals rfl))) | (apply Yi.c; constructor; all_goals (first | rfl | (constructor <;> omega) | (apply CellIs.own; (case h => repeat constructor); rfl) | (apply Cell3.own; (case h => repeat constructor); all_goals rfl)))))) | ((first | apply V0 | apply Go.Dk.V1 | apply V2 (hw := H)); (case hg => rfl); try decide +kernel) | ((first | refine G0 H ?_ | (refine G1 H (fun _ _ _ _ h => h) (by decide +kernel) ?_; clear H; intro _ H)); simp only [enum, Nat.reduceAdd]) | (apply B0 (hw := H); (case hg => rfl); (case hd => first | exact hd_false | decide +kernel); (case hx => rfl); (case hc => rfl); clear H; intro bx _ H) | (apply B1 (hw := H); (case hg => rfl); (case hd => first | exact hd_false | decide +kernel); clear H; intro ax _ H) | ((apply C1; (case hg => rfl); (case hd => first | exact hd_false | decide +kernel); (case hxs => rfl); (case hc => exact l_markTermS t k _ (H.own _ (List.mem_cons_of_mem _ (List.mem_cons_self ..))) h0 h1); rintro _ _ ⟨us, rfl, hul, huo, hub, hum, hus, hux⟩; replace H := H.remark (n := 1) rfl huo hub hux; (try simp only [List.set_cons_succ, List.set_cons_zero] at H); refine ⟨_, rfl, _, (by first | exact fun _ _ h => h | exact fun _ _ h => h.tail | exact fun _ _ h => h.unfact (by repeat' (first | exact Stable.true | exact rdF_stable _ | exact iF_stable _ _ | apply Stable.and)) (fun _ _ h => h.2) | exact nofun), H, ?_⟩)) | go_step | (apply X0; (case hy => rfl); all_goals (intro hb; simp only [hb]; (try simp only [decide_eq_true_eq, decide_eq_false_iff_not, Bool.not_eq_true', Bool.not_eq_false', Bool.and_eq_true, Bool.or_eq_true, Bool.and_eq_false_iff, Bool.or_eq_false_iff] at hb); try (exfalso; omega)))) <;> try simp only [List.getElem_toArray, List.getElem_cons_zero, List.getElem_cons_succ, Act.put, evalT, evalC, evalF, List.setIfInBounds_toArray, List.set_cons_succ, List.set_cons_zero, List.getD_cons_succ, List.getD_cons_zero, Nat.reduceAdd, Nat.reduceMul, Nat.add_zero, Nat.zero_add, Int.toNat_natCast, Int.reduceToNat, List.eraseIdx_cons_succ, List.eraseIdx_cons_zero, cond_true, cond_false])
  ((try simp only [Exit.inBlock, Exit.then]); refine ret_post (res1 rfl (R_tmp rfl)) ?_; try simp only [List.getD_cons_succ, List.getD_cons_zero])
  exact ⟨us, (by first | rfl | trivial), hul, H.own _ (List.mem_cons_of_mem _ (List.mem_cons_self ..)), hub, hum, hus, H.ext⟩
theorem mk_sl {g : HT} {us : List HT} (h : us.length = g.kids.length) : (HT.mk g.k g.n g.a g.cap us).sl = g.sl := by
  show Value.slice g.a us.length g.cap = _
  rw [h]; rfl
theorem mk_val {g : HT} {us : List HT} (h : us.length = g.kids.length) : (HT.mk g.k g.n g.a g.cap us).val = g.val := by
  show Value.agg #[.int .i64 g.k, .int .i64 g.n, .slice g.a us.length g.cap] = _
  rw [h]; rfl
theorem mk_er {g : HT} {us : List HT} : (HT.mk g.k g.n g.a g.cap us).er.kids = us.map HT.er := by rw [HT.er_kids]; rfl
theorem l_eqTermS_same (s t : HT) (w : World) (hs : Rd anyZ w s) (ht : Rd anyZ w t) (x : List T) (e1 : s.er.kids = x) (e2 : t.er.kids = x) :
    Calls Try.prog 24 #[s.sl, t.sl] w fun e w' => e = .returned (.bool true) ∧ Grow w w' := by
  have h := l_eqTermS s t w hs ht
  rw [e1, e2, T.beqL_refl] at h
  exact h
end Go.Proofs.Ytbkpfjabcohnpaa
