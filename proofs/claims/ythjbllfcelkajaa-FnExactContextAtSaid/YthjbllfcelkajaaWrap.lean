/- The laws' marks of single terms; rows of numbers. -/
import Derived.Test.YthjbllfcelkajaaHeld
import Derived.Test.YthjbllfcelkajaaCopy
import Derived.Test.YthjbllfcelkajaaAbk
namespace Go.Dk
open Go
theorem St.remark {w0 w w' : World} {M Z0 : Zone} {L : List Res} {φ : Fact} {t : HT} {us : List HT} (h : St w0 M Z0 L φ w) {n : Nat} (hn : L[n]? = some (treeR t)) (ho : (treeR (HT.mk t.k t.n t.a t.cap us)).own w')
    (hb : HT.blocks (HT.mk t.k t.n t.a t.cap us) = t.blocks) (hx : Ext (· ∈ t.blocks) w w') : St w0 M Z0 (L.set n (treeR (HT.mk t.k t.n t.a t.cap us))) φ w' :=
  h.upd hn hx (treeR_local _) ho fun b hb' => ⟨.inl (by show b ∈ t.blocks; rw [← hb]; exact hb'), (Rd.zone _ ho.1 b hb').2⟩
abbrev zoneOf {w0 w : World} {M Z0 : Zone} {L : List Res} {φ : Fact} (_ : St w0 M Z0 L φ w) : Zone := zone w0 Z0 L
/-- Two trees of the call's own. -/
def pairR (u v : HT) : Res := ⟨fun b => b ∈ u.blocks ∨ b ∈ v.blocks, fun w => (treeR u).own w ∧ (treeR v).own w ∧ ∀ b ∈ u.blocks, b ∉ v.blocks⟩
theorem pairR_local (u v : HT) : (pairR u v).Local := fun w w' h k =>
  ⟨treeR_local u w w' (fun b hb => h b (.inl hb)) k.1, treeR_local v w w' (fun b hb => h b (.inr hb)) k.2.1, k.2.2⟩
/-- What a function that hands back two trees of its own says. -/
structure Own2 (w w' : World) (u v : HT) : Prop where
  own : (pairR u v).own w'
  new : ∀ b, (b ∈ u.blocks ∨ b ∈ v.blocks) → w.heap.size ≤ b
theorem St.pushTwo {w0 w w' : World} {M Z0 : Zone} {L : List Res} {φ : Fact} {u v : HT} (h : St w0 M Z0 L φ w) (hg : Grow w w') (ho : Own2 w w' u v) : St w0 M Z0 (treeR u :: treeR v :: L) φ w' := by
  have h1 := h.push hg (pairR_local u v) ho.own (fun b hb => ⟨ho.new b hb, by
    rcases hb with hb | hb
    · exact (Rd.zone u ho.own.1.1 b hb).2
    · exact (Rd.zone v ho.own.2.1.1 b hb).2⟩)
  exact h1.cut (treeR_local u) (treeR_local v) (fun b hb => .inl hb) (fun b hb => .inr hb) ho.own.1 ho.own.2.1 ho.own.2.2
theorem St.outTwo {w0 w : World} {Z0 : Zone} {L : List Res} {φ : Fact} {u v : HT} (h : St w0 noneZ Z0 (treeR u :: treeR v :: L) φ w) : Own2 w0 w u v := by
  have hd := h.dis
  rw [List.pairwise_cons] at hd
  refine ⟨⟨h.own (treeR u) (by simp), h.own (treeR v) (by simp), fun b hb hb' => hd.1 (treeR v) (by simp) b hb hb'⟩, fun b hb => ?_⟩
  rcases hb with hb | hb
  · exact ((h.key (treeR u) (by simp) b hb).1).resolve_left (fun h => h)
  · exact ((h.key (treeR v) (by simp) b hb).1).resolve_left (fun h => h)
end Go.Dk
namespace Go.Proofs.Ythjbllfcelkajaa
open Go Go.Dk
set_option linter.unusedVariables false
set_option linter.unusedSimpArgs false
set_option maxRecDepth 100000 in
set_option maxHeartbeats 1000000 in
theorem l_markTerm (t : HT) (k : Int) (w : World) (ho : (treeR t).own w) (h0 : 0 ≤ k) (h1 : k + 2 * T.sizeL t.er.kids ≤ 1000000000) :
    Calls Try.prog 26 #[t.val, .int .i64 k] w fun e w' => ∃ us : List HT, e = .returned (.int .i64 (k + 2 * T.sizeL t.er.kids)) ∧ us.length = t.kids.length ∧ (treeR (HT.mk t.k t.n t.a t.cap us)).own w' ∧ HT.blocks (HT.mk t.k t.n t.a t.cap us) = t.blocks ∧
      mkTs (us.map HT.er) k = true ∧ T.sizeL (us.map HT.er) = T.sizeL t.er.kids ∧ Ext (· ∈ t.blocks) w w' := by
  have H := St.init1 w (· ∈ t.blocks) noneZ Stable.true trivial (treeR_local t) ho (fun b hb => ⟨hb, (Rd.zone t ho.1 b hb).2⟩) (fun b _ h => h)
  go_enter Try.func26, Try.ntmps26
  repeat' ((first | (refine T_nil ?_) | ((first | apply U0 | (apply U1; (case hd => decide +kernel)) | (apply U2 (hw := H); (case hd => decide +kernel)) | (apply U3 1; (case hp => rfl); (case hd => decide +kernel)) | (apply U3 2; (case hp => rfl); (case hd => decide +kernel)) | (apply U3 3; (case hp => rfl); (case hd => decide +kernel)) | (apply U3 4; (case hp => rfl); (case hd => decide +kernel)) | (apply U3 5; (case hp => rfl); (case hd => decide +kernel)) | (apply U3 6; (case hp => rfl); (case hd => decide +kernel)) | (apply U3 7; (case hp => rfl); (case hd => decide +kernel)) | (apply U3 8; (case hp => rfl); (case hd => decide +kernel)) | (apply U3 9; (case hp => rfl); (case hd => decide +kernel)) | (apply U3 10; (case hp => rfl); (case hd => decide +kernel)) | (apply U3 11; (case hp => rfl); (case hd => decide +kernel))); (case hg => rfl); (case hy => (first | (apply Yi.a; constructor; all_goals (first | rfl | (constructor <;> omega) | (apply CellIs.own; (case h => repeat constructor); rfl) | (apply Cell3.own; (case h => repeat constructor); all_goals rfl))) | (apply Yi.b; constructor; all_goals (first | rfl | (constructor <;> omega) | (apply CellIs.own; (case h => repeat constructor); rfl) | (apply Cell3.own; (case h => repeat constructor); all_goals rfl))) | (apply Yi.c; constructor; all_goals (first | rfl | (constructor <;> omega) | (apply CellIs.own; (case h => repeat constructor); rfl) | (apply Cell3.own; (case h => repeat constructor); all_goals rfl)))))) | ((first | apply V0 | apply V1 | apply V2 (hw := H)); (case hg => rfl); try decide +kernel) | ((first | refine G0 H ?_ | (refine G1 H (fun _ _ _ _ h => h) (by decide +kernel) ?_; clear H; intro _ H)); simp only [enum, Nat.reduceAdd]) | (apply B0 (hw := H); (case hg => rfl); (case hd => first | exact hd_false | decide +kernel); (case hx => rfl); (case hc => rfl); clear H; intro bx _ H) | (apply B1 (hw := H); (case hg => rfl); (case hd => first | exact hd_false | decide +kernel); clear H; intro ax _ H) | ((apply C1; (case hg => rfl); (case hd => first | exact hd_false | decide +kernel); (case hxs => rfl); (case hc => exact l_markTermS t k _ (H.own _ (List.mem_cons_of_mem _ (List.mem_cons_self ..))) h0 h1); rintro _ _ ⟨us, rfl, hul, huo, hub, hum, hus, hux⟩; replace H := H.remark (n := 1) rfl huo hub hux; (try simp only [List.set_cons_succ, List.set_cons_zero] at H); refine ⟨_, rfl, _, (by first | exact fun _ _ h => h | exact fun _ _ h => h.tail | exact fun _ _ h => h.unfact (by repeat' (first | exact Stable.true | exact rdF_stable _ | exact iF_stable _ _ | apply Stable.and)) (fun _ _ h => h.2) | exact nofun), H, ?_⟩)) | go_step | (apply X0; (case hy => rfl); all_goals (intro hb; simp only [hb]; (try simp only [decide_eq_true_eq, decide_eq_false_iff_not, Bool.not_eq_true', Bool.not_eq_false', Bool.and_eq_true, Bool.or_eq_true, Bool.and_eq_false_iff, Bool.or_eq_false_iff] at hb); try (exfalso; omega)))) <;> try simp only [List.getElem_toArray, List.getElem_cons_zero, List.getElem_cons_succ, Act.put, evalT, evalC, evalF, List.setIfInBounds_toArray, List.set_cons_succ, List.set_cons_zero, List.getD_cons_succ, List.getD_cons_zero, Nat.reduceAdd, Nat.reduceMul, Nat.add_zero, Nat.zero_add, Int.toNat_natCast, Int.reduceToNat, List.eraseIdx_cons_succ, List.eraseIdx_cons_zero, cond_true, cond_false])
  ((try simp only [Exit.inBlock, Exit.then]); refine ret_post (res1 rfl (R_tmp rfl)) ?_; try simp only [List.getD_cons_succ, List.getD_cons_zero])
  exact ⟨us, (by first | rfl | trivial), hul, H.own _ (List.mem_cons_of_mem _ (List.mem_cons_self ..)), hub, hum, hus, H.ext⟩
set_option maxRecDepth 100000 in
set_option maxHeartbeats 1000000 in
theorem l_heldTerm (t : HT) (k : Int) (Z : Zone) (w : World) (hr : Rd Z w t) (h0 : 0 ≤ k) (h1 : k + 2 * T.sizeL t.er.kids ≤ 1000000000) (hm : mkTs t.er.kids k = true) :
    Calls Try.prog 27 #[t.val, .int .i64 k] w fun e w' => e = .returned (.int .i64 (k + 2 * T.sizeL t.er.kids)) ∧ Grow w w' := by
  have H := St.init w noneZ Z (rdF_stable t) hr
  go_enter Try.func27, Try.ntmps27
  repeat' ((first | (refine T_nil ?_) | ((first | apply U0 | (apply U1; (case hd => decide +kernel)) | (apply U2 (hw := H); (case hd => decide +kernel)) | (apply U3 1; (case hp => rfl); (case hd => decide +kernel)) | (apply U3 2; (case hp => rfl); (case hd => decide +kernel)) | (apply U3 3; (case hp => rfl); (case hd => decide +kernel)) | (apply U3 4; (case hp => rfl); (case hd => decide +kernel)) | (apply U3 5; (case hp => rfl); (case hd => decide +kernel)) | (apply U3 6; (case hp => rfl); (case hd => decide +kernel)) | (apply U3 7; (case hp => rfl); (case hd => decide +kernel)) | (apply U3 8; (case hp => rfl); (case hd => decide +kernel)) | (apply U3 9; (case hp => rfl); (case hd => decide +kernel)) | (apply U3 10; (case hp => rfl); (case hd => decide +kernel)) | (apply U3 11; (case hp => rfl); (case hd => decide +kernel))); (case hg => rfl); (case hy => (first | (apply Yi.a; constructor; all_goals (first | rfl | (constructor <;> omega) | (apply CellIs.own; (case h => repeat constructor); rfl) | (apply Cell3.own; (case h => repeat constructor); all_goals rfl))) | (apply Yi.b; constructor; all_goals (first | rfl | (constructor <;> omega) | (apply CellIs.own; (case h => repeat constructor); rfl) | (apply Cell3.own; (case h => repeat constructor); all_goals rfl))) | (apply Yi.c; constructor; all_goals (first | rfl | (constructor <;> omega) | (apply CellIs.own; (case h => repeat constructor); rfl) | (apply Cell3.own; (case h => repeat constructor); all_goals rfl)))))) | ((first | apply V0 | apply V1 | apply V2 (hw := H)); (case hg => rfl); try decide +kernel) | ((first | refine G0 H ?_ | (refine G1 H (fun _ _ _ _ h => h) (by decide +kernel) ?_; clear H; intro _ H)); simp only [enum, Nat.reduceAdd]) | (apply B0 (hw := H); (case hg => rfl); (case hd => first | exact hd_false | decide +kernel); (case hx => rfl); (case hc => rfl); clear H; intro bx _ H) | (apply B1 (hw := H); (case hg => rfl); (case hd => first | exact hd_false | decide +kernel); clear H; intro ax _ H) | ((apply C0 (hw := H); (case hg => rfl); (case hd => first | exact hd_false | decide +kernel); (case hxs => rfl); (case hc => exact l_heldTermS t k _ _ H.per h0 h1 hm); clear H; intro _ H)) | go_step | (apply X0; (case hy => rfl); all_goals (intro hb; simp only [hb]; (try simp only [decide_eq_true_eq, decide_eq_false_iff_not, Bool.not_eq_true', Bool.not_eq_false', Bool.and_eq_true, Bool.or_eq_true, Bool.and_eq_false_iff, Bool.or_eq_false_iff] at hb); try (exfalso; omega)))) <;> try simp only [List.getElem_toArray, List.getElem_cons_zero, List.getElem_cons_succ, Act.put, evalT, evalC, evalF, List.setIfInBounds_toArray, List.set_cons_succ, List.set_cons_zero, List.getD_cons_succ, List.getD_cons_zero, Nat.reduceAdd, Nat.reduceMul, Nat.add_zero, Nat.zero_add, Int.toNat_natCast, Int.reduceToNat, List.eraseIdx_cons_succ, List.eraseIdx_cons_zero, cond_true, cond_false])
  ((try simp only [Exit.inBlock, Exit.then]); refine ret_post (res1 rfl (R_tmp rfl)) ?_; try simp only [List.getD_cons_succ, List.getD_cons_zero])
  (first | exact ⟨rfl, H.ext⟩ | exact ⟨trivial, H.ext⟩)
theorem mk_sl {g : HT} {us : List HT} (h : us.length = g.kids.length) : (HT.mk g.k g.n g.a g.cap us).sl = g.sl := by
  show Value.slice g.a us.length g.cap = _
  rw [h]; rfl
theorem mk_val {g : HT} {us : List HT} (h : us.length = g.kids.length) : (HT.mk g.k g.n g.a g.cap us).val = g.val := by
  show Value.agg #[.int .i64 g.k, .int .i64 g.n, .slice g.a us.length g.cap] = _
  rw [h]; rfl
theorem mk_er {g : HT} {us : List HT} : (HT.mk g.k g.n g.a g.cap us).er.kids = us.map HT.er := by rw [HT.er_kids]; rfl
theorem l_heldTermS_us {g : HT} {us : List HT} (hul : us.length = g.kids.length) (k : Int) (Z : Zone) (w : World) (hr : Rd Z w (HT.mk g.k g.n g.a g.cap us)) (h0 : 0 ≤ k) (h1 : k + 2 * T.sizeL g.er.kids ≤ 1000000000)
    (hm : mkTs (us.map HT.er) k = true) (hs : T.sizeL (us.map HT.er) = T.sizeL g.er.kids) : Calls Try.prog 20 #[g.sl, .int .i64 k] w fun e w' => e = .returned (.int .i64 (k + 2 * T.sizeL g.er.kids)) ∧ Grow w w' := by
  have h := l_heldTermS (HT.mk g.k g.n g.a g.cap us) k Z w hr h0 (by rw [mk_er, hs]; exact h1) (by rw [mk_er]; exact hm)
  rw [mk_sl hul, mk_er, hs] at h
  exact h
theorem l_heldTerm_us {g : HT} {us : List HT} (hul : us.length = g.kids.length) (k : Int) (Z : Zone) (w : World) (hr : Rd Z w (HT.mk g.k g.n g.a g.cap us)) (h0 : 0 ≤ k) (h1 : k + 2 * T.sizeL g.er.kids ≤ 1000000000)
    (hm : mkTs (us.map HT.er) k = true) (hs : T.sizeL (us.map HT.er) = T.sizeL g.er.kids) : Calls Try.prog 27 #[g.val, .int .i64 k] w fun e w' => e = .returned (.int .i64 (k + 2 * T.sizeL g.er.kids)) ∧ Grow w w' := by
  have h := l_heldTerm (HT.mk g.k g.n g.a g.cap us) k Z w hr h0 (by rw [mk_er, hs]; exact h1) (by rw [mk_er]; exact hm)
  rw [mk_val hul, mk_er, hs] at h
  exact h
theorem l_eqTermS_same (s t : HT) (w : World) (hs : Rd anyZ w s) (ht : Rd anyZ w t) (x : List T) (e1 : s.er.kids = x) (e2 : t.er.kids = x) :
    Calls Try.prog 18 #[s.sl, t.sl] w fun e w' => e = .returned (.bool true) ∧ Grow w w' := by
  have h := l_eqTermS s t w hs ht
  rw [e1, e2, T.beqL_refl] at h
  exact h
end Go.Proofs.Ythjbllfcelkajaa
