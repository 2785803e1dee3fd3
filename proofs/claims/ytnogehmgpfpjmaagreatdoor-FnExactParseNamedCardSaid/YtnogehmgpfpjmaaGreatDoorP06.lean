/- Part 6 of the proof. -/
import Derived.Test.YtnogehmgpfpjmaaGreatDoorP01
import Derived.Test.YtnogehmgpfpjmaaGreatDoorP02
import Derived.Test.YtnogehmgpfpjmaaGreatDoorP03
import Derived.Test.YtnogehmgpfpjmaaGreatDoorP04
import Derived.Test.YtnogehmgpfpjmaaGreatDoorP05
import Derived.Deep.CutRange
set_option linter.unusedVariables false
set_option linter.unusedSimpArgs false
section
namespace Go.Proofs.YtnogehmgpfpjmaaGreatDoor
open Go Go.Ab Go.Dk
theorem out_inj {a c : Int} {l : List T} {x r : ByteArray} {q b : Bool} {t : T} (h : (some ([.agg [.int .i64 a, .int .i64 c, .fr (.ts l)], .one (.str x), .one (.bool q)], []) : OR) = some ([tm t, .one (.str r), bl b], [])) : t = .mk a c l ∧ r = x ∧ b = q := by
 cases t
 simp only [tm, bl, Option.some.injEq, Prod.mk.injEq, List.cons.injEq, V1.agg.injEq, V1.one.injEq, SV.int.injEq, SV.str.injEq, SV.bool.injEq, SV.fr.injEq, SD.ts.injEq, true_and, and_true] at h
 obtain ⟨⟨h1, h2, h3⟩, h4, h5⟩ := h
 exact ⟨by rw [h1, h2, h3]; rfl, h4.symm, h5.symm⟩
theorem ln_zero (n : Nat) (v0 v1 : ByteArray) (v2 : Int) (v3 : List ByteArray) (v4 : ByteArray) (v5 : Bool) (v6 : ByteArray) (v7 : Bool) (v8 v9 v10 : Int) (v11 : List T) (v12 v13 : Int) (v14 : List T) :
   L_impl_readNamed_0_oo n 0 v0 v1 v2 v3 v4 v5 v6 v7 v8 v9 v10 v11 v12 v13 v14 = none := by kernel_rfl
theorem drop2 {w0 w : World} {M Z0 : Zone} {L : List Res} {φ : Fact} {p q r : Res} (h : St w0 M Z0 (p :: q :: r :: L) φ w) : St w0 M Z0 (p :: q :: L) φ w := h.drop 2
theorem sel3 {c1 c2 : Bool} {G : ByteArray → Option (List V1 × List AObj)} {K : List V1 × List AObj → OR} {x y : ByteArray} {z : List V1 × List AObj} (h : cond c1 (cond c2 ((G x).bind K) ((G y).bind K)) ((G y).bind K) = some z) : (G (cond (c1 && c2) x y)).bind K = some z := by
 cases c1 <;> cases c2 <;> exact h
noncomputable def rnT (n g : Nat) (s env : ByteArray) (deep : Int) (rk ins : ByteArray) (bb : Bool) (i : Int) (ts : List T) (ps : List ByteArray) (kk : Int) : OR :=
 cond (decide (0 ≤ i)) ((ps)[i.toNat]?.bind fun x17 => (FF n 71 [.one (.str rk), .one (.str x17)] []).bind fun x18 => rStr x18.1 fun x19 x20 => rBool x20 fun x21 x22 => nilV x22 (nilO x18.2
  (L_impl_readNamed_0_oo n g s env deep ps x19 x21 ins bb (IntKind.i64.wrap (i + 1)) 0 0 [] kk 0 ts))) none
attribute [local irreducible] Calls
set_option maxRecDepth 100000 in
set_option maxHeartbeats 4000000 in
theorem i_readNamed : ∀ (d : Nat), d ≤ 30 → ∀ (n : Nat) (s env : ByteArray) (t : T) (r : ByteArray) (b : Bool) (w : World), 200 + 10 * d ≤ n → env.size + d ≤ 60 → GL noneZ w →
   FF n 28 [.one (.str s), .one (.str env), nt (31 - (d : Int))] [] = some ([tm t, .one (.str r), bl b], []) →
   Calls Tryz.prog 28 #[.string s, .string env, .int .i64 (31 - (d : Int))] w fun e w' => ∃ u : HT, e = .returned (.tuple #[u.val, .string r, .bool b]) ∧ Grow w w' ∧ Own w w' u ∧ u.er = t := by
 intro d
 induction d with
 | zero => as_aux_lemma =>
  intro _ n s env t r b w hn he hgl h
  obtain ⟨n, rfl⟩ := pos_succ (show 0 < n by omega)
  have H := St.init w noneZ noneZ Stable.true trivial
  rw [E_impl_readNamed, decide_eq_true (show (30 : Int) < 31 - ((0 : Nat) : Int) by omega), cond_true, Bool.cond_self] at h
  obtain ⟨rfl, rfl, rfl⟩ := out_inj h
  go_enter Tryz.func28, Tryz.ntmps28
  repeat' ((first | (refine T_nil ?_) | ((first | apply U0 | (apply U1; (case hd => decide +kernel)) | (apply U2 (hw := H); (case hd => decide +kernel)) | (apply U3 1; (case hp => rfl); (case hd => decide +kernel)) | (apply U3 2; (case hp => rfl); (case hd => decide +kernel)) | (apply U3 3; (case hp => rfl); (case hd => decide +kernel)) | (apply U3 4; (case hp => rfl); (case hd => decide +kernel)) | (apply U3 5; (case hp => rfl); (case hd => decide +kernel)) | (apply U3 6; (case hp => rfl); (case hd => decide +kernel)) | (apply U3 7; (case hp => rfl); (case hd => decide +kernel)) | (apply U3 8; (case hp => rfl); (case hd => decide +kernel)) | (apply U3 9; (case hp => rfl); (case hd => decide +kernel)) | (apply U3 10; (case hp => rfl); (case hd => decide +kernel)) | (apply U3 11; (case hp => rfl); (case hd => decide +kernel))); (case hg => rfl); (case hy => (first | (apply Yi.a; constructor; all_goals (first | rfl | (constructor <;> omega) | (apply CellIs.own; (case h => repeat constructor); rfl) | (apply Cell3.own; (case h => repeat constructor); all_goals rfl))) | (apply Yi.b; constructor; all_goals (first | rfl | (constructor <;> omega) | (apply CellIs.own; (case h => repeat constructor); rfl) | (apply Cell3.own; (case h => repeat constructor); all_goals rfl))) | (apply Yi.c; constructor; all_goals (first | rfl | (constructor <;> omega) | (apply CellIs.own; (case h => repeat constructor); rfl) | (apply Cell3.own; (case h => repeat constructor); all_goals rfl)))))) | ((first | apply V0 | apply Go.Dk.V1 | apply V2 (hw := H)); (case hg => rfl); try decide +kernel) | ((first | refine G0 H ?_); simp only [enum, Nat.reduceAdd]) | (apply B0 (hw := H); (case hg => rfl); (case hd => first | with_reducible exact hd_false | decide +kernel); (case hx => rfl); (case hc => rfl); clear H; intro bx _ H) | (apply B1 (hw := H); (case hg => rfl); (case hd => first | with_reducible exact hd_false | decide +kernel); clear H; intro ax _ H) | ((apply W0 (hw := H); (case hg => rfl); (case hd => first | with_reducible exact hd_false | decide +kernel); (case hx => rfl); (case hy => rfl); (case hc => rfl); (case hn => repeat constructor); (case h1 => rfl); clear H; intro _ H; (try dsimp only at H); try simp only [putL, List.set_cons_succ, List.set_cons_zero, evalT, evalC, List.getD_cons_succ, List.getD_cons_zero, Nat.zero_add, Nat.reduceAdd] at H)) | go_step | (apply X0; (case hy => rfl); all_goals (intro hb; simp only [hb]; (try simp only [decide_eq_true_eq, decide_eq_false_iff_not, Bool.not_eq_true', Bool.not_eq_false', Bool.and_eq_true, Bool.or_eq_true, Bool.and_eq_false_iff, Bool.or_eq_false_iff] at hb); try (exfalso; omega)))) <;> try simp only [List.getElem_toArray, List.getElem_cons_zero, List.getElem_cons_succ, Act.put, evalT, evalC, evalF, List.setIfInBounds_toArray, List.set_cons_succ, List.set_cons_zero, List.getD_cons_succ, List.getD_cons_zero, Nat.reduceAdd, Nat.reduceMul, Nat.add_zero, Nat.zero_add, Int.toNat_natCast, Int.reduceToNat, List.eraseIdx_cons_succ, List.eraseIdx_cons_zero, cond_true, cond_false])
  all_goals first | (exfalso; omega; done) | skip
  all_goals
   (((try simp only [Exit.inBlock, Exit.then]); refine ret_post (res3 rfl (R_cell rfl (load3 (ST3.out) (H.cell at0 rfl) (H.cell at0 rfl) (H.cell at0 rfl))) (R_tmp rfl) (R_tmp rfl)) ?_; try simp only [List.getD_cons_succ, List.getD_cons_zero])
    exact ⟨.mk 0 0 none 0 [], rfl, H.ext, own_leaf _ _ _ _ _ _, rfl⟩)
 | succ d ih =>
  intro hd n s env t r b w hn he hgl h
  obtain ⟨n, rfl⟩ := pos_succ (show 0 < n by omega)
  have H := St.init w noneZ noneZ Stable.true trivial
  rw [E_impl_readNamed] at h
  have hdp : ¬ ((30 : Int) < 31 - ((d + 1 : Nat) : Int)) := by omega
  rw [decide_eq_false hdp, cond_false] at h
  cases hs0 : (s.toList == (bytesOf []).toList) with
  | true => as_aux_lemma =>
   rw [hs0, cond_true] at h
   obtain ⟨rfl, rfl, rfl⟩ := out_inj h
   go_enter Tryz.func28, Tryz.ntmps28
   repeat' ((first | (refine T_nil ?_) | ((first | apply U0 | (apply U1; (case hd => decide +kernel)) | (apply U2 (hw := H); (case hd => decide +kernel)) | (apply U3 1; (case hp => rfl); (case hd => decide +kernel)) | (apply U3 2; (case hp => rfl); (case hd => decide +kernel)) | (apply U3 3; (case hp => rfl); (case hd => decide +kernel)) | (apply U3 4; (case hp => rfl); (case hd => decide +kernel)) | (apply U3 5; (case hp => rfl); (case hd => decide +kernel)) | (apply U3 6; (case hp => rfl); (case hd => decide +kernel)) | (apply U3 7; (case hp => rfl); (case hd => decide +kernel)) | (apply U3 8; (case hp => rfl); (case hd => decide +kernel)) | (apply U3 9; (case hp => rfl); (case hd => decide +kernel)) | (apply U3 10; (case hp => rfl); (case hd => decide +kernel)) | (apply U3 11; (case hp => rfl); (case hd => decide +kernel))); (case hg => rfl); (case hy => (first | (apply Yi.a; constructor; all_goals (first | rfl | (constructor <;> omega) | (apply CellIs.own; (case h => repeat constructor); rfl) | (apply Cell3.own; (case h => repeat constructor); all_goals rfl))) | (apply Yi.b; constructor; all_goals (first | rfl | (constructor <;> omega) | (apply CellIs.own; (case h => repeat constructor); rfl) | (apply Cell3.own; (case h => repeat constructor); all_goals rfl))) | (apply Yi.c; constructor; all_goals (first | rfl | (constructor <;> omega) | (apply CellIs.own; (case h => repeat constructor); rfl) | (apply Cell3.own; (case h => repeat constructor); all_goals rfl)))))) | ((first | apply V0 | apply Go.Dk.V1 | apply V2 (hw := H)); (case hg => rfl); try decide +kernel) | ((first | refine G0 H ?_); simp only [enum, Nat.reduceAdd]) | (apply B0 (hw := H); (case hg => rfl); (case hd => first | with_reducible exact hd_false | decide +kernel); (case hx => rfl); (case hc => rfl); clear H; intro bx _ H) | (apply B1 (hw := H); (case hg => rfl); (case hd => first | with_reducible exact hd_false | decide +kernel); clear H; intro ax _ H) | ((apply W0 (hw := H); (case hg => rfl); (case hd => first | with_reducible exact hd_false | decide +kernel); (case hx => rfl); (case hy => rfl); (case hc => rfl); (case hn => repeat constructor); (case h1 => rfl); clear H; intro _ H; (try dsimp only at H); try simp only [putL, List.set_cons_succ, List.set_cons_zero, evalT, evalC, List.getD_cons_succ, List.getD_cons_zero, Nat.zero_add, Nat.reduceAdd] at H)) | go_step | (apply X0; (case hy => rfl); all_goals (intro hb; simp only [hb]; (try simp only [decide_eq_true_eq, decide_eq_false_iff_not, Bool.not_eq_true', Bool.not_eq_false', Bool.and_eq_true, Bool.or_eq_true, Bool.and_eq_false_iff, Bool.or_eq_false_iff] at hb); try (exfalso; omega)))) <;> try simp only [List.getElem_toArray, List.getElem_cons_zero, List.getElem_cons_succ, Act.put, evalT, evalC, evalF, List.setIfInBounds_toArray, List.set_cons_succ, List.set_cons_zero, List.getD_cons_succ, List.getD_cons_zero, Nat.reduceAdd, Nat.reduceMul, Nat.add_zero, Nat.zero_add, Int.toNat_natCast, Int.reduceToNat, List.eraseIdx_cons_succ, List.eraseIdx_cons_zero, cond_true, cond_false])
   all_goals first | (exfalso; exact absurd (hs0.symm.trans hb) (by decide)) | skip
   all_goals
    (((try simp only [Exit.inBlock, Exit.then]); refine ret_post (res3 rfl (R_cell rfl (load3 (ST3.out) (H.cell at0 rfl) (H.cell at0 rfl) (H.cell at0 rfl))) (R_tmp rfl) (R_tmp rfl)) ?_; try simp only [List.getD_cons_succ, List.getD_cons_zero])
     exact ⟨.mk 0 0 none 0 [], rfl, H.ext, own_leaf _ _ _ _ _ _, rfl⟩)
  | false =>
   rw [hs0, cond_false] at h
   (obtain ⟨hg0, g0⟩ := v_cond h; clear h; have h := g0; clear g0)
   simp only [Bool.and_eq_true, decide_eq_true_eq, Int.le_refl, true_and] at hg0
   (obtain ⟨⟨q1, q2⟩, hf1, g0⟩ := v_bind h; clear h; (try dsimp only at g0); obtain ⟨b1, q3, e1, g1⟩ := v_rBool g0; clear g0; subst e1; obtain ⟨e1, g2⟩ := v_nilV g1; clear g1; subst e1; obtain ⟨e1, h⟩ := v_nilO g2; clear g2; subst e1; (try dsimp only at h))
   go_enter Tryz.func28, Tryz.ntmps28
   repeat' ((first | (refine T_nil ?_) | ((first | apply U0 | (apply U1; (case hd => decide +kernel)) | (apply U2 (hw := H); (case hd => decide +kernel)) | (apply U3 1; (case hp => rfl); (case hd => decide +kernel)) | (apply U3 2; (case hp => rfl); (case hd => decide +kernel)) | (apply U3 3; (case hp => rfl); (case hd => decide +kernel)) | (apply U3 4; (case hp => rfl); (case hd => decide +kernel)) | (apply U3 5; (case hp => rfl); (case hd => decide +kernel)) | (apply U3 6; (case hp => rfl); (case hd => decide +kernel)) | (apply U3 7; (case hp => rfl); (case hd => decide +kernel)) | (apply U3 8; (case hp => rfl); (case hd => decide +kernel)) | (apply U3 9; (case hp => rfl); (case hd => decide +kernel)) | (apply U3 10; (case hp => rfl); (case hd => decide +kernel)) | (apply U3 11; (case hp => rfl); (case hd => decide +kernel))); (case hg => rfl); (case hy => (first | (apply Yi.a; constructor; all_goals (first | rfl | (constructor <;> omega) | (apply CellIs.own; (case h => repeat constructor); rfl) | (apply Cell3.own; (case h => repeat constructor); all_goals rfl))) | (apply Yi.b; constructor; all_goals (first | rfl | (constructor <;> omega) | (apply CellIs.own; (case h => repeat constructor); rfl) | (apply Cell3.own; (case h => repeat constructor); all_goals rfl))) | (apply Yi.c; constructor; all_goals (first | rfl | (constructor <;> omega) | (apply CellIs.own; (case h => repeat constructor); rfl) | (apply Cell3.own; (case h => repeat constructor); all_goals rfl)))))) | ((first | apply V0 | apply Go.Dk.V1 | apply V2 (hw := H)); (case hg => rfl); try decide +kernel) | ((first | refine G0 H ?_); simp only [enum, Nat.reduceAdd]) | (apply B0 (hw := H); (case hg => rfl); (case hd => first | with_reducible exact hd_false | decide +kernel); (case hx => rfl); (case hc => rfl); clear H; intro bx _ H) | (apply B1 (hw := H); (case hg => rfl); (case hd => first | with_reducible exact hd_false | decide +kernel); clear H; intro ax _ H) | ((apply W0 (hw := H); (case hg => rfl); (case hd => first | with_reducible exact hd_false | decide +kernel); (case hx => rfl); (case hy => rfl); (case hc => rfl); (case hn => repeat constructor); (case h1 => rfl); clear H; intro _ H; (try dsimp only at H); try simp only [putL, List.set_cons_succ, List.set_cons_zero, evalT, evalC, List.getD_cons_succ, List.getD_cons_zero, Nat.zero_add, Nat.reduceAdd] at H)) | ((apply C0 (hw := H); (case hg => rfl); (case hd => first | with_reducible exact hd_false | decide +kernel); (case hxs => rfl); (case hc => exact q_isLetter (hgl.now H.ext) hf1); clear H; intro _ H)) | go_step | (apply X0; (case hy => rfl); all_goals (intro hb; simp only [hb]; (try simp only [decide_eq_true_eq, decide_eq_false_iff_not, Bool.not_eq_true', Bool.not_eq_false', Bool.and_eq_true, Bool.or_eq_true, Bool.and_eq_false_iff, Bool.or_eq_false_iff] at hb); try (exfalso; omega)))) <;> try simp only [List.getElem_toArray, List.getElem_cons_zero, List.getElem_cons_succ, Act.put, evalT, evalC, evalF, List.setIfInBounds_toArray, List.set_cons_succ, List.set_cons_zero, List.getD_cons_succ, List.getD_cons_zero, Nat.reduceAdd, Nat.reduceMul, Nat.add_zero, Nat.zero_add, Int.toNat_natCast, Int.reduceToNat, List.eraseIdx_cons_succ, List.eraseIdx_cons_zero, cond_true, cond_false])
   all_goals first | (exfalso; exact absurd (hs0.symm.trans hb) (by decide)) | skip
   ·as_aux_lemma =>
    have hb1 : b1 = true := by assumption
    subst hb1
    rw [cond_true] at h
    (obtain ⟨hg1, g0⟩ := v_cond h; clear h; have h := g0; clear g0)
    (obtain ⟨⟨q1, q2⟩, hf2, g0⟩ := v_bind h; clear h; (try dsimp only at g0); obtain ⟨v, q3, e1, g1⟩ := v_rInt g0; clear g0; subst e1; obtain ⟨e1, g2⟩ := v_nilV g1; clear g1; subst e1; obtain ⟨e1, h⟩ := v_nilO g2; clear g2; subst e1; (try dsimp only at h))
    (obtain ⟨⟨q1, q2⟩, hf3, g0⟩ := v_bind h; clear h; (try dsimp only at g0); obtain ⟨tv, q3, e1, g1⟩ := v_rTerm g0; clear g0; subst e1; obtain ⟨e1, g2⟩ := v_nilV g1; clear g1; subst e1; obtain ⟨e1, h⟩ := v_nilO g2; clear g2; subst e1; (try dsimp only at h))
    (obtain ⟨hg2, g0⟩ := v_cond h; clear h; have h := g0; clear g0)
    obtain ⟨rfl, rfl, rfl⟩ := out_inj h
    have hv := last_bd (by omega) (by omega) hf2
    rw [wrap64 (show -9223372036854775808 ≤ (env.size : Int) - 1 ∧ (env.size : Int) - 1 ≤ 9223372036854775807 by omega), wrap64 (show -9223372036854775808 ≤ (env.size : Int) - 1 - v ∧ (env.size : Int) - 1 - v ≤ 9223372036854775807 by omega)] at hf3
    have e3 := tm_inj (hf3.symm.trans (f_variable (n := n) (by omega) _))
    repeat' ((first | (refine T_nil ?_) | ((first | apply U0 | (apply U1; (case hd => decide +kernel)) | (apply U2 (hw := H); (case hd => decide +kernel)) | (apply U3 1; (case hp => rfl); (case hd => decide +kernel)) | (apply U3 2; (case hp => rfl); (case hd => decide +kernel)) | (apply U3 3; (case hp => rfl); (case hd => decide +kernel)) | (apply U3 4; (case hp => rfl); (case hd => decide +kernel)) | (apply U3 5; (case hp => rfl); (case hd => decide +kernel)) | (apply U3 6; (case hp => rfl); (case hd => decide +kernel)) | (apply U3 7; (case hp => rfl); (case hd => decide +kernel)) | (apply U3 8; (case hp => rfl); (case hd => decide +kernel)) | (apply U3 9; (case hp => rfl); (case hd => decide +kernel)) | (apply U3 10; (case hp => rfl); (case hd => decide +kernel)) | (apply U3 11; (case hp => rfl); (case hd => decide +kernel))); (case hg => rfl); (case hy => (first | (apply Yi.a; constructor; all_goals (first | rfl | (constructor <;> omega) | (apply CellIs.own; (case h => repeat constructor); rfl) | (apply Cell3.own; (case h => repeat constructor); all_goals rfl))) | (apply Yi.b; constructor; all_goals (first | rfl | (constructor <;> omega) | (apply CellIs.own; (case h => repeat constructor); rfl) | (apply Cell3.own; (case h => repeat constructor); all_goals rfl))) | (apply Yi.c; constructor; all_goals (first | rfl | (constructor <;> omega) | (apply CellIs.own; (case h => repeat constructor); rfl) | (apply Cell3.own; (case h => repeat constructor); all_goals rfl)))))) | ((first | apply V0 | apply Go.Dk.V1 | apply V2 (hw := H)); (case hg => rfl); try decide +kernel) | ((first | refine G0 H ?_); simp only [enum, Nat.reduceAdd]) | (apply B0 (hw := H); (case hg => rfl); (case hd => first | with_reducible exact hd_false | decide +kernel); (case hx => rfl); (case hc => rfl); clear H; intro bx _ H) | (apply B1 (hw := H); (case hg => rfl); (case hd => first | with_reducible exact hd_false | decide +kernel); clear H; intro ax _ H) | ((apply W0 (hw := H); (case hg => rfl); (case hd => first | with_reducible exact hd_false | decide +kernel); (case hx => rfl); (case hy => rfl); (case hc => rfl); (case hn => repeat constructor); (case h1 => rfl); clear H; intro _ H; (try dsimp only at H); try simp only [putL, List.set_cons_succ, List.set_cons_zero, evalT, evalC, List.getD_cons_succ, List.getD_cons_zero, Nat.zero_add, Nat.reduceAdd] at H)) | ((apply C0 (hw := H); (case hg => rfl); (case hd => first | with_reducible exact hd_false | decide +kernel); (case hxs => rfl); (case hc => exact q_last (hgl.now H.ext) hf2); clear H; intro _ H)) | go_step | (apply X0; (case hy => rfl); all_goals (intro hb; simp only [hb]; (try simp only [decide_eq_true_eq, decide_eq_false_iff_not, Bool.not_eq_true', Bool.not_eq_false', Bool.and_eq_true, Bool.or_eq_true, Bool.and_eq_false_iff, Bool.or_eq_false_iff] at hb); try (exfalso; omega)))) <;> try simp only [List.getElem_toArray, List.getElem_cons_zero, List.getElem_cons_succ, Act.put, evalT, evalC, evalF, List.setIfInBounds_toArray, List.set_cons_succ, List.set_cons_zero, List.getD_cons_succ, List.getD_cons_zero, Nat.reduceAdd, Nat.reduceMul, Nat.add_zero, Nat.zero_add, Int.toNat_natCast, Int.reduceToNat, List.eraseIdx_cons_succ, List.eraseIdx_cons_zero, cond_true, cond_false])
    (refine G2 (TT) H (fun _ _ => trivial) (fun _ _ _ _ h => h) (by decide +kernel) ?_; clear H; intro _ H; simp only [enum, Nat.reduceAdd])
    repeat' ((first | (refine T_nil ?_) | ((first | apply U0 | (apply U1; (case hd => decide +kernel)) | (apply U2 (hw := H); (case hd => decide +kernel)) | (apply U3 1; (case hp => rfl); (case hd => decide +kernel)) | (apply U3 2; (case hp => rfl); (case hd => decide +kernel)) | (apply U3 3; (case hp => rfl); (case hd => decide +kernel)) | (apply U3 4; (case hp => rfl); (case hd => decide +kernel)) | (apply U3 5; (case hp => rfl); (case hd => decide +kernel)) | (apply U3 6; (case hp => rfl); (case hd => decide +kernel)) | (apply U3 7; (case hp => rfl); (case hd => decide +kernel)) | (apply U3 8; (case hp => rfl); (case hd => decide +kernel)) | (apply U3 9; (case hp => rfl); (case hd => decide +kernel)) | (apply U3 10; (case hp => rfl); (case hd => decide +kernel)) | (apply U3 11; (case hp => rfl); (case hd => decide +kernel))); (case hg => rfl); (case hy => (first | (apply Yi.a; constructor; all_goals (first | rfl | (constructor <;> omega) | (apply CellIs.own; (case h => repeat constructor); rfl) | (apply Cell3.own; (case h => repeat constructor); all_goals rfl))) | (apply Yi.b; constructor; all_goals (first | rfl | (constructor <;> omega) | (apply CellIs.own; (case h => repeat constructor); rfl) | (apply Cell3.own; (case h => repeat constructor); all_goals rfl))) | (apply Yi.c; constructor; all_goals (first | rfl | (constructor <;> omega) | (apply CellIs.own; (case h => repeat constructor); rfl) | (apply Cell3.own; (case h => repeat constructor); all_goals rfl)))))) | ((first | apply V0 | apply Go.Dk.V1 | apply V2 (hw := H)); (case hg => rfl); try decide +kernel) | (fail) | (apply B0 (hw := H); (case hg => rfl); (case hd => first | with_reducible exact hd_false | decide +kernel); (case hx => rfl); (case hc => rfl); clear H; intro bx _ H) | (apply B1 (hw := H); (case hg => rfl); (case hd => first | with_reducible exact hd_false | decide +kernel); clear H; intro ax _ H) | ((apply W0g (hw := H); (case hg => rfl); (case hd => first | with_reducible exact hd_false | decide +kernel); (case hx => rfl); (case hy => rfl); (case hc => rfl); (case hn => repeat constructor); (case h1 => rfl); (case hS => exact (fun _ _ => trivial)); clear H; intro _ H; (try dsimp only at H); try simp only [putL, List.set_cons_succ, List.set_cons_zero, evalT, evalC, List.getD_cons_succ, List.getD_cons_zero, Nat.zero_add, Nat.reduceAdd] at H)) | ((apply C1; (case hg => rfl); (case hd => first | with_reducible exact hd_false | decide +kernel); (case hxs => rfl); (case hc => exact q_variable _ (hgl.now H.ext)); rintro _ _ ⟨z, rfl, hgr, ho, hez⟩; replace H := H.pushTree hgr ho; (try simp only [List.set_cons_succ, List.set_cons_zero] at H); refine ⟨_, rfl, _, fun _ _ h => h, trivial, ?_⟩)) | go_step | (apply X0; (case hy => rfl); all_goals (intro hb; simp only [hb]; (try simp only [decide_eq_true_eq, decide_eq_false_iff_not, Bool.not_eq_true', Bool.not_eq_false', Bool.and_eq_true, Bool.or_eq_true, Bool.and_eq_false_iff, Bool.or_eq_false_iff] at hb); try (exfalso; omega)))) <;> try simp only [List.getElem_toArray, List.getElem_cons_zero, List.getElem_cons_succ, Act.put, evalT, evalC, evalF, List.setIfInBounds_toArray, List.set_cons_succ, List.set_cons_zero, List.getD_cons_succ, List.getD_cons_zero, Nat.reduceAdd, Nat.reduceMul, Nat.add_zero, Nat.zero_add, Int.toNat_natCast, Int.reduceToNat, List.eraseIdx_cons_succ, List.eraseIdx_cons_zero, cond_true, cond_false])
    ((try simp only [Exit.inBlock, Exit.then]); refine ret_post (res3 rfl (R_cell rfl (load3 (ST3.out) (H.cell at1 rfl) (H.cell at1 rfl) (H.cell at1 rfl))) (R_tmp rfl) (R_tmp rfl)) ?_; try simp only [List.getD_cons_succ, List.getD_cons_zero])
    exact ⟨z, rfl, H.ext, H.outTree, by rw [hez, e3]; rfl⟩
   ·have hb1 : b1 = false := by assumption
    subst hb1
    rw [cond_false] at h
    (obtain ⟨⟨q1, q2⟩, hf2, g0⟩ := v_bind h; clear h; (try dsimp only at g0); obtain ⟨kd, q3, e1, g1⟩ := v_rInt g0; clear g0; subst e1; obtain ⟨e1, g2⟩ := v_nilV g1; clear g1; subst e1; obtain ⟨e1, h⟩ := v_nilO g2; clear g2; subst e1; (try dsimp only at h))
    have hkd := kd_bd (by omega) (by omega) hf2
    cases hk0 : decide (kd < 0) with
    | true => as_aux_lemma =>
     rw [hk0, cond_true] at h
     obtain ⟨rfl, rfl, rfl⟩ := out_inj h
     simp only [decide_eq_true_eq] at hk0
     repeat' ((first | (refine T_nil ?_) | ((first | apply U0 | (apply U1; (case hd => decide +kernel)) | (apply U2 (hw := H); (case hd => decide +kernel)) | (apply U3 1; (case hp => rfl); (case hd => decide +kernel)) | (apply U3 2; (case hp => rfl); (case hd => decide +kernel)) | (apply U3 3; (case hp => rfl); (case hd => decide +kernel)) | (apply U3 4; (case hp => rfl); (case hd => decide +kernel)) | (apply U3 5; (case hp => rfl); (case hd => decide +kernel)) | (apply U3 6; (case hp => rfl); (case hd => decide +kernel)) | (apply U3 7; (case hp => rfl); (case hd => decide +kernel)) | (apply U3 8; (case hp => rfl); (case hd => decide +kernel)) | (apply U3 9; (case hp => rfl); (case hd => decide +kernel)) | (apply U3 10; (case hp => rfl); (case hd => decide +kernel)) | (apply U3 11; (case hp => rfl); (case hd => decide +kernel))); (case hg => rfl); (case hy => (first | (apply Yi.a; constructor; all_goals (first | rfl | (constructor <;> omega) | (apply CellIs.own; (case h => repeat constructor); rfl) | (apply Cell3.own; (case h => repeat constructor); all_goals rfl))) | (apply Yi.b; constructor; all_goals (first | rfl | (constructor <;> omega) | (apply CellIs.own; (case h => repeat constructor); rfl) | (apply Cell3.own; (case h => repeat constructor); all_goals rfl))) | (apply Yi.c; constructor; all_goals (first | rfl | (constructor <;> omega) | (apply CellIs.own; (case h => repeat constructor); rfl) | (apply Cell3.own; (case h => repeat constructor); all_goals rfl)))))) | ((first | apply V0 | apply Go.Dk.V1 | apply V2 (hw := H)); (case hg => rfl); try decide +kernel) | ((first | refine G0 H ?_); simp only [enum, Nat.reduceAdd]) | (apply B0 (hw := H); (case hg => rfl); (case hd => first | with_reducible exact hd_false | decide +kernel); (case hx => rfl); (case hc => rfl); clear H; intro bx _ H) | (apply B1 (hw := H); (case hg => rfl); (case hd => first | with_reducible exact hd_false | decide +kernel); clear H; intro ax _ H) | ((apply W0 (hw := H); (case hg => rfl); (case hd => first | with_reducible exact hd_false | decide +kernel); (case hx => rfl); (case hy => rfl); (case hc => rfl); (case hn => repeat constructor); (case h1 => rfl); clear H; intro _ H; (try dsimp only at H); try simp only [putL, List.set_cons_succ, List.set_cons_zero, evalT, evalC, List.getD_cons_succ, List.getD_cons_zero, Nat.zero_add, Nat.reduceAdd] at H)) | ((apply C0 (hw := H); (case hg => rfl); (case hd => first | with_reducible exact hd_false | decide +kernel); (case hxs => rfl); (case hc => exact q_kindAt (hgl.now H.ext) hf2); clear H; intro _ H)) | go_step | (apply X0; (case hy => rfl); all_goals (intro hb; simp only [hb]; (try simp only [decide_eq_true_eq, decide_eq_false_iff_not, Bool.not_eq_true', Bool.not_eq_false', Bool.and_eq_true, Bool.or_eq_true, Bool.and_eq_false_iff, Bool.or_eq_false_iff] at hb); try (exfalso; omega)))) <;> try simp only [List.getElem_toArray, List.getElem_cons_zero, List.getElem_cons_succ, Act.put, evalT, evalC, evalF, List.setIfInBounds_toArray, List.set_cons_succ, List.set_cons_zero, List.getD_cons_succ, List.getD_cons_zero, Nat.reduceAdd, Nat.reduceMul, Nat.add_zero, Nat.zero_add, Int.toNat_natCast, Int.reduceToNat, List.eraseIdx_cons_succ, List.eraseIdx_cons_zero, cond_true, cond_false])
     all_goals first | (exfalso; omega; done) | skip
     all_goals
      (((try simp only [Exit.inBlock, Exit.then]); refine ret_post (res3 rfl (R_cell rfl (load3 (ST3.out) (H.cell at0 rfl) (H.cell at0 rfl) (H.cell at0 rfl))) (R_tmp rfl) (R_tmp rfl)) ?_; try simp only [List.getD_cons_succ, List.getD_cons_zero])
       exact ⟨.mk 0 0 none 0 [], rfl, H.ext, own_leaf _ _ _ _ _ _, rfl⟩)
    | false =>
    rw [hk0, cond_false] at h
    simp only [decide_eq_false_iff_not] at hk0
    cases hk1 : decide (kd = 1) with
    | true => as_aux_lemma =>
     rw [hk1, cond_true] at h
     obtain ⟨rfl, rfl, rfl⟩ := out_inj h
     simp only [decide_eq_true_eq] at hk1
     repeat' ((first | (refine T_nil ?_) | ((first | apply U0 | (apply U1; (case hd => decide +kernel)) | (apply U2 (hw := H); (case hd => decide +kernel)) | (apply U3 1; (case hp => rfl); (case hd => decide +kernel)) | (apply U3 2; (case hp => rfl); (case hd => decide +kernel)) | (apply U3 3; (case hp => rfl); (case hd => decide +kernel)) | (apply U3 4; (case hp => rfl); (case hd => decide +kernel)) | (apply U3 5; (case hp => rfl); (case hd => decide +kernel)) | (apply U3 6; (case hp => rfl); (case hd => decide +kernel)) | (apply U3 7; (case hp => rfl); (case hd => decide +kernel)) | (apply U3 8; (case hp => rfl); (case hd => decide +kernel)) | (apply U3 9; (case hp => rfl); (case hd => decide +kernel)) | (apply U3 10; (case hp => rfl); (case hd => decide +kernel)) | (apply U3 11; (case hp => rfl); (case hd => decide +kernel))); (case hg => rfl); (case hy => (first | (apply Yi.a; constructor; all_goals (first | rfl | (constructor <;> omega) | (apply CellIs.own; (case h => repeat constructor); rfl) | (apply Cell3.own; (case h => repeat constructor); all_goals rfl))) | (apply Yi.b; constructor; all_goals (first | rfl | (constructor <;> omega) | (apply CellIs.own; (case h => repeat constructor); rfl) | (apply Cell3.own; (case h => repeat constructor); all_goals rfl))) | (apply Yi.c; constructor; all_goals (first | rfl | (constructor <;> omega) | (apply CellIs.own; (case h => repeat constructor); rfl) | (apply Cell3.own; (case h => repeat constructor); all_goals rfl)))))) | ((first | apply V0 | apply Go.Dk.V1 | apply V2 (hw := H)); (case hg => rfl); try decide +kernel) | ((first | refine G0 H ?_); simp only [enum, Nat.reduceAdd]) | (apply B0 (hw := H); (case hg => rfl); (case hd => first | with_reducible exact hd_false | decide +kernel); (case hx => rfl); (case hc => rfl); clear H; intro bx _ H) | (apply B1 (hw := H); (case hg => rfl); (case hd => first | with_reducible exact hd_false | decide +kernel); clear H; intro ax _ H) | ((apply W0 (hw := H); (case hg => rfl); (case hd => first | with_reducible exact hd_false | decide +kernel); (case hx => rfl); (case hy => rfl); (case hc => rfl); (case hn => repeat constructor); (case h1 => rfl); clear H; intro _ H; (try dsimp only at H); try simp only [putL, List.set_cons_succ, List.set_cons_zero, evalT, evalC, List.getD_cons_succ, List.getD_cons_zero, Nat.zero_add, Nat.reduceAdd] at H)) | ((apply C0 (hw := H); (case hg => rfl); (case hd => first | with_reducible exact hd_false | decide +kernel); (case hxs => rfl); (case hc => exact q_kindAt (hgl.now H.ext) hf2); clear H; intro _ H)) | go_step | (apply X0; (case hy => rfl); all_goals (intro hb; simp only [hb]; (try simp only [decide_eq_true_eq, decide_eq_false_iff_not, Bool.not_eq_true', Bool.not_eq_false', Bool.and_eq_true, Bool.or_eq_true, Bool.and_eq_false_iff, Bool.or_eq_false_iff] at hb); try (exfalso; omega)))) <;> try simp only [List.getElem_toArray, List.getElem_cons_zero, List.getElem_cons_succ, Act.put, evalT, evalC, evalF, List.setIfInBounds_toArray, List.set_cons_succ, List.set_cons_zero, List.getD_cons_succ, List.getD_cons_zero, Nat.reduceAdd, Nat.reduceMul, Nat.add_zero, Nat.zero_add, Int.toNat_natCast, Int.reduceToNat, List.eraseIdx_cons_succ, List.eraseIdx_cons_zero, cond_true, cond_false])
     all_goals first | (exfalso; omega; done) | skip
     all_goals
      (((try simp only [Exit.inBlock, Exit.then]); refine ret_post (res3 rfl (R_cell rfl (load3 (ST3.out) (H.cell at0 rfl) (H.cell at0 rfl) (H.cell at0 rfl))) (R_tmp rfl) (R_tmp rfl)) ?_; try simp only [List.getD_cons_succ, List.getD_cons_zero])
       exact ⟨.mk 0 0 none 0 [], rfl, H.ext, own_leaf _ _ _ _ _ _, rfl⟩)
    | false =>
    rw [hk1, cond_false] at h
    simp only [decide_eq_false_iff_not] at hk1
    cases hk2 : decide (kd = 2) with
    | true =>
     rw [hk2, cond_true] at h
     simp only [decide_eq_true_eq] at hk2
     (obtain ⟨hg1, g0⟩ := v_cond h; clear h; have h := g0; clear g0)
     (obtain ⟨⟨q1, q2⟩, hf3, g0⟩ := v_bind h; clear h; (try dsimp only at g0); obtain ⟨m, q3, e1, g1⟩ := v_rInt g0; clear g0; subst e1; obtain ⟨rr, q3, e1, g2⟩ := v_rStr g1; clear g1; subst e1; obtain ⟨e1, g3⟩ := v_nilV g2; clear g2; subst e1; obtain ⟨e1, h⟩ := v_nilO g3; clear g3; subst e1; (try dsimp only at h))
     (obtain ⟨⟨q1, q2⟩, hf4, g0⟩ := v_bind h; clear h; (try dsimp only at g0); obtain ⟨tv, q3, e1, g1⟩ := v_rTerm g0; clear g0; subst e1; obtain ⟨e1, g2⟩ := v_nilV g1; clear g1; subst e1; obtain ⟨e1, h⟩ := v_nilO g2; clear g2; subst e1; (try dsimp only at h))
     have e3 := tm_inj (hf4.symm.trans (f_sort (n := n) (by omega) _))
     cases hm : decide (0 ≤ m) with
     | true => as_aux_lemma =>
      rw [hm, cond_true] at h
      simp only [decide_eq_true_eq] at hm
      (obtain ⟨hg2, g0⟩ := v_cond h; clear h; have h := g0; clear g0)
      (obtain ⟨⟨q1, q2⟩, hf5, g0⟩ := v_bind h; clear h; (try dsimp only at g0); obtain ⟨si, q3, e1, g1⟩ := v_rStr g0; clear g0; subst e1; obtain ⟨e1, g2⟩ := v_nilV g1; clear g1; subst e1; obtain ⟨e1, h⟩ := v_nilO g2; clear g2; subst e1; (try dsimp only at h))
      (obtain ⟨⟨q1, q2⟩, hf6, g0⟩ := v_bind h; clear h; (try dsimp only at g0); obtain ⟨st, q3, e1, g1⟩ := v_rStr g0; clear g0; subst e1; obtain ⟨e1, g2⟩ := v_nilV g1; clear g1; subst e1; obtain ⟨e1, h⟩ := v_nilO g2; clear g2; subst e1; (try dsimp only at h))
      obtain ⟨rfl, rfl, rfl⟩ := out_inj h
      repeat' ((first | (refine T_nil ?_) | ((first | apply U0 | (apply U1; (case hd => decide +kernel)) | (apply U2 (hw := H); (case hd => decide +kernel)) | (apply U3 1; (case hp => rfl); (case hd => decide +kernel)) | (apply U3 2; (case hp => rfl); (case hd => decide +kernel)) | (apply U3 3; (case hp => rfl); (case hd => decide +kernel)) | (apply U3 4; (case hp => rfl); (case hd => decide +kernel)) | (apply U3 5; (case hp => rfl); (case hd => decide +kernel)) | (apply U3 6; (case hp => rfl); (case hd => decide +kernel)) | (apply U3 7; (case hp => rfl); (case hd => decide +kernel)) | (apply U3 8; (case hp => rfl); (case hd => decide +kernel)) | (apply U3 9; (case hp => rfl); (case hd => decide +kernel)) | (apply U3 10; (case hp => rfl); (case hd => decide +kernel)) | (apply U3 11; (case hp => rfl); (case hd => decide +kernel))); (case hg => rfl); (case hy => (first | (apply Yi.a; constructor; all_goals (first | rfl | (constructor <;> omega) | (apply CellIs.own; (case h => repeat constructor); rfl) | (apply Cell3.own; (case h => repeat constructor); all_goals rfl))) | (apply Yi.b; constructor; all_goals (first | rfl | (constructor <;> omega) | (apply CellIs.own; (case h => repeat constructor); rfl) | (apply Cell3.own; (case h => repeat constructor); all_goals rfl))) | (apply Yi.c; constructor; all_goals (first | rfl | (constructor <;> omega) | (apply CellIs.own; (case h => repeat constructor); rfl) | (apply Cell3.own; (case h => repeat constructor); all_goals rfl)))))) | ((first | apply V0 | apply Go.Dk.V1 | apply V2 (hw := H)); (case hg => rfl); try decide +kernel) | ((first | refine G0 H ?_); simp only [enum, Nat.reduceAdd]) | (apply B0 (hw := H); (case hg => rfl); (case hd => first | with_reducible exact hd_false | decide +kernel); (case hx => rfl); (case hc => rfl); clear H; intro bx _ H) | (apply B1 (hw := H); (case hg => rfl); (case hd => first | with_reducible exact hd_false | decide +kernel); clear H; intro ax _ H) | ((apply W0 (hw := H); (case hg => rfl); (case hd => first | with_reducible exact hd_false | decide +kernel); (case hx => rfl); (case hy => rfl); (case hc => rfl); (case hn => repeat constructor); (case h1 => rfl); clear H; intro _ H; (try dsimp only at H); try simp only [putL, List.set_cons_succ, List.set_cons_zero, evalT, evalC, List.getD_cons_succ, List.getD_cons_zero, Nat.zero_add, Nat.reduceAdd] at H)) | ((apply C0 (hw := H); (case hg => rfl); (case hd => first | with_reducible exact hd_false | decide +kernel); (case hxs => rfl); (case hc => exact q_kindAt (hgl.now H.ext) hf2); clear H; intro _ H)) | ((apply C0 (hw := H); (case hg => rfl); (case hd => first | with_reducible exact hd_false | decide +kernel); (case hxs => rfl); (case hc => exact q_readNumber (hgl.now H.ext) hf3); clear H; intro _ H)) | go_step | (apply X0; (case hy => rfl); all_goals (intro hb; simp only [hb]; (try simp only [decide_eq_true_eq, decide_eq_false_iff_not, Bool.not_eq_true', Bool.not_eq_false', Bool.and_eq_true, Bool.or_eq_true, Bool.and_eq_false_iff, Bool.or_eq_false_iff] at hb); try (exfalso; omega)))) <;> try simp only [List.getElem_toArray, List.getElem_cons_zero, List.getElem_cons_succ, Act.put, evalT, evalC, evalF, List.setIfInBounds_toArray, List.set_cons_succ, List.set_cons_zero, List.getD_cons_succ, List.getD_cons_zero, Nat.reduceAdd, Nat.reduceMul, Nat.add_zero, Nat.zero_add, Int.toNat_natCast, Int.reduceToNat, List.eraseIdx_cons_succ, List.eraseIdx_cons_zero, cond_true, cond_false])
      all_goals first | (exfalso; omega; done) | skip
      (refine G2 (TT) H (fun _ _ => trivial) (fun _ _ _ _ h => h) (by decide +kernel) ?_; clear H; intro _ H; simp only [enum, Nat.reduceAdd])
      repeat' ((first | (refine T_nil ?_) | ((first | apply U0 | (apply U1; (case hd => decide +kernel)) | (apply U2 (hw := H); (case hd => decide +kernel)) | (apply U3 1; (case hp => rfl); (case hd => decide +kernel)) | (apply U3 2; (case hp => rfl); (case hd => decide +kernel)) | (apply U3 3; (case hp => rfl); (case hd => decide +kernel)) | (apply U3 4; (case hp => rfl); (case hd => decide +kernel)) | (apply U3 5; (case hp => rfl); (case hd => decide +kernel)) | (apply U3 6; (case hp => rfl); (case hd => decide +kernel)) | (apply U3 7; (case hp => rfl); (case hd => decide +kernel)) | (apply U3 8; (case hp => rfl); (case hd => decide +kernel)) | (apply U3 9; (case hp => rfl); (case hd => decide +kernel)) | (apply U3 10; (case hp => rfl); (case hd => decide +kernel)) | (apply U3 11; (case hp => rfl); (case hd => decide +kernel))); (case hg => rfl); (case hy => (first | (apply Yi.a; constructor; all_goals (first | rfl | (constructor <;> omega) | (apply CellIs.own; (case h => repeat constructor); rfl) | (apply Cell3.own; (case h => repeat constructor); all_goals rfl))) | (apply Yi.b; constructor; all_goals (first | rfl | (constructor <;> omega) | (apply CellIs.own; (case h => repeat constructor); rfl) | (apply Cell3.own; (case h => repeat constructor); all_goals rfl))) | (apply Yi.c; constructor; all_goals (first | rfl | (constructor <;> omega) | (apply CellIs.own; (case h => repeat constructor); rfl) | (apply Cell3.own; (case h => repeat constructor); all_goals rfl)))))) | ((first | apply V0 | apply Go.Dk.V1 | apply V2 (hw := H)); (case hg => rfl); try decide +kernel) | (fail) | (apply B0 (hw := H); (case hg => rfl); (case hd => first | with_reducible exact hd_false | decide +kernel); (case hx => rfl); (case hc => rfl); clear H; intro bx _ H) | (apply B1 (hw := H); (case hg => rfl); (case hd => first | with_reducible exact hd_false | decide +kernel); clear H; intro ax _ H) | ((apply W0g (hw := H); (case hg => rfl); (case hd => first | with_reducible exact hd_false | decide +kernel); (case hx => rfl); (case hy => rfl); (case hc => rfl); (case hn => repeat constructor); (case h1 => rfl); (case hS => exact (fun _ _ => trivial)); clear H; intro _ H; (try dsimp only at H); try simp only [putL, List.set_cons_succ, List.set_cons_zero, evalT, evalC, List.getD_cons_succ, List.getD_cons_zero, Nat.zero_add, Nat.reduceAdd] at H)) | ((apply C1; (case hg => rfl); (case hd => first | with_reducible exact hd_false | decide +kernel); (case hxs => rfl); (case hc => exact q_sort _ (hgl.now H.ext)); rintro _ _ ⟨z, rfl, hgr, ho, hez⟩; replace H := H.pushTree hgr ho; (try simp only [List.set_cons_succ, List.set_cons_zero] at H); refine ⟨_, rfl, _, fun _ _ h => h, trivial, ?_⟩)) | ((apply C0g (hw := H) (hS := (fun _ _ => trivial)); (case hg => rfl); (case hd => first | with_reducible exact hd_false | decide +kernel); (case hxs => rfl); (case hc => exact q_Itoa (hgl.now H.ext) hf5); clear H; intro _ H)) | ((apply C0g (hw := H) (hS := (fun _ _ => trivial)); (case hg => rfl); (case hd => first | with_reducible exact hd_false | decide +kernel); (case hxs => rfl); (case hc => exact q_TrimPrefix (hgl.now H.ext) hf6); clear H; intro _ H)) | go_step | (apply X0; (case hy => rfl); all_goals (intro hb; simp only [hb]; (try simp only [decide_eq_true_eq, decide_eq_false_iff_not, Bool.not_eq_true', Bool.not_eq_false', Bool.and_eq_true, Bool.or_eq_true, Bool.and_eq_false_iff, Bool.or_eq_false_iff] at hb); try (exfalso; omega)))) <;> try simp only [List.getElem_toArray, List.getElem_cons_zero, List.getElem_cons_succ, Act.put, evalT, evalC, evalF, List.setIfInBounds_toArray, List.set_cons_succ, List.set_cons_zero, List.getD_cons_succ, List.getD_cons_zero, Nat.reduceAdd, Nat.reduceMul, Nat.add_zero, Nat.zero_add, Int.toNat_natCast, Int.reduceToNat, List.eraseIdx_cons_succ, List.eraseIdx_cons_zero, cond_true, cond_false])
      all_goals first | (exfalso; omega; done) | skip
      ((try simp only [Exit.inBlock, Exit.then]); refine ret_post (res3 rfl (R_cell rfl (load3 (ST3.out) (H.cell at1 rfl) (H.cell at1 rfl) (H.cell at1 rfl))) (R_tmp rfl) (R_tmp rfl)) ?_; try simp only [List.getD_cons_succ, List.getD_cons_zero])
      exact ⟨z, rfl, H.ext, H.outTree, by rw [hez, e3]; rfl⟩
     | false => as_aux_lemma =>
      rw [hm, cond_false] at h
      simp only [decide_eq_false_iff_not] at hm
      obtain ⟨rfl, rfl, rfl⟩ := out_inj h
      repeat' ((first | (refine T_nil ?_) | ((first | apply U0 | (apply U1; (case hd => decide +kernel)) | (apply U2 (hw := H); (case hd => decide +kernel)) | (apply U3 1; (case hp => rfl); (case hd => decide +kernel)) | (apply U3 2; (case hp => rfl); (case hd => decide +kernel)) | (apply U3 3; (case hp => rfl); (case hd => decide +kernel)) | (apply U3 4; (case hp => rfl); (case hd => decide +kernel)) | (apply U3 5; (case hp => rfl); (case hd => decide +kernel)) | (apply U3 6; (case hp => rfl); (case hd => decide +kernel)) | (apply U3 7; (case hp => rfl); (case hd => decide +kernel)) | (apply U3 8; (case hp => rfl); (case hd => decide +kernel)) | (apply U3 9; (case hp => rfl); (case hd => decide +kernel)) | (apply U3 10; (case hp => rfl); (case hd => decide +kernel)) | (apply U3 11; (case hp => rfl); (case hd => decide +kernel))); (case hg => rfl); (case hy => (first | (apply Yi.a; constructor; all_goals (first | rfl | (constructor <;> omega) | (apply CellIs.own; (case h => repeat constructor); rfl) | (apply Cell3.own; (case h => repeat constructor); all_goals rfl))) | (apply Yi.b; constructor; all_goals (first | rfl | (constructor <;> omega) | (apply CellIs.own; (case h => repeat constructor); rfl) | (apply Cell3.own; (case h => repeat constructor); all_goals rfl))) | (apply Yi.c; constructor; all_goals (first | rfl | (constructor <;> omega) | (apply CellIs.own; (case h => repeat constructor); rfl) | (apply Cell3.own; (case h => repeat constructor); all_goals rfl)))))) | ((first | apply V0 | apply Go.Dk.V1 | apply V2 (hw := H)); (case hg => rfl); try decide +kernel) | ((first | refine G0 H ?_); simp only [enum, Nat.reduceAdd]) | (apply B0 (hw := H); (case hg => rfl); (case hd => first | with_reducible exact hd_false | decide +kernel); (case hx => rfl); (case hc => rfl); clear H; intro bx _ H) | (apply B1 (hw := H); (case hg => rfl); (case hd => first | with_reducible exact hd_false | decide +kernel); clear H; intro ax _ H) | ((apply W0 (hw := H); (case hg => rfl); (case hd => first | with_reducible exact hd_false | decide +kernel); (case hx => rfl); (case hy => rfl); (case hc => rfl); (case hn => repeat constructor); (case h1 => rfl); clear H; intro _ H; (try dsimp only at H); try simp only [putL, List.set_cons_succ, List.set_cons_zero, evalT, evalC, List.getD_cons_succ, List.getD_cons_zero, Nat.zero_add, Nat.reduceAdd] at H)) | ((apply C0 (hw := H); (case hg => rfl); (case hd => first | with_reducible exact hd_false | decide +kernel); (case hxs => rfl); (case hc => exact q_kindAt (hgl.now H.ext) hf2); clear H; intro _ H)) | ((apply C0 (hw := H); (case hg => rfl); (case hd => first | with_reducible exact hd_false | decide +kernel); (case hxs => rfl); (case hc => exact q_readNumber (hgl.now H.ext) hf3); clear H; intro _ H)) | go_step | (apply X0; (case hy => rfl); all_goals (intro hb; simp only [hb]; (try simp only [decide_eq_true_eq, decide_eq_false_iff_not, Bool.not_eq_true', Bool.not_eq_false', Bool.and_eq_true, Bool.or_eq_true, Bool.and_eq_false_iff, Bool.or_eq_false_iff] at hb); try (exfalso; omega)))) <;> try simp only [List.getElem_toArray, List.getElem_cons_zero, List.getElem_cons_succ, Act.put, evalT, evalC, evalF, List.setIfInBounds_toArray, List.set_cons_succ, List.set_cons_zero, List.getD_cons_succ, List.getD_cons_zero, Nat.reduceAdd, Nat.reduceMul, Nat.add_zero, Nat.zero_add, Int.toNat_natCast, Int.reduceToNat, List.eraseIdx_cons_succ, List.eraseIdx_cons_zero, cond_true, cond_false])
      all_goals first | (exfalso; omega; done) | skip
      (refine G2 (TT) H (fun _ _ => trivial) (fun _ _ _ _ h => h) (by decide +kernel) ?_; clear H; intro _ H; simp only [enum, Nat.reduceAdd])
      repeat' ((first | (refine T_nil ?_) | ((first | apply U0 | (apply U1; (case hd => decide +kernel)) | (apply U2 (hw := H); (case hd => decide +kernel)) | (apply U3 1; (case hp => rfl); (case hd => decide +kernel)) | (apply U3 2; (case hp => rfl); (case hd => decide +kernel)) | (apply U3 3; (case hp => rfl); (case hd => decide +kernel)) | (apply U3 4; (case hp => rfl); (case hd => decide +kernel)) | (apply U3 5; (case hp => rfl); (case hd => decide +kernel)) | (apply U3 6; (case hp => rfl); (case hd => decide +kernel)) | (apply U3 7; (case hp => rfl); (case hd => decide +kernel)) | (apply U3 8; (case hp => rfl); (case hd => decide +kernel)) | (apply U3 9; (case hp => rfl); (case hd => decide +kernel)) | (apply U3 10; (case hp => rfl); (case hd => decide +kernel)) | (apply U3 11; (case hp => rfl); (case hd => decide +kernel))); (case hg => rfl); (case hy => (first | (apply Yi.a; constructor; all_goals (first | rfl | (constructor <;> omega) | (apply CellIs.own; (case h => repeat constructor); rfl) | (apply Cell3.own; (case h => repeat constructor); all_goals rfl))) | (apply Yi.b; constructor; all_goals (first | rfl | (constructor <;> omega) | (apply CellIs.own; (case h => repeat constructor); rfl) | (apply Cell3.own; (case h => repeat constructor); all_goals rfl))) | (apply Yi.c; constructor; all_goals (first | rfl | (constructor <;> omega) | (apply CellIs.own; (case h => repeat constructor); rfl) | (apply Cell3.own; (case h => repeat constructor); all_goals rfl)))))) | ((first | apply V0 | apply Go.Dk.V1 | apply V2 (hw := H)); (case hg => rfl); try decide +kernel) | (fail) | (apply B0 (hw := H); (case hg => rfl); (case hd => first | with_reducible exact hd_false | decide +kernel); (case hx => rfl); (case hc => rfl); clear H; intro bx _ H) | (apply B1 (hw := H); (case hg => rfl); (case hd => first | with_reducible exact hd_false | decide +kernel); clear H; intro ax _ H) | ((apply W0g (hw := H); (case hg => rfl); (case hd => first | with_reducible exact hd_false | decide +kernel); (case hx => rfl); (case hy => rfl); (case hc => rfl); (case hn => repeat constructor); (case h1 => rfl); (case hS => exact (fun _ _ => trivial)); clear H; intro _ H; (try dsimp only at H); try simp only [putL, List.set_cons_succ, List.set_cons_zero, evalT, evalC, List.getD_cons_succ, List.getD_cons_zero, Nat.zero_add, Nat.reduceAdd] at H)) | ((apply C1; (case hg => rfl); (case hd => first | with_reducible exact hd_false | decide +kernel); (case hxs => rfl); (case hc => exact q_sort _ (hgl.now H.ext)); rintro _ _ ⟨z, rfl, hgr, ho, hez⟩; replace H := H.pushTree hgr ho; (try simp only [List.set_cons_succ, List.set_cons_zero] at H); refine ⟨_, rfl, _, fun _ _ h => h, trivial, ?_⟩)) | go_step | (apply X0; (case hy => rfl); all_goals (intro hb; simp only [hb]; (try simp only [decide_eq_true_eq, decide_eq_false_iff_not, Bool.not_eq_true', Bool.not_eq_false', Bool.and_eq_true, Bool.or_eq_true, Bool.and_eq_false_iff, Bool.or_eq_false_iff] at hb); try (exfalso; omega)))) <;> try simp only [List.getElem_toArray, List.getElem_cons_zero, List.getElem_cons_succ, Act.put, evalT, evalC, evalF, List.setIfInBounds_toArray, List.set_cons_succ, List.set_cons_zero, List.getD_cons_succ, List.getD_cons_zero, Nat.reduceAdd, Nat.reduceMul, Nat.add_zero, Nat.zero_add, Int.toNat_natCast, Int.reduceToNat, List.eraseIdx_cons_succ, List.eraseIdx_cons_zero, cond_true, cond_false])
      all_goals first | (exfalso; omega; done) | skip
      ((try simp only [Exit.inBlock, Exit.then]); refine ret_post (res3 rfl (R_cell rfl (load3 (ST3.out) (H.cell at1 rfl) (H.cell at1 rfl) (H.cell at1 rfl))) (R_tmp rfl) (R_tmp rfl)) ?_; try simp only [List.getD_cons_succ, List.getD_cons_zero])
      exact ⟨z, rfl, H.ext, H.outTree, by rw [hez, e3]; rfl⟩
    | false =>
    rw [hk2, cond_false] at h
    simp only [decide_eq_false_iff_not] at hk2
    rw [wrap64 (show -9223372036854775808 ≤ kd - 1 ∧ kd - 1 ≤ 9223372036854775807 by omega)] at h
    (obtain ⟨⟨q1, q2⟩, hf3, g0⟩ := v_bind h; clear h; (try dsimp only at g0); obtain ⟨sh, q3, e1, g1⟩ := v_rSs g0; clear g0; subst e1; obtain ⟨e1, g2⟩ := v_nilV g1; clear g1; subst e1; obtain ⟨e1, h⟩ := v_nilO g2; clear g2; subst e1; (try dsimp only at h))
    (obtain ⟨hg3, g0⟩ := v_cond h; clear h; have h := g0; clear g0)
    simp only [decide_eq_true_eq] at hg3
    obtain ⟨x9, hx9, g0⟩ := v_bind h
    clear h
    have h := g0
    clear g0
    (obtain ⟨⟨q1, q2⟩, hf4, g0⟩ := v_bind h; clear h; (try dsimp only at g0); obtain ⟨ps, q3, e1, g1⟩ := v_rSs g0; clear g0; subst e1; obtain ⟨e1, g2⟩ := v_nilV g1; clear g1; subst e1; obtain ⟨e1, h⟩ := v_nilO g2; clear g2; subst e1; (try dsimp only at h))
    obtain ⟨p0, hp0, g0⟩ := v_bind h
    clear h
    have h := g0
    clear g0
    (obtain ⟨⟨q1, q2⟩, hf5, g0⟩ := v_bind h; clear h; (try dsimp only at g0); obtain ⟨rest, q3, e1, g1⟩ := v_rStr g0; clear g0; subst e1; obtain ⟨ok, q3, e1, g2⟩ := v_rBool g1; clear g1; subst e1; obtain ⟨e1, g3⟩ := v_nilV g2; clear g2; subst e1; obtain ⟨e1, h⟩ := v_nilO g3; clear g3; subst e1; (try dsimp only at h))
    (obtain ⟨hg5, g0⟩ := v_cond h; clear h; have h := g0; clear g0)
    have hlx := (List.getElem?_eq_some_iff.1 hx9).1
    have hlp := (List.getElem?_eq_some_iff.1 hp0).1
    repeat' ((go_not_at_region 15; first | (refine T_nil ?_) | ((first | apply U0 | (apply U1; (case hd => decide +kernel)) | (apply U2 (hw := H); (case hd => decide +kernel)) | (apply U3 1; (case hp => rfl); (case hd => decide +kernel)) | (apply U3 2; (case hp => rfl); (case hd => decide +kernel)) | (apply U3 3; (case hp => rfl); (case hd => decide +kernel)) | (apply U3 4; (case hp => rfl); (case hd => decide +kernel)) | (apply U3 5; (case hp => rfl); (case hd => decide +kernel)) | (apply U3 6; (case hp => rfl); (case hd => decide +kernel)) | (apply U3 7; (case hp => rfl); (case hd => decide +kernel)) | (apply U3 8; (case hp => rfl); (case hd => decide +kernel)) | (apply U3 9; (case hp => rfl); (case hd => decide +kernel)) | (apply U3 10; (case hp => rfl); (case hd => decide +kernel)) | (apply U3 11; (case hp => rfl); (case hd => decide +kernel))); (case hg => rfl); (case hy => (first | (apply Yi.a; constructor; all_goals (first | rfl | (constructor <;> omega) | (apply CellIs.own; (case h => repeat constructor); rfl) | (apply Cell3.own; (case h => repeat constructor); all_goals rfl) | exact .mk (fun w h => by rw [Nat.mul_one]; exact sF.cell h.per.1 hx9) | exact .mk (fun w h => sF.cell h.per.1 hp0))) | (apply Yi.b; constructor; all_goals (first | rfl | (constructor <;> omega) | (apply CellIs.own; (case h => repeat constructor); rfl) | (apply Cell3.own; (case h => repeat constructor); all_goals rfl) | exact .mk (fun w h => by rw [Nat.mul_one]; exact sF.cell h.per.1 hx9) | exact .mk (fun w h => sF.cell h.per.1 hp0))) | (apply Yi.c; constructor; all_goals (first | rfl | (constructor <;> omega) | (apply CellIs.own; (case h => repeat constructor); rfl) | (apply Cell3.own; (case h => repeat constructor); all_goals rfl) | exact .mk (fun w h => by rw [Nat.mul_one]; exact sF.cell h.per.1 hx9) | exact .mk (fun w h => sF.cell h.per.1 hp0)))))) | ((first | apply V0 | apply Go.Dk.V1 | apply V2 (hw := H)); (case hg => rfl); try decide +kernel) | ((first | refine G0 H ?_); simp only [enum, Nat.reduceAdd]) | (apply B0 (hw := H); (case hg => rfl); (case hd => first | with_reducible exact hd_false | decide +kernel); (case hx => rfl); (case hc => rfl); clear H; intro bx _ H) | (apply B1 (hw := H); (case hg => rfl); (case hd => first | with_reducible exact hd_false | decide +kernel); clear H; intro ax _ H) | ((apply W0 (hw := H); (case hg => rfl); (case hd => first | with_reducible exact hd_false | decide +kernel); (case hx => rfl); (case hy => rfl); (case hc => rfl); (case hn => repeat constructor); (case h1 => rfl); clear H; intro _ H; (try dsimp only at H); try simp only [putL, List.set_cons_succ, List.set_cons_zero, evalT, evalC, List.getD_cons_succ, List.getD_cons_zero, Nat.zero_add, Nat.reduceAdd] at H)) | ((apply C0 (hw := H); (case hg => rfl); (case hd => first | with_reducible exact hd_false | decide +kernel); (case hxs => rfl); (case hc => exact q_kindAt (hgl.now H.ext) hf2); clear H; intro _ H)) | ((apply C1; (case hg => rfl); (case hd => first | with_reducible exact hd_false | decide +kernel); (case hxs => rfl); (case hc => exact q_shapes (zoneOf H) (hgl.now H.ext) hf3 hx9); rintro _ _ ⟨sb, so, sc, rfl, hgr, hsc, hsm, hsf⟩; replace H := H.call hgr (sF_stable _ _) hsf; (try simp only [List.set_cons_succ, List.set_cons_zero] at H); refine ⟨_, rfl, _, (by first | exact fun _ _ h => h | exact fun _ _ h => h.tail | exact fun _ _ h => h.unfact (by repeat' (first | exact Stable.true | exact rdF_stable _ | exact iF_stable _ _ | exact sF_stable _ _ | apply Stable.and)) (fun _ _ h => h.2) | exact nofun), H, ?_⟩)) | ((apply C1; (case hg => rfl); (case hd => first | with_reducible exact hd_false | decide +kernel); (case hxs => rfl); (case hc => exact q_Split (zoneOf H) (hgl.now H.ext) hf4 hp0); rintro _ _ ⟨pb, po, pc, rfl, hgr2, hpc, hpm, hpf⟩; replace H := H.call hgr2 (sF_stable _ _) hpf; (try simp only [List.set_cons_succ, List.set_cons_zero] at H); refine ⟨_, rfl, _, (by first | exact fun _ _ h => h | exact fun _ _ h => h.tail | exact fun _ _ h => h.unfact (by repeat' (first | exact Stable.true | exact rdF_stable _ | exact iF_stable _ _ | exact sF_stable _ _ | apply Stable.and)) (fun _ _ h => h.2) | exact nofun), H, ?_⟩)) | ((apply C0 (hw := H); (case hg => rfl); (case hd => first | with_reducible exact hd_false | decide +kernel); (case hxs => rfl); (case hc => exact q_CutPrefix (hgl.now H.ext) hf5); clear H; intro _ H)) | go_step | (apply X0; (case hy => rfl); all_goals (intro hb; simp only [hb]; (try simp only [decide_eq_true_eq, decide_eq_false_iff_not, Bool.not_eq_true', Bool.not_eq_false', Bool.and_eq_true, Bool.or_eq_true, Bool.and_eq_false_iff, Bool.or_eq_false_iff] at hb); try (exfalso; omega)))) <;> try simp only [List.getElem_toArray, List.getElem_cons_zero, List.getElem_cons_succ, Act.put, evalT, evalC, evalF, List.setIfInBounds_toArray, List.set_cons_succ, List.set_cons_zero, List.getD_cons_succ, List.getD_cons_zero, Nat.reduceAdd, Nat.reduceMul, Nat.add_zero, Nat.zero_add, Int.toNat_natCast, Int.reduceToNat, List.eraseIdx_cons_succ, List.eraseIdx_cons_zero, cond_true, cond_false])
    all_goals first | (exfalso; omega; done) | skip
    have H := H.unfact (φ := sF (some ⟨pb, po, none⟩) ps) (sF_stable _ _) (fun _ _ h => h.1)
    obtain ⟨c0, hc0⟩ : ∃ c0 : UInt8, c0 = byteAt s 0 := ⟨_, rfl⟩
    obtain ⟨bb, hbb⟩ : ∃ bb : Bool, bb = ((decide (((byteAt s 0).toNat : Int) = 40) || decide (((byteAt s 0).toNat : Int) = 91)) && (decide (1 < (rest.size : Int)) && (letB (byteAt rest 0) && decide (((byteAt rest 1).toNat : Int) = 58)))) := ⟨_, rfl⟩
    have h2 : L_impl_readNamed_0_oo n n s env (31 - ((d + 1 : Nat) : Int)) ps (cond bb (rest.extract 2 rest.size) rest) ok (cond bb (env ++ rest.extract 0 1) env) bb 1 0 0 [] kd 0 [] = some ([tm t, .one (.str r), bl b], []) ∧ (bb = true → 2 ≤ rest.size) := by as_aux_lemma =>
     rw [f_isLetter (n := n) (by omega)] at h
     simp only [evt, show Int.toNat 0 = 0 from rfl, show Int.toNat 1 = 1 from rfl, show Int.toNat 2 = 2 from rfl, Int.toNat_natCast, Int.le_refl, Nat.le_refl, decide_eq_true (show (0 : Int) < (s.size : Int) by omega), decide_eq_true (show (0 : Int) ≤ 1 by omega)] at h
     have key : 1 < (rest.size : Int) → decide ((0 : Int) < (rest.size : Int)) = true ∧ inB 0 1 rest.size = true ∧ decide (env.size + (rest.extract 0 1).size ≤ 9223372036854775807) = true ∧ inB 2 rest.size rest.size = true := fun hr => by
      refine ⟨decide_eq_true (by omega), ?_, decide_eq_true (by rw [ByteArray.size_extract]; omega), ?_⟩ <;> simp only [inB, Bool.and_eq_true, decide_eq_true_eq] <;> omega
     cases h1 : decide (1 < (rest.size : Int)) with
     | false =>
      obtain rfl : bb = false := by rw [hbb, h1]; simp
      refine ⟨?_, fun h => by cases h⟩
      simp only [h1, cond_false] at h
      cases h40 : decide (((byteAt s 0).toNat : Int) = 40) <;> cases h91 : decide (((byteAt s 0).toNat : Int) = 91) <;> simp only [h40, h91, cond_true, cond_false] at h <;> exact h
     | true =>
      obtain ⟨k1, k2, k3, k4⟩ := key (by simpa using h1)
      simp only [h1, k1, k2, k3, k4, Bool.and_self, cond_true] at h
      rw [h1] at hbb
      refine ⟨?_, fun _ => by have := of_decide_eq_true h1; omega⟩
      cases h40 : decide (((byteAt s 0).toNat : Int) = 40) <;> cases h91 : decide (((byteAt s 0).toNat : Int) = 91) <;> cases hl : letB (byteAt rest 0) <;> cases h58 : decide (((byteAt rest 1).toNat : Int) = 58) <;> simp only [h40, h91, hl, h58, cond_true, cond_false, Bool.or_true, Bool.true_or, Bool.or_false, Bool.false_or, Bool.and_true, Bool.and_false, Bool.true_and, Bool.false_and, Bool.or_self, Bool.and_self] at h hbb <;> rw [hbb] <;> exact h
    clear h
    go_cut [116] from 24 (fun v116 wc => v116 = .bool bb ∧ St w noneZ noneZ [blk ax [.int .i64 0, .int .i64 0, .slice none 0 0] 24] (sF (some ⟨pb, po, none⟩) ps) wc)
    case first => as_aux_lemma =>
     repeat' ((first | (refine T_nil ?_) | ((first | apply U0 | (apply U1; (case hd => decide +kernel)) | (apply U2 (hw := H); (case hd => decide +kernel)) | (apply U3 1; (case hp => rfl); (case hd => decide +kernel)) | (apply U3 2; (case hp => rfl); (case hd => decide +kernel)) | (apply U3 3; (case hp => rfl); (case hd => decide +kernel)) | (apply U3 4; (case hp => rfl); (case hd => decide +kernel)) | (apply U3 5; (case hp => rfl); (case hd => decide +kernel)) | (apply U3 6; (case hp => rfl); (case hd => decide +kernel)) | (apply U3 7; (case hp => rfl); (case hd => decide +kernel)) | (apply U3 8; (case hp => rfl); (case hd => decide +kernel)) | (apply U3 9; (case hp => rfl); (case hd => decide +kernel)) | (apply U3 10; (case hp => rfl); (case hd => decide +kernel)) | (apply U3 11; (case hp => rfl); (case hd => decide +kernel))); (case hg => rfl); (case hy => (first | (apply Yi.a; constructor; all_goals (first | rfl | (constructor <;> omega) | (apply CellIs.own; (case h => repeat constructor); rfl) | (apply Cell3.own; (case h => repeat constructor); all_goals rfl))) | (apply Yi.b; constructor; all_goals (first | rfl | (constructor <;> omega) | (apply CellIs.own; (case h => repeat constructor); rfl) | (apply Cell3.own; (case h => repeat constructor); all_goals rfl))) | (apply Yi.c; constructor; all_goals (first | rfl | (constructor <;> omega) | (apply CellIs.own; (case h => repeat constructor); rfl) | (apply Cell3.own; (case h => repeat constructor); all_goals rfl)))))) | ((first | apply V0 | apply Go.Dk.V1 | apply V2 (hw := H)); (case hg => rfl); try decide +kernel) | ((first | refine G0 H ?_); simp only [enum, Nat.reduceAdd]) | (apply B0 (hw := H); (case hg => rfl); (case hd => first | with_reducible exact hd_false | decide +kernel); (case hx => rfl); (case hc => rfl); clear H; intro bx _ H) | (apply B1 (hw := H); (case hg => rfl); (case hd => first | with_reducible exact hd_false | decide +kernel); clear H; intro ax _ H) | ((apply C0 (hw := H); (case hg => rfl); (case hd => first | with_reducible exact hd_false | decide +kernel); (case hxs => rfl); (case hc => exact q_isLetter (hgl.now H.ext) (f_isLetter (n := 1) (by omega) _)); clear H; intro _ H)) | go_step | (apply X0; (case hy => rfl); all_goals (intro hb; simp only [hb]; (try simp only [decide_eq_true_eq, decide_eq_false_iff_not, Bool.not_eq_true', Bool.not_eq_false', Bool.and_eq_true, Bool.or_eq_true, Bool.and_eq_false_iff, Bool.or_eq_false_iff] at hb); try (exfalso; omega)))) <;> try simp only [List.getElem_toArray, List.getElem_cons_zero, List.getElem_cons_succ, Act.put, evalT, evalC, evalF, List.setIfInBounds_toArray, List.set_cons_succ, List.set_cons_zero, List.getD_cons_succ, List.getD_cons_zero, Nat.reduceAdd, Nat.reduceMul, Nat.add_zero, Nat.zero_add, Int.toNat_natCast, Int.reduceToNat, List.eraseIdx_cons_succ, List.eraseIdx_cons_zero, cond_true, cond_false])
     all_goals
      (go_meet
       case rel => exact ⟨by rw [hbb]; congr 1; first | (simp_all; done) | (simp_all; intros; exfalso; omega), H⟩)
    case rest => as_aux_lemma =>
     clear H
     obtain ⟨rfl, H⟩ := hcut
     obtain ⟨a6, e6⟩ : ∃ a6, a6 = ax := ⟨ax, rfl⟩
     subst e6
     have hx1 : (rest.extract 0 1).size ≤ 1 := by rw [ByteArray.size_extract]; omega
     obtain ⟨h2, h3⟩ := h2
     go_step
     go_cut [14, 16, 17] from 24 (fun v14 v16 v17 wc => v14 = .string (cond bb (rest.extract 2 rest.size) rest) ∧ v16 = .string (cond bb (env ++ rest.extract 0 1) env) ∧ v17 = .bool bb ∧ St w noneZ noneZ [blk a6 [.int .i64 0, .int .i64 0, .slice none 0 0] 24] (sF (some ⟨pb, po, none⟩) ps) wc)
     case first => as_aux_lemma =>
      clear hbb
      cases bb with
      | true =>
       have h3 := h3 rfl
       repeat' ((first | (refine T_nil ?_) | ((first | apply U0 | (apply U1; (case hd => decide +kernel)) | (apply U2 (hw := H); (case hd => decide +kernel)) | (apply U3 1; (case hp => rfl); (case hd => decide +kernel)) | (apply U3 2; (case hp => rfl); (case hd => decide +kernel)) | (apply U3 3; (case hp => rfl); (case hd => decide +kernel)) | (apply U3 4; (case hp => rfl); (case hd => decide +kernel)) | (apply U3 5; (case hp => rfl); (case hd => decide +kernel)) | (apply U3 6; (case hp => rfl); (case hd => decide +kernel)) | (apply U3 7; (case hp => rfl); (case hd => decide +kernel)) | (apply U3 8; (case hp => rfl); (case hd => decide +kernel)) | (apply U3 9; (case hp => rfl); (case hd => decide +kernel)) | (apply U3 10; (case hp => rfl); (case hd => decide +kernel)) | (apply U3 11; (case hp => rfl); (case hd => decide +kernel))); (case hg => rfl); (case hy => (first | (apply Yi.a; constructor; all_goals (first | rfl | (constructor <;> omega) | (apply CellIs.own; (case h => repeat constructor); rfl) | (apply Cell3.own; (case h => repeat constructor); all_goals rfl))) | (apply Yi.b; constructor; all_goals (first | rfl | (constructor <;> omega) | (apply CellIs.own; (case h => repeat constructor); rfl) | (apply Cell3.own; (case h => repeat constructor); all_goals rfl))) | (apply Yi.c; constructor; all_goals (first | rfl | (constructor <;> omega) | (apply CellIs.own; (case h => repeat constructor); rfl) | (apply Cell3.own; (case h => repeat constructor); all_goals rfl)))))) | ((first | apply V0 | apply Go.Dk.V1 | apply V2 (hw := H)); (case hg => rfl); try decide +kernel) | ((first | refine G0 H ?_ | (refine G1 H (fun _ _ _ _ h => h) (by decide +kernel) ?_; clear H; intro _ H)); simp only [enum, Nat.reduceAdd]) | (apply B0 (hw := H); (case hg => rfl); (case hd => first | with_reducible exact hd_false | decide +kernel); (case hx => rfl); (case hc => rfl); clear H; intro bx _ H) | (apply B1 (hw := H); (case hg => rfl); (case hd => first | with_reducible exact hd_false | decide +kernel); clear H; intro ax _ H) | go_step | (apply X0; (case hy => rfl); all_goals (intro hb; simp only [hb]; (try simp only [decide_eq_true_eq, decide_eq_false_iff_not, Bool.not_eq_true', Bool.not_eq_false', Bool.and_eq_true, Bool.or_eq_true, Bool.and_eq_false_iff, Bool.or_eq_false_iff] at hb); try (exfalso; omega)))) <;> try simp only [List.getElem_toArray, List.getElem_cons_zero, List.getElem_cons_succ, Act.put, evalT, evalC, evalF, List.setIfInBounds_toArray, List.set_cons_succ, List.set_cons_zero, List.getD_cons_succ, List.getD_cons_zero, Nat.reduceAdd, Nat.reduceMul, Nat.add_zero, Nat.zero_add, Int.toNat_natCast, Int.reduceToNat, List.eraseIdx_cons_succ, List.eraseIdx_cons_zero, cond_true, cond_false])
       go_meet
       case rel => exact ⟨rfl, rfl, rfl, H⟩
      | false =>
       repeat' ((first | (refine T_nil ?_) | ((first | apply U0 | (apply U1; (case hd => decide +kernel)) | (apply U2 (hw := H); (case hd => decide +kernel)) | (apply U3 1; (case hp => rfl); (case hd => decide +kernel)) | (apply U3 2; (case hp => rfl); (case hd => decide +kernel)) | (apply U3 3; (case hp => rfl); (case hd => decide +kernel)) | (apply U3 4; (case hp => rfl); (case hd => decide +kernel)) | (apply U3 5; (case hp => rfl); (case hd => decide +kernel)) | (apply U3 6; (case hp => rfl); (case hd => decide +kernel)) | (apply U3 7; (case hp => rfl); (case hd => decide +kernel)) | (apply U3 8; (case hp => rfl); (case hd => decide +kernel)) | (apply U3 9; (case hp => rfl); (case hd => decide +kernel)) | (apply U3 10; (case hp => rfl); (case hd => decide +kernel)) | (apply U3 11; (case hp => rfl); (case hd => decide +kernel))); (case hg => rfl); (case hy => (first | (apply Yi.a; constructor; all_goals (first | rfl | (constructor <;> omega) | (apply CellIs.own; (case h => repeat constructor); rfl) | (apply Cell3.own; (case h => repeat constructor); all_goals rfl))) | (apply Yi.b; constructor; all_goals (first | rfl | (constructor <;> omega) | (apply CellIs.own; (case h => repeat constructor); rfl) | (apply Cell3.own; (case h => repeat constructor); all_goals rfl))) | (apply Yi.c; constructor; all_goals (first | rfl | (constructor <;> omega) | (apply CellIs.own; (case h => repeat constructor); rfl) | (apply Cell3.own; (case h => repeat constructor); all_goals rfl)))))) | ((first | apply V0 | apply Go.Dk.V1 | apply V2 (hw := H)); (case hg => rfl); try decide +kernel) | ((first | refine G0 H ?_ | (refine G1 H (fun _ _ _ _ h => h) (by decide +kernel) ?_; clear H; intro _ H)); simp only [enum, Nat.reduceAdd]) | (apply B0 (hw := H); (case hg => rfl); (case hd => first | with_reducible exact hd_false | decide +kernel); (case hx => rfl); (case hc => rfl); clear H; intro bx _ H) | (apply B1 (hw := H); (case hg => rfl); (case hd => first | with_reducible exact hd_false | decide +kernel); clear H; intro ax _ H) | go_step | (apply X0; (case hy => rfl); all_goals (intro hb; simp only [hb]; (try simp only [decide_eq_true_eq, decide_eq_false_iff_not, Bool.not_eq_true', Bool.not_eq_false', Bool.and_eq_true, Bool.or_eq_true, Bool.and_eq_false_iff, Bool.or_eq_false_iff] at hb); try (exfalso; omega)))) <;> try simp only [List.getElem_toArray, List.getElem_cons_zero, List.getElem_cons_succ, Act.put, evalT, evalC, evalF, List.setIfInBounds_toArray, List.set_cons_succ, List.set_cons_zero, List.getD_cons_succ, List.getD_cons_zero, Nat.reduceAdd, Nat.reduceMul, Nat.add_zero, Nat.zero_add, Int.toNat_natCast, Int.reduceToNat, List.eraseIdx_cons_succ, List.eraseIdx_cons_zero, cond_true, cond_false])
       go_meet
       case rel => exact ⟨rfl, rfl, rfl, H⟩
     case rest => as_aux_lemma =>
      clear H
      obtain ⟨rfl, rfl, rfl, H⟩ := hcut
      have hin : (cond bb (env ++ rest.extract 0 1) env).size ≤ env.size + 1 := by
       cases bb
       ·exact Nat.le_succ _
       ·show (env ++ rest.extract 0 1).size ≤ _
        rw [ByteArray.size_append]; omega
      clear hbb hx1 h3
      generalize cond bb (env ++ rest.extract 0 1) env = ins at h2 hin
      generalize cond bb (rest.extract 2 rest.size) rest = rest0 at h2
      repeat' ((first | (refine T_nil ?_) | ((first | apply U0 | (apply U1; (case hd => decide +kernel)) | (apply U2 (hw := H); (case hd => decide +kernel)) | (apply U3 1; (case hp => rfl); (case hd => decide +kernel)) | (apply U3 2; (case hp => rfl); (case hd => decide +kernel)) | (apply U3 3; (case hp => rfl); (case hd => decide +kernel)) | (apply U3 4; (case hp => rfl); (case hd => decide +kernel)) | (apply U3 5; (case hp => rfl); (case hd => decide +kernel)) | (apply U3 6; (case hp => rfl); (case hd => decide +kernel)) | (apply U3 7; (case hp => rfl); (case hd => decide +kernel)) | (apply U3 8; (case hp => rfl); (case hd => decide +kernel)) | (apply U3 9; (case hp => rfl); (case hd => decide +kernel)) | (apply U3 10; (case hp => rfl); (case hd => decide +kernel)) | (apply U3 11; (case hp => rfl); (case hd => decide +kernel))); (case hg => rfl); (case hy => (first | (apply Yi.a; constructor; all_goals (first | rfl | (constructor <;> omega) | (apply CellIs.own; (case h => repeat constructor); rfl) | (apply Cell3.own; (case h => repeat constructor); all_goals rfl))) | (apply Yi.b; constructor; all_goals (first | rfl | (constructor <;> omega) | (apply CellIs.own; (case h => repeat constructor); rfl) | (apply Cell3.own; (case h => repeat constructor); all_goals rfl))) | (apply Yi.c; constructor; all_goals (first | rfl | (constructor <;> omega) | (apply CellIs.own; (case h => repeat constructor); rfl) | (apply Cell3.own; (case h => repeat constructor); all_goals rfl)))))) | ((first | apply V0 | apply Go.Dk.V1 | apply V2 (hw := H)); (case hg => rfl); try decide +kernel) | ((first | refine G0 H ?_); simp only [enum, Nat.reduceAdd]) | (apply B0 (hw := H); (case hg => rfl); (case hd => first | with_reducible exact hd_false | decide +kernel); (case hx => rfl); (case hc => rfl); clear H; intro bx _ H) | (apply B1 (hw := H); (case hg => rfl); (case hd => first | with_reducible exact hd_false | decide +kernel); clear H; intro ax _ H) | ((apply W0 (hw := H); (case hg => rfl); (case hd => first | with_reducible exact hd_false | decide +kernel); (case hx => rfl); (case hy => rfl); (case hc => rfl); (case hn => repeat constructor); (case h1 => rfl); clear H; intro _ H; (try dsimp only at H); try simp only [putL, List.set_cons_succ, List.set_cons_zero, evalT, evalC, List.getD_cons_succ, List.getD_cons_zero, Nat.zero_add, Nat.reduceAdd] at H)) | go_step | (apply X0; (case hy => rfl); all_goals (intro hb; simp only [hb]; (try simp only [decide_eq_true_eq, decide_eq_false_iff_not, Bool.not_eq_true', Bool.not_eq_false', Bool.and_eq_true, Bool.or_eq_true, Bool.and_eq_false_iff, Bool.or_eq_false_iff] at hb); try (exfalso; omega)))) <;> try simp only [List.getElem_toArray, List.getElem_cons_zero, List.getElem_cons_succ, Act.put, evalT, evalC, evalF, List.setIfInBounds_toArray, List.set_cons_succ, List.set_cons_zero, List.getD_cons_succ, List.getD_cons_zero, Nat.reduceAdd, Nat.reduceMul, Nat.add_zero, Nat.zero_add, Int.toNat_natCast, Int.reduceToNat, List.eraseIdx_cons_succ, List.eraseIdx_cons_zero, cond_true, cond_false])
      have H := (H.pushRow 24 3).pushNone
      obtain ⟨a18, e6⟩ : ∃ a18, a18 = ax := ⟨ax, rfl⟩
      subst e6
      go_loopg [13, 14, 15, 19] n (fun g v13 v14 v15 v19 wr => ∃ (i : Nat) (ps : List ByteArray) (pb po pc : Nat) (rest : ByteArray) (ok : Bool) (kk : Int) (us : List HT) (sa : Option Addr) (sc : Nat),
       v13 = .slice (some ⟨pb, po, none⟩) ps.length pc ∧ v14 = .string rest ∧ v15 = .bool ok ∧ v19 = .int .i64 i ∧ ps.length ≤ maxLen ∧
       L_impl_readNamed_0_oo n g s env (31 - ((d + 1 : Nat) : Int)) ps rest ok ins bb (i : Int) 0 0 [] kk 0 (us.map HT.er) = some ([tm t, .one (.str r), bl b], []) ∧
       St w noneZ noneZ [kidsR us, rowR 24 3 (.slice sa us.length sc) us.length (flatT us), blk a18 [.int .i64 kk, .int .i64 0, .slice sa us.length sc] 24, blk a6 [.int .i64 0, .int .i64 0, .slice none 0 0] 24] (sF (some ⟨pb, po, none⟩) ps) wr)
      case atStart => exact ⟨1, ps, pb, po, pc, rest0, ok, kd, [], none, 0, rfl, rfl, rfl, rfl, hpm, h2, H⟩
      case round => as_aux_lemma =>
       clear H h2
       obtain ⟨i, ps, pb, po, pc, rest, ok, kk, us, sa, sc, rfl, rfl, rfl, rfl, hpm, h, H⟩ := hrel
       match gk, h with
       | 0, h => rw [ln_zero] at h; cases h
       | g + 1, h =>
        rw [L_impl_readNamed_0_oo_eq] at h
        by_cases hgo : ((i : Int) < (ps.length : Int)) ∧ ok = true
        ·obtain ⟨hlt, rfl⟩ := hgo
         have e31 : (31 : Int) - ((d + 1 : Nat) : Int) + 1 = 31 - (d : Int) := by omega
         rw [decide_eq_true hlt, cond_true, cond_true, f_isBd (n := n) (by omega), wrap64 (show -9223372036854775808 ≤ (31 : Int) - ((d + 1 : Nat) : Int) + 1 ∧ (31 : Int) - ((d + 1 : Nat) : Int) + 1 ≤ 9223372036854775807 by omega)] at h
         simp only [evt] at h
         have hx := sel3 (G := fun nm => FF n 28 [.one (.str rest), .one (.str nm), .one (.int .i64 (31 - ((d + 1 : Nat) : Int) + 1))] []) (x := ins) (y := env) h
         clear h
         have h := hx
         clear hx
         try dsimp only at h
         obtain ⟨cb, hcb⟩ : ∃ cb, cb = (decide ((i : Int) = 2) && isBd kk) := ⟨_, rfl⟩
         rw [← hcb] at h
         obtain ⟨nm, hnm⟩ : ∃ nm, nm = cond cb ins env := ⟨_, rfl⟩
         rw [← hnm] at h
         have hnz : nm.size ≤ env.size + 1 := by
          rw [hnm]
          cases cb
          ·exact Nat.le_succ _
          ·exact hin
         (obtain ⟨⟨q1, q2⟩, hk, g0⟩ := v_bind h; clear h; (try dsimp only at g0); obtain ⟨tk, q3, e1, g1⟩ := v_rTerm g0; clear g0; subst e1; obtain ⟨rk, q3, e1, g2⟩ := v_rStr g1; clear g1; subst e1; obtain ⟨bk, q3, e1, g3⟩ := v_rBool g2; clear g2; subst e1; obtain ⟨e1, g4⟩ := v_nilV g3; clear g3; subst e1; obtain ⟨e1, h⟩ := v_nilO g4; clear g4; subst e1; (try dsimp only at h))
         rw [e31] at hk
         have ihk : ∀ w, GL noneZ w → Calls Tryz.prog 28 #[.string rest, .string nm, .int .i64 (31 - ((d + 1 : Nat) : Int) + 1)] w fun e w' => ∃ u : HT, e = .returned (.tuple #[u.val, .string rk, .bool bk]) ∧ Grow w w' ∧ Own w w' u ∧ u.er = tk := fun w hgl => by
          rw [e31]; exact ih (by omega) n rest nm tk rk bk w (by omega) (by omega) hgl hk
         repeat' ((go_not_at_region 22; first | (refine T_nil ?_) | ((first | apply U0 | (apply U1; (case hd => decide +kernel)) | (apply U2 (hw := H); (case hd => decide +kernel)) | (apply U3 1; (case hp => rfl); (case hd => decide +kernel)) | (apply U3 2; (case hp => rfl); (case hd => decide +kernel)) | (apply U3 3; (case hp => rfl); (case hd => decide +kernel)) | (apply U3 4; (case hp => rfl); (case hd => decide +kernel)) | (apply U3 5; (case hp => rfl); (case hd => decide +kernel)) | (apply U3 6; (case hp => rfl); (case hd => decide +kernel)) | (apply U3 7; (case hp => rfl); (case hd => decide +kernel)) | (apply U3 8; (case hp => rfl); (case hd => decide +kernel)) | (apply U3 9; (case hp => rfl); (case hd => decide +kernel)) | (apply U3 10; (case hp => rfl); (case hd => decide +kernel)) | (apply U3 11; (case hp => rfl); (case hd => decide +kernel))); (case hg => rfl); (case hy => (first | (apply Yi.a; constructor; all_goals (first | rfl | (constructor <;> omega) | (apply CellIs.own; (case h => repeat constructor); rfl) | (apply Cell3.own; (case h => repeat constructor); all_goals rfl))) | (apply Yi.b; constructor; all_goals (first | rfl | (constructor <;> omega) | (apply CellIs.own; (case h => repeat constructor); rfl) | (apply Cell3.own; (case h => repeat constructor); all_goals rfl))) | (apply Yi.c; constructor; all_goals (first | rfl | (constructor <;> omega) | (apply CellIs.own; (case h => repeat constructor); rfl) | (apply Cell3.own; (case h => repeat constructor); all_goals rfl)))))) | ((first | apply V0 | apply Go.Dk.V1 | apply V2 (hw := H)); (case hg => rfl); try decide +kernel) | ((first | refine G0 H ?_); simp only [enum, Nat.reduceAdd]) | (apply B0 (hw := H); (case hg => rfl); (case hd => first | with_reducible exact hd_false | decide +kernel); (case hx => rfl); (case hc => rfl); clear H; intro bx _ H) | (apply B1 (hw := H); (case hg => rfl); (case hd => first | with_reducible exact hd_false | decide +kernel); clear H; intro ax _ H) | go_step | (apply X0; (case hy => rfl); all_goals (intro hb; simp only [hb]; (try simp only [decide_eq_true_eq, decide_eq_false_iff_not, Bool.not_eq_true', Bool.not_eq_false', Bool.and_eq_true, Bool.or_eq_true, Bool.and_eq_false_iff, Bool.or_eq_false_iff] at hb); try (exfalso; omega)))) <;> try simp only [List.getElem_toArray, List.getElem_cons_zero, List.getElem_cons_succ, Act.put, evalT, evalC, evalF, List.setIfInBounds_toArray, List.set_cons_succ, List.set_cons_zero, List.getD_cons_succ, List.getD_cons_zero, Nat.reduceAdd, Nat.reduceMul, Nat.add_zero, Nat.zero_add, Int.toNat_natCast, Int.reduceToNat, List.eraseIdx_cons_succ, List.eraseIdx_cons_zero, cond_true, cond_false])
         all_goals first | (exfalso; omega; done) | skip
         go_cut [141] from 125 to 196 (fun v141 wc => v141 = .bool cb ∧ St w noneZ noneZ [kidsR us, rowR 24 3 (.slice sa us.length sc) us.length (flatT us), blk a18 [.int .i64 kk, .int .i64 0, .slice sa us.length sc] 24, blk a6 [.int .i64 0, .int .i64 0, .slice none 0 0] 24] (sF (some ⟨pb, po, none⟩) ps) wc)
         case first => as_aux_lemma =>
          repeat' ((first | (refine T_nil ?_) | ((first | apply U0 | (apply U1; (case hd => decide +kernel)) | (apply U2 (hw := H); (case hd => decide +kernel)) | (apply U3 1; (case hp => rfl); (case hd => decide +kernel)) | (apply U3 2; (case hp => rfl); (case hd => decide +kernel)) | (apply U3 3; (case hp => rfl); (case hd => decide +kernel)) | (apply U3 4; (case hp => rfl); (case hd => decide +kernel)) | (apply U3 5; (case hp => rfl); (case hd => decide +kernel)) | (apply U3 6; (case hp => rfl); (case hd => decide +kernel)) | (apply U3 7; (case hp => rfl); (case hd => decide +kernel)) | (apply U3 8; (case hp => rfl); (case hd => decide +kernel)) | (apply U3 9; (case hp => rfl); (case hd => decide +kernel)) | (apply U3 10; (case hp => rfl); (case hd => decide +kernel)) | (apply U3 11; (case hp => rfl); (case hd => decide +kernel))); (case hg => rfl); (case hy => (first | (apply Yi.a; constructor; all_goals (first | rfl | (constructor <;> omega) | (apply CellIs.own; (case h => repeat constructor); rfl) | (apply Cell3.own; (case h => repeat constructor); all_goals rfl))) | (apply Yi.b; constructor; all_goals (first | rfl | (constructor <;> omega) | (apply CellIs.own; (case h => repeat constructor); rfl) | (apply Cell3.own; (case h => repeat constructor); all_goals rfl))) | (apply Yi.c; constructor; all_goals (first | rfl | (constructor <;> omega) | (apply CellIs.own; (case h => repeat constructor); rfl) | (apply Cell3.own; (case h => repeat constructor); all_goals rfl)))))) | ((first | apply V0 | apply Go.Dk.V1 | apply V2 (hw := H)); (case hg => rfl); try decide +kernel) | ((first | refine G0 H ?_); simp only [enum, Nat.reduceAdd]) | (apply B0 (hw := H); (case hg => rfl); (case hd => first | with_reducible exact hd_false | decide +kernel); (case hx => rfl); (case hc => rfl); clear H; intro bx _ H) | (apply B1 (hw := H); (case hg => rfl); (case hd => first | with_reducible exact hd_false | decide +kernel); clear H; intro ax _ H) | ((apply C0 (hw := H); (case hg => rfl); (case hd => first | with_reducible exact hd_false | decide +kernel); (case hxs => rfl); (case hc => exact q_isBinder (hgl.now H.ext) (f_isBd (n := 1) (by omega) _)); clear H; intro _ H)) | go_step | (apply X0; (case hy => rfl); all_goals (intro hb; simp only [hb]; (try simp only [decide_eq_true_eq, decide_eq_false_iff_not, Bool.not_eq_true', Bool.not_eq_false', Bool.and_eq_true, Bool.or_eq_true, Bool.and_eq_false_iff, Bool.or_eq_false_iff] at hb); try (exfalso; omega)))) <;> try simp only [List.getElem_toArray, List.getElem_cons_zero, List.getElem_cons_succ, Act.put, evalT, evalC, evalF, List.setIfInBounds_toArray, List.set_cons_succ, List.set_cons_zero, List.getD_cons_succ, List.getD_cons_zero, Nat.reduceAdd, Nat.reduceMul, Nat.add_zero, Nat.zero_add, Int.toNat_natCast, Int.reduceToNat, List.eraseIdx_cons_succ, List.eraseIdx_cons_zero, cond_true, cond_false])
          all_goals
           (clear h hk ihk hin ih
            go_meet
            case rel => exact ⟨by first | (rw [hcb, decide_eq_true hb]; rfl) | (rw [hcb, decide_eq_false hb]; rfl), H⟩)
         case rest => as_aux_lemma =>
          clear H
          obtain ⟨rfl, H⟩ := hcut
          clear hcb
          go_step
          go_cut [20] from 125 to 196 (fun v20 wc => v20 = .string nm ∧ St w noneZ noneZ [kidsR us, rowR 24 3 (.slice sa us.length sc) us.length (flatT us), blk a18 [.int .i64 kk, .int .i64 0, .slice sa us.length sc] 24, blk a6 [.int .i64 0, .int .i64 0, .slice none 0 0] 24] (sF (some ⟨pb, po, none⟩) ps) wc)
          case first => as_aux_lemma =>
           subst hnm
           cases cb with
           | true =>
            repeat' ((first | (refine T_nil ?_) | ((first | apply U0 | (apply U1; (case hd => decide +kernel)) | (apply U2 (hw := H); (case hd => decide +kernel)) | (apply U3 1; (case hp => rfl); (case hd => decide +kernel)) | (apply U3 2; (case hp => rfl); (case hd => decide +kernel)) | (apply U3 3; (case hp => rfl); (case hd => decide +kernel)) | (apply U3 4; (case hp => rfl); (case hd => decide +kernel)) | (apply U3 5; (case hp => rfl); (case hd => decide +kernel)) | (apply U3 6; (case hp => rfl); (case hd => decide +kernel)) | (apply U3 7; (case hp => rfl); (case hd => decide +kernel)) | (apply U3 8; (case hp => rfl); (case hd => decide +kernel)) | (apply U3 9; (case hp => rfl); (case hd => decide +kernel)) | (apply U3 10; (case hp => rfl); (case hd => decide +kernel)) | (apply U3 11; (case hp => rfl); (case hd => decide +kernel))); (case hg => rfl); (case hy => (first | (apply Yi.a; constructor; all_goals (first | rfl | (constructor <;> omega) | (apply CellIs.own; (case h => repeat constructor); rfl) | (apply Cell3.own; (case h => repeat constructor); all_goals rfl))) | (apply Yi.b; constructor; all_goals (first | rfl | (constructor <;> omega) | (apply CellIs.own; (case h => repeat constructor); rfl) | (apply Cell3.own; (case h => repeat constructor); all_goals rfl))) | (apply Yi.c; constructor; all_goals (first | rfl | (constructor <;> omega) | (apply CellIs.own; (case h => repeat constructor); rfl) | (apply Cell3.own; (case h => repeat constructor); all_goals rfl)))))) | ((first | apply V0 | apply Go.Dk.V1 | apply V2 (hw := H)); (case hg => rfl); try decide +kernel) | ((first | refine G0 H ?_); simp only [enum, Nat.reduceAdd]) | (apply B0 (hw := H); (case hg => rfl); (case hd => first | with_reducible exact hd_false | decide +kernel); (case hx => rfl); (case hc => rfl); clear H; intro bx _ H) | (apply B1 (hw := H); (case hg => rfl); (case hd => first | with_reducible exact hd_false | decide +kernel); clear H; intro ax _ H) | go_step | (apply X0; (case hy => rfl); all_goals (intro hb; simp only [hb]; (try simp only [decide_eq_true_eq, decide_eq_false_iff_not, Bool.not_eq_true', Bool.not_eq_false', Bool.and_eq_true, Bool.or_eq_true, Bool.and_eq_false_iff, Bool.or_eq_false_iff] at hb); try (exfalso; omega)))) <;> try simp only [List.getElem_toArray, List.getElem_cons_zero, List.getElem_cons_succ, Act.put, evalT, evalC, evalF, List.setIfInBounds_toArray, List.set_cons_succ, List.set_cons_zero, List.getD_cons_succ, List.getD_cons_zero, Nat.reduceAdd, Nat.reduceMul, Nat.add_zero, Nat.zero_add, Int.toNat_natCast, Int.reduceToNat, List.eraseIdx_cons_succ, List.eraseIdx_cons_zero, cond_true, cond_false])
            go_meet
            case rel => exact ⟨rfl, H⟩
           | false =>
            repeat' ((first | (refine T_nil ?_) | ((first | apply U0 | (apply U1; (case hd => decide +kernel)) | (apply U2 (hw := H); (case hd => decide +kernel)) | (apply U3 1; (case hp => rfl); (case hd => decide +kernel)) | (apply U3 2; (case hp => rfl); (case hd => decide +kernel)) | (apply U3 3; (case hp => rfl); (case hd => decide +kernel)) | (apply U3 4; (case hp => rfl); (case hd => decide +kernel)) | (apply U3 5; (case hp => rfl); (case hd => decide +kernel)) | (apply U3 6; (case hp => rfl); (case hd => decide +kernel)) | (apply U3 7; (case hp => rfl); (case hd => decide +kernel)) | (apply U3 8; (case hp => rfl); (case hd => decide +kernel)) | (apply U3 9; (case hp => rfl); (case hd => decide +kernel)) | (apply U3 10; (case hp => rfl); (case hd => decide +kernel)) | (apply U3 11; (case hp => rfl); (case hd => decide +kernel))); (case hg => rfl); (case hy => (first | (apply Yi.a; constructor; all_goals (first | rfl | (constructor <;> omega) | (apply CellIs.own; (case h => repeat constructor); rfl) | (apply Cell3.own; (case h => repeat constructor); all_goals rfl))) | (apply Yi.b; constructor; all_goals (first | rfl | (constructor <;> omega) | (apply CellIs.own; (case h => repeat constructor); rfl) | (apply Cell3.own; (case h => repeat constructor); all_goals rfl))) | (apply Yi.c; constructor; all_goals (first | rfl | (constructor <;> omega) | (apply CellIs.own; (case h => repeat constructor); rfl) | (apply Cell3.own; (case h => repeat constructor); all_goals rfl)))))) | ((first | apply V0 | apply Go.Dk.V1 | apply V2 (hw := H)); (case hg => rfl); try decide +kernel) | ((first | refine G0 H ?_); simp only [enum, Nat.reduceAdd]) | (apply B0 (hw := H); (case hg => rfl); (case hd => first | with_reducible exact hd_false | decide +kernel); (case hx => rfl); (case hc => rfl); clear H; intro bx _ H) | (apply B1 (hw := H); (case hg => rfl); (case hd => first | with_reducible exact hd_false | decide +kernel); clear H; intro ax _ H) | go_step | (apply X0; (case hy => rfl); all_goals (intro hb; simp only [hb]; (try simp only [decide_eq_true_eq, decide_eq_false_iff_not, Bool.not_eq_true', Bool.not_eq_false', Bool.and_eq_true, Bool.or_eq_true, Bool.and_eq_false_iff, Bool.or_eq_false_iff] at hb); try (exfalso; omega)))) <;> try simp only [List.getElem_toArray, List.getElem_cons_zero, List.getElem_cons_succ, Act.put, evalT, evalC, evalF, List.setIfInBounds_toArray, List.set_cons_succ, List.set_cons_zero, List.getD_cons_succ, List.getD_cons_zero, Nat.reduceAdd, Nat.reduceMul, Nat.add_zero, Nat.zero_add, Int.toNat_natCast, Int.reduceToNat, List.eraseIdx_cons_succ, List.eraseIdx_cons_zero, cond_true, cond_false])
            go_meet
            case rel => exact ⟨rfl, H⟩
          case rest => as_aux_lemma =>
           clear H
           obtain ⟨rfl, H⟩ := hcut
           clear hnm
           cases bk with
           | false => as_aux_lemma =>
            simp only [Bool.not_false, cond_true] at h
            obtain ⟨rfl, rfl, rfl⟩ := out_inj h
            repeat' ((first | (refine T_nil ?_) | ((first | apply U0 | (apply U1; (case hd => decide +kernel)) | (apply U2 (hw := H); (case hd => decide +kernel)) | (apply U3 1; (case hp => rfl); (case hd => decide +kernel)) | (apply U3 2; (case hp => rfl); (case hd => decide +kernel)) | (apply U3 3; (case hp => rfl); (case hd => decide +kernel)) | (apply U3 4; (case hp => rfl); (case hd => decide +kernel)) | (apply U3 5; (case hp => rfl); (case hd => decide +kernel)) | (apply U3 6; (case hp => rfl); (case hd => decide +kernel)) | (apply U3 7; (case hp => rfl); (case hd => decide +kernel)) | (apply U3 8; (case hp => rfl); (case hd => decide +kernel)) | (apply U3 9; (case hp => rfl); (case hd => decide +kernel)) | (apply U3 10; (case hp => rfl); (case hd => decide +kernel)) | (apply U3 11; (case hp => rfl); (case hd => decide +kernel))); (case hg => rfl); (case hy => (first | (apply Yi.a; constructor; all_goals (first | rfl | (constructor <;> omega) | (apply CellIs.own; (case h => repeat constructor); rfl) | (apply Cell3.own; (case h => repeat constructor); all_goals rfl))) | (apply Yi.b; constructor; all_goals (first | rfl | (constructor <;> omega) | (apply CellIs.own; (case h => repeat constructor); rfl) | (apply Cell3.own; (case h => repeat constructor); all_goals rfl))) | (apply Yi.c; constructor; all_goals (first | rfl | (constructor <;> omega) | (apply CellIs.own; (case h => repeat constructor); rfl) | (apply Cell3.own; (case h => repeat constructor); all_goals rfl)))))) | ((first | apply V0 | apply Go.Dk.V1 | apply V2 (hw := H)); (case hg => rfl); try decide +kernel) | ((first | refine G0 H ?_); simp only [enum, Nat.reduceAdd]) | (apply B0 (hw := H); (case hg => rfl); (case hd => first | with_reducible exact hd_false | decide +kernel); (case hx => rfl); (case hc => rfl); clear H; intro bx _ H) | (apply B1 (hw := H); (case hg => rfl); (case hd => first | with_reducible exact hd_false | decide +kernel); clear H; intro ax _ H) | ((apply C1; (case hg => rfl); (case hd => first | with_reducible exact hd_false | decide +kernel); (case hxs => rfl); (case hc => exact ihk _ (hgl.now H.ext)); rintro _ _ ⟨z, rfl, hgr, ho, hez⟩; replace H := H.pushTree hgr ho; (try simp only [List.set_cons_succ, List.set_cons_zero] at H); refine ⟨_, rfl, _, (by first | exact fun _ _ h => h | exact fun _ _ h => h.tail | exact fun _ _ h => h.unfact (by repeat' (first | exact Stable.true | exact rdF_stable _ | exact iF_stable _ _ | exact sF_stable _ _ | apply Stable.and)) (fun _ _ h => h.2) | exact nofun), H, ?_⟩)) | ((apply W0 (hw := H); (case hg => rfl); (case hd => first | with_reducible exact hd_false | decide +kernel); (case hx => rfl); (case hy => rfl); (case hc => rfl); (case hn => repeat constructor); (case h1 => rfl); clear H; intro _ H; (try dsimp only at H); try simp only [putL, List.set_cons_succ, List.set_cons_zero, evalT, evalC, List.getD_cons_succ, List.getD_cons_zero, Nat.zero_add, Nat.reduceAdd] at H)) | go_step | (apply X0; (case hy => rfl); all_goals (intro hb; simp only [hb]; (try simp only [decide_eq_true_eq, decide_eq_false_iff_not, Bool.not_eq_true', Bool.not_eq_false', Bool.and_eq_true, Bool.or_eq_true, Bool.and_eq_false_iff, Bool.or_eq_false_iff] at hb); try (exfalso; omega)))) <;> try simp only [List.getElem_toArray, List.getElem_cons_zero, List.getElem_cons_succ, Act.put, evalT, evalC, evalF, List.setIfInBounds_toArray, List.set_cons_succ, List.set_cons_zero, List.getD_cons_succ, List.getD_cons_zero, Nat.reduceAdd, Nat.reduceMul, Nat.add_zero, Nat.zero_add, Int.toNat_natCast, Int.reduceToNat, List.eraseIdx_cons_succ, List.eraseIdx_cons_zero, cond_true, cond_false])
            ((try simp only [Exit.inBlock, Exit.then]); refine ret_post (res3 rfl (R_cell rfl (load3 (ST3.out) (H.cell at5 rfl) (H.cell at5 rfl) (H.cell at5 rfl))) (R_tmp rfl) (R_tmp rfl)) ?_; try simp only [List.getD_cons_succ, List.getD_cons_zero])
            exact ⟨.mk 0 0 none 0 [], rfl, H.ext, own_leaf _ _ _ _ _ _, rfl⟩
           | true =>
            simp only [Bool.not_true, cond_false] at h
            (obtain ⟨hroom, g0⟩ := v_cond h; clear h; have h := g0; clear g0)
            have hroom2 : us.length + 1 ≤ 1099511627776 := by simpa [roomB] using hroom
            repeat' ((go_not_at_region 28; first | (refine T_nil ?_) | ((first | apply U0 | (apply U1; (case hd => decide +kernel)) | (apply U2 (hw := H); (case hd => decide +kernel)) | (apply U3 1; (case hp => rfl); (case hd => decide +kernel)) | (apply U3 2; (case hp => rfl); (case hd => decide +kernel)) | (apply U3 3; (case hp => rfl); (case hd => decide +kernel)) | (apply U3 4; (case hp => rfl); (case hd => decide +kernel)) | (apply U3 5; (case hp => rfl); (case hd => decide +kernel)) | (apply U3 6; (case hp => rfl); (case hd => decide +kernel)) | (apply U3 7; (case hp => rfl); (case hd => decide +kernel)) | (apply U3 8; (case hp => rfl); (case hd => decide +kernel)) | (apply U3 9; (case hp => rfl); (case hd => decide +kernel)) | (apply U3 10; (case hp => rfl); (case hd => decide +kernel)) | (apply U3 11; (case hp => rfl); (case hd => decide +kernel))); (case hg => rfl); (case hy => (first | (apply Yi.a; constructor; all_goals (first | rfl | (constructor <;> omega) | (apply CellIs.own; (case h => repeat constructor); rfl) | (apply Cell3.own; (case h => repeat constructor); all_goals rfl))) | (apply Yi.b; constructor; all_goals (first | rfl | (constructor <;> omega) | (apply CellIs.own; (case h => repeat constructor); rfl) | (apply Cell3.own; (case h => repeat constructor); all_goals rfl))) | (apply Yi.c; constructor; all_goals (first | rfl | (constructor <;> omega) | (apply CellIs.own; (case h => repeat constructor); rfl) | (apply Cell3.own; (case h => repeat constructor); all_goals rfl)))))) | ((first | apply V0 | apply Go.Dk.V1 | apply V2 (hw := H)); (case hg => rfl); try decide +kernel) | ((first | refine G0 H ?_); simp only [enum, Nat.reduceAdd]) | (apply B0 (hw := H); (case hg => rfl); (case hd => first | with_reducible exact hd_false | decide +kernel); (case hx => rfl); (case hc => rfl); clear H; intro bx _ H) | (apply B1 (hw := H); (case hg => rfl); (case hd => first | with_reducible exact hd_false | decide +kernel); clear H; intro ax _ H) | ((apply C1; (case hg => rfl); (case hd => first | with_reducible exact hd_false | decide +kernel); (case hxs => rfl); (case hc => exact ihk _ (hgl.now H.ext)); rintro _ _ ⟨z, rfl, hgr, ho, hez⟩; replace H := H.pushTree hgr ho; (try simp only [List.set_cons_succ, List.set_cons_zero] at H); refine ⟨_, rfl, _, (by first | exact fun _ _ h => h | exact fun _ _ h => h.tail | exact fun _ _ h => h.unfact (by repeat' (first | exact Stable.true | exact rdF_stable _ | exact iF_stable _ _ | exact sF_stable _ _ | apply Stable.and)) (fun _ _ h => h.2) | exact nofun), H, ?_⟩)) | ((apply W0 (hw := H); (case hg => rfl); (case hd => first | with_reducible exact hd_false | decide +kernel); (case hx => rfl); (case hy => rfl); (case hc => rfl); (case hn => repeat constructor); (case h1 => rfl); clear H; intro _ H; (try dsimp only at H); try simp only [putL, List.set_cons_succ, List.set_cons_zero, evalT, evalC, List.getD_cons_succ, List.getD_cons_zero, Nat.zero_add, Nat.reduceAdd] at H)) | ((apply B2 (hw := H); (case hg => rfl); (case hd => first | with_reducible exact hd_false | decide +kernel); (case hvs => (simp only [List.map_cons, List.map_nil, evalT, evalC, List.getD_cons_succ, List.getD_cons_zero]; rfl)); (case hcs => (simp only [flatC, List.flatMap_cons, List.flatMap_nil, Value.cells, HT.val, List.cons_append, List.nil_append, List.append_nil]; rfl)); (case hix => rfl); (case hn => rfl); (case hsz => rfl); (case hb => rfl); clear H; intro sx _ H)) | ((apply A1 (hw := H) (i := 4) (p := 0); (case hg => rfl); (case hd => first | with_reducible exact hd_false | decide +kernel); (case hx => rfl); (case hy => rfl); (case hi => rfl); (case hq => rfl); (case hl => rfl); (case h1 => rfl); (case hbytes => omega); (case h63 => omega); clear H; intro ra rc _ H; (try simp only [List.set_cons_succ, List.set_cons_zero] at H))) | go_step | (apply X0; (case hy => rfl); all_goals (intro hb; simp only [hb]; (try simp only [decide_eq_true_eq, decide_eq_false_iff_not, Bool.not_eq_true', Bool.not_eq_false', Bool.and_eq_true, Bool.or_eq_true, Bool.and_eq_false_iff, Bool.or_eq_false_iff] at hb); try (exfalso; omega)))) <;> try simp only [List.getElem_toArray, List.getElem_cons_zero, List.getElem_cons_succ, Act.put, evalT, evalC, evalF, List.setIfInBounds_toArray, List.set_cons_succ, List.set_cons_zero, List.getD_cons_succ, List.getD_cons_zero, Nat.reduceAdd, Nat.reduceMul, Nat.add_zero, Nat.zero_add, Int.toNat_natCast, Int.reduceToNat, List.eraseIdx_cons_succ, List.eraseIdx_cons_zero, cond_true, cond_false])
            have H := H.tail.tail.snoc
            (obtain ⟨hg6, g0⟩ := v_cond h; clear h; have h := g0; clear g0)
            obtain ⟨c3, hc3⟩ : ∃ c3, c3 = (decide (((byteAt s 0).toNat : Int) = 40) && (decide ((i : Int) = 1) && !(rk.toList == (bytesOf []).toList))) := ⟨_, rfl⟩
            have hq : (c3 = false ∧ rnT n g s env (31 - ((d + 1 : Nat) : Int)) rk ins bb (i : Int) (us.map HT.er ++ [tk]) ps kk = some ([tm t, .one (.str r), bl b], [])) ∨ (c3 = true ∧ 0 < rk.size ∧ ∃ (kk2 : Int) (sh : List ByteArray) (x : ByteArray) (ps2 : List ByteArray), (((byteAt rk 0).toNat : Int) = 32 ∧ kk2 = 5 ∨ ¬ ((byteAt rk 0).toNat : Int) = 32 ∧ ((byteAt rk 0).toNat : Int) = 42 ∧ kk2 = 13 ∨ ¬ ((byteAt rk 0).toNat : Int) = 32 ∧ ¬ ((byteAt rk 0).toNat : Int) = 42 ∧ kk2 = 3) ∧
               FF n 70 [] [] = some ([.one (.fr (.ss sh))], []) ∧ sh[(kk2 - 1).toNat]? = some x ∧ FF n 69 [.one (.str x), .one (.str (bytesOf [46]))] [] = some ([.one (.fr (.ss ps2))], []) ∧ rnT n g s env (31 - ((d + 1 : Nat) : Int)) rk ins bb (i : Int) (us.map HT.er ++ [tk]) ps2 kk2 = some ([tm t, .one (.str r), bl b], [])) := by as_aux_lemma =>
             cases h40 : decide (((byteAt s 0).toNat : Int) = 40) with
             | false => exact .inl ⟨by rw [hc3, h40]; rfl, by rw [show decide (((byteAt s (Int.toNat 0)).toNat : Int) = 40) = false from h40, cond_false] at h; unfold rnT; with_reducible exact h⟩
             | true =>
              rw [show decide (((byteAt s (Int.toNat 0)).toNat : Int) = 40) = true from h40, cond_true] at h
              cases h1 : decide ((i : Int) = 1) with
              | false => exact .inl ⟨by rw [hc3, h1, h40]; rfl, by rw [h1, cond_false] at h; unfold rnT; with_reducible exact h⟩
              | true =>
               rw [h1, cond_true] at h
               cases hr : (!(rk.toList == (bytesOf []).toList)) with
               | false => exact .inl ⟨by rw [hc3, h1, h40, hr]; rfl, by rw [hr, cond_false] at h; unfold rnT; with_reducible exact h⟩
               | true =>
                rw [hr, cond_true] at h
                (obtain ⟨hg7, g0⟩ := v_cond h; clear h; have h := g0; clear g0)
                simp only [Bool.and_eq_true, decide_eq_true_eq] at hg7
                refine .inr ⟨by rw [hc3, h1, h40, hr]; rfl, by omega, ?_⟩
                have fin : ∀ (kk2 : Int) (j : Nat), j = (kk2 - 1).toNat → (((byteAt rk 0).toNat : Int) = 32 ∧ kk2 = 5 ∨ ¬ ((byteAt rk 0).toNat : Int) = 32 ∧ ((byteAt rk 0).toNat : Int) = 42 ∧ kk2 = 13 ∨ ¬ ((byteAt rk 0).toNat : Int) = 32 ∧ ¬ ((byteAt rk 0).toNat : Int) = 42 ∧ kk2 = 3) →
                   ((FF n 70 [] []).bind fun x10 => rSs x10.1 fun x11 x12 => nilV x12 (nilO x10.2 ((x11)[j]?.bind fun x13 => (FF n 69 [.one (.str x13), .one (.str (bytesOf [46]))] []).bind fun x14 => rSs x14.1 fun x15 x16 => nilV x16 (nilO x14.2 (rnT n g s env (31 - ((d + 1 : Nat) : Int)) rk ins bb (i : Int) (us.map HT.er ++ [tk]) x15 kk2))))) = some ([tm t, .one (.str r), bl b], []) →
                   ∃ (kk2 : Int) (sh : List ByteArray) (x : ByteArray) (ps2 : List ByteArray), (((byteAt rk 0).toNat : Int) = 32 ∧ kk2 = 5 ∨ ¬ ((byteAt rk 0).toNat : Int) = 32 ∧ ((byteAt rk 0).toNat : Int) = 42 ∧ kk2 = 13 ∨ ¬ ((byteAt rk 0).toNat : Int) = 32 ∧ ¬ ((byteAt rk 0).toNat : Int) = 42 ∧ kk2 = 3) ∧
                    FF n 70 [] [] = some ([.one (.fr (.ss sh))], []) ∧ sh[(kk2 - 1).toNat]? = some x ∧ FF n 69 [.one (.str x), .one (.str (bytesOf [46]))] [] = some ([.one (.fr (.ss ps2))], []) ∧ rnT n g s env (31 - ((d + 1 : Nat) : Int)) rk ins bb (i : Int) (us.map HT.er ++ [tk]) ps2 kk2 = some ([tm t, .one (.str r), bl b], []) := fun kk2 j hj hc h => by
                 (obtain ⟨⟨q1, q2⟩, hf6, g0⟩ := v_bind h; clear h; (try dsimp only at g0); obtain ⟨sh, q3, e1, g1⟩ := v_rSs g0; clear g0; subst e1; obtain ⟨e1, g2⟩ := v_nilV g1; clear g1; subst e1; obtain ⟨e1, h⟩ := v_nilO g2; clear g2; subst e1; (try dsimp only at h))
                 obtain ⟨x, hx, g0⟩ := v_bind h
                 clear h
                 have h := g0
                 clear g0
                 (obtain ⟨⟨q1, q2⟩, hf7, g0⟩ := v_bind h; clear h; (try dsimp only at g0); obtain ⟨ps2, q3, e1, g1⟩ := v_rSs g0; clear g0; subst e1; obtain ⟨e1, g2⟩ := v_nilV g1; clear g1; subst e1; obtain ⟨e1, h⟩ := v_nilO g2; clear g2; subst e1; (try dsimp only at h))
                 exact ⟨kk2, sh, x, ps2, hc, hf6, by rw [← hj]; exact hx, hf7, h⟩
                cases h32 : decide (((byteAt rk 0).toNat : Int) = 32) with
                | true =>
                 rw [show decide (((byteAt rk (Int.toNat 0)).toNat : Int) = 32) = true from h32, cond_true] at h
                 exact fin 5 (Int.toNat 4) rfl (.inl ⟨of_decide_eq_true h32, rfl⟩) (by unfold rnT; with_reducible exact h)
                | false =>
                 rw [show decide (((byteAt rk (Int.toNat 0)).toNat : Int) = 32) = false from h32, cond_false] at h
                 cases h42 : decide (((byteAt rk 0).toNat : Int) = 42) with
                 | true =>
                  rw [show decide (((byteAt rk (Int.toNat 0)).toNat : Int) = 42) = true from h42, cond_true] at h
                  exact fin 13 (Int.toNat 12) rfl (.inr (.inl ⟨of_decide_eq_false h32, of_decide_eq_true h42, rfl⟩)) (by unfold rnT; with_reducible exact h)
                 | false =>
                  rw [show decide (((byteAt rk (Int.toNat 0)).toNat : Int) = 42) = false from h42, cond_false] at h
                  exact fin 3 (Int.toNat 2) rfl (.inr (.inr ⟨of_decide_eq_false h32, of_decide_eq_false h42, rfl⟩)) (by unfold rnT; with_reducible exact h)
            clear h hk ihk ih
            go_cut [171] from 125 to 196 (fun v171 wc => v171 = .bool c3 ∧ St w noneZ noneZ [kidsR (us ++ [z]), rowR 24 3 (.slice ra (us.length + 1) rc) (us.length + 1) (flatT us ++ [.int .i64 z.k, .int .i64 z.n, .slice z.a z.kids.length z.cap]), blk a18 [.int .i64 kk, .int .i64 0, .slice ra (us.length + 1) rc] 24, blk a6 [.int .i64 0, .int .i64 0, .slice none 0 0] 24] (sF (some ⟨pb, po, none⟩) ps) wc)
            case first => as_aux_lemma =>
             clear hq
             repeat' ((first | (refine T_nil ?_) | ((first | apply U0 | (apply U1; (case hd => decide +kernel)) | (apply U2 (hw := H); (case hd => decide +kernel)) | (apply U3 1; (case hp => rfl); (case hd => decide +kernel)) | (apply U3 2; (case hp => rfl); (case hd => decide +kernel)) | (apply U3 3; (case hp => rfl); (case hd => decide +kernel)) | (apply U3 4; (case hp => rfl); (case hd => decide +kernel)) | (apply U3 5; (case hp => rfl); (case hd => decide +kernel)) | (apply U3 6; (case hp => rfl); (case hd => decide +kernel)) | (apply U3 7; (case hp => rfl); (case hd => decide +kernel)) | (apply U3 8; (case hp => rfl); (case hd => decide +kernel)) | (apply U3 9; (case hp => rfl); (case hd => decide +kernel)) | (apply U3 10; (case hp => rfl); (case hd => decide +kernel)) | (apply U3 11; (case hp => rfl); (case hd => decide +kernel))); (case hg => rfl); (case hy => (first | (apply Yi.a; constructor; all_goals (first | rfl | (constructor <;> omega) | (apply CellIs.own; (case h => repeat constructor); rfl) | (apply Cell3.own; (case h => repeat constructor); all_goals rfl))) | (apply Yi.b; constructor; all_goals (first | rfl | (constructor <;> omega) | (apply CellIs.own; (case h => repeat constructor); rfl) | (apply Cell3.own; (case h => repeat constructor); all_goals rfl))) | (apply Yi.c; constructor; all_goals (first | rfl | (constructor <;> omega) | (apply CellIs.own; (case h => repeat constructor); rfl) | (apply Cell3.own; (case h => repeat constructor); all_goals rfl)))))) | ((first | apply V0 | apply Go.Dk.V1 | apply V2 (hw := H)); (case hg => rfl); try decide +kernel) | ((first | refine G0 H ?_); simp only [enum, Nat.reduceAdd]) | (apply B0 (hw := H); (case hg => rfl); (case hd => first | with_reducible exact hd_false | decide +kernel); (case hx => rfl); (case hc => rfl); clear H; intro bx _ H) | (apply B1 (hw := H); (case hg => rfl); (case hd => first | with_reducible exact hd_false | decide +kernel); clear H; intro ax _ H) | go_step | (apply X0; (case hy => rfl); all_goals (intro hb; simp only [hb]; (try simp only [decide_eq_true_eq, decide_eq_false_iff_not, Bool.not_eq_true', Bool.not_eq_false', Bool.and_eq_true, Bool.or_eq_true, Bool.and_eq_false_iff, Bool.or_eq_false_iff] at hb); try (exfalso; omega)))) <;> try simp only [List.getElem_toArray, List.getElem_cons_zero, List.getElem_cons_succ, Act.put, evalT, evalC, evalF, List.setIfInBounds_toArray, List.set_cons_succ, List.set_cons_zero, List.getD_cons_succ, List.getD_cons_zero, Nat.reduceAdd, Nat.reduceMul, Nat.add_zero, Nat.zero_add, Int.toNat_natCast, Int.reduceToNat, List.eraseIdx_cons_succ, List.eraseIdx_cons_zero, cond_true, cond_false])
             all_goals
              (go_meet
               case rel => exact ⟨by first | (rw [hc3, decide_eq_false (show ¬ ((byteAt s 0).toNat : Int) = 40 by assumption)]; rfl) | (rw [hc3, decide_eq_true (show ((byteAt s 0).toNat : Int) = 40 by assumption), decide_eq_false (show ¬ (i : Int) = 1 by assumption)]; rfl) | (rw [hc3, decide_eq_true (show ((byteAt s 0).toNat : Int) = 40 by assumption), decide_eq_true (show (i : Int) = 1 by assumption)]; rfl), H⟩)
            case rest => as_aux_lemma =>
             clear H hc3
             obtain ⟨rfl, H⟩ := hcut
             go_step
             go_cut [13] from 125 to 196 (fun v13 wc => ∃ (kk2 : Int) (ps2 : List ByteArray) (pb2 po2 pc2 : Nat), v13 = .slice (some ⟨pb2, po2, none⟩) ps2.length pc2 ∧ ps2.length ≤ maxLen ∧ rnT n g s env (31 - ((d + 1 : Nat) : Int)) rk ins bb (i : Int) (us.map HT.er ++ [tk]) ps2 kk2 = some ([tm t, .one (.str r), bl b], []) ∧ St w noneZ noneZ [kidsR (us ++ [z]), rowR 24 3 (.slice ra (us.length + 1) rc) (us.length + 1) (flatT us ++ [.int .i64 z.k, .int .i64 z.n, .slice z.a z.kids.length z.cap]), blk a18 [.int .i64 kk2, .int .i64 0, .slice ra (us.length + 1) rc] 24, blk a6 [.int .i64 0, .int .i64 0, .slice none 0 0] 24] (sF (some ⟨pb2, po2, none⟩) ps2) wc)
             case first => as_aux_lemma =>
              rcases hq with ⟨rfl, hT⟩ | ⟨rfl, hrk, kk2, sh, x, ps2, hc, hf6, hx, hf7, hT⟩
              ·repeat' ((first | (refine T_nil ?_) | ((first | apply U0 | (apply U1; (case hd => decide +kernel)) | (apply U2 (hw := H); (case hd => decide +kernel)) | (apply U3 1; (case hp => rfl); (case hd => decide +kernel)) | (apply U3 2; (case hp => rfl); (case hd => decide +kernel)) | (apply U3 3; (case hp => rfl); (case hd => decide +kernel)) | (apply U3 4; (case hp => rfl); (case hd => decide +kernel)) | (apply U3 5; (case hp => rfl); (case hd => decide +kernel)) | (apply U3 6; (case hp => rfl); (case hd => decide +kernel)) | (apply U3 7; (case hp => rfl); (case hd => decide +kernel)) | (apply U3 8; (case hp => rfl); (case hd => decide +kernel)) | (apply U3 9; (case hp => rfl); (case hd => decide +kernel)) | (apply U3 10; (case hp => rfl); (case hd => decide +kernel)) | (apply U3 11; (case hp => rfl); (case hd => decide +kernel))); (case hg => rfl); (case hy => (first | (apply Yi.a; constructor; all_goals (first | rfl | (constructor <;> omega) | (apply CellIs.own; (case h => repeat constructor); rfl) | (apply Cell3.own; (case h => repeat constructor); all_goals rfl))) | (apply Yi.b; constructor; all_goals (first | rfl | (constructor <;> omega) | (apply CellIs.own; (case h => repeat constructor); rfl) | (apply Cell3.own; (case h => repeat constructor); all_goals rfl))) | (apply Yi.c; constructor; all_goals (first | rfl | (constructor <;> omega) | (apply CellIs.own; (case h => repeat constructor); rfl) | (apply Cell3.own; (case h => repeat constructor); all_goals rfl)))))) | ((first | apply V0 | apply Go.Dk.V1 | apply V2 (hw := H)); (case hg => rfl); try decide +kernel) | ((first | refine G0 H ?_); simp only [enum, Nat.reduceAdd]) | (apply B0 (hw := H); (case hg => rfl); (case hd => first | with_reducible exact hd_false | decide +kernel); (case hx => rfl); (case hc => rfl); clear H; intro bx _ H) | (apply B1 (hw := H); (case hg => rfl); (case hd => first | with_reducible exact hd_false | decide +kernel); clear H; intro ax _ H) | go_step | (apply X0; (case hy => rfl); all_goals (intro hb; simp only [hb]; (try simp only [decide_eq_true_eq, decide_eq_false_iff_not, Bool.not_eq_true', Bool.not_eq_false', Bool.and_eq_true, Bool.or_eq_true, Bool.and_eq_false_iff, Bool.or_eq_false_iff] at hb); try (exfalso; omega)))) <;> try simp only [List.getElem_toArray, List.getElem_cons_zero, List.getElem_cons_succ, Act.put, evalT, evalC, evalF, List.setIfInBounds_toArray, List.set_cons_succ, List.set_cons_zero, List.getD_cons_succ, List.getD_cons_zero, Nat.reduceAdd, Nat.reduceMul, Nat.add_zero, Nat.zero_add, Int.toNat_natCast, Int.reduceToNat, List.eraseIdx_cons_succ, List.eraseIdx_cons_zero, cond_true, cond_false])
               go_meet
               case rel => exact ⟨kk, ps, pb, po, pc, rfl, hpm, hT, H⟩
              ·obtain ⟨y, hy⟩ : ∃ y, ps2[((i : Int)).toNat]? = some y := by
                 have h := hT
                 unfold rnT at h
                 (obtain ⟨hg8, g0⟩ := v_cond h; clear h; have h := g0; clear g0)
                 obtain ⟨y, hy, _⟩ := v_bind h
                 exact ⟨y, hy⟩
               have hlx := (List.getElem?_eq_some_iff.1 hx).1
               rcases hc with ⟨h32, rfl⟩ | ⟨h32, h42, rfl⟩ | ⟨h32, h42, rfl⟩
               all_goals
                (repeat' ((first | (refine T_nil ?_) | ((first | apply U0 | (apply U1; (case hd => decide +kernel)) | (apply U2 (hw := H); (case hd => decide +kernel)) | (apply U3 1; (case hp => rfl); (case hd => decide +kernel)) | (apply U3 2; (case hp => rfl); (case hd => decide +kernel)) | (apply U3 3; (case hp => rfl); (case hd => decide +kernel)) | (apply U3 4; (case hp => rfl); (case hd => decide +kernel)) | (apply U3 5; (case hp => rfl); (case hd => decide +kernel)) | (apply U3 6; (case hp => rfl); (case hd => decide +kernel)) | (apply U3 7; (case hp => rfl); (case hd => decide +kernel)) | (apply U3 8; (case hp => rfl); (case hd => decide +kernel)) | (apply U3 9; (case hp => rfl); (case hd => decide +kernel)) | (apply U3 10; (case hp => rfl); (case hd => decide +kernel)) | (apply U3 11; (case hp => rfl); (case hd => decide +kernel))); (case hg => rfl); (case hy => (first | (apply Yi.a; constructor; all_goals (first | rfl | (constructor <;> omega) | (apply CellIs.own; (case h => repeat constructor); rfl) | (apply Cell3.own; (case h => repeat constructor); all_goals rfl))) | (apply Yi.b; constructor; all_goals (first | rfl | (constructor <;> omega) | (apply CellIs.own; (case h => repeat constructor); rfl) | (apply Cell3.own; (case h => repeat constructor); all_goals rfl))) | (apply Yi.c; constructor; all_goals (first | rfl | (constructor <;> omega) | (apply CellIs.own; (case h => repeat constructor); rfl) | (apply Cell3.own; (case h => repeat constructor); all_goals rfl)))))) | ((first | apply V0 | apply Go.Dk.V1 | apply V2 (hw := H)); (case hg => rfl); try decide +kernel) | ((first | refine G0 H ?_); simp only [enum, Nat.reduceAdd]) | (apply B0 (hw := H); (case hg => rfl); (case hd => first | with_reducible exact hd_false | decide +kernel); (case hx => rfl); (case hc => rfl); clear H; intro bx _ H) | (apply B1 (hw := H); (case hg => rfl); (case hd => first | with_reducible exact hd_false | decide +kernel); clear H; intro ax _ H) | ((apply W0 (hw := H); (case hg => rfl); (case hd => first | with_reducible exact hd_false | decide +kernel); (case hx => rfl); (case hy => rfl); (case hc => rfl); (case hn => repeat constructor); (case h1 => rfl); clear H; intro _ H; (try dsimp only at H); try simp only [putL, List.set_cons_succ, List.set_cons_zero, evalT, evalC, List.getD_cons_succ, List.getD_cons_zero, Nat.zero_add, Nat.reduceAdd] at H)) | go_step | (apply X0; (case hy => rfl); all_goals (intro hb; simp only [hb]; (try simp only [decide_eq_true_eq, decide_eq_false_iff_not, Bool.not_eq_true', Bool.not_eq_false', Bool.and_eq_true, Bool.or_eq_true, Bool.and_eq_false_iff, Bool.or_eq_false_iff] at hb); try (exfalso; omega)))) <;> try simp only [List.getElem_toArray, List.getElem_cons_zero, List.getElem_cons_succ, Act.put, evalT, evalC, evalF, List.setIfInBounds_toArray, List.set_cons_succ, List.set_cons_zero, List.getD_cons_succ, List.getD_cons_zero, Nat.reduceAdd, Nat.reduceMul, Nat.add_zero, Nat.zero_add, Int.toNat_natCast, Int.reduceToNat, List.eraseIdx_cons_succ, List.eraseIdx_cons_zero, cond_true, cond_false])
                 all_goals first | (exfalso; omega; done) | skip
                 repeat' ((first | (refine T_nil ?_) | ((first | apply U0 | (apply U1; (case hd => decide +kernel)) | (apply U2 (hw := H); (case hd => decide +kernel)) | (apply U3 1; (case hp => rfl); (case hd => decide +kernel)) | (apply U3 2; (case hp => rfl); (case hd => decide +kernel)) | (apply U3 3; (case hp => rfl); (case hd => decide +kernel)) | (apply U3 4; (case hp => rfl); (case hd => decide +kernel)) | (apply U3 5; (case hp => rfl); (case hd => decide +kernel)) | (apply U3 6; (case hp => rfl); (case hd => decide +kernel)) | (apply U3 7; (case hp => rfl); (case hd => decide +kernel)) | (apply U3 8; (case hp => rfl); (case hd => decide +kernel)) | (apply U3 9; (case hp => rfl); (case hd => decide +kernel)) | (apply U3 10; (case hp => rfl); (case hd => decide +kernel)) | (apply U3 11; (case hp => rfl); (case hd => decide +kernel))); (case hg => rfl); (case hy => (first | (apply Yi.a; constructor; all_goals (first | rfl | (constructor <;> omega) | (apply CellIs.own; (case h => repeat constructor); rfl) | (apply Cell3.own; (case h => repeat constructor); all_goals rfl) | exact .mk (fun w h => by rw [Nat.mul_one]; exact sF.cell h.per.1 hx))) | (apply Yi.b; constructor; all_goals (first | rfl | (constructor <;> omega) | (apply CellIs.own; (case h => repeat constructor); rfl) | (apply Cell3.own; (case h => repeat constructor); all_goals rfl) | exact .mk (fun w h => by rw [Nat.mul_one]; exact sF.cell h.per.1 hx))) | (apply Yi.c; constructor; all_goals (first | rfl | (constructor <;> omega) | (apply CellIs.own; (case h => repeat constructor); rfl) | (apply Cell3.own; (case h => repeat constructor); all_goals rfl) | exact .mk (fun w h => by rw [Nat.mul_one]; exact sF.cell h.per.1 hx)))))) | ((first | apply V0 | apply Go.Dk.V1 | apply V2 (hw := H)); (case hg => rfl); try decide +kernel) | ((first | refine G0 H ?_ | (refine G1 H (fun _ _ _ _ h => h) (by decide +kernel) ?_; clear H; intro _ H)); simp only [enum, Nat.reduceAdd]) | (apply B0 (hw := H); (case hg => rfl); (case hd => first | with_reducible exact hd_false | decide +kernel); (case hx => rfl); (case hc => rfl); clear H; intro bx _ H) | (apply B1 (hw := H); (case hg => rfl); (case hd => first | with_reducible exact hd_false | decide +kernel); clear H; intro ax _ H) | ((apply C1; (case hg => rfl); (case hd => first | with_reducible exact hd_false | decide +kernel); (case hxs => rfl); (case hc => exact q_shapes (zoneOf H) (hgl.now H.ext) hf6 hx); rintro _ _ ⟨sb, so, sc, rfl, hgr, hsc, hsm, hsf⟩; replace H := H.call hgr (sF_stable _ _) hsf; (try simp only [List.set_cons_succ, List.set_cons_zero] at H); refine ⟨_, rfl, _, (by first | exact fun _ _ h => h | exact fun _ _ h => h.tail | exact fun _ _ h => h.unfact (by repeat' (first | exact Stable.true | exact rdF_stable _ | exact iF_stable _ _ | exact sF_stable _ _ | apply Stable.and)) (fun _ _ h => h.2) | exact nofun), H, ?_⟩)) | ((apply C1; (case hg => rfl); (case hd => first | with_reducible exact hd_false | decide +kernel); (case hxs => rfl); (case hc => exact q_Split (zoneOf H) (hgl.now H.ext) hf7 hy); rintro _ _ ⟨pb2, po2, pc2, rfl, hgr2, hpc2, hpm2, hpf2⟩; replace H := H.call hgr2 (sF_stable _ _) hpf2; (try simp only [List.set_cons_succ, List.set_cons_zero] at H); refine ⟨_, rfl, _, (by first | exact fun _ _ h => h | exact fun _ _ h => h.tail | exact fun _ _ h => h.unfact (by repeat' (first | exact Stable.true | exact rdF_stable _ | exact iF_stable _ _ | exact sF_stable _ _ | apply Stable.and)) (fun _ _ h => h.2) | exact nofun), H, ?_⟩)) | go_step | (apply X0; (case hy => rfl); all_goals (intro hb; simp only [hb]; (try simp only [decide_eq_true_eq, decide_eq_false_iff_not, Bool.not_eq_true', Bool.not_eq_false', Bool.and_eq_true, Bool.or_eq_true, Bool.and_eq_false_iff, Bool.or_eq_false_iff] at hb); try (exfalso; omega)))) <;> try simp only [List.getElem_toArray, List.getElem_cons_zero, List.getElem_cons_succ, Act.put, evalT, evalC, evalF, List.setIfInBounds_toArray, List.set_cons_succ, List.set_cons_zero, List.getD_cons_succ, List.getD_cons_zero, Nat.reduceAdd, Nat.reduceMul, Nat.add_zero, Nat.zero_add, Int.toNat_natCast, Int.reduceToNat, List.eraseIdx_cons_succ, List.eraseIdx_cons_zero, cond_true, cond_false])
                 go_meet
                 case rel => exact ⟨_, ps2, pb2, po2, pc2, rfl, hpm2, hT, H.unfact (sF_stable _ _) (fun _ _ h => h.1)⟩)
             case rest => as_aux_lemma =>
              clear H hq
              obtain ⟨kk2, ps2, pb2, po2, pc2, rfl, hpm2, h, H⟩ := hcut
              unfold rnT at h
              (obtain ⟨hi0, g0⟩ := v_cond h; clear h; have h := g0; clear g0)
              obtain ⟨x17, hx17, g0⟩ := v_bind h
              clear h
              have h := g0
              clear g0
              rw [Int.toNat_natCast] at hx17
              have hlt2 := (List.getElem?_eq_some_iff.1 hx17).1
              have hpm3 : ps2.length ≤ 9223372036854775807 := Nat.le_trans hpm2 (by decide)
              rw [wrap64 (show -9223372036854775808 ≤ (i : Int) + 1 ∧ (i : Int) + 1 ≤ 9223372036854775807 by omega)] at h
              (obtain ⟨⟨q1, q2⟩, hf8, g0⟩ := v_bind h; clear h; (try dsimp only at g0); obtain ⟨rest2, q3, e1, g1⟩ := v_rStr g0; clear g0; subst e1; obtain ⟨ok2, q3, e1, g2⟩ := v_rBool g1; clear g1; subst e1; obtain ⟨e1, g3⟩ := v_nilV g2; clear g2; subst e1; obtain ⟨e1, h⟩ := v_nilO g3; clear g3; subst e1; (try dsimp only at h))
              repeat' ((first | (refine T_nil ?_) | ((first | apply U0 | (apply U1; (case hd => decide +kernel)) | (apply U2 (hw := H); (case hd => decide +kernel)) | (apply U3 1; (case hp => rfl); (case hd => decide +kernel)) | (apply U3 2; (case hp => rfl); (case hd => decide +kernel)) | (apply U3 3; (case hp => rfl); (case hd => decide +kernel)) | (apply U3 4; (case hp => rfl); (case hd => decide +kernel)) | (apply U3 5; (case hp => rfl); (case hd => decide +kernel)) | (apply U3 6; (case hp => rfl); (case hd => decide +kernel)) | (apply U3 7; (case hp => rfl); (case hd => decide +kernel)) | (apply U3 8; (case hp => rfl); (case hd => decide +kernel)) | (apply U3 9; (case hp => rfl); (case hd => decide +kernel)) | (apply U3 10; (case hp => rfl); (case hd => decide +kernel)) | (apply U3 11; (case hp => rfl); (case hd => decide +kernel))); (case hg => rfl); (case hy => (first | (apply Yi.a; constructor; all_goals (first | rfl | (constructor <;> omega) | (apply CellIs.own; (case h => repeat constructor); rfl) | (apply Cell3.own; (case h => repeat constructor); all_goals rfl) | exact .mk (fun w h => by rw [Nat.mul_one]; exact sF.cell h.per hx17))) | (apply Yi.b; constructor; all_goals (first | rfl | (constructor <;> omega) | (apply CellIs.own; (case h => repeat constructor); rfl) | (apply Cell3.own; (case h => repeat constructor); all_goals rfl) | exact .mk (fun w h => by rw [Nat.mul_one]; exact sF.cell h.per hx17))) | (apply Yi.c; constructor; all_goals (first | rfl | (constructor <;> omega) | (apply CellIs.own; (case h => repeat constructor); rfl) | (apply Cell3.own; (case h => repeat constructor); all_goals rfl) | exact .mk (fun w h => by rw [Nat.mul_one]; exact sF.cell h.per hx17)))))) | ((first | apply V0 | apply Go.Dk.V1 | apply V2 (hw := H)); (case hg => rfl); try decide +kernel) | ((first | refine G0 H ?_); simp only [enum, Nat.reduceAdd]) | (apply B0 (hw := H); (case hg => rfl); (case hd => first | with_reducible exact hd_false | decide +kernel); (case hx => rfl); (case hc => rfl); clear H; intro bx _ H) | (apply B1 (hw := H); (case hg => rfl); (case hd => first | with_reducible exact hd_false | decide +kernel); clear H; intro ax _ H) | ((apply C0 (hw := H); (case hg => rfl); (case hd => first | with_reducible exact hd_false | decide +kernel); (case hxs => rfl); (case hc => exact q_CutPrefix (hgl.now H.ext) hf8); clear H; intro _ H)) | go_step | (apply X0; (case hy => rfl); all_goals (intro hb; simp only [hb]; (try simp only [decide_eq_true_eq, decide_eq_false_iff_not, Bool.not_eq_true', Bool.not_eq_false', Bool.and_eq_true, Bool.or_eq_true, Bool.and_eq_false_iff, Bool.or_eq_false_iff] at hb); try (exfalso; omega)))) <;> try simp only [List.getElem_toArray, List.getElem_cons_zero, List.getElem_cons_succ, Act.put, evalT, evalC, evalF, List.setIfInBounds_toArray, List.set_cons_succ, List.set_cons_zero, List.getD_cons_succ, List.getD_cons_zero, Nat.reduceAdd, Nat.reduceMul, Nat.add_zero, Nat.zero_add, Int.toNat_natCast, Int.reduceToNat, List.eraseIdx_cons_succ, List.eraseIdx_cons_zero, cond_true, cond_false])
              have em : (us ++ [z]).map HT.er = us.map HT.er ++ [tk] := by rw [List.map_append, List.map_cons, List.map_nil, hez]
              go_roundg g
              case measure => omega
              case rel => exact ⟨i + 1, ps2, pb2, po2, pc2, rest2, ok2, kk2, us ++ [z], ra, rc, by simp, by simp, by simp, by simp, hpm2, by rw [em]; exact h, by rw [flatT_append, List.length_append]; exact H⟩
        ·have h1 : (cond ok ((FF n 72 [.one (.int .i64 kk)] []).bind fun x0 => rBool x0.1 fun x1 x2 => nilV x2 (nilO x0.2 (some ([.agg [.int .i64 kk, .int .i64 0, .fr (.ts (us.map HT.er))], .one (.str rest), .one (.bool (decide (x1 = bb)))], [])))) (some ([.agg [.int .i64 kk, .int .i64 0, .fr (.ts (us.map HT.er))], .one (.str rest), .one (.bool false)], []))) = some ([tm t, .one (.str r), bl b], []) := by
           cases hlt : decide ((i : Int) < (ps.length : Int)) with
           | false => rw [hlt, cond_false] at h; exact h
           | true =>
            cases ok with
            | true => exact absurd ⟨of_decide_eq_true hlt, rfl⟩ hgo
            | false => rw [hlt, cond_true, cond_false] at h; exact h
         clear h
         have h := h1
         clear h1
         obtain ⟨a, cap, hv, H⟩ := H.swap.plantRow rfl rfl kk 0
         obtain ⟨rfl, rfl⟩ : sa = a ∧ sc = cap := by injection hv with h1 h2 h3; exact ⟨h1, h3⟩
         cases ok with
         | false => as_aux_lemma =>
          rw [cond_false] at h
          obtain ⟨rfl, rfl, rfl⟩ := out_inj h
          repeat' ((first | (refine T_nil ?_) | ((first | apply U0 | (apply U1; (case hd => decide +kernel)) | (apply U2 (hw := H); (case hd => decide +kernel)) | (apply U3 1; (case hp => rfl); (case hd => decide +kernel)) | (apply U3 2; (case hp => rfl); (case hd => decide +kernel)) | (apply U3 3; (case hp => rfl); (case hd => decide +kernel)) | (apply U3 4; (case hp => rfl); (case hd => decide +kernel)) | (apply U3 5; (case hp => rfl); (case hd => decide +kernel)) | (apply U3 6; (case hp => rfl); (case hd => decide +kernel)) | (apply U3 7; (case hp => rfl); (case hd => decide +kernel)) | (apply U3 8; (case hp => rfl); (case hd => decide +kernel)) | (apply U3 9; (case hp => rfl); (case hd => decide +kernel)) | (apply U3 10; (case hp => rfl); (case hd => decide +kernel)) | (apply U3 11; (case hp => rfl); (case hd => decide +kernel))); (case hg => rfl); (case hy => (first | (apply Yi.a; constructor; all_goals (first | rfl | (constructor <;> omega) | (apply CellIs.own; (case h => repeat constructor); rfl) | (apply Cell3.own; (case h => repeat constructor); all_goals rfl))) | (apply Yi.b; constructor; all_goals (first | rfl | (constructor <;> omega) | (apply CellIs.own; (case h => repeat constructor); rfl) | (apply Cell3.own; (case h => repeat constructor); all_goals rfl))) | (apply Yi.c; constructor; all_goals (first | rfl | (constructor <;> omega) | (apply CellIs.own; (case h => repeat constructor); rfl) | (apply Cell3.own; (case h => repeat constructor); all_goals rfl)))))) | ((first | apply V0 | apply Go.Dk.V1 | apply V2 (hw := H)); (case hg => rfl); try decide +kernel) | ((first | refine G0 H ?_); simp only [enum, Nat.reduceAdd]) | (apply B0 (hw := H); (case hg => rfl); (case hd => first | with_reducible exact hd_false | decide +kernel); (case hx => rfl); (case hc => rfl); clear H; intro bx _ H) | (apply B1 (hw := H); (case hg => rfl); (case hd => first | with_reducible exact hd_false | decide +kernel); clear H; intro ax _ H) | ((apply W0 (hw := H); (case hg => rfl); (case hd => first | with_reducible exact hd_false | decide +kernel); (case hx => rfl); (case hy => rfl); (case hc => rfl); (case hn => repeat constructor); (case h1 => rfl); clear H; intro _ H; (try dsimp only at H); try simp only [putL, List.set_cons_succ, List.set_cons_zero, evalT, evalC, List.getD_cons_succ, List.getD_cons_zero, Nat.zero_add, Nat.reduceAdd] at H)) | go_step | (apply X0; (case hy => rfl); all_goals (intro hb; simp only [hb]; (try simp only [decide_eq_true_eq, decide_eq_false_iff_not, Bool.not_eq_true', Bool.not_eq_false', Bool.and_eq_true, Bool.or_eq_true, Bool.and_eq_false_iff, Bool.or_eq_false_iff] at hb); try (exfalso; omega)))) <;> try simp only [List.getElem_toArray, List.getElem_cons_zero, List.getElem_cons_succ, Act.put, evalT, evalC, evalF, List.setIfInBounds_toArray, List.set_cons_succ, List.set_cons_zero, List.getD_cons_succ, List.getD_cons_zero, Nat.reduceAdd, Nat.reduceMul, Nat.add_zero, Nat.zero_add, Int.toNat_natCast, Int.reduceToNat, List.eraseIdx_cons_succ, List.eraseIdx_cons_zero, cond_true, cond_false])
          all_goals
           ((refine G2 (St w noneZ noneZ [treeR (HT.mk kk 0 sa sc us), blk a18 [.int .i64 kk, .int .i64 0, .slice sa us.length sc] 24] (sF (some ⟨pb, po, none⟩) ps)) H (fun _ h => drop2 h) (fun _ _ _ _ h => h) (by decide +kernel) ?_; clear H; intro _ H; simp only [enum, Nat.reduceAdd])
            repeat' ((first | (refine T_nil ?_) | ((first | apply U0 | (apply U1; (case hd => decide +kernel)) | (apply U2 (hw := H); (case hd => decide +kernel)) | (apply U3 1; (case hp => rfl); (case hd => decide +kernel)) | (apply U3 2; (case hp => rfl); (case hd => decide +kernel)) | (apply U3 3; (case hp => rfl); (case hd => decide +kernel)) | (apply U3 4; (case hp => rfl); (case hd => decide +kernel)) | (apply U3 5; (case hp => rfl); (case hd => decide +kernel)) | (apply U3 6; (case hp => rfl); (case hd => decide +kernel)) | (apply U3 7; (case hp => rfl); (case hd => decide +kernel)) | (apply U3 8; (case hp => rfl); (case hd => decide +kernel)) | (apply U3 9; (case hp => rfl); (case hd => decide +kernel)) | (apply U3 10; (case hp => rfl); (case hd => decide +kernel)) | (apply U3 11; (case hp => rfl); (case hd => decide +kernel))); (case hg => rfl); (case hy => (first | (apply Yi.a; constructor; all_goals (first | rfl | (constructor <;> omega) | (apply CellIs.own; (case h => repeat constructor); rfl) | (apply Cell3.own; (case h => repeat constructor); all_goals rfl))) | (apply Yi.b; constructor; all_goals (first | rfl | (constructor <;> omega) | (apply CellIs.own; (case h => repeat constructor); rfl) | (apply Cell3.own; (case h => repeat constructor); all_goals rfl))) | (apply Yi.c; constructor; all_goals (first | rfl | (constructor <;> omega) | (apply CellIs.own; (case h => repeat constructor); rfl) | (apply Cell3.own; (case h => repeat constructor); all_goals rfl)))))) | ((first | apply V0 | apply Go.Dk.V1 | apply V2 (hw := H)); (case hg => rfl); try decide +kernel) | (fail) | (apply B0 (hw := H); (case hg => rfl); (case hd => first | with_reducible exact hd_false | decide +kernel); (case hx => rfl); (case hc => rfl); clear H; intro bx _ H) | (apply B1 (hw := H); (case hg => rfl); (case hd => first | with_reducible exact hd_false | decide +kernel); clear H; intro ax _ H) | ((apply W0g (hw := H); (case hg => rfl); (case hd => first | with_reducible exact hd_false | decide +kernel); (case hx => rfl); (case hy => rfl); (case hc => rfl); (case hn => repeat constructor); (case h1 => rfl); (case hS => exact fun _ h => drop2 h); clear H; intro _ H; (try dsimp only at H); try simp only [putL, List.set_cons_succ, List.set_cons_zero, evalT, evalC, List.getD_cons_succ, List.getD_cons_zero, Nat.zero_add, Nat.reduceAdd] at H)) | go_step | (apply X0; (case hy => rfl); all_goals (intro hb; simp only [hb]; (try simp only [decide_eq_true_eq, decide_eq_false_iff_not, Bool.not_eq_true', Bool.not_eq_false', Bool.and_eq_true, Bool.or_eq_true, Bool.and_eq_false_iff, Bool.or_eq_false_iff] at hb); try (exfalso; omega)))) <;> try simp only [List.getElem_toArray, List.getElem_cons_zero, List.getElem_cons_succ, Act.put, evalT, evalC, evalF, List.setIfInBounds_toArray, List.set_cons_succ, List.set_cons_zero, List.getD_cons_succ, List.getD_cons_zero, Nat.reduceAdd, Nat.reduceMul, Nat.add_zero, Nat.zero_add, Int.toNat_natCast, Int.reduceToNat, List.eraseIdx_cons_succ, List.eraseIdx_cons_zero, cond_true, cond_false])
            ((try simp only [Exit.inBlock, Exit.then]); refine ret_post (res3 rfl (R_cell rfl (load3 (ST3.out) (H.cell at2 rfl) (H.cell at2 rfl) (H.cell at2 rfl))) (R_tmp rfl) (R_tmp rfl)) ?_; try simp only [List.getD_cons_succ, List.getD_cons_zero])
            refine ⟨.mk kk 0 sa sc us, ?_, H.ext, H.outTree, ?_⟩
            ·simp only [HT.val, HT.k, HT.n, HT.a, HT.kids, HT.cap]
            ·rw [HT.er_eq]; simp only [HT.k, HT.n, HT.kids])
         | true => as_aux_lemma =>
          rw [cond_true] at h
          (obtain ⟨⟨q1, q2⟩, hf1, g0⟩ := v_bind h; clear h; (try dsimp only at g0); obtain ⟨b2, q3, e1, g1⟩ := v_rBool g0; clear g0; subst e1; obtain ⟨e1, g2⟩ := v_nilV g1; clear g1; subst e1; obtain ⟨e1, h⟩ := v_nilO g2; clear g2; subst e1; (try dsimp only at h))
          obtain ⟨rfl, rfl, rfl⟩ := out_inj h
          repeat' ((first | (refine T_nil ?_) | ((first | apply U0 | (apply U1; (case hd => decide +kernel)) | (apply U2 (hw := H); (case hd => decide +kernel)) | (apply U3 1; (case hp => rfl); (case hd => decide +kernel)) | (apply U3 2; (case hp => rfl); (case hd => decide +kernel)) | (apply U3 3; (case hp => rfl); (case hd => decide +kernel)) | (apply U3 4; (case hp => rfl); (case hd => decide +kernel)) | (apply U3 5; (case hp => rfl); (case hd => decide +kernel)) | (apply U3 6; (case hp => rfl); (case hd => decide +kernel)) | (apply U3 7; (case hp => rfl); (case hd => decide +kernel)) | (apply U3 8; (case hp => rfl); (case hd => decide +kernel)) | (apply U3 9; (case hp => rfl); (case hd => decide +kernel)) | (apply U3 10; (case hp => rfl); (case hd => decide +kernel)) | (apply U3 11; (case hp => rfl); (case hd => decide +kernel))); (case hg => rfl); (case hy => (first | (apply Yi.a; constructor; all_goals (first | rfl | (constructor <;> omega) | (apply CellIs.own; (case h => repeat constructor); rfl) | (apply Cell3.own; (case h => repeat constructor); all_goals rfl))) | (apply Yi.b; constructor; all_goals (first | rfl | (constructor <;> omega) | (apply CellIs.own; (case h => repeat constructor); rfl) | (apply Cell3.own; (case h => repeat constructor); all_goals rfl))) | (apply Yi.c; constructor; all_goals (first | rfl | (constructor <;> omega) | (apply CellIs.own; (case h => repeat constructor); rfl) | (apply Cell3.own; (case h => repeat constructor); all_goals rfl)))))) | ((first | apply V0 | apply Go.Dk.V1 | apply V2 (hw := H)); (case hg => rfl); try decide +kernel) | ((first | refine G0 H ?_); simp only [enum, Nat.reduceAdd]) | (apply B0 (hw := H); (case hg => rfl); (case hd => first | with_reducible exact hd_false | decide +kernel); (case hx => rfl); (case hc => rfl); clear H; intro bx _ H) | (apply B1 (hw := H); (case hg => rfl); (case hd => first | with_reducible exact hd_false | decide +kernel); clear H; intro ax _ H) | ((apply W0 (hw := H); (case hg => rfl); (case hd => first | with_reducible exact hd_false | decide +kernel); (case hx => rfl); (case hy => rfl); (case hc => rfl); (case hn => repeat constructor); (case h1 => rfl); clear H; intro _ H; (try dsimp only at H); try simp only [putL, List.set_cons_succ, List.set_cons_zero, evalT, evalC, List.getD_cons_succ, List.getD_cons_zero, Nat.zero_add, Nat.reduceAdd] at H)) | go_step | (apply X0; (case hy => rfl); all_goals (intro hb; simp only [hb]; (try simp only [decide_eq_true_eq, decide_eq_false_iff_not, Bool.not_eq_true', Bool.not_eq_false', Bool.and_eq_true, Bool.or_eq_true, Bool.and_eq_false_iff, Bool.or_eq_false_iff] at hb); try (exfalso; omega)))) <;> try simp only [List.getElem_toArray, List.getElem_cons_zero, List.getElem_cons_succ, Act.put, evalT, evalC, evalF, List.setIfInBounds_toArray, List.set_cons_succ, List.set_cons_zero, List.getD_cons_succ, List.getD_cons_zero, Nat.reduceAdd, Nat.reduceMul, Nat.add_zero, Nat.zero_add, Int.toNat_natCast, Int.reduceToNat, List.eraseIdx_cons_succ, List.eraseIdx_cons_zero, cond_true, cond_false])
          all_goals first | (exfalso; exact hgo ⟨by assumption, rfl⟩) | skip
          all_goals
           ((refine G2 (St w noneZ noneZ [treeR (HT.mk kk 0 sa sc us), blk a18 [.int .i64 kk, .int .i64 0, .slice sa us.length sc] 24] (sF (some ⟨pb, po, none⟩) ps)) H (fun _ h => drop2 h) (fun _ _ _ _ h => h) (by decide +kernel) ?_; clear H; intro _ H; simp only [enum, Nat.reduceAdd])
            repeat' ((first | (refine T_nil ?_) | ((first | apply U0 | (apply U1; (case hd => decide +kernel)) | (apply U2 (hw := H); (case hd => decide +kernel)) | (apply U3 1; (case hp => rfl); (case hd => decide +kernel)) | (apply U3 2; (case hp => rfl); (case hd => decide +kernel)) | (apply U3 3; (case hp => rfl); (case hd => decide +kernel)) | (apply U3 4; (case hp => rfl); (case hd => decide +kernel)) | (apply U3 5; (case hp => rfl); (case hd => decide +kernel)) | (apply U3 6; (case hp => rfl); (case hd => decide +kernel)) | (apply U3 7; (case hp => rfl); (case hd => decide +kernel)) | (apply U3 8; (case hp => rfl); (case hd => decide +kernel)) | (apply U3 9; (case hp => rfl); (case hd => decide +kernel)) | (apply U3 10; (case hp => rfl); (case hd => decide +kernel)) | (apply U3 11; (case hp => rfl); (case hd => decide +kernel))); (case hg => rfl); (case hy => (first | (apply Yi.a; constructor; all_goals (first | rfl | (constructor <;> omega) | (apply CellIs.own; (case h => repeat constructor); rfl) | (apply Cell3.own; (case h => repeat constructor); all_goals rfl))) | (apply Yi.b; constructor; all_goals (first | rfl | (constructor <;> omega) | (apply CellIs.own; (case h => repeat constructor); rfl) | (apply Cell3.own; (case h => repeat constructor); all_goals rfl))) | (apply Yi.c; constructor; all_goals (first | rfl | (constructor <;> omega) | (apply CellIs.own; (case h => repeat constructor); rfl) | (apply Cell3.own; (case h => repeat constructor); all_goals rfl)))))) | ((first | apply V0 | apply Go.Dk.V1 | apply V2 (hw := H)); (case hg => rfl); try decide +kernel) | (fail) | (apply B0 (hw := H); (case hg => rfl); (case hd => first | with_reducible exact hd_false | decide +kernel); (case hx => rfl); (case hc => rfl); clear H; intro bx _ H) | (apply B1 (hw := H); (case hg => rfl); (case hd => first | with_reducible exact hd_false | decide +kernel); clear H; intro ax _ H) | ((apply W0g (hw := H); (case hg => rfl); (case hd => first | with_reducible exact hd_false | decide +kernel); (case hx => rfl); (case hy => rfl); (case hc => rfl); (case hn => repeat constructor); (case h1 => rfl); (case hS => exact fun _ h => drop2 h); clear H; intro _ H; (try dsimp only at H); try simp only [putL, List.set_cons_succ, List.set_cons_zero, evalT, evalC, List.getD_cons_succ, List.getD_cons_zero, Nat.zero_add, Nat.reduceAdd] at H)) | ((apply C0g (hw := H) (hS := fun _ h => drop2 h); (case hg => rfl); (case hd => first | with_reducible exact hd_false | decide +kernel); (case hxs => rfl); (case hc => exact q_isBinder (hgl.now H.ext) hf1); clear H; intro _ H)) | go_step | (apply X0; (case hy => rfl); all_goals (intro hb; simp only [hb]; (try simp only [decide_eq_true_eq, decide_eq_false_iff_not, Bool.not_eq_true', Bool.not_eq_false', Bool.and_eq_true, Bool.or_eq_true, Bool.and_eq_false_iff, Bool.or_eq_false_iff] at hb); try (exfalso; omega)))) <;> try simp only [List.getElem_toArray, List.getElem_cons_zero, List.getElem_cons_succ, Act.put, evalT, evalC, evalF, List.setIfInBounds_toArray, List.set_cons_succ, List.set_cons_zero, List.getD_cons_succ, List.getD_cons_zero, Nat.reduceAdd, Nat.reduceMul, Nat.add_zero, Nat.zero_add, Int.toNat_natCast, Int.reduceToNat, List.eraseIdx_cons_succ, List.eraseIdx_cons_zero, cond_true, cond_false])
            ((try simp only [Exit.inBlock, Exit.then]); refine ret_post (res3 rfl (R_cell rfl (load3 (ST3.out) (H.cell at2 rfl) (H.cell at2 rfl) (H.cell at2 rfl))) (R_tmp rfl) (R_tmp rfl)) ?_; try simp only [List.getD_cons_succ, List.getD_cons_zero])
            refine ⟨.mk kk 0 sa sc us, ?_, H.ext, H.outTree, ?_⟩
            ·simp only [HT.val, HT.k, HT.n, HT.a, HT.kids, HT.cap]
            ·rw [HT.er_eq]; simp only [HT.k, HT.n, HT.kids])
end Go.Proofs.YtnogehmgpfpjmaaGreatDoor
end
section
namespace Go.Proofs.YtnogehmgpfpjmaaGreatDoor
open Go Go.Ab Go.Dk
def RQ (S : List UInt8) (o : Option (T × List UInt8)) (t : T) (k : Int) : Prop :=
 (∃ j, o = some (t, S.drop j) ∧ j ≤ S.length ∧ k = (j : Int)) ∨ (o = none ∧ k = -1) ∨ (o = none ∧ ∃ (j : Nat) (y : UInt8) (r : List UInt8), k = (j : Int) ∧ S.drop j = y :: r ∧ digB y = true)
def RP (S : List UInt8) (o : Option (T × List UInt8)) (res : OR) : Prop := ∃ t k, res = some ([tm t, nt k], []) ∧ RQ S o t k
theorem RP.fail {S : List UInt8} {res : OR} {t : T} (h : res = some ([tm t, nt (-1)], [])) : RP S none res := ⟨t, -1, h, .inr (.inl ⟨rfl, rfl⟩)⟩
theorem RP.ok {S : List UInt8} {res : OR} {t : T} {j : Nat} {r : List UInt8} (h : res = some ([tm t, nt (j : Int)], [])) (hj : j ≤ S.length) (hr : r = S.drop j) : RP S (some (t, r)) res := ⟨t, j, h, .inl ⟨j, by rw [hr], hj, rfl⟩⟩
section
variable {S : List UInt8} {j : Nat} {y : UInt8} {r : List UInt8}
theorem dp_lt (h : S.drop j = y :: r) : j < S.length := by
 have := congrArg List.length h
 simp only [List.length_drop, List.length_cons] at this; omega
theorem dp_at (h : S.drop j = y :: r) : byteAt (bytesOf S) ((j : Int)).toNat = y := by
 rw [Int.toNat_natCast, by_at]
 have : S[j]? = some y := by
  have := congrArg List.head? h
  simpa [List.head?_drop] using this
 rw [this]; rfl
theorem dp_tl (h : S.drop j = y :: r) : S.drop (j + 1) = r := by
 rw [← List.drop_drop, h]; rfl
theorem dp_nil (h : S.drop j = []) : S.length ≤ j := by simpa using h
theorem dp_in (h : S.drop j = y :: r) : (decide (0 ≤ (j : Int)) && decide ((j : Int) < (((bytesOf S).size : Nat) : Int))) = true := by
 have := dp_lt h
 rw [by_size]; simp only [Bool.and_eq_true, decide_eq_true_eq]; omega
end
theorem f_l19Num0 {n : Nat} : FF (n + 1) 115 [sr []] [] = some ([nt 0, bl false], []) := by
 rw [E_spec_l19Num]
 simp only [by_size, List.length_nil]
 rfl
theorem f_l19Num1 {n : Nat} {x : UInt8} (h : digB x = true) : FF (n + 3) 115 [sr [x]] [] = some ([nt ((x.toNat : Int) - 48), bl true], []) := by
 have hx := h
 simp only [digB, Bool.and_eq_true, decide_eq_true_eq] at hx
 have e1 : L_spec_l19Num_0 (n + 2) (n + 2) (bytesOf [x]) false 0 0 = some ([nt ((x.toNat : Int) - 48), bl true], []) := by
  rw [L_spec_l19Num_0_eq]
  simp only [by_size, List.length_cons, List.length_nil]
  rw [show decide ((0 : Int) < ((0 + 1 : Nat) : Int)) = true from rfl, cond_true, by_hd, show decide ((0 : Int) ≤ 0) = true from rfl, Bool.and_self, cond_true, decide_eq_false (show ¬ (x.toNat : Int) < 48 by omega), cond_false, cond_true, decide_eq_false (show ¬ (57 : Int) < x.toNat by omega), cond_false, cond_true]
  rw [L_spec_l19Num_0_eq]
  simp only [by_size, List.length_cons, List.length_nil]
  rw [show decide (IntKind.i64.wrap ((0 : Int) + 1) < ((0 + 1 : Nat) : Int)) = false from rfl, cond_false, cond_false]
  rw [wrap_u8 (by omega), show IntKind.i64.wrap ((0 : Int) * 10) = 0 from rfl, wrap64 (show -9223372036854775808 ≤ (x.toNat : Int) - 48 ∧ (x.toNat : Int) - 48 ≤ 9223372036854775807 by omega), Int.zero_add, wrap64 (show -9223372036854775808 ≤ (x.toNat : Int) - 48 ∧ (x.toNat : Int) - 48 ≤ 9223372036854775807 by omega)]
 rw [E_spec_l19Num]
 simp only [by_size, List.length_cons, List.length_nil]
 rw [show decide ((0 : Int) < ((0 + 1 : Nat) : Int)) = true from rfl, cond_true, by_hd, show decide (0 ≤ 0) = true from rfl, Bool.and_self, cond_true, decide_eq_false (show ¬ (x.toNat : Int) = 45 by omega), cond_false, show decide (((0 + 1 : Nat) : Int) = 0) = false from rfl, cond_false, show decide ((17 : Int) < ((0 + 1 : Nat) : Int)) = false from rfl, cond_false, cond_true]
 rw [show decide ((1 : Int) < ((0 + 1 : Nat) : Int)) = false from rfl, cond_false, cond_false, Bool.cond_self]
 exact e1
theorem f_l1Number {n : Nat} {S : List UInt8} {at_ : Nat} (hn : 10 ≤ n) (hS : S.length ≤ 1099511627776) (ha : at_ ≤ S.length) :
   FF n 94 [sr S, nt at_, nt 1] [] = match S.drop at_ with
    | [] => some ([nt 0, nt (-1)], [])
    | y :: r => if digB y = true then some ([nt ((y.toNat : Int) - 48), nt ((at_ + 1 : Nat) : Int)], []) else some ([nt 0, nt (-1)], []) := by
 obtain ⟨n, rfl⟩ : ∃ k, n = k + 4 := ⟨n - 4, by omega⟩
 rw [E_spec_l1Number, L_spec_l1Number_0_eq]
 have hw : IntKind.i64.wrap ((at_ : Int) + 1) = (at_ : Int) + 1 := wrap64 (by omega)
 rw [hw]
 have he : (bytesOf S).extract ((at_ : Int)).toNat ((at_ : Int)).toNat = bytesOf [] := by rw [by_ext, Int.toNat_natCast]; simp [List.drop_take]
 have hin : Go.Ab.inB at_ at_ (bytesOf S).size = true := by rw [by_size]; simp only [inB, Bool.and_eq_true, decide_eq_true_eq]; omega
 have fin : (bif Go.Ab.inB at_ at_ (bytesOf S).size then
    (FF (n + 3) 115 [.one (.str ((bytesOf S).extract ((at_ : Int)).toNat ((at_ : Int)).toNat))] []).bind fun x0 =>
     rInt .i64 x0.1 fun x1 x2 => rBool x2 fun x3 x4 => nilV x4 (nilO x0.2 (cond (!x3) (some ([.one (.int .i64 0), .one (.int .i64 (-1))], [])) (some ([.one (.int .i64 x1), .one (.int .i64 (at_ : Int))], []))))
    else none) = some ([nt 0, nt (-1)], []) := by
  rw [hin, cond_true, he, f_l19Num0]
  simp only [evt]
 cases hd : S.drop at_ with
 | nil =>
  have := dp_nil hd
  rw [decide_eq_false (show ¬ (at_ : Int) < (((bytesOf S).size : Nat) : Int) by rw [by_size]; omega), cond_false]
  exact fin
 | cons y r =>
  have := dp_lt hd
  rw [decide_eq_true (show (at_ : Int) < (((bytesOf S).size : Nat) : Int) by rw [by_size]; omega), cond_true, decide_eq_true (show (at_ : Int) < (at_ : Int) + 1 by omega), cond_true, decide_eq_true (show (0 : Int) ≤ (at_ : Int) by omega), Bool.and_self, cond_true, dp_at hd]
  by_cases h1 : (48 : Int) ≤ y.toNat
  ·rw [decide_eq_true h1, cond_true, cond_true]
   by_cases h2 : (y.toNat : Int) ≤ 57
   ·have hy : digB y = true := by simp only [digB, Bool.and_eq_true, decide_eq_true_eq]; omega
    rw [decide_eq_true h2, cond_true]
    simp only [if_pos hy]
    rw [L_spec_l1Number_0_eq, hw]
    have hin2 : Go.Ab.inB at_ ((at_ : Int) + 1) (bytesOf S).size = true := by rw [by_size]; simp only [inB, Bool.and_eq_true, decide_eq_true_eq]; omega
    have he2 : (bytesOf S).extract ((at_ : Int)).toNat ((at_ : Int) + 1).toNat = bytesOf [y] := by
     rw [by_ext, Int.toNat_natCast, show ((at_ : Int) + 1).toNat = at_ + 1 by omega, List.drop_take, hd]
     simp
    have fin2 : (bif Go.Ab.inB at_ ((at_ : Int) + 1) (bytesOf S).size then
       (FF (n + 3) 115 [.one (.str ((bytesOf S).extract ((at_ : Int)).toNat ((at_ : Int) + 1).toNat))] []).bind fun x0 =>
        rInt .i64 x0.1 fun x1 x2 => rBool x2 fun x3 x4 => nilV x4 (nilO x0.2 (cond (!x3) (some ([.one (.int .i64 0), .one (.int .i64 (-1))], [])) (some ([.one (.int .i64 x1), .one (.int .i64 ((at_ : Int) + 1))], []))))
       else none) = some ([nt ((y.toNat : Int) - 48), nt ((at_ + 1 : Nat) : Int)], []) := by
     rw [hin2, cond_true, he2, f_l19Num1 hy]
     simp only [evt]
     rfl
    by_cases h3 : (at_ : Int) + 1 < (((bytesOf S).size : Nat) : Int)
    ·rw [decide_eq_true h3, cond_true, decide_eq_false (show ¬ (at_ : Int) + 1 < (at_ : Int) + 1 by omega), cond_false]; exact fin2
    ·rw [decide_eq_false h3, cond_false]; exact fin2
   ·have hy : digB y = false := by simp only [digB, Bool.and_eq_false_iff, decide_eq_false_iff_not]; omega
    rw [decide_eq_false h2, cond_false]
    simp only [hy, Bool.false_eq_true, if_false]; exact fin
  ·have hy : digB y = false := by simp only [digB, Bool.and_eq_false_iff, decide_eq_false_iff_not]; omega
   rw [decide_eq_false h1, cond_false]
   simp only [hy, Bool.false_eq_true, if_false]; exact fin
theorem f_l6Find {n : Nat} (e : List UInt8) (c : UInt8) (he : e.length ≤ 1000) (hn : e.length + 3 ≤ n) : FF n 51 [sr e.reverse, .one (.int .u8 (c.toNat : Int))] [] = some ([nt (match fnd e c with | some k => (k : Int) | none => -1)], []) := by
 obtain ⟨n, rfl⟩ := pos_succ (show 0 < n by omega)
 have hs : (bytesOf e.reverse).size = e.length := by rw [by_size, List.length_reverse]
 rw [E_spec_l6Find, wrap64 (by omega), find_loop _ c (by omega) n (bytesOf e.reverse).size n (by omega) (Nat.le_refl _)]
 show some ([nt (findB (bytesOf e.reverse) c)], []) = _
 rw [findB_fnd]
 all_goals (cases fnd e c <;> rfl)
theorem f_l6Letter {n : Nat} (hn : 1 ≤ n) (c : UInt8) : FF n 50 [.one (.int .u8 (c.toNat : Int))] [] = some ([bl (letB c)], []) := by
 obtain ⟨n, rfl⟩ := pos_succ (show 0 < n by omega)
 rw [E_spec_l6Letter, ← letB_eq]
 unfold letterB
 by_cases h : (97 : Int) ≤ c.toNat <;> simp only [h, decide_true, decide_false, cond_true, cond_false, Bool.true_and, Bool.false_and]
theorem f_l6Colon {n : Nat} {S : List UInt8} {at_ : Nat} (hn : 10 ≤ n) (hS : S.length ≤ 1099511627776) (ha : at_ ≤ S.length) : FF n 98 [sr S, nt at_] [] = some ([bl (bnd (S.drop at_)).isSome], []) := by
 obtain ⟨n, rfl⟩ := pos_succ (show 0 < n by omega)
 have hw : IntKind.i64.wrap ((at_ : Int) + 1) = (at_ : Int) + 1 := wrap64 (by omega)
 rw [E_spec_l6Colon, hw]
 cases hd : S.drop at_ with
 | nil =>
  have := dp_nil hd
  rw [decide_eq_false (show ¬ (at_ : Int) + 1 < (((bytesOf S).size : Nat) : Int) by rw [by_size]; omega), cond_false]; rfl
 | cons y r =>
  have := dp_lt hd
  cases r with
  | nil =>
   have := dp_nil (dp_tl hd)
   rw [decide_eq_false (show ¬ (at_ : Int) + 1 < (((bytesOf S).size : Nat) : Int) by rw [by_size]; omega), cond_false]; rfl
  | cons z r =>
   have h2 := dp_tl hd
   have := dp_lt h2
   have hi := dp_in h2
   have hb := dp_at h2
   rw [show ((at_ + 1 : Nat) : Int) = (at_ : Int) + 1 by omega] at hi hb
   rw [decide_eq_true (show (at_ : Int) + 1 < (((bytesOf S).size : Nat) : Int) by rw [by_size]; omega), cond_true, dp_in hd, cond_true, dp_at hd, f_l6Letter (by omega)]
   simp only [evt]
   rw [decide_eq_true (show 0 ≤ (at_ : Int) + 1 by omega), hb, cond_true, bnd_cons]
   cases letB y with
   | false => rw [cond_false, if_neg (fun h => by cases h.1)]; rfl
   | true =>
    rw [cond_true]
    by_cases hz : z = 58
    ·subst hz; rw [if_pos ⟨rfl, rfl⟩]; rfl
    ·rw [if_neg (fun h => hz h.2), decide_eq_false (show ¬ (z.toNat : Int) = 58 from fun e => hz (byte_eq.1 (show (z.toNat : Int) = ((58 : UInt8).toNat : Int) from e)))]; rfl
theorem f_l1ParseL {n : Nat} {S r : List UInt8} {at_ : Nat} {y : UInt8} {d : Nat} (hn : 20 ≤ n) (hS : S.length ≤ 1099511627776) (hd : S.drop at_ = y :: r) (hd1 : 1 ≤ d) :
   (y = 42 → RP S (rdNum r) (FF n 52 [sr S, nt at_, nt d] [])) ∧ (y = 78 → RP S (some (.mk 6 0 [], r)) (FF n 52 [sr S, nt at_, nt d] [])) ∧ (y = 48 → RP S (some (.mk 7 0 [], r)) (FF n 52 [sr S, nt at_, nt d] [])) := by
 obtain ⟨n, rfl⟩ := pos_succ (show 0 < n by omega)
 have hlt := dp_lt hd
 have hw : IntKind.i64.wrap ((at_ : Int) + 1) = ((at_ + 1 : Nat) : Int) := by rw [wrap64 (by omega)]; omega
 have start : decide ((d : Int) < 1) = false ∧ decide ((at_ : Int) < 0) = false ∧ decide ((((bytesOf S).size : Nat) : Int) ≤ (at_ : Int)) = false := by
  rw [by_size]; simp only [decide_eq_false_iff_not]; omega
 refine ⟨fun h => ?_, fun h => ?_, fun h => ?_⟩ <;> subst h
 ·rw [E_spec_l1Parse, start.1, start.2.1, start.2.2, cond_false, cond_false, cond_false, dp_in hd, cond_true, dp_at hd, show decide ((((42 : UInt8).toNat : Nat) : Int) = 35) = false from rfl, cond_false, show decide ((((42 : UInt8).toNat : Nat) : Int) = 42) = true from rfl, cond_true, hw, f_l1Number (by omega) hS (by omega), dp_tl hd]
  cases r with
  | nil =>
   simp only [evt]
   rw [f_l1Leaf (by omega)]
   simp only [evt]
   exact RP.fail (t := .mk 2 0 []) rfl
  | cons x r =>
   have hd2 := dp_tl hd
   cases hx : digB x with
   | false =>
    simp only [hx, Bool.false_eq_true, if_false]
    simp only [evt]
    rw [f_l1Leaf (by omega)]
    simp only [evt]
    simp only [rdNum, hx, Bool.false_eq_true, false_and, if_false]
    exact RP.fail (t := .mk 2 0 []) rfl
   | true =>
    simp only [hx, if_true]
    simp only [evt]
    rw [f_l1Leaf (by omega)]
    simp only [evt]
    simp only [rdNum, hx, true_and]
    have := dp_lt hd2
    have h3 := dp_tl hd2
    by_cases hr : dhead r = false
    ·rw [if_pos hr]
     exact RP.ok (j := at_ + 1 + 1) rfl (by omega) h3.symm
    ·rw [if_neg hr]
     cases r with
     | nil => exact absurd rfl hr
     | cons z r => exact ⟨.mk 2 ((x.toNat : Int) - 48) [], _, rfl, .inr (.inr ⟨rfl, at_ + 1 + 1, z, r, rfl, h3, by simpa [dhead] using hr⟩)⟩
 ·rw [E_spec_l1Parse, start.1, start.2.1, start.2.2, cond_false, cond_false, cond_false, dp_in hd, cond_true, dp_at hd, show decide ((((78 : UInt8).toNat : Nat) : Int) = 35) = false from rfl, cond_false, show decide ((((78 : UInt8).toNat : Nat) : Int) = 42) = false from rfl, cond_false, show decide ((((78 : UInt8).toNat : Nat) : Int) = 78) = true from rfl, cond_true, hw, f_l1Leaf (by omega)]
  simp only [evt]
  exact RP.ok (j := at_ + 1) rfl (by omega) (dp_tl hd).symm
 ·rw [E_spec_l1Parse, start.1, start.2.1, start.2.2, cond_false, cond_false, cond_false, dp_in hd, cond_true, dp_at hd, show decide ((((48 : UInt8).toNat : Nat) : Int) = 35) = false from rfl, cond_false, show decide ((((48 : UInt8).toNat : Nat) : Int) = 42) = false from rfl, cond_false, show decide ((((48 : UInt8).toNat : Nat) : Int) = 78) = false from rfl, cond_false, show decide ((((48 : UInt8).toNat : Nat) : Int) = 48) = true from rfl, cond_true, hw, f_l1Leaf (by omega)]
  simp only [evt]
  exact RP.ok (j := at_ + 1) rfl (by omega) (dp_tl hd).symm
end Go.Proofs.YtnogehmgpfpjmaaGreatDoor
end
section
namespace Go.Proofs.YtnogehmgpfpjmaaGreatDoor
open Go Go.Ab Go.Dk
section
variable {S : List UInt8} {o : Option (T × List UInt8)} {t : T} {k : Int}
theorem RQ.cases (h : RQ S o t k) : (k = -1 ∧ o = none) ∨ (∃ j : Nat, k = j ∧ S.length ≤ j ∧ o = some (t, [])) ∨ (∃ (j : Nat) (z : UInt8) (r : List UInt8), k = j ∧ S.drop j = z :: r ∧ (o = some (t, z :: r) ∨ (o = none ∧ digB z = true))) := by
 rcases h with ⟨j, h1, h2, h3⟩ | ⟨h1, h2⟩ | ⟨h1, j, y, r, h2, h3, h4⟩
 ·cases hd : S.drop j with
  | nil => rw [hd] at h1; exact .inr (.inl ⟨j, h3, dp_nil hd, h1⟩)
  | cons z r => rw [hd] at h1; exact .inr (.inr ⟨j, z, r, h3, hd, .inl h1⟩)
 ·exact .inl ⟨h2, h1⟩
 ·exact .inr (.inr ⟨j, y, r, h2, h3, .inr ⟨h1, h4⟩⟩)
theorem RQ.map (h : RQ S o t k) (f : T → T) : RQ S (o.map fun b => (f b.1, b.2)) (f t) k := by
 rcases h with ⟨j, h1, h2, h3⟩ | ⟨h1, h2⟩ | ⟨h1, j, y, r, h2, h3, h4⟩
 ·subst h1; exact .inl ⟨j, rfl, h2, h3⟩
 ·subst h1; exact .inr (.inl ⟨rfl, h2⟩)
 ·subst h1; exact .inr (.inr ⟨rfl, j, y, r, h2, h3, h4⟩)
theorem by_int {y : UInt8} {c : UInt8} {v : Int} (hv : (c.toNat : Int) = v) : decide ((y.toNat : Int) = v) = decide (y = c) := by
 subst hv
 by_cases h : y = c
 ·subst h; simp
 ·rw [decide_eq_false h, decide_eq_false (fun e => h (byte_eq.1 e))]
theorem eat_not {z c : UInt8} {r : List UInt8} {α : Type} {f : T → List UInt8 → Option α} (h : o = some (t, z :: r) ∨ (o = none ∧ digB z = true)) (hz : z ≠ c) : (o.bind fun a => (eat c a.2).bind fun r => f a.1 r) = none := by
 rcases h with rfl | ⟨rfl, _⟩
 ·simp [eat, hz]
 ·rfl
theorem eat_yes {z c : UInt8} {r : List UInt8} (h : o = some (t, z :: r) ∨ (o = none ∧ digB z = true)) (hz : z = c) (hc : digB c = false) : o = some (t, c :: r) := by
 rcases h with rfl | ⟨_, h2⟩
 ·rw [hz]
 ·rw [hz, hc] at h2; cases h2
theorem ext_one {j : Nat} {z : UInt8} {r : List UInt8} (h : S.drop j = z :: r) : (bytesOf S).extract ((j : Int)).toNat ((j : Int) + 1).toNat = bytesOf [z] := by
 rw [by_ext, Int.toNat_natCast, show ((j : Int) + 1).toNat = j + 1 by omega, List.drop_take, h]; simp
theorem bnd_some {s s2 : List UInt8} {y : UInt8} (h : bnd s = some (y, s2)) : s = y :: 58 :: s2 := by
 unfold bnd at h
 split at h
 ·split at h
  ·rename_i h1; cases h; rw [h1.2]
  ·cases h
 ·cases h
end
theorem kids_loop {S e : List UInt8} {d : Nat} {last : UInt8} {n many : Nat} (hS : S.length ≤ 1099511627776) (hl : digB last = false) (hm : many ≤ 10)
   (ip : ∀ at_ : Nat, at_ ≤ S.length → RP S (rdN d e (S.drop at_)) (FF n 25 [sr S, nt at_, sr e.reverse, nt d] [])) :
   ∀ g m (i at_ : Nat) (out : List T), g < m → i + g = many → at_ ≤ S.length → out.length ≤ i →
   ∃ ts k, L_spec_l6Kids_0 n m (bytesOf S) at_ (bytesOf e.reverse) d many (last.toNat : Int) i out = some ([tms ts, nt k], []) ∧
    ((∃ ys j, rdS (rdN d e) last g (S.drop at_) = some (ys, S.drop j) ∧ j ≤ S.length ∧ ts = out ++ ys ∧ k = (j : Int)) ∨ (rdS (rdN d e) last g (S.drop at_) = none ∧ k = -1)) := by
 intro g
 induction g with
 | zero =>
  intro m i at_ out hm' hi ha ho
  obtain ⟨m, rfl⟩ := pos_succ (show 0 < m by omega)
  rw [L_spec_l6Kids_0_eq, decide_eq_false (show ¬ (i : Int) < (many : Int) by omega), cond_false]
  exact ⟨out, at_, rfl, .inl ⟨[], at_, rfl, ha, by simp, rfl⟩⟩
 | succ g ih =>
  intro m i at_ out hm' hi ha ho
  obtain ⟨m, rfl⟩ := pos_succ (show 0 < m by omega)
  obtain ⟨t, k, hr, hq⟩ := ip at_ ha
  have hw : IntKind.i64.wrap ((i : Int) + 1) = ((i + 1 : Nat) : Int) := by rw [wrap64 (by omega)]; omega
  rw [L_spec_l6Kids_0_eq, decide_eq_true (show (i : Int) < (many : Int) by omega), cond_true, hw]
  simp only [sr, nt] at hr
  rw [hr]
  simp only [evt]
  have room : roomB (out ++ [t]).length = true := roomB_ok (by simp; omega)
  rw [rdS]
  rcases hq.cases with ⟨rfl, ho'⟩ | ⟨j, rfl, hj, ho'⟩ | ⟨j, z, r, rfl, hd, ho'⟩
  ·rw [ho', show decide ((-1 : Int) < 0) = true from rfl, cond_true]
   exact ⟨[], -1, rfl, .inr ⟨rfl, rfl⟩⟩
  ·rw [ho', decide_eq_false (show ¬ (j : Int) < 0 by omega), cond_false, by_size, decide_eq_true (show ((S.length : Nat) : Int) ≤ (j : Int) by omega), cond_true]
   exact ⟨[], -1, rfl, .inr ⟨by simp [eat], rfl⟩⟩
  ·have hlt := dp_lt hd
   have hwj : IntKind.i64.wrap ((j : Int) + 1) = ((j + 1 : Nat) : Int) := by rw [wrap64 (by omega)]; omega
   rw [decide_eq_false (show ¬ (j : Int) < 0 by omega), cond_false, show decide ((((bytesOf S).size : Nat) : Int) ≤ (j : Int)) = false from by rw [by_size]; exact decide_eq_false (by omega), cond_false]
   rw [dp_in hd, dp_at hd, by_int (c := 44) (v := 44) rfl, by_int (c := last) (v := (last.toNat : Int)) rfl, hwj, room, cond_true]
   simp only [cond_true]
   cases g with
   | zero =>
    rw [decide_eq_false (show ¬ ((i + 1 : Nat) : Int) < (many : Int) by omega), cond_false, decide_eq_true (show ((i + 1 : Nat) : Int) = (many : Int) by omega), cond_true]
    simp only [if_true]
    by_cases hz : z = last
    ·have := eat_yes ho' hz hl
     rw [decide_eq_true hz, Bool.not_true, cond_false, this]
     obtain ⟨ts, k, h1, h2⟩ := ih m (i + 1) (j + 1) (out ++ [t]) (by omega) (by omega) (by omega) (by simp; omega)
     refine ⟨ts, k, h1, ?_⟩
     rw [dp_tl hd] at h2
     simp only [eat, if_true, Option.bind_some]
     rcases h2 with ⟨ys, j2, h2, h3, h4, h5⟩ | ⟨h2, h3⟩
     ·exact .inl ⟨t :: ys, j2, by rw [h2]; rfl, h3, by rw [h4]; simp, h5⟩
     ·exact .inr ⟨by rw [h2]; rfl, h3⟩
    ·rw [decide_eq_false hz, Bool.not_false, cond_true]
     exact ⟨[], -1, rfl, .inr ⟨eat_not (f := fun a r => (rdS (rdN d e) last 0 r).map fun y => (a :: y.1, y.2)) ho' hz, rfl⟩⟩
   | succ g =>
    rw [decide_eq_true (show ((i + 1 : Nat) : Int) < (many : Int) by omega), cond_true, decide_eq_false (show ¬ ((i + 1 : Nat) : Int) = (many : Int) by omega), cond_false]
    simp only [if_neg (show ¬ g + 1 = 0 by omega)]
    by_cases hz : z = 44
    ·have := eat_yes ho' hz rfl
     rw [decide_eq_true hz, Bool.not_true, cond_false, this]
     obtain ⟨ts, k, h1, h2⟩ := ih m (i + 1) (j + 1) (out ++ [t]) (by omega) (by omega) (by omega) (by simp; omega)
     refine ⟨ts, k, h1, ?_⟩
     rw [dp_tl hd] at h2
     simp only [eat, if_true, Option.bind_some]
     rcases h2 with ⟨ys, j2, h2, h3, h4, h5⟩ | ⟨h2, h3⟩
     ·exact .inl ⟨t :: ys, j2, by rw [h2]; rfl, h3, by rw [h4]; simp, h5⟩
     ·exact .inr ⟨by rw [h2]; rfl, h3⟩
    ·rw [decide_eq_false hz, Bool.not_false, cond_true]
     exact ⟨[], -1, rfl, .inr ⟨eat_not (f := fun a r => (rdS (rdN d e) last (g + 1) r).map fun y => (a :: y.1, y.2)) ho' hz, rfl⟩⟩
theorem f_l6Kids {S e : List UInt8} {d : Nat} {last : UInt8} {n many at_ : Nat} (hn : 20 ≤ n) (hS : S.length ≤ 1099511627776) (hl : digB last = false) (hm : many ≤ 10) (ha : at_ ≤ S.length)
   (ip : ∀ at_ : Nat, at_ ≤ S.length → RP S (rdN d e (S.drop at_)) (FF n 25 [sr S, nt at_, sr e.reverse, nt d] [])) :
   ∃ ts k, FF (n + 1) 99 [sr S, nt at_, sr e.reverse, nt d, nt many, .one (.int .u8 (last.toNat : Int))] [] = some ([tms ts, nt k], []) ∧
    ((∃ j, rdS (rdN d e) last many (S.drop at_) = some (ts, S.drop j) ∧ j ≤ S.length ∧ k = (j : Int)) ∨ (rdS (rdN d e) last many (S.drop at_) = none ∧ k = -1)) := by
 obtain ⟨ts, k, h1, h2⟩ := kids_loop hS hl hm ip many n 0 at_ [] (by omega) (by omega) ha (by simp)
 refine ⟨ts, k, ?_, ?_⟩
 ·rw [E_spec_l6Kids]; exact h1
 ·rcases h2 with ⟨ys, j, h2, h3, h4, h5⟩ | h
  ·rw [List.nil_append] at h4; subst h4; exact .inl ⟨j, h2, h3, h5⟩
  ·exact .inr h
section
variable {S e : List UInt8} {d n : Nat} (hn : 20 ≤ n) (hS : S.length ≤ 1099511627776)
include hn hS
theorem closing {o : Option (T × List UInt8)} {res : OR} {kk : Int} {t1 : T} (h : RP S o res) :
   RP S (o.bind fun b => (eat 41 b.2).map fun r => (T.mk kk 0 [t1, b.1], r)) (res.bind fun x8 => rTerm x8.1 fun x9 x10 => rInt .i64 x10 fun x11 x12 => nilV x12 (nilO x8.2
    (cond (decide (x11 < 0)) (some ([.agg [.int .i64 0, .int .i64 0, .fr (.ts [])], .one (.int .i64 (-1))], []))
    (cond (decide ((((bytesOf S).size : Nat) : Int) ≤ x11)) (some ([.agg [.int .i64 0, .int .i64 0, .fr (.ts [])], .one (.int .i64 (-1))], []))
    (cond (decide (0 ≤ x11) && decide (x11 < (((bytesOf S).size : Nat) : Int)))
    (cond (!decide (((byteAt (bytesOf S) x11.toNat).toNat : Int) = 41)) (some ([.agg [.int .i64 0, .int .i64 0, .fr (.ts [])], .one (.int .i64 (-1))], []))
    ((FF n 53 [.one (.int .i64 kk), .one (.fr (.ts [t1, T.mk x9.k x9.n x9.kids]))] []).bind fun x13 => rTerm x13.1 fun x14 x15 => nilV x15 (nilO x13.2
      (some ([.agg [.int .i64 x14.k, .int .i64 x14.n, .fr (.ts x14.kids)], .one (.int .i64 (IntKind.i64.wrap (x11 + 1)))], [])))))
    none))))) := by
 obtain ⟨t, k, hr, hq⟩ := h
 rw [hr]
 simp only [evt]
 rcases hq.cases with ⟨rfl, ho'⟩ | ⟨j, rfl, hj, ho'⟩ | ⟨j, z, r, rfl, hd, ho'⟩
 ·rw [ho', show decide ((-1 : Int) < 0) = true from rfl, cond_true]
  exact RP.fail (t := .mk 0 0 []) rfl
 ·rw [ho', decide_eq_false (show ¬ (j : Int) < 0 by omega), cond_false, by_size, decide_eq_true (show ((S.length : Nat) : Int) ≤ (j : Int) by omega), cond_true]
  exact RP.fail (t := .mk 0 0 []) rfl
 ·have hlt := dp_lt hd
  have hwj : IntKind.i64.wrap ((j : Int) + 1) = ((j + 1 : Nat) : Int) := by rw [wrap64 (by omega)]; omega
  rw [decide_eq_false (show ¬ (j : Int) < 0 by omega), cond_false, show decide ((((bytesOf S).size : Nat) : Int) ≤ (j : Int)) = false from by rw [by_size]; exact decide_eq_false (by omega), cond_false]
  rw [dp_in hd, cond_true, dp_at hd, by_int (c := 41) (v := 41) rfl, hwj, f_l1Node (by omega) _ _ (by simp)]
  simp only [evt]
  by_cases hz : z = 41
  ·have := eat_yes ho' hz rfl
   rw [decide_eq_true hz, Bool.not_true, cond_false, this]
   simp only [eat, if_true, Option.bind_some, Option.map_some]
   exact RP.ok (j := j + 1) rfl (by omega) (dp_tl hd).symm
  ·rw [decide_eq_false hz, Bool.not_false, cond_true]
   have := eat_not (f := fun a r => some (T.mk kk 0 [t1, a], r)) ho' hz
   simp only [Option.map_eq_bind, Function.comp_def]
   rw [this]
   exact RP.fail (t := .mk 0 0 []) rfl
theorem f_l6Square {at_ : Nat} (he : e.length ≤ 1000) (ha : at_ ≤ S.length)
   (ip : ∀ (e2 : List UInt8) (at_ : Nat), e2.length ≤ e.length + 1 → at_ ≤ S.length → RP S (rdN d e2 (S.drop at_)) (FF n 25 [sr S, nt at_, sr e2.reverse, nt d] [])) :
   RP S ((bnd (S.drop at_)).bind fun x => (rdN d e x.2).bind fun a => (eat 93 a.2).bind fun r => (rdN d (x.1 :: e) r).map fun b => (.mk 4 0 [a.1, b.1], b.2)) (FF (n + 1) 55 [sr S, nt at_, sr e.reverse, nt d] []) := by
 rw [E_spec_l6Square, f_l6Colon (by omega) hS ha]
 simp only [evt]
 cases hb : bnd (S.drop at_) with
 | none =>
  rw [show (Option.isSome (none : Option (UInt8 × List UInt8))) = false from rfl, Bool.not_false, cond_true]
  exact RP.fail (t := .mk 0 0 []) rfl
 | some x =>
  obtain ⟨y, s2⟩ := x
  have hs := bnd_some hb
  have h2 := dp_tl (dp_tl hs)
  have hlt := dp_lt hs
  have hlt2 := dp_lt (dp_tl hs)
  have hw2 : IntKind.i64.wrap ((at_ : Int) + 2) = ((at_ + 1 + 1 : Nat) : Int) := by rw [wrap64 (by omega)]; omega
  have hw1 : IntKind.i64.wrap ((at_ : Int) + 1) = (at_ : Int) + 1 := wrap64 (by omega)
  obtain ⟨t, k, hr, hq⟩ := ip e (at_ + 1 + 1) (by omega) (by omega)
  rw [h2] at hq
  simp only [sr, nt] at hr
  rw [show (Option.isSome (some (y, s2) : Option (UInt8 × List UInt8))) = true from rfl, Bool.not_true, cond_false, hw2, hr]
  simp only [evt]
  rcases hq.cases with ⟨rfl, ho'⟩ | ⟨j, rfl, hj, ho'⟩ | ⟨j, z, r, rfl, hd, ho'⟩
  ·rw [ho', show decide ((-1 : Int) < 0) = true from rfl, cond_true]
   exact RP.fail (t := .mk 0 0 []) rfl
  ·rw [ho', decide_eq_false (show ¬ (j : Int) < 0 by omega), cond_false, by_size, decide_eq_true (show ((S.length : Nat) : Int) ≤ (j : Int) by omega), cond_true]
   exact RP.fail (t := .mk 0 0 []) rfl
  ·have hlt := dp_lt hd
   have hwj : IntKind.i64.wrap ((j : Int) + 1) = ((j + 1 : Nat) : Int) := by rw [wrap64 (by omega)]; omega
   rw [decide_eq_false (show ¬ (j : Int) < 0 by omega), cond_false, show decide ((((bytesOf S).size : Nat) : Int) ≤ (j : Int)) = false from by rw [by_size]; exact decide_eq_false (by omega), cond_false]
   rw [dp_in hd, cond_true, dp_at hd, by_int (c := 93) (v := 93) rfl, hwj, hw1, ext_one hs, by_app]
   by_cases hz : z = 93
   ·have := eat_yes ho' hz rfl
    obtain ⟨t2, k2, hr2, hq2⟩ := ip (y :: e) (j + 1) (by simp) (by omega)
    simp only [sr, nt, List.reverse_cons] at hr2
    rw [dp_tl hd] at hq2
    have hin : Go.Ab.inB at_ ((at_ : Int) + 1) (bytesOf S).size = true := by rw [by_size]; simp only [inB, Bool.and_eq_true, decide_eq_true_eq]; omega
    have hsz : decide ((bytesOf e.reverse).size + (bytesOf [y]).size ≤ 9223372036854775807) = true := by rw [by_size, by_size]; simp; omega
    rw [decide_eq_true hz, Bool.not_true, cond_false, this, hin, cond_true, hsz, cond_true, hr2]
    simp only [evt]
    rw [f_l1Node (by omega) _ _ (by simp)]
    simp only [evt]
    simp only [eat, if_true, Option.bind_some]
    exact ⟨_, _, rfl, hq2.map fun b => .mk 4 0 [t, b]⟩
   ·rw [decide_eq_false hz, Bool.not_false, cond_true]
    have := eat_not (f := fun a r => (rdN d (y :: e) r).map fun b => (T.mk 4 0 [a, b.1], b.2)) ho' hz
    show RP S ((rdN d e s2).bind fun a => (eat 93 a.2).bind fun r => (rdN d (y :: e) r).map fun b => (T.mk 4 0 [a.1, b.1], b.2)) _
    rw [this]
    exact RP.fail (t := .mk 0 0 []) rfl
end
end Go.Proofs.YtnogehmgpfpjmaaGreatDoor
end
section
namespace Go.Proofs.YtnogehmgpfpjmaaGreatDoor
open Go Go.Ab Go.Dk
section
variable {S e : List UInt8} {d n : Nat} (hn : 20 ≤ n) (hS : S.length ≤ 1099511627776)
include hn hS
theorem f_l6Round {at_ : Nat} (he : e.length ≤ 1000) (ha : at_ ≤ S.length)
   (ip : ∀ (e2 : List UInt8) (at_ : Nat), e2.length ≤ e.length + 1 → at_ ≤ S.length → RP S (rdN d e2 (S.drop at_)) (FF n 25 [sr S, nt at_, sr e2.reverse, nt d] [])) :
   RP S (match bnd (S.drop at_) with
    | some (x, s) => (rdN d e s).bind fun a => (match a.2 with
     | y :: r => if y = 62 then (rdN d (x :: e) r).bind fun b => (eat 41 b.2).map fun r => (.mk 3 0 [a.1, b.1], r)
      else if y = 42 then (rdN d (x :: e) r).bind fun b => (eat 41 b.2).map fun r => (.mk 13 0 [a.1, b.1], r) else none
     | [] => none)
    | none => (rdN d e (S.drop at_)).bind fun a => (eat 32 a.2).bind fun r => (rdN d e r).bind fun b => (eat 41 b.2).map fun r => (.mk 5 0 [a.1, b.1], r)) (FF (n + 1) 54 [sr S, nt at_, sr e.reverse, nt d] []) := by
 rw [E_spec_l6Round, f_l6Colon (by omega) hS ha]
 simp only [evt]
 cases hb : bnd (S.drop at_) with
 | none =>
  rw [show (Option.isSome (none : Option (UInt8 × List UInt8))) = false from rfl, cond_false]
  obtain ⟨t, k, hr, hq⟩ := ip e at_ (by omega) ha
  simp only [sr, nt] at hr
  rw [hr]
  simp only [evt]
  rcases hq.cases with ⟨rfl, ho'⟩ | ⟨j, rfl, hj, ho'⟩ | ⟨j, z, r, rfl, hd, ho'⟩
  ·rw [ho', show decide ((-1 : Int) < 0) = true from rfl, cond_true]
   exact RP.fail (t := .mk 0 0 []) rfl
  ·rw [ho', decide_eq_false (show ¬ (j : Int) < 0 by omega), cond_false, by_size, decide_eq_true (show ((S.length : Nat) : Int) ≤ (j : Int) by omega), cond_true]
   exact RP.fail (t := .mk 0 0 []) rfl
  ·have hlt := dp_lt hd
   have hwj : IntKind.i64.wrap ((j : Int) + 1) = ((j + 1 : Nat) : Int) := by rw [wrap64 (by omega)]; omega
   have hp2 := ip e (j + 1) (by omega) (by omega)
   rw [dp_tl hd] at hp2
   rw [decide_eq_false (show ¬ (j : Int) < 0 by omega), cond_false, show decide ((((bytesOf S).size : Nat) : Int) ≤ (j : Int)) = false from by rw [by_size]; exact decide_eq_false (by omega), cond_false]
   rw [dp_in hd, cond_true, dp_at hd, by_int (c := 32) (v := 32) rfl, hwj]
   by_cases hz : z = 32
   ·have := eat_yes ho' hz rfl
    rw [decide_eq_true hz, cond_true, this]
    simp only [eat, if_true, Option.bind_some]
    have hc := closing (kk := 5) (t1 := t) hn hS hp2
    simp only [evt] at hc ⊢
    exact hc
   ·rw [decide_eq_false hz, cond_false]
    obtain ⟨t2, k2, hr2, _⟩ := hp2
    simp only [sr, nt] at hr2
    rw [hr2]
    simp only [evt]
    have := eat_not (f := fun a r => (rdN d e r).bind fun b => (eat 41 b.2).map fun r => (T.mk 5 0 [a, b.1], r)) ho' hz
    rw [this]
    exact RP.fail (t := .mk 0 0 []) rfl
 | some x =>
  obtain ⟨y, s2⟩ := x
  have hs := bnd_some hb
  have h2 := dp_tl (dp_tl hs)
  have hlt := dp_lt hs
  have hlt2 := dp_lt (dp_tl hs)
  have hw2 : IntKind.i64.wrap ((at_ : Int) + 2) = ((at_ + 1 + 1 : Nat) : Int) := by rw [wrap64 (by omega)]; omega
  have hw1 : IntKind.i64.wrap ((at_ : Int) + 1) = (at_ : Int) + 1 := wrap64 (by omega)
  obtain ⟨t, k, hr, hq⟩ := ip e (at_ + 1 + 1) (by omega) (by omega)
  rw [h2] at hq
  simp only [sr, nt] at hr
  have hin : Go.Ab.inB at_ ((at_ : Int) + 1) (bytesOf S).size = true := by rw [by_size]; simp only [inB, Bool.and_eq_true, decide_eq_true_eq]; omega
  have hsz : decide ((bytesOf e.reverse).size + (bytesOf [y]).size ≤ 9223372036854775807) = true := by rw [by_size, by_size]; simp; omega
  rw [show (Option.isSome (some (y, s2) : Option (UInt8 × List UInt8))) = true from rfl, cond_true, hw2, hw1, hin, cond_true, ext_one hs, hsz, cond_true, hr, by_app]
  simp only [evt]
  rcases hq.cases with ⟨rfl, ho'⟩ | ⟨j, rfl, hj, ho'⟩ | ⟨j, z, r, rfl, hd, ho'⟩
  ·rw [ho', show decide ((-1 : Int) < 0) = true from rfl, cond_true]
   exact RP.fail (t := .mk 0 0 []) rfl
  ·rw [ho', decide_eq_false (show ¬ (j : Int) < 0 by omega), cond_false, by_size, decide_eq_true (show ((S.length : Nat) : Int) ≤ (j : Int) by omega), cond_true]
   exact RP.fail (t := .mk 0 0 []) rfl
  ·have hlt := dp_lt hd
   have hwj : IntKind.i64.wrap ((j : Int) + 1) = ((j + 1 : Nat) : Int) := by rw [wrap64 (by omega)]; omega
   have hp2 := ip (y :: e) (j + 1) (by simp) (by omega)
   rw [dp_tl hd, List.reverse_cons] at hp2
   rw [decide_eq_false (show ¬ (j : Int) < 0 by omega), cond_false, show decide ((((bytesOf S).size : Nat) : Int) ≤ (j : Int)) = false from by rw [by_size]; exact decide_eq_false (by omega), cond_false]
   rw [dp_in hd, cond_true, dp_at hd, by_int (c := 62) (v := 62) rfl, by_int (c := 42) (v := 42) rfl, hwj]
   by_cases hz : z = 62
   ·have := eat_yes ho' hz rfl
    rw [decide_eq_true hz, cond_true, this]
    simp only [if_true, Option.bind_some]
    have hc := closing (kk := 3) (t1 := t) hn hS hp2
    simp only [evt] at hc ⊢
    exact hc
   ·rw [decide_eq_false hz, cond_false, cond_true]
    by_cases hz2 : z = 42
    ·have := eat_yes ho' hz2 rfl
     rw [decide_eq_true hz2, cond_true, this]
     simp only [if_neg (show ¬ ((42 : UInt8) = 62) by decide), if_true, Option.bind_some]
     have hc := closing (kk := 13) (t1 := t) hn hS hp2
     simp only [evt] at hc ⊢
     exact hc
    ·rw [decide_eq_false hz2, cond_false]
     obtain ⟨t2, k2, hr2, _⟩ := hp2
     simp only [sr, nt] at hr2
     rw [hr2]
     simp only [evt]
     have : ((rdN d e s2).bind fun a => (match a.2 with
      | q :: r => if q = 62 then (rdN d (y :: e) r).bind fun b => (eat 41 b.2).map fun r => (T.mk 3 0 [a.1, b.1], r)
       else if q = 42 then (rdN d (y :: e) r).bind fun b => (eat 41 b.2).map fun r => (T.mk 13 0 [a.1, b.1], r) else none
      | [] => none)) = none := by
      rcases ho' with h | ⟨h, _⟩
      ·rw [h]; simp [hz, hz2]
      ·rw [h]; rfl
     show RP S ((rdN d e s2).bind fun a => (match a.2 with
      | q :: r => if q = 62 then (rdN d (y :: e) r).bind fun b => (eat 41 b.2).map fun r => (T.mk 3 0 [a.1, b.1], r)
       else if q = 42 then (rdN d (y :: e) r).bind fun b => (eat 41 b.2).map fun r => (T.mk 13 0 [a.1, b.1], r) else none
      | [] => none)) _
     rw [this]
     exact RP.fail (t := .mk 0 0 []) rfl
theorem f_l6Block {at_ : Nat} {c : UInt8} {s : List UInt8} (hd : S.drop at_ = c :: s) (he : e.length ≤ 1000) (hdm : d ≤ 1000)
   (ip : ∀ (at_ : Nat), at_ ≤ S.length → RP S (rdN d e (S.drop at_)) (FF n 25 [sr S, nt at_, sr e.reverse, nt d] [])) :
   RP S (if c = 60 then (rdS (rdN d e) 62 4 s).map fun y => (.mk 9 0 y.1, y.2)
   else if c = 123 then (rdS (rdN d e) 125 3 s).map fun y => (.mk 10 0 y.1, y.2)
   else if c = 124 then (rdS (rdN d e) 124 3 s).map fun y => (.mk 14 0 y.1, y.2)
   else if c = 64 then (eat 60 s).bind fun s => (rdS (rdN d e) 62 3 s).map fun y => (.mk 12 0 y.1, y.2)
   else none) (FF (n + 2) 57 [sr S, nt at_, sr e.reverse, nt ((d + 1 : Nat) : Int)] []) := by
 have hlt := dp_lt hd
 have ht := dp_tl hd
 have hw1 : IntKind.i64.wrap ((at_ : Int) + 1) = ((at_ + 1 : Nat) : Int) := by rw [wrap64 (by omega)]; omega
 have hw2 : IntKind.i64.wrap ((at_ : Int) + 2) = ((at_ + 1 + 1 : Nat) : Int) := by rw [wrap64 (by omega)]; omega
 have key : ∀ (kk : Int) (many a : Nat) (last : UInt8) (res : OR), digB last = false → many ≤ 10 → a ≤ S.length → res = (FF (n + 1) 99 [sr S, nt a, sr e.reverse, nt d, nt many, .one (.int .u8 (last.toNat : Int))] []).bind (fun x0 => rTs x0.1 fun x1 x2 => rInt .i64 x2 fun x3 x4 => nilV x4 (nilO x0.2 (some ([.agg [.int .i64 kk, .int .i64 0, .fr (.ts x1)], .one (.int .i64 x3)], [])))) →
    RP S ((rdS (rdN d e) last many (S.drop a)).map fun y => (.mk kk 0 y.1, y.2)) res := by
  intro kk many a last res h1 h2 h3 hres
  obtain ⟨ts, k, h4, h5⟩ := f_l6Kids hn hS h1 h2 h3 ip
  rw [hres, h4]
  simp only [evt]
  rcases h5 with ⟨j, h5, h6, h7⟩ | ⟨h5, h6⟩
  ·rw [h5, h7]; exact RP.ok (j := j) rfl h6 rfl
  ·rw [h5, h6]; exact RP.fail (t := .mk kk 0 ts) rfl
 have ht2 : ∀ z r, s = z :: r → S.drop (at_ + 1 + 1) = r := fun z r h => dp_tl (by rw [ht, h])
 have hwd : IntKind.i64.wrap (((d + 1 : Nat) : Int) - 1) = (d : Int) := by rw [wrap64 (by omega)]; omega
 rw [E_spec_l6Block, dp_in hd, cond_true, dp_at hd, by_int (c := 60) (v := 60) rfl, by_int (c := 123) (v := 123) rfl, by_int (c := 124) (v := 124) rfl, by_int (c := 64) (v := 64) rfl, hw1, hw2, hwd]
 by_cases h1 : c = 60
 ·rw [if_pos h1, decide_eq_true h1, cond_true]
  have := key 9 4 (at_ + 1) 62 _ rfl (by decide) (by omega) rfl
  rw [ht] at this; exact this
 rw [if_neg h1, decide_eq_false h1, cond_false]
 by_cases h2 : c = 123
 ·rw [if_pos h2, decide_eq_true h2, cond_true]
  have := key 10 3 (at_ + 1) 125 _ rfl (by decide) (by omega) rfl
  rw [ht] at this; exact this
 rw [if_neg h2, decide_eq_false h2, cond_false]
 by_cases h3 : c = 124
 ·rw [if_pos h3, decide_eq_true h3, cond_true]
  have := key 14 3 (at_ + 1) 124 _ rfl (by decide) (by omega) rfl
  rw [ht] at this; exact this
 rw [if_neg h3, decide_eq_false h3, cond_false]
 by_cases h4 : c = 64
 ·rw [if_pos h4, decide_eq_true h4, cond_true]
  cases s with
  | nil =>
   have := dp_nil ht
   rw [show decide (((at_ + 1 : Nat) : Int) < (((bytesOf S).size : Nat) : Int)) = false from by rw [by_size]; exact decide_eq_false (by omega), cond_false]
   exact RP.fail (t := .mk 0 0 []) rfl
  | cons z r =>
   have hlt2 := dp_lt ht
   rw [show decide (((at_ + 1 : Nat) : Int) < (((bytesOf S).size : Nat) : Int)) = true from by rw [by_size]; exact decide_eq_true (by omega), cond_true, Bool.and_true, decide_eq_true (show (0 : Int) ≤ ((at_ + 1 : Nat) : Int) by omega), cond_true, dp_at ht, by_int (c := 60) (v := 60) rfl]
   by_cases h5 : z = 60
   ·rw [decide_eq_true h5, cond_true]
    have := key 12 3 (at_ + 1 + 1) 62 _ rfl (by decide) (by omega) rfl
    rw [ht2 z r rfl] at this
    simp only [eat, if_pos h5, Option.bind_some]; exact this
   ·rw [decide_eq_false h5, cond_false]
    simp only [eat, if_neg h5, Option.bind_none]
    exact RP.fail (t := .mk 0 0 []) rfl
 rw [if_neg h4, decide_eq_false h4, cond_false]
 exact RP.fail (t := .mk 0 0 []) rfl
end
theorem RP.pass {S : List UInt8} {o : Option (T × List UInt8)} {res : OR} (h : RP S o res) : RP S o (res.bind fun x0 => rTerm x0.1 fun x1 x2 => rInt .i64 x2 fun x3 x4 => nilV x4 (nilO x0.2 (some ([.agg [.int .i64 x1.k, .int .i64 x1.n, .fr (.ts x1.kids)], .one (.int .i64 x3)], [])))) := by
 obtain ⟨t, k, hr, hq⟩ := h
 rw [hr]
 simp only [evt]
 exact ⟨t, k, rfl, hq⟩
theorem f_l6Parse {S : List UInt8} (hS : S.length ≤ 1099511627776) : ∀ (d : Nat), d ≤ 100 → ∀ {n : Nat} (e : List UInt8) (at_ : Nat), 1100 + 10 * d ≤ n → e.length + d ≤ 1000 → at_ ≤ S.length → RP S (rdN d e (S.drop at_)) (FF n 25 [sr S, nt at_, sr e.reverse, nt d] []) := by
 intro d
 induction d with
 | zero =>
  intro _ n e at_ hn he ha
  obtain ⟨n, rfl⟩ := pos_succ (show 0 < n by omega)
  rw [E_spec_l6Parse, show decide (((0 : Nat) : Int) < 1) = true from rfl, cond_true]
  exact RP.fail (t := .mk 0 0 []) rfl
 | succ d ih =>
  intro hdm n e at_ hn he ha
  obtain ⟨n, rfl⟩ := pos_succ (show 0 < n by omega)
  have start : decide (((d + 1 : Nat) : Int) < 1) = false ∧ decide ((at_ : Int) < 0) = false := by simp only [decide_eq_false_iff_not]; omega
  rw [E_spec_l6Parse, start.1, start.2, cond_false, cond_false]
  cases hd : S.drop at_ with
  | nil =>
   have := dp_nil hd
   rw [show decide ((((bytesOf S).size : Nat) : Int) ≤ (at_ : Int)) = true from by rw [by_size]; exact decide_eq_true (by omega), cond_true]
   exact RP.fail (t := .mk 0 0 []) rfl
  | cons c s =>
   have hlt := dp_lt hd
   have ht := dp_tl hd
   have hw1 : IntKind.i64.wrap ((at_ : Int) + 1) = ((at_ + 1 : Nat) : Int) := by rw [wrap64 (by omega)]; omega
   have hwd : IntKind.i64.wrap (((d + 1 : Nat) : Int) - 1) = (d : Int) := by rw [wrap64 (by omega)]; omega
   rw [show decide ((((bytesOf S).size : Nat) : Int) ≤ (at_ : Int)) = false from by rw [by_size]; exact decide_eq_false (by omega), cond_false, dp_in hd, cond_true, dp_at hd, hw1, hwd, rdN]
   have ih1 : ∀ a : Nat, a ≤ S.length → RP S (rdN d e (S.drop a)) (FF n 25 [sr S, nt a, sr e.reverse, nt d] []) := fun a h => ih (by omega) e a (by omega) (by omega) h
   have ih2 : ∀ m, 1100 + 10 * d ≤ m → ∀ (e2 : List UInt8) (at_ : Nat), e2.length ≤ e.length + 1 → at_ ≤ S.length → RP S (rdN d e2 (S.drop at_)) (FF m 25 [sr S, nt at_, sr e2.reverse, nt d] []) := fun m hm e2 a h1 h2 => ih (by omega) e2 a hm (by omega) h2
   have lit := f_l1ParseL (n := n) (d := d + 1) (by omega) hS hd (by omega)
   have prefx := ih1 (at_ + 1) (by omega)
   rw [ht] at prefx
   by_cases h0 : letB c = true
   ·rw [if_pos h0]
    have hc : 97 ≤ c.toNat := by simp only [letB, Bool.and_eq_true, decide_eq_true_eq] at h0; omega
    rw [decide_eq_false (show ¬ (c.toNat : Int) = 42 by omega), decide_eq_false (show ¬ (c.toNat : Int) = 78 by omega), decide_eq_false (show ¬ (c.toNat : Int) = 48 by omega), decide_eq_false (show ¬ (c.toNat : Int) = 43 by omega), decide_eq_false (show ¬ (c.toNat : Int) = 33 by omega), decide_eq_false (show ¬ (c.toNat : Int) = 94 by omega), decide_eq_false (show ¬ (c.toNat : Int) = 95 by omega), decide_eq_false (show ¬ (c.toNat : Int) = 40 by omega), decide_eq_false (show ¬ (c.toNat : Int) = 91 by omega)]
    simp only [cond_false]
    rw [f_l6Letter (by omega), h0]
    simp only [evt]
    rw [f_l6Find e c (by omega) (by omega)]
    simp only [evt]
    cases hf : fnd e c with
    | none =>
     simp only [show decide ((-1 : Int) < 0) = true from rfl, cond_true]
     exact RP.fail (t := .mk 0 0 []) rfl
    | some k =>
     have := fnd_lt _ _ hf
     simp only [Option.bind_some]
     rw [decide_eq_false (show ¬ (k : Int) < 0 by omega), cond_false]
     by_cases hk : k ≤ 20
     ·rw [if_pos hk, decide_eq_false (show ¬ (20 : Int) < k by omega), cond_false, f_l1Leaf (by omega)]
      simp only [evt]
      exact RP.ok (j := at_ + 1) rfl (by omega) ht.symm
     ·rw [if_neg hk, decide_eq_true (show (20 : Int) < k by omega), cond_true]
      exact RP.fail (t := .mk 0 0 []) rfl
   have h0' : letB c = false := by simpa using h0
   rw [if_neg h0]
   by_cases h1 : c = 42
   ·rw [if_pos h1]; subst h1
    simp only [show decide (((((42 : UInt8).toNat : Nat) : Int)) = 42) = true from rfl, show decide (((((42 : UInt8).toNat : Nat) : Int)) = 78) = false from rfl, show decide (((((42 : UInt8).toNat : Nat) : Int)) = 48) = false from rfl, show decide (((((42 : UInt8).toNat : Nat) : Int)) = 43) = false from rfl, show decide (((((42 : UInt8).toNat : Nat) : Int)) = 33) = false from rfl, show decide (((((42 : UInt8).toNat : Nat) : Int)) = 94) = false from rfl, show decide (((((42 : UInt8).toNat : Nat) : Int)) = 95) = false from rfl, show decide (((((42 : UInt8).toNat : Nat) : Int)) = 40) = false from rfl, show decide (((((42 : UInt8).toNat : Nat) : Int)) = 91) = false from rfl, cond_true, cond_false]
    exact (lit.1 rfl).pass
   rw [if_neg h1]
   by_cases h2 : c = 78
   ·rw [if_pos h2]; subst h2
    simp only [show decide (((((78 : UInt8).toNat : Nat) : Int)) = 42) = false from rfl, show decide (((((78 : UInt8).toNat : Nat) : Int)) = 78) = true from rfl, show decide (((((78 : UInt8).toNat : Nat) : Int)) = 48) = false from rfl, show decide (((((78 : UInt8).toNat : Nat) : Int)) = 43) = false from rfl, show decide (((((78 : UInt8).toNat : Nat) : Int)) = 33) = false from rfl, show decide (((((78 : UInt8).toNat : Nat) : Int)) = 94) = false from rfl, show decide (((((78 : UInt8).toNat : Nat) : Int)) = 95) = false from rfl, show decide (((((78 : UInt8).toNat : Nat) : Int)) = 40) = false from rfl, show decide (((((78 : UInt8).toNat : Nat) : Int)) = 91) = false from rfl, cond_true, cond_false]
    exact (lit.2.1 rfl).pass
   rw [if_neg h2]
   by_cases h3 : c = 48
   ·rw [if_pos h3]; subst h3
    simp only [show decide (((((48 : UInt8).toNat : Nat) : Int)) = 42) = false from rfl, show decide (((((48 : UInt8).toNat : Nat) : Int)) = 78) = false from rfl, show decide (((((48 : UInt8).toNat : Nat) : Int)) = 48) = true from rfl, show decide (((((48 : UInt8).toNat : Nat) : Int)) = 43) = false from rfl, show decide (((((48 : UInt8).toNat : Nat) : Int)) = 33) = false from rfl, show decide (((((48 : UInt8).toNat : Nat) : Int)) = 94) = false from rfl, show decide (((((48 : UInt8).toNat : Nat) : Int)) = 95) = false from rfl, show decide (((((48 : UInt8).toNat : Nat) : Int)) = 40) = false from rfl, show decide (((((48 : UInt8).toNat : Nat) : Int)) = 91) = false from rfl, cond_true, cond_false]
    exact (lit.2.2 rfl).pass
   rw [if_neg h3]
   by_cases h4 : c = 43
   ·rw [if_pos h4]; subst h4
    simp only [show decide (((((43 : UInt8).toNat : Nat) : Int)) = 42) = false from rfl, show decide (((((43 : UInt8).toNat : Nat) : Int)) = 78) = false from rfl, show decide (((((43 : UInt8).toNat : Nat) : Int)) = 48) = false from rfl, show decide (((((43 : UInt8).toNat : Nat) : Int)) = 43) = true from rfl, show decide (((((43 : UInt8).toNat : Nat) : Int)) = 33) = false from rfl, show decide (((((43 : UInt8).toNat : Nat) : Int)) = 94) = false from rfl, show decide (((((43 : UInt8).toNat : Nat) : Int)) = 95) = false from rfl, show decide (((((43 : UInt8).toNat : Nat) : Int)) = 40) = false from rfl, show decide (((((43 : UInt8).toNat : Nat) : Int)) = 91) = false from rfl, cond_true, cond_false]
    obtain ⟨t, k, hr, hq⟩ := prefx
    simp only [sr, nt] at hr
    rw [hr]
    simp only [evt]
    rw [f_l1Node (by omega) _ _ (by simp)]
    simp only [evt]
    exact ⟨.mk 8 0 [t], k, rfl, hq.map fun b => .mk 8 0 [b]⟩
   rw [if_neg h4]
   by_cases h5 : c = 33
   ·rw [if_pos h5]; subst h5
    simp only [show decide (((((33 : UInt8).toNat : Nat) : Int)) = 42) = false from rfl, show decide (((((33 : UInt8).toNat : Nat) : Int)) = 78) = false from rfl, show decide (((((33 : UInt8).toNat : Nat) : Int)) = 48) = false from rfl, show decide (((((33 : UInt8).toNat : Nat) : Int)) = 43) = false from rfl, show decide (((((33 : UInt8).toNat : Nat) : Int)) = 33) = true from rfl, show decide (((((33 : UInt8).toNat : Nat) : Int)) = 94) = false from rfl, show decide (((((33 : UInt8).toNat : Nat) : Int)) = 95) = false from rfl, show decide (((((33 : UInt8).toNat : Nat) : Int)) = 40) = false from rfl, show decide (((((33 : UInt8).toNat : Nat) : Int)) = 91) = false from rfl, cond_true, cond_false]
    obtain ⟨t, k, hr, hq⟩ := prefx
    simp only [sr, nt] at hr
    rw [hr]
    simp only [evt]
    rw [f_l1Node (by omega) _ _ (by simp)]
    simp only [evt]
    exact ⟨.mk 11 0 [t], k, rfl, hq.map fun b => .mk 11 0 [b]⟩
   rw [if_neg h5]
   by_cases h6 : c = 94
   ·rw [if_pos h6]; subst h6
    simp only [show decide (((((94 : UInt8).toNat : Nat) : Int)) = 42) = false from rfl, show decide (((((94 : UInt8).toNat : Nat) : Int)) = 78) = false from rfl, show decide (((((94 : UInt8).toNat : Nat) : Int)) = 48) = false from rfl, show decide (((((94 : UInt8).toNat : Nat) : Int)) = 43) = false from rfl, show decide (((((94 : UInt8).toNat : Nat) : Int)) = 33) = false from rfl, show decide (((((94 : UInt8).toNat : Nat) : Int)) = 94) = true from rfl, show decide (((((94 : UInt8).toNat : Nat) : Int)) = 95) = false from rfl, show decide (((((94 : UInt8).toNat : Nat) : Int)) = 40) = false from rfl, show decide (((((94 : UInt8).toNat : Nat) : Int)) = 91) = false from rfl, cond_true, cond_false]
    obtain ⟨t, k, hr, hq⟩ := prefx
    simp only [sr, nt] at hr
    rw [hr]
    simp only [evt]
    rw [f_l1Node (by omega) _ _ (by simp)]
    simp only [evt]
    exact ⟨.mk 15 0 [t], k, rfl, hq.map fun b => .mk 15 0 [b]⟩
   rw [if_neg h6]
   by_cases h7 : c = 95
   ·rw [if_pos h7]; subst h7
    simp only [show decide (((((95 : UInt8).toNat : Nat) : Int)) = 42) = false from rfl, show decide (((((95 : UInt8).toNat : Nat) : Int)) = 78) = false from rfl, show decide (((((95 : UInt8).toNat : Nat) : Int)) = 48) = false from rfl, show decide (((((95 : UInt8).toNat : Nat) : Int)) = 43) = false from rfl, show decide (((((95 : UInt8).toNat : Nat) : Int)) = 33) = false from rfl, show decide (((((95 : UInt8).toNat : Nat) : Int)) = 94) = false from rfl, show decide (((((95 : UInt8).toNat : Nat) : Int)) = 95) = true from rfl, show decide (((((95 : UInt8).toNat : Nat) : Int)) = 40) = false from rfl, show decide (((((95 : UInt8).toNat : Nat) : Int)) = 91) = false from rfl, cond_true, cond_false]
    obtain ⟨t, k, hr, hq⟩ := prefx
    simp only [sr, nt] at hr
    rw [hr]
    simp only [evt]
    rw [f_l1Node (by omega) _ _ (by simp)]
    simp only [evt]
    exact ⟨.mk 16 0 [t], k, rfl, hq.map fun b => .mk 16 0 [b]⟩
   rw [if_neg h7]
   obtain ⟨n, rfl⟩ := pos_succ (show 0 < n by omega)
   by_cases h8 : c = 40
   ·rw [if_pos h8]; subst h8
    simp only [show decide (((((40 : UInt8).toNat : Nat) : Int)) = 42) = false from rfl, show decide (((((40 : UInt8).toNat : Nat) : Int)) = 78) = false from rfl, show decide (((((40 : UInt8).toNat : Nat) : Int)) = 48) = false from rfl, show decide (((((40 : UInt8).toNat : Nat) : Int)) = 43) = false from rfl, show decide (((((40 : UInt8).toNat : Nat) : Int)) = 33) = false from rfl, show decide (((((40 : UInt8).toNat : Nat) : Int)) = 94) = false from rfl, show decide (((((40 : UInt8).toNat : Nat) : Int)) = 95) = false from rfl, show decide (((((40 : UInt8).toNat : Nat) : Int)) = 40) = true from rfl, show decide (((((40 : UInt8).toNat : Nat) : Int)) = 91) = false from rfl, cond_true, cond_false]
    have := f_l6Round (n := n) (e := e) (at_ := at_ + 1) (by omega) hS (by omega) (by omega) (ih2 n (by omega))
    rw [ht] at this
    exact this.pass
   rw [if_neg h8]
   by_cases h9 : c = 91
   ·rw [if_pos h9]; subst h9
    simp only [show decide (((((91 : UInt8).toNat : Nat) : Int)) = 42) = false from rfl, show decide (((((91 : UInt8).toNat : Nat) : Int)) = 78) = false from rfl, show decide (((((91 : UInt8).toNat : Nat) : Int)) = 48) = false from rfl, show decide (((((91 : UInt8).toNat : Nat) : Int)) = 43) = false from rfl, show decide (((((91 : UInt8).toNat : Nat) : Int)) = 33) = false from rfl, show decide (((((91 : UInt8).toNat : Nat) : Int)) = 94) = false from rfl, show decide (((((91 : UInt8).toNat : Nat) : Int)) = 95) = false from rfl, show decide (((((91 : UInt8).toNat : Nat) : Int)) = 40) = false from rfl, show decide (((((91 : UInt8).toNat : Nat) : Int)) = 91) = true from rfl, cond_true, cond_false]
    have := f_l6Square (n := n) (e := e) (at_ := at_ + 1) (by omega) hS (by omega) (by omega) (ih2 n (by omega))
    rw [ht] at this
    exact this.pass
   rw [if_neg h9]
   rw [by_int (c := 42) (v := 42) rfl, by_int (c := 78) (v := 78) rfl, by_int (c := 48) (v := 48) rfl, by_int (c := 43) (v := 43) rfl, by_int (c := 33) (v := 33) rfl, by_int (c := 94) (v := 94) rfl, by_int (c := 95) (v := 95) rfl, by_int (c := 40) (v := 40) rfl, by_int (c := 91) (v := 91) rfl, decide_eq_false h1, decide_eq_false h2, decide_eq_false h3, decide_eq_false h4, decide_eq_false h5, decide_eq_false h6, decide_eq_false h7, decide_eq_false h8, decide_eq_false h9]
   simp only [cond_false]
   rw [f_l6Letter (by omega), h0']
   simp only [evt]
   obtain ⟨n, rfl⟩ := pos_succ (show 0 < n by omega)
   have := f_l6Block (n := n) (d := d) (e := e) (by omega) hS hd (by omega) (by omega) (fun a h => ih (by omega) e a (by omega) (by omega) h)
   exact this.pass
end Go.Proofs.YtnogehmgpfpjmaaGreatDoor
end
section
namespace Go.Proofs.YtnogehmgpfpjmaaGreatDoor
open Go Go.Ab Go.Dk
theorem eat_len {c : UInt8} {s r : List UInt8} (h : eat c s = some r) : r.length + 1 = s.length := by
 cases s with
 | nil => cases h
 | cons x s =>
  simp only [eat] at h
  split at h
  ·cases h; rfl
  ·cases h
def Dec (p : List UInt8 → Option (T × List UInt8)) : Prop := ∀ s t r, p s = some (t, r) → t.size + r.length ≤ s.length
theorem rdS_size {p : List UInt8 → Option (T × List UInt8)} (h : Dec p) (last : UInt8) : ∀ n s ts r, rdS p last n s = some (ts, r) → T.sizeL ts + r.length ≤ s.length
 | 0, s, ts, r, e => by cases e; simp [T.sizeL]
 | n + 1, s, ts, r, e => by
  rw [rdS] at e
  obtain ⟨x, h1, e⟩ := Option.bind_eq_some_iff.1 e
  obtain ⟨r1, h2, e⟩ := Option.bind_eq_some_iff.1 e
  obtain ⟨y, h3, e⟩ := Option.map_eq_some_iff.1 e
  cases e
  have := h s x.1 x.2 h1
  have := eat_len h2
  have := rdS_size h last n r1 y.1 y.2 h3
  simp only [T.sizeL]; omega
theorem sz_map {o : Option (T × List UInt8)} {k : Int} {t : T} {r s : List UInt8} (h : ∀ a q, o = some (a, q) → a.size + q.length ≤ s.length) (e : (o.map fun x => (T.mk k 0 [x.1], x.2)) = some (t, r)) : t.size + r.length ≤ s.length + 1 := by
 obtain ⟨x, h1, e⟩ := Option.map_eq_some_iff.1 e
 cases e
 have := h x.1 x.2 h1
 simp only [T.size, T.sizeL]; omega
theorem sz_S {o : Option (List T × List UInt8)} {k : Int} {t : T} {r s : List UInt8} (h : ∀ a q, o = some (a, q) → T.sizeL a + q.length ≤ s.length) (e : (o.map fun x => (T.mk k 0 x.1, x.2)) = some (t, r)) : t.size + r.length ≤ s.length + 1 := by
 obtain ⟨x, h1, e⟩ := Option.map_eq_some_iff.1 e
 cases e
 have := h x.1 x.2 h1
 simp only [T.size]; omega
theorem sz_two {p2 : List UInt8 → Option (T × List UInt8)} (h : Dec p2) {a : T} {q : List UInt8} {k : Int} {t : T} {r : List UInt8} (e : ((p2 q).bind fun b => (eat 41 b.2).map fun r => (T.mk k 0 [a, b.1], r)) = some (t, r)) : t.size + r.length ≤ a.size + q.length + 1 := by
 obtain ⟨b, h1, e⟩ := Option.bind_eq_some_iff.1 e
 obtain ⟨r1, h2, e⟩ := Option.map_eq_some_iff.1 e
 cases e
 have := h q b.1 b.2 h1
 have := eat_len h2
 simp only [T.size, T.sizeL]; omega
theorem ite_or {α : Type} {p : Prop} [Decidable p] {a b x : α} (h : (if p then a else b) = x) : (p ∧ a = x) ∨ (¬ p ∧ b = x) := by
 by_cases hp : p
 ·rw [if_pos hp] at h; exact .inl ⟨hp, h⟩
 ·rw [if_neg hp] at h; exact .inr ⟨hp, h⟩
theorem rd_size : ∀ (d : Nat) (env : List UInt8), Dec (rdI d env)
 | 0, env => fun s t r e => by cases e
 | d + 1, env => fun s t r e => by
  cases s with
  | nil => cases e
  | cons c s =>
   have ih := rd_size d
   rw [rdI] at e
   show t.size + r.length ≤ s.length + 1
   rcases ite_or e with ⟨hc, e⟩ | ⟨hc, e⟩
   ·obtain ⟨k, _, e⟩ := Option.map_eq_some_iff.1 e; cases e; simp only [T.size, T.sizeL]; omega
   rcases ite_or e with ⟨hc, e⟩ | ⟨hc, e⟩
   ·unfold numI at e
    split at e
    ·cases e; have := rnR_len s; simp only [T.size, T.sizeL]; omega
    ·cases e
   rcases ite_or e with ⟨hc, e⟩ | ⟨hc, e⟩
   ·cases e; simp only [T.size, T.sizeL]; omega
   rcases ite_or e with ⟨hc, e⟩ | ⟨hc, e⟩
   ·cases e; simp only [T.size, T.sizeL]; omega
   rcases ite_or e with ⟨hc, e⟩ | ⟨hc, e⟩
   ·exact sz_map (ih env s) e
   rcases ite_or e with ⟨hc, e⟩ | ⟨hc, e⟩
   ·exact sz_map (ih env s) e
   rcases ite_or e with ⟨hc, e⟩ | ⟨hc, e⟩
   ·exact sz_map (ih env s) e
   rcases ite_or e with ⟨hc, e⟩ | ⟨hc, e⟩
   ·exact sz_map (ih env s) e
   rcases ite_or e with ⟨hc, e⟩ | ⟨hc, e⟩
   ·split at e
    ·rename_i x s2 hb
     have := bnd_len hb
     obtain ⟨a, h1, e⟩ := Option.bind_eq_some_iff.1 e
     have h2 := ih env s2 a.1 a.2 h1
     split at e
     ·rename_i y q hq
      rw [hq, List.length_cons] at h2
      split at e
      ·have := sz_two (ih _) e; omega
      ·split at e
       ·have := sz_two (ih _) e; omega
       ·cases e
     ·cases e
    ·obtain ⟨a, h1, e⟩ := Option.bind_eq_some_iff.1 e
     obtain ⟨q, h2, e⟩ := Option.bind_eq_some_iff.1 e
     have := ih env s a.1 a.2 h1
     have := eat_len h2
     have := sz_two (ih _) e; omega
   rcases ite_or e with ⟨hc, e⟩ | ⟨hc, e⟩
   ·obtain ⟨x, hb, e⟩ := Option.bind_eq_some_iff.1 e
    have := bnd_len (y := x.1) (r := x.2) hb
    obtain ⟨a, h1, e⟩ := Option.bind_eq_some_iff.1 e
    obtain ⟨q, h2, e⟩ := Option.bind_eq_some_iff.1 e
    obtain ⟨b, h3, e⟩ := Option.map_eq_some_iff.1 e
    cases e
    have := ih env x.2 a.1 a.2 h1
    have := eat_len h2
    have := ih _ q b.1 b.2 h3
    simp only [T.size, T.sizeL]; omega
   rcases ite_or e with ⟨hc, e⟩ | ⟨hc, e⟩
   ·exact sz_S (rdS_size (ih env) 62 4 s) e
   rcases ite_or e with ⟨hc, e⟩ | ⟨hc, e⟩
   ·exact sz_S (rdS_size (ih env) 125 3 s) e
   rcases ite_or e with ⟨hc, e⟩ | ⟨hc, e⟩
   ·exact sz_S (rdS_size (ih env) 124 3 s) e
   rcases ite_or e with ⟨hc, e⟩ | ⟨hc, e⟩
   ·obtain ⟨q, h1, e⟩ := Option.bind_eq_some_iff.1 e
    have := eat_len h1
    have := sz_S (rdS_size (ih env) 62 3 q) e
    omega
   ·cases e
theorem f_NamesValidI {n : Nat} (l : List UInt8) (hl : l.length ≤ 1048577) (hn : l.length + 5 ≤ n) : FF n 27 [sr l] [] = some ([bl (nvB (bytesOf l))], []) := by
 obtain ⟨n, rfl⟩ : ∃ m, n = m + 3 := ⟨n - 3, by omega⟩
 have hs := by_size l
 rw [E_impl_NamesValid]
 refine nvI_loop (bytesOf l) (by omega) _ (fun c => ?_) (fun s c => ?_) (bytesOf l).size _ 0 (by omega) (by omega) (fun j hj => by omega)
 ·rw [f_isLetter (by omega), ← letB_eq]
 ·rw [E_strings_IndexByte, E_stringslite_IndexByte]
  simp only [byte_ok, byte_rt, evs]
theorem f_NamesValidS {n : Nat} (l : List UInt8) (hl : l.length ≤ 1048577) (hn : l.length + 5 ≤ n) : FF n 24 [sr l] [] = some ([bl (nvB (bytesOf l))], []) := by
 obtain ⟨n, rfl⟩ : ∃ m, n = m + 2 := ⟨n - 2, by omega⟩
 have hs := by_size l
 rw [E_spec_NamesValid]
 refine nvS_loop (bytesOf l) (by omega) _ (fun c => ?_) (fun t c ht => ?_) (bytesOf l).size _ 0 (by omega) (by omega) (fun j hj => by omega)
 ·rw [f_l6Letter (by omega), ← letB_eq]
 ·rw [E_spec_l6Find, wrap64 (by omega), find_loop t c (by omega) n t.size n (by omega) (Nat.le_refl _)]; rfl
def psX (s names : List UInt8) : T × Bool := if nvB (bytesOf names) = true then psR s names.reverse else (.mk 0 0 [], false)
theorem f_ParseNamedI {n : Nat} {s names : List UInt8} (hn : 5000000 ≤ n) (hs : s.length ≤ 3000000) (hm : names.length ≤ 1048577) : FF n 10 [sr s, sr names] [] = some ([tm (psX s names).1, bl (psX s names).2], []) := by
 obtain ⟨n, rfl⟩ := pos_succ (show 0 < n by omega)
 rw [E_impl_ParseNamed, f_NamesValidI names hm (by omega)]
 simp only [evt]
 unfold psX
 cases hv : nvB (bytesOf names) with
 | false => rw [if_neg (by simp), Bool.not_false, cond_true]; rfl
 | true =>
  have h20 := nvB_size hv
  rw [by_size] at h20
  rw [if_pos rfl, Bool.not_true, cond_false]
  have hr := f_readNamed (B := 3000000) (by omega) 30 (by omega) (n := n) names.reverse s (by omega) (by rw [List.length_reverse]; omega) hs
  rw [List.reverse_reverse, show (31 : Int) - ((30 : Nat) : Int) = 1 from rfl] at hr
  rw [psR_I]
  rcases hr.both with ⟨t, r, ho, hr⟩ | ⟨t, r, ho, hr, hb⟩
  ·rw [hr, ho]
   simp only [evt]
   rfl
  ·rw [hr, ho]
   simp only [evt, by_toList, ne_nil]
   have hz := rd_size 30 names.reverse s t r ho
   cases r with
   | cons y r => simp only [List.cons_ne_nil, decide_false, Bool.not_false, cond_true, cond_false]; rfl
   | nil =>
    simp only [decide_true, Bool.not_true, cond_false]
    rw [f_valid (by omega)]
    simp only [evt]
    cases validB t <;> rfl
theorem f_ParseNamedS {n : Nat} {s names : List UInt8} (hn : 5000000 ≤ n) (hs : s.length ≤ 3000000) (hm : names.length ≤ 1048577) : FF n 9 [sr s, sr names] [] = some ([tm (psX s names).1, bl (psX s names).2], []) := by
 obtain ⟨n, rfl⟩ := pos_succ (show 0 < n by omega)
 rw [E_spec_ParseNamed, f_NamesValidS names hm (by omega)]
 simp only [evt]
 unfold psX
 cases hv : nvB (bytesOf names) with
 | false => rw [if_neg (by simp), Bool.not_false, cond_true]; rfl
 | true =>
  have h20 := nvB_size hv
  rw [by_size] at h20
  rw [if_pos rfl, Bool.not_true, cond_false]
  have hr := f_l6Parse (S := s) (by omega) 30 (by omega) (n := n) names.reverse 0 (by omega) (by rw [List.length_reverse]; omega) (by omega)
  rw [List.reverse_reverse, List.drop_zero] at hr
  obtain ⟨t, k, hr, hq⟩ := hr
  simp only [sr, nt] at hr
  rw [show (30 : Int) = ((30 : Nat) : Int) from rfl, show (0 : Int) = ((0 : Nat) : Int) from rfl, hr]
  simp only [evt]
  unfold psR
  rcases hq with ⟨j, ho, hj, rfl⟩ | ⟨ho, rfl⟩ | ⟨ho, j, y, r, rfl, hd, _⟩
  ·have hsz : t.size ≤ s.length := by
     have := ho
     rw [rd_grd] at this
     obtain ⟨x, h1, h2⟩ := Option.bind_eq_some_iff.1 this
     split at h2
     ·cases h2; have := rd_size 30 names.reverse s _ _ h1; omega
     ·cases h2
   rw [ho, by_size]
   by_cases he : j = s.length
   ·rw [decide_eq_true (show (j : Int) = ((s.length : Nat) : Int) by omega), Bool.not_true, cond_false, f_TermValidS (by omega) (by omega), List.drop_of_length_le (show s.length ≤ j by omega)]
    simp only [evt]
    cases validB t <;> rfl
   ·rw [decide_eq_false (show ¬ (j : Int) = ((s.length : Nat) : Int) by omega), Bool.not_false, cond_true]
    cases hd : s.drop j with
    | nil => have := dp_nil hd; omega
    | cons y r => rfl
  ·rw [ho, by_size, decide_eq_false (show ¬ (-1 : Int) = ((s.length : Nat) : Int) by omega), Bool.not_false, cond_true]; rfl
  ·have := dp_lt hd
   rw [ho, by_size, decide_eq_false (show ¬ (j : Int) = ((s.length : Nat) : Int) by omega), Bool.not_false, cond_true]; rfl
end Go.Proofs.YtnogehmgpfpjmaaGreatDoor
end
