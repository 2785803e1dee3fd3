/- Function types taken apart: the reference by the abstract run, the program by a walk. -/
import Derived.Test.YthjbllfcelkajaaEvB
import Derived.Test.YthjbllfcelkajaaVal
set_option linter.unusedVariables false
set_option linter.unusedSimpArgs false
namespace Go.Proofs.Ythjbllfcelkajaa
open Go Go.Ab
open Go.Dk (Rd HT Grow T)
theorem s_SplitPi (t : HT) (x : T) (he : t.er = x) (n : Int) (Z : Go.Dk.Zone) (w : World) (hr : Rd Z w t) (hs : T.sizeL x.kids ≤ 1048576) : Calls Try.prog 28 #[t.val, .int .i64 n] w fun e w' =>
    ∃ u v : HT, e = .returned (.tuple #[u.sl, v.val, .bool (splR x n).2]) ∧ Grow w w' ∧ Rd (newZ Z w) w' u ∧ u.er = .mk 0 0 (splR x n).1.1 ∧ Rd (newZ Z w) w' v ∧ v.er = (splR x n).1.2 := by
  subst he
  exact ab_terms_term_bool Try.func28 (by kernel_rfl) (All2.cons (term_arg' hr) (All2.cons int_arg' All2.nil)) (f_SplitPiS (n := 10000000) (t := t.er) (k := n) (by omega) (by have := sizeT hs; omega))
theorem i_CountPi (t : HT) (Z : Go.Dk.Zone) (w : World) (hr : Rd Z w t) (hs : t.er.size ≤ 1048577) : Calls Try.prog 67 #[t.val] w fun e w' => e = .returned (.int .i64 (countP t.er : Nat)) ∧ Grow w w' :=
  ab_int Try.func67 (by kernel_rfl) (All2.cons (term_arg' hr) All2.nil) (f_CountPi (n := 10000000) (by omega) (by omega))
end Go.Proofs.Ythjbllfcelkajaa
namespace Go.Proofs.Ythjbllfcelkajaa
open Go Go.Dk
set_option maxRecDepth 100000 in
set_option maxHeartbeats 1000000 in
theorem i_SplitPi (t : HT) (x : T) (he : t.er = x) (n : Int) (Z : Zone) (w : World) (hr : Rd Z w t) (hs : T.sizeL x.kids ≤ 1048576) : Calls Try.prog 29 #[t.val, .int .i64 n] w fun e w' =>
    ∃ u v : HT, e = .returned (.tuple #[u.sl, v.val, .bool (splR x n).2]) ∧ Grow w w' ∧ Own2 w w' u v ∧ u.er = .mk 0 0 (splR x n).1.1 ∧ v.er = (splR x n).1.2 := by
  subst he
  have H := St.init w noneZ Z (rdF_stable t) hr
  have hsz : t.er.size ≤ 1048577 := by rw [T.size_eq]; omega
  have fin : ∀ {w' : World} {L : List Res} {P0 : Prop}, St w noneZ Z L (rdF t) w' → (validB t.er && decide (0 ≤ n ∧ n ≤ 8 ∧ n ≤ (countP t.er : Nat))) ≠ true →
      ∃ u v : HT, Ending.returned (Value.tuple #[.slice none 0 0, .agg #[.int .i64 0, .int .i64 0, .slice none 0 0], .bool false]) = .returned (.tuple #[u.sl, v.val, .bool (splR t.er n).2]) ∧ Grow w w' ∧ Own2 w w' u v ∧ u.er = .mk 0 0 (splR t.er n).1.1 ∧ v.er = (splR t.er n).1.2 := by
    intro w' L _ H h
    have e : splR t.er n = (([], .mk 0 0 []), false) := if_neg h
    rw [e]
    refine ⟨.mk 0 0 none 0 [], .mk 0 0 none 0 [], rfl, H.ext, ⟨⟨⟨Rd_none, by simp [HT.blocks, HT.head, HT.blocksL], fun b hb => ?_⟩, ⟨Rd_none, by simp [HT.blocks, HT.head, HT.blocksL], fun b hb => ?_⟩, fun b hb => ?_⟩, fun b hb => ?_⟩, rfl, rfl⟩ <;> simp [HT.blocks, HT.head, HT.blocksL] at hb
  go_enter Try.func29, Try.ntmps29
  repeat' ((first | (refine T_nil ?_) | ((first | apply U0 | (apply U1; (case hd => decide +kernel)) | (apply U2 (hw := H); (case hd => decide +kernel)) | (apply U3 1; (case hp => rfl); (case hd => decide +kernel)) | (apply U3 2; (case hp => rfl); (case hd => decide +kernel)) | (apply U3 3; (case hp => rfl); (case hd => decide +kernel)) | (apply U3 4; (case hp => rfl); (case hd => decide +kernel)) | (apply U3 5; (case hp => rfl); (case hd => decide +kernel)) | (apply U3 6; (case hp => rfl); (case hd => decide +kernel)) | (apply U3 7; (case hp => rfl); (case hd => decide +kernel)) | (apply U3 8; (case hp => rfl); (case hd => decide +kernel)) | (apply U3 9; (case hp => rfl); (case hd => decide +kernel)) | (apply U3 10; (case hp => rfl); (case hd => decide +kernel)) | (apply U3 11; (case hp => rfl); (case hd => decide +kernel))); (case hg => rfl); (case hy => (first | (apply Yi.a; constructor; all_goals (first | rfl | (constructor <;> omega) | (apply CellIs.own; (case h => repeat constructor); rfl) | (apply Cell3.own; (case h => repeat constructor); all_goals rfl))) | (apply Yi.b; constructor; all_goals (first | rfl | (constructor <;> omega) | (apply CellIs.own; (case h => repeat constructor); rfl) | (apply Cell3.own; (case h => repeat constructor); all_goals rfl))) | (apply Yi.c; constructor; all_goals (first | rfl | (constructor <;> omega) | (apply CellIs.own; (case h => repeat constructor); rfl) | (apply Cell3.own; (case h => repeat constructor); all_goals rfl)))))) | ((first | apply V0 | apply V1 | apply V2 (hw := H)); (case hg => rfl); try decide +kernel) | ((first | refine G0 H ?_ | (refine G1 H (fun _ _ _ _ h => h) (by decide +kernel) ?_; clear H; intro _ H)); simp only [enum, Nat.reduceAdd]) | (apply B0 (hw := H); (case hg => rfl); (case hd => first | exact hd_false | decide +kernel); (case hx => rfl); (case hc => rfl); clear H; intro bx _ H) | (apply B1 (hw := H); (case hg => rfl); (case hd => first | exact hd_false | decide +kernel); clear H; intro ax _ H) | ((apply W0 (hw := H); (case hg => rfl); (case hd => first | exact hd_false | decide +kernel); (case hx => rfl); (case hy => rfl); (case hc => rfl); (case hn => repeat constructor); (case h1 => rfl); clear H; intro _ H; (try dsimp only at H); try simp only [putL, List.set_cons_succ, List.set_cons_zero, evalT, evalC, List.getD_cons_succ, List.getD_cons_zero, Nat.zero_add, Nat.reduceAdd] at H)) | ((apply C0 (hw := H); (case hg => rfl); (case hd => first | exact hd_false | decide +kernel); (case hxs => rfl); (case hc => exact i_TermValid t _ _ H.per); clear H; intro _ H)) | ((apply C0 (hw := H); (case hg => rfl); (case hd => first | exact hd_false | decide +kernel); (case hxs => rfl); (case hc => exact i_CountPi t _ _ H.per hsz); clear H; intro _ H)) | ((apply K0 (hw := H); (case hg => rfl); (case hd => first | exact hd_false | decide +kernel); (case hx => rfl); (case hy => rfl))) | ((apply C0 (hw := H); (case hg => rfl); (case hd => first | exact hd_false | decide +kernel); (case hxs => rfl); (case hc => exact i_within n 0 _ _); clear H; intro _ H)) | go_step | (apply X0; (case hy => rfl); all_goals (intro hb; simp only [hb]; (try simp only [decide_eq_true_eq, decide_eq_false_iff_not, Bool.not_eq_true', Bool.not_eq_false', Bool.and_eq_true, Bool.or_eq_true, Bool.and_eq_false_iff, Bool.or_eq_false_iff] at hb); try (exfalso; omega)))) <;> try simp only [List.getElem_toArray, List.getElem_cons_zero, List.getElem_cons_succ, Act.put, evalT, evalC, evalF, List.setIfInBounds_toArray, List.set_cons_succ, List.set_cons_zero, List.getD_cons_succ, List.getD_cons_zero, Nat.reduceAdd, Nat.reduceMul, Nat.add_zero, Nat.zero_add, Int.toNat_natCast, Int.reduceToNat, List.eraseIdx_cons_succ, List.eraseIdx_cons_zero, cond_true, cond_false])
  · have hv : validB t.er = false := by assumption
    ((try simp only [Exit.inBlock, Exit.then]); refine ret_post (res3 rfl (R_tmp rfl) (R_cell rfl (load3 (ST3.out) (H.cell at0 rfl) (H.cell at0 rfl) (H.cell at0 rfl))) (R_tmp rfl)) ?_; try simp only [List.getD_cons_succ, List.getD_cons_zero])
    exact fin (P0 := True) H (by rw [hv]; simp)
  · have hv : validB t.er = true := by assumption
    have hw : (!(decide (0 ≤ n) && decide (n ≤ min 8 ((countP t.er : Nat) : Int)))) = true := by assumption
    ((try simp only [Exit.inBlock, Exit.then]); refine ret_post (res3 rfl (R_tmp rfl) (R_cell rfl (load3 (ST3.out) (H.cell at0 rfl) (H.cell at0 rfl) (H.cell at0 rfl))) (R_tmp rfl)) ?_; try simp only [List.getD_cons_succ, List.getD_cons_zero])
    refine fin (P0 := True) H ?_
    rw [hv]
    simp only [Bool.not_eq_true', Bool.and_eq_false_iff, decide_eq_false_iff_not, Bool.true_and, ne_eq, decide_eq_true_eq] at hw ⊢
    omega
  have hv : validB t.er = true := by assumption
  have hw : (!(decide (0 ≤ n) && decide (n ≤ min 8 ((countP t.er : Nat) : Int)))) = false := by assumption
  simp only [Bool.not_eq_false', Bool.and_eq_true, decide_eq_true_eq] at hw
  clear fin
  obtain ⟨K, rfl⟩ : ∃ K : Nat, n = K := ⟨n.toNat, by omega⟩
  have hcK : K ≤ cntP 400 t.er := by have : countP t.er = cntP 400 t.er := if_pos hv; omega
  have e : splR t.er K = (splT K t.er [], true) := by
    have : (validB t.er && decide (0 ≤ (K : Int) ∧ (K : Int) ≤ 8 ∧ (K : Int) ≤ (countP t.er : Nat))) = true := by rw [hv, Bool.true_and, decide_eq_true_eq]; omega
    have h2 : splR t.er K = (splT (K : Int).toNat t.er [], true) := if_pos this
    rw [h2, Int.toNat_natCast]
  have H := (H.pushRow 33 3).pushNone
  go_loopg [7, 21] K (fun g s v wr => ∃ (G : Nat) (us : List HT) (sa : Option Addr) (sc : Nat) (u : HT), s = .slice sa us.length sc ∧ v = .int .i64 us.length ∧ us.length + g = K ∧ validB u.er = true ∧ u.er.size ≤ G ∧ g ≤ cntP G u.er ∧ (∀ Z w, Rd Z w t → Rd Z w u) ∧ splT g u.er (us.map HT.er) = splT K t.er [] ∧
    St w noneZ Z [kidsR us, rowR 33 3 (.slice sa us.length sc) us.length (flatT us), blk ax [.int .i64 0, .int .i64 0, .slice none 0 0] 33, blk bx [.int .i64 u.k, .int .i64 u.n, .slice u.a u.kids.length u.cap] 33] (rdF t) wr)
  case atStart => exact ⟨400, [], _, _, t, rfl, rfl, by simp, hv, validB_size hv, hcK, fun _ _ h => h, rfl, H⟩
  case round =>
    clear H
    obtain ⟨G, us, sa, sc, u, rfl, rfl, hi, hvu, hG, hg, hsub, hspl, H⟩ := hrel
    match gk, G, hi, hG, hg, hspl with
    | g + 1, 0, hi, hG, hg, hspl => have := size_pos u.er; omega
    | g + 1, G + 1, hi, hG, hg, hspl =>
      have hk : u.er.k = 3 := by
        unfold cntP at hg
        by_cases h : u.er.k = 3
        · exact h
        · rw [if_neg h] at hg; omega
      obtain ⟨ea, eb, he, hva, hvb, hsb, hsa⟩ := pi_kids hvu hk
      have hl : u.kids.length = 2 := by rw [← HT.er_len, he]; rfl
      obtain ⟨x, y, hxy⟩ : ∃ x y, u.kids = [x, y] := by
        match hh : u.kids, hl with
        | [x, y], _ => exact ⟨x, y, rfl⟩
      have hee : u.er = .mk u.k u.n [x.er, y.er] := by rw [HT.er_eq, hxy]; rfl
      rw [he] at hee
      injection hee with h1 h2 h3
      injection h3 with h3 h4
      injection h4 with h4 _
      subst h3 h4
      have hx : u.kids[0]? = some x := by rw [hxy]; rfl
      have hy : u.kids[1]? = some y := by rw [hxy]; rfl
      obtain ⟨b, off, ha⟩ := (hsub _ _ hr).addr hx
      have hsx := validB_size hva
      repeat' ((first | (refine T_nil ?_) | ((first | apply U0 | (apply U1; (case hd => decide +kernel)) | (apply U2 (hw := H); (case hd => decide +kernel)) | (apply U3 1; (case hp => rfl); (case hd => decide +kernel)) | (apply U3 2; (case hp => rfl); (case hd => decide +kernel)) | (apply U3 3; (case hp => rfl); (case hd => decide +kernel)) | (apply U3 4; (case hp => rfl); (case hd => decide +kernel)) | (apply U3 5; (case hp => rfl); (case hd => decide +kernel)) | (apply U3 6; (case hp => rfl); (case hd => decide +kernel)) | (apply U3 7; (case hp => rfl); (case hd => decide +kernel)) | (apply U3 8; (case hp => rfl); (case hd => decide +kernel)) | (apply U3 9; (case hp => rfl); (case hd => decide +kernel)) | (apply U3 10; (case hp => rfl); (case hd => decide +kernel)) | (apply U3 11; (case hp => rfl); (case hd => decide +kernel))); (case hg => rfl); (case hy => (first | (apply Yi.a; constructor; all_goals (first | rfl | (constructor <;> omega) | (apply CellIs.own; (case h => repeat constructor); rfl) | (apply Cell3.own; (case h => repeat constructor); all_goals rfl) | exact ha | exact .mk fun w h => (Rd.elem (hsub _ _ h.per) ha hx).1 | exact .mk fun w h => (Rd.elem (hsub _ _ h.per) ha hy).1)) | (apply Yi.b; constructor; all_goals (first | rfl | (constructor <;> omega) | (apply CellIs.own; (case h => repeat constructor); rfl) | (apply Cell3.own; (case h => repeat constructor); all_goals rfl) | exact ha | exact .mk fun w h => (Rd.elem (hsub _ _ h.per) ha hx).1 | exact .mk fun w h => (Rd.elem (hsub _ _ h.per) ha hy).1)) | (apply Yi.c; constructor; all_goals (first | rfl | (constructor <;> omega) | (apply CellIs.own; (case h => repeat constructor); rfl) | (apply Cell3.own; (case h => repeat constructor); all_goals rfl) | exact ha | exact .mk fun w h => (Rd.elem (hsub _ _ h.per) ha hx).1 | exact .mk fun w h => (Rd.elem (hsub _ _ h.per) ha hy).1))))) | ((first | apply V0 | apply V1 | apply V2 (hw := H)); (case hg => rfl); try decide +kernel) | ((first | refine G0 H ?_ | (refine G1 H (fun _ _ _ _ h => h) (by decide +kernel) ?_; clear H; intro _ H)); simp only [enum, Nat.reduceAdd]) | (apply B0 (hw := H); (case hg => rfl); (case hd => first | exact hd_false | decide +kernel); (case hx => rfl); (case hc => rfl); clear H; intro bx _ H) | (apply B1 (hw := H); (case hg => rfl); (case hd => first | exact hd_false | decide +kernel); clear H; intro ax _ H) | ((apply W0 (hw := H); (case hg => rfl); (case hd => first | exact hd_false | decide +kernel); (case hx => rfl); (case hy => rfl); (case hc => rfl); (case hn => repeat constructor); (case h1 => rfl); clear H; intro _ H; (try dsimp only at H); try simp only [putL, List.set_cons_succ, List.set_cons_zero, evalT, evalC, List.getD_cons_succ, List.getD_cons_zero, Nat.zero_add, Nat.reduceAdd] at H)) | ((apply C1; (case hg => rfl); (case hd => first | exact hd_false | decide +kernel); (case hxs => rfl); (case hc => exact i_own x _ _ (Rd.elem (hsub _ _ H.per) ha hx).2 (by omega)); rintro _ _ ⟨z, rfl, hgr, ho, hez⟩; replace H := H.pushTree hgr ho; (try simp only [List.set_cons_succ, List.set_cons_zero] at H); refine ⟨_, rfl, _, (by first | exact fun _ _ h => h | exact fun _ _ h => h.tail | exact fun _ _ h => h.unfact (by repeat' (first | exact Stable.true | exact rdF_stable _ | exact iF_stable _ _ | apply Stable.and)) (fun _ _ h => h.2) | exact nofun), H, ?_⟩)) | ((apply B2 (hw := H); (case hg => rfl); (case hd => first | exact hd_false | decide +kernel); (case hvs => (simp only [List.map_cons, List.map_nil, evalT, evalC, List.getD_cons_succ, List.getD_cons_zero]; rfl)); (case hcs => (simp only [flatC, List.flatMap_cons, List.flatMap_nil, Value.cells, HT.val, List.cons_append, List.nil_append, List.append_nil]; rfl)); (case hix => rfl); (case hn => rfl); (case hsz => rfl); (case hb => rfl); clear H; intro sx _ H)) | ((apply A1 (hw := H) (i := 3) (p := 0); (case hg => rfl); (case hd => first | exact hd_false | decide +kernel); (case hx => rfl); (case hy => rfl); (case hi => rfl); (case hq => rfl); (case hl => rfl); (case h1 => rfl); (case hbytes => omega); (case h63 => omega); clear H; intro ra rc _ H; (try simp only [List.set_cons_succ, List.set_cons_zero] at H))) | go_step | (apply X0; (case hy => rfl); all_goals (intro hb; simp only [hb]; (try simp only [decide_eq_true_eq, decide_eq_false_iff_not, Bool.not_eq_true', Bool.not_eq_false', Bool.and_eq_true, Bool.or_eq_true, Bool.and_eq_false_iff, Bool.or_eq_false_iff] at hb); try (exfalso; omega)))) <;> try simp only [List.getElem_toArray, List.getElem_cons_zero, List.getElem_cons_succ, Act.put, evalT, evalC, evalF, List.setIfInBounds_toArray, List.set_cons_succ, List.set_cons_zero, List.getD_cons_succ, List.getD_cons_zero, Nat.reduceAdd, Nat.reduceMul, Nat.add_zero, Nat.zero_add, Int.toNat_natCast, Int.reduceToNat, List.eraseIdx_cons_succ, List.eraseIdx_cons_zero, cond_true, cond_false])
      have H := H.tail.snoc
      go_roundg g
      case measure => omega
      case rel =>
        refine ⟨G, us ++ [z], ra, rc, y, by simp, by simp, by simp; omega, hvb, ?_, ?_, fun Z w h => (Rd.elem (hsub Z w h) ha hy).2, ?_, by rw [flatT_append, List.length_append]; exact H⟩
        · rw [he] at hG; simp only [T.size, T.sizeL] at hG; omega
        · unfold cntP at hg
          rw [if_pos hk, he] at hg
          simp only [mk_kids, List.getD_cons_succ, List.getD_cons_zero] at hg
          omega
        · rw [← hspl, he, splT]
          simp only [mk_kids, List.getD_cons_succ, List.getD_cons_zero, List.map_append, List.map_cons, List.map_nil, hez]
    | 0, G, hi, hG, hg, hspl =>
      obtain ⟨a, cap, hv2, H⟩ := H.swap.plantRow rfl rfl 0 0
      injection hv2 with h1 h2 h3
      subst h1 h3
      simp only [splT] at hspl
      have hsu := validB_size hvu
      have hlt' : ¬ ((us.length : Int) < (K : Int)) := by omega
      repeat' ((first | (refine T_nil ?_) | ((first | apply U0 | (apply U1; (case hd => decide +kernel)) | (apply U2 (hw := H); (case hd => decide +kernel)) | (apply U3 1; (case hp => rfl); (case hd => decide +kernel)) | (apply U3 2; (case hp => rfl); (case hd => decide +kernel)) | (apply U3 3; (case hp => rfl); (case hd => decide +kernel)) | (apply U3 4; (case hp => rfl); (case hd => decide +kernel)) | (apply U3 5; (case hp => rfl); (case hd => decide +kernel)) | (apply U3 6; (case hp => rfl); (case hd => decide +kernel)) | (apply U3 7; (case hp => rfl); (case hd => decide +kernel)) | (apply U3 8; (case hp => rfl); (case hd => decide +kernel)) | (apply U3 9; (case hp => rfl); (case hd => decide +kernel)) | (apply U3 10; (case hp => rfl); (case hd => decide +kernel)) | (apply U3 11; (case hp => rfl); (case hd => decide +kernel))); (case hg => rfl); (case hy => (first | (apply Yi.a; constructor; all_goals (first | rfl | (constructor <;> omega) | (apply CellIs.own; (case h => repeat constructor); rfl) | (apply Cell3.own; (case h => repeat constructor); all_goals rfl))) | (apply Yi.b; constructor; all_goals (first | rfl | (constructor <;> omega) | (apply CellIs.own; (case h => repeat constructor); rfl) | (apply Cell3.own; (case h => repeat constructor); all_goals rfl))) | (apply Yi.c; constructor; all_goals (first | rfl | (constructor <;> omega) | (apply CellIs.own; (case h => repeat constructor); rfl) | (apply Cell3.own; (case h => repeat constructor); all_goals rfl)))))) | ((first | apply V0 | apply V1 | apply V2 (hw := H)); (case hg => rfl); try decide +kernel) | ((first | refine G0 H ?_ | (refine G1 H (fun _ _ _ _ h => h) (by decide +kernel) ?_; clear H; intro _ H)); simp only [enum, Nat.reduceAdd]) | (apply B0 (hw := H); (case hg => rfl); (case hd => first | exact hd_false | decide +kernel); (case hx => rfl); (case hc => rfl); clear H; intro bx _ H) | (apply B1 (hw := H); (case hg => rfl); (case hd => first | exact hd_false | decide +kernel); clear H; intro ax _ H) | ((apply W0 (hw := H); (case hg => rfl); (case hd => first | exact hd_false | decide +kernel); (case hx => rfl); (case hy => rfl); (case hc => rfl); (case hn => repeat constructor); (case h1 => rfl); clear H; intro _ H; (try dsimp only at H); try simp only [putL, List.set_cons_succ, List.set_cons_zero, evalT, evalC, List.getD_cons_succ, List.getD_cons_zero, Nat.zero_add, Nat.reduceAdd] at H)) | ((apply C1; (case hg => rfl); (case hd => first | exact hd_false | decide +kernel); (case hxs => rfl); (case hc => exact i_own u _ _ (hsub _ _ H.per) (by omega)); rintro _ _ ⟨z, rfl, hgr, ho, hez⟩; replace H := (H.pushTree hgr ho).swap; (try simp only [List.set_cons_succ, List.set_cons_zero] at H); refine ⟨_, rfl, _, (by first | exact fun _ _ h => h | exact fun _ _ h => h.tail | exact fun _ _ h => h.unfact (by repeat' (first | exact Stable.true | exact rdF_stable _ | exact iF_stable _ _ | apply Stable.and)) (fun _ _ h => h.2) | exact nofun), H, ?_⟩)) | go_step | (apply X0; (case hy => rfl); all_goals (intro hb; simp only [hb]; (try simp only [decide_eq_true_eq, decide_eq_false_iff_not, Bool.not_eq_true', Bool.not_eq_false', Bool.and_eq_true, Bool.or_eq_true, Bool.and_eq_false_iff, Bool.or_eq_false_iff] at hb); try (exfalso; omega)))) <;> try simp only [List.getElem_toArray, List.getElem_cons_zero, List.getElem_cons_succ, Act.put, evalT, evalC, evalF, List.setIfInBounds_toArray, List.set_cons_succ, List.set_cons_zero, List.getD_cons_succ, List.getD_cons_zero, Nat.reduceAdd, Nat.reduceMul, Nat.add_zero, Nat.zero_add, Int.toNat_natCast, Int.reduceToNat, List.eraseIdx_cons_succ, List.eraseIdx_cons_zero, cond_true, cond_false])
      ((try simp only [Exit.inBlock, Exit.then]); refine ret_post (res3 rfl (R_tmp rfl) (R_cell rfl (load3 (ST3.out) (H.cell at2 rfl) (H.cell at2 rfl) (H.cell at2 rfl))) (R_tmp rfl)) ?_; try simp only [List.getD_cons_succ, List.getD_cons_zero])
      rw [e]
      refine ⟨.mk 0 0 sa sc us, z, rfl, H.ext, H.outTwo, ?_, ?_⟩
      · rw [← hspl, HT.er_eq]; rfl
      · rw [← hspl]; exact hez
end Go.Proofs.Ythjbllfcelkajaa
