/- Part 7 of the proof. -/
import Derived.Test.YtnogehmgpfpjmaaGreatDoorP01
import Derived.Test.YtnogehmgpfpjmaaGreatDoorP02
import Derived.Test.YtnogehmgpfpjmaaGreatDoorP03
import Derived.Test.YtnogehmgpfpjmaaGreatDoorP04
import Derived.Test.YtnogehmgpfpjmaaGreatDoorP05
import Derived.Test.YtnogehmgpfpjmaaGreatDoorP06
import Derived.ChangeArms
import Derived.Deep.Slices
import Derived.Deep.Strs
import Derived.WalkKit
import Derived.ProofKit
import Derived.OpenShut
import Derived.ShutString
import Derived.ChangeOld
import Derived.Below
import Derived.Test.YtnogehmgpfpjmaaGreatDoorCards
import Derived.Test.YtnogehmgpfpjmaaGreatDoorTie
import Derived.HandedShaped
import Derived.LaidMore
import Derived.Lay
import Derived.Stop.Joined
import Derived.Shelf.Vars
import Derived.Lib.LaidU8
import Derived.SevenTiedAt
set_option linter.unusedVariables false
set_option linter.unusedSimpArgs false
section
namespace Go.Proofs.YtnogehmgpfpjmaaGreatDoor
open Go Go.Ab Go.Dk
theorem by_len (b : ByteArray) : b.toList.length = b.size := by rw [ByteArray.toList_eq, Array.length_toList]; rfl
theorem sr_id (b : ByteArray) : sr b.toList = .one (.str b) := by unfold sr; rw [by_id]
theorem s_ParseNamed (x y : ByteArray) (hx : x.size ≤ 1048576) (hy : y.size ≤ 1048576) (Z : Zone) (w : World) (hgl : GL noneZ w) : Calls Tryz.prog 9 #[.string x, .string y] w fun e w' =>
   ∃ u : HT, e = .returned (.tuple #[u.val, .bool (psX x.toList y.toList).2]) ∧ Grow w w' ∧ Rd (newZ Z w) w' u ∧ u.er = (psX x.toList y.toList).1 := by
 have e := f_ParseNamedS (n := 5000000) (s := x.toList) (names := y.toList) (by omega) (by rw [by_len]; omega) (by rw [by_len]; omega)
 rw [sr_id, sr_id] at e
 exact ab_term_bool Tryz.func9 (by kernel_rfl) (All2.cons str_arg' (All2.cons str_arg' All2.nil)) hgl e
theorem psX_bd (x y : List UInt8) : T.sizeL (psX x y).1.kids ≤ 1000000 := by
 have key : ∀ z : T × Bool, (z = (.mk 0 0 [], false) ∨ validB z.1 = true) → T.sizeL z.1.kids ≤ 1000000 := fun z h => by
  rcases h with rfl | h
  ·decide
  ·have h1 := validB_size h
   rw [T.size_eq] at h1
   omega
 refine key _ ?_
 unfold psX
 split
 ·unfold psR
  split
  ·split
   ·rename_i h; exact .inr h
   ·exact .inl rfl
  ·exact .inl rfl
 ·exact .inl rfl
theorem q_NamesValid {n : Nat} {x : ByteArray} {b : Bool} {w : World} (hgl : GL noneZ w) (h : FF n 27 [.one (.str x)] [] = some ([bl b], [])) : Calls Tryz.prog 27 #[.string x] w fun e w' => e = .returned (.bool b) ∧ Grow w w' :=
 ab_bool (Z := noneZ) Tryz.func27 (by kernel_rfl) (All2.cons str_arg' All2.nil) hgl h
theorem tb_inj {a : T} {p : Bool} {b : T} {q : Bool} (h : (some ([tm a, bl p], []) : OR) = some ([tm b, bl q], [])) : a = b ∧ p = q := by
 cases a; cases b
 simp only [tm, bl, Option.some.injEq, Prod.mk.injEq, List.cons.injEq, V1.agg.injEq, V1.one.injEq, SV.int.injEq, SV.bool.injEq, SV.fr.injEq, SD.ts.injEq, true_and, and_true, mk_k, mk_n, mk_kids] at h
 obtain ⟨⟨h1, h2, h3⟩, h4⟩ := h
 have h1 : _ = _ := h1
 have h2 : _ = _ := h2
 have h3 : _ = _ := h3
 exact ⟨by rw [h1, h2, h3], h4⟩
attribute [local irreducible] Calls
set_option maxRecDepth 100000 in
set_option maxHeartbeats 1000000 in
theorem q_valid (t : HT) (b : Bool) (hb : validB t.er = b) (Z : Zone) (w : World) (hr : Rd Z w t) (hgl : GL noneZ w) : Calls Tryz.prog 29 #[t.val] w fun e w' => e = .returned (.tuple #[cond b t.val (.agg #[.int .i64 0, .int .i64 0, .slice none 0 0]), .bool b]) ∧ Grow w w' := by
 subst hb
 have H := St.init w noneZ Z (rdF_stable t) hr
 go_enter Tryz.func29, Tryz.ntmps29
 repeat' ((first | (refine T_nil ?_) | ((first | apply U0 | (apply U1; (case hd => decide +kernel)) | (apply U2 (hw := H); (case hd => decide +kernel)) | (apply U3 1; (case hp => rfl); (case hd => decide +kernel)) | (apply U3 2; (case hp => rfl); (case hd => decide +kernel)) | (apply U3 3; (case hp => rfl); (case hd => decide +kernel)) | (apply U3 4; (case hp => rfl); (case hd => decide +kernel)) | (apply U3 5; (case hp => rfl); (case hd => decide +kernel)) | (apply U3 6; (case hp => rfl); (case hd => decide +kernel)) | (apply U3 7; (case hp => rfl); (case hd => decide +kernel)) | (apply U3 8; (case hp => rfl); (case hd => decide +kernel)) | (apply U3 9; (case hp => rfl); (case hd => decide +kernel)) | (apply U3 10; (case hp => rfl); (case hd => decide +kernel)) | (apply U3 11; (case hp => rfl); (case hd => decide +kernel))); (case hg => rfl); (case hy => (first | (apply Yi.a; constructor; all_goals (first | rfl | (constructor <;> omega) | (apply CellIs.own; (case h => repeat constructor); rfl) | (apply Cell3.own; (case h => repeat constructor); all_goals rfl))) | (apply Yi.b; constructor; all_goals (first | rfl | (constructor <;> omega) | (apply CellIs.own; (case h => repeat constructor); rfl) | (apply Cell3.own; (case h => repeat constructor); all_goals rfl))) | (apply Yi.c; constructor; all_goals (first | rfl | (constructor <;> omega) | (apply CellIs.own; (case h => repeat constructor); rfl) | (apply Cell3.own; (case h => repeat constructor); all_goals rfl)))))) | ((first | apply V0 | apply Go.Dk.V1 | apply V2 (hw := H)); (case hg => rfl); try decide +kernel) | ((first | refine G0 H ?_ | (refine G1 H (fun _ _ _ _ h => h) (by decide +kernel) ?_; clear H; intro _ H)); simp only [enum, Nat.reduceAdd]) | (apply B0 (hw := H); (case hg => rfl); (case hd => first | with_reducible exact hd_false | decide +kernel); (case hx => rfl); (case hc => rfl); clear H; intro bx _ H) | (apply B1 (hw := H); (case hg => rfl); (case hd => first | with_reducible exact hd_false | decide +kernel); clear H; intro ax _ H) | ((apply W0 (hw := H); (case hg => rfl); (case hd => first | with_reducible exact hd_false | decide +kernel); (case hx => rfl); (case hy => rfl); (case hc => rfl); (case hn => repeat constructor); (case h1 => rfl); clear H; intro _ H; (try dsimp only at H); try simp only [putL, List.set_cons_succ, List.set_cons_zero, evalT, evalC, List.getD_cons_succ, List.getD_cons_zero, Nat.zero_add, Nat.reduceAdd] at H)) | ((apply C0 (hw := H); (case hg => rfl); (case hd => first | with_reducible exact hd_false | decide +kernel); (case hxs => rfl); (case hc => exact i_TermValid t _ _ H.per (hgl.now H.ext)); clear H; intro _ H)) | go_step | (apply X0; (case hy => rfl); all_goals (intro hb; simp only [hb]; (try simp only [decide_eq_true_eq, decide_eq_false_iff_not, Bool.not_eq_true', Bool.not_eq_false', Bool.and_eq_true, Bool.or_eq_true, Bool.and_eq_false_iff, Bool.or_eq_false_iff] at hb); try (exfalso; omega)))) <;> try simp only [List.getElem_toArray, List.getElem_cons_zero, List.getElem_cons_succ, Act.put, evalT, evalC, evalF, List.setIfInBounds_toArray, List.set_cons_succ, List.set_cons_zero, List.getD_cons_succ, List.getD_cons_zero, Nat.reduceAdd, Nat.reduceMul, Nat.add_zero, Nat.zero_add, Int.toNat_natCast, Int.reduceToNat, List.eraseIdx_cons_succ, List.eraseIdx_cons_zero, cond_true, cond_false])
 ·have hv : (!validB t.er) = true := by assumption
  simp only [Bool.not_eq_true'] at hv
  ((try simp only [Exit.inBlock, Exit.then]); refine ret_post (res2 rfl (R_cell rfl (load3 (ST3.out) (H.cell at0 rfl) (H.cell at0 rfl) (H.cell at0 rfl))) (R_tmp rfl)) ?_; try simp only [List.getD_cons_succ, List.getD_cons_zero])
  rw [hv]
  exact ⟨rfl, H.ext⟩
 ·have hv : (!validB t.er) = false := by assumption
  simp only [Bool.not_eq_false'] at hv
  ((try simp only [Exit.inBlock, Exit.then]); refine ret_post (res2 rfl (R_cell rfl (load3 (ST3.out) (H.cell at0 rfl) (H.cell at0 rfl) (H.cell at0 rfl))) (R_tmp rfl)) ?_; try simp only [List.getD_cons_succ, List.getD_cons_zero])
  rw [hv]
  exact ⟨rfl, H.ext⟩
set_option maxRecDepth 100000 in
set_option maxHeartbeats 4000000 in
theorem i_ParseNamed (x y : ByteArray) (hx : x.size ≤ 1048576) (hy : y.size ≤ 1048576) (w : World) (hgl : GL noneZ w) : Calls Tryz.prog 10 #[.string x, .string y] w fun e w' =>
   ∃ u : HT, e = .returned (.tuple #[u.val, .bool (psX x.toList y.toList).2]) ∧ Grow w w' ∧ Own w w' u ∧ u.er = (psX x.toList y.toList).1 := by
 have h := f_ParseNamedI (n := 5000000) (s := x.toList) (names := y.toList) (by omega) (by rw [by_len]; omega) (by rw [by_len]; omega)
 rw [sr_id, sr_id] at h
 obtain ⟨n, hn⟩ : ∃ n, n + 1 = 5000000 := ⟨4999999, rfl⟩
 rw [← hn] at h
 generalize (psX x.toList y.toList).1 = t at h
 generalize (psX x.toList y.toList).2 = b at h
 have H := St.init w noneZ noneZ Stable.true trivial
 rw [E_impl_ParseNamed] at h
 have hnv := f_NamesValidI (n := n) y.toList (by rw [by_len]; omega) (by rw [by_len]; omega)
 rw [sr_id, by_id] at hnv
 rw [hnv] at h
 simp only [evt] at h
 cases hv : nvB y with
 | false =>
  rw [hv] at h hnv
  simp only [Bool.not_false, cond_true] at h
  obtain ⟨rfl, rfl⟩ := tb_inj (a := .mk 0 0 []) (p := false) h
  go_enter Tryz.func10, Tryz.ntmps10
  repeat' ((first | (refine T_nil ?_) | ((first | apply U0 | (apply U1; (case hd => decide +kernel)) | (apply U2 (hw := H); (case hd => decide +kernel)) | (apply U3 1; (case hp => rfl); (case hd => decide +kernel)) | (apply U3 2; (case hp => rfl); (case hd => decide +kernel)) | (apply U3 3; (case hp => rfl); (case hd => decide +kernel)) | (apply U3 4; (case hp => rfl); (case hd => decide +kernel)) | (apply U3 5; (case hp => rfl); (case hd => decide +kernel)) | (apply U3 6; (case hp => rfl); (case hd => decide +kernel)) | (apply U3 7; (case hp => rfl); (case hd => decide +kernel)) | (apply U3 8; (case hp => rfl); (case hd => decide +kernel)) | (apply U3 9; (case hp => rfl); (case hd => decide +kernel)) | (apply U3 10; (case hp => rfl); (case hd => decide +kernel)) | (apply U3 11; (case hp => rfl); (case hd => decide +kernel))); (case hg => rfl); (case hy => (first | (apply Yi.a; constructor; all_goals (first | rfl | (constructor <;> omega) | (apply CellIs.own; (case h => repeat constructor); rfl) | (apply Cell3.own; (case h => repeat constructor); all_goals rfl))) | (apply Yi.b; constructor; all_goals (first | rfl | (constructor <;> omega) | (apply CellIs.own; (case h => repeat constructor); rfl) | (apply Cell3.own; (case h => repeat constructor); all_goals rfl))) | (apply Yi.c; constructor; all_goals (first | rfl | (constructor <;> omega) | (apply CellIs.own; (case h => repeat constructor); rfl) | (apply Cell3.own; (case h => repeat constructor); all_goals rfl)))))) | ((first | apply V0 | apply Go.Dk.V1 | apply V2 (hw := H)); (case hg => rfl); try decide +kernel) | ((first | refine G0 H ?_ | (refine G1 H (fun _ _ _ _ h => h) (by decide +kernel) ?_; clear H; intro _ H)); simp only [enum, Nat.reduceAdd]) | (apply B0 (hw := H); (case hg => rfl); (case hd => first | with_reducible exact hd_false | decide +kernel); (case hx => rfl); (case hc => rfl); clear H; intro bx _ H) | (apply B1 (hw := H); (case hg => rfl); (case hd => first | with_reducible exact hd_false | decide +kernel); clear H; intro ax _ H) | ((apply W0 (hw := H); (case hg => rfl); (case hd => first | with_reducible exact hd_false | decide +kernel); (case hx => rfl); (case hy => rfl); (case hc => rfl); (case hn => repeat constructor); (case h1 => rfl); clear H; intro _ H; (try dsimp only at H); try simp only [putL, List.set_cons_succ, List.set_cons_zero, evalT, evalC, List.getD_cons_succ, List.getD_cons_zero, Nat.zero_add, Nat.reduceAdd] at H)) | ((apply C0 (hw := H); (case hg => rfl); (case hd => first | with_reducible exact hd_false | decide +kernel); (case hxs => rfl); (case hc => exact q_NamesValid (hgl.now H.ext) hnv); clear H; intro _ H)) | go_step | (apply X0; (case hy => rfl); all_goals (intro hb; simp only [hb]; (try simp only [decide_eq_true_eq, decide_eq_false_iff_not, Bool.not_eq_true', Bool.not_eq_false', Bool.and_eq_true, Bool.or_eq_true, Bool.and_eq_false_iff, Bool.or_eq_false_iff] at hb); try (exfalso; omega)))) <;> try simp only [List.getElem_toArray, List.getElem_cons_zero, List.getElem_cons_succ, Act.put, evalT, evalC, evalF, List.setIfInBounds_toArray, List.set_cons_succ, List.set_cons_zero, List.getD_cons_succ, List.getD_cons_zero, Nat.reduceAdd, Nat.reduceMul, Nat.add_zero, Nat.zero_add, Int.toNat_natCast, Int.reduceToNat, List.eraseIdx_cons_succ, List.eraseIdx_cons_zero, cond_true, cond_false])
  ((try simp only [Exit.inBlock, Exit.then]); refine ret_post (res2 rfl (R_cell rfl (load3 (ST3.out) (H.cell at0 rfl) (H.cell at0 rfl) (H.cell at0 rfl))) (R_tmp rfl)) ?_; try simp only [List.getD_cons_succ, List.getD_cons_zero])
  exact ⟨.mk 0 0 none 0 [], rfl, H.ext, own_leaf _ _ _ _ _ _, rfl⟩
 | true =>
  have h20 := nvB_size hv
  rw [hv] at h hnv
  simp only [Bool.not_true, cond_false] at h
  (obtain ⟨⟨q1, q2⟩, hf2, g0⟩ := v_bind h; clear h; (try dsimp only at g0); obtain ⟨t1, q3, e1, g1⟩ := v_rTerm g0; clear g0; subst e1; obtain ⟨r1, q3, e1, g2⟩ := v_rStr g1; clear g1; subst e1; obtain ⟨b1, q3, e1, g3⟩ := v_rBool g2; clear g2; subst e1; obtain ⟨e1, g4⟩ := v_nilV g3; clear g3; subst e1; obtain ⟨e1, h⟩ := v_nilO g4; clear g4; subst e1; (try dsimp only at h))
  have ih : ∀ w, GL noneZ w → Calls Tryz.prog 28 #[.string x, .string y, .int .i64 1] w fun e w' => ∃ u : HT, e = .returned (.tuple #[u.val, .string r1, .bool b1]) ∧ Grow w w' ∧ Own w w' u ∧ u.er = t1 := fun w hgl =>
   i_readNamed 30 (by omega) n x y t1 r1 b1 w (by omega) (by omega) hgl hf2
  cases b1 with
  | false =>
   simp only [Bool.not_false, cond_true] at h
   obtain ⟨rfl, rfl⟩ := tb_inj (a := .mk 0 0 []) (p := false) h
   go_enter Tryz.func10, Tryz.ntmps10
   repeat' ((first | (refine T_nil ?_) | ((first | apply U0 | (apply U1; (case hd => decide +kernel)) | (apply U2 (hw := H); (case hd => decide +kernel)) | (apply U3 1; (case hp => rfl); (case hd => decide +kernel)) | (apply U3 2; (case hp => rfl); (case hd => decide +kernel)) | (apply U3 3; (case hp => rfl); (case hd => decide +kernel)) | (apply U3 4; (case hp => rfl); (case hd => decide +kernel)) | (apply U3 5; (case hp => rfl); (case hd => decide +kernel)) | (apply U3 6; (case hp => rfl); (case hd => decide +kernel)) | (apply U3 7; (case hp => rfl); (case hd => decide +kernel)) | (apply U3 8; (case hp => rfl); (case hd => decide +kernel)) | (apply U3 9; (case hp => rfl); (case hd => decide +kernel)) | (apply U3 10; (case hp => rfl); (case hd => decide +kernel)) | (apply U3 11; (case hp => rfl); (case hd => decide +kernel))); (case hg => rfl); (case hy => (first | (apply Yi.a; constructor; all_goals (first | rfl | (constructor <;> omega) | (apply CellIs.own; (case h => repeat constructor); rfl) | (apply Cell3.own; (case h => repeat constructor); all_goals rfl))) | (apply Yi.b; constructor; all_goals (first | rfl | (constructor <;> omega) | (apply CellIs.own; (case h => repeat constructor); rfl) | (apply Cell3.own; (case h => repeat constructor); all_goals rfl))) | (apply Yi.c; constructor; all_goals (first | rfl | (constructor <;> omega) | (apply CellIs.own; (case h => repeat constructor); rfl) | (apply Cell3.own; (case h => repeat constructor); all_goals rfl)))))) | ((first | apply V0 | apply Go.Dk.V1 | apply V2 (hw := H)); (case hg => rfl); try decide +kernel) | ((first | refine G0 H ?_ | (refine G1 H (fun _ _ _ _ h => h) (by decide +kernel) ?_; clear H; intro _ H)); simp only [enum, Nat.reduceAdd]) | (apply B0 (hw := H); (case hg => rfl); (case hd => first | with_reducible exact hd_false | decide +kernel); (case hx => rfl); (case hc => rfl); clear H; intro bx _ H) | (apply B1 (hw := H); (case hg => rfl); (case hd => first | with_reducible exact hd_false | decide +kernel); clear H; intro ax _ H) | ((apply W0 (hw := H); (case hg => rfl); (case hd => first | with_reducible exact hd_false | decide +kernel); (case hx => rfl); (case hy => rfl); (case hc => rfl); (case hn => repeat constructor); (case h1 => rfl); clear H; intro _ H; (try dsimp only at H); try simp only [putL, List.set_cons_succ, List.set_cons_zero, evalT, evalC, List.getD_cons_succ, List.getD_cons_zero, Nat.zero_add, Nat.reduceAdd] at H)) | ((apply C0 (hw := H); (case hg => rfl); (case hd => first | with_reducible exact hd_false | decide +kernel); (case hxs => rfl); (case hc => exact q_NamesValid (hgl.now H.ext) hnv); clear H; intro _ H)) | ((apply C1; (case hg => rfl); (case hd => first | with_reducible exact hd_false | decide +kernel); (case hxs => rfl); (case hc => exact ih _ (hgl.now H.ext)); rintro _ _ ⟨z, rfl, hgr, ho, hez⟩; replace H := H.pushTree hgr ho; (try simp only [List.set_cons_succ, List.set_cons_zero] at H); refine ⟨_, rfl, _, (by first | exact fun _ _ h => h | exact fun _ _ h => h.tail | exact fun _ _ h => h.unfact (by repeat' (first | exact Stable.true | exact rdF_stable _ | exact iF_stable _ _ | exact sF_stable _ _ | apply Stable.and)) (fun _ _ h => h.2) | exact nofun), H, ?_⟩)) | go_step | (apply X0; (case hy => rfl); all_goals (intro hb; simp only [hb]; (try simp only [decide_eq_true_eq, decide_eq_false_iff_not, Bool.not_eq_true', Bool.not_eq_false', Bool.and_eq_true, Bool.or_eq_true, Bool.and_eq_false_iff, Bool.or_eq_false_iff] at hb); try (exfalso; omega)))) <;> try simp only [List.getElem_toArray, List.getElem_cons_zero, List.getElem_cons_succ, Act.put, evalT, evalC, evalF, List.setIfInBounds_toArray, List.set_cons_succ, List.set_cons_zero, List.getD_cons_succ, List.getD_cons_zero, Nat.reduceAdd, Nat.reduceMul, Nat.add_zero, Nat.zero_add, Int.toNat_natCast, Int.reduceToNat, List.eraseIdx_cons_succ, List.eraseIdx_cons_zero, cond_true, cond_false])
   all_goals
    (((try simp only [Exit.inBlock, Exit.then]); refine ret_post (res2 rfl (R_cell rfl (load3 (ST3.out) (H.cell at2 rfl) (H.cell at2 rfl) (H.cell at2 rfl))) (R_tmp rfl)) ?_; try simp only [List.getD_cons_succ, List.getD_cons_zero])
     exact ⟨.mk 0 0 none 0 [], rfl, H.ext, own_leaf _ _ _ _ _ _, rfl⟩)
  | true =>
   simp only [Bool.not_true, cond_false] at h
   cases hr : (!(r1.toList == (bytesOf []).toList)) with
   | true =>
    rw [hr, cond_true] at h
    obtain ⟨rfl, rfl⟩ := tb_inj (a := .mk 0 0 []) (p := false) h
    go_enter Tryz.func10, Tryz.ntmps10
    repeat' ((first | (refine T_nil ?_) | ((first | apply U0 | (apply U1; (case hd => decide +kernel)) | (apply U2 (hw := H); (case hd => decide +kernel)) | (apply U3 1; (case hp => rfl); (case hd => decide +kernel)) | (apply U3 2; (case hp => rfl); (case hd => decide +kernel)) | (apply U3 3; (case hp => rfl); (case hd => decide +kernel)) | (apply U3 4; (case hp => rfl); (case hd => decide +kernel)) | (apply U3 5; (case hp => rfl); (case hd => decide +kernel)) | (apply U3 6; (case hp => rfl); (case hd => decide +kernel)) | (apply U3 7; (case hp => rfl); (case hd => decide +kernel)) | (apply U3 8; (case hp => rfl); (case hd => decide +kernel)) | (apply U3 9; (case hp => rfl); (case hd => decide +kernel)) | (apply U3 10; (case hp => rfl); (case hd => decide +kernel)) | (apply U3 11; (case hp => rfl); (case hd => decide +kernel))); (case hg => rfl); (case hy => (first | (apply Yi.a; constructor; all_goals (first | rfl | (constructor <;> omega) | (apply CellIs.own; (case h => repeat constructor); rfl) | (apply Cell3.own; (case h => repeat constructor); all_goals rfl))) | (apply Yi.b; constructor; all_goals (first | rfl | (constructor <;> omega) | (apply CellIs.own; (case h => repeat constructor); rfl) | (apply Cell3.own; (case h => repeat constructor); all_goals rfl))) | (apply Yi.c; constructor; all_goals (first | rfl | (constructor <;> omega) | (apply CellIs.own; (case h => repeat constructor); rfl) | (apply Cell3.own; (case h => repeat constructor); all_goals rfl)))))) | ((first | apply V0 | apply Go.Dk.V1 | apply V2 (hw := H)); (case hg => rfl); try decide +kernel) | ((first | refine G0 H ?_ | (refine G1 H (fun _ _ _ _ h => h) (by decide +kernel) ?_; clear H; intro _ H)); simp only [enum, Nat.reduceAdd]) | (apply B0 (hw := H); (case hg => rfl); (case hd => first | with_reducible exact hd_false | decide +kernel); (case hx => rfl); (case hc => rfl); clear H; intro bx _ H) | (apply B1 (hw := H); (case hg => rfl); (case hd => first | with_reducible exact hd_false | decide +kernel); clear H; intro ax _ H) | ((apply W0 (hw := H); (case hg => rfl); (case hd => first | with_reducible exact hd_false | decide +kernel); (case hx => rfl); (case hy => rfl); (case hc => rfl); (case hn => repeat constructor); (case h1 => rfl); clear H; intro _ H; (try dsimp only at H); try simp only [putL, List.set_cons_succ, List.set_cons_zero, evalT, evalC, List.getD_cons_succ, List.getD_cons_zero, Nat.zero_add, Nat.reduceAdd] at H)) | ((apply C0 (hw := H); (case hg => rfl); (case hd => first | with_reducible exact hd_false | decide +kernel); (case hxs => rfl); (case hc => exact q_NamesValid (hgl.now H.ext) hnv); clear H; intro _ H)) | ((apply C1; (case hg => rfl); (case hd => first | with_reducible exact hd_false | decide +kernel); (case hxs => rfl); (case hc => exact ih _ (hgl.now H.ext)); rintro _ _ ⟨z, rfl, hgr, ho, hez⟩; replace H := H.pushTree hgr ho; (try simp only [List.set_cons_succ, List.set_cons_zero] at H); refine ⟨_, rfl, _, (by first | exact fun _ _ h => h | exact fun _ _ h => h.tail | exact fun _ _ h => h.unfact (by repeat' (first | exact Stable.true | exact rdF_stable _ | exact iF_stable _ _ | exact sF_stable _ _ | apply Stable.and)) (fun _ _ h => h.2) | exact nofun), H, ?_⟩)) | go_step | (apply X0; (case hy => rfl); all_goals (intro hb; simp only [hb]; (try simp only [decide_eq_true_eq, decide_eq_false_iff_not, Bool.not_eq_true', Bool.not_eq_false', Bool.and_eq_true, Bool.or_eq_true, Bool.and_eq_false_iff, Bool.or_eq_false_iff] at hb); try (exfalso; omega)))) <;> try simp only [List.getElem_toArray, List.getElem_cons_zero, List.getElem_cons_succ, Act.put, evalT, evalC, evalF, List.setIfInBounds_toArray, List.set_cons_succ, List.set_cons_zero, List.getD_cons_succ, List.getD_cons_zero, Nat.reduceAdd, Nat.reduceMul, Nat.add_zero, Nat.zero_add, Int.toNat_natCast, Int.reduceToNat, List.eraseIdx_cons_succ, List.eraseIdx_cons_zero, cond_true, cond_false])
    all_goals first | (exfalso; exact absurd (hr.symm.trans (show (!(r1.toList == (bytesOf []).toList)) = false by assumption)) (by decide)) | skip
    all_goals
     (((try simp only [Exit.inBlock, Exit.then]); refine ret_post (res2 rfl (R_cell rfl (load3 (ST3.out) (H.cell at2 rfl) (H.cell at2 rfl) (H.cell at2 rfl))) (R_tmp rfl)) ?_; try simp only [List.getD_cons_succ, List.getD_cons_zero])
      exact ⟨.mk 0 0 none 0 [], rfl, H.ext, own_leaf _ _ _ _ _ _, rfl⟩)
   | false =>
    rw [hr, cond_false] at h
    have hz : t1.size ≤ 1048576 := by
     have hb := f_readNamed (B := 3000000) (by omega) 30 (by omega) (n := n) y.toList.reverse x.toList (by omega) (by rw [List.length_reverse, by_len]; omega) (by rw [by_len]; omega)
     rw [List.reverse_reverse, sr_id, sr_id, show (31 : Int) - ((30 : Nat) : Int) = 1 from rfl] at hb
     rcases hb.both with ⟨t', r', _, hr'⟩ | ⟨t', r', ho, hr', _⟩
     ·have := (out_inj (hf2.symm.trans hr')).2.2; cases this
     ·obtain ⟨h1, _, _⟩ := out_inj (hf2.symm.trans hr')
      have := rd_size 30 _ _ _ _ ho
      rw [by_len, h1] at this
      have e : T.mk t1.k t1.n t1.kids = t1 := by cases t1; rfl
      rw [e] at this
      omega
    (obtain ⟨⟨q1, q2⟩, hf3, g0⟩ := v_bind h; clear h; (try dsimp only at g0); obtain ⟨t2, q3, e1, g1⟩ := v_rTerm g0; clear g0; subst e1; obtain ⟨b2, q3, e1, g2⟩ := v_rBool g1; clear g1; subst e1; obtain ⟨e1, g3⟩ := v_nilV g2; clear g2; subst e1; obtain ⟨e1, h⟩ := v_nilO g3; clear g3; subst e1; (try dsimp only at h))
    obtain ⟨e2, rfl⟩ := tb_inj ((f_valid (n := n) (t := t1) (by omega)).symm.trans hf3)
    subst e2
    obtain ⟨rfl, rfl⟩ := tb_inj (a := if validB t1 = true then t1 else .mk 0 0 []) (p := validB t1) h
    cases hvt : validB t1 with
    | true =>
     go_enter Tryz.func10, Tryz.ntmps10
     repeat' ((first | (refine T_nil ?_) | ((first | apply U0 | (apply U1; (case hd => decide +kernel)) | (apply U2 (hw := H); (case hd => decide +kernel)) | (apply U3 1; (case hp => rfl); (case hd => decide +kernel)) | (apply U3 2; (case hp => rfl); (case hd => decide +kernel)) | (apply U3 3; (case hp => rfl); (case hd => decide +kernel)) | (apply U3 4; (case hp => rfl); (case hd => decide +kernel)) | (apply U3 5; (case hp => rfl); (case hd => decide +kernel)) | (apply U3 6; (case hp => rfl); (case hd => decide +kernel)) | (apply U3 7; (case hp => rfl); (case hd => decide +kernel)) | (apply U3 8; (case hp => rfl); (case hd => decide +kernel)) | (apply U3 9; (case hp => rfl); (case hd => decide +kernel)) | (apply U3 10; (case hp => rfl); (case hd => decide +kernel)) | (apply U3 11; (case hp => rfl); (case hd => decide +kernel))); (case hg => rfl); (case hy => (first | (apply Yi.a; constructor; all_goals (first | rfl | (constructor <;> omega) | (apply CellIs.own; (case h => repeat constructor); rfl) | (apply Cell3.own; (case h => repeat constructor); all_goals rfl))) | (apply Yi.b; constructor; all_goals (first | rfl | (constructor <;> omega) | (apply CellIs.own; (case h => repeat constructor); rfl) | (apply Cell3.own; (case h => repeat constructor); all_goals rfl))) | (apply Yi.c; constructor; all_goals (first | rfl | (constructor <;> omega) | (apply CellIs.own; (case h => repeat constructor); rfl) | (apply Cell3.own; (case h => repeat constructor); all_goals rfl)))))) | ((first | apply V0 | apply Go.Dk.V1 | apply V2 (hw := H)); (case hg => rfl); try decide +kernel) | ((first | refine G0 H ?_ | (refine G1 H (fun _ _ _ _ h => h) (by decide +kernel) ?_; clear H; intro _ H)); simp only [enum, Nat.reduceAdd]) | (apply B0 (hw := H); (case hg => rfl); (case hd => first | with_reducible exact hd_false | decide +kernel); (case hx => rfl); (case hc => rfl); clear H; intro bx _ H) | (apply B1 (hw := H); (case hg => rfl); (case hd => first | with_reducible exact hd_false | decide +kernel); clear H; intro ax _ H) | ((apply W0 (hw := H); (case hg => rfl); (case hd => first | with_reducible exact hd_false | decide +kernel); (case hx => rfl); (case hy => rfl); (case hc => rfl); (case hn => repeat constructor); (case h1 => rfl); clear H; intro _ H; (try dsimp only at H); try simp only [putL, List.set_cons_succ, List.set_cons_zero, evalT, evalC, List.getD_cons_succ, List.getD_cons_zero, Nat.zero_add, Nat.reduceAdd] at H)) | ((apply C0 (hw := H); (case hg => rfl); (case hd => first | with_reducible exact hd_false | decide +kernel); (case hxs => rfl); (case hc => exact q_NamesValid (hgl.now H.ext) hnv); clear H; intro _ H)) | ((apply C1; (case hg => rfl); (case hd => first | with_reducible exact hd_false | decide +kernel); (case hxs => rfl); (case hc => exact ih _ (hgl.now H.ext)); rintro _ _ ⟨z, rfl, hgr, ho, hez⟩; replace H := H.pushTree hgr ho; (try simp only [List.set_cons_succ, List.set_cons_zero] at H); refine ⟨_, rfl, _, (by first | exact fun _ _ h => h | exact fun _ _ h => h.tail | exact fun _ _ h => h.unfact (by repeat' (first | exact Stable.true | exact rdF_stable _ | exact iF_stable _ _ | exact sF_stable _ _ | apply Stable.and)) (fun _ _ h => h.2) | exact nofun), H, ?_⟩)) | ((apply C0 (hw := H); (case hg => rfl); (case hd => first | with_reducible exact hd_false | decide +kernel); (case hxs => rfl); (case hc => exact q_valid z true (by rw [hez]; exact hvt) _ _ (by first | exact H.rdAt 0 rfl | exact H.rdAt 1 rfl | exact H.rdAt 2 rfl | exact H.rdAt 3 rfl | exact H.rdAt 4 rfl | exact H.rdAt 5 rfl | exact H.rdAt 6 rfl | exact H.rdAt 7 rfl | exact H.rdAt 8 rfl | exact H.rdAt 9 rfl | exact H.rdAt 10 rfl | exact H.rdAt 11 rfl | exact H.rdAt 12 rfl | exact H.rdAt 13 rfl | exact (H.per.1).any | exact (H.per.1.1).any | exact (H.per.1.2).any | exact (H.per.2.1).any | exact (H.per.2.1.1).any | exact (H.per.2.1.2).any | exact (H.per.2.2.1).any | exact (H.per.2.2.1.1).any | exact (H.per.2.2.1.2).any | exact (H.per.2.2.2.1).any | exact (H.per.2.2.2.1.1).any | exact (H.per.2.2.2.1.2).any | exact (H.per.2.2.2.2.1).any | exact (H.per.2.2.2.2.1.1).any | exact (H.per.2.2.2.2.1.2).any | exact (H.per.2.2.2.2.2.1).any | exact (H.per.2.2.2.2.2.1.1).any | exact (H.per.2.2.2.2.2.1.2).any | exact (H.per.2.2.2.2.2.2.1).any | exact (H.per.2.2.2.2.2.2.1.1).any | exact (H.per.2.2.2.2.2.2.1.2).any | exact (H.per.2.2.2.2.2.2.2.1).any | exact (H.per.2.2.2.2.2.2.2.1.1).any | exact (H.per.2.2.2.2.2.2.2.1.2).any | exact (H.per.2.2.2.2.2.2.2.2.1).any | exact (H.per.2.2.2.2.2.2.2.2.1.1).any | exact (H.per.2.2.2.2.2.2.2.2.1.2).any | exact (H.per).any | exact (H.per.2).any | exact (H.per.2.2).any | exact (H.per.2.2.2).any | exact (H.per.2.2.2.2).any | exact (H.per.2.2.2.2.2).any | exact (H.per.2.2.2.2.2.2).any | exact (H.per.2.2.2.2.2.2.2).any | exact (H.per.2.2.2.2.2.2.2.2).any) (hgl.now H.ext)); clear H; intro _ H)) | go_step | (apply X0; (case hy => rfl); all_goals (intro hb; simp only [hb]; (try simp only [decide_eq_true_eq, decide_eq_false_iff_not, Bool.not_eq_true', Bool.not_eq_false', Bool.and_eq_true, Bool.or_eq_true, Bool.and_eq_false_iff, Bool.or_eq_false_iff] at hb); try (exfalso; omega)))) <;> try simp only [List.getElem_toArray, List.getElem_cons_zero, List.getElem_cons_succ, Act.put, evalT, evalC, evalF, List.setIfInBounds_toArray, List.set_cons_succ, List.set_cons_zero, List.getD_cons_succ, List.getD_cons_zero, Nat.reduceAdd, Nat.reduceMul, Nat.add_zero, Nat.zero_add, Int.toNat_natCast, Int.reduceToNat, List.eraseIdx_cons_succ, List.eraseIdx_cons_zero, cond_true, cond_false])
     all_goals first | (exfalso; exact absurd ((show (!(r1.toList == (bytesOf []).toList)) = true by assumption).symm.trans hr) (by decide)) | skip
     all_goals
      (((try simp only [Exit.inBlock, Exit.then]); refine ret_post (res2 rfl (R_cell rfl (load3 (ST3.out) (H.cell at2 rfl) (H.cell at2 rfl) (H.cell at2 rfl))) (R_tmp rfl)) ?_; try simp only [List.getD_cons_succ, List.getD_cons_zero])
       exact ⟨z, rfl, H.ext, H.tail.outTree, by rw [hez]; first | exact (if_pos trivial).symm | exact (if_pos rfl).symm⟩)
    | false =>
     go_enter Tryz.func10, Tryz.ntmps10
     repeat' ((first | (refine T_nil ?_) | ((first | apply U0 | (apply U1; (case hd => decide +kernel)) | (apply U2 (hw := H); (case hd => decide +kernel)) | (apply U3 1; (case hp => rfl); (case hd => decide +kernel)) | (apply U3 2; (case hp => rfl); (case hd => decide +kernel)) | (apply U3 3; (case hp => rfl); (case hd => decide +kernel)) | (apply U3 4; (case hp => rfl); (case hd => decide +kernel)) | (apply U3 5; (case hp => rfl); (case hd => decide +kernel)) | (apply U3 6; (case hp => rfl); (case hd => decide +kernel)) | (apply U3 7; (case hp => rfl); (case hd => decide +kernel)) | (apply U3 8; (case hp => rfl); (case hd => decide +kernel)) | (apply U3 9; (case hp => rfl); (case hd => decide +kernel)) | (apply U3 10; (case hp => rfl); (case hd => decide +kernel)) | (apply U3 11; (case hp => rfl); (case hd => decide +kernel))); (case hg => rfl); (case hy => (first | (apply Yi.a; constructor; all_goals (first | rfl | (constructor <;> omega) | (apply CellIs.own; (case h => repeat constructor); rfl) | (apply Cell3.own; (case h => repeat constructor); all_goals rfl))) | (apply Yi.b; constructor; all_goals (first | rfl | (constructor <;> omega) | (apply CellIs.own; (case h => repeat constructor); rfl) | (apply Cell3.own; (case h => repeat constructor); all_goals rfl))) | (apply Yi.c; constructor; all_goals (first | rfl | (constructor <;> omega) | (apply CellIs.own; (case h => repeat constructor); rfl) | (apply Cell3.own; (case h => repeat constructor); all_goals rfl)))))) | ((first | apply V0 | apply Go.Dk.V1 | apply V2 (hw := H)); (case hg => rfl); try decide +kernel) | ((first | refine G0 H ?_ | (refine G1 H (fun _ _ _ _ h => h) (by decide +kernel) ?_; clear H; intro _ H)); simp only [enum, Nat.reduceAdd]) | (apply B0 (hw := H); (case hg => rfl); (case hd => first | with_reducible exact hd_false | decide +kernel); (case hx => rfl); (case hc => rfl); clear H; intro bx _ H) | (apply B1 (hw := H); (case hg => rfl); (case hd => first | with_reducible exact hd_false | decide +kernel); clear H; intro ax _ H) | ((apply W0 (hw := H); (case hg => rfl); (case hd => first | with_reducible exact hd_false | decide +kernel); (case hx => rfl); (case hy => rfl); (case hc => rfl); (case hn => repeat constructor); (case h1 => rfl); clear H; intro _ H; (try dsimp only at H); try simp only [putL, List.set_cons_succ, List.set_cons_zero, evalT, evalC, List.getD_cons_succ, List.getD_cons_zero, Nat.zero_add, Nat.reduceAdd] at H)) | ((apply C0 (hw := H); (case hg => rfl); (case hd => first | with_reducible exact hd_false | decide +kernel); (case hxs => rfl); (case hc => exact q_NamesValid (hgl.now H.ext) hnv); clear H; intro _ H)) | ((apply C1; (case hg => rfl); (case hd => first | with_reducible exact hd_false | decide +kernel); (case hxs => rfl); (case hc => exact ih _ (hgl.now H.ext)); rintro _ _ ⟨z, rfl, hgr, ho, hez⟩; replace H := H.pushTree hgr ho; (try simp only [List.set_cons_succ, List.set_cons_zero] at H); refine ⟨_, rfl, _, (by first | exact fun _ _ h => h | exact fun _ _ h => h.tail | exact fun _ _ h => h.unfact (by repeat' (first | exact Stable.true | exact rdF_stable _ | exact iF_stable _ _ | exact sF_stable _ _ | apply Stable.and)) (fun _ _ h => h.2) | exact nofun), H, ?_⟩)) | ((apply C0 (hw := H); (case hg => rfl); (case hd => first | with_reducible exact hd_false | decide +kernel); (case hxs => rfl); (case hc => exact q_valid z false (by rw [hez]; exact hvt) _ _ (by first | exact H.rdAt 0 rfl | exact H.rdAt 1 rfl | exact H.rdAt 2 rfl | exact H.rdAt 3 rfl | exact H.rdAt 4 rfl | exact H.rdAt 5 rfl | exact H.rdAt 6 rfl | exact H.rdAt 7 rfl | exact H.rdAt 8 rfl | exact H.rdAt 9 rfl | exact H.rdAt 10 rfl | exact H.rdAt 11 rfl | exact H.rdAt 12 rfl | exact H.rdAt 13 rfl | exact (H.per.1).any | exact (H.per.1.1).any | exact (H.per.1.2).any | exact (H.per.2.1).any | exact (H.per.2.1.1).any | exact (H.per.2.1.2).any | exact (H.per.2.2.1).any | exact (H.per.2.2.1.1).any | exact (H.per.2.2.1.2).any | exact (H.per.2.2.2.1).any | exact (H.per.2.2.2.1.1).any | exact (H.per.2.2.2.1.2).any | exact (H.per.2.2.2.2.1).any | exact (H.per.2.2.2.2.1.1).any | exact (H.per.2.2.2.2.1.2).any | exact (H.per.2.2.2.2.2.1).any | exact (H.per.2.2.2.2.2.1.1).any | exact (H.per.2.2.2.2.2.1.2).any | exact (H.per.2.2.2.2.2.2.1).any | exact (H.per.2.2.2.2.2.2.1.1).any | exact (H.per.2.2.2.2.2.2.1.2).any | exact (H.per.2.2.2.2.2.2.2.1).any | exact (H.per.2.2.2.2.2.2.2.1.1).any | exact (H.per.2.2.2.2.2.2.2.1.2).any | exact (H.per.2.2.2.2.2.2.2.2.1).any | exact (H.per.2.2.2.2.2.2.2.2.1.1).any | exact (H.per.2.2.2.2.2.2.2.2.1.2).any | exact (H.per).any | exact (H.per.2).any | exact (H.per.2.2).any | exact (H.per.2.2.2).any | exact (H.per.2.2.2.2).any | exact (H.per.2.2.2.2.2).any | exact (H.per.2.2.2.2.2.2).any | exact (H.per.2.2.2.2.2.2.2).any | exact (H.per.2.2.2.2.2.2.2.2).any) (hgl.now H.ext)); clear H; intro _ H)) | go_step | (apply X0; (case hy => rfl); all_goals (intro hb; simp only [hb]; (try simp only [decide_eq_true_eq, decide_eq_false_iff_not, Bool.not_eq_true', Bool.not_eq_false', Bool.and_eq_true, Bool.or_eq_true, Bool.and_eq_false_iff, Bool.or_eq_false_iff] at hb); try (exfalso; omega)))) <;> try simp only [List.getElem_toArray, List.getElem_cons_zero, List.getElem_cons_succ, Act.put, evalT, evalC, evalF, List.setIfInBounds_toArray, List.set_cons_succ, List.set_cons_zero, List.getD_cons_succ, List.getD_cons_zero, Nat.reduceAdd, Nat.reduceMul, Nat.add_zero, Nat.zero_add, Int.toNat_natCast, Int.reduceToNat, List.eraseIdx_cons_succ, List.eraseIdx_cons_zero, cond_true, cond_false])
     all_goals first | (exfalso; exact absurd ((show (!(r1.toList == (bytesOf []).toList)) = true by assumption).symm.trans hr) (by decide)) | skip
     all_goals
      (((try simp only [Exit.inBlock, Exit.then]); refine ret_post (res2 rfl (R_cell rfl (load3 (ST3.out) (H.cell at2 rfl) (H.cell at2 rfl) (H.cell at2 rfl))) (R_tmp rfl)) ?_; try simp only [List.getD_cons_succ, List.getD_cons_zero])
       exact ⟨.mk 0 0 none 0 [], rfl, H.ext, own_leaf _ _ _ _ _ _, by first | rfl | simp⟩)
end Go.Proofs.YtnogehmgpfpjmaaGreatDoor
end
section
namespace Go.Proofs.YtnogehmgpfpjmaaGreatDoor
open Go Go.Dk
def anyZ : Zone := fun _ => True
set_option maxRecDepth 100000 in
set_option maxHeartbeats 1000000 in
theorem l_eqTerm_of (s t : HT) (w : World) (hs : Rd anyZ w s) (ht : Rd anyZ w t)
   (hc : ∀ w, Rd anyZ w s → Rd anyZ w t → Calls Tryz.prog 30 #[s.sl, t.sl] w fun e w' => e = .returned (.bool (T.beqL s.er.kids t.er.kids)) ∧ Grow w w') :
   Calls Tryz.prog 11 #[s.val, t.val] w fun e w' => e = .returned (.bool (T.beq s.er t.er)) ∧ Grow w w' := by
 have H := St.init w noneZ anyZ ((rdF_stable s).and (rdF_stable t)) ⟨hs, ht⟩
 rw [T.beq_eq, HT.er_k, HT.er_k, HT.er_n, HT.er_n]
 go_enter Tryz.func11, Tryz.ntmps11
 repeat' ((first | (refine T_nil ?_) | ((first | apply U0 | (apply U1; (case hd => decide +kernel)) | (apply U2 (hw := H); (case hd => decide +kernel)) | (apply U3 1; (case hp => rfl); (case hd => decide +kernel)) | (apply U3 2; (case hp => rfl); (case hd => decide +kernel)) | (apply U3 3; (case hp => rfl); (case hd => decide +kernel)) | (apply U3 4; (case hp => rfl); (case hd => decide +kernel)) | (apply U3 5; (case hp => rfl); (case hd => decide +kernel)) | (apply U3 6; (case hp => rfl); (case hd => decide +kernel)) | (apply U3 7; (case hp => rfl); (case hd => decide +kernel)) | (apply U3 8; (case hp => rfl); (case hd => decide +kernel)) | (apply U3 9; (case hp => rfl); (case hd => decide +kernel)) | (apply U3 10; (case hp => rfl); (case hd => decide +kernel)) | (apply U3 11; (case hp => rfl); (case hd => decide +kernel))); (case hg => rfl); (case hy => (first | (apply Yi.a; constructor; all_goals (first | rfl | (constructor <;> omega) | (apply CellIs.own; (case h => repeat constructor); rfl) | (apply Cell3.own; (case h => repeat constructor); all_goals rfl))) | (apply Yi.b; constructor; all_goals (first | rfl | (constructor <;> omega) | (apply CellIs.own; (case h => repeat constructor); rfl) | (apply Cell3.own; (case h => repeat constructor); all_goals rfl))) | (apply Yi.c; constructor; all_goals (first | rfl | (constructor <;> omega) | (apply CellIs.own; (case h => repeat constructor); rfl) | (apply Cell3.own; (case h => repeat constructor); all_goals rfl)))))) | ((first | apply V0 | apply Go.Dk.V1 | apply V2 (hw := H)); (case hg => rfl); try decide +kernel) | ((first | refine G0 H ?_ | (refine G1 H (fun _ _ _ _ h => h) (by decide +kernel) ?_; clear H; intro _ H)); simp only [enum, Nat.reduceAdd]) | (apply B0 (hw := H); (case hg => rfl); (case hd => first | with_reducible exact hd_false | decide +kernel); (case hx => rfl); (case hc => rfl); clear H; intro bx _ H) | (apply B1 (hw := H); (case hg => rfl); (case hd => first | with_reducible exact hd_false | decide +kernel); clear H; intro ax _ H) | ((apply C0 (hw := H); (case hg => rfl); (case hd => first | with_reducible exact hd_false | decide +kernel); (case hxs => rfl); (case hc => exact hc _ H.per.1.any H.per.2.any); clear H; intro _ H)) | go_step | (apply X0; (case hy => rfl); all_goals (intro hb; simp only [hb]; (try simp only [decide_eq_true_eq, decide_eq_false_iff_not, Bool.not_eq_true', Bool.not_eq_false', Bool.and_eq_true, Bool.or_eq_true, Bool.and_eq_false_iff, Bool.or_eq_false_iff] at hb); try (exfalso; omega)))) <;> try simp only [List.getElem_toArray, List.getElem_cons_zero, List.getElem_cons_succ, Act.put, evalT, evalC, evalF, List.setIfInBounds_toArray, List.set_cons_succ, List.set_cons_zero, List.getD_cons_succ, List.getD_cons_zero, Nat.reduceAdd, Nat.reduceMul, Nat.add_zero, Nat.zero_add, Int.toNat_natCast, Int.reduceToNat, List.eraseIdx_cons_succ, List.eraseIdx_cons_zero, cond_true, cond_false])
 ·have h1 : (!decide (s.k = t.k)) = true := by assumption
  ((try simp only [Exit.inBlock, Exit.then]); refine ret_post (res1 rfl (R_tmp rfl)) ?_; try simp only [List.getD_cons_succ, List.getD_cons_zero])
  refine ⟨?_, H.ext⟩
  simp at h1; simp [h1]
 ·have h1 : (!decide (s.k = t.k)) = false := by assumption
  have h2 : (!decide (s.n = t.n)) = true := by assumption
  ((try simp only [Exit.inBlock, Exit.then]); refine ret_post (res1 rfl (R_tmp rfl)) ?_; try simp only [List.getD_cons_succ, List.getD_cons_zero])
  refine ⟨?_, H.ext⟩
  simp at h1 h2; simp [h2]
 ·have h1 : (!T.beqL s.er.kids t.er.kids) = true := by assumption
  ((try simp only [Exit.inBlock, Exit.then]); refine ret_post (res1 rfl (R_tmp rfl)) ?_; try simp only [List.getD_cons_succ, List.getD_cons_zero])
  refine ⟨?_, H.ext⟩
  simp at h1; simp [h1]
 ·have h1 : (!decide (s.k = t.k)) = false := by assumption
  have h2 : (!decide (s.n = t.n)) = false := by assumption
  have h3 : (!T.beqL s.er.kids t.er.kids) = false := by assumption
  ((try simp only [Exit.inBlock, Exit.then]); refine ret_post (res1 rfl (R_tmp rfl)) ?_; try simp only [List.getD_cons_succ, List.getD_cons_zero])
  refine ⟨?_, H.ext⟩
  simp at h1 h2 h3; simp [h1, h2, h3]
theorem beqL_lenM : ∀ a b : List T, a.length ≠ b.length → T.beqL a b = false
 | [], [], h => absurd rfl h
 | [], _ :: _, _ => rfl
 | _ :: _, [], _ => rfl
 | x :: a, y :: b, h => by simp only [T.beqL]; rw [beqL_lenM a b (by simpa using h), Bool.and_false]
set_option maxRecDepth 100000 in
set_option maxHeartbeats 1000000 in
theorem l_eqTermS (s : HT) : ∀ (t : HT) (w : World), Rd anyZ w s → Rd anyZ w t →
   Calls Tryz.prog 30 #[s.sl, t.sl] w fun e w' => e = .returned (.bool (T.beqL s.er.kids t.er.kids)) ∧ Grow w w' := by
 induction s using HT.ind with | h s ih =>
 intro t w hs ht
 have H := St.init w noneZ anyZ ((rdF_stable s).and (rdF_stable t)) ⟨hs, ht⟩
 have hlen := hs.len
 have hlen2 := ht.len
 have hl1 : s.sl = .slice s.a s.kids.length s.cap := rfl
 have hl2 : t.sl = .slice t.a t.kids.length t.cap := rfl
 rw [hl1, hl2]
 go_enter Tryz.func30, Tryz.ntmps30
 repeat' ((first | (refine T_nil ?_) | ((first | apply U0 | (apply U1; (case hd => decide +kernel)) | (apply U2 (hw := H); (case hd => decide +kernel)) | (apply U3 1; (case hp => rfl); (case hd => decide +kernel)) | (apply U3 2; (case hp => rfl); (case hd => decide +kernel)) | (apply U3 3; (case hp => rfl); (case hd => decide +kernel)) | (apply U3 4; (case hp => rfl); (case hd => decide +kernel)) | (apply U3 5; (case hp => rfl); (case hd => decide +kernel)) | (apply U3 6; (case hp => rfl); (case hd => decide +kernel)) | (apply U3 7; (case hp => rfl); (case hd => decide +kernel)) | (apply U3 8; (case hp => rfl); (case hd => decide +kernel)) | (apply U3 9; (case hp => rfl); (case hd => decide +kernel)) | (apply U3 10; (case hp => rfl); (case hd => decide +kernel)) | (apply U3 11; (case hp => rfl); (case hd => decide +kernel))); (case hg => rfl); (case hy => (first | (apply Yi.a; constructor; all_goals (first | rfl | (constructor <;> omega) | (apply CellIs.own; (case h => repeat constructor); rfl) | (apply Cell3.own; (case h => repeat constructor); all_goals rfl))) | (apply Yi.b; constructor; all_goals (first | rfl | (constructor <;> omega) | (apply CellIs.own; (case h => repeat constructor); rfl) | (apply Cell3.own; (case h => repeat constructor); all_goals rfl))) | (apply Yi.c; constructor; all_goals (first | rfl | (constructor <;> omega) | (apply CellIs.own; (case h => repeat constructor); rfl) | (apply Cell3.own; (case h => repeat constructor); all_goals rfl)))))) | ((first | apply V0 | apply Go.Dk.V1 | apply V2 (hw := H)); (case hg => rfl); try decide +kernel) | ((first | refine G0 H ?_ | (refine G1 H (fun _ _ _ _ h => h) (by decide +kernel) ?_; clear H; intro _ H)); simp only [enum, Nat.reduceAdd]) | (apply B0 (hw := H); (case hg => rfl); (case hd => first | with_reducible exact hd_false | decide +kernel); (case hx => rfl); (case hc => rfl); clear H; intro bx _ H) | (apply B1 (hw := H); (case hg => rfl); (case hd => first | with_reducible exact hd_false | decide +kernel); clear H; intro ax _ H) | go_step | (apply X0; (case hy => rfl); all_goals (intro hb; simp only [hb]; (try simp only [decide_eq_true_eq, decide_eq_false_iff_not, Bool.not_eq_true', Bool.not_eq_false', Bool.and_eq_true, Bool.or_eq_true, Bool.and_eq_false_iff, Bool.or_eq_false_iff] at hb); try (exfalso; omega)))) <;> try simp only [List.getElem_toArray, List.getElem_cons_zero, List.getElem_cons_succ, Act.put, evalT, evalC, evalF, List.setIfInBounds_toArray, List.set_cons_succ, List.set_cons_zero, List.getD_cons_succ, List.getD_cons_zero, Nat.reduceAdd, Nat.reduceMul, Nat.add_zero, Nat.zero_add, Int.toNat_natCast, Int.reduceToNat, List.eraseIdx_cons_succ, List.eraseIdx_cons_zero, cond_true, cond_false])
 ·have h1 : (!decide ((s.kids.length : Int) = t.kids.length)) = true := by assumption
  ((try simp only [Exit.inBlock, Exit.then]); refine ret_post (res1 rfl (R_tmp rfl)) ?_; try simp only [List.getD_cons_succ, List.getD_cons_zero])
  rw [beqL_lenM _ _ (by rw [HT.er_len, HT.er_len]; simp at h1; omega)]
  (first | exact ⟨rfl, H.ext⟩ | exact ⟨trivial, H.ext⟩)
 ·have h1 : (!decide ((s.kids.length : Int) = t.kids.length)) = false := by assumption
  have hll : s.kids.length = t.kids.length := by simp at h1; omega
  go_loopg [5] s.kids.length (fun g v wr => ∃ (i : Nat), v = .int .i64 i ∧ i + g = s.kids.length ∧ T.beqL s.er.kids t.er.kids = T.beqL (s.er.kids.drop i) (t.er.kids.drop i) ∧ St w noneZ anyZ [] (andF (rdF s) (rdF t)) wr)
  case atStart => exact ⟨0, rfl, by omega, by simp, H⟩
  case round =>
   clear H
   obtain ⟨i, rfl, hi, hsum, H⟩ := hrel
   by_cases hlt : i < s.kids.length
   ·have hu : s.kids[i]? = some s.kids[i] := List.getElem?_eq_getElem hlt
    have hv : t.kids[i]? = some t.kids[i] := List.getElem?_eq_getElem (by omega)
    obtain ⟨b, off, ha⟩ := hs.addr hu
    obtain ⟨b2, off2, ha2⟩ := ht.addr hv
    generalize s.kids[i] = u at hu
    generalize t.kids[i] = v at hv
    have hsub := ih u (List.mem_of_getElem? hu) v
    rw [HT.er_drop hu, HT.er_drop hv, T.beqL] at hsum
    repeat' ((first | (refine T_nil ?_) | ((first | apply U0 | (apply U1; (case hd => decide +kernel)) | (apply U2 (hw := H); (case hd => decide +kernel)) | (apply U3 1; (case hp => rfl); (case hd => decide +kernel)) | (apply U3 2; (case hp => rfl); (case hd => decide +kernel)) | (apply U3 3; (case hp => rfl); (case hd => decide +kernel)) | (apply U3 4; (case hp => rfl); (case hd => decide +kernel)) | (apply U3 5; (case hp => rfl); (case hd => decide +kernel)) | (apply U3 6; (case hp => rfl); (case hd => decide +kernel)) | (apply U3 7; (case hp => rfl); (case hd => decide +kernel)) | (apply U3 8; (case hp => rfl); (case hd => decide +kernel)) | (apply U3 9; (case hp => rfl); (case hd => decide +kernel)) | (apply U3 10; (case hp => rfl); (case hd => decide +kernel)) | (apply U3 11; (case hp => rfl); (case hd => decide +kernel))); (case hg => rfl); (case hy => (first | (apply Yi.a; constructor; all_goals (first | rfl | (constructor <;> omega) | (apply CellIs.own; (case h => repeat constructor); rfl) | (apply Cell3.own; (case h => repeat constructor); all_goals rfl) | exact ha | exact ha2 | exact .mk fun w h => (Rd.elem h.per.1 ha hu).1 | exact .mk fun w h => (Rd.elem h.per.2 ha2 hv).1)) | (apply Yi.b; constructor; all_goals (first | rfl | (constructor <;> omega) | (apply CellIs.own; (case h => repeat constructor); rfl) | (apply Cell3.own; (case h => repeat constructor); all_goals rfl) | exact ha | exact ha2 | exact .mk fun w h => (Rd.elem h.per.1 ha hu).1 | exact .mk fun w h => (Rd.elem h.per.2 ha2 hv).1)) | (apply Yi.c; constructor; all_goals (first | rfl | (constructor <;> omega) | (apply CellIs.own; (case h => repeat constructor); rfl) | (apply Cell3.own; (case h => repeat constructor); all_goals rfl) | exact ha | exact ha2 | exact .mk fun w h => (Rd.elem h.per.1 ha hu).1 | exact .mk fun w h => (Rd.elem h.per.2 ha2 hv).1))))) | ((first | apply V0 | apply Go.Dk.V1 | apply V2 (hw := H)); (case hg => rfl); try decide +kernel) | ((first | refine G0 H ?_ | (refine G1 H (fun _ _ _ _ h => h) (by decide +kernel) ?_; clear H; intro _ H)); simp only [enum, Nat.reduceAdd]) | (apply B0 (hw := H); (case hg => rfl); (case hd => first | with_reducible exact hd_false | decide +kernel); (case hx => rfl); (case hc => rfl); clear H; intro bx _ H) | (apply B1 (hw := H); (case hg => rfl); (case hd => first | with_reducible exact hd_false | decide +kernel); clear H; intro ax _ H) | ((apply C0 (hw := H); (case hg => rfl); (case hd => first | with_reducible exact hd_false | decide +kernel); (case hxs => rfl); (case hc => exact l_eqTerm_of u v _ (Rd.elem H.per.1 ha hu).2.any (Rd.elem H.per.2 ha2 hv).2.any (fun w h1 h2 => hsub w h1 h2)); clear H; intro _ H)) | go_step | (apply X0; (case hy => rfl); all_goals (intro hb; simp only [hb]; (try simp only [decide_eq_true_eq, decide_eq_false_iff_not, Bool.not_eq_true', Bool.not_eq_false', Bool.and_eq_true, Bool.or_eq_true, Bool.and_eq_false_iff, Bool.or_eq_false_iff] at hb); try (exfalso; omega)))) <;> try simp only [List.getElem_toArray, List.getElem_cons_zero, List.getElem_cons_succ, Act.put, evalT, evalC, evalF, List.setIfInBounds_toArray, List.set_cons_succ, List.set_cons_zero, List.getD_cons_succ, List.getD_cons_zero, Nat.reduceAdd, Nat.reduceMul, Nat.add_zero, Nat.zero_add, Int.toNat_natCast, Int.reduceToNat, List.eraseIdx_cons_succ, List.eraseIdx_cons_zero, cond_true, cond_false])
    ·have hf : (!T.beq u.er v.er) = true := by assumption
     ((try simp only [Exit.inBlock, Exit.then]); refine ret_post (res1 rfl (R_tmp rfl)) ?_; try simp only [List.getD_cons_succ, List.getD_cons_zero])
     rw [hsum, show T.beq u.er v.er = false by simpa using hf, Bool.false_and]
     (first | exact ⟨rfl, H.ext⟩ | exact ⟨trivial, H.ext⟩)
    ·have hf : (!T.beq u.er v.er) = false := by assumption
     rw [show T.beq u.er v.er = true by simpa using hf, Bool.true_and] at hsum
     go_roundg (gk - 1)
     case measure => omega
     case rel => exact ⟨i + 1, by simp, by omega, hsum, H⟩
   ·rw [List.drop_of_length_le (by rw [HT.er_len]; omega), List.drop_of_length_le (by rw [HT.er_len]; omega), T.beqL] at hsum
    have hlt' : ¬ ((i : Int) < s.kids.length) := by omega
    repeat' ((first | (refine T_nil ?_) | ((first | apply U0 | (apply U1; (case hd => decide +kernel)) | (apply U2 (hw := H); (case hd => decide +kernel)) | (apply U3 1; (case hp => rfl); (case hd => decide +kernel)) | (apply U3 2; (case hp => rfl); (case hd => decide +kernel)) | (apply U3 3; (case hp => rfl); (case hd => decide +kernel)) | (apply U3 4; (case hp => rfl); (case hd => decide +kernel)) | (apply U3 5; (case hp => rfl); (case hd => decide +kernel)) | (apply U3 6; (case hp => rfl); (case hd => decide +kernel)) | (apply U3 7; (case hp => rfl); (case hd => decide +kernel)) | (apply U3 8; (case hp => rfl); (case hd => decide +kernel)) | (apply U3 9; (case hp => rfl); (case hd => decide +kernel)) | (apply U3 10; (case hp => rfl); (case hd => decide +kernel)) | (apply U3 11; (case hp => rfl); (case hd => decide +kernel))); (case hg => rfl); (case hy => (first | (apply Yi.a; constructor; all_goals (first | rfl | (constructor <;> omega) | (apply CellIs.own; (case h => repeat constructor); rfl) | (apply Cell3.own; (case h => repeat constructor); all_goals rfl))) | (apply Yi.b; constructor; all_goals (first | rfl | (constructor <;> omega) | (apply CellIs.own; (case h => repeat constructor); rfl) | (apply Cell3.own; (case h => repeat constructor); all_goals rfl))) | (apply Yi.c; constructor; all_goals (first | rfl | (constructor <;> omega) | (apply CellIs.own; (case h => repeat constructor); rfl) | (apply Cell3.own; (case h => repeat constructor); all_goals rfl)))))) | ((first | apply V0 | apply Go.Dk.V1 | apply V2 (hw := H)); (case hg => rfl); try decide +kernel) | ((first | refine G0 H ?_ | (refine G1 H (fun _ _ _ _ h => h) (by decide +kernel) ?_; clear H; intro _ H)); simp only [enum, Nat.reduceAdd]) | (apply B0 (hw := H); (case hg => rfl); (case hd => first | with_reducible exact hd_false | decide +kernel); (case hx => rfl); (case hc => rfl); clear H; intro bx _ H) | (apply B1 (hw := H); (case hg => rfl); (case hd => first | with_reducible exact hd_false | decide +kernel); clear H; intro ax _ H) | go_step | (apply X0; (case hy => rfl); all_goals (intro hb; simp only [hb]; (try simp only [decide_eq_true_eq, decide_eq_false_iff_not, Bool.not_eq_true', Bool.not_eq_false', Bool.and_eq_true, Bool.or_eq_true, Bool.and_eq_false_iff, Bool.or_eq_false_iff] at hb); try (exfalso; omega)))) <;> try simp only [List.getElem_toArray, List.getElem_cons_zero, List.getElem_cons_succ, Act.put, evalT, evalC, evalF, List.setIfInBounds_toArray, List.set_cons_succ, List.set_cons_zero, List.getD_cons_succ, List.getD_cons_zero, Nat.reduceAdd, Nat.reduceMul, Nat.add_zero, Nat.zero_add, Int.toNat_natCast, Int.reduceToNat, List.eraseIdx_cons_succ, List.eraseIdx_cons_zero, cond_true, cond_false])
    ((try simp only [Exit.inBlock, Exit.then]); refine ret_post (res1 rfl (R_tmp rfl)) ?_; try simp only [List.getD_cons_succ, List.getD_cons_zero])
    rw [hsum]
    (first | exact ⟨rfl, H.ext⟩ | exact ⟨trivial, H.ext⟩)
theorem l_eqTerm (s t : HT) (w : World) (hs : Rd anyZ w s) (ht : Rd anyZ w t) :
   Calls Tryz.prog 11 #[s.val, t.val] w fun e w' => e = .returned (.bool (T.beq s.er t.er)) ∧ Grow w w' :=
 l_eqTerm_of s t w hs ht (fun w h1 h2 => l_eqTermS s t w h1 h2)
theorem l_eqTerm_same (s t : HT) (w : World) (hs : Rd anyZ w s) (ht : Rd anyZ w t) (x : T) (h1 : s.er = x) (h2 : t.er = x) :
   Calls Tryz.prog 11 #[s.val, t.val] w fun e w' => e = .returned (.bool true) ∧ Grow w w' := by
 have := l_eqTerm s t w hs ht
 rwa [h1, h2, T.beq_refl] at this
end Go.Proofs.YtnogehmgpfpjmaaGreatDoor
end
section
namespace Go.Proofs.YtnogehmgpfpjmaaGreatDoor
open Go Go.Dk
mutual
def mkT : T → Int → Bool
 | .mk k n ts, i => decide (k = i) && (decide (n = i + 1) && mkTs ts (i + 2))
def mkTs : List T → Int → Bool
 | [], _ => true
 | t :: ts, i => mkT t i && mkTs ts (i + 2 * t.size)
end
theorem mkT_eq (t : T) (i : Int) : mkT t i = (decide (t.k = i) && (decide (t.n = i + 1) && mkTs t.kids (i + 2))) := by cases t; simp only [mkT]; rfl
set_option maxRecDepth 100000 in
set_option maxHeartbeats 1000000 in
theorem l_heldTermS (t : HT) : ∀ (k : Int) (Z : Zone) (w : World), Rd Z w t → 0 ≤ k → k + 2 * T.sizeL t.er.kids ≤ 1000000000 → mkTs t.er.kids k = true →
   Calls Tryz.prog 32 #[t.sl, .int .i64 k] w fun e w' => e = .returned (.int .i64 (k + 2 * T.sizeL t.er.kids)) ∧ Grow w w' := by
 induction t using HT.ind with | h t ih =>
 intro k Z w hr h0 h1 hm
 have H := St.init w noneZ Z (rdF_stable t) hr
 have hlen := hr.len
 have hsl : t.sl = .slice t.a t.kids.length t.cap := rfl
 rw [hsl]
 go_enter Tryz.func32, Tryz.ntmps32
 repeat' ((first | (refine T_nil ?_) | ((first | apply U0 | (apply U1; (case hd => decide +kernel)) | (apply U2 (hw := H); (case hd => decide +kernel)) | (apply U3 1; (case hp => rfl); (case hd => decide +kernel)) | (apply U3 2; (case hp => rfl); (case hd => decide +kernel)) | (apply U3 3; (case hp => rfl); (case hd => decide +kernel)) | (apply U3 4; (case hp => rfl); (case hd => decide +kernel)) | (apply U3 5; (case hp => rfl); (case hd => decide +kernel)) | (apply U3 6; (case hp => rfl); (case hd => decide +kernel)) | (apply U3 7; (case hp => rfl); (case hd => decide +kernel)) | (apply U3 8; (case hp => rfl); (case hd => decide +kernel)) | (apply U3 9; (case hp => rfl); (case hd => decide +kernel)) | (apply U3 10; (case hp => rfl); (case hd => decide +kernel)) | (apply U3 11; (case hp => rfl); (case hd => decide +kernel))); (case hg => rfl); (case hy => (first | (apply Yi.a; constructor; all_goals (first | rfl | (constructor <;> omega) | (apply CellIs.own; (case h => repeat constructor); rfl) | (apply Cell3.own; (case h => repeat constructor); all_goals rfl))) | (apply Yi.b; constructor; all_goals (first | rfl | (constructor <;> omega) | (apply CellIs.own; (case h => repeat constructor); rfl) | (apply Cell3.own; (case h => repeat constructor); all_goals rfl))) | (apply Yi.c; constructor; all_goals (first | rfl | (constructor <;> omega) | (apply CellIs.own; (case h => repeat constructor); rfl) | (apply Cell3.own; (case h => repeat constructor); all_goals rfl)))))) | ((first | apply V0 | apply Go.Dk.V1 | apply V2 (hw := H)); (case hg => rfl); try decide +kernel) | ((first | refine G0 H ?_ | (refine G1 H (fun _ _ _ _ h => h) (by decide +kernel) ?_; clear H; intro _ H)); simp only [enum, Nat.reduceAdd]) | (apply B0 (hw := H); (case hg => rfl); (case hd => first | with_reducible exact hd_false | decide +kernel); (case hx => rfl); (case hc => rfl); clear H; intro bx _ H) | (apply B1 (hw := H); (case hg => rfl); (case hd => first | with_reducible exact hd_false | decide +kernel); clear H; intro ax _ H) | go_step | (apply X0; (case hy => rfl); all_goals (intro hb; simp only [hb]; (try simp only [decide_eq_true_eq, decide_eq_false_iff_not, Bool.not_eq_true', Bool.not_eq_false', Bool.and_eq_true, Bool.or_eq_true, Bool.and_eq_false_iff, Bool.or_eq_false_iff] at hb); try (exfalso; omega)))) <;> try simp only [List.getElem_toArray, List.getElem_cons_zero, List.getElem_cons_succ, Act.put, evalT, evalC, evalF, List.setIfInBounds_toArray, List.set_cons_succ, List.set_cons_zero, List.getD_cons_succ, List.getD_cons_zero, Nat.reduceAdd, Nat.reduceMul, Nat.add_zero, Nat.zero_add, Int.toNat_natCast, Int.reduceToNat, List.eraseIdx_cons_succ, List.eraseIdx_cons_zero, cond_true, cond_false])
 go_loopg [1, 5] t.kids.length (fun g v1 v2 wr => ∃ (i : Nat) (lc : Int), v1 = .int .i64 lc ∧ v2 = .int .i64 i ∧ i + g = t.kids.length ∧ 0 ≤ lc ∧
  lc + 2 * T.sizeL (t.er.kids.drop i) = k + 2 * T.sizeL t.er.kids ∧ mkTs (t.er.kids.drop i) lc = true ∧ St w noneZ Z [] (rdF t) wr)
 case atStart => exact ⟨0, _, rfl, rfl, by omega, by omega, by simp, by simpa using hm, H⟩
 case round =>
  clear H
  obtain ⟨i, lc, rfl, rfl, hi, hl0, hsum, hmk, H⟩ := hrel
  by_cases hlt : i < t.kids.length
  ·have hu : t.kids[i]? = some t.kids[i] := List.getElem?_eq_getElem hlt
   obtain ⟨b, off, ha⟩ := hr.addr hu
   generalize t.kids[i] = u at hu
   have hmem : u ∈ t.kids := List.mem_of_getElem? hu
   have hsub := ih u hmem
   rw [HT.er_drop hu, T.sizeL, T.size_eq] at hsum
   rw [HT.er_drop hu, mkTs, mkT_eq, T.size_eq] at hmk
   simp only [Bool.and_eq_true, decide_eq_true_eq] at hmk
   obtain ⟨⟨hk1, hk2, hk3⟩, hk4⟩ := hmk
   rw [HT.er_k] at hk1
   rw [HT.er_n] at hk2
   rw [show lc + 2 = lc + 1 + 1 by omega] at hk3
   have e1 : decide (u.k = lc) = true := decide_eq_true hk1
   have e2 : decide (u.n = lc + 1) = true := decide_eq_true hk2
   have c0 : ∀ w', St w noneZ Z [] (rdF t) w' → w'.cell? ⟨b, off + i * 3, none⟩ = some (.int .i64 u.k) := fun w h => (Rd.elem h.per ha hu).1.1
   have c1 : ∀ w', St w noneZ Z [] (rdF t) w' → w'.cell? ⟨b, off + i * 3 + 1, none⟩ = some (.int .i64 u.n) := fun w h => (Rd.elem h.per ha hu).1.2.1
   have c2 : ∀ w', St w noneZ Z [] (rdF t) w' → w'.cell? ⟨b, off + i * 3 + 2, none⟩ = some (.slice u.a u.kids.length u.cap) := fun w h => (Rd.elem h.per ha hu).1.2.2
   repeat' ((first | (refine T_nil ?_) | ((first | apply U0 | (apply U1; (case hd => decide +kernel)) | (apply U2 (hw := H); (case hd => decide +kernel)) | (apply U3 1; (case hp => rfl); (case hd => decide +kernel)) | (apply U3 2; (case hp => rfl); (case hd => decide +kernel)) | (apply U3 3; (case hp => rfl); (case hd => decide +kernel)) | (apply U3 4; (case hp => rfl); (case hd => decide +kernel)) | (apply U3 5; (case hp => rfl); (case hd => decide +kernel)) | (apply U3 6; (case hp => rfl); (case hd => decide +kernel)) | (apply U3 7; (case hp => rfl); (case hd => decide +kernel)) | (apply U3 8; (case hp => rfl); (case hd => decide +kernel)) | (apply U3 9; (case hp => rfl); (case hd => decide +kernel)) | (apply U3 10; (case hp => rfl); (case hd => decide +kernel)) | (apply U3 11; (case hp => rfl); (case hd => decide +kernel))); (case hg => rfl); (case hy => (first | (apply Yi.a; constructor; all_goals (first | rfl | (constructor <;> omega) | (apply CellIs.own; (case h => repeat constructor); rfl) | (apply Cell3.own; (case h => repeat constructor); all_goals rfl) | exact ha | exact .mk (by with_reducible exact c0) | exact .mk (by with_reducible exact c1) | exact .mk (by with_reducible exact c2))) | (apply Yi.b; constructor; all_goals (first | rfl | (constructor <;> omega) | (apply CellIs.own; (case h => repeat constructor); rfl) | (apply Cell3.own; (case h => repeat constructor); all_goals rfl) | exact ha | exact .mk (by with_reducible exact c0) | exact .mk (by with_reducible exact c1) | exact .mk (by with_reducible exact c2))) | (apply Yi.c; constructor; all_goals (first | rfl | (constructor <;> omega) | (apply CellIs.own; (case h => repeat constructor); rfl) | (apply Cell3.own; (case h => repeat constructor); all_goals rfl) | exact ha | exact .mk (by with_reducible exact c0) | exact .mk (by with_reducible exact c1) | exact .mk (by with_reducible exact c2)))))) | ((first | apply V0 | apply Go.Dk.V1 | apply V2 (hw := H)); (case hg => rfl); try decide +kernel) | ((first | refine G0 H ?_ | (refine G1 H (fun _ _ _ _ h => h) (by decide +kernel) ?_; clear H; intro _ H)); simp only [enum, Nat.reduceAdd]) | (apply B0 (hw := H); (case hg => rfl); (case hd => first | with_reducible exact hd_false | decide +kernel); (case hx => rfl); (case hc => rfl); clear H; intro bx _ H) | (apply B1 (hw := H); (case hg => rfl); (case hd => first | with_reducible exact hd_false | decide +kernel); clear H; intro ax _ H) | ((apply C0 (hw := H); (case hg => rfl); (case hd => first | with_reducible exact hd_false | decide +kernel); (case hxs => rfl); (case hc => exact hsub (lc + 1 + 1) _ _ (Rd.elem H.per ha hu).2 (by omega) (by omega) hk3); clear H; intro _ H)) | go_step | (apply X0; (case hy => rfl); all_goals (intro hb; simp only [hb]; (try simp only [decide_eq_true_eq, decide_eq_false_iff_not, Bool.not_eq_true', Bool.not_eq_false', Bool.and_eq_true, Bool.or_eq_true, Bool.and_eq_false_iff, Bool.or_eq_false_iff] at hb); try (exfalso; omega)))) <;> try simp only [List.getElem_toArray, List.getElem_cons_zero, List.getElem_cons_succ, Act.put, evalT, evalC, evalF, List.setIfInBounds_toArray, List.set_cons_succ, List.set_cons_zero, List.getD_cons_succ, List.getD_cons_zero, Nat.reduceAdd, Nat.reduceMul, Nat.add_zero, Nat.zero_add, Int.toNat_natCast, Int.reduceToNat, List.eraseIdx_cons_succ, List.eraseIdx_cons_zero, cond_true, cond_false])
   ·have h : (!decide (u.k = lc)) = true := by assumption
    rw [e1] at h; cases h
   ·have h : (!decide (u.n = lc + 1)) = true := by assumption
    rw [e2] at h; cases h
   ·go_roundg (gk - 1)
    case measure => omega
    case rel => exact ⟨i + 1, _, rfl, by simp, by omega, by omega, by omega, by rw [show lc + 1 + 1 + 2 * (T.sizeL u.er.kids : Int) = lc + 2 * ((1 + T.sizeL u.er.kids : Nat) : Int) by omega]; exact hk4, H⟩
  ·have h0 : i = t.kids.length := by omega
   rw [List.drop_of_length_le (by rw [HT.er_len]; omega), T.sizeL] at hsum
   have hlt' : ¬ ((i : Int) < t.kids.length) := by omega
   repeat' ((first | (refine T_nil ?_) | ((first | apply U0 | (apply U1; (case hd => decide +kernel)) | (apply U2 (hw := H); (case hd => decide +kernel)) | (apply U3 1; (case hp => rfl); (case hd => decide +kernel)) | (apply U3 2; (case hp => rfl); (case hd => decide +kernel)) | (apply U3 3; (case hp => rfl); (case hd => decide +kernel)) | (apply U3 4; (case hp => rfl); (case hd => decide +kernel)) | (apply U3 5; (case hp => rfl); (case hd => decide +kernel)) | (apply U3 6; (case hp => rfl); (case hd => decide +kernel)) | (apply U3 7; (case hp => rfl); (case hd => decide +kernel)) | (apply U3 8; (case hp => rfl); (case hd => decide +kernel)) | (apply U3 9; (case hp => rfl); (case hd => decide +kernel)) | (apply U3 10; (case hp => rfl); (case hd => decide +kernel)) | (apply U3 11; (case hp => rfl); (case hd => decide +kernel))); (case hg => rfl); (case hy => (first | (apply Yi.a; constructor; all_goals (first | rfl | (constructor <;> omega) | (apply CellIs.own; (case h => repeat constructor); rfl) | (apply Cell3.own; (case h => repeat constructor); all_goals rfl))) | (apply Yi.b; constructor; all_goals (first | rfl | (constructor <;> omega) | (apply CellIs.own; (case h => repeat constructor); rfl) | (apply Cell3.own; (case h => repeat constructor); all_goals rfl))) | (apply Yi.c; constructor; all_goals (first | rfl | (constructor <;> omega) | (apply CellIs.own; (case h => repeat constructor); rfl) | (apply Cell3.own; (case h => repeat constructor); all_goals rfl)))))) | ((first | apply V0 | apply Go.Dk.V1 | apply V2 (hw := H)); (case hg => rfl); try decide +kernel) | ((first | refine G0 H ?_ | (refine G1 H (fun _ _ _ _ h => h) (by decide +kernel) ?_; clear H; intro _ H)); simp only [enum, Nat.reduceAdd]) | (apply B0 (hw := H); (case hg => rfl); (case hd => first | with_reducible exact hd_false | decide +kernel); (case hx => rfl); (case hc => rfl); clear H; intro bx _ H) | (apply B1 (hw := H); (case hg => rfl); (case hd => first | with_reducible exact hd_false | decide +kernel); clear H; intro ax _ H) | go_step | (apply X0; (case hy => rfl); all_goals (intro hb; simp only [hb]; (try simp only [decide_eq_true_eq, decide_eq_false_iff_not, Bool.not_eq_true', Bool.not_eq_false', Bool.and_eq_true, Bool.or_eq_true, Bool.and_eq_false_iff, Bool.or_eq_false_iff] at hb); try (exfalso; omega)))) <;> try simp only [List.getElem_toArray, List.getElem_cons_zero, List.getElem_cons_succ, Act.put, evalT, evalC, evalF, List.setIfInBounds_toArray, List.set_cons_succ, List.set_cons_zero, List.getD_cons_succ, List.getD_cons_zero, Nat.reduceAdd, Nat.reduceMul, Nat.add_zero, Nat.zero_add, Int.toNat_natCast, Int.reduceToNat, List.eraseIdx_cons_succ, List.eraseIdx_cons_zero, cond_true, cond_false])
   ((try simp only [Exit.inBlock, Exit.then]); refine ret_post (res1 rfl (R_tmp rfl)) ?_; try simp only [List.getD_cons_succ, List.getD_cons_zero])
   have : lc = k + 2 * T.sizeL t.er.kids := by omega
   rw [this]
   (first | exact ⟨rfl, H.ext⟩ | exact ⟨trivial, H.ext⟩)
theorem mkTs_snoc : ∀ (a : List T) (x : T) (k : Int), mkTs (a ++ [x]) k = (mkTs a k && mkT x (k + 2 * T.sizeL a))
 | [], x, k => by simp [mkTs, T.sizeL]
 | y :: a, x, k => by
  rw [List.cons_append, mkTs, mkTs_snoc a x, mkTs, T.sizeL, Bool.and_assoc]
  rw [show k + 2 * (y.size : Int) + 2 * (T.sizeL a : Int) = k + 2 * ((y.size + T.sizeL a : Nat) : Int) by omega]
theorem sizeL_snoc : ∀ (a : List T) (x : T), T.sizeL (a ++ [x]) = T.sizeL a + x.size
 | [], x => by simp [T.sizeL]
 | y :: a, x => by rw [List.cons_append, T.sizeL, sizeL_snoc a x, T.sizeL]; omega
set_option maxRecDepth 100000 in
set_option maxHeartbeats 1000000 in
theorem l_markTermS (t : HT) : ∀ (k : Int) (w : World), (treeR t).own w → 0 ≤ k → k + 2 * T.sizeL t.er.kids ≤ 1000000000 →
   Calls Tryz.prog 31 #[t.sl, .int .i64 k] w fun e w' => ∃ us : List HT, e = .returned (.int .i64 (k + 2 * T.sizeL t.er.kids)) ∧ us.length = t.kids.length ∧ (treeR (HT.mk t.k t.n t.a t.cap us)).own w' ∧ HT.blocks (HT.mk t.k t.n t.a t.cap us) = t.blocks ∧
    mkTs (us.map HT.er) k = true ∧ T.sizeL (us.map HT.er) = T.sizeL t.er.kids ∧ Ext (· ∈ t.blocks) w w' := by
 induction t using HT.ind with | h t ih =>
 intro k w ho h0 h1
 have H := St.init1 w (· ∈ t.blocks) noneZ Stable.true trivial (treeR_local t) ho (fun b hb => ⟨hb, (Rd.zone t ho.1 b hb).2⟩) (fun b _ h => h)
 have hlen := ho.1.len
 have hsl : t.sl = .slice t.a t.kids.length t.cap := rfl
 rw [hsl]
 by_cases hne : t.kids = []
 ·have hz : t.kids.length = 0 := by rw [hne]; rfl
  have hsz : T.sizeL t.er.kids = 0 := by
   rw [HT.er_kids, hne]; rfl
  go_enter Tryz.func31, Tryz.ntmps31
  repeat' ((first | (refine T_nil ?_) | ((first | apply U0 | (apply U1; (case hd => decide +kernel)) | (apply U2 (hw := H); (case hd => decide +kernel)) | (apply U3 1; (case hp => rfl); (case hd => decide +kernel)) | (apply U3 2; (case hp => rfl); (case hd => decide +kernel)) | (apply U3 3; (case hp => rfl); (case hd => decide +kernel)) | (apply U3 4; (case hp => rfl); (case hd => decide +kernel)) | (apply U3 5; (case hp => rfl); (case hd => decide +kernel)) | (apply U3 6; (case hp => rfl); (case hd => decide +kernel)) | (apply U3 7; (case hp => rfl); (case hd => decide +kernel)) | (apply U3 8; (case hp => rfl); (case hd => decide +kernel)) | (apply U3 9; (case hp => rfl); (case hd => decide +kernel)) | (apply U3 10; (case hp => rfl); (case hd => decide +kernel)) | (apply U3 11; (case hp => rfl); (case hd => decide +kernel))); (case hg => rfl); (case hy => (first | (apply Yi.a; constructor; all_goals (first | rfl | (constructor <;> omega) | (apply CellIs.own; (case h => repeat constructor); rfl) | (apply Cell3.own; (case h => repeat constructor); all_goals rfl))) | (apply Yi.b; constructor; all_goals (first | rfl | (constructor <;> omega) | (apply CellIs.own; (case h => repeat constructor); rfl) | (apply Cell3.own; (case h => repeat constructor); all_goals rfl))) | (apply Yi.c; constructor; all_goals (first | rfl | (constructor <;> omega) | (apply CellIs.own; (case h => repeat constructor); rfl) | (apply Cell3.own; (case h => repeat constructor); all_goals rfl)))))) | ((first | apply V0 | apply Go.Dk.V1 | apply V2 (hw := H)); (case hg => rfl); try decide +kernel) | ((first | refine G0 H ?_ | (refine G1 H (fun _ _ _ _ h => h) (by decide +kernel) ?_; clear H; intro _ H)); simp only [enum, Nat.reduceAdd]) | (apply B0 (hw := H); (case hg => rfl); (case hd => first | with_reducible exact hd_false | decide +kernel); (case hx => rfl); (case hc => rfl); clear H; intro bx _ H) | (apply B1 (hw := H); (case hg => rfl); (case hd => first | with_reducible exact hd_false | decide +kernel); clear H; intro ax _ H) | go_step | (apply X0; (case hy => rfl); all_goals (intro hb; simp only [hb]; (try simp only [decide_eq_true_eq, decide_eq_false_iff_not, Bool.not_eq_true', Bool.not_eq_false', Bool.and_eq_true, Bool.or_eq_true, Bool.and_eq_false_iff, Bool.or_eq_false_iff] at hb); try (exfalso; omega)))) <;> try simp only [List.getElem_toArray, List.getElem_cons_zero, List.getElem_cons_succ, Act.put, evalT, evalC, evalF, List.setIfInBounds_toArray, List.set_cons_succ, List.set_cons_zero, List.getD_cons_succ, List.getD_cons_zero, Nat.reduceAdd, Nat.reduceMul, Nat.add_zero, Nat.zero_add, Int.toNat_natCast, Int.reduceToNat, List.eraseIdx_cons_succ, List.eraseIdx_cons_zero, cond_true, cond_false])
  go_loopg [1, 5] 0 (fun g v1 v2 wr => v1 = .int .i64 k ∧ v2 = .int .i64 0 ∧ St w (· ∈ t.blocks) noneZ [treeR t] trueF wr)
  case atStart => exact ⟨rfl, rfl, H⟩
  case round =>
   clear H
   obtain ⟨rfl, rfl, H⟩ := hrel
   have hlt' : ¬ ((0 : Int) < t.kids.length) := by omega
   repeat' ((first | (refine T_nil ?_) | ((first | apply U0 | (apply U1; (case hd => decide +kernel)) | (apply U2 (hw := H); (case hd => decide +kernel)) | (apply U3 1; (case hp => rfl); (case hd => decide +kernel)) | (apply U3 2; (case hp => rfl); (case hd => decide +kernel)) | (apply U3 3; (case hp => rfl); (case hd => decide +kernel)) | (apply U3 4; (case hp => rfl); (case hd => decide +kernel)) | (apply U3 5; (case hp => rfl); (case hd => decide +kernel)) | (apply U3 6; (case hp => rfl); (case hd => decide +kernel)) | (apply U3 7; (case hp => rfl); (case hd => decide +kernel)) | (apply U3 8; (case hp => rfl); (case hd => decide +kernel)) | (apply U3 9; (case hp => rfl); (case hd => decide +kernel)) | (apply U3 10; (case hp => rfl); (case hd => decide +kernel)) | (apply U3 11; (case hp => rfl); (case hd => decide +kernel))); (case hg => rfl); (case hy => (first | (apply Yi.a; constructor; all_goals (first | rfl | (constructor <;> omega) | (apply CellIs.own; (case h => repeat constructor); rfl) | (apply Cell3.own; (case h => repeat constructor); all_goals rfl))) | (apply Yi.b; constructor; all_goals (first | rfl | (constructor <;> omega) | (apply CellIs.own; (case h => repeat constructor); rfl) | (apply Cell3.own; (case h => repeat constructor); all_goals rfl))) | (apply Yi.c; constructor; all_goals (first | rfl | (constructor <;> omega) | (apply CellIs.own; (case h => repeat constructor); rfl) | (apply Cell3.own; (case h => repeat constructor); all_goals rfl)))))) | ((first | apply V0 | apply Go.Dk.V1 | apply V2 (hw := H)); (case hg => rfl); try decide +kernel) | ((first | refine G0 H ?_ | (refine G1 H (fun _ _ _ _ h => h) (by decide +kernel) ?_; clear H; intro _ H)); simp only [enum, Nat.reduceAdd]) | (apply B0 (hw := H); (case hg => rfl); (case hd => first | with_reducible exact hd_false | decide +kernel); (case hx => rfl); (case hc => rfl); clear H; intro bx _ H) | (apply B1 (hw := H); (case hg => rfl); (case hd => first | with_reducible exact hd_false | decide +kernel); clear H; intro ax _ H) | go_step | (apply X0; (case hy => rfl); all_goals (intro hb; simp only [hb]; (try simp only [decide_eq_true_eq, decide_eq_false_iff_not, Bool.not_eq_true', Bool.not_eq_false', Bool.and_eq_true, Bool.or_eq_true, Bool.and_eq_false_iff, Bool.or_eq_false_iff] at hb); try (exfalso; omega)))) <;> try simp only [List.getElem_toArray, List.getElem_cons_zero, List.getElem_cons_succ, Act.put, evalT, evalC, evalF, List.setIfInBounds_toArray, List.set_cons_succ, List.set_cons_zero, List.getD_cons_succ, List.getD_cons_zero, Nat.reduceAdd, Nat.reduceMul, Nat.add_zero, Nat.zero_add, Int.toNat_natCast, Int.reduceToNat, List.eraseIdx_cons_succ, List.eraseIdx_cons_zero, cond_true, cond_false])
   ((try simp only [Exit.inBlock, Exit.then]); refine ret_post (res1 rfl (R_tmp rfl)) ?_; try simp only [List.getD_cons_succ, List.getD_cons_zero])
   have ho' := H.own _ (List.mem_cons_self ..)
   have et : HT.mk t.k t.n t.a t.cap [] = t := by rw [← hne]; cases t; rfl
   refine ⟨[], ?_, hz.symm, by rw [et]; exact ho', by rw [et], rfl, hsz.symm, H.ext⟩
   rw [hsz]; simp
 obtain ⟨b, off, cs, E, ha, hc, H⟩ := H.dig hne
 rw [ha]
 go_enter Tryz.func31, Tryz.ntmps31
 repeat' ((first | (refine T_nil ?_) | ((first | apply U0 | (apply U1; (case hd => decide +kernel)) | (apply U2 (hw := H); (case hd => decide +kernel)) | (apply U3 1; (case hp => rfl); (case hd => decide +kernel)) | (apply U3 2; (case hp => rfl); (case hd => decide +kernel)) | (apply U3 3; (case hp => rfl); (case hd => decide +kernel)) | (apply U3 4; (case hp => rfl); (case hd => decide +kernel)) | (apply U3 5; (case hp => rfl); (case hd => decide +kernel)) | (apply U3 6; (case hp => rfl); (case hd => decide +kernel)) | (apply U3 7; (case hp => rfl); (case hd => decide +kernel)) | (apply U3 8; (case hp => rfl); (case hd => decide +kernel)) | (apply U3 9; (case hp => rfl); (case hd => decide +kernel)) | (apply U3 10; (case hp => rfl); (case hd => decide +kernel)) | (apply U3 11; (case hp => rfl); (case hd => decide +kernel))); (case hg => rfl); (case hy => (first | (apply Yi.a; constructor; all_goals (first | rfl | (constructor <;> omega) | (apply CellIs.own; (case h => repeat constructor); rfl) | (apply Cell3.own; (case h => repeat constructor); all_goals rfl))) | (apply Yi.b; constructor; all_goals (first | rfl | (constructor <;> omega) | (apply CellIs.own; (case h => repeat constructor); rfl) | (apply Cell3.own; (case h => repeat constructor); all_goals rfl))) | (apply Yi.c; constructor; all_goals (first | rfl | (constructor <;> omega) | (apply CellIs.own; (case h => repeat constructor); rfl) | (apply Cell3.own; (case h => repeat constructor); all_goals rfl)))))) | ((first | apply V0 | apply Go.Dk.V1 | apply V2 (hw := H)); (case hg => rfl); try decide +kernel) | ((first | refine G0 H ?_ | (refine G1 H (fun _ _ _ _ h => h) (by decide +kernel) ?_; clear H; intro _ H)); simp only [enum, Nat.reduceAdd]) | (apply B0 (hw := H); (case hg => rfl); (case hd => first | with_reducible exact hd_false | decide +kernel); (case hx => rfl); (case hc => rfl); clear H; intro bx _ H) | (apply B1 (hw := H); (case hg => rfl); (case hd => first | with_reducible exact hd_false | decide +kernel); clear H; intro ax _ H) | go_step | (apply X0; (case hy => rfl); all_goals (intro hb; simp only [hb]; (try simp only [decide_eq_true_eq, decide_eq_false_iff_not, Bool.not_eq_true', Bool.not_eq_false', Bool.and_eq_true, Bool.or_eq_true, Bool.and_eq_false_iff, Bool.or_eq_false_iff] at hb); try (exfalso; omega)))) <;> try simp only [List.getElem_toArray, List.getElem_cons_zero, List.getElem_cons_succ, Act.put, evalT, evalC, evalF, List.setIfInBounds_toArray, List.set_cons_succ, List.set_cons_zero, List.getD_cons_succ, List.getD_cons_zero, Nat.reduceAdd, Nat.reduceMul, Nat.add_zero, Nat.zero_add, Int.toNat_natCast, Int.reduceToNat, List.eraseIdx_cons_succ, List.eraseIdx_cons_zero, cond_true, cond_false])
 go_loopg [1, 5] t.kids.length (fun g v1 v2 wr => ∃ (done : List HT) (lc : Int) (cs : List Value), v1 = .int .i64 lc ∧ v2 = .int .i64 done.length ∧ done.length + g = t.kids.length ∧ 0 ≤ lc ∧
  lc = k + 2 * T.sizeL (done.map HT.er) ∧ T.sizeL (done.map HT.er) + T.sizeL (t.er.kids.drop done.length) = T.sizeL t.er.kids ∧ mkTs (done.map HT.er) k = true ∧ HT.blocksL (done ++ t.kids.drop done.length) = HT.blocksL t.kids ∧
  (∀ j u, (flatT (done ++ t.kids.drop done.length))[j]? = some u → cs[off + j]? = some u) ∧
  St w (· ∈ t.blocks) noneZ [blk b cs E, kidsR (done ++ t.kids.drop done.length)] trueF wr)
 case atStart => exact ⟨[], _, _, rfl, rfl, by simp, by omega, by simp [T.sizeL], by simp [T.sizeL], rfl, by simp, by simpa using hc, by simpa using H⟩
 case round =>
  clear H
  obtain ⟨done, lc, cs, rfl, rfl, hi, hl0, hlc, hsum, hmk, hbl, hc, H⟩ := hrel
  by_cases hlt : done.length < t.kids.length
  ·have hu : t.kids[done.length]? = some t.kids[done.length] := List.getElem?_eq_getElem hlt
   have hdr := List.drop_eq_getElem_cons hlt
   rw [HT.er_drop hu, T.sizeL, T.size_eq] at hsum
   rw [hdr] at hc hbl H
   generalize t.kids[done.length] = u at hu hc hbl H hsum hdr
   have hsub := ih u (List.mem_of_getElem? hu)
   have hcl : off + done.length * 3 + 3 ≤ cs.length := by
    have hj : done.length * 3 + 2 < (flatT (done ++ u :: t.kids.drop (done.length + 1))).length := by rw [flatT_length]; simp only [List.length_append, List.length_cons]; omega
    have := (List.getElem?_eq_some_iff.1 (hc _ _ (List.getElem?_eq_getElem hj))).1
    omega
   have hf := flat_mark (k := lc) (m := lc + 1) hc
   have c2 : (putL (putL cs (off + done.length * 3) [Value.int IntKind.i64 lc]) (off + done.length * 3 + 1) [Value.int IntKind.i64 (lc + 1)])[off + done.length * 3 + 2]? = some (.slice u.a u.kids.length u.cap) := by
    have := hf (done.length * 3 + 2) (.slice u.a u.kids.length u.cap) (by
     rw [flatT_append, List.getElem?_append_right (by rw [flatT_length]; omega), flatT_length, show done.length * 3 + 2 - done.length * 3 = 2 by omega, flatT_cons]; rfl)
    rw [← Nat.add_assoc] at this
    exact this
   have hsz : T.sizeL (u.er.kids) + 1 ≤ T.sizeL t.er.kids := by omega
   repeat' ((first | (refine T_nil ?_) | ((first | apply U0 | (apply U1; (case hd => decide +kernel)) | (apply U2 (hw := H); (case hd => decide +kernel)) | (apply U3 1; (case hp => rfl); (case hd => decide +kernel)) | (apply U3 2; (case hp => rfl); (case hd => decide +kernel)) | (apply U3 3; (case hp => rfl); (case hd => decide +kernel)) | (apply U3 4; (case hp => rfl); (case hd => decide +kernel)) | (apply U3 5; (case hp => rfl); (case hd => decide +kernel)) | (apply U3 6; (case hp => rfl); (case hd => decide +kernel)) | (apply U3 7; (case hp => rfl); (case hd => decide +kernel)) | (apply U3 8; (case hp => rfl); (case hd => decide +kernel)) | (apply U3 9; (case hp => rfl); (case hd => decide +kernel)) | (apply U3 10; (case hp => rfl); (case hd => decide +kernel)) | (apply U3 11; (case hp => rfl); (case hd => decide +kernel))); (case hg => rfl); (case hy => (first | (apply Yi.a; constructor; all_goals (first | rfl | (constructor <;> omega) | (apply CellIs.own; (case h => repeat constructor); rfl) | (apply Cell3.own; (case h => repeat constructor); all_goals rfl) | exact .own (by repeat constructor) c2)) | (apply Yi.b; constructor; all_goals (first | rfl | (constructor <;> omega) | (apply CellIs.own; (case h => repeat constructor); rfl) | (apply Cell3.own; (case h => repeat constructor); all_goals rfl) | exact .own (by repeat constructor) c2)) | (apply Yi.c; constructor; all_goals (first | rfl | (constructor <;> omega) | (apply CellIs.own; (case h => repeat constructor); rfl) | (apply Cell3.own; (case h => repeat constructor); all_goals rfl) | exact .own (by repeat constructor) c2))))) | ((first | apply V0 | apply Go.Dk.V1 | apply V2 (hw := H)); (case hg => rfl); try decide +kernel) | ((first | refine G0 H ?_ | (refine G1 H (fun _ _ _ _ h => h) (by decide +kernel) ?_; clear H; intro _ H)); simp only [enum, Nat.reduceAdd]) | (apply B0 (hw := H); (case hg => rfl); (case hd => first | with_reducible exact hd_false | decide +kernel); (case hx => rfl); (case hc => rfl); clear H; intro bx _ H) | (apply B1 (hw := H); (case hg => rfl); (case hd => first | with_reducible exact hd_false | decide +kernel); clear H; intro ax _ H) | ((apply W0 (hw := H); (case hg => rfl); (case hd => first | with_reducible exact hd_false | decide +kernel); (case hx => rfl); (case hy => rfl); (case hc => rfl); (case hn => repeat constructor); (case h1 => (rw [Bool.and_eq_true]; exact ⟨rfl, (by rw [Nat.ble_eq]; simp only [putL, List.length_cons, List.length_nil, List.length_set]; omega)⟩)); clear H; intro _ H; (try dsimp only at H); try simp only [evalT, evalC, List.getD_cons_succ, List.getD_cons_zero] at H)) | go_step | (apply X0; (case hy => rfl); all_goals (intro hb; simp only [hb]; (try simp only [decide_eq_true_eq, decide_eq_false_iff_not, Bool.not_eq_true', Bool.not_eq_false', Bool.and_eq_true, Bool.or_eq_true, Bool.and_eq_false_iff, Bool.or_eq_false_iff] at hb); try (exfalso; omega)))) <;> try simp only [List.getElem_toArray, List.getElem_cons_zero, List.getElem_cons_succ, Act.put, evalT, evalC, evalF, List.setIfInBounds_toArray, List.set_cons_succ, List.set_cons_zero, List.getD_cons_succ, List.getD_cons_zero, Nat.reduceAdd, Nat.reduceMul, Nat.add_zero, Nat.zero_add, Int.toNat_natCast, Int.reduceToNat, List.eraseIdx_cons_succ, List.eraseIdx_cons_zero, cond_true, cond_false])
   (apply C1; (case hg => rfl); (case hd => first | with_reducible exact hd_false | decide +kernel); (case hxs => rfl); (case hc => exact hsub (lc + 1 + 1) _ (kids_at (A := done) (B := t.kids.drop (done.length + 1)) (H.own _ (List.mem_cons_of_mem _ (List.mem_cons_self ..)))) (by omega) (by omega)); rintro _ _ ⟨us, rfl, hul, huo, hub, hum, hus, hux⟩; replace H := H.mid (n := 1) (u' := HT.mk lc (lc + 1) u.a u.cap us) rfl hub (mark_own huo) hux; (try simp only [List.set_cons_succ, List.set_cons_zero] at H); refine ⟨_, rfl, _, (by first | exact fun _ _ h => h | exact fun _ _ h => h.tail | exact fun _ _ h => h.unfact (by repeat' (first | exact Stable.true | exact rdF_stable _ | exact iF_stable _ _ | exact sF_stable _ _ | apply Stable.and)) (fun _ _ h => h.2) | exact nofun), H, ?_⟩)
   repeat' ((first | (refine T_nil ?_) | ((first | apply U0 | (apply U1; (case hd => decide +kernel)) | (apply U2 (hw := H); (case hd => decide +kernel)) | (apply U3 1; (case hp => rfl); (case hd => decide +kernel)) | (apply U3 2; (case hp => rfl); (case hd => decide +kernel)) | (apply U3 3; (case hp => rfl); (case hd => decide +kernel)) | (apply U3 4; (case hp => rfl); (case hd => decide +kernel)) | (apply U3 5; (case hp => rfl); (case hd => decide +kernel)) | (apply U3 6; (case hp => rfl); (case hd => decide +kernel)) | (apply U3 7; (case hp => rfl); (case hd => decide +kernel)) | (apply U3 8; (case hp => rfl); (case hd => decide +kernel)) | (apply U3 9; (case hp => rfl); (case hd => decide +kernel)) | (apply U3 10; (case hp => rfl); (case hd => decide +kernel)) | (apply U3 11; (case hp => rfl); (case hd => decide +kernel))); (case hg => rfl); (case hy => (first | (apply Yi.a; constructor; all_goals (first | rfl | (constructor <;> omega) | (apply CellIs.own; (case h => repeat constructor); rfl) | (apply Cell3.own; (case h => repeat constructor); all_goals rfl))) | (apply Yi.b; constructor; all_goals (first | rfl | (constructor <;> omega) | (apply CellIs.own; (case h => repeat constructor); rfl) | (apply Cell3.own; (case h => repeat constructor); all_goals rfl))) | (apply Yi.c; constructor; all_goals (first | rfl | (constructor <;> omega) | (apply CellIs.own; (case h => repeat constructor); rfl) | (apply Cell3.own; (case h => repeat constructor); all_goals rfl)))))) | ((first | apply V0 | apply Go.Dk.V1 | apply V2 (hw := H)); (case hg => rfl); try decide +kernel) | ((first | refine G0 H ?_ | (refine G1 H (fun _ _ _ _ h => h) (by decide +kernel) ?_; clear H; intro _ H)); simp only [enum, Nat.reduceAdd]) | (apply B0 (hw := H); (case hg => rfl); (case hd => first | with_reducible exact hd_false | decide +kernel); (case hx => rfl); (case hc => rfl); clear H; intro bx _ H) | (apply B1 (hw := H); (case hg => rfl); (case hd => first | with_reducible exact hd_false | decide +kernel); clear H; intro ax _ H) | go_step | (apply X0; (case hy => rfl); all_goals (intro hb; simp only [hb]; (try simp only [decide_eq_true_eq, decide_eq_false_iff_not, Bool.not_eq_true', Bool.not_eq_false', Bool.and_eq_true, Bool.or_eq_true, Bool.and_eq_false_iff, Bool.or_eq_false_iff] at hb); try (exfalso; omega)))) <;> try simp only [List.getElem_toArray, List.getElem_cons_zero, List.getElem_cons_succ, Act.put, evalT, evalC, evalF, List.setIfInBounds_toArray, List.set_cons_succ, List.set_cons_zero, List.getD_cons_succ, List.getD_cons_zero, Nat.reduceAdd, Nat.reduceMul, Nat.add_zero, Nat.zero_add, Int.toNat_natCast, Int.reduceToNat, List.eraseIdx_cons_succ, List.eraseIdx_cons_zero, cond_true, cond_false])
   have hx : (HT.mk lc (lc + 1) u.a u.cap us).er = .mk lc (lc + 1) (us.map HT.er) := by rw [HT.er_eq]; rfl
   have happ : done ++ HT.mk lc (lc + 1) u.a u.cap us :: t.kids.drop (done.length + 1) = (done ++ [HT.mk lc (lc + 1) u.a u.cap us]) ++ t.kids.drop (done ++ [HT.mk lc (lc + 1) u.a u.cap us]).length := by simp
   go_roundg (gk - 1)
   case measure => omega
   case rel =>
    refine ⟨done ++ [HT.mk lc (lc + 1) u.a u.cap us], _, _, rfl, by simp, by simp; omega, by omega, ?_, ?_, ?_, ?_, ?_, by rw [← happ]; exact H⟩
    ·rw [List.map_append, List.map_cons, List.map_nil, sizeL_snoc, hx, T.size, hus]; omega
    ·rw [List.map_append, List.map_cons, List.map_nil, sizeL_snoc, hx, T.size, hus, List.length_append]
     simp only [List.length_cons, List.length_nil, Nat.zero_add]
     omega
    ·rw [List.map_append, List.map_cons, List.map_nil, mkTs_snoc, hmk, hx, mkT, ← hlc, decide_eq_true rfl, decide_eq_true rfl, show lc + 2 = lc + 1 + 1 by omega, hum]; rfl
    ·rw [← happ, ← hbl, HT.blocksL_append, HT.blocksL_append]
     simp only [HT.blocksL]
     rw [show HT.blocks (HT.mk lc (lc + 1) u.a u.cap us) = u.blocks from hub]
    ·rw [← happ]
     have e : flatT (done ++ HT.mk lc (lc + 1) u.a u.cap us :: t.kids.drop (done.length + 1)) = flatT (done ++ HT.mk lc (lc + 1) u.a u.cap u.kids :: t.kids.drop (done.length + 1)) := by
      rw [flatT_append, flatT_append, flatT_cons, flatT_cons]
      simp only [HT.sl, HT.k, HT.n, HT.a, HT.cap, HT.kids, hul]
     rw [e]
     exact hf
  ·have h0 : done.length = t.kids.length := by omega
   rw [List.drop_of_length_le (by omega), List.append_nil] at hbl hc H
   rw [List.drop_of_length_le (by rw [HT.er_len]; omega), T.sizeL] at hsum
   have hlt' : ¬ ((done.length : Int) < t.kids.length) := by omega
   have H := H.plantAt t.k t.n t.cap (by omega) (by omega) hc
   repeat' ((first | (refine T_nil ?_) | ((first | apply U0 | (apply U1; (case hd => decide +kernel)) | (apply U2 (hw := H); (case hd => decide +kernel)) | (apply U3 1; (case hp => rfl); (case hd => decide +kernel)) | (apply U3 2; (case hp => rfl); (case hd => decide +kernel)) | (apply U3 3; (case hp => rfl); (case hd => decide +kernel)) | (apply U3 4; (case hp => rfl); (case hd => decide +kernel)) | (apply U3 5; (case hp => rfl); (case hd => decide +kernel)) | (apply U3 6; (case hp => rfl); (case hd => decide +kernel)) | (apply U3 7; (case hp => rfl); (case hd => decide +kernel)) | (apply U3 8; (case hp => rfl); (case hd => decide +kernel)) | (apply U3 9; (case hp => rfl); (case hd => decide +kernel)) | (apply U3 10; (case hp => rfl); (case hd => decide +kernel)) | (apply U3 11; (case hp => rfl); (case hd => decide +kernel))); (case hg => rfl); (case hy => (first | (apply Yi.a; constructor; all_goals (first | rfl | (constructor <;> omega) | (apply CellIs.own; (case h => repeat constructor); rfl) | (apply Cell3.own; (case h => repeat constructor); all_goals rfl))) | (apply Yi.b; constructor; all_goals (first | rfl | (constructor <;> omega) | (apply CellIs.own; (case h => repeat constructor); rfl) | (apply Cell3.own; (case h => repeat constructor); all_goals rfl))) | (apply Yi.c; constructor; all_goals (first | rfl | (constructor <;> omega) | (apply CellIs.own; (case h => repeat constructor); rfl) | (apply Cell3.own; (case h => repeat constructor); all_goals rfl)))))) | ((first | apply V0 | apply Go.Dk.V1 | apply V2 (hw := H)); (case hg => rfl); try decide +kernel) | ((first | refine G0 H ?_ | (refine G1 H (fun _ _ _ _ h => h) (by decide +kernel) ?_; clear H; intro _ H)); simp only [enum, Nat.reduceAdd]) | (apply B0 (hw := H); (case hg => rfl); (case hd => first | with_reducible exact hd_false | decide +kernel); (case hx => rfl); (case hc => rfl); clear H; intro bx _ H) | (apply B1 (hw := H); (case hg => rfl); (case hd => first | with_reducible exact hd_false | decide +kernel); clear H; intro ax _ H) | go_step | (apply X0; (case hy => rfl); all_goals (intro hb; simp only [hb]; (try simp only [decide_eq_true_eq, decide_eq_false_iff_not, Bool.not_eq_true', Bool.not_eq_false', Bool.and_eq_true, Bool.or_eq_true, Bool.and_eq_false_iff, Bool.or_eq_false_iff] at hb); try (exfalso; omega)))) <;> try simp only [List.getElem_toArray, List.getElem_cons_zero, List.getElem_cons_succ, Act.put, evalT, evalC, evalF, List.setIfInBounds_toArray, List.set_cons_succ, List.set_cons_zero, List.getD_cons_succ, List.getD_cons_zero, Nat.reduceAdd, Nat.reduceMul, Nat.add_zero, Nat.zero_add, Int.toNat_natCast, Int.reduceToNat, List.eraseIdx_cons_succ, List.eraseIdx_cons_zero, cond_true, cond_false])
   ((try simp only [Exit.inBlock, Exit.then]); refine ret_post (res1 rfl (R_tmp rfl)) ?_; try simp only [List.getD_cons_succ, List.getD_cons_zero])
   refine ⟨done, ?_, h0, H.own _ (List.mem_cons_self ..), ?_, hmk, by omega, H.ext⟩
   ·have : lc = k + 2 * (T.sizeL t.er.kids : Int) := by omega
    rw [this]
   ·rw [HT.blocks_eq t, ha]
    simp only [HT.blocks, hbl]
    cases hd : done with
    | nil => rw [hd] at h0; simp at h0; exact absurd (List.length_eq_zero_iff.1 h0.symm) hne
    | cons x xs =>
     cases hk : t.kids with
     | nil => exact absurd hk hne
     | cons y ys => rfl
end Go.Proofs.YtnogehmgpfpjmaaGreatDoor
end
section
namespace Go.Proofs.YtnogehmgpfpjmaaGreatDoor
open Go Go.Dk
set_option maxRecDepth 100000 in
set_option maxHeartbeats 1000000 in
theorem l_markTerm (t : HT) (k : Int) (w : World) (ho : (treeR t).own w) (h0 : 0 ≤ k) (h1 : k + 2 * T.sizeL t.er.kids ≤ 1000000000) :
   Calls Tryz.prog 12 #[t.val, .int .i64 k] w fun e w' => ∃ us : List HT, e = .returned (.int .i64 (k + 2 * T.sizeL t.er.kids)) ∧ us.length = t.kids.length ∧ (treeR (HT.mk t.k t.n t.a t.cap us)).own w' ∧ HT.blocks (HT.mk t.k t.n t.a t.cap us) = t.blocks ∧
    mkTs (us.map HT.er) k = true ∧ T.sizeL (us.map HT.er) = T.sizeL t.er.kids ∧ Ext (· ∈ t.blocks) w w' := by
 have H := St.init1 w (· ∈ t.blocks) noneZ Stable.true trivial (treeR_local t) ho (fun b hb => ⟨hb, (Rd.zone t ho.1 b hb).2⟩) (fun b _ h => h)
 go_enter Tryz.func12, Tryz.ntmps12
 repeat' ((first | (refine T_nil ?_) | ((first | apply U0 | (apply U1; (case hd => decide +kernel)) | (apply U2 (hw := H); (case hd => decide +kernel)) | (apply U3 1; (case hp => rfl); (case hd => decide +kernel)) | (apply U3 2; (case hp => rfl); (case hd => decide +kernel)) | (apply U3 3; (case hp => rfl); (case hd => decide +kernel)) | (apply U3 4; (case hp => rfl); (case hd => decide +kernel)) | (apply U3 5; (case hp => rfl); (case hd => decide +kernel)) | (apply U3 6; (case hp => rfl); (case hd => decide +kernel)) | (apply U3 7; (case hp => rfl); (case hd => decide +kernel)) | (apply U3 8; (case hp => rfl); (case hd => decide +kernel)) | (apply U3 9; (case hp => rfl); (case hd => decide +kernel)) | (apply U3 10; (case hp => rfl); (case hd => decide +kernel)) | (apply U3 11; (case hp => rfl); (case hd => decide +kernel))); (case hg => rfl); (case hy => (first | (apply Yi.a; constructor; all_goals (first | rfl | (constructor <;> omega) | (apply CellIs.own; (case h => repeat constructor); rfl) | (apply Cell3.own; (case h => repeat constructor); all_goals rfl))) | (apply Yi.b; constructor; all_goals (first | rfl | (constructor <;> omega) | (apply CellIs.own; (case h => repeat constructor); rfl) | (apply Cell3.own; (case h => repeat constructor); all_goals rfl))) | (apply Yi.c; constructor; all_goals (first | rfl | (constructor <;> omega) | (apply CellIs.own; (case h => repeat constructor); rfl) | (apply Cell3.own; (case h => repeat constructor); all_goals rfl)))))) | ((first | apply V0 | apply Go.Dk.V1 | apply V2 (hw := H)); (case hg => rfl); try decide +kernel) | ((first | refine G0 H ?_ | (refine G1 H (fun _ _ _ _ h => h) (by decide +kernel) ?_; clear H; intro _ H)); simp only [enum, Nat.reduceAdd]) | (apply B0 (hw := H); (case hg => rfl); (case hd => first | with_reducible exact hd_false | decide +kernel); (case hx => rfl); (case hc => rfl); clear H; intro bx _ H) | (apply B1 (hw := H); (case hg => rfl); (case hd => first | with_reducible exact hd_false | decide +kernel); clear H; intro ax _ H) | ((apply C1; (case hg => rfl); (case hd => first | with_reducible exact hd_false | decide +kernel); (case hxs => rfl); (case hc => exact l_markTermS t k _ (H.own _ (List.mem_cons_of_mem _ (List.mem_cons_self ..))) h0 h1); rintro _ _ ⟨us, rfl, hul, huo, hub, hum, hus, hux⟩; replace H := H.remark (n := 1) rfl huo hub hux; (try simp only [List.set_cons_succ, List.set_cons_zero] at H); refine ⟨_, rfl, _, (by first | exact fun _ _ h => h | exact fun _ _ h => h.tail | exact fun _ _ h => h.unfact (by repeat' (first | exact Stable.true | exact rdF_stable _ | exact iF_stable _ _ | exact sF_stable _ _ | apply Stable.and)) (fun _ _ h => h.2) | exact nofun), H, ?_⟩)) | go_step | (apply X0; (case hy => rfl); all_goals (intro hb; simp only [hb]; (try simp only [decide_eq_true_eq, decide_eq_false_iff_not, Bool.not_eq_true', Bool.not_eq_false', Bool.and_eq_true, Bool.or_eq_true, Bool.and_eq_false_iff, Bool.or_eq_false_iff] at hb); try (exfalso; omega)))) <;> try simp only [List.getElem_toArray, List.getElem_cons_zero, List.getElem_cons_succ, Act.put, evalT, evalC, evalF, List.setIfInBounds_toArray, List.set_cons_succ, List.set_cons_zero, List.getD_cons_succ, List.getD_cons_zero, Nat.reduceAdd, Nat.reduceMul, Nat.add_zero, Nat.zero_add, Int.toNat_natCast, Int.reduceToNat, List.eraseIdx_cons_succ, List.eraseIdx_cons_zero, cond_true, cond_false])
 ((try simp only [Exit.inBlock, Exit.then]); refine ret_post (res1 rfl (R_tmp rfl)) ?_; try simp only [List.getD_cons_succ, List.getD_cons_zero])
 exact ⟨us, (by first | rfl | trivial), hul, H.own _ (List.mem_cons_of_mem _ (List.mem_cons_self ..)), hub, hum, hus, H.ext⟩
set_option maxRecDepth 100000 in
set_option maxHeartbeats 1000000 in
theorem l_heldTerm (t : HT) (k : Int) (Z : Zone) (w : World) (hr : Rd Z w t) (h0 : 0 ≤ k) (h1 : k + 2 * T.sizeL t.er.kids ≤ 1000000000) (hm : mkTs t.er.kids k = true) :
   Calls Tryz.prog 13 #[t.val, .int .i64 k] w fun e w' => e = .returned (.int .i64 (k + 2 * T.sizeL t.er.kids)) ∧ Grow w w' := by
 have H := St.init w noneZ Z (rdF_stable t) hr
 go_enter Tryz.func13, Tryz.ntmps13
 repeat' ((first | (refine T_nil ?_) | ((first | apply U0 | (apply U1; (case hd => decide +kernel)) | (apply U2 (hw := H); (case hd => decide +kernel)) | (apply U3 1; (case hp => rfl); (case hd => decide +kernel)) | (apply U3 2; (case hp => rfl); (case hd => decide +kernel)) | (apply U3 3; (case hp => rfl); (case hd => decide +kernel)) | (apply U3 4; (case hp => rfl); (case hd => decide +kernel)) | (apply U3 5; (case hp => rfl); (case hd => decide +kernel)) | (apply U3 6; (case hp => rfl); (case hd => decide +kernel)) | (apply U3 7; (case hp => rfl); (case hd => decide +kernel)) | (apply U3 8; (case hp => rfl); (case hd => decide +kernel)) | (apply U3 9; (case hp => rfl); (case hd => decide +kernel)) | (apply U3 10; (case hp => rfl); (case hd => decide +kernel)) | (apply U3 11; (case hp => rfl); (case hd => decide +kernel))); (case hg => rfl); (case hy => (first | (apply Yi.a; constructor; all_goals (first | rfl | (constructor <;> omega) | (apply CellIs.own; (case h => repeat constructor); rfl) | (apply Cell3.own; (case h => repeat constructor); all_goals rfl))) | (apply Yi.b; constructor; all_goals (first | rfl | (constructor <;> omega) | (apply CellIs.own; (case h => repeat constructor); rfl) | (apply Cell3.own; (case h => repeat constructor); all_goals rfl))) | (apply Yi.c; constructor; all_goals (first | rfl | (constructor <;> omega) | (apply CellIs.own; (case h => repeat constructor); rfl) | (apply Cell3.own; (case h => repeat constructor); all_goals rfl)))))) | ((first | apply V0 | apply Go.Dk.V1 | apply V2 (hw := H)); (case hg => rfl); try decide +kernel) | ((first | refine G0 H ?_ | (refine G1 H (fun _ _ _ _ h => h) (by decide +kernel) ?_; clear H; intro _ H)); simp only [enum, Nat.reduceAdd]) | (apply B0 (hw := H); (case hg => rfl); (case hd => first | with_reducible exact hd_false | decide +kernel); (case hx => rfl); (case hc => rfl); clear H; intro bx _ H) | (apply B1 (hw := H); (case hg => rfl); (case hd => first | with_reducible exact hd_false | decide +kernel); clear H; intro ax _ H) | ((apply C0 (hw := H); (case hg => rfl); (case hd => first | with_reducible exact hd_false | decide +kernel); (case hxs => rfl); (case hc => exact l_heldTermS t k _ _ H.per h0 h1 hm); clear H; intro _ H)) | go_step | (apply X0; (case hy => rfl); all_goals (intro hb; simp only [hb]; (try simp only [decide_eq_true_eq, decide_eq_false_iff_not, Bool.not_eq_true', Bool.not_eq_false', Bool.and_eq_true, Bool.or_eq_true, Bool.and_eq_false_iff, Bool.or_eq_false_iff] at hb); try (exfalso; omega)))) <;> try simp only [List.getElem_toArray, List.getElem_cons_zero, List.getElem_cons_succ, Act.put, evalT, evalC, evalF, List.setIfInBounds_toArray, List.set_cons_succ, List.set_cons_zero, List.getD_cons_succ, List.getD_cons_zero, Nat.reduceAdd, Nat.reduceMul, Nat.add_zero, Nat.zero_add, Int.toNat_natCast, Int.reduceToNat, List.eraseIdx_cons_succ, List.eraseIdx_cons_zero, cond_true, cond_false])
 ((try simp only [Exit.inBlock, Exit.then]); refine ret_post (res1 rfl (R_tmp rfl)) ?_; try simp only [List.getD_cons_succ, List.getD_cons_zero])
 (first | exact ⟨rfl, H.ext⟩ | exact ⟨trivial, H.ext⟩)
theorem mk_val {g : HT} {us : List HT} (h : us.length = g.kids.length) : (HT.mk g.k g.n g.a g.cap us).val = g.val := by
 show Value.agg #[.int .i64 g.k, .int .i64 g.n, .slice g.a us.length g.cap] = _
 rw [h]; rfl
theorem mk_er {g : HT} {us : List HT} : (HT.mk g.k g.n g.a g.cap us).er.kids = us.map HT.er := by rw [HT.er_kids]; rfl
theorem l_heldTerm_us {g : HT} {us : List HT} (hul : us.length = g.kids.length) (k : Int) (Z : Zone) (w : World) (hr : Rd Z w (HT.mk g.k g.n g.a g.cap us)) (h0 : 0 ≤ k) (h1 : k + 2 * T.sizeL g.er.kids ≤ 1000000000)
   (hm : mkTs (us.map HT.er) k = true) (hs : T.sizeL (us.map HT.er) = T.sizeL g.er.kids) : Calls Tryz.prog 13 #[g.val, .int .i64 k] w fun e w' => e = .returned (.int .i64 (k + 2 * T.sizeL g.er.kids)) ∧ Grow w w' := by
 have h := l_heldTerm (HT.mk g.k g.n g.a g.cap us) k Z w hr h0 (by rw [mk_er, hs]; exact h1) (by rw [mk_er]; exact hm)
 rw [mk_val hul, mk_er, hs] at h
 exact h
end Go.Proofs.YtnogehmgpfpjmaaGreatDoor
end
section
namespace Go.Proofs.YtnogehmgpfpjmaaGreatDoor
open Go.ChangeShapes Go.WideShapes Go.ChangeAt Go.RowKit
open Go.ChangeMaps (open_string shut_string)
open Go.Dk
theorem own : ownKnob Tryz.prog.godebug = none := by kernel_rfl
theorem laidOut : laidOutB Tryz.prog = true := by kernel_rfl
section
variable {H : Type} {enc : TypeId × Value → H} {P : Program} {W : World} {sp : Nat → Bool} {hd : Bool}
end
end Go.Proofs.YtnogehmgpfpjmaaGreatDoor
end
section
namespace Go.Proofs.YtnogehmgpfpjmaaGreatDoor
open Go.ChangeShapes Go.WideShapes Go.ChangeAt Go.RowKit
open Go.ChangeMaps (open_string shut_string)
open Go.Dk
theorem change_and_shaped {H : Type} {enc : TypeId × Value → H} {a : Assume} {C : Checked} {os : Os} {f : FuncId} {fn : Func} {s : ChangeSpec} {conds : List PathCond} {apart fresh handsOn again : Bool} {X : World → Array Value → Prop}
   (hX : ∀ (w w' : World) (args : Array Value), w.heap = w'.heap → X w args → X w' args)
   (own : ownKnob C.prog.godebug = none) (started : os.Started) (noInit : C.prog.inits.idxOf? f = none) (hfn : C.prog.funcs[f]? = some fn)
   (witness : ∃ (w : World) (tape : Tape) (i : Input), w.os = os ∧ (w.forCall tape i).Shaped C.prog ∧ i.vars = [] ∧ Input.okWide C.prog (w.forCall tape i) .any w.heap.size f i ∧
    ((s.pre enc C.prog fn conds apart (w.forCall tape i).memory i.args ∧ X (w.forCall tape i).memory i.args) ∧ sizedMet enc C.prog fn (OpenSpec.ofChange s) apart (w.forCall tape i).memory i.args) ∧ a.holds C.prog (lone (Frame.enter C.prog f i.args .normal) [] (w.forCall tape i)))
   (contract : ∀ (W : World) (base : Nat) (args : Array Value) (ds gs : List (DataW H)) (before : List MemPlace),
    (∀ (j : Nat) t v, fn.params[j]? = some t → args[j]? = some v → Value.okWide C.prog W .any base t v) →
    DataW.Whole enc C.prog fn.params.toList s.vars apart W args.toList ds gs before → X W args → W.ShapedOpen C.prog →
    Calls C.prog f args W fun e W' => ∃ v, e = .returned v ∧ s.post enc C.prog fn apart fresh handsOn again W args v W') :
   ReturnsInHanded a C os f .any (fun w args => (s.pre enc C.prog fn conds apart w args ∧ X w args) ∧ sizedMet enc C.prog fn (OpenSpec.ofChange s) apart w args) (s.post enc C.prog fn apart fresh handsOn again) := by
 refine returnsInHanded_of_calls own started noInit witness ?_
 intro w tape i _ hsh _ hok hpre hholds
 obtain ⟨_, _, _, fn', hfn', _, _, _, _, hval⟩ := hok
 have e : fn' = fn := Option.some.inj (hfn'.symm.trans hfn)
 subst e
 obtain ⟨⟨⟨ds, gs, before, hw, hc⟩, hx⟩, hz⟩ := hpre
 have hw' := DataW.Whole.of_heap (w' := w.forCall tape i) (by rfl) hw
 refine (contract (w.forCall tape i) w.heap.size i.args ds gs before hval hw' (hX _ _ _ (by rfl) hx) hsh).mono fun e W' ⟨v, he, hp⟩ => ?_
 subst he
 exact ChangeSpec.post_blind hp
theorem trod_iface {H : Type} {enc : TypeId × Value → H} {P : Program} {w : World} {base : Nat} {sp : Nat → Bool} {held : Bool} {fuel : Nat} {t : TypeId} {cs : List Value} {x : DataW H × List MemPlace} {ms : Array (String × TypeId)}
   (ht : P.underlying t = some (.interface ms)) (h : DataW.trod enc P w base sp held fuel t cs = some x) : ∃ ev, cs = [ev] ∧ (ev = .nilIface ∨ ∃ u v, ev = .iface u v) := by
 cases fuel with
 | zero => simp [DataW.trod] at h
 | succ n =>
  unfold DataW.trod at h
  rw [ht] at h
  split at h <;> simp_all
theorem iface_of_reads {P : Program} {W : World} {name : String} {d : DataW Unit} {g : Nat} {t : TypeId} {ms : Array (String × TypeId)} (h : Lib.VarReads P W name d)
   (hg : P.globalNamed name = some g) (hty : (P.globals[g]?).map (·.type) = some t) (ht : P.underlying t = some (.interface ms)) : ∃ ev, W.cell? ⟨g, 0, none⟩ = some ev ∧ (ev = .nilIface ∨ ∃ t p, ev = .iface t p) := by
 obtain ⟨g', t', cs, fuel, p, hg', ht', hv, hd⟩ := h
 obtain rfl := Option.some.inj (hg.symm.trans hg')
 obtain rfl := Option.some.inj (hty.symm.trans ht')
 obtain ⟨ev, hc, he⟩ := trod_iface ht hd
 refine ⟨ev, ?_, he⟩
 have := World.var?_cell hg hv 0
 rw [Array.eq_one_of_toList hc] at this
 simpa using this
theorem heap_of_reads {P : Program} {W : World} {name : String} {k : IntKind} {zs : List Int} {g : Nat} {t e : TypeId} {n : Nat} (h : Lib.VarReads P W name (Lib.tabData k zs))
   (hg : P.globalNamed name = some g) (hty : (P.globals[g]?).map (·.type) = some t) (ht : P.underlying t = some (.array n e)) (he : P.underlying e = some (.int k)) (hce : P.cellsOf e = 1) (hct : P.cellsOf t = n) :
   ∃ t p, W.heap[g]? = some (.cells (zs.map fun z => Value.int k z).toArray t p) := by
 obtain ⟨g', t', cs, fuel, p, hg', ht', hv, hd⟩ := h
 obtain rfl := Option.some.inj (hg.symm.trans hg')
 obtain rfl := Option.some.inj (hty.symm.trans ht')
 have hcs := Lib.cells_of_tab ht he hce hct hd
 unfold World.var? at hv
 rw [hg, Option.bind_some] at hv
 split at hv
 ·rename_i cs' t2 p2 hh
  cases hv
  exact ⟨t2, p2, by rw [hh, ← hcs]⟩
 ·cases hv
theorem size_of_shapedOpen {P : Program} {w : World} {g : Nat} {r : Array Value × TypeId} (h : w.ShapedOpen P) (hg : g < P.globals.size) (h0 : ((begin P (fun _ _ => 0) default).world.heap[g]?).bind Obj.row? = some r) : g < w.heap.size := by
 obtain ⟨cs, hh, _⟩ := h.1 g r.1 r.2 hg h0
 exact (Array.getElem?_eq_some_iff.1 hh).1
theorem gl_of {W : World} {l : List (String × DataW Unit)} (hL : laidMet Tryz.prog l W) (hs : W.ShapedOpen Tryz.prog)
   (h1 : ("internal/strconv.uint64pow10", Rows.laid_internal_strconv_uint64pow10) ∈ l) (h2 : ("strconv.ErrSyntax", Rows.laid_strconv_ErrSyntax) ∈ l) (h3 : ("strconv.ErrRange", Rows.laid_strconv_ErrRange) ∈ l) : Go.Ab.GL noneZ W := by
 refine ⟨W, ⟨?_, ?_, ?_, ?_⟩, fun g hg => ⟨fun h => h.elim, ?_, rfl⟩⟩
 ·exact cell_of_shapedOpen_int (t := 3) (zero := #[.int .i64 0]) hs (of_decide_eq_true (by kernel_rfl)) (by kernel_rfl) rfl (by kernel_rfl) (by kernel_rfl) Tryz.underlying3
 ·exact iface_of_reads (Lib.laidMet.reads hL h2) (by kernel_rfl) (by kernel_rfl) Tryz.underlying105
 ·exact iface_of_reads (Lib.laidMet.reads hL h3) (by kernel_rfl) (by kernel_rfl) Tryz.underlying105
 ·exact heap_of_reads (k := .u64) (zs := ((List.range 20).map fun i => ((10 ^ i : Nat) : Int))) (Lib.laidMet.reads hL h1) (by kernel_rfl) (by kernel_rfl) Tryz.underlying141 Tryz.underlying127 (by kernel_rfl) (by kernel_rfl)
 ·have hb : ∀ g, g < Go.Ab.GLK → g < Tryz.prog.globals.size ∧ (((begin Tryz.prog (fun _ _ => 0) default).world.heap[g]?).bind Obj.row?).isSome = true := by
    have : ((List.range Go.Ab.GLK).all fun g => decide (g < Tryz.prog.globals.size) && (((begin Tryz.prog (fun _ _ => 0) default).world.heap[g]?).bind Obj.row?).isSome) = true := by kernel_rfl
    intro g hg
    have := List.all_eq_true.1 this g (List.mem_range.2 hg)
    simpa using this
  obtain ⟨h1, h2⟩ := hb g hg
  obtain ⟨r, hr⟩ := Option.isSome_iff_exists.1 h2
  exact size_of_shapedOpen hs h1 hr
end Go.Proofs.YtnogehmgpfpjmaaGreatDoor
end
