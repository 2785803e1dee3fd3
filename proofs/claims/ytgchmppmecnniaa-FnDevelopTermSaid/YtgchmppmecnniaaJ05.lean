/- Part 5 of the proof. -/
import Derived.Test.YtgchmppmecnniaaJ01
import Derived.Test.YtgchmppmecnniaaJ02
import Derived.Test.YtgchmppmecnniaaJ03
import Derived.Test.YtgchmppmecnniaaJ04
set_option linter.unusedVariables false
set_option linter.unusedSimpArgs false
section
namespace Go.Proofs.Ytgchmppmecnniaa
open Go Go.Dk
set_option maxRecDepth 100000 in
set_option maxHeartbeats 1000000 in
theorem iw_own (t : HT) : ∀ (Z : Zone) (w : World), Rd Z w t → t.er.size ≤ 1000000 →
   Calls Try.prog 42 #[t.val] w fun e w' => ∃ u : HT, e = .returned u.val ∧ Grow w w' ∧ Own w w' u ∧ u.er = t.er := by
 induction t using HT.ind with | h t ih =>
 intro Z w hr hsz
 have H := St.init w noneZ Z (rdF_stable t) hr
 have hlen := hr.len
 have hsl := T.sizeL_len t.er.kids
 rw [T.size_eq] at hsz
 rw [HT.er_len] at hsl
 go_enter Try.func42, Try.ntmps42
 repeat' ((first | (refine T_nil ?_) | ((first | apply U0 | (apply U1; (case hd => decide +kernel)) | (apply U2 (hw := H); (case hd => decide +kernel)) | (apply U3 1; (case hp => rfl); (case hd => decide +kernel)) | (apply U3 2; (case hp => rfl); (case hd => decide +kernel)) | (apply U3 3; (case hp => rfl); (case hd => decide +kernel)) | (apply U3 4; (case hp => rfl); (case hd => decide +kernel)) | (apply U3 5; (case hp => rfl); (case hd => decide +kernel)) | (apply U3 6; (case hp => rfl); (case hd => decide +kernel)) | (apply U3 7; (case hp => rfl); (case hd => decide +kernel)) | (apply U3 8; (case hp => rfl); (case hd => decide +kernel)) | (apply U3 9; (case hp => rfl); (case hd => decide +kernel)) | (apply U3 10; (case hp => rfl); (case hd => decide +kernel)) | (apply U3 11; (case hp => rfl); (case hd => decide +kernel))); (case hg => rfl); (case hy => (first | (apply Yi.a; constructor; all_goals (first | rfl | (constructor <;> omega) | (apply CellIs.own; (case h => repeat constructor); rfl) | (apply Cell3.own; (case h => repeat constructor); all_goals rfl))) | (apply Yi.b; constructor; all_goals (first | rfl | (constructor <;> omega) | (apply CellIs.own; (case h => repeat constructor); rfl) | (apply Cell3.own; (case h => repeat constructor); all_goals rfl))) | (apply Yi.c; constructor; all_goals (first | rfl | (constructor <;> omega) | (apply CellIs.own; (case h => repeat constructor); rfl) | (apply Cell3.own; (case h => repeat constructor); all_goals rfl)))))) | ((first | apply V0 | apply V1 | apply V2 (hw := H)); (case hg => rfl); try decide +kernel) | ((first | refine G0 H ?_ | (refine G1 H (fun _ _ _ _ h => h) (by decide +kernel) ?_; clear H; intro _ H)); simp only [enum, Nat.reduceAdd]) | (apply B0 (hw := H); (case hg => rfl); (case hd => first | exact hd_false | decide +kernel); (case hx => rfl); (case hc => rfl); clear H; intro bx _ H) | (apply B1 (hw := H); (case hg => rfl); (case hd => first | exact hd_false | decide +kernel); clear H; intro ax _ H) | ((apply W0 (hw := H); (case hg => rfl); (case hd => first | exact hd_false | decide +kernel); (case hx => rfl); (case hy => rfl); (case hc => rfl); (case hn => repeat constructor); (case h1 => rfl); clear H; intro _ H; (try dsimp only at H); try simp only [putL, List.set_cons_succ, List.set_cons_zero, evalT, evalC, List.getD_cons_succ, List.getD_cons_zero, Nat.zero_add, Nat.reduceAdd] at H)) | go_step | (apply X0; (case hy => rfl); all_goals (intro hb; simp only [hb]; (try simp only [decide_eq_true_eq, decide_eq_false_iff_not, Bool.not_eq_true', Bool.not_eq_false', Bool.and_eq_true, Bool.or_eq_true, Bool.and_eq_false_iff, Bool.or_eq_false_iff] at hb); try (exfalso; omega)))) <;> try simp only [List.getElem_toArray, List.getElem_cons_zero, List.getElem_cons_succ, Act.put, evalT, evalC, evalF, List.setIfInBounds_toArray, List.set_cons_succ, List.set_cons_zero, List.getD_cons_succ, List.getD_cons_zero, Nat.reduceAdd, Nat.reduceMul, Nat.add_zero, Nat.zero_add, Int.toNat_natCast, Int.reduceToNat, List.eraseIdx_cons_succ, List.eraseIdx_cons_zero, cond_true, cond_false])
 rename_i rb _ _ _ _ _
 have H := (H.pushRow 25 3).pushNone
 go_loopg [14] t.kids.length (fun g v wr => ∃ (i : Nat) (us : List HT) (sa : Option Addr) (sc : Nat), v = .int .i64 i ∧ i + g = t.kids.length ∧ us.length = i ∧ us.map HT.er ++ t.er.kids.drop i = t.er.kids ∧
  St w noneZ Z [kidsR us, rowR 25 3 (.slice sa i sc) i (flatT us), blk ax [.int .i64 t.k, .int .i64 t.n, .slice sa i sc] 25, blk rb [.int .i64 0, .int .i64 0, .slice none 0 0] 25] (rdF t) wr)
 case atStart => exact ⟨0, [], _, _, rfl, by omega, rfl, by simp, H.drop 4⟩
 case round =>
  clear H
  obtain ⟨i, us, sa, sc, rfl, hi, hus, hsum, H⟩ := hrel
  by_cases hlt : i < t.kids.length
  ·have hu : t.kids[i]? = some t.kids[i] := List.getElem?_eq_getElem hlt
   obtain ⟨b, off, ha⟩ := hr.addr hu
   generalize t.kids[i] = u at hu
   have hmem : u ∈ t.kids := List.mem_of_getElem? hu
   have hsub := ih u hmem
   have hsu : u.er.size ≤ 1000000 := by have := HT.sizeL_kid hmem; rw [T.size_eq]; omega
   subst hus
   repeat' ((first | (refine T_nil ?_) | ((first | apply U0 | (apply U1; (case hd => decide +kernel)) | (apply U2 (hw := H); (case hd => decide +kernel)) | (apply U3 1; (case hp => rfl); (case hd => decide +kernel)) | (apply U3 2; (case hp => rfl); (case hd => decide +kernel)) | (apply U3 3; (case hp => rfl); (case hd => decide +kernel)) | (apply U3 4; (case hp => rfl); (case hd => decide +kernel)) | (apply U3 5; (case hp => rfl); (case hd => decide +kernel)) | (apply U3 6; (case hp => rfl); (case hd => decide +kernel)) | (apply U3 7; (case hp => rfl); (case hd => decide +kernel)) | (apply U3 8; (case hp => rfl); (case hd => decide +kernel)) | (apply U3 9; (case hp => rfl); (case hd => decide +kernel)) | (apply U3 10; (case hp => rfl); (case hd => decide +kernel)) | (apply U3 11; (case hp => rfl); (case hd => decide +kernel))); (case hg => rfl); (case hy => (first | (apply Yi.a; constructor; all_goals (first | rfl | (constructor <;> omega) | (apply CellIs.own; (case h => repeat constructor); rfl) | (apply Cell3.own; (case h => repeat constructor); all_goals rfl) | exact ha | exact .mk fun w h => (Rd.elem h.per ha hu).1)) | (apply Yi.b; constructor; all_goals (first | rfl | (constructor <;> omega) | (apply CellIs.own; (case h => repeat constructor); rfl) | (apply Cell3.own; (case h => repeat constructor); all_goals rfl) | exact ha | exact .mk fun w h => (Rd.elem h.per ha hu).1)) | (apply Yi.c; constructor; all_goals (first | rfl | (constructor <;> omega) | (apply CellIs.own; (case h => repeat constructor); rfl) | (apply Cell3.own; (case h => repeat constructor); all_goals rfl) | exact ha | exact .mk fun w h => (Rd.elem h.per ha hu).1))))) | ((first | apply V0 | apply V1 | apply V2 (hw := H)); (case hg => rfl); try decide +kernel) | ((first | refine G0 H ?_ | (refine G1 H (fun _ _ _ _ h => h) (by decide +kernel) ?_; clear H; intro _ H)); simp only [enum, Nat.reduceAdd]) | (apply B0 (hw := H); (case hg => rfl); (case hd => first | exact hd_false | decide +kernel); (case hx => rfl); (case hc => rfl); clear H; intro bx _ H) | (apply B1 (hw := H); (case hg => rfl); (case hd => first | exact hd_false | decide +kernel); clear H; intro ax _ H) | ((apply W0 (hw := H); (case hg => rfl); (case hd => first | exact hd_false | decide +kernel); (case hx => rfl); (case hy => rfl); (case hc => rfl); (case hn => repeat constructor); (case h1 => rfl); clear H; intro _ H; (try dsimp only at H); try simp only [putL, List.set_cons_succ, List.set_cons_zero, evalT, evalC, List.getD_cons_succ, List.getD_cons_zero, Nat.zero_add, Nat.reduceAdd] at H)) | ((apply C1; (case hg => rfl); (case hd => first | exact hd_false | decide +kernel); (case hxs => rfl); (case hc => exact hsub _ _ (Rd.elem H.per ha hu).2 hsu); rintro _ _ ⟨x, rfl, hg, ho, he⟩; replace H := H.pushTree hg ho; (try simp only [List.set_cons_succ, List.set_cons_zero] at H); refine ⟨_, rfl, _, (by first | exact fun _ _ h => h | exact fun _ _ h => h.tail | exact fun _ _ h => h.unfact (by repeat' (first | exact Stable.true | exact rdF_stable _ | exact iF_stable _ _ | apply Stable.and)) (fun _ _ h => h.2) | exact nofun), H, ?_⟩)) | ((apply B2 (hw := H); (case hg => rfl); (case hd => first | exact hd_false | decide +kernel); (case hvs => (simp only [List.map_cons, List.map_nil, evalT, evalC, List.getD_cons_succ, List.getD_cons_zero]; rfl)); (case hcs => (simp only [flatC, List.flatMap_cons, List.flatMap_nil, Value.cells, HT.val, List.cons_append, List.nil_append, List.append_nil]; rfl)); (case hix => rfl); (case hn => rfl); (case hsz => rfl); (case hb => rfl); clear H; intro sx _ H)) | ((apply A1 (hw := H) (i := 4) (p := 0); (case hg => rfl); (case hd => first | exact hd_false | decide +kernel); (case hx => rfl); (case hy => rfl); (case hi => rfl); (case hq => rfl); (case hl => rfl); (case h1 => rfl); (case hbytes => omega); (case h63 => omega); clear H; intro ra rc _ H; (try simp only [List.set_cons_succ, List.set_cons_zero] at H))) | go_step | (apply X0; (case hy => rfl); all_goals (intro hb; simp only [hb]; (try simp only [decide_eq_true_eq, decide_eq_false_iff_not, Bool.not_eq_true', Bool.not_eq_false', Bool.and_eq_true, Bool.or_eq_true, Bool.and_eq_false_iff, Bool.or_eq_false_iff] at hb); try (exfalso; omega)))) <;> try simp only [List.getElem_toArray, List.getElem_cons_zero, List.getElem_cons_succ, Act.put, evalT, evalC, evalF, List.setIfInBounds_toArray, List.set_cons_succ, List.set_cons_zero, List.getD_cons_succ, List.getD_cons_zero, Nat.reduceAdd, Nat.reduceMul, Nat.add_zero, Nat.zero_add, Int.toNat_natCast, Int.reduceToNat, List.eraseIdx_cons_succ, List.eraseIdx_cons_zero, cond_true, cond_false])
   rw [HT.er_drop hu] at hsum
   have H := (H.tail.drop 1).snoc
   go_roundg (gk - 1)
   case measure => omega
   case rel => exact ⟨us.length + 1, us ++ [x], _, _, by simp, by omega, by simp, by rw [List.map_append, List.append_assoc, List.map_cons, List.map_nil, he]; exact hsum, by rw [flatT_append]; exact H⟩
  ·have h0 : i = t.kids.length := by omega
   rw [List.drop_of_length_le (by rw [HT.er_len]; omega), List.append_nil] at hsum
   have hlt' : ¬ ((i : Int) < t.kids.length) := by omega
   obtain ⟨a, cap, hv, H⟩ := H.swap.plantRow rfl hus.symm t.k t.n
   obtain ⟨rfl, -, rfl⟩ : sa = a ∧ i = us.length ∧ sc = cap := by injection hv with h1 h2 h3; exact ⟨h1, h2, h3⟩
   repeat' ((first | (refine T_nil ?_) | ((first | apply U0 | (apply U1; (case hd => decide +kernel)) | (apply U2 (hw := H); (case hd => decide +kernel)) | (apply U3 1; (case hp => rfl); (case hd => decide +kernel)) | (apply U3 2; (case hp => rfl); (case hd => decide +kernel)) | (apply U3 3; (case hp => rfl); (case hd => decide +kernel)) | (apply U3 4; (case hp => rfl); (case hd => decide +kernel)) | (apply U3 5; (case hp => rfl); (case hd => decide +kernel)) | (apply U3 6; (case hp => rfl); (case hd => decide +kernel)) | (apply U3 7; (case hp => rfl); (case hd => decide +kernel)) | (apply U3 8; (case hp => rfl); (case hd => decide +kernel)) | (apply U3 9; (case hp => rfl); (case hd => decide +kernel)) | (apply U3 10; (case hp => rfl); (case hd => decide +kernel)) | (apply U3 11; (case hp => rfl); (case hd => decide +kernel))); (case hg => rfl); (case hy => (first | (apply Yi.a; constructor; all_goals (first | rfl | (constructor <;> omega) | (apply CellIs.own; (case h => repeat constructor); rfl) | (apply Cell3.own; (case h => repeat constructor); all_goals rfl))) | (apply Yi.b; constructor; all_goals (first | rfl | (constructor <;> omega) | (apply CellIs.own; (case h => repeat constructor); rfl) | (apply Cell3.own; (case h => repeat constructor); all_goals rfl))) | (apply Yi.c; constructor; all_goals (first | rfl | (constructor <;> omega) | (apply CellIs.own; (case h => repeat constructor); rfl) | (apply Cell3.own; (case h => repeat constructor); all_goals rfl)))))) | ((first | apply V0 | apply V1 | apply V2 (hw := H)); (case hg => rfl); try decide +kernel) | ((first | refine G0 H ?_ | (refine G1 H (fun _ _ _ _ h => h) (by decide +kernel) ?_; clear H; intro _ H)); simp only [enum, Nat.reduceAdd]) | (apply B0 (hw := H); (case hg => rfl); (case hd => first | exact hd_false | decide +kernel); (case hx => rfl); (case hc => rfl); clear H; intro bx _ H) | (apply B1 (hw := H); (case hg => rfl); (case hd => first | exact hd_false | decide +kernel); clear H; intro ax _ H) | ((apply W0 (hw := H); (case hg => rfl); (case hd => first | exact hd_false | decide +kernel); (case hx => rfl); (case hy => rfl); (case hc => rfl); (case hn => repeat constructor); (case h1 => rfl); clear H; intro _ H; (try dsimp only at H); try simp only [putL, List.set_cons_succ, List.set_cons_zero, evalT, evalC, List.getD_cons_succ, List.getD_cons_zero, Nat.zero_add, Nat.reduceAdd] at H)) | go_step | (apply X0; (case hy => rfl); all_goals (intro hb; simp only [hb]; (try simp only [decide_eq_true_eq, decide_eq_false_iff_not, Bool.not_eq_true', Bool.not_eq_false', Bool.and_eq_true, Bool.or_eq_true, Bool.and_eq_false_iff, Bool.or_eq_false_iff] at hb); try (exfalso; omega)))) <;> try simp only [List.getElem_toArray, List.getElem_cons_zero, List.getElem_cons_succ, Act.put, evalT, evalC, evalF, List.setIfInBounds_toArray, List.set_cons_succ, List.set_cons_zero, List.getD_cons_succ, List.getD_cons_zero, Nat.reduceAdd, Nat.reduceMul, Nat.add_zero, Nat.zero_add, Int.toNat_natCast, Int.reduceToNat, List.eraseIdx_cons_succ, List.eraseIdx_cons_zero, cond_true, cond_false])
   ((try simp only [Exit.inBlock, Exit.then]); refine ret_post (res1 rfl (R_cell rfl (load3 (ST3.out) (H.cell at2 rfl) (H.cell at2 rfl) (H.cell at2 rfl)))) ?_)
   refine ⟨.mk t.k t.n sa sc us, ?_, H.ext, H.outTree, ?_⟩
   ·simp only [HT.val, HT.k, HT.n, HT.a, HT.kids, HT.cap, hus]
   ·rw [HT.er_eq, HT.er_eq t]
    show T.mk t.k t.n (us.map HT.er) = _
    rw [hsum, HT.er_kids]
end Go.Proofs.Ytgchmppmecnniaa
end
section
namespace Go.Dk
open Go
theorem res0 {P : Program} {fn : Func} {tmps : List Value} {w : World} (h : fn.results = #[]) : (results fn tmps.toArray).run P w = .ok (.tuple #[]) w := by
 rw [results_eq, h]
 simp [Sem.run_bind]
theorem flat_set {R : List Value} : ∀ (vs : List HT) (i : Nat) (u : HT), i < vs.length → putL (flatT vs ++ R) (i * 3) [.int .i64 u.k, .int .i64 u.n, .slice u.a u.kids.length u.cap] = flatT (vs.set i u) ++ R := by
 intro vs i u hi
 have e : vs = vs.take i ++ vs[i] :: vs.drop (i + 1) := by
  rw [← List.drop_eq_getElem_cons hi, List.take_append_drop]
 have e2 : vs.set i u = vs.take i ++ u :: vs.drop (i + 1) := by
  rw [List.set_eq_take_append_cons_drop, if_pos hi]
 have hl : (flatT (vs.take i)).length = i * 3 := by rw [flatT_length, List.length_take, Nat.min_eq_left (by omega)]
 have h := putL_at (flatT (vs.take i)) (flatT (vs.drop (i + 1)) ++ R) [.int .i64 u.k, .int .i64 u.n, .slice u.a u.kids.length u.cap] [.int .i64 vs[i].k, .int .i64 vs[i].n, vs[i].sl] rfl
 rw [hl] at h
 rw [e2]
 conv => lhs; rw [e]
 rw [flatT_append, flatT_append, flatT_cons, flatT_cons, List.append_assoc, List.append_assoc]
 exact h
theorem flat_get {R : List Value} {vs : List HT} {i : Nat} {u : HT} (h : vs[i]? = some u) : (flatT vs ++ R)[i * 3]? = some (.int .i64 u.k) ∧ (flatT vs ++ R)[i * 3 + 1]? = some (.int .i64 u.n) ∧ (flatT vs ++ R)[i * 3 + 2]? = some (.slice u.a u.kids.length u.cap) := by
 have hi := (List.getElem?_eq_some_iff.1 h).1
 have e : vs = vs.take i ++ u :: vs.drop (i + 1) := by
  have := (List.getElem?_eq_some_iff.1 h).2
  rw [← this, ← List.drop_eq_getElem_cons hi, List.take_append_drop]
 have hl : (flatT (vs.take i)).length = i * 3 := by rw [flatT_length, List.length_take, Nat.min_eq_left (by omega)]
 rw [e, flatT_append, flatT_cons, List.append_assoc]
 refine ⟨?_, ?_, ?_⟩
 ·rw [List.getElem?_append_right (by omega), hl, Nat.sub_self]; rfl
 ·rw [List.getElem?_append_right (by omega), hl, show i * 3 + 1 - i * 3 = 1 by omega]; rfl
 ·rw [List.getElem?_append_right (by omega), hl, show i * 3 + 2 - i * 3 = 2 by omega]; rfl
theorem kidsR_perm {ts us : List HT} (h : ts.Perm us) {w : World} (ho : (kidsR ts).own w) : (kidsR us).own w ∧ ∀ b, (kidsR us).foot b ↔ (kidsR ts).foot b := by
 have hb : (HT.blocksL ts).Perm (HT.blocksL us) := by
  have e : ∀ l : List HT, HT.blocksL l = l.flatMap HT.blocks := fun l => by
   induction l with
   | nil => rfl
   | cons x l ih => simp only [HT.blocksL, List.flatMap_cons, ih]
  rw [e, e]
  exact h.flatMap_right _
 refine ⟨⟨fun t ht => ho.1 t (h.mem_iff.2 ht), hb.nodup_iff.1 ho.2.1, fun b hb' => ho.2.2 b (hb.mem_iff.2 hb')⟩, fun b => (hb.mem_iff).symm⟩
theorem St.permKids {w0 w : World} {M Z0 : Zone} {L : List Res} {φ : Fact} {ts us : List HT} (h : St w0 M Z0 (kidsR ts :: L) φ w) (hp : ts.Perm us) : St w0 M Z0 (kidsR us :: L) φ w :=
 h.recast (kidsR_local us) (fun b hb => ((kidsR_perm hp (h.own _ (List.mem_cons_self ..))).2 b).1 hb) (fun ho => (kidsR_perm hp ho).1)
end Go.Dk
namespace Go.Proofs.Ytgchmppmecnniaa
open Go Go.Dk
set_option maxRecDepth 100000 in
set_option maxHeartbeats 1000000 in
theorem i_Reverse (us : List HT) (hl : us.length ≤ 1000000) (a : Option Addr) (c : Nat) (w : World) (ho : (rowR 25 3 (.slice a us.length c) us.length (flatT us)).own w) (hb : ∀ b, (Value.slice a us.length c).ownBlock = some b → b < w.heap.size) :
   Calls Try.prog 49 #[.slice a us.length c] w fun e w' => e = .returned (.tuple #[]) ∧ (rowR 25 3 (.slice a us.length c) us.length (flatT us.reverse)).own w' ∧ Ext (fun b => (Value.slice a us.length c).ownBlock = some b) w w' := by
 have ho' : w.ownsRow 0 _ 3 (.slice a us.length c) us.length (flatT us) := ho
 obtain ⟨h1, ⟨hv, h0⟩ | ⟨g, cap, cur, hv, hg, hc, hle, hmax, hsz, htk⟩⟩ := ho'
 ·injection hv with ha _ hcc
  subst ha hcc
  have hus : us = [] := List.length_eq_zero_iff.1 h0
  subst hus
  have H := St.init w noneZ noneZ Stable.true trivial
  go_enter Try.func49, Try.ntmps49
  repeat' ((first | (refine T_nil ?_) | ((first | apply U0 | (apply U1; (case hd => decide +kernel)) | (apply U2 (hw := H); (case hd => decide +kernel)) | (apply U3 1; (case hp => rfl); (case hd => decide +kernel)) | (apply U3 2; (case hp => rfl); (case hd => decide +kernel)) | (apply U3 3; (case hp => rfl); (case hd => decide +kernel)) | (apply U3 4; (case hp => rfl); (case hd => decide +kernel)) | (apply U3 5; (case hp => rfl); (case hd => decide +kernel)) | (apply U3 6; (case hp => rfl); (case hd => decide +kernel)) | (apply U3 7; (case hp => rfl); (case hd => decide +kernel)) | (apply U3 8; (case hp => rfl); (case hd => decide +kernel)) | (apply U3 9; (case hp => rfl); (case hd => decide +kernel)) | (apply U3 10; (case hp => rfl); (case hd => decide +kernel)) | (apply U3 11; (case hp => rfl); (case hd => decide +kernel))); (case hg => rfl); (case hy => (first | (apply Yi.a; constructor; all_goals (first | rfl | (constructor <;> omega) | (apply CellIs.own; (case h => repeat constructor); rfl) | (apply Cell3.own; (case h => repeat constructor); all_goals rfl))) | (apply Yi.b; constructor; all_goals (first | rfl | (constructor <;> omega) | (apply CellIs.own; (case h => repeat constructor); rfl) | (apply Cell3.own; (case h => repeat constructor); all_goals rfl))) | (apply Yi.c; constructor; all_goals (first | rfl | (constructor <;> omega) | (apply CellIs.own; (case h => repeat constructor); rfl) | (apply Cell3.own; (case h => repeat constructor); all_goals rfl)))))) | ((first | apply V0 | apply V1 | apply V2 (hw := H)); (case hg => rfl); try decide +kernel) | ((first | refine G0 H ?_ | (refine G1 H (fun _ _ _ _ h => h) (by decide +kernel) ?_; clear H; intro _ H)); simp only [enum, Nat.reduceAdd]) | (apply B0 (hw := H); (case hg => rfl); (case hd => first | exact hd_false | decide +kernel); (case hx => rfl); (case hc => rfl); clear H; intro bx _ H) | (apply B1 (hw := H); (case hg => rfl); (case hd => first | exact hd_false | decide +kernel); clear H; intro ax _ H) | go_step | (apply X0; (case hy => rfl); all_goals (intro hb; simp only [hb]; (try simp only [decide_eq_true_eq, decide_eq_false_iff_not, Bool.not_eq_true', Bool.not_eq_false', Bool.and_eq_true, Bool.or_eq_true, Bool.and_eq_false_iff, Bool.or_eq_false_iff] at hb); try (exfalso; omega)))) <;> try simp only [List.getElem_toArray, List.getElem_cons_zero, List.getElem_cons_succ, Act.put, evalT, evalC, evalF, List.setIfInBounds_toArray, List.set_cons_succ, List.set_cons_zero, List.getD_cons_succ, List.getD_cons_zero, Nat.reduceAdd, Nat.reduceMul, Nat.add_zero, Nat.zero_add, Int.toNat_natCast, Int.reduceToNat, List.eraseIdx_cons_succ, List.eraseIdx_cons_zero, cond_true, cond_false])
  go_loopg [2, 3] 0 (fun g v1 v2 wr => v1 = .int .i64 0 ∧ v2 = .int .i64 (-1) ∧ St w noneZ noneZ [] trueF wr)
  case atStart => exact ⟨rfl, rfl, H⟩
  case round =>
   clear H
   obtain ⟨rfl, rfl, H⟩ := hrel
   repeat' ((first | (refine T_nil ?_) | ((first | apply U0 | (apply U1; (case hd => decide +kernel)) | (apply U2 (hw := H); (case hd => decide +kernel)) | (apply U3 1; (case hp => rfl); (case hd => decide +kernel)) | (apply U3 2; (case hp => rfl); (case hd => decide +kernel)) | (apply U3 3; (case hp => rfl); (case hd => decide +kernel)) | (apply U3 4; (case hp => rfl); (case hd => decide +kernel)) | (apply U3 5; (case hp => rfl); (case hd => decide +kernel)) | (apply U3 6; (case hp => rfl); (case hd => decide +kernel)) | (apply U3 7; (case hp => rfl); (case hd => decide +kernel)) | (apply U3 8; (case hp => rfl); (case hd => decide +kernel)) | (apply U3 9; (case hp => rfl); (case hd => decide +kernel)) | (apply U3 10; (case hp => rfl); (case hd => decide +kernel)) | (apply U3 11; (case hp => rfl); (case hd => decide +kernel))); (case hg => rfl); (case hy => (first | (apply Yi.a; constructor; all_goals (first | rfl | (constructor <;> omega) | (apply CellIs.own; (case h => repeat constructor); rfl) | (apply Cell3.own; (case h => repeat constructor); all_goals rfl))) | (apply Yi.b; constructor; all_goals (first | rfl | (constructor <;> omega) | (apply CellIs.own; (case h => repeat constructor); rfl) | (apply Cell3.own; (case h => repeat constructor); all_goals rfl))) | (apply Yi.c; constructor; all_goals (first | rfl | (constructor <;> omega) | (apply CellIs.own; (case h => repeat constructor); rfl) | (apply Cell3.own; (case h => repeat constructor); all_goals rfl)))))) | ((first | apply V0 | apply V1 | apply V2 (hw := H)); (case hg => rfl); try decide +kernel) | ((first | refine G0 H ?_ | (refine G1 H (fun _ _ _ _ h => h) (by decide +kernel) ?_; clear H; intro _ H)); simp only [enum, Nat.reduceAdd]) | (apply B0 (hw := H); (case hg => rfl); (case hd => first | exact hd_false | decide +kernel); (case hx => rfl); (case hc => rfl); clear H; intro bx _ H) | (apply B1 (hw := H); (case hg => rfl); (case hd => first | exact hd_false | decide +kernel); clear H; intro ax _ H) | go_step | (apply X0; (case hy => rfl); all_goals (intro hb; simp only [hb]; (try simp only [decide_eq_true_eq, decide_eq_false_iff_not, Bool.not_eq_true', Bool.not_eq_false', Bool.and_eq_true, Bool.or_eq_true, Bool.and_eq_false_iff, Bool.or_eq_false_iff] at hb); try (exfalso; omega)))) <;> try simp only [List.getElem_toArray, List.getElem_cons_zero, List.getElem_cons_succ, Act.put, evalT, evalC, evalF, List.setIfInBounds_toArray, List.set_cons_succ, List.set_cons_zero, List.getD_cons_succ, List.getD_cons_zero, Nat.reduceAdd, Nat.reduceMul, Nat.add_zero, Nat.zero_add, Int.toNat_natCast, Int.reduceToNat, List.eraseIdx_cons_succ, List.eraseIdx_cons_zero, cond_true, cond_false])
   refine end_post (res0 rfl) ⟨rfl, ?_, (H.ext).weak (fun _ _ h => h.elim)⟩
   exact World.ownsRow_nil wr 0 _ 3
 ·injection hv with ha _ hcc
  subst ha hcc
  have hgo : (Value.slice (some ⟨g, 0, none⟩) us.length c).ownBlock = some g := rfl
  have hgb := hb g hgo
  have hx : (blk g (flatT us ++ cur.toList.drop (us.length * 3)) 25).own w := by
   show w.heap[g]? = _
   rw [hc, ← htk, List.take_append_drop]
  generalize hR : cur.toList.drop (us.length * 3) = R at hx
  have H := St.init1 w (fun b => (Value.slice (some ⟨g, 0, none⟩) us.length c).ownBlock = some b) noneZ Stable.true trivial (blk_local g _ _) hx (fun b hb' => by cases hb'; exact ⟨hgo, hgb⟩) (fun b _ h => h)
  have hRl : (flatT us ++ R).length = c * 3 := by rw [← hR, ← htk, List.take_append_drop, Array.length_toList, hsz]
  go_enter Try.func49, Try.ntmps49
  repeat' ((first | (refine T_nil ?_) | ((first | apply U0 | (apply U1; (case hd => decide +kernel)) | (apply U2 (hw := H); (case hd => decide +kernel)) | (apply U3 1; (case hp => rfl); (case hd => decide +kernel)) | (apply U3 2; (case hp => rfl); (case hd => decide +kernel)) | (apply U3 3; (case hp => rfl); (case hd => decide +kernel)) | (apply U3 4; (case hp => rfl); (case hd => decide +kernel)) | (apply U3 5; (case hp => rfl); (case hd => decide +kernel)) | (apply U3 6; (case hp => rfl); (case hd => decide +kernel)) | (apply U3 7; (case hp => rfl); (case hd => decide +kernel)) | (apply U3 8; (case hp => rfl); (case hd => decide +kernel)) | (apply U3 9; (case hp => rfl); (case hd => decide +kernel)) | (apply U3 10; (case hp => rfl); (case hd => decide +kernel)) | (apply U3 11; (case hp => rfl); (case hd => decide +kernel))); (case hg => rfl); (case hy => (first | (apply Yi.a; constructor; all_goals (first | rfl | (constructor <;> omega) | (apply CellIs.own; (case h => repeat constructor); rfl) | (apply Cell3.own; (case h => repeat constructor); all_goals rfl))) | (apply Yi.b; constructor; all_goals (first | rfl | (constructor <;> omega) | (apply CellIs.own; (case h => repeat constructor); rfl) | (apply Cell3.own; (case h => repeat constructor); all_goals rfl))) | (apply Yi.c; constructor; all_goals (first | rfl | (constructor <;> omega) | (apply CellIs.own; (case h => repeat constructor); rfl) | (apply Cell3.own; (case h => repeat constructor); all_goals rfl)))))) | ((first | apply V0 | apply V1 | apply V2 (hw := H)); (case hg => rfl); try decide +kernel) | ((first | refine G0 H ?_ | (refine G1 H (fun _ _ _ _ h => h) (by decide +kernel) ?_; clear H; intro _ H)); simp only [enum, Nat.reduceAdd]) | (apply B0 (hw := H); (case hg => rfl); (case hd => first | exact hd_false | decide +kernel); (case hx => rfl); (case hc => rfl); clear H; intro bx _ H) | (apply B1 (hw := H); (case hg => rfl); (case hd => first | exact hd_false | decide +kernel); clear H; intro ax _ H) | go_step | (apply X0; (case hy => rfl); all_goals (intro hb; simp only [hb]; (try simp only [decide_eq_true_eq, decide_eq_false_iff_not, Bool.not_eq_true', Bool.not_eq_false', Bool.and_eq_true, Bool.or_eq_true, Bool.and_eq_false_iff, Bool.or_eq_false_iff] at hb); try (exfalso; omega)))) <;> try simp only [List.getElem_toArray, List.getElem_cons_zero, List.getElem_cons_succ, Act.put, evalT, evalC, evalF, List.setIfInBounds_toArray, List.set_cons_succ, List.set_cons_zero, List.getD_cons_succ, List.getD_cons_zero, Nat.reduceAdd, Nat.reduceMul, Nat.add_zero, Nat.zero_add, Int.toNat_natCast, Int.reduceToNat, List.eraseIdx_cons_succ, List.eraseIdx_cons_zero, cond_true, cond_false])
  go_loopg [2, 3] us.length (fun gg v1 v2 wr => ∃ (i : Nat) (vs : List HT), v1 = .int .i64 i ∧ v2 = .int .i64 ((us.length : Int) - 1 - i) ∧ i + gg = us.length ∧ 2 * i ≤ us.length + 1 ∧ vs.length = us.length ∧ (∀ m, m < us.length → vs[m]? = if m < i ∨ us.length - i ≤ m then us[us.length - 1 - m]? else us[m]?) ∧
   St w (fun b => (Value.slice (some ⟨g, 0, none⟩) us.length c).ownBlock = some b) noneZ [blk g (flatT vs ++ R) 25] trueF wr)
  case atStart => exact ⟨0, us, rfl, by simp, by omega, by omega, rfl, fun m hm => by rw [if_neg (by omega)], H⟩
  case round =>
   clear H
   obtain ⟨i, vs, rfl, rfl, hi, h2i, hvl, hvm, H⟩ := hrel
   by_cases hlt : (i : Int) < (us.length : Int) - 1 - i
   ·obtain ⟨j, hj⟩ : ∃ j : Nat, j = us.length - 1 - i := ⟨_, rfl⟩
    have ej : ((us.length : Int) - 1 - i) = (j : Int) := by omega
    rw [ej] at hlt ⊢
    have hu : vs[i]? = some vs[i] := List.getElem?_eq_getElem (by omega)
    have hv : vs[j]? = some vs[j] := List.getElem?_eq_getElem (by omega)
    generalize vs[i] = u at hu
    generalize vs[j] = v at hv
    have fu := flat_get (R := R) hu
    have fv := flat_get (R := R) hv
    have hvl2 : (flatT vs ++ R).length = c * 3 := by rw [List.length_append, flatT_length, hvl, ← flatT_length, ← List.length_append]; exact hRl
    repeat' ((first | (refine T_nil ?_) | ((first | apply U0 | (apply U1; (case hd => decide +kernel)) | (apply U2 (hw := H); (case hd => decide +kernel)) | (apply U3 1; (case hp => rfl); (case hd => decide +kernel)) | (apply U3 2; (case hp => rfl); (case hd => decide +kernel)) | (apply U3 3; (case hp => rfl); (case hd => decide +kernel)) | (apply U3 4; (case hp => rfl); (case hd => decide +kernel)) | (apply U3 5; (case hp => rfl); (case hd => decide +kernel)) | (apply U3 6; (case hp => rfl); (case hd => decide +kernel)) | (apply U3 7; (case hp => rfl); (case hd => decide +kernel)) | (apply U3 8; (case hp => rfl); (case hd => decide +kernel)) | (apply U3 9; (case hp => rfl); (case hd => decide +kernel)) | (apply U3 10; (case hp => rfl); (case hd => decide +kernel)) | (apply U3 11; (case hp => rfl); (case hd => decide +kernel))); (case hg => rfl); (case hy => (first | (apply Yi.a; constructor; all_goals (first | rfl | (constructor <;> omega) | (apply CellIs.own; (case h => repeat constructor); rfl) | (apply Cell3.own; (case h => repeat constructor); all_goals rfl) | exact .own (by repeat constructor) fv.1 fv.2.1 fv.2.2 | exact .own (by repeat constructor) fu.1 fu.2.1 fu.2.2)) | (apply Yi.b; constructor; all_goals (first | rfl | (constructor <;> omega) | (apply CellIs.own; (case h => repeat constructor); rfl) | (apply Cell3.own; (case h => repeat constructor); all_goals rfl) | exact .own (by repeat constructor) fv.1 fv.2.1 fv.2.2 | exact .own (by repeat constructor) fu.1 fu.2.1 fu.2.2)) | (apply Yi.c; constructor; all_goals (first | rfl | (constructor <;> omega) | (apply CellIs.own; (case h => repeat constructor); rfl) | (apply Cell3.own; (case h => repeat constructor); all_goals rfl) | exact .own (by repeat constructor) fv.1 fv.2.1 fv.2.2 | exact .own (by repeat constructor) fu.1 fu.2.1 fu.2.2))))) | ((first | apply V0 | apply V1 | apply V2 (hw := H)); (case hg => rfl); try decide +kernel) | ((first | refine G0 H ?_ | (refine G1 H (fun _ _ _ _ h => h) (by decide +kernel) ?_; clear H; intro _ H)); simp only [enum, Nat.reduceAdd]) | (apply B0 (hw := H); (case hg => rfl); (case hd => first | exact hd_false | decide +kernel); (case hx => rfl); (case hc => rfl); clear H; intro bx _ H) | (apply B1 (hw := H); (case hg => rfl); (case hd => first | exact hd_false | decide +kernel); clear H; intro ax _ H) | ((apply W0 (hw := H); (case hg => rfl); (case hd => first | exact hd_false | decide +kernel); (case hx => rfl); (case hy => rfl); (case hc => rfl); (case hn => repeat constructor); (case h1 => (rw [Bool.and_eq_true]; exact ⟨rfl, (by rw [Nat.ble_eq]; simp only [putL, List.length_cons, List.length_nil, List.length_set]; omega)⟩)); clear H; intro _ H; (try dsimp only at H); try simp only [evalT, evalC, List.getD_cons_succ, List.getD_cons_zero] at H)) | go_step | (apply X0; (case hy => rfl); all_goals (intro hb; simp only [hb]; (try simp only [decide_eq_true_eq, decide_eq_false_iff_not, Bool.not_eq_true', Bool.not_eq_false', Bool.and_eq_true, Bool.or_eq_true, Bool.and_eq_false_iff, Bool.or_eq_false_iff] at hb); try (exfalso; omega)))) <;> try simp only [List.getElem_toArray, List.getElem_cons_zero, List.getElem_cons_succ, Act.put, evalT, evalC, evalF, List.setIfInBounds_toArray, List.set_cons_succ, List.set_cons_zero, List.getD_cons_succ, List.getD_cons_zero, Nat.reduceAdd, Nat.reduceMul, Nat.add_zero, Nat.zero_add, Int.toNat_natCast, Int.reduceToNat, List.eraseIdx_cons_succ, List.eraseIdx_cons_zero, cond_true, cond_false])
    go_roundg (gk - 1)
    case measure => omega
    case rel =>
     have hni : i ≠ j := by omega
     refine ⟨i + 1, (vs.set i v).set j u, by simp, by congr 1; omega, by omega, by omega, by simp [hvl], fun m hm => ?_, ?_⟩
     ·have hmi := hvm i (by omega)
      have hmj := hvm j (by omega)
      rw [if_neg (by omega)] at hmi hmj
      rw [hu] at hmi
      rw [hv] at hmj
      by_cases h1 : m = j
      ·subst h1
       rw [List.getElem?_set_self (by simp; omega), if_pos (by omega), show us.length - 1 - m = i by omega, hmi]
      ·rw [List.getElem?_set_ne (by omega)]
       by_cases h2 : m = i
       ·subst h2
        rw [List.getElem?_set_self (by omega), if_pos (by omega), show us.length - 1 - m = j by omega, hmj]
       ·rw [List.getElem?_set_ne (by omega), hvm m hm]
        by_cases h3 : m < i ∨ us.length - i ≤ m
        ·rw [if_pos h3, if_pos (by omega)]
        ·rw [if_neg h3, if_neg (by omega)]
     ·rw [← flat_set (R := R) (vs.set i v) j u (by simp; omega), ← flat_set (R := R) vs i v (by omega)]
      exact H
   ·repeat' ((first | (refine T_nil ?_) | ((first | apply U0 | (apply U1; (case hd => decide +kernel)) | (apply U2 (hw := H); (case hd => decide +kernel)) | (apply U3 1; (case hp => rfl); (case hd => decide +kernel)) | (apply U3 2; (case hp => rfl); (case hd => decide +kernel)) | (apply U3 3; (case hp => rfl); (case hd => decide +kernel)) | (apply U3 4; (case hp => rfl); (case hd => decide +kernel)) | (apply U3 5; (case hp => rfl); (case hd => decide +kernel)) | (apply U3 6; (case hp => rfl); (case hd => decide +kernel)) | (apply U3 7; (case hp => rfl); (case hd => decide +kernel)) | (apply U3 8; (case hp => rfl); (case hd => decide +kernel)) | (apply U3 9; (case hp => rfl); (case hd => decide +kernel)) | (apply U3 10; (case hp => rfl); (case hd => decide +kernel)) | (apply U3 11; (case hp => rfl); (case hd => decide +kernel))); (case hg => rfl); (case hy => (first | (apply Yi.a; constructor; all_goals (first | rfl | (constructor <;> omega) | (apply CellIs.own; (case h => repeat constructor); rfl) | (apply Cell3.own; (case h => repeat constructor); all_goals rfl))) | (apply Yi.b; constructor; all_goals (first | rfl | (constructor <;> omega) | (apply CellIs.own; (case h => repeat constructor); rfl) | (apply Cell3.own; (case h => repeat constructor); all_goals rfl))) | (apply Yi.c; constructor; all_goals (first | rfl | (constructor <;> omega) | (apply CellIs.own; (case h => repeat constructor); rfl) | (apply Cell3.own; (case h => repeat constructor); all_goals rfl)))))) | ((first | apply V0 | apply V1 | apply V2 (hw := H)); (case hg => rfl); try decide +kernel) | ((first | refine G0 H ?_ | (refine G1 H (fun _ _ _ _ h => h) (by decide +kernel) ?_; clear H; intro _ H)); simp only [enum, Nat.reduceAdd]) | (apply B0 (hw := H); (case hg => rfl); (case hd => first | exact hd_false | decide +kernel); (case hx => rfl); (case hc => rfl); clear H; intro bx _ H) | (apply B1 (hw := H); (case hg => rfl); (case hd => first | exact hd_false | decide +kernel); clear H; intro ax _ H) | go_step | (apply X0; (case hy => rfl); all_goals (intro hb; simp only [hb]; (try simp only [decide_eq_true_eq, decide_eq_false_iff_not, Bool.not_eq_true', Bool.not_eq_false', Bool.and_eq_true, Bool.or_eq_true, Bool.and_eq_false_iff, Bool.or_eq_false_iff] at hb); try (exfalso; omega)))) <;> try simp only [List.getElem_toArray, List.getElem_cons_zero, List.getElem_cons_succ, Act.put, evalT, evalC, evalF, List.setIfInBounds_toArray, List.set_cons_succ, List.set_cons_zero, List.getD_cons_succ, List.getD_cons_zero, Nat.reduceAdd, Nat.reduceMul, Nat.add_zero, Nat.zero_add, Int.toNat_natCast, Int.reduceToNat, List.eraseIdx_cons_succ, List.eraseIdx_cons_zero, cond_true, cond_false])
    have hvs : vs = us.reverse := by
     apply List.ext_getElem?
     intro m
     by_cases hm : m < us.length
     ·rw [hvm m hm, List.getElem?_reverse hm]
      split
      ·rfl
      ·rw [show us.length - 1 - m = m by omega]
     ·rw [List.getElem?_eq_none (by omega), List.getElem?_eq_none (by simp; omega)]
    refine end_post (res0 rfl) ⟨rfl, ?_, H.ext⟩
    have hw : wr.heap[g]? = some (.cells (flatT vs ++ R).toArray _ (0, 0)) := H.own _ (List.mem_cons_self ..)
    refine ⟨by rw [flatT_length, List.length_reverse], .inr ⟨g, c, (flatT vs ++ R).toArray, rfl, Nat.zero_le _, hw, hle, hmax, ?_, ?_⟩⟩
    ·rw [List.size_toArray, List.length_append, flatT_length, hvl, ← flatT_length, ← List.length_append]; exact hRl
    ·show (flatT vs ++ R).take (us.length * 3) = _
     rw [List.take_append_of_le_length (by rw [flatT_length]; omega), List.take_of_length_le (by rw [flatT_length]; omega), hvs]
theorem zero_own2 (w w' : World) : Own w w' (.mk 0 0 none 0 []) :=
 ⟨⟨Rd_none, by simp [HT.blocks, HT.head, HT.blocksL], fun b hb => by simp [HT.blocks, HT.head, HT.blocksL] at hb⟩, fun b hb => by simp [HT.blocks, HT.head, HT.blocksL] at hb⟩
theorem row_lt {w : World} {E : TypeId} {sz : Nat} {v : Value} {n : Nat} {xs : List Value} (h : (rowR E sz v n xs).own w) : ∀ b, v.ownBlock = some b → b < w.heap.size := fun b hb => (World.ownsRow.lt (show w.ownsRow 0 E sz v n xs from h) b hb).2
set_option maxRecDepth 100000 in
set_option maxHeartbeats 1000000 in
theorem iw_SplitApp (t : HT) (x : T) (et : t.er = x) (Z : Zone) (w : World) (hr : Rd Z w t) (hs : T.sizeL x.kids ≤ 1048576) : Calls Try.prog 12 #[t.val] w fun e w' =>
   ∃ v u : HT, e = .returned (.tuple #[v.val, u.sl, .bool (saR x).2]) ∧ Grow w w' ∧ Own2 w w' v u ∧ v.er = (saR x).1.1 ∧ u.er = .mk 0 0 (saR x).1.2 := by
 subst et
 have H := St.init w noneZ Z (rdF_stable t) hr
 go_enter Try.func12, Try.ntmps12
 repeat' ((first | (refine T_nil ?_) | ((first | apply U0 | (apply U1; (case hd => decide +kernel)) | (apply U2 (hw := H); (case hd => decide +kernel)) | (apply U3 1; (case hp => rfl); (case hd => decide +kernel)) | (apply U3 2; (case hp => rfl); (case hd => decide +kernel)) | (apply U3 3; (case hp => rfl); (case hd => decide +kernel)) | (apply U3 4; (case hp => rfl); (case hd => decide +kernel)) | (apply U3 5; (case hp => rfl); (case hd => decide +kernel)) | (apply U3 6; (case hp => rfl); (case hd => decide +kernel)) | (apply U3 7; (case hp => rfl); (case hd => decide +kernel)) | (apply U3 8; (case hp => rfl); (case hd => decide +kernel)) | (apply U3 9; (case hp => rfl); (case hd => decide +kernel)) | (apply U3 10; (case hp => rfl); (case hd => decide +kernel)) | (apply U3 11; (case hp => rfl); (case hd => decide +kernel))); (case hg => rfl); (case hy => (first | (apply Yi.a; constructor; all_goals (first | rfl | (constructor <;> omega) | (apply CellIs.own; (case h => repeat constructor); rfl) | (apply Cell3.own; (case h => repeat constructor); all_goals rfl))) | (apply Yi.b; constructor; all_goals (first | rfl | (constructor <;> omega) | (apply CellIs.own; (case h => repeat constructor); rfl) | (apply Cell3.own; (case h => repeat constructor); all_goals rfl))) | (apply Yi.c; constructor; all_goals (first | rfl | (constructor <;> omega) | (apply CellIs.own; (case h => repeat constructor); rfl) | (apply Cell3.own; (case h => repeat constructor); all_goals rfl)))))) | ((first | apply V0 | apply V1 | apply V2 (hw := H)); (case hg => rfl); try decide +kernel) | ((first | refine G0 H ?_ | (refine G1 H (fun _ _ _ _ h => h) (by decide +kernel) ?_; clear H; intro _ H)); simp only [enum, Nat.reduceAdd]) | (apply B0 (hw := H); (case hg => rfl); (case hd => first | exact hd_false | decide +kernel); (case hx => rfl); (case hc => rfl); clear H; intro bx _ H) | (apply B1 (hw := H); (case hg => rfl); (case hd => first | exact hd_false | decide +kernel); clear H; intro ax _ H) | ((apply W0 (hw := H); (case hg => rfl); (case hd => first | exact hd_false | decide +kernel); (case hx => rfl); (case hy => rfl); (case hc => rfl); (case hn => repeat constructor); (case h1 => rfl); clear H; intro _ H; (try dsimp only at H); try simp only [putL, List.set_cons_succ, List.set_cons_zero, evalT, evalC, List.getD_cons_succ, List.getD_cons_zero, Nat.zero_add, Nat.reduceAdd] at H)) | ((apply C0 (hw := H); (case hg => rfl); (case hd => first | exact hd_false | decide +kernel); (case hxs => rfl); (case hc => exact iw_TermValid t _ _ H.per); clear H; intro _ H)) | go_step | (apply X0; (case hy => rfl); all_goals (intro hb; simp only [hb]; (try simp only [decide_eq_true_eq, decide_eq_false_iff_not, Bool.not_eq_true', Bool.not_eq_false', Bool.and_eq_true, Bool.or_eq_true, Bool.and_eq_false_iff, Bool.or_eq_false_iff] at hb); try (exfalso; omega)))) <;> try simp only [List.getElem_toArray, List.getElem_cons_zero, List.getElem_cons_succ, Act.put, evalT, evalC, evalF, List.setIfInBounds_toArray, List.set_cons_succ, List.set_cons_zero, List.getD_cons_succ, List.getD_cons_zero, Nat.reduceAdd, Nat.reduceMul, Nat.add_zero, Nat.zero_add, Int.toNat_natCast, Int.reduceToNat, List.eraseIdx_cons_succ, List.eraseIdx_cons_zero, cond_true, cond_false])
 ·have hv : (!validB t.er) = true := by assumption
  simp only [Bool.not_eq_true'] at hv
  ((try simp only [Exit.inBlock, Exit.then]); refine ret_post (res3 rfl (R_cell rfl (load3 (ST3.out) (H.cell at0 rfl) (H.cell at0 rfl) (H.cell at0 rfl))) (R_tmp rfl) (R_tmp rfl)) ?_; try simp only [List.getD_cons_succ, List.getD_cons_zero])
  have e : saR t.er = ((.mk 0 0 [], []), false) := if_neg (by rw [hv]; simp)
  rw [e]
  refine ⟨.mk 0 0 none 0 [], .mk 0 0 none 0 [], rfl, H.ext, ⟨⟨(zero_own2 w _).own, (zero_own2 w _).own, fun b hb => ?_⟩, fun b hb => ?_⟩, rfl, rfl⟩ <;> simp [HT.blocks, HT.head, HT.blocksL] at hb
 have hv : (!validB t.er) = false := by assumption
 simp only [Bool.not_eq_false'] at hv
 have e : saR t.er = (saT 400 t.er [], true) := if_pos hv
 have hsz := validB_size hv
 have hsum0 := (sa_valid 400 t.er [] hv (by simp)).2.2.2
 have H := (H.pushRow 25 3).pushNone
 go_loopg [5] 400 (fun g s wr => ∃ (us : List HT) (sa : Option Addr) (sc : Nat) (u : HT), s = .slice sa us.length sc ∧ us.length + g = 400 ∧ validB u.er = true ∧ u.er.size ≤ g ∧ (∀ Z w, Rd Z w t → Rd Z w u) ∧ saT g u.er (us.reverse.map HT.er) = saT 400 t.er [] ∧
  St w noneZ Z [kidsR us, rowR 25 3 (.slice sa us.length sc) us.length (flatT us), blk ax [.int .i64 0, .int .i64 0, .slice none 0 0] 25, blk bx [.int .i64 u.k, .int .i64 u.n, .slice u.a u.kids.length u.cap] 25] (rdF t) wr)
 case atStart => exact ⟨[], _, _, t, rfl, rfl, hv, hsz, fun _ _ h => h, rfl, H⟩
 case round =>
  clear H
  obtain ⟨us, sa, sc, u, rfl, hi, hvu, hG, hsub, hspl, H⟩ := hrel
  match gk, hi, hG, hspl with
  | 0, hi, hG, hspl => have := size_pos u.er; omega
  | g + 1, hi, hG, hspl =>
   have hsu := validB_size hvu
   rw [saT] at hspl
   by_cases hk : u.k = 5
   ·have hk' : u.er.k = 5 := by rw [HT.er_k]; exact hk
    obtain ⟨hkk, hva, hvb, hsab⟩ := app_kids hvu hk'
    rw [if_pos hk'] at hspl
    obtain ⟨x, y, hxy⟩ : ∃ x y, u.kids = [x, y] := by
     have hl : u.kids.length = 2 := by rw [← HT.er_len, hkk]; rfl
     match hh : u.kids, hl with
     | [x, y], _ => exact ⟨x, y, rfl⟩
    have e0 : kd u.er 0 = x.er := by unfold kd; rw [HT.er_kids, hxy]; rfl
    have e1 : kd u.er 1 = y.er := by unfold kd; rw [HT.er_kids, hxy]; rfl
    rw [e0, e1] at hspl hsab
    rw [e0] at hva
    rw [e1] at hvb
    have hx : u.kids[0]? = some x := by rw [hxy]; rfl
    have hy : u.kids[1]? = some y := by rw [hxy]; rfl
    have hl2 : ((u.kids.length : Nat) : Int) = 2 := by rw [hxy]; rfl
    obtain ⟨b, off, ha⟩ := (hsub _ _ hr).addr hx
    have hsy := validB_size hvb
    have hpy := size_pos y.er
    repeat' ((first | (refine T_nil ?_) | ((first | apply U0 | (apply U1; (case hd => decide +kernel)) | (apply U2 (hw := H); (case hd => decide +kernel)) | (apply U3 1; (case hp => rfl); (case hd => decide +kernel)) | (apply U3 2; (case hp => rfl); (case hd => decide +kernel)) | (apply U3 3; (case hp => rfl); (case hd => decide +kernel)) | (apply U3 4; (case hp => rfl); (case hd => decide +kernel)) | (apply U3 5; (case hp => rfl); (case hd => decide +kernel)) | (apply U3 6; (case hp => rfl); (case hd => decide +kernel)) | (apply U3 7; (case hp => rfl); (case hd => decide +kernel)) | (apply U3 8; (case hp => rfl); (case hd => decide +kernel)) | (apply U3 9; (case hp => rfl); (case hd => decide +kernel)) | (apply U3 10; (case hp => rfl); (case hd => decide +kernel)) | (apply U3 11; (case hp => rfl); (case hd => decide +kernel))); (case hg => rfl); (case hy => (first | (apply Yi.a; constructor; all_goals (first | rfl | (constructor <;> omega) | (apply CellIs.own; (case h => repeat constructor); rfl) | (apply Cell3.own; (case h => repeat constructor); all_goals rfl) | exact ha | exact .mk fun w h => (Rd.elem (hsub _ _ h.per) ha hx).1 | exact .mk fun w h => (Rd.elem (hsub _ _ h.per) ha hy).1)) | (apply Yi.b; constructor; all_goals (first | rfl | (constructor <;> omega) | (apply CellIs.own; (case h => repeat constructor); rfl) | (apply Cell3.own; (case h => repeat constructor); all_goals rfl) | exact ha | exact .mk fun w h => (Rd.elem (hsub _ _ h.per) ha hx).1 | exact .mk fun w h => (Rd.elem (hsub _ _ h.per) ha hy).1)) | (apply Yi.c; constructor; all_goals (first | rfl | (constructor <;> omega) | (apply CellIs.own; (case h => repeat constructor); rfl) | (apply Cell3.own; (case h => repeat constructor); all_goals rfl) | exact ha | exact .mk fun w h => (Rd.elem (hsub _ _ h.per) ha hx).1 | exact .mk fun w h => (Rd.elem (hsub _ _ h.per) ha hy).1))))) | ((first | apply V0 | apply V1 | apply V2 (hw := H)); (case hg => rfl); try decide +kernel) | ((first | refine G0 H ?_ | (refine G1 H (fun _ _ _ _ h => h) (by decide +kernel) ?_; clear H; intro _ H)); simp only [enum, Nat.reduceAdd]) | (apply B0 (hw := H); (case hg => rfl); (case hd => first | exact hd_false | decide +kernel); (case hx => rfl); (case hc => rfl); clear H; intro bx _ H) | (apply B1 (hw := H); (case hg => rfl); (case hd => first | exact hd_false | decide +kernel); clear H; intro ax _ H) | ((apply W0 (hw := H); (case hg => rfl); (case hd => first | exact hd_false | decide +kernel); (case hx => rfl); (case hy => rfl); (case hc => rfl); (case hn => repeat constructor); (case h1 => rfl); clear H; intro _ H; (try dsimp only at H); try simp only [putL, List.set_cons_succ, List.set_cons_zero, evalT, evalC, List.getD_cons_succ, List.getD_cons_zero, Nat.zero_add, Nat.reduceAdd] at H)) | ((apply C1; (case hg => rfl); (case hd => first | exact hd_false | decide +kernel); (case hxs => rfl); (case hc => exact iw_own y _ _ (Rd.elem (hsub _ _ H.per) ha hy).2 (by omega)); rintro _ _ ⟨z, rfl, hgr, ho, hez⟩; replace H := H.pushTree hgr ho; (try simp only [List.set_cons_succ, List.set_cons_zero] at H); refine ⟨_, rfl, _, (by first | exact fun _ _ h => h | exact fun _ _ h => h.tail | exact fun _ _ h => h.unfact (by repeat' (first | exact Stable.true | exact rdF_stable _ | exact iF_stable _ _ | apply Stable.and)) (fun _ _ h => h.2) | exact nofun), H, ?_⟩)) | ((apply B2 (hw := H); (case hg => rfl); (case hd => first | exact hd_false | decide +kernel); (case hvs => (simp only [List.map_cons, List.map_nil, evalT, evalC, List.getD_cons_succ, List.getD_cons_zero]; rfl)); (case hcs => (simp only [flatC, List.flatMap_cons, List.flatMap_nil, Value.cells, HT.val, List.cons_append, List.nil_append, List.append_nil]; rfl)); (case hix => rfl); (case hn => rfl); (case hsz => rfl); (case hb => rfl); clear H; intro sx _ H)) | ((apply A1 (hw := H) (i := 3) (p := 0); (case hg => rfl); (case hd => first | exact hd_false | decide +kernel); (case hx => rfl); (case hy => rfl); (case hi => rfl); (case hq => rfl); (case hl => rfl); (case h1 => rfl); (case hbytes => omega); (case h63 => omega); clear H; intro ra rc _ H; (try simp only [List.set_cons_succ, List.set_cons_zero] at H))) | go_step | (apply X0; (case hy => rfl); all_goals (intro hb; simp only [hb]; (try simp only [decide_eq_true_eq, decide_eq_false_iff_not, Bool.not_eq_true', Bool.not_eq_false', Bool.and_eq_true, Bool.or_eq_true, Bool.and_eq_false_iff, Bool.or_eq_false_iff] at hb); try (exfalso; omega)))) <;> try simp only [List.getElem_toArray, List.getElem_cons_zero, List.getElem_cons_succ, Act.put, evalT, evalC, evalF, List.setIfInBounds_toArray, List.set_cons_succ, List.set_cons_zero, List.getD_cons_succ, List.getD_cons_zero, Nat.reduceAdd, Nat.reduceMul, Nat.add_zero, Nat.zero_add, Int.toNat_natCast, Int.reduceToNat, List.eraseIdx_cons_succ, List.eraseIdx_cons_zero, cond_true, cond_false])
    have H := H.tail.snoc
    go_roundg g
    case measure => omega
    case rel =>
     refine ⟨us ++ [z], ra, rc, x, by simp, by simp; omega, hva, by omega, fun Z w h => (Rd.elem (hsub Z w h) ha hx).2, ?_, by rw [flatT_append, List.length_append]; exact H⟩
     rw [← hspl, List.reverse_append]
     simp only [List.reverse_cons, List.reverse_nil, List.nil_append, List.cons_append, List.map_cons, hez]
   ·have hk' : ¬ u.er.k = 5 := by rw [HT.er_k]; exact hk
    rw [if_neg hk'] at hspl
    repeat' ((first | (refine T_nil ?_) | ((first | apply U0 | (apply U1; (case hd => decide +kernel)) | (apply U2 (hw := H); (case hd => decide +kernel)) | (apply U3 1; (case hp => rfl); (case hd => decide +kernel)) | (apply U3 2; (case hp => rfl); (case hd => decide +kernel)) | (apply U3 3; (case hp => rfl); (case hd => decide +kernel)) | (apply U3 4; (case hp => rfl); (case hd => decide +kernel)) | (apply U3 5; (case hp => rfl); (case hd => decide +kernel)) | (apply U3 6; (case hp => rfl); (case hd => decide +kernel)) | (apply U3 7; (case hp => rfl); (case hd => decide +kernel)) | (apply U3 8; (case hp => rfl); (case hd => decide +kernel)) | (apply U3 9; (case hp => rfl); (case hd => decide +kernel)) | (apply U3 10; (case hp => rfl); (case hd => decide +kernel)) | (apply U3 11; (case hp => rfl); (case hd => decide +kernel))); (case hg => rfl); (case hy => (first | (apply Yi.a; constructor; all_goals (first | rfl | (constructor <;> omega) | (apply CellIs.own; (case h => repeat constructor); rfl) | (apply Cell3.own; (case h => repeat constructor); all_goals rfl))) | (apply Yi.b; constructor; all_goals (first | rfl | (constructor <;> omega) | (apply CellIs.own; (case h => repeat constructor); rfl) | (apply Cell3.own; (case h => repeat constructor); all_goals rfl))) | (apply Yi.c; constructor; all_goals (first | rfl | (constructor <;> omega) | (apply CellIs.own; (case h => repeat constructor); rfl) | (apply Cell3.own; (case h => repeat constructor); all_goals rfl)))))) | ((first | apply V0 | apply V1 | apply V2 (hw := H)); (case hg => rfl); try decide +kernel) | ((first | refine G0 H ?_ | (refine G1 H (fun _ _ _ _ h => h) (by decide +kernel) ?_; clear H; intro _ H)); simp only [enum, Nat.reduceAdd]) | (apply B0 (hw := H); (case hg => rfl); (case hd => first | exact hd_false | decide +kernel); (case hx => rfl); (case hc => rfl); clear H; intro bx _ H) | (apply B1 (hw := H); (case hg => rfl); (case hd => first | exact hd_false | decide +kernel); clear H; intro ax _ H) | ((apply W0 (hw := H); (case hg => rfl); (case hd => first | exact hd_false | decide +kernel); (case hx => rfl); (case hy => rfl); (case hc => rfl); (case hn => repeat constructor); (case h1 => rfl); clear H; intro _ H; (try dsimp only at H); try simp only [putL, List.set_cons_succ, List.set_cons_zero, evalT, evalC, List.getD_cons_succ, List.getD_cons_zero, Nat.zero_add, Nat.reduceAdd] at H)) | go_step | (apply X0; (case hy => rfl); all_goals (intro hb; simp only [hb]; (try simp only [decide_eq_true_eq, decide_eq_false_iff_not, Bool.not_eq_true', Bool.not_eq_false', Bool.and_eq_true, Bool.or_eq_true, Bool.and_eq_false_iff, Bool.or_eq_false_iff] at hb); try (exfalso; omega)))) <;> try simp only [List.getElem_toArray, List.getElem_cons_zero, List.getElem_cons_succ, Act.put, evalT, evalC, evalF, List.setIfInBounds_toArray, List.set_cons_succ, List.set_cons_zero, List.getD_cons_succ, List.getD_cons_zero, Nat.reduceAdd, Nat.reduceMul, Nat.add_zero, Nat.zero_add, Int.toNat_natCast, Int.reduceToNat, List.eraseIdx_cons_succ, List.eraseIdx_cons_zero, cond_true, cond_false])
    have hrow := H.own _ (List.mem_cons_of_mem _ (List.mem_cons_self ..))
    (apply C2; (case hg => rfl); (case hd => first | exact hd_false | decide +kernel); (case hxs => rfl); (case hc => exact i_Reverse us (by omega) sa sc _ hrow (row_lt hrow)); rintro _ _ ⟨rfl, hro, hrx⟩; (first | replace H := H.upd (n := 1) rfl hrx (rowR_local _ _ _ _ _) hro (fun b hb => ⟨.inl hb, row_lt hro b hb⟩)); (try simp only [List.set_cons_succ, List.set_cons_zero] at H); refine ⟨_, rfl, _, H, ?_⟩)
    have H := H.permKids (List.reverse_perm us).symm
    obtain ⟨a', cap', hv2, H⟩ := H.swap.plantRow rfl (List.length_reverse).symm 0 0
    injection hv2 with h1 h2 h3
    subst h1 h3
    repeat' ((first | (refine T_nil ?_) | ((first | apply U0 | (apply U1; (case hd => decide +kernel)) | (apply U2 (hw := H); (case hd => decide +kernel)) | (apply U3 1; (case hp => rfl); (case hd => decide +kernel)) | (apply U3 2; (case hp => rfl); (case hd => decide +kernel)) | (apply U3 3; (case hp => rfl); (case hd => decide +kernel)) | (apply U3 4; (case hp => rfl); (case hd => decide +kernel)) | (apply U3 5; (case hp => rfl); (case hd => decide +kernel)) | (apply U3 6; (case hp => rfl); (case hd => decide +kernel)) | (apply U3 7; (case hp => rfl); (case hd => decide +kernel)) | (apply U3 8; (case hp => rfl); (case hd => decide +kernel)) | (apply U3 9; (case hp => rfl); (case hd => decide +kernel)) | (apply U3 10; (case hp => rfl); (case hd => decide +kernel)) | (apply U3 11; (case hp => rfl); (case hd => decide +kernel))); (case hg => rfl); (case hy => (first | (apply Yi.a; constructor; all_goals (first | rfl | (constructor <;> omega) | (apply CellIs.own; (case h => repeat constructor); rfl) | (apply Cell3.own; (case h => repeat constructor); all_goals rfl))) | (apply Yi.b; constructor; all_goals (first | rfl | (constructor <;> omega) | (apply CellIs.own; (case h => repeat constructor); rfl) | (apply Cell3.own; (case h => repeat constructor); all_goals rfl))) | (apply Yi.c; constructor; all_goals (first | rfl | (constructor <;> omega) | (apply CellIs.own; (case h => repeat constructor); rfl) | (apply Cell3.own; (case h => repeat constructor); all_goals rfl)))))) | ((first | apply V0 | apply V1 | apply V2 (hw := H)); (case hg => rfl); try decide +kernel) | ((first | refine G0 H ?_ | (refine G1 H (fun _ _ _ _ h => h) (by decide +kernel) ?_; clear H; intro _ H)); simp only [enum, Nat.reduceAdd]) | (apply B0 (hw := H); (case hg => rfl); (case hd => first | exact hd_false | decide +kernel); (case hx => rfl); (case hc => rfl); clear H; intro bx _ H) | (apply B1 (hw := H); (case hg => rfl); (case hd => first | exact hd_false | decide +kernel); clear H; intro ax _ H) | ((apply W0 (hw := H); (case hg => rfl); (case hd => first | exact hd_false | decide +kernel); (case hx => rfl); (case hy => rfl); (case hc => rfl); (case hn => repeat constructor); (case h1 => rfl); clear H; intro _ H; (try dsimp only at H); try simp only [putL, List.set_cons_succ, List.set_cons_zero, evalT, evalC, List.getD_cons_succ, List.getD_cons_zero, Nat.zero_add, Nat.reduceAdd] at H)) | ((apply C1; (case hg => rfl); (case hd => first | exact hd_false | decide +kernel); (case hxs => rfl); (case hc => exact iw_own u _ _ (hsub _ _ H.per) (by omega)); rintro _ _ ⟨z, rfl, hgr, ho, hez⟩; replace H := H.pushTree hgr ho; (try simp only [List.set_cons_succ, List.set_cons_zero] at H); refine ⟨_, rfl, _, (by first | exact fun _ _ h => h | exact fun _ _ h => h.tail | exact fun _ _ h => h.unfact (by repeat' (first | exact Stable.true | exact rdF_stable _ | exact iF_stable _ _ | apply Stable.and)) (fun _ _ h => h.2) | exact nofun), H, ?_⟩)) | go_step | (apply X0; (case hy => rfl); all_goals (intro hb; simp only [hb]; (try simp only [decide_eq_true_eq, decide_eq_false_iff_not, Bool.not_eq_true', Bool.not_eq_false', Bool.and_eq_true, Bool.or_eq_true, Bool.and_eq_false_iff, Bool.or_eq_false_iff] at hb); try (exfalso; omega)))) <;> try simp only [List.getElem_toArray, List.getElem_cons_zero, List.getElem_cons_succ, Act.put, evalT, evalC, evalF, List.setIfInBounds_toArray, List.set_cons_succ, List.set_cons_zero, List.getD_cons_succ, List.getD_cons_zero, Nat.reduceAdd, Nat.reduceMul, Nat.add_zero, Nat.zero_add, Int.toNat_natCast, Int.reduceToNat, List.eraseIdx_cons_succ, List.eraseIdx_cons_zero, cond_true, cond_false])
    ((try simp only [Exit.inBlock, Exit.then]); refine ret_post (res3 rfl (R_cell rfl (load3 (ST3.out) (H.cell at2 rfl) (H.cell at2 rfl) (H.cell at2 rfl))) (R_tmp rfl) (R_tmp rfl)) ?_; try simp only [List.getD_cons_succ, List.getD_cons_zero])
    rw [e]
    refine ⟨z, .mk 0 0 sa sc us.reverse, ?_, H.ext, H.outTwo, ?_, ?_⟩
    ·simp only [HT.sl, HT.a, HT.kids, HT.cap, List.length_reverse]; rfl
    ·rw [← hspl]; exact hez
    ·rw [← hspl, HT.er_eq]; rfl
end Go.Proofs.Ytgchmppmecnniaa
end
section
namespace Go.Ab
open Go Go.Dk
theorem abs_call {P : Program} [DrM P] {S : Say} (hp : PrimsOK P S) (hib : ∀ f, S.D.ib f = true → extIB P f) {f : FuncId} {fn : Func} {n : Nat} {args outs : List V1} {vals : List Value} {w : World} {Z : Zone}
   (hfn : P.funcs[f]? = some fn) (hb : fn.body.isSome = true) (hr : All2 (RV1 [] Z w) args vals) (h : evF P S n f args [] = some (outs, [])) :
   Calls P f vals.toArray w fun e w' => ∃ xs : List Value, e = .returned (if h : xs.toArray.size = 1 then xs.toArray[0] else .tuple xs.toArray) ∧ Grow w w' ∧ All2 (RV1 [] (fun b => Z b ∨ w.heap.size ≤ b) w') outs xs := by
 have hr' : All2 (RV [] Z w) (args.map .v) vals := by
  refine ⟨by simpa using hr.1, fun i a b ha hb => ?_⟩
  rw [List.getElem?_map] at ha
  cases hx : args[i]? with
  | none => rw [hx] at ha; cases ha
  | some x =>
   rw [hx] at ha
   obtain rfl : AV.v x = a := Option.some.inj ha
   exact hr.2 i x b hx hb
 have h0 : InvG w noneZ Z 0 [] ⟨args.map .v, []⟩ vals w := by
  refine ⟨St.init w noneZ Z (relF_stable _ _ _) ⟨hr', All2.nil⟩, fun j _ hl => by simp at hl, fun k hk => hk.elim⟩
 have := abs_sound hp hib n f fn args [] _ hfn hb h w noneZ Z [] vals w h0
 refine this.mono fun e w' ⟨xs, G', he, hI, _⟩ => ?_
 have hG : G' = [] := hI.st.per.2.nil_inv
 subst hG
 have hs := relF_stable ⟨outs.map .v, []⟩ [] xs _ (fun b => Z b ∨ w.heap.size ≤ b) w' w' (fun b hb _ => ⟨hb.1, rfl⟩) hI.st.per
 refine ⟨xs, he, hI.st.ext, ?_⟩
 refine ⟨by simpa using hs.1.1, fun i a b ha hb => ?_⟩
 exact hs.1.2 i (.v a) b (by rw [List.getElem?_map, ha]; rfl) hb
theorem terms_res {Z : Zone} {w : World} {ts : List T} {x : Value} (k n : Int) (h : SlR Z w (.ts ts) x) : ∃ u : HT, x = u.sl ∧ Rd Z w u ∧ u.er = .mk k n ts := by
 obtain ⟨a, cap, xs, rfl, hc, hm, ⟨hs, h1, h2, h3⟩, h4⟩ := h
 have hl : hs.length = ts.length := by rw [← h1]; simp
 refine ⟨.mk k n a cap hs, ?_, ?_, ?_⟩
 ·simp only [HT.sl, HT.a, HT.kids, HT.cap, hl, SD.len]
 ·rcases h4 with h4 | ⟨b, off, rfl, hz, hat⟩
  ·have : hs = [] := by
     cases hs with
     | nil => rfl
     | cons t hs => rw [h4] at h2; simp [flatT_cons] at h2
   subst this
   exact Rd_none
  ·simp only [SD.len, maxLen] at hc hm
   refine Rd_mk (by omega) (by omega) hz (RdL_of_cells hs off (fun j u hj => hat j u (by rw [h2]; exact hj)) h3)
 ·rw [HT.er_eq]
  simp only [HT.k, HT.n, HT.kids, h1]
theorem term_res {Z : Zone} {w : World} {t : T} {x : Value} (h : RV1 [] Z w (.agg [.int .i64 t.k, .int .i64 t.n, .fr (.ts t.kids)]) x) : ∃ u : HT, x = u.val ∧ Rd Z w u ∧ u.er = t := by
 obtain ⟨xs, rfl, h1⟩ := h
 obtain ⟨a, xs, rfl, ha, h1⟩ := h1.cons_inv
 obtain ⟨b, xs, rfl, hb, h1⟩ := h1.cons_inv
 obtain ⟨c, xs, rfl, hc, h1⟩ := h1.cons_inv
 obtain rfl := h1.nil_inv
 obtain ⟨u, rfl, hu, he⟩ := terms_res t.k t.n hc.1
 obtain rfl : a = .int .i64 t.k := ha.1
 obtain rfl : b = .int .i64 t.n := hb.1
 have e1 : u.k = t.k := by rw [← HT.er_k, he]; rfl
 have e2 : u.n = t.n := by rw [← HT.er_n, he]; rfl
 refine ⟨u, ?_, hu, by rw [he]; cases t; rfl⟩
 rw [← e1, ← e2]
 cases u; rfl
theorem term_arg' {t : HT} {w : World} {Z : Zone} (h : Rd Z w t) : RV1 [] Z w (.agg [.int .i64 t.er.k, .int .i64 t.er.n, .fr (.ts t.er.kids)]) t.val := by
 refine ⟨[.int .i64 t.k, .int .i64 t.n, t.sl], ?_, All2.cons ?_ (All2.cons ?_ (All2.cons ⟨Rd_sl h, rfl⟩ All2.nil))⟩
 ·cases t; rfl
 ·rw [HT.er_k]; exact ⟨rfl, rfl⟩
 ·rw [HT.er_n]; exact ⟨rfl, rfl⟩
theorem terms_arg {t : HT} {w : World} {Z : Zone} (h : Rd Z w t) : RV1 [] Z w (.one (.fr (.ts t.er.kids))) t.sl := ⟨Rd_sl h, fun _ => rfl⟩
theorem int_arg' {k : IntKind} {n : Int} {w : World} {Z : Zone} : RV1 [] Z w (.one (.int k n)) (.int k n) := ⟨rfl, fun _ => rfl⟩
theorem int_res {k : IntKind} {n : Int} {x : Value} {w : World} {Z : Zone} (h : RV1 [] Z w (.one (.int k n)) x) : x = .int k n := h.1
theorem bool_res {b : Bool} {x : Value} {w : World} {Z : Zone} (h : RV1 [] Z w (.one (.bool b)) x) : x = .bool b := h.1
end Go.Ab
end
section
namespace Go.Proofs.Ytgchmppmecnniaa
open Go Go.Ab
open Go.Dk (Rd HT Grow T St)
theorem saP_some {args : List V1} {out : List V1 × List AObj} (h : saP args = some out) : ∃ (k n : Int) (ks : List T), args = [.agg [.int .i64 k, .int .i64 n, .fr (.ts ks)]] ∧ T.sizeL ks ≤ 1048576 ∧
   out = ([.agg [.int .i64 (saR (.mk k n ks)).1.1.k, .int .i64 (saR (.mk k n ks)).1.1.n, .fr (.ts (saR (.mk k n ks)).1.1.kids)], .one (.fr (.ts (saR (.mk k n ks)).1.2)), .one (.bool (saR (.mk k n ks)).2)], []) := by
 unfold saP at h
 split at h
 ·rename_i k n ks
  split at h
  ·rename_i hz
   exact ⟨k, n, ks, rfl, hz, (Option.some.inj h).symm⟩
  ·cases h
 ·cases h
theorem primF_some {f : FuncId} {g : List V1 → OR} (h : primF f = some g) : f = 12 ∧ g = saP := by
 unfold primF at h
 cases hb : Nat.beq f 12 with
 | true => rw [hb] at h; exact ⟨Nat.eq_of_beq_eq_true hb, (Option.some.inj h).symm⟩
 | false => rw [hb] at h; cases h
theorem hprim : PrimsOK Try.prog SS := by
 intro f g args out hf hg w0 M Z0 G vals w hI
 obtain ⟨rfl, rfl⟩ := primF_some hf
 obtain ⟨k, n, ks, rfl, hz, rfl⟩ := saP_some hg
 have hG : G = [] := hI.st.per.2.nil_inv
 subst hG
 obtain ⟨x, xs, rfl, h1, h2⟩ := hI.st.per.1.cons_inv
 obtain rfl := h2.nil_inv
 obtain ⟨t, rfl, hr, ht⟩ := term_res (t := .mk k n ks) h1
 refine (iw_SplitApp t _ ht _ w hr hz).mono fun e w' ⟨v, u, he, hgr, ho, ev, eu⟩ => ?_
 have hv : Rd (fun b => Go.Dk.zone w0 Z0 [] b ∨ w.heap.size ≤ b) w' v := Rd.frame v ho.own.1.1 fun b hb => ⟨.inr (ho.new b (.inl hb)), rfl⟩
 have hu : Rd (fun b => Go.Dk.zone w0 Z0 [] b ∨ w.heap.size ≤ b) w' u := Rd.frame u ho.own.2.1.1 fun b hb => ⟨.inr (ho.new b (.inr hb)), rfl⟩
 have a1 := term_arg' hv
 have a2 := terms_arg hu
 rw [ev] at a1
 rw [eu] at a2
 have st : St w0 M Z0 [] (relF ⟨[.agg [.int .i64 (saR (.mk k n ks)).1.1.k, .int .i64 (saR (.mk k n ks)).1.1.n, .fr (.ts (saR (.mk k n ks)).1.1.kids)], .one (.fr (.ts (saR (.mk k n ks)).1.2)), .one (.bool (saR (.mk k n ks)).2)].map .v, []⟩ [] [v.val, u.sl, .bool (saR (.mk k n ks)).2]) w' := by
  have s0 : St w0 M Z0 [] (relF ⟨[.agg [.int .i64 k, .int .i64 n, .fr (.ts ks)]].map .v, []⟩ [] [t.val]) w := hI.st
  refine (s0.call hgr (relF_stable _ _ _) ?_).unfact (relF_stable _ _ _) (fun _ _ h => h.1)
  exact ⟨All2.cons a1 (All2.cons a2 (All2.cons ⟨rfl, fun _ => rfl⟩ All2.nil)), All2.nil⟩
 refine ⟨[v.val, u.sl, .bool (saR (.mk k n ks)).2], [], he, ⟨st, fun j _ hl => by simp at hl, hI.mz⟩, UpW.refl _⟩
end Go.Proofs.Ytgchmppmecnniaa
end
section
namespace Go.Proofs.Ytgchmppmecnniaa
open Go Go.Ab Go.Dk
def Ev (f : FuncId) (args : List V1) (h : List AObj) (r : List V1 × List AObj) : Prop := ∃ N, ∀ n, N ≤ n → FF n f args h = some r
theorem hib : ∀ f, SS.D.ib f = true → extIB Try.prog f := by
 intro f hf
 first
 | exact hibX f hf
 | exact absurd hf (by decide)
 | cases hf
-- hprim: see XPr
theorem Ev.of {f : FuncId} {args : List V1} {h : List AObj} {r : List V1 × List AObj} (N : Nat) (hh : ∀ n, N ≤ n → FF (n + 1) f args h = some r) : Ev f args h r :=
 ⟨N + 1, fun n hn => by obtain ⟨m, rfl⟩ : ∃ m, n = m + 1 := ⟨n - 1, by omega⟩; exact hh m (by omega)⟩
theorem wrap64 {a : Int} (h : -9223372036854775808 ≤ a ∧ a ≤ 9223372036854775807) : IntKind.i64.wrap a = a := IntWalk.i64_in _ h
theorem ik_self (a : IntKind) : ikEq a a = true := by simp [ikEq]
theorem nb_self (a : Nat) : Nat.beq a a = true := Nat.beq_refl a
theorem cond_dec {α : Type} (p : Prop) [Decidable p] (a b : α) : cond (decide p) a b = if p then a else b := by by_cases h : p <;> simp [h]
theorem cond_ndec {α : Type} (p : Prop) [Decidable p] (a b : α) : cond (!decide p) a b = if p then b else a := by by_cases h : p <;> simp [h]
theorem byte_bd (c : UInt8) : 0 ≤ (c.toNat : Int) ∧ (c.toNat : Int) ≤ 255 := by have := c.toNat_lt; omega
theorem wrapB (c : UInt8) : IntKind.i64.wrap (c.toNat : Int) = c.toNat := wrap64 (by have := byte_bd c; omega)
section
variable {V W : Type} (l : List V1) (c : List SV) (o : List AObj)
theorem c_rInt (a : IntKind) (n : Int) (k) : rInt a (.one (.int a n) :: l) k = k n l := by simp [rInt, ikEq]
theorem c_rBool (b : Bool) (k) : rBool (.one (.bool b) :: l) k = k b l := rfl
theorem c_rStr (x : ByteArray) (k) : rStr (.one (.str x) :: l) k = k x l := rfl
theorem c_rTs (x : List T) (k) : rTs (.one (.fr (.ts x)) :: l) k = k x l := rfl
theorem c_rIs (x : List Int) (k) : rIs (.one (.fr (.is x)) :: l) k = k x l := rfl
theorem c_rIss (x : List (List Int)) (k) : rIss (.one (.fr (.iss x)) :: l) k = k x l := rfl
theorem c_rSs (x : List ByteArray) (k) : rSs (.one (.fr (.ss x)) :: l) k = k x l := rfl
theorem c_rBs (x : List UInt8) (k) : rBs (.one (.fr (.bs x)) :: l) k = k x l := rfl
theorem c_rTerm (a b : Int) (x : List T) (k) : rTerm (.agg [.int .i64 a, .int .i64 b, .fr (.ts x)] :: l) k = k (.mk a b x) l := rfl
theorem c_rOwnT (j : Nat) (a b : Int) (k) : rOwnT j (.agg [.int .i64 a, .int .i64 b, .own j 0] :: l) k = k a b l := by simp [rOwnT]
theorem c_rOwn (j : Nat) (k) : rOwn j (.one (.own j 0) :: l) k = k l := by simp [rOwn]
theorem c_rPtr (j : Nat) (k) : rPtr j (.one (.ptr j 0) :: l) k = k l := by simp [rPtr]
theorem c_nilV (k) : nilV [] k = k := rfl
theorem c_nilO (k) : nilO [] k = k := rfl
theorem c_objC (x : List SV) (k) : objC (.cells x :: o) k = k x o := rfl
theorem c_dropC (x : AObj) (k) : dropC (x :: o) k = k o := rfl
theorem c_intC (a : IntKind) (n : Int) (k) : intC a (.int a n :: c) k = k n c := by simp [intC, ikEq]
theorem c_boolC (b : Bool) (k) : boolC (.bool b :: c) k = k b c := rfl
theorem c_strC (x : ByteArray) (k) : strC (.str x :: c) k = k x c := rfl
theorem c_tsC (x : List T) (k) : tsC (.fr (.ts x) :: c) k = k x c := rfl
theorem c_isC (x : List Int) (k) : isC (.fr (.is x) :: c) k = k x c := rfl
theorem c_issC (x : List (List Int)) (k) : issC (.fr (.iss x) :: c) k = k x c := rfl
theorem c_ssC (x : List ByteArray) (k) : ssC (.fr (.ss x) :: c) k = k x c := rfl
theorem c_bsC (x : List UInt8) (k) : bsC (.fr (.bs x) :: c) k = k x c := rfl
theorem c_anyC (x : SV) (k) : anyC (x :: c) k = k c := rfl
theorem c_nilC (k) : nilC [] k = k := rfl
theorem c_arrTs (e : TypeId) (x : List T) (k) : arrTsC e (.arr e (.ts x) 0 false :: o) k = k x o := by simp [arrTsC]
theorem c_arrIs (e : TypeId) (x : List Int) (k) : arrIsC e (.arr e (.is x) 0 false :: o) k = k x o := by simp [arrIsC]
theorem c_arrIss (e : TypeId) (x : List (List Int)) (k) : arrIssC e (.arr e (.iss x) 0 false :: o) k = k x o := by simp [arrIssC]
theorem c_arrSs (e : TypeId) (x : List ByteArray) (k) : arrSsC e (.arr e (.ss x) 0 false :: o) k = k x o := by simp [arrSsC]
theorem c_arrBs (e : TypeId) (x : List UInt8) (k) : arrBsC e (.arr e (.bs x) 0 false :: o) k = k x o := by simp [arrBsC]
end
theorem evs : type_of% (And.intro @Option.bind_some.{0,0} <| And.intro @c_rInt <| And.intro @c_rBool <| And.intro @c_rStr <| And.intro @c_rTs <| And.intro @c_rIs <| And.intro @c_rIss <| And.intro @c_rSs <| And.intro @c_rBs <| And.intro @c_rTerm <| And.intro @c_rOwnT <| And.intro @c_rOwn <| And.intro @c_rPtr <| And.intro @c_nilV <| And.intro @c_nilO <| And.intro @c_objC <| And.intro @c_dropC <| And.intro @c_intC <| And.intro @c_boolC <| And.intro @c_strC <| And.intro @c_tsC <| And.intro @c_isC <| And.intro @c_issC <| And.intro @c_ssC <| And.intro @c_bsC <| And.intro @c_anyC <| And.intro @c_nilC <| And.intro @c_arrTs <| And.intro @c_arrIs <| And.intro @c_arrIss <| And.intro @c_arrSs <| And.intro @c_arrBs <| And.intro @ik_self <| And.intro @nb_self <| And.intro @cond_true.{1} @cond_false.{1}) := And.intro @Option.bind_some.{0,0} <| And.intro @c_rInt <| And.intro @c_rBool <| And.intro @c_rStr <| And.intro @c_rTs <| And.intro @c_rIs <| And.intro @c_rIss <| And.intro @c_rSs <| And.intro @c_rBs <| And.intro @c_rTerm <| And.intro @c_rOwnT <| And.intro @c_rOwn <| And.intro @c_rPtr <| And.intro @c_nilV <| And.intro @c_nilO <| And.intro @c_objC <| And.intro @c_dropC <| And.intro @c_intC <| And.intro @c_boolC <| And.intro @c_strC <| And.intro @c_tsC <| And.intro @c_isC <| And.intro @c_issC <| And.intro @c_ssC <| And.intro @c_bsC <| And.intro @c_anyC <| And.intro @c_nilC <| And.intro @c_arrTs <| And.intro @c_arrIs <| And.intro @c_arrIss <| And.intro @c_arrSs <| And.intro @c_arrBs <| And.intro @ik_self <| And.intro @nb_self <| And.intro @cond_true.{1} @cond_false.{1}
def Tot (o : OR) (Q : List V1 × List AObj → Prop) : Prop := ∃ r, o = some r ∧ Q r
theorem tot_some {r : List V1 × List AObj} {Q : List V1 × List AObj → Prop} (h : Q r) : Tot (some r) Q := ⟨r, rfl, h⟩
theorem tot_cond {b : Bool} {x y : OR} {Q : List V1 × List AObj → Prop} (hx : b = true → Tot x Q) (hy : b = false → Tot y Q) : Tot (cond b x y) Q := by
 cases b
 ·exact hy rfl
 ·exact hx rfl
theorem tot_call {o : OR} {k : List V1 × List AObj → OR} {Q R : List V1 × List AObj → Prop} (h : Tot o R) (hk : ∀ r, R r → Tot (k r) Q) : Tot (o.bind k) Q := by
 obtain ⟨r, h1, h2⟩ := h
 rw [h1]; exact hk r h2
theorem tot_mono {o : OR} {Q R : List V1 × List AObj → Prop} (h : Tot o Q) (hk : ∀ r, Q r → R r) : Tot o R := by
 obtain ⟨r, h1, h2⟩ := h
 exact ⟨r, h1, hk r h2⟩
theorem tot_step {C : Nat} {f : FuncId} {args : List V1} {h : List AObj} {Q : List V1 × List AObj → Prop} {n : Nat} (hn : C + 1 ≤ n) (hh : ∀ m, C ≤ m → n = m + 1 → Tot (FF (m + 1) f args h) Q) : Tot (FF n f args h) Q := by
 obtain ⟨m, rfl⟩ : ∃ m, n = m + 1 := ⟨n - 1, by omega⟩
 exact hh m (by omega) rfl
end Go.Proofs.Ytgchmppmecnniaa
end
section
namespace Go.Proofs.Ytgchmppmecnniaa
open Go Go.Ab Go.Dk
theorem xor_bd {a b : Int} (ha : 0 ≤ a ∧ a < 4611686018427387904) (hb : 0 ≤ b ∧ b < 4611686018427387904) : 0 ≤ IntKind.i64.wrap (BitVec.ofInt IntKind.i64.bits a ^^^ BitVec.ofInt IntKind.i64.bits b).toNat := by
 obtain ⟨m, rfl⟩ : ∃ m : Nat, a = m := ⟨a.toNat, by omega⟩
 obtain ⟨n, rfl⟩ : ∃ n : Nat, b = n := ⟨b.toNat, by omega⟩
 have hm : m < 2 ^ 62 := by omega
 have hn : n < 2 ^ 62 := by omega
 have hx : m ^^^ n < 2 ^ 62 := Nat.xor_lt_two_pow hm hn
 have e : (BitVec.ofInt 64 (m : Int) ^^^ BitVec.ofInt 64 (n : Int)).toNat = m ^^^ n := by
  rw [BitVec.toNat_xor]
  have h1 : (BitVec.ofInt 64 (m : Int)).toNat = m := by simp; omega
  have h2 : (BitVec.ofInt 64 (n : Int)).toNat = n := by simp; omega
  rw [h1, h2]
 show 0 ≤ IntKind.i64.wrap ((BitVec.ofInt 64 (m : Int) ^^^ BitVec.ofInt 64 (n : Int)).toNat : Int)
 rw [e, IntWalk.i64_in _ (by omega)]
 omega
abbrev rdr (l : List UInt8) (p : Int) : AObj := .cells [.fr (.bs l), .int .i64 p]
def RdOk (l : List UInt8) (p m : Int) : Prop := l.length ≤ 2000 ∧ 0 ≤ p ∧ p ≤ m
theorem RdOk.mono {l : List UInt8} {p m m' : Int} (h : RdOk l p m) (hm : m ≤ m') : RdOk l p m' := ⟨h.1, h.2.1, by have := h.2.2; omega⟩
theorem tmod_bd {a b : Int} (ha : 0 ≤ a) (hb : 0 < b) : 0 ≤ a.tmod b ∧ a.tmod b < b := by
 rw [Int.tmod_eq_emod_of_nonneg ha]
 exact ⟨Int.emod_nonneg _ (by omega), Int.emod_lt_of_pos _ hb⟩
theorem tdiv_bd {a b : Int} (ha : 0 ≤ a) (hb : 0 < b) : 0 ≤ a.tdiv b ∧ a.tdiv b ≤ a := by
 rw [Int.tdiv_eq_ediv_of_nonneg ha]
 exact ⟨Int.ediv_nonneg ha (by omega), Int.ediv_le_self _ ha⟩
theorem get_lt {l : List UInt8} {i : Int} (h0 : 0 ≤ i) (h1 : i < l.length) : ∃ c, l[i.toNat]? = some c := by
 have : i.toNat < l.length := by omega
 exact ⟨l[i.toNat], List.getElem?_eq_getElem this⟩
def EvA (C : Nat) (f : FuncId) (args : List V1) (h : List AObj) (r : List V1 × List AObj) : Prop := ∀ n, C ≤ n → FF n f args h = some r
theorem EvA.ev {C f args h r} (k : EvA C f args h r) : Ev f args h r := ⟨C, k⟩
theorem EvA.of {f args h r} (C : Nat) (hh : ∀ n, C ≤ n → FF (n + 1) f args h = some r) : EvA (C + 1) f args h r := fun n hn => by obtain ⟨m, rfl⟩ : ∃ m, n = m + 1 := ⟨n - 1, by omega⟩; exact hh m (by omega)
theorem s_pick {l : List UInt8} {p m n : Int} (h : RdOk l p m) (hm : m ≤ 1099511627776) (hn : n ≤ 2147483648) :
   ∃ v, (0 ≤ v ∧ (0 < n → v < n) ∧ (n < 1 → v = 0)) ∧ RdOk l (p + 1) (m + 1) ∧ EvA 1 67 [.one (.ptr 0 0), .one (.int .i64 n)] [rdr l p] ([.one (.int .i64 v)], [rdr l (p + 1)]) := by
 obtain ⟨hl, h0, hp⟩ := h
 have hr : RdOk l (p + 1) (m + 1) := ⟨hl, by omega, by omega⟩
 have w1 : IntKind.i64.wrap (p + 1) = p + 1 := wrap64 (by omega)
 have w2 : IntKind.i64.wrap (p + 1 - 1) = p := by rw [wrap64 (by omega)]; omega
 by_cases hn1 : n < 1
 ·refine ⟨0, ⟨by omega, by omega, by omega⟩, hr, EvA.of 0 fun k _ => ?_⟩
  rw [E_spec_l19Rd_pick]
  simp only [cond_dec, if_pos hn1, w1]
 ·by_cases hl0 : (l.length : Int) = 0
  ·refine ⟨0, ⟨by omega, by omega, by omega⟩, hr, EvA.of 0 fun k _ => ?_⟩
   rw [E_spec_l19Rd_pick]
   simp only [cond_dec, if_neg hn1, if_pos hl0, w1]
  ·have hlp : 0 < (l.length : Int) := by omega
   by_cases hk : p < l.length
   ·obtain ⟨c, hc⟩ := get_lt h0 hk
    have hb := byte_bd c
    have ht := tmod_bd hb.1 (show 0 < n by omega)
    refine ⟨Int.tmod c.toNat n, ⟨ht.1, fun _ => ht.2, by omega⟩, hr, EvA.of 0 fun k _ => ?_⟩
    rw [E_spec_l19Rd_pick]
    simp only [cond_dec, if_neg hn1, if_neg hl0, w1, w2, if_pos hk, if_pos h0, hc, Option.bind_some, wrapB, if_neg (show ¬ n = 0 by omega)]
   ·have t1 := tmod_bd h0 hlp
    obtain ⟨c, hc⟩ := get_lt t1.1 t1.2
    have w3 : IntKind.i64.wrap (p * 7) = p * 7 := wrap64 (by omega)
    have w4 : IntKind.i64.wrap (p * 7 + 3) = p * 7 + 3 := wrap64 (by omega)
    have t2 := tmod_bd (show 0 ≤ p * 7 + 3 by omega) hlp
    obtain ⟨d, hd⟩ := get_lt t2.1 t2.2
    have hb := byte_bd c
    have hb' := byte_bd d
    have t3 := tdiv_bd h0 hlp
    have w5 : IntKind.i64.wrap ((c.toNat : Int) * 131) = c.toNat * 131 := wrap64 (by omega)
    have w6 : IntKind.i64.wrap ((d.toNat : Int) * 1117) = d.toNat * 1117 := wrap64 (by omega)
    have w7 : IntKind.i64.wrap ((c.toNat : Int) * 131 + d.toNat * 1117) = c.toNat * 131 + d.toNat * 1117 := wrap64 (by omega)
    have w8 : IntKind.i64.wrap (p * 29) = p * 29 := wrap64 (by omega)
    have w9 : IntKind.i64.wrap ((c.toNat : Int) * 131 + d.toNat * 1117 + p * 29) = c.toNat * 131 + d.toNat * 1117 + p * 29 := wrap64 (by omega)
    have wa : IntKind.i64.wrap (p.tdiv l.length) = p.tdiv l.length := wrap64 (by omega)
    have wb : IntKind.i64.wrap (p.tdiv l.length * 53) = p.tdiv l.length * 53 := wrap64 (by omega)
    have wc : IntKind.i64.wrap ((c.toNat : Int) * 131 + d.toNat * 1117 + p * 29 + p.tdiv l.length * 53) = c.toNat * 131 + d.toNat * 1117 + p * 29 + p.tdiv l.length * 53 := wrap64 (by omega)
    have t4 := tdiv_bd (show 0 ≤ (c.toNat : Int) * 131 + d.toNat * 1117 + p * 29 + p.tdiv l.length * 53 by omega) (show (0 : Int) < 64 by omega)
    have wd : IntKind.i64.wrap (Int.tdiv ((c.toNat : Int) * 131 + d.toNat * 1117 + p * 29 + p.tdiv l.length * 53) 64) = Int.tdiv ((c.toNat : Int) * 131 + d.toNat * 1117 + p * 29 + p.tdiv l.length * 53) 64 := wrap64 (by omega)
    have hx := xor_bd (a := (c.toNat : Int) * 131 + d.toNat * 1117 + p * 29 + p.tdiv l.length * 53) (b := Int.tdiv ((c.toNat : Int) * 131 + d.toNat * 1117 + p * 29 + p.tdiv l.length * 53) 64) (by omega) (by omega)
    have ht := tmod_bd hx (show 0 < n by omega)
    refine ⟨_, ⟨ht.1, fun _ => ht.2, by omega⟩, hr, EvA.of 0 fun k _ => ?_⟩
    rw [E_spec_l19Rd_pick]
    simp only [cond_dec, if_neg hn1, if_neg hl0, w1, w2, if_neg hk, if_pos t1.1, hc, Option.bind_some, wrapB, w3, w4, if_pos t2.1, hd, if_neg (show ¬ n = 0 by omega), w5, w6, w7, w8, w9, wa, wb, wc, wd]
theorem s_of {l : List UInt8} {p m : Int} (h : RdOk l p m) (hm : m ≤ 1099511627776) {ss : List ByteArray} (hs : ss ≠ []) (hs2 : ss.length ≤ 2147483648) :
   ∃ s ∈ ss, RdOk l (p + 1) (m + 1) ∧ EvA 2 69 [.one (.ptr 0 0), .one (.fr (.ss ss))] [rdr l p] ([.one (.str s)], [rdr l (p + 1)]) := by
 obtain ⟨v, ⟨v0, v1, _⟩, hr, hN⟩ := s_pick h hm (n := (ss.length : Int)) (by omega)
 have hpos := List.length_pos_iff.2 hs
 have hv := v1 (by omega)
 have hlt : v.toNat < ss.length := by omega
 refine ⟨ss[v.toNat], List.getElem_mem hlt, hr, EvA.of 1 fun n hn => ?_⟩
 rw [E_spec_l19Rd_of, hN n hn]
 simp only [evs, cond_dec, if_pos v0, List.getElem?_eq_getElem hlt]
theorem s_num {l : List UInt8} {p m : Int} (h : RdOk l p m) (hm : m ≤ 1099511627776) {ss : List Int} (hs : ss ≠ []) (hs2 : ss.length ≤ 2147483648) :
   ∃ s ∈ ss, RdOk l (p + 1) (m + 1) ∧ EvA 2 36 [.one (.ptr 0 0), .one (.fr (.is ss))] [rdr l p] ([.one (.int .i64 s)], [rdr l (p + 1)]) := by
 obtain ⟨v, ⟨v0, v1, _⟩, hr, hN⟩ := s_pick h hm (n := (ss.length : Int)) (by omega)
 have hpos := List.length_pos_iff.2 hs
 have hv := v1 (by omega)
 have hlt : v.toNat < ss.length := by omega
 refine ⟨ss[v.toNat], List.getElem_mem hlt, hr, EvA.of 1 fun n hn => ?_⟩
 rw [E_spec_l19Rd_num, hN n hn]
 simp only [evs, cond_dec, if_pos v0, List.getElem?_eq_getElem hlt]
theorem s_open (l : List UInt8) : ∃ l', RdOk l' 0 0 ∧ EvA 1 33 [.one (.fr (.bs l))] [] ([.one (.ptr 0 0)], [rdr l' 0]) := by
 by_cases hl : 2000 < (l.length : Int)
 ·refine ⟨(l.take (2000 : Int).toNat).drop (0 : Int).toNat, ⟨by simp; omega, by omega, by omega⟩, EvA.of 0 fun n _ => ?_⟩
  ·rw [E_spec_l19Open]
   simp only [cond_dec, if_pos hl, inB, Int.le_refl, decide_true, Bool.true_and, show (0 : Int) ≤ 2000 from by omega, if_pos (show (2000 : Int) ≤ l.length by omega)]
 ·refine ⟨l, ⟨by omega, by omega, by omega⟩, EvA.of 0 fun n _ => ?_⟩
  rw [E_spec_l19Open]
  simp only [cond_dec, if_neg hl]
end Go.Proofs.Ytgchmppmecnniaa
end
section
namespace Go.Proofs.Ytgchmppmecnniaa
open Go Go.Ab Go.Dk
abbrev tm (t : T) : V1 := .agg [.int .i64 t.k, .int .i64 t.n, .fr (.ts t.kids)]
abbrev tms (l : List T) : V1 := .one (.fr (.ts l))
abbrev nt (n : Int) : V1 := .one (.int .i64 n)
abbrev bl (b : Bool) : V1 := .one (.bool b)
abbrev termT : TypeId := 25
abbrev ow (t : T) : List V1 × List AObj := ([.agg [.int .i64 t.k, .int .i64 t.n, .own 0 0]], [.arr termT (.ts t.kids) 0 false])
theorem T.eta (t : T) : T.mk t.k t.n t.kids = t := by cases t; rfl
theorem mk_k (k n : Int) (l : List T) : (T.mk k n l).k = k := rfl
theorem mk_n (k n : Int) (l : List T) : (T.mk k n l).n = n := rfl
theorem mk_kids (k n : Int) (l : List T) : (T.mk k n l).kids = l := rfl
theorem rTerm_tm (t : T) (l : List V1) (k : T → List V1 → OR) : rTerm (.agg [.int .i64 t.k, .int .i64 t.n, .fr (.ts t.kids)] :: l) k = k t l := by cases t; rfl
theorem evt : type_of% (And.intro @evs <| And.intro @rTerm_tm <| And.intro @T.eta <| And.intro @mk_k <| And.intro @mk_n <| And.intro @mk_kids <| And.intro @Option.bind_none.{0,0} <| And.intro @Bool.not_true <| And.intro @Bool.not_false <| And.intro @Bool.true_and <| And.intro @Bool.and_true <| And.intro @Bool.and_false <| And.intro @Bool.false_and <| And.intro @Bool.and_self <| And.intro @decide_true @decide_false) := And.intro @evs <| And.intro @rTerm_tm <| And.intro @T.eta <| And.intro @mk_k <| And.intro @mk_n <| And.intro @mk_kids <| And.intro @Option.bind_none.{0,0} <| And.intro @Bool.not_true <| And.intro @Bool.not_false <| And.intro @Bool.true_and <| And.intro @Bool.and_true <| And.intro @Bool.and_false <| And.intro @Bool.false_and <| And.intro @Bool.and_self <| And.intro @decide_true @decide_false
theorem pos_succ {n : Nat} (h : 0 < n) : ∃ m, n = m + 1 := ⟨n - 1, by omega⟩
theorem cast1 (i : Nat) : (i : Int) + 1 = ((i + 1 : Nat) : Int) := rfl
theorem roomB_ok {n : Nat} (h : n ≤ 1099511627776) : roomB n = true := decide_eq_true h
theorem take_snoc {α : Type} {l : List α} {i : Nat} (h : i < l.length) : l.take i ++ [l[i]] = l.take (i + 1) := by rw [List.take_add_one, List.getElem?_eq_getElem h]; rfl
theorem f_within {n : Nat} (hn : 1 ≤ n) (a b c : Int) : FF n 84 [nt a, nt b, nt c] [] = some ([bl (decide (b ≤ a) && decide (a ≤ c))], []) := by
 obtain ⟨n, rfl⟩ := pos_succ (show 0 < n by omega)
 rw [E_impl_within]
 by_cases h : b ≤ a <;> simp [h]
theorem f_most {n : Nat} (hn : 1 ≤ n) (k : Int) : FF n 95 [nt k] [] = some ([nt (mostOf k)], []) := by
 obtain ⟨n, rfl⟩ := pos_succ (show 0 < n by omega)
 rw [E_impl_most]
 unfold mostOf
 by_cases h : k = 1 <;> by_cases h2 : k = 2 <;> simp [h, h2]
theorem f_l1Most {n : Nat} (hn : 1 ≤ n) (k : Int) : FF n 73 [nt k] [] = some ([nt (mostOf k)], []) := by
 obtain ⟨n, rfl⟩ := pos_succ (show 0 < n by omega)
 rw [E_spec_l1Most]
 unfold mostOf
 by_cases h : k = 1 <;> by_cases h2 : k = 2 <;> simp [h, h2]
theorem ops_list (k : Int) (h : 1 ≤ k ∧ k ≤ 16) : ([0, 0, 2, 2, 2, 0, 0, 1, 4, 3, 1, 3, 2, 3, 1, 1] : List Int)[(k - 1).toNat]? = some (opsOf k) := by
 have : k = 1 ∨ k = 2 ∨ k = 3 ∨ k = 4 ∨ k = 5 ∨ k = 6 ∨ k = 7 ∨ k = 8 ∨ k = 9 ∨ k = 10 ∨ k = 11 ∨ k = 12 ∨ k = 13 ∨ k = 14 ∨ k = 15 ∨ k = 16 := by omega
 rcases this with rfl | rfl | rfl | rfl | rfl | rfl | rfl | rfl | rfl | rfl | rfl | rfl | rfl | rfl | rfl | rfl <;> rfl
theorem f_operands {n : Nat} (hn : 2 ≤ n) (k : Int) : FF n 94 [nt k] [] = some ([nt (opsOf k)], []) := by
 obtain ⟨n, rfl⟩ := pos_succ (show 0 < n by omega)
 rw [E_impl_operands, f_within (by omega)]
 by_cases h : 1 ≤ k ∧ k ≤ 16
 ·simp only [evs, decide_eq_true h.1, decide_eq_true h.2, Bool.and_self, Bool.not_true, wrap64 (show -9223372036854775808 ≤ k - 1 ∧ k - 1 ≤ 9223372036854775807 by omega), decide_eq_true (show 0 ≤ k - 1 by omega),
    show (([0, 0, 2, 2, 2, 0, 0, 1, 4, 3, 1, 3, 2, 3, 1, 1] : List Nat).length : Int) = 16 from rfl, decide_eq_true (show k - 1 < 16 by omega), ops_list k h]
 ·have : (decide (1 ≤ k) && decide (k ≤ 16)) = false := by
    rw [Bool.and_eq_false_iff, decide_eq_false_iff_not, decide_eq_false_iff_not]; omega
  simp only [evs, this, Bool.not_false]
  unfold opsOf
  rw [if_neg (by omega), if_neg (by omega), if_neg (by omega), if_neg (by omega), if_neg (by omega)]
theorem f_l1Kids {n : Nat} (hn : 1 ≤ n) (k : Int) : FF n 74 [nt k] [] = some ([nt (opsOf k)], []) := by
 obtain ⟨n, rfl⟩ := pos_succ (show 0 < n by omega)
 rw [E_spec_l1Kids]
 by_cases h : k = 1 ∨ k = 2 ∨ k = 3 ∨ k = 4 ∨ k = 5 ∨ k = 6 ∨ k = 7 ∨ k = 8 ∨ k = 9 ∨ k = 10 ∨ k = 11 ∨ k = 12 ∨ k = 13 ∨ k = 14 ∨ k = 15 ∨ k = 16
 ·rcases h with rfl | rfl | rfl | rfl | rfl | rfl | rfl | rfl | rfl | rfl | rfl | rfl | rfl | rfl | rfl | rfl <;> rfl
 ·unfold opsOf
  rw [if_neg (by omega), if_neg (by omega), if_neg (by omega), if_neg (by omega), if_neg (by omega)]
  simp (disch := omega) only [cond_dec, if_neg]
theorem f_isBinder {n : Nat} (hn : 1 ≤ n) (k : Int) : FF n 100 [nt k] [] = some ([bl (decide (k = 3 ∨ k = 4 ∨ k = 13))], []) := by
 obtain ⟨n, rfl⟩ := pos_succ (show 0 < n by omega)
 rw [E_impl_isBinder]
 by_cases h : k = 3 <;> by_cases h2 : k = 4 <;> simp [h, h2]
theorem und_cast (k : Int) (i : Nat) : under k i = if (i : Int) = 1 ∧ (k = 3 ∨ k = 4 ∨ k = 13) then 1 else 0 := by
 unfold under
 by_cases h : i = 1
 ·subst h; simp
 ·rw [if_neg (fun hh => h hh.1), if_neg (fun hh => h (by have := hh.1; omega))]
theorem f_under {n : Nat} (hn : 2 ≤ n) (k : Int) (i : Nat) : FF n 90 [nt k, nt i] [] = some ([nt (under k i)], []) := by
 obtain ⟨n, rfl⟩ := pos_succ (show 0 < n by omega)
 rw [E_impl_under, f_isBinder (by omega), und_cast]
 by_cases h : (i : Int) = 1
 ·simp only [evs, h, decide_true]
  by_cases h2 : k = 3 ∨ k = 4 ∨ k = 13 <;> simp [h2]
 ·simp [h]
theorem f_l2Binds {n : Nat} (hn : 1 ≤ n) (k : Int) (i : Nat) : FF n 118 [nt k, nt i] [] = some ([bl (decide ((i : Int) = 1 ∧ (k = 3 ∨ k = 4 ∨ k = 13)))], []) := by
 obtain ⟨n, rfl⟩ := pos_succ (show 0 < n by omega)
 rw [E_spec_l2Binds]
 by_cases h : (i : Int) = 1 <;> by_cases h1 : k = 3 <;> by_cases h2 : k = 4 <;> simp [h, h1, h2]
theorem f_l2Under {n : Nat} (hn : 2 ≤ n) (k : Int) (i : Nat) : FF n 117 [nt k, nt i] [] = some ([nt (under k i)], []) := by
 obtain ⟨n, rfl⟩ := pos_succ (show 0 < n by omega)
 rw [E_spec_l2Under, f_l2Binds (by omega), und_cast]
 by_cases h : (i : Int) = 1 ∧ (k = 3 ∨ k = 4 ∨ k = 13) <;> simp [evs, h]
theorem f_l1Leaf {n : Nat} (hn : 1 ≤ n) (k m : Int) : FF n 68 [nt k, nt m] [] = some ([tm (.mk k m [])], []) := by
 obtain ⟨n, rfl⟩ := pos_succ (show 0 < n by omega)
 exact E_spec_l1Leaf n k m
theorem f_variable {n : Nat} (hn : 1 ≤ n) (m : Int) : FF n 109 [nt m] [] = some ([tm (.mk 1 m [])], []) := by
 obtain ⟨n, rfl⟩ := pos_succ (show 0 < n by omega)
 exact E_impl_variable n m
theorem f_node {n : Nat} (hn : 1 ≤ n) (k : Int) (l : List T) : FF n 40 [nt k, tms l] [] = some ([tm (.mk k 0 l)], []) := by
 obtain ⟨n, rfl⟩ := pos_succ (show 0 < n by omega)
 exact E_impl_node n k l
theorem f_l1Node {n : Nat} (hn : 1 ≤ n) (k : Int) (l : List T) (hl : l.length ≤ 1099511627776) : FF n 46 [nt k, tms l] [] = some ([tm (.mk k 0 l)], []) := by
 obtain ⟨n, rfl⟩ := pos_succ (show 0 < n by omega)
 rw [E_spec_l1Node, List.nil_append, roomB_ok hl]; rfl
theorem ops_le (k : Int) : opsOf k ≤ 4 := by
 unfold opsOf
 repeat' split
 all_goals omega
theorem scan_loop (n : Nat) (d : Int) (ts : List T) (hd : 0 ≤ d ∧ d ≤ 31) (hl : ts.length ≤ 1099511627776)
   (h : ∀ u ∈ ts, ∀ c : Int, 0 ≤ c → c ≤ 400 → FF n 75 [tm u, nt (d + 1), .one (.ptr 0 0)] [.cells [.int .i64 c]] = some ([bl (scanF u (d + 1) c).1], [.cells [.int .i64 (scanF u (d + 1) c).2]])) :
   ∀ g m (i : Nat) (c : Int), g < m → i + g = ts.length → 0 ≤ c → c ≤ 400 → L_impl_scan_0 n m d ts ts.length i c = some ([bl (scanL (ts.drop i) (d + 1) c).1], [.cells [.int .i64 (scanL (ts.drop i) (d + 1) c).2]])
 | g, 0, i, c, hg, _, _, _ => by omega
 | 0, m + 1, i, c, _, hi, _, _ => by
  rw [L_impl_scan_0_eq, List.drop_of_length_le (by omega)]
  simp only [cond_dec, if_neg (show ¬ (i : Int) < ts.length by omega), scanL]
 | g + 1, m + 1, i, c, hg, hi, h0, h1 => by
  have hlt : i < ts.length := by omega
  have hb := scanF_bd ts[i] (d + 1) c
  rw [List.drop_eq_getElem_cons hlt, scanL]
  rw [L_impl_scan_0_eq]; simp (disch := omega) only [evt, cond_dec, Int.toNat_natCast, cast1, wrap64, roomB_ok, List.length_append, List.length_cons, List.length_nil, if_pos (show (i : Int) < ts.length by omega), if_pos (show 0 ≤ (i : Int) by omega), List.getElem?_eq_getElem hlt, h _ (List.getElem_mem hlt) c h0 h1]
  cases hs : (scanF ts[i] (d + 1) c).1 with
  | false => simp
  | true =>
   have := hb hs
   simp only [Bool.not_true, cond_false, if_true]
   exact scan_loop n d ts hd hl h g m (i + 1) _ (by omega) (by omega) (by omega) (by omega)
theorem f_scan (t : T) : ∀ {n : Nat}, t.size + 5 ≤ n → ∀ d c : Int, 0 ≤ d → d ≤ 31 → 0 ≤ c → c ≤ 400 →
   FF n 75 [tm t, nt d, .one (.ptr 0 0)] [.cells [.int .i64 c]] = some ([bl (scanF t d c).1], [.cells [.int .i64 (scanF t d c).2]]) := by
 induction t using T.ind with | h t ih =>
 intro n hn d c h0 h1 h2 h3
 have hsz := T.size_eq t
 have hl := T.sizeL_len t.kids
 obtain ⟨n, rfl⟩ := pos_succ (show 0 < n by omega)
 rw [E_impl_scan, scanF_eq]
 simp (disch := omega) only [evt, f_operands, f_most, f_within, wrap64]
 by_cases c1 : 400 < c + 1
 ·simp [c1]
 by_cases c2 : 30 < d
 ·simp [c1, c2]
 by_cases c3 : opsOf t.k = t.kids.length
 ·by_cases c4 : 0 ≤ t.n ∧ t.n ≤ mostOf t.k
  ·have e : (decide (0 ≤ t.n) && decide (t.n ≤ mostOf t.k)) = true := by simp [c4]
   rw [if_neg (by intro hh; rcases hh with hh | hh | hh | hh <;> first | omega | exact hh c3 | exact hh c4), e]
   simp only [decide_eq_false c1, decide_eq_false c2, cond_false, decide_eq_true c3, Bool.not_true]
   by_cases hk : t.kids = []
   ·rw [hk]
    obtain ⟨n, rfl⟩ := pos_succ (show 0 < n by omega)
    rw [L_impl_scan_0_eq]; simp [scanL]
   ·have := scan_loop n d t.kids ⟨h0, h1⟩ (by have := ops_le t.k; omega) (fun u hu c' hc hc' => ih u hu (by have := T.sizeL_mem hu; omega) (d + 1) c' (by omega) (by omega) hc hc') t.kids.length n 0 (c + 1) (by omega) (by omega) (by omega) (by omega)
    simpa using this
  ·have e : (decide (0 ≤ t.n) && decide (t.n ≤ mostOf t.k)) = false := by
     rw [← Bool.not_eq_true, Bool.and_eq_true, decide_eq_true_eq, decide_eq_true_eq]; exact c4
   rw [if_pos (.inr (.inr (.inr c4))), e]
   simp [c1, c2, c3]
 ·rw [if_pos (.inr (.inr (.inl c3)))]
  simp [c1, c2, c3]
theorem f_TermValid {n : Nat} {t : T} (hn : t.size + 6 ≤ n) : FF n 38 [tm t] [] = some ([bl (validB t)], []) := by
 obtain ⟨n, rfl⟩ := pos_succ (show 0 < n by omega)
 rw [E_impl_TermValid, ← scan_valid]
 simp (disch := omega) only [evt, f_scan]
theorem shape_loop (n : Nat) (d : Nat) (k0 n0 : Int) (ts : List T) (hd : d ≤ 30) (h1d : 1 ≤ d) (hl : ts.length ≤ 1099511627776)
   (h : ∀ u ∈ ts, FF n 78 [tm u, nt ((d - 1 : Nat) : Int)] [] = some ([bl (shapeF u (d - 1))], [])) :
   ∀ g m (i : Nat), g < m → i + g = ts.length → L_spec_l1Shape_0 n m (d : Int) i k0 n0 ts = some ([bl (shapeL (ts.drop i) (d - 1))], [])
 | g, 0, i, hg, _ => by omega
 | 0, m + 1, i, _, hi => by
  rw [L_spec_l1Shape_0_eq, List.drop_of_length_le (by omega)]
  simp only [cond_dec, if_neg (show ¬ (i : Int) < ts.length by omega), shapeL]
 | g + 1, m + 1, i, hg, hi => by
  have hlt : i < ts.length := by omega
  rw [List.drop_eq_getElem_cons hlt, shapeL]
  have w : IntKind.i64.wrap ((d : Int) - 1) = ((d - 1 : Nat) : Int) := by rw [wrap64 (by omega)]; omega
  rw [L_spec_l1Shape_0_eq]; simp (disch := omega) only [evt, cond_dec, Int.toNat_natCast, cast1, wrap64, roomB_ok, List.length_append, List.length_cons, List.length_nil, if_pos (show (i : Int) < ts.length by omega), if_pos (show 0 ≤ (i : Int) by omega), List.getElem?_eq_getElem hlt, w, h _ (List.getElem_mem hlt)]
  cases hs : shapeF ts[i] (d - 1) with
  | false => simp
  | true =>
   simp only [Bool.not_true, cond_false, Bool.true_and]
   exact shape_loop n d k0 n0 ts hd h1d hl h g m (i + 1) (by omega) (by omega)
theorem f_l1Shape (t : T) : ∀ {n : Nat}, t.size + 5 ≤ n → ∀ d : Nat, d ≤ 30 → FF n 78 [tm t, nt (d : Int)] [] = some ([bl (shapeF t d)], []) := by
 induction t using T.ind with | h t ih =>
 intro n hn d hd
 have hsz := T.size_eq t
 have hl := T.sizeL_len t.kids
 obtain ⟨n, rfl⟩ := pos_succ (show 0 < n by omega)
 rw [E_spec_l1Shape, shapeF_eq]
 simp (disch := omega) only [evt, f_l1Kids, f_l1Most]
 by_cases c1 : (d : Int) < 1
 ·simp [c1, show ¬ 1 ≤ d by omega]
 by_cases c3 : opsOf t.k = t.kids.length
 ·by_cases c4 : 0 ≤ t.n ∧ t.n ≤ mostOf t.k
  ·simp only [decide_eq_false c1, cond_false, decide_eq_true c3, Bool.not_true, decide_eq_false (show ¬ t.n < 0 by omega), decide_eq_false (show ¬ mostOf t.k < t.n by omega), decide_eq_true (show 1 ≤ d by omega), decide_eq_true c4, Bool.true_and]
   exact shape_loop n d t.k t.n t.kids hd (by omega) (by have := ops_le t.k; omega) (fun u hu => ih u hu (by have := T.sizeL_mem hu; omega) (d - 1) (by omega)) t.kids.length n 0 (by omega) (by omega)
  ·simp only [decide_eq_false c1, cond_false, decide_eq_true c3, Bool.not_true, decide_eq_true (show 1 ≤ d by omega), decide_eq_false c4, Bool.true_and, Bool.false_and]
   by_cases c5 : t.n < 0
   ·simp [c5]
   ·simp [c5, show mostOf t.k < t.n by omega]
 ·simp [c1, c3]
theorem count_loop (n : Nat) (most : Nat) (k0 n0 : Int) (ts : List T) (hm : most ≤ 400) (hl : ts.length ≤ 1099511627776)
   (h : ∀ u ∈ ts, ∀ m : Nat, m ≤ 400 → FF n 79 [tm u, nt (m : Int)] [] = some ([nt (cntF u m : Int)], [])) :
   ∀ g m (i c : Nat), g < m → i + g = ts.length → L_spec_l1Count_0 n m (most : Int) c i k0 n0 ts = some ([nt ((if c ≤ most then min (c + T.sizeL (ts.drop i)) (most + 1) else c : Nat) : Int)], [])
 | g, 0, i, c, hg, _ => by omega
 | 0, m + 1, i, c, _, hi => by
  rw [L_spec_l1Count_0_eq, List.drop_of_length_le (by omega)]
  simp only [cond_dec, if_neg (show ¬ (i : Int) < ts.length by omega), T.sizeL]
  split
  ·rw [Nat.min_eq_left (by omega)]; rfl
  ·rfl
 | g + 1, m + 1, i, c, hg, hi => by
  have hlt : i < ts.length := by omega
  rw [List.drop_eq_getElem_cons hlt, T.sizeL]
  by_cases hc : c ≤ most
  ·have w : IntKind.i64.wrap ((most : Int) - c) = ((most - c : Nat) : Int) := by rw [wrap64 (by omega)]; omega
   have hcn : cntF ts[i] (most - c) ≤ most - c + 1 := by unfold cntF; omega
   have w2 : IntKind.i64.wrap ((c : Int) + (cntF ts[i] (most - c) : Int)) = ((c + cntF ts[i] (most - c) : Nat) : Int) := by rw [wrap64 (by omega)]; rfl
   rw [L_spec_l1Count_0_eq]; simp (disch := omega) only [evt, cond_dec, Int.toNat_natCast, cast1, wrap64, roomB_ok, List.length_append, List.length_cons, List.length_nil, if_pos (show (i : Int) < ts.length by omega), if_pos (show 0 ≤ (i : Int) by omega), if_pos (show (c : Int) ≤ most by omega), List.getElem?_eq_getElem hlt, w, w2, h _ (List.getElem_mem hlt) (most - c) (by omega)]
   rw [count_loop n most k0 n0 ts hm hl h g m (i + 1) _ (by omega) (by omega)]
   have e : (if c + cntF ts[i] (most - c) ≤ most then min (c + cntF ts[i] (most - c) + T.sizeL (ts.drop (i + 1))) (most + 1) else c + cntF ts[i] (most - c)) = min (c + (ts[i].size + T.sizeL (ts.drop (i + 1)))) (most + 1) := by
    unfold cntF
    split <;> omega
   rw [e, if_pos hc]
  ·rw [L_spec_l1Count_0_eq]
   simp only [cond_dec, if_pos (show (i : Int) < ts.length by omega), if_neg (show ¬ (c : Int) ≤ most by omega), if_neg hc]
theorem f_l1Count (t : T) : ∀ {n : Nat}, t.size + 5 ≤ n → t.size ≤ 4000000 → ∀ m : Nat, m ≤ 400 → FF n 79 [tm t, nt (m : Int)] [] = some ([nt (cntF t m : Int)], []) := by
 induction t using T.ind with | h t ih =>
 intro n hn hz m hm
 have hsz := T.size_eq t
 have hl := T.sizeL_len t.kids
 obtain ⟨n, rfl⟩ := pos_succ (show 0 < n by omega)
 rw [E_spec_l1Count]
 have := count_loop n m t.k t.n t.kids hm (by omega) (fun u hu m hm => ih u hu (by have := T.sizeL_mem hu; omega) (by have := T.sizeL_mem hu; omega) m hm) t.kids.length n 0 1 (by omega) (by omega)
 have e : (if 1 ≤ m then min (1 + T.sizeL t.kids) (m + 1) else 1) = cntF t m := by unfold cntF; split <;> omega
 rw [List.drop_zero, e] at this
 exact this
theorem f_TermValidS {n : Nat} {t : T} (hn : t.size + 6 ≤ n) (hz : t.size ≤ 4000000) : FF n 43 [tm t] [] = some ([bl (validB t)], []) := by
 obtain ⟨n, rfl⟩ := pos_succ (show 0 < n by omega)
 rw [E_spec_TermValid, validB]
 have h1 := f_l1Shape t (n := n) (by omega) 30 (by omega)
 have h2 := f_l1Count t (n := n) (by omega) hz 400 (by omega)
 rw [show (30 : Int) = ((30 : Nat) : Int) from rfl, show (400 : Int) = ((400 : Nat) : Int) from rfl, h1, h2]
 simp only [evt]
 cases shapeF t 30
 ·rfl
 ·simp only [cond_true, Bool.true_and]
  have e : decide ((cntF t 400 : Int) ≤ ((400 : Nat) : Int)) = decide (t.size ≤ 400) := by
   unfold cntF
   exact decide_eq_decide.2 (by omega)
  rw [e]
theorem f_valid {n : Nat} {t : T} (hn : t.size + 7 ≤ n) : FF n 41 [tm t] [] = some ([tm (if validB t then t else .mk 0 0 []), bl (validB t)], []) := by
 obtain ⟨n, rfl⟩ := pos_succ (show 0 < n by omega)
 rw [E_impl_valid]
 simp (disch := omega) only [evt, f_TermValid]
 cases validB t <;> rfl
theorem own_loop (n : Nat) (ts : List T) (k0 n0 : Int) (l0 : List T) (k1 n1 : Int) (hl : ts.length ≤ 4000000) (h : ∀ u ∈ ts, FF n 42 [tm u] [] = some ([tm u], [])) :
   ∀ g m (i : Nat), g < m → i + g = ts.length → L_impl_own_0_oo n m ts ts.length i k0 n0 l0 k1 n1 (ts.take i) = some ([tm (.mk k1 n1 ts)], [])
 | g, 0, i, hg, _ => by omega
 | 0, m + 1, i, _, hi => by
  rw [L_impl_own_0_oo_eq]
  simp only [cond_dec, if_neg (show ¬ (i : Int) < ts.length by omega), List.take_of_length_le (show ts.length ≤ i by omega)]; rfl
 | g + 1, m + 1, i, hg, hi => by
  have hlt : i < ts.length := by omega
  have ht : (ts.take i).length = i := by simp; omega
  rw [L_impl_own_0_oo_eq]; simp (disch := omega) only [evt, cond_dec, Int.toNat_natCast, cast1, wrap64, roomB_ok, List.length_append, List.length_cons, List.length_nil, if_pos (show (i : Int) < ts.length by omega), if_pos (show 0 ≤ (i : Int) by omega), List.getElem?_eq_getElem hlt, h _ (List.getElem_mem hlt), ht]
  rw [take_snoc hlt]
  exact own_loop n ts k0 n0 l0 k1 n1 hl h g m (i + 1) (by omega) (by omega)
theorem f_own (t : T) : ∀ {n : Nat}, t.size + 5 ≤ n → t.size ≤ 4000000 → FF n 42 [tm t] [] = some ([tm t], []) := by
 induction t using T.ind with | h t ih =>
 intro n hn hz
 have hsz := T.size_eq t
 have hl := T.sizeL_len t.kids
 obtain ⟨n, rfl⟩ := pos_succ (show 0 < n by omega)
 rw [E_impl_own]
 have := own_loop n t.kids 0 0 [] t.k t.n (by omega) (fun u hu => ih u hu (by have := T.sizeL_mem hu; omega) (by have := T.sizeL_mem hu; omega)) t.kids.length n 0 (by omega) (by omega)
 simpa [T.eta] using this
theorem copy_loop (n : Nat) (ts : List T) (k2 n2 : Int) (k0 n0 : Int) (l0 : List T) (k1 n1 : Int) (hl : ts.length ≤ 4000000) (h : ∀ u ∈ ts, FF n 45 [tm u] [] = some (ow u)) :
   ∀ g m (i : Nat), g < m → i + g = ts.length → L_spec_l1Copy_0_foo n m i k2 n2 ts k0 n0 l0 k1 n1 (ts.take i) = some (ow (.mk k1 n1 ts))
 | g, 0, i, hg, _ => by omega
 | 0, m + 1, i, _, hi => by
  rw [L_spec_l1Copy_0_foo_eq]
  simp only [cond_dec, if_neg (show ¬ (i : Int) < ts.length by omega), List.take_of_length_le (show ts.length ≤ i by omega)]; rfl
 | g + 1, m + 1, i, hg, hi => by
  have hlt : i < ts.length := by omega
  have ht : (ts.take i).length = i := by simp; omega
  rw [L_spec_l1Copy_0_foo_eq]; simp (disch := omega) only [evt, cond_dec, Int.toNat_natCast, cast1, wrap64, roomB_ok, List.length_append, List.length_cons, List.length_nil, if_pos (show (i : Int) < ts.length by omega), if_pos (show 0 ≤ (i : Int) by omega), List.getElem?_eq_getElem hlt, h _ (List.getElem_mem hlt), ht]
  rw [take_snoc hlt]
  exact copy_loop n ts k2 n2 k0 n0 l0 k1 n1 hl h g m (i + 1) (by omega) (by omega)
theorem f_l1Copy (t : T) : ∀ {n : Nat}, t.size + 5 ≤ n → t.size ≤ 4000000 → FF n 45 [tm t] [] = some (ow t) := by
 induction t using T.ind with | h t ih =>
 intro n hn hz
 have hsz := T.size_eq t
 have hl := T.sizeL_len t.kids
 obtain ⟨n, rfl⟩ := pos_succ (show 0 < n by omega)
 rw [E_spec_l1Copy]
 have := copy_loop n t.kids t.k t.n 0 0 [] t.k t.n (by omega) (fun u hu => ih u hu (by have := T.sizeL_mem hu; omega) (by have := T.sizeL_mem hu; omega)) t.kids.length n 0 (by omega) (by omega)
 simpa [T.eta] using this
theorem beqL_len : ∀ {ts us : List T}, ts.length ≠ us.length → T.beqL ts us = false
 | [], [], h => absurd rfl h
 | [], _ :: _, _ => rfl
 | _ :: _, [], _ => rfl
 | t :: ts, u :: us, h => by rw [T.beqL, beqL_len (fun e => h (by simp [e])), Bool.and_false]
end Go.Proofs.Ytgchmppmecnniaa
end
section
namespace Go.Proofs.Ytgchmppmecnniaa
open Go Go.Ab Go.Dk
theorem take_sh {a k : Int} {ts : List T} {c : Int} {i : Nat} (h : i < ts.length) : (shL a k 0 ts c).take i ++ [shT a ts[i] (c + under k i)] = (shL a k 0 ts c).take (i + 1) := by
 rw [← take_snoc (l := shL a k 0 ts c) (i := i) (by rw [sh_len]; exact h), sh_elem a k ts 0 i c h, Nat.zero_add]
theorem take_sb {u : T} {k : Int} {ts : List T} {x d : Int} {i : Nat} (h : i < ts.length) : (sbL u k 0 ts x d).take i ++ [sbT u ts[i] (x + under k i) (d + under k i)] = (sbL u k 0 ts x d).take (i + 1) := by
 rw [← take_snoc (l := sbL u k 0 ts x d) (i := i) (by rw [sb_len]; exact h), sb_elem u k ts 0 i x d h, Nat.zero_add]
theorem l2Shift_loop (n : Nat) (a c : Int) (k n0 : Int) (ts : List T) (z1 z2 : Int) (l : List T) (k1 n1 : Int) (hl : ts.length ≤ 1000000) (hc : 0 ≤ c ∧ c ≤ 1000000)
   (h : ∀ (j : Nat) (hj : j < ts.length), FF n 116 [tm ts[j], nt a, nt (c + under k j)] [] = some ([tm (shT a ts[j] (c + under k j))], [])) (hn : 2 ≤ n) :
   ∀ g m (i : Nat), g < m → i + g = ts.length → L_spec_l2Shift_0_foo n m a c i k n0 ts z1 z2 l k1 n1 ((shL a k 0 ts c).take i) = some ([tm (.mk k1 n1 (shL a k 0 ts c))], [])
 | g, 0, i, hg, _ => by omega
 | 0, m + 1, i, _, hi => by
  rw [L_spec_l2Shift_0_foo_eq]
  simp only [cond_dec, if_neg (show ¬ (i : Int) < ts.length by omega), List.take_of_length_le (show (shL a k 0 ts c).length ≤ i by rw [sh_len]; omega)]; rfl
 | g + 1, m + 1, i, hg, hi => by
  have hlt : i < ts.length := by omega
  have ub := under_bd k i
  have ht : ((shL a k 0 ts c).take i).length = i := by rw [List.length_take, sh_len]; omega
  rw [L_spec_l2Shift_0_foo_eq]; simp (disch := omega) only [evt, cond_dec, Int.toNat_natCast, cast1, wrap64, roomB_ok, List.length_append, List.length_cons, List.length_nil, if_pos (show (i : Int) < ts.length by omega), if_pos (show 0 ≤ (i : Int) by omega), List.getElem?_eq_getElem hlt, f_l2Under, h i hlt, ht, take_sh hlt]
  exact l2Shift_loop n a c k n0 ts z1 z2 l k1 n1 hl hc h hn g m (i + 1) (by omega) (by omega)
theorem f_l2Shift (a : Int) (ha : -1000 ≤ a ∧ a ≤ 1000) (t : T) : ∀ {n : Nat}, t.size + 5 ≤ n → gdB t = true → ∀ c : Int, 0 ≤ c → c + t.size ≤ 1000000 → FF n 116 [tm t, nt a, nt c] [] = some ([tm (shT a t c)], []) := by
 induction t using T.ind with | h t ih =>
 intro n hn hg c h0 h1
 have hsz := T.size_eq t
 have hl := T.sizeL_len t.kids
 obtain ⟨n, rfl⟩ := pos_succ (show 0 < n by omega)
 obtain ⟨g0, g1, g2, g3⟩ := gd_out hg
 rw [E_spec_l2Shift]
 have key : ∀ k1 n1, L_spec_l2Shift_0_foo n n a c 0 t.k t.n t.kids 0 0 [] k1 n1 [] = some ([tm (.mk k1 n1 (shL a t.k 0 t.kids c))], []) := by
  intro k1 n1
  have := l2Shift_loop n a c t.k t.n t.kids 0 0 [] k1 n1 (by omega) ⟨h0, by omega⟩ (fun j hj => by
   have hm := List.getElem_mem hj
   have := T.sizeL_mem hm
   have ub := under_bd t.k j
   exact ih _ hm (by omega) (g3 _ hm) _ (by omega) (by omega)) (by omega) t.kids.length n 0 (by omega) (by omega)
  simpa using this
 have e : shT a t c = .mk t.k (if t.k = 1 ∧ c ≤ t.n then t.n + a else t.n) (shL a t.k 0 t.kids c) := by cases t; rfl
 simp (disch := omega) only [wrap64, key, cond_dec, e]
 by_cases hk : t.k = 1 <;> by_cases hc : c ≤ t.n <;> simp [hk, hc]
theorem l2Subst_loop (n : Nat) (u : T) (x d : Int) (k n0 : Int) (ts : List T) (z1 z2 : Int) (l : List T) (k1 n1 : Int) (hl : ts.length ≤ 1000000) (hx : 0 ≤ x ∧ x ≤ 1000000) (hd : 0 ≤ d ∧ d ≤ 1000000)
   (h : ∀ (j : Nat) (hj : j < ts.length), FF n 110 [tm ts[j], nt (x + under k j), tm u, nt (d + under k j)] [] = some ([tm (sbT u ts[j] (x + under k j) (d + under k j))], [])) (hn : 2 ≤ n) :
   ∀ g m (i : Nat), g < m → i + g = ts.length → L_spec_l2Subst_0_ffoo n m x d i k n0 ts u.k u.n u.kids z1 z2 l k1 n1 ((sbL u k 0 ts x d).take i) = some ([tm (.mk k1 n1 (sbL u k 0 ts x d))], [])
 | g, 0, i, hg, _ => by omega
 | 0, m + 1, i, _, hi => by
  rw [L_spec_l2Subst_0_ffoo_eq]
  simp only [cond_dec, if_neg (show ¬ (i : Int) < ts.length by omega), List.take_of_length_le (show (sbL u k 0 ts x d).length ≤ i by rw [sb_len]; omega)]; rfl
 | g + 1, m + 1, i, hg, hi => by
  have hlt : i < ts.length := by omega
  have ub := under_bd k i
  have ht : ((sbL u k 0 ts x d).take i).length = i := by rw [List.length_take, sb_len]; omega
  rw [L_spec_l2Subst_0_ffoo_eq]; simp (disch := omega) only [evt, cond_dec, Int.toNat_natCast, cast1, wrap64, roomB_ok, List.length_append, List.length_cons, List.length_nil, if_pos (show (i : Int) < ts.length by omega), if_pos (show 0 ≤ (i : Int) by omega), List.getElem?_eq_getElem hlt, f_l2Under, h i hlt, ht, take_sb hlt]
  exact l2Subst_loop n u x d k n0 ts z1 z2 l k1 n1 hl hx hd h hn g m (i + 1) (by omega) (by omega)
theorem f_l2Subst (u : T) (hu : gdB u = true) (hus : u.size ≤ 1000) (t : T) : ∀ {n : Nat}, t.size + u.size + 10 ≤ n → gdB t = true → ∀ x d : Int, 0 ≤ x → x + t.size ≤ 100000 → 0 ≤ d → d + t.size ≤ 1000 → FF n 110 [tm t, nt x, tm u, nt d] [] = some ([tm (sbT u t x d)], []) := by
 induction t using T.ind with | h t ih =>
 intro n hn hg x d h0 h1 h2 h3
 have hsz := T.size_eq t
 have hl := T.sizeL_len t.kids
 obtain ⟨n, rfl⟩ := pos_succ (show 0 < n by omega)
 obtain ⟨g0, g1, g2, g3⟩ := gd_out hg
 rw [E_spec_l2Subst]
 have key : ∀ k1 n1, L_spec_l2Subst_0_ffoo n n x d 0 t.k t.n t.kids u.k u.n u.kids 0 0 [] k1 n1 [] = some ([tm (.mk k1 n1 (sbL u t.k 0 t.kids x d))], []) := by
  intro k1 n1
  have := l2Subst_loop n u x d t.k t.n t.kids 0 0 [] k1 n1 (by omega) ⟨h0, by omega⟩ ⟨h2, by omega⟩ (fun j hj => by
   have hm := List.getElem_mem hj
   have := T.sizeL_mem hm
   have ub := under_bd t.k j
   exact ih _ hm (by omega) (g3 _ hm) _ _ (by omega) (by omega) (by omega) (by omega)) (by omega) t.kids.length n 0 (by omega) (by omega)
  simpa using this
 have e : sbT u t x d = if t.k = 1 ∧ t.n = x then shT d u 0 else .mk t.k (if t.k = 1 ∧ x < t.n then t.n - 1 else t.n) (sbL u t.k 0 t.kids x d) := by cases t; rfl
 have hs := f_l2Shift d (by omega) u (n := n) (by omega) hu 0 (by omega) (by omega)
 have w := wrap64 (a := t.n - 1) (by omega)
 simp (disch := omega) only [w, key, cond_dec, e, hs, evt]
 by_cases hk : t.k = 1
 ·by_cases hc : t.n = x
  ·simp [hk, hc]
  ·by_cases hc2 : x < t.n <;> simp [hk, hc, hc2]
 ·simp [hk]
theorem f_shift1 {n : Nat} (hn : 2 ≤ n) (v b c a : Int) (ok : Bool) (hv : 0 ≤ v ∧ v ≤ 20) (hb : 0 ≤ b ∧ b ≤ 1000000) (hc : 0 ≤ c ∧ c ≤ 1000000) (ha : -1000 ≤ a ∧ a ≤ 1000) :
   FF n 115 [nt v, nt b, .one (.ptr 0 0), .one (.ptr 1 0), .one (.ptr 2 0)] [.cells [.int .i64 c], .cells [.int .i64 a], .cells [.bool ok]] =
    some ([tm (.mk 1 (if c + b ≤ v then v + a else v) [])], [.cells [.int .i64 c], .cells [.int .i64 a], .cells [.bool (ok && (if c + b ≤ v then decide (c + b ≤ v + a) && decide (v + a ≤ 20) else true))]]) := by
 obtain ⟨n, rfl⟩ := pos_succ (show 0 < n by omega)
 rw [E_impl_shift_1]
 simp (disch := omega) only [wrap64, f_variable, evt, cond_dec]
 have e1 : (c ≤ v - b) = (c + b ≤ v) := by apply propext; omega
 have e2 : (c ≤ v + a - b) = (c + b ≤ v + a) := by apply propext; omega
 simp only [e1, e2]
 by_cases h1 : c + b ≤ v
 ·cases ok
  ·simp [h1, mk_k, mk_n, mk_kids]
  ·by_cases h2 : c + b ≤ v + a <;> simp [h1, h2, mk_k, mk_n, mk_kids]
 ·simp [h1, mk_k, mk_n, mk_kids]
theorem changed_sh_loop (n : Nat) (b c a : Int) (k n0 : Int) (ts : List T) (l0 : List T) (z1 z2 : Int) (l : List T) (k1 n1 : Int) (hl : ts.length ≤ 1000000) (hb : 0 ≤ b ∧ b ≤ 1000000)
   (h : ∀ (j : Nat) (hj : j < ts.length) (ok : Bool), FF n 106 [tm ts[j], nt (b + under k j), .one (.fn 115 [0, 1, 2])] [.cells [.int .i64 c], .cells [.int .i64 a], .cells [.bool ok]] =
    some ([tm (shT a ts[j] (c + b + under k j))], [.cells [.int .i64 c], .cells [.int .i64 a], .cells [.bool (ok && okS a ts[j] (c + b + under k j))]])) (hn : 2 ≤ n) :
   ∀ g m (i : Nat) (ok : Bool), g < m → i + g = ts.length → L_impl_changed_impl_shift_1_0_foo n m b ts ts.length i c a ok k n0 l0 z1 z2 l k1 n1 ((shL a k 0 ts (c + b)).take i) =
    some ([tm (.mk k1 n1 (shL a k 0 ts (c + b)))], [.cells [.int .i64 c], .cells [.int .i64 a], .cells [.bool (ok && okSL a k i (ts.drop i) (c + b))]])
 | g, 0, i, ok, hg, _ => by omega
 | 0, m + 1, i, ok, _, hi => by
  rw [L_impl_changed_impl_shift_1_0_foo_eq, List.drop_of_length_le (by omega)]
  simp only [cond_dec, if_neg (show ¬ (i : Int) < ts.length by omega), List.take_of_length_le (show (shL a k 0 ts (c + b)).length ≤ i by rw [sh_len]; omega), okSL, Bool.and_true]; rfl
 | g + 1, m + 1, i, ok, hg, hi => by
  have hlt : i < ts.length := by omega
  have ub := under_bd k i
  have ht : ((shL a k 0 ts (c + b)).take i).length = i := by rw [List.length_take, sh_len]; omega
  rw [List.drop_eq_getElem_cons hlt, okSL]
  rw [L_impl_changed_impl_shift_1_0_foo_eq]; simp (disch := omega) only [evt, cond_dec, Int.toNat_natCast, cast1, wrap64, roomB_ok, List.length_append, List.length_cons, List.length_nil, if_pos (show (i : Int) < ts.length by omega), if_pos (show 0 ≤ (i : Int) by omega), List.getElem?_eq_getElem hlt, f_under, h i hlt, ht, take_sh hlt]
  rw [changed_sh_loop n b c a k n0 ts l0 z1 z2 l k1 n1 hl hb h hn g m (i + 1) _ (by omega) (by omega), Bool.and_assoc]
theorem f_changed_sh (c a : Int) (hc : 0 ≤ c ∧ c ≤ 1000) (ha : -1000 ≤ a ∧ a ≤ 1000) (t : T) : ∀ {n : Nat}, t.size + 5 ≤ n → gdB t = true → ∀ b : Int, 0 ≤ b → b + t.size ≤ 100000 → ∀ ok : Bool,
   FF n 106 [tm t, nt b, .one (.fn 115 [0, 1, 2])] [.cells [.int .i64 c], .cells [.int .i64 a], .cells [.bool ok]] =
    some ([tm (shT a t (c + b))], [.cells [.int .i64 c], .cells [.int .i64 a], .cells [.bool (ok && okS a t (c + b))]]) := by
 induction t using T.ind with | h t ih =>
 intro n hn hg b h0 h1 ok
 have hsz := T.size_eq t
 have hl := T.sizeL_len t.kids
 obtain ⟨n, rfl⟩ := pos_succ (show 0 < n by omega)
 obtain ⟨g0, g1, g2, g3⟩ := gd_out hg
 rw [E_impl_changed_impl_shift_1]
 have e : shT a t (c + b) = .mk t.k (if t.k = 1 ∧ c + b ≤ t.n then t.n + a else t.n) (shL a t.k 0 t.kids (c + b)) := by cases t; rfl
 have e2 : okS a t (c + b) = if t.k = 1 then (if c + b ≤ t.n then decide (c + b ≤ t.n + a) && decide (t.n + a ≤ 20) else true) else okSL a t.k 0 t.kids (c + b) := by cases t; rfl
 by_cases hk : t.k = 1
 ·simp (disch := omega) only [f_shift1, evt, cond_dec, if_pos hk, e, e2]
  rw [g2 hk, hk]; simp [shL, mk_k, mk_n, mk_kids]
 ·have := changed_sh_loop n b c a t.k t.n t.kids t.kids 0 0 [] t.k t.n (by omega) ⟨h0, by omega⟩ (fun j hj ok => by
    have hm := List.getElem_mem hj
    have := T.sizeL_mem hm
    have ub := under_bd t.k j
    have := ih _ hm (n := n) (by omega) (g3 _ hm) (b + under t.k j) (by omega) (by omega) ok
    rwa [← Int.add_assoc] at this) (by omega) t.kids.length n 0 ok (by omega) (by omega)
  simp only [cond_dec, if_neg hk, e, e2, hk, false_and, if_false]
  simpa using this
def shR (a : Int) (t : T) (c : Int) : T := if validB (shT a t c) then shT a t c else .mk 0 0 []
theorem f_shift {n : Nat} {t : T} {a c : Int} (hn : t.size + 10 ≤ n) (hg : gdB t = true) (hs : t.size ≤ 1000) (ha : 0 ≤ a ∧ a ≤ 1000) (hc : 0 ≤ c ∧ c ≤ 1000) :
   FF n 108 [tm t, nt a, nt c] [] = some ([tm (shR a t c), bl (validB (shT a t c))], []) := by
 obtain ⟨n, rfl⟩ := pos_succ (show 0 < n by omega)
 have h1 := f_changed_sh c a hc (by omega) t (n := n) (by omega) hg 0 (by omega) (by omega) true
 rw [Int.add_zero, Bool.true_and] at h1
 have h2 := f_valid (n := n) (t := shT a t c) (by rw [sh_size]; omega)
 rw [E_impl_shift, h1]
 simp only [evt]
 have hv := okS_valid ha.1 t c
 cases hk : okS a t c with
 | false =>
  have : validB (shT a t c) = false := by
   cases hvv : validB (shT a t c) with
   | false => rfl
   | true => rw [hv hvv] at hk; cases hk
  simp [shR, this, mk_k, mk_n, mk_kids]
 | true =>
  simp only [Bool.not_true, cond_false, h2, evt, shR]
theorem f_subst1 {n : Nat} {u : T} (hn : u.size + 12 ≤ n) (hg : gdB u = true) (hs : u.size ≤ 1000) (v b x : Int) (ok : Bool) (hv : 0 ≤ v ∧ v ≤ 20) (hb : 0 ≤ b ∧ b ≤ 1000) (hx : 0 ≤ x ∧ x ≤ 1000) :
   FF n 107 [nt v, nt b, .one (.ptr 0 0), .one (.ptr 1 0), .one (.ptr 2 0)] [.cells [.int .i64 x], .cells [.int .i64 u.k, .int .i64 u.n, .fr (.ts u.kids)], .cells [.bool ok]] =
    some ([tm (if v = x + b then shR b u 0 else .mk 1 (if x + b < v then v - 1 else v) [])], [.cells [.int .i64 x], .cells [.int .i64 u.k, .int .i64 u.n, .fr (.ts u.kids)], .cells [.bool (ok && (if v = x + b then validB (shT b u 0) else true))]]) := by
 obtain ⟨n, rfl⟩ := pos_succ (show 0 < n by omega)
 rw [E_impl_subst_1]
 have h1 := f_shift (n := n) (t := u) (a := b) (c := 0) (by omega) hg hs hb (by omega)
 simp (disch := omega) only [wrap64, f_variable, h1, evt, cond_dec]
 have e1 : (v - b = x) = (v = x + b) := by apply propext; omega
 have e2 : (x < v - b) = (x + b < v) := by apply propext; omega
 simp only [e1, e2]
 by_cases h1 : v = x + b
 ·cases ok <;> simp [h1]
 ·by_cases h2 : x + b < v <;> simp [h1, h2, mk_k, mk_n, mk_kids]
mutual
def sbX (u : T) : T → Int → Int → T
 | .mk k n ts, x, d => if k = 1 then (if n = x then shR d u 0 else .mk 1 (if x < n then n - 1 else n) []) else .mk k n (sbXL u k 0 ts x d)
def sbXL (u : T) (k : Int) : Nat → List T → Int → Int → List T
 | _, [], _, _ => []
 | i, t :: ts, x, d => sbX u t (x + under k i) (d + under k i) :: sbXL u k (i + 1) ts x d
end
mutual
theorem sbX_eq (u : T) : ∀ (t : T) (x d : Int), gdB t = true → okB u t x d = true → sbX u t x d = sbT u t x d
 | .mk k n ts, x, d, hg, h => by
  rw [okB] at h
  rw [sbX, sbT]
  obtain ⟨_, _, g2, g3⟩ := gd_out hg
  by_cases hk : k = 1
  ·subst hk
   rw [if_pos rfl] at h
   rw [if_pos rfl]
   by_cases hn : n = x
   ·rw [if_pos hn] at h
    rw [if_pos hn, if_pos ⟨rfl, hn⟩, shR, if_pos h]
   ·have : ts = [] := g2 rfl
    subst this
    simp [hn, sbL]
  ·rw [if_neg hk] at h
   rw [if_neg hk, if_neg (fun hh => hk hh.1), if_neg (fun hh => hk hh.1), sbX_eqL u k ts 0 x d g3 h]
theorem sbX_eqL (u : T) (k : Int) : ∀ (ts : List T) (i : Nat) (x d : Int), (∀ t ∈ ts, gdB t = true) → okBL u k i ts x d = true → sbXL u k i ts x d = sbL u k i ts x d
 | [], i, x, d, _, _ => rfl
 | t :: ts, i, x, d, hg, h => by
  rw [okBL, Bool.and_eq_true] at h
  rw [sbXL, sbL, sbX_eq u t _ _ (hg t (List.mem_cons_self ..)) h.1, sbX_eqL u k ts (i + 1) x d (fun v hv => hg v (List.mem_cons_of_mem _ hv)) h.2]
end
theorem sbX_len (u : T) (k : Int) : ∀ (ts : List T) (i : Nat) (x d : Int), (sbXL u k i ts x d).length = ts.length
 | [], i, x, d => rfl
 | t :: ts, i, x, d => by rw [sbXL, List.length_cons, List.length_cons, sbX_len u k ts]
theorem sbX_elem (u : T) (k : Int) : ∀ (ts : List T) (i j : Nat) (x d : Int) (h : j < ts.length), (sbXL u k i ts x d)[j]'(by rw [sbX_len]; exact h) = sbX u ts[j] (x + under k (i + j)) (d + under k (i + j))
 | t :: ts, i, 0, x, d, h => rfl
 | t :: ts, i, j + 1, x, d, h => by
  have := sbX_elem u k ts (i + 1) j x d (by simpa using h)
  simp only [sbXL, List.getElem_cons_succ]
  rw [this, show i + 1 + j = i + (j + 1) by omega]
theorem take_sbX {u : T} {k : Int} {ts : List T} {x d : Int} {i : Nat} (h : i < ts.length) : (sbXL u k 0 ts x d).take i ++ [sbX u ts[i] (x + under k i) (d + under k i)] = (sbXL u k 0 ts x d).take (i + 1) := by
 rw [← take_snoc (l := sbXL u k 0 ts x d) (i := i) (by rw [sbX_len]; exact h), sbX_elem u k ts 0 i x d h, Nat.zero_add]
theorem changed_sb_loop (n : Nat) (u : T) (b x : Int) (k n0 : Int) (ts : List T) (l0 : List T) (z1 z2 : Int) (l : List T) (k1 n1 : Int) (hl : ts.length ≤ 1000000) (hb : 0 ≤ b ∧ b ≤ 1000000)
   (h : ∀ (j : Nat) (hj : j < ts.length) (ok : Bool), FF n 106 [tm ts[j], nt (b + under k j), .one (.fn 107 [0, 1, 2])] [.cells [.int .i64 x], .cells [.int .i64 u.k, .int .i64 u.n, .fr (.ts u.kids)], .cells [.bool ok]] =
    some ([tm (sbX u ts[j] (x + b + under k j) (b + under k j))], [.cells [.int .i64 x], .cells [.int .i64 u.k, .int .i64 u.n, .fr (.ts u.kids)], .cells [.bool (ok && okB u ts[j] (x + b + under k j) (b + under k j))]])) (hn : 2 ≤ n) :
   ∀ g m (i : Nat) (ok : Bool), g < m → i + g = ts.length → L_impl_changed_impl_subst_1_0_ffoo n m b ts ts.length i x u.k u.n u.kids ok k n0 l0 z1 z2 l k1 n1 ((sbXL u k 0 ts (x + b) b).take i) =
    some ([tm (.mk k1 n1 (sbXL u k 0 ts (x + b) b))], [.cells [.int .i64 x], .cells [.int .i64 u.k, .int .i64 u.n, .fr (.ts u.kids)], .cells [.bool (ok && okBL u k i (ts.drop i) (x + b) b)]])
 | g, 0, i, ok, hg, _ => by omega
 | 0, m + 1, i, ok, _, hi => by
  rw [L_impl_changed_impl_subst_1_0_ffoo_eq, List.drop_of_length_le (by omega)]
  simp only [cond_dec, if_neg (show ¬ (i : Int) < ts.length by omega), List.take_of_length_le (show (sbXL u k 0 ts (x + b) b).length ≤ i by rw [sbX_len]; omega), okBL, Bool.and_true]; rfl
 | g + 1, m + 1, i, ok, hg, hi => by
  have hlt : i < ts.length := by omega
  have ub := under_bd k i
  have ht : ((sbXL u k 0 ts (x + b) b).take i).length = i := by rw [List.length_take, sbX_len]; omega
  rw [List.drop_eq_getElem_cons hlt, okBL]
  rw [L_impl_changed_impl_subst_1_0_ffoo_eq]; simp (disch := omega) only [evt, cond_dec, Int.toNat_natCast, cast1, wrap64, roomB_ok, List.length_append, List.length_cons, List.length_nil, if_pos (show (i : Int) < ts.length by omega), if_pos (show 0 ≤ (i : Int) by omega), List.getElem?_eq_getElem hlt, f_under, h i hlt, ht, take_sbX hlt]
  rw [changed_sb_loop n u b x k n0 ts l0 z1 z2 l k1 n1 hl hb h hn g m (i + 1) _ (by omega) (by omega), Bool.and_assoc]
theorem f_changed_sb (u : T) (hu : gdB u = true) (hus : u.size ≤ 1000) (x : Int) (hx : 0 ≤ x ∧ x ≤ 1000) (t : T) : ∀ {n : Nat}, t.size + u.size + 15 ≤ n → gdB t = true → ∀ b : Int, 0 ≤ b → b + t.size ≤ 1000 → ∀ ok : Bool,
   FF n 106 [tm t, nt b, .one (.fn 107 [0, 1, 2])] [.cells [.int .i64 x], .cells [.int .i64 u.k, .int .i64 u.n, .fr (.ts u.kids)], .cells [.bool ok]] =
    some ([tm (sbX u t (x + b) b)], [.cells [.int .i64 x], .cells [.int .i64 u.k, .int .i64 u.n, .fr (.ts u.kids)], .cells [.bool (ok && okB u t (x + b) b)]]) := by
 induction t using T.ind with | h t ih =>
 intro n hn hg b h0 h1 ok
 have hsz := T.size_eq t
 have hl := T.sizeL_len t.kids
 obtain ⟨n, rfl⟩ := pos_succ (show 0 < n by omega)
 obtain ⟨g0, g1, g2, g3⟩ := gd_out hg
 rw [E_impl_changed_impl_subst_1]
 have e : sbX u t (x + b) b = if t.k = 1 then (if t.n = x + b then shR b u 0 else .mk 1 (if x + b < t.n then t.n - 1 else t.n) []) else .mk t.k t.n (sbXL u t.k 0 t.kids (x + b) b) := by cases t; rfl
 have e2 : okB u t (x + b) b = if t.k = 1 then (if t.n = x + b then validB (shT b u 0) else true) else okBL u t.k 0 t.kids (x + b) b := by cases t; rfl
 by_cases hk : t.k = 1
 ·simp (disch := first | omega | assumption) only [f_subst1, evt, cond_dec, if_pos hk, e, e2]
 ·have := changed_sb_loop n u b x t.k t.n t.kids t.kids 0 0 [] t.k t.n (by omega) ⟨h0, by omega⟩ (fun j hj ok => by
    have hm := List.getElem_mem hj
    have := T.sizeL_mem hm
    have ub := under_bd t.k j
    have := ih _ hm (n := n) (by omega) (g3 _ hm) (b + under t.k j) (by omega) (by omega) ok
    rwa [← Int.add_assoc] at this) (by omega) t.kids.length n 0 ok (by omega) (by omega)
  simp only [cond_dec, if_neg hk, e, e2]
  simpa using this
def sbR (u t : T) (x : Int) : T := if validB (sbT u t x 0) then sbT u t x 0 else .mk 0 0 []
theorem f_subst {n : Nat} {t u : T} {x : Int} (hn : 2000000 ≤ n) (hg : gdB t = true) (hs : t.size ≤ 1000) (hu : gdB u = true) (hus : u.size ≤ 1000) (hx : 0 ≤ x ∧ x ≤ 1000) :
   FF n 97 [tm t, nt x, tm u] [] = some ([tm (sbR u t x), bl (validB (sbT u t x 0))], []) := by
 obtain ⟨n, rfl⟩ := pos_succ (show 0 < n by omega)
 have h1 := f_changed_sb u hu hus x hx t (n := n) (by omega) hg 0 (by omega) (by omega) true
 rw [Int.add_zero, Bool.true_and] at h1
 have hz := sb_size u t x 0
 have hz2 : t.size * u.size ≤ 1000 * 1000 := Nat.mul_le_mul hs hus
 rw [E_impl_subst, h1]
 simp only [evt]
 have hv := okB_valid u t x 0
 cases hk : okB u t x 0 with
 | false =>
  have : validB (sbT u t x 0) = false := by
   cases hvv : validB (sbT u t x 0) with
   | false => rfl
   | true => rw [hv hvv] at hk; cases hk
  simp [sbR, this, mk_k, mk_n, mk_kids]
 | true =>
  rw [sbX_eq u t x 0 hg hk]
  have h2 := f_valid (n := n) (t := sbT u t x 0) (by omega)
  simp only [Bool.not_true, cond_false, h2, evt, sbR]
end Go.Proofs.Ytgchmppmecnniaa
end
section
namespace Go.Proofs.Ytgchmppmecnniaa
open Go Go.Ab Go.Dk
theorem eqf_loop (n : Nat) (ts us : List T) (hl : ts.length ≤ 4000000) (he : ts.length = us.length) (h : ∀ t ∈ ts, ∀ u, FF n 11 [tm t, tm u] [] = some ([bl (T.beq t u)], [])) :
   ∀ g m (i : Nat), g < m → i + g = ts.length → L_slices_EqualFunc_impl_TermSame_0 n m us ts ts.length i = some ([bl (T.beqL (ts.drop i) (us.drop i))], [])
 | g, 0, i, hg, _ => by omega
 | 0, m + 1, i, _, hi => by
  rw [L_slices_EqualFunc_impl_TermSame_0_eq, List.drop_of_length_le (by omega), List.drop_of_length_le (by omega)]
  simp only [cond_dec, if_neg (show ¬ (i : Int) < ts.length by omega), T.beqL]
 | g + 1, m + 1, i, hg, hi => by
  have hlt : i < ts.length := by omega
  have hlt2 : i < us.length := by omega
  rw [List.drop_eq_getElem_cons hlt, List.drop_eq_getElem_cons hlt2, T.beqL]
  rw [L_slices_EqualFunc_impl_TermSame_0_eq]; simp (disch := omega) only [evt, cond_dec, Int.toNat_natCast, cast1, wrap64, roomB_ok, List.length_append, List.length_cons, List.length_nil, if_pos (show (i : Int) < ts.length by omega), if_pos (show 0 ≤ (i : Int) by omega), List.getElem?_eq_getElem hlt, List.getElem?_eq_getElem hlt2, h _ (List.getElem_mem hlt)]
  cases hs : T.beq ts[i] us[i] with
  | false => simp
  | true =>
   simp only [Bool.not_true, cond_false, Bool.true_and]
   exact eqf_loop n ts us hl he h g m (i + 1) (by omega) (by omega)
theorem f_TermSame (t : T) : ∀ {n : Nat}, 2 * t.size + 5 ≤ n → t.size ≤ 4000000 → ∀ u : T, FF n 11 [tm t, tm u] [] = some ([bl (T.beq t u)], []) := by
 induction t using T.ind with | h t ih =>
 intro n hn hz u
 have hsz := T.size_eq t
 have hl := T.sizeL_len t.kids
 obtain ⟨n, rfl⟩ := pos_succ (show 0 < n by omega)
 rw [E_impl_TermSame, T.beq_eq]
 by_cases c1 : t.k = u.k
 ·by_cases c2 : t.n = u.n
  ·obtain ⟨n, rfl⟩ := pos_succ (show 0 < n by omega)
   rw [E_slices_EqualFunc_impl_TermSame]
   by_cases c3 : t.kids.length = u.kids.length
   ·have := eqf_loop n t.kids u.kids (by omega) c3 (fun v hv w => ih v hv (by have := T.sizeL_mem hv; omega) (by have := T.sizeL_mem hv; omega) w) t.kids.length n 0 (by omega) (by omega)
    rw [List.drop_zero, List.drop_zero] at this
    simp only [decide_eq_true c1, decide_eq_true c2, decide_eq_true (show (t.kids.length : Int) = u.kids.length by omega), Bool.not_true, cond_false, cond_true, Bool.true_and]
    rw [show (0 : Int) = ((0 : Nat) : Int) from rfl, this]
    simp only [evs]
   ·simp only [decide_eq_true c1, decide_eq_true c2, decide_eq_false (show ¬ (t.kids.length : Int) = u.kids.length by omega), Bool.not_true, Bool.not_false, cond_false, cond_true, Bool.true_and, beqL_len c3, evs]
  ·simp [c1, c2]
 ·simp [c1]
theorem kid_get {t : T} {i : Nat} (h : i < t.kids.length) : t.kids[i]? = some (kd t i) := by
 unfold kd; simp [List.getD, h]
theorem ops_len {t : T} (hv : validB t = true) {c : Nat} (h : opsOf t.k = c) : t.kids.length = c := by
 have := (validB_ops hv).1
 omega
theorem f_redexes {n : Nat} (hn : 1 ≤ n) {t : T} (hv : validB t = true) : FF n 80 [tm t] [] = some ([nt (redexT t)], []) ∧ FF n 82 [tm t] [] = some ([nt (redexT t)], []) := by
 obtain ⟨n, rfl⟩ := pos_succ (show 0 < n by omega)
 rw [E_impl_redex, E_spec_l3Redex]
 simp only [cond_dec, Int.toNat_zero, Int.reduceToNat]
 unfold redexT
 by_cases k5 : t.k = 5
 ·have hl := ops_len hv (c := 2) (by rw [k5]; rfl)
  simp only [k5, if_true, kid_get (show 0 < t.kids.length by omega), Option.bind_some]
  constructor <;> split <;> rfl
 by_cases k9 : t.k = 9
 ·have hl := ops_len hv (c := 4) (by rw [k9]; rfl)
  simp only [k9, if_true, kid_get (show 3 < t.kids.length by omega), Option.bind_some, show ¬ (9 : Int) = 5 by decide, if_false]
  constructor <;> (split; rfl; split <;> rfl)
 by_cases k12 : t.k = 12
 ·have hl := ops_len hv (c := 3) (by rw [k12]; rfl)
  simp only [k12, if_true, kid_get (show 1 < t.kids.length by omega), Option.bind_some, show ¬ (12 : Int) = 5 by decide, show ¬ (12 : Int) = 9 by decide, if_false]
  constructor <;> split <;> rfl
 by_cases k15 : t.k = 15
 ·have hl := ops_len hv (c := 1) (by rw [k15]; rfl)
  simp only [k15, if_true, kid_get (show 0 < t.kids.length by omega), Option.bind_some, show ¬ (15 : Int) = 5 by decide, show ¬ (15 : Int) = 9 by decide, show ¬ (15 : Int) = 12 by decide, if_false]
  constructor <;> split <;> rfl
 by_cases k16 : t.k = 16
 ·have hl := ops_len hv (c := 1) (by rw [k16]; rfl)
  simp only [k16, if_true, kid_get (show 0 < t.kids.length by omega), Option.bind_some, show ¬ (16 : Int) = 5 by decide, show ¬ (16 : Int) = 9 by decide, show ¬ (16 : Int) = 12 by decide, show ¬ (16 : Int) = 15 by decide, if_false]
  constructor <;> split <;> rfl
 simp [k5, k9, k12, k15, k16]
theorem f_redex {n : Nat} (hn : 1 ≤ n) {t : T} (hv : validB t = true) : FF n 80 [tm t] [] = some ([nt (redexT t)], []) := (f_redexes hn hv).1
theorem f_l3Redex {n : Nat} (hn : 1 ≤ n) {t : T} (hv : validB t = true) : FF n 82 [tm t] [] = some ([nt (redexT t)], []) := (f_redexes hn hv).2
theorem valid_kd {t : T} (hv : validB t = true) {i c : Nat} (h : opsOf t.k = c) (hi : i < c) : validB (kd t i) = true := validB_kid hv (kd_mem (by rw [ops_len hv h]; exact hi))
theorem con_size {t : T} (hv : validB t = true) (hr : Rx t) : (contractT t).size ≤ 160000 := by
 have hz := validB_size hv
 have kz : ∀ {i c : Nat}, opsOf t.k = c → i < c → (kd t i).size ≤ 400 := fun h hi => validB_size (valid_kd hv h hi)
 cases hr with
 | app h h' =>
  rw [con_app h]
  have h0 := valid_kd hv (i := 0) (c := 2) (by rw [h]; rfl) (by omega)
  have h1 := validB_size (valid_kd h0 (i := 1) (c := 2) (by rw [h']; rfl) (by omega))
  have h2 := kz (i := 1) (c := 2) (by rw [h]; rfl) (by omega)
  exact Nat.le_trans (sb_size _ _ _ _) (Nat.mul_le_mul h1 h2)
 | zero h h' => rw [con_zero h h']; have := kz (i := 1) (c := 4) (by rw [h]; rfl) (by omega); omega
 | succ h h' =>
  rw [con_succ h h']
  have h0 := kz (i := 0) (c := 4) (by rw [h]; rfl) (by omega)
  have h1 := kz (i := 1) (c := 4) (by rw [h]; rfl) (by omega)
  have h2 := kz (i := 2) (c := 4) (by rw [h]; rfl) (by omega)
  have h3 := validB_size (valid_kd (valid_kd hv (i := 3) (c := 4) (by rw [h]; rfl) (by omega)) (i := 0) (c := 1) (by rw [h']; rfl) (by omega))
  simp only [T.size, T.sizeL]; omega
 | move h h' => rw [con_move h]; have := kz (i := 2) (c := 3) (by rw [h]; rfl) (by omega); omega
 | fst h h' => rw [con_fst h]; have := validB_size (valid_kd (valid_kd hv (i := 0) (c := 1) (by rw [h]; rfl) (by omega)) (i := 1) (c := 3) (by rw [h']; rfl) (by omega)); omega
 | snd h h' => rw [con_snd h]; have := validB_size (valid_kd (valid_kd hv (i := 0) (c := 1) (by rw [h]; rfl) (by omega)) (i := 2) (c := 3) (by rw [h']; rfl) (by omega)); omega
def okT (t : T) : T := if validB t then t else .mk 0 0 []
theorem f_ownValid {n : Nat} {t : T} (hn : t.size + 10 ≤ n) (hz : t.size ≤ 4000000) : FF n 42 [tm t] [] = some ([tm t], []) ∧ FF n 41 [tm t] [] = some ([tm (okT t), bl (validB t)], []) :=
 ⟨f_own t (by omega) hz, f_valid (by omega)⟩
theorem f_contract {n : Nat} (hn : 3000000 ≤ n) {t : T} (hv : validB t = true) (hr : Rx t) : FF n 81 [tm t] [] = some ([tm (okT (contractT t)), bl (validB (contractT t))], []) := by
 have hcz := con_size hv hr
 obtain ⟨n, rfl⟩ := pos_succ (show 0 < n by omega)
 rw [E_impl_contract, f_redex (by omega) hv]
 have hrx := (rx_iff t).2 hr
 have gk : ∀ {i c : Nat}, opsOf t.k = c → i < c → t.kids[i]? = some (kd t i) := fun h hi => kid_get (by rw [ops_len hv h]; exact hi)
 have vk : ∀ {i c : Nat}, opsOf t.k = c → i < c → validB (kd t i) = true := fun h hi => valid_kd hv h hi
 simp only [evt, cond_dec, Int.toNat_zero, Int.reduceToNat, Int.toNat_one]
 cases hr with
 | app h h' =>
  have e : redexT t = 1 := by simp [redexT, h, h']
  have h2 : opsOf t.k = (2 : Nat) := by rw [h]; rfl
  have v0 := vk (i := 0) h2 (by omega)
  have h3 : opsOf (kd t 0).k = (2 : Nat) := by rw [h']; rfl
  have v01 := valid_kd v0 (i := 1) h3 (by omega)
  have v1 := vk (i := 1) h2 (by omega)
  have hs := f_subst (n := n) (t := kd (kd t 0) 1) (u := kd t 1) (x := 0) (by omega) (gd_valid v01) (by have := validB_size v01; omega) (gd_valid v1) (by have := validB_size v1; omega) (by omega)
  simp only [e, if_true, gk (i := 0) h2 (by omega), gk (i := 1) h2 (by omega), kid_get (t := kd t 0) (i := 1) (by rw [ops_len v0 h3]; omega), hs, evt, con_app h, sbR, okT]
 | zero h h' =>
  have e : redexT t = 2 := by simp [redexT, h, h']
  have h2 : opsOf t.k = (4 : Nat) := by rw [h]; rfl
  rw [con_zero h h'] at hcz ⊢
  have ho := f_ownValid (n := n) (t := kd t 1) (by omega) (by omega)
  simp only [e, if_true, gk (i := 1) h2 (by omega), ho, evt, show ¬ (2 : Int) = 1 by decide, if_false]
 | succ h h' =>
  have e : redexT t = 3 := by simp [redexT, h, h']
  have h2 : opsOf t.k = (4 : Nat) := by rw [h]; rfl
  have v3 := vk (i := 3) h2 (by omega)
  have h3 : opsOf (kd t 3).k = (1 : Nat) := by rw [h']; rfl
  rw [con_succ h h'] at hcz ⊢
  have ho := f_ownValid (n := n) (t := T.mk 5 0 [.mk 5 0 [kd t 2, kd (kd t 3) 0], .mk 9 0 [kd t 0, kd t 1, kd t 2, kd (kd t 3) 0]]) (by omega) (by omega)
  simp (disch := omega) only [e, if_true, gk (i := 0) h2 (by omega), gk (i := 1) h2 (by omega), gk (i := 2) h2 (by omega), gk (i := 3) h2 (by omega), kid_get (t := kd t 3) (i := 0) (by rw [ops_len v3 h3]; omega), f_node, evt, show ¬ (3 : Int) = 1 by decide, show ¬ (3 : Int) = 2 by decide, if_false]
  have h1 := ho.1
  have h2 := ho.2
  simp only [tm, mk_k, mk_n, mk_kids] at h1 h2
  simp only [h1, h2, evt]
 | move h h' =>
  have e : redexT t = 4 := by simp [redexT, h, h']
  have h2 : opsOf t.k = (3 : Nat) := by rw [h]; rfl
  rw [con_move h] at hcz ⊢
  have ho := f_ownValid (n := n) (t := kd t 2) (by omega) (by omega)
  simp only [e, if_true, gk (i := 2) h2 (by omega), ho, evt, show ¬ (4 : Int) = 1 by decide, show ¬ (4 : Int) = 2 by decide, show ¬ (4 : Int) = 3 by decide, if_false]
 | fst h h' =>
  have e : redexT t = 5 := by simp [redexT, h, h']
  have h2 : opsOf t.k = (1 : Nat) := by rw [h]; rfl
  have v0 := vk (i := 0) h2 (by omega)
  have h3 : opsOf (kd t 0).k = (3 : Nat) := by rw [h']; rfl
  rw [con_fst h] at hcz ⊢
  have ho := f_ownValid (n := n) (t := kd (kd t 0) 1) (by omega) (by omega)
  simp only [e, if_true, gk (i := 0) h2 (by omega), kid_get (t := kd t 0) (i := 1) (by rw [ops_len v0 h3]; omega), ho, evt, show ¬ (5 : Int) = 1 by decide, show ¬ (5 : Int) = 2 by decide, show ¬ (5 : Int) = 3 by decide, show ¬ (5 : Int) = 4 by decide, if_false]
 | snd h h' =>
  have e : redexT t = 6 := by simp [redexT, h, h']
  have h2 : opsOf t.k = (1 : Nat) := by rw [h]; rfl
  have v0 := vk (i := 0) h2 (by omega)
  have h3 : opsOf (kd t 0).k = (3 : Nat) := by rw [h']; rfl
  rw [con_snd h] at hcz ⊢
  have ho := f_ownValid (n := n) (t := kd (kd t 0) 2) (by omega) (by omega)
  simp only [e, if_true, gk (i := 0) h2 (by omega), kid_get (t := kd t 0) (i := 2) (by rw [ops_len v0 h3]; omega), ho, evt, show ¬ (6 : Int) = 1 by decide, show ¬ (6 : Int) = 2 by decide, show ¬ (6 : Int) = 3 by decide, show ¬ (6 : Int) = 4 by decide, show ¬ (6 : Int) = 5 by decide, if_false]
theorem f_l3Contract {n : Nat} (hn : 3000000 ≤ n) {t : T} (hv : validB t = true) (hr : Rx t) : FF n 98 [tm t] [] = some ([tm (contractT t)], []) := by
 obtain ⟨n, rfl⟩ := pos_succ (show 0 < n by omega)
 rw [E_spec_l3Contract, f_l3Redex (by omega) hv]
 have gk : ∀ {i c : Nat}, opsOf t.k = c → i < c → t.kids[i]? = some (kd t i) := fun h hi => kid_get (by rw [ops_len hv h]; exact hi)
 have vk : ∀ {i c : Nat}, opsOf t.k = c → i < c → validB (kd t i) = true := fun h hi => valid_kd hv h hi
 have cp : ∀ {u : T}, validB u = true → FF n 45 [tm u] [] = some (ow u) := fun h => f_l1Copy _ (by have := validB_size h; omega) (by have := validB_size h; omega)
 simp only [evt, cond_dec, Int.toNat_zero, Int.reduceToNat, Int.toNat_one]
 cases hr with
 | app h h' =>
  have e : redexT t = 1 := by simp [redexT, h, h']
  have h2 : opsOf t.k = (2 : Nat) := by rw [h]; rfl
  have v0 := vk (i := 0) h2 (by omega)
  have h3 : opsOf (kd t 0).k = (2 : Nat) := by rw [h']; rfl
  have v01 := valid_kd v0 (i := 1) h3 (by omega)
  have v1 := vk (i := 1) h2 (by omega)
  have z1 := validB_size v01
  have z2 := validB_size v1
  have hs := f_l2Subst (kd t 1) (gd_valid v1) (by omega) (kd (kd t 0) 1) (n := n) (by omega) (gd_valid v01) 0 0 (by omega) (by omega) (by omega) (by omega)
  simp only [e, if_true, gk (i := 0) h2 (by omega), gk (i := 1) h2 (by omega), kid_get (t := kd t 0) (i := 1) (by rw [ops_len v0 h3]; omega), hs, evt, con_app h]
 | zero h h' =>
  have e : redexT t = 2 := by simp [redexT, h, h']
  have h2 : opsOf t.k = (4 : Nat) := by rw [h]; rfl
  rw [con_zero h h']
  simp only [e, if_true, gk (i := 1) h2 (by omega), cp (vk (i := 1) h2 (by omega)), evt, show ¬ (2 : Int) = 1 by decide, if_false]
 | succ h h' =>
  have e : redexT t = 3 := by simp [redexT, h, h']
  have h2 : opsOf t.k = (4 : Nat) := by rw [h]; rfl
  have v3 := vk (i := 3) h2 (by omega)
  have h3 : opsOf (kd t 3).k = (1 : Nat) := by rw [h']; rfl
  rw [con_succ h h']
  simp (disch := simp) only [e, if_true, gk (i := 0) h2 (by omega), gk (i := 1) h2 (by omega), gk (i := 2) h2 (by omega), gk (i := 3) h2 (by omega), kid_get (t := kd t 3) (i := 0) (by rw [ops_len v3 h3]; omega),
   cp (vk (i := 0) h2 (by omega)), cp (vk (i := 1) h2 (by omega)), cp (vk (i := 2) h2 (by omega)), cp (valid_kd v3 (i := 0) h3 (by omega)), f_l1Node (show 1 ≤ n by omega), evt, show ¬ (3 : Int) = 1 by decide, show ¬ (3 : Int) = 2 by decide, if_false]
  rfl
 | move h h' =>
  have e : redexT t = 4 := by simp [redexT, h, h']
  have h2 : opsOf t.k = (3 : Nat) := by rw [h]; rfl
  rw [con_move h]
  simp only [e, if_true, gk (i := 2) h2 (by omega), cp (vk (i := 2) h2 (by omega)), evt, show ¬ (4 : Int) = 1 by decide, show ¬ (4 : Int) = 2 by decide, show ¬ (4 : Int) = 3 by decide, if_false]
 | fst h h' =>
  have e : redexT t = 5 := by simp [redexT, h, h']
  have h2 : opsOf t.k = (1 : Nat) := by rw [h]; rfl
  have v0 := vk (i := 0) h2 (by omega)
  have h3 : opsOf (kd t 0).k = (3 : Nat) := by rw [h']; rfl
  rw [con_fst h]
  simp only [e, if_true, gk (i := 0) h2 (by omega), kid_get (t := kd t 0) (i := 1) (by rw [ops_len v0 h3]; omega), cp (valid_kd v0 (i := 1) h3 (by omega)), evt, show ¬ (5 : Int) = 1 by decide, show ¬ (5 : Int) = 2 by decide, show ¬ (5 : Int) = 3 by decide, show ¬ (5 : Int) = 4 by decide, if_false]
 | snd h h' =>
  have e : redexT t = 6 := by simp [redexT, h, h']
  have h2 : opsOf t.k = (1 : Nat) := by rw [h]; rfl
  have v0 := vk (i := 0) h2 (by omega)
  have h3 : opsOf (kd t 0).k = (3 : Nat) := by rw [h']; rfl
  rw [con_snd h]
  simp only [e, if_true, gk (i := 0) h2 (by omega), kid_get (t := kd t 0) (i := 2) (by rw [ops_len v0 h3]; omega), cp (valid_kd v0 (i := 2) h3 (by omega)), evt, show ¬ (6 : Int) = 1 by decide, show ¬ (6 : Int) = 2 by decide, show ¬ (6 : Int) = 3 by decide, show ¬ (6 : Int) = 4 by decide, show ¬ (6 : Int) = 5 by decide, if_false]
abbrev ins (w : List Nat) : List Int := w.map fun i : Nat => (i : Int)
theorem redex0 {t : T} : (redexT t = 0) ↔ ¬ Rx t := by rw [← rx_iff]; simp
theorem out_loop (n : Nat) (ts : List T) (hl : ts.length ≤ 4000000) (h : ∀ t ∈ ts, FF n 54 [tm t] [] = some ([.one (.fr (.is (ins ((wyT false t).getD [])))), bl (wyT false t).isSome], []))
   (hz : ∀ t ∈ ts, ∀ w, wyT false t = some w → w.length ≤ 4000000) :
   ∀ g m (i : Nat), g < m → i + g = ts.length → L_impl_outer_0 n m ts ts.length i = some ([.one (.fr (.is (ins ((wyL false i (ts.drop i)).getD [])))), bl (wyL false i (ts.drop i)).isSome], [])
 | g, 0, i, hg, _ => by omega
 | 0, m + 1, i, _, hi => by
  rw [L_impl_outer_0_eq, List.drop_of_length_le (by omega)]
  simp only [cond_dec, if_neg (show ¬ (i : Int) < ts.length by omega), wyL]; rfl
 | g + 1, m + 1, i, hg, hi => by
  have hlt : i < ts.length := by omega
  have hm := List.getElem_mem hlt
  rw [List.drop_eq_getElem_cons hlt, wyL]
  rw [L_impl_outer_0_eq]
  simp (disch := omega) only [cond_dec, Int.toNat_natCast, cast1, wrap64, if_pos (show (i : Int) < ts.length by omega), if_pos (show 0 ≤ (i : Int) by omega), List.getElem?_eq_getElem hlt, Option.bind_some]
  rw [h _ hm]
  simp only [evs]
  cases hs : wyT false ts[i] with
  | none =>
   simp only [Option.isSome_none, cond_false]
   exact out_loop n ts hl h hz g m (i + 1) (by omega) (by omega)
  | some w =>
   have := hz _ hm w hs
   simp only [Option.isSome_some, cond_true, Option.getD_some, roomB_ok (show ([(i : Int)] ++ ins w).length ≤ 1099511627776 by simp [ins]; omega)]
   rfl
mutual
theorem wy_len {inn : Bool} : ∀ {t : T} {w : List Nat}, wyT inn t = some w → w.length ≤ t.size
 | .mk k n ts, w, h => by
  rw [wyT] at h
  rw [T.size]
  split at h
  ·obtain rfl := Option.some.inj h; simp
  ·split at h
   ·rename_i w' hw
    obtain rfl := Option.some.inj h
    have := wy_lenL hw; omega
   ·split at h
    ·obtain rfl := Option.some.inj h; simp
    ·cases h
theorem wy_lenL {inn : Bool} : ∀ {ts : List T} {j : Nat} {w : List Nat}, wyL inn j ts = some w → w.length ≤ 1 + T.sizeL ts
 | [], j, w, h => by cases h
 | t :: ts, j, w, h => by
  rw [wyL] at h
  rw [T.sizeL]
  split at h
  ·rename_i v hv
   obtain rfl := Option.some.inj h
   have := wy_len hv
   simp only [List.length_cons]; omega
  ·have := wy_lenL h; omega
end
theorem f_outer (t : T) : ∀ {n : Nat}, t.size + 5 ≤ n → validB t = true → FF n 54 [tm t] [] = some ([.one (.fr (.is (ins ((wyT false t).getD [])))), bl (wyT false t).isSome], []) := by
 induction t using T.ind with | h t ih =>
 intro n hn hv
 have hsz := T.size_eq t
 have hz := validB_size hv
 have hl := T.sizeL_len t.kids
 obtain ⟨n, rfl⟩ := pos_succ (show 0 < n by omega)
 have e : wyT false t = if Rx t then some [] else wyL false 0 t.kids := by
  cases t with | mk k n ts =>
  rw [wyT]
  simp only [true_and, T.kids]
  split
  ·rfl
  ·cases wyL false 0 ts <;> simp
 rw [E_impl_outer, f_redex (by omega) hv, e]
 simp only [evs, cond_ndec, redex0]
 by_cases hr : Rx t
 ·simp [hr]
 ·simp only [hr, not_false_eq_true, if_true, if_false]
  have := out_loop n t.kids (by omega) (fun u hu => ih u hu (by have := T.sizeL_mem hu; omega) (validB_kid hv hu)) (fun u hu w hw => by have := wy_len hw; have := validB_size (validB_kid hv hu); omega) t.kids.length n 0 (by omega) (by omega)
  simpa using this
end Go.Proofs.Ytgchmppmecnniaa
end
section
namespace Go.Proofs.Ytgchmppmecnniaa
open Go Go.Ab Go.Dk
theorem f_clone {n : Nat} (hn : 1 ≤ n) (l : List T) (hl : l.length ≤ 4000000) : FF n 91 [tms l] [] = some ([.one (.own 0 0)], [.arr termT (.ts l) 0 false]) := by
 obtain ⟨n, rfl⟩ := pos_succ (show 0 < n by omega)
 rw [E_slices_Clone]
 simp (disch := omega) only [List.nil_append, roomB_ok, cond_true]
 cases l with
 | nil => exact same_self _
 | cons a l => rfl
theorem at_loop (n : Nat) (w : List Nat) (l0 : List T) (hw : w.length ≤ 4000000) : ∀ g m (i : Nat) (t : T), g < m → i + g = w.length → wyOk t (w.drop i) → L_impl_at_0_fo n m (ins w) (w.length : Int) i t.k t.n t.kids 0 0 l0 = some ([tm (atT t (w.drop i))], [])
 | g, 0, i, t, hg, _, _ => by omega
 | 0, m + 1, i, t, _, hi, _ => by
  rw [L_impl_at_0_fo_eq, List.drop_of_length_le (by omega)]
  simp only [cond_dec, if_neg (show ¬ (i : Int) < w.length by omega), atT]
 | g + 1, m + 1, i, t, hg, hi, ho => by
  have hlt : i < w.length := by omega
  rw [List.drop_eq_getElem_cons hlt] at ho ⊢
  have hget : (ins w)[i]? = some ((w[i] : Nat) : Int) := by simp [ins, hlt]
  rw [L_impl_at_0_fo_eq]
  simp (disch := omega) only [cond_dec, Int.toNat_natCast, cast1, wrap64, if_pos (show (i : Int) < w.length by omega), if_pos (show 0 ≤ (i : Int) by omega), hget, Option.bind_some, if_pos (show 0 ≤ ((w[i] : Nat) : Int) by omega), kid_get ho.1]
  exact at_loop n w l0 hw g m (i + 1) (kd t w[i]) (by omega) (by omega) ho.2
theorem f_at {n : Nat} {t : T} {w : List Nat} (hn : w.length + 2 ≤ n) (hw : w.length ≤ 4000000) (ho : wyOk t w) : FF n 99 [tm t, .one (.fr (.is (ins w)))] [] = some ([tm (atT t w)], []) := by
 obtain ⟨n, rfl⟩ := pos_succ (show 0 < n by omega)
 rw [E_impl_at]
 have := at_loop n w [] hw w.length n 0 t (by omega) (by omega) ho
 simpa [ins] using this
theorem f_put (u : T) : ∀ (w : List Nat) {n : Nat} {t : T}, w.length + 3 ≤ n → t.size ≤ 4000000 → w.length ≤ 4000000 → wyOk t w → FF n 63 [tm t, .one (.fr (.is (ins w))), tm u] [] = some ([tm (puT t w u)], [])
 | [], n, t, hn, hz, hw, _ => by
  obtain ⟨n, rfl⟩ := pos_succ (show 0 < n by omega)
  rw [E_impl_put]; rfl
 | i :: w, n, t, hn, hz, hw, ho => by
  obtain ⟨n, rfl⟩ := pos_succ (show 0 < n by omega)
  simp only [List.length_cons] at hn hw
  have hsz := T.size_eq t
  have hl := T.sizeL_len t.kids
  have hk := T.sizeL_mem (kd_mem ho.1)
  have h1 := f_put u w (n := n) (t := kd t i) (by omega) (by omega) (by omega) ho.2
  rw [E_impl_put, f_clone (by omega) _ (by omega)]
  have hlen : ((ins (i :: w)).length : Int) = ((w.length + 1 : Nat) : Int) := by simp [ins]
  have hsl : ((ins (i :: w)).take (w.length + 1)).drop (1 : Int).toNat = ins w := by
   show (ins w).take w.length = ins w
   exact List.take_of_length_le (by simp [ins])
  have h0 : (ins (i :: w))[(0 : Int).toNat]? = some (i : Int) := rfl
  simp only [evt, cond_dec, hsl, h0, hlen, if_neg (show ¬ ((w.length + 1 : Nat) : Int) = 0 by omega), if_pos (show 0 ≤ (i : Int) by omega), Int.toNat_natCast, kid_get ho.1, inB, decide_eq_true (show (0 : Int) ≤ 1 by omega), decide_eq_true (show (1 : Int) ≤ ((w.length + 1 : Nat) : Int) by omega), Int.le_refl, h1, if_pos (show (i : Int) < (t.kids.length : Int) by have := ho.1; omega)]
  rfl
theorem okT_valid {t : T} (h : validB t = true) : okT t = t := if_pos h
theorem okT_not {t : T} (h : validB t = false) : okT t = .mk 0 0 [] := if_neg (by simp [h])
theorem f_contracted {n : Nat} (hn : 4000000 ≤ n) {t : T} (hv : validB t = true) {inn : Bool} {w : List Nat} (hw : wyT inn t = some w) {u : T} (hu : stT inn t = some u) :
   FF n 85 [tm t, .one (.fr (.is (ins w)))] [] = some ([tm (okT u), bl (validB u)], []) := by
 obtain ⟨ho, hr, hs⟩ := wy_some hw
 rw [hs] at hu
 obtain rfl := Option.some.inj hu
 have hz := validB_size hv
 have hwl := wy_len hw
 have va := at_valid ho hv
 have hcz := con_size va hr
 obtain ⟨n, rfl⟩ := pos_succ (show 0 < n by omega)
 rw [E_impl_contracted]
 simp only [evt, f_at (n := n) (by omega) (by omega) ho, f_contract (n := n) (by omega) va hr]
 cases hc : validB (contractT (atT t w)) with
 | false =>
  have : validB (puT t w (contractT (atT t w))) = false := by
   cases hp : validB (puT t w (contractT (atT t w))) with
   | false => rfl
   | true => rw [put_valid ho hp] at hc; cases hc
  simp only [Bool.not_false, cond_true, this, okT_not this]; rfl
 | true =>
  have hp := put_size (u := contractT (atT t w)) ho
  have hov := f_ownValid (n := n) (t := puT t w (contractT (atT t w))) (by omega) (by omega)
  simp only [Bool.not_true, cond_false, okT_valid hc, f_put (contractT (atT t w)) w (n := n) (by omega) (by omega) (by omega) ho, evt, hov]
theorem wy_none_iff {inn : Bool} {t : T} : wyT inn t = none ↔ stT inn t = none := by
 constructor
 ·exact wy_none
 ·intro h
  cases hw : wyT inn t with
  | none => rfl
  | some w => rw [(wy_some hw).2.2] at h; cases h
theorem f_NormalTerm {n : Nat} {t : T} (hn : 5000001 + t.size ≤ n) : FF n 20 [tm t] [] = some ([bl (validB t && nfB t)], []) := by
 obtain ⟨n, rfl⟩ := pos_succ (show 0 < n by omega)
 rw [E_impl_NormalTerm, f_TermValid (by omega)]
 simp only [evs]
 cases hv : validB t with
 | false => rfl
 | true =>
  have hz := validB_size hv
  simp only [Bool.not_true, cond_false, f_outer t (n := n) (by omega) hv, evs, Bool.true_and]
  have h1 := @wy_none_iff false t
  have h2 := @st_none false t
  cases hw : wyT false t with
  | none => rw [h2.1 (h1.1 hw)]; rfl
  | some w =>
   have : nfB t = false := by
    cases hn : nfB t with
    | false => rfl
    | true => rw [h1.2 (h2.2 hn)] at hw; cases hw
   rw [this]; rfl
theorem red_loop (n : Nat) (hn : 5000000 ≤ n) (fuel : Nat) (hf : fuel ≤ 200) (l0 : List T) : ∀ g m (s : Nat) (t : T), g < m → s + g = fuel → validB t = true →
   L_impl_reduce_impl_outer_0_fo n m (fuel : Int) s t.k t.n t.kids 0 0 l0 = some ([tm (redF false g s t).1, nt ((redF false g s t).2.1 : Int), nt (redF false g s t).2.2], [])
 | g, 0, s, t, hg, _, _ => by omega
 | g, m + 1, s, t, hg, hs, hv => by
  have hz := validB_size hv
  rw [L_impl_reduce_impl_outer_0_fo_eq, f_outer t (n := n) (by omega) hv]
  simp only [evs]
  cases hw : wyT false t with
  | none =>
   have h0 := wy_none_iff.1 hw
   have : redF false g s t = (t, s, 0) := by cases g <;> rw [redF, h0]
   rw [this]
   simp only [Option.isSome_none, Bool.not_false, cond_true, f_own t (n := n) (by omega) (by omega), evt]
  | some w =>
   have hst := (wy_some hw).2.2
   simp only [Option.isSome_some, Option.getD_some, Bool.not_true, cond_false, cond_dec]
   cases g with
   | zero =>
    rw [if_pos (by omega), redF, hst]; rfl
   | succ g =>
    rw [if_neg (by omega), f_contracted (n := n) (by omega) hv hw hst, redF, hst]
    simp only [evt]
    cases hc : validB (puT t w (contractT (atT t w))) with
    | false => rfl
    | true =>
     simp (disch := omega) only [okT_valid hc, Bool.not_true, cond_false, if_true, wrap64, cast1]
     exact red_loop n hn fuel hf l0 g m (s + 1) _ (by omega) (by omega) hc
def redR (inn : Bool) (t : T) (fuel : Int) : T × Nat × Int := if validB t = true ∧ 0 ≤ fuel ∧ fuel ≤ 200 then redF inn fuel.toNat 0 t else (.mk 0 0 [], 0, 3)
theorem f_reduce_outer {n : Nat} {t : T} {fuel : Int} (hn : 6000000 + t.size ≤ n) : FF n 53 [tm t, nt fuel, .one (.fn 54 [])] [] = some ([tm (redR false t fuel).1, nt ((redR false t fuel).2.1 : Int), nt (redR false t fuel).2.2], []) := by
 obtain ⟨n, rfl⟩ := pos_succ (show 0 < n by omega)
 rw [E_impl_reduce_impl_outer, f_TermValid (by omega)]
 simp only [evs]
 unfold redR
 cases hv : validB t with
 | false => simp [mk_k, mk_n, mk_kids]
 | true =>
  simp (disch := omega) only [Bool.not_true, cond_false, f_within, evs, true_and]
  by_cases hf : 0 ≤ fuel ∧ fuel ≤ 200
  ·obtain ⟨f, rfl⟩ : ∃ f : Nat, fuel = f := ⟨fuel.toNat, by omega⟩
   rw [if_pos hf, decide_eq_true hf.1, decide_eq_true hf.2, Int.toNat_natCast]
   simp only [Bool.and_self, Bool.not_true, cond_false]
   exact red_loop n (by omega) f (by omega) [] f n 0 t (by omega) (by omega) hv
  ·rw [if_neg hf]
   have : (decide (0 ≤ fuel) && decide (fuel ≤ 200)) = false := by
    rw [← Bool.not_eq_true, Bool.and_eq_true, decide_eq_true_eq, decide_eq_true_eq]; exact hf
   rw [this]; rfl
theorem f_Normalize {n : Nat} {t : T} {fuel : Int} (hn : 6000001 + t.size ≤ n) : FF n 19 [tm t, nt fuel] [] = some ([tm (redR false t fuel).1, nt (redR false t fuel).2.2], []) := by
 obtain ⟨n, rfl⟩ := pos_succ (show 0 < n by omega)
 rw [E_impl_Normalize, f_reduce_outer (by omega)]
 simp only [evt]
end Go.Proofs.Ytgchmppmecnniaa
end
section
namespace Go.Proofs.Ytgchmppmecnniaa
open Go Go.Ab Go.Dk
abbrev st (s : ByteArray) : V1 := .one (.str s)
abbrev IsTerm (s : ByteArray) (a : Int) (r : List V1 × List AObj) : Prop := ∃ (t : T) (e : Int), r = ([tm t, nt e], []) ∧ -1 ≤ e ∧ e ≤ s.size ∧ (0 ≤ e → a + t.size ≤ e)
theorem t_leaf {n : Nat} (hn : 1 ≤ n) (k m : Int) : Tot (FF n 68 [nt k, nt m] []) (fun r => r = ([tm (.mk k m [])], [])) := ⟨_, f_l1Leaf hn k m, rfl⟩
theorem t_nodeS {n : Nat} (hn : 1 ≤ n) (k : Int) (l : List T) (hl : l.length ≤ 100) : Tot (FF n 46 [nt k, tms l] []) (fun r => r = ([tm (.mk k 0 l)], [])) := ⟨_, f_l1Node hn k l (by omega), rfl⟩
theorem t_kids {n : Nat} (hn : 1 ≤ n) (k : Int) : Tot (FF n 74 [nt k] []) (fun r => r = ([nt (opsOf k)], [])) := ⟨_, f_l1Kids hn k, rfl⟩
section
variable {s : ByteArray} (hs : s.size ≤ 1000000) {d N : Nat} (hd : d ≤ 30) (ih : ∀ n, N ≤ n → ∀ a : Int, 0 ≤ a → a ≤ s.size + 1 → Tot (FF n 92 [st s, nt a, nt (d : Int)] []) (IsTerm s a))
include hs hd ih
end
abbrev IsStr (m : Nat) (r : List V1 × List AObj) : Prop := ∃ s : ByteArray, r = ([st s], []) ∧ s.size ≤ m
theorem dec_byte (v : Int) (h : 0 ≤ v ∧ v ≤ 9) : IntKind.u8.wrap (IntKind.i64.wrap (48 + v)) = 48 + v := by
 rw [wrap64 (by omega)]
 rw [IntKind.wrap]; simp [IntKind.signed, IntKind.bits]; omega
theorem t_l19Dec {n : Nat} (hn : 5 ≤ n) {v : Int} (hv : 0 ≤ v ∧ v ≤ 99) : Tot (FF n 113 [nt v] []) (IsStr 2) := by
 refine tot_step (C := 4) hn fun n hn _ => ?_
 rw [E_spec_l19Dec]
 rw [decide_eq_false (show ¬ v < -9223372036854775807 by omega), decide_eq_false (show ¬ v < 0 by omega)]
 simp only [cond_false]
 have fin : ∀ (m : Nat) (v : Int) (x : ByteArray), 0 ≤ v ∧ v ≤ 9 → x.size ≤ 1 → Tot (L_spec_l19Dec_0 n (m + 1) v x) (IsStr 2) := by
  intro m v x hv hx
  rw [L_spec_l19Dec_0_eq, dec_byte v hv, decide_eq_false (show ¬ 9 < v by omega), decide_eq_true (show 0 ≤ 48 + v by omega), decide_eq_true (show 48 + v ≤ 255 by omega)]
  simp only [Bool.and_self, cond_true, cond_false]
  refine tot_cond (fun _ => tot_some ?_) (fun hq => ?_)
  ·exact ⟨_, rfl, by rw [ByteArray.size_append]; show 1 + x.size ≤ 2; omega⟩
  ·have hq' := of_decide_eq_false hq
   exact absurd (show 1 + x.size ≤ 9223372036854775807 by omega) hq'
 obtain ⟨m, rfl⟩ : ∃ m, n = m + 2 := ⟨n - 2, by omega⟩
 by_cases h9 : 9 < v
 ·have hm := tmod_bd (show 0 ≤ v by omega) (show (0 : Int) < 10 by omega)
  have hd := tdiv_bd (show 0 ≤ v by omega) (show (0 : Int) < 10 by omega)
  have hd2 : v.tdiv 10 ≤ 9 := by rw [Int.tdiv_eq_ediv_of_nonneg (by omega)]; omega
  rw [L_spec_l19Dec_0_eq, dec_byte _ (by omega), decide_eq_true h9, decide_eq_true (show 0 ≤ 48 + v.tmod 10 by omega), decide_eq_true (show 48 + v.tmod 10 ≤ 255 by omega), wrap64 (by omega)]
  simp only [Bool.and_self, cond_true]
  refine tot_cond (fun _ => ?_) (fun hq => ?_)
  ·exact fin m _ _ ⟨hd.1, hd2⟩ (by rw [ByteArray.size_append]; exact Nat.le_refl 1)
  ·have hq' := of_decide_eq_false hq
   exact absurd (show 1 + 0 ≤ 9223372036854775807 by omega) hq'
 ·exact fin (m + 1) v _ ⟨hv.1, by omega⟩ (by decide)
theorem size_bytes (l : List UInt8) : (bytesOf l).size = l.length := by simp [bytesOf, ByteArray.size]
theorem list_loop (n : Nat) (ts : List T) (hl : ts.length ≤ 1000) (hsz : T.sizeL ts ≤ 1000) (h : ∀ u ∈ ts, Tot (FF n 105 [tm u] []) (IsStr (8 * u.size - 1))) :
   ∀ g m (i : Nat) (x : ByteArray), g < m → i + g = ts.length → x.size + 8 * T.sizeL (ts.drop i) ≤ 8 * T.sizeL ts → Tot (L_spec_l1List_0 n m ts x i) (IsStr (8 * T.sizeL ts))
 | g, 0, i, x, hg, _, _ => by omega
 | 0, m + 1, i, x, _, hi, hx => by
  rw [L_spec_l1List_0_eq, decide_eq_false (show ¬ (i : Int) < ts.length by omega)]
  refine tot_some ?_
  exact ⟨_, rfl, by omega⟩
 | g + 1, m + 1, i, x, hg, hi, hx => by
  have hlt : i < ts.length := by omega
  have hm := List.getElem_mem hlt
  rw [List.drop_eq_getElem_cons hlt, T.sizeL] at hx
  have w : IntKind.i64.wrap ((i : Int) + 1) = ((i + 1 : Nat) : Int) := wrap64 (by omega)
  have hp := size_pos ts[i]
  rw [L_spec_l1List_0_eq, w]
  simp only [Int.toNat_natCast, List.getElem?_eq_getElem hlt, Option.bind_some, ByteArray.size_append, size_bytes, List.length_cons, List.length_nil]
  have nx : ∀ y : ByteArray, y.size ≤ x.size + 8 * ts[i].size → Tot (L_spec_l1List_0 n m ts y ((i + 1 : Nat) : Int)) (IsStr (8 * T.sizeL ts)) := fun y hy => list_loop n ts hl hsz h g m (i + 1) y (by omega) (by omega) (by omega)
  repeat' (first | (simp (disch := omega) only [wrap64]; done) | (simp (disch := omega) only [wrap64]) | (with_reducible refine tot_cond (fun hq => ?_) (fun hq => ?_) <;> (try simp (disch := omega) only [wrap64] at hq) <;> (try simp only [decide_eq_true_eq, decide_eq_false_iff_not, Bool.not_eq_true', Bool.not_eq_false', Bool.and_eq_true, Bool.and_eq_false_iff, inB, Bool.not_true, Bool.not_false] at hq) <;> try (exfalso; omega; done)) | (with_reducible refine tot_call (h _ hm) ?_; rintro _ ⟨s, rfl, hs⟩; simp only [evt]) | (with_reducible exact nx _ (by simp only [ByteArray.size_append, size_bytes, List.length_cons, List.length_nil]; omega)))
theorem tot_kid {t : T} {i : Nat} {k : T → OR} {Q : List V1 × List AObj → Prop} (h : i < t.kids.length) (hk : Tot (k (kd t i)) Q) : Tot (t.kids[i]?.bind k) Q := by
 rw [kid_get h]; exact hk
theorem t_l1Text (t : T) : ∀ {n : Nat}, 2 * t.size + 10 ≤ n → validB t = true → Tot (FF n 105 [tm t] []) (IsStr (8 * t.size - 1)) := by
 induction t using T.ind with | h t ih =>
 intro n hn hv
 have hsz := T.size_eq t
 have hz := validB_size hv
 have hl := T.sizeL_len t.kids
 have ho := validB_ops hv
 refine tot_step (C := 2 * t.size + 9) hn fun n hn _ => ?_
 have hk : ∀ i, i < t.kids.length → Tot (FF n 105 [tm (kd t i)] []) (IsStr (8 * (kd t i).size - 1)) := fun i hi => ih _ (kd_mem hi) (by have := T.sizeL_mem (kd_mem hi); omega) (validB_kid hv (kd_mem hi))
 have hkz : ∀ i, i < t.kids.length → (kd t i).size ≤ T.sizeL t.kids := fun i hi => T.sizeL_mem (kd_mem hi)
 have hlist : Tot (FF n 114 [tms t.kids] []) (IsStr (8 * T.sizeL t.kids)) := by
  refine tot_step (C := 2 * t.size + 8) (by omega) fun n hn e => ?_
  subst e
  rw [E_spec_l1List]
  exact list_loop n t.kids (by omega) (by omega) (fun u hu => ih u hu (by have := T.sizeL_mem hu; omega) (validB_kid hv hu)) t.kids.length n 0 _ (by omega) (by omega) (by simp [size_bytes])
 rw [E_spec_l1Text]
 simp only [Int.toNat_zero, Int.reduceToNat, Int.toNat_one]
 have l8 : t.k = 8 → t.kids.length = 1 := fun h => ops_len hv (c := 1) (by rw [h]; rfl)
 have l11 : t.k = 11 → t.kids.length = 1 := fun h => ops_len hv (c := 1) (by rw [h]; rfl)
 have l15 : t.k = 15 → t.kids.length = 1 := fun h => ops_len hv (c := 1) (by rw [h]; rfl)
 have l16 : t.k = 16 → t.kids.length = 1 := fun h => ops_len hv (c := 1) (by rw [h]; rfl)
 have l3 : t.k = 3 → t.kids.length = 2 := fun h => ops_len hv (c := 2) (by rw [h]; rfl)
 have l13 : t.k = 13 → t.kids.length = 2 := fun h => ops_len hv (c := 2) (by rw [h]; rfl)
 have l5 : t.k = 5 → t.kids.length = 2 := fun h => ops_len hv (c := 2) (by rw [h]; rfl)
 have l4 : t.k = 4 → t.kids.length = 2 := fun h => ops_len hv (c := 2) (by rw [h]; rfl)
 have h01 : t.kids.length = 2 → (kd t 0).size + (kd t 1).size ≤ T.sizeL t.kids := by
  intro h2
  cases t with | mk k n' ts =>
  match ts, h2 with
  | [x, y], _ => simp [kd, T.kids, T.sizeL]
 have h0 := hkz 0
 have z0 := size_pos (kd t 0)
 have z1 := size_pos (kd t 1)
 have hn20 : 0 ≤ t.n ∧ t.n ≤ 20 := ⟨(gd_out (gd_valid hv)).1, (gd_out (gd_valid hv)).2.1⟩
 simp only [ByteArray.size_append, size_bytes, List.length_cons, List.length_nil]
 repeat' (first | (simp (disch := omega) only [wrap64]; done) | (simp (disch := omega) only [wrap64]) | (with_reducible refine tot_cond (fun hq => ?_) (fun hq => ?_) <;> (try simp (disch := omega) only [wrap64] at hq) <;> (try simp only [decide_eq_true_eq, decide_eq_false_iff_not, Bool.not_eq_true', Bool.not_eq_false', Bool.and_eq_true, Bool.and_eq_false_iff, inB, Bool.not_true, Bool.not_false] at hq) <;> try (exfalso; omega; done)) | (with_reducible refine tot_call (t_l19Dec (by omega) (by omega)) ?_; rintro _ ⟨s, rfl, hs⟩; simp only [evt]) | (with_reducible refine tot_call (hlist) ?_; rintro _ ⟨s, rfl, hs⟩; simp only [evt]) | ((with_reducible refine tot_kid (t := t) (by omega) ?_)) | (with_reducible refine tot_call (hk 0 (by omega)) ?_; rintro _ ⟨s, rfl, hs⟩; simp only [evt]) | (with_reducible refine tot_call (hk 1 (by omega)) ?_; rintro _ ⟨s', rfl, hs'⟩; simp only [evt]) | ((with_reducible refine tot_some ?_); (exact ⟨_, rfl, by simp only [ByteArray.size_append, size_bytes, List.length_cons, List.length_nil]; omega⟩)))
theorem t_FormatTerm {n : Nat} {t : T} (hn : 3 * t.size + 2000 ≤ n) (hz : t.size ≤ 1000000) : Tot (FF n 93 [tm t] []) (fun r => ∃ s : ByteArray, r = ([st s], []) ∧ (validB t = false → s.size = 0)) := by
 refine tot_step (C := 3 * t.size + 1999) hn fun n hn _ => ?_
 rw [E_spec_FormatTerm, f_TermValidS (by omega) (by omega)]
 simp only [evt]
 cases hv : validB t with
 | false => exact ⟨_, rfl, _, rfl, fun _ => rfl⟩
 | true =>
  simp only [Bool.not_true, cond_false]
  refine tot_call (t_l1Text t (by omega) hv) ?_
  rintro _ ⟨s, rfl, _⟩
  exact ⟨_, rfl, _, rfl, fun h => by cases h⟩
end Go.Proofs.Ytgchmppmecnniaa
end
section
namespace Go.Proofs.Ytgchmppmecnniaa
open Go Go.Ab Go.Dk
theorem t_pick {n : Nat} (hn : 1 ≤ n) {l : List UInt8} {p m k : Int} (h : RdOk l p m) (hm : m ≤ 1000000000000) (hk : k ≤ 2147483648) :
   Tot (FF n 67 [.one (.ptr 0 0), nt k] [rdr l p]) (fun r => ∃ v p' : Int, r = ([nt v], [rdr l p']) ∧ 0 ≤ v ∧ (0 < k → v < k) ∧ RdOk l p' (m + 1)) := by
 obtain ⟨v, ⟨h1, h2, _⟩, h3, h4⟩ := s_pick h (by omega) hk
 exact ⟨_, h4 n hn, v, _, rfl, h1, h2, h3⟩
theorem t_num {n : Nat} (hn : 2 ≤ n) {l : List UInt8} {p m : Int} {ss : List Int} (h : RdOk l p m) (hm : m ≤ 1000000000000) (hs : ss ≠ []) (hl : ss.length ≤ 1000) :
   Tot (FF n 36 [.one (.ptr 0 0), .one (.fr (.is ss))] [rdr l p]) (fun r => ∃ v p' : Int, r = ([nt v], [rdr l p']) ∧ v ∈ ss ∧ RdOk l p' (m + 1)) := by
 obtain ⟨v, h1, h3, h4⟩ := s_num h (by omega) hs (by omega)
 exact ⟨_, h4 n hn, v, _, rfl, h1, h3⟩
theorem t_of {n : Nat} (hn : 2 ≤ n) {l : List UInt8} {p m : Int} {ss : List ByteArray} (h : RdOk l p m) (hm : m ≤ 1000000000000) (hs : ss ≠ []) (hl : ss.length ≤ 1000) :
   Tot (FF n 69 [.one (.ptr 0 0), .one (.fr (.ss ss))] [rdr l p]) (fun r => ∃ s, ∃ p' : Int, r = ([st s], [rdr l p']) ∧ s ∈ ss ∧ RdOk l p' (m + 1)) := by
 obtain ⟨v, h1, h3, h4⟩ := s_of h (by omega) hs (by omega)
 exact ⟨_, h4 n hn, v, _, rfl, h1, h3⟩
theorem t_open {n : Nat} (hn : 1 ≤ n) (l : List UInt8) : Tot (FF n 33 [.one (.fr (.bs l))] []) (fun r => ∃ l', r = ([.one (.ptr 0 0)], [rdr l' 0]) ∧ RdOk l' 0 0) := by
 obtain ⟨l', h1, h2⟩ := s_open l
 exact ⟨_, h2 n hn, l', rfl, h1⟩
theorem zero_valid : validB (.mk 7 0 []) = true := by decide +kernel
theorem set_size (ts : List T) (v : T) (h : 0 < ts.length) : T.sizeL (ts.set 0 v) ≤ T.sizeL ts + v.size := by
 match ts, h with
 | t :: ts, _ => simp only [List.set_cons_zero, T.sizeL]; omega
theorem snoc_size (ts : List T) (v : T) : T.sizeL (ts ++ [v]) = T.sizeL ts + v.size := by
 induction ts with
 | nil => simp [T.sizeL]
 | cons x ts ih => simp only [List.cons_append, T.sizeL, ih]; omega
theorem t_l3Plus {n : Nat} (hn : 1 ≤ n) : Tot (FF n 70 [] []) (fun r => r = ([st (bytesOf [91, 78, 93, 91, 78, 93, 60, 91, 78, 93, 78, 44, 35, 49, 44, 91, 78, 93, 91, 78, 93, 43, 35, 48, 44, 35, 48, 62])], [])) := by
 refine tot_step (C := 0) (by omega) fun n hn e => ?_
 exact ⟨_, E_spec_l3Plus n, rfl⟩
end Go.Proofs.Ytgchmppmecnniaa
end
section
namespace Go.Proofs.Ytgchmppmecnniaa
open Go Go.Ab Go.Dk
end Go.Proofs.Ytgchmppmecnniaa
end
section
namespace Go.Proofs.Ytgchmppmecnniaa
open Go Go.Ab Go.Dk
def bt (s : ByteArray) (a : Nat) : Nat := (byteAt s a).toNat
def dg (s : ByteArray) (a : Nat) : Bool := decide (a < s.size) && (decide (48 ≤ bt s a) && decide (bt s a ≤ 57))
theorem dg_iff {s : ByteArray} {a : Nat} : dg s a = true ↔ a < s.size ∧ 48 ≤ bt s a ∧ bt s a ≤ 57 := by
 simp only [dg, Bool.and_eq_true, decide_eq_true_eq]
theorem byte_ex (s : ByteArray) (a : Nat) (h : a < s.size) : byteAt (s.extract a (a + 1)) 0 = byteAt s a := by
 have h' : a < s.data.toList.length := by simpa using h
 have h'' : a < s.data.size := by simpa using h
 unfold byteAt
 simp [List.getElem?_drop, h'']
theorem dig_wrap (v : Int) (h : 48 ≤ v ∧ v ≤ 57) : IntKind.i64.wrap (IntKind.i64.wrap (0 * 10) + IntKind.i64.wrap (IntKind.u8.wrap (v - 48))) = v - 48 := by
 have e : IntKind.u8.wrap (v - 48) = v - 48 := by rw [IntKind.wrap]; simp [IntKind.signed, IntKind.bits]; omega
 rw [e, wrap64 (show -9223372036854775808 ≤ (0 : Int) * 10 ∧ (0 : Int) * 10 ≤ 9223372036854775807 by omega), wrap64 (show -9223372036854775808 ≤ v - 48 ∧ v - 48 ≤ 9223372036854775807 by omega), wrap64 (by omega)]
 omega
theorem t_dig {n : Nat} {s : ByteArray} (hn : 5 ≤ n) (hs : s.size = 1) (h : 48 ≤ bt s 0 ∧ bt s 0 ≤ 57) : Tot (FF n 111 [st s] []) (fun r => r = ([nt ((bt s 0 - 48 : Nat) : Int), bl true], [])) := by
 refine tot_step (C := 4) hn fun n hn _ => ?_
 unfold bt at h ⊢
 have lp : Tot (L_spec_l19Num_0 n n s false 0 0) (fun r => r = ([nt (((byteAt s 0).toNat - 48 : Nat) : Int), bl true], [])) := by
  obtain ⟨m, rfl⟩ : ∃ m, n = m + 2 := ⟨n - 2, by omega⟩
  rw [L_spec_l19Num_0_eq, Int.toNat_zero, dig_wrap _ (by omega), L_spec_l19Num_0_eq]
  have e : ((byteAt s 0).toNat : Int) - 48 = (((byteAt s 0).toNat - 48 : Nat) : Int) := by omega
  rw [e]
  repeat' (first | (simp (disch := omega) only [wrap64]; done) | (simp (disch := omega) only [wrap64]) | (with_reducible refine tot_cond (fun hq => ?_) (fun hq => ?_) <;> (try simp (disch := omega) only [wrap64] at hq) <;> (try simp only [decide_eq_true_eq, decide_eq_false_iff_not, Bool.not_eq_true', Bool.not_eq_false', Bool.and_eq_true, Bool.and_eq_false_iff, inB, Bool.not_true, Bool.not_false] at hq) <;> try (exfalso; omega; done)) | ((exact absurd hq Bool.false_ne_true)) | ((with_reducible refine tot_some ?_); (exact rfl)))
 have e45 : decide (((byteAt s 0).toNat : Int) = 45) = false := decide_eq_false (by omega)
 rw [E_spec_l19Num]
 simp only [Int.toNat_zero]
 repeat' (first | (simp (disch := omega) only [wrap64]; done) | (simp (disch := omega) only [wrap64]) | (with_reducible refine tot_cond (fun hq => ?_) (fun hq => ?_) <;> (try simp (disch := omega) only [wrap64] at hq) <;> (try simp only [decide_eq_true_eq, decide_eq_false_iff_not, Bool.not_eq_true', Bool.not_eq_false', Bool.and_eq_true, Bool.and_eq_false_iff, inB, Bool.not_true, Bool.not_false] at hq) <;> try (exfalso; omega; done)) | ((rw [e45]; exact lp)) | (with_reducible exact lp))
theorem t_l1NumberX {n : Nat} {s : ByteArray} {a : Nat} {z k : Int} (hn : 10 ≤ n) (hs : s.size ≤ 1000) (hz : z = a) (h : dg s a = true) (hk : k = 1 ∨ (k = 2 ∧ dg s (a + 1) = false)) :
   Tot (FF n 101 [st s, nt z, nt k] []) (fun r => r = ([nt ((bt s a - 48 : Nat) : Int), nt ((a + 1 : Nat) : Int)], [])) := by
 subst hz
 obtain ⟨h1, h2, h3⟩ := dg_iff.1 h
 refine tot_step (C := 9) hn fun n hn _ => ?_
 rw [E_spec_l1Number]
 have ex : (s.extract a (a + 1)).size = 1 := by rw [ByteArray.size_extract]; omega
 have eb : bt (s.extract a (a + 1)) 0 = bt s a := by unfold bt; rw [byte_ex s a h1]
 have dd : Tot (FF n 111 [st (s.extract a (a + 1))] []) (fun r => r = ([nt ((bt s a - 48 : Nat) : Int), bl true], [])) := by
  rw [← eb]; exact t_dig (by omega) ex (by rw [eb]; exact ⟨h2, h3⟩)
 unfold bt at h2 h3
 have nx : ∀ m, Tot (L_spec_l1Number_0 n (m + 1) s a k ((a + 1 : Nat) : Int)) (fun r => r = ([nt ((bt s a - 48 : Nat) : Int), nt ((a + 1 : Nat) : Int)], [])) := by
  intro m
  have h4 : k = 1 ∨ (k = 2 ∧ (s.size ≤ a + 1 ∨ (byteAt s (a + 1)).toNat < 48 ∨ 57 < (byteAt s (a + 1)).toNat)) := by
   rcases hk with h | ⟨h, h'⟩
   ·exact .inl h
   ·refine .inr ⟨h, Classical.byContradiction fun hh => ?_⟩
    rw [dg_iff.2 (by unfold bt; omega)] at h'; cases h'
  rw [L_spec_l1Number_0_eq]
  simp only [Int.toNat_natCast]
  repeat' (first | (simp (disch := omega) only [wrap64]; done) | (simp (disch := omega) only [wrap64]) | (with_reducible refine tot_cond (fun hq => ?_) (fun hq => ?_) <;> (try simp (disch := omega) only [wrap64] at hq) <;> (try simp only [decide_eq_true_eq, decide_eq_false_iff_not, Bool.not_eq_true', Bool.not_eq_false', Bool.and_eq_true, Bool.and_eq_false_iff, inB, Bool.not_true, Bool.not_false] at hq) <;> try (exfalso; omega; done)) | (with_reducible refine tot_call (dd) ?_; rintro _ rfl; simp only [evt]) | ((with_reducible refine tot_some ?_); (exact rfl)))
 obtain ⟨m, rfl⟩ : ∃ m, n = m + 2 := ⟨n - 2, by omega⟩
 have w : IntKind.i64.wrap ((a : Int) + 1) = ((a + 1 : Nat) : Int) := wrap64 (by omega)
 rw [L_spec_l1Number_0_eq, w]
 simp only [Int.toNat_natCast]
 repeat' (first | (simp (disch := omega) only [wrap64]; done) | (simp (disch := omega) only [wrap64]) | (with_reducible refine tot_cond (fun hq => ?_) (fun hq => ?_) <;> (try simp (disch := omega) only [wrap64] at hq) <;> (try simp only [decide_eq_true_eq, decide_eq_false_iff_not, Bool.not_eq_true', Bool.not_eq_false', Bool.and_eq_true, Bool.and_eq_false_iff, inB, Bool.not_true, Bool.not_false] at hq) <;> try (exfalso; omega; done)) | (with_reducible exact nx _))
abbrev IsX (t : T) (e : Nat) (r : List V1 × List AObj) : Prop := ∃ z : Int, r = ([tm t, nt z], []) ∧ z = e
def num1 (s : ByteArray) (a : Nat) : Option (Nat × Nat) := if dg s a = true ∧ dg s (a + 1) = false then some (bt s a - 48, a + 1) else none
def ser (p : Nat → Option (T × Nat)) (s : ByteArray) (last : Nat) : Nat → Nat → Option (List T × Nat)
 | 0, a => some ([], a)
 | n + 1, a => (p a).bind fun x => if x.2 < s.size ∧ bt s x.2 = (if n = 0 then last else 44) then (ser p s last n (x.2 + 1)).bind fun y => some (x.1 :: y.1, y.2) else none
def one (p : Nat → Option (T × Nat)) (k : Int) (a : Nat) : Option (T × Nat) := (p a).bind fun x => some (.mk k 0 [x.1], x.2)
def blk (p : Nat → Option (T × Nat)) (s : ByteArray) (k : Int) (m last a : Nat) : Option (T × Nat) := (ser p s last m a).bind fun x => some (.mk k 0 x.1, x.2)
def rnd (p : Nat → Option (T × Nat)) (s : ByteArray) (a : Nat) : Option (T × Nat) := (p a).bind fun x => if x.2 < s.size ∧ (bt s x.2 = 62 ∨ bt s x.2 = 42 ∨ bt s x.2 = 32) then
   (p (x.2 + 1)).bind fun y => if y.2 < s.size ∧ bt s y.2 = 41 then some (.mk (if bt s x.2 = 62 then 3 else if bt s x.2 = 42 then 13 else 5) 0 [x.1, y.1], y.2 + 1) else none
 else none
def lam1 (p : Nat → Option (T × Nat)) (s : ByteArray) (a : Nat) : Option (T × Nat) := (p a).bind fun x => if x.2 < s.size ∧ bt s x.2 = 93 then (p (x.2 + 1)).bind fun y => some (.mk 4 0 [x.1, y.1], y.2) else none
def pb (p : Nat → Option (T × Nat)) (s : ByteArray) (a : Nat) : Option (T × Nat) :=
 if bt s a = 35 then (num1 s (a + 1)).bind fun x => some (.mk 1 x.1 [], x.2)
 else if bt s a = 42 then (num1 s (a + 1)).bind fun x => some (.mk 2 x.1 [], x.2)
 else if bt s a = 78 then some (.mk 6 0 [], a + 1)
 else if bt s a = 48 then some (.mk 7 0 [], a + 1)
 else if bt s a = 43 then one p 8 (a + 1)
 else if bt s a = 33 then one p 11 (a + 1)
 else if bt s a = 94 then one p 15 (a + 1)
 else if bt s a = 95 then one p 16 (a + 1)
 else if bt s a = 40 then rnd p s (a + 1)
 else if bt s a = 91 then lam1 p s (a + 1)
 else if bt s a = 60 then blk p s 9 4 62 (a + 1)
 else if bt s a = 123 then blk p s 10 3 125 (a + 1)
 else if bt s a = 124 then blk p s 14 3 124 (a + 1)
 else if bt s a = 64 ∧ a + 2 ≤ s.size ∧ bt s (a + 1) = 60 then blk p s 12 3 62 (a + 2)
 else none
def pa (s : ByteArray) : Nat → Nat → Option (T × Nat)
 | 0, _ => none
 | d + 1, a => if a < s.size then (pb (pa s d) s a).bind fun x => if x.2 ≤ s.size then some x else none else none
section
variable {s : ByteArray} (hs : s.size ≤ 1000) {d N : Nat} (hd : d ≤ 30) {p : Nat → Option (T × Nat)}
 (ih : ∀ n, N ≤ n → ∀ (z : Int) (a : Nat) (t : T) (e : Nat), z = a → p a = some (t, e) → e ≤ s.size ∧ Tot (FF n 92 [st s, nt z, nt (d : Int)] []) (IsX t e))
include hs hd ih
theorem x_prefix {n a e : Nat} {t : T} {k : Int} (hn : N + 2 ≤ n) (ha : a < s.size) (hk : (bt s a = 43 ∧ k = 8) ∨ (bt s a = 33 ∧ k = 11) ∨ (bt s a = 94 ∧ k = 15) ∨ (bt s a = 95 ∧ k = 16)) (h : one p k (a + 1) = some (t, e)) : Tot (FF n 102 [st s, nt (a : Int), nt ((d : Int) + 1)] []) (IsX t e) := by
 have hs' := hs
 obtain ⟨⟨u, e'⟩, h1, h2⟩ := Option.bind_eq_some_iff.1 h
 cases h2
 refine tot_step (C := N + 1) hn fun n hn _ => ?_
 unfold bt at hk
 have w : IntKind.i64.wrap ((d : Int) + 1 - 1) = (d : Int) := by rw [wrap64 (by omega)]; omega
 have i1 := (ih n (by omega) ((a : Int) + 1) (a + 1) u e' (by omega) h1).2
 rw [E_spec_l1Prefix, w]
 simp only [Int.toNat_natCast]
 rcases hk with ⟨hk, rfl⟩ | ⟨hk, rfl⟩ | ⟨hk, rfl⟩ | ⟨hk, rfl⟩
 all_goals repeat' (first | (simp (disch := omega) only [wrap64]; done) | (simp (disch := omega) only [wrap64]) | (with_reducible refine tot_cond (fun hq => ?_) (fun hq => ?_) <;> (try simp (disch := omega) only [wrap64] at hq) <;> (try simp only [decide_eq_true_eq, decide_eq_false_iff_not, Bool.not_eq_true', Bool.not_eq_false', Bool.and_eq_true, Bool.and_eq_false_iff, inB, Bool.not_true, Bool.not_false] at hq) <;> try (exfalso; omega; done)) | (with_reducible refine tot_call (i1) ?_; rintro _ ⟨z, rfl, hz⟩; simp only [evt]) | (with_reducible refine tot_call (t_nodeS (by omega) _ _ (by simp)) ?_; rintro _ rfl; simp only [evt]) | ((with_reducible refine tot_some ?_); (exact ⟨_, rfl, hz⟩)))
theorem x_round {n a e : Nat} {t : T} (hn : N + 2 ≤ n) {z : Int} (hz : z = a) (h : rnd p s a = some (t, e)) : Tot (FF n 103 [st s, nt z, nt (d : Int)] []) (IsX t e) := by
 subst hz
 have hs' := hs
 have hd' := hd
 obtain ⟨⟨u, e1⟩, h1, h2⟩ := Option.bind_eq_some_iff.1 h
 simp only at h2
 split at h2
 ·rename_i hc
  obtain ⟨⟨v, e2⟩, h3, h4⟩ := Option.bind_eq_some_iff.1 h2
  simp only at h4
  split at h4
  ·rename_i hc2
   cases h4
   refine tot_step (C := N + 1) hn fun n hn _ => ?_
   unfold bt at hc hc2 ⊢
   have i1 := (ih n (by omega) (a : Int) a u e1 rfl h1).2
   have i2 := (ih n (by omega) ((e1 : Int) + 1) (e1 + 1) v e2 (by omega) h3).2
   rw [E_spec_l1Round]
   refine tot_call i1 ?_
   rintro _ ⟨_, rfl, rfl⟩
   simp only [evt, Int.toNat_natCast]
   rcases hc with ⟨hc, hb | hb | hb⟩
   ·rw [if_pos hb]
    repeat' (first | (simp (disch := omega) only [wrap64]; done) | (simp (disch := omega) only [wrap64]) | (with_reducible refine tot_cond (fun hq => ?_) (fun hq => ?_) <;> (try simp (disch := omega) only [wrap64] at hq) <;> (try simp only [decide_eq_true_eq, decide_eq_false_iff_not, Bool.not_eq_true', Bool.not_eq_false', Bool.and_eq_true, Bool.and_eq_false_iff, inB, Bool.not_true, Bool.not_false] at hq) <;> try (exfalso; omega; done)) | (with_reducible refine tot_call (i2) ?_; rintro _ ⟨_, rfl, rfl⟩; simp only [evt]) | ((exfalso; simp only [Int.toNat_natCast] at hq; omega)) | ((simp only [Int.toNat_natCast])) | (with_reducible refine tot_call (t_nodeS (by omega) _ _ (by simp)) ?_; rintro _ rfl; simp only [evt]) | ((with_reducible refine tot_some ?_); (exact ⟨_, rfl, by omega⟩)))
   ·rw [if_neg (by omega), if_pos hb]
    repeat' (first | (simp (disch := omega) only [wrap64]; done) | (simp (disch := omega) only [wrap64]) | (with_reducible refine tot_cond (fun hq => ?_) (fun hq => ?_) <;> (try simp (disch := omega) only [wrap64] at hq) <;> (try simp only [decide_eq_true_eq, decide_eq_false_iff_not, Bool.not_eq_true', Bool.not_eq_false', Bool.and_eq_true, Bool.and_eq_false_iff, inB, Bool.not_true, Bool.not_false] at hq) <;> try (exfalso; omega; done)) | (with_reducible refine tot_call (i2) ?_; rintro _ ⟨_, rfl, rfl⟩; simp only [evt]) | ((exfalso; simp only [Int.toNat_natCast] at hq; omega)) | ((simp only [Int.toNat_natCast])) | (with_reducible refine tot_call (t_nodeS (by omega) _ _ (by simp)) ?_; rintro _ rfl; simp only [evt]) | ((with_reducible refine tot_some ?_); (exact ⟨_, rfl, by omega⟩)))
   ·rw [if_neg (by omega), if_neg (by omega)]
    repeat' (first | (simp (disch := omega) only [wrap64]; done) | (simp (disch := omega) only [wrap64]) | (with_reducible refine tot_cond (fun hq => ?_) (fun hq => ?_) <;> (try simp (disch := omega) only [wrap64] at hq) <;> (try simp only [decide_eq_true_eq, decide_eq_false_iff_not, Bool.not_eq_true', Bool.not_eq_false', Bool.and_eq_true, Bool.and_eq_false_iff, inB, Bool.not_true, Bool.not_false] at hq) <;> try (exfalso; omega; done)) | (with_reducible refine tot_call (i2) ?_; rintro _ ⟨_, rfl, rfl⟩; simp only [evt]) | ((exfalso; simp only [Int.toNat_natCast] at hq; omega)) | ((simp only [Int.toNat_natCast])) | (with_reducible refine tot_call (t_nodeS (by omega) _ _ (by simp)) ?_; rintro _ rfl; simp only [evt]) | ((with_reducible refine tot_some ?_); (exact ⟨_, rfl, by omega⟩)))
  ·cases h4
 ·cases h2
theorem x_loop (n : Nat) (hn : N + 1 ≤ n) (last : Nat) (many : Nat) (hmany : many ≤ 4) : ∀ g m (i a : Nat) (z : Int) (acc l : List T) (e : Nat), g < m → i + g = many → z = a → ser p s last g a = some (l, e) → acc.length = i →
   Tot (L_spec_l1Series_0 n m s z d many last i acc) (fun r => ∃ z : Int, r = ([tms (acc ++ l), nt z], []) ∧ z = e)
 | g, 0, i, a, z, acc, l, e, hg, _, _, _, _ => by
  have hs' := hs
  have hd' := hd
  omega
 | 0, m + 1, i, a, z, acc, l, e, _, hi, hz, h, hl => by
  cases h
  rw [L_spec_l1Series_0_eq, decide_eq_false (show ¬ (i : Int) < many by omega), List.append_nil]
  exact tot_some ⟨_, rfl, hz⟩
 | g + 1, m + 1, i, a, z, acc, l, e, hg, hi, hz, h, hl => by
  have w : IntKind.i64.wrap ((i : Int) + 1) = ((i + 1 : Nat) : Int) := wrap64 (by omega)
  obtain ⟨⟨u, e1⟩, h1, h2⟩ := Option.bind_eq_some_iff.1 h
  simp only at h2
  by_cases hc : e1 < s.size ∧ bt s e1 = (if g = 0 then last else 44)
  ·rw [if_pos hc] at h2
   obtain ⟨⟨v, e2⟩, h3, h4⟩ := Option.bind_eq_some_iff.1 h2
   cases h4
   rw [L_spec_l1Series_0_eq, w]
   rw [decide_eq_true (show (i : Int) < many by omega), cond_true]
   refine tot_call (ih n (by omega) z a u e1 hz h1).2 ?_
   rintro _ ⟨_, rfl, rfl⟩
   simp only [evt, List.length_append, List.length_cons, List.length_nil, hl, Int.toNat_natCast]
   have hroom : roomB (i + (0 + 1)) = true := roomB_ok (by omega)
   rw [hroom]
   simp only [cond_true]
   have nx := x_loop n hn last many hmany g m (i + 1) (e1 + 1) ((e1 : Int) + 1) (acc ++ [u]) v e2 (by omega) (by omega) (by omega) h3 (by simp [hl])
   rw [List.append_assoc, List.singleton_append] at nx
   unfold bt at hc
   by_cases hg0 : g = 0
   ·rw [if_pos hg0] at hc
    repeat' (first | (simp (disch := omega) only [wrap64]; done) | (simp (disch := omega) only [wrap64]) | (with_reducible refine tot_cond (fun hq => ?_) (fun hq => ?_) <;> (try simp (disch := omega) only [wrap64] at hq) <;> (try simp only [decide_eq_true_eq, decide_eq_false_iff_not, Bool.not_eq_true', Bool.not_eq_false', Bool.and_eq_true, Bool.and_eq_false_iff, inB, Bool.not_true, Bool.not_false] at hq) <;> try (exfalso; omega; done)) | (with_reducible exact nx))
   ·rw [if_neg hg0] at hc
    repeat' (first | (simp (disch := omega) only [wrap64]; done) | (simp (disch := omega) only [wrap64]) | (with_reducible refine tot_cond (fun hq => ?_) (fun hq => ?_) <;> (try simp (disch := omega) only [wrap64] at hq) <;> (try simp only [decide_eq_true_eq, decide_eq_false_iff_not, Bool.not_eq_true', Bool.not_eq_false', Bool.and_eq_true, Bool.and_eq_false_iff, inB, Bool.not_true, Bool.not_false] at hq) <;> try (exfalso; omega; done)) | (with_reducible exact nx))
  ·rw [if_neg hc] at h2; cases h2
theorem x_series {n : Nat} (hn : N + 7 ≤ n) {a e : Nat} {l : List T} {z : Int} (hz : z = a) (many : Nat) (hm : many ≤ 4) (last : Nat) (h : ser p s last many a = some (l, e)) : Tot (FF n 112 [st s, nt z, nt (d : Int), nt (many : Int), .one (.int .u8 (last : Int))] []) (fun r => ∃ z : Int, r = ([tms l, nt z], []) ∧ z = e) := by
 refine tot_step (C := N + 6) hn fun n hn _ => ?_
 rw [E_spec_l1Series]
 exact x_loop hs hd ih n (by omega) last many hm many n 0 a z [] l e (by omega) (by omega) hz h rfl
theorem x_block {n : Nat} (hn : N + 8 ≤ n) {a e : Nat} {t : T} (ha : a < s.size) (h : (bt s a = 60 ∧ blk p s 9 4 62 (a + 1) = some (t, e)) ∨ (bt s a = 123 ∧ blk p s 10 3 125 (a + 1) = some (t, e)) ∨ (bt s a = 124 ∧ blk p s 14 3 124 (a + 1) = some (t, e)) ∨ (bt s a = 64 ∧ a + 2 ≤ s.size ∧ bt s (a + 1) = 60 ∧ blk p s 12 3 62 (a + 2) = some (t, e))) :
   Tot (FF n 104 [st s, nt (a : Int), nt ((d : Int) + 1)] []) (IsX t e) := by
 have hs' := hs
 refine tot_step (C := N + 7) hn fun n hn _ => ?_
 have w : IntKind.i64.wrap ((d : Int) + 1 - 1) = (d : Int) := by rw [wrap64 (by omega)]; omega
 have w1 : IntKind.i64.wrap ((a : Int) + 1) = ((a + 1 : Nat) : Int) := wrap64 (by omega)
 have w2 : IntKind.i64.wrap ((a : Int) + 2) = ((a + 2 : Nat) : Int) := wrap64 (by omega)
 have k9 : opsOf 9 = ((4 : Nat) : Int) := rfl
 have k10 : opsOf 10 = ((3 : Nat) : Int) := rfl
 have k14 : opsOf 14 = ((3 : Nat) : Int) := rfl
 have k12 : opsOf 12 = ((3 : Nat) : Int) := rfl
 rw [E_spec_l1Block]
 simp only [w, w1, w2, Int.toNat_natCast]
 rcases h with ⟨hb, h⟩ | ⟨hb, h⟩ | ⟨hb, h⟩ | ⟨hb, hb2, hb3, h⟩ <;> obtain ⟨⟨l, e'⟩, h1, h2⟩ := Option.bind_eq_some_iff.1 h <;> cases h2 <;> unfold bt at hb
 ·have i1 := x_series hs hd ih (n := n) (by omega) (z := ((a + 1 : Nat) : Int)) rfl 4 (by omega) 62 h1
  repeat' (first | (simp (disch := omega) only [wrap64]; done) | (simp (disch := omega) only [wrap64]) | (with_reducible refine tot_cond (fun hq => ?_) (fun hq => ?_) <;> (try simp (disch := omega) only [wrap64] at hq) <;> (try simp only [decide_eq_true_eq, decide_eq_false_iff_not, Bool.not_eq_true', Bool.not_eq_false', Bool.and_eq_true, Bool.and_eq_false_iff, inB, Bool.not_true, Bool.not_false] at hq) <;> try (exfalso; omega; done)) | (with_reducible refine tot_call (t_kids (by omega) _) ?_; rintro _ rfl; simp only [evt]) | ((simp only [k9])) | (with_reducible refine tot_call (i1) ?_; rintro _ ⟨_, rfl, rfl⟩; simp only [evt]) | ((with_reducible refine tot_some ?_); (exact ⟨_, rfl, rfl⟩)))
 ·have i1 := x_series hs hd ih (n := n) (by omega) (z := ((a + 1 : Nat) : Int)) rfl 3 (by omega) 125 h1
  repeat' (first | (simp (disch := omega) only [wrap64]; done) | (simp (disch := omega) only [wrap64]) | (with_reducible refine tot_cond (fun hq => ?_) (fun hq => ?_) <;> (try simp (disch := omega) only [wrap64] at hq) <;> (try simp only [decide_eq_true_eq, decide_eq_false_iff_not, Bool.not_eq_true', Bool.not_eq_false', Bool.and_eq_true, Bool.and_eq_false_iff, inB, Bool.not_true, Bool.not_false] at hq) <;> try (exfalso; omega; done)) | (with_reducible refine tot_call (t_kids (by omega) _) ?_; rintro _ rfl; simp only [evt]) | ((simp only [k10])) | (with_reducible refine tot_call (i1) ?_; rintro _ ⟨_, rfl, rfl⟩; simp only [evt]) | ((with_reducible refine tot_some ?_); (exact ⟨_, rfl, rfl⟩)))
 ·have i1 := x_series hs hd ih (n := n) (by omega) (z := ((a + 1 : Nat) : Int)) rfl 3 (by omega) 124 h1
  repeat' (first | (simp (disch := omega) only [wrap64]; done) | (simp (disch := omega) only [wrap64]) | (with_reducible refine tot_cond (fun hq => ?_) (fun hq => ?_) <;> (try simp (disch := omega) only [wrap64] at hq) <;> (try simp only [decide_eq_true_eq, decide_eq_false_iff_not, Bool.not_eq_true', Bool.not_eq_false', Bool.and_eq_true, Bool.and_eq_false_iff, inB, Bool.not_true, Bool.not_false] at hq) <;> try (exfalso; omega; done)) | (with_reducible refine tot_call (t_kids (by omega) _) ?_; rintro _ rfl; simp only [evt]) | ((simp only [k14])) | (with_reducible refine tot_call (i1) ?_; rintro _ ⟨_, rfl, rfl⟩; simp only [evt]) | ((with_reducible refine tot_some ?_); (exact ⟨_, rfl, rfl⟩)))
 ·have i1 := x_series hs hd ih (n := n) (by omega) (z := ((a + 2 : Nat) : Int)) rfl 3 (by omega) 62 h1
  unfold bt at hb3
  repeat' (first | (simp (disch := omega) only [wrap64]; done) | (simp (disch := omega) only [wrap64]) | (with_reducible refine tot_cond (fun hq => ?_) (fun hq => ?_) <;> (try simp (disch := omega) only [wrap64] at hq) <;> (try simp only [decide_eq_true_eq, decide_eq_false_iff_not, Bool.not_eq_true', Bool.not_eq_false', Bool.and_eq_true, Bool.and_eq_false_iff, inB, Bool.not_true, Bool.not_false] at hq) <;> try (exfalso; omega; done)) | (with_reducible refine tot_call (t_kids (by omega) _) ?_; rintro _ rfl; simp only [evt]) | ((simp only [k12])) | (with_reducible refine tot_call (i1) ?_; rintro _ ⟨_, rfl, rfl⟩; simp only [evt]) | ((with_reducible refine tot_some ?_); (exact ⟨_, rfl, rfl⟩)))
end
theorem t_pa {s : ByteArray} (hs : s.size ≤ 1000) : ∀ (d : Nat), d ≤ 30 → ∀ n, 20 + 12 * d ≤ n → ∀ (z : Int) (a : Nat) (t : T) (e : Nat), z = a → pa s d a = some (t, e) → e ≤ s.size ∧ Tot (FF n 92 [st s, nt z, nt (d : Int)] []) (IsX t e)
 | 0, hd, n, hn, z, a, t, e, hz, h => by cases h
 | d + 1, hd, n, hn, z, a, t, e, hz, h => by
  subst hz
  have ih := fun n hn => t_pa hs d (by omega) n hn
  simp only [pa] at h
  split at h
  ·rename_i ha
   obtain ⟨⟨t', e'⟩, h, h2⟩ := Option.bind_eq_some_iff.1 h
   simp only at h2
   split at h2
   ·rename_i he
    cases h2
    refine ⟨he, ?_⟩
    refine tot_step (C := 19 + 12 * (d + 1)) (by omega) fun n hn _ => ?_
    rw [E_spec_l1Parse]
    have w : IntKind.i64.wrap (((d + 1 : Nat) : Int) - 1) = (d : Int) := by rw [wrap64 (by omega)]; omega
    have w2 : (((d + 1 : Nat) : Int)) = (d : Int) + 1 := rfl
    have w3 : IntKind.i64.wrap ((a : Int) + 1) = ((a + 1 : Nat) : Int) := wrap64 (by omega)
    rw [w, w2, w3]
    simp only [Int.toNat_natCast]
    unfold pb at h
    have nm : ∀ {v e k}, num1 s (a + 1) = some (v, e) → (k = 1 ∨ k = 2) → Tot (FF n 101 [st s, nt ((a + 1 : Nat) : Int), nt k] []) (fun r => r = ([nt (v : Int), nt (e : Int)], [])) := by
     intro v e k h hk
     unfold num1 at h
     split at h
     ·rename_i hh
      cases h
      exact t_l1NumberX (by omega) hs rfl hh.1 (by rcases hk with h | h; exact .inl h; exact .inr ⟨h, hh.2⟩)
     ·cases h
    by_cases c1 : bt s a = 35
    ·rw [if_pos c1] at h
     obtain ⟨⟨v, e'⟩, h1, h2⟩ := Option.bind_eq_some_iff.1 h
     cases h2
     unfold bt at c1
     repeat' (first | (simp (disch := omega) only [wrap64]; done) | (simp (disch := omega) only [wrap64]) | (with_reducible refine tot_cond (fun hq => ?_) (fun hq => ?_) <;> (try simp (disch := omega) only [wrap64] at hq) <;> (try simp only [decide_eq_true_eq, decide_eq_false_iff_not, Bool.not_eq_true', Bool.not_eq_false', Bool.and_eq_true, Bool.and_eq_false_iff, inB, Bool.not_true, Bool.not_false] at hq) <;> try (exfalso; omega; done)) | (with_reducible refine tot_call (nm h1 (.inr rfl)) ?_; rintro _ rfl; simp only [evt]) | (with_reducible refine tot_call (t_leaf (by omega) _ _) ?_; rintro _ rfl; simp only [evt]) | ((with_reducible refine tot_some ?_); (exact ⟨_, rfl, rfl⟩)))
    rw [if_neg c1] at h
    by_cases c2 : bt s a = 42
    ·rw [if_pos c2] at h
     obtain ⟨⟨v, e'⟩, h1, h2⟩ := Option.bind_eq_some_iff.1 h
     cases h2
     unfold bt at c2
     repeat' (first | (simp (disch := omega) only [wrap64]; done) | (simp (disch := omega) only [wrap64]) | (with_reducible refine tot_cond (fun hq => ?_) (fun hq => ?_) <;> (try simp (disch := omega) only [wrap64] at hq) <;> (try simp only [decide_eq_true_eq, decide_eq_false_iff_not, Bool.not_eq_true', Bool.not_eq_false', Bool.and_eq_true, Bool.and_eq_false_iff, inB, Bool.not_true, Bool.not_false] at hq) <;> try (exfalso; omega; done)) | (with_reducible refine tot_call (nm h1 (.inl rfl)) ?_; rintro _ rfl; simp only [evt]) | (with_reducible refine tot_call (t_leaf (by omega) _ _) ?_; rintro _ rfl; simp only [evt]) | ((with_reducible refine tot_some ?_); (exact ⟨_, rfl, rfl⟩)))
    rw [if_neg c2] at h
    by_cases c3 : bt s a = 78
    ·rw [if_pos c3] at h
     cases h
     unfold bt at c3
     repeat' (first | (simp (disch := omega) only [wrap64]; done) | (simp (disch := omega) only [wrap64]) | (with_reducible refine tot_cond (fun hq => ?_) (fun hq => ?_) <;> (try simp (disch := omega) only [wrap64] at hq) <;> (try simp only [decide_eq_true_eq, decide_eq_false_iff_not, Bool.not_eq_true', Bool.not_eq_false', Bool.and_eq_true, Bool.and_eq_false_iff, inB, Bool.not_true, Bool.not_false] at hq) <;> try (exfalso; omega; done)) | (with_reducible refine tot_call (t_leaf (by omega) _ _) ?_; rintro _ rfl; simp only [evt]) | ((with_reducible refine tot_some ?_); (exact ⟨_, rfl, rfl⟩)))
    rw [if_neg c3] at h
    by_cases c4 : bt s a = 48
    ·rw [if_pos c4] at h
     cases h
     unfold bt at c4
     repeat' (first | (simp (disch := omega) only [wrap64]; done) | (simp (disch := omega) only [wrap64]) | (with_reducible refine tot_cond (fun hq => ?_) (fun hq => ?_) <;> (try simp (disch := omega) only [wrap64] at hq) <;> (try simp only [decide_eq_true_eq, decide_eq_false_iff_not, Bool.not_eq_true', Bool.not_eq_false', Bool.and_eq_true, Bool.and_eq_false_iff, inB, Bool.not_true, Bool.not_false] at hq) <;> try (exfalso; omega; done)) | (with_reducible refine tot_call (t_leaf (by omega) _ _) ?_; rintro _ rfl; simp only [evt]) | ((with_reducible refine tot_some ?_); (exact ⟨_, rfl, rfl⟩)))
    rw [if_neg c4] at h
    by_cases c5 : bt s a = 43
    ·rw [if_pos c5] at h
     have i1 := x_prefix hs (by omega) ih (n := n) (by omega) ha (.inl ⟨c5, rfl⟩) h
     unfold bt at c5
     repeat' (first | (simp (disch := omega) only [wrap64]; done) | (simp (disch := omega) only [wrap64]) | (with_reducible refine tot_cond (fun hq => ?_) (fun hq => ?_) <;> (try simp (disch := omega) only [wrap64] at hq) <;> (try simp only [decide_eq_true_eq, decide_eq_false_iff_not, Bool.not_eq_true', Bool.not_eq_false', Bool.and_eq_true, Bool.and_eq_false_iff, inB, Bool.not_true, Bool.not_false] at hq) <;> try (exfalso; omega; done)) | (with_reducible refine tot_call (i1) ?_; rintro _ ⟨_, rfl, rfl⟩; simp only [evt]) | ((with_reducible refine tot_some ?_); (exact ⟨_, rfl, rfl⟩)))
    rw [if_neg c5] at h
    by_cases c6 : bt s a = 33
    ·rw [if_pos c6] at h
     have i1 := x_prefix hs (by omega) ih (n := n) (by omega) ha (.inr (.inl ⟨c6, rfl⟩)) h
     unfold bt at c6
     repeat' (first | (simp (disch := omega) only [wrap64]; done) | (simp (disch := omega) only [wrap64]) | (with_reducible refine tot_cond (fun hq => ?_) (fun hq => ?_) <;> (try simp (disch := omega) only [wrap64] at hq) <;> (try simp only [decide_eq_true_eq, decide_eq_false_iff_not, Bool.not_eq_true', Bool.not_eq_false', Bool.and_eq_true, Bool.and_eq_false_iff, inB, Bool.not_true, Bool.not_false] at hq) <;> try (exfalso; omega; done)) | (with_reducible refine tot_call (i1) ?_; rintro _ ⟨_, rfl, rfl⟩; simp only [evt]) | ((with_reducible refine tot_some ?_); (exact ⟨_, rfl, rfl⟩)))
    rw [if_neg c6] at h
    by_cases c7 : bt s a = 94
    ·rw [if_pos c7] at h
     have i1 := x_prefix hs (by omega) ih (n := n) (by omega) ha (.inr (.inr (.inl ⟨c7, rfl⟩))) h
     unfold bt at c7
     repeat' (first | (simp (disch := omega) only [wrap64]; done) | (simp (disch := omega) only [wrap64]) | (with_reducible refine tot_cond (fun hq => ?_) (fun hq => ?_) <;> (try simp (disch := omega) only [wrap64] at hq) <;> (try simp only [decide_eq_true_eq, decide_eq_false_iff_not, Bool.not_eq_true', Bool.not_eq_false', Bool.and_eq_true, Bool.and_eq_false_iff, inB, Bool.not_true, Bool.not_false] at hq) <;> try (exfalso; omega; done)) | (with_reducible refine tot_call (i1) ?_; rintro _ ⟨_, rfl, rfl⟩; simp only [evt]) | ((with_reducible refine tot_some ?_); (exact ⟨_, rfl, rfl⟩)))
    rw [if_neg c7] at h
    by_cases c8 : bt s a = 95
    ·rw [if_pos c8] at h
     have i1 := x_prefix hs (by omega) ih (n := n) (by omega) ha (.inr (.inr (.inr ⟨c8, rfl⟩))) h
     unfold bt at c8
     repeat' (first | (simp (disch := omega) only [wrap64]; done) | (simp (disch := omega) only [wrap64]) | (with_reducible refine tot_cond (fun hq => ?_) (fun hq => ?_) <;> (try simp (disch := omega) only [wrap64] at hq) <;> (try simp only [decide_eq_true_eq, decide_eq_false_iff_not, Bool.not_eq_true', Bool.not_eq_false', Bool.and_eq_true, Bool.and_eq_false_iff, inB, Bool.not_true, Bool.not_false] at hq) <;> try (exfalso; omega; done)) | (with_reducible refine tot_call (i1) ?_; rintro _ ⟨_, rfl, rfl⟩; simp only [evt]) | ((with_reducible refine tot_some ?_); (exact ⟨_, rfl, rfl⟩)))
    rw [if_neg c8] at h
    by_cases c9 : bt s a = 40
    ·rw [if_pos c9] at h
     have i1 := x_round hs (by omega) ih (n := n) (by omega) (z := ((a + 1 : Nat) : Int)) rfl h
     unfold bt at c9
     repeat' (first | (simp (disch := omega) only [wrap64]; done) | (simp (disch := omega) only [wrap64]) | (with_reducible refine tot_cond (fun hq => ?_) (fun hq => ?_) <;> (try simp (disch := omega) only [wrap64] at hq) <;> (try simp only [decide_eq_true_eq, decide_eq_false_iff_not, Bool.not_eq_true', Bool.not_eq_false', Bool.and_eq_true, Bool.and_eq_false_iff, inB, Bool.not_true, Bool.not_false] at hq) <;> try (exfalso; omega; done)) | (with_reducible refine tot_call (i1) ?_; rintro _ ⟨_, rfl, rfl⟩; simp only [evt]) | ((with_reducible refine tot_some ?_); (exact ⟨_, rfl, rfl⟩)))
    rw [if_neg c9] at h
    by_cases c10 : bt s a = 91
    ·rw [if_pos c10] at h
     obtain ⟨⟨u, e1⟩, h1, h2⟩ := Option.bind_eq_some_iff.1 h
     simp only at h2
     split at h2
     ·rename_i hc
      obtain ⟨⟨v, e2⟩, h3, h4⟩ := Option.bind_eq_some_iff.1 h2
      cases h4
      have i1 := (ih n (by omega) ((a + 1 : Nat) : Int) (a + 1) u e1 rfl h1).2
      have i2 := (ih n (by omega) ((e1 : Int) + 1) (e1 + 1) v e2 (by omega) h3).2
      unfold bt at c10 hc
      repeat' (first | (simp (disch := omega) only [wrap64]; done) | (simp (disch := omega) only [wrap64]) | (with_reducible refine tot_cond (fun hq => ?_) (fun hq => ?_) <;> (try simp (disch := omega) only [wrap64] at hq) <;> (try simp only [decide_eq_true_eq, decide_eq_false_iff_not, Bool.not_eq_true', Bool.not_eq_false', Bool.and_eq_true, Bool.and_eq_false_iff, inB, Bool.not_true, Bool.not_false] at hq) <;> try (exfalso; omega; done)) | (with_reducible refine tot_call (i1) ?_; rintro _ ⟨_, rfl, rfl⟩; simp only [evt]) | (with_reducible refine tot_call (i2) ?_; rintro _ ⟨_, rfl, rfl⟩; simp only [evt]) | ((exfalso; simp only [Int.toNat_natCast] at hq; omega)) | ((simp only [Int.toNat_natCast])) | (with_reducible refine tot_call (t_nodeS (by omega) _ _ (by simp)) ?_; rintro _ rfl; simp only [evt]) | ((with_reducible refine tot_some ?_); (exact ⟨_, rfl, rfl⟩)))
     ·cases h2
    rw [if_neg c10] at h
    have hb : Tot (FF n 104 [st s, nt (a : Int), nt ((d : Int) + 1)] []) (IsX t e) := by
     refine x_block hs (by omega) ih (by omega) ha ?_
     split at h
     ·exact .inl ⟨‹_›, h⟩
     split at h
     ·exact .inr (.inl ⟨‹_›, h⟩)
     split at h
     ·exact .inr (.inr (.inl ⟨‹_›, h⟩))
     split at h
     ·rename_i hh; exact .inr (.inr (.inr ⟨hh.1, hh.2.1, hh.2.2, h⟩))
     ·cases h
    unfold bt at c1 c2 c3 c4 c5 c6 c7 c8 c9 c10
    repeat' (first | (simp (disch := omega) only [wrap64]; done) | (simp (disch := omega) only [wrap64]) | (with_reducible refine tot_cond (fun hq => ?_) (fun hq => ?_) <;> (try simp (disch := omega) only [wrap64] at hq) <;> (try simp only [decide_eq_true_eq, decide_eq_false_iff_not, Bool.not_eq_true', Bool.not_eq_false', Bool.and_eq_true, Bool.and_eq_false_iff, inB, Bool.not_true, Bool.not_false] at hq) <;> try (exfalso; omega; done)) | (with_reducible refine tot_call (hb) ?_; rintro _ ⟨_, rfl, rfl⟩; simp only [evt]) | ((with_reducible refine tot_some ?_); (exact ⟨_, rfl, rfl⟩)))
   ·cases h2
  ·cases h
theorem t_ParseX {n : Nat} {s : ByteArray} {t : T} (hn : 5 * s.size + 5000 ≤ n) (hs : s.size ≤ 1000) (hz : t.size ≤ 500) (h : pa s 30 0 = some (t, s.size)) : Tot (FF n 71 [st s] []) (fun r => ∃ u b, r = ([tm u, bl b], []) ∧ (b = true → u = t)) := by
 refine tot_step (C := 5 * s.size + 4999) hn fun n hn _ => ?_
 rw [E_spec_ParseTerm]
 refine tot_call (t_pa (s := s) (by omega) 30 (by omega) n (by omega) 0 0 t s.size (by omega) h).2 ?_
 rintro _ ⟨z, rfl, hz⟩
 simp only [evt]
 repeat' (first | (simp (disch := omega) only [wrap64]; done) | (simp (disch := omega) only [wrap64]) | (with_reducible refine tot_cond (fun hq => ?_) (fun hq => ?_) <;> (try simp (disch := omega) only [wrap64] at hq) <;> (try simp only [decide_eq_true_eq, decide_eq_false_iff_not, Bool.not_eq_true', Bool.not_eq_false', Bool.and_eq_true, Bool.and_eq_false_iff, inB, Bool.not_true, Bool.not_false] at hq) <;> try (exfalso; omega; done)) | (with_reducible refine tot_call (t_FormatTerm (by omega) (by omega)) ?_; rintro _ ⟨x, rfl, hx⟩; simp only [evt]) | ((with_reducible refine tot_some ?_); (exact ⟨t, true, rfl, fun h => rfl⟩)) | ((with_reducible refine tot_some ?_); (exact ⟨.mk 0 0 [], false, rfl, fun h => by cases h⟩)))
end Go.Proofs.Ytgchmppmecnniaa
end
