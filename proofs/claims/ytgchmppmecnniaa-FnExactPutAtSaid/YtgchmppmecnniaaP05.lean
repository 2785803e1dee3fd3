/- Part 5 of the proof. -/
import Derived.Test.YtgchmppmecnniaaP01
import Derived.Test.YtgchmppmecnniaaP02
import Derived.Test.YtgchmppmecnniaaP03
import Derived.Test.YtgchmppmecnniaaP04
import Derived.ChangeArms
import Derived.Deep.Slices
import Derived.Deep.Strs
import Derived.WalkKit
import Derived.ProofKit
import Derived.OpenShut
import Derived.ShutString
import Derived.ChangeOld
import Derived.Below
set_option linter.unusedVariables false
set_option linter.unusedSimpArgs false
section
namespace Go.Dk
open Go
theorem res0 {P : Program} {fn : Func} {tmps : List Value} {w : World} (h : fn.results = #[]) : (results fn tmps.toArray).run P w = .ok (.tuple #[]) w := by
 rw [results_eq, h]
 simp [Sem.run_bind]
theorem flat_set {R : List Value} : ∀ (vs : List HT) (i : Nat) (u : HT), i < vs.length → putL (flatT vs ++ R) (i * 3) [.int .i64 u.k, .int .i64 u.n, .slice u.a u.kids.length u.cap] = flatT (vs.set i u) ++ R := by
 intro vs i u hi
 have e : vs = vs.take i ++ vs[i] :: vs.drop (i + 1) := by
  rw [← List.drop_eq_getElem_cons hi, List.take_append_drop]
 have e2 : vs.set i u = vs.take i ++ u :: vs.drop (i + 1) := by
  rw [List.set_eq_take_append_cons_drop, if_pos hi]
 have hl : (flatT (vs.take i)).length = i * 3 := by rw [flatT_length, List.length_take, Nat.min_eq_left (by omega)]
 have h := putL_at (flatT (vs.take i)) (flatT (vs.drop (i + 1)) ++ R) [.int .i64 u.k, .int .i64 u.n, .slice u.a u.kids.length u.cap] [.int .i64 vs[i].k, .int .i64 vs[i].n, vs[i].sl] rfl
 rw [hl] at h
 rw [e2]
 conv => lhs; rw [e]
 rw [flatT_append, flatT_append, flatT_cons, flatT_cons, List.append_assoc, List.append_assoc]
 exact h
theorem flat_get {R : List Value} {vs : List HT} {i : Nat} {u : HT} (h : vs[i]? = some u) : (flatT vs ++ R)[i * 3]? = some (.int .i64 u.k) ∧ (flatT vs ++ R)[i * 3 + 1]? = some (.int .i64 u.n) ∧ (flatT vs ++ R)[i * 3 + 2]? = some (.slice u.a u.kids.length u.cap) := by
 have hi := (List.getElem?_eq_some_iff.1 h).1
 have e : vs = vs.take i ++ u :: vs.drop (i + 1) := by
  have := (List.getElem?_eq_some_iff.1 h).2
  rw [← this, ← List.drop_eq_getElem_cons hi, List.take_append_drop]
 have hl : (flatT (vs.take i)).length = i * 3 := by rw [flatT_length, List.length_take, Nat.min_eq_left (by omega)]
 rw [e, flatT_append, flatT_cons, List.append_assoc]
 refine ⟨?_, ?_, ?_⟩
 ·rw [List.getElem?_append_right (by omega), hl, Nat.sub_self]; rfl
 ·rw [List.getElem?_append_right (by omega), hl, show i * 3 + 1 - i * 3 = 1 by omega]; rfl
 ·rw [List.getElem?_append_right (by omega), hl, show i * 3 + 2 - i * 3 = 2 by omega]; rfl
theorem kidsR_perm {ts us : List HT} (h : ts.Perm us) {w : World} (ho : (kidsR ts).own w) : (kidsR us).own w ∧ ∀ b, (kidsR us).foot b ↔ (kidsR ts).foot b := by
 have hb : (HT.blocksL ts).Perm (HT.blocksL us) := by
  have e : ∀ l : List HT, HT.blocksL l = l.flatMap HT.blocks := fun l => by
   induction l with
   | nil => rfl
   | cons x l ih => simp only [HT.blocksL, List.flatMap_cons, ih]
  rw [e, e]
  exact h.flatMap_right _
 refine ⟨⟨fun t ht => ho.1 t (h.mem_iff.2 ht), hb.nodup_iff.1 ho.2.1, fun b hb' => ho.2.2 b (hb.mem_iff.2 hb')⟩, fun b => (hb.mem_iff).symm⟩
theorem St.permKids {w0 w : World} {M Z0 : Zone} {L : List Res} {φ : Fact} {ts us : List HT} (h : St w0 M Z0 (kidsR ts :: L) φ w) (hp : ts.Perm us) : St w0 M Z0 (kidsR us :: L) φ w :=
 h.recast (kidsR_local us) (fun b hb => ((kidsR_perm hp (h.own _ (List.mem_cons_self ..))).2 b).1 hb) (fun ho => (kidsR_perm hp ho).1)
end Go.Dk
namespace Go.Proofs.Ytgchmppmecnniaa
open Go Go.Dk
set_option maxRecDepth 100000 in
set_option maxHeartbeats 1000000 in
theorem i_Reverse (us : List HT) (hl : us.length ≤ 1000000) (a : Option Addr) (c : Nat) (w : World) (ho : (rowR 25 3 (.slice a us.length c) us.length (flatT us)).own w) (hb : ∀ b, (Value.slice a us.length c).ownBlock = some b → b < w.heap.size) :
   Calls Try.prog 49 #[.slice a us.length c] w fun e w' => e = .returned (.tuple #[]) ∧ (rowR 25 3 (.slice a us.length c) us.length (flatT us.reverse)).own w' ∧ Ext (fun b => (Value.slice a us.length c).ownBlock = some b) w w' := by
 have ho' : w.ownsRow 0 _ 3 (.slice a us.length c) us.length (flatT us) := ho
 obtain ⟨h1, ⟨hv, h0⟩ | ⟨g, cap, cur, hv, hg, hc, hle, hmax, hsz, htk⟩⟩ := ho'
 ·injection hv with ha _ hcc
  subst ha hcc
  have hus : us = [] := List.length_eq_zero_iff.1 h0
  subst hus
  have H := St.init w noneZ noneZ Stable.true trivial
  go_enter Try.func49, Try.ntmps49
  repeat' ((first | (refine T_nil ?_) | ((first | apply U0 | (apply U1; (case hd => decide +kernel)) | (apply U2 (hw := H); (case hd => decide +kernel)) | (apply U3 1; (case hp => rfl); (case hd => decide +kernel)) | (apply U3 2; (case hp => rfl); (case hd => decide +kernel)) | (apply U3 3; (case hp => rfl); (case hd => decide +kernel)) | (apply U3 4; (case hp => rfl); (case hd => decide +kernel)) | (apply U3 5; (case hp => rfl); (case hd => decide +kernel)) | (apply U3 6; (case hp => rfl); (case hd => decide +kernel)) | (apply U3 7; (case hp => rfl); (case hd => decide +kernel)) | (apply U3 8; (case hp => rfl); (case hd => decide +kernel)) | (apply U3 9; (case hp => rfl); (case hd => decide +kernel)) | (apply U3 10; (case hp => rfl); (case hd => decide +kernel)) | (apply U3 11; (case hp => rfl); (case hd => decide +kernel))); (case hg => rfl); (case hy => (first | (apply Yi.a; constructor; all_goals (first | rfl | (constructor <;> omega) | (apply CellIs.own; (case h => repeat constructor); rfl) | (apply Cell3.own; (case h => repeat constructor); all_goals rfl))) | (apply Yi.b; constructor; all_goals (first | rfl | (constructor <;> omega) | (apply CellIs.own; (case h => repeat constructor); rfl) | (apply Cell3.own; (case h => repeat constructor); all_goals rfl))) | (apply Yi.c; constructor; all_goals (first | rfl | (constructor <;> omega) | (apply CellIs.own; (case h => repeat constructor); rfl) | (apply Cell3.own; (case h => repeat constructor); all_goals rfl)))))) | ((first | apply V0 | apply V1 | apply V2 (hw := H)); (case hg => rfl); try decide +kernel) | ((first | refine G0 H ?_ | (refine G1 H (fun _ _ _ _ h => h) (by decide +kernel) ?_; clear H; intro _ H)); simp only [enum, Nat.reduceAdd]) | (apply B0 (hw := H); (case hg => rfl); (case hd => first | exact hd_false | decide +kernel); (case hx => rfl); (case hc => rfl); clear H; intro bx _ H) | (apply B1 (hw := H); (case hg => rfl); (case hd => first | exact hd_false | decide +kernel); clear H; intro ax _ H) | go_step | (apply X0; (case hy => rfl); all_goals (intro hb; simp only [hb]; (try simp only [decide_eq_true_eq, decide_eq_false_iff_not, Bool.not_eq_true', Bool.not_eq_false', Bool.and_eq_true, Bool.or_eq_true, Bool.and_eq_false_iff, Bool.or_eq_false_iff] at hb); try (exfalso; omega)))) <;> try simp only [List.getElem_toArray, List.getElem_cons_zero, List.getElem_cons_succ, Act.put, evalT, evalC, evalF, List.setIfInBounds_toArray, List.set_cons_succ, List.set_cons_zero, List.getD_cons_succ, List.getD_cons_zero, Nat.reduceAdd, Nat.reduceMul, Nat.add_zero, Nat.zero_add, Int.toNat_natCast, Int.reduceToNat, List.eraseIdx_cons_succ, List.eraseIdx_cons_zero, cond_true, cond_false])
  go_loopg [2, 3] 0 (fun g v1 v2 wr => v1 = .int .i64 0 ∧ v2 = .int .i64 (-1) ∧ St w noneZ noneZ [] trueF wr)
  case atStart => exact ⟨rfl, rfl, H⟩
  case round =>
   clear H
   obtain ⟨rfl, rfl, H⟩ := hrel
   repeat' ((first | (refine T_nil ?_) | ((first | apply U0 | (apply U1; (case hd => decide +kernel)) | (apply U2 (hw := H); (case hd => decide +kernel)) | (apply U3 1; (case hp => rfl); (case hd => decide +kernel)) | (apply U3 2; (case hp => rfl); (case hd => decide +kernel)) | (apply U3 3; (case hp => rfl); (case hd => decide +kernel)) | (apply U3 4; (case hp => rfl); (case hd => decide +kernel)) | (apply U3 5; (case hp => rfl); (case hd => decide +kernel)) | (apply U3 6; (case hp => rfl); (case hd => decide +kernel)) | (apply U3 7; (case hp => rfl); (case hd => decide +kernel)) | (apply U3 8; (case hp => rfl); (case hd => decide +kernel)) | (apply U3 9; (case hp => rfl); (case hd => decide +kernel)) | (apply U3 10; (case hp => rfl); (case hd => decide +kernel)) | (apply U3 11; (case hp => rfl); (case hd => decide +kernel))); (case hg => rfl); (case hy => (first | (apply Yi.a; constructor; all_goals (first | rfl | (constructor <;> omega) | (apply CellIs.own; (case h => repeat constructor); rfl) | (apply Cell3.own; (case h => repeat constructor); all_goals rfl))) | (apply Yi.b; constructor; all_goals (first | rfl | (constructor <;> omega) | (apply CellIs.own; (case h => repeat constructor); rfl) | (apply Cell3.own; (case h => repeat constructor); all_goals rfl))) | (apply Yi.c; constructor; all_goals (first | rfl | (constructor <;> omega) | (apply CellIs.own; (case h => repeat constructor); rfl) | (apply Cell3.own; (case h => repeat constructor); all_goals rfl)))))) | ((first | apply V0 | apply V1 | apply V2 (hw := H)); (case hg => rfl); try decide +kernel) | ((first | refine G0 H ?_ | (refine G1 H (fun _ _ _ _ h => h) (by decide +kernel) ?_; clear H; intro _ H)); simp only [enum, Nat.reduceAdd]) | (apply B0 (hw := H); (case hg => rfl); (case hd => first | exact hd_false | decide +kernel); (case hx => rfl); (case hc => rfl); clear H; intro bx _ H) | (apply B1 (hw := H); (case hg => rfl); (case hd => first | exact hd_false | decide +kernel); clear H; intro ax _ H) | go_step | (apply X0; (case hy => rfl); all_goals (intro hb; simp only [hb]; (try simp only [decide_eq_true_eq, decide_eq_false_iff_not, Bool.not_eq_true', Bool.not_eq_false', Bool.and_eq_true, Bool.or_eq_true, Bool.and_eq_false_iff, Bool.or_eq_false_iff] at hb); try (exfalso; omega)))) <;> try simp only [List.getElem_toArray, List.getElem_cons_zero, List.getElem_cons_succ, Act.put, evalT, evalC, evalF, List.setIfInBounds_toArray, List.set_cons_succ, List.set_cons_zero, List.getD_cons_succ, List.getD_cons_zero, Nat.reduceAdd, Nat.reduceMul, Nat.add_zero, Nat.zero_add, Int.toNat_natCast, Int.reduceToNat, List.eraseIdx_cons_succ, List.eraseIdx_cons_zero, cond_true, cond_false])
   refine end_post (res0 rfl) ⟨rfl, ?_, (H.ext).weak (fun _ _ h => h.elim)⟩
   exact World.ownsRow_nil wr 0 _ 3
 ·injection hv with ha _ hcc
  subst ha hcc
  have hgo : (Value.slice (some ⟨g, 0, none⟩) us.length c).ownBlock = some g := rfl
  have hgb := hb g hgo
  have hx : (blk g (flatT us ++ cur.toList.drop (us.length * 3)) 25).own w := by
   show w.heap[g]? = _
   rw [hc, ← htk, List.take_append_drop]
  generalize hR : cur.toList.drop (us.length * 3) = R at hx
  have H := St.init1 w (fun b => (Value.slice (some ⟨g, 0, none⟩) us.length c).ownBlock = some b) noneZ Stable.true trivial (blk_local g _ _) hx (fun b hb' => by cases hb'; exact ⟨hgo, hgb⟩) (fun b _ h => h)
  have hRl : (flatT us ++ R).length = c * 3 := by rw [← hR, ← htk, List.take_append_drop, Array.length_toList, hsz]
  go_enter Try.func49, Try.ntmps49
  repeat' ((first | (refine T_nil ?_) | ((first | apply U0 | (apply U1; (case hd => decide +kernel)) | (apply U2 (hw := H); (case hd => decide +kernel)) | (apply U3 1; (case hp => rfl); (case hd => decide +kernel)) | (apply U3 2; (case hp => rfl); (case hd => decide +kernel)) | (apply U3 3; (case hp => rfl); (case hd => decide +kernel)) | (apply U3 4; (case hp => rfl); (case hd => decide +kernel)) | (apply U3 5; (case hp => rfl); (case hd => decide +kernel)) | (apply U3 6; (case hp => rfl); (case hd => decide +kernel)) | (apply U3 7; (case hp => rfl); (case hd => decide +kernel)) | (apply U3 8; (case hp => rfl); (case hd => decide +kernel)) | (apply U3 9; (case hp => rfl); (case hd => decide +kernel)) | (apply U3 10; (case hp => rfl); (case hd => decide +kernel)) | (apply U3 11; (case hp => rfl); (case hd => decide +kernel))); (case hg => rfl); (case hy => (first | (apply Yi.a; constructor; all_goals (first | rfl | (constructor <;> omega) | (apply CellIs.own; (case h => repeat constructor); rfl) | (apply Cell3.own; (case h => repeat constructor); all_goals rfl))) | (apply Yi.b; constructor; all_goals (first | rfl | (constructor <;> omega) | (apply CellIs.own; (case h => repeat constructor); rfl) | (apply Cell3.own; (case h => repeat constructor); all_goals rfl))) | (apply Yi.c; constructor; all_goals (first | rfl | (constructor <;> omega) | (apply CellIs.own; (case h => repeat constructor); rfl) | (apply Cell3.own; (case h => repeat constructor); all_goals rfl)))))) | ((first | apply V0 | apply V1 | apply V2 (hw := H)); (case hg => rfl); try decide +kernel) | ((first | refine G0 H ?_ | (refine G1 H (fun _ _ _ _ h => h) (by decide +kernel) ?_; clear H; intro _ H)); simp only [enum, Nat.reduceAdd]) | (apply B0 (hw := H); (case hg => rfl); (case hd => first | exact hd_false | decide +kernel); (case hx => rfl); (case hc => rfl); clear H; intro bx _ H) | (apply B1 (hw := H); (case hg => rfl); (case hd => first | exact hd_false | decide +kernel); clear H; intro ax _ H) | go_step | (apply X0; (case hy => rfl); all_goals (intro hb; simp only [hb]; (try simp only [decide_eq_true_eq, decide_eq_false_iff_not, Bool.not_eq_true', Bool.not_eq_false', Bool.and_eq_true, Bool.or_eq_true, Bool.and_eq_false_iff, Bool.or_eq_false_iff] at hb); try (exfalso; omega)))) <;> try simp only [List.getElem_toArray, List.getElem_cons_zero, List.getElem_cons_succ, Act.put, evalT, evalC, evalF, List.setIfInBounds_toArray, List.set_cons_succ, List.set_cons_zero, List.getD_cons_succ, List.getD_cons_zero, Nat.reduceAdd, Nat.reduceMul, Nat.add_zero, Nat.zero_add, Int.toNat_natCast, Int.reduceToNat, List.eraseIdx_cons_succ, List.eraseIdx_cons_zero, cond_true, cond_false])
  go_loopg [2, 3] us.length (fun gg v1 v2 wr => ∃ (i : Nat) (vs : List HT), v1 = .int .i64 i ∧ v2 = .int .i64 ((us.length : Int) - 1 - i) ∧ i + gg = us.length ∧ 2 * i ≤ us.length + 1 ∧ vs.length = us.length ∧ (∀ m, m < us.length → vs[m]? = if m < i ∨ us.length - i ≤ m then us[us.length - 1 - m]? else us[m]?) ∧
   St w (fun b => (Value.slice (some ⟨g, 0, none⟩) us.length c).ownBlock = some b) noneZ [blk g (flatT vs ++ R) 25] trueF wr)
  case atStart => exact ⟨0, us, rfl, by simp, by omega, by omega, rfl, fun m hm => by rw [if_neg (by omega)], H⟩
  case round =>
   clear H
   obtain ⟨i, vs, rfl, rfl, hi, h2i, hvl, hvm, H⟩ := hrel
   by_cases hlt : (i : Int) < (us.length : Int) - 1 - i
   ·obtain ⟨j, hj⟩ : ∃ j : Nat, j = us.length - 1 - i := ⟨_, rfl⟩
    have ej : ((us.length : Int) - 1 - i) = (j : Int) := by omega
    rw [ej] at hlt ⊢
    have hu : vs[i]? = some vs[i] := List.getElem?_eq_getElem (by omega)
    have hv : vs[j]? = some vs[j] := List.getElem?_eq_getElem (by omega)
    generalize vs[i] = u at hu
    generalize vs[j] = v at hv
    have fu := flat_get (R := R) hu
    have fv := flat_get (R := R) hv
    have hvl2 : (flatT vs ++ R).length = c * 3 := by rw [List.length_append, flatT_length, hvl, ← flatT_length, ← List.length_append]; exact hRl
    repeat' ((first | (refine T_nil ?_) | ((first | apply U0 | (apply U1; (case hd => decide +kernel)) | (apply U2 (hw := H); (case hd => decide +kernel)) | (apply U3 1; (case hp => rfl); (case hd => decide +kernel)) | (apply U3 2; (case hp => rfl); (case hd => decide +kernel)) | (apply U3 3; (case hp => rfl); (case hd => decide +kernel)) | (apply U3 4; (case hp => rfl); (case hd => decide +kernel)) | (apply U3 5; (case hp => rfl); (case hd => decide +kernel)) | (apply U3 6; (case hp => rfl); (case hd => decide +kernel)) | (apply U3 7; (case hp => rfl); (case hd => decide +kernel)) | (apply U3 8; (case hp => rfl); (case hd => decide +kernel)) | (apply U3 9; (case hp => rfl); (case hd => decide +kernel)) | (apply U3 10; (case hp => rfl); (case hd => decide +kernel)) | (apply U3 11; (case hp => rfl); (case hd => decide +kernel))); (case hg => rfl); (case hy => (first | (apply Yi.a; constructor; all_goals (first | rfl | (constructor <;> omega) | (apply CellIs.own; (case h => repeat constructor); rfl) | (apply Cell3.own; (case h => repeat constructor); all_goals rfl) | exact .own (by repeat constructor) fv.1 fv.2.1 fv.2.2 | exact .own (by repeat constructor) fu.1 fu.2.1 fu.2.2)) | (apply Yi.b; constructor; all_goals (first | rfl | (constructor <;> omega) | (apply CellIs.own; (case h => repeat constructor); rfl) | (apply Cell3.own; (case h => repeat constructor); all_goals rfl) | exact .own (by repeat constructor) fv.1 fv.2.1 fv.2.2 | exact .own (by repeat constructor) fu.1 fu.2.1 fu.2.2)) | (apply Yi.c; constructor; all_goals (first | rfl | (constructor <;> omega) | (apply CellIs.own; (case h => repeat constructor); rfl) | (apply Cell3.own; (case h => repeat constructor); all_goals rfl) | exact .own (by repeat constructor) fv.1 fv.2.1 fv.2.2 | exact .own (by repeat constructor) fu.1 fu.2.1 fu.2.2))))) | ((first | apply V0 | apply V1 | apply V2 (hw := H)); (case hg => rfl); try decide +kernel) | ((first | refine G0 H ?_ | (refine G1 H (fun _ _ _ _ h => h) (by decide +kernel) ?_; clear H; intro _ H)); simp only [enum, Nat.reduceAdd]) | (apply B0 (hw := H); (case hg => rfl); (case hd => first | exact hd_false | decide +kernel); (case hx => rfl); (case hc => rfl); clear H; intro bx _ H) | (apply B1 (hw := H); (case hg => rfl); (case hd => first | exact hd_false | decide +kernel); clear H; intro ax _ H) | ((apply W0 (hw := H); (case hg => rfl); (case hd => first | exact hd_false | decide +kernel); (case hx => rfl); (case hy => rfl); (case hc => rfl); (case hn => repeat constructor); (case h1 => (rw [Bool.and_eq_true]; exact ⟨rfl, (by rw [Nat.ble_eq]; simp only [putL, List.length_cons, List.length_nil, List.length_set]; omega)⟩)); clear H; intro _ H; (try dsimp only at H); try simp only [evalT, evalC, List.getD_cons_succ, List.getD_cons_zero] at H)) | go_step | (apply X0; (case hy => rfl); all_goals (intro hb; simp only [hb]; (try simp only [decide_eq_true_eq, decide_eq_false_iff_not, Bool.not_eq_true', Bool.not_eq_false', Bool.and_eq_true, Bool.or_eq_true, Bool.and_eq_false_iff, Bool.or_eq_false_iff] at hb); try (exfalso; omega)))) <;> try simp only [List.getElem_toArray, List.getElem_cons_zero, List.getElem_cons_succ, Act.put, evalT, evalC, evalF, List.setIfInBounds_toArray, List.set_cons_succ, List.set_cons_zero, List.getD_cons_succ, List.getD_cons_zero, Nat.reduceAdd, Nat.reduceMul, Nat.add_zero, Nat.zero_add, Int.toNat_natCast, Int.reduceToNat, List.eraseIdx_cons_succ, List.eraseIdx_cons_zero, cond_true, cond_false])
    go_roundg (gk - 1)
    case measure => omega
    case rel =>
     have hni : i ≠ j := by omega
     refine ⟨i + 1, (vs.set i v).set j u, by simp, by congr 1; omega, by omega, by omega, by simp [hvl], fun m hm => ?_, ?_⟩
     ·have hmi := hvm i (by omega)
      have hmj := hvm j (by omega)
      rw [if_neg (by omega)] at hmi hmj
      rw [hu] at hmi
      rw [hv] at hmj
      by_cases h1 : m = j
      ·subst h1
       rw [List.getElem?_set_self (by simp; omega), if_pos (by omega), show us.length - 1 - m = i by omega, hmi]
      ·rw [List.getElem?_set_ne (by omega)]
       by_cases h2 : m = i
       ·subst h2
        rw [List.getElem?_set_self (by omega), if_pos (by omega), show us.length - 1 - m = j by omega, hmj]
       ·rw [List.getElem?_set_ne (by omega), hvm m hm]
        by_cases h3 : m < i ∨ us.length - i ≤ m
        ·rw [if_pos h3, if_pos (by omega)]
        ·rw [if_neg h3, if_neg (by omega)]
     ·rw [← flat_set (R := R) (vs.set i v) j u (by simp; omega), ← flat_set (R := R) vs i v (by omega)]
      exact H
   ·repeat' ((first | (refine T_nil ?_) | ((first | apply U0 | (apply U1; (case hd => decide +kernel)) | (apply U2 (hw := H); (case hd => decide +kernel)) | (apply U3 1; (case hp => rfl); (case hd => decide +kernel)) | (apply U3 2; (case hp => rfl); (case hd => decide +kernel)) | (apply U3 3; (case hp => rfl); (case hd => decide +kernel)) | (apply U3 4; (case hp => rfl); (case hd => decide +kernel)) | (apply U3 5; (case hp => rfl); (case hd => decide +kernel)) | (apply U3 6; (case hp => rfl); (case hd => decide +kernel)) | (apply U3 7; (case hp => rfl); (case hd => decide +kernel)) | (apply U3 8; (case hp => rfl); (case hd => decide +kernel)) | (apply U3 9; (case hp => rfl); (case hd => decide +kernel)) | (apply U3 10; (case hp => rfl); (case hd => decide +kernel)) | (apply U3 11; (case hp => rfl); (case hd => decide +kernel))); (case hg => rfl); (case hy => (first | (apply Yi.a; constructor; all_goals (first | rfl | (constructor <;> omega) | (apply CellIs.own; (case h => repeat constructor); rfl) | (apply Cell3.own; (case h => repeat constructor); all_goals rfl))) | (apply Yi.b; constructor; all_goals (first | rfl | (constructor <;> omega) | (apply CellIs.own; (case h => repeat constructor); rfl) | (apply Cell3.own; (case h => repeat constructor); all_goals rfl))) | (apply Yi.c; constructor; all_goals (first | rfl | (constructor <;> omega) | (apply CellIs.own; (case h => repeat constructor); rfl) | (apply Cell3.own; (case h => repeat constructor); all_goals rfl)))))) | ((first | apply V0 | apply V1 | apply V2 (hw := H)); (case hg => rfl); try decide +kernel) | ((first | refine G0 H ?_ | (refine G1 H (fun _ _ _ _ h => h) (by decide +kernel) ?_; clear H; intro _ H)); simp only [enum, Nat.reduceAdd]) | (apply B0 (hw := H); (case hg => rfl); (case hd => first | exact hd_false | decide +kernel); (case hx => rfl); (case hc => rfl); clear H; intro bx _ H) | (apply B1 (hw := H); (case hg => rfl); (case hd => first | exact hd_false | decide +kernel); clear H; intro ax _ H) | go_step | (apply X0; (case hy => rfl); all_goals (intro hb; simp only [hb]; (try simp only [decide_eq_true_eq, decide_eq_false_iff_not, Bool.not_eq_true', Bool.not_eq_false', Bool.and_eq_true, Bool.or_eq_true, Bool.and_eq_false_iff, Bool.or_eq_false_iff] at hb); try (exfalso; omega)))) <;> try simp only [List.getElem_toArray, List.getElem_cons_zero, List.getElem_cons_succ, Act.put, evalT, evalC, evalF, List.setIfInBounds_toArray, List.set_cons_succ, List.set_cons_zero, List.getD_cons_succ, List.getD_cons_zero, Nat.reduceAdd, Nat.reduceMul, Nat.add_zero, Nat.zero_add, Int.toNat_natCast, Int.reduceToNat, List.eraseIdx_cons_succ, List.eraseIdx_cons_zero, cond_true, cond_false])
    have hvs : vs = us.reverse := by
     apply List.ext_getElem?
     intro m
     by_cases hm : m < us.length
     ·rw [hvm m hm, List.getElem?_reverse hm]
      split
      ·rfl
      ·rw [show us.length - 1 - m = m by omega]
     ·rw [List.getElem?_eq_none (by omega), List.getElem?_eq_none (by simp; omega)]
    refine end_post (res0 rfl) ⟨rfl, ?_, H.ext⟩
    have hw : wr.heap[g]? = some (.cells (flatT vs ++ R).toArray _ (0, 0)) := H.own _ (List.mem_cons_self ..)
    refine ⟨by rw [flatT_length, List.length_reverse], .inr ⟨g, c, (flatT vs ++ R).toArray, rfl, Nat.zero_le _, hw, hle, hmax, ?_, ?_⟩⟩
    ·rw [List.size_toArray, List.length_append, flatT_length, hvl, ← flatT_length, ← List.length_append]; exact hRl
    ·show (flatT vs ++ R).take (us.length * 3) = _
     rw [List.take_append_of_le_length (by rw [flatT_length]; omega), List.take_of_length_le (by rw [flatT_length]; omega), hvs]
theorem zero_own2 (w w' : World) : Own w w' (.mk 0 0 none 0 []) :=
 ⟨⟨Rd_none, by simp [HT.blocks, HT.head, HT.blocksL], fun b hb => by simp [HT.blocks, HT.head, HT.blocksL] at hb⟩, fun b hb => by simp [HT.blocks, HT.head, HT.blocksL] at hb⟩
theorem row_lt {w : World} {E : TypeId} {sz : Nat} {v : Value} {n : Nat} {xs : List Value} (h : (rowR E sz v n xs).own w) : ∀ b, v.ownBlock = some b → b < w.heap.size := fun b hb => (World.ownsRow.lt (show w.ownsRow 0 E sz v n xs from h) b hb).2
set_option maxRecDepth 100000 in
set_option maxHeartbeats 1000000 in
theorem iw_SplitApp (t : HT) (x : T) (et : t.er = x) (Z : Zone) (w : World) (hr : Rd Z w t) (hs : T.sizeL x.kids ≤ 1048576) : Calls Try.prog 12 #[t.val] w fun e w' =>
   ∃ v u : HT, e = .returned (.tuple #[v.val, u.sl, .bool (saR x).2]) ∧ Grow w w' ∧ Own2 w w' v u ∧ v.er = (saR x).1.1 ∧ u.er = .mk 0 0 (saR x).1.2 := by
 subst et
 have H := St.init w noneZ Z (rdF_stable t) hr
 go_enter Try.func12, Try.ntmps12
 repeat' ((first | (refine T_nil ?_) | ((first | apply U0 | (apply U1; (case hd => decide +kernel)) | (apply U2 (hw := H); (case hd => decide +kernel)) | (apply U3 1; (case hp => rfl); (case hd => decide +kernel)) | (apply U3 2; (case hp => rfl); (case hd => decide +kernel)) | (apply U3 3; (case hp => rfl); (case hd => decide +kernel)) | (apply U3 4; (case hp => rfl); (case hd => decide +kernel)) | (apply U3 5; (case hp => rfl); (case hd => decide +kernel)) | (apply U3 6; (case hp => rfl); (case hd => decide +kernel)) | (apply U3 7; (case hp => rfl); (case hd => decide +kernel)) | (apply U3 8; (case hp => rfl); (case hd => decide +kernel)) | (apply U3 9; (case hp => rfl); (case hd => decide +kernel)) | (apply U3 10; (case hp => rfl); (case hd => decide +kernel)) | (apply U3 11; (case hp => rfl); (case hd => decide +kernel))); (case hg => rfl); (case hy => (first | (apply Yi.a; constructor; all_goals (first | rfl | (constructor <;> omega) | (apply CellIs.own; (case h => repeat constructor); rfl) | (apply Cell3.own; (case h => repeat constructor); all_goals rfl))) | (apply Yi.b; constructor; all_goals (first | rfl | (constructor <;> omega) | (apply CellIs.own; (case h => repeat constructor); rfl) | (apply Cell3.own; (case h => repeat constructor); all_goals rfl))) | (apply Yi.c; constructor; all_goals (first | rfl | (constructor <;> omega) | (apply CellIs.own; (case h => repeat constructor); rfl) | (apply Cell3.own; (case h => repeat constructor); all_goals rfl)))))) | ((first | apply V0 | apply V1 | apply V2 (hw := H)); (case hg => rfl); try decide +kernel) | ((first | refine G0 H ?_ | (refine G1 H (fun _ _ _ _ h => h) (by decide +kernel) ?_; clear H; intro _ H)); simp only [enum, Nat.reduceAdd]) | (apply B0 (hw := H); (case hg => rfl); (case hd => first | exact hd_false | decide +kernel); (case hx => rfl); (case hc => rfl); clear H; intro bx _ H) | (apply B1 (hw := H); (case hg => rfl); (case hd => first | exact hd_false | decide +kernel); clear H; intro ax _ H) | ((apply W0 (hw := H); (case hg => rfl); (case hd => first | exact hd_false | decide +kernel); (case hx => rfl); (case hy => rfl); (case hc => rfl); (case hn => repeat constructor); (case h1 => rfl); clear H; intro _ H; (try dsimp only at H); try simp only [putL, List.set_cons_succ, List.set_cons_zero, evalT, evalC, List.getD_cons_succ, List.getD_cons_zero, Nat.zero_add, Nat.reduceAdd] at H)) | ((apply C0 (hw := H); (case hg => rfl); (case hd => first | exact hd_false | decide +kernel); (case hxs => rfl); (case hc => exact iw_TermValid t _ _ H.per); clear H; intro _ H)) | go_step | (apply X0; (case hy => rfl); all_goals (intro hb; simp only [hb]; (try simp only [decide_eq_true_eq, decide_eq_false_iff_not, Bool.not_eq_true', Bool.not_eq_false', Bool.and_eq_true, Bool.or_eq_true, Bool.and_eq_false_iff, Bool.or_eq_false_iff] at hb); try (exfalso; omega)))) <;> try simp only [List.getElem_toArray, List.getElem_cons_zero, List.getElem_cons_succ, Act.put, evalT, evalC, evalF, List.setIfInBounds_toArray, List.set_cons_succ, List.set_cons_zero, List.getD_cons_succ, List.getD_cons_zero, Nat.reduceAdd, Nat.reduceMul, Nat.add_zero, Nat.zero_add, Int.toNat_natCast, Int.reduceToNat, List.eraseIdx_cons_succ, List.eraseIdx_cons_zero, cond_true, cond_false])
 ·have hv : (!validB t.er) = true := by assumption
  simp only [Bool.not_eq_true'] at hv
  ((try simp only [Exit.inBlock, Exit.then]); refine ret_post (res3 rfl (R_cell rfl (load3 (ST3.out) (H.cell at0 rfl) (H.cell at0 rfl) (H.cell at0 rfl))) (R_tmp rfl) (R_tmp rfl)) ?_; try simp only [List.getD_cons_succ, List.getD_cons_zero])
  have e : saR t.er = ((.mk 0 0 [], []), false) := if_neg (by rw [hv]; simp)
  rw [e]
  refine ⟨.mk 0 0 none 0 [], .mk 0 0 none 0 [], rfl, H.ext, ⟨⟨(zero_own2 w _).own, (zero_own2 w _).own, fun b hb => ?_⟩, fun b hb => ?_⟩, rfl, rfl⟩ <;> simp [HT.blocks, HT.head, HT.blocksL] at hb
 have hv : (!validB t.er) = false := by assumption
 simp only [Bool.not_eq_false'] at hv
 have e : saR t.er = (saT 400 t.er [], true) := if_pos hv
 have hsz := validB_size hv
 have hsum0 := (sa_valid 400 t.er [] hv (by simp)).2.2.2
 have H := (H.pushRow 25 3).pushNone
 go_loopg [5] 400 (fun g s wr => ∃ (us : List HT) (sa : Option Addr) (sc : Nat) (u : HT), s = .slice sa us.length sc ∧ us.length + g = 400 ∧ validB u.er = true ∧ u.er.size ≤ g ∧ (∀ Z w, Rd Z w t → Rd Z w u) ∧ saT g u.er (us.reverse.map HT.er) = saT 400 t.er [] ∧
  St w noneZ Z [kidsR us, rowR 25 3 (.slice sa us.length sc) us.length (flatT us), blk ax [.int .i64 0, .int .i64 0, .slice none 0 0] 25, blk bx [.int .i64 u.k, .int .i64 u.n, .slice u.a u.kids.length u.cap] 25] (rdF t) wr)
 case atStart => exact ⟨[], _, _, t, rfl, rfl, hv, hsz, fun _ _ h => h, rfl, H⟩
 case round =>
  clear H
  obtain ⟨us, sa, sc, u, rfl, hi, hvu, hG, hsub, hspl, H⟩ := hrel
  match gk, hi, hG, hspl with
  | 0, hi, hG, hspl => have := size_pos u.er; omega
  | g + 1, hi, hG, hspl =>
   have hsu := validB_size hvu
   rw [saT] at hspl
   by_cases hk : u.k = 5
   ·have hk' : u.er.k = 5 := by rw [HT.er_k]; exact hk
    obtain ⟨hkk, hva, hvb, hsab⟩ := app_kids hvu hk'
    rw [if_pos hk'] at hspl
    obtain ⟨x, y, hxy⟩ : ∃ x y, u.kids = [x, y] := by
     have hl : u.kids.length = 2 := by rw [← HT.er_len, hkk]; rfl
     match hh : u.kids, hl with
     | [x, y], _ => exact ⟨x, y, rfl⟩
    have e0 : kd u.er 0 = x.er := by unfold kd; rw [HT.er_kids, hxy]; rfl
    have e1 : kd u.er 1 = y.er := by unfold kd; rw [HT.er_kids, hxy]; rfl
    rw [e0, e1] at hspl hsab
    rw [e0] at hva
    rw [e1] at hvb
    have hx : u.kids[0]? = some x := by rw [hxy]; rfl
    have hy : u.kids[1]? = some y := by rw [hxy]; rfl
    have hl2 : ((u.kids.length : Nat) : Int) = 2 := by rw [hxy]; rfl
    obtain ⟨b, off, ha⟩ := (hsub _ _ hr).addr hx
    have hsy := validB_size hvb
    have hpy := size_pos y.er
    repeat' ((first | (refine T_nil ?_) | ((first | apply U0 | (apply U1; (case hd => decide +kernel)) | (apply U2 (hw := H); (case hd => decide +kernel)) | (apply U3 1; (case hp => rfl); (case hd => decide +kernel)) | (apply U3 2; (case hp => rfl); (case hd => decide +kernel)) | (apply U3 3; (case hp => rfl); (case hd => decide +kernel)) | (apply U3 4; (case hp => rfl); (case hd => decide +kernel)) | (apply U3 5; (case hp => rfl); (case hd => decide +kernel)) | (apply U3 6; (case hp => rfl); (case hd => decide +kernel)) | (apply U3 7; (case hp => rfl); (case hd => decide +kernel)) | (apply U3 8; (case hp => rfl); (case hd => decide +kernel)) | (apply U3 9; (case hp => rfl); (case hd => decide +kernel)) | (apply U3 10; (case hp => rfl); (case hd => decide +kernel)) | (apply U3 11; (case hp => rfl); (case hd => decide +kernel))); (case hg => rfl); (case hy => (first | (apply Yi.a; constructor; all_goals (first | rfl | (constructor <;> omega) | (apply CellIs.own; (case h => repeat constructor); rfl) | (apply Cell3.own; (case h => repeat constructor); all_goals rfl) | exact ha | exact .mk fun w h => (Rd.elem (hsub _ _ h.per) ha hx).1 | exact .mk fun w h => (Rd.elem (hsub _ _ h.per) ha hy).1)) | (apply Yi.b; constructor; all_goals (first | rfl | (constructor <;> omega) | (apply CellIs.own; (case h => repeat constructor); rfl) | (apply Cell3.own; (case h => repeat constructor); all_goals rfl) | exact ha | exact .mk fun w h => (Rd.elem (hsub _ _ h.per) ha hx).1 | exact .mk fun w h => (Rd.elem (hsub _ _ h.per) ha hy).1)) | (apply Yi.c; constructor; all_goals (first | rfl | (constructor <;> omega) | (apply CellIs.own; (case h => repeat constructor); rfl) | (apply Cell3.own; (case h => repeat constructor); all_goals rfl) | exact ha | exact .mk fun w h => (Rd.elem (hsub _ _ h.per) ha hx).1 | exact .mk fun w h => (Rd.elem (hsub _ _ h.per) ha hy).1))))) | ((first | apply V0 | apply V1 | apply V2 (hw := H)); (case hg => rfl); try decide +kernel) | ((first | refine G0 H ?_ | (refine G1 H (fun _ _ _ _ h => h) (by decide +kernel) ?_; clear H; intro _ H)); simp only [enum, Nat.reduceAdd]) | (apply B0 (hw := H); (case hg => rfl); (case hd => first | exact hd_false | decide +kernel); (case hx => rfl); (case hc => rfl); clear H; intro bx _ H) | (apply B1 (hw := H); (case hg => rfl); (case hd => first | exact hd_false | decide +kernel); clear H; intro ax _ H) | ((apply W0 (hw := H); (case hg => rfl); (case hd => first | exact hd_false | decide +kernel); (case hx => rfl); (case hy => rfl); (case hc => rfl); (case hn => repeat constructor); (case h1 => rfl); clear H; intro _ H; (try dsimp only at H); try simp only [putL, List.set_cons_succ, List.set_cons_zero, evalT, evalC, List.getD_cons_succ, List.getD_cons_zero, Nat.zero_add, Nat.reduceAdd] at H)) | ((apply C1; (case hg => rfl); (case hd => first | exact hd_false | decide +kernel); (case hxs => rfl); (case hc => exact iw_own y _ _ (Rd.elem (hsub _ _ H.per) ha hy).2 (by omega)); rintro _ _ ⟨z, rfl, hgr, ho, hez⟩; replace H := H.pushTree hgr ho; (try simp only [List.set_cons_succ, List.set_cons_zero] at H); refine ⟨_, rfl, _, (by first | exact fun _ _ h => h | exact fun _ _ h => h.tail | exact fun _ _ h => h.unfact (by repeat' (first | exact Stable.true | exact rdF_stable _ | exact iF_stable _ _ | apply Stable.and)) (fun _ _ h => h.2) | exact nofun), H, ?_⟩)) | ((apply B2 (hw := H); (case hg => rfl); (case hd => first | exact hd_false | decide +kernel); (case hvs => (simp only [List.map_cons, List.map_nil, evalT, evalC, List.getD_cons_succ, List.getD_cons_zero]; rfl)); (case hcs => (simp only [flatC, List.flatMap_cons, List.flatMap_nil, Value.cells, HT.val, List.cons_append, List.nil_append, List.append_nil]; rfl)); (case hix => rfl); (case hn => rfl); (case hsz => rfl); (case hb => rfl); clear H; intro sx _ H)) | ((apply A1 (hw := H) (i := 3) (p := 0); (case hg => rfl); (case hd => first | exact hd_false | decide +kernel); (case hx => rfl); (case hy => rfl); (case hi => rfl); (case hq => rfl); (case hl => rfl); (case h1 => rfl); (case hbytes => omega); (case h63 => omega); clear H; intro ra rc _ H; (try simp only [List.set_cons_succ, List.set_cons_zero] at H))) | go_step | (apply X0; (case hy => rfl); all_goals (intro hb; simp only [hb]; (try simp only [decide_eq_true_eq, decide_eq_false_iff_not, Bool.not_eq_true', Bool.not_eq_false', Bool.and_eq_true, Bool.or_eq_true, Bool.and_eq_false_iff, Bool.or_eq_false_iff] at hb); try (exfalso; omega)))) <;> try simp only [List.getElem_toArray, List.getElem_cons_zero, List.getElem_cons_succ, Act.put, evalT, evalC, evalF, List.setIfInBounds_toArray, List.set_cons_succ, List.set_cons_zero, List.getD_cons_succ, List.getD_cons_zero, Nat.reduceAdd, Nat.reduceMul, Nat.add_zero, Nat.zero_add, Int.toNat_natCast, Int.reduceToNat, List.eraseIdx_cons_succ, List.eraseIdx_cons_zero, cond_true, cond_false])
    have H := H.tail.snoc
    go_roundg g
    case measure => omega
    case rel =>
     refine ⟨us ++ [z], ra, rc, x, by simp, by simp; omega, hva, by omega, fun Z w h => (Rd.elem (hsub Z w h) ha hx).2, ?_, by rw [flatT_append, List.length_append]; exact H⟩
     rw [← hspl, List.reverse_append]
     simp only [List.reverse_cons, List.reverse_nil, List.nil_append, List.cons_append, List.map_cons, hez]
   ·have hk' : ¬ u.er.k = 5 := by rw [HT.er_k]; exact hk
    rw [if_neg hk'] at hspl
    repeat' ((first | (refine T_nil ?_) | ((first | apply U0 | (apply U1; (case hd => decide +kernel)) | (apply U2 (hw := H); (case hd => decide +kernel)) | (apply U3 1; (case hp => rfl); (case hd => decide +kernel)) | (apply U3 2; (case hp => rfl); (case hd => decide +kernel)) | (apply U3 3; (case hp => rfl); (case hd => decide +kernel)) | (apply U3 4; (case hp => rfl); (case hd => decide +kernel)) | (apply U3 5; (case hp => rfl); (case hd => decide +kernel)) | (apply U3 6; (case hp => rfl); (case hd => decide +kernel)) | (apply U3 7; (case hp => rfl); (case hd => decide +kernel)) | (apply U3 8; (case hp => rfl); (case hd => decide +kernel)) | (apply U3 9; (case hp => rfl); (case hd => decide +kernel)) | (apply U3 10; (case hp => rfl); (case hd => decide +kernel)) | (apply U3 11; (case hp => rfl); (case hd => decide +kernel))); (case hg => rfl); (case hy => (first | (apply Yi.a; constructor; all_goals (first | rfl | (constructor <;> omega) | (apply CellIs.own; (case h => repeat constructor); rfl) | (apply Cell3.own; (case h => repeat constructor); all_goals rfl))) | (apply Yi.b; constructor; all_goals (first | rfl | (constructor <;> omega) | (apply CellIs.own; (case h => repeat constructor); rfl) | (apply Cell3.own; (case h => repeat constructor); all_goals rfl))) | (apply Yi.c; constructor; all_goals (first | rfl | (constructor <;> omega) | (apply CellIs.own; (case h => repeat constructor); rfl) | (apply Cell3.own; (case h => repeat constructor); all_goals rfl)))))) | ((first | apply V0 | apply V1 | apply V2 (hw := H)); (case hg => rfl); try decide +kernel) | ((first | refine G0 H ?_ | (refine G1 H (fun _ _ _ _ h => h) (by decide +kernel) ?_; clear H; intro _ H)); simp only [enum, Nat.reduceAdd]) | (apply B0 (hw := H); (case hg => rfl); (case hd => first | exact hd_false | decide +kernel); (case hx => rfl); (case hc => rfl); clear H; intro bx _ H) | (apply B1 (hw := H); (case hg => rfl); (case hd => first | exact hd_false | decide +kernel); clear H; intro ax _ H) | ((apply W0 (hw := H); (case hg => rfl); (case hd => first | exact hd_false | decide +kernel); (case hx => rfl); (case hy => rfl); (case hc => rfl); (case hn => repeat constructor); (case h1 => rfl); clear H; intro _ H; (try dsimp only at H); try simp only [putL, List.set_cons_succ, List.set_cons_zero, evalT, evalC, List.getD_cons_succ, List.getD_cons_zero, Nat.zero_add, Nat.reduceAdd] at H)) | go_step | (apply X0; (case hy => rfl); all_goals (intro hb; simp only [hb]; (try simp only [decide_eq_true_eq, decide_eq_false_iff_not, Bool.not_eq_true', Bool.not_eq_false', Bool.and_eq_true, Bool.or_eq_true, Bool.and_eq_false_iff, Bool.or_eq_false_iff] at hb); try (exfalso; omega)))) <;> try simp only [List.getElem_toArray, List.getElem_cons_zero, List.getElem_cons_succ, Act.put, evalT, evalC, evalF, List.setIfInBounds_toArray, List.set_cons_succ, List.set_cons_zero, List.getD_cons_succ, List.getD_cons_zero, Nat.reduceAdd, Nat.reduceMul, Nat.add_zero, Nat.zero_add, Int.toNat_natCast, Int.reduceToNat, List.eraseIdx_cons_succ, List.eraseIdx_cons_zero, cond_true, cond_false])
    have hrow := H.own _ (List.mem_cons_of_mem _ (List.mem_cons_self ..))
    (apply C2; (case hg => rfl); (case hd => first | exact hd_false | decide +kernel); (case hxs => rfl); (case hc => exact i_Reverse us (by omega) sa sc _ hrow (row_lt hrow)); rintro _ _ ⟨rfl, hro, hrx⟩; (first | replace H := H.upd (n := 1) rfl hrx (rowR_local _ _ _ _ _) hro (fun b hb => ⟨.inl hb, row_lt hro b hb⟩)); (try simp only [List.set_cons_succ, List.set_cons_zero] at H); refine ⟨_, rfl, _, H, ?_⟩)
    have H := H.permKids (List.reverse_perm us).symm
    obtain ⟨a', cap', hv2, H⟩ := H.swap.plantRow rfl (List.length_reverse).symm 0 0
    injection hv2 with h1 h2 h3
    subst h1 h3
    repeat' ((first | (refine T_nil ?_) | ((first | apply U0 | (apply U1; (case hd => decide +kernel)) | (apply U2 (hw := H); (case hd => decide +kernel)) | (apply U3 1; (case hp => rfl); (case hd => decide +kernel)) | (apply U3 2; (case hp => rfl); (case hd => decide +kernel)) | (apply U3 3; (case hp => rfl); (case hd => decide +kernel)) | (apply U3 4; (case hp => rfl); (case hd => decide +kernel)) | (apply U3 5; (case hp => rfl); (case hd => decide +kernel)) | (apply U3 6; (case hp => rfl); (case hd => decide +kernel)) | (apply U3 7; (case hp => rfl); (case hd => decide +kernel)) | (apply U3 8; (case hp => rfl); (case hd => decide +kernel)) | (apply U3 9; (case hp => rfl); (case hd => decide +kernel)) | (apply U3 10; (case hp => rfl); (case hd => decide +kernel)) | (apply U3 11; (case hp => rfl); (case hd => decide +kernel))); (case hg => rfl); (case hy => (first | (apply Yi.a; constructor; all_goals (first | rfl | (constructor <;> omega) | (apply CellIs.own; (case h => repeat constructor); rfl) | (apply Cell3.own; (case h => repeat constructor); all_goals rfl))) | (apply Yi.b; constructor; all_goals (first | rfl | (constructor <;> omega) | (apply CellIs.own; (case h => repeat constructor); rfl) | (apply Cell3.own; (case h => repeat constructor); all_goals rfl))) | (apply Yi.c; constructor; all_goals (first | rfl | (constructor <;> omega) | (apply CellIs.own; (case h => repeat constructor); rfl) | (apply Cell3.own; (case h => repeat constructor); all_goals rfl)))))) | ((first | apply V0 | apply V1 | apply V2 (hw := H)); (case hg => rfl); try decide +kernel) | ((first | refine G0 H ?_ | (refine G1 H (fun _ _ _ _ h => h) (by decide +kernel) ?_; clear H; intro _ H)); simp only [enum, Nat.reduceAdd]) | (apply B0 (hw := H); (case hg => rfl); (case hd => first | exact hd_false | decide +kernel); (case hx => rfl); (case hc => rfl); clear H; intro bx _ H) | (apply B1 (hw := H); (case hg => rfl); (case hd => first | exact hd_false | decide +kernel); clear H; intro ax _ H) | ((apply W0 (hw := H); (case hg => rfl); (case hd => first | exact hd_false | decide +kernel); (case hx => rfl); (case hy => rfl); (case hc => rfl); (case hn => repeat constructor); (case h1 => rfl); clear H; intro _ H; (try dsimp only at H); try simp only [putL, List.set_cons_succ, List.set_cons_zero, evalT, evalC, List.getD_cons_succ, List.getD_cons_zero, Nat.zero_add, Nat.reduceAdd] at H)) | ((apply C1; (case hg => rfl); (case hd => first | exact hd_false | decide +kernel); (case hxs => rfl); (case hc => exact iw_own u _ _ (hsub _ _ H.per) (by omega)); rintro _ _ ⟨z, rfl, hgr, ho, hez⟩; replace H := H.pushTree hgr ho; (try simp only [List.set_cons_succ, List.set_cons_zero] at H); refine ⟨_, rfl, _, (by first | exact fun _ _ h => h | exact fun _ _ h => h.tail | exact fun _ _ h => h.unfact (by repeat' (first | exact Stable.true | exact rdF_stable _ | exact iF_stable _ _ | apply Stable.and)) (fun _ _ h => h.2) | exact nofun), H, ?_⟩)) | go_step | (apply X0; (case hy => rfl); all_goals (intro hb; simp only [hb]; (try simp only [decide_eq_true_eq, decide_eq_false_iff_not, Bool.not_eq_true', Bool.not_eq_false', Bool.and_eq_true, Bool.or_eq_true, Bool.and_eq_false_iff, Bool.or_eq_false_iff] at hb); try (exfalso; omega)))) <;> try simp only [List.getElem_toArray, List.getElem_cons_zero, List.getElem_cons_succ, Act.put, evalT, evalC, evalF, List.setIfInBounds_toArray, List.set_cons_succ, List.set_cons_zero, List.getD_cons_succ, List.getD_cons_zero, Nat.reduceAdd, Nat.reduceMul, Nat.add_zero, Nat.zero_add, Int.toNat_natCast, Int.reduceToNat, List.eraseIdx_cons_succ, List.eraseIdx_cons_zero, cond_true, cond_false])
    ((try simp only [Exit.inBlock, Exit.then]); refine ret_post (res3 rfl (R_cell rfl (load3 (ST3.out) (H.cell at2 rfl) (H.cell at2 rfl) (H.cell at2 rfl))) (R_tmp rfl) (R_tmp rfl)) ?_; try simp only [List.getD_cons_succ, List.getD_cons_zero])
    rw [e]
    refine ⟨z, .mk 0 0 sa sc us.reverse, ?_, H.ext, H.outTwo, ?_, ?_⟩
    ·simp only [HT.sl, HT.a, HT.kids, HT.cap, List.length_reverse]; rfl
    ·rw [← hspl]; exact hez
    ·rw [← hspl, HT.er_eq]; rfl
end Go.Proofs.Ytgchmppmecnniaa
end
section
namespace Go.Ab
open Go Go.Dk
theorem abs_call {P : Program} [DrM P] {S : Say} (hp : PrimsOK P S) (hib : ∀ f, S.D.ib f = true → extIB P f) {f : FuncId} {fn : Func} {n : Nat} {args outs : List V1} {vals : List Value} {w : World} {Z : Zone}
   (hfn : P.funcs[f]? = some fn) (hb : fn.body.isSome = true) (hr : All2 (RV1 [] Z w) args vals) (h : evF P S n f args [] = some (outs, [])) :
   Calls P f vals.toArray w fun e w' => ∃ xs : List Value, e = .returned (if h : xs.toArray.size = 1 then xs.toArray[0] else .tuple xs.toArray) ∧ Grow w w' ∧ All2 (RV1 [] (fun b => Z b ∨ w.heap.size ≤ b) w') outs xs := by
 have hr' : All2 (RV [] Z w) (args.map .v) vals := by
  refine ⟨by simpa using hr.1, fun i a b ha hb => ?_⟩
  rw [List.getElem?_map] at ha
  cases hx : args[i]? with
  | none => rw [hx] at ha; cases ha
  | some x =>
   rw [hx] at ha
   obtain rfl : AV.v x = a := Option.some.inj ha
   exact hr.2 i x b hx hb
 have h0 : InvG w noneZ Z 0 [] ⟨args.map .v, []⟩ vals w := by
  refine ⟨St.init w noneZ Z (relF_stable _ _ _) ⟨hr', All2.nil⟩, fun j _ hl => by simp at hl, fun k hk => hk.elim⟩
 have := abs_sound hp hib n f fn args [] _ hfn hb h w noneZ Z [] vals w h0
 refine this.mono fun e w' ⟨xs, G', he, hI, _⟩ => ?_
 have hG : G' = [] := hI.st.per.2.nil_inv
 subst hG
 have hs := relF_stable ⟨outs.map .v, []⟩ [] xs _ (fun b => Z b ∨ w.heap.size ≤ b) w' w' (fun b hb _ => ⟨hb.1, rfl⟩) hI.st.per
 refine ⟨xs, he, hI.st.ext, ?_⟩
 refine ⟨by simpa using hs.1.1, fun i a b ha hb => ?_⟩
 exact hs.1.2 i (.v a) b (by rw [List.getElem?_map, ha]; rfl) hb
theorem terms_res {Z : Zone} {w : World} {ts : List T} {x : Value} (k n : Int) (h : SlR Z w (.ts ts) x) : ∃ u : HT, x = u.sl ∧ Rd Z w u ∧ u.er = .mk k n ts := by
 obtain ⟨a, cap, xs, rfl, hc, hm, ⟨hs, h1, h2, h3⟩, h4⟩ := h
 have hl : hs.length = ts.length := by rw [← h1]; simp
 refine ⟨.mk k n a cap hs, ?_, ?_, ?_⟩
 ·simp only [HT.sl, HT.a, HT.kids, HT.cap, hl, SD.len]
 ·rcases h4 with h4 | ⟨b, off, rfl, hz, hat⟩
  ·have : hs = [] := by
     cases hs with
     | nil => rfl
     | cons t hs => rw [h4] at h2; simp [flatT_cons] at h2
   subst this
   exact Rd_none
  ·simp only [SD.len, maxLen] at hc hm
   refine Rd_mk (by omega) (by omega) hz (RdL_of_cells hs off (fun j u hj => hat j u (by rw [h2]; exact hj)) h3)
 ·rw [HT.er_eq]
  simp only [HT.k, HT.n, HT.kids, h1]
theorem term_res {Z : Zone} {w : World} {t : T} {x : Value} (h : RV1 [] Z w (.agg [.int .i64 t.k, .int .i64 t.n, .fr (.ts t.kids)]) x) : ∃ u : HT, x = u.val ∧ Rd Z w u ∧ u.er = t := by
 obtain ⟨xs, rfl, h1⟩ := h
 obtain ⟨a, xs, rfl, ha, h1⟩ := h1.cons_inv
 obtain ⟨b, xs, rfl, hb, h1⟩ := h1.cons_inv
 obtain ⟨c, xs, rfl, hc, h1⟩ := h1.cons_inv
 obtain rfl := h1.nil_inv
 obtain ⟨u, rfl, hu, he⟩ := terms_res t.k t.n hc.1
 obtain rfl : a = .int .i64 t.k := ha.1
 obtain rfl : b = .int .i64 t.n := hb.1
 have e1 : u.k = t.k := by rw [← HT.er_k, he]; rfl
 have e2 : u.n = t.n := by rw [← HT.er_n, he]; rfl
 refine ⟨u, ?_, hu, by rw [he]; cases t; rfl⟩
 rw [← e1, ← e2]
 cases u; rfl
theorem term_arg' {t : HT} {w : World} {Z : Zone} (h : Rd Z w t) : RV1 [] Z w (.agg [.int .i64 t.er.k, .int .i64 t.er.n, .fr (.ts t.er.kids)]) t.val := by
 refine ⟨[.int .i64 t.k, .int .i64 t.n, t.sl], ?_, All2.cons ?_ (All2.cons ?_ (All2.cons ⟨Rd_sl h, rfl⟩ All2.nil))⟩
 ·cases t; rfl
 ·rw [HT.er_k]; exact ⟨rfl, rfl⟩
 ·rw [HT.er_n]; exact ⟨rfl, rfl⟩
theorem terms_arg {t : HT} {w : World} {Z : Zone} (h : Rd Z w t) : RV1 [] Z w (.one (.fr (.ts t.er.kids))) t.sl := ⟨Rd_sl h, fun _ => rfl⟩
theorem ints_arg {l : List Int} {x : Value} {w : World} {Z : Zone} (h : SlR Z w (.is l) x) : RV1 [] Z w (.one (.fr (.is l))) x := ⟨h, fun _ => by obtain ⟨a, cap, xs, rfl, _⟩ := h; rfl⟩
theorem bool_res {b : Bool} {x : Value} {w : World} {Z : Zone} (h : RV1 [] Z w (.one (.bool b)) x) : x = .bool b := h.1
end Go.Ab
end
section
namespace Go.Proofs.Ytgchmppmecnniaa
open Go Go.Ab
open Go.Dk (Rd HT Grow T St)
theorem saP_some {args : List V1} {out : List V1 × List AObj} (h : saP args = some out) : ∃ (k n : Int) (ks : List T), args = [.agg [.int .i64 k, .int .i64 n, .fr (.ts ks)]] ∧ T.sizeL ks ≤ 1048576 ∧
   out = ([.agg [.int .i64 (saR (.mk k n ks)).1.1.k, .int .i64 (saR (.mk k n ks)).1.1.n, .fr (.ts (saR (.mk k n ks)).1.1.kids)], .one (.fr (.ts (saR (.mk k n ks)).1.2)), .one (.bool (saR (.mk k n ks)).2)], []) := by
 unfold saP at h
 split at h
 ·rename_i k n ks
  split at h
  ·rename_i hz
   exact ⟨k, n, ks, rfl, hz, (Option.some.inj h).symm⟩
  ·cases h
 ·cases h
theorem primF_some {f : FuncId} {g : List V1 → OR} (h : primF f = some g) : f = 12 ∧ g = saP := by
 unfold primF at h
 cases hb : Nat.beq f 12 with
 | true => rw [hb] at h; exact ⟨Nat.eq_of_beq_eq_true hb, (Option.some.inj h).symm⟩
 | false => rw [hb] at h; cases h
theorem hprim : PrimsOK Try.prog SS := by
 intro f g args out hf hg w0 M Z0 G vals w hI
 obtain ⟨rfl, rfl⟩ := primF_some hf
 obtain ⟨k, n, ks, rfl, hz, rfl⟩ := saP_some hg
 have hG : G = [] := hI.st.per.2.nil_inv
 subst hG
 obtain ⟨x, xs, rfl, h1, h2⟩ := hI.st.per.1.cons_inv
 obtain rfl := h2.nil_inv
 obtain ⟨t, rfl, hr, ht⟩ := term_res (t := .mk k n ks) h1
 refine (iw_SplitApp t _ ht _ w hr hz).mono fun e w' ⟨v, u, he, hgr, ho, ev, eu⟩ => ?_
 have hv : Rd (fun b => Go.Dk.zone w0 Z0 [] b ∨ w.heap.size ≤ b) w' v := Rd.frame v ho.own.1.1 fun b hb => ⟨.inr (ho.new b (.inl hb)), rfl⟩
 have hu : Rd (fun b => Go.Dk.zone w0 Z0 [] b ∨ w.heap.size ≤ b) w' u := Rd.frame u ho.own.2.1.1 fun b hb => ⟨.inr (ho.new b (.inr hb)), rfl⟩
 have a1 := term_arg' hv
 have a2 := terms_arg hu
 rw [ev] at a1
 rw [eu] at a2
 have st : St w0 M Z0 [] (relF ⟨[.agg [.int .i64 (saR (.mk k n ks)).1.1.k, .int .i64 (saR (.mk k n ks)).1.1.n, .fr (.ts (saR (.mk k n ks)).1.1.kids)], .one (.fr (.ts (saR (.mk k n ks)).1.2)), .one (.bool (saR (.mk k n ks)).2)].map .v, []⟩ [] [v.val, u.sl, .bool (saR (.mk k n ks)).2]) w' := by
  have s0 : St w0 M Z0 [] (relF ⟨[.agg [.int .i64 k, .int .i64 n, .fr (.ts ks)]].map .v, []⟩ [] [t.val]) w := hI.st
  refine (s0.call hgr (relF_stable _ _ _) ?_).unfact (relF_stable _ _ _) (fun _ _ h => h.1)
  exact ⟨All2.cons a1 (All2.cons a2 (All2.cons ⟨rfl, fun _ => rfl⟩ All2.nil)), All2.nil⟩
 refine ⟨[v.val, u.sl, .bool (saR (.mk k n ks)).2], [], he, ⟨st, fun j _ hl => by simp at hl, hI.mz⟩, UpW.refl _⟩
end Go.Proofs.Ytgchmppmecnniaa
end
section
namespace Go.Proofs.Ytgchmppmecnniaa
open Go Go.Ab Go.Dk
def Ev (f : FuncId) (args : List V1) (h : List AObj) (r : List V1 × List AObj) : Prop := ∃ N, ∀ n, N ≤ n → FF n f args h = some r
theorem hib : ∀ f, SS.D.ib f = true → extIB Try.prog f := by
 intro f hf
 first
 | exact hibX f hf
 | exact absurd hf (by decide)
 | cases hf
-- hprim: see XPr
theorem Ev.of {f : FuncId} {args : List V1} {h : List AObj} {r : List V1 × List AObj} (N : Nat) (hh : ∀ n, N ≤ n → FF (n + 1) f args h = some r) : Ev f args h r :=
 ⟨N + 1, fun n hn => by obtain ⟨m, rfl⟩ : ∃ m, n = m + 1 := ⟨n - 1, by omega⟩; exact hh m (by omega)⟩
theorem wrap64 {a : Int} (h : -9223372036854775808 ≤ a ∧ a ≤ 9223372036854775807) : IntKind.i64.wrap a = a := IntWalk.i64_in _ h
theorem ik_self (a : IntKind) : ikEq a a = true := by simp [ikEq]
theorem nb_self (a : Nat) : Nat.beq a a = true := Nat.beq_refl a
theorem cond_dec {α : Type} (p : Prop) [Decidable p] (a b : α) : cond (decide p) a b = if p then a else b := by by_cases h : p <;> simp [h]
section
variable {V W : Type} (l : List V1) (c : List SV) (o : List AObj)
theorem c_rInt (a : IntKind) (n : Int) (k) : rInt a (.one (.int a n) :: l) k = k n l := by simp [rInt, ikEq]
theorem c_rBool (b : Bool) (k) : rBool (.one (.bool b) :: l) k = k b l := rfl
theorem c_rStr (x : ByteArray) (k) : rStr (.one (.str x) :: l) k = k x l := rfl
theorem c_rTs (x : List T) (k) : rTs (.one (.fr (.ts x)) :: l) k = k x l := rfl
theorem c_rIs (x : List Int) (k) : rIs (.one (.fr (.is x)) :: l) k = k x l := rfl
theorem c_rIss (x : List (List Int)) (k) : rIss (.one (.fr (.iss x)) :: l) k = k x l := rfl
theorem c_rSs (x : List ByteArray) (k) : rSs (.one (.fr (.ss x)) :: l) k = k x l := rfl
theorem c_rBs (x : List UInt8) (k) : rBs (.one (.fr (.bs x)) :: l) k = k x l := rfl
theorem c_rTerm (a b : Int) (x : List T) (k) : rTerm (.agg [.int .i64 a, .int .i64 b, .fr (.ts x)] :: l) k = k (.mk a b x) l := rfl
theorem c_rOwnT (j : Nat) (a b : Int) (k) : rOwnT j (.agg [.int .i64 a, .int .i64 b, .own j 0] :: l) k = k a b l := by simp [rOwnT]
theorem c_rOwn (j : Nat) (k) : rOwn j (.one (.own j 0) :: l) k = k l := by simp [rOwn]
theorem c_rPtr (j : Nat) (k) : rPtr j (.one (.ptr j 0) :: l) k = k l := by simp [rPtr]
theorem c_nilV (k) : nilV [] k = k := rfl
theorem c_nilO (k) : nilO [] k = k := rfl
theorem c_objC (x : List SV) (k) : objC (.cells x :: o) k = k x o := rfl
theorem c_dropC (x : AObj) (k) : dropC (x :: o) k = k o := rfl
theorem c_intC (a : IntKind) (n : Int) (k) : intC a (.int a n :: c) k = k n c := by simp [intC, ikEq]
theorem c_boolC (b : Bool) (k) : boolC (.bool b :: c) k = k b c := rfl
theorem c_strC (x : ByteArray) (k) : strC (.str x :: c) k = k x c := rfl
theorem c_tsC (x : List T) (k) : tsC (.fr (.ts x) :: c) k = k x c := rfl
theorem c_isC (x : List Int) (k) : isC (.fr (.is x) :: c) k = k x c := rfl
theorem c_issC (x : List (List Int)) (k) : issC (.fr (.iss x) :: c) k = k x c := rfl
theorem c_ssC (x : List ByteArray) (k) : ssC (.fr (.ss x) :: c) k = k x c := rfl
theorem c_bsC (x : List UInt8) (k) : bsC (.fr (.bs x) :: c) k = k x c := rfl
theorem c_anyC (x : SV) (k) : anyC (x :: c) k = k c := rfl
theorem c_nilC (k) : nilC [] k = k := rfl
theorem c_arrTs (e : TypeId) (x : List T) (k) : arrTsC e (.arr e (.ts x) 0 false :: o) k = k x o := by simp [arrTsC]
theorem c_arrIs (e : TypeId) (x : List Int) (k) : arrIsC e (.arr e (.is x) 0 false :: o) k = k x o := by simp [arrIsC]
theorem c_arrIss (e : TypeId) (x : List (List Int)) (k) : arrIssC e (.arr e (.iss x) 0 false :: o) k = k x o := by simp [arrIssC]
theorem c_arrSs (e : TypeId) (x : List ByteArray) (k) : arrSsC e (.arr e (.ss x) 0 false :: o) k = k x o := by simp [arrSsC]
theorem c_arrBs (e : TypeId) (x : List UInt8) (k) : arrBsC e (.arr e (.bs x) 0 false :: o) k = k x o := by simp [arrBsC]
end
theorem evs : type_of% (And.intro @Option.bind_some.{0,0} <| And.intro @c_rInt <| And.intro @c_rBool <| And.intro @c_rStr <| And.intro @c_rTs <| And.intro @c_rIs <| And.intro @c_rIss <| And.intro @c_rSs <| And.intro @c_rBs <| And.intro @c_rTerm <| And.intro @c_rOwnT <| And.intro @c_rOwn <| And.intro @c_rPtr <| And.intro @c_nilV <| And.intro @c_nilO <| And.intro @c_objC <| And.intro @c_dropC <| And.intro @c_intC <| And.intro @c_boolC <| And.intro @c_strC <| And.intro @c_tsC <| And.intro @c_isC <| And.intro @c_issC <| And.intro @c_ssC <| And.intro @c_bsC <| And.intro @c_anyC <| And.intro @c_nilC <| And.intro @c_arrTs <| And.intro @c_arrIs <| And.intro @c_arrIss <| And.intro @c_arrSs <| And.intro @c_arrBs <| And.intro @ik_self <| And.intro @nb_self <| And.intro @cond_true.{1} @cond_false.{1}) := And.intro @Option.bind_some.{0,0} <| And.intro @c_rInt <| And.intro @c_rBool <| And.intro @c_rStr <| And.intro @c_rTs <| And.intro @c_rIs <| And.intro @c_rIss <| And.intro @c_rSs <| And.intro @c_rBs <| And.intro @c_rTerm <| And.intro @c_rOwnT <| And.intro @c_rOwn <| And.intro @c_rPtr <| And.intro @c_nilV <| And.intro @c_nilO <| And.intro @c_objC <| And.intro @c_dropC <| And.intro @c_intC <| And.intro @c_boolC <| And.intro @c_strC <| And.intro @c_tsC <| And.intro @c_isC <| And.intro @c_issC <| And.intro @c_ssC <| And.intro @c_bsC <| And.intro @c_anyC <| And.intro @c_nilC <| And.intro @c_arrTs <| And.intro @c_arrIs <| And.intro @c_arrIss <| And.intro @c_arrSs <| And.intro @c_arrBs <| And.intro @ik_self <| And.intro @nb_self <| And.intro @cond_true.{1} @cond_false.{1}
end Go.Proofs.Ytgchmppmecnniaa
end
section
namespace Go.Proofs.Ytgchmppmecnniaa
open Go Go.Ab Go.Dk
def RdOk (l : List UInt8) (p m : Int) : Prop := l.length ≤ 2000 ∧ 0 ≤ p ∧ p ≤ m
theorem RdOk.mono {l : List UInt8} {p m m' : Int} (h : RdOk l p m) (hm : m ≤ m') : RdOk l p m' := ⟨h.1, h.2.1, by have := h.2.2; omega⟩
def EvA (C : Nat) (f : FuncId) (args : List V1) (h : List AObj) (r : List V1 × List AObj) : Prop := ∀ n, C ≤ n → FF n f args h = some r
theorem EvA.ev {C f args h r} (k : EvA C f args h r) : Ev f args h r := ⟨C, k⟩
theorem EvA.of {f args h r} (C : Nat) (hh : ∀ n, C ≤ n → FF (n + 1) f args h = some r) : EvA (C + 1) f args h r := fun n hn => by obtain ⟨m, rfl⟩ : ∃ m, n = m + 1 := ⟨n - 1, by omega⟩; exact hh m (by omega)
end Go.Proofs.Ytgchmppmecnniaa
end
section
namespace Go.Proofs.Ytgchmppmecnniaa
open Go Go.Ab Go.Dk
abbrev tm (t : T) : V1 := .agg [.int .i64 t.k, .int .i64 t.n, .fr (.ts t.kids)]
abbrev tms (l : List T) : V1 := .one (.fr (.ts l))
abbrev nt (n : Int) : V1 := .one (.int .i64 n)
abbrev bl (b : Bool) : V1 := .one (.bool b)
abbrev termT : TypeId := 25
abbrev ow (t : T) : List V1 × List AObj := ([.agg [.int .i64 t.k, .int .i64 t.n, .own 0 0]], [.arr termT (.ts t.kids) 0 false])
theorem T.eta (t : T) : T.mk t.k t.n t.kids = t := by cases t; rfl
theorem mk_k (k n : Int) (l : List T) : (T.mk k n l).k = k := rfl
theorem mk_n (k n : Int) (l : List T) : (T.mk k n l).n = n := rfl
theorem mk_kids (k n : Int) (l : List T) : (T.mk k n l).kids = l := rfl
theorem rTerm_tm (t : T) (l : List V1) (k : T → List V1 → OR) : rTerm (.agg [.int .i64 t.k, .int .i64 t.n, .fr (.ts t.kids)] :: l) k = k t l := by cases t; rfl
theorem evt : type_of% (And.intro @evs <| And.intro @rTerm_tm <| And.intro @T.eta <| And.intro @mk_k <| And.intro @mk_n <| And.intro @mk_kids <| And.intro @Option.bind_none.{0,0} <| And.intro @Bool.not_true <| And.intro @Bool.not_false <| And.intro @Bool.true_and <| And.intro @Bool.and_true <| And.intro @Bool.and_false <| And.intro @Bool.false_and <| And.intro @Bool.and_self <| And.intro @decide_true @decide_false) := And.intro @evs <| And.intro @rTerm_tm <| And.intro @T.eta <| And.intro @mk_k <| And.intro @mk_n <| And.intro @mk_kids <| And.intro @Option.bind_none.{0,0} <| And.intro @Bool.not_true <| And.intro @Bool.not_false <| And.intro @Bool.true_and <| And.intro @Bool.and_true <| And.intro @Bool.and_false <| And.intro @Bool.false_and <| And.intro @Bool.and_self <| And.intro @decide_true @decide_false
theorem pos_succ {n : Nat} (h : 0 < n) : ∃ m, n = m + 1 := ⟨n - 1, by omega⟩
theorem cast1 (i : Nat) : (i : Int) + 1 = ((i + 1 : Nat) : Int) := rfl
theorem roomB_ok {n : Nat} (h : n ≤ 1099511627776) : roomB n = true := decide_eq_true h
theorem take_snoc {α : Type} {l : List α} {i : Nat} (h : i < l.length) : l.take i ++ [l[i]] = l.take (i + 1) := by rw [List.take_add_one, List.getElem?_eq_getElem h]; rfl
theorem f_within {n : Nat} (hn : 1 ≤ n) (a b c : Int) : FF n 84 [nt a, nt b, nt c] [] = some ([bl (decide (b ≤ a) && decide (a ≤ c))], []) := by
 obtain ⟨n, rfl⟩ := pos_succ (show 0 < n by omega)
 rw [E_impl_within]
 by_cases h : b ≤ a <;> simp [h]
theorem f_most {n : Nat} (hn : 1 ≤ n) (k : Int) : FF n 95 [nt k] [] = some ([nt (mostOf k)], []) := by
 obtain ⟨n, rfl⟩ := pos_succ (show 0 < n by omega)
 rw [E_impl_most]
 unfold mostOf
 by_cases h : k = 1 <;> by_cases h2 : k = 2 <;> simp [h, h2]
theorem f_l1Most {n : Nat} (hn : 1 ≤ n) (k : Int) : FF n 73 [nt k] [] = some ([nt (mostOf k)], []) := by
 obtain ⟨n, rfl⟩ := pos_succ (show 0 < n by omega)
 rw [E_spec_l1Most]
 unfold mostOf
 by_cases h : k = 1 <;> by_cases h2 : k = 2 <;> simp [h, h2]
theorem ops_list (k : Int) (h : 1 ≤ k ∧ k ≤ 16) : ([0, 0, 2, 2, 2, 0, 0, 1, 4, 3, 1, 3, 2, 3, 1, 1] : List Int)[(k - 1).toNat]? = some (opsOf k) := by
 have : k = 1 ∨ k = 2 ∨ k = 3 ∨ k = 4 ∨ k = 5 ∨ k = 6 ∨ k = 7 ∨ k = 8 ∨ k = 9 ∨ k = 10 ∨ k = 11 ∨ k = 12 ∨ k = 13 ∨ k = 14 ∨ k = 15 ∨ k = 16 := by omega
 rcases this with rfl | rfl | rfl | rfl | rfl | rfl | rfl | rfl | rfl | rfl | rfl | rfl | rfl | rfl | rfl | rfl <;> rfl
theorem f_operands {n : Nat} (hn : 2 ≤ n) (k : Int) : FF n 94 [nt k] [] = some ([nt (opsOf k)], []) := by
 obtain ⟨n, rfl⟩ := pos_succ (show 0 < n by omega)
 rw [E_impl_operands, f_within (by omega)]
 by_cases h : 1 ≤ k ∧ k ≤ 16
 ·simp only [evs, decide_eq_true h.1, decide_eq_true h.2, Bool.and_self, Bool.not_true, wrap64 (show -9223372036854775808 ≤ k - 1 ∧ k - 1 ≤ 9223372036854775807 by omega), decide_eq_true (show 0 ≤ k - 1 by omega),
    show (([0, 0, 2, 2, 2, 0, 0, 1, 4, 3, 1, 3, 2, 3, 1, 1] : List Nat).length : Int) = 16 from rfl, decide_eq_true (show k - 1 < 16 by omega), ops_list k h]
 ·have : (decide (1 ≤ k) && decide (k ≤ 16)) = false := by
    rw [Bool.and_eq_false_iff, decide_eq_false_iff_not, decide_eq_false_iff_not]; omega
  simp only [evs, this, Bool.not_false]
  unfold opsOf
  rw [if_neg (by omega), if_neg (by omega), if_neg (by omega), if_neg (by omega), if_neg (by omega)]
theorem f_l1Kids {n : Nat} (hn : 1 ≤ n) (k : Int) : FF n 74 [nt k] [] = some ([nt (opsOf k)], []) := by
 obtain ⟨n, rfl⟩ := pos_succ (show 0 < n by omega)
 rw [E_spec_l1Kids]
 by_cases h : k = 1 ∨ k = 2 ∨ k = 3 ∨ k = 4 ∨ k = 5 ∨ k = 6 ∨ k = 7 ∨ k = 8 ∨ k = 9 ∨ k = 10 ∨ k = 11 ∨ k = 12 ∨ k = 13 ∨ k = 14 ∨ k = 15 ∨ k = 16
 ·rcases h with rfl | rfl | rfl | rfl | rfl | rfl | rfl | rfl | rfl | rfl | rfl | rfl | rfl | rfl | rfl | rfl <;> rfl
 ·unfold opsOf
  rw [if_neg (by omega), if_neg (by omega), if_neg (by omega), if_neg (by omega), if_neg (by omega)]
  simp (disch := omega) only [cond_dec, if_neg]
theorem f_isBinder {n : Nat} (hn : 1 ≤ n) (k : Int) : FF n 100 [nt k] [] = some ([bl (decide (k = 3 ∨ k = 4 ∨ k = 13))], []) := by
 obtain ⟨n, rfl⟩ := pos_succ (show 0 < n by omega)
 rw [E_impl_isBinder]
 by_cases h : k = 3 <;> by_cases h2 : k = 4 <;> simp [h, h2]
theorem und_cast (k : Int) (i : Nat) : under k i = if (i : Int) = 1 ∧ (k = 3 ∨ k = 4 ∨ k = 13) then 1 else 0 := by
 unfold under
 by_cases h : i = 1
 ·subst h; simp
 ·rw [if_neg (fun hh => h hh.1), if_neg (fun hh => h (by have := hh.1; omega))]
theorem f_under {n : Nat} (hn : 2 ≤ n) (k : Int) (i : Nat) : FF n 90 [nt k, nt i] [] = some ([nt (under k i)], []) := by
 obtain ⟨n, rfl⟩ := pos_succ (show 0 < n by omega)
 rw [E_impl_under, f_isBinder (by omega), und_cast]
 by_cases h : (i : Int) = 1
 ·simp only [evs, h, decide_true]
  by_cases h2 : k = 3 ∨ k = 4 ∨ k = 13 <;> simp [h2]
 ·simp [h]
theorem ops_le (k : Int) : opsOf k ≤ 4 := by
 unfold opsOf
 repeat' split
 all_goals omega
theorem scan_loop (n : Nat) (d : Int) (ts : List T) (hd : 0 ≤ d ∧ d ≤ 31) (hl : ts.length ≤ 1099511627776)
   (h : ∀ u ∈ ts, ∀ c : Int, 0 ≤ c → c ≤ 400 → FF n 75 [tm u, nt (d + 1), .one (.ptr 0 0)] [.cells [.int .i64 c]] = some ([bl (scanF u (d + 1) c).1], [.cells [.int .i64 (scanF u (d + 1) c).2]])) :
   ∀ g m (i : Nat) (c : Int), g < m → i + g = ts.length → 0 ≤ c → c ≤ 400 → L_impl_scan_0 n m d ts ts.length i c = some ([bl (scanL (ts.drop i) (d + 1) c).1], [.cells [.int .i64 (scanL (ts.drop i) (d + 1) c).2]])
 | g, 0, i, c, hg, _, _, _ => by omega
 | 0, m + 1, i, c, _, hi, _, _ => by
  rw [L_impl_scan_0_eq, List.drop_of_length_le (by omega)]
  simp only [cond_dec, if_neg (show ¬ (i : Int) < ts.length by omega), scanL]
 | g + 1, m + 1, i, c, hg, hi, h0, h1 => by
  have hlt : i < ts.length := by omega
  have hb := scanF_bd ts[i] (d + 1) c
  rw [List.drop_eq_getElem_cons hlt, scanL]
  rw [L_impl_scan_0_eq]; simp (disch := omega) only [evt, cond_dec, Int.toNat_natCast, cast1, wrap64, roomB_ok, List.length_append, List.length_cons, List.length_nil, if_pos (show (i : Int) < ts.length by omega), if_pos (show 0 ≤ (i : Int) by omega), List.getElem?_eq_getElem hlt, h _ (List.getElem_mem hlt) c h0 h1]
  cases hs : (scanF ts[i] (d + 1) c).1 with
  | false => simp
  | true =>
   have := hb hs
   simp only [Bool.not_true, cond_false, if_true]
   exact scan_loop n d ts hd hl h g m (i + 1) _ (by omega) (by omega) (by omega) (by omega)
theorem f_scan (t : T) : ∀ {n : Nat}, t.size + 5 ≤ n → ∀ d c : Int, 0 ≤ d → d ≤ 31 → 0 ≤ c → c ≤ 400 →
   FF n 75 [tm t, nt d, .one (.ptr 0 0)] [.cells [.int .i64 c]] = some ([bl (scanF t d c).1], [.cells [.int .i64 (scanF t d c).2]]) := by
 induction t using T.ind with | h t ih =>
 intro n hn d c h0 h1 h2 h3
 have hsz := T.size_eq t
 have hl := T.sizeL_len t.kids
 obtain ⟨n, rfl⟩ := pos_succ (show 0 < n by omega)
 rw [E_impl_scan, scanF_eq]
 simp (disch := omega) only [evt, f_operands, f_most, f_within, wrap64]
 by_cases c1 : 400 < c + 1
 ·simp [c1]
 by_cases c2 : 30 < d
 ·simp [c1, c2]
 by_cases c3 : opsOf t.k = t.kids.length
 ·by_cases c4 : 0 ≤ t.n ∧ t.n ≤ mostOf t.k
  ·have e : (decide (0 ≤ t.n) && decide (t.n ≤ mostOf t.k)) = true := by simp [c4]
   rw [if_neg (by intro hh; rcases hh with hh | hh | hh | hh <;> first | omega | exact hh c3 | exact hh c4), e]
   simp only [decide_eq_false c1, decide_eq_false c2, cond_false, decide_eq_true c3, Bool.not_true]
   by_cases hk : t.kids = []
   ·rw [hk]
    obtain ⟨n, rfl⟩ := pos_succ (show 0 < n by omega)
    rw [L_impl_scan_0_eq]; simp [scanL]
   ·have := scan_loop n d t.kids ⟨h0, h1⟩ (by have := ops_le t.k; omega) (fun u hu c' hc hc' => ih u hu (by have := T.sizeL_mem hu; omega) (d + 1) c' (by omega) (by omega) hc hc') t.kids.length n 0 (c + 1) (by omega) (by omega) (by omega) (by omega)
    simpa using this
  ·have e : (decide (0 ≤ t.n) && decide (t.n ≤ mostOf t.k)) = false := by
     rw [← Bool.not_eq_true, Bool.and_eq_true, decide_eq_true_eq, decide_eq_true_eq]; exact c4
   rw [if_pos (.inr (.inr (.inr c4))), e]
   simp [c1, c2, c3]
 ·rw [if_pos (.inr (.inr (.inl c3)))]
  simp [c1, c2, c3]
theorem f_TermValid {n : Nat} {t : T} (hn : t.size + 6 ≤ n) : FF n 38 [tm t] [] = some ([bl (validB t)], []) := by
 obtain ⟨n, rfl⟩ := pos_succ (show 0 < n by omega)
 rw [E_impl_TermValid, ← scan_valid]
 simp (disch := omega) only [evt, f_scan]
theorem shape_loop (n : Nat) (d : Nat) (k0 n0 : Int) (ts : List T) (hd : d ≤ 30) (h1d : 1 ≤ d) (hl : ts.length ≤ 1099511627776)
   (h : ∀ u ∈ ts, FF n 78 [tm u, nt ((d - 1 : Nat) : Int)] [] = some ([bl (shapeF u (d - 1))], [])) :
   ∀ g m (i : Nat), g < m → i + g = ts.length → L_spec_l1Shape_0 n m (d : Int) i k0 n0 ts = some ([bl (shapeL (ts.drop i) (d - 1))], [])
 | g, 0, i, hg, _ => by omega
 | 0, m + 1, i, _, hi => by
  rw [L_spec_l1Shape_0_eq, List.drop_of_length_le (by omega)]
  simp only [cond_dec, if_neg (show ¬ (i : Int) < ts.length by omega), shapeL]
 | g + 1, m + 1, i, hg, hi => by
  have hlt : i < ts.length := by omega
  rw [List.drop_eq_getElem_cons hlt, shapeL]
  have w : IntKind.i64.wrap ((d : Int) - 1) = ((d - 1 : Nat) : Int) := by rw [wrap64 (by omega)]; omega
  rw [L_spec_l1Shape_0_eq]; simp (disch := omega) only [evt, cond_dec, Int.toNat_natCast, cast1, wrap64, roomB_ok, List.length_append, List.length_cons, List.length_nil, if_pos (show (i : Int) < ts.length by omega), if_pos (show 0 ≤ (i : Int) by omega), List.getElem?_eq_getElem hlt, w, h _ (List.getElem_mem hlt)]
  cases hs : shapeF ts[i] (d - 1) with
  | false => simp
  | true =>
   simp only [Bool.not_true, cond_false, Bool.true_and]
   exact shape_loop n d k0 n0 ts hd h1d hl h g m (i + 1) (by omega) (by omega)
theorem f_l1Shape (t : T) : ∀ {n : Nat}, t.size + 5 ≤ n → ∀ d : Nat, d ≤ 30 → FF n 78 [tm t, nt (d : Int)] [] = some ([bl (shapeF t d)], []) := by
 induction t using T.ind with | h t ih =>
 intro n hn d hd
 have hsz := T.size_eq t
 have hl := T.sizeL_len t.kids
 obtain ⟨n, rfl⟩ := pos_succ (show 0 < n by omega)
 rw [E_spec_l1Shape, shapeF_eq]
 simp (disch := omega) only [evt, f_l1Kids, f_l1Most]
 by_cases c1 : (d : Int) < 1
 ·simp [c1, show ¬ 1 ≤ d by omega]
 by_cases c3 : opsOf t.k = t.kids.length
 ·by_cases c4 : 0 ≤ t.n ∧ t.n ≤ mostOf t.k
  ·simp only [decide_eq_false c1, cond_false, decide_eq_true c3, Bool.not_true, decide_eq_false (show ¬ t.n < 0 by omega), decide_eq_false (show ¬ mostOf t.k < t.n by omega), decide_eq_true (show 1 ≤ d by omega), decide_eq_true c4, Bool.true_and]
   exact shape_loop n d t.k t.n t.kids hd (by omega) (by have := ops_le t.k; omega) (fun u hu => ih u hu (by have := T.sizeL_mem hu; omega) (d - 1) (by omega)) t.kids.length n 0 (by omega) (by omega)
  ·simp only [decide_eq_false c1, cond_false, decide_eq_true c3, Bool.not_true, decide_eq_true (show 1 ≤ d by omega), decide_eq_false c4, Bool.true_and, Bool.false_and]
   by_cases c5 : t.n < 0
   ·simp [c5]
   ·simp [c5, show mostOf t.k < t.n by omega]
 ·simp [c1, c3]
theorem count_loop (n : Nat) (most : Nat) (k0 n0 : Int) (ts : List T) (hm : most ≤ 400) (hl : ts.length ≤ 1099511627776)
   (h : ∀ u ∈ ts, ∀ m : Nat, m ≤ 400 → FF n 79 [tm u, nt (m : Int)] [] = some ([nt (cntF u m : Int)], [])) :
   ∀ g m (i c : Nat), g < m → i + g = ts.length → L_spec_l1Count_0 n m (most : Int) c i k0 n0 ts = some ([nt ((if c ≤ most then min (c + T.sizeL (ts.drop i)) (most + 1) else c : Nat) : Int)], [])
 | g, 0, i, c, hg, _ => by omega
 | 0, m + 1, i, c, _, hi => by
  rw [L_spec_l1Count_0_eq, List.drop_of_length_le (by omega)]
  simp only [cond_dec, if_neg (show ¬ (i : Int) < ts.length by omega), T.sizeL]
  split
  ·rw [Nat.min_eq_left (by omega)]; rfl
  ·rfl
 | g + 1, m + 1, i, c, hg, hi => by
  have hlt : i < ts.length := by omega
  rw [List.drop_eq_getElem_cons hlt, T.sizeL]
  by_cases hc : c ≤ most
  ·have w : IntKind.i64.wrap ((most : Int) - c) = ((most - c : Nat) : Int) := by rw [wrap64 (by omega)]; omega
   have hcn : cntF ts[i] (most - c) ≤ most - c + 1 := by unfold cntF; omega
   have w2 : IntKind.i64.wrap ((c : Int) + (cntF ts[i] (most - c) : Int)) = ((c + cntF ts[i] (most - c) : Nat) : Int) := by rw [wrap64 (by omega)]; rfl
   rw [L_spec_l1Count_0_eq]; simp (disch := omega) only [evt, cond_dec, Int.toNat_natCast, cast1, wrap64, roomB_ok, List.length_append, List.length_cons, List.length_nil, if_pos (show (i : Int) < ts.length by omega), if_pos (show 0 ≤ (i : Int) by omega), if_pos (show (c : Int) ≤ most by omega), List.getElem?_eq_getElem hlt, w, w2, h _ (List.getElem_mem hlt) (most - c) (by omega)]
   rw [count_loop n most k0 n0 ts hm hl h g m (i + 1) _ (by omega) (by omega)]
   have e : (if c + cntF ts[i] (most - c) ≤ most then min (c + cntF ts[i] (most - c) + T.sizeL (ts.drop (i + 1))) (most + 1) else c + cntF ts[i] (most - c)) = min (c + (ts[i].size + T.sizeL (ts.drop (i + 1)))) (most + 1) := by
    unfold cntF
    split <;> omega
   rw [e, if_pos hc]
  ·rw [L_spec_l1Count_0_eq]
   simp only [cond_dec, if_pos (show (i : Int) < ts.length by omega), if_neg (show ¬ (c : Int) ≤ most by omega), if_neg hc]
theorem f_l1Count (t : T) : ∀ {n : Nat}, t.size + 5 ≤ n → t.size ≤ 4000000 → ∀ m : Nat, m ≤ 400 → FF n 79 [tm t, nt (m : Int)] [] = some ([nt (cntF t m : Int)], []) := by
 induction t using T.ind with | h t ih =>
 intro n hn hz m hm
 have hsz := T.size_eq t
 have hl := T.sizeL_len t.kids
 obtain ⟨n, rfl⟩ := pos_succ (show 0 < n by omega)
 rw [E_spec_l1Count]
 have := count_loop n m t.k t.n t.kids hm (by omega) (fun u hu m hm => ih u hu (by have := T.sizeL_mem hu; omega) (by have := T.sizeL_mem hu; omega) m hm) t.kids.length n 0 1 (by omega) (by omega)
 have e : (if 1 ≤ m then min (1 + T.sizeL t.kids) (m + 1) else 1) = cntF t m := by unfold cntF; split <;> omega
 rw [List.drop_zero, e] at this
 exact this
theorem f_TermValidS {n : Nat} {t : T} (hn : t.size + 6 ≤ n) (hz : t.size ≤ 4000000) : FF n 43 [tm t] [] = some ([bl (validB t)], []) := by
 obtain ⟨n, rfl⟩ := pos_succ (show 0 < n by omega)
 rw [E_spec_TermValid, validB]
 have h1 := f_l1Shape t (n := n) (by omega) 30 (by omega)
 have h2 := f_l1Count t (n := n) (by omega) hz 400 (by omega)
 rw [show (30 : Int) = ((30 : Nat) : Int) from rfl, show (400 : Int) = ((400 : Nat) : Int) from rfl, h1, h2]
 simp only [evt]
 cases shapeF t 30
 ·rfl
 ·simp only [cond_true, Bool.true_and]
  have e : decide ((cntF t 400 : Int) ≤ ((400 : Nat) : Int)) = decide (t.size ≤ 400) := by
   unfold cntF
   exact decide_eq_decide.2 (by omega)
  rw [e]
theorem f_l7Made {n : Nat} {t : T} (hn : t.size + 7 ≤ n) (hz : t.size ≤ 4000000) : FF n 47 [tm t] [] = some ([tm (if validB t then t else .mk 0 0 []), bl (validB t)], []) := by
 obtain ⟨n, rfl⟩ := pos_succ (show 0 < n by omega)
 rw [E_spec_l7Made]
 simp (disch := omega) only [evt, f_TermValidS]
 cases validB t <;> rfl
theorem copy_loop (n : Nat) (ts : List T) (k2 n2 : Int) (k0 n0 : Int) (l0 : List T) (k1 n1 : Int) (hl : ts.length ≤ 4000000) (h : ∀ u ∈ ts, FF n 45 [tm u] [] = some (ow u)) :
   ∀ g m (i : Nat), g < m → i + g = ts.length → L_spec_l1Copy_0_foo n m i k2 n2 ts k0 n0 l0 k1 n1 (ts.take i) = some (ow (.mk k1 n1 ts))
 | g, 0, i, hg, _ => by omega
 | 0, m + 1, i, _, hi => by
  rw [L_spec_l1Copy_0_foo_eq]
  simp only [cond_dec, if_neg (show ¬ (i : Int) < ts.length by omega), List.take_of_length_le (show ts.length ≤ i by omega)]; rfl
 | g + 1, m + 1, i, hg, hi => by
  have hlt : i < ts.length := by omega
  have ht : (ts.take i).length = i := by simp; omega
  rw [L_spec_l1Copy_0_foo_eq]; simp (disch := omega) only [evt, cond_dec, Int.toNat_natCast, cast1, wrap64, roomB_ok, List.length_append, List.length_cons, List.length_nil, if_pos (show (i : Int) < ts.length by omega), if_pos (show 0 ≤ (i : Int) by omega), List.getElem?_eq_getElem hlt, h _ (List.getElem_mem hlt), ht]
  rw [take_snoc hlt]
  exact copy_loop n ts k2 n2 k0 n0 l0 k1 n1 hl h g m (i + 1) (by omega) (by omega)
theorem f_l1Copy (t : T) : ∀ {n : Nat}, t.size + 5 ≤ n → t.size ≤ 4000000 → FF n 45 [tm t] [] = some (ow t) := by
 induction t using T.ind with | h t ih =>
 intro n hn hz
 have hsz := T.size_eq t
 have hl := T.sizeL_len t.kids
 obtain ⟨n, rfl⟩ := pos_succ (show 0 < n by omega)
 rw [E_spec_l1Copy]
 have := copy_loop n t.kids t.k t.n 0 0 [] t.k t.n (by omega) (fun u hu => ih u hu (by have := T.sizeL_mem hu; omega) (by have := T.sizeL_mem hu; omega)) t.kids.length n 0 (by omega) (by omega)
 simpa [T.eta] using this
end Go.Proofs.Ytgchmppmecnniaa
end
section
namespace Go.Proofs.Ytgchmppmecnniaa
open Go Go.Ab
open Go.Dk (Rd HT Grow T)
abbrev newZ (Z : Go.Dk.Zone) (w : World) : Go.Dk.Zone := fun b => Z b ∨ w.heap.size ≤ b
section
variable {f : FuncId} {fn : Func} {n : Nat} {args : List V1} {vals : List Value} {w : World} {Z : Go.Dk.Zone}
theorem ab_call {outs : List V1} (hfn : Try.prog.funcs[f]? = some fn) (hb : fn.body.isSome = true) (hr : All2 (RV1 [] Z w) args vals) (h : FF n f args [] = some (outs, [])) :
   Calls Try.prog f vals.toArray w fun e w' => ∃ xs : List Value, e = .returned (if h : xs.toArray.size = 1 then xs.toArray[0] else .tuple xs.toArray) ∧ Grow w w' ∧ All2 (RV1 [] (newZ Z w) w') outs xs :=
 abs_call hprim hib hfn hb hr h
theorem ab_bool {b : Bool} (hfn : Try.prog.funcs[f]? = some fn) (hb : fn.body.isSome = true) (hr : All2 (RV1 [] Z w) args vals) (h : FF n f args [] = some ([bl b], [])) :
   Calls Try.prog f vals.toArray w fun e w' => e = .returned (.bool b) ∧ Grow w w' :=
 (ab_call hfn hb hr h).mono fun e w' ⟨xs, he, hg, hx⟩ => by
  obtain ⟨x, xs, rfl, h1, hx⟩ := hx.cons_inv
  obtain rfl := hx.nil_inv
  obtain rfl := bool_res h1
  exact ⟨he, hg⟩
theorem ab_term {t : T} (hfn : Try.prog.funcs[f]? = some fn) (hb : fn.body.isSome = true) (hr : All2 (RV1 [] Z w) args vals) (h : FF n f args [] = some ([tm t], [])) :
   Calls Try.prog f vals.toArray w fun e w' => ∃ u : HT, e = .returned u.val ∧ Grow w w' ∧ Rd (newZ Z w) w' u ∧ u.er = t :=
 (ab_call hfn hb hr h).mono fun e w' ⟨xs, he, hg, hx⟩ => by
  obtain ⟨x, xs, rfl, h1, hx⟩ := hx.cons_inv
  obtain rfl := hx.nil_inv
  obtain ⟨u, rfl, hu, e1⟩ := term_res h1
  exact ⟨u, he, hg, hu, e1⟩
theorem ab_term_bool {t : T} {b : Bool} (hfn : Try.prog.funcs[f]? = some fn) (hb : fn.body.isSome = true) (hr : All2 (RV1 [] Z w) args vals) (h : FF n f args [] = some ([tm t, bl b], [])) :
   Calls Try.prog f vals.toArray w fun e w' => ∃ u : HT, e = .returned (.tuple #[u.val, .bool b]) ∧ Grow w w' ∧ Rd (newZ Z w) w' u ∧ u.er = t :=
 (ab_call hfn hb hr h).mono fun e w' ⟨xs, he, hg, hx⟩ => by
  obtain ⟨x, xs, rfl, h1, hx⟩ := hx.cons_inv
  obtain ⟨y, xs, rfl, h2, hx⟩ := hx.cons_inv
  obtain rfl := hx.nil_inv
  obtain ⟨u, rfl, hu, e1⟩ := term_res h1
  obtain rfl := bool_res h2
  exact ⟨u, he, hg, hu, e1⟩
theorem ab_term_terms_bool {ts : List T} {t : T} {b : Bool} (hfn : Try.prog.funcs[f]? = some fn) (hb : fn.body.isSome = true) (hr : All2 (RV1 [] Z w) args vals) (h : FF n f args [] = some ([tm t, tms ts, bl b], [])) :
   Calls Try.prog f vals.toArray w fun e w' => ∃ v u : HT, e = .returned (.tuple #[v.val, u.sl, .bool b]) ∧ Grow w w' ∧ Rd (newZ Z w) w' v ∧ v.er = t ∧ Rd (newZ Z w) w' u ∧ u.er = .mk 0 0 ts :=
 (ab_call hfn hb hr h).mono fun e w' ⟨xs, he, hg, hx⟩ => by
  obtain ⟨x, xs, rfl, h1, hx⟩ := hx.cons_inv
  obtain ⟨y, xs, rfl, h2, hx⟩ := hx.cons_inv
  obtain ⟨z, xs, rfl, h3, hx⟩ := hx.cons_inv
  obtain rfl := hx.nil_inv
  obtain ⟨u, rfl, hu, e1⟩ := terms_res 0 0 h2.1
  obtain ⟨v, rfl, hv, e2⟩ := term_res h1
  obtain rfl := bool_res h3
  exact ⟨v, u, he, hg, hv, e2, hu, e1⟩
end
theorem i_TermValid (t : HT) (Z : Go.Dk.Zone) (w : World) (hr : Rd Z w t) : Calls Try.prog 38 #[t.val] w fun e w' => e = .returned (.bool (validB t.er)) ∧ Grow w w' :=
 ab_bool Try.func38 (by kernel_rfl) (All2.cons (term_arg' hr) All2.nil) (f_TermValid (n := t.er.size + 6) (by omega))
end Go.Proofs.Ytgchmppmecnniaa
end
section
namespace Go.Proofs.Ytgchmppmecnniaa
open Go Go.Dk
set_option maxRecDepth 100000 in
set_option maxHeartbeats 1000000 in
theorem l_markTerm (t : HT) (k : Int) (w : World) (ho : (treeR t).own w) (h0 : 0 ≤ k) (h1 : k + 2 * T.sizeL t.er.kids ≤ 1000000000) :
   Calls Try.prog 30 #[t.val, .int .i64 k] w fun e w' => ∃ us : List HT, e = .returned (.int .i64 (k + 2 * T.sizeL t.er.kids)) ∧ us.length = t.kids.length ∧ (treeR (HT.mk t.k t.n t.a t.cap us)).own w' ∧ HT.blocks (HT.mk t.k t.n t.a t.cap us) = t.blocks ∧
    mkTs (us.map HT.er) k = true ∧ T.sizeL (us.map HT.er) = T.sizeL t.er.kids ∧ Ext (· ∈ t.blocks) w w' := by
 have H := St.init1 w (· ∈ t.blocks) noneZ Stable.true trivial (treeR_local t) ho (fun b hb => ⟨hb, (Rd.zone t ho.1 b hb).2⟩) (fun b _ h => h)
 go_enter Try.func30, Try.ntmps30
 repeat' ((first | (refine T_nil ?_) | ((first | apply U0 | (apply U1; (case hd => decide +kernel)) | (apply U2 (hw := H); (case hd => decide +kernel)) | (apply U3 1; (case hp => rfl); (case hd => decide +kernel)) | (apply U3 2; (case hp => rfl); (case hd => decide +kernel)) | (apply U3 3; (case hp => rfl); (case hd => decide +kernel)) | (apply U3 4; (case hp => rfl); (case hd => decide +kernel)) | (apply U3 5; (case hp => rfl); (case hd => decide +kernel)) | (apply U3 6; (case hp => rfl); (case hd => decide +kernel)) | (apply U3 7; (case hp => rfl); (case hd => decide +kernel)) | (apply U3 8; (case hp => rfl); (case hd => decide +kernel)) | (apply U3 9; (case hp => rfl); (case hd => decide +kernel)) | (apply U3 10; (case hp => rfl); (case hd => decide +kernel)) | (apply U3 11; (case hp => rfl); (case hd => decide +kernel))); (case hg => rfl); (case hy => (first | (apply Yi.a; constructor; all_goals (first | rfl | (constructor <;> omega) | (apply CellIs.own; (case h => repeat constructor); rfl) | (apply Cell3.own; (case h => repeat constructor); all_goals rfl))) | (apply Yi.b; constructor; all_goals (first | rfl | (constructor <;> omega) | (apply CellIs.own; (case h => repeat constructor); rfl) | (apply Cell3.own; (case h => repeat constructor); all_goals rfl))) | (apply Yi.c; constructor; all_goals (first | rfl | (constructor <;> omega) | (apply CellIs.own; (case h => repeat constructor); rfl) | (apply Cell3.own; (case h => repeat constructor); all_goals rfl)))))) | ((first | apply V0 | apply V1 | apply V2 (hw := H)); (case hg => rfl); try decide +kernel) | ((first | refine G0 H ?_ | (refine G1 H (fun _ _ _ _ h => h) (by decide +kernel) ?_; clear H; intro _ H)); simp only [enum, Nat.reduceAdd]) | (apply B0 (hw := H); (case hg => rfl); (case hd => first | exact hd_false | decide +kernel); (case hx => rfl); (case hc => rfl); clear H; intro bx _ H) | (apply B1 (hw := H); (case hg => rfl); (case hd => first | exact hd_false | decide +kernel); clear H; intro ax _ H) | ((apply C1; (case hg => rfl); (case hd => first | exact hd_false | decide +kernel); (case hxs => rfl); (case hc => exact l_markTermS t k _ (H.own _ (List.mem_cons_of_mem _ (List.mem_cons_self ..))) h0 h1); rintro _ _ ⟨us, rfl, hul, huo, hub, hum, hus, hux⟩; replace H := H.remark (n := 1) rfl huo hub hux; (try simp only [List.set_cons_succ, List.set_cons_zero] at H); refine ⟨_, rfl, _, (by first | exact fun _ _ h => h | exact fun _ _ h => h.tail | exact fun _ _ h => h.unfact (by repeat' (first | exact Stable.true | exact rdF_stable _ | exact iF_stable _ _ | apply Stable.and)) (fun _ _ h => h.2) | exact nofun), H, ?_⟩)) | go_step | (apply X0; (case hy => rfl); all_goals (intro hb; simp only [hb]; (try simp only [decide_eq_true_eq, decide_eq_false_iff_not, Bool.not_eq_true', Bool.not_eq_false', Bool.and_eq_true, Bool.or_eq_true, Bool.and_eq_false_iff, Bool.or_eq_false_iff] at hb); try (exfalso; omega)))) <;> try simp only [List.getElem_toArray, List.getElem_cons_zero, List.getElem_cons_succ, Act.put, evalT, evalC, evalF, List.setIfInBounds_toArray, List.set_cons_succ, List.set_cons_zero, List.getD_cons_succ, List.getD_cons_zero, Nat.reduceAdd, Nat.reduceMul, Nat.add_zero, Nat.zero_add, Int.toNat_natCast, Int.reduceToNat, List.eraseIdx_cons_succ, List.eraseIdx_cons_zero, cond_true, cond_false])
 ((try simp only [Exit.inBlock, Exit.then]); refine ret_post (res1 rfl (R_tmp rfl)) ?_; try simp only [List.getD_cons_succ, List.getD_cons_zero])
 exact ⟨us, (by first | rfl | trivial), hul, H.own _ (List.mem_cons_of_mem _ (List.mem_cons_self ..)), hub, hum, hus, H.ext⟩
set_option maxRecDepth 100000 in
set_option maxHeartbeats 1000000 in
theorem l_heldTerm (t : HT) (k : Int) (Z : Zone) (w : World) (hr : Rd Z w t) (h0 : 0 ≤ k) (h1 : k + 2 * T.sizeL t.er.kids ≤ 1000000000) (hm : mkTs t.er.kids k = true) :
   Calls Try.prog 32 #[t.val, .int .i64 k] w fun e w' => e = .returned (.int .i64 (k + 2 * T.sizeL t.er.kids)) ∧ Grow w w' := by
 have H := St.init w noneZ Z (rdF_stable t) hr
 go_enter Try.func32, Try.ntmps32
 repeat' ((first | (refine T_nil ?_) | ((first | apply U0 | (apply U1; (case hd => decide +kernel)) | (apply U2 (hw := H); (case hd => decide +kernel)) | (apply U3 1; (case hp => rfl); (case hd => decide +kernel)) | (apply U3 2; (case hp => rfl); (case hd => decide +kernel)) | (apply U3 3; (case hp => rfl); (case hd => decide +kernel)) | (apply U3 4; (case hp => rfl); (case hd => decide +kernel)) | (apply U3 5; (case hp => rfl); (case hd => decide +kernel)) | (apply U3 6; (case hp => rfl); (case hd => decide +kernel)) | (apply U3 7; (case hp => rfl); (case hd => decide +kernel)) | (apply U3 8; (case hp => rfl); (case hd => decide +kernel)) | (apply U3 9; (case hp => rfl); (case hd => decide +kernel)) | (apply U3 10; (case hp => rfl); (case hd => decide +kernel)) | (apply U3 11; (case hp => rfl); (case hd => decide +kernel))); (case hg => rfl); (case hy => (first | (apply Yi.a; constructor; all_goals (first | rfl | (constructor <;> omega) | (apply CellIs.own; (case h => repeat constructor); rfl) | (apply Cell3.own; (case h => repeat constructor); all_goals rfl))) | (apply Yi.b; constructor; all_goals (first | rfl | (constructor <;> omega) | (apply CellIs.own; (case h => repeat constructor); rfl) | (apply Cell3.own; (case h => repeat constructor); all_goals rfl))) | (apply Yi.c; constructor; all_goals (first | rfl | (constructor <;> omega) | (apply CellIs.own; (case h => repeat constructor); rfl) | (apply Cell3.own; (case h => repeat constructor); all_goals rfl)))))) | ((first | apply V0 | apply V1 | apply V2 (hw := H)); (case hg => rfl); try decide +kernel) | ((first | refine G0 H ?_ | (refine G1 H (fun _ _ _ _ h => h) (by decide +kernel) ?_; clear H; intro _ H)); simp only [enum, Nat.reduceAdd]) | (apply B0 (hw := H); (case hg => rfl); (case hd => first | exact hd_false | decide +kernel); (case hx => rfl); (case hc => rfl); clear H; intro bx _ H) | (apply B1 (hw := H); (case hg => rfl); (case hd => first | exact hd_false | decide +kernel); clear H; intro ax _ H) | ((apply C0 (hw := H); (case hg => rfl); (case hd => first | exact hd_false | decide +kernel); (case hxs => rfl); (case hc => exact l_heldTermS t k _ _ H.per h0 h1 hm); clear H; intro _ H)) | go_step | (apply X0; (case hy => rfl); all_goals (intro hb; simp only [hb]; (try simp only [decide_eq_true_eq, decide_eq_false_iff_not, Bool.not_eq_true', Bool.not_eq_false', Bool.and_eq_true, Bool.or_eq_true, Bool.and_eq_false_iff, Bool.or_eq_false_iff] at hb); try (exfalso; omega)))) <;> try simp only [List.getElem_toArray, List.getElem_cons_zero, List.getElem_cons_succ, Act.put, evalT, evalC, evalF, List.setIfInBounds_toArray, List.set_cons_succ, List.set_cons_zero, List.getD_cons_succ, List.getD_cons_zero, Nat.reduceAdd, Nat.reduceMul, Nat.add_zero, Nat.zero_add, Int.toNat_natCast, Int.reduceToNat, List.eraseIdx_cons_succ, List.eraseIdx_cons_zero, cond_true, cond_false])
 ((try simp only [Exit.inBlock, Exit.then]); refine ret_post (res1 rfl (R_tmp rfl)) ?_; try simp only [List.getD_cons_succ, List.getD_cons_zero])
 (first | exact ⟨rfl, H.ext⟩ | exact ⟨trivial, H.ext⟩)
theorem mk_val {g : HT} {us : List HT} (h : us.length = g.kids.length) : (HT.mk g.k g.n g.a g.cap us).val = g.val := by
 show Value.agg #[.int .i64 g.k, .int .i64 g.n, .slice g.a us.length g.cap] = _
 rw [h]; rfl
theorem mk_er {g : HT} {us : List HT} : (HT.mk g.k g.n g.a g.cap us).er.kids = us.map HT.er := by rw [HT.er_kids]; rfl
theorem l_heldTerm_us {g : HT} {us : List HT} (hul : us.length = g.kids.length) (k : Int) (Z : Zone) (w : World) (hr : Rd Z w (HT.mk g.k g.n g.a g.cap us)) (h0 : 0 ≤ k) (h1 : k + 2 * T.sizeL g.er.kids ≤ 1000000000)
   (hm : mkTs (us.map HT.er) k = true) (hs : T.sizeL (us.map HT.er) = T.sizeL g.er.kids) : Calls Try.prog 32 #[g.val, .int .i64 k] w fun e w' => e = .returned (.int .i64 (k + 2 * T.sizeL g.er.kids)) ∧ Grow w w' := by
 have h := l_heldTerm (HT.mk g.k g.n g.a g.cap us) k Z w hr h0 (by rw [mk_er, hs]; exact h1) (by rw [mk_er]; exact hm)
 rw [mk_val hul, mk_er, hs] at h
 exact h
end Go.Proofs.Ytgchmppmecnniaa
end
section
namespace Go.Proofs.Ytgchmppmecnniaa
open Go Go.Dk
set_option maxRecDepth 100000 in
set_option maxHeartbeats 1000000 in
theorem i_own (t : HT) : ∀ (Z : Zone) (w : World), Rd Z w t → t.er.size ≤ 1000000 →
   Calls Try.prog 42 #[t.val] w fun e w' => ∃ u : HT, e = .returned u.val ∧ Grow w w' ∧ Own w w' u ∧ u.er = t.er := by
 induction t using HT.ind with | h t ih =>
 intro Z w hr hsz
 have H := St.init w noneZ Z (rdF_stable t) hr
 have hlen := hr.len
 have hsl := T.sizeL_len t.er.kids
 rw [T.size_eq] at hsz
 rw [HT.er_len] at hsl
 go_enter Try.func42, Try.ntmps42
 repeat' ((first | (refine T_nil ?_) | ((first | apply U0 | (apply U1; (case hd => decide +kernel)) | (apply U2 (hw := H); (case hd => decide +kernel)) | (apply U3 1; (case hp => rfl); (case hd => decide +kernel)) | (apply U3 2; (case hp => rfl); (case hd => decide +kernel)) | (apply U3 3; (case hp => rfl); (case hd => decide +kernel)) | (apply U3 4; (case hp => rfl); (case hd => decide +kernel)) | (apply U3 5; (case hp => rfl); (case hd => decide +kernel)) | (apply U3 6; (case hp => rfl); (case hd => decide +kernel)) | (apply U3 7; (case hp => rfl); (case hd => decide +kernel)) | (apply U3 8; (case hp => rfl); (case hd => decide +kernel)) | (apply U3 9; (case hp => rfl); (case hd => decide +kernel)) | (apply U3 10; (case hp => rfl); (case hd => decide +kernel)) | (apply U3 11; (case hp => rfl); (case hd => decide +kernel))); (case hg => rfl); (case hy => (first | (apply Yi.a; constructor; all_goals (first | rfl | (constructor <;> omega) | (apply CellIs.own; (case h => repeat constructor); rfl) | (apply Cell3.own; (case h => repeat constructor); all_goals rfl))) | (apply Yi.b; constructor; all_goals (first | rfl | (constructor <;> omega) | (apply CellIs.own; (case h => repeat constructor); rfl) | (apply Cell3.own; (case h => repeat constructor); all_goals rfl))) | (apply Yi.c; constructor; all_goals (first | rfl | (constructor <;> omega) | (apply CellIs.own; (case h => repeat constructor); rfl) | (apply Cell3.own; (case h => repeat constructor); all_goals rfl)))))) | ((first | apply V0 | apply V1 | apply V2 (hw := H)); (case hg => rfl); try decide +kernel) | ((first | refine G0 H ?_ | (refine G1 H (fun _ _ _ _ h => h) (by decide +kernel) ?_; clear H; intro _ H)); simp only [enum, Nat.reduceAdd]) | (apply B0 (hw := H); (case hg => rfl); (case hd => first | exact hd_false | decide +kernel); (case hx => rfl); (case hc => rfl); clear H; intro bx _ H) | (apply B1 (hw := H); (case hg => rfl); (case hd => first | exact hd_false | decide +kernel); clear H; intro ax _ H) | ((apply W0 (hw := H); (case hg => rfl); (case hd => first | exact hd_false | decide +kernel); (case hx => rfl); (case hy => rfl); (case hc => rfl); (case hn => repeat constructor); (case h1 => rfl); clear H; intro _ H; (try dsimp only at H); try simp only [putL, List.set_cons_succ, List.set_cons_zero, evalT, evalC, List.getD_cons_succ, List.getD_cons_zero, Nat.zero_add, Nat.reduceAdd] at H)) | go_step | (apply X0; (case hy => rfl); all_goals (intro hb; simp only [hb]; (try simp only [decide_eq_true_eq, decide_eq_false_iff_not, Bool.not_eq_true', Bool.not_eq_false', Bool.and_eq_true, Bool.or_eq_true, Bool.and_eq_false_iff, Bool.or_eq_false_iff] at hb); try (exfalso; omega)))) <;> try simp only [List.getElem_toArray, List.getElem_cons_zero, List.getElem_cons_succ, Act.put, evalT, evalC, evalF, List.setIfInBounds_toArray, List.set_cons_succ, List.set_cons_zero, List.getD_cons_succ, List.getD_cons_zero, Nat.reduceAdd, Nat.reduceMul, Nat.add_zero, Nat.zero_add, Int.toNat_natCast, Int.reduceToNat, List.eraseIdx_cons_succ, List.eraseIdx_cons_zero, cond_true, cond_false])
 rename_i rb _ _ _ _ _
 have H := (H.pushRow 25 3).pushNone
 go_loopg [14] t.kids.length (fun g v wr => ∃ (i : Nat) (us : List HT) (sa : Option Addr) (sc : Nat), v = .int .i64 i ∧ i + g = t.kids.length ∧ us.length = i ∧ us.map HT.er ++ t.er.kids.drop i = t.er.kids ∧
  St w noneZ Z [kidsR us, rowR 25 3 (.slice sa i sc) i (flatT us), blk ax [.int .i64 t.k, .int .i64 t.n, .slice sa i sc] 25, blk rb [.int .i64 0, .int .i64 0, .slice none 0 0] 25] (rdF t) wr)
 case atStart => exact ⟨0, [], _, _, rfl, by omega, rfl, by simp, H.drop 4⟩
 case round =>
  clear H
  obtain ⟨i, us, sa, sc, rfl, hi, hus, hsum, H⟩ := hrel
  by_cases hlt : i < t.kids.length
  ·have hu : t.kids[i]? = some t.kids[i] := List.getElem?_eq_getElem hlt
   obtain ⟨b, off, ha⟩ := hr.addr hu
   generalize t.kids[i] = u at hu
   have hmem : u ∈ t.kids := List.mem_of_getElem? hu
   have hsub := ih u hmem
   have hsu : u.er.size ≤ 1000000 := by have := HT.sizeL_kid hmem; rw [T.size_eq]; omega
   subst hus
   repeat' ((first | (refine T_nil ?_) | ((first | apply U0 | (apply U1; (case hd => decide +kernel)) | (apply U2 (hw := H); (case hd => decide +kernel)) | (apply U3 1; (case hp => rfl); (case hd => decide +kernel)) | (apply U3 2; (case hp => rfl); (case hd => decide +kernel)) | (apply U3 3; (case hp => rfl); (case hd => decide +kernel)) | (apply U3 4; (case hp => rfl); (case hd => decide +kernel)) | (apply U3 5; (case hp => rfl); (case hd => decide +kernel)) | (apply U3 6; (case hp => rfl); (case hd => decide +kernel)) | (apply U3 7; (case hp => rfl); (case hd => decide +kernel)) | (apply U3 8; (case hp => rfl); (case hd => decide +kernel)) | (apply U3 9; (case hp => rfl); (case hd => decide +kernel)) | (apply U3 10; (case hp => rfl); (case hd => decide +kernel)) | (apply U3 11; (case hp => rfl); (case hd => decide +kernel))); (case hg => rfl); (case hy => (first | (apply Yi.a; constructor; all_goals (first | rfl | (constructor <;> omega) | (apply CellIs.own; (case h => repeat constructor); rfl) | (apply Cell3.own; (case h => repeat constructor); all_goals rfl) | exact ha | exact .mk fun w h => (Rd.elem h.per ha hu).1)) | (apply Yi.b; constructor; all_goals (first | rfl | (constructor <;> omega) | (apply CellIs.own; (case h => repeat constructor); rfl) | (apply Cell3.own; (case h => repeat constructor); all_goals rfl) | exact ha | exact .mk fun w h => (Rd.elem h.per ha hu).1)) | (apply Yi.c; constructor; all_goals (first | rfl | (constructor <;> omega) | (apply CellIs.own; (case h => repeat constructor); rfl) | (apply Cell3.own; (case h => repeat constructor); all_goals rfl) | exact ha | exact .mk fun w h => (Rd.elem h.per ha hu).1))))) | ((first | apply V0 | apply V1 | apply V2 (hw := H)); (case hg => rfl); try decide +kernel) | ((first | refine G0 H ?_ | (refine G1 H (fun _ _ _ _ h => h) (by decide +kernel) ?_; clear H; intro _ H)); simp only [enum, Nat.reduceAdd]) | (apply B0 (hw := H); (case hg => rfl); (case hd => first | exact hd_false | decide +kernel); (case hx => rfl); (case hc => rfl); clear H; intro bx _ H) | (apply B1 (hw := H); (case hg => rfl); (case hd => first | exact hd_false | decide +kernel); clear H; intro ax _ H) | ((apply W0 (hw := H); (case hg => rfl); (case hd => first | exact hd_false | decide +kernel); (case hx => rfl); (case hy => rfl); (case hc => rfl); (case hn => repeat constructor); (case h1 => rfl); clear H; intro _ H; (try dsimp only at H); try simp only [putL, List.set_cons_succ, List.set_cons_zero, evalT, evalC, List.getD_cons_succ, List.getD_cons_zero, Nat.zero_add, Nat.reduceAdd] at H)) | ((apply C1; (case hg => rfl); (case hd => first | exact hd_false | decide +kernel); (case hxs => rfl); (case hc => exact hsub _ _ (Rd.elem H.per ha hu).2 hsu); rintro _ _ ⟨x, rfl, hg, ho, he⟩; replace H := H.pushTree hg ho; (try simp only [List.set_cons_succ, List.set_cons_zero] at H); refine ⟨_, rfl, _, (by first | exact fun _ _ h => h | exact fun _ _ h => h.tail | exact fun _ _ h => h.unfact (by repeat' (first | exact Stable.true | exact rdF_stable _ | exact iF_stable _ _ | apply Stable.and)) (fun _ _ h => h.2) | exact nofun), H, ?_⟩)) | ((apply B2 (hw := H); (case hg => rfl); (case hd => first | exact hd_false | decide +kernel); (case hvs => (simp only [List.map_cons, List.map_nil, evalT, evalC, List.getD_cons_succ, List.getD_cons_zero]; rfl)); (case hcs => (simp only [flatC, List.flatMap_cons, List.flatMap_nil, Value.cells, HT.val, List.cons_append, List.nil_append, List.append_nil]; rfl)); (case hix => rfl); (case hn => rfl); (case hsz => rfl); (case hb => rfl); clear H; intro sx _ H)) | ((apply A1 (hw := H) (i := 4) (p := 0); (case hg => rfl); (case hd => first | exact hd_false | decide +kernel); (case hx => rfl); (case hy => rfl); (case hi => rfl); (case hq => rfl); (case hl => rfl); (case h1 => rfl); (case hbytes => omega); (case h63 => omega); clear H; intro ra rc _ H; (try simp only [List.set_cons_succ, List.set_cons_zero] at H))) | go_step | (apply X0; (case hy => rfl); all_goals (intro hb; simp only [hb]; (try simp only [decide_eq_true_eq, decide_eq_false_iff_not, Bool.not_eq_true', Bool.not_eq_false', Bool.and_eq_true, Bool.or_eq_true, Bool.and_eq_false_iff, Bool.or_eq_false_iff] at hb); try (exfalso; omega)))) <;> try simp only [List.getElem_toArray, List.getElem_cons_zero, List.getElem_cons_succ, Act.put, evalT, evalC, evalF, List.setIfInBounds_toArray, List.set_cons_succ, List.set_cons_zero, List.getD_cons_succ, List.getD_cons_zero, Nat.reduceAdd, Nat.reduceMul, Nat.add_zero, Nat.zero_add, Int.toNat_natCast, Int.reduceToNat, List.eraseIdx_cons_succ, List.eraseIdx_cons_zero, cond_true, cond_false])
   rw [HT.er_drop hu] at hsum
   have H := (H.tail.drop 1).snoc
   go_roundg (gk - 1)
   case measure => omega
   case rel => exact ⟨us.length + 1, us ++ [x], _, _, by simp, by omega, by simp, by rw [List.map_append, List.append_assoc, List.map_cons, List.map_nil, he]; exact hsum, by rw [flatT_append]; exact H⟩
  ·have h0 : i = t.kids.length := by omega
   rw [List.drop_of_length_le (by rw [HT.er_len]; omega), List.append_nil] at hsum
   have hlt' : ¬ ((i : Int) < t.kids.length) := by omega
   obtain ⟨a, cap, hv, H⟩ := H.swap.plantRow rfl hus.symm t.k t.n
   obtain ⟨rfl, -, rfl⟩ : sa = a ∧ i = us.length ∧ sc = cap := by injection hv with h1 h2 h3; exact ⟨h1, h2, h3⟩
   repeat' ((first | (refine T_nil ?_) | ((first | apply U0 | (apply U1; (case hd => decide +kernel)) | (apply U2 (hw := H); (case hd => decide +kernel)) | (apply U3 1; (case hp => rfl); (case hd => decide +kernel)) | (apply U3 2; (case hp => rfl); (case hd => decide +kernel)) | (apply U3 3; (case hp => rfl); (case hd => decide +kernel)) | (apply U3 4; (case hp => rfl); (case hd => decide +kernel)) | (apply U3 5; (case hp => rfl); (case hd => decide +kernel)) | (apply U3 6; (case hp => rfl); (case hd => decide +kernel)) | (apply U3 7; (case hp => rfl); (case hd => decide +kernel)) | (apply U3 8; (case hp => rfl); (case hd => decide +kernel)) | (apply U3 9; (case hp => rfl); (case hd => decide +kernel)) | (apply U3 10; (case hp => rfl); (case hd => decide +kernel)) | (apply U3 11; (case hp => rfl); (case hd => decide +kernel))); (case hg => rfl); (case hy => (first | (apply Yi.a; constructor; all_goals (first | rfl | (constructor <;> omega) | (apply CellIs.own; (case h => repeat constructor); rfl) | (apply Cell3.own; (case h => repeat constructor); all_goals rfl))) | (apply Yi.b; constructor; all_goals (first | rfl | (constructor <;> omega) | (apply CellIs.own; (case h => repeat constructor); rfl) | (apply Cell3.own; (case h => repeat constructor); all_goals rfl))) | (apply Yi.c; constructor; all_goals (first | rfl | (constructor <;> omega) | (apply CellIs.own; (case h => repeat constructor); rfl) | (apply Cell3.own; (case h => repeat constructor); all_goals rfl)))))) | ((first | apply V0 | apply V1 | apply V2 (hw := H)); (case hg => rfl); try decide +kernel) | ((first | refine G0 H ?_ | (refine G1 H (fun _ _ _ _ h => h) (by decide +kernel) ?_; clear H; intro _ H)); simp only [enum, Nat.reduceAdd]) | (apply B0 (hw := H); (case hg => rfl); (case hd => first | exact hd_false | decide +kernel); (case hx => rfl); (case hc => rfl); clear H; intro bx _ H) | (apply B1 (hw := H); (case hg => rfl); (case hd => first | exact hd_false | decide +kernel); clear H; intro ax _ H) | ((apply W0 (hw := H); (case hg => rfl); (case hd => first | exact hd_false | decide +kernel); (case hx => rfl); (case hy => rfl); (case hc => rfl); (case hn => repeat constructor); (case h1 => rfl); clear H; intro _ H; (try dsimp only at H); try simp only [putL, List.set_cons_succ, List.set_cons_zero, evalT, evalC, List.getD_cons_succ, List.getD_cons_zero, Nat.zero_add, Nat.reduceAdd] at H)) | go_step | (apply X0; (case hy => rfl); all_goals (intro hb; simp only [hb]; (try simp only [decide_eq_true_eq, decide_eq_false_iff_not, Bool.not_eq_true', Bool.not_eq_false', Bool.and_eq_true, Bool.or_eq_true, Bool.and_eq_false_iff, Bool.or_eq_false_iff] at hb); try (exfalso; omega)))) <;> try simp only [List.getElem_toArray, List.getElem_cons_zero, List.getElem_cons_succ, Act.put, evalT, evalC, evalF, List.setIfInBounds_toArray, List.set_cons_succ, List.set_cons_zero, List.getD_cons_succ, List.getD_cons_zero, Nat.reduceAdd, Nat.reduceMul, Nat.add_zero, Nat.zero_add, Int.toNat_natCast, Int.reduceToNat, List.eraseIdx_cons_succ, List.eraseIdx_cons_zero, cond_true, cond_false])
   ((try simp only [Exit.inBlock, Exit.then]); refine ret_post (res1 rfl (R_cell rfl (load3 (ST3.out) (H.cell at2 rfl) (H.cell at2 rfl) (H.cell at2 rfl)))) ?_)
   refine ⟨.mk t.k t.n sa sc us, ?_, H.ext, H.outTree, ?_⟩
   ·simp only [HT.val, HT.k, HT.n, HT.a, HT.kids, HT.cap, hus]
   ·rw [HT.er_eq, HT.er_eq t]
    show T.mk t.k t.n (us.map HT.er) = _
    rw [hsum, HT.er_kids]
end Go.Proofs.Ytgchmppmecnniaa
end
section
namespace Go.Proofs.Ytgchmppmecnniaa
open Go Go.Ab Go.Dk
end Go.Proofs.Ytgchmppmecnniaa
end
section
namespace Go.Proofs.Ytgchmppmecnniaa
open Go Go.Ab Go.Dk
theorem kid_get {t : T} {i : Nat} (h : i < t.kids.length) : t.kids[i]? = some (kd t i) := by
 unfold kd; simp [List.getD, h]
def okT (t : T) : T := if validB t then t else .mk 0 0 []
abbrev ins (w : List Nat) : List Int := w.map fun i : Nat => (i : Int)
end Go.Proofs.Ytgchmppmecnniaa
end
section
namespace Go.Proofs.Ytgchmppmecnniaa
open Go.ChangeShapes Go.WideShapes Go.ChangeAt Go.RowKit
open Go.ChangeMaps (open_string shut_string)
open Go.Dk
theorem own : ownKnob Try.prog.godebug = none := by kernel_rfl
theorem laidOut : laidOutB Try.prog = true := by kernel_rfl
section
variable {H : Type} {enc : TypeId × Value → H} {P : Program} {W : World} {sp : Nat → Bool} {hd : Bool}
theorem okWide_agg {r : Reach} {b0 : Nat} {t : TypeId} {fs : Array Field} {v : Value} (ht : P.underlying t = some (.struct fs)) (h : Value.okWide P W r b0 t v) : ∃ cs, v = .agg cs := by
 simp only [Value.okWide, ht] at h
 obtain ⟨cs, h, _⟩ := h
 exact ⟨cs, h⟩
theorem open_kids {b off len : Nat} (h : ∀ i, i < len → ∃ t : HT, (W.cell? ⟨b, off + i * 3, none⟩ = some (.int .i64 t.k) ∧ W.cell? ⟨b, off + i * 3 + 1, none⟩ = some (.int .i64 t.n) ∧ W.cell? ⟨b, off + i * 3 + 2, none⟩ = some t.sl) ∧ Rd (fun _ => True) W t) :
   ∀ m, m ≤ len → ∃ ts : List HT, ts.length = m ∧ RdL (fun _ => True) W b (off + (len - m) * 3) ts
 | 0, _ => ⟨[], rfl, by simp [RdL]⟩
 | m + 1, hm => by
  obtain ⟨ts, hl, hr⟩ := open_kids h m (by omega)
  obtain ⟨t, hc, ht⟩ := h (len - (m + 1)) (by omega)
  refine ⟨t :: ts, by simp [hl], ?_⟩
  simp only [RdL]
  refine ⟨hc, ht, ?_⟩
  rw [show off + (len - (m + 1)) * 3 + 3 = off + (len - m) * 3 by omega]
  exact hr
theorem open_term {tT sT iT : TypeId} {f0 f1 f2 : Field} (hT : P.underlying tT = some (.struct #[f0, f1, f2])) (hS : P.underlying sT = some (.slice tT)) (hI : P.underlying iT = some (.int .i64))
   (hf : f0.type = iT ∧ f0.offset = 0 ∧ f1.type = iT ∧ f1.offset = 1 ∧ f2.type = sT ∧ f2.offset = 2 ∧ P.cellsOf tT = 3 ∧ P.cellsOf iT = 1 ∧ P.cellsOf sT = 1) :
   ∀ (fuel : Nat) (cs : List Value) (x : DataW H × List MemPlace), DataW.trod enc P W 0 sp hd fuel tT cs = some x → ∃ t : HT, cs = [.int .i64 t.k, .int .i64 t.n, t.sl] ∧ Rd (fun _ => True) W t := by
 obtain ⟨h0, o0, h1, o1, h2, o2, cT, cI, cS⟩ := hf
 intro fuel
 induction fuel using Nat.strongRecOn with | _ fuel ih =>
 intro cs x hx
 obtain ⟨xs, n, rfl, _, hlen, _, hfs⟩ := DataW.trod_struct hT hx
 rw [cT] at hlen
 obtain ⟨c0, c1, c2, rfl⟩ : ∃ c0 c1 c2, cs = [c0, c1, c2] := by
  match cs, hlen with
  | [c0, c1, c2], _ => exact ⟨c0, c1, c2, rfl⟩
 have hsz : xs.length = 3 := by rename_i h; simpa using h
 have g0 := hfs 0 f0 rfl
 have g1 := hfs 1 f1 rfl
 have g2 := hfs 2 f2 rfl
 rw [h0, o0, cI, List.getElem?_eq_getElem (by omega)] at g0
 rw [h1, o1, cI, List.getElem?_eq_getElem (by omega)] at g1
 rw [h2, o2, cS, List.getElem?_eq_getElem (by omega)] at g2
 obtain ⟨k, hk, _, _⟩ := DataW.trod_int hI g0
 obtain ⟨m, hm, _, _⟩ := DataW.trod_int hI g1
 simp at hk hm
 subst hk hm
 rcases DataW.trod_slice hS g2 with ⟨hc, _⟩ | ⟨a, len, cap, elems, rest, n', rfl, hc, _, _, hle, hcap, hel, hget, _, _⟩
 ·simp at hc
  subst hc
  exact ⟨.mk k m none 0 [], rfl, Rd_none⟩
 ·simp at hc
  subst hc
  have each : ∀ i, i < len → ∃ t : HT, (W.cell? (a.add (i * 3)) = some (.int .i64 t.k) ∧ W.cell? ((a.add (i * 3)).add 1) = some (.int .i64 t.n) ∧ W.cell? ((a.add (i * 3)).add 2) = some t.sl) ∧ Rd (fun _ => True) W t := by
   intro i hi
   have := hget i hi
   rw [cT, List.getElem?_eq_getElem (by omega)] at this
   obtain ⟨cs', hc1, hc2⟩ := Option.bind_eq_some_iff.1 this
   obtain ⟨t, rfl, ht⟩ := ih n' (by omega) _ _ hc2
   obtain ⟨_, _, hcell⟩ := World.cells?_some hc1
   exact ⟨t, ⟨by simpa [Addr.add] using hcell 0 (by omega), by simpa using hcell 1 (by omega), by simpa using hcell 2 (by omega)⟩, ht⟩
  have hmax : cap ≤ 9223372036854775807 := by simp only [maxLen] at hcap; omega
  rcases Nat.eq_zero_or_pos len with rfl | hpos
  ·exact ⟨.mk k m (some a) cap [], rfl, Rd_none⟩
  ·obtain ⟨t0, ⟨hz, _, _⟩, _⟩ := each 0 hpos
   obtain ⟨b, off, spot⟩ := a
   have hspot : spot = none := by simpa [Addr.add] using World.cell?_spot hz
   subst hspot
   obtain ⟨ts, hl, hr⟩ := open_kids (W := W) (b := b) (off := off) (len := len) (fun i hi => by
    obtain ⟨t, ⟨e0, e1, e2⟩, ht⟩ := each i hi
    rw [addr_add] at e0 e1 e2
    rw [addr_add] at e1 e2
    exact ⟨t, ⟨e0, e1, e2⟩, ht⟩) len (Nat.le_refl _)
   rw [Nat.sub_self, Nat.zero_mul, Nat.add_zero] at hr
   refine ⟨.mk k m (some ⟨b, off, none⟩) cap ts, ?_, Rd_mk (by omega) (by omega) trivial hr⟩
   simp only [HT.k, HT.n, HT.sl, HT.a, HT.kids, HT.cap, hl]
end
end Go.Proofs.Ytgchmppmecnniaa
end
section
namespace Go.Proofs.Ytgchmppmecnniaa
open Go.ChangeShapes Go.WideShapes Go.ChangeAt Go.RowKit
open Go.ChangeMaps (open_string shut_string)
open Go.Dk
theorem szL_le (ts : List T) (left : Int) : szL ts left ≤ left ∨ left < -1 := by unfold szL; split <;> omega
theorem szL_out {ts : List T} {left : Int} (h : 0 ≤ szL ts left) : (T.sizeL ts : Int) ≤ left ∧ szL ts left = left - T.sizeL ts := by
 unfold szL at h ⊢
 split at h
 ·rename_i h1; rw [if_pos h1]; exact ⟨h1, rfl⟩
 ·omega
section
variable {H : Type} {enc : TypeId × Value → H} {P : Program} {W : World} {sp : Nat → Bool} {hd : Bool}
end
end Go.Proofs.Ytgchmppmecnniaa
end
section
namespace Go.Proofs.Ytgchmppmecnniaa
open Go Go.Ab
open Go.Dk (Rd HT Grow T)
theorem sizeT {t : HT} (h : T.sizeL t.er.kids ≤ 1048576) : t.er.size ≤ 1048577 := by rw [T.size_eq]; omega
end Go.Proofs.Ytgchmppmecnniaa
namespace Go.Proofs.Ytgchmppmecnniaa
open Go Go.Dk
theorem zero_own (w w' : World) : Own w w' (.mk 0 0 none 0 []) :=
 ⟨⟨Rd_none, by simp [HT.blocks, HT.head, HT.blocksL], fun b hb => by simp [HT.blocks, HT.head, HT.blocksL] at hb⟩, fun b hb => by simp [HT.blocks, HT.head, HT.blocksL] at hb⟩
set_option maxRecDepth 100000 in
set_option maxHeartbeats 1000000 in
theorem i_valid (t : HT) (Z : Zone) (w : World) (hr : Rd Z w t) : Calls Try.prog 41 #[t.val] w fun e w' => e = .returned (.tuple #[cond (validB t.er) t.val (.agg #[.int .i64 0, .int .i64 0, .slice none 0 0]), .bool (validB t.er)]) ∧ Grow w w' := by
 have H := St.init w noneZ Z (rdF_stable t) hr
 go_enter Try.func41, Try.ntmps41
 repeat' ((first | (refine T_nil ?_) | ((first | apply U0 | (apply U1; (case hd => decide +kernel)) | (apply U2 (hw := H); (case hd => decide +kernel)) | (apply U3 1; (case hp => rfl); (case hd => decide +kernel)) | (apply U3 2; (case hp => rfl); (case hd => decide +kernel)) | (apply U3 3; (case hp => rfl); (case hd => decide +kernel)) | (apply U3 4; (case hp => rfl); (case hd => decide +kernel)) | (apply U3 5; (case hp => rfl); (case hd => decide +kernel)) | (apply U3 6; (case hp => rfl); (case hd => decide +kernel)) | (apply U3 7; (case hp => rfl); (case hd => decide +kernel)) | (apply U3 8; (case hp => rfl); (case hd => decide +kernel)) | (apply U3 9; (case hp => rfl); (case hd => decide +kernel)) | (apply U3 10; (case hp => rfl); (case hd => decide +kernel)) | (apply U3 11; (case hp => rfl); (case hd => decide +kernel))); (case hg => rfl); (case hy => (first | (apply Yi.a; constructor; all_goals (first | rfl | (constructor <;> omega) | (apply CellIs.own; (case h => repeat constructor); rfl) | (apply Cell3.own; (case h => repeat constructor); all_goals rfl))) | (apply Yi.b; constructor; all_goals (first | rfl | (constructor <;> omega) | (apply CellIs.own; (case h => repeat constructor); rfl) | (apply Cell3.own; (case h => repeat constructor); all_goals rfl))) | (apply Yi.c; constructor; all_goals (first | rfl | (constructor <;> omega) | (apply CellIs.own; (case h => repeat constructor); rfl) | (apply Cell3.own; (case h => repeat constructor); all_goals rfl)))))) | ((first | apply V0 | apply V1 | apply V2 (hw := H)); (case hg => rfl); try decide +kernel) | ((first | refine G0 H ?_ | (refine G1 H (fun _ _ _ _ h => h) (by decide +kernel) ?_; clear H; intro _ H)); simp only [enum, Nat.reduceAdd]) | (apply B0 (hw := H); (case hg => rfl); (case hd => first | exact hd_false | decide +kernel); (case hx => rfl); (case hc => rfl); clear H; intro bx _ H) | (apply B1 (hw := H); (case hg => rfl); (case hd => first | exact hd_false | decide +kernel); clear H; intro ax _ H) | ((apply W0 (hw := H); (case hg => rfl); (case hd => first | exact hd_false | decide +kernel); (case hx => rfl); (case hy => rfl); (case hc => rfl); (case hn => repeat constructor); (case h1 => rfl); clear H; intro _ H; (try dsimp only at H); try simp only [putL, List.set_cons_succ, List.set_cons_zero, evalT, evalC, List.getD_cons_succ, List.getD_cons_zero, Nat.zero_add, Nat.reduceAdd] at H)) | ((apply C0 (hw := H); (case hg => rfl); (case hd => first | exact hd_false | decide +kernel); (case hxs => rfl); (case hc => exact i_TermValid t _ _ H.per); clear H; intro _ H)) | go_step | (apply X0; (case hy => rfl); all_goals (intro hb; simp only [hb]; (try simp only [decide_eq_true_eq, decide_eq_false_iff_not, Bool.not_eq_true', Bool.not_eq_false', Bool.and_eq_true, Bool.or_eq_true, Bool.and_eq_false_iff, Bool.or_eq_false_iff] at hb); try (exfalso; omega)))) <;> try simp only [List.getElem_toArray, List.getElem_cons_zero, List.getElem_cons_succ, Act.put, evalT, evalC, evalF, List.setIfInBounds_toArray, List.set_cons_succ, List.set_cons_zero, List.getD_cons_succ, List.getD_cons_zero, Nat.reduceAdd, Nat.reduceMul, Nat.add_zero, Nat.zero_add, Int.toNat_natCast, Int.reduceToNat, List.eraseIdx_cons_succ, List.eraseIdx_cons_zero, cond_true, cond_false])
 ·have hv : (!validB t.er) = true := by assumption
  simp only [Bool.not_eq_true'] at hv
  ((try simp only [Exit.inBlock, Exit.then]); refine ret_post (res2 rfl (R_cell rfl (load3 (ST3.out) (H.cell at0 rfl) (H.cell at0 rfl) (H.cell at0 rfl))) (R_tmp rfl)) ?_; try simp only [List.getD_cons_succ, List.getD_cons_zero])
  rw [hv]
  exact ⟨rfl, H.ext⟩
 ·have hv : (!validB t.er) = false := by assumption
  simp only [Bool.not_eq_false'] at hv
  ((try simp only [Exit.inBlock, Exit.then]); refine ret_post (res2 rfl (R_cell rfl (load3 (ST3.out) (H.cell at0 rfl) (H.cell at0 rfl) (H.cell at0 rfl))) (R_tmp rfl)) ?_; try simp only [List.getD_cons_succ, List.getD_cons_zero])
  rw [hv]
  exact ⟨rfl, H.ext⟩
theorem i_valid_of (t : HT) (b : Bool) (hb : validB t.er = b) (Z : Zone) (w : World) (hr : Rd Z w t) : Calls Try.prog 41 #[t.val] w fun e w' => e = .returned (.tuple #[cond b t.val (.agg #[.int .i64 0, .int .i64 0, .slice none 0 0]), .bool b]) ∧ Grow w w' := by
 subst hb; exact i_valid t Z w hr
end Go.Proofs.Ytgchmppmecnniaa
end
section
namespace Go.Dk
open Go
def iF (a : Option Addr) (l : List Int) : Fact := fun Z w => ∀ i v, l[i]? = some v → ∃ b off, a = some ⟨b, off, none⟩ ∧ Z b ∧ w.cell? ⟨b, off + i, none⟩ = some (.int .i64 v)
theorem iF_stable (a : Option Addr) (l : List Int) : Stable (iF a l) := fun Z Z' w w' hz h i v hi => by
 obtain ⟨b, off, ha, hb, hc⟩ := h i v hi
 have hk := hz b hb (cell_lt hc)
 exact ⟨b, off, ha, hk.1, (cell_keep hk.2).trans hc⟩
theorem iF.any {Z : Zone} {w : World} {a : Option Addr} {l : List Int} (h : iF a l Z w) : iF a l (fun _ => True) w := fun i v hi => by
 obtain ⟨b, off, ha, _, hc⟩ := h i v hi
 exact ⟨b, off, ha, trivial, hc⟩
theorem iF.cell {Z Z' : Zone} {w w' : World} {b off i : Nat} {l : List Int} {v : Int} (h : iF (some ⟨b, off, none⟩) l Z w) (hv : l[i]? = some v) : w.cell? ⟨b, off + i, none⟩ = some (.int .i64 v) := by
 obtain ⟨b', off', ha, _, hc⟩ := h i v hv
 injection ha with ha
 injection ha with h1 h2
 subst h1 h2
 exact hc
theorem iF_blk {w : World} {b : Nat} {E : TypeId} {l : List Int} (h : (blk b (l.map (.int .i64 ·)) E).own w) : iF (some ⟨b, 0, none⟩) l (fun _ => True) w := fun i v hi => by
 refine ⟨b, 0, rfl, trivial, ?_⟩
 have h : w.heap[b]? = some (.cells (l.map (Value.int .i64 ·)).toArray E (0, 0)) := h
 simp [World.cell?, h, hi]
theorem St.iF_at {w0 w : World} {M Z0 : Zone} {L : List Res} {φ : Fact} {b : Nat} {E : TypeId} {l : List Int} (h : St w0 M Z0 L φ w) (n : Nat) (hn : L[n]? = some (blk b (l.map (.int .i64 ·)) E)) : iF (some ⟨b, 0, none⟩) l (fun _ => True) w := iF_blk (h.own _ (List.mem_of_getElem? hn))
end Go.Dk
namespace Go.Ab
open Go Go.Dk
theorem ints_of {Z : Zone} {w : World} {l : List Int} {x : Value} (h : SlR Z w (.is l) x) : ∃ a cap, x = .slice a l.length cap ∧ l.length ≤ cap ∧ iF a l Z w := by
 obtain ⟨a, cap, xs, rfl, hc, hm, rfl, h4⟩ := h
 refine ⟨a, cap, rfl, hc, fun i v hi => ?_⟩
 rcases h4 with h4 | ⟨b, off, rfl, hz, hat⟩
 ·have : l = [] := List.map_eq_nil_iff.1 h4
  subst this; simp at hi
 ·exact ⟨b, off, rfl, hz, hat i _ (by rw [List.getElem?_map, hi]; rfl)⟩
theorem ints_to {Z : Zone} {w : World} {l : List Int} {a : Option Addr} {cap : Nat} (hc : l.length ≤ cap) (hm : l.length ≤ 1048576) (h : iF a l Z w) : SlR Z w (.is l) (.slice a l.length cap) := by
 refine ⟨a, cap, _, rfl, hc, by simp only [SD.len, maxLen]; omega, rfl, ?_⟩
 cases l with
 | nil => exact .inl rfl
 | cons v l =>
  obtain ⟨b, off, ha, hz, _⟩ := h 0 v rfl
  refine .inr ⟨b, off, ha, hz, fun i x hx => ?_⟩
  rw [List.getElem?_map, Option.map_eq_some_iff] at hx
  obtain ⟨u, hu, rfl⟩ := hx
  subst ha
  exact h.cell (Z' := Z) (w' := w) hu
end Go.Ab
namespace Go.Proofs.Ytgchmppmecnniaa
open Go Go.Dk
set_option maxRecDepth 100000 in
set_option maxHeartbeats 1000000 in
theorem l_toIntS (l : List Int) (a : Option Addr) (cap : Nat) (Z : Zone) (w : World) (hr : iF a l Z w) (hl : l.length ≤ 1048576) :
   Calls Try.prog 26 #[.slice a l.length cap] w fun e w' => ∃ b, e = .returned (.slice (some ⟨b, 0, none⟩) l.length l.length) ∧ Grow w w' ∧ w.heap.size ≤ b ∧ b < w'.heap.size ∧ (blk b (l.map (.int .i64 ·)) 3).own w' := by
 have H := St.init w noneZ Z (iF_stable a l) hr
 go_enter Try.func26, Try.ntmps26
 repeat' ((first | (refine T_nil ?_) | ((first | apply U0 | (apply U1; (case hd => decide +kernel)) | (apply U2 (hw := H); (case hd => decide +kernel)) | (apply U3 1; (case hp => rfl); (case hd => decide +kernel)) | (apply U3 2; (case hp => rfl); (case hd => decide +kernel)) | (apply U3 3; (case hp => rfl); (case hd => decide +kernel)) | (apply U3 4; (case hp => rfl); (case hd => decide +kernel)) | (apply U3 5; (case hp => rfl); (case hd => decide +kernel)) | (apply U3 6; (case hp => rfl); (case hd => decide +kernel)) | (apply U3 7; (case hp => rfl); (case hd => decide +kernel)) | (apply U3 8; (case hp => rfl); (case hd => decide +kernel)) | (apply U3 9; (case hp => rfl); (case hd => decide +kernel)) | (apply U3 10; (case hp => rfl); (case hd => decide +kernel)) | (apply U3 11; (case hp => rfl); (case hd => decide +kernel))); (case hg => rfl); (case hy => (first | (apply Yi.a; constructor; all_goals (first | rfl | (constructor <;> omega) | (apply CellIs.own; (case h => repeat constructor); rfl) | (apply Cell3.own; (case h => repeat constructor); all_goals rfl))) | (apply Yi.b; constructor; all_goals (first | rfl | (constructor <;> omega) | (apply CellIs.own; (case h => repeat constructor); rfl) | (apply Cell3.own; (case h => repeat constructor); all_goals rfl))) | (apply Yi.c; constructor; all_goals (first | rfl | (constructor <;> omega) | (apply CellIs.own; (case h => repeat constructor); rfl) | (apply Cell3.own; (case h => repeat constructor); all_goals rfl)))))) | ((first | apply V0 | apply V1 | apply V2 (hw := H)); (case hg => rfl); try decide +kernel) | ((first | refine G0 H ?_ | (refine G1 H (fun _ _ _ _ h => h) (by decide +kernel) ?_; clear H; intro _ H)); simp only [enum, Nat.reduceAdd]) | (apply B0 (hw := H); (case hg => rfl); (case hd => first | exact hd_false | decide +kernel); (case hx => rfl); (case hc => rfl); clear H; intro bx _ H) | (apply B1 (hw := H); (case hg => rfl); (case hd => first | exact hd_false | decide +kernel); clear H; intro ax _ H) | ((apply B3 (hw := H); (case hg => rfl); (case hd => first | exact hd_false | decide +kernel); (case hx => rfl); (case hy => rfl); (case hn => omega); (case hn2 => omega); clear H; intro mx _ H)) | go_step | (apply X0; (case hy => rfl); all_goals (intro hb; simp only [hb]; (try simp only [decide_eq_true_eq, decide_eq_false_iff_not, Bool.not_eq_true', Bool.not_eq_false', Bool.and_eq_true, Bool.or_eq_true, Bool.and_eq_false_iff, Bool.or_eq_false_iff] at hb); try (exfalso; omega)))) <;> try simp only [List.getElem_toArray, List.getElem_cons_zero, List.getElem_cons_succ, Act.put, evalT, evalC, evalF, List.setIfInBounds_toArray, List.set_cons_succ, List.set_cons_zero, List.getD_cons_succ, List.getD_cons_zero, Nat.reduceAdd, Nat.reduceMul, Nat.add_zero, Nat.zero_add, Int.toNat_natCast, Int.reduceToNat, List.eraseIdx_cons_succ, List.eraseIdx_cons_zero, cond_true, cond_false])
 go_loopg [4] l.length (fun g v wr => ∃ (i : Nat), v = .int .i64 i ∧ i + g = l.length ∧ St w noneZ Z [blk mx ((l.take i).map (.int .i64 ·) ++ (List.replicate g [Value.int .i64 0]).flatten) 3] (iF a l) wr)
 case atStart => exact ⟨0, rfl, by omega, by simpa using H⟩
 case round =>
  clear H
  obtain ⟨i, rfl, hi, H⟩ := hrel
  by_cases hlt : i < l.length
  ·have hv : l[i]? = some l[i] := List.getElem?_eq_getElem hlt
   obtain ⟨b, off, ha, _, _⟩ := hr i _ hv
   have htk := List.take_append_getElem hlt
   generalize l[i] = v at hv htk
   subst ha
   obtain ⟨m, rfl⟩ : ∃ m, gk = m + 1 := ⟨gk - 1, by omega⟩
   have c0 : ∀ w', St w noneZ Z [blk mx ((l.take i).map (.int .i64 ·) ++ (List.replicate (m + 1) [Value.int .i64 0]).flatten) 3] (iF (some ⟨b, off, none⟩) l) w' → w'.cell? ⟨b, off + i * 1, none⟩ = some (.int .i64 v) := fun w h => by rw [Nat.mul_one]; exact h.per.cell (Z' := Z) (w' := w) hv
   repeat' ((first | (refine T_nil ?_) | ((first | apply U0 | (apply U1; (case hd => decide +kernel)) | (apply U2 (hw := H); (case hd => decide +kernel)) | (apply U3 1; (case hp => rfl); (case hd => decide +kernel)) | (apply U3 2; (case hp => rfl); (case hd => decide +kernel)) | (apply U3 3; (case hp => rfl); (case hd => decide +kernel)) | (apply U3 4; (case hp => rfl); (case hd => decide +kernel)) | (apply U3 5; (case hp => rfl); (case hd => decide +kernel)) | (apply U3 6; (case hp => rfl); (case hd => decide +kernel)) | (apply U3 7; (case hp => rfl); (case hd => decide +kernel)) | (apply U3 8; (case hp => rfl); (case hd => decide +kernel)) | (apply U3 9; (case hp => rfl); (case hd => decide +kernel)) | (apply U3 10; (case hp => rfl); (case hd => decide +kernel)) | (apply U3 11; (case hp => rfl); (case hd => decide +kernel))); (case hg => rfl); (case hy => (first | (apply Yi.a; constructor; all_goals (first | rfl | (constructor <;> omega) | (apply CellIs.own; (case h => repeat constructor); rfl) | (apply Cell3.own; (case h => repeat constructor); all_goals rfl) | exact .mk (by with_reducible exact c0))) | (apply Yi.b; constructor; all_goals (first | rfl | (constructor <;> omega) | (apply CellIs.own; (case h => repeat constructor); rfl) | (apply Cell3.own; (case h => repeat constructor); all_goals rfl) | exact .mk (by with_reducible exact c0))) | (apply Yi.c; constructor; all_goals (first | rfl | (constructor <;> omega) | (apply CellIs.own; (case h => repeat constructor); rfl) | (apply Cell3.own; (case h => repeat constructor); all_goals rfl) | exact .mk (by with_reducible exact c0)))))) | ((first | apply V0 | apply V1 | apply V2 (hw := H)); (case hg => rfl); try decide +kernel) | ((first | refine G0 H ?_ | (refine G1 H (fun _ _ _ _ h => h) (by decide +kernel) ?_; clear H; intro _ H)); simp only [enum, Nat.reduceAdd]) | (apply B0 (hw := H); (case hg => rfl); (case hd => first | exact hd_false | decide +kernel); (case hx => rfl); (case hc => rfl); clear H; intro bx _ H) | (apply B1 (hw := H); (case hg => rfl); (case hd => first | exact hd_false | decide +kernel); clear H; intro ax _ H) | ((apply W0 (hw := H); (case hg => rfl); (case hd => first | exact hd_false | decide +kernel); (case hx => rfl); (case hy => rfl); (case hc => rfl); (case hn => repeat constructor); (case h1 => (rw [Bool.and_eq_true]; exact ⟨rfl, (by rw [Nat.ble_eq]; simp; omega)⟩)); clear H; intro _ H; (try dsimp only at H); try simp only [evalT, evalC, List.getD_cons_succ, List.getD_cons_zero] at H)) | go_step | (apply X0; (case hy => rfl); all_goals (intro hb; simp only [hb]; (try simp only [decide_eq_true_eq, decide_eq_false_iff_not, Bool.not_eq_true', Bool.not_eq_false', Bool.and_eq_true, Bool.or_eq_true, Bool.and_eq_false_iff, Bool.or_eq_false_iff] at hb); try (exfalso; omega)))) <;> try simp only [List.getElem_toArray, List.getElem_cons_zero, List.getElem_cons_succ, Act.put, evalT, evalC, evalF, List.setIfInBounds_toArray, List.set_cons_succ, List.set_cons_zero, List.getD_cons_succ, List.getD_cons_zero, Nat.reduceAdd, Nat.reduceMul, Nat.add_zero, Nat.zero_add, Int.toNat_natCast, Int.reduceToNat, List.eraseIdx_cons_succ, List.eraseIdx_cons_zero, cond_true, cond_false])
   go_roundg m
   case measure => omega
   case rel =>
    refine ⟨i + 1, by simp, by omega, ?_⟩
    have e : putL ((l.take i).map (Value.int .i64 ·) ++ (List.replicate (m + 1) [Value.int .i64 0]).flatten) (0 + i * 1) [.int .i64 v] = (l.take (i + 1)).map (Value.int .i64 ·) ++ (List.replicate m [Value.int .i64 0]).flatten := by
     have h := putL_at ((l.take i).map (Value.int .i64 ·)) (List.replicate m [Value.int .i64 0]).flatten [.int .i64 v] [.int .i64 0] rfl
     rw [List.length_map, List.length_take, Nat.min_eq_left (by omega)] at h
     rw [Nat.zero_add, Nat.mul_one, List.replicate_succ, List.flatten_cons, h, ← htk, List.map_append, List.append_assoc]
     rfl
    rw [← e, Nat.zero_add]; exact H
  ·have h0 : i = l.length := by omega
   have hg : gk = 0 := by omega
   subst hg
   have hlt' : ¬ ((i : Int) < l.length) := by omega
   repeat' ((first | (refine T_nil ?_) | ((first | apply U0 | (apply U1; (case hd => decide +kernel)) | (apply U2 (hw := H); (case hd => decide +kernel)) | (apply U3 1; (case hp => rfl); (case hd => decide +kernel)) | (apply U3 2; (case hp => rfl); (case hd => decide +kernel)) | (apply U3 3; (case hp => rfl); (case hd => decide +kernel)) | (apply U3 4; (case hp => rfl); (case hd => decide +kernel)) | (apply U3 5; (case hp => rfl); (case hd => decide +kernel)) | (apply U3 6; (case hp => rfl); (case hd => decide +kernel)) | (apply U3 7; (case hp => rfl); (case hd => decide +kernel)) | (apply U3 8; (case hp => rfl); (case hd => decide +kernel)) | (apply U3 9; (case hp => rfl); (case hd => decide +kernel)) | (apply U3 10; (case hp => rfl); (case hd => decide +kernel)) | (apply U3 11; (case hp => rfl); (case hd => decide +kernel))); (case hg => rfl); (case hy => (first | (apply Yi.a; constructor; all_goals (first | rfl | (constructor <;> omega) | (apply CellIs.own; (case h => repeat constructor); rfl) | (apply Cell3.own; (case h => repeat constructor); all_goals rfl))) | (apply Yi.b; constructor; all_goals (first | rfl | (constructor <;> omega) | (apply CellIs.own; (case h => repeat constructor); rfl) | (apply Cell3.own; (case h => repeat constructor); all_goals rfl))) | (apply Yi.c; constructor; all_goals (first | rfl | (constructor <;> omega) | (apply CellIs.own; (case h => repeat constructor); rfl) | (apply Cell3.own; (case h => repeat constructor); all_goals rfl)))))) | ((first | apply V0 | apply V1 | apply V2 (hw := H)); (case hg => rfl); try decide +kernel) | ((first | refine G0 H ?_ | (refine G1 H (fun _ _ _ _ h => h) (by decide +kernel) ?_; clear H; intro _ H)); simp only [enum, Nat.reduceAdd]) | (apply B0 (hw := H); (case hg => rfl); (case hd => first | exact hd_false | decide +kernel); (case hx => rfl); (case hc => rfl); clear H; intro bx _ H) | (apply B1 (hw := H); (case hg => rfl); (case hd => first | exact hd_false | decide +kernel); clear H; intro ax _ H) | go_step | (apply X0; (case hy => rfl); all_goals (intro hb; simp only [hb]; (try simp only [decide_eq_true_eq, decide_eq_false_iff_not, Bool.not_eq_true', Bool.not_eq_false', Bool.and_eq_true, Bool.or_eq_true, Bool.and_eq_false_iff, Bool.or_eq_false_iff] at hb); try (exfalso; omega)))) <;> try simp only [List.getElem_toArray, List.getElem_cons_zero, List.getElem_cons_succ, Act.put, evalT, evalC, evalF, List.setIfInBounds_toArray, List.set_cons_succ, List.set_cons_zero, List.getD_cons_succ, List.getD_cons_zero, Nat.reduceAdd, Nat.reduceMul, Nat.add_zero, Nat.zero_add, Int.toNat_natCast, Int.reduceToNat, List.eraseIdx_cons_succ, List.eraseIdx_cons_zero, cond_true, cond_false])
   ((try simp only [Exit.inBlock, Exit.then]); refine ret_post (res1 rfl (R_tmp rfl)) ?_; try simp only [List.getD_cons_succ, List.getD_cons_zero])
   have hb := H.key _ (List.mem_cons_self ..) mx rfl
   refine ⟨mx, (by first | rfl | trivial), H.ext, hb.1.resolve_left (fun h => h), hb.2, ?_⟩
   have := H.own _ (List.mem_cons_self ..)
   rw [h0, List.take_length, List.replicate_zero, List.flatten_nil, List.append_nil] at this
   exact this
set_option maxRecDepth 100000 in
set_option maxHeartbeats 1000000 in
theorem l_eqIntS_same (l : List Int) (a a' : Option Addr) (cap cap' : Nat) (w : World) (hr : iF a l anyZ w) (hr' : iF a' l anyZ w) (hl : l.length ≤ 1048576) :
   Calls Try.prog 29 #[.slice a l.length cap, .slice a' l.length cap'] w fun e w' => e = .returned (.bool true) ∧ Grow w w' := by
 have H := St.init w noneZ anyZ ((iF_stable a l).and (iF_stable a' l)) ⟨hr, hr'⟩
 go_enter Try.func29, Try.ntmps29
 repeat' ((first | (refine T_nil ?_) | ((first | apply U0 | (apply U1; (case hd => decide +kernel)) | (apply U2 (hw := H); (case hd => decide +kernel)) | (apply U3 1; (case hp => rfl); (case hd => decide +kernel)) | (apply U3 2; (case hp => rfl); (case hd => decide +kernel)) | (apply U3 3; (case hp => rfl); (case hd => decide +kernel)) | (apply U3 4; (case hp => rfl); (case hd => decide +kernel)) | (apply U3 5; (case hp => rfl); (case hd => decide +kernel)) | (apply U3 6; (case hp => rfl); (case hd => decide +kernel)) | (apply U3 7; (case hp => rfl); (case hd => decide +kernel)) | (apply U3 8; (case hp => rfl); (case hd => decide +kernel)) | (apply U3 9; (case hp => rfl); (case hd => decide +kernel)) | (apply U3 10; (case hp => rfl); (case hd => decide +kernel)) | (apply U3 11; (case hp => rfl); (case hd => decide +kernel))); (case hg => rfl); (case hy => (first | (apply Yi.a; constructor; all_goals (first | rfl | (constructor <;> omega) | (apply CellIs.own; (case h => repeat constructor); rfl) | (apply Cell3.own; (case h => repeat constructor); all_goals rfl))) | (apply Yi.b; constructor; all_goals (first | rfl | (constructor <;> omega) | (apply CellIs.own; (case h => repeat constructor); rfl) | (apply Cell3.own; (case h => repeat constructor); all_goals rfl))) | (apply Yi.c; constructor; all_goals (first | rfl | (constructor <;> omega) | (apply CellIs.own; (case h => repeat constructor); rfl) | (apply Cell3.own; (case h => repeat constructor); all_goals rfl)))))) | ((first | apply V0 | apply V1 | apply V2 (hw := H)); (case hg => rfl); try decide +kernel) | ((first | refine G0 H ?_ | (refine G1 H (fun _ _ _ _ h => h) (by decide +kernel) ?_; clear H; intro _ H)); simp only [enum, Nat.reduceAdd]) | (apply B0 (hw := H); (case hg => rfl); (case hd => first | exact hd_false | decide +kernel); (case hx => rfl); (case hc => rfl); clear H; intro bx _ H) | (apply B1 (hw := H); (case hg => rfl); (case hd => first | exact hd_false | decide +kernel); clear H; intro ax _ H) | go_step | (apply X0; (case hy => rfl); all_goals (intro hb; simp only [hb]; (try simp only [decide_eq_true_eq, decide_eq_false_iff_not, Bool.not_eq_true', Bool.not_eq_false', Bool.and_eq_true, Bool.or_eq_true, Bool.and_eq_false_iff, Bool.or_eq_false_iff] at hb); try (exfalso; omega)))) <;> try simp only [List.getElem_toArray, List.getElem_cons_zero, List.getElem_cons_succ, Act.put, evalT, evalC, evalF, List.setIfInBounds_toArray, List.set_cons_succ, List.set_cons_zero, List.getD_cons_succ, List.getD_cons_zero, Nat.reduceAdd, Nat.reduceMul, Nat.add_zero, Nat.zero_add, Int.toNat_natCast, Int.reduceToNat, List.eraseIdx_cons_succ, List.eraseIdx_cons_zero, cond_true, cond_false])
 all_goals first | (exfalso; simp_all; done) | skip
 go_loopg [5] l.length (fun g v wr => ∃ (i : Nat), v = .int .i64 i ∧ i + g = l.length ∧ St w noneZ anyZ [] (andF (iF a l) (iF a' l)) wr)
 case atStart => exact ⟨0, rfl, by omega, H⟩
 case round =>
  clear H
  obtain ⟨i, rfl, hi, H⟩ := hrel
  by_cases hlt : i < l.length
  ·have hv : l[i]? = some l[i] := List.getElem?_eq_getElem hlt
   obtain ⟨b, off, ha, _, _⟩ := hr i _ hv
   obtain ⟨b', off', ha', _, _⟩ := hr' i _ hv
   generalize l[i] = v at hv
   subst ha ha'
   have c0 : ∀ w', St w noneZ anyZ [] (andF (iF (some ⟨b, off, none⟩) l) (iF (some ⟨b', off', none⟩) l)) w' → w'.cell? ⟨b, off + i * 1, none⟩ = some (.int .i64 v) := fun w h => by rw [Nat.mul_one]; exact h.per.1.cell (Z' := anyZ) (w' := w) hv
   have c1 : ∀ w', St w noneZ anyZ [] (andF (iF (some ⟨b, off, none⟩) l) (iF (some ⟨b', off', none⟩) l)) w' → w'.cell? ⟨b', off' + i * 1, none⟩ = some (.int .i64 v) := fun w h => by rw [Nat.mul_one]; exact h.per.2.cell (Z' := anyZ) (w' := w) hv
   repeat' ((first | (refine T_nil ?_) | ((first | apply U0 | (apply U1; (case hd => decide +kernel)) | (apply U2 (hw := H); (case hd => decide +kernel)) | (apply U3 1; (case hp => rfl); (case hd => decide +kernel)) | (apply U3 2; (case hp => rfl); (case hd => decide +kernel)) | (apply U3 3; (case hp => rfl); (case hd => decide +kernel)) | (apply U3 4; (case hp => rfl); (case hd => decide +kernel)) | (apply U3 5; (case hp => rfl); (case hd => decide +kernel)) | (apply U3 6; (case hp => rfl); (case hd => decide +kernel)) | (apply U3 7; (case hp => rfl); (case hd => decide +kernel)) | (apply U3 8; (case hp => rfl); (case hd => decide +kernel)) | (apply U3 9; (case hp => rfl); (case hd => decide +kernel)) | (apply U3 10; (case hp => rfl); (case hd => decide +kernel)) | (apply U3 11; (case hp => rfl); (case hd => decide +kernel))); (case hg => rfl); (case hy => (first | (apply Yi.a; constructor; all_goals (first | rfl | (constructor <;> omega) | (apply CellIs.own; (case h => repeat constructor); rfl) | (apply Cell3.own; (case h => repeat constructor); all_goals rfl) | exact .mk (by with_reducible exact c0) | exact .mk (by with_reducible exact c1))) | (apply Yi.b; constructor; all_goals (first | rfl | (constructor <;> omega) | (apply CellIs.own; (case h => repeat constructor); rfl) | (apply Cell3.own; (case h => repeat constructor); all_goals rfl) | exact .mk (by with_reducible exact c0) | exact .mk (by with_reducible exact c1))) | (apply Yi.c; constructor; all_goals (first | rfl | (constructor <;> omega) | (apply CellIs.own; (case h => repeat constructor); rfl) | (apply Cell3.own; (case h => repeat constructor); all_goals rfl) | exact .mk (by with_reducible exact c0) | exact .mk (by with_reducible exact c1)))))) | ((first | apply V0 | apply V1 | apply V2 (hw := H)); (case hg => rfl); try decide +kernel) | ((first | refine G0 H ?_ | (refine G1 H (fun _ _ _ _ h => h) (by decide +kernel) ?_; clear H; intro _ H)); simp only [enum, Nat.reduceAdd]) | (apply B0 (hw := H); (case hg => rfl); (case hd => first | exact hd_false | decide +kernel); (case hx => rfl); (case hc => rfl); clear H; intro bx _ H) | (apply B1 (hw := H); (case hg => rfl); (case hd => first | exact hd_false | decide +kernel); clear H; intro ax _ H) | go_step | (apply X0; (case hy => rfl); all_goals (intro hb; simp only [hb]; (try simp only [decide_eq_true_eq, decide_eq_false_iff_not, Bool.not_eq_true', Bool.not_eq_false', Bool.and_eq_true, Bool.or_eq_true, Bool.and_eq_false_iff, Bool.or_eq_false_iff] at hb); try (exfalso; omega)))) <;> try simp only [List.getElem_toArray, List.getElem_cons_zero, List.getElem_cons_succ, Act.put, evalT, evalC, evalF, List.setIfInBounds_toArray, List.set_cons_succ, List.set_cons_zero, List.getD_cons_succ, List.getD_cons_zero, Nat.reduceAdd, Nat.reduceMul, Nat.add_zero, Nat.zero_add, Int.toNat_natCast, Int.reduceToNat, List.eraseIdx_cons_succ, List.eraseIdx_cons_zero, cond_true, cond_false])
   all_goals first | (exfalso; simp_all; done) | skip
   go_roundg (gk - 1)
   case measure => omega
   case rel => exact ⟨i + 1, by simp, by omega, H⟩
  ·have hlt' : ¬ ((i : Int) < l.length) := by omega
   repeat' ((first | (refine T_nil ?_) | ((first | apply U0 | (apply U1; (case hd => decide +kernel)) | (apply U2 (hw := H); (case hd => decide +kernel)) | (apply U3 1; (case hp => rfl); (case hd => decide +kernel)) | (apply U3 2; (case hp => rfl); (case hd => decide +kernel)) | (apply U3 3; (case hp => rfl); (case hd => decide +kernel)) | (apply U3 4; (case hp => rfl); (case hd => decide +kernel)) | (apply U3 5; (case hp => rfl); (case hd => decide +kernel)) | (apply U3 6; (case hp => rfl); (case hd => decide +kernel)) | (apply U3 7; (case hp => rfl); (case hd => decide +kernel)) | (apply U3 8; (case hp => rfl); (case hd => decide +kernel)) | (apply U3 9; (case hp => rfl); (case hd => decide +kernel)) | (apply U3 10; (case hp => rfl); (case hd => decide +kernel)) | (apply U3 11; (case hp => rfl); (case hd => decide +kernel))); (case hg => rfl); (case hy => (first | (apply Yi.a; constructor; all_goals (first | rfl | (constructor <;> omega) | (apply CellIs.own; (case h => repeat constructor); rfl) | (apply Cell3.own; (case h => repeat constructor); all_goals rfl))) | (apply Yi.b; constructor; all_goals (first | rfl | (constructor <;> omega) | (apply CellIs.own; (case h => repeat constructor); rfl) | (apply Cell3.own; (case h => repeat constructor); all_goals rfl))) | (apply Yi.c; constructor; all_goals (first | rfl | (constructor <;> omega) | (apply CellIs.own; (case h => repeat constructor); rfl) | (apply Cell3.own; (case h => repeat constructor); all_goals rfl)))))) | ((first | apply V0 | apply V1 | apply V2 (hw := H)); (case hg => rfl); try decide +kernel) | ((first | refine G0 H ?_ | (refine G1 H (fun _ _ _ _ h => h) (by decide +kernel) ?_; clear H; intro _ H)); simp only [enum, Nat.reduceAdd]) | (apply B0 (hw := H); (case hg => rfl); (case hd => first | exact hd_false | decide +kernel); (case hx => rfl); (case hc => rfl); clear H; intro bx _ H) | (apply B1 (hw := H); (case hg => rfl); (case hd => first | exact hd_false | decide +kernel); clear H; intro ax _ H) | go_step | (apply X0; (case hy => rfl); all_goals (intro hb; simp only [hb]; (try simp only [decide_eq_true_eq, decide_eq_false_iff_not, Bool.not_eq_true', Bool.not_eq_false', Bool.and_eq_true, Bool.or_eq_true, Bool.and_eq_false_iff, Bool.or_eq_false_iff] at hb); try (exfalso; omega)))) <;> try simp only [List.getElem_toArray, List.getElem_cons_zero, List.getElem_cons_succ, Act.put, evalT, evalC, evalF, List.setIfInBounds_toArray, List.set_cons_succ, List.set_cons_zero, List.getD_cons_succ, List.getD_cons_zero, Nat.reduceAdd, Nat.reduceMul, Nat.add_zero, Nat.zero_add, Int.toNat_natCast, Int.reduceToNat, List.eraseIdx_cons_succ, List.eraseIdx_cons_zero, cond_true, cond_false])
   ((try simp only [Exit.inBlock, Exit.then]); refine ret_post (res1 rfl (R_tmp rfl)) ?_; try simp only [List.getD_cons_succ, List.getD_cons_zero])
   (first | exact ⟨rfl, H.ext⟩ | exact ⟨trivial, H.ext⟩)
set_option maxRecDepth 100000 in
set_option maxHeartbeats 1000000 in
theorem l_markIntS (b : Nat) (cs : List Value) (k : Int) (w : World) (ho : (blk b cs 3).own w) (hb : b < w.heap.size) (h0 : 0 ≤ k) (h1 : k ≤ 100000000) (hl : cs.length ≤ 1048576) :
   Calls Try.prog 31 #[.slice (some ⟨b, 0, none⟩) cs.length cs.length, .int .i64 k] w fun e w' => ∃ cs' : List Value, e = .returned (.int .i64 (k + cs.length)) ∧ cs'.length = cs.length ∧ (blk b cs' 3).own w' ∧ Ext (· = b) w w' := by
 have H := St.init1 w (· = b) noneZ Stable.true trivial (blk_local b cs _) ho (fun c hc => ⟨hc, by cases hc; exact hb⟩) (fun b _ h => h)
 go_enter Try.func31, Try.ntmps31
 repeat' ((first | (refine T_nil ?_) | ((first | apply U0 | (apply U1; (case hd => decide +kernel)) | (apply U2 (hw := H); (case hd => decide +kernel)) | (apply U3 1; (case hp => rfl); (case hd => decide +kernel)) | (apply U3 2; (case hp => rfl); (case hd => decide +kernel)) | (apply U3 3; (case hp => rfl); (case hd => decide +kernel)) | (apply U3 4; (case hp => rfl); (case hd => decide +kernel)) | (apply U3 5; (case hp => rfl); (case hd => decide +kernel)) | (apply U3 6; (case hp => rfl); (case hd => decide +kernel)) | (apply U3 7; (case hp => rfl); (case hd => decide +kernel)) | (apply U3 8; (case hp => rfl); (case hd => decide +kernel)) | (apply U3 9; (case hp => rfl); (case hd => decide +kernel)) | (apply U3 10; (case hp => rfl); (case hd => decide +kernel)) | (apply U3 11; (case hp => rfl); (case hd => decide +kernel))); (case hg => rfl); (case hy => (first | (apply Yi.a; constructor; all_goals (first | rfl | (constructor <;> omega) | (apply CellIs.own; (case h => repeat constructor); rfl) | (apply Cell3.own; (case h => repeat constructor); all_goals rfl))) | (apply Yi.b; constructor; all_goals (first | rfl | (constructor <;> omega) | (apply CellIs.own; (case h => repeat constructor); rfl) | (apply Cell3.own; (case h => repeat constructor); all_goals rfl))) | (apply Yi.c; constructor; all_goals (first | rfl | (constructor <;> omega) | (apply CellIs.own; (case h => repeat constructor); rfl) | (apply Cell3.own; (case h => repeat constructor); all_goals rfl)))))) | ((first | apply V0 | apply V1 | apply V2 (hw := H)); (case hg => rfl); try decide +kernel) | ((first | refine G0 H ?_ | (refine G1 H (fun _ _ _ _ h => h) (by decide +kernel) ?_; clear H; intro _ H)); simp only [enum, Nat.reduceAdd]) | (apply B0 (hw := H); (case hg => rfl); (case hd => first | exact hd_false | decide +kernel); (case hx => rfl); (case hc => rfl); clear H; intro bx _ H) | (apply B1 (hw := H); (case hg => rfl); (case hd => first | exact hd_false | decide +kernel); clear H; intro ax _ H) | go_step | (apply X0; (case hy => rfl); all_goals (intro hb; simp only [hb]; (try simp only [decide_eq_true_eq, decide_eq_false_iff_not, Bool.not_eq_true', Bool.not_eq_false', Bool.and_eq_true, Bool.or_eq_true, Bool.and_eq_false_iff, Bool.or_eq_false_iff] at hb); try (exfalso; omega)))) <;> try simp only [List.getElem_toArray, List.getElem_cons_zero, List.getElem_cons_succ, Act.put, evalT, evalC, evalF, List.setIfInBounds_toArray, List.set_cons_succ, List.set_cons_zero, List.getD_cons_succ, List.getD_cons_zero, Nat.reduceAdd, Nat.reduceMul, Nat.add_zero, Nat.zero_add, Int.toNat_natCast, Int.reduceToNat, List.eraseIdx_cons_succ, List.eraseIdx_cons_zero, cond_true, cond_false])
 go_loopg [1, 5] cs.length (fun g v1 v2 wr => ∃ (i : Nat) (xs : List Value), v1 = .int .i64 (k + i) ∧ v2 = .int .i64 i ∧ i + g = cs.length ∧ xs.length = cs.length ∧ St w (· = b) noneZ [blk b xs 3] trueF wr)
 case atStart => exact ⟨0, cs, by simp, rfl, by omega, rfl, H⟩
 case round =>
  clear H
  obtain ⟨i, xs, rfl, rfl, hi, hx, H⟩ := hrel
  by_cases hlt : i < cs.length
  ·repeat' ((first | (refine T_nil ?_) | ((first | apply U0 | (apply U1; (case hd => decide +kernel)) | (apply U2 (hw := H); (case hd => decide +kernel)) | (apply U3 1; (case hp => rfl); (case hd => decide +kernel)) | (apply U3 2; (case hp => rfl); (case hd => decide +kernel)) | (apply U3 3; (case hp => rfl); (case hd => decide +kernel)) | (apply U3 4; (case hp => rfl); (case hd => decide +kernel)) | (apply U3 5; (case hp => rfl); (case hd => decide +kernel)) | (apply U3 6; (case hp => rfl); (case hd => decide +kernel)) | (apply U3 7; (case hp => rfl); (case hd => decide +kernel)) | (apply U3 8; (case hp => rfl); (case hd => decide +kernel)) | (apply U3 9; (case hp => rfl); (case hd => decide +kernel)) | (apply U3 10; (case hp => rfl); (case hd => decide +kernel)) | (apply U3 11; (case hp => rfl); (case hd => decide +kernel))); (case hg => rfl); (case hy => (first | (apply Yi.a; constructor; all_goals (first | rfl | (constructor <;> omega) | (apply CellIs.own; (case h => repeat constructor); rfl) | (apply Cell3.own; (case h => repeat constructor); all_goals rfl))) | (apply Yi.b; constructor; all_goals (first | rfl | (constructor <;> omega) | (apply CellIs.own; (case h => repeat constructor); rfl) | (apply Cell3.own; (case h => repeat constructor); all_goals rfl))) | (apply Yi.c; constructor; all_goals (first | rfl | (constructor <;> omega) | (apply CellIs.own; (case h => repeat constructor); rfl) | (apply Cell3.own; (case h => repeat constructor); all_goals rfl)))))) | ((first | apply V0 | apply V1 | apply V2 (hw := H)); (case hg => rfl); try decide +kernel) | ((first | refine G0 H ?_ | (refine G1 H (fun _ _ _ _ h => h) (by decide +kernel) ?_; clear H; intro _ H)); simp only [enum, Nat.reduceAdd]) | (apply B0 (hw := H); (case hg => rfl); (case hd => first | exact hd_false | decide +kernel); (case hx => rfl); (case hc => rfl); clear H; intro bx _ H) | (apply B1 (hw := H); (case hg => rfl); (case hd => first | exact hd_false | decide +kernel); clear H; intro ax _ H) | ((apply W0 (hw := H); (case hg => rfl); (case hd => first | exact hd_false | decide +kernel); (case hx => rfl); (case hy => rfl); (case hc => rfl); (case hn => repeat constructor); (case h1 => (rw [Bool.and_eq_true]; exact ⟨rfl, (by rw [Nat.ble_eq]; simp; omega)⟩)); clear H; intro _ H; (try dsimp only at H); try simp only [evalT, evalC, List.getD_cons_succ, List.getD_cons_zero] at H)) | go_step | (apply X0; (case hy => rfl); all_goals (intro hb; simp only [hb]; (try simp only [decide_eq_true_eq, decide_eq_false_iff_not, Bool.not_eq_true', Bool.not_eq_false', Bool.and_eq_true, Bool.or_eq_true, Bool.and_eq_false_iff, Bool.or_eq_false_iff] at hb); try (exfalso; omega)))) <;> try simp only [List.getElem_toArray, List.getElem_cons_zero, List.getElem_cons_succ, Act.put, evalT, evalC, evalF, List.setIfInBounds_toArray, List.set_cons_succ, List.set_cons_zero, List.getD_cons_succ, List.getD_cons_zero, Nat.reduceAdd, Nat.reduceMul, Nat.add_zero, Nat.zero_add, Int.toNat_natCast, Int.reduceToNat, List.eraseIdx_cons_succ, List.eraseIdx_cons_zero, cond_true, cond_false])
   go_roundg (gk - 1)
   case measure => omega
   case rel => exact ⟨i + 1, _, by congr 1; omega, by simp, by omega, by simp [putL, hx], H⟩
  ·have hlt' : ¬ ((i : Int) < cs.length) := by omega
   have h0 : i = cs.length := by omega
   subst h0
   repeat' ((first | (refine T_nil ?_) | ((first | apply U0 | (apply U1; (case hd => decide +kernel)) | (apply U2 (hw := H); (case hd => decide +kernel)) | (apply U3 1; (case hp => rfl); (case hd => decide +kernel)) | (apply U3 2; (case hp => rfl); (case hd => decide +kernel)) | (apply U3 3; (case hp => rfl); (case hd => decide +kernel)) | (apply U3 4; (case hp => rfl); (case hd => decide +kernel)) | (apply U3 5; (case hp => rfl); (case hd => decide +kernel)) | (apply U3 6; (case hp => rfl); (case hd => decide +kernel)) | (apply U3 7; (case hp => rfl); (case hd => decide +kernel)) | (apply U3 8; (case hp => rfl); (case hd => decide +kernel)) | (apply U3 9; (case hp => rfl); (case hd => decide +kernel)) | (apply U3 10; (case hp => rfl); (case hd => decide +kernel)) | (apply U3 11; (case hp => rfl); (case hd => decide +kernel))); (case hg => rfl); (case hy => (first | (apply Yi.a; constructor; all_goals (first | rfl | (constructor <;> omega) | (apply CellIs.own; (case h => repeat constructor); rfl) | (apply Cell3.own; (case h => repeat constructor); all_goals rfl))) | (apply Yi.b; constructor; all_goals (first | rfl | (constructor <;> omega) | (apply CellIs.own; (case h => repeat constructor); rfl) | (apply Cell3.own; (case h => repeat constructor); all_goals rfl))) | (apply Yi.c; constructor; all_goals (first | rfl | (constructor <;> omega) | (apply CellIs.own; (case h => repeat constructor); rfl) | (apply Cell3.own; (case h => repeat constructor); all_goals rfl)))))) | ((first | apply V0 | apply V1 | apply V2 (hw := H)); (case hg => rfl); try decide +kernel) | ((first | refine G0 H ?_ | (refine G1 H (fun _ _ _ _ h => h) (by decide +kernel) ?_; clear H; intro _ H)); simp only [enum, Nat.reduceAdd]) | (apply B0 (hw := H); (case hg => rfl); (case hd => first | exact hd_false | decide +kernel); (case hx => rfl); (case hc => rfl); clear H; intro bx _ H) | (apply B1 (hw := H); (case hg => rfl); (case hd => first | exact hd_false | decide +kernel); clear H; intro ax _ H) | go_step | (apply X0; (case hy => rfl); all_goals (intro hb; simp only [hb]; (try simp only [decide_eq_true_eq, decide_eq_false_iff_not, Bool.not_eq_true', Bool.not_eq_false', Bool.and_eq_true, Bool.or_eq_true, Bool.and_eq_false_iff, Bool.or_eq_false_iff] at hb); try (exfalso; omega)))) <;> try simp only [List.getElem_toArray, List.getElem_cons_zero, List.getElem_cons_succ, Act.put, evalT, evalC, evalF, List.setIfInBounds_toArray, List.set_cons_succ, List.set_cons_zero, List.getD_cons_succ, List.getD_cons_zero, Nat.reduceAdd, Nat.reduceMul, Nat.add_zero, Nat.zero_add, Int.toNat_natCast, Int.reduceToNat, List.eraseIdx_cons_succ, List.eraseIdx_cons_zero, cond_true, cond_false])
   ((try simp only [Exit.inBlock, Exit.then]); refine ret_post (res1 rfl (R_tmp rfl)) ?_; try simp only [List.getD_cons_succ, List.getD_cons_zero])
   exact ⟨xs, (by first | rfl | trivial), hx, H.own _ (List.mem_cons_self ..), H.ext⟩
theorem l_markInts (b : Nat) (l : List Int) (k : Int) (w : World) (ho : (blk b (l.map (Value.int .i64 ·)) 3).own w) (h0 : 0 ≤ k) (h1 : k ≤ 100000000) (hl : l.length ≤ 1048576) :
   Calls Try.prog 31 #[.slice (some ⟨b, 0, none⟩) l.length l.length, .int .i64 k] w fun e w' => ∃ cs' : List Value, e = .returned (.int .i64 (k + l.length)) ∧ (blk b cs' 3).own w' ∧ Ext (· = b) w w' := by
 have h := l_markIntS b (l.map (Value.int .i64 ·)) k w ho (lt_of_get ho) h0 h1 (by rw [List.length_map]; exact hl)
 rw [List.length_map] at h
 exact h.mono fun e w' ⟨cs, h1, _, h2, h3⟩ => ⟨cs, h1, h2, h3⟩
end Go.Proofs.Ytgchmppmecnniaa
namespace Go.Dk
open Go
theorem iF_new {Z : Zone} {w w' : World} {b : Nat} {E : TypeId} {l : List Int} (hb : w.heap.size ≤ b) (h : (blk b (l.map (.int .i64 ·)) E).own w') : iF (some ⟨b, 0, none⟩) l (fun c => Z c ∨ w.heap.size ≤ c) w' := fun i v hi => by
 obtain ⟨b', off, ha, _, hc⟩ := iF_blk h i v hi
 injection ha with ha
 injection ha with h1 h2
 subst h1 h2
 exact ⟨b, 0, rfl, .inr hb, hc⟩
theorem St.reblk {w0 w w' : World} {M Z0 : Zone} {L : List Res} {φ : Fact} {b : Nat} {cs cs' : List Value} {E : TypeId} (h : St w0 M Z0 L φ w) {n : Nat} (hn : L[n]? = some (blk b cs E)) (ho : (blk b cs' E).own w') (hx : Ext (· = b) w w') : St w0 M Z0 (L.set n (blk b cs' E)) φ w' :=
 h.upd hn hx (blk_local b cs' E) ho fun c hc => ⟨.inl hc, by cases hc; exact lt_of_get ho⟩
end Go.Dk
end
section
namespace Go.Proofs.Ytgchmppmecnniaa
open Go Go.Ab Go.Dk
theorem f_clone {n : Nat} (hn : 1 ≤ n) (l : List T) (hl : l.length ≤ 4000000) : FF n 91 [tms l] [] = some ([.one (.own 0 0)], [.arr termT (.ts l) 0 false]) := by
 obtain ⟨n, rfl⟩ := pos_succ (show 0 < n by omega)
 rw [E_slices_Clone]
 simp (disch := omega) only [List.nil_append, roomB_ok, cond_true]
 cases l with
 | nil => exact same_self _
 | cons a l => rfl
theorem f_put (u : T) : ∀ (w : List Nat) {n : Nat} {t : T}, w.length + 3 ≤ n → t.size ≤ 4000000 → w.length ≤ 4000000 → wyOk t w → FF n 63 [tm t, .one (.fr (.is (ins w))), tm u] [] = some ([tm (puT t w u)], [])
 | [], n, t, hn, hz, hw, _ => by
  obtain ⟨n, rfl⟩ := pos_succ (show 0 < n by omega)
  rw [E_impl_put]; rfl
 | i :: w, n, t, hn, hz, hw, ho => by
  obtain ⟨n, rfl⟩ := pos_succ (show 0 < n by omega)
  simp only [List.length_cons] at hn hw
  have hsz := T.size_eq t
  have hl := T.sizeL_len t.kids
  have hk := T.sizeL_mem (kd_mem ho.1)
  have h1 := f_put u w (n := n) (t := kd t i) (by omega) (by omega) (by omega) ho.2
  rw [E_impl_put, f_clone (by omega) _ (by omega)]
  have hlen : ((ins (i :: w)).length : Int) = ((w.length + 1 : Nat) : Int) := by simp [ins]
  have hsl : ((ins (i :: w)).take (w.length + 1)).drop (1 : Int).toNat = ins w := by
   show (ins w).take w.length = ins w
   exact List.take_of_length_le (by simp [ins])
  have h0 : (ins (i :: w))[(0 : Int).toNat]? = some (i : Int) := rfl
  simp only [evt, cond_dec, hsl, h0, hlen, if_neg (show ¬ ((w.length + 1 : Nat) : Int) = 0 by omega), if_pos (show 0 ≤ (i : Int) by omega), Int.toNat_natCast, kid_get ho.1, inB, decide_eq_true (show (0 : Int) ≤ 1 by omega), decide_eq_true (show (1 : Int) ≤ ((w.length + 1 : Nat) : Int) by omega), Int.le_refl, h1, if_pos (show (i : Int) < (t.kids.length : Int) by have := ho.1; omega)]
  rfl
theorem okT_valid {t : T} (h : validB t = true) : okT t = t := if_pos h
theorem okT_not {t : T} (h : validB t = false) : okT t = .mk 0 0 [] := if_neg (by simp [h])
theorem with_loop (n : Nat) (ts : List T) (j : Nat) (u : T) (k0 n0 : Int) (z1 z2 : Int) (l : List T) (k1 n1 : Int) (hl : ts.length ≤ 4000000) (h : ∀ t ∈ ts, FF n 45 [tm t] [] = some (ow t)) :
   ∀ g m (i : Nat), g < m → i + g = ts.length → L_spec_l3With_0_ffoo n m (j : Int) i k0 n0 ts u.k u.n u.kids z1 z2 l k1 n1 ((ts.set j u).take i) = some ([tm (.mk k1 n1 (ts.set j u))], [])
 | g, 0, i, hg, _ => by omega
 | 0, m + 1, i, _, hi => by
  rw [L_spec_l3With_0_ffoo_eq]
  simp only [cond_dec, if_neg (show ¬ (i : Int) < ts.length by omega), List.take_of_length_le (show (ts.set j u).length ≤ i by rw [List.length_set]; omega)]; rfl
 | g + 1, m + 1, i, hg, hi => by
  have hlt : i < ts.length := by omega
  have hlt2 : i < (ts.set j u).length := by rw [List.length_set]; exact hlt
  have ht : ((ts.set j u).take i).length = i := by rw [List.length_take]; omega
  have ht1 : ((ts.set j u).take (i + 1)).length = i + 1 := by rw [List.length_take]; omega
  rw [L_spec_l3With_0_ffoo_eq]
  by_cases hj : i = j
  ·have he : (ts.set j u)[i]'hlt2 = u := by subst hj; simp
   have := take_snoc hlt2
   rw [he] at this
   simp (disch := omega) only [cond_dec, if_pos (show (i : Int) < ts.length by omega), if_pos (show (i : Int) = j by omega), List.length_append, List.length_cons, List.length_nil, ht, ht1, roomB_ok, cond_true, T.eta, this, wrap64, cast1]
   exact with_loop n ts j u k0 n0 z1 z2 l k1 n1 hl h g m (i + 1) (by omega) (by omega)
  ·have he : (ts.set j u)[i]'hlt2 = ts[i] := by rw [List.getElem_set_ne (fun e => hj e.symm)]
   have := take_snoc hlt2
   rw [he] at this
   simp (disch := omega) only [cond_dec, if_pos (show (i : Int) < ts.length by omega), if_neg (show ¬ (i : Int) = j by omega), if_pos (show 0 ≤ (i : Int) by omega), Int.toNat_natCast, List.getElem?_eq_getElem hlt, h _ (List.getElem_mem hlt), evt, List.length_append, List.length_cons, List.length_nil, ht, ht1, roomB_ok, this, wrap64, cast1]
   exact with_loop n ts j u k0 n0 z1 z2 l k1 n1 hl h g m (i + 1) (by omega) (by omega)
theorem f_l3With {n : Nat} {t u : T} {j : Nat} (hn : t.size + 6 ≤ n) (hz : t.size ≤ 4000000) : FF n 89 [tm t, nt (j : Int), tm u] [] = some ([tm (.mk t.k t.n (t.kids.set j u))], []) := by
 obtain ⟨n, rfl⟩ := pos_succ (show 0 < n by omega)
 have hsz := T.size_eq t
 have hl := T.sizeL_len t.kids
 rw [E_spec_l3With]
 have := with_loop n t.kids j u t.k t.n 0 0 [] t.k t.n (by omega) (fun v hv => f_l1Copy v (by have := T.sizeL_mem hv; omega) (by have := T.sizeL_mem hv; omega)) t.kids.length n 0 (by omega) (by omega)
 simpa using this
end Go.Proofs.Ytgchmppmecnniaa
end
section
namespace Go.Proofs.Ytgchmppmecnniaa
open Go Go.Ab Go.Dk
def wkT : T → List Int → List T → Option (T × List T)
 | t, [], acc => some (t, acc)
 | t, i :: p, acc => if 0 ≤ i ∧ i < t.kids.length then wkT (kd t i.toNat) p (if i = 1 ∧ (t.k = 3 ∨ t.k = 4 ∨ t.k = 13) then acc ++ [kd t 0] else acc) else none
theorem wk_valid : ∀ (p : List Int) (t : T) (acc : List T) (u : T) (r : List T), validB t = true → (∀ x ∈ acc, validB x = true) → wkT t p acc = some (u, r) → validB u = true ∧ u.size + p.length ≤ t.size ∧ (∀ x ∈ r, validB x = true) ∧ r.length ≤ acc.length + p.length
 | [], t, acc, u, r, hv, ha, h => by
  simp only [wkT, Option.some.injEq, Prod.mk.injEq] at h
  obtain ⟨rfl, rfl⟩ := h
  exact ⟨hv, by simp, ha, by simp⟩
 | i :: p, t, acc, u, r, hv, ha, h => by
  rw [wkT] at h
  split at h
  ·rename_i hi
   have hm : kd t i.toNat ∈ t.kids := kd_mem (by omega)
   have hk := validB_kid hv hm
   have hs := T.sizeL_mem hm
   have hz := T.size_eq t
   have hm0 : i = 1 → kd t 0 ∈ t.kids := fun _ => kd_mem (by omega)
   obtain ⟨h1, h2, h3, h4⟩ := wk_valid p _ _ u r hk (by
    intro x hx
    split at hx
    ·rename_i hc
     rcases List.mem_append.1 hx with hx | hx
     ·exact ha x hx
     ·rw [List.mem_singleton.1 hx]; exact validB_kid hv (hm0 hc.1)
    ·exact ha x hx) h
   refine ⟨h1, by simp only [List.length_cons]; omega, h3, ?_⟩
   refine Nat.le_trans h4 ?_
   split
   ·simp only [List.length_append, List.length_cons, List.length_nil]; omega
   ·simp only [List.length_cons]; omega
  ·cases h
def wkR (t : T) (p : List Int) : (T × List T) × Bool := match wkT t p [] with
 | some r => (r, true)
 | none => ((.mk 0 0 [], []), false)
theorem getElem_kd {t : T} {i : Int} (h : 0 ≤ i ∧ i < t.kids.length) : t.kids[i.toNat]? = some (kd t i.toNat) := by
 unfold kd
 rw [List.getD_eq_getElem?_getD]
 rw [List.getElem?_eq_getElem (show i.toNat < t.kids.length by omega)]
 rfl
theorem f_under' {n : Nat} (hn : 2 ≤ n) (k i : Int) (hi : 0 ≤ i) : FF n 90 [nt k, nt i] [] = some ([nt (if i = 1 ∧ (k = 3 ∨ k = 4 ∨ k = 13) then 1 else 0)], []) := by
 obtain ⟨j, rfl⟩ : ∃ j : Nat, i = j := ⟨i.toNat, by omega⟩
 rw [f_under hn, und_cast]
theorem wk_loop (n : Nat) (hn : 2 ≤ n) (z1 z2 : Int) (l0 : List T) (p : List Int) (hp : p.length ≤ 1048576) : ∀ g m (j : Nat) (t : T) (acc : List T), g < m → j + g = p.length → t.kids.length ≤ 1048576 → (∀ u ∈ t.kids, u.size ≤ 1048576) → t.size ≤ 4000000 → acc.length ≤ j →
   L_impl_walked_0_fo n m p p.length j t.k t.n t.kids z1 z2 l0 acc = (match wkT t (p.drop j) acc with
    | some r => some ([tm r.1, tms r.2, bl true], [])
    | none => some ([tm (.mk 0 0 []), tms [], bl false], []))
 | g, 0, j, t, acc, hg, _, _, _, _, _ => by omega
 | 0, m + 1, j, t, acc, _, hj, _, _, _, _ => by
  rw [L_impl_walked_0_fo_eq, decide_eq_false (show ¬ (j : Int) < (p.length : Int) by omega), List.drop_of_length_le (by omega)]
  rfl
 | g + 1, m + 1, j, t, acc, hg, hj, hl, hk, hs, ha => by
  have hlt : j < p.length := by omega
  rw [L_impl_walked_0_fo_eq, decide_eq_true (show (j : Int) < (p.length : Int) by omega), decide_eq_true (show 0 ≤ (j : Int) by omega), Int.toNat_natCast, List.getElem?_eq_getElem hlt, List.drop_eq_getElem_cons hlt, wkT]
  generalize p[j] = i
  simp only [cond_true, Option.bind_some]
  rw [f_within (by omega), wrap64 (show -9223372036854775808 ≤ (t.kids.length : Int) - 1 ∧ (t.kids.length : Int) - 1 ≤ 9223372036854775807 by omega)]
  simp only [evt]
  by_cases hi : 0 ≤ i ∧ i < t.kids.length
  ·rw [if_pos hi, decide_eq_true hi.1, decide_eq_true (show i ≤ (t.kids.length : Int) - 1 by omega)]
   simp only [Bool.and_self, Bool.not_true, cond_false]
   rw [f_under' hn _ _ hi.1]
   simp only [evt]
   have hm : kd t i.toNat ∈ t.kids := kd_mem (by omega)
   have hz := hk _ hm
   have hz2 := T.size_eq (kd t i.toNat)
   have hz3 := T.sizeL_len (kd t i.toNat).kids
   have w : IntKind.i64.wrap ((j : Int) + 1) = ((j + 1 : Nat) : Int) := wrap64 (by omega)
   have nx := fun acc (h : acc.length ≤ j + 1) => wk_loop n hn z1 z2 l0 p hp g m (j + 1) (kd t i.toNat) acc (by omega) (by omega) (by omega) (fun u hu => by have := T.sizeL_mem hu; omega) (by omega) h
   by_cases hc : i = 1 ∧ (t.k = 3 ∨ t.k = 4 ∨ t.k = 13)
   ·have h0 : t.kids[(0 : Int).toNat]? = some (kd t 0) := getElem_kd (i := 0) (by omega)
    rw [if_pos hc, if_pos hc, decide_eq_true (show (0 : Int) < 1 by omega), h0]
    simp only [cond_true, Option.bind_some]
    rw [roomB_ok (by simp; omega), getElem_kd hi, w]
    simp only [cond_true, Option.bind_some, T.eta]
    exact nx _ (by simp; omega)
   ·rw [if_neg hc, if_neg hc, decide_eq_false (show ¬ (0 : Int) < 0 by omega)]
    simp only [cond_false]
    rw [getElem_kd hi, w]
    simp only [Option.bind_some]
    exact nx _ (by omega)
  ·rw [if_neg hi]
   have : (decide (0 ≤ i) && decide (i ≤ (t.kids.length : Int) - 1)) = false := by
    rw [Bool.and_eq_false_iff, decide_eq_false_iff_not, decide_eq_false_iff_not]; omega
   rw [this]; rfl
theorem f_walked {n : Nat} {t : T} {p : List Int} (hn : p.length + 5 ≤ n) (hp : p.length ≤ 1048576) (hv : validB t = true) : FF n 62 [tm t, .one (.fr (.is p))] [] = some ([tm (wkR t p).1.1, tms (wkR t p).1.2, bl (wkR t p).2], []) := by
 obtain ⟨n, rfl⟩ := pos_succ (show 0 < n by omega)
 have hs := validB_size hv
 have h1 := T.size_eq t
 have h2 := T.sizeL_len t.kids
 rw [E_impl_walked, show (0 : Int) = ((0 : Nat) : Int) from rfl, wk_loop n (by omega) _ _ [] p hp p.length n 0 t [] (by omega) (by omega) (by omega) (fun u hu => by have := T.sizeL_mem hu; omega) (by omega) (by simp)]
 unfold wkR
 rw [List.drop_zero]
 cases wkT t p [] <;> rfl
theorem at_loop8 (n : Nat) (z1 z2 : Int) (l0 : List T) (p : List Int) (hp : p.length ≤ 1048576) : ∀ g m (j : Nat) (t : T) (acc : List T), g < m → j + g = p.length →
   L_spec_l8At_0_fo n m p j t.k t.n t.kids z1 z2 l0 = (match wkT t (p.drop j) acc with
    | some r => some ([tm r.1, bl true], [])
    | none => some ([tm (.mk 0 0 []), bl false], []))
 | g, 0, j, t, acc, hg, _ => by omega
 | 0, m + 1, j, t, acc, _, hj => by
  rw [L_spec_l8At_0_fo_eq, decide_eq_false (show ¬ (j : Int) < (p.length : Int) by omega), List.drop_of_length_le (by omega)]
  rfl
 | g + 1, m + 1, j, t, acc, hg, hj => by
  have hlt : j < p.length := by omega
  rw [L_spec_l8At_0_fo_eq, decide_eq_true (show (j : Int) < (p.length : Int) by omega), decide_eq_true (show 0 ≤ (j : Int) by omega), Int.toNat_natCast, List.getElem?_eq_getElem hlt, List.drop_eq_getElem_cons hlt, wkT]
  generalize p[j] = i
  simp only [cond_true, Option.bind_some]
  by_cases h0 : i < 0
  ·rw [decide_eq_true h0, if_neg (by omega)]; rfl
  ·rw [decide_eq_false h0]
   simp only [cond_false]
   by_cases h1 : (t.kids.length : Int) ≤ i
   ·rw [decide_eq_true h1, if_neg (by omega)]; rfl
   ·have w : IntKind.i64.wrap ((j : Int) + 1) = ((j + 1 : Nat) : Int) := wrap64 (by omega)
    rw [decide_eq_false h1, if_pos (by omega), decide_eq_true (show 0 ≤ i by omega), getElem_kd (by omega), w]
    simp only [cond_false, cond_true, Option.bind_some]
    exact at_loop8 n z1 z2 l0 p hp g m (j + 1) (kd t i.toNat) _ (by omega) (by omega)
theorem f_l8At {n : Nat} {t : T} {p : List Int} (hn : p.length + 5 ≤ n) (hp : p.length ≤ 1048576) : FF n 88 [tm t, .one (.fr (.is p))] [] = some ([tm (wkR t p).1.1, bl (wkR t p).2], []) := by
 obtain ⟨n, rfl⟩ := pos_succ (show 0 < n by omega)
 rw [E_spec_l8At, show (0 : Int) = ((0 : Nat) : Int) from rfl, at_loop8 n _ _ [] p hp p.length n 0 t [] (by omega) (by omega)]
 unfold wkR
 rw [List.drop_zero]
 cases wkT t p [] <;> rfl
def taR (t : T) (p : List Int) : T × Bool := if validB t = true ∧ (wkR t p).2 = true then ((wkR t p).1.1, true) else (.mk 0 0 [], false)
theorem wkR_valid {t : T} {p : List Int} (hv : validB t = true) (h : (wkR t p).2 = true) : validB (wkR t p).1.1 = true ∧ (wkR t p).1.1.size + p.length ≤ t.size ∧ (∀ x ∈ (wkR t p).1.2, validB x = true) ∧ (wkR t p).1.2.length ≤ p.length := by
 unfold wkR at h ⊢
 cases hh : wkT t p [] with
 | none => rw [hh] at h; cases h
 | some r =>
  obtain ⟨h1, h2, h3, h4⟩ := wk_valid p t [] r.1 r.2 hv (by simp) hh
  exact ⟨h1, h2, h3, by simpa using h4⟩
theorem f_TermAtS {n : Nat} {t : T} {p : List Int} (hn : 4000000 ≤ n) (hp : p.length ≤ 1048576) (hz : t.size ≤ 1048577) : FF n 59 [tm t, .one (.fr (.is p))] [] = some ([tm (taR t p).1, bl (taR t p).2], []) := by
 obtain ⟨n, rfl⟩ := pos_succ (show 0 < n by omega)
 rw [E_spec_TermAt, f_TermValidS (by omega) (by omega)]
 unfold taR
 simp only [evt]
 cases hv : validB t with
 | false => rfl
 | true =>
  simp only [Bool.not_true, cond_false]
  rw [f_l8At (by omega) hp]
  simp only [evt]
  cases hw : (wkR t p).2 with
  | false => rfl
  | true =>
   have hs := validB_size (wkR_valid hv hw).1
   simp only [Bool.not_true, cond_false]
   rw [f_l1Copy _ (by omega) (by omega)]
   simp only [evt]
   rfl
end Go.Proofs.Ytgchmppmecnniaa
end
section
namespace Go.Proofs.Ytgchmppmecnniaa
open Go Go.Ab
open Go.Dk (Rd HT Grow T iF)
theorem i_walked (t : HT) (hv : validB t.er = true) (l : List Int) (a : Option Addr) (c : Nat) (hc : l.length ≤ c) (Z : Go.Dk.Zone) (w : World) (hr : Rd Z w t) (hi : iF a l Z w) (hl : l.length ≤ 1048576) : Calls Try.prog 62 #[t.val, .slice a l.length c] w fun e w' =>
   ∃ v u : HT, e = .returned (.tuple #[v.val, u.sl, .bool (wkR t.er l).2]) ∧ Grow w w' ∧ Rd (newZ Z w) w' v ∧ v.er = (wkR t.er l).1.1 ∧ Rd (newZ Z w) w' u ∧ u.er = .mk 0 0 (wkR t.er l).1.2 :=
 ab_term_terms_bool Try.func62 (by kernel_rfl) (All2.cons (term_arg' hr) (All2.cons (ints_arg (ints_to hc hl hi)) All2.nil)) (f_walked (n := 2000000) (by omega) hl hv)
end Go.Proofs.Ytgchmppmecnniaa
namespace Go.Proofs.Ytgchmppmecnniaa
open Go Go.Dk
end Go.Proofs.Ytgchmppmecnniaa
end
section
namespace Go.Proofs.Ytgchmppmecnniaa
open Go Go.Ab
open Go.Dk (Rd HT Grow T iF)
theorem wk_way : ∀ (p : List Int) (t : T) (acc : List T) (r : T × List T), wkT t p acc = some r → ∃ w : List Nat, p = ins w ∧ wyOk t w ∧ atT t w = r.1
 | [], t, acc, r, h => by
  simp only [wkT, Option.some.injEq] at h
  subst h
  exact ⟨[], rfl, trivial, rfl⟩
 | i :: p, t, acc, r, h => by
  rw [wkT] at h
  split at h
  ·rename_i hi
   obtain ⟨w, hw, ho, ha⟩ := wk_way p _ _ r h
   refine ⟨i.toNat :: w, ?_, ⟨by omega, ho⟩, ha⟩
   rw [hw]
   show i :: ins w = ((i.toNat : Nat) : Int) :: ins w
   rw [show ((i.toNat : Nat) : Int) = i by omega]
  ·cases h
theorem wkR_way {t : T} {p : List Int} (h : (wkR t p).2 = true) : ∃ w : List Nat, p = ins w ∧ wyOk t w ∧ atT t w = (wkR t p).1.1 := by
 unfold wkR at h ⊢
 cases hh : wkT t p [] with
 | none => rw [hh] at h; cases h
 | some r => exact wk_way p t [] r hh
theorem ins_len (w : List Nat) : (ins w).length = w.length := by simp [ins]
theorem ins_toNat (w : List Nat) : (ins w).map Int.toNat = w := by
 simp only [ins, List.map_map]
 conv => rhs; rw [← List.map_id w]
 apply List.map_congr_left
 intro a _; simp
theorem f_l8Put (u : T) (hu : u.size ≤ 1000000) : ∀ (w : List Nat) {n : Nat} {t : T}, 4000000 + w.length ≤ n → t.size ≤ 1000000 → w.length ≤ 1048576 → wyOk t w → FF n 60 [tm t, .one (.fr (.is (ins w))), tm u] [] = some ([tm (puT t w u)], [])
 | [], n, t, hn, hz, hw, _ => by
  obtain ⟨n, rfl⟩ := pos_succ (show 0 < n by omega)
  rw [E_spec_l8Put, decide_eq_true (show ((ins []).length : Int) = 0 from rfl)]
  simp only [cond_true]
  rw [f_l1Copy u (by simp only [List.length_nil] at hn; omega) (by omega)]
  simp only [evt]
  rfl
 | i :: w, n, t, hn, hz, hw, ho => by
  obtain ⟨n, rfl⟩ := pos_succ (show 0 < n by omega)
  simp only [List.length_cons] at hn hw
  have hk := T.sizeL_mem (kd_mem ho.1)
  have hsz := T.size_eq t
  have h1 := f_l8Put u hu w (n := n) (t := kd t i) (by omega) (by omega) (by omega) ho.2
  have hlen : ((ins (i :: w)).length : Int) = ((w.length + 1 : Nat) : Int) := by simp [ins]
  have hsl : ((ins (i :: w)).take (w.length + 1)).drop (1 : Int).toNat = ins w := by
   show (ins w).take w.length = ins w
   exact List.take_of_length_le (by simp [ins])
  have h0 : (ins (i :: w))[(0 : Int).toNat]? = some (i : Int) := rfl
  have hin : inB 1 (ins (i :: w)).length (ins (i :: w)).length = true := by
   rw [hlen]; simp only [inB, Bool.and_eq_true, decide_eq_true_eq]; omega
  rw [E_spec_l8Put, decide_eq_false (show ¬ ((ins (i :: w)).length : Int) = 0 by rw [hlen]; omega)]
  simp only [cond_false, h0, Option.bind_some, Int.toNat_natCast, getElem_kd (show 0 ≤ (i : Int) ∧ (i : Int) < t.kids.length from ⟨by omega, by have := ho.1; omega⟩), decide_eq_true (show 0 ≤ (i : Int) by omega), cond_true, hin]
  have hlen' : (ins (i :: w)).length = w.length + 1 := by simp [ins]
  rw [hlen', hsl]
  have g : t.kids[i]? = some (kd t i) := by have := getElem_kd (t := t) (i := (i : Int)) ⟨by omega, by have := ho.1; omega⟩; simpa using this
  rw [g]
  simp only [Option.bind_some, T.eta]
  rw [h1]
  simp only [evt]
  rw [f_l3With (by omega) (by omega)]
  simp only [evt]
  rfl
def paR (t : T) (p : List Int) (u : T) : T × Bool := if validB t = true ∧ validB u = true ∧ (wkR t p).2 = true then (okT (puT t (p.map Int.toNat) u), validB (puT t (p.map Int.toNat) u)) else (.mk 0 0 [], false)
theorem okT_bd (x : T) : Go.Dk.T.sizeL (okT x).kids ≤ 1000000 := by
 unfold okT
 cases hv : validB x with
 | true => have h1 := validB_size hv; have h2 := Go.Dk.T.size_eq x; rw [if_pos rfl]; omega
 | false => rw [if_neg (by simp)]; decide
theorem paR_bd (t : T) (p : List Int) (u : T) : Go.Dk.T.sizeL (paR t p u).1.kids ≤ 1000000 := by
 unfold paR; split
 ·exact okT_bd _
 ·decide
theorem f_PutAtS {n : Nat} {t u : T} {p : List Int} (hn : 8000000 ≤ n) (hp : p.length ≤ 1048576) (hz : t.size ≤ 1048577) (hu : u.size ≤ 1048577) : FF n 24 [tm t, .one (.fr (.is p)), tm u] [] = some ([tm (paR t p u).1, bl (paR t p u).2], []) := by
 obtain ⟨n, rfl⟩ := pos_succ (show 0 < n by omega)
 rw [E_spec_PutAt, f_TermAtS (by omega) hp hz]
 simp only [evt]
 unfold taR paR
 by_cases h : validB t = true ∧ (wkR t p).2 = true
 ·rw [if_pos h]
  simp only [Bool.not_true, cond_false]
  rw [f_TermValidS (by omega) (by omega)]
  simp only [evt]
  cases hvu : validB u with
  | false => rw [if_neg (by simp)]; rfl
  | true =>
   have hts := validB_size h.1
   have hus := validB_size hvu
   obtain ⟨w, rfl, ho, ha⟩ := wkR_way h.2
   have hps := put_size (u := u) ho
   rw [if_pos ⟨h.1, rfl, h.2⟩]
   simp only [Bool.not_true, cond_false]
   rw [f_l8Put _ (by omega) w (by rw [ins_len] at hp; omega) (by omega) (by rw [ins_len] at hp; omega) ho]
   simp only [evt]
   rw [f_l7Made (by omega) (by omega), ins_toNat]
   simp only [evt]
   rfl
 ·rw [if_neg h, if_neg (by intro hh; exact h ⟨hh.1, hh.2.2⟩)]; rfl
theorem s_PutAt (t : HT) (x : T) (et : t.er = x) (l : List Int) (a : Option Addr) (c : Nat) (hc : l.length ≤ c) (u : HT) (y : T) (eu : u.er = y) (Z : Go.Dk.Zone) (w : World) (hr : Rd Z w t) (hi : iF a l Z w) (hru : Rd Z w u) (hs : T.sizeL x.kids ≤ 1048576) (hl : l.length ≤ 1048576) (hsu : T.sizeL y.kids ≤ 1048576) : Calls Try.prog 24 #[t.val, .slice a l.length c, u.val] w fun e w' =>
   ∃ v : HT, e = .returned (.tuple #[v.val, .bool (paR x l y).2]) ∧ Grow w w' ∧ Rd (newZ Z w) w' v ∧ v.er = (paR x l y).1 := by
 subst et eu
 exact ab_term_bool Try.func24 (by kernel_rfl) (All2.cons (term_arg' hr) (All2.cons (ints_arg (ints_to hc hl hi)) (All2.cons (term_arg' hru) All2.nil))) (f_PutAtS (n := 8000000) (by omega) hl (sizeT hs) (sizeT hsu))
section
variable (t : HT) (l : List Int) (a : Option Addr) (c : Nat) (hc : l.length ≤ c) (Z : Go.Dk.Zone) (w : World) (hr : Rd Z w t) (hi : iF a l Z w) (hv : validB t.er = true) (hw : (wkR t.er l).2 = true) (hl : l.length ≤ 1048576)
include hc hr hi hv hw hl
theorem i_put (u : HT) (hru : Rd Z w u) : Calls Try.prog 63 #[t.val, .slice a l.length c, u.val] w fun e w' => ∃ v : HT, e = .returned v.val ∧ Grow w w' ∧ Rd (newZ Z w) w' v ∧ v.er = puT t.er (l.map Int.toNat) u.er := by
 obtain ⟨ww, hww, ho, ha⟩ := wkR_way hw
 refine ab_term Try.func63 (by kernel_rfl) (All2.cons (term_arg' hr) (All2.cons (ints_arg (ints_to hc hl hi)) (All2.cons (term_arg' hru) All2.nil))) (n := 4000000) ?_
 have hz := validB_size hv
 have hh := f_put u.er ww (n := 4000000) (t := t.er) (by rw [hww, ins_len] at hl; omega) (by omega) (by rw [hww, ins_len] at hl; omega) ho
 rw [← hww] at hh
 have e : l.map Int.toNat = ww := by rw [hww, ins_toNat]
 rw [e]
 exact hh
end
end Go.Proofs.Ytgchmppmecnniaa
namespace Go.Proofs.Ytgchmppmecnniaa
open Go Go.Dk
set_option maxRecDepth 100000 in
set_option maxHeartbeats 1000000 in
theorem i_PutAt (t : HT) (x : T) (et : t.er = x) (l : List Int) (a : Option Addr) (c : Nat) (hc : l.length ≤ c) (q : HT) (y : T) (eq : q.er = y) (Z : Zone) (w : World) (hr : Rd Z w t) (hi : iF a l Z w) (hrq : Rd Z w q) (hs : T.sizeL x.kids ≤ 1048576) (hl : l.length ≤ 1048576) (hsq : T.sizeL y.kids ≤ 1048576) : Calls Try.prog 27 #[t.val, .slice a l.length c, q.val] w fun e w' =>
   ∃ u : HT, e = .returned (.tuple #[u.val, .bool (paR x l y).2]) ∧ Grow w w' ∧ Own w w' u ∧ u.er = (paR x l y).1 := by
 subst et eq
 have H := St.init w noneZ Z ((rdF_stable t).and ((iF_stable a l).and (rdF_stable q))) ⟨hr, hi, hrq⟩
 cases hv : validB t.er with
 | false =>
  go_enter Try.func27, Try.ntmps27
  repeat' ((first | (refine T_nil ?_) | ((first | apply U0 | (apply U1; (case hd => decide +kernel)) | (apply U2 (hw := H); (case hd => decide +kernel)) | (apply U3 1; (case hp => rfl); (case hd => decide +kernel)) | (apply U3 2; (case hp => rfl); (case hd => decide +kernel)) | (apply U3 3; (case hp => rfl); (case hd => decide +kernel)) | (apply U3 4; (case hp => rfl); (case hd => decide +kernel)) | (apply U3 5; (case hp => rfl); (case hd => decide +kernel)) | (apply U3 6; (case hp => rfl); (case hd => decide +kernel)) | (apply U3 7; (case hp => rfl); (case hd => decide +kernel)) | (apply U3 8; (case hp => rfl); (case hd => decide +kernel)) | (apply U3 9; (case hp => rfl); (case hd => decide +kernel)) | (apply U3 10; (case hp => rfl); (case hd => decide +kernel)) | (apply U3 11; (case hp => rfl); (case hd => decide +kernel))); (case hg => rfl); (case hy => (first | (apply Yi.a; constructor; all_goals (first | rfl | (constructor <;> omega) | (apply CellIs.own; (case h => repeat constructor); rfl) | (apply Cell3.own; (case h => repeat constructor); all_goals rfl))) | (apply Yi.b; constructor; all_goals (first | rfl | (constructor <;> omega) | (apply CellIs.own; (case h => repeat constructor); rfl) | (apply Cell3.own; (case h => repeat constructor); all_goals rfl))) | (apply Yi.c; constructor; all_goals (first | rfl | (constructor <;> omega) | (apply CellIs.own; (case h => repeat constructor); rfl) | (apply Cell3.own; (case h => repeat constructor); all_goals rfl)))))) | ((first | apply V0 | apply V1 | apply V2 (hw := H)); (case hg => rfl); try decide +kernel) | ((first | refine G0 H ?_ | (refine G1 H (fun _ _ _ _ h => h) (by decide +kernel) ?_; clear H; intro _ H)); simp only [enum, Nat.reduceAdd]) | (apply B0 (hw := H); (case hg => rfl); (case hd => first | exact hd_false | decide +kernel); (case hx => rfl); (case hc => rfl); clear H; intro bx _ H) | (apply B1 (hw := H); (case hg => rfl); (case hd => first | exact hd_false | decide +kernel); clear H; intro ax _ H) | ((apply W0 (hw := H); (case hg => rfl); (case hd => first | exact hd_false | decide +kernel); (case hx => rfl); (case hy => rfl); (case hc => rfl); (case hn => repeat constructor); (case h1 => rfl); clear H; intro _ H; (try dsimp only at H); try simp only [putL, List.set_cons_succ, List.set_cons_zero, evalT, evalC, List.getD_cons_succ, List.getD_cons_zero, Nat.zero_add, Nat.reduceAdd] at H)) | ((apply C0 (hw := H); (case hg => rfl); (case hd => first | exact hd_false | decide +kernel); (case hxs => rfl); (case hc => exact i_TermValid t _ _ H.per.1); clear H; intro _ H)) | go_step | (apply X0; (case hy => rfl); all_goals (intro hb; simp only [hb]; (try simp only [decide_eq_true_eq, decide_eq_false_iff_not, Bool.not_eq_true', Bool.not_eq_false', Bool.and_eq_true, Bool.or_eq_true, Bool.and_eq_false_iff, Bool.or_eq_false_iff] at hb); try (exfalso; omega)))) <;> try simp only [List.getElem_toArray, List.getElem_cons_zero, List.getElem_cons_succ, Act.put, evalT, evalC, evalF, List.setIfInBounds_toArray, List.set_cons_succ, List.set_cons_zero, List.getD_cons_succ, List.getD_cons_zero, Nat.reduceAdd, Nat.reduceMul, Nat.add_zero, Nat.zero_add, Int.toNat_natCast, Int.reduceToNat, List.eraseIdx_cons_succ, List.eraseIdx_cons_zero, cond_true, cond_false])
  all_goals first | (exfalso; simp_all; done) | skip
  ((try simp only [Exit.inBlock, Exit.then]); refine ret_post (res2 rfl (R_cell rfl (load3 (ST3.out) (H.cell at0 rfl) (H.cell at0 rfl) (H.cell at0 rfl))) (R_tmp rfl)) ?_; try simp only [List.getD_cons_succ, List.getD_cons_zero])
  have e : paR t.er l q.er = (.mk 0 0 [], false) := if_neg (by rw [hv]; simp)
  rw [e]
  exact ⟨.mk 0 0 none 0 [], rfl, H.ext, zero_own _ _, rfl⟩
 | true =>
  have hsz := validB_size hv
  cases hvq : validB q.er with
  | false =>
   go_enter Try.func27, Try.ntmps27
   repeat' ((first | (refine T_nil ?_) | ((first | apply U0 | (apply U1; (case hd => decide +kernel)) | (apply U2 (hw := H); (case hd => decide +kernel)) | (apply U3 1; (case hp => rfl); (case hd => decide +kernel)) | (apply U3 2; (case hp => rfl); (case hd => decide +kernel)) | (apply U3 3; (case hp => rfl); (case hd => decide +kernel)) | (apply U3 4; (case hp => rfl); (case hd => decide +kernel)) | (apply U3 5; (case hp => rfl); (case hd => decide +kernel)) | (apply U3 6; (case hp => rfl); (case hd => decide +kernel)) | (apply U3 7; (case hp => rfl); (case hd => decide +kernel)) | (apply U3 8; (case hp => rfl); (case hd => decide +kernel)) | (apply U3 9; (case hp => rfl); (case hd => decide +kernel)) | (apply U3 10; (case hp => rfl); (case hd => decide +kernel)) | (apply U3 11; (case hp => rfl); (case hd => decide +kernel))); (case hg => rfl); (case hy => (first | (apply Yi.a; constructor; all_goals (first | rfl | (constructor <;> omega) | (apply CellIs.own; (case h => repeat constructor); rfl) | (apply Cell3.own; (case h => repeat constructor); all_goals rfl))) | (apply Yi.b; constructor; all_goals (first | rfl | (constructor <;> omega) | (apply CellIs.own; (case h => repeat constructor); rfl) | (apply Cell3.own; (case h => repeat constructor); all_goals rfl))) | (apply Yi.c; constructor; all_goals (first | rfl | (constructor <;> omega) | (apply CellIs.own; (case h => repeat constructor); rfl) | (apply Cell3.own; (case h => repeat constructor); all_goals rfl)))))) | ((first | apply V0 | apply V1 | apply V2 (hw := H)); (case hg => rfl); try decide +kernel) | ((first | refine G0 H ?_ | (refine G1 H (fun _ _ _ _ h => h) (by decide +kernel) ?_; clear H; intro _ H)); simp only [enum, Nat.reduceAdd]) | (apply B0 (hw := H); (case hg => rfl); (case hd => first | exact hd_false | decide +kernel); (case hx => rfl); (case hc => rfl); clear H; intro bx _ H) | (apply B1 (hw := H); (case hg => rfl); (case hd => first | exact hd_false | decide +kernel); clear H; intro ax _ H) | ((apply W0 (hw := H); (case hg => rfl); (case hd => first | exact hd_false | decide +kernel); (case hx => rfl); (case hy => rfl); (case hc => rfl); (case hn => repeat constructor); (case h1 => rfl); clear H; intro _ H; (try dsimp only at H); try simp only [putL, List.set_cons_succ, List.set_cons_zero, evalT, evalC, List.getD_cons_succ, List.getD_cons_zero, Nat.zero_add, Nat.reduceAdd] at H)) | ((apply C0 (hw := H); (case hg => rfl); (case hd => first | exact hd_false | decide +kernel); (case hxs => rfl); (case hc => exact i_TermValid t _ _ H.per.1); clear H; intro _ H)) | ((apply C0 (hw := H); (case hg => rfl); (case hd => first | exact hd_false | decide +kernel); (case hxs => rfl); (case hc => exact i_TermValid q _ _ H.per.2.2); clear H; intro _ H)) | go_step | (apply X0; (case hy => rfl); all_goals (intro hb; simp only [hb]; (try simp only [decide_eq_true_eq, decide_eq_false_iff_not, Bool.not_eq_true', Bool.not_eq_false', Bool.and_eq_true, Bool.or_eq_true, Bool.and_eq_false_iff, Bool.or_eq_false_iff] at hb); try (exfalso; omega)))) <;> try simp only [List.getElem_toArray, List.getElem_cons_zero, List.getElem_cons_succ, Act.put, evalT, evalC, evalF, List.setIfInBounds_toArray, List.set_cons_succ, List.set_cons_zero, List.getD_cons_succ, List.getD_cons_zero, Nat.reduceAdd, Nat.reduceMul, Nat.add_zero, Nat.zero_add, Int.toNat_natCast, Int.reduceToNat, List.eraseIdx_cons_succ, List.eraseIdx_cons_zero, cond_true, cond_false])
   all_goals first | (exfalso; simp_all; done) | skip
   ((try simp only [Exit.inBlock, Exit.then]); refine ret_post (res2 rfl (R_cell rfl (load3 (ST3.out) (H.cell at0 rfl) (H.cell at0 rfl) (H.cell at0 rfl))) (R_tmp rfl)) ?_; try simp only [List.getD_cons_succ, List.getD_cons_zero])
   have e : paR t.er l q.er = (.mk 0 0 [], false) := if_neg (by rw [hvq]; simp)
   rw [e]
   exact ⟨.mk 0 0 none 0 [], rfl, H.ext, zero_own _ _, rfl⟩
  | true =>
   have hqz := validB_size hvq
   cases hw : (wkR t.er l).2 with
   | false =>
    go_enter Try.func27, Try.ntmps27
    repeat' ((first | (refine T_nil ?_) | ((first | apply U0 | (apply U1; (case hd => decide +kernel)) | (apply U2 (hw := H); (case hd => decide +kernel)) | (apply U3 1; (case hp => rfl); (case hd => decide +kernel)) | (apply U3 2; (case hp => rfl); (case hd => decide +kernel)) | (apply U3 3; (case hp => rfl); (case hd => decide +kernel)) | (apply U3 4; (case hp => rfl); (case hd => decide +kernel)) | (apply U3 5; (case hp => rfl); (case hd => decide +kernel)) | (apply U3 6; (case hp => rfl); (case hd => decide +kernel)) | (apply U3 7; (case hp => rfl); (case hd => decide +kernel)) | (apply U3 8; (case hp => rfl); (case hd => decide +kernel)) | (apply U3 9; (case hp => rfl); (case hd => decide +kernel)) | (apply U3 10; (case hp => rfl); (case hd => decide +kernel)) | (apply U3 11; (case hp => rfl); (case hd => decide +kernel))); (case hg => rfl); (case hy => (first | (apply Yi.a; constructor; all_goals (first | rfl | (constructor <;> omega) | (apply CellIs.own; (case h => repeat constructor); rfl) | (apply Cell3.own; (case h => repeat constructor); all_goals rfl))) | (apply Yi.b; constructor; all_goals (first | rfl | (constructor <;> omega) | (apply CellIs.own; (case h => repeat constructor); rfl) | (apply Cell3.own; (case h => repeat constructor); all_goals rfl))) | (apply Yi.c; constructor; all_goals (first | rfl | (constructor <;> omega) | (apply CellIs.own; (case h => repeat constructor); rfl) | (apply Cell3.own; (case h => repeat constructor); all_goals rfl)))))) | ((first | apply V0 | apply V1 | apply V2 (hw := H)); (case hg => rfl); try decide +kernel) | ((first | refine G0 H ?_ | (refine G1 H (fun _ _ _ _ h => h) (by decide +kernel) ?_; clear H; intro _ H)); simp only [enum, Nat.reduceAdd]) | (apply B0 (hw := H); (case hg => rfl); (case hd => first | exact hd_false | decide +kernel); (case hx => rfl); (case hc => rfl); clear H; intro bx _ H) | (apply B1 (hw := H); (case hg => rfl); (case hd => first | exact hd_false | decide +kernel); clear H; intro ax _ H) | ((apply W0 (hw := H); (case hg => rfl); (case hd => first | exact hd_false | decide +kernel); (case hx => rfl); (case hy => rfl); (case hc => rfl); (case hn => repeat constructor); (case h1 => rfl); clear H; intro _ H; (try dsimp only at H); try simp only [putL, List.set_cons_succ, List.set_cons_zero, evalT, evalC, List.getD_cons_succ, List.getD_cons_zero, Nat.zero_add, Nat.reduceAdd] at H)) | ((apply C0 (hw := H); (case hg => rfl); (case hd => first | exact hd_false | decide +kernel); (case hxs => rfl); (case hc => exact i_TermValid t _ _ H.per.1); clear H; intro _ H)) | ((apply C0 (hw := H); (case hg => rfl); (case hd => first | exact hd_false | decide +kernel); (case hxs => rfl); (case hc => exact i_TermValid q _ _ H.per.2.2); clear H; intro _ H)) | ((apply C1; (case hg => rfl); (case hd => first | exact hd_false | decide +kernel); (case hxs => rfl); (case hc => exact i_walked t hv l a c hc (zoneOf H) _ H.per.1 H.per.2.1 hl); rintro _ _ ⟨v, u, rfl, hg, hv1, ev, hu1, eu⟩; replace H := H.call hg ((rdF_stable v).and (rdF_stable u)) ⟨hv1, hu1⟩; (try simp only [List.set_cons_succ, List.set_cons_zero] at H); refine ⟨_, rfl, _, (by first | exact fun _ _ h => h | exact fun _ _ h => h.tail | exact fun _ _ h => h.unfact (by repeat' (first | exact Stable.true | exact rdF_stable _ | exact iF_stable _ _ | apply Stable.and)) (fun _ _ h => h.2) | exact nofun), H, ?_⟩)) | go_step | (apply X0; (case hy => rfl); all_goals (intro hb; simp only [hb]; (try simp only [decide_eq_true_eq, decide_eq_false_iff_not, Bool.not_eq_true', Bool.not_eq_false', Bool.and_eq_true, Bool.or_eq_true, Bool.and_eq_false_iff, Bool.or_eq_false_iff] at hb); try (exfalso; omega)))) <;> try simp only [List.getElem_toArray, List.getElem_cons_zero, List.getElem_cons_succ, Act.put, evalT, evalC, evalF, List.setIfInBounds_toArray, List.set_cons_succ, List.set_cons_zero, List.getD_cons_succ, List.getD_cons_zero, Nat.reduceAdd, Nat.reduceMul, Nat.add_zero, Nat.zero_add, Int.toNat_natCast, Int.reduceToNat, List.eraseIdx_cons_succ, List.eraseIdx_cons_zero, cond_true, cond_false])
    all_goals first | (exfalso; simp_all; done) | skip
    ((try simp only [Exit.inBlock, Exit.then]); refine ret_post (res2 rfl (R_cell rfl (load3 (ST3.out) (H.cell at1 rfl) (H.cell at1 rfl) (H.cell at1 rfl))) (R_tmp rfl)) ?_; try simp only [List.getD_cons_succ, List.getD_cons_zero])
    have e : paR t.er l q.er = (.mk 0 0 [], false) := if_neg (by rw [hw]; simp)
    rw [e]
    exact ⟨.mk 0 0 none 0 [], rfl, H.ext, zero_own _ _, rfl⟩
   | true =>
    obtain ⟨v1, v2, _, _⟩ := wkR_valid hv hw
    obtain ⟨ww, hww, ho, ha⟩ := wkR_way hw
    have hps := put_size (u := q.er) ho
    have eww : l.map Int.toNat = ww := by rw [hww, ins_toNat]
    rw [← eww] at hps
    have e : paR t.er l q.er = (okT (puT t.er (l.map Int.toNat) q.er), validB (puT t.er (l.map Int.toNat) q.er)) := if_pos ⟨hv, hvq, hw⟩
    cases hvp : validB (puT t.er (l.map Int.toNat) q.er) with
    | false =>
     go_enter Try.func27, Try.ntmps27
     repeat' ((first | (refine T_nil ?_) | ((first | apply U0 | (apply U1; (case hd => decide +kernel)) | (apply U2 (hw := H); (case hd => decide +kernel)) | (apply U3 1; (case hp => rfl); (case hd => decide +kernel)) | (apply U3 2; (case hp => rfl); (case hd => decide +kernel)) | (apply U3 3; (case hp => rfl); (case hd => decide +kernel)) | (apply U3 4; (case hp => rfl); (case hd => decide +kernel)) | (apply U3 5; (case hp => rfl); (case hd => decide +kernel)) | (apply U3 6; (case hp => rfl); (case hd => decide +kernel)) | (apply U3 7; (case hp => rfl); (case hd => decide +kernel)) | (apply U3 8; (case hp => rfl); (case hd => decide +kernel)) | (apply U3 9; (case hp => rfl); (case hd => decide +kernel)) | (apply U3 10; (case hp => rfl); (case hd => decide +kernel)) | (apply U3 11; (case hp => rfl); (case hd => decide +kernel))); (case hg => rfl); (case hy => (first | (apply Yi.a; constructor; all_goals (first | rfl | (constructor <;> omega) | (apply CellIs.own; (case h => repeat constructor); rfl) | (apply Cell3.own; (case h => repeat constructor); all_goals rfl))) | (apply Yi.b; constructor; all_goals (first | rfl | (constructor <;> omega) | (apply CellIs.own; (case h => repeat constructor); rfl) | (apply Cell3.own; (case h => repeat constructor); all_goals rfl))) | (apply Yi.c; constructor; all_goals (first | rfl | (constructor <;> omega) | (apply CellIs.own; (case h => repeat constructor); rfl) | (apply Cell3.own; (case h => repeat constructor); all_goals rfl)))))) | ((first | apply V0 | apply V1 | apply V2 (hw := H)); (case hg => rfl); try decide +kernel) | ((first | refine G0 H ?_ | (refine G1 H (fun _ _ _ _ h => h) (by decide +kernel) ?_; clear H; intro _ H)); simp only [enum, Nat.reduceAdd]) | (apply B0 (hw := H); (case hg => rfl); (case hd => first | exact hd_false | decide +kernel); (case hx => rfl); (case hc => rfl); clear H; intro bx _ H) | (apply B1 (hw := H); (case hg => rfl); (case hd => first | exact hd_false | decide +kernel); clear H; intro ax _ H) | ((apply W0 (hw := H); (case hg => rfl); (case hd => first | exact hd_false | decide +kernel); (case hx => rfl); (case hy => rfl); (case hc => rfl); (case hn => repeat constructor); (case h1 => rfl); clear H; intro _ H; (try dsimp only at H); try simp only [putL, List.set_cons_succ, List.set_cons_zero, evalT, evalC, List.getD_cons_succ, List.getD_cons_zero, Nat.zero_add, Nat.reduceAdd] at H)) | ((apply C0 (hw := H); (case hg => rfl); (case hd => first | exact hd_false | decide +kernel); (case hxs => rfl); (case hc => exact i_TermValid t _ _ H.per.1); clear H; intro _ H)) | ((apply C0 (hw := H); (case hg => rfl); (case hd => first | exact hd_false | decide +kernel); (case hxs => rfl); (case hc => exact i_TermValid q _ _ H.per.2.2); clear H; intro _ H)) | ((apply C1; (case hg => rfl); (case hd => first | exact hd_false | decide +kernel); (case hxs => rfl); (case hc => exact i_walked t hv l a c hc (zoneOf H) _ H.per.1 H.per.2.1 hl); rintro _ _ ⟨v, u, rfl, hg, hv1, ev, hu1, eu⟩; replace H := H.call hg ((rdF_stable v).and (rdF_stable u)) ⟨hv1, hu1⟩; (try simp only [List.set_cons_succ, List.set_cons_zero] at H); refine ⟨_, rfl, _, (by first | exact fun _ _ h => h | exact fun _ _ h => h.tail | exact fun _ _ h => h.unfact (by repeat' (first | exact Stable.true | exact rdF_stable _ | exact iF_stable _ _ | apply Stable.and)) (fun _ _ h => h.2) | exact nofun), H, ?_⟩)) | go_step | (apply X0; (case hy => rfl); all_goals (intro hb; simp only [hb]; (try simp only [decide_eq_true_eq, decide_eq_false_iff_not, Bool.not_eq_true', Bool.not_eq_false', Bool.and_eq_true, Bool.or_eq_true, Bool.and_eq_false_iff, Bool.or_eq_false_iff] at hb); try (exfalso; omega)))) <;> try simp only [List.getElem_toArray, List.getElem_cons_zero, List.getElem_cons_succ, Act.put, evalT, evalC, evalF, List.setIfInBounds_toArray, List.set_cons_succ, List.set_cons_zero, List.getD_cons_succ, List.getD_cons_zero, Nat.reduceAdd, Nat.reduceMul, Nat.add_zero, Nat.zero_add, Int.toNat_natCast, Int.reduceToNat, List.eraseIdx_cons_succ, List.eraseIdx_cons_zero, cond_true, cond_false])
     all_goals first | (exfalso; simp_all; done) | skip
     repeat' ((first | (refine T_nil ?_) | ((first | apply U0 | (apply U1; (case hd => decide +kernel)) | (apply U2 (hw := H); (case hd => decide +kernel)) | (apply U3 1; (case hp => rfl); (case hd => decide +kernel)) | (apply U3 2; (case hp => rfl); (case hd => decide +kernel)) | (apply U3 3; (case hp => rfl); (case hd => decide +kernel)) | (apply U3 4; (case hp => rfl); (case hd => decide +kernel)) | (apply U3 5; (case hp => rfl); (case hd => decide +kernel)) | (apply U3 6; (case hp => rfl); (case hd => decide +kernel)) | (apply U3 7; (case hp => rfl); (case hd => decide +kernel)) | (apply U3 8; (case hp => rfl); (case hd => decide +kernel)) | (apply U3 9; (case hp => rfl); (case hd => decide +kernel)) | (apply U3 10; (case hp => rfl); (case hd => decide +kernel)) | (apply U3 11; (case hp => rfl); (case hd => decide +kernel))); (case hg => rfl); (case hy => (first | (apply Yi.a; constructor; all_goals (first | rfl | (constructor <;> omega) | (apply CellIs.own; (case h => repeat constructor); rfl) | (apply Cell3.own; (case h => repeat constructor); all_goals rfl))) | (apply Yi.b; constructor; all_goals (first | rfl | (constructor <;> omega) | (apply CellIs.own; (case h => repeat constructor); rfl) | (apply Cell3.own; (case h => repeat constructor); all_goals rfl))) | (apply Yi.c; constructor; all_goals (first | rfl | (constructor <;> omega) | (apply CellIs.own; (case h => repeat constructor); rfl) | (apply Cell3.own; (case h => repeat constructor); all_goals rfl)))))) | ((first | apply V0 | apply V1 | apply V2 (hw := H)); (case hg => rfl); try decide +kernel) | ((first | refine G0 H ?_ | (refine G1 H (fun _ _ _ _ h => h) (by decide +kernel) ?_; clear H; intro _ H)); simp only [enum, Nat.reduceAdd]) | (apply B0 (hw := H); (case hg => rfl); (case hd => first | exact hd_false | decide +kernel); (case hx => rfl); (case hc => rfl); clear H; intro bx _ H) | (apply B1 (hw := H); (case hg => rfl); (case hd => first | exact hd_false | decide +kernel); clear H; intro ax _ H) | ((apply W0 (hw := H); (case hg => rfl); (case hd => first | exact hd_false | decide +kernel); (case hx => rfl); (case hy => rfl); (case hc => rfl); (case hn => repeat constructor); (case h1 => rfl); clear H; intro _ H; (try dsimp only at H); try simp only [putL, List.set_cons_succ, List.set_cons_zero, evalT, evalC, List.getD_cons_succ, List.getD_cons_zero, Nat.zero_add, Nat.reduceAdd] at H)) | ((apply C1; (case hg => rfl); (case hd => first | exact hd_false | decide +kernel); (case hxs => rfl); (case hc => exact i_put t l a c hc (zoneOf H) _ H.per.2.1 H.per.2.2.1 hv hw hl q H.per.2.2.2); rintro _ _ ⟨p, rfl, hg, hp, ep⟩; replace H := H.call hg (rdF_stable p) hp; (try simp only [List.set_cons_succ, List.set_cons_zero] at H); refine ⟨_, rfl, _, (by first | exact fun _ _ h => h | exact fun _ _ h => h.tail | exact fun _ _ h => h.unfact (by repeat' (first | exact Stable.true | exact rdF_stable _ | exact iF_stable _ _ | apply Stable.and)) (fun _ _ h => h.2) | exact nofun), H, ?_⟩)) | ((apply C1; (case hg => rfl); (case hd => first | exact hd_false | decide +kernel); (case hxs => rfl); (case hc => exact i_own p _ _ H.per.1 (by rw [ep]; omega)); rintro _ _ ⟨z, rfl, hgr, ho, hez⟩; replace H := H.pushTree hgr ho; (try simp only [List.set_cons_succ, List.set_cons_zero] at H); refine ⟨_, rfl, _, (by first | exact fun _ _ h => h | exact fun _ _ h => h.tail | exact fun _ _ h => h.unfact (by repeat' (first | exact Stable.true | exact rdF_stable _ | exact iF_stable _ _ | apply Stable.and)) (fun _ _ h => h.2) | exact nofun), H, ?_⟩)) | ((apply C0 (hw := H); (case hg => rfl); (case hd => first | exact hd_false | decide +kernel); (case hxs => rfl); (case hc => exact i_valid_of z false (by rw [hez, ep]; exact hvp) _ _ (by first | exact H.rdAt 0 rfl | exact H.rdAt 1 rfl | exact H.rdAt 2 rfl | exact H.rdAt 3 rfl | exact H.rdAt 4 rfl | exact H.rdAt 5 rfl | exact H.rdAt 6 rfl | exact H.rdAt 7 rfl | exact H.rdAt 8 rfl | exact H.rdAt 9 rfl | exact H.rdAt 10 rfl | exact H.rdAt 11 rfl | exact H.rdAt 12 rfl | exact H.rdAt 13 rfl | exact (H.per.1).any | exact (H.per.1.1).any | exact (H.per.1.2).any | exact (H.per.2.1).any | exact (H.per.2.1.1).any | exact (H.per.2.1.2).any | exact (H.per.2.2.1).any | exact (H.per.2.2.1.1).any | exact (H.per.2.2.1.2).any | exact (H.per.2.2.2.1).any | exact (H.per.2.2.2.1.1).any | exact (H.per.2.2.2.1.2).any | exact (H.per.2.2.2.2.1).any | exact (H.per.2.2.2.2.1.1).any | exact (H.per.2.2.2.2.1.2).any | exact (H.per.2.2.2.2.2.1).any | exact (H.per.2.2.2.2.2.1.1).any | exact (H.per.2.2.2.2.2.1.2).any | exact (H.per.2.2.2.2.2.2.1).any | exact (H.per.2.2.2.2.2.2.1.1).any | exact (H.per.2.2.2.2.2.2.1.2).any | exact (H.per.2.2.2.2.2.2.2.1).any | exact (H.per.2.2.2.2.2.2.2.1.1).any | exact (H.per.2.2.2.2.2.2.2.1.2).any | exact (H.per.2.2.2.2.2.2.2.2.1).any | exact (H.per.2.2.2.2.2.2.2.2.1.1).any | exact (H.per.2.2.2.2.2.2.2.2.1.2).any | exact (H.per).any | exact (H.per.2).any | exact (H.per.2.2).any | exact (H.per.2.2.2).any | exact (H.per.2.2.2.2).any | exact (H.per.2.2.2.2.2).any | exact (H.per.2.2.2.2.2.2).any | exact (H.per.2.2.2.2.2.2.2).any | exact (H.per.2.2.2.2.2.2.2.2).any)); clear H; intro _ H)) | go_step | (apply X0; (case hy => rfl); all_goals (intro hb; simp only [hb]; (try simp only [decide_eq_true_eq, decide_eq_false_iff_not, Bool.not_eq_true', Bool.not_eq_false', Bool.and_eq_true, Bool.or_eq_true, Bool.and_eq_false_iff, Bool.or_eq_false_iff] at hb); try (exfalso; omega)))) <;> try simp only [List.getElem_toArray, List.getElem_cons_zero, List.getElem_cons_succ, Act.put, evalT, evalC, evalF, List.setIfInBounds_toArray, List.set_cons_succ, List.set_cons_zero, List.getD_cons_succ, List.getD_cons_zero, Nat.reduceAdd, Nat.reduceMul, Nat.add_zero, Nat.zero_add, Int.toNat_natCast, Int.reduceToNat, List.eraseIdx_cons_succ, List.eraseIdx_cons_zero, cond_true, cond_false])
     ((try simp only [Exit.inBlock, Exit.then]); refine ret_post (res2 rfl (R_cell rfl (load3 (ST3.out) (H.cell at2 rfl) (H.cell at2 rfl) (H.cell at2 rfl))) (R_tmp rfl)) ?_; try simp only [List.getD_cons_succ, List.getD_cons_zero])
     rw [e, okT_not hvp, hvp]
     exact ⟨.mk 0 0 none 0 [], rfl, H.ext, zero_own _ _, rfl⟩
    | true =>
     go_enter Try.func27, Try.ntmps27
     repeat' ((first | (refine T_nil ?_) | ((first | apply U0 | (apply U1; (case hd => decide +kernel)) | (apply U2 (hw := H); (case hd => decide +kernel)) | (apply U3 1; (case hp => rfl); (case hd => decide +kernel)) | (apply U3 2; (case hp => rfl); (case hd => decide +kernel)) | (apply U3 3; (case hp => rfl); (case hd => decide +kernel)) | (apply U3 4; (case hp => rfl); (case hd => decide +kernel)) | (apply U3 5; (case hp => rfl); (case hd => decide +kernel)) | (apply U3 6; (case hp => rfl); (case hd => decide +kernel)) | (apply U3 7; (case hp => rfl); (case hd => decide +kernel)) | (apply U3 8; (case hp => rfl); (case hd => decide +kernel)) | (apply U3 9; (case hp => rfl); (case hd => decide +kernel)) | (apply U3 10; (case hp => rfl); (case hd => decide +kernel)) | (apply U3 11; (case hp => rfl); (case hd => decide +kernel))); (case hg => rfl); (case hy => (first | (apply Yi.a; constructor; all_goals (first | rfl | (constructor <;> omega) | (apply CellIs.own; (case h => repeat constructor); rfl) | (apply Cell3.own; (case h => repeat constructor); all_goals rfl))) | (apply Yi.b; constructor; all_goals (first | rfl | (constructor <;> omega) | (apply CellIs.own; (case h => repeat constructor); rfl) | (apply Cell3.own; (case h => repeat constructor); all_goals rfl))) | (apply Yi.c; constructor; all_goals (first | rfl | (constructor <;> omega) | (apply CellIs.own; (case h => repeat constructor); rfl) | (apply Cell3.own; (case h => repeat constructor); all_goals rfl)))))) | ((first | apply V0 | apply V1 | apply V2 (hw := H)); (case hg => rfl); try decide +kernel) | ((first | refine G0 H ?_ | (refine G1 H (fun _ _ _ _ h => h) (by decide +kernel) ?_; clear H; intro _ H)); simp only [enum, Nat.reduceAdd]) | (apply B0 (hw := H); (case hg => rfl); (case hd => first | exact hd_false | decide +kernel); (case hx => rfl); (case hc => rfl); clear H; intro bx _ H) | (apply B1 (hw := H); (case hg => rfl); (case hd => first | exact hd_false | decide +kernel); clear H; intro ax _ H) | ((apply W0 (hw := H); (case hg => rfl); (case hd => first | exact hd_false | decide +kernel); (case hx => rfl); (case hy => rfl); (case hc => rfl); (case hn => repeat constructor); (case h1 => rfl); clear H; intro _ H; (try dsimp only at H); try simp only [putL, List.set_cons_succ, List.set_cons_zero, evalT, evalC, List.getD_cons_succ, List.getD_cons_zero, Nat.zero_add, Nat.reduceAdd] at H)) | ((apply C0 (hw := H); (case hg => rfl); (case hd => first | exact hd_false | decide +kernel); (case hxs => rfl); (case hc => exact i_TermValid t _ _ H.per.1); clear H; intro _ H)) | ((apply C0 (hw := H); (case hg => rfl); (case hd => first | exact hd_false | decide +kernel); (case hxs => rfl); (case hc => exact i_TermValid q _ _ H.per.2.2); clear H; intro _ H)) | ((apply C1; (case hg => rfl); (case hd => first | exact hd_false | decide +kernel); (case hxs => rfl); (case hc => exact i_walked t hv l a c hc (zoneOf H) _ H.per.1 H.per.2.1 hl); rintro _ _ ⟨v, u, rfl, hg, hv1, ev, hu1, eu⟩; replace H := H.call hg ((rdF_stable v).and (rdF_stable u)) ⟨hv1, hu1⟩; (try simp only [List.set_cons_succ, List.set_cons_zero] at H); refine ⟨_, rfl, _, (by first | exact fun _ _ h => h | exact fun _ _ h => h.tail | exact fun _ _ h => h.unfact (by repeat' (first | exact Stable.true | exact rdF_stable _ | exact iF_stable _ _ | apply Stable.and)) (fun _ _ h => h.2) | exact nofun), H, ?_⟩)) | go_step | (apply X0; (case hy => rfl); all_goals (intro hb; simp only [hb]; (try simp only [decide_eq_true_eq, decide_eq_false_iff_not, Bool.not_eq_true', Bool.not_eq_false', Bool.and_eq_true, Bool.or_eq_true, Bool.and_eq_false_iff, Bool.or_eq_false_iff] at hb); try (exfalso; omega)))) <;> try simp only [List.getElem_toArray, List.getElem_cons_zero, List.getElem_cons_succ, Act.put, evalT, evalC, evalF, List.setIfInBounds_toArray, List.set_cons_succ, List.set_cons_zero, List.getD_cons_succ, List.getD_cons_zero, Nat.reduceAdd, Nat.reduceMul, Nat.add_zero, Nat.zero_add, Int.toNat_natCast, Int.reduceToNat, List.eraseIdx_cons_succ, List.eraseIdx_cons_zero, cond_true, cond_false])
     all_goals first | (exfalso; simp_all; done) | skip
     repeat' ((first | (refine T_nil ?_) | ((first | apply U0 | (apply U1; (case hd => decide +kernel)) | (apply U2 (hw := H); (case hd => decide +kernel)) | (apply U3 1; (case hp => rfl); (case hd => decide +kernel)) | (apply U3 2; (case hp => rfl); (case hd => decide +kernel)) | (apply U3 3; (case hp => rfl); (case hd => decide +kernel)) | (apply U3 4; (case hp => rfl); (case hd => decide +kernel)) | (apply U3 5; (case hp => rfl); (case hd => decide +kernel)) | (apply U3 6; (case hp => rfl); (case hd => decide +kernel)) | (apply U3 7; (case hp => rfl); (case hd => decide +kernel)) | (apply U3 8; (case hp => rfl); (case hd => decide +kernel)) | (apply U3 9; (case hp => rfl); (case hd => decide +kernel)) | (apply U3 10; (case hp => rfl); (case hd => decide +kernel)) | (apply U3 11; (case hp => rfl); (case hd => decide +kernel))); (case hg => rfl); (case hy => (first | (apply Yi.a; constructor; all_goals (first | rfl | (constructor <;> omega) | (apply CellIs.own; (case h => repeat constructor); rfl) | (apply Cell3.own; (case h => repeat constructor); all_goals rfl))) | (apply Yi.b; constructor; all_goals (first | rfl | (constructor <;> omega) | (apply CellIs.own; (case h => repeat constructor); rfl) | (apply Cell3.own; (case h => repeat constructor); all_goals rfl))) | (apply Yi.c; constructor; all_goals (first | rfl | (constructor <;> omega) | (apply CellIs.own; (case h => repeat constructor); rfl) | (apply Cell3.own; (case h => repeat constructor); all_goals rfl)))))) | ((first | apply V0 | apply V1 | apply V2 (hw := H)); (case hg => rfl); try decide +kernel) | ((first | refine G0 H ?_ | (refine G1 H (fun _ _ _ _ h => h) (by decide +kernel) ?_; clear H; intro _ H)); simp only [enum, Nat.reduceAdd]) | (apply B0 (hw := H); (case hg => rfl); (case hd => first | exact hd_false | decide +kernel); (case hx => rfl); (case hc => rfl); clear H; intro bx _ H) | (apply B1 (hw := H); (case hg => rfl); (case hd => first | exact hd_false | decide +kernel); clear H; intro ax _ H) | ((apply W0 (hw := H); (case hg => rfl); (case hd => first | exact hd_false | decide +kernel); (case hx => rfl); (case hy => rfl); (case hc => rfl); (case hn => repeat constructor); (case h1 => rfl); clear H; intro _ H; (try dsimp only at H); try simp only [putL, List.set_cons_succ, List.set_cons_zero, evalT, evalC, List.getD_cons_succ, List.getD_cons_zero, Nat.zero_add, Nat.reduceAdd] at H)) | ((apply C1; (case hg => rfl); (case hd => first | exact hd_false | decide +kernel); (case hxs => rfl); (case hc => exact i_put t l a c hc (zoneOf H) _ H.per.2.1 H.per.2.2.1 hv hw hl q H.per.2.2.2); rintro _ _ ⟨p, rfl, hg, hp, ep⟩; replace H := H.call hg (rdF_stable p) hp; (try simp only [List.set_cons_succ, List.set_cons_zero] at H); refine ⟨_, rfl, _, (by first | exact fun _ _ h => h | exact fun _ _ h => h.tail | exact fun _ _ h => h.unfact (by repeat' (first | exact Stable.true | exact rdF_stable _ | exact iF_stable _ _ | apply Stable.and)) (fun _ _ h => h.2) | exact nofun), H, ?_⟩)) | ((apply C1; (case hg => rfl); (case hd => first | exact hd_false | decide +kernel); (case hxs => rfl); (case hc => exact i_own p _ _ H.per.1 (by rw [ep]; omega)); rintro _ _ ⟨z, rfl, hgr, ho, hez⟩; replace H := H.pushTree hgr ho; (try simp only [List.set_cons_succ, List.set_cons_zero] at H); refine ⟨_, rfl, _, (by first | exact fun _ _ h => h | exact fun _ _ h => h.tail | exact fun _ _ h => h.unfact (by repeat' (first | exact Stable.true | exact rdF_stable _ | exact iF_stable _ _ | apply Stable.and)) (fun _ _ h => h.2) | exact nofun), H, ?_⟩)) | ((apply C0 (hw := H); (case hg => rfl); (case hd => first | exact hd_false | decide +kernel); (case hxs => rfl); (case hc => exact i_valid_of z true (by rw [hez, ep]; exact hvp) _ _ (by first | exact H.rdAt 0 rfl | exact H.rdAt 1 rfl | exact H.rdAt 2 rfl | exact H.rdAt 3 rfl | exact H.rdAt 4 rfl | exact H.rdAt 5 rfl | exact H.rdAt 6 rfl | exact H.rdAt 7 rfl | exact H.rdAt 8 rfl | exact H.rdAt 9 rfl | exact H.rdAt 10 rfl | exact H.rdAt 11 rfl | exact H.rdAt 12 rfl | exact H.rdAt 13 rfl | exact (H.per.1).any | exact (H.per.1.1).any | exact (H.per.1.2).any | exact (H.per.2.1).any | exact (H.per.2.1.1).any | exact (H.per.2.1.2).any | exact (H.per.2.2.1).any | exact (H.per.2.2.1.1).any | exact (H.per.2.2.1.2).any | exact (H.per.2.2.2.1).any | exact (H.per.2.2.2.1.1).any | exact (H.per.2.2.2.1.2).any | exact (H.per.2.2.2.2.1).any | exact (H.per.2.2.2.2.1.1).any | exact (H.per.2.2.2.2.1.2).any | exact (H.per.2.2.2.2.2.1).any | exact (H.per.2.2.2.2.2.1.1).any | exact (H.per.2.2.2.2.2.1.2).any | exact (H.per.2.2.2.2.2.2.1).any | exact (H.per.2.2.2.2.2.2.1.1).any | exact (H.per.2.2.2.2.2.2.1.2).any | exact (H.per.2.2.2.2.2.2.2.1).any | exact (H.per.2.2.2.2.2.2.2.1.1).any | exact (H.per.2.2.2.2.2.2.2.1.2).any | exact (H.per.2.2.2.2.2.2.2.2.1).any | exact (H.per.2.2.2.2.2.2.2.2.1.1).any | exact (H.per.2.2.2.2.2.2.2.2.1.2).any | exact (H.per).any | exact (H.per.2).any | exact (H.per.2.2).any | exact (H.per.2.2.2).any | exact (H.per.2.2.2.2).any | exact (H.per.2.2.2.2.2).any | exact (H.per.2.2.2.2.2.2).any | exact (H.per.2.2.2.2.2.2.2).any | exact (H.per.2.2.2.2.2.2.2.2).any)); clear H; intro _ H)) | go_step | (apply X0; (case hy => rfl); all_goals (intro hb; simp only [hb]; (try simp only [decide_eq_true_eq, decide_eq_false_iff_not, Bool.not_eq_true', Bool.not_eq_false', Bool.and_eq_true, Bool.or_eq_true, Bool.and_eq_false_iff, Bool.or_eq_false_iff] at hb); try (exfalso; omega)))) <;> try simp only [List.getElem_toArray, List.getElem_cons_zero, List.getElem_cons_succ, Act.put, evalT, evalC, evalF, List.setIfInBounds_toArray, List.set_cons_succ, List.set_cons_zero, List.getD_cons_succ, List.getD_cons_zero, Nat.reduceAdd, Nat.reduceMul, Nat.add_zero, Nat.zero_add, Int.toNat_natCast, Int.reduceToNat, List.eraseIdx_cons_succ, List.eraseIdx_cons_zero, cond_true, cond_false])
     ((try simp only [Exit.inBlock, Exit.then]); refine ret_post (res2 rfl (R_cell rfl (load3 (ST3.out) (H.cell at2 rfl) (H.cell at2 rfl) (H.cell at2 rfl))) (R_tmp rfl)) ?_; try simp only [List.getD_cons_succ, List.getD_cons_zero])
     rw [e, okT_valid hvp, hvp]
     exact ⟨z, rfl, H.ext, H.outTree, by rw [hez, ep]⟩
end Go.Proofs.Ytgchmppmecnniaa
end
section
namespace Go.Ab
open Go Go.Dk
open Go.ChangeShapes Go.WideShapes Go.ChangeAt Go.RowKit
theorem open_intsS {H : Type} {enc : TypeId × Value → H} {P : Program} {W : World} {base : Nat} {tB tU : TypeId} (hB : P.underlying tB = some (.slice tU)) (hU : P.underlying tU = some (.int .i64)) (hc : P.cellsOf tU = 1)
   {v : Value} {d : DataW H} {p : List MemPlace} (hval : Value.okWide P W .any base tB v) (h : DataW.Trod enc P W 0 (fun _ => true) true tB v d p) : ∃ l : List Int, SlR anyB W (.is l) v := by
 obtain ⟨a1, len, cap, rfl⟩ := okWide_slice hB hval
 obtain ⟨fuel, hf⟩ := h
 rcases open_ints hB hU hc hf with ⟨hcs, hx⟩ | ⟨a, len', cap', zs, hcs, _, hl, hm, hz, hx, hcell, hwz⟩
 ·simp [Value.cells] at hcs
  obtain ⟨rfl, rfl, rfl⟩ := hcs
  exact ⟨[], none, 0, [], rfl, Nat.zero_le _, Nat.zero_le _, rfl, .inl rfl⟩
 ·simp [Value.cells] at hcs
  obtain ⟨rfl, rfl, rfl⟩ := hcs
  simp only [if_true] at hz
  have hlen : (zs.take len).length = len := by simp; omega
  refine ⟨zs.take len, ?_⟩
  by_cases h0 : len = 0
  ·subst h0
   exact ⟨some a, cap, [], by simp [SD.len], Nat.zero_le _, Nat.zero_le _, by simp [ElemsR], .inl rfl⟩
  ·obtain ⟨ab, ao, spot⟩ := a
   have hspot : spot = none := by simpa [Addr.add] using World.cell?_spot (hcell 0 (by omega))
   subst hspot
   refine ⟨some ⟨ab, ao, none⟩, cap, (zs.take len).map (Value.int .i64 ·), ?_, ?_, ?_, rfl, .inr ⟨ab, ao, rfl, trivial, fun i x hx => ?_⟩⟩
   ·simp only [SD.len, hlen]
   ·simp only [SD.len, hlen]; exact hl
   ·simp only [SD.len, hlen]; exact Nat.le_trans hl hm
   ·rw [List.getElem?_map] at hx
    cases hzi : (zs.take len)[i]? with
    | none => rw [hzi] at hx; simp at hx
    | some n =>
     rw [hzi] at hx
     simp at hx
     subst hx
     have hil : i < len := by
      rcases Nat.lt_or_ge i len with h' | h'
      ·exact h'
      ·rw [List.getElem?_eq_none (by simp; omega)] at hzi; cases hzi
     have hzi' : zs[i]? = some n := by rw [List.getElem?_take_of_lt hil] at hzi; exact hzi
     have hc' := hcell i (by omega)
     rw [addr_add] at hc'
     rw [hc']
     have hn : zs.getD i 0 = n := by simp [List.getD, hzi']
     rw [hn]
end Go.Ab
end
