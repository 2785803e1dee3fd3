/- Part 5 of the proof. -/
import Derived.Test.YtnogehmgpfpjmaaDoorS01
import Derived.Test.YtnogehmgpfpjmaaDoorS02
import Derived.Test.YtnogehmgpfpjmaaDoorS03
import Derived.Test.YtnogehmgpfpjmaaDoorS04
import Derived.ChangeArms
import Derived.Deep.Slices
import Derived.Deep.Strs
import Derived.WalkKit
import Derived.ProofKit
import Derived.OpenShut
import Derived.ShutString
import Derived.ChangeOld
import Derived.Below
import Derived.Test.YtnogehmgpfpjmaaDoorCards
import Derived.Test.YtnogehmgpfpjmaaDoorTie
import Derived.HandedShaped
import Derived.LaidMore
import Derived.Lay
import Derived.Stop.Joined
import Derived.Shelf.Vars
import Derived.Lib.LaidU8
import Derived.SevenTiedAt
set_option linter.unusedVariables false
set_option linter.unusedSimpArgs false
section
namespace Go.Proofs.YtnogehmgpfpjmaaDoor
open Go Go.Dk
def szL (ts : List T) (left : Int) : Int := if (T.sizeL ts : Int) ≤ left then left - T.sizeL ts else -1
set_option maxRecDepth 100000 in
set_option maxHeartbeats 1000000 in
theorem l_szTerm_of (t : HT) (left : Int) (Z : Zone) (w : World) (hr : Rd Z w t)
   (hc : ∀ Z w, Rd Z w t → Calls Tryd.prog 12 #[t.sl, .int .i64 left] w fun e w' => e = .returned (.int .i64 (szL t.er.kids left)) ∧ Grow w w') :
   Calls Tryd.prog 5 #[t.val, .int .i64 left] w fun e w' => e = .returned (.int .i64 (szL t.er.kids left)) ∧ Grow w w' := by
 have H := St.init w noneZ Z (rdF_stable t) hr
 have hs : szL t.er.kids left < 0 → szL t.er.kids left = -1 := by unfold szL; split <;> intro h <;> omega
 go_enter Tryd.func5, Tryd.ntmps5
 repeat' ((first | (refine T_nil ?_) | ((first | apply U0 | (apply U1; (case hd => decide +kernel)) | (apply U2 (hw := H); (case hd => decide +kernel)) | (apply U3 1; (case hp => rfl); (case hd => decide +kernel)) | (apply U3 2; (case hp => rfl); (case hd => decide +kernel)) | (apply U3 3; (case hp => rfl); (case hd => decide +kernel)) | (apply U3 4; (case hp => rfl); (case hd => decide +kernel)) | (apply U3 5; (case hp => rfl); (case hd => decide +kernel)) | (apply U3 6; (case hp => rfl); (case hd => decide +kernel)) | (apply U3 7; (case hp => rfl); (case hd => decide +kernel)) | (apply U3 8; (case hp => rfl); (case hd => decide +kernel)) | (apply U3 9; (case hp => rfl); (case hd => decide +kernel)) | (apply U3 10; (case hp => rfl); (case hd => decide +kernel)) | (apply U3 11; (case hp => rfl); (case hd => decide +kernel))); (case hg => rfl); (case hy => (first | (apply Yi.a; constructor; all_goals (first | rfl | (constructor <;> omega) | (apply CellIs.own; (case h => repeat constructor); rfl) | (apply Cell3.own; (case h => repeat constructor); all_goals rfl))) | (apply Yi.b; constructor; all_goals (first | rfl | (constructor <;> omega) | (apply CellIs.own; (case h => repeat constructor); rfl) | (apply Cell3.own; (case h => repeat constructor); all_goals rfl))) | (apply Yi.c; constructor; all_goals (first | rfl | (constructor <;> omega) | (apply CellIs.own; (case h => repeat constructor); rfl) | (apply Cell3.own; (case h => repeat constructor); all_goals rfl)))))) | ((first | apply V0 | apply Go.Dk.V1 | apply V2 (hw := H)); (case hg => rfl); try decide +kernel) | ((first | refine G0 H ?_ | (refine G1 H (fun _ _ _ _ h => h) (by decide +kernel) ?_; clear H; intro _ H)); simp only [enum, Nat.reduceAdd]) | (apply B0 (hw := H); (case hg => rfl); (case hd => first | with_reducible exact hd_false | decide +kernel); (case hx => rfl); (case hc => rfl); clear H; intro bx _ H) | (apply B1 (hw := H); (case hg => rfl); (case hd => first | with_reducible exact hd_false | decide +kernel); clear H; intro ax _ H) | ((apply C0 (hw := H); (case hg => rfl); (case hd => first | with_reducible exact hd_false | decide +kernel); (case hxs => rfl); (case hc => exact hc _ _ H.per); clear H; intro _ H)) | go_step | (apply X0; (case hy => rfl); all_goals (intro hb; simp only [hb]; (try simp only [decide_eq_true_eq, decide_eq_false_iff_not, Bool.not_eq_true', Bool.not_eq_false', Bool.and_eq_true, Bool.or_eq_true, Bool.and_eq_false_iff, Bool.or_eq_false_iff] at hb); try (exfalso; omega)))) <;> try simp only [List.getElem_toArray, List.getElem_cons_zero, List.getElem_cons_succ, Act.put, evalT, evalC, evalF, List.setIfInBounds_toArray, List.set_cons_succ, List.set_cons_zero, List.getD_cons_succ, List.getD_cons_zero, Nat.reduceAdd, Nat.reduceMul, Nat.add_zero, Nat.zero_add, Int.toNat_natCast, Int.reduceToNat, List.eraseIdx_cons_succ, List.eraseIdx_cons_zero, cond_true, cond_false])
 ·have h1 : szL t.er.kids left < 0 := by assumption
  ((try simp only [Exit.inBlock, Exit.then]); refine ret_post (res1 rfl (R_tmp rfl)) ?_; try simp only [List.getD_cons_succ, List.getD_cons_zero])
  rw [hs h1]
  (first | exact ⟨rfl, H.ext⟩ | exact ⟨trivial, H.ext⟩)
 ·((try simp only [Exit.inBlock, Exit.then]); refine ret_post (res1 rfl (R_tmp rfl)) ?_; try simp only [List.getD_cons_succ, List.getD_cons_zero])
  (first | exact ⟨rfl, H.ext⟩ | exact ⟨trivial, H.ext⟩)
set_option maxRecDepth 100000 in
set_option maxHeartbeats 1000000 in
theorem l_szTermS (t : HT) : ∀ (left : Int) (Z : Zone) (w : World), Rd Z w t → 0 ≤ left → left ≤ 1048576 →
   Calls Tryd.prog 12 #[t.sl, .int .i64 left] w fun e w' => e = .returned (.int .i64 (szL t.er.kids left)) ∧ Grow w w' := by
 induction t using HT.ind with | h t ih =>
 intro left Z w hr h0 h1
 have H := St.init w noneZ Z (rdF_stable t) hr
 have hlen := hr.len
 have hsl := T.sizeL_len t.er.kids
 rw [HT.er_len] at hsl
 have hsl : t.sl = .slice t.a t.kids.length t.cap := rfl
 rw [hsl]
 go_enter Tryd.func12, Tryd.ntmps12
 repeat' ((first | (refine T_nil ?_) | ((first | apply U0 | (apply U1; (case hd => decide +kernel)) | (apply U2 (hw := H); (case hd => decide +kernel)) | (apply U3 1; (case hp => rfl); (case hd => decide +kernel)) | (apply U3 2; (case hp => rfl); (case hd => decide +kernel)) | (apply U3 3; (case hp => rfl); (case hd => decide +kernel)) | (apply U3 4; (case hp => rfl); (case hd => decide +kernel)) | (apply U3 5; (case hp => rfl); (case hd => decide +kernel)) | (apply U3 6; (case hp => rfl); (case hd => decide +kernel)) | (apply U3 7; (case hp => rfl); (case hd => decide +kernel)) | (apply U3 8; (case hp => rfl); (case hd => decide +kernel)) | (apply U3 9; (case hp => rfl); (case hd => decide +kernel)) | (apply U3 10; (case hp => rfl); (case hd => decide +kernel)) | (apply U3 11; (case hp => rfl); (case hd => decide +kernel))); (case hg => rfl); (case hy => (first | (apply Yi.a; constructor; all_goals (first | rfl | (constructor <;> omega) | (apply CellIs.own; (case h => repeat constructor); rfl) | (apply Cell3.own; (case h => repeat constructor); all_goals rfl))) | (apply Yi.b; constructor; all_goals (first | rfl | (constructor <;> omega) | (apply CellIs.own; (case h => repeat constructor); rfl) | (apply Cell3.own; (case h => repeat constructor); all_goals rfl))) | (apply Yi.c; constructor; all_goals (first | rfl | (constructor <;> omega) | (apply CellIs.own; (case h => repeat constructor); rfl) | (apply Cell3.own; (case h => repeat constructor); all_goals rfl)))))) | ((first | apply V0 | apply Go.Dk.V1 | apply V2 (hw := H)); (case hg => rfl); try decide +kernel) | ((first | refine G0 H ?_ | (refine G1 H (fun _ _ _ _ h => h) (by decide +kernel) ?_; clear H; intro _ H)); simp only [enum, Nat.reduceAdd]) | (apply B0 (hw := H); (case hg => rfl); (case hd => first | with_reducible exact hd_false | decide +kernel); (case hx => rfl); (case hc => rfl); clear H; intro bx _ H) | (apply B1 (hw := H); (case hg => rfl); (case hd => first | with_reducible exact hd_false | decide +kernel); clear H; intro ax _ H) | go_step | (apply X0; (case hy => rfl); all_goals (intro hb; simp only [hb]; (try simp only [decide_eq_true_eq, decide_eq_false_iff_not, Bool.not_eq_true', Bool.not_eq_false', Bool.and_eq_true, Bool.or_eq_true, Bool.and_eq_false_iff, Bool.or_eq_false_iff] at hb); try (exfalso; omega)))) <;> try simp only [List.getElem_toArray, List.getElem_cons_zero, List.getElem_cons_succ, Act.put, evalT, evalC, evalF, List.setIfInBounds_toArray, List.set_cons_succ, List.set_cons_zero, List.getD_cons_succ, List.getD_cons_zero, Nat.reduceAdd, Nat.reduceMul, Nat.add_zero, Nat.zero_add, Int.toNat_natCast, Int.reduceToNat, List.eraseIdx_cons_succ, List.eraseIdx_cons_zero, cond_true, cond_false])
 ·((try simp only [Exit.inBlock, Exit.then]); refine ret_post (res1 rfl (R_tmp rfl)) ?_; try simp only [List.getD_cons_succ, List.getD_cons_zero])
  rw [szL, if_neg (by omega)]
  (first | exact ⟨rfl, H.ext⟩ | exact ⟨trivial, H.ext⟩)
 ·go_loopg [1, 5] t.kids.length (fun g v1 v2 wr => ∃ (i : Nat) (lc : Int), v1 = .int .i64 lc ∧ v2 = .int .i64 i ∧ i + g = t.kids.length ∧ 0 ≤ lc ∧ lc ≤ 1048576 ∧
    left - T.sizeL t.er.kids = lc - T.sizeL (t.er.kids.drop i) + (t.kids.length - i) ∧ St w noneZ Z [] (rdF t) wr)
  case atStart => exact ⟨0, _, rfl, rfl, by omega, by omega, by omega, by simp; omega, H⟩
  case round =>
   clear H
   obtain ⟨i, lc, rfl, rfl, hi, hl0, hl1, hsum, H⟩ := hrel
   by_cases hlt : i < t.kids.length
   ·have hu : t.kids[i]? = some t.kids[i] := List.getElem?_eq_getElem hlt
    obtain ⟨b, off, ha⟩ := hr.addr hu
    generalize t.kids[i] = u at hu
    have hmem : u ∈ t.kids := List.mem_of_getElem? hu
    have hsub := ih u hmem
    rw [HT.er_drop hu, T.sizeL, T.size_eq] at hsum
    have hd := T.sizeL_len (t.er.kids.drop (i + 1))
    rw [List.length_drop, HT.er_len] at hd
    have hsz : szL u.er.kids lc = if (T.sizeL u.er.kids : Int) ≤ lc then lc - T.sizeL u.er.kids else -1 := rfl
    have htot : szL t.er.kids left = if (T.sizeL t.er.kids : Int) ≤ left then left - T.sizeL t.er.kids else -1 := rfl
    repeat' ((first | (refine T_nil ?_) | ((first | apply U0 | (apply U1; (case hd => decide +kernel)) | (apply U2 (hw := H); (case hd => decide +kernel)) | (apply U3 1; (case hp => rfl); (case hd => decide +kernel)) | (apply U3 2; (case hp => rfl); (case hd => decide +kernel)) | (apply U3 3; (case hp => rfl); (case hd => decide +kernel)) | (apply U3 4; (case hp => rfl); (case hd => decide +kernel)) | (apply U3 5; (case hp => rfl); (case hd => decide +kernel)) | (apply U3 6; (case hp => rfl); (case hd => decide +kernel)) | (apply U3 7; (case hp => rfl); (case hd => decide +kernel)) | (apply U3 8; (case hp => rfl); (case hd => decide +kernel)) | (apply U3 9; (case hp => rfl); (case hd => decide +kernel)) | (apply U3 10; (case hp => rfl); (case hd => decide +kernel)) | (apply U3 11; (case hp => rfl); (case hd => decide +kernel))); (case hg => rfl); (case hy => (first | (apply Yi.a; constructor; all_goals (first | rfl | (constructor <;> omega) | (apply CellIs.own; (case h => repeat constructor); rfl) | (apply Cell3.own; (case h => repeat constructor); all_goals rfl) | exact ha | exact .mk fun w h => (Rd.elem h.per ha hu).1)) | (apply Yi.b; constructor; all_goals (first | rfl | (constructor <;> omega) | (apply CellIs.own; (case h => repeat constructor); rfl) | (apply Cell3.own; (case h => repeat constructor); all_goals rfl) | exact ha | exact .mk fun w h => (Rd.elem h.per ha hu).1)) | (apply Yi.c; constructor; all_goals (first | rfl | (constructor <;> omega) | (apply CellIs.own; (case h => repeat constructor); rfl) | (apply Cell3.own; (case h => repeat constructor); all_goals rfl) | exact ha | exact .mk fun w h => (Rd.elem h.per ha hu).1))))) | ((first | apply V0 | apply Go.Dk.V1 | apply V2 (hw := H)); (case hg => rfl); try decide +kernel) | ((first | refine G0 H ?_ | (refine G1 H (fun _ _ _ _ h => h) (by decide +kernel) ?_; clear H; intro _ H)); simp only [enum, Nat.reduceAdd]) | (apply B0 (hw := H); (case hg => rfl); (case hd => first | with_reducible exact hd_false | decide +kernel); (case hx => rfl); (case hc => rfl); clear H; intro bx _ H) | (apply B1 (hw := H); (case hg => rfl); (case hd => first | with_reducible exact hd_false | decide +kernel); clear H; intro ax _ H) | ((apply C0 (hw := H); (case hg => rfl); (case hd => first | with_reducible exact hd_false | decide +kernel); (case hxs => rfl); (case hc => exact l_szTerm_of u lc _ _ (Rd.elem H.per ha hu).2 (fun Z w h => hsub lc Z w h hl0 hl1)); clear H; intro _ H)) | go_step | (apply X0; (case hy => rfl); all_goals (intro hb; simp only [hb]; (try simp only [decide_eq_true_eq, decide_eq_false_iff_not, Bool.not_eq_true', Bool.not_eq_false', Bool.and_eq_true, Bool.or_eq_true, Bool.and_eq_false_iff, Bool.or_eq_false_iff] at hb); try (exfalso; omega)))) <;> try simp only [List.getElem_toArray, List.getElem_cons_zero, List.getElem_cons_succ, Act.put, evalT, evalC, evalF, List.setIfInBounds_toArray, List.set_cons_succ, List.set_cons_zero, List.getD_cons_succ, List.getD_cons_zero, Nat.reduceAdd, Nat.reduceMul, Nat.add_zero, Nat.zero_add, Int.toNat_natCast, Int.reduceToNat, List.eraseIdx_cons_succ, List.eraseIdx_cons_zero, cond_true, cond_false])
    ·have hf : szL u.er.kids lc < 0 := by assumption
     ((try simp only [Exit.inBlock, Exit.then]); refine ret_post (res1 rfl (R_tmp rfl)) ?_; try simp only [List.getD_cons_succ, List.getD_cons_zero])
     have : szL t.er.kids left = -1 := by
      rw [htot, if_neg]; intro hle; rw [hsz] at hf; split at hf <;> omega
     rw [this]
     (first | exact ⟨rfl, H.ext⟩ | exact ⟨trivial, H.ext⟩)
    ·have hf : 0 ≤ szL u.er.kids lc := by assumption
     have hle : (T.sizeL u.er.kids : Int) ≤ lc := by rw [hsz] at hf; split at hf <;> omega
     rw [if_pos hle] at hsz
     go_roundg (gk - 1)
     case measure => omega
     case rel => exact ⟨i + 1, _, rfl, by simp, by omega, by omega, by omega, by rw [hsz]; omega, H⟩
   ·have h0 : i = t.kids.length := by omega
    rw [List.drop_of_length_le (by rw [HT.er_len]; omega), T.sizeL] at hsum
    have hlt' : ¬ ((i : Int) < t.kids.length) := by omega
    repeat' ((first | (refine T_nil ?_) | ((first | apply U0 | (apply U1; (case hd => decide +kernel)) | (apply U2 (hw := H); (case hd => decide +kernel)) | (apply U3 1; (case hp => rfl); (case hd => decide +kernel)) | (apply U3 2; (case hp => rfl); (case hd => decide +kernel)) | (apply U3 3; (case hp => rfl); (case hd => decide +kernel)) | (apply U3 4; (case hp => rfl); (case hd => decide +kernel)) | (apply U3 5; (case hp => rfl); (case hd => decide +kernel)) | (apply U3 6; (case hp => rfl); (case hd => decide +kernel)) | (apply U3 7; (case hp => rfl); (case hd => decide +kernel)) | (apply U3 8; (case hp => rfl); (case hd => decide +kernel)) | (apply U3 9; (case hp => rfl); (case hd => decide +kernel)) | (apply U3 10; (case hp => rfl); (case hd => decide +kernel)) | (apply U3 11; (case hp => rfl); (case hd => decide +kernel))); (case hg => rfl); (case hy => (first | (apply Yi.a; constructor; all_goals (first | rfl | (constructor <;> omega) | (apply CellIs.own; (case h => repeat constructor); rfl) | (apply Cell3.own; (case h => repeat constructor); all_goals rfl))) | (apply Yi.b; constructor; all_goals (first | rfl | (constructor <;> omega) | (apply CellIs.own; (case h => repeat constructor); rfl) | (apply Cell3.own; (case h => repeat constructor); all_goals rfl))) | (apply Yi.c; constructor; all_goals (first | rfl | (constructor <;> omega) | (apply CellIs.own; (case h => repeat constructor); rfl) | (apply Cell3.own; (case h => repeat constructor); all_goals rfl)))))) | ((first | apply V0 | apply Go.Dk.V1 | apply V2 (hw := H)); (case hg => rfl); try decide +kernel) | ((first | refine G0 H ?_ | (refine G1 H (fun _ _ _ _ h => h) (by decide +kernel) ?_; clear H; intro _ H)); simp only [enum, Nat.reduceAdd]) | (apply B0 (hw := H); (case hg => rfl); (case hd => first | with_reducible exact hd_false | decide +kernel); (case hx => rfl); (case hc => rfl); clear H; intro bx _ H) | (apply B1 (hw := H); (case hg => rfl); (case hd => first | with_reducible exact hd_false | decide +kernel); clear H; intro ax _ H) | go_step | (apply X0; (case hy => rfl); all_goals (intro hb; simp only [hb]; (try simp only [decide_eq_true_eq, decide_eq_false_iff_not, Bool.not_eq_true', Bool.not_eq_false', Bool.and_eq_true, Bool.or_eq_true, Bool.and_eq_false_iff, Bool.or_eq_false_iff] at hb); try (exfalso; omega)))) <;> try simp only [List.getElem_toArray, List.getElem_cons_zero, List.getElem_cons_succ, Act.put, evalT, evalC, evalF, List.setIfInBounds_toArray, List.set_cons_succ, List.set_cons_zero, List.getD_cons_succ, List.getD_cons_zero, Nat.reduceAdd, Nat.reduceMul, Nat.add_zero, Nat.zero_add, Int.toNat_natCast, Int.reduceToNat, List.eraseIdx_cons_succ, List.eraseIdx_cons_zero, cond_true, cond_false])
    ((try simp only [Exit.inBlock, Exit.then]); refine ret_post (res1 rfl (R_tmp rfl)) ?_; try simp only [List.getD_cons_succ, List.getD_cons_zero])
    rw [szL, if_pos (by omega)]
    have : lc = left - T.sizeL t.er.kids := by omega
    rw [this]
    (first | exact ⟨rfl, H.ext⟩ | exact ⟨trivial, H.ext⟩)
theorem l_szTerm (t : HT) (left : Int) (Z : Zone) (w : World) (hr : Rd Z w t) (h0 : 0 ≤ left) (h1 : left ≤ 1048576) :
   Calls Tryd.prog 5 #[t.val, .int .i64 left] w fun e w' => e = .returned (.int .i64 (szL t.er.kids left)) ∧ Grow w w' :=
 l_szTerm_of t left Z w hr (fun Z w h => l_szTermS t left Z w h h0 h1)
def anyZ : Zone := fun _ => True
set_option maxRecDepth 100000 in
set_option maxHeartbeats 1000000 in
theorem l_eqTerm_of (s t : HT) (w : World) (hs : Rd anyZ w s) (ht : Rd anyZ w t)
   (hc : ∀ w, Rd anyZ w s → Rd anyZ w t → Calls Tryd.prog 24 #[s.sl, t.sl] w fun e w' => e = .returned (.bool (T.beqL s.er.kids t.er.kids)) ∧ Grow w w') :
   Calls Tryd.prog 9 #[s.val, t.val] w fun e w' => e = .returned (.bool (T.beq s.er t.er)) ∧ Grow w w' := by
 have H := St.init w noneZ anyZ ((rdF_stable s).and (rdF_stable t)) ⟨hs, ht⟩
 rw [T.beq_eq, HT.er_k, HT.er_k, HT.er_n, HT.er_n]
 go_enter Tryd.func9, Tryd.ntmps9
 repeat' ((first | (refine T_nil ?_) | ((first | apply U0 | (apply U1; (case hd => decide +kernel)) | (apply U2 (hw := H); (case hd => decide +kernel)) | (apply U3 1; (case hp => rfl); (case hd => decide +kernel)) | (apply U3 2; (case hp => rfl); (case hd => decide +kernel)) | (apply U3 3; (case hp => rfl); (case hd => decide +kernel)) | (apply U3 4; (case hp => rfl); (case hd => decide +kernel)) | (apply U3 5; (case hp => rfl); (case hd => decide +kernel)) | (apply U3 6; (case hp => rfl); (case hd => decide +kernel)) | (apply U3 7; (case hp => rfl); (case hd => decide +kernel)) | (apply U3 8; (case hp => rfl); (case hd => decide +kernel)) | (apply U3 9; (case hp => rfl); (case hd => decide +kernel)) | (apply U3 10; (case hp => rfl); (case hd => decide +kernel)) | (apply U3 11; (case hp => rfl); (case hd => decide +kernel))); (case hg => rfl); (case hy => (first | (apply Yi.a; constructor; all_goals (first | rfl | (constructor <;> omega) | (apply CellIs.own; (case h => repeat constructor); rfl) | (apply Cell3.own; (case h => repeat constructor); all_goals rfl))) | (apply Yi.b; constructor; all_goals (first | rfl | (constructor <;> omega) | (apply CellIs.own; (case h => repeat constructor); rfl) | (apply Cell3.own; (case h => repeat constructor); all_goals rfl))) | (apply Yi.c; constructor; all_goals (first | rfl | (constructor <;> omega) | (apply CellIs.own; (case h => repeat constructor); rfl) | (apply Cell3.own; (case h => repeat constructor); all_goals rfl)))))) | ((first | apply V0 | apply Go.Dk.V1 | apply V2 (hw := H)); (case hg => rfl); try decide +kernel) | ((first | refine G0 H ?_ | (refine G1 H (fun _ _ _ _ h => h) (by decide +kernel) ?_; clear H; intro _ H)); simp only [enum, Nat.reduceAdd]) | (apply B0 (hw := H); (case hg => rfl); (case hd => first | with_reducible exact hd_false | decide +kernel); (case hx => rfl); (case hc => rfl); clear H; intro bx _ H) | (apply B1 (hw := H); (case hg => rfl); (case hd => first | with_reducible exact hd_false | decide +kernel); clear H; intro ax _ H) | ((apply C0 (hw := H); (case hg => rfl); (case hd => first | with_reducible exact hd_false | decide +kernel); (case hxs => rfl); (case hc => exact hc _ H.per.1.any H.per.2.any); clear H; intro _ H)) | go_step | (apply X0; (case hy => rfl); all_goals (intro hb; simp only [hb]; (try simp only [decide_eq_true_eq, decide_eq_false_iff_not, Bool.not_eq_true', Bool.not_eq_false', Bool.and_eq_true, Bool.or_eq_true, Bool.and_eq_false_iff, Bool.or_eq_false_iff] at hb); try (exfalso; omega)))) <;> try simp only [List.getElem_toArray, List.getElem_cons_zero, List.getElem_cons_succ, Act.put, evalT, evalC, evalF, List.setIfInBounds_toArray, List.set_cons_succ, List.set_cons_zero, List.getD_cons_succ, List.getD_cons_zero, Nat.reduceAdd, Nat.reduceMul, Nat.add_zero, Nat.zero_add, Int.toNat_natCast, Int.reduceToNat, List.eraseIdx_cons_succ, List.eraseIdx_cons_zero, cond_true, cond_false])
 ·have h1 : (!decide (s.k = t.k)) = true := by assumption
  ((try simp only [Exit.inBlock, Exit.then]); refine ret_post (res1 rfl (R_tmp rfl)) ?_; try simp only [List.getD_cons_succ, List.getD_cons_zero])
  refine ⟨?_, H.ext⟩
  simp at h1; simp [h1]
 ·have h1 : (!decide (s.k = t.k)) = false := by assumption
  have h2 : (!decide (s.n = t.n)) = true := by assumption
  ((try simp only [Exit.inBlock, Exit.then]); refine ret_post (res1 rfl (R_tmp rfl)) ?_; try simp only [List.getD_cons_succ, List.getD_cons_zero])
  refine ⟨?_, H.ext⟩
  simp at h1 h2; simp [h2]
 ·have h1 : (!T.beqL s.er.kids t.er.kids) = true := by assumption
  ((try simp only [Exit.inBlock, Exit.then]); refine ret_post (res1 rfl (R_tmp rfl)) ?_; try simp only [List.getD_cons_succ, List.getD_cons_zero])
  refine ⟨?_, H.ext⟩
  simp at h1; simp [h1]
 ·have h1 : (!decide (s.k = t.k)) = false := by assumption
  have h2 : (!decide (s.n = t.n)) = false := by assumption
  have h3 : (!T.beqL s.er.kids t.er.kids) = false := by assumption
  ((try simp only [Exit.inBlock, Exit.then]); refine ret_post (res1 rfl (R_tmp rfl)) ?_; try simp only [List.getD_cons_succ, List.getD_cons_zero])
  refine ⟨?_, H.ext⟩
  simp at h1 h2 h3; simp [h1, h2, h3]
theorem beqL_lenM : ∀ a b : List T, a.length ≠ b.length → T.beqL a b = false
 | [], [], h => absurd rfl h
 | [], _ :: _, _ => rfl
 | _ :: _, [], _ => rfl
 | x :: a, y :: b, h => by simp only [T.beqL]; rw [beqL_lenM a b (by simpa using h), Bool.and_false]
set_option maxRecDepth 100000 in
set_option maxHeartbeats 1000000 in
theorem l_eqTermS (s : HT) : ∀ (t : HT) (w : World), Rd anyZ w s → Rd anyZ w t →
   Calls Tryd.prog 24 #[s.sl, t.sl] w fun e w' => e = .returned (.bool (T.beqL s.er.kids t.er.kids)) ∧ Grow w w' := by
 induction s using HT.ind with | h s ih =>
 intro t w hs ht
 have H := St.init w noneZ anyZ ((rdF_stable s).and (rdF_stable t)) ⟨hs, ht⟩
 have hlen := hs.len
 have hlen2 := ht.len
 have hl1 : s.sl = .slice s.a s.kids.length s.cap := rfl
 have hl2 : t.sl = .slice t.a t.kids.length t.cap := rfl
 rw [hl1, hl2]
 go_enter Tryd.func24, Tryd.ntmps24
 repeat' ((first | (refine T_nil ?_) | ((first | apply U0 | (apply U1; (case hd => decide +kernel)) | (apply U2 (hw := H); (case hd => decide +kernel)) | (apply U3 1; (case hp => rfl); (case hd => decide +kernel)) | (apply U3 2; (case hp => rfl); (case hd => decide +kernel)) | (apply U3 3; (case hp => rfl); (case hd => decide +kernel)) | (apply U3 4; (case hp => rfl); (case hd => decide +kernel)) | (apply U3 5; (case hp => rfl); (case hd => decide +kernel)) | (apply U3 6; (case hp => rfl); (case hd => decide +kernel)) | (apply U3 7; (case hp => rfl); (case hd => decide +kernel)) | (apply U3 8; (case hp => rfl); (case hd => decide +kernel)) | (apply U3 9; (case hp => rfl); (case hd => decide +kernel)) | (apply U3 10; (case hp => rfl); (case hd => decide +kernel)) | (apply U3 11; (case hp => rfl); (case hd => decide +kernel))); (case hg => rfl); (case hy => (first | (apply Yi.a; constructor; all_goals (first | rfl | (constructor <;> omega) | (apply CellIs.own; (case h => repeat constructor); rfl) | (apply Cell3.own; (case h => repeat constructor); all_goals rfl))) | (apply Yi.b; constructor; all_goals (first | rfl | (constructor <;> omega) | (apply CellIs.own; (case h => repeat constructor); rfl) | (apply Cell3.own; (case h => repeat constructor); all_goals rfl))) | (apply Yi.c; constructor; all_goals (first | rfl | (constructor <;> omega) | (apply CellIs.own; (case h => repeat constructor); rfl) | (apply Cell3.own; (case h => repeat constructor); all_goals rfl)))))) | ((first | apply V0 | apply Go.Dk.V1 | apply V2 (hw := H)); (case hg => rfl); try decide +kernel) | ((first | refine G0 H ?_ | (refine G1 H (fun _ _ _ _ h => h) (by decide +kernel) ?_; clear H; intro _ H)); simp only [enum, Nat.reduceAdd]) | (apply B0 (hw := H); (case hg => rfl); (case hd => first | with_reducible exact hd_false | decide +kernel); (case hx => rfl); (case hc => rfl); clear H; intro bx _ H) | (apply B1 (hw := H); (case hg => rfl); (case hd => first | with_reducible exact hd_false | decide +kernel); clear H; intro ax _ H) | go_step | (apply X0; (case hy => rfl); all_goals (intro hb; simp only [hb]; (try simp only [decide_eq_true_eq, decide_eq_false_iff_not, Bool.not_eq_true', Bool.not_eq_false', Bool.and_eq_true, Bool.or_eq_true, Bool.and_eq_false_iff, Bool.or_eq_false_iff] at hb); try (exfalso; omega)))) <;> try simp only [List.getElem_toArray, List.getElem_cons_zero, List.getElem_cons_succ, Act.put, evalT, evalC, evalF, List.setIfInBounds_toArray, List.set_cons_succ, List.set_cons_zero, List.getD_cons_succ, List.getD_cons_zero, Nat.reduceAdd, Nat.reduceMul, Nat.add_zero, Nat.zero_add, Int.toNat_natCast, Int.reduceToNat, List.eraseIdx_cons_succ, List.eraseIdx_cons_zero, cond_true, cond_false])
 ·have h1 : (!decide ((s.kids.length : Int) = t.kids.length)) = true := by assumption
  ((try simp only [Exit.inBlock, Exit.then]); refine ret_post (res1 rfl (R_tmp rfl)) ?_; try simp only [List.getD_cons_succ, List.getD_cons_zero])
  rw [beqL_lenM _ _ (by rw [HT.er_len, HT.er_len]; simp at h1; omega)]
  (first | exact ⟨rfl, H.ext⟩ | exact ⟨trivial, H.ext⟩)
 ·have h1 : (!decide ((s.kids.length : Int) = t.kids.length)) = false := by assumption
  have hll : s.kids.length = t.kids.length := by simp at h1; omega
  go_loopg [5] s.kids.length (fun g v wr => ∃ (i : Nat), v = .int .i64 i ∧ i + g = s.kids.length ∧ T.beqL s.er.kids t.er.kids = T.beqL (s.er.kids.drop i) (t.er.kids.drop i) ∧ St w noneZ anyZ [] (andF (rdF s) (rdF t)) wr)
  case atStart => exact ⟨0, rfl, by omega, by simp, H⟩
  case round =>
   clear H
   obtain ⟨i, rfl, hi, hsum, H⟩ := hrel
   by_cases hlt : i < s.kids.length
   ·have hu : s.kids[i]? = some s.kids[i] := List.getElem?_eq_getElem hlt
    have hv : t.kids[i]? = some t.kids[i] := List.getElem?_eq_getElem (by omega)
    obtain ⟨b, off, ha⟩ := hs.addr hu
    obtain ⟨b2, off2, ha2⟩ := ht.addr hv
    generalize s.kids[i] = u at hu
    generalize t.kids[i] = v at hv
    have hsub := ih u (List.mem_of_getElem? hu) v
    rw [HT.er_drop hu, HT.er_drop hv, T.beqL] at hsum
    repeat' ((first | (refine T_nil ?_) | ((first | apply U0 | (apply U1; (case hd => decide +kernel)) | (apply U2 (hw := H); (case hd => decide +kernel)) | (apply U3 1; (case hp => rfl); (case hd => decide +kernel)) | (apply U3 2; (case hp => rfl); (case hd => decide +kernel)) | (apply U3 3; (case hp => rfl); (case hd => decide +kernel)) | (apply U3 4; (case hp => rfl); (case hd => decide +kernel)) | (apply U3 5; (case hp => rfl); (case hd => decide +kernel)) | (apply U3 6; (case hp => rfl); (case hd => decide +kernel)) | (apply U3 7; (case hp => rfl); (case hd => decide +kernel)) | (apply U3 8; (case hp => rfl); (case hd => decide +kernel)) | (apply U3 9; (case hp => rfl); (case hd => decide +kernel)) | (apply U3 10; (case hp => rfl); (case hd => decide +kernel)) | (apply U3 11; (case hp => rfl); (case hd => decide +kernel))); (case hg => rfl); (case hy => (first | (apply Yi.a; constructor; all_goals (first | rfl | (constructor <;> omega) | (apply CellIs.own; (case h => repeat constructor); rfl) | (apply Cell3.own; (case h => repeat constructor); all_goals rfl) | exact ha | exact ha2 | exact .mk fun w h => (Rd.elem h.per.1 ha hu).1 | exact .mk fun w h => (Rd.elem h.per.2 ha2 hv).1)) | (apply Yi.b; constructor; all_goals (first | rfl | (constructor <;> omega) | (apply CellIs.own; (case h => repeat constructor); rfl) | (apply Cell3.own; (case h => repeat constructor); all_goals rfl) | exact ha | exact ha2 | exact .mk fun w h => (Rd.elem h.per.1 ha hu).1 | exact .mk fun w h => (Rd.elem h.per.2 ha2 hv).1)) | (apply Yi.c; constructor; all_goals (first | rfl | (constructor <;> omega) | (apply CellIs.own; (case h => repeat constructor); rfl) | (apply Cell3.own; (case h => repeat constructor); all_goals rfl) | exact ha | exact ha2 | exact .mk fun w h => (Rd.elem h.per.1 ha hu).1 | exact .mk fun w h => (Rd.elem h.per.2 ha2 hv).1))))) | ((first | apply V0 | apply Go.Dk.V1 | apply V2 (hw := H)); (case hg => rfl); try decide +kernel) | ((first | refine G0 H ?_ | (refine G1 H (fun _ _ _ _ h => h) (by decide +kernel) ?_; clear H; intro _ H)); simp only [enum, Nat.reduceAdd]) | (apply B0 (hw := H); (case hg => rfl); (case hd => first | with_reducible exact hd_false | decide +kernel); (case hx => rfl); (case hc => rfl); clear H; intro bx _ H) | (apply B1 (hw := H); (case hg => rfl); (case hd => first | with_reducible exact hd_false | decide +kernel); clear H; intro ax _ H) | ((apply C0 (hw := H); (case hg => rfl); (case hd => first | with_reducible exact hd_false | decide +kernel); (case hxs => rfl); (case hc => exact l_eqTerm_of u v _ (Rd.elem H.per.1 ha hu).2.any (Rd.elem H.per.2 ha2 hv).2.any (fun w h1 h2 => hsub w h1 h2)); clear H; intro _ H)) | go_step | (apply X0; (case hy => rfl); all_goals (intro hb; simp only [hb]; (try simp only [decide_eq_true_eq, decide_eq_false_iff_not, Bool.not_eq_true', Bool.not_eq_false', Bool.and_eq_true, Bool.or_eq_true, Bool.and_eq_false_iff, Bool.or_eq_false_iff] at hb); try (exfalso; omega)))) <;> try simp only [List.getElem_toArray, List.getElem_cons_zero, List.getElem_cons_succ, Act.put, evalT, evalC, evalF, List.setIfInBounds_toArray, List.set_cons_succ, List.set_cons_zero, List.getD_cons_succ, List.getD_cons_zero, Nat.reduceAdd, Nat.reduceMul, Nat.add_zero, Nat.zero_add, Int.toNat_natCast, Int.reduceToNat, List.eraseIdx_cons_succ, List.eraseIdx_cons_zero, cond_true, cond_false])
    ·have hf : (!T.beq u.er v.er) = true := by assumption
     ((try simp only [Exit.inBlock, Exit.then]); refine ret_post (res1 rfl (R_tmp rfl)) ?_; try simp only [List.getD_cons_succ, List.getD_cons_zero])
     rw [hsum, show T.beq u.er v.er = false by simpa using hf, Bool.false_and]
     (first | exact ⟨rfl, H.ext⟩ | exact ⟨trivial, H.ext⟩)
    ·have hf : (!T.beq u.er v.er) = false := by assumption
     rw [show T.beq u.er v.er = true by simpa using hf, Bool.true_and] at hsum
     go_roundg (gk - 1)
     case measure => omega
     case rel => exact ⟨i + 1, by simp, by omega, hsum, H⟩
   ·rw [List.drop_of_length_le (by rw [HT.er_len]; omega), List.drop_of_length_le (by rw [HT.er_len]; omega), T.beqL] at hsum
    have hlt' : ¬ ((i : Int) < s.kids.length) := by omega
    repeat' ((first | (refine T_nil ?_) | ((first | apply U0 | (apply U1; (case hd => decide +kernel)) | (apply U2 (hw := H); (case hd => decide +kernel)) | (apply U3 1; (case hp => rfl); (case hd => decide +kernel)) | (apply U3 2; (case hp => rfl); (case hd => decide +kernel)) | (apply U3 3; (case hp => rfl); (case hd => decide +kernel)) | (apply U3 4; (case hp => rfl); (case hd => decide +kernel)) | (apply U3 5; (case hp => rfl); (case hd => decide +kernel)) | (apply U3 6; (case hp => rfl); (case hd => decide +kernel)) | (apply U3 7; (case hp => rfl); (case hd => decide +kernel)) | (apply U3 8; (case hp => rfl); (case hd => decide +kernel)) | (apply U3 9; (case hp => rfl); (case hd => decide +kernel)) | (apply U3 10; (case hp => rfl); (case hd => decide +kernel)) | (apply U3 11; (case hp => rfl); (case hd => decide +kernel))); (case hg => rfl); (case hy => (first | (apply Yi.a; constructor; all_goals (first | rfl | (constructor <;> omega) | (apply CellIs.own; (case h => repeat constructor); rfl) | (apply Cell3.own; (case h => repeat constructor); all_goals rfl))) | (apply Yi.b; constructor; all_goals (first | rfl | (constructor <;> omega) | (apply CellIs.own; (case h => repeat constructor); rfl) | (apply Cell3.own; (case h => repeat constructor); all_goals rfl))) | (apply Yi.c; constructor; all_goals (first | rfl | (constructor <;> omega) | (apply CellIs.own; (case h => repeat constructor); rfl) | (apply Cell3.own; (case h => repeat constructor); all_goals rfl)))))) | ((first | apply V0 | apply Go.Dk.V1 | apply V2 (hw := H)); (case hg => rfl); try decide +kernel) | ((first | refine G0 H ?_ | (refine G1 H (fun _ _ _ _ h => h) (by decide +kernel) ?_; clear H; intro _ H)); simp only [enum, Nat.reduceAdd]) | (apply B0 (hw := H); (case hg => rfl); (case hd => first | with_reducible exact hd_false | decide +kernel); (case hx => rfl); (case hc => rfl); clear H; intro bx _ H) | (apply B1 (hw := H); (case hg => rfl); (case hd => first | with_reducible exact hd_false | decide +kernel); clear H; intro ax _ H) | go_step | (apply X0; (case hy => rfl); all_goals (intro hb; simp only [hb]; (try simp only [decide_eq_true_eq, decide_eq_false_iff_not, Bool.not_eq_true', Bool.not_eq_false', Bool.and_eq_true, Bool.or_eq_true, Bool.and_eq_false_iff, Bool.or_eq_false_iff] at hb); try (exfalso; omega)))) <;> try simp only [List.getElem_toArray, List.getElem_cons_zero, List.getElem_cons_succ, Act.put, evalT, evalC, evalF, List.setIfInBounds_toArray, List.set_cons_succ, List.set_cons_zero, List.getD_cons_succ, List.getD_cons_zero, Nat.reduceAdd, Nat.reduceMul, Nat.add_zero, Nat.zero_add, Int.toNat_natCast, Int.reduceToNat, List.eraseIdx_cons_succ, List.eraseIdx_cons_zero, cond_true, cond_false])
    ((try simp only [Exit.inBlock, Exit.then]); refine ret_post (res1 rfl (R_tmp rfl)) ?_; try simp only [List.getD_cons_succ, List.getD_cons_zero])
    rw [hsum]
    (first | exact ⟨rfl, H.ext⟩ | exact ⟨trivial, H.ext⟩)
theorem l_eqTerm (s t : HT) (w : World) (hs : Rd anyZ w s) (ht : Rd anyZ w t) :
   Calls Tryd.prog 9 #[s.val, t.val] w fun e w' => e = .returned (.bool (T.beq s.er t.er)) ∧ Grow w w' :=
 l_eqTerm_of s t w hs ht (fun w h1 h2 => l_eqTermS s t w h1 h2)
theorem l_eqTerm_same (s t : HT) (w : World) (hs : Rd anyZ w s) (ht : Rd anyZ w t) (x : T) (h1 : s.er = x) (h2 : t.er = x) :
   Calls Tryd.prog 9 #[s.val, t.val] w fun e w' => e = .returned (.bool true) ∧ Grow w w' := by
 have := l_eqTerm s t w hs ht
 rwa [h1, h2, T.beq_refl] at this
end Go.Proofs.YtnogehmgpfpjmaaDoor
end
section
namespace Go.Proofs.YtnogehmgpfpjmaaDoor
open Go Go.Dk
set_option maxRecDepth 100000 in
set_option maxHeartbeats 1000000 in
theorem l_toTerm_of (t : HT) (Z : Zone) (w : World) (hr : Rd Z w t)
   (hc : ∀ Z w, Rd Z w t → Calls Tryd.prog 18 #[t.sl] w fun e w' => ∃ u : HT, e = .returned u.sl ∧ Grow w w' ∧ Own w w' u ∧ u.er.kids = t.er.kids) :
   Calls Tryd.prog 7 #[t.val] w fun e w' => ∃ u : HT, e = .returned u.val ∧ Grow w w' ∧ Own w w' u ∧ u.er = t.er := by
 have H := St.init w noneZ Z (rdF_stable t) hr
 go_enter Tryd.func7, Tryd.ntmps7
 repeat' ((first | (refine T_nil ?_) | ((first | apply U0 | (apply U1; (case hd => decide +kernel)) | (apply U2 (hw := H); (case hd => decide +kernel)) | (apply U3 1; (case hp => rfl); (case hd => decide +kernel)) | (apply U3 2; (case hp => rfl); (case hd => decide +kernel)) | (apply U3 3; (case hp => rfl); (case hd => decide +kernel)) | (apply U3 4; (case hp => rfl); (case hd => decide +kernel)) | (apply U3 5; (case hp => rfl); (case hd => decide +kernel)) | (apply U3 6; (case hp => rfl); (case hd => decide +kernel)) | (apply U3 7; (case hp => rfl); (case hd => decide +kernel)) | (apply U3 8; (case hp => rfl); (case hd => decide +kernel)) | (apply U3 9; (case hp => rfl); (case hd => decide +kernel)) | (apply U3 10; (case hp => rfl); (case hd => decide +kernel)) | (apply U3 11; (case hp => rfl); (case hd => decide +kernel))); (case hg => rfl); (case hy => (first | (apply Yi.a; constructor; all_goals (first | rfl | (constructor <;> omega) | (apply CellIs.own; (case h => repeat constructor); rfl) | (apply Cell3.own; (case h => repeat constructor); all_goals rfl))) | (apply Yi.b; constructor; all_goals (first | rfl | (constructor <;> omega) | (apply CellIs.own; (case h => repeat constructor); rfl) | (apply Cell3.own; (case h => repeat constructor); all_goals rfl))) | (apply Yi.c; constructor; all_goals (first | rfl | (constructor <;> omega) | (apply CellIs.own; (case h => repeat constructor); rfl) | (apply Cell3.own; (case h => repeat constructor); all_goals rfl)))))) | ((first | apply V0 | apply Go.Dk.V1 | apply V2 (hw := H)); (case hg => rfl); try decide +kernel) | ((first | refine G0 H ?_ | (refine G1 H (fun _ _ _ _ h => h) (by decide +kernel) ?_; clear H; intro _ H)); simp only [enum, Nat.reduceAdd]) | (apply B0 (hw := H); (case hg => rfl); (case hd => first | with_reducible exact hd_false | decide +kernel); (case hx => rfl); (case hc => rfl); clear H; intro bx _ H) | (apply B1 (hw := H); (case hg => rfl); (case hd => first | with_reducible exact hd_false | decide +kernel); clear H; intro ax _ H) | ((apply W0 (hw := H); (case hg => rfl); (case hd => first | with_reducible exact hd_false | decide +kernel); (case hx => rfl); (case hy => rfl); (case hc => rfl); (case hn => repeat constructor); (case h1 => rfl); clear H; intro _ H; (try dsimp only at H); try simp only [putL, List.set_cons_succ, List.set_cons_zero, evalT, evalC, List.getD_cons_succ, List.getD_cons_zero, Nat.zero_add, Nat.reduceAdd] at H)) | ((apply C1; (case hg => rfl); (case hd => first | with_reducible exact hd_false | decide +kernel); (case hxs => rfl); (case hc => exact hc _ _ H.per); rintro _ _ ⟨u, rfl, hg, ho, he⟩; replace H := H.pushTree hg ho; (try simp only [List.set_cons_succ, List.set_cons_zero] at H); refine ⟨_, rfl, _, (by first | exact fun _ _ h => h | exact fun _ _ h => h.tail | exact fun _ _ h => h.unfact (by repeat' (first | exact Stable.true | exact rdF_stable _ | exact iF_stable _ _ | exact sF_stable _ _ | apply Stable.and)) (fun _ _ h => h.2) | exact nofun), H, ?_⟩)) | go_step | (apply X0; (case hy => rfl); all_goals (intro hb; simp only [hb]; (try simp only [decide_eq_true_eq, decide_eq_false_iff_not, Bool.not_eq_true', Bool.not_eq_false', Bool.and_eq_true, Bool.or_eq_true, Bool.and_eq_false_iff, Bool.or_eq_false_iff] at hb); try (exfalso; omega)))) <;> try simp only [List.getElem_toArray, List.getElem_cons_zero, List.getElem_cons_succ, Act.put, evalT, evalC, evalF, List.setIfInBounds_toArray, List.set_cons_succ, List.set_cons_zero, List.getD_cons_succ, List.getD_cons_zero, Nat.reduceAdd, Nat.reduceMul, Nat.add_zero, Nat.zero_add, Int.toNat_natCast, Int.reduceToNat, List.eraseIdx_cons_succ, List.eraseIdx_cons_zero, cond_true, cond_false])
 ((try simp only [Exit.inBlock, Exit.then]); refine ret_post (res1 rfl (R_cell rfl (load3 (ST3.out) (H.cell at2 rfl) (H.cell at2 rfl) (H.cell at2 rfl)))) ?_)
 refine ⟨.mk t.k t.n u.a u.cap u.kids, rfl, H.ext, H.outTree.node _ _, ?_⟩
 rw [HT.er_kids, HT.er_kids] at he
 rw [HT.er_eq, HT.er_eq t]
 show T.mk t.k t.n (u.kids.map HT.er) = _
 rw [he]
set_option maxRecDepth 100000 in
set_option maxHeartbeats 1000000 in
theorem l_toTermS (t : HT) : ∀ (Z : Zone) (w : World), Rd Z w t → T.sizeL t.er.kids ≤ 1048576 →
   Calls Tryd.prog 18 #[t.sl] w fun e w' => ∃ u : HT, e = .returned u.sl ∧ Grow w w' ∧ Own w w' u ∧ u.er.kids = t.er.kids := by
 induction t using HT.ind with | h t ih =>
 intro Z w hr hsz
 have H := St.init w noneZ Z (rdF_stable t) hr
 have hlen := hr.len
 have hsl := T.sizeL_len t.er.kids
 rw [HT.er_len] at hsl
 have hl1 : t.sl = .slice t.a t.kids.length t.cap := rfl
 rw [hl1]
 go_enter Tryd.func18, Tryd.ntmps18
 repeat' ((first | (refine T_nil ?_) | ((first | apply U0 | (apply U1; (case hd => decide +kernel)) | (apply U2 (hw := H); (case hd => decide +kernel)) | (apply U3 1; (case hp => rfl); (case hd => decide +kernel)) | (apply U3 2; (case hp => rfl); (case hd => decide +kernel)) | (apply U3 3; (case hp => rfl); (case hd => decide +kernel)) | (apply U3 4; (case hp => rfl); (case hd => decide +kernel)) | (apply U3 5; (case hp => rfl); (case hd => decide +kernel)) | (apply U3 6; (case hp => rfl); (case hd => decide +kernel)) | (apply U3 7; (case hp => rfl); (case hd => decide +kernel)) | (apply U3 8; (case hp => rfl); (case hd => decide +kernel)) | (apply U3 9; (case hp => rfl); (case hd => decide +kernel)) | (apply U3 10; (case hp => rfl); (case hd => decide +kernel)) | (apply U3 11; (case hp => rfl); (case hd => decide +kernel))); (case hg => rfl); (case hy => (first | (apply Yi.a; constructor; all_goals (first | rfl | (constructor <;> omega) | (apply CellIs.own; (case h => repeat constructor); rfl) | (apply Cell3.own; (case h => repeat constructor); all_goals rfl))) | (apply Yi.b; constructor; all_goals (first | rfl | (constructor <;> omega) | (apply CellIs.own; (case h => repeat constructor); rfl) | (apply Cell3.own; (case h => repeat constructor); all_goals rfl))) | (apply Yi.c; constructor; all_goals (first | rfl | (constructor <;> omega) | (apply CellIs.own; (case h => repeat constructor); rfl) | (apply Cell3.own; (case h => repeat constructor); all_goals rfl)))))) | ((first | apply V0 | apply Go.Dk.V1 | apply V2 (hw := H)); (case hg => rfl); try decide +kernel) | ((first | refine G0 H ?_ | (refine G1 H (fun _ _ _ _ h => h) (by decide +kernel) ?_; clear H; intro _ H)); simp only [enum, Nat.reduceAdd]) | (apply B0 (hw := H); (case hg => rfl); (case hd => first | with_reducible exact hd_false | decide +kernel); (case hx => rfl); (case hc => rfl); clear H; intro bx _ H) | (apply B1 (hw := H); (case hg => rfl); (case hd => first | with_reducible exact hd_false | decide +kernel); clear H; intro ax _ H) | ((apply B3 (hw := H); (case hg => rfl); (case hd => first | with_reducible exact hd_false | decide +kernel); (case hx => rfl); (case hy => rfl); (case hn => omega); (case hn2 => omega); clear H; intro mx _ H)) | go_step | (apply X0; (case hy => rfl); all_goals (intro hb; simp only [hb]; (try simp only [decide_eq_true_eq, decide_eq_false_iff_not, Bool.not_eq_true', Bool.not_eq_false', Bool.and_eq_true, Bool.or_eq_true, Bool.and_eq_false_iff, Bool.or_eq_false_iff] at hb); try (exfalso; omega)))) <;> try simp only [List.getElem_toArray, List.getElem_cons_zero, List.getElem_cons_succ, Act.put, evalT, evalC, evalF, List.setIfInBounds_toArray, List.set_cons_succ, List.set_cons_zero, List.getD_cons_succ, List.getD_cons_zero, Nat.reduceAdd, Nat.reduceMul, Nat.add_zero, Nat.zero_add, Int.toNat_natCast, Int.reduceToNat, List.eraseIdx_cons_succ, List.eraseIdx_cons_zero, cond_true, cond_false])
 have H := H.pushNone.swap
 go_loopg [4] t.kids.length (fun g v wr => ∃ (i : Nat) (us : List HT), v = .int .i64 i ∧ i + g = t.kids.length ∧ us.length = i ∧ us.map HT.er ++ t.er.kids.drop i = t.er.kids ∧
  St w noneZ Z [blk mx (flatT us ++ (List.replicate g [.int .i64 0, .int .i64 0, .slice none 0 0]).flatten) 29, kidsR us] (rdF t) wr)
 case atStart => exact ⟨0, [], rfl, by omega, rfl, by simp, H⟩
 case round =>
  clear H
  obtain ⟨i, us, rfl, hi, hus, hsum, H⟩ := hrel
  by_cases hlt : i < t.kids.length
  ·have hu : t.kids[i]? = some t.kids[i] := List.getElem?_eq_getElem hlt
   obtain ⟨b, off, ha⟩ := hr.addr hu
   generalize t.kids[i] = u at hu
   have hmem : u ∈ t.kids := List.mem_of_getElem? hu
   have hsub := ih u hmem
   have hsu : T.sizeL u.er.kids ≤ 1048576 := by have := HT.sizeL_kid hmem; omega
   obtain ⟨m, rfl⟩ : ∃ m, gk = m + 1 := ⟨gk - 1, by omega⟩
   subst hus
   repeat' ((first | (refine T_nil ?_) | ((first | apply U0 | (apply U1; (case hd => decide +kernel)) | (apply U2 (hw := H); (case hd => decide +kernel)) | (apply U3 1; (case hp => rfl); (case hd => decide +kernel)) | (apply U3 2; (case hp => rfl); (case hd => decide +kernel)) | (apply U3 3; (case hp => rfl); (case hd => decide +kernel)) | (apply U3 4; (case hp => rfl); (case hd => decide +kernel)) | (apply U3 5; (case hp => rfl); (case hd => decide +kernel)) | (apply U3 6; (case hp => rfl); (case hd => decide +kernel)) | (apply U3 7; (case hp => rfl); (case hd => decide +kernel)) | (apply U3 8; (case hp => rfl); (case hd => decide +kernel)) | (apply U3 9; (case hp => rfl); (case hd => decide +kernel)) | (apply U3 10; (case hp => rfl); (case hd => decide +kernel)) | (apply U3 11; (case hp => rfl); (case hd => decide +kernel))); (case hg => rfl); (case hy => (first | (apply Yi.a; constructor; all_goals (first | rfl | (constructor <;> omega) | (apply CellIs.own; (case h => repeat constructor); rfl) | (apply Cell3.own; (case h => repeat constructor); all_goals rfl) | exact ha | exact .mk fun w h => (Rd.elem h.per ha hu).1)) | (apply Yi.b; constructor; all_goals (first | rfl | (constructor <;> omega) | (apply CellIs.own; (case h => repeat constructor); rfl) | (apply Cell3.own; (case h => repeat constructor); all_goals rfl) | exact ha | exact .mk fun w h => (Rd.elem h.per ha hu).1)) | (apply Yi.c; constructor; all_goals (first | rfl | (constructor <;> omega) | (apply CellIs.own; (case h => repeat constructor); rfl) | (apply Cell3.own; (case h => repeat constructor); all_goals rfl) | exact ha | exact .mk fun w h => (Rd.elem h.per ha hu).1))))) | ((first | apply V0 | apply Go.Dk.V1 | apply V2 (hw := H)); (case hg => rfl); try decide +kernel) | ((first | refine G0 H ?_ | (refine G1 H (fun _ _ _ _ h => h) (by decide +kernel) ?_; clear H; intro _ H)); simp only [enum, Nat.reduceAdd]) | (apply B0 (hw := H); (case hg => rfl); (case hd => first | with_reducible exact hd_false | decide +kernel); (case hx => rfl); (case hc => rfl); clear H; intro bx _ H) | (apply B1 (hw := H); (case hg => rfl); (case hd => first | with_reducible exact hd_false | decide +kernel); clear H; intro ax _ H) | ((apply C1; (case hg => rfl); (case hd => first | with_reducible exact hd_false | decide +kernel); (case hxs => rfl); (case hc => exact l_toTerm_of u _ _ (Rd.elem H.per ha hu).2 (fun Z w h => hsub Z w h hsu)); rintro _ _ ⟨x, rfl, hg, ho, he⟩; replace H := H.pushTree hg ho; (try simp only [List.set_cons_succ, List.set_cons_zero] at H); refine ⟨_, rfl, _, (by first | exact fun _ _ h => h | exact fun _ _ h => h.tail | exact fun _ _ h => h.unfact (by repeat' (first | exact Stable.true | exact rdF_stable _ | exact iF_stable _ _ | exact sF_stable _ _ | apply Stable.and)) (fun _ _ h => h.2) | exact nofun), H, ?_⟩)) | ((apply W0 (hw := H); (case hg => rfl); (case hd => first | with_reducible exact hd_false | decide +kernel); (case hx => rfl); (case hy => rfl); (case hc => rfl); (case hn => repeat constructor); (case h1 => (rw [Bool.and_eq_true]; exact ⟨rfl, (by rw [Nat.ble_eq]; simp [flatT_length]; omega)⟩)); clear H; intro _ H; (try dsimp only at H); try simp only [evalT, evalC, List.getD_cons_succ, List.getD_cons_zero] at H)) | go_step | (apply X0; (case hy => rfl); all_goals (intro hb; simp only [hb]; (try simp only [decide_eq_true_eq, decide_eq_false_iff_not, Bool.not_eq_true', Bool.not_eq_false', Bool.and_eq_true, Bool.or_eq_true, Bool.and_eq_false_iff, Bool.or_eq_false_iff] at hb); try (exfalso; omega)))) <;> try simp only [List.getElem_toArray, List.getElem_cons_zero, List.getElem_cons_succ, Act.put, evalT, evalC, evalF, List.setIfInBounds_toArray, List.set_cons_succ, List.set_cons_zero, List.getD_cons_succ, List.getD_cons_zero, Nat.reduceAdd, Nat.reduceMul, Nat.add_zero, Nat.zero_add, Int.toNat_natCast, Int.reduceToNat, List.eraseIdx_cons_succ, List.eraseIdx_cons_zero, cond_true, cond_false])
   rw [HT.er_drop hu] at hsum
   have H := ((H.perm (List.Perm.cons _ (List.Perm.swap _ _ _))).snoc).swap
   rw [put_next us x [.int .i64 0, .int .i64 0, .slice none 0 0] m rfl] at H
   go_roundg m
   case measure => omega
   case rel => exact ⟨us.length + 1, us ++ [x], by simp, by omega, by simp, by rw [List.map_append, List.append_assoc, List.map_cons, List.map_nil, he]; exact hsum, H⟩
  ·have h0 : i = t.kids.length := by omega
   rw [List.drop_of_length_le (by rw [HT.er_len]; omega), List.append_nil] at hsum
   have hlt' : ¬ ((i : Int) < t.kids.length) := by omega
   have H := H.plant 0 0 t.kids.length (by omega) (by have := hlen.1; omega) (fun j u hj => by rw [List.getElem?_append_left (by rw [List.getElem?_eq_some_iff] at hj; exact hj.1)]; exact hj)
   repeat' ((first | (refine T_nil ?_) | ((first | apply U0 | (apply U1; (case hd => decide +kernel)) | (apply U2 (hw := H); (case hd => decide +kernel)) | (apply U3 1; (case hp => rfl); (case hd => decide +kernel)) | (apply U3 2; (case hp => rfl); (case hd => decide +kernel)) | (apply U3 3; (case hp => rfl); (case hd => decide +kernel)) | (apply U3 4; (case hp => rfl); (case hd => decide +kernel)) | (apply U3 5; (case hp => rfl); (case hd => decide +kernel)) | (apply U3 6; (case hp => rfl); (case hd => decide +kernel)) | (apply U3 7; (case hp => rfl); (case hd => decide +kernel)) | (apply U3 8; (case hp => rfl); (case hd => decide +kernel)) | (apply U3 9; (case hp => rfl); (case hd => decide +kernel)) | (apply U3 10; (case hp => rfl); (case hd => decide +kernel)) | (apply U3 11; (case hp => rfl); (case hd => decide +kernel))); (case hg => rfl); (case hy => (first | (apply Yi.a; constructor; all_goals (first | rfl | (constructor <;> omega) | (apply CellIs.own; (case h => repeat constructor); rfl) | (apply Cell3.own; (case h => repeat constructor); all_goals rfl))) | (apply Yi.b; constructor; all_goals (first | rfl | (constructor <;> omega) | (apply CellIs.own; (case h => repeat constructor); rfl) | (apply Cell3.own; (case h => repeat constructor); all_goals rfl))) | (apply Yi.c; constructor; all_goals (first | rfl | (constructor <;> omega) | (apply CellIs.own; (case h => repeat constructor); rfl) | (apply Cell3.own; (case h => repeat constructor); all_goals rfl)))))) | ((first | apply V0 | apply Go.Dk.V1 | apply V2 (hw := H)); (case hg => rfl); try decide +kernel) | ((first | refine G0 H ?_ | (refine G1 H (fun _ _ _ _ h => h) (by decide +kernel) ?_; clear H; intro _ H)); simp only [enum, Nat.reduceAdd]) | (apply B0 (hw := H); (case hg => rfl); (case hd => first | with_reducible exact hd_false | decide +kernel); (case hx => rfl); (case hc => rfl); clear H; intro bx _ H) | (apply B1 (hw := H); (case hg => rfl); (case hd => first | with_reducible exact hd_false | decide +kernel); clear H; intro ax _ H) | go_step | (apply X0; (case hy => rfl); all_goals (intro hb; simp only [hb]; (try simp only [decide_eq_true_eq, decide_eq_false_iff_not, Bool.not_eq_true', Bool.not_eq_false', Bool.and_eq_true, Bool.or_eq_true, Bool.and_eq_false_iff, Bool.or_eq_false_iff] at hb); try (exfalso; omega)))) <;> try simp only [List.getElem_toArray, List.getElem_cons_zero, List.getElem_cons_succ, Act.put, evalT, evalC, evalF, List.setIfInBounds_toArray, List.set_cons_succ, List.set_cons_zero, List.getD_cons_succ, List.getD_cons_zero, Nat.reduceAdd, Nat.reduceMul, Nat.add_zero, Nat.zero_add, Int.toNat_natCast, Int.reduceToNat, List.eraseIdx_cons_succ, List.eraseIdx_cons_zero, cond_true, cond_false])
   ((try simp only [Exit.inBlock, Exit.then]); refine ret_post (res1 rfl (R_tmp rfl)) ?_; try simp only [List.getD_cons_succ, List.getD_cons_zero])
   refine ⟨.mk 0 0 (some ⟨mx, 0, none⟩) t.kids.length us, ?_, H.ext, H.outTree, ?_⟩
   ·have : us.length = t.kids.length := by omega
    simp only [HT.sl, HT.a, HT.kids, HT.cap, this]
   ·rw [HT.er_kids, ← hsum]; rfl
theorem l_toTerm (t : HT) (Z : Zone) (w : World) (hr : Rd Z w t) (hs : T.sizeL t.er.kids ≤ 1048576) :
   Calls Tryd.prog 7 #[t.val] w fun e w' => ∃ u : HT, e = .returned u.val ∧ Grow w w' ∧ Own w w' u ∧ u.er = t.er :=
 l_toTerm_of t Z w hr (fun Z w h => l_toTermS t Z w h hs)
end Go.Proofs.YtnogehmgpfpjmaaDoor
end
section
namespace Go.Proofs.YtnogehmgpfpjmaaDoor
open Go.ChangeShapes Go.WideShapes Go.ChangeAt Go.RowKit
open Go.ChangeMaps (open_string shut_string)
open Go.Dk
theorem own : ownKnob Tryd.prog.godebug = none := by kernel_rfl
theorem laidOut : laidOutB Tryd.prog = true := by kernel_rfl
section
variable {H : Type} {enc : TypeId × Value → H} {P : Program} {W : World} {sp : Nat → Bool} {hd : Bool}
theorem okWide_agg {r : Reach} {b0 : Nat} {t : TypeId} {fs : Array Field} {v : Value} (ht : P.underlying t = some (.struct fs)) (h : Value.okWide P W r b0 t v) : ∃ cs, v = .agg cs := by
 simp only [Value.okWide, ht] at h
 obtain ⟨cs, h, _⟩ := h
 exact ⟨cs, h⟩
theorem open_kids {b off len : Nat} (h : ∀ i, i < len → ∃ t : HT, (W.cell? ⟨b, off + i * 3, none⟩ = some (.int .i64 t.k) ∧ W.cell? ⟨b, off + i * 3 + 1, none⟩ = some (.int .i64 t.n) ∧ W.cell? ⟨b, off + i * 3 + 2, none⟩ = some t.sl) ∧ Rd (fun _ => True) W t) :
   ∀ m, m ≤ len → ∃ ts : List HT, ts.length = m ∧ RdL (fun _ => True) W b (off + (len - m) * 3) ts
 | 0, _ => ⟨[], rfl, by simp [RdL]⟩
 | m + 1, hm => by
  obtain ⟨ts, hl, hr⟩ := open_kids h m (by omega)
  obtain ⟨t, hc, ht⟩ := h (len - (m + 1)) (by omega)
  refine ⟨t :: ts, by simp [hl], ?_⟩
  simp only [RdL]
  refine ⟨hc, ht, ?_⟩
  rw [show off + (len - (m + 1)) * 3 + 3 = off + (len - m) * 3 by omega]
  exact hr
theorem open_term {tT sT iT : TypeId} {f0 f1 f2 : Field} (hT : P.underlying tT = some (.struct #[f0, f1, f2])) (hS : P.underlying sT = some (.slice tT)) (hI : P.underlying iT = some (.int .i64))
   (hf : f0.type = iT ∧ f0.offset = 0 ∧ f1.type = iT ∧ f1.offset = 1 ∧ f2.type = sT ∧ f2.offset = 2 ∧ P.cellsOf tT = 3 ∧ P.cellsOf iT = 1 ∧ P.cellsOf sT = 1) :
   ∀ (fuel : Nat) (cs : List Value) (x : DataW H × List MemPlace), DataW.trod enc P W 0 sp hd fuel tT cs = some x → ∃ t : HT, cs = [.int .i64 t.k, .int .i64 t.n, t.sl] ∧ Rd (fun _ => True) W t := by
 obtain ⟨h0, o0, h1, o1, h2, o2, cT, cI, cS⟩ := hf
 intro fuel
 induction fuel using Nat.strongRecOn with | _ fuel ih =>
 intro cs x hx
 obtain ⟨xs, n, rfl, _, hlen, _, hfs⟩ := DataW.trod_struct hT hx
 rw [cT] at hlen
 obtain ⟨c0, c1, c2, rfl⟩ : ∃ c0 c1 c2, cs = [c0, c1, c2] := by
  match cs, hlen with
  | [c0, c1, c2], _ => exact ⟨c0, c1, c2, rfl⟩
 have hsz : xs.length = 3 := by rename_i h; simpa using h
 have g0 := hfs 0 f0 rfl
 have g1 := hfs 1 f1 rfl
 have g2 := hfs 2 f2 rfl
 rw [h0, o0, cI, List.getElem?_eq_getElem (by omega)] at g0
 rw [h1, o1, cI, List.getElem?_eq_getElem (by omega)] at g1
 rw [h2, o2, cS, List.getElem?_eq_getElem (by omega)] at g2
 obtain ⟨k, hk, _, _⟩ := DataW.trod_int hI g0
 obtain ⟨m, hm, _, _⟩ := DataW.trod_int hI g1
 simp at hk hm
 subst hk hm
 rcases DataW.trod_slice hS g2 with ⟨hc, _⟩ | ⟨a, len, cap, elems, rest, n', rfl, hc, _, _, hle, hcap, hel, hget, _, _⟩
 ·simp at hc
  subst hc
  exact ⟨.mk k m none 0 [], rfl, Rd_none⟩
 ·simp at hc
  subst hc
  have each : ∀ i, i < len → ∃ t : HT, (W.cell? (a.add (i * 3)) = some (.int .i64 t.k) ∧ W.cell? ((a.add (i * 3)).add 1) = some (.int .i64 t.n) ∧ W.cell? ((a.add (i * 3)).add 2) = some t.sl) ∧ Rd (fun _ => True) W t := by
   intro i hi
   have := hget i hi
   rw [cT, List.getElem?_eq_getElem (by omega)] at this
   obtain ⟨cs', hc1, hc2⟩ := Option.bind_eq_some_iff.1 this
   obtain ⟨t, rfl, ht⟩ := ih n' (by omega) _ _ hc2
   obtain ⟨_, _, hcell⟩ := World.cells?_some hc1
   exact ⟨t, ⟨by simpa [Addr.add] using hcell 0 (by omega), by simpa using hcell 1 (by omega), by simpa using hcell 2 (by omega)⟩, ht⟩
  have hmax : cap ≤ 9223372036854775807 := by simp only [maxLen] at hcap; omega
  rcases Nat.eq_zero_or_pos len with rfl | hpos
  ·exact ⟨.mk k m (some a) cap [], rfl, Rd_none⟩
  ·obtain ⟨t0, ⟨hz, _, _⟩, _⟩ := each 0 hpos
   obtain ⟨b, off, spot⟩ := a
   have hspot : spot = none := by simpa [Addr.add] using World.cell?_spot hz
   subst hspot
   obtain ⟨ts, hl, hr⟩ := open_kids (W := W) (b := b) (off := off) (len := len) (fun i hi => by
    obtain ⟨t, ⟨e0, e1, e2⟩, ht⟩ := each i hi
    rw [addr_add] at e0 e1 e2
    rw [addr_add] at e1 e2
    exact ⟨t, ⟨e0, e1, e2⟩, ht⟩) len (Nat.le_refl _)
   rw [Nat.sub_self, Nat.zero_mul, Nat.add_zero] at hr
   refine ⟨.mk k m (some ⟨b, off, none⟩) cap ts, ?_, Rd_mk (by omega) (by omega) trivial hr⟩
   simp only [HT.k, HT.n, HT.sl, HT.a, HT.kids, HT.cap, hl]
end
end Go.Proofs.YtnogehmgpfpjmaaDoor
end
section
namespace Go.Proofs.YtnogehmgpfpjmaaDoor
open Go.ChangeShapes Go.WideShapes Go.ChangeAt Go.RowKit
open Go.ChangeMaps (open_string shut_string)
open Go.Dk
theorem szL_le (ts : List T) (left : Int) : szL ts left ≤ left ∨ left < -1 := by unfold szL; split <;> omega
theorem szL_out {ts : List T} {left : Int} (h : 0 ≤ szL ts left) : (T.sizeL ts : Int) ≤ left ∧ szL ts left = left - T.sizeL ts := by
 unfold szL at h ⊢
 split at h
 ·rename_i h1; rw [if_pos h1]; exact ⟨h1, rfl⟩
 ·omega
section
variable {H : Type} {enc : TypeId × Value → H} {P : Program} {W : World} {sp : Nat → Bool} {hd : Bool}
end
end Go.Proofs.YtnogehmgpfpjmaaDoor
end
section
namespace Go.Proofs.YtnogehmgpfpjmaaDoor
open Go.ChangeShapes Go.WideShapes Go.ChangeAt Go.RowKit
open Go.ChangeMaps (open_string shut_string)
open Go.Dk
theorem change_and_shaped {H : Type} {enc : TypeId × Value → H} {a : Assume} {C : Checked} {os : Os} {f : FuncId} {fn : Func} {s : ChangeSpec} {conds : List PathCond} {apart fresh handsOn again : Bool} {X : World → Array Value → Prop}
   (hX : ∀ (w w' : World) (args : Array Value), w.heap = w'.heap → X w args → X w' args)
   (own : ownKnob C.prog.godebug = none) (started : os.Started) (noInit : C.prog.inits.idxOf? f = none) (hfn : C.prog.funcs[f]? = some fn)
   (witness : ∃ (w : World) (tape : Tape) (i : Input), w.os = os ∧ (w.forCall tape i).Shaped C.prog ∧ i.vars = [] ∧ Input.okWide C.prog (w.forCall tape i) .any w.heap.size f i ∧
    ((s.pre enc C.prog fn conds apart (w.forCall tape i).memory i.args ∧ X (w.forCall tape i).memory i.args) ∧ sizedMet enc C.prog fn (OpenSpec.ofChange s) apart (w.forCall tape i).memory i.args) ∧ a.holds C.prog (lone (Frame.enter C.prog f i.args .normal) [] (w.forCall tape i)))
   (contract : ∀ (W : World) (base : Nat) (args : Array Value) (ds gs : List (DataW H)) (before : List MemPlace),
    (∀ (j : Nat) t v, fn.params[j]? = some t → args[j]? = some v → Value.okWide C.prog W .any base t v) →
    DataW.Whole enc C.prog fn.params.toList s.vars apart W args.toList ds gs before → X W args → W.ShapedOpen C.prog →
    Calls C.prog f args W fun e W' => ∃ v, e = .returned v ∧ s.post enc C.prog fn apart fresh handsOn again W args v W') :
   ReturnsInHanded a C os f .any (fun w args => (s.pre enc C.prog fn conds apart w args ∧ X w args) ∧ sizedMet enc C.prog fn (OpenSpec.ofChange s) apart w args) (s.post enc C.prog fn apart fresh handsOn again) := by
 refine returnsInHanded_of_calls own started noInit witness ?_
 intro w tape i _ hsh _ hok hpre hholds
 obtain ⟨_, _, _, fn', hfn', _, _, _, _, hval⟩ := hok
 have e : fn' = fn := Option.some.inj (hfn'.symm.trans hfn)
 subst e
 obtain ⟨⟨⟨ds, gs, before, hw, hc⟩, hx⟩, hz⟩ := hpre
 have hw' := DataW.Whole.of_heap (w' := w.forCall tape i) (by rfl) hw
 refine (contract (w.forCall tape i) w.heap.size i.args ds gs before hval hw' (hX _ _ _ (by rfl) hx) hsh).mono fun e W' ⟨v, he, hp⟩ => ?_
 subst he
 exact ChangeSpec.post_blind hp
theorem heap_of_reads {P : Program} {W : World} {name : String} {k : IntKind} {zs : List Int} {g : Nat} {t e : TypeId} {n : Nat} (h : Lib.VarReads P W name (Lib.tabData k zs))
   (hg : P.globalNamed name = some g) (hty : (P.globals[g]?).map (·.type) = some t) (ht : P.underlying t = some (.array n e)) (he : P.underlying e = some (.int k)) (hce : P.cellsOf e = 1) (hct : P.cellsOf t = n) :
   ∃ t p, W.heap[g]? = some (.cells (zs.map fun z => Value.int k z).toArray t p) := by
 obtain ⟨g', t', cs, fuel, p, hg', ht', hv, hd⟩ := h
 obtain rfl := Option.some.inj (hg.symm.trans hg')
 obtain rfl := Option.some.inj (hty.symm.trans ht')
 have hcs := Lib.cells_of_tab ht he hce hct hd
 unfold World.var? at hv
 rw [hg, Option.bind_some] at hv
 split at hv
 ·rename_i cs' t2 p2 hh
  cases hv
  exact ⟨t2, p2, by rw [hh, ← hcs]⟩
 ·cases hv
theorem size_of_shapedOpen {P : Program} {w : World} {g : Nat} {r : Array Value × TypeId} (h : w.ShapedOpen P) (hg : g < P.globals.size) (h0 : ((begin P (fun _ _ => 0) default).world.heap[g]?).bind Obj.row? = some r) : g < w.heap.size := by
 obtain ⟨cs, hh, _⟩ := h.1 g r.1 r.2 hg h0
 exact (Array.getElem?_eq_some_iff.1 hh).1
theorem gl_of {W : World} {l : List (String × DataW Unit)} (hL : laidMet Tryd.prog l W) (hs : W.ShapedOpen Tryd.prog)
   (h1 : ("internal/strconv.uint64pow10", Rows.laid_internal_strconv_uint64pow10) ∈ l) : Go.Ab.GL noneZ W := by
 refine ⟨W, ⟨?_, ?_⟩, fun g hg => ⟨fun h => h.elim, ?_, rfl⟩⟩
 ·exact cell_of_shapedOpen_int (t := 3) (zero := #[.int .i64 0]) hs (of_decide_eq_true (by kernel_rfl)) (by kernel_rfl) rfl (by kernel_rfl) (by kernel_rfl) Tryd.underlying3
 ·exact heap_of_reads (k := .u64) (zs := ((List.range 20).map fun i => ((10 ^ i : Nat) : Int))) (Lib.laidMet.reads hL h1) (by kernel_rfl) (by kernel_rfl) Tryd.underlying116 Tryd.underlying103 (by kernel_rfl) (by kernel_rfl)
 ·have hb : ∀ g, g < Go.Ab.GLK → g < Tryd.prog.globals.size ∧ (((begin Tryd.prog (fun _ _ => 0) default).world.heap[g]?).bind Obj.row?).isSome = true := by
    have : ((List.range Go.Ab.GLK).all fun g => decide (g < Tryd.prog.globals.size) && (((begin Tryd.prog (fun _ _ => 0) default).world.heap[g]?).bind Obj.row?).isSome) = true := by kernel_rfl
    intro g hg
    have := List.all_eq_true.1 this g (List.mem_range.2 hg)
    simpa using this
  obtain ⟨h1, h2⟩ := hb g hg
  obtain ⟨r, hr⟩ := Option.isSome_iff_exists.1 h2
  exact size_of_shapedOpen hs h1 hr
end Go.Proofs.YtnogehmgpfpjmaaDoor
end
