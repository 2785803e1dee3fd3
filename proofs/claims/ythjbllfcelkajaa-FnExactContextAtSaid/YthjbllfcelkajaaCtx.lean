/- Contexts of places: the program by a walk. -/
import Derived.Test.YthjbllfcelkajaaPathW
import Derived.Test.YthjbllfcelkajaaEvA
set_option linter.unusedVariables false
set_option linter.unusedSimpArgs false
namespace Go.Dk
open Go
section
variable {P : Program} {ops : Array Oper} {Q : Exit → Act → World → Prop} {dr : Bool} {fu k : Nat} {rest : List (Nat × Oper)} {a : Act} {w w0 : World} {M Z0 : Zone} {L : List Res} {φ : Fact}
  {d : Option Tmp} {ty : TypeId} {pos : String} {aft : Array Edge} {gd : Option (Nat × Bool)} {x y : Operand} {t t' : TypeId}
/-- append of a row of the call's own onto another. -/
theorem A3 {e sz by_ i p n m c2 : Nat} {v : Value} {a2 : Option Addr} {xs news : List Value} [hp : AP P t e sz by_] (hw : St w0 M Z0 L φ w)
    (hg : Region.wanted ⟨d, .call ⟨.builtin .append, #[x, y], #[t, t]⟩, ty, pos, aft, gd⟩ (yielded ops a.tmps) = true)
    (hd : (!dr || (soleB ops ((k, ⟨d, .call ⟨.builtin .append, #[x, y], #[t, t]⟩, ty, pos, aft, gd⟩) :: rest) k ⟨d, .call ⟨.builtin .append, #[x, y], #[t, t]⟩, ty, pos, aft, gd⟩ && covB ops ((k, ⟨d, .call ⟨.builtin .append, #[x, y], #[t, t]⟩, ty, pos, aft, gd⟩) :: rest) ⟨d, .call ⟨.builtin .append, #[x, y], #[t, t]⟩, ty, pos, aft, gd⟩)) = true)
    (hx : a.eval x = v) (hy : a.eval y = .slice a2 m c2) (hi : L[i]? = some (rowR e sz v n xs)) (hq : L[p]? = some (rowR e sz (.slice a2 m c2) m news))
    (h1 : news.all (·.oneCell') = true) (hbytes : (n + m) * by_ ≤ 140737488355328) (h63 : n + m ≤ 9223372036854775807)
    (h : ∀ a' c' w', St w0 M Z0 (L.set i (rowR e sz (.slice a' (n + m) c') (n + m) (xs ++ news))) φ w' → wpT P ops Q dr fu (St w0 M Z0 (L.set i (rowR e sz (.slice a' (n + m) c') (n + m) (xs ++ news))) φ) rest (a.put d (.slice a' (n + m) c')) w') :
    wpT P ops Q dr (fu + 1) (St w0 M Z0 L φ) ((k, ⟨d, .call ⟨.builtin .append, #[x, y], #[t, t]⟩, ty, pos, aft, gd⟩) :: rest) a w := by
  have ho2 : w.ownsRow 0 e sz (.slice a2 m c2) m news := hw.own _ (List.mem_of_getElem? hq)
  obtain ⟨hl, ⟨hv, h0⟩ | ⟨g, cap, cur, hv, _, hc, _, _, _, htk⟩⟩ := ho2
  · subst h0
    injection hv with h2 _ h3
    subst h2 h3
    have hne : news = [] := List.eq_nil_of_length_eq_zero (by simpa using hl)
    subst hne
    have ho1 : w.ownsRow 0 e sz v n xs := hw.own _ (List.mem_of_getElem? hi)
    obtain ⟨a1, c1, rfl, hle⟩ : ∃ a1 c1, v = .slice a1 n c1 ∧ n ≤ c1 := by
      rcases ho1.2 with ⟨rfl, h0⟩ | ⟨g, cap, cur, rfl, _, _, hle, _⟩
      · exact ⟨_, _, by rw [h0], by omega⟩
      · exact ⟨_, _, rfl, hle⟩
    obtain ⟨hu, i', z, hi', _, hsz, _, _, _⟩ := hp.out
    have hr := Go.Ab.run_append_none (P := P) (w := w) (t := t) (ty := ty) hu hi' (a := a1) (n := n) (c := c1) (Y := .slice none 0 0) ⟨none, 0, rfl⟩ hle
    have hL : L.set i (rowR e sz (.slice a1 (n + 0) c1) (n + 0) (xs ++ [])) = L := by
      rw [List.append_nil, Nat.add_zero]
      apply List.ext_getElem?
      intro j
      by_cases hj : i = j
      · subst hj; rw [set_self hi]; exact hi.symm
      · rw [List.getElem?_set_ne hj]
    have hh := h a1 c1 w (by rw [hL]; exact hw)
    rw [hL] at hh
    exact T_goC (v := .slice a1 n c1) (w' := w) hd hg (Go.Ab.exec_append hx hy hr) hw hh
  · injection hv with h2 _ h3
    subst h2 h3
    refine A0 hw hg hd hx hy hi hl (fun j u hj => ?_) h1 hbytes h63 h
    rw [addr_add, Nat.zero_add]
    rw [← htk, List.getElem?_take] at hj
    split at hj
    · simp [World.cell?, hc]
      simpa using hj
    · cases hj
end
theorem flatT_one : ∀ ts : List HT, (flatT ts).all (·.oneCell') = true
  | [] => rfl
  | t :: ts => by rw [flatT_cons]; simp only [List.all_cons, flatT_one ts]; rfl
def rkR (E : TypeId) (v : Value) (us : List HT) : Res := ⟨fun b => v.ownBlock = some b ∨ b ∈ HT.blocksL us, fun w => (rowR E 3 v us.length (flatT us)).own w ∧ (kidsR us).own w ∧ ∀ b, v.ownBlock = some b → b ∉ HT.blocksL us⟩
theorem rkR_local (E : TypeId) (v : Value) (us : List HT) : (rkR E v us).Local := fun w w' h k =>
  ⟨rowR_local E 3 v us.length (flatT us) w w' (fun b hb => h b (.inl hb)) k.1, kidsR_local us w w' (fun b hb => h b (.inr hb)) k.2.1, k.2.2⟩
structure OwnRk (w w' : World) (E : TypeId) (v : Value) (us : List HT) : Prop where
  own : (rkR E v us).own w'
  new : ∀ b, (v.ownBlock = some b ∨ b ∈ HT.blocksL us) → w.heap.size ≤ b
section
variable {w0 w w' : World} {M Z0 : Zone} {L : List Res} {φ : Fact} {E : TypeId} {v : Value} {us : List HT}
theorem St.pushRk (h : St w0 M Z0 L φ w) (hg : Grow w w') (ho : OwnRk w w' E v us) : St w0 M Z0 (kidsR us :: rowR E 3 v us.length (flatT us) :: L) φ w' := by
  have hlt : ∀ b, (rkR E v us).foot b → b < w'.heap.size := fun b hb => by
    rcases hb with hb | hb
    · exact (World.ownsRow.lt (show w'.ownsRow 0 E 3 v us.length (flatT us) from ho.own.1) b hb).2
    · obtain ⟨t, ht, hb⟩ := HT.mem_blocksL.1 hb
      exact (Rd.zone t (ho.own.2.1.1 t ht) b hb).2
  have h1 := h.push hg (rkR_local E v us) ho.own (fun b hb => ⟨ho.new b hb, hlt b hb⟩)
  exact h1.cut (kidsR_local us) (rowR_local E 3 v us.length (flatT us)) (fun b hb => .inr hb) (fun b hb => .inl hb) ho.own.2.1 ho.own.1 (fun b hb hb' => ho.own.2.2 b hb' hb)
theorem St.outRk (h : St w0 noneZ Z0 (kidsR us :: rowR E 3 v us.length (flatT us) :: L) φ w) : OwnRk w0 w E v us := by
  have hd := h.dis
  rw [List.pairwise_cons] at hd
  refine ⟨⟨h.own _ (by simp), h.own _ (by simp), fun b hb hb' => hd.1 (rowR E 3 v us.length (flatT us)) (by simp) b hb' hb⟩, fun b hb => ?_⟩
  rcases hb with hb | hb
  · exact ((h.key (rowR E 3 v us.length (flatT us)) (by simp) b hb).1).resolve_left (fun h => h)
  · exact ((h.key (kidsR us) (by simp) b hb).1).resolve_left (fun h => h)
theorem St.joinKids {ts us : List HT} (h : St w0 M Z0 (kidsR ts :: kidsR us :: L) φ w) : St w0 M Z0 (kidsR (ts ++ us) :: L) φ w := by
  refine h.merge (kidsR_local _) ?_ ?_
  · intro b hb
    have hb : b ∈ HT.blocksL (ts ++ us) := hb
    rw [HT.blocksL_append] at hb
    exact List.mem_append.1 hb
  · intro h1 h2 hd
    refine ⟨?_, ?_, ?_⟩
    · intro x hx
      rcases List.mem_append.1 hx with hx | hx
      · exact h1.1 x hx
      · exact h2.1 x hx
    · rw [HT.blocksL_append, List.nodup_append]
      exact ⟨h1.2.1, h2.2.1, fun a ha b hb hab => hd a ha (hab ▸ hb)⟩
    · intro b hb
      rw [HT.blocksL_append] at hb
      rcases List.mem_append.1 hb with hb | hb
      · exact h1.2.2 b hb
      · exact h2.2.2 b hb
end
end Go.Dk
namespace Go.Proofs.Ythjbllfcelkajaa
open Go Go.Dk
set_option maxRecDepth 100000 in
set_option maxHeartbeats 1000000 in
theorem i_ownAll (c : HT) (Z : Zone) (w : World) (hr : Rd Z w c) (hl : c.kids.length ≤ 100000) (hz : ∀ u ∈ c.kids, u.er.size ≤ 1000000) : Calls Try.prog 86 #[c.sl] w fun e w' =>
    ∃ (us : List HT) (a : Option Addr) (cp : Nat), e = .returned (.slice a us.length cp) ∧ Grow w w' ∧ OwnRk w w' 33 (.slice a us.length cp) us ∧ us.map HT.er = c.er.kids ∧ us.length = c.kids.length := by
  have H := St.init w noneZ Z (rdF_stable c) hr
  have hlen := hr.len
  have hcl : c.sl = .slice c.a c.kids.length c.cap := rfl
  rw [hcl]
  go_enter Try.func86, Try.ntmps86
  repeat' ((first | (refine T_nil ?_) | ((first | apply U0 | (apply U1; (case hd => decide +kernel)) | (apply U2 (hw := H); (case hd => decide +kernel)) | (apply U3 1; (case hp => rfl); (case hd => decide +kernel)) | (apply U3 2; (case hp => rfl); (case hd => decide +kernel)) | (apply U3 3; (case hp => rfl); (case hd => decide +kernel)) | (apply U3 4; (case hp => rfl); (case hd => decide +kernel)) | (apply U3 5; (case hp => rfl); (case hd => decide +kernel)) | (apply U3 6; (case hp => rfl); (case hd => decide +kernel)) | (apply U3 7; (case hp => rfl); (case hd => decide +kernel)) | (apply U3 8; (case hp => rfl); (case hd => decide +kernel)) | (apply U3 9; (case hp => rfl); (case hd => decide +kernel)) | (apply U3 10; (case hp => rfl); (case hd => decide +kernel)) | (apply U3 11; (case hp => rfl); (case hd => decide +kernel))); (case hg => rfl); (case hy => (first | (apply Yi.a; constructor; all_goals (first | rfl | (constructor <;> omega) | (apply CellIs.own; (case h => repeat constructor); rfl) | (apply Cell3.own; (case h => repeat constructor); all_goals rfl))) | (apply Yi.b; constructor; all_goals (first | rfl | (constructor <;> omega) | (apply CellIs.own; (case h => repeat constructor); rfl) | (apply Cell3.own; (case h => repeat constructor); all_goals rfl))) | (apply Yi.c; constructor; all_goals (first | rfl | (constructor <;> omega) | (apply CellIs.own; (case h => repeat constructor); rfl) | (apply Cell3.own; (case h => repeat constructor); all_goals rfl)))))) | ((first | apply V0 | apply V1 | apply V2 (hw := H)); (case hg => rfl); try decide +kernel) | ((first | refine G0 H ?_ | (refine G1 H (fun _ _ _ _ h => h) (by decide +kernel) ?_; clear H; intro _ H)); simp only [enum, Nat.reduceAdd]) | (apply B0 (hw := H); (case hg => rfl); (case hd => first | exact hd_false | decide +kernel); (case hx => rfl); (case hc => rfl); clear H; intro bx _ H) | (apply B1 (hw := H); (case hg => rfl); (case hd => first | exact hd_false | decide +kernel); clear H; intro ax _ H) | go_step | (apply X0; (case hy => rfl); all_goals (intro hb; simp only [hb]; (try simp only [decide_eq_true_eq, decide_eq_false_iff_not, Bool.not_eq_true', Bool.not_eq_false', Bool.and_eq_true, Bool.or_eq_true, Bool.and_eq_false_iff, Bool.or_eq_false_iff] at hb); try (exfalso; omega)))) <;> try simp only [List.getElem_toArray, List.getElem_cons_zero, List.getElem_cons_succ, Act.put, evalT, evalC, evalF, List.setIfInBounds_toArray, List.set_cons_succ, List.set_cons_zero, List.getD_cons_succ, List.getD_cons_zero, Nat.reduceAdd, Nat.reduceMul, Nat.add_zero, Nat.zero_add, Int.toNat_natCast, Int.reduceToNat, List.eraseIdx_cons_succ, List.eraseIdx_cons_zero, cond_true, cond_false])
  have H := (H.pushRow 33 3).pushNone
  go_loopg [3, 8] c.kids.length (fun g s v wr => ∃ (us : List HT) (sa : Option Addr) (sc : Nat), s = .slice sa us.length sc ∧ v = .int .i64 us.length ∧ us.length + g = c.kids.length ∧ us.map HT.er ++ c.er.kids.drop us.length = c.er.kids ∧
    St w noneZ Z [kidsR us, rowR 33 3 (.slice sa us.length sc) us.length (flatT us)] (rdF c) wr)
  case atStart => exact ⟨[], _, _, rfl, rfl, by simp, by simp, H⟩
  case round =>
    clear H
    obtain ⟨us, sa, sc, rfl, rfl, hi, hsum, H⟩ := hrel
    by_cases hlt : us.length < c.kids.length
    · have hu : c.kids[us.length]? = some c.kids[us.length] := List.getElem?_eq_getElem hlt
      obtain ⟨b, off, ha⟩ := hr.addr hu
      generalize c.kids[us.length] = u at hu
      have hsz := hz u (List.mem_of_getElem? hu)
      rw [HT.er_drop hu] at hsum
      repeat' ((first | (refine T_nil ?_) | ((first | apply U0 | (apply U1; (case hd => decide +kernel)) | (apply U2 (hw := H); (case hd => decide +kernel)) | (apply U3 1; (case hp => rfl); (case hd => decide +kernel)) | (apply U3 2; (case hp => rfl); (case hd => decide +kernel)) | (apply U3 3; (case hp => rfl); (case hd => decide +kernel)) | (apply U3 4; (case hp => rfl); (case hd => decide +kernel)) | (apply U3 5; (case hp => rfl); (case hd => decide +kernel)) | (apply U3 6; (case hp => rfl); (case hd => decide +kernel)) | (apply U3 7; (case hp => rfl); (case hd => decide +kernel)) | (apply U3 8; (case hp => rfl); (case hd => decide +kernel)) | (apply U3 9; (case hp => rfl); (case hd => decide +kernel)) | (apply U3 10; (case hp => rfl); (case hd => decide +kernel)) | (apply U3 11; (case hp => rfl); (case hd => decide +kernel))); (case hg => rfl); (case hy => (first | (apply Yi.a; constructor; all_goals (first | rfl | (constructor <;> omega) | (apply CellIs.own; (case h => repeat constructor); rfl) | (apply Cell3.own; (case h => repeat constructor); all_goals rfl) | exact ha | exact .mk fun w h => (Rd.elem h.per ha hu).1)) | (apply Yi.b; constructor; all_goals (first | rfl | (constructor <;> omega) | (apply CellIs.own; (case h => repeat constructor); rfl) | (apply Cell3.own; (case h => repeat constructor); all_goals rfl) | exact ha | exact .mk fun w h => (Rd.elem h.per ha hu).1)) | (apply Yi.c; constructor; all_goals (first | rfl | (constructor <;> omega) | (apply CellIs.own; (case h => repeat constructor); rfl) | (apply Cell3.own; (case h => repeat constructor); all_goals rfl) | exact ha | exact .mk fun w h => (Rd.elem h.per ha hu).1))))) | ((first | apply V0 | apply V1 | apply V2 (hw := H)); (case hg => rfl); try decide +kernel) | ((first | refine G0 H ?_ | (refine G1 H (fun _ _ _ _ h => h) (by decide +kernel) ?_; clear H; intro _ H)); simp only [enum, Nat.reduceAdd]) | (apply B0 (hw := H); (case hg => rfl); (case hd => first | exact hd_false | decide +kernel); (case hx => rfl); (case hc => rfl); clear H; intro bx _ H) | (apply B1 (hw := H); (case hg => rfl); (case hd => first | exact hd_false | decide +kernel); clear H; intro ax _ H) | ((apply W0 (hw := H); (case hg => rfl); (case hd => first | exact hd_false | decide +kernel); (case hx => rfl); (case hy => rfl); (case hc => rfl); (case hn => repeat constructor); (case h1 => rfl); clear H; intro _ H; (try dsimp only at H); try simp only [putL, List.set_cons_succ, List.set_cons_zero, evalT, evalC, List.getD_cons_succ, List.getD_cons_zero, Nat.zero_add, Nat.reduceAdd] at H)) | ((apply C1; (case hg => rfl); (case hd => first | exact hd_false | decide +kernel); (case hxs => rfl); (case hc => exact i_own u _ _ (Rd.elem H.per ha hu).2 hsz); rintro _ _ ⟨z, rfl, hgr, ho, hez⟩; replace H := H.pushTree hgr ho; (try simp only [List.set_cons_succ, List.set_cons_zero] at H); refine ⟨_, rfl, _, (by first | exact fun _ _ h => h | exact fun _ _ h => h.tail | exact fun _ _ h => h.unfact (by repeat' (first | exact Stable.true | exact rdF_stable _ | exact iF_stable _ _ | apply Stable.and)) (fun _ _ h => h.2) | exact nofun), H, ?_⟩)) | ((apply B2 (hw := H); (case hg => rfl); (case hd => first | exact hd_false | decide +kernel); (case hvs => (simp only [List.map_cons, List.map_nil, evalT, evalC, List.getD_cons_succ, List.getD_cons_zero]; rfl)); (case hcs => (simp only [flatC, List.flatMap_cons, List.flatMap_nil, Value.cells, HT.val, List.cons_append, List.nil_append, List.append_nil]; rfl)); (case hix => rfl); (case hn => rfl); (case hsz => rfl); (case hb => rfl); clear H; intro sx _ H)) | ((apply A1 (hw := H) (i := 4) (p := 0); (case hg => rfl); (case hd => first | exact hd_false | decide +kernel); (case hx => rfl); (case hy => rfl); (case hi => rfl); (case hq => rfl); (case hl => rfl); (case h1 => rfl); (case hbytes => omega); (case h63 => omega); clear H; intro ra rc _ H; (try simp only [List.set_cons_succ, List.set_cons_zero] at H))) | go_step | (apply X0; (case hy => rfl); all_goals (intro hb; simp only [hb]; (try simp only [decide_eq_true_eq, decide_eq_false_iff_not, Bool.not_eq_true', Bool.not_eq_false', Bool.and_eq_true, Bool.or_eq_true, Bool.and_eq_false_iff, Bool.or_eq_false_iff] at hb); try (exfalso; omega)))) <;> try simp only [List.getElem_toArray, List.getElem_cons_zero, List.getElem_cons_succ, Act.put, evalT, evalC, evalF, List.setIfInBounds_toArray, List.set_cons_succ, List.set_cons_zero, List.getD_cons_succ, List.getD_cons_zero, Nat.reduceAdd, Nat.reduceMul, Nat.add_zero, Nat.zero_add, Int.toNat_natCast, Int.reduceToNat, List.eraseIdx_cons_succ, List.eraseIdx_cons_zero, cond_true, cond_false])
      have H := ((H.tail.drop 1).snoc)
      go_roundg (gk - 1)
      case measure => omega
      case rel => exact ⟨us ++ [z], ra, rc, by simp, by simp, by simp; omega, by rw [List.map_append, List.append_assoc, List.map_cons, List.map_nil, hez, List.length_append]; exact hsum, by rw [flatT_append, List.length_append]; exact H⟩
    · rw [List.drop_of_length_le (by rw [HT.er_len]; omega), List.append_nil] at hsum
      have hlt' : ¬ ((us.length : Int) < c.kids.length) := by omega
      repeat' ((first | (refine T_nil ?_) | ((first | apply U0 | (apply U1; (case hd => decide +kernel)) | (apply U2 (hw := H); (case hd => decide +kernel)) | (apply U3 1; (case hp => rfl); (case hd => decide +kernel)) | (apply U3 2; (case hp => rfl); (case hd => decide +kernel)) | (apply U3 3; (case hp => rfl); (case hd => decide +kernel)) | (apply U3 4; (case hp => rfl); (case hd => decide +kernel)) | (apply U3 5; (case hp => rfl); (case hd => decide +kernel)) | (apply U3 6; (case hp => rfl); (case hd => decide +kernel)) | (apply U3 7; (case hp => rfl); (case hd => decide +kernel)) | (apply U3 8; (case hp => rfl); (case hd => decide +kernel)) | (apply U3 9; (case hp => rfl); (case hd => decide +kernel)) | (apply U3 10; (case hp => rfl); (case hd => decide +kernel)) | (apply U3 11; (case hp => rfl); (case hd => decide +kernel))); (case hg => rfl); (case hy => (first | (apply Yi.a; constructor; all_goals (first | rfl | (constructor <;> omega) | (apply CellIs.own; (case h => repeat constructor); rfl) | (apply Cell3.own; (case h => repeat constructor); all_goals rfl))) | (apply Yi.b; constructor; all_goals (first | rfl | (constructor <;> omega) | (apply CellIs.own; (case h => repeat constructor); rfl) | (apply Cell3.own; (case h => repeat constructor); all_goals rfl))) | (apply Yi.c; constructor; all_goals (first | rfl | (constructor <;> omega) | (apply CellIs.own; (case h => repeat constructor); rfl) | (apply Cell3.own; (case h => repeat constructor); all_goals rfl)))))) | ((first | apply V0 | apply V1 | apply V2 (hw := H)); (case hg => rfl); try decide +kernel) | ((first | refine G0 H ?_ | (refine G1 H (fun _ _ _ _ h => h) (by decide +kernel) ?_; clear H; intro _ H)); simp only [enum, Nat.reduceAdd]) | (apply B0 (hw := H); (case hg => rfl); (case hd => first | exact hd_false | decide +kernel); (case hx => rfl); (case hc => rfl); clear H; intro bx _ H) | (apply B1 (hw := H); (case hg => rfl); (case hd => first | exact hd_false | decide +kernel); clear H; intro ax _ H) | go_step | (apply X0; (case hy => rfl); all_goals (intro hb; simp only [hb]; (try simp only [decide_eq_true_eq, decide_eq_false_iff_not, Bool.not_eq_true', Bool.not_eq_false', Bool.and_eq_true, Bool.or_eq_true, Bool.and_eq_false_iff, Bool.or_eq_false_iff] at hb); try (exfalso; omega)))) <;> try simp only [List.getElem_toArray, List.getElem_cons_zero, List.getElem_cons_succ, Act.put, evalT, evalC, evalF, List.setIfInBounds_toArray, List.set_cons_succ, List.set_cons_zero, List.getD_cons_succ, List.getD_cons_zero, Nat.reduceAdd, Nat.reduceMul, Nat.add_zero, Nat.zero_add, Int.toNat_natCast, Int.reduceToNat, List.eraseIdx_cons_succ, List.eraseIdx_cons_zero, cond_true, cond_false])
      ((try simp only [Exit.inBlock, Exit.then]); refine ret_post (res1 rfl (R_tmp rfl)) ?_; try simp only [List.getD_cons_succ, List.getD_cons_zero])
      exact ⟨us, sa, sc, (by first | rfl | trivial), H.ext, H.outRk, hsum, by omega⟩
end Go.Proofs.Ythjbllfcelkajaa
namespace Go.Proofs.Ythjbllfcelkajaa
open Go Go.Ab
open Go.Dk (Rd HT Grow T iF)
theorem wk_acc : ∀ (p : List Int) (t : T) (a acc : List T), wkT t p (a ++ acc) = (wkT t p acc).map fun r => (r.1, a ++ r.2)
  | [], t, a, acc => rfl
  | i :: p, t, a, acc => by
    rw [wkT, wkT]
    by_cases hi : 0 ≤ i ∧ i < t.kids.length
    · rw [if_pos hi, if_pos hi]
      by_cases hc : i = 1 ∧ (t.k = 3 ∨ t.k = 4 ∨ t.k = 13)
      · rw [if_pos hc, if_pos hc, List.append_assoc]; exact wk_acc p _ a _
      · rw [if_neg hc, if_neg hc]; exact wk_acc p _ a _
    · rw [if_neg hi, if_neg hi]; rfl
theorem f_l2Binds' {n : Nat} (hn : 1 ≤ n) (k i : Int) (hi : 0 ≤ i) : FF n 85 [nt k, nt i] [] = some ([bl (decide (i = 1 ∧ (k = 3 ∨ k = 4 ∨ k = 13)))], []) := by
  obtain ⟨j, rfl⟩ : ∃ j : Nat, i = j := ⟨i.toNat, by omega⟩
  rw [f_l2Binds hn]
theorem ctx_loop2 (n : Nat) (hn : 20000 ≤ n) (p : List Int) (hp : p.length ≤ 1048576) (R : T × List T) : ∀ g m (j : Nat) (t : T) (acc : List T), g < m → j + g = p.length → validB t = true → acc.length ≤ 10 + j → wkT t (p.drop j) acc = some R →
    L_spec_ContextAt_2 n m p j t.k t.n t.kids acc = some ([tms (if R.2.length ≤ 8 then R.2 else []), bl (decide (R.2.length ≤ 8))], [])
  | g, 0, j, t, acc, hg, _, _, _, _ => by omega
  | 0, m + 1, j, t, acc, _, hj, hv, ha, h => by
    rw [List.drop_of_length_le (by omega)] at h
    simp only [wkT, Option.some.injEq] at h
    subst h
    rw [L_spec_ContextAt_2_eq, decide_eq_false (show ¬ (j : Int) < (p.length : Int) by omega)]
    simp only [cond_false]
    by_cases h8 : acc.length ≤ 8
    · rw [decide_eq_false (show ¬ (8 : Int) < (acc.length : Int) by omega), if_pos h8, decide_eq_true h8]; rfl
    · rw [decide_eq_true (show (8 : Int) < (acc.length : Int) by omega), if_neg h8, decide_eq_false h8]; rfl
  | g + 1, m + 1, j, t, acc, hg, hj, hv, ha, h => by
    have hlt : j < p.length := by omega
    rw [List.drop_eq_getElem_cons hlt, wkT] at h
    rw [L_spec_ContextAt_2_eq, decide_eq_true (show (j : Int) < (p.length : Int) by omega), decide_eq_true (show 0 ≤ (j : Int) by omega), Int.toNat_natCast, List.getElem?_eq_getElem hlt]
    generalize p[j] = i at h
    simp only [cond_true, Option.bind_some]
    by_cases hi : 0 ≤ i ∧ i < t.kids.length
    · rw [if_pos hi] at h
      rw [f_l2Binds' (by omega) _ _ hi.1]
      simp only [Option.bind_some, c_rInt, c_rBool, c_rStr, c_rTs, c_rIs, c_rIss, c_rSs, c_rBs, c_rTerm, c_rOwnT, c_rOwn, c_rPtr, c_nilV, c_nilO, c_objC, c_dropC, c_intC, c_boolC, c_strC, c_tsC, c_isC, c_issC, c_ssC, c_bsC, c_anyC, c_nilC, c_arrTs, c_arrIs, c_arrIss, c_arrSs, c_arrBs, ik_self, nb_self, cond_true, cond_false, rTerm_tm, T.eta, mk_k, mk_n, mk_kids, Option.bind_none, Bool.not_true, Bool.not_false, Bool.true_and, Bool.and_true, Bool.and_false, Bool.false_and, Bool.and_self, decide_true, decide_false]
      have w : IntKind.i64.wrap ((j : Int) + 1) = ((j + 1 : Nat) : Int) := wrap64 (by omega)
      have hm : kd t i.toNat ∈ t.kids := kd_mem (by omega)
      have hvk := validB_kid hv hm
      by_cases hc : i = 1 ∧ (t.k = 3 ∨ t.k = 4 ∨ t.k = 13)
      · rw [if_pos hc] at h
        have h0 : t.kids[(0 : Int).toNat]? = some (kd t 0) := getElem_kd (i := 0) (by omega)
        have hv0 := validB_size (validB_kid hv (kd_mem (t := t) (i := 0) (by omega)))
        rw [decide_eq_true hc, h0]
        simp only [cond_true, Option.bind_some]
        rw [f_l1Copy _ (by omega) (by omega)]
        simp only [Option.bind_some, c_rInt, c_rBool, c_rStr, c_rTs, c_rIs, c_rIss, c_rSs, c_rBs, c_rTerm, c_rOwnT, c_rOwn, c_rPtr, c_nilV, c_nilO, c_objC, c_dropC, c_intC, c_boolC, c_strC, c_tsC, c_isC, c_issC, c_ssC, c_bsC, c_anyC, c_nilC, c_arrTs, c_arrIs, c_arrIss, c_arrSs, c_arrBs, ik_self, nb_self, cond_true, cond_false, rTerm_tm, T.eta, mk_k, mk_n, mk_kids, Option.bind_none, Bool.not_true, Bool.not_false, Bool.true_and, Bool.and_true, Bool.and_false, Bool.false_and, Bool.and_self, decide_true, decide_false]
        rw [roomB_ok (by simp; omega), decide_eq_true hi.1, getElem_kd hi, w]
        simp only [cond_true, Option.bind_some]
        exact ctx_loop2 n hn p hp R g m (j + 1) (kd t i.toNat) _ (by omega) (by omega) hvk (by simp; omega) h
      · rw [if_neg hc] at h
        rw [decide_eq_false hc]
        simp only [cond_false]
        rw [decide_eq_true hi.1, getElem_kd hi, w]
        simp only [cond_true, Option.bind_some]
        exact ctx_loop2 n hn p hp R g m (j + 1) (kd t i.toNat) acc (by omega) (by omega) hvk (by omega) h
    · rw [if_neg hi] at h; cases h
theorem ctx_loop0 (n : Nat) (hn : 20000 ≤ n) (p : List Int) (c : List T) (hc : c.length ≤ 8) (hz : ∀ u ∈ c, validB u = true) (t : T) : ∀ g m (j : Nat) (acc : List T), g < m → j + g = c.length → acc = c.take j →
    L_spec_ContextAt_0 n m c p j t.k t.n t.kids acc = L_spec_ContextAt_2 n n p 0 t.k t.n t.kids c
  | g, 0, j, acc, hg, _, _ => by omega
  | 0, m + 1, j, acc, _, hj, ha => by
    rw [L_spec_ContextAt_0_eq, decide_eq_false (show ¬ (j : Int) < (c.length : Int) by omega), ha, List.take_of_length_le (by omega)]
    simp only [cond_false]
  | g + 1, m + 1, j, acc, hg, hj, ha => by
    have hlt : j < c.length := by omega
    have htk := take_snoc hlt
    have hv := validB_size (hz _ (List.getElem_mem hlt))
    rw [L_spec_ContextAt_0_eq, decide_eq_true (show (j : Int) < (c.length : Int) by omega), decide_eq_true (show 0 ≤ (j : Int) by omega), Int.toNat_natCast, List.getElem?_eq_getElem hlt]
    simp only [cond_true, Option.bind_some]
    rw [f_l1Copy _ (by omega) (by omega)]
    simp only [Option.bind_some, c_rInt, c_rBool, c_rStr, c_rTs, c_rIs, c_rIss, c_rSs, c_rBs, c_rTerm, c_rOwnT, c_rOwn, c_rPtr, c_nilV, c_nilO, c_objC, c_dropC, c_intC, c_boolC, c_strC, c_tsC, c_isC, c_issC, c_ssC, c_bsC, c_anyC, c_nilC, c_arrTs, c_arrIs, c_arrIss, c_arrSs, c_arrBs, ik_self, nb_self, cond_true, cond_false, rTerm_tm, T.eta, mk_k, mk_n, mk_kids, Option.bind_none, Bool.not_true, Bool.not_false, Bool.true_and, Bool.and_true, Bool.and_false, Bool.false_and, Bool.and_self, decide_true, decide_false]
    subst ha
    rw [roomB_ok (by simp; omega), wrap64 (show -9223372036854775808 ≤ (j : Int) + 1 ∧ (j : Int) + 1 ≤ 9223372036854775807 by omega), htk]
    simp only [cond_true]
    exact ctx_loop0 n hn p c hc hz t g m (j + 1) _ (by omega) (by omega) rfl
/-- What ContextAt hands back. -/
def ctR (c : List T) (t : T) (p : List Int) : List T × Bool := if validB t = true ∧ okA c = true ∧ (wkR t p).2 = true ∧ c.length + (wkR t p).1.2.length ≤ 8 then (c ++ (wkR t p).1.2, true) else ([], false)
theorem f_ContextAtS {n : Nat} {c : List T} {t : T} {p : List Int} (hn : 6000000 ≤ n) (hcl : c.length ≤ 4000000) (hcz : ∀ u ∈ c, u.size ≤ 4000000) (hp : p.length ≤ 1048576) (hz : t.size ≤ 1048577) : FF n 52 [tms c, tm t, .one (.fr (.is p))] [] = some ([tms (ctR c t p).1, bl (ctR c t p).2], []) := by
  obtain ⟨n, rfl⟩ := pos_succ (show 0 < n by omega)
  rw [E_spec_ContextAt, f_TermAtS (by omega) hp hz]
  simp only [Option.bind_some, c_rInt, c_rBool, c_rStr, c_rTs, c_rIs, c_rIss, c_rSs, c_rBs, c_rTerm, c_rOwnT, c_rOwn, c_rPtr, c_nilV, c_nilO, c_objC, c_dropC, c_intC, c_boolC, c_strC, c_tsC, c_isC, c_issC, c_ssC, c_bsC, c_anyC, c_nilC, c_arrTs, c_arrIs, c_arrIss, c_arrSs, c_arrBs, ik_self, nb_self, cond_true, cond_false, rTerm_tm, T.eta, mk_k, mk_n, mk_kids, Option.bind_none, Bool.not_true, Bool.not_false, Bool.true_and, Bool.and_true, Bool.and_false, Bool.false_and, Bool.and_self, decide_true, decide_false]
  unfold taR ctR
  by_cases h : validB t = true ∧ (wkR t p).2 = true
  · rw [if_pos h]
    simp only [Bool.not_true, cond_false]
    rw [f_l5Fits (by omega) hcl hcz]
    simp only [Option.bind_some, c_rInt, c_rBool, c_rStr, c_rTs, c_rIs, c_rIss, c_rSs, c_rBs, c_rTerm, c_rOwnT, c_rOwn, c_rPtr, c_nilV, c_nilO, c_objC, c_dropC, c_intC, c_boolC, c_strC, c_tsC, c_isC, c_issC, c_ssC, c_bsC, c_anyC, c_nilC, c_arrTs, c_arrIs, c_arrIss, c_arrSs, c_arrBs, ik_self, nb_self, cond_true, cond_false, rTerm_tm, T.eta, mk_k, mk_n, mk_kids, Option.bind_none, Bool.not_true, Bool.not_false, Bool.true_and, Bool.and_true, Bool.and_false, Bool.false_and, Bool.and_self, decide_true, decide_false]
    cases ho : okA c with
    | false => rw [if_neg (by simp)]; rfl
    | true =>
      obtain ⟨h8, hv8⟩ := okA_out ho
      simp only [Bool.not_true, cond_false]
      have h0 := ctx_loop0 n (by omega) p c h8 hv8 t c.length n 0 [] (by omega) (by omega) rfl
      have e0 : ((0 : Nat) : Int) = 0 := rfl
      rw [e0] at h0
      rw [h0]
      have hw := h.2
      unfold wkR at hw ⊢
      cases hh : wkT t p [] with
      | none => rw [hh] at hw; cases hw
      | some r =>
        have hk := wk_acc p t c []
        rw [List.append_nil, hh] at hk
        have h2 := ctx_loop2 n (by omega) p hp (r.1, c ++ r.2) p.length n 0 t c (by omega) (by omega) h.1 (by omega) (by rw [List.drop_zero]; exact hk)
        rw [e0] at h2
        rw [h2]
        simp only [List.length_append]
        by_cases h8' : c.length + r.2.length ≤ 8
        · rw [if_pos h8', decide_eq_true h8', if_pos ⟨h.1, by simp, by simp, h8'⟩]
        · rw [if_neg h8', decide_eq_false h8', if_neg (by intro hx; exact h8' hx.2.2.2)]
  · rw [if_neg h, if_neg (by intro hx; exact h ⟨hx.1, hx.2.2.1⟩)]; rfl
theorem s_ContextAt (c : HT) (xs : List T) (ec : c.er.kids = xs) (t : HT) (x : T) (et : t.er = x) (l : List Int) (a : Option Addr) (cp : Nat) (hc : l.length ≤ cp) (Z : Go.Dk.Zone) (w : World) (hrc : Rd Z w c) (hr : Rd Z w t) (hi : iF a l Z w) (hsc : T.sizeL xs ≤ 1048576) (hs : T.sizeL x.kids ≤ 1048576) (hl : l.length ≤ 1048576) : Calls Try.prog 52 #[c.sl, t.val, .slice a l.length cp] w fun e w' =>
    ∃ u : HT, e = .returned (.tuple #[u.sl, .bool (ctR xs x l).2]) ∧ Grow w w' ∧ Rd (newZ Z w) w' u ∧ u.er = .mk 0 0 (ctR xs x l).1 := by
  subst et ec
  exact ab_terms_bool Try.func52 (by kernel_rfl) (All2.cons (terms_arg hrc) (All2.cons (term_arg' hr) (All2.cons (ints_arg (ints_to hc hl hi)) All2.nil))) (f_ContextAtS (n := 6000000) (by omega) (by have := Go.Dk.T.sizeL_len c.er.kids; omega) (fun u hu => by have := Go.Dk.T.sizeL_mem hu; omega) hl (sizeT hs))
theorem i_areTerms' (c : HT) (Z : Go.Dk.Zone) (w : World) (hr : Rd Z w c) (hs : T.sizeL c.er.kids ≤ 1048576) : Calls Try.prog 73 #[c.sl] w fun e w' => e = .returned (.bool (okA c.er.kids)) ∧ Grow w w' :=
  ab_bool Try.func73 (by kernel_rfl) (All2.cons (terms_arg hr) All2.nil) (f_areTerms (n := 4400000) (by omega) (by have := Go.Dk.T.sizeL_len c.er.kids; omega) (fun u hu => by have := Go.Dk.T.sizeL_mem hu; omega))
theorem ctR_bd (c : List T) (t : T) (p : List Int) : Go.Dk.T.sizeL (ctR c t p).1 ≤ 1000000 := by
  unfold ctR
  by_cases h : validB t = true ∧ okA c = true ∧ (wkR t p).2 = true ∧ c.length + (wkR t p).1.2.length ≤ 8
  · rw [if_pos h]
    obtain ⟨h1, h2, h3, h4⟩ := h
    obtain ⟨h5, h6⟩ := okA_out h2
    obtain ⟨_, _, h7, _⟩ := wkR_valid h1 h3
    have hb := sizeL_le (l := c ++ (wkR t p).1.2) (k := 400) (fun u hu => by rcases List.mem_append.1 hu with hu | hu; exact validB_size (h6 u hu); exact validB_size (h7 u hu))
    have hl : (c ++ (wkR t p).1.2).length ≤ 8 := by rw [List.length_append]; exact h4
    have := Nat.mul_le_mul_right 400 hl
    show Go.Dk.T.sizeL (c ++ (wkR t p).1.2) ≤ 1000000
    omega
  · rw [if_neg h]; decide
end Go.Proofs.Ythjbllfcelkajaa
namespace Go.Proofs.Ythjbllfcelkajaa
open Go Go.Dk
set_option maxRecDepth 100000 in
set_option maxHeartbeats 1000000 in
theorem i_ContextAt (c : HT) (xs : List T) (ec : c.er.kids = xs) (t : HT) (x : T) (et : t.er = x) (l : List Int) (a : Option Addr) (cp : Nat) (hc : l.length ≤ cp) (Z : Zone) (w : World) (hrc : Rd Z w c) (hr : Rd Z w t) (hi : iF a l Z w) (hsc : T.sizeL xs ≤ 1048576) (hs : T.sizeL x.kids ≤ 1048576) (hl : l.length ≤ 1048576) : Calls Try.prog 53 #[c.sl, t.val, .slice a l.length cp] w fun e w' =>
    ∃ u : HT, e = .returned (.tuple #[u.sl, .bool (ctR xs x l).2]) ∧ Grow w w' ∧ Own w w' u ∧ u.er = .mk 0 0 (ctR xs x l).1 := by
  subst et ec
  have H := St.init w noneZ Z ((rdF_stable c).and ((rdF_stable t).and (iF_stable a l))) ⟨hrc, hr, hi⟩
  have hlenc := hrc.len
  have hcl : c.sl = .slice c.a c.kids.length c.cap := rfl
  have fin : ∀ {w' : World} {L : List Res} {φ : Fact}, St w noneZ Z L φ w' → ¬ (validB t.er = true ∧ okA c.er.kids = true ∧ (wkR t.er l).2 = true ∧ c.er.kids.length + (wkR t.er l).1.2.length ≤ 8) →
      ∃ u : HT, Ending.returned (Value.tuple #[.slice none 0 0, .bool false]) = .returned (.tuple #[u.sl, .bool (ctR c.er.kids t.er l).2]) ∧ Grow w w' ∧ Own w w' u ∧ u.er = .mk 0 0 (ctR c.er.kids t.er l).1 := by
    intro w' L φ H h
    have e : ctR c.er.kids t.er l = ([], false) := if_neg h
    rw [e]
    exact ⟨.mk 0 0 none 0 [], rfl, H.ext, zero_own _ _, rfl⟩
  cases hv : validB t.er with
  | false =>
    go_enter Try.func53, Try.ntmps53
    repeat' ((first | (refine T_nil ?_) | ((first | apply U0 | (apply U1; (case hd => decide +kernel)) | (apply U2 (hw := H); (case hd => decide +kernel)) | (apply U3 1; (case hp => rfl); (case hd => decide +kernel)) | (apply U3 2; (case hp => rfl); (case hd => decide +kernel)) | (apply U3 3; (case hp => rfl); (case hd => decide +kernel)) | (apply U3 4; (case hp => rfl); (case hd => decide +kernel)) | (apply U3 5; (case hp => rfl); (case hd => decide +kernel)) | (apply U3 6; (case hp => rfl); (case hd => decide +kernel)) | (apply U3 7; (case hp => rfl); (case hd => decide +kernel)) | (apply U3 8; (case hp => rfl); (case hd => decide +kernel)) | (apply U3 9; (case hp => rfl); (case hd => decide +kernel)) | (apply U3 10; (case hp => rfl); (case hd => decide +kernel)) | (apply U3 11; (case hp => rfl); (case hd => decide +kernel))); (case hg => rfl); (case hy => (first | (apply Yi.a; constructor; all_goals (first | rfl | (constructor <;> omega) | (apply CellIs.own; (case h => repeat constructor); rfl) | (apply Cell3.own; (case h => repeat constructor); all_goals rfl))) | (apply Yi.b; constructor; all_goals (first | rfl | (constructor <;> omega) | (apply CellIs.own; (case h => repeat constructor); rfl) | (apply Cell3.own; (case h => repeat constructor); all_goals rfl))) | (apply Yi.c; constructor; all_goals (first | rfl | (constructor <;> omega) | (apply CellIs.own; (case h => repeat constructor); rfl) | (apply Cell3.own; (case h => repeat constructor); all_goals rfl)))))) | ((first | apply V0 | apply V1 | apply V2 (hw := H)); (case hg => rfl); try decide +kernel) | ((first | refine G0 H ?_ | (refine G1 H (fun _ _ _ _ h => h) (by decide +kernel) ?_; clear H; intro _ H)); simp only [enum, Nat.reduceAdd]) | (apply B0 (hw := H); (case hg => rfl); (case hd => first | exact hd_false | decide +kernel); (case hx => rfl); (case hc => rfl); clear H; intro bx _ H) | (apply B1 (hw := H); (case hg => rfl); (case hd => first | exact hd_false | decide +kernel); clear H; intro ax _ H) | ((apply W0 (hw := H); (case hg => rfl); (case hd => first | exact hd_false | decide +kernel); (case hx => rfl); (case hy => rfl); (case hc => rfl); (case hn => repeat constructor); (case h1 => rfl); clear H; intro _ H; (try dsimp only at H); try simp only [putL, List.set_cons_succ, List.set_cons_zero, evalT, evalC, List.getD_cons_succ, List.getD_cons_zero, Nat.zero_add, Nat.reduceAdd] at H)) | ((apply C0 (hw := H); (case hg => rfl); (case hd => first | exact hd_false | decide +kernel); (case hxs => rfl); (case hc => exact i_TermValid t _ _ H.per.2.1); clear H; intro _ H)) | go_step | (apply X0; (case hy => rfl); all_goals (intro hb; simp only [hb]; (try simp only [decide_eq_true_eq, decide_eq_false_iff_not, Bool.not_eq_true', Bool.not_eq_false', Bool.and_eq_true, Bool.or_eq_true, Bool.and_eq_false_iff, Bool.or_eq_false_iff] at hb); try (exfalso; omega)))) <;> try simp only [List.getElem_toArray, List.getElem_cons_zero, List.getElem_cons_succ, Act.put, evalT, evalC, evalF, List.setIfInBounds_toArray, List.set_cons_succ, List.set_cons_zero, List.getD_cons_succ, List.getD_cons_zero, Nat.reduceAdd, Nat.reduceMul, Nat.add_zero, Nat.zero_add, Int.toNat_natCast, Int.reduceToNat, List.eraseIdx_cons_succ, List.eraseIdx_cons_zero, cond_true, cond_false])
    all_goals first | (exfalso; simp_all; done) | skip
    ((try simp only [Exit.inBlock, Exit.then]); refine ret_post (res2 rfl (R_tmp rfl) (R_tmp rfl)) ?_; try simp only [List.getD_cons_succ, List.getD_cons_zero])
    exact fin H (by rw [hv]; simp)
  | true =>
    cases ho : okA c.er.kids with
    | false =>
      go_enter Try.func53, Try.ntmps53
      repeat' ((first | (refine T_nil ?_) | ((first | apply U0 | (apply U1; (case hd => decide +kernel)) | (apply U2 (hw := H); (case hd => decide +kernel)) | (apply U3 1; (case hp => rfl); (case hd => decide +kernel)) | (apply U3 2; (case hp => rfl); (case hd => decide +kernel)) | (apply U3 3; (case hp => rfl); (case hd => decide +kernel)) | (apply U3 4; (case hp => rfl); (case hd => decide +kernel)) | (apply U3 5; (case hp => rfl); (case hd => decide +kernel)) | (apply U3 6; (case hp => rfl); (case hd => decide +kernel)) | (apply U3 7; (case hp => rfl); (case hd => decide +kernel)) | (apply U3 8; (case hp => rfl); (case hd => decide +kernel)) | (apply U3 9; (case hp => rfl); (case hd => decide +kernel)) | (apply U3 10; (case hp => rfl); (case hd => decide +kernel)) | (apply U3 11; (case hp => rfl); (case hd => decide +kernel))); (case hg => rfl); (case hy => (first | (apply Yi.a; constructor; all_goals (first | rfl | (constructor <;> omega) | (apply CellIs.own; (case h => repeat constructor); rfl) | (apply Cell3.own; (case h => repeat constructor); all_goals rfl))) | (apply Yi.b; constructor; all_goals (first | rfl | (constructor <;> omega) | (apply CellIs.own; (case h => repeat constructor); rfl) | (apply Cell3.own; (case h => repeat constructor); all_goals rfl))) | (apply Yi.c; constructor; all_goals (first | rfl | (constructor <;> omega) | (apply CellIs.own; (case h => repeat constructor); rfl) | (apply Cell3.own; (case h => repeat constructor); all_goals rfl)))))) | ((first | apply V0 | apply V1 | apply V2 (hw := H)); (case hg => rfl); try decide +kernel) | ((first | refine G0 H ?_ | (refine G1 H (fun _ _ _ _ h => h) (by decide +kernel) ?_; clear H; intro _ H)); simp only [enum, Nat.reduceAdd]) | (apply B0 (hw := H); (case hg => rfl); (case hd => first | exact hd_false | decide +kernel); (case hx => rfl); (case hc => rfl); clear H; intro bx _ H) | (apply B1 (hw := H); (case hg => rfl); (case hd => first | exact hd_false | decide +kernel); clear H; intro ax _ H) | ((apply W0 (hw := H); (case hg => rfl); (case hd => first | exact hd_false | decide +kernel); (case hx => rfl); (case hy => rfl); (case hc => rfl); (case hn => repeat constructor); (case h1 => rfl); clear H; intro _ H; (try dsimp only at H); try simp only [putL, List.set_cons_succ, List.set_cons_zero, evalT, evalC, List.getD_cons_succ, List.getD_cons_zero, Nat.zero_add, Nat.reduceAdd] at H)) | ((apply C0 (hw := H); (case hg => rfl); (case hd => first | exact hd_false | decide +kernel); (case hxs => rfl); (case hc => exact i_TermValid t _ _ H.per.2.1); clear H; intro _ H)) | ((apply C0 (hw := H); (case hg => rfl); (case hd => first | exact hd_false | decide +kernel); (case hxs => rfl); (case hc => exact i_areTerms' c _ _ H.per.1 hsc); clear H; intro _ H)) | go_step | (apply X0; (case hy => rfl); all_goals (intro hb; simp only [hb]; (try simp only [decide_eq_true_eq, decide_eq_false_iff_not, Bool.not_eq_true', Bool.not_eq_false', Bool.and_eq_true, Bool.or_eq_true, Bool.and_eq_false_iff, Bool.or_eq_false_iff] at hb); try (exfalso; omega)))) <;> try simp only [List.getElem_toArray, List.getElem_cons_zero, List.getElem_cons_succ, Act.put, evalT, evalC, evalF, List.setIfInBounds_toArray, List.set_cons_succ, List.set_cons_zero, List.getD_cons_succ, List.getD_cons_zero, Nat.reduceAdd, Nat.reduceMul, Nat.add_zero, Nat.zero_add, Int.toNat_natCast, Int.reduceToNat, List.eraseIdx_cons_succ, List.eraseIdx_cons_zero, cond_true, cond_false])
      all_goals first | (exfalso; simp_all; done) | skip
      ((try simp only [Exit.inBlock, Exit.then]); refine ret_post (res2 rfl (R_tmp rfl) (R_tmp rfl)) ?_; try simp only [List.getD_cons_succ, List.getD_cons_zero])
      exact fin H (by rw [ho]; simp)
    | true =>
      obtain ⟨h8, h9⟩ := okA_out ho
      cases hw : (wkR t.er l).2 with
      | false =>
        go_enter Try.func53, Try.ntmps53
        repeat' ((first | (refine T_nil ?_) | ((first | apply U0 | (apply U1; (case hd => decide +kernel)) | (apply U2 (hw := H); (case hd => decide +kernel)) | (apply U3 1; (case hp => rfl); (case hd => decide +kernel)) | (apply U3 2; (case hp => rfl); (case hd => decide +kernel)) | (apply U3 3; (case hp => rfl); (case hd => decide +kernel)) | (apply U3 4; (case hp => rfl); (case hd => decide +kernel)) | (apply U3 5; (case hp => rfl); (case hd => decide +kernel)) | (apply U3 6; (case hp => rfl); (case hd => decide +kernel)) | (apply U3 7; (case hp => rfl); (case hd => decide +kernel)) | (apply U3 8; (case hp => rfl); (case hd => decide +kernel)) | (apply U3 9; (case hp => rfl); (case hd => decide +kernel)) | (apply U3 10; (case hp => rfl); (case hd => decide +kernel)) | (apply U3 11; (case hp => rfl); (case hd => decide +kernel))); (case hg => rfl); (case hy => (first | (apply Yi.a; constructor; all_goals (first | rfl | (constructor <;> omega) | (apply CellIs.own; (case h => repeat constructor); rfl) | (apply Cell3.own; (case h => repeat constructor); all_goals rfl))) | (apply Yi.b; constructor; all_goals (first | rfl | (constructor <;> omega) | (apply CellIs.own; (case h => repeat constructor); rfl) | (apply Cell3.own; (case h => repeat constructor); all_goals rfl))) | (apply Yi.c; constructor; all_goals (first | rfl | (constructor <;> omega) | (apply CellIs.own; (case h => repeat constructor); rfl) | (apply Cell3.own; (case h => repeat constructor); all_goals rfl)))))) | ((first | apply V0 | apply V1 | apply V2 (hw := H)); (case hg => rfl); try decide +kernel) | ((first | refine G0 H ?_ | (refine G1 H (fun _ _ _ _ h => h) (by decide +kernel) ?_; clear H; intro _ H)); simp only [enum, Nat.reduceAdd]) | (apply B0 (hw := H); (case hg => rfl); (case hd => first | exact hd_false | decide +kernel); (case hx => rfl); (case hc => rfl); clear H; intro bx _ H) | (apply B1 (hw := H); (case hg => rfl); (case hd => first | exact hd_false | decide +kernel); clear H; intro ax _ H) | ((apply W0 (hw := H); (case hg => rfl); (case hd => first | exact hd_false | decide +kernel); (case hx => rfl); (case hy => rfl); (case hc => rfl); (case hn => repeat constructor); (case h1 => rfl); clear H; intro _ H; (try dsimp only at H); try simp only [putL, List.set_cons_succ, List.set_cons_zero, evalT, evalC, List.getD_cons_succ, List.getD_cons_zero, Nat.zero_add, Nat.reduceAdd] at H)) | ((apply C0 (hw := H); (case hg => rfl); (case hd => first | exact hd_false | decide +kernel); (case hxs => rfl); (case hc => exact i_TermValid t _ _ H.per.2.1); clear H; intro _ H)) | ((apply C0 (hw := H); (case hg => rfl); (case hd => first | exact hd_false | decide +kernel); (case hxs => rfl); (case hc => exact i_areTerms' c _ _ H.per.1 hsc); clear H; intro _ H)) | ((apply C1; (case hg => rfl); (case hd => first | exact hd_false | decide +kernel); (case hxs => rfl); (case hc => exact i_walked t hv l a cp hc (zoneOf H) _ H.per.2.1 H.per.2.2 hl); rintro _ _ ⟨v, u, rfl, hg, hv1, ev, hu1, eu⟩; replace H := H.call hg ((rdF_stable v).and (rdF_stable u)) ⟨hv1, hu1⟩; (try simp only [List.set_cons_succ, List.set_cons_zero] at H); refine ⟨_, rfl, _, (by first | exact fun _ _ h => h | exact fun _ _ h => h.tail | exact fun _ _ h => h.unfact (by repeat' (first | exact Stable.true | exact rdF_stable _ | exact iF_stable _ _ | apply Stable.and)) (fun _ _ h => h.2) | exact nofun), H, ?_⟩)) | go_step | (apply X0; (case hy => rfl); all_goals (intro hb; simp only [hb]; (try simp only [decide_eq_true_eq, decide_eq_false_iff_not, Bool.not_eq_true', Bool.not_eq_false', Bool.and_eq_true, Bool.or_eq_true, Bool.and_eq_false_iff, Bool.or_eq_false_iff] at hb); try (exfalso; omega)))) <;> try simp only [List.getElem_toArray, List.getElem_cons_zero, List.getElem_cons_succ, Act.put, evalT, evalC, evalF, List.setIfInBounds_toArray, List.set_cons_succ, List.set_cons_zero, List.getD_cons_succ, List.getD_cons_zero, Nat.reduceAdd, Nat.reduceMul, Nat.add_zero, Nat.zero_add, Int.toNat_natCast, Int.reduceToNat, List.eraseIdx_cons_succ, List.eraseIdx_cons_zero, cond_true, cond_false])
        all_goals first | (exfalso; simp_all; done) | skip
        ((try simp only [Exit.inBlock, Exit.then]); refine ret_post (res2 rfl (R_tmp rfl) (R_tmp rfl)) ?_; try simp only [List.getD_cons_succ, List.getD_cons_zero])
        exact fin H (by rw [hw]; simp)
      | true =>
        obtain ⟨v1, v2, v3, v4⟩ := wkR_valid hv hw
        have hsz := validB_size hv
        rw [hcl]
        go_enter Try.func53, Try.ntmps53
        repeat' ((first | (refine T_nil ?_) | ((first | apply U0 | (apply U1; (case hd => decide +kernel)) | (apply U2 (hw := H); (case hd => decide +kernel)) | (apply U3 1; (case hp => rfl); (case hd => decide +kernel)) | (apply U3 2; (case hp => rfl); (case hd => decide +kernel)) | (apply U3 3; (case hp => rfl); (case hd => decide +kernel)) | (apply U3 4; (case hp => rfl); (case hd => decide +kernel)) | (apply U3 5; (case hp => rfl); (case hd => decide +kernel)) | (apply U3 6; (case hp => rfl); (case hd => decide +kernel)) | (apply U3 7; (case hp => rfl); (case hd => decide +kernel)) | (apply U3 8; (case hp => rfl); (case hd => decide +kernel)) | (apply U3 9; (case hp => rfl); (case hd => decide +kernel)) | (apply U3 10; (case hp => rfl); (case hd => decide +kernel)) | (apply U3 11; (case hp => rfl); (case hd => decide +kernel))); (case hg => rfl); (case hy => (first | (apply Yi.a; constructor; all_goals (first | rfl | (constructor <;> omega) | (apply CellIs.own; (case h => repeat constructor); rfl) | (apply Cell3.own; (case h => repeat constructor); all_goals rfl))) | (apply Yi.b; constructor; all_goals (first | rfl | (constructor <;> omega) | (apply CellIs.own; (case h => repeat constructor); rfl) | (apply Cell3.own; (case h => repeat constructor); all_goals rfl))) | (apply Yi.c; constructor; all_goals (first | rfl | (constructor <;> omega) | (apply CellIs.own; (case h => repeat constructor); rfl) | (apply Cell3.own; (case h => repeat constructor); all_goals rfl)))))) | ((first | apply V0 | apply V1 | apply V2 (hw := H)); (case hg => rfl); try decide +kernel) | ((first | refine G0 H ?_ | (refine G1 H (fun _ _ _ _ h => h) (by decide +kernel) ?_; clear H; intro _ H)); simp only [enum, Nat.reduceAdd]) | (apply B0 (hw := H); (case hg => rfl); (case hd => first | exact hd_false | decide +kernel); (case hx => rfl); (case hc => rfl); clear H; intro bx _ H) | (apply B1 (hw := H); (case hg => rfl); (case hd => first | exact hd_false | decide +kernel); clear H; intro ax _ H) | ((apply W0 (hw := H); (case hg => rfl); (case hd => first | exact hd_false | decide +kernel); (case hx => rfl); (case hy => rfl); (case hc => rfl); (case hn => repeat constructor); (case h1 => rfl); clear H; intro _ H; (try dsimp only at H); try simp only [putL, List.set_cons_succ, List.set_cons_zero, evalT, evalC, List.getD_cons_succ, List.getD_cons_zero, Nat.zero_add, Nat.reduceAdd] at H)) | ((apply C0 (hw := H); (case hg => rfl); (case hd => first | exact hd_false | decide +kernel); (case hxs => rfl); (case hc => exact i_TermValid t _ _ H.per.2.1); clear H; intro _ H)) | ((apply C0 (hw := H); (case hg => rfl); (case hd => first | exact hd_false | decide +kernel); (case hxs => rfl); (case hc => exact i_areTerms' c _ _ H.per.1 hsc); clear H; intro _ H)) | ((apply C1; (case hg => rfl); (case hd => first | exact hd_false | decide +kernel); (case hxs => rfl); (case hc => exact i_walked t hv l a cp hc (zoneOf H) _ H.per.2.1 H.per.2.2 hl); rintro _ _ ⟨v, u, rfl, hg, hv1, ev, hu1, eu⟩; replace H := H.call hg ((rdF_stable v).and (rdF_stable u)) ⟨hv1, hu1⟩; (try simp only [List.set_cons_succ, List.set_cons_zero] at H); refine ⟨_, rfl, _, (by first | exact fun _ _ h => h | exact fun _ _ h => h.tail | exact fun _ _ h => h.unfact (by repeat' (first | exact Stable.true | exact rdF_stable _ | exact iF_stable _ _ | apply Stable.and)) (fun _ _ h => h.2) | exact nofun), H, ?_⟩)) | go_step | (apply X0; (case hy => rfl); all_goals (intro hb; simp only [hb]; (try simp only [decide_eq_true_eq, decide_eq_false_iff_not, Bool.not_eq_true', Bool.not_eq_false', Bool.and_eq_true, Bool.or_eq_true, Bool.and_eq_false_iff, Bool.or_eq_false_iff] at hb); try (exfalso; omega)))) <;> try simp only [List.getElem_toArray, List.getElem_cons_zero, List.getElem_cons_succ, Act.put, evalT, evalC, evalF, List.setIfInBounds_toArray, List.set_cons_succ, List.set_cons_zero, List.getD_cons_succ, List.getD_cons_zero, Nat.reduceAdd, Nat.reduceMul, Nat.add_zero, Nat.zero_add, Int.toNat_natCast, Int.reduceToNat, List.eraseIdx_cons_succ, List.eraseIdx_cons_zero, cond_true, cond_false])
        all_goals first | (exfalso; simp_all; done) | skip
        have hul : u.kids.length = (wkR t.er l).1.2.length := by rw [← HT.er_len, eu]; rfl
        have hle : l.length ≤ 400 := by omega
        rw [HT.er_len] at h8
        by_cases h8' : c.kids.length + u.kids.length ≤ 8
        · have hx8 : ¬ ((8 : Int) < (c.kids.length : Int) + u.kids.length) := by omega
          have hd8 : decide ((8 : Int) < (c.kids.length : Int) + u.kids.length) = false := decide_eq_false hx8
          repeat' ((first | (refine T_nil ?_) | ((first | apply U0 | (apply U1; (case hd => decide +kernel)) | (apply U2 (hw := H); (case hd => decide +kernel)) | (apply U3 1; (case hp => rfl); (case hd => decide +kernel)) | (apply U3 2; (case hp => rfl); (case hd => decide +kernel)) | (apply U3 3; (case hp => rfl); (case hd => decide +kernel)) | (apply U3 4; (case hp => rfl); (case hd => decide +kernel)) | (apply U3 5; (case hp => rfl); (case hd => decide +kernel)) | (apply U3 6; (case hp => rfl); (case hd => decide +kernel)) | (apply U3 7; (case hp => rfl); (case hd => decide +kernel)) | (apply U3 8; (case hp => rfl); (case hd => decide +kernel)) | (apply U3 9; (case hp => rfl); (case hd => decide +kernel)) | (apply U3 10; (case hp => rfl); (case hd => decide +kernel)) | (apply U3 11; (case hp => rfl); (case hd => decide +kernel))); (case hg => rfl); (case hy => (first | (apply Yi.a; constructor; all_goals (first | rfl | (constructor <;> omega) | (apply CellIs.own; (case h => repeat constructor); rfl) | (apply Cell3.own; (case h => repeat constructor); all_goals rfl))) | (apply Yi.b; constructor; all_goals (first | rfl | (constructor <;> omega) | (apply CellIs.own; (case h => repeat constructor); rfl) | (apply Cell3.own; (case h => repeat constructor); all_goals rfl))) | (apply Yi.c; constructor; all_goals (first | rfl | (constructor <;> omega) | (apply CellIs.own; (case h => repeat constructor); rfl) | (apply Cell3.own; (case h => repeat constructor); all_goals rfl)))))) | ((first | apply V0 | apply V1 | apply V2 (hw := H)); (case hg => rfl); try decide +kernel) | ((first | refine G0 H ?_ | (refine G1 H (fun _ _ _ _ h => h) (by decide +kernel) ?_; clear H; intro _ H)); simp only [enum, Nat.reduceAdd]) | (apply B0 (hw := H); (case hg => rfl); (case hd => first | exact hd_false | decide +kernel); (case hx => rfl); (case hc => rfl); clear H; intro bx _ H) | (apply B1 (hw := H); (case hg => rfl); (case hd => first | exact hd_false | decide +kernel); clear H; intro ax _ H) | ((apply W0 (hw := H); (case hg => rfl); (case hd => first | exact hd_false | decide +kernel); (case hx => rfl); (case hy => rfl); (case hc => rfl); (case hn => repeat constructor); (case h1 => rfl); clear H; intro _ H; (try dsimp only at H); try simp only [putL, List.set_cons_succ, List.set_cons_zero, evalT, evalC, List.getD_cons_succ, List.getD_cons_zero, Nat.zero_add, Nat.reduceAdd] at H)) | ((simp only [hd8])) | go_step | (apply X0; (case hy => rfl); all_goals (intro hb; simp only [hb]; (try simp only [decide_eq_true_eq, decide_eq_false_iff_not, Bool.not_eq_true', Bool.not_eq_false', Bool.and_eq_true, Bool.or_eq_true, Bool.and_eq_false_iff, Bool.or_eq_false_iff] at hb); try (exfalso; omega)))) <;> try simp only [List.getElem_toArray, List.getElem_cons_zero, List.getElem_cons_succ, Act.put, evalT, evalC, evalF, List.setIfInBounds_toArray, List.set_cons_succ, List.set_cons_zero, List.getD_cons_succ, List.getD_cons_zero, Nat.reduceAdd, Nat.reduceMul, Nat.add_zero, Nat.zero_add, Int.toNat_natCast, Int.reduceToNat, List.eraseIdx_cons_succ, List.eraseIdx_cons_zero, cond_true, cond_false])
          all_goals first | (exfalso; simp_all; done) | skip
          have hsc' : ∀ y ∈ c.kids, y.er.size ≤ 1000000 := fun y hy => by
            have := validB_size (h9 y.er (by rw [HT.er_kids]; exact List.mem_map_of_mem hy)); omega
          have hsu' : ∀ y ∈ u.kids, y.er.size ≤ 1000000 := fun y hy => by
            have e : u.er.kids = (wkR t.er l).1.2 := by rw [eu]; rfl
            have := validB_size (v3 y.er (by rw [← e, HT.er_kids]; exact List.mem_map_of_mem hy)); omega
          ((apply C1; (case hg => rfl); (case hd => first | exact hd_false | decide +kernel); (case hxs => rfl); (case hc => exact i_ownAll c _ _ H.per.2.1 (by omega) hsc'); rintro _ _ ⟨us1, a1, c1, rfl, hg, ork, e1, l1⟩; replace H := H.pushRk hg ork; (try simp only [List.set_cons_succ, List.set_cons_zero] at H); refine ⟨_, rfl, _, (by first | exact fun _ _ h => h | exact fun _ _ h => h.tail | exact fun _ _ h => h.unfact (by repeat' (first | exact Stable.true | exact rdF_stable _ | exact iF_stable _ _ | apply Stable.and)) (fun _ _ h => h.2) | exact nofun), H, ?_⟩) <;> try simp only [List.getElem_toArray, List.getElem_cons_zero, List.getElem_cons_succ, Act.put, evalT, evalC, evalF, List.setIfInBounds_toArray, List.set_cons_succ, List.set_cons_zero, List.getD_cons_succ, List.getD_cons_zero, Nat.reduceAdd, Nat.reduceMul, Nat.add_zero, Nat.zero_add, Int.toNat_natCast, Int.reduceToNat, List.eraseIdx_cons_succ, List.eraseIdx_cons_zero, cond_true, cond_false])
          repeat' ((first | (refine T_nil ?_) | ((first | apply U0 | (apply U1; (case hd => decide +kernel)) | (apply U2 (hw := H); (case hd => decide +kernel)) | (apply U3 1; (case hp => rfl); (case hd => decide +kernel)) | (apply U3 2; (case hp => rfl); (case hd => decide +kernel)) | (apply U3 3; (case hp => rfl); (case hd => decide +kernel)) | (apply U3 4; (case hp => rfl); (case hd => decide +kernel)) | (apply U3 5; (case hp => rfl); (case hd => decide +kernel)) | (apply U3 6; (case hp => rfl); (case hd => decide +kernel)) | (apply U3 7; (case hp => rfl); (case hd => decide +kernel)) | (apply U3 8; (case hp => rfl); (case hd => decide +kernel)) | (apply U3 9; (case hp => rfl); (case hd => decide +kernel)) | (apply U3 10; (case hp => rfl); (case hd => decide +kernel)) | (apply U3 11; (case hp => rfl); (case hd => decide +kernel))); (case hg => rfl); (case hy => (first | (apply Yi.a; constructor; all_goals (first | rfl | (constructor <;> omega) | (apply CellIs.own; (case h => repeat constructor); rfl) | (apply Cell3.own; (case h => repeat constructor); all_goals rfl))) | (apply Yi.b; constructor; all_goals (first | rfl | (constructor <;> omega) | (apply CellIs.own; (case h => repeat constructor); rfl) | (apply Cell3.own; (case h => repeat constructor); all_goals rfl))) | (apply Yi.c; constructor; all_goals (first | rfl | (constructor <;> omega) | (apply CellIs.own; (case h => repeat constructor); rfl) | (apply Cell3.own; (case h => repeat constructor); all_goals rfl)))))) | ((first | apply V0 | apply V1 | apply V2 (hw := H)); (case hg => rfl); try decide +kernel) | ((first | refine G0 H ?_ | (refine G1 H (fun _ _ _ _ h => h) (by decide +kernel) ?_; clear H; intro _ H)); simp only [enum, Nat.reduceAdd]) | (apply B0 (hw := H); (case hg => rfl); (case hd => first | exact hd_false | decide +kernel); (case hx => rfl); (case hc => rfl); clear H; intro bx _ H) | (apply B1 (hw := H); (case hg => rfl); (case hd => first | exact hd_false | decide +kernel); clear H; intro ax _ H) | ((apply W0 (hw := H); (case hg => rfl); (case hd => first | exact hd_false | decide +kernel); (case hx => rfl); (case hy => rfl); (case hc => rfl); (case hn => repeat constructor); (case h1 => rfl); clear H; intro _ H; (try dsimp only at H); try simp only [putL, List.set_cons_succ, List.set_cons_zero, evalT, evalC, List.getD_cons_succ, List.getD_cons_zero, Nat.zero_add, Nat.reduceAdd] at H)) | go_step | (apply X0; (case hy => rfl); all_goals (intro hb; simp only [hb]; (try simp only [decide_eq_true_eq, decide_eq_false_iff_not, Bool.not_eq_true', Bool.not_eq_false', Bool.and_eq_true, Bool.or_eq_true, Bool.and_eq_false_iff, Bool.or_eq_false_iff] at hb); try (exfalso; omega)))) <;> try simp only [List.getElem_toArray, List.getElem_cons_zero, List.getElem_cons_succ, Act.put, evalT, evalC, evalF, List.setIfInBounds_toArray, List.set_cons_succ, List.set_cons_zero, List.getD_cons_succ, List.getD_cons_zero, Nat.reduceAdd, Nat.reduceMul, Nat.add_zero, Nat.zero_add, Int.toNat_natCast, Int.reduceToNat, List.eraseIdx_cons_succ, List.eraseIdx_cons_zero, cond_true, cond_false])
          ((apply C1; (case hg => rfl); (case hd => first | exact hd_false | decide +kernel); (case hxs => rfl); (case hc => exact i_ownAll u _ _ H.per.1.2 (by omega) hsu'); rintro _ _ ⟨us2, a2, c2, rfl, hg, ork, e2, l2⟩; replace H := H.pushRk hg ork; (try simp only [List.set_cons_succ, List.set_cons_zero] at H); refine ⟨_, rfl, _, (by first | exact fun _ _ h => h | exact fun _ _ h => h.tail | exact fun _ _ h => h.unfact (by repeat' (first | exact Stable.true | exact rdF_stable _ | exact iF_stable _ _ | apply Stable.and)) (fun _ _ h => h.2) | exact nofun), H, ?_⟩) <;> try simp only [List.getElem_toArray, List.getElem_cons_zero, List.getElem_cons_succ, Act.put, evalT, evalC, evalF, List.setIfInBounds_toArray, List.set_cons_succ, List.set_cons_zero, List.getD_cons_succ, List.getD_cons_zero, Nat.reduceAdd, Nat.reduceMul, Nat.add_zero, Nat.zero_add, Int.toNat_natCast, Int.reduceToNat, List.eraseIdx_cons_succ, List.eraseIdx_cons_zero, cond_true, cond_false])
          repeat' ((first | (refine T_nil ?_) | ((first | apply U0 | (apply U1; (case hd => decide +kernel)) | (apply U2 (hw := H); (case hd => decide +kernel)) | (apply U3 1; (case hp => rfl); (case hd => decide +kernel)) | (apply U3 2; (case hp => rfl); (case hd => decide +kernel)) | (apply U3 3; (case hp => rfl); (case hd => decide +kernel)) | (apply U3 4; (case hp => rfl); (case hd => decide +kernel)) | (apply U3 5; (case hp => rfl); (case hd => decide +kernel)) | (apply U3 6; (case hp => rfl); (case hd => decide +kernel)) | (apply U3 7; (case hp => rfl); (case hd => decide +kernel)) | (apply U3 8; (case hp => rfl); (case hd => decide +kernel)) | (apply U3 9; (case hp => rfl); (case hd => decide +kernel)) | (apply U3 10; (case hp => rfl); (case hd => decide +kernel)) | (apply U3 11; (case hp => rfl); (case hd => decide +kernel))); (case hg => rfl); (case hy => (first | (apply Yi.a; constructor; all_goals (first | rfl | (constructor <;> omega) | (apply CellIs.own; (case h => repeat constructor); rfl) | (apply Cell3.own; (case h => repeat constructor); all_goals rfl))) | (apply Yi.b; constructor; all_goals (first | rfl | (constructor <;> omega) | (apply CellIs.own; (case h => repeat constructor); rfl) | (apply Cell3.own; (case h => repeat constructor); all_goals rfl))) | (apply Yi.c; constructor; all_goals (first | rfl | (constructor <;> omega) | (apply CellIs.own; (case h => repeat constructor); rfl) | (apply Cell3.own; (case h => repeat constructor); all_goals rfl)))))) | ((first | apply V0 | apply V1 | apply V2 (hw := H)); (case hg => rfl); try decide +kernel) | ((first | refine G0 H ?_ | (refine G1 H (fun _ _ _ _ h => h) (by decide +kernel) ?_; clear H; intro _ H)); simp only [enum, Nat.reduceAdd]) | (apply B0 (hw := H); (case hg => rfl); (case hd => first | exact hd_false | decide +kernel); (case hx => rfl); (case hc => rfl); clear H; intro bx _ H) | (apply B1 (hw := H); (case hg => rfl); (case hd => first | exact hd_false | decide +kernel); clear H; intro ax _ H) | ((apply W0 (hw := H); (case hg => rfl); (case hd => first | exact hd_false | decide +kernel); (case hx => rfl); (case hy => rfl); (case hc => rfl); (case hn => repeat constructor); (case h1 => rfl); clear H; intro _ H; (try dsimp only at H); try simp only [putL, List.set_cons_succ, List.set_cons_zero, evalT, evalC, List.getD_cons_succ, List.getD_cons_zero, Nat.zero_add, Nat.reduceAdd] at H)) | ((apply A3 (hw := H) (i := 3) (p := 1); (case hg => rfl); (case hd => first | exact hd_false | decide +kernel); (case hx => rfl); (case hy => rfl); (case hi => rfl); (case hq => rfl); (case h1 => exact flatT_one _); (case hbytes => omega); (case h63 => omega); clear H; intro ra rc _ H; (try simp only [List.set_cons_succ, List.set_cons_zero] at H))) | go_step | (apply X0; (case hy => rfl); all_goals (intro hb; simp only [hb]; (try simp only [decide_eq_true_eq, decide_eq_false_iff_not, Bool.not_eq_true', Bool.not_eq_false', Bool.and_eq_true, Bool.or_eq_true, Bool.and_eq_false_iff, Bool.or_eq_false_iff] at hb); try (exfalso; omega)))) <;> try simp only [List.getElem_toArray, List.getElem_cons_zero, List.getElem_cons_succ, Act.put, evalT, evalC, evalF, List.setIfInBounds_toArray, List.set_cons_succ, List.set_cons_zero, List.getD_cons_succ, List.getD_cons_zero, Nat.reduceAdd, Nat.reduceMul, Nat.add_zero, Nat.zero_add, Int.toNat_natCast, Int.reduceToNat, List.eraseIdx_cons_succ, List.eraseIdx_cons_zero, cond_true, cond_false])
          have H := ((H.drop 1).swap.joinKids).swap
          obtain ⟨a', cap', hv2, H⟩ := H.plantRow (flatT_append us1 us2).symm (by simp) 0 0
          injection hv2 with h1 h2 h3
          subst h1 h3
          ((try simp only [Exit.inBlock, Exit.then]); refine ret_post (res2 rfl (R_tmp rfl) (R_tmp rfl)) ?_; try simp only [List.getD_cons_succ, List.getD_cons_zero])
          have e : ctR c.er.kids t.er l = (c.er.kids ++ (wkR t.er l).1.2, true) := if_pos ⟨hv, ho, hw, by rw [HT.er_len]; omega⟩
          rw [e]
          refine ⟨.mk 0 0 ra rc (us1 ++ us2), ?_, H.ext, H.outTree, ?_⟩
          · simp only [HT.sl, HT.a, HT.kids, HT.cap, List.length_append]
          · rw [HT.er_eq]
            show T.mk 0 0 ((us1 ++ us2).map HT.er) = _
            rw [List.map_append, e1, e2, eu]; rfl
        · have hx8 : ((8 : Int) < (c.kids.length : Int) + u.kids.length) := by omega
          have hd8 : decide ((8 : Int) < (c.kids.length : Int) + u.kids.length) = true := decide_eq_true hx8
          repeat' ((first | (refine T_nil ?_) | ((first | apply U0 | (apply U1; (case hd => decide +kernel)) | (apply U2 (hw := H); (case hd => decide +kernel)) | (apply U3 1; (case hp => rfl); (case hd => decide +kernel)) | (apply U3 2; (case hp => rfl); (case hd => decide +kernel)) | (apply U3 3; (case hp => rfl); (case hd => decide +kernel)) | (apply U3 4; (case hp => rfl); (case hd => decide +kernel)) | (apply U3 5; (case hp => rfl); (case hd => decide +kernel)) | (apply U3 6; (case hp => rfl); (case hd => decide +kernel)) | (apply U3 7; (case hp => rfl); (case hd => decide +kernel)) | (apply U3 8; (case hp => rfl); (case hd => decide +kernel)) | (apply U3 9; (case hp => rfl); (case hd => decide +kernel)) | (apply U3 10; (case hp => rfl); (case hd => decide +kernel)) | (apply U3 11; (case hp => rfl); (case hd => decide +kernel))); (case hg => rfl); (case hy => (first | (apply Yi.a; constructor; all_goals (first | rfl | (constructor <;> omega) | (apply CellIs.own; (case h => repeat constructor); rfl) | (apply Cell3.own; (case h => repeat constructor); all_goals rfl))) | (apply Yi.b; constructor; all_goals (first | rfl | (constructor <;> omega) | (apply CellIs.own; (case h => repeat constructor); rfl) | (apply Cell3.own; (case h => repeat constructor); all_goals rfl))) | (apply Yi.c; constructor; all_goals (first | rfl | (constructor <;> omega) | (apply CellIs.own; (case h => repeat constructor); rfl) | (apply Cell3.own; (case h => repeat constructor); all_goals rfl)))))) | ((first | apply V0 | apply V1 | apply V2 (hw := H)); (case hg => rfl); try decide +kernel) | ((first | refine G0 H ?_ | (refine G1 H (fun _ _ _ _ h => h) (by decide +kernel) ?_; clear H; intro _ H)); simp only [enum, Nat.reduceAdd]) | (apply B0 (hw := H); (case hg => rfl); (case hd => first | exact hd_false | decide +kernel); (case hx => rfl); (case hc => rfl); clear H; intro bx _ H) | (apply B1 (hw := H); (case hg => rfl); (case hd => first | exact hd_false | decide +kernel); clear H; intro ax _ H) | ((apply W0 (hw := H); (case hg => rfl); (case hd => first | exact hd_false | decide +kernel); (case hx => rfl); (case hy => rfl); (case hc => rfl); (case hn => repeat constructor); (case h1 => rfl); clear H; intro _ H; (try dsimp only at H); try simp only [putL, List.set_cons_succ, List.set_cons_zero, evalT, evalC, List.getD_cons_succ, List.getD_cons_zero, Nat.zero_add, Nat.reduceAdd] at H)) | ((simp only [hd8])) | go_step | (apply X0; (case hy => rfl); all_goals (intro hb; simp only [hb]; (try simp only [decide_eq_true_eq, decide_eq_false_iff_not, Bool.not_eq_true', Bool.not_eq_false', Bool.and_eq_true, Bool.or_eq_true, Bool.and_eq_false_iff, Bool.or_eq_false_iff] at hb); try (exfalso; omega)))) <;> try simp only [List.getElem_toArray, List.getElem_cons_zero, List.getElem_cons_succ, Act.put, evalT, evalC, evalF, List.setIfInBounds_toArray, List.set_cons_succ, List.set_cons_zero, List.getD_cons_succ, List.getD_cons_zero, Nat.reduceAdd, Nat.reduceMul, Nat.add_zero, Nat.zero_add, Int.toNat_natCast, Int.reduceToNat, List.eraseIdx_cons_succ, List.eraseIdx_cons_zero, cond_true, cond_false])
          all_goals first | (exfalso; simp_all; done) | skip
          ((try simp only [Exit.inBlock, Exit.then]); refine ret_post (res2 rfl (R_tmp rfl) (R_tmp rfl)) ?_; try simp only [List.getD_cons_succ, List.getD_cons_zero])
          exact fin H (by intro hh; have := hh.2.2.2; rw [HT.er_len] at this; omega)
end Go.Proofs.Ythjbllfcelkajaa
