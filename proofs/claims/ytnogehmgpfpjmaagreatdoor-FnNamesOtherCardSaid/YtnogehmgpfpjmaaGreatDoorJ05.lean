/- Part 5 of the proof. -/
import Derived.Test.YtnogehmgpfpjmaaGreatDoorJ01
import Derived.Test.YtnogehmgpfpjmaaGreatDoorJ02
import Derived.Test.YtnogehmgpfpjmaaGreatDoorJ03
import Derived.Test.YtnogehmgpfpjmaaGreatDoorJ04
import Derived.Stop.IfaceNil
import Derived.Lib.SmallJoins
import Derived.Lib.LaidTab
import Derived.Below
set_option linter.unusedVariables false
set_option linter.unusedSimpArgs false
section
namespace Go.Dk
open Go
theorem Grow.of_below {w w' : World} (h : Go.RowKit.Below w.heap.size w w') : Grow w w' := ⟨h.os, h.tape, h.output, h.size, fun k hk _ => h.block k hk⟩
section
variable {P : Program} {ops : Array Oper} {Q : Exit → Act → World → Prop} {dr : Bool} {fu k : Nat} {rest : List (Nat × Oper)} {a : Act} {w w0 : World} {M Z0 : Zone} {L : List Res} {φ : Fact} {S : World → Prop}
 {d : Option Tmp} {ty : TypeId} {pos : String} {aft : Array Edge} {gd : Option (Nat × Bool)} {x y : Operand} {t t' : TypeId}
theorem N1 {v : Value} {b : Bool} (hw : S w) (hg : Region.wanted ⟨d, .binOp .neq t x (.const .nilIface) t', ty, pos, aft, gd⟩ (yielded ops a.tmps) = true)
   (hd : (!dr || soleB ops ((k, ⟨d, .binOp .neq t x (.const .nilIface) t', ty, pos, aft, gd⟩) :: rest) k ⟨d, .binOp .neq t x (.const .nilIface) t', ty, pos, aft, gd⟩) = true)
   (hk : P.isIface t = true) (hx : a.eval x = v) (hv : (v = .nilIface ∧ b = false) ∨ ((∃ u p, v = .iface u p) ∧ b = true))
   (h : wpT P ops Q dr fu S rest (a.put d (.bool b)) w) : wpT P ops Q dr (fu + 1) S ((k, ⟨d, .binOp .neq t x (.const .nilIface) t', ty, pos, aft, gd⟩) :: rest) a w := by
 have hy : a.eval (.const .nilIface) = .nilIface := rfl
 refine T_go hd hg (w' := w) ?_ (fun _ _ h => h) hw h
 rcases hv with ⟨rfl, rfl⟩ | ⟨⟨u, p, rfl⟩, rfl⟩
 ·simp only [execOp, hx, hy, eqGuard, Sem.run_bind]
  simp [run_neq_nil_nil_at w t hk, Sem.run_bind]
 ·simp only [execOp, hx, hy, eqGuard, Sem.run_bind]
  simp [run_neq_iface_nil w t hk, Sem.run_bind]
end
end Go.Dk
namespace Go.Proofs.YtnogehmgpfpjmaaGreatDoor
open Go Go.Ab Go.Dk
theorem gl_facts {w : World} (h : GL noneZ w) : (∃ m, w.cell? ⟨0, 0, none⟩ = some (.int .i64 m)) ∧
   (∃ ev, w.cell? ⟨1, 0, none⟩ = some ev ∧ (ev = .nilIface ∨ ∃ t p, ev = .iface t p)) ∧
   (∃ ev, w.cell? ⟨2, 0, none⟩ = some ev ∧ (ev = .nilIface ∨ ∃ t p, ev = .iface t p)) ∧
   ∃ t p, w.heap[3]? = some (.cells (Lib.pow10Tab.map fun z => Value.int .u64 z).toArray t p) := by
 obtain ⟨W, ⟨⟨m, h1⟩, ⟨e1, h2, h2'⟩, ⟨e2, h3, h3'⟩, t, p, h4⟩, hk⟩ := h
 exact ⟨⟨m, (cell_keep (hk _ (by decide)).2.2).trans h1⟩, ⟨e1, (cell_keep (hk _ (by decide)).2.2).trans h2, h2'⟩, ⟨e2, (cell_keep (hk _ (by decide)).2.2).trans h3, h3'⟩, t, p, (hk _ (by decide)).2.2.trans h4⟩
theorem tab_is {w : World} (h : GL noneZ w) {n : String} (hn : Tryz.prog.globalNamed n = some 3) : Lib.TabIs Tryz.prog w n .u64 Lib.pow10Tab := by
 obtain ⟨_, _, _, t, p, h4⟩ := gl_facts h
 unfold Lib.TabIs World.var?
 rw [hn]
 simp only [Option.bind_some, h4]
theorem i_Itoa (n : Int) (h0 : 0 ≤ n) (h1 : n ≤ 9223372036854775807) (w : World) (hgl : GL noneZ w) : Calls Tryz.prog 68 #[.int .i64 n] w fun e w' => e = .returned (.string (bytesOf (Lib.itoa n))) ∧ Grow w w' :=
 (Any.strconv_Itoa laysM171 n (by omega) h1 w (tab_is hgl (by kernel_rfl))).mono fun e w' ⟨he, k, os, hw⟩ => ⟨he, by
  subst hw
  refine ⟨rfl, rfl, rfl, ?_, fun b hb _ => ?_⟩
  ·show w.heap.size ≤ (w.heap ++ os).size; simp
  ·show (w.heap ++ os)[b]? = w.heap[b]?
   rw [Array.getElem?_append_left hb]⟩
theorem split_tab : ∀ e ∈ shTab, (Lib.splitB (bytesOf [46]) 0 (Lib.countB (bytesOf e.1) (bytesOf [46])) (bytesOf e.1)).map ByteArray.toList = e.2 ∧ Lib.countB (bytesOf e.1) (bytesOf [46]) + 1 = e.2.length := by decide +kernel
theorem lookup_mem2 {α β : Type} [BEq α] [LawfulBEq α] {a : α} {b : β} : ∀ {l : List (α × β)}, l.lookup a = some b → ∃ e ∈ l, e.1 = a ∧ e.2 = b
 | [], h => by cases h
 | (x1, x2) :: l, h => by
  rw [List.lookup_cons] at h
  cases hb : a == x1 with
  | true =>
   rw [hb] at h
   simp only [Option.some.injEq] at h
   exact ⟨(x1, x2), by simp, (eq_of_beq hb).symm, h⟩
  | false =>
   rw [hb] at h
   obtain ⟨e, he, h1, h2⟩ := lookup_mem2 h
   exact ⟨e, by simp [he], h1, h2⟩
theorem lookup_mem {α β : Type} [BEq α] [LawfulBEq α] {a : α} {b : β} {l : List (α × β)} (h : l.lookup a = some b) : ∃ e ∈ l, e.2 = b := by
 obtain ⟨e, h1, _, h2⟩ := lookup_mem2 h
 exact ⟨e, h1, h2⟩
theorem i_Split (s : ByteArray) (ps : List (List UInt8)) (hs : shTab.lookup s.toList = some ps) (w : World) (hgl : GL noneZ w) : Calls Tryz.prog 69 #[.string s, .string (bytesOf [46])] w fun e w' =>
   ∃ b, e = .returned (.slice (some ⟨b, 0, none⟩) ps.length ps.length) ∧ Grow w w' ∧ w.heap.size ≤ b ∧ w'.heap[b]? = some (.cells ((ps.map bytesOf).map Value.string).toArray 9 (0, 0)) := by
 obtain ⟨⟨m, hm⟩, _⟩ := gl_facts hgl
 have hmem := lookup_mem2 hs
 obtain ⟨⟨l, ps'⟩, he, h1, h2⟩ := hmem
 simp only at h1 h2
 subst h2
 have hsb : s = bytesOf l := by rw [h1]; unfold bytesOf; apply ByteArray.ext; simp [ByteArray.toList_eq]
 subst hsb
 obtain ⟨t1, t2⟩ := split_tab _ he
 simp only at t1 t2
 have hl : l.length ≤ 100 := by
  have : ∀ e ∈ shTab, e.1.length ≤ 100 := by decide
  exact this _ he
 have hsz : (bytesOf l).size < 4294967281 := by show l.toArray.size < _; simp; omega
 have t3 : Lib.splitB (bytesOf [46]) 0 (Lib.countB (bytesOf l) (bytesOf [46])) (bytesOf l) = ps'.map bytesOf := by
  rw [← t1, List.map_map]
  conv => lhs; rw [← List.map_id (Lib.splitB _ _ _ _)]
  apply List.map_congr_left
  intro b _
  show b = bytesOf b.toList
  unfold bytesOf; apply ByteArray.ext; simp [ByteArray.toList_eq]
 refine (Any.strings_Split lays146 (by kernel_rfl) (bytesOf l) (bytesOf [46]) m w hsz hm (by decide)).mono fun e w' ⟨he, hw⟩ => ⟨w.heap.size, ?_, ?_, Nat.le_refl _, ?_⟩
 ·rw [he, t2]
 ·rw [hw]; exact Grow.alloc _ _
 ·rw [hw, t3]; exact alloc_get _ _
theorem ext_drop (s : ByteArray) (i : Nat) : s.extract i s.size = bytesOf (s.data.toList.drop i) := by
 unfold bytesOf; apply ByteArray.ext; apply Array.toList_inj.1
 rw [ByteArray.data_extract, Array.toList_extract]
 show List.take (s.data.size - i) (List.drop i s.data.toList) = _
 rw [List.take_of_length_le (by simp)]
theorem tw_at (p : UInt8 → Bool) : ∀ l : List UInt8, (∀ i, i < (l.takeWhile p).length → ∃ c, l[i]? = some c ∧ p c = true) ∧ (∀ c, l[(l.takeWhile p).length]? = some c → p c = false) ∧ l.take (l.takeWhile p).length = l.takeWhile p ∧ l.drop (l.takeWhile p).length = l.dropWhile p ∧ (l.takeWhile p).length ≤ l.length
 | [] => ⟨by simp, by simp, rfl, rfl, Nat.le_refl _⟩
 | x :: l => by
  obtain ⟨h1, h2, h3, h4, h5⟩ := tw_at p l
  cases hx : p x with
  | true =>
   simp only [List.takeWhile_cons, List.dropWhile_cons, hx, if_true, List.length_cons]
   refine ⟨fun i hi => ?_, fun c hc => h2 c (by simpa using hc), by simp [h3], by simp [h4], by omega⟩
   cases i with
   | zero => exact ⟨x, rfl, hx⟩
   | succ i => exact h1 i (by omega)
  | false =>
   simp only [List.takeWhile_cons, List.dropWhile_cons, hx, Bool.false_eq_true, if_false, List.length_nil]
   exact ⟨fun i hi => by omega, fun c hc => by simp at hc; rw [← hc]; exact hx, rfl, rfl, by omega⟩
theorem i_Atoi (s : ByteArray) (hs : s.size ≤ 1073741824) (w : World) (hgl : GL noneZ w) : Calls Tryz.prog 104 #[.string s] w fun e w' => ∃ (v : Int) (ev : Value) (b : Bool), e = .returned (.tuple #[.int .i64 v, ev]) ∧ Grow w w' ∧
   ((ev = .nilIface ∧ b = false) ∨ ((∃ u p, ev = .iface u p) ∧ b = true)) ∧ (b = false → Lib.atoiAll s.data.toList = .ok v) ∧ (b = true → ∀ v, Lib.atoiAll s.data.toList ≠ .ok v) := by
 obtain ⟨_, ⟨e1, h1, h1'⟩, ⟨e2, h2, h2'⟩, _⟩ := gl_facts hgl
 rcases h : Lib.atoiAll s.data.toList with v | _ | _
 ·refine (Any.strconv_Atoi_ok laysC172 s (by omega) v h w).mono fun e w' ⟨he, hw⟩ => ⟨v, .nilIface, false, he, ?_, .inl ⟨rfl, rfl⟩, fun _ => rfl, fun h => by cases h⟩
  rcases hw with rfl | ⟨t, rfl⟩
  ·exact Ext.refl _ _
  ·exact Grow.of_below (Go.Joins.below_bytesWorld _ w _ t (Nat.le_refl _))
 ·exact (Any.strconv_Atoi_syntax laysC172 s (by omega) h e1 w h1 h1').mono fun e w' ⟨N, he, _, _, hb⟩ => ⟨_, _, true, he, Grow.of_below hb, .inr ⟨⟨_, _, rfl⟩, rfl⟩, fun h => (by cases h), fun _ v hv => (by cases hv)⟩
 ·exact (Any.strconv_Atoi_range laysC172 s (by omega) h e2 w h2 h2').mono fun e w' ⟨N, he, _, _, hb⟩ => ⟨_, _, true, he, Grow.of_below hb, .inr ⟨⟨_, _, rfl⟩, rfl⟩, fun h => (by cases h), fun _ v hv => (by cases hv)⟩
attribute [local irreducible] Calls
set_option maxRecDepth 100000 in
set_option maxHeartbeats 1000000 in
theorem i_readNumber (s : ByteArray) (hs : s.size ≤ 1073741824) (w : World) (hgl : GL noneZ w) : Calls Tryz.prog 65 #[.string s] w fun e w' => e = .returned (.tuple #[.int .i64 (rnN s.toList), .string (bytesOf (rnR s.toList))]) ∧ Grow w w' := by
 have H := St.init w noneZ noneZ Stable.true trivial
 have hsl : s.toList = s.data.toList := ByteArray.toList_eq s
 have hsz : s.data.toList.length = s.size := by rw [Array.length_toList]; rfl
 obtain ⟨d1, d2, d3, d4, d5⟩ := tw_at digB s.data.toList
 obtain ⟨K, hK⟩ : ∃ K, (s.data.toList.takeWhile digB).length = K := ⟨_, rfl⟩
 rw [hK] at d1 d2 d3 d4 d5
 have hdg : dgs s.toList = s.data.toList.take K := by rw [hsl, d3]; rfl
 have hdr : s.toList.dropWhile digB = s.data.toList.drop K := by rw [hsl, d4]
 have hby : ∀ i c, s.data.toList[i]? = some c → byteAt s i = c := fun i c h => by unfold byteAt; rw [h]; rfl
 go_enter Tryz.func65, Tryz.ntmps65
 repeat' ((first | (refine T_nil ?_) | ((first | apply U0 | (apply U1; (case hd => decide +kernel)) | (apply U2 (hw := H); (case hd => decide +kernel)) | (apply U3 1; (case hp => rfl); (case hd => decide +kernel)) | (apply U3 2; (case hp => rfl); (case hd => decide +kernel)) | (apply U3 3; (case hp => rfl); (case hd => decide +kernel)) | (apply U3 4; (case hp => rfl); (case hd => decide +kernel)) | (apply U3 5; (case hp => rfl); (case hd => decide +kernel)) | (apply U3 6; (case hp => rfl); (case hd => decide +kernel)) | (apply U3 7; (case hp => rfl); (case hd => decide +kernel)) | (apply U3 8; (case hp => rfl); (case hd => decide +kernel)) | (apply U3 9; (case hp => rfl); (case hd => decide +kernel)) | (apply U3 10; (case hp => rfl); (case hd => decide +kernel)) | (apply U3 11; (case hp => rfl); (case hd => decide +kernel))); (case hg => rfl); (case hy => (first | (apply Yi.a; constructor; all_goals (first | rfl | (constructor <;> omega) | (apply CellIs.own; (case h => repeat constructor); rfl) | (apply Cell3.own; (case h => repeat constructor); all_goals rfl))) | (apply Yi.b; constructor; all_goals (first | rfl | (constructor <;> omega) | (apply CellIs.own; (case h => repeat constructor); rfl) | (apply Cell3.own; (case h => repeat constructor); all_goals rfl))) | (apply Yi.c; constructor; all_goals (first | rfl | (constructor <;> omega) | (apply CellIs.own; (case h => repeat constructor); rfl) | (apply Cell3.own; (case h => repeat constructor); all_goals rfl)))))) | ((first | apply V0 | apply Go.Dk.V1 | apply V2 (hw := H)); (case hg => rfl); try decide +kernel) | ((first | refine G0 H ?_ | (refine G1 H (fun _ _ _ _ h => h) (by decide +kernel) ?_; clear H; intro _ H)); simp only [enum, Nat.reduceAdd]) | (apply B0 (hw := H); (case hg => rfl); (case hd => first | exact hd_false | decide +kernel); (case hx => rfl); (case hc => rfl); clear H; intro bx _ H) | (apply B1 (hw := H); (case hg => rfl); (case hd => first | exact hd_false | decide +kernel); clear H; intro ax _ H) | go_step | (apply X0; (case hy => rfl); all_goals (intro hb; simp only [hb]; (try simp only [decide_eq_true_eq, decide_eq_false_iff_not, Bool.not_eq_true', Bool.not_eq_false', Bool.and_eq_true, Bool.or_eq_true, Bool.and_eq_false_iff, Bool.or_eq_false_iff] at hb); try (exfalso; omega)))) <;> try simp only [List.getElem_toArray, List.getElem_cons_zero, List.getElem_cons_succ, Act.put, evalT, evalC, evalF, List.setIfInBounds_toArray, List.set_cons_succ, List.set_cons_zero, List.getD_cons_succ, List.getD_cons_zero, Nat.reduceAdd, Nat.reduceMul, Nat.add_zero, Nat.zero_add, Int.toNat_natCast, Int.reduceToNat, List.eraseIdx_cons_succ, List.eraseIdx_cons_zero, cond_true, cond_false])
 go_loopg [4] K (fun g v wr => ∃ (i : Nat), v = .int .i64 i ∧ i + g = K ∧ St w noneZ noneZ [] trueF wr)
 case atStart => exact ⟨0, rfl, by omega, H⟩
 case round =>
  clear H
  obtain ⟨i, rfl, hi, H⟩ := hrel
  by_cases hlt : i < K
  ·obtain ⟨c, hc, hd⟩ := d1 i hlt
   have hlt2 : i < s.size := by rw [← hsz]; exact (List.getElem?_eq_some_iff.1 hc).1
   have hb := hby i c hc
   simp only [digB, Bool.and_eq_true, decide_eq_true_eq] at hd
   have hlo : 48 ≤ (byteAt s i).toNat ∧ (byteAt s i).toNat ≤ 57 := by rw [hb]; exact hd
   repeat' ((first | (refine T_nil ?_) | ((first | apply U0 | (apply U1; (case hd => decide +kernel)) | (apply U2 (hw := H); (case hd => decide +kernel)) | (apply U3 1; (case hp => rfl); (case hd => decide +kernel)) | (apply U3 2; (case hp => rfl); (case hd => decide +kernel)) | (apply U3 3; (case hp => rfl); (case hd => decide +kernel)) | (apply U3 4; (case hp => rfl); (case hd => decide +kernel)) | (apply U3 5; (case hp => rfl); (case hd => decide +kernel)) | (apply U3 6; (case hp => rfl); (case hd => decide +kernel)) | (apply U3 7; (case hp => rfl); (case hd => decide +kernel)) | (apply U3 8; (case hp => rfl); (case hd => decide +kernel)) | (apply U3 9; (case hp => rfl); (case hd => decide +kernel)) | (apply U3 10; (case hp => rfl); (case hd => decide +kernel)) | (apply U3 11; (case hp => rfl); (case hd => decide +kernel))); (case hg => rfl); (case hy => (first | (apply Yi.a; constructor; all_goals (first | rfl | (constructor <;> omega) | (apply CellIs.own; (case h => repeat constructor); rfl) | (apply Cell3.own; (case h => repeat constructor); all_goals rfl))) | (apply Yi.b; constructor; all_goals (first | rfl | (constructor <;> omega) | (apply CellIs.own; (case h => repeat constructor); rfl) | (apply Cell3.own; (case h => repeat constructor); all_goals rfl))) | (apply Yi.c; constructor; all_goals (first | rfl | (constructor <;> omega) | (apply CellIs.own; (case h => repeat constructor); rfl) | (apply Cell3.own; (case h => repeat constructor); all_goals rfl)))))) | ((first | apply V0 | apply Go.Dk.V1 | apply V2 (hw := H)); (case hg => rfl); try decide +kernel) | ((first | refine G0 H ?_ | (refine G1 H (fun _ _ _ _ h => h) (by decide +kernel) ?_; clear H; intro _ H)); simp only [enum, Nat.reduceAdd]) | (apply B0 (hw := H); (case hg => rfl); (case hd => first | exact hd_false | decide +kernel); (case hx => rfl); (case hc => rfl); clear H; intro bx _ H) | (apply B1 (hw := H); (case hg => rfl); (case hd => first | exact hd_false | decide +kernel); clear H; intro ax _ H) | go_step | (apply X0; (case hy => rfl); all_goals (intro hb; simp only [hb]; (try simp only [decide_eq_true_eq, decide_eq_false_iff_not, Bool.not_eq_true', Bool.not_eq_false', Bool.and_eq_true, Bool.or_eq_true, Bool.and_eq_false_iff, Bool.or_eq_false_iff] at hb); try (exfalso; omega)))) <;> try simp only [List.getElem_toArray, List.getElem_cons_zero, List.getElem_cons_succ, Act.put, evalT, evalC, evalF, List.setIfInBounds_toArray, List.set_cons_succ, List.set_cons_zero, List.getD_cons_succ, List.getD_cons_zero, Nat.reduceAdd, Nat.reduceMul, Nat.add_zero, Nat.zero_add, Int.toNat_natCast, Int.reduceToNat, List.eraseIdx_cons_succ, List.eraseIdx_cons_zero, cond_true, cond_false])
   all_goals first | (exfalso; omega; done) | skip
   go_roundg (gk - 1)
   case measure => omega
   case rel => exact ⟨i + 1, by simp, by omega, H⟩
  ·obtain rfl : i = K := by omega
   have hend : (∃ c, s.data.toList[i]? = some c ∧ digB c = false) ∨ ¬ ((i : Int) < (s.size : Int)) := by
    cases hc : s.data.toList[i]? with
    | some c => exact .inl ⟨c, rfl, d2 c hc⟩
    | none => right; rw [List.getElem?_eq_none_iff] at hc; omega
   have hcut : s.extract 0 i = bytesOf (s.data.toList.take i) := by unfold bytesOf; apply ByteArray.ext; apply Array.toList_inj.1; simp
   have hat : (s.extract 0 i).data.toList = dgs s.toList := by rw [hcut, hdg]; rfl
   have hK2 : i ≤ s.size := by omega
   have hsz2 : (s.extract 0 i).size ≤ 1073741824 := by rw [ByteArray.size_extract]; omega
   have hend : ((byteAt s i).toNat < 48 ∨ 57 < (byteAt s i).toNat) ∨ ¬ ((i : Int) < (s.size : Int)) := by
    rcases hend with ⟨c, hc, hd⟩ | h
    ·left
     rw [hby i c hc]
     simp only [digB, Bool.and_eq_false_iff, decide_eq_false_iff_not] at hd
     omega
    ·exact .inr h
   repeat' ((first | (refine T_nil ?_) | ((first | apply U0 | (apply U1; (case hd => decide +kernel)) | (apply U2 (hw := H); (case hd => decide +kernel)) | (apply U3 1; (case hp => rfl); (case hd => decide +kernel)) | (apply U3 2; (case hp => rfl); (case hd => decide +kernel)) | (apply U3 3; (case hp => rfl); (case hd => decide +kernel)) | (apply U3 4; (case hp => rfl); (case hd => decide +kernel)) | (apply U3 5; (case hp => rfl); (case hd => decide +kernel)) | (apply U3 6; (case hp => rfl); (case hd => decide +kernel)) | (apply U3 7; (case hp => rfl); (case hd => decide +kernel)) | (apply U3 8; (case hp => rfl); (case hd => decide +kernel)) | (apply U3 9; (case hp => rfl); (case hd => decide +kernel)) | (apply U3 10; (case hp => rfl); (case hd => decide +kernel)) | (apply U3 11; (case hp => rfl); (case hd => decide +kernel))); (case hg => rfl); (case hy => (first | (apply Yi.a; constructor; all_goals (first | rfl | (constructor <;> omega) | (apply CellIs.own; (case h => repeat constructor); rfl) | (apply Cell3.own; (case h => repeat constructor); all_goals rfl))) | (apply Yi.b; constructor; all_goals (first | rfl | (constructor <;> omega) | (apply CellIs.own; (case h => repeat constructor); rfl) | (apply Cell3.own; (case h => repeat constructor); all_goals rfl))) | (apply Yi.c; constructor; all_goals (first | rfl | (constructor <;> omega) | (apply CellIs.own; (case h => repeat constructor); rfl) | (apply Cell3.own; (case h => repeat constructor); all_goals rfl)))))) | ((first | apply V0 | apply Go.Dk.V1 | apply V2 (hw := H)); (case hg => rfl); try decide +kernel) | ((first | refine G0 H ?_ | (refine G1 H (fun _ _ _ _ h => h) (by decide +kernel) ?_; clear H; intro _ H)); simp only [enum, Nat.reduceAdd]) | (apply B0 (hw := H); (case hg => rfl); (case hd => first | exact hd_false | decide +kernel); (case hx => rfl); (case hc => rfl); clear H; intro bx _ H) | (apply B1 (hw := H); (case hg => rfl); (case hd => first | exact hd_false | decide +kernel); clear H; intro ax _ H) | ((apply C1; (case hg => rfl); (case hd => first | exact hd_false | decide +kernel); (case hxs => rfl); (case hc => exact i_Atoi (s.extract 0 i) hsz2 _ (hgl.now H.ext)); rintro _ _ ⟨v, ev, b, rfl, hg, hev, hb0, hb1⟩; replace H := H.grow hg; (try simp only [List.set_cons_succ, List.set_cons_zero] at H); refine ⟨_, rfl, _, (by first | exact fun _ _ h => h | exact fun _ _ h => h.tail | exact fun _ _ h => h.unfact (by repeat' (first | exact Stable.true | exact rdF_stable _ | exact iF_stable _ _ | apply Stable.and)) (fun _ _ h => h.2) | exact nofun), H, ?_⟩)) | go_step | (apply X0; (case hy => rfl); all_goals (intro hb; simp only [hb]; (try simp only [decide_eq_true_eq, decide_eq_false_iff_not, Bool.not_eq_true', Bool.not_eq_false', Bool.and_eq_true, Bool.or_eq_true, Bool.and_eq_false_iff, Bool.or_eq_false_iff] at hb); try (exfalso; omega)))) <;> try simp only [List.getElem_toArray, List.getElem_cons_zero, List.getElem_cons_succ, Act.put, evalT, evalC, evalF, List.setIfInBounds_toArray, List.set_cons_succ, List.set_cons_zero, List.getD_cons_succ, List.getD_cons_zero, Nat.reduceAdd, Nat.reduceMul, Nat.add_zero, Nat.zero_add, Int.toNat_natCast, Int.reduceToNat, List.eraseIdx_cons_succ, List.eraseIdx_cons_zero, cond_true, cond_false])
   all_goals first | (exfalso; omega; done) | skip
   all_goals
    (rw [hat] at hb0 hb1
     apply N1 H
     (case hg => rfl)
     (case hd => exact hd_false)
     (case hk => kernel_rfl)
     (case hx => rfl)
     (case hv => exact hev)
     simp only [List.getElem_toArray, List.getElem_cons_zero, List.getElem_cons_succ, Act.put, evalT, evalC, evalF, List.setIfInBounds_toArray, List.set_cons_succ, List.set_cons_zero, List.getD_cons_succ, List.getD_cons_zero, Nat.reduceAdd, Nat.reduceMul, Nat.add_zero, Nat.zero_add, Int.toNat_natCast, Int.reduceToNat, List.eraseIdx_cons_succ, List.eraseIdx_cons_zero, cond_true, cond_false]
     cases b
     all_goals
      (repeat' ((first | (refine T_nil ?_) | ((first | apply U0 | (apply U1; (case hd => decide +kernel)) | (apply U2 (hw := H); (case hd => decide +kernel)) | (apply U3 1; (case hp => rfl); (case hd => decide +kernel)) | (apply U3 2; (case hp => rfl); (case hd => decide +kernel)) | (apply U3 3; (case hp => rfl); (case hd => decide +kernel)) | (apply U3 4; (case hp => rfl); (case hd => decide +kernel)) | (apply U3 5; (case hp => rfl); (case hd => decide +kernel)) | (apply U3 6; (case hp => rfl); (case hd => decide +kernel)) | (apply U3 7; (case hp => rfl); (case hd => decide +kernel)) | (apply U3 8; (case hp => rfl); (case hd => decide +kernel)) | (apply U3 9; (case hp => rfl); (case hd => decide +kernel)) | (apply U3 10; (case hp => rfl); (case hd => decide +kernel)) | (apply U3 11; (case hp => rfl); (case hd => decide +kernel))); (case hg => rfl); (case hy => (first | (apply Yi.a; constructor; all_goals (first | rfl | (constructor <;> omega) | (apply CellIs.own; (case h => repeat constructor); rfl) | (apply Cell3.own; (case h => repeat constructor); all_goals rfl))) | (apply Yi.b; constructor; all_goals (first | rfl | (constructor <;> omega) | (apply CellIs.own; (case h => repeat constructor); rfl) | (apply Cell3.own; (case h => repeat constructor); all_goals rfl))) | (apply Yi.c; constructor; all_goals (first | rfl | (constructor <;> omega) | (apply CellIs.own; (case h => repeat constructor); rfl) | (apply Cell3.own; (case h => repeat constructor); all_goals rfl)))))) | ((first | apply V0 | apply Go.Dk.V1 | apply V2 (hw := H)); (case hg => rfl); try decide +kernel) | ((first | refine G0 H ?_ | (refine G1 H (fun _ _ _ _ h => h) (by decide +kernel) ?_; clear H; intro _ H)); simp only [enum, Nat.reduceAdd]) | (apply B0 (hw := H); (case hg => rfl); (case hd => first | exact hd_false | decide +kernel); (case hx => rfl); (case hc => rfl); clear H; intro bx _ H) | (apply B1 (hw := H); (case hg => rfl); (case hd => first | exact hd_false | decide +kernel); clear H; intro ax _ H) | go_step | (apply X0; (case hy => rfl); all_goals (intro hb; simp only [hb]; (try simp only [decide_eq_true_eq, decide_eq_false_iff_not, Bool.not_eq_true', Bool.not_eq_false', Bool.and_eq_true, Bool.or_eq_true, Bool.and_eq_false_iff, Bool.or_eq_false_iff] at hb); try (exfalso; omega)))) <;> try simp only [List.getElem_toArray, List.getElem_cons_zero, List.getElem_cons_succ, Act.put, evalT, evalC, evalF, List.setIfInBounds_toArray, List.set_cons_succ, List.set_cons_zero, List.getD_cons_succ, List.getD_cons_zero, Nat.reduceAdd, Nat.reduceMul, Nat.add_zero, Nat.zero_add, Int.toNat_natCast, Int.reduceToNat, List.eraseIdx_cons_succ, List.eraseIdx_cons_zero, cond_true, cond_false])
       ((try simp only [Exit.inBlock, Exit.then]); refine ret_post (res2 rfl (R_tmp rfl) (R_tmp rfl)) ?_; try simp only [List.getD_cons_succ, List.getD_cons_zero])))
   all_goals first
    | (have e1 : rnN s.toList = v := by unfold rnN; rw [hb0 rfl]
       have e2 : rnR s.toList = s.data.toList.drop i := by unfold rnR; rw [hb0 rfl]; exact hdr
       rw [e1, e2]
       have e3 := ext_drop s i
       rw [← e3]
       exact ⟨rfl, H.ext⟩)
    | (have e1 : rnN s.toList = -1 := by
         unfold rnN
         cases h : Lib.atoiAll (dgs s.toList) with
         | ok v => exact absurd h (hb1 rfl v)
         | _ => rfl
       have e2 : rnR s.toList = [] := by
        unfold rnR
        cases h : Lib.atoiAll (dgs s.toList) with
        | ok v => exact absurd h (hb1 rfl v)
        | _ => rfl
       rw [e1, e2]
       exact ⟨rfl, H.ext⟩)
end Go.Proofs.YtnogehmgpfpjmaaGreatDoor
end
section
namespace Go.Proofs.YtnogehmgpfpjmaaGreatDoor
open Go Go.Ab Go.Dk
theorem primF_some {f : FuncId} {g : List V1 → OR} (h : primF f = some g) : (f = 65 ∧ g = rnP) ∨ (f = 68 ∧ g = itP) ∨ (f = 69 ∧ g = spP) := by
 unfold primF at h
 have key : ∀ (a : Nat) (x y : Option (List V1 → OR)), cond (Nat.beq f a) x y = some g → (f = a ∧ x = some g) ∨ y = some g := by
  intro a x y h
  cases hb : Nat.beq f a with
  | true => rw [hb] at h; exact .inl ⟨Nat.eq_of_beq_eq_true hb, h⟩
  | false => rw [hb] at h; exact .inr h
 rcases key _ _ _ h with ⟨h1, h2⟩ | h
 ·first | exact .inl ⟨h1, (Option.some.inj h2).symm⟩ | exact .inr (.inl ⟨h1, (Option.some.inj h2).symm⟩) | exact .inr (.inr ⟨h1, (Option.some.inj h2).symm⟩)
 rcases key _ _ _ h with ⟨h1, h2⟩ | h
 ·first | exact .inl ⟨h1, (Option.some.inj h2).symm⟩ | exact .inr (.inl ⟨h1, (Option.some.inj h2).symm⟩) | exact .inr (.inr ⟨h1, (Option.some.inj h2).symm⟩)
 rcases key _ _ _ h with ⟨h1, h2⟩ | h
 ·first | exact .inl ⟨h1, (Option.some.inj h2).symm⟩ | exact .inr (.inl ⟨h1, (Option.some.inj h2).symm⟩) | exact .inr (.inr ⟨h1, (Option.some.inj h2).symm⟩)
 ·cases h
theorem inv_out {w0 M Z0 G args vals w w'} (hI : InvG w0 M Z0 0 G ⟨args, []⟩ vals w) (hg : Grow w w') {outs : List V1} {xs : List Value} (h : All2 (RV [] (fun b => Go.Dk.zone w0 Z0 [] b ∨ w.heap.size ≤ b) w') (outs.map .v) xs) :
   ∃ G', InvG w0 M Z0 ([] : List AObj).length G' ⟨outs.map .v, []⟩ xs w' ∧ UpW G G' := by
 have hG : G = [] := hI.st.per.2.nil_inv
 subst hG
 have s0 : St w0 M Z0 [] (relF ⟨args, []⟩ [] vals) w := hI.st
 have st : St w0 M Z0 [] (relF ⟨outs.map .v, []⟩ [] xs) w' := (s0.call hg (relF_stable _ _ _) ⟨h, All2.nil⟩).unfact (relF_stable _ _ _) (fun _ _ h => h.1)
 exact ⟨[], ⟨st, fun j _ hl => by simp at hl, hI.mz⟩, UpW.refl _⟩
theorem inv_gl {w0 M Z0 G args vals w} (hI : InvG w0 M Z0 0 G ⟨args, []⟩ vals w) : GL noneZ w := hI.mz.2.now hI.st.ext
theorem hprim : PrimsOK Tryz.prog SS := by
 intro f g args out hf hg w0 M Z0 G vals w hI
 have hgl := inv_gl hI
 rcases primF_some hf with ⟨rfl, rfl⟩ | ⟨rfl, rfl⟩ | ⟨rfl, rfl⟩
 ·unfold rnP at hg
  split at hg
  ·rename_i s
   split at hg
   ·rename_i hs
    obtain rfl := (Option.some.inj hg)
    obtain ⟨x, xs, rfl, h1, h2⟩ := hI.st.per.1.cons_inv
    obtain rfl := h2.nil_inv
    obtain rfl := str_inv h1
    refine (i_readNumber s hs w hgl).mono fun e w' ⟨he, hgr⟩ => ?_
    obtain ⟨G', h3, h4⟩ := inv_out hI hgr (outs := [.one (.int .i64 (rnN s.toList)), .one (.str (bytesOf (rnR s.toList)))]) (xs := [.int .i64 (rnN s.toList), .string (bytesOf (rnR s.toList))]) (All2.cons ⟨rfl, fun _ => rfl⟩ (All2.cons ⟨rfl, fun _ => rfl⟩ All2.nil))
    exact ⟨[.int .i64 (rnN s.toList), .string (bytesOf (rnR s.toList))], G', he, h3, h4⟩
   ·cases hg
  ·cases hg
 ·unfold itP at hg
  split at hg
  ·rename_i n
   split at hg
   ·rename_i hn
    obtain rfl := (Option.some.inj hg)
    obtain ⟨x, xs, rfl, h1, h2⟩ := hI.st.per.1.cons_inv
    obtain rfl := h2.nil_inv
    obtain rfl := int_inv h1
    refine (i_Itoa n hn.1 hn.2 w hgl).mono fun e w' ⟨he, hgr⟩ => ?_
    obtain ⟨G', h3, h4⟩ := inv_out hI hgr (outs := [.one (.str (bytesOf (Lib.itoa n)))]) (xs := [.string (bytesOf (Lib.itoa n))]) (All2.cons ⟨rfl, fun _ => rfl⟩ All2.nil)
    exact ⟨[.string (bytesOf (Lib.itoa n))], G', he, h3, h4⟩
   ·cases hg
  ·cases hg
 ·unfold spP at hg
  split at hg
  ·rename_i s d
   split at hg
   ·rename_i hd
    cases hp : shTab.lookup s.toList with
    | none => rw [hp] at hg; cases hg
    | some ps =>
     rw [hp] at hg
     obtain rfl := (Option.some.inj hg)
     obtain ⟨x, xs, rfl, h1, h2⟩ := hI.st.per.1.cons_inv
     obtain ⟨y, ys, rfl, h3, h4⟩ := h2.cons_inv
     obtain rfl := h4.nil_inv
     obtain rfl := str_inv h1
     obtain rfl := str_inv h3
     have hdb : d = bytesOf [46] := by unfold bytesOf; apply ByteArray.ext; apply Array.toList_inj.1; rw [← ByteArray.toList_eq]; exact hd
     subst hdb
     refine (i_Split s ps hp w hgl).mono fun e w' ⟨b, he, hgr, hb, hc⟩ => ?_
     have hlen : ps.length ≤ 100 := by
      have : ∀ e ∈ shTab, e.2.length ≤ 100 := by decide
      obtain ⟨q, hq, hq2⟩ := lookup_mem hp
      have := this _ hq
      rw [hq2] at this; exact this
     obtain ⟨G', h5, h6⟩ := inv_out hI hgr (outs := [.one (.fr (.ss (ps.map bytesOf)))]) (xs := [.slice (some ⟨b, 0, none⟩) ps.length ps.length]) (All2.cons ⟨⟨some ⟨b, 0, none⟩, ps.length, (ps.map bytesOf).map .string, by simp [SD.len], by simp [SD.len], by simp only [SD.len, maxLen, List.length_map]; omega, rfl, .inr ⟨b, 0, rfl, .inr hb, fun i v hi => by
      simp only [World.cell?, hc]
      simpa using hi⟩⟩, fun _ => rfl⟩ All2.nil)
     exact ⟨[.slice (some ⟨b, 0, none⟩) ps.length ps.length], G', he, h5, h6⟩
   ·cases hg
  ·cases hg
end Go.Proofs.YtnogehmgpfpjmaaGreatDoor
end
section
namespace Go.Proofs.YtnogehmgpfpjmaaGreatDoor
open Go Go.Ab Go.Dk
def Ev (f : FuncId) (args : List V1) (h : List AObj) (r : List V1 × List AObj) : Prop := ∃ N, ∀ n, N ≤ n → FF n f args h = some r
theorem hibX (f : FuncId) (h : Nat.beq f 117 = true) : extIB Tryz.prog f := by
 have : f = 117 := Nat.eq_of_beq_eq_true h
 subst this
 exact XIB.out
theorem hib : ∀ f, SS.D.ib f = true → extIB Tryz.prog f := by
 intro f hf
 first
 | exact hibX f hf
 | exact absurd hf (by decide)
 | cases hf
-- hprim: see XPr, XPq
theorem ev_law {f : FuncId} {fn : Func} {args : List V1} {vals : List Value} {w : World} (hfn : Tryz.prog.funcs[f]? = some fn) (hb : fn.body.isSome = true) (hr : All2 (RV [] anyB w) (args.map .v) vals) (hgl : GL noneZ w)
   (h : Ev f args [] ([.one (.bool true)], [])) : Calls Tryz.prog f vals.toArray w fun e w' => e = .returned (.bool true) ∧ Grow w w' := by
 obtain ⟨N, h⟩ := h
 exact abs_law hprim hib hfn hb hr hgl (h N (Nat.le_refl N))
theorem Ev.of {f : FuncId} {args : List V1} {h : List AObj} {r : List V1 × List AObj} (N : Nat) (hh : ∀ n, N ≤ n → FF (n + 1) f args h = some r) : Ev f args h r :=
 ⟨N + 1, fun n hn => by obtain ⟨m, rfl⟩ : ∃ m, n = m + 1 := ⟨n - 1, by omega⟩; exact hh m (by omega)⟩
theorem wrap64 {a : Int} (h : -9223372036854775808 ≤ a ∧ a ≤ 9223372036854775807) : IntKind.i64.wrap a = a := IntWalk.i64_in _ h
theorem ik_self (a : IntKind) : ikEq a a = true := by simp [ikEq]
theorem nb_self (a : Nat) : Nat.beq a a = true := Nat.beq_refl a
theorem cond_dec {α : Type} (p : Prop) [Decidable p] (a b : α) : cond (decide p) a b = if p then a else b := by by_cases h : p <;> simp [h]
theorem byte_bd (c : UInt8) : 0 ≤ (c.toNat : Int) ∧ (c.toNat : Int) ≤ 255 := by have := c.toNat_lt; omega
theorem byte_rt (c : UInt8) : UInt8.ofNat ((c.toNat : Int)).toNat = c := by simp
theorem byte_ok (c : UInt8) : (decide (0 ≤ (c.toNat : Int)) && decide ((c.toNat : Int) ≤ 255)) = true := by have := byte_bd c; simp; omega
theorem wrapB (c : UInt8) : IntKind.i64.wrap (c.toNat : Int) = c.toNat := wrap64 (by have := byte_bd c; omega)
section
variable {V W : Type} (l : List V1) (c : List SV) (o : List AObj)
theorem c_rInt (a : IntKind) (n : Int) (k) : rInt a (.one (.int a n) :: l) k = k n l := by simp [rInt, ikEq]
theorem c_rBool (b : Bool) (k) : rBool (.one (.bool b) :: l) k = k b l := rfl
theorem c_rStr (x : ByteArray) (k) : rStr (.one (.str x) :: l) k = k x l := rfl
theorem c_rTs (x : List T) (k) : rTs (.one (.fr (.ts x)) :: l) k = k x l := rfl
theorem c_rIs (x : List Int) (k) : rIs (.one (.fr (.is x)) :: l) k = k x l := rfl
theorem c_rIss (x : List (List Int)) (k) : rIss (.one (.fr (.iss x)) :: l) k = k x l := rfl
theorem c_rSs (x : List ByteArray) (k) : rSs (.one (.fr (.ss x)) :: l) k = k x l := rfl
theorem c_rBs (x : List UInt8) (k) : rBs (.one (.fr (.bs x)) :: l) k = k x l := rfl
theorem c_rTerm (a b : Int) (x : List T) (k) : rTerm (.agg [.int .i64 a, .int .i64 b, .fr (.ts x)] :: l) k = k (.mk a b x) l := rfl
theorem c_rOwnT (j : Nat) (a b : Int) (k) : rOwnT j (.agg [.int .i64 a, .int .i64 b, .own j 0] :: l) k = k a b l := by simp [rOwnT]
theorem c_rOwn (j : Nat) (k) : rOwn j (.one (.own j 0) :: l) k = k l := by simp [rOwn]
theorem c_rPtr (j : Nat) (k) : rPtr j (.one (.ptr j 0) :: l) k = k l := by simp [rPtr]
theorem c_nilV (k) : nilV [] k = k := rfl
theorem c_nilO (k) : nilO [] k = k := rfl
theorem c_objC (x : List SV) (k) : objC (.cells x :: o) k = k x o := rfl
theorem c_dropC (x : AObj) (k) : dropC (x :: o) k = k o := rfl
theorem c_intC (a : IntKind) (n : Int) (k) : intC a (.int a n :: c) k = k n c := by simp [intC, ikEq]
theorem c_boolC (b : Bool) (k) : boolC (.bool b :: c) k = k b c := rfl
theorem c_strC (x : ByteArray) (k) : strC (.str x :: c) k = k x c := rfl
theorem c_tsC (x : List T) (k) : tsC (.fr (.ts x) :: c) k = k x c := rfl
theorem c_isC (x : List Int) (k) : isC (.fr (.is x) :: c) k = k x c := rfl
theorem c_issC (x : List (List Int)) (k) : issC (.fr (.iss x) :: c) k = k x c := rfl
theorem c_ssC (x : List ByteArray) (k) : ssC (.fr (.ss x) :: c) k = k x c := rfl
theorem c_bsC (x : List UInt8) (k) : bsC (.fr (.bs x) :: c) k = k x c := rfl
theorem c_anyC (x : SV) (k) : anyC (x :: c) k = k c := rfl
theorem c_nilC (k) : nilC [] k = k := rfl
theorem c_arrTs (e : TypeId) (x : List T) (k) : arrTsC e (.arr e (.ts x) 0 false :: o) k = k x o := by simp [arrTsC]
theorem c_arrIs (e : TypeId) (x : List Int) (k) : arrIsC e (.arr e (.is x) 0 false :: o) k = k x o := by simp [arrIsC]
theorem c_arrIss (e : TypeId) (x : List (List Int)) (k) : arrIssC e (.arr e (.iss x) 0 false :: o) k = k x o := by simp [arrIssC]
theorem c_arrSs (e : TypeId) (x : List ByteArray) (k) : arrSsC e (.arr e (.ss x) 0 false :: o) k = k x o := by simp [arrSsC]
theorem c_arrBs (e : TypeId) (x : List UInt8) (k) : arrBsC e (.arr e (.bs x) 0 false :: o) k = k x o := by simp [arrBsC]
end
theorem evs : type_of% (And.intro @Option.bind_some.{0,0} <| And.intro @c_rInt <| And.intro @c_rBool <| And.intro @c_rStr <| And.intro @c_rTs <| And.intro @c_rIs <| And.intro @c_rIss <| And.intro @c_rSs <| And.intro @c_rBs <| And.intro @c_rTerm <| And.intro @c_rOwnT <| And.intro @c_rOwn <| And.intro @c_rPtr <| And.intro @c_nilV <| And.intro @c_nilO <| And.intro @c_objC <| And.intro @c_dropC <| And.intro @c_intC <| And.intro @c_boolC <| And.intro @c_strC <| And.intro @c_tsC <| And.intro @c_isC <| And.intro @c_issC <| And.intro @c_ssC <| And.intro @c_bsC <| And.intro @c_anyC <| And.intro @c_nilC <| And.intro @c_arrTs <| And.intro @c_arrIs <| And.intro @c_arrIss <| And.intro @c_arrSs <| And.intro @c_arrBs <| And.intro @ik_self <| And.intro @nb_self <| And.intro @cond_true.{1} @cond_false.{1}) := And.intro @Option.bind_some.{0,0} <| And.intro @c_rInt <| And.intro @c_rBool <| And.intro @c_rStr <| And.intro @c_rTs <| And.intro @c_rIs <| And.intro @c_rIss <| And.intro @c_rSs <| And.intro @c_rBs <| And.intro @c_rTerm <| And.intro @c_rOwnT <| And.intro @c_rOwn <| And.intro @c_rPtr <| And.intro @c_nilV <| And.intro @c_nilO <| And.intro @c_objC <| And.intro @c_dropC <| And.intro @c_intC <| And.intro @c_boolC <| And.intro @c_strC <| And.intro @c_tsC <| And.intro @c_isC <| And.intro @c_issC <| And.intro @c_ssC <| And.intro @c_bsC <| And.intro @c_anyC <| And.intro @c_nilC <| And.intro @c_arrTs <| And.intro @c_arrIs <| And.intro @c_arrIss <| And.intro @c_arrSs <| And.intro @c_arrBs <| And.intro @ik_self <| And.intro @nb_self <| And.intro @cond_true.{1} @cond_false.{1}
def Tot (o : OR) (Q : List V1 × List AObj → Prop) : Prop := ∃ r, o = some r ∧ Q r
theorem tot_some {r : List V1 × List AObj} {Q : List V1 × List AObj → Prop} (h : Q r) : Tot (some r) Q := ⟨r, rfl, h⟩
theorem tot_cond {b : Bool} {x y : OR} {Q : List V1 × List AObj → Prop} (hx : b = true → Tot x Q) (hy : b = false → Tot y Q) : Tot (cond b x y) Q := by
 cases b
 ·exact hy rfl
 ·exact hx rfl
theorem tot_call {o : OR} {k : List V1 × List AObj → OR} {Q R : List V1 × List AObj → Prop} (h : Tot o R) (hk : ∀ r, R r → Tot (k r) Q) : Tot (o.bind k) Q := by
 obtain ⟨r, h1, h2⟩ := h
 rw [h1]; exact hk r h2
theorem tot_mono {o : OR} {Q R : List V1 × List AObj → Prop} (h : Tot o Q) (hk : ∀ r, Q r → R r) : Tot o R := by
 obtain ⟨r, h1, h2⟩ := h
 exact ⟨r, h1, hk r h2⟩
theorem tot_step {C : Nat} {f : FuncId} {args : List V1} {h : List AObj} {Q : List V1 × List AObj → Prop} {n : Nat} (hn : C + 1 ≤ n) (hh : ∀ m, C ≤ m → n = m + 1 → Tot (FF (m + 1) f args h) Q) : Tot (FF n f args h) Q := by
 obtain ⟨m, rfl⟩ : ∃ m, n = m + 1 := ⟨n - 1, by omega⟩
 exact hh m (by omega) rfl
end Go.Proofs.YtnogehmgpfpjmaaGreatDoor
end
section
namespace Go.Proofs.YtnogehmgpfpjmaaGreatDoor
open Go Go.Ab Go.Dk
theorem xor_bd {a b : Int} (ha : 0 ≤ a ∧ a < 4611686018427387904) (hb : 0 ≤ b ∧ b < 4611686018427387904) : 0 ≤ IntKind.i64.wrap (BitVec.ofInt IntKind.i64.bits a ^^^ BitVec.ofInt IntKind.i64.bits b).toNat := by
 obtain ⟨m, rfl⟩ : ∃ m : Nat, a = m := ⟨a.toNat, by omega⟩
 obtain ⟨n, rfl⟩ : ∃ n : Nat, b = n := ⟨b.toNat, by omega⟩
 have hm : m < 2 ^ 62 := by omega
 have hn : n < 2 ^ 62 := by omega
 have hx : m ^^^ n < 2 ^ 62 := Nat.xor_lt_two_pow hm hn
 have e : (BitVec.ofInt 64 (m : Int) ^^^ BitVec.ofInt 64 (n : Int)).toNat = m ^^^ n := by
  rw [BitVec.toNat_xor]
  have h1 : (BitVec.ofInt 64 (m : Int)).toNat = m := by simp; omega
  have h2 : (BitVec.ofInt 64 (n : Int)).toNat = n := by simp; omega
  rw [h1, h2]
 show 0 ≤ IntKind.i64.wrap ((BitVec.ofInt 64 (m : Int) ^^^ BitVec.ofInt 64 (n : Int)).toNat : Int)
 rw [e, IntWalk.i64_in _ (by omega)]
 omega
abbrev rdr (l : List UInt8) (p : Int) : AObj := .cells [.fr (.bs l), .int .i64 p]
def RdOk (l : List UInt8) (p m : Int) : Prop := l.length ≤ 2000 ∧ 0 ≤ p ∧ p ≤ m
theorem RdOk.mono {l : List UInt8} {p m m' : Int} (h : RdOk l p m) (hm : m ≤ m') : RdOk l p m' := ⟨h.1, h.2.1, by have := h.2.2; omega⟩
theorem tmod_bd {a b : Int} (ha : 0 ≤ a) (hb : 0 < b) : 0 ≤ a.tmod b ∧ a.tmod b < b := by
 rw [Int.tmod_eq_emod_of_nonneg ha]
 exact ⟨Int.emod_nonneg _ (by omega), Int.emod_lt_of_pos _ hb⟩
theorem tdiv_bd {a b : Int} (ha : 0 ≤ a) (hb : 0 < b) : 0 ≤ a.tdiv b ∧ a.tdiv b ≤ a := by
 rw [Int.tdiv_eq_ediv_of_nonneg ha]
 exact ⟨Int.ediv_nonneg ha (by omega), Int.ediv_le_self _ ha⟩
theorem get_lt {l : List UInt8} {i : Int} (h0 : 0 ≤ i) (h1 : i < l.length) : ∃ c, l[i.toNat]? = some c := by
 have : i.toNat < l.length := by omega
 exact ⟨l[i.toNat], List.getElem?_eq_getElem this⟩
def EvA (C : Nat) (f : FuncId) (args : List V1) (h : List AObj) (r : List V1 × List AObj) : Prop := ∀ n, C ≤ n → FF n f args h = some r
theorem EvA.ev {C f args h r} (k : EvA C f args h r) : Ev f args h r := ⟨C, k⟩
theorem EvA.of {f args h r} (C : Nat) (hh : ∀ n, C ≤ n → FF (n + 1) f args h = some r) : EvA (C + 1) f args h r := fun n hn => by obtain ⟨m, rfl⟩ : ∃ m, n = m + 1 := ⟨n - 1, by omega⟩; exact hh m (by omega)
theorem s_pick {l : List UInt8} {p m n : Int} (h : RdOk l p m) (hm : m ≤ 1099511627776) (hn : n ≤ 2147483648) :
   ∃ v, (0 ≤ v ∧ (0 < n → v < n) ∧ (n < 1 → v = 0)) ∧ RdOk l (p + 1) (m + 1) ∧ EvA 1 42 [.one (.ptr 0 0), .one (.int .i64 n)] [rdr l p] ([.one (.int .i64 v)], [rdr l (p + 1)]) := by
 obtain ⟨hl, h0, hp⟩ := h
 have hr : RdOk l (p + 1) (m + 1) := ⟨hl, by omega, by omega⟩
 have w1 : IntKind.i64.wrap (p + 1) = p + 1 := wrap64 (by omega)
 have w2 : IntKind.i64.wrap (p + 1 - 1) = p := by rw [wrap64 (by omega)]; omega
 by_cases hn1 : n < 1
 ·refine ⟨0, ⟨by omega, by omega, by omega⟩, hr, EvA.of 0 fun k _ => ?_⟩
  rw [E_spec_l19Rd_pick]
  simp only [cond_dec, if_pos hn1, w1]
 ·by_cases hl0 : (l.length : Int) = 0
  ·refine ⟨0, ⟨by omega, by omega, by omega⟩, hr, EvA.of 0 fun k _ => ?_⟩
   rw [E_spec_l19Rd_pick]
   simp only [cond_dec, if_neg hn1, if_pos hl0, w1]
  ·have hlp : 0 < (l.length : Int) := by omega
   by_cases hk : p < l.length
   ·obtain ⟨c, hc⟩ := get_lt h0 hk
    have hb := byte_bd c
    have ht := tmod_bd hb.1 (show 0 < n by omega)
    refine ⟨Int.tmod c.toNat n, ⟨ht.1, fun _ => ht.2, by omega⟩, hr, EvA.of 0 fun k _ => ?_⟩
    rw [E_spec_l19Rd_pick]
    simp only [cond_dec, if_neg hn1, if_neg hl0, w1, w2, if_pos hk, if_pos h0, hc, Option.bind_some, wrapB, if_neg (show ¬ n = 0 by omega)]
   ·have t1 := tmod_bd h0 hlp
    obtain ⟨c, hc⟩ := get_lt t1.1 t1.2
    have w3 : IntKind.i64.wrap (p * 7) = p * 7 := wrap64 (by omega)
    have w4 : IntKind.i64.wrap (p * 7 + 3) = p * 7 + 3 := wrap64 (by omega)
    have t2 := tmod_bd (show 0 ≤ p * 7 + 3 by omega) hlp
    obtain ⟨d, hd⟩ := get_lt t2.1 t2.2
    have hb := byte_bd c
    have hb' := byte_bd d
    have t3 := tdiv_bd h0 hlp
    have w5 : IntKind.i64.wrap ((c.toNat : Int) * 131) = c.toNat * 131 := wrap64 (by omega)
    have w6 : IntKind.i64.wrap ((d.toNat : Int) * 1117) = d.toNat * 1117 := wrap64 (by omega)
    have w7 : IntKind.i64.wrap ((c.toNat : Int) * 131 + d.toNat * 1117) = c.toNat * 131 + d.toNat * 1117 := wrap64 (by omega)
    have w8 : IntKind.i64.wrap (p * 29) = p * 29 := wrap64 (by omega)
    have w9 : IntKind.i64.wrap ((c.toNat : Int) * 131 + d.toNat * 1117 + p * 29) = c.toNat * 131 + d.toNat * 1117 + p * 29 := wrap64 (by omega)
    have wa : IntKind.i64.wrap (p.tdiv l.length) = p.tdiv l.length := wrap64 (by omega)
    have wb : IntKind.i64.wrap (p.tdiv l.length * 53) = p.tdiv l.length * 53 := wrap64 (by omega)
    have wc : IntKind.i64.wrap ((c.toNat : Int) * 131 + d.toNat * 1117 + p * 29 + p.tdiv l.length * 53) = c.toNat * 131 + d.toNat * 1117 + p * 29 + p.tdiv l.length * 53 := wrap64 (by omega)
    have t4 := tdiv_bd (show 0 ≤ (c.toNat : Int) * 131 + d.toNat * 1117 + p * 29 + p.tdiv l.length * 53 by omega) (show (0 : Int) < 64 by omega)
    have wd : IntKind.i64.wrap (Int.tdiv ((c.toNat : Int) * 131 + d.toNat * 1117 + p * 29 + p.tdiv l.length * 53) 64) = Int.tdiv ((c.toNat : Int) * 131 + d.toNat * 1117 + p * 29 + p.tdiv l.length * 53) 64 := wrap64 (by omega)
    have hx := xor_bd (a := (c.toNat : Int) * 131 + d.toNat * 1117 + p * 29 + p.tdiv l.length * 53) (b := Int.tdiv ((c.toNat : Int) * 131 + d.toNat * 1117 + p * 29 + p.tdiv l.length * 53) 64) (by omega) (by omega)
    have ht := tmod_bd hx (show 0 < n by omega)
    refine ⟨_, ⟨ht.1, fun _ => ht.2, by omega⟩, hr, EvA.of 0 fun k _ => ?_⟩
    rw [E_spec_l19Rd_pick]
    simp only [cond_dec, if_neg hn1, if_neg hl0, w1, w2, if_neg hk, if_pos t1.1, hc, Option.bind_some, wrapB, w3, w4, if_pos t2.1, hd, if_neg (show ¬ n = 0 by omega), w5, w6, w7, w8, w9, wa, wb, wc, wd]
theorem s_of {l : List UInt8} {p m : Int} (h : RdOk l p m) (hm : m ≤ 1099511627776) {ss : List ByteArray} (hs : ss ≠ []) (hs2 : ss.length ≤ 2147483648) :
   ∃ s ∈ ss, RdOk l (p + 1) (m + 1) ∧ EvA 2 35 [.one (.ptr 0 0), .one (.fr (.ss ss))] [rdr l p] ([.one (.str s)], [rdr l (p + 1)]) := by
 obtain ⟨v, ⟨v0, v1, _⟩, hr, hN⟩ := s_pick h hm (n := (ss.length : Int)) (by omega)
 have hpos := List.length_pos_iff.2 hs
 have hv := v1 (by omega)
 have hlt : v.toNat < ss.length := by omega
 refine ⟨ss[v.toNat], List.getElem_mem hlt, hr, EvA.of 1 fun n hn => ?_⟩
 rw [E_spec_l19Rd_of, hN n hn]
 simp only [evs, cond_dec, if_pos v0, List.getElem?_eq_getElem hlt]
theorem s_num {l : List UInt8} {p m : Int} (h : RdOk l p m) (hm : m ≤ 1099511627776) {ss : List Int} (hs : ss ≠ []) (hs2 : ss.length ≤ 2147483648) :
   ∃ s ∈ ss, RdOk l (p + 1) (m + 1) ∧ EvA 2 84 [.one (.ptr 0 0), .one (.fr (.is ss))] [rdr l p] ([.one (.int .i64 s)], [rdr l (p + 1)]) := by
 obtain ⟨v, ⟨v0, v1, _⟩, hr, hN⟩ := s_pick h hm (n := (ss.length : Int)) (by omega)
 have hpos := List.length_pos_iff.2 hs
 have hv := v1 (by omega)
 have hlt : v.toNat < ss.length := by omega
 refine ⟨ss[v.toNat], List.getElem_mem hlt, hr, EvA.of 1 fun n hn => ?_⟩
 rw [E_spec_l19Rd_num, hN n hn]
 simp only [evs, cond_dec, if_pos v0, List.getElem?_eq_getElem hlt]
theorem s_open (l : List UInt8) : ∃ l', RdOk l' 0 0 ∧ EvA 1 33 [.one (.fr (.bs l))] [] ([.one (.ptr 0 0)], [rdr l' 0]) := by
 by_cases hl : 2000 < (l.length : Int)
 ·refine ⟨(l.take (2000 : Int).toNat).drop (0 : Int).toNat, ⟨by simp; omega, by omega, by omega⟩, EvA.of 0 fun n _ => ?_⟩
  ·rw [E_spec_l19Open]
   simp only [cond_dec, if_pos hl, inB, Int.le_refl, decide_true, Bool.true_and, show (0 : Int) ≤ 2000 from by omega, if_pos (show (2000 : Int) ≤ l.length by omega)]
 ·refine ⟨l, ⟨by omega, by omega, by omega⟩, EvA.of 0 fun n _ => ?_⟩
  rw [E_spec_l19Open]
  simp only [cond_dec, if_neg hl]
end Go.Proofs.YtnogehmgpfpjmaaGreatDoor
end
section
namespace Go.Proofs.YtnogehmgpfpjmaaGreatDoor
open Go Go.Ab Go.Dk
abbrev tm (t : T) : V1 := .agg [.int .i64 t.k, .int .i64 t.n, .fr (.ts t.kids)]
abbrev tms (l : List T) : V1 := .one (.fr (.ts l))
abbrev nt (n : Int) : V1 := .one (.int .i64 n)
abbrev bl (b : Bool) : V1 := .one (.bool b)
abbrev termT : TypeId := 24
abbrev ow (t : T) : List V1 × List AObj := ([.agg [.int .i64 t.k, .int .i64 t.n, .own 0 0]], [.arr termT (.ts t.kids) 0 false])
theorem T.eta (t : T) : T.mk t.k t.n t.kids = t := by cases t; rfl
theorem mk_k (k n : Int) (l : List T) : (T.mk k n l).k = k := rfl
theorem mk_n (k n : Int) (l : List T) : (T.mk k n l).n = n := rfl
theorem mk_kids (k n : Int) (l : List T) : (T.mk k n l).kids = l := rfl
theorem rTerm_tm (t : T) (l : List V1) (k : T → List V1 → OR) : rTerm (.agg [.int .i64 t.k, .int .i64 t.n, .fr (.ts t.kids)] :: l) k = k t l := by cases t; rfl
theorem evt : type_of% (And.intro @evs <| And.intro @rTerm_tm <| And.intro @T.eta <| And.intro @mk_k <| And.intro @mk_n <| And.intro @mk_kids <| And.intro @Option.bind_none.{0,0} <| And.intro @Bool.not_true <| And.intro @Bool.not_false <| And.intro @Bool.true_and <| And.intro @Bool.and_true <| And.intro @Bool.and_false <| And.intro @Bool.false_and <| And.intro @Bool.and_self <| And.intro @decide_true @decide_false) := And.intro @evs <| And.intro @rTerm_tm <| And.intro @T.eta <| And.intro @mk_k <| And.intro @mk_n <| And.intro @mk_kids <| And.intro @Option.bind_none.{0,0} <| And.intro @Bool.not_true <| And.intro @Bool.not_false <| And.intro @Bool.true_and <| And.intro @Bool.and_true <| And.intro @Bool.and_false <| And.intro @Bool.false_and <| And.intro @Bool.and_self <| And.intro @decide_true @decide_false
theorem pos_succ {n : Nat} (h : 0 < n) : ∃ m, n = m + 1 := ⟨n - 1, by omega⟩
theorem cast1 (i : Nat) : (i : Int) + 1 = ((i + 1 : Nat) : Int) := rfl
theorem roomB_ok {n : Nat} (h : n ≤ 1099511627776) : roomB n = true := decide_eq_true h
theorem take_snoc {α : Type} {l : List α} {i : Nat} (h : i < l.length) : l.take i ++ [l[i]] = l.take (i + 1) := by rw [List.take_add_one, List.getElem?_eq_getElem h]; rfl
theorem f_within {n : Nat} (hn : 1 ≤ n) (a b c : Int) : FF n 82 [nt a, nt b, nt c] [] = some ([bl (decide (b ≤ a) && decide (a ≤ c))], []) := by
 obtain ⟨n, rfl⟩ := pos_succ (show 0 < n by omega)
 rw [E_impl_within]
 by_cases h : b ≤ a <;> simp [h]
theorem f_most {n : Nat} (hn : 1 ≤ n) (k : Int) : FF n 83 [nt k] [] = some ([nt (mostOf k)], []) := by
 obtain ⟨n, rfl⟩ := pos_succ (show 0 < n by omega)
 rw [E_impl_most]
 unfold mostOf
 by_cases h : k = 1 <;> by_cases h2 : k = 2 <;> simp [h, h2]
theorem f_l1Most {n : Nat} (hn : 1 ≤ n) (k : Int) : FF n 101 [nt k] [] = some ([nt (mostOf k)], []) := by
 obtain ⟨n, rfl⟩ := pos_succ (show 0 < n by omega)
 rw [E_spec_l1Most]
 unfold mostOf
 by_cases h : k = 1 <;> by_cases h2 : k = 2 <;> simp [h, h2]
theorem ops_list (k : Int) (h : 1 ≤ k ∧ k ≤ 16) : ([0, 0, 2, 2, 2, 0, 0, 1, 4, 3, 1, 3, 2, 3, 1, 1] : List Int)[(k - 1).toNat]? = some (opsOf k) := by
 have : k = 1 ∨ k = 2 ∨ k = 3 ∨ k = 4 ∨ k = 5 ∨ k = 6 ∨ k = 7 ∨ k = 8 ∨ k = 9 ∨ k = 10 ∨ k = 11 ∨ k = 12 ∨ k = 13 ∨ k = 14 ∨ k = 15 ∨ k = 16 := by omega
 rcases this with rfl | rfl | rfl | rfl | rfl | rfl | rfl | rfl | rfl | rfl | rfl | rfl | rfl | rfl | rfl | rfl <;> rfl
theorem f_operands {n : Nat} (hn : 2 ≤ n) (k : Int) : FF n 81 [nt k] [] = some ([nt (opsOf k)], []) := by
 obtain ⟨n, rfl⟩ := pos_succ (show 0 < n by omega)
 rw [E_impl_operands, f_within (by omega)]
 by_cases h : 1 ≤ k ∧ k ≤ 16
 ·simp only [evs, decide_eq_true h.1, decide_eq_true h.2, Bool.and_self, Bool.not_true, wrap64 (show -9223372036854775808 ≤ k - 1 ∧ k - 1 ≤ 9223372036854775807 by omega), decide_eq_true (show 0 ≤ k - 1 by omega),
    show (([0, 0, 2, 2, 2, 0, 0, 1, 4, 3, 1, 3, 2, 3, 1, 1] : List Nat).length : Int) = 16 from rfl, decide_eq_true (show k - 1 < 16 by omega), ops_list k h]
 ·have : (decide (1 ≤ k) && decide (k ≤ 16)) = false := by
    rw [Bool.and_eq_false_iff, decide_eq_false_iff_not, decide_eq_false_iff_not]; omega
  simp only [evs, this, Bool.not_false]
  unfold opsOf
  rw [if_neg (by omega), if_neg (by omega), if_neg (by omega), if_neg (by omega), if_neg (by omega)]
theorem f_l1Kids {n : Nat} (hn : 1 ≤ n) (k : Int) : FF n 100 [nt k] [] = some ([nt (opsOf k)], []) := by
 obtain ⟨n, rfl⟩ := pos_succ (show 0 < n by omega)
 rw [E_spec_l1Kids]
 by_cases h : k = 1 ∨ k = 2 ∨ k = 3 ∨ k = 4 ∨ k = 5 ∨ k = 6 ∨ k = 7 ∨ k = 8 ∨ k = 9 ∨ k = 10 ∨ k = 11 ∨ k = 12 ∨ k = 13 ∨ k = 14 ∨ k = 15 ∨ k = 16
 ·rcases h with rfl | rfl | rfl | rfl | rfl | rfl | rfl | rfl | rfl | rfl | rfl | rfl | rfl | rfl | rfl | rfl <;> rfl
 ·unfold opsOf
  rw [if_neg (by omega), if_neg (by omega), if_neg (by omega), if_neg (by omega), if_neg (by omega)]
  simp (disch := omega) only [cond_dec, if_neg]
theorem f_isBinder {n : Nat} (hn : 1 ≤ n) (k : Int) : FF n 72 [nt k] [] = some ([bl (decide (k = 3 ∨ k = 4 ∨ k = 13))], []) := by
 obtain ⟨n, rfl⟩ := pos_succ (show 0 < n by omega)
 rw [E_impl_isBinder]
 by_cases h : k = 3 <;> by_cases h2 : k = 4 <;> simp [h, h2]
theorem und_cast (k : Int) (i : Nat) : under k i = if (i : Int) = 1 ∧ (k = 3 ∨ k = 4 ∨ k = 13) then 1 else 0 := by
 unfold under
 by_cases h : i = 1
 ·subst h; simp
 ·rw [if_neg (fun hh => h hh.1), if_neg (fun hh => h (by have := hh.1; omega))]
theorem f_under {n : Nat} (hn : 2 ≤ n) (k : Int) (i : Nat) : FF n 78 [nt k, nt i] [] = some ([nt (under k i)], []) := by
 obtain ⟨n, rfl⟩ := pos_succ (show 0 < n by omega)
 rw [E_impl_under, f_isBinder (by omega), und_cast]
 by_cases h : (i : Int) = 1
 ·simp only [evs, h, decide_true]
  by_cases h2 : k = 3 ∨ k = 4 ∨ k = 13 <;> simp [h2]
 ·simp [h]
theorem f_l2Binds {n : Nat} (hn : 1 ≤ n) (k : Int) (i : Nat) : FF n 111 [nt k, nt i] [] = some ([bl (decide ((i : Int) = 1 ∧ (k = 3 ∨ k = 4 ∨ k = 13)))], []) := by
 obtain ⟨n, rfl⟩ := pos_succ (show 0 < n by omega)
 rw [E_spec_l2Binds]
 by_cases h : (i : Int) = 1 <;> by_cases h1 : k = 3 <;> by_cases h2 : k = 4 <;> simp [h, h1, h2]
theorem f_l2Under {n : Nat} (hn : 2 ≤ n) (k : Int) (i : Nat) : FF n 90 [nt k, nt i] [] = some ([nt (under k i)], []) := by
 obtain ⟨n, rfl⟩ := pos_succ (show 0 < n by omega)
 rw [E_spec_l2Under, f_l2Binds (by omega), und_cast]
 by_cases h : (i : Int) = 1 ∧ (k = 3 ∨ k = 4 ∨ k = 13) <;> simp [evs, h]
theorem f_l1Leaf {n : Nat} (hn : 1 ≤ n) (k m : Int) : FF n 56 [nt k, nt m] [] = some ([tm (.mk k m [])], []) := by
 obtain ⟨n, rfl⟩ := pos_succ (show 0 < n by omega)
 exact E_spec_l1Leaf n k m
theorem f_variable {n : Nat} (hn : 1 ≤ n) (m : Int) : FF n 63 [nt m] [] = some ([tm (.mk 1 m [])], []) := by
 obtain ⟨n, rfl⟩ := pos_succ (show 0 < n by omega)
 exact E_impl_variable n m
theorem f_l1Node {n : Nat} (hn : 1 ≤ n) (k : Int) (l : List T) (hl : l.length ≤ 1099511627776) : FF n 53 [nt k, tms l] [] = some ([tm (.mk k 0 l)], []) := by
 obtain ⟨n, rfl⟩ := pos_succ (show 0 < n by omega)
 rw [E_spec_l1Node, List.nil_append, roomB_ok hl]; rfl
theorem ops_le (k : Int) : opsOf k ≤ 4 := by
 unfold opsOf
 repeat' split
 all_goals omega
theorem scan_loop (n : Nat) (d : Int) (ts : List T) (hd : 0 ≤ d ∧ d ≤ 31) (hl : ts.length ≤ 1099511627776)
   (h : ∀ u ∈ ts, ∀ c : Int, 0 ≤ c → c ≤ 400 → FF n 41 [tm u, nt (d + 1), .one (.ptr 0 0)] [.cells [.int .i64 c]] = some ([bl (scanF u (d + 1) c).1], [.cells [.int .i64 (scanF u (d + 1) c).2]])) :
   ∀ g m (i : Nat) (c : Int), g < m → i + g = ts.length → 0 ≤ c → c ≤ 400 → L_impl_scan_0 n m d ts ts.length i c = some ([bl (scanL (ts.drop i) (d + 1) c).1], [.cells [.int .i64 (scanL (ts.drop i) (d + 1) c).2]])
 | g, 0, i, c, hg, _, _, _ => by omega
 | 0, m + 1, i, c, _, hi, _, _ => by
  rw [L_impl_scan_0_eq, List.drop_of_length_le (by omega)]
  simp only [cond_dec, if_neg (show ¬ (i : Int) < ts.length by omega), scanL]
 | g + 1, m + 1, i, c, hg, hi, h0, h1 => by
  have hlt : i < ts.length := by omega
  have hb := scanF_bd ts[i] (d + 1) c
  rw [List.drop_eq_getElem_cons hlt, scanL]
  rw [L_impl_scan_0_eq]; simp (disch := omega) only [evt, cond_dec, Int.toNat_natCast, cast1, wrap64, roomB_ok, List.length_append, List.length_cons, List.length_nil, if_pos (show (i : Int) < ts.length by omega), if_pos (show 0 ≤ (i : Int) by omega), List.getElem?_eq_getElem hlt, h _ (List.getElem_mem hlt) c h0 h1]
  cases hs : (scanF ts[i] (d + 1) c).1 with
  | false => simp
  | true =>
   have := hb hs
   simp only [Bool.not_true, cond_false, if_true]
   exact scan_loop n d ts hd hl h g m (i + 1) _ (by omega) (by omega) (by omega) (by omega)
theorem f_scan (t : T) : ∀ {n : Nat}, t.size + 5 ≤ n → ∀ d c : Int, 0 ≤ d → d ≤ 31 → 0 ≤ c → c ≤ 400 →
   FF n 41 [tm t, nt d, .one (.ptr 0 0)] [.cells [.int .i64 c]] = some ([bl (scanF t d c).1], [.cells [.int .i64 (scanF t d c).2]]) := by
 induction t using T.ind with | h t ih =>
 intro n hn d c h0 h1 h2 h3
 have hsz := T.size_eq t
 have hl := T.sizeL_len t.kids
 obtain ⟨n, rfl⟩ := pos_succ (show 0 < n by omega)
 rw [E_impl_scan, scanF_eq]
 simp (disch := omega) only [evt, f_operands, f_most, f_within, wrap64]
 by_cases c1 : 400 < c + 1
 ·simp [c1]
 by_cases c2 : 30 < d
 ·simp [c1, c2]
 by_cases c3 : opsOf t.k = t.kids.length
 ·by_cases c4 : 0 ≤ t.n ∧ t.n ≤ mostOf t.k
  ·have e : (decide (0 ≤ t.n) && decide (t.n ≤ mostOf t.k)) = true := by simp [c4]
   rw [if_neg (by intro hh; rcases hh with hh | hh | hh | hh <;> first | omega | exact hh c3 | exact hh c4), e]
   simp only [decide_eq_false c1, decide_eq_false c2, cond_false, decide_eq_true c3, Bool.not_true]
   by_cases hk : t.kids = []
   ·rw [hk]
    obtain ⟨n, rfl⟩ := pos_succ (show 0 < n by omega)
    rw [L_impl_scan_0_eq]; simp [scanL]
   ·have := scan_loop n d t.kids ⟨h0, h1⟩ (by have := ops_le t.k; omega) (fun u hu c' hc hc' => ih u hu (by have := T.sizeL_mem hu; omega) (d + 1) c' (by omega) (by omega) hc hc') t.kids.length n 0 (c + 1) (by omega) (by omega) (by omega) (by omega)
    simpa using this
  ·have e : (decide (0 ≤ t.n) && decide (t.n ≤ mostOf t.k)) = false := by
     rw [← Bool.not_eq_true, Bool.and_eq_true, decide_eq_true_eq, decide_eq_true_eq]; exact c4
   rw [if_pos (.inr (.inr (.inr c4))), e]
   simp [c1, c2, c3]
 ·rw [if_pos (.inr (.inr (.inl c3)))]
  simp [c1, c2, c3]
theorem f_TermValid {n : Nat} {t : T} (hn : t.size + 6 ≤ n) : FF n 17 [tm t] [] = some ([bl (validB t)], []) := by
 obtain ⟨n, rfl⟩ := pos_succ (show 0 < n by omega)
 rw [E_impl_TermValid, ← scan_valid]
 simp (disch := omega) only [evt, f_scan]
theorem shape_loop (n : Nat) (d : Nat) (k0 n0 : Int) (ts : List T) (hd : d ≤ 30) (h1d : 1 ≤ d) (hl : ts.length ≤ 1099511627776)
   (h : ∀ u ∈ ts, FF n 58 [tm u, nt ((d - 1 : Nat) : Int)] [] = some ([bl (shapeF u (d - 1))], [])) :
   ∀ g m (i : Nat), g < m → i + g = ts.length → L_spec_l1Shape_0 n m (d : Int) i k0 n0 ts = some ([bl (shapeL (ts.drop i) (d - 1))], [])
 | g, 0, i, hg, _ => by omega
 | 0, m + 1, i, _, hi => by
  rw [L_spec_l1Shape_0_eq, List.drop_of_length_le (by omega)]
  simp only [cond_dec, if_neg (show ¬ (i : Int) < ts.length by omega), shapeL]
 | g + 1, m + 1, i, hg, hi => by
  have hlt : i < ts.length := by omega
  rw [List.drop_eq_getElem_cons hlt, shapeL]
  have w : IntKind.i64.wrap ((d : Int) - 1) = ((d - 1 : Nat) : Int) := by rw [wrap64 (by omega)]; omega
  rw [L_spec_l1Shape_0_eq]; simp (disch := omega) only [evt, cond_dec, Int.toNat_natCast, cast1, wrap64, roomB_ok, List.length_append, List.length_cons, List.length_nil, if_pos (show (i : Int) < ts.length by omega), if_pos (show 0 ≤ (i : Int) by omega), List.getElem?_eq_getElem hlt, w, h _ (List.getElem_mem hlt)]
  cases hs : shapeF ts[i] (d - 1) with
  | false => simp
  | true =>
   simp only [Bool.not_true, cond_false, Bool.true_and]
   exact shape_loop n d k0 n0 ts hd h1d hl h g m (i + 1) (by omega) (by omega)
theorem f_l1Shape (t : T) : ∀ {n : Nat}, t.size + 5 ≤ n → ∀ d : Nat, d ≤ 30 → FF n 58 [tm t, nt (d : Int)] [] = some ([bl (shapeF t d)], []) := by
 induction t using T.ind with | h t ih =>
 intro n hn d hd
 have hsz := T.size_eq t
 have hl := T.sizeL_len t.kids
 obtain ⟨n, rfl⟩ := pos_succ (show 0 < n by omega)
 rw [E_spec_l1Shape, shapeF_eq]
 simp (disch := omega) only [evt, f_l1Kids, f_l1Most]
 by_cases c1 : (d : Int) < 1
 ·simp [c1, show ¬ 1 ≤ d by omega]
 by_cases c3 : opsOf t.k = t.kids.length
 ·by_cases c4 : 0 ≤ t.n ∧ t.n ≤ mostOf t.k
  ·simp only [decide_eq_false c1, cond_false, decide_eq_true c3, Bool.not_true, decide_eq_false (show ¬ t.n < 0 by omega), decide_eq_false (show ¬ mostOf t.k < t.n by omega), decide_eq_true (show 1 ≤ d by omega), decide_eq_true c4, Bool.true_and]
   exact shape_loop n d t.k t.n t.kids hd (by omega) (by have := ops_le t.k; omega) (fun u hu => ih u hu (by have := T.sizeL_mem hu; omega) (d - 1) (by omega)) t.kids.length n 0 (by omega) (by omega)
  ·simp only [decide_eq_false c1, cond_false, decide_eq_true c3, Bool.not_true, decide_eq_true (show 1 ≤ d by omega), decide_eq_false c4, Bool.true_and, Bool.false_and]
   by_cases c5 : t.n < 0
   ·simp [c5]
   ·simp [c5, show mostOf t.k < t.n by omega]
 ·simp [c1, c3]
theorem count_loop (n : Nat) (most : Nat) (k0 n0 : Int) (ts : List T) (hm : most ≤ 400) (hl : ts.length ≤ 1099511627776)
   (h : ∀ u ∈ ts, ∀ m : Nat, m ≤ 400 → FF n 59 [tm u, nt (m : Int)] [] = some ([nt (cntF u m : Int)], [])) :
   ∀ g m (i c : Nat), g < m → i + g = ts.length → L_spec_l1Count_0 n m (most : Int) c i k0 n0 ts = some ([nt ((if c ≤ most then min (c + T.sizeL (ts.drop i)) (most + 1) else c : Nat) : Int)], [])
 | g, 0, i, c, hg, _ => by omega
 | 0, m + 1, i, c, _, hi => by
  rw [L_spec_l1Count_0_eq, List.drop_of_length_le (by omega)]
  simp only [cond_dec, if_neg (show ¬ (i : Int) < ts.length by omega), T.sizeL]
  split
  ·rw [Nat.min_eq_left (by omega)]; rfl
  ·rfl
 | g + 1, m + 1, i, c, hg, hi => by
  have hlt : i < ts.length := by omega
  rw [List.drop_eq_getElem_cons hlt, T.sizeL]
  by_cases hc : c ≤ most
  ·have w : IntKind.i64.wrap ((most : Int) - c) = ((most - c : Nat) : Int) := by rw [wrap64 (by omega)]; omega
   have hcn : cntF ts[i] (most - c) ≤ most - c + 1 := by unfold cntF; omega
   have w2 : IntKind.i64.wrap ((c : Int) + (cntF ts[i] (most - c) : Int)) = ((c + cntF ts[i] (most - c) : Nat) : Int) := by rw [wrap64 (by omega)]; rfl
   rw [L_spec_l1Count_0_eq]; simp (disch := omega) only [evt, cond_dec, Int.toNat_natCast, cast1, wrap64, roomB_ok, List.length_append, List.length_cons, List.length_nil, if_pos (show (i : Int) < ts.length by omega), if_pos (show 0 ≤ (i : Int) by omega), if_pos (show (c : Int) ≤ most by omega), List.getElem?_eq_getElem hlt, w, w2, h _ (List.getElem_mem hlt) (most - c) (by omega)]
   rw [count_loop n most k0 n0 ts hm hl h g m (i + 1) _ (by omega) (by omega)]
   have e : (if c + cntF ts[i] (most - c) ≤ most then min (c + cntF ts[i] (most - c) + T.sizeL (ts.drop (i + 1))) (most + 1) else c + cntF ts[i] (most - c)) = min (c + (ts[i].size + T.sizeL (ts.drop (i + 1)))) (most + 1) := by
    unfold cntF
    split <;> omega
   rw [e, if_pos hc]
  ·rw [L_spec_l1Count_0_eq]
   simp only [cond_dec, if_pos (show (i : Int) < ts.length by omega), if_neg (show ¬ (c : Int) ≤ most by omega), if_neg hc]
theorem f_l1Count (t : T) : ∀ {n : Nat}, t.size + 5 ≤ n → t.size ≤ 4000000 → ∀ m : Nat, m ≤ 400 → FF n 59 [tm t, nt (m : Int)] [] = some ([nt (cntF t m : Int)], []) := by
 induction t using T.ind with | h t ih =>
 intro n hn hz m hm
 have hsz := T.size_eq t
 have hl := T.sizeL_len t.kids
 obtain ⟨n, rfl⟩ := pos_succ (show 0 < n by omega)
 rw [E_spec_l1Count]
 have := count_loop n m t.k t.n t.kids hm (by omega) (fun u hu m hm => ih u hu (by have := T.sizeL_mem hu; omega) (by have := T.sizeL_mem hu; omega) m hm) t.kids.length n 0 1 (by omega) (by omega)
 have e : (if 1 ≤ m then min (1 + T.sizeL t.kids) (m + 1) else 1) = cntF t m := by unfold cntF; split <;> omega
 rw [List.drop_zero, e] at this
 exact this
theorem f_TermValidS {n : Nat} {t : T} (hn : t.size + 6 ≤ n) (hz : t.size ≤ 4000000) : FF n 26 [tm t] [] = some ([bl (validB t)], []) := by
 obtain ⟨n, rfl⟩ := pos_succ (show 0 < n by omega)
 rw [E_spec_TermValid, validB]
 have h1 := f_l1Shape t (n := n) (by omega) 30 (by omega)
 have h2 := f_l1Count t (n := n) (by omega) hz 400 (by omega)
 rw [show (30 : Int) = ((30 : Nat) : Int) from rfl, show (400 : Int) = ((400 : Nat) : Int) from rfl, h1, h2]
 simp only [evt]
 cases shapeF t 30
 ·rfl
 ·simp only [cond_true, Bool.true_and]
  have e : decide ((cntF t 400 : Int) ≤ ((400 : Nat) : Int)) = decide (t.size ≤ 400) := by
   unfold cntF
   exact decide_eq_decide.2 (by omega)
  rw [e]
theorem f_valid {n : Nat} {t : T} (hn : t.size + 7 ≤ n) : FF n 29 [tm t] [] = some ([tm (if validB t then t else .mk 0 0 []), bl (validB t)], []) := by
 obtain ⟨n, rfl⟩ := pos_succ (show 0 < n by omega)
 rw [E_impl_valid]
 simp (disch := omega) only [evt, f_TermValid]
 cases validB t <;> rfl
theorem copy_loop (n : Nat) (ts : List T) (k2 n2 : Int) (k0 n0 : Int) (l0 : List T) (k1 n1 : Int) (hl : ts.length ≤ 4000000) (h : ∀ u ∈ ts, FF n 88 [tm u] [] = some (ow u)) :
   ∀ g m (i : Nat), g < m → i + g = ts.length → L_spec_l1Copy_0_foo n m i k2 n2 ts k0 n0 l0 k1 n1 (ts.take i) = some (ow (.mk k1 n1 ts))
 | g, 0, i, hg, _ => by omega
 | 0, m + 1, i, _, hi => by
  rw [L_spec_l1Copy_0_foo_eq]
  simp only [cond_dec, if_neg (show ¬ (i : Int) < ts.length by omega), List.take_of_length_le (show ts.length ≤ i by omega)]; rfl
 | g + 1, m + 1, i, hg, hi => by
  have hlt : i < ts.length := by omega
  have ht : (ts.take i).length = i := by simp; omega
  rw [L_spec_l1Copy_0_foo_eq]; simp (disch := omega) only [evt, cond_dec, Int.toNat_natCast, cast1, wrap64, roomB_ok, List.length_append, List.length_cons, List.length_nil, if_pos (show (i : Int) < ts.length by omega), if_pos (show 0 ≤ (i : Int) by omega), List.getElem?_eq_getElem hlt, h _ (List.getElem_mem hlt), ht]
  rw [take_snoc hlt]
  exact copy_loop n ts k2 n2 k0 n0 l0 k1 n1 hl h g m (i + 1) (by omega) (by omega)
theorem f_l1Copy (t : T) : ∀ {n : Nat}, t.size + 5 ≤ n → t.size ≤ 4000000 → FF n 88 [tm t] [] = some (ow t) := by
 induction t using T.ind with | h t ih =>
 intro n hn hz
 have hsz := T.size_eq t
 have hl := T.sizeL_len t.kids
 obtain ⟨n, rfl⟩ := pos_succ (show 0 < n by omega)
 rw [E_spec_l1Copy]
 have := copy_loop n t.kids t.k t.n 0 0 [] t.k t.n (by omega) (fun u hu => ih u hu (by have := T.sizeL_mem hu; omega) (by have := T.sizeL_mem hu; omega)) t.kids.length n 0 (by omega) (by omega)
 simpa [T.eta] using this
theorem same_loop (n : Nat) (ts us : List T) (k0 n0 k1 n1 : Int) (hl : ts.length ≤ 4000000) (he : ts.length = us.length) (h : ∀ t ∈ ts, ∀ u, FF n 43 [tm t, tm u] [] = some ([bl (T.beq t u)], [])) :
   ∀ g m (i : Nat), g < m → i + g = ts.length → L_spec_TermSame_0 n m i k0 n0 ts k1 n1 us = some ([bl (T.beqL (ts.drop i) (us.drop i))], [])
 | g, 0, i, hg, _ => by omega
 | 0, m + 1, i, _, hi => by
  rw [L_spec_TermSame_0_eq, List.drop_of_length_le (by omega), List.drop_of_length_le (by omega)]
  simp only [cond_dec, if_neg (show ¬ (i : Int) < ts.length by omega), T.beqL]
 | g + 1, m + 1, i, hg, hi => by
  have hlt : i < ts.length := by omega
  have hlt2 : i < us.length := by omega
  rw [List.drop_eq_getElem_cons hlt, List.drop_eq_getElem_cons hlt2, T.beqL]
  rw [L_spec_TermSame_0_eq]; simp (disch := omega) only [evt, cond_dec, Int.toNat_natCast, cast1, wrap64, roomB_ok, List.length_append, List.length_cons, List.length_nil, if_pos (show (i : Int) < ts.length by omega), if_pos (show 0 ≤ (i : Int) by omega), List.getElem?_eq_getElem hlt, List.getElem?_eq_getElem hlt2, h _ (List.getElem_mem hlt)]
  cases hs : T.beq ts[i] us[i] with
  | false => simp
  | true =>
   simp only [Bool.not_true, cond_false, Bool.true_and]
   exact same_loop n ts us k0 n0 k1 n1 hl he h g m (i + 1) (by omega) (by omega)
theorem beqL_len : ∀ {ts us : List T}, ts.length ≠ us.length → T.beqL ts us = false
 | [], [], h => absurd rfl h
 | [], _ :: _, _ => rfl
 | _ :: _, [], _ => rfl
 | t :: ts, u :: us, h => by rw [T.beqL, beqL_len (fun e => h (by simp [e])), Bool.and_false]
theorem f_TermSameS (t : T) : ∀ {n : Nat}, t.size + 5 ≤ n → t.size ≤ 4000000 → ∀ u : T, FF n 43 [tm t, tm u] [] = some ([bl (T.beq t u)], []) := by
 induction t using T.ind with | h t ih =>
 intro n hn hz u
 have hsz := T.size_eq t
 have hl := T.sizeL_len t.kids
 obtain ⟨n, rfl⟩ := pos_succ (show 0 < n by omega)
 rw [E_spec_TermSame, T.beq_eq]
 by_cases c1 : t.k = u.k
 ·by_cases c2 : t.n = u.n
  ·by_cases c3 : t.kids.length = u.kids.length
   ·have := same_loop n t.kids u.kids t.k t.n u.k u.n (by omega) c3 (fun v hv w => ih v hv (by have := T.sizeL_mem hv; omega) (by have := T.sizeL_mem hv; omega) w) t.kids.length n 0 (by omega) (by omega)
    simp only [decide_eq_true c1, decide_eq_true c2, decide_eq_true (show (t.kids.length : Int) = u.kids.length by omega), Bool.not_true, cond_false, Bool.true_and]
    simpa using this
   ·simp only [decide_eq_true c1, decide_eq_true c2, decide_eq_false (show ¬ (t.kids.length : Int) = u.kids.length by omega), Bool.not_true, Bool.not_false, cond_false, cond_true, Bool.true_and, beqL_len c3]
  ·simp [c1, c2]
 ·simp [c1]
end Go.Proofs.YtnogehmgpfpjmaaGreatDoor
end
section
namespace Go.Proofs.YtnogehmgpfpjmaaGreatDoor
open Go Go.Ab Go.Dk
end Go.Proofs.YtnogehmgpfpjmaaGreatDoor
end
section
namespace Go.Proofs.YtnogehmgpfpjmaaGreatDoor
open Go Go.Ab Go.Dk
mutual
def clF : T → Int → Bool
 | .mk k n ks, d => (!(decide (k = 1) && decide (d ≤ n))) && clL ks k 0 d
def clL : List T → Int → Nat → Int → Bool
 | [], _, _, _ => true
 | t :: ts, k, i, d => clF t (d + under k i) && clL ts k (i + 1) d
end
theorem clF_eq (t : T) (d : Int) : clF t d = ((!(decide (t.k = 1) && decide (d ≤ t.n))) && clL t.kids t.k 0 d) := by cases t; simp only [clF]; rfl
theorem und_bd (k : Int) (i : Nat) : 0 ≤ under k i ∧ under k i ≤ 1 := by unfold under; split <;> omega
mutual
theorem clF_mono : ∀ (t : T) {d e : Int}, clF t d = true → d ≤ e → clF t e = true
 | .mk k n ks, d, e, h, hd => by
  simp only [clF, Bool.and_eq_true, Bool.not_eq_true', Bool.and_eq_false_iff, decide_eq_false_iff_not] at h ⊢
  exact ⟨h.1.imp id (fun h => by omega), clL_mono ks h.2 hd⟩
theorem clL_mono : ∀ (ts : List T) {k : Int} {i : Nat} {d e : Int}, clL ts k i d = true → d ≤ e → clL ts k i e = true
 | [], _, _, _, _, _, _ => rfl
 | t :: ts, k, i, d, e, h, hd => by
  simp only [clL, Bool.and_eq_true] at h ⊢
  exact ⟨clF_mono t h.1 (by omega), clL_mono ts h.2 hd⟩
end
abbrev FreeTo (h L : Int) (P : Int → Prop) (o : OR) : Prop := ∃ h', o = some ([], [.cells [.int .i64 h']]) ∧ h ≤ h' ∧ (h ≤ L → h' ≤ L) ∧ P h'
theorem free_loop (n : Nat) (hn : 10 ≤ n) (L d k k1 n1 : Int) (ks0 : List T) (ts : List T) (hl : ts.length ≤ 1000000) (hd : 0 ≤ d ∧ d ≤ 1000000) (hh : ∀ u ∈ ts, ∀ d' h : Int, d ≤ d' → d' ≤ d + 1 → 0 ≤ h → h ≤ L → clF u (d' + L) = true → FreeTo h L (fun h' => clF u (d' + h') = true) (FF n 76 [tm u, nt d', .one (.fn 77 [0])] [.cells [.int .i64 h]])) (hL : 0 ≤ L ∧ L ≤ 1000000) :
   ∀ g m (i : Nat) (h : Int), g < m → i + g = ts.length → 0 ≤ h → h ≤ L → clL (ts.drop i) k i (d + L) = true → FreeTo h L (fun h' => clL (ts.drop i) k i (d + h') = true) (L_impl_free_impl_maxFree_1_0 n m d ts ts.length i h k n1 ks0)
 | g, 0, i, h, hg, _, _, _, _ => by omega
 | 0, m + 1, i, h, _, hi, h0, h1, hc => by
  rw [L_impl_free_impl_maxFree_1_0_eq, decide_eq_false (show ¬ (i : Int) < ts.length by omega)]
  exact ⟨h, rfl, Int.le_refl _, fun h => h, by rw [List.drop_of_length_le (by omega)]; rfl⟩
 | g + 1, m + 1, i, h, hg, hi, h0, h1, hc => by
  have hlt : i < ts.length := by omega
  have hu := und_bd k i
  rw [List.drop_eq_getElem_cons hlt, clL, Bool.and_eq_true] at hc
  obtain ⟨h', e1, e2, e3, p3⟩ := hh _ (List.getElem_mem hlt) (d + under k i) h (by omega) (by omega) h0 h1 (by rw [show d + under k i + L = d + L + under k i by omega]; exact hc.1)
  have h3 := e3 h1
  rw [L_impl_free_impl_maxFree_1_0_eq, decide_eq_true (show (i : Int) < ts.length by omega), cond_true, decide_eq_true (show (0 : Int) ≤ i by omega), cond_true, Int.toNat_natCast, List.getElem?_eq_getElem hlt, f_under (n := n) (by omega), wrap64 (show -9223372036854775808 ≤ (i : Int) + 1 ∧ (i : Int) + 1 ≤ 9223372036854775807 by omega)]
  simp only [evt]
  rw [wrap64 (show -9223372036854775808 ≤ d + under k i ∧ d + under k i ≤ 9223372036854775807 by omega)]
  simp only [tm] at e1
  rw [e1]
  simp only [evt]
  obtain ⟨h2, e4, e5, e6, p6⟩ := free_loop n hn L d k k1 n1 ks0 ts hl hd hh hL g m (i + 1) h' (by omega) (by omega) (by omega) h3 hc.2
  refine ⟨h2, e4, by omega, fun _ => e6 h3, ?_⟩
  show clL (ts.drop i) k i (d + h2) = true
  rw [List.drop_eq_getElem_cons hlt, clL, Bool.and_eq_true]
  exact ⟨clF_mono _ p3 (by omega), p6⟩
theorem f_free (t : T) : ∀ {n : Nat} {L d h : Int}, 3 * t.size + 20 ≤ n → t.size ≤ 100000 → 0 ≤ L ∧ L ≤ 1000000 → 0 ≤ d ∧ d + t.size ≤ 1000000 → 0 ≤ h → h ≤ L → clF t (d + L) = true → FreeTo h L (fun h' => clF t (d + h') = true) (FF n 76 [tm t, nt d, .one (.fn 77 [0])] [.cells [.int .i64 h]]) := by
 induction t using T.ind with | h t ih =>
 intro n L d h hn hz hL hd h0 h1 hc
 have hsz := T.size_eq t
 have hl := T.sizeL_len t.kids
 rw [clF_eq, Bool.and_eq_true] at hc
 obtain ⟨n, rfl⟩ := pos_succ (show 0 < n by omega)
 have lp : ∀ h, 0 ≤ h → h ≤ L → FreeTo h L (fun h' => clL t.kids t.k 0 (d + h') = true) (L_impl_free_impl_maxFree_1_0 n n d t.kids t.kids.length 0 h t.k t.n t.kids) := fun h h0 h1 =>
  free_loop n (by omega) L d t.k t.k t.n t.kids t.kids (by omega) (by omega) (fun u hu d' h' q1 q2 q3 q4 q5 => by
   have := T.sizeL_mem hu
   exact ih u hu (by omega) (by omega) hL (by omega) q3 q4 q5) hL t.kids.length n 0 h (by omega) (by omega) h0 h1 (by simpa using hc.2)
 have fin : ∀ h', (t.k = 1 → t.n < d + h') → clL t.kids t.k 0 (d + h') = true → clF t (d + h') = true := fun h' q p => by
  rw [clF_eq, p, Bool.and_true, Bool.not_eq_true', Bool.and_eq_false_iff, decide_eq_false_iff_not, decide_eq_false_iff_not]
  by_cases hk : t.k = 1
  ·exact .inr (by have := q hk; omega)
  ·exact .inl hk
 rw [E_impl_free_impl_maxFree_1]
 by_cases hk : t.k = 1
 ·rw [decide_eq_true hk, cond_true]
  by_cases hdn : d ≤ t.n
  ·rw [decide_eq_true hdn, cond_true]
   have hb : t.n < d + L := by
    have := hc.1
    rw [hk] at this
    simp only [decide_true, Bool.true_and, Bool.not_eq_true', decide_eq_false_iff_not] at this
    omega
   obtain ⟨n', rfl⟩ := pos_succ (show 0 < n by omega)
   rw [E_impl_maxFree_1, wrap64 (show -9223372036854775808 ≤ t.n - d ∧ t.n - d ≤ 9223372036854775807 by omega), wrap64 (show -9223372036854775808 ≤ t.n - d + 1 ∧ t.n - d + 1 ≤ 9223372036854775807 by omega)]
   simp only [evt]
   obtain ⟨h', e1, e2, e3, e4⟩ := lp (max h (t.n - d + 1)) (by omega) (by omega)
   exact ⟨h', e1, by omega, fun _ => e3 (by omega), fin h' (fun _ => by omega) e4⟩
  ·rw [decide_eq_false hdn, cond_false]
   obtain ⟨h', e1, e2, e3, e4⟩ := lp h h0 h1
   exact ⟨h', e1, e2, e3, fin h' (fun _ => by omega) e4⟩
 ·rw [decide_eq_false hk, cond_false]
  obtain ⟨h', e1, e2, e3, e4⟩ := lp h h0 h1
  exact ⟨h', e1, e2, e3, fin h' (fun q => absurd q hk) e4⟩
mutual
theorem clF_valid : ∀ (t : T) (g : Nat) {d : Int}, shapeF t g = true → 21 ≤ d → clF t d = true
 | .mk k n ks, g, d, h, hd => by
  simp only [shapeF, Bool.and_eq_true, decide_eq_true_eq] at h
  simp only [clF, Bool.and_eq_true, Bool.not_eq_true', Bool.and_eq_false_iff, decide_eq_false_iff_not]
  refine ⟨?_, clL_valid ks _ h.2.2.2 hd⟩
  by_cases hk : k = 1
  ·subst hk
   right
   have h1 := h.2.2.1.2
   rw [show mostOf 1 = 20 from rfl] at h1
   omega
  ·exact .inl hk
theorem clL_valid : ∀ (ts : List T) (g : Nat) {k : Int} {i : Nat} {d : Int}, shapeL ts g = true → 21 ≤ d → clL ts k i d = true
 | [], _, _, _, _, _, _ => rfl
 | t :: ts, g, k, i, d, h, hd => by
  simp only [shapeL, Bool.and_eq_true] at h
  have hu := und_bd k i
  simp only [clL, Bool.and_eq_true]
  exact ⟨clF_valid t _ h.1 (by omega), clL_valid ts _ h.2 hd⟩
end
def mfN (t : T) : Nat := ((List.range 21).find? fun v : Nat => clF t (v : Int)).getD 21
theorem mfN_iff {t : T} (hv : validB t = true) (d : Nat) : mfN t ≤ d ↔ clF t (d : Int) = true := by
 have hs : shapeF t 30 = true := by
  unfold validB at hv
  rw [Bool.and_eq_true] at hv
  exact hv.1
 unfold mfN
 cases h : (List.range 21).find? fun v : Nat => clF t (v : Int) with
 | some v =>
  have h1 : clF t (v : Int) = true := by simpa using List.find?_some h
  have h2 := List.mem_of_find?_eq_some h
  show v ≤ d ↔ _
  refine ⟨fun hd => clF_mono t h1 (by omega), fun hd => ?_⟩
  refine Classical.byContradiction fun hlt => ?_
  have hlt : d < v := by omega
  rw [List.find?_eq_some_iff_getElem] at h
  obtain ⟨_, i, hi, he, hall⟩ := h
  have hiv : i = v := by simpa using he
  have := hall d (by omega)
  simp [hd] at this
 | none =>
  show 21 ≤ d ↔ _
  refine ⟨fun hd => clF_valid t 30 hs (by omega), fun hd => ?_⟩
  refine Classical.byContradiction fun hlt => ?_
  rw [List.find?_eq_none] at h
  have := h d (by simp; omega)
  simp [hd] at this
theorem mfN_le {t : T} (hv : validB t = true) : mfN t ≤ 21 := (mfN_iff hv 21).2 (clF_valid t 30 (by unfold validB at hv; rw [Bool.and_eq_true] at hv; exact hv.1) (by omega))
theorem mf_uniq {t : T} (hv : validB t = true) {v : Int} (h0 : 0 ≤ v) (h1 : clF t v = true) (h2 : ∀ d : Nat, d ≤ 21 → clF t (d : Int) = true → v ≤ d) : v = (mfN t : Int) := by
 obtain ⟨w, rfl⟩ : ∃ w : Nat, v = w := ⟨v.toNat, by omega⟩
 have a := (mfN_iff hv w).2 h1
 have b := h2 (mfN t) (mfN_le hv) ((mfN_iff hv _).1 (Nat.le_refl _))
 omega
theorem f_maxFreeI {n : Nat} {t : T} (hn : 5000 ≤ n) (hv : validB t = true) : FF n 38 [tm t] [] = some ([nt (mfN t : Int)], []) := by
 obtain ⟨n, rfl⟩ := pos_succ (show 0 < n by omega)
 have hz := validB_size hv
 have hs : shapeF t 30 = true := by
  unfold validB at hv
  rw [Bool.and_eq_true] at hv
  exact hv.1
 have go : ∀ L : Int, 0 ≤ L → L ≤ 21 → clF t L = true → ∃ v, FF (n + 1) 38 [tm t] [] = some ([nt v], []) ∧ 0 ≤ v ∧ v ≤ L ∧ clF t v = true := fun L h0 h1 hc => by
  rw [E_impl_maxFree]
  obtain ⟨v, e1, e2, e3, e4⟩ := f_free t (n := n) (L := L) (d := 0) (h := 0) (by omega) (by omega) ⟨h0, by omega⟩ (by omega) (by omega) h0 (by simpa using hc)
  simp only [tm] at e1
  rw [e1]
  simp only [evt]
  exact ⟨v, rfl, e2, e3 h0, by simpa using e4⟩
 obtain ⟨v, e1, e2, e3, e4⟩ := go 21 (by omega) (by omega) (clF_valid t 30 hs (by omega))
 rw [e1, mf_uniq hv e2 e4 fun d hd hc => ?_]
 obtain ⟨u, f1, f2, f3, f4⟩ := go d (by omega) (by omega) hc
 rw [e1] at f1
 injection f1 with f1
 injection f1 with f1
 injection f1 with f1
 injection f1 with f1
 injection f1 with _ f1
 omega
theorem f_MaxFreeI {n : Nat} {t : T} (hn : 6000 ≤ n) (hv : validB t = true) : FF n 18 [tm t] [] = some ([nt (mfN t : Int)], []) := by
 obtain ⟨n, rfl⟩ := pos_succ (show 0 < n by omega)
 have hz := validB_size hv
 rw [E_impl_MaxFree, f_TermValid (by omega), hv]
 simp only [evt]
 have := f_maxFreeI (n := n) (t := t) (by omega) hv
 simp only [tm] at this
 rw [this]
 simp only [evt]
theorem s_loop (n : Nat) (hn : 10 ≤ n) (L d k k1 n1 : Int) (ks : List T) (hl : ks.length ≤ 100000) (hd : 0 ≤ d ∧ d ≤ 100000) (hL : 0 ≤ L ∧ L ≤ 1000)
   (hh : ∀ u ∈ ks, ∀ d' : Int, d ≤ d' → d' ≤ d + 1 → clF u (d' + L) = true → ∃ v, FF n 89 [tm u, nt d'] [] = some ([nt v], []) ∧ 0 ≤ v ∧ v ≤ L ∧ clF u (d' + v) = true) :
   ∀ g m (i : Nat) (h : Int), g < m → i + g = ks.length → 0 ≤ h → h ≤ L → clL (ks.drop i) k i (d + L) = true → ∃ v, L_spec_l2Most_0 n m d h i k n1 ks = some ([nt v], []) ∧ h ≤ v ∧ v ≤ L ∧ clL (ks.drop i) k i (d + v) = true
 | g, 0, i, h, hg, _, _, _, _ => by omega
 | 0, m + 1, i, h, _, hi, h0, h1, hc => by
  rw [L_spec_l2Most_0_eq, decide_eq_false (show ¬ (i : Int) < ks.length by omega)]
  exact ⟨h, rfl, Int.le_refl _, h1, by rw [List.drop_of_length_le (by omega)]; rfl⟩
 | g + 1, m + 1, i, h, hg, hi, h0, h1, hc => by
  have hlt : i < ks.length := by omega
  have hu := und_bd k i
  rw [List.drop_eq_getElem_cons hlt, clL, Bool.and_eq_true] at hc
  obtain ⟨v, e1, e2, e3, p3⟩ := hh _ (List.getElem_mem hlt) (d + under k i) (by omega) (by omega) (by rw [show d + under k i + L = d + L + under k i by omega]; exact hc.1)
  rw [L_spec_l2Most_0_eq, decide_eq_true (show (i : Int) < ks.length by omega), cond_true, decide_eq_true (show (0 : Int) ≤ i by omega), cond_true, Int.toNat_natCast, List.getElem?_eq_getElem hlt, f_l2Under (n := n) (by omega), wrap64 (show -9223372036854775808 ≤ (i : Int) + 1 ∧ (i : Int) + 1 ≤ 9223372036854775807 by omega)]
  simp only [evt]
  rw [wrap64 (show -9223372036854775808 ≤ d + under k i ∧ d + under k i ≤ 9223372036854775807 by omega)]
  simp only [tm] at e1
  rw [e1]
  simp only [evt]
  have step : ∀ h', 0 ≤ h' → h' ≤ L → v ≤ h' → h ≤ h' → L_spec_l2Most_0 n m d h' ((i + 1 : Nat) : Int) k n1 ks = L_spec_l2Most_0 n m d h' ((i + 1 : Nat) : Int) k n1 ks → ∃ v', L_spec_l2Most_0 n m d h' ((i + 1 : Nat) : Int) k n1 ks = some ([nt v'], []) ∧ h ≤ v' ∧ v' ≤ L ∧ clL (ks.drop i) k i (d + v') = true := fun h' q0 q1 q2 q3 _ => by
   obtain ⟨v2, e4, e5, e6, p6⟩ := s_loop n hn L d k k1 n1 ks hl hd hL hh g m (i + 1) h' (by omega) (by omega) q0 q1 hc.2
   refine ⟨v2, e4, by omega, e6, ?_⟩
   rw [List.drop_eq_getElem_cons hlt, clL, Bool.and_eq_true]
   exact ⟨clF_mono _ p3 (by omega), p6⟩
  by_cases hv : h < v
  ·rw [decide_eq_true hv, cond_true]
   exact step v e2 e3 (Int.le_refl _) (by omega) rfl
  ·rw [decide_eq_false hv, cond_false]
   exact step h h0 h1 (by omega) (Int.le_refl _) rfl
theorem f_l2Most (t : T) : ∀ {n : Nat} {L d : Int}, 2 * t.size + 20 ≤ n → t.size ≤ 1000 → 0 ≤ L ∧ L ≤ 1000 → 0 ≤ d ∧ d + t.size ≤ 10000 → clF t (d + L) = true → ∃ v, FF n 89 [tm t, nt d] [] = some ([nt v], []) ∧ 0 ≤ v ∧ v ≤ L ∧ clF t (d + v) = true := by
 induction t using T.ind with | h t ih =>
 intro n L d hn hz hL hd hc
 have hsz := T.size_eq t
 have hl := T.sizeL_len t.kids
 rw [clF_eq, Bool.and_eq_true] at hc
 obtain ⟨n, rfl⟩ := pos_succ (show 0 < n by omega)
 have lp : ∀ h, 0 ≤ h → h ≤ L → ∃ v, L_spec_l2Most_0 n n d h 0 t.k t.n t.kids = some ([nt v], []) ∧ h ≤ v ∧ v ≤ L ∧ clL t.kids t.k 0 (d + v) = true := fun h h0 h1 => by
  have := s_loop n (by omega) L d t.k t.k t.n t.kids (by omega) (by omega) hL (fun u hu d' q1 q2 q5 => by
   have := T.sizeL_mem hu
   exact ih u hu (by omega) (by omega) hL (by omega) q5) t.kids.length n 0 h (by omega) (by omega) h0 h1 (by simpa using hc.2)
  simpa using this
 have fin : ∀ h', (t.k = 1 → t.n < d + h') → clL t.kids t.k 0 (d + h') = true → clF t (d + h') = true := fun h' q p => by
  rw [clF_eq, p, Bool.and_true, Bool.not_eq_true', Bool.and_eq_false_iff, decide_eq_false_iff_not, decide_eq_false_iff_not]
  by_cases hk : t.k = 1
  ·exact .inr (by have := q hk; omega)
  ·exact .inl hk
 rw [E_spec_l2Most]
 by_cases hk : t.k = 1
 ·rw [decide_eq_true hk, cond_true]
  by_cases hdn : d ≤ t.n
  ·rw [decide_eq_true hdn, cond_true]
   have hb : t.n < d + L := by
    have := hc.1
    rw [hk] at this
    simp only [decide_true, Bool.true_and, Bool.not_eq_true', decide_eq_false_iff_not] at this
    omega
   rw [wrap64 (show -9223372036854775808 ≤ t.n - d ∧ t.n - d ≤ 9223372036854775807 by omega), wrap64 (show -9223372036854775808 ≤ t.n - d + 1 ∧ t.n - d + 1 ≤ 9223372036854775807 by omega)]
   obtain ⟨h', e1, e2, e3, e4⟩ := lp (t.n - d + 1) (by omega) (by omega)
   exact ⟨h', e1, by omega, e3, fin h' (fun _ => by omega) e4⟩
  ·rw [decide_eq_false hdn, cond_false]
   obtain ⟨h', e1, e2, e3, e4⟩ := lp 0 (Int.le_refl _) hL.1
   exact ⟨h', e1, e2, e3, fin h' (fun _ => by omega) e4⟩
 ·rw [decide_eq_false hk, cond_false]
  obtain ⟨h', e1, e2, e3, e4⟩ := lp 0 (Int.le_refl _) hL.1
  exact ⟨h', e1, e2, e3, fin h' (fun q => absurd q hk) e4⟩
theorem f_MaxFreeS {n : Nat} {t : T} (hn : 6000 ≤ n) (hv : validB t = true) : FF n 47 [tm t] [] = some ([nt (mfN t : Int)], []) := by
 obtain ⟨n, rfl⟩ := pos_succ (show 0 < n by omega)
 have hz := validB_size hv
 have hs : shapeF t 30 = true := by
  unfold validB at hv
  rw [Bool.and_eq_true] at hv
  exact hv.1
 have go : ∀ L : Int, 0 ≤ L → L ≤ 21 → clF t L = true → ∃ v, FF n 89 [tm t, nt 0] [] = some ([nt v], []) ∧ 0 ≤ v ∧ v ≤ L ∧ clF t v = true := fun L h0 h1 hc => by
  obtain ⟨v, e1, e2, e3, e4⟩ := f_l2Most t (n := n) (L := L) (d := 0) (by omega) (by omega) ⟨h0, by omega⟩ (by omega) (by simpa using hc)
  exact ⟨v, e1, e2, e3, by simpa using e4⟩
 obtain ⟨v, e1, e2, e3, e4⟩ := go 21 (by omega) (by omega) (clF_valid t 30 hs (by omega))
 have hm := mf_uniq hv e2 e4 fun d hd hc => by
  obtain ⟨u, f1, f2, f3, f4⟩ := go d (by omega) (by omega) hc
  rw [e1] at f1
  injection f1 with f1
  injection f1 with f1
  injection f1 with f1
  injection f1 with f1
  injection f1 with _ f1
  omega
 rw [E_spec_MaxFree, f_TermValidS (by omega) (by omega), hv]
 simp only [evt]
 simp only [tm] at e1
 rw [e1]
 simp only [evt]
 rw [hm]
end Go.Proofs.YtnogehmgpfpjmaaGreatDoor
end
section
namespace Go.Proofs.YtnogehmgpfpjmaaGreatDoor
open Go Go.Dk
theorem shNL_same (env : List UInt8) : ∀ (i : Nat) (ts : List T), shNL env env i ts = ts.map (shN env)
 | _, [] => by simp [shNL]
 | i, t :: ts => by rw [shNL, shNL_same env (i + 1) ts]; simp
theorem rdS_join (p : List UInt8 → Option (T × List UInt8)) (f : T → List UInt8) (last : UInt8) (r : List UInt8) (hl : digB last = false) :
   ∀ ts : List T, ts ≠ [] → (∀ t ∈ ts, ∀ s, dhead s = false → p (f t ++ s) = some (t, s)) → rdS p last ts.length (joinC (ts.map f) ++ last :: r) = some (ts, r)
 | [], h, _ => absurd rfl h
 | [t], _, h => by
  have e := h t (by simp) (last :: r) (by simpa [dhead] using hl)
  simp only [List.map_cons, List.map_nil, joinC, List.length_cons, List.length_nil, rdS, e, Option.bind_some, if_true, eat, Option.map_some]
 | t :: u :: ts, _, h => by
  have e := h t (by simp) (44 :: (joinC ((u :: ts).map f) ++ last :: r)) rfl
  have ih := rdS_join p f last r hl (u :: ts) (by simp) (fun x hx => h x (by simp [hx]))
  simp only [List.map_cons, joinC, List.append_assoc, List.cons_append] at e ih ⊢
  rw [show (t :: u :: ts).length = (u :: ts).length + 1 from rfl, rdS, e]
  simp only [Option.bind_some, eat, List.length_cons, Nat.add_eq_zero_iff, Nat.succ_ne_self, and_false, if_false, if_true] at ih ⊢
  rw [ih]; rfl
theorem kind_of {k : Int} {l : Nat} (h : opsOf k = (l : Int)) : (k = 1 ∨ k = 2 ∨ k = 6 ∨ k = 7) ∧ l = 0 ∨ (k = 8 ∨ k = 11 ∨ k = 15 ∨ k = 16) ∧ l = 1 ∨ (k = 3 ∨ k = 4 ∨ k = 5 ∨ k = 13) ∧ l = 2 ∨ (k = 10 ∨ k = 12 ∨ k = 14) ∧ l = 3 ∨ k = 9 ∧ l = 4 := by
 unfold opsOf at h
 split at h
 ·rename_i h'; exact .inl ⟨h', by omega⟩
 split at h
 ·rename_i h'; exact .inr (.inl ⟨h', by omega⟩)
 split at h
 ·rename_i h'; exact .inr (.inr (.inl ⟨h', by omega⟩))
 split at h
 ·rename_i h'; exact .inr (.inr (.inr (.inl ⟨h', by omega⟩)))
 split at h
 ·rename_i h'; exact .inr (.inr (.inr (.inr ⟨h', by omega⟩)))
 ·omega
theorem len1 {α : Type} {l : List α} (h : l.length = 1) : ∃ a, l = [a] := by
 match l, h with
 | [a], _ => exact ⟨a, rfl⟩
theorem len2 {α : Type} {l : List α} (h : l.length = 2) : ∃ a b, l = [a, b] := by
 match l, h with
 | [a, b], _ => exact ⟨a, b, rfl⟩
theorem sh_head {t : T} {env : List UInt8} {d : Nat} (hs : shapeF t d = true) (h1 : t.k ≠ 1) : ∃ x l, shN env t = x :: l ∧ letB x = false := by
 cases t with
 | mk k n ts =>
 simp only [shapeF, Bool.and_eq_true, decide_eq_true_eq] at hs
 simp only [mk_k] at h1
 rw [shN, if_neg h1]
 by_cases h2 : k = 2
 ·rw [if_pos h2]; exact ⟨_, _, rfl, by decide⟩
 rw [if_neg h2]
 rcases kind_of hs.2.1 with ⟨h, _⟩ | ⟨h, _⟩ | ⟨h, _⟩ | ⟨h, _⟩ | ⟨h, _⟩
 ·rcases h with h | h | h | h
  ·exact absurd h h1
  ·exact absurd h h2
  ·subst h; exact ⟨_, _, rfl, by decide⟩
  ·subst h; exact ⟨_, _, rfl, by decide⟩
 ·rcases h with h | h | h | h <;> subst h <;> exact ⟨_, _, rfl, by decide⟩
 ·rcases h with h | h | h | h <;> subst h <;> exact ⟨_, _, rfl, by decide⟩
 ·rcases h with h | h | h <;> subst h <;> exact ⟨_, _, rfl, by decide⟩
 ·subst h; exact ⟨_, _, rfl, by decide⟩
theorem bnd_app {t : T} {env s : List UInt8} {d : Nat} (hs : shapeF t d = true) : bnd (shN env t ++ 32 :: s) = none := by
 by_cases h1 : t.k = 1
 ·cases t with
  | mk k n ts =>
  simp only [mk_k] at h1
  rw [shN, if_pos h1]
  simp [bnd]
 ·obtain ⟨x, l, e, hx⟩ := sh_head (env := env) hs h1
  rw [e]
  cases l with
  | nil => simp [bnd, hx]
  | cons y l => simp [bnd, hx]
theorem shape_node {k n : Int} {ts : List T} {d : Nat} (h : shapeF (.mk k n ts) d = true) : ∃ e, d = e + 1 ∧ opsOf k = ts.length ∧ (0 ≤ n ∧ n ≤ mostOf k) ∧ ∀ u ∈ ts, shapeF u e = true := by
 simp only [shapeF, Bool.and_eq_true, decide_eq_true_eq] at h
 obtain ⟨h1, h2, h3, h4⟩ := h
 exact ⟨d - 1, by omega, h2, h3, fun u hu => shapeL_mem h4 hu⟩
theorem clL_flat {k : Int} (hk : isBd k = false) : ∀ (ts : List T) (i : Nat) (d : Int), clL ts k i d = true → ∀ u ∈ ts, clF u d = true
 | [], _, _, _, _, hu => by cases hu
 | t :: ts, i, d, h, u, hu => by
  simp only [clL, Bool.and_eq_true] at h
  have h0 : under k i = 0 := by
   unfold under; rw [if_neg]
   simp only [isBd, Bool.or_eq_false_iff, decide_eq_false_iff_not] at hk
   omega
  rw [h0] at h
  rcases List.mem_cons.1 hu with rfl | hu
  ·simpa using h.1
  ·exact clL_flat hk ts (i + 1) d h.2 u hu
theorem mbL_mem {k : Int} : ∀ (ts : List T) (i : Nat) {u : T}, u ∈ ts → mbF u ≤ mbL k i ts
 | t :: ts, i, u, hu => by
  rw [mbL]
  rcases List.mem_cons.1 hu with rfl | hu
  ·omega
  ·have := mbL_mem (k := k) ts (i + 1) hu; omega
theorem rd_sh (t : T) : ∀ (d : Nat) (env r : List UInt8), shapeF t d = true → clF t (env.length : Nat) = true → nmOK env → env.length + mbF t ≤ 20 → dhead r = false → rdN d env (shN env t ++ r) = some (t, r) := by
 induction t using T.ind with | h t ih =>
 intro d env r hs hc hn hm hr
 cases t with
 | mk k n ts =>
 obtain ⟨e, rfl, ho, hnn, hk⟩ := shape_node hs
 rw [clF] at hc
 simp only [Bool.and_eq_true, Bool.not_eq_true', Bool.and_eq_false_iff, decide_eq_false_iff_not] at hc
 rw [mbF] at hm
 have flat : isBd k = false → ∀ u ∈ ts, ∀ s, dhead s = false → rdN e env (shN env u ++ s) = some (u, s) := fun hb u hu s hs' =>
  ih u hu e env s (hk u hu) (clL_flat hb ts 0 _ hc.2 u hu) hn (by have := mbL_mem (k := k) ts 0 hu; omega) hs'
 have two : ∀ {a b : T}, isBd k = true → ts = [a, b] → (∀ s, dhead s = false → rdN e env (shN env a ++ s) = some (a, s)) ∧ (∀ s, dhead s = false → rdN e (frL env :: env) (shN (frL env :: env) b ++ s) = some (b, s)) := fun {a b} hb hts => by
  subst hts
  have hu0 : under k 0 = 0 := by unfold under; rw [if_neg (by omega)]
  have hu1 : under k 1 = 1 := by
   unfold under; rw [if_pos]
   simp only [isBd, Bool.or_eq_true, decide_eq_true_eq] at hb
   exact ⟨rfl, hb⟩
  have hc2 := hc.2
  simp only [clL, hu0, hu1, Bool.and_eq_true, Nat.zero_add] at hc2
  simp only [mbL, hu0, hu1, Nat.zero_add] at hm
  have m1 : mbF a ≤ 20 - env.length ∧ mbF b + 1 + env.length ≤ 20 := by
   have : (Int.toNat 1) = 1 := rfl
   have : (Int.toNat 0) = 0 := rfl
   omega
  refine ⟨fun s hs' => ih a (show a ∈ [a, b] by simp) e env s (hk a (by simp)) (by simpa using hc2.1) hn (by omega) hs', fun s hs' => ih b (show b ∈ [a, b] by simp) e (frL env :: env) s (hk b (by simp)) ?_ (nm_cons hn (by omega)) (by simp only [List.length_cons]; omega) hs'⟩
  simpa using hc2.2.1
 have hf : isBd k = true → letB (frL env) = true := fun _ => (frL_ok (by omega)).2
 rw [shN]
 rcases kind_of ho with ⟨h, hl⟩ | ⟨h, hl⟩ | ⟨h, hl⟩ | ⟨h, hl⟩ | ⟨h, hl⟩
 ·have hts := List.eq_nil_of_length_eq_zero hl
  subst hts
  rcases h with h | h | h | h <;> subst h
  ·have hlt : n.toNat < env.length := by have := hc.1; omega
   have hn20 : n.toNat ≤ 20 := by have := hnn.2; rw [show mostOf 1 = 20 from rfl] at this; omega
   have hg : env.getD n.toNat 0 = env[n.toNat] := by simp [List.getD, hlt]
   have hle := hn.1 env[n.toNat] (List.getElem_mem hlt)
   simp only [if_true, List.cons_append, List.nil_append, rdN, hg, hle, fnd_get env hn.2 _ hlt, Option.bind_some, if_pos hn20]
   rw [show ((n.toNat : Nat) : Int) = n from by omega]
  ·have hn3 : n ≤ 3 := by have := hnn.2; rw [show mostOf 2 = 3 from rfl] at this; exact this
   rw [if_neg (by decide), if_pos rfl]
   have : n = 0 ∨ n = 1 ∨ n = 2 ∨ n = 3 := by omega
   rcases this with h | h | h | h <;> subst h <;> simp [rdN, rdNum, hr, show letB 42 = false from by decide, show digB 48 = true from by decide, show digB 49 = true from by decide, show digB 50 = true from by decide, show digB 51 = true from by decide]
  ·have : n = 0 := by have := hnn.2; rw [show mostOf 6 = 0 from rfl] at this; omega
   subst this
   simp [rdN, wv, show letB 78 = false from by decide]
  ·have : n = 0 := by have := hnn.2; rw [show mostOf 7 = 0 from rfl] at this; omega
   subst this
   simp [rdN, wv, show letB 48 = false from by decide]
 ·obtain ⟨a, rfl⟩ := len1 hl
  rcases h with h | h | h | h <;> subst h
  ·have : n = 0 := by have := hnn.2; rw [show mostOf 8 = 0 from rfl] at this; omega
   subst this
   have := flat (by decide) a (by simp) r hr
   simp [rdN, wv, shNL, this, show letB 43 = false from by decide]
  ·have : n = 0 := by have := hnn.2; rw [show mostOf 11 = 0 from rfl] at this; omega
   subst this
   have := flat (by decide) a (by simp) r hr
   simp [rdN, wv, shNL, this, show letB 33 = false from by decide]
  ·have : n = 0 := by have := hnn.2; rw [show mostOf 15 = 0 from rfl] at this; omega
   subst this
   have := flat (by decide) a (by simp) r hr
   simp [rdN, wv, shNL, this, show letB 94 = false from by decide]
  ·have : n = 0 := by have := hnn.2; rw [show mostOf 16 = 0 from rfl] at this; omega
   subst this
   have := flat (by decide) a (by simp) r hr
   simp [rdN, wv, shNL, this, show letB 95 = false from by decide]
 ·obtain ⟨a, b, rfl⟩ := len2 hl
  rcases h with h | h | h | h <;> subst h
  ·have : n = 0 := by have := hnn.2; rw [show mostOf 3 = 0 from rfl] at this; omega
   subst this
   obtain ⟨e1, e2⟩ := two (by decide) rfl
   have e2 := e2 (41 :: r) rfl
   have e1 := e1 (62 :: (shN (frL env :: env) b ++ 41 :: r)) rfl
   simp [rdN, wv, shNL, isBd, bnd, hf (by decide), e1, e2, eat, show letB 40 = false from by decide]
  ·have : n = 0 := by have := hnn.2; rw [show mostOf 4 = 0 from rfl] at this; omega
   subst this
   obtain ⟨e1, e2⟩ := two (by decide) rfl
   have e2 := e2 r hr
   have e1 := e1 (93 :: (shN (frL env :: env) b ++ r)) rfl
   simp [rdN, wv, shNL, isBd, bnd, hf (by decide), e1, e2, eat, show letB 91 = false from by decide]
  ·have : n = 0 := by have := hnn.2; rw [show mostOf 5 = 0 from rfl] at this; omega
   subst this
   have e2 := flat (by decide) b (by simp) (41 :: r) rfl
   have e1 := flat (by decide) a (by simp) (32 :: (shN env b ++ 41 :: r)) rfl
   have e0 := bnd_app (env := env) (s := shN env b ++ 41 :: r) (hk a (by simp))
   simp [rdN, wv, shNL, isBd, e0, e1, e2, eat, show letB 40 = false from by decide]
  ·have : n = 0 := by have := hnn.2; rw [show mostOf 13 = 0 from rfl] at this; omega
   subst this
   obtain ⟨e1, e2⟩ := two (by decide) rfl
   have e2 := e2 (41 :: r) rfl
   have e1 := e1 (42 :: (shN (frL env :: env) b ++ 41 :: r)) rfl
   simp [rdN, wv, shNL, isBd, bnd, hf (by decide), e1, e2, eat, show letB 40 = false from by decide]
 ·have hne : ts ≠ [] := fun h => by rw [h] at hl; cases hl
  rcases h with h | h | h <;> subst h
  ·have : n = 0 := by have := hnn.2; rw [show mostOf 10 = 0 from rfl] at this; omega
   subst this
   have := rdS_join (rdN e env) (shN env) 125 r (by decide) ts hne (flat (by decide))
   rw [hl] at this
   simp [rdN, wv, isBd, shNL_same, this, show letB 123 = false from by decide]
  ·have : n = 0 := by have := hnn.2; rw [show mostOf 12 = 0 from rfl] at this; omega
   subst this
   have := rdS_join (rdN e env) (shN env) 62 r (by decide) ts hne (flat (by decide))
   rw [hl] at this
   simp [rdN, wv, isBd, shNL_same, this, eat, show letB 64 = false from by decide]
  ·have : n = 0 := by have := hnn.2; rw [show mostOf 14 = 0 from rfl] at this; omega
   subst this
   have := rdS_join (rdN e env) (shN env) 124 r (by decide) ts hne (flat (by decide))
   rw [hl] at this
   simp [rdN, wv, isBd, shNL_same, this, show letB 124 = false from by decide]
 ·have hne : ts ≠ [] := fun h => by rw [h] at hl; cases hl
  subst h
  have : n = 0 := by have := hnn.2; rw [show mostOf 9 = 0 from rfl] at this; omega
  subst this
  have := rdS_join (rdN e env) (shN env) 62 r (by decide) ts hne (flat (by decide))
  rw [hl] at this
  simp [rdN, wv, isBd, shNL_same, this, show letB 60 = false from by decide]
theorem rdS_all (p : List UInt8 → Option (T × List UInt8)) (last : UInt8) (P : T → Prop) (hp : ∀ s t r, p s = some (t, r) → P t) : ∀ n s ts r, rdS p last n s = some (ts, r) → ∀ t ∈ ts, P t
 | 0, s, ts, r, h, t, ht => by cases h; cases ht
 | n + 1, s, ts, r, h, t, ht => by
  rw [rdS] at h
  cases e1 : p s with
  | none => rw [e1] at h; cases h
  | some x =>
   rw [e1] at h
   simp only [Option.bind_some] at h
   cases e2 : eat (if n = 0 then last else 44) x.2 with
   | none => rw [e2] at h; cases h
   | some r2 =>
    rw [e2] at h
    simp only [Option.bind_some] at h
    cases e3 : rdS p last n r2 with
    | none => rw [e3] at h; cases h
    | some y =>
     rw [e3] at h
     simp only [Option.map_some, Option.some.injEq, Prod.mk.injEq] at h
     obtain ⟨rfl, _⟩ := h
     rcases List.mem_cons.1 ht with rfl | ht
     ·exact hp s _ _ e1
     ·exact rdS_all p last P hp n r2 y.1 y.2 e3 t ht
theorem clL_of {k : Int} (hk : isBd k = false) : ∀ (ts : List T) (i : Nat) (d : Int), (∀ u ∈ ts, clF u d = true) → clL ts k i d = true
 | [], _, _, _ => rfl
 | t :: ts, i, d, h => by
  have h0 : under k i = 0 := by
   unfold under; rw [if_neg]
   simp only [isBd, Bool.or_eq_false_iff, decide_eq_false_iff_not] at hk
   omega
  simp only [clL, h0, Bool.and_eq_true, Int.add_zero]
  exact ⟨h t (by simp), clL_of hk ts (i + 1) d fun u hu => h u (by simp [hu])⟩
theorem cl_flat {k n : Int} {ts : List T} {d : Int} (hk : isBd k = false) (h1 : k ≠ 1) (h : ∀ u ∈ ts, clF u d = true) : clF (.mk k n ts) d = true := by
 rw [clF, clL_of hk ts 0 d h, decide_eq_false h1]; rfl
theorem cl_two {k : Int} {a b : T} {d : Int} (hk : isBd k = true) (ha : clF a d = true) (hb : clF b (d + 1) = true) : clF (.mk k 0 [a, b]) d = true := by
 have hu0 : under k 0 = 0 := by unfold under; rw [if_neg (by omega)]
 have hk' : k = 3 ∨ k = 4 ∨ k = 13 := by simpa [isBd] using hk
 have hu1 : under k 1 = 1 := by unfold under; rw [if_pos ⟨rfl, hk'⟩]
 rw [clF, decide_eq_false (show ¬ k = 1 by omega)]
 simp only [clL, hu0, hu1, Nat.zero_add, Int.add_zero, ha, hb]; rfl
theorem rd_cl : ∀ (d : Nat) (env s : List UInt8) (t : T) (r : List UInt8), rdN d env s = some (t, r) → clF t (env.length : Nat) = true
 | 0, env, s, t, r, h => by cases h
 | d + 1, env, [], t, r, h => by cases h
 | d + 1, env, c :: s, t, r, h => by
  have one : ∀ {k : Int} {s : List UInt8}, isBd k = false → k ≠ 1 → (rdN d env s).map (fun x => ((T.mk k 0 [x.1], x.2) : T × List UInt8)) = some (t, r) → clF t (env.length : Nat) = true := fun {k s} hk h1 h => by
   cases e : rdN d env s with
   | none => rw [e] at h; cases h
   | some x =>
    rw [e] at h
    simp only [Option.map_some, Option.some.injEq, Prod.mk.injEq] at h
    obtain ⟨rfl, _⟩ := h
    exact cl_flat hk h1 fun u hu => by rw [List.mem_singleton.1 hu]; exact rd_cl d env s _ _ e
  have ser : ∀ {k : Int} {last : UInt8} {n : Nat} {s : List UInt8}, isBd k = false → k ≠ 1 → (rdS (rdN d env) last n s).map (fun y => ((T.mk k 0 y.1, y.2) : T × List UInt8)) = some (t, r) → clF t (env.length : Nat) = true := fun {k last n s} hk h1 h => by
   cases e : rdS (rdN d env) last n s with
   | none => rw [e] at h; cases h
   | some x =>
    rw [e] at h
    simp only [Option.map_some, Option.some.injEq, Prod.mk.injEq] at h
    obtain ⟨rfl, _⟩ := h
    exact cl_flat hk h1 (rdS_all _ _ (fun t => clF t (env.length : Nat) = true) (fun s t r h => rd_cl d env s t r h) _ _ _ _ e)
  rw [rdN] at h
  by_cases hq0 : letB c = true
  ·rw [if_pos hq0] at h
   cases e : fnd env c with
   | none => rw [e] at h; cases h
   | some k =>
    rw [e] at h
    have := fnd_lt env c e
    simp only [Option.bind_some] at h
    split at h
    ·simp only [Option.some.injEq, Prod.mk.injEq] at h
     obtain ⟨rfl, _⟩ := h
     rw [clF, clL, decide_eq_false (show ¬ ((env.length : Nat) : Int) ≤ (k : Int) by omega)]; simp
    ·cases h
  rw [if_neg hq0] at h
  by_cases hq1 : c = 42
  ·rw [if_pos hq1] at h
   cases s with
   | nil => cases h
   | cons x s =>
    rw [rdNum] at h
    split at h
    ·simp only [Option.some.injEq, Prod.mk.injEq] at h
     obtain ⟨rfl, _⟩ := h
     exact cl_flat (by decide) (by decide) fun u hu => by cases hu
    ·cases h
  rw [if_neg hq1] at h
  by_cases hq2 : c = 78
  ·rw [if_pos hq2] at h
   simp only [Option.some.injEq, Prod.mk.injEq] at h
   obtain ⟨rfl, _⟩ := h
   exact cl_flat (by decide) (by decide) fun u hu => by cases hu
  rw [if_neg hq2] at h
  by_cases hq3 : c = 48
  ·rw [if_pos hq3] at h
   simp only [Option.some.injEq, Prod.mk.injEq] at h
   obtain ⟨rfl, _⟩ := h
   exact cl_flat (by decide) (by decide) fun u hu => by cases hu
  rw [if_neg hq3] at h
  by_cases hq4 : c = 43
  ·rw [if_pos hq4] at h
   exact one (by decide) (by decide) h
  rw [if_neg hq4] at h
  by_cases hq5 : c = 33
  ·rw [if_pos hq5] at h
   exact one (by decide) (by decide) h
  rw [if_neg hq5] at h
  by_cases hq6 : c = 94
  ·rw [if_pos hq6] at h
   exact one (by decide) (by decide) h
  rw [if_neg hq6] at h
  by_cases hq7 : c = 95
  ·rw [if_pos hq7] at h
   exact one (by decide) (by decide) h
  rw [if_neg hq7] at h
  by_cases hq8 : c = 40
  ·rw [if_pos hq8] at h
   split at h
   ·rename_i x s' _
    cases e1 : rdN d env s' with
    | none => rw [e1] at h; cases h
    | some a =>
     rw [e1] at h
     simp only [Option.bind_some] at h
     have ha := rd_cl d env s' _ _ e1
     have fin : ∀ {k : Int} {r2 : List UInt8}, isBd k = true → ((rdN d (x :: env) r2).bind fun b => (eat 41 b.2).map fun r => ((T.mk k 0 [a.1, b.1], r) : T × List UInt8)) = some (t, r) → clF t (env.length : Nat) = true := fun {k r2} hk h => by
      cases e2 : rdN d (x :: env) r2 with
      | none => rw [e2] at h; cases h
      | some b =>
       rw [e2] at h
       simp only [Option.bind_some] at h
       have hb := rd_cl d (x :: env) r2 _ _ e2
       cases e3 : eat 41 b.2 with
       | none => rw [e3] at h; cases h
       | some r3 =>
        rw [e3] at h
        simp only [Option.map_some, Option.some.injEq, Prod.mk.injEq] at h
        obtain ⟨rfl, _⟩ := h
        exact cl_two hk ha (by simpa using hb)
     split at h
     ·split at h
      ·exact fin (by decide) h
      ·split at h
       ·exact fin (by decide) h
       ·cases h
     ·cases h
   ·cases e1 : rdN d env s with
    | none => rw [e1] at h; cases h
    | some a =>
     rw [e1] at h
     simp only [Option.bind_some] at h
     have ha := rd_cl d env s _ _ e1
     cases e2 : eat 32 a.2 with
     | none => rw [e2] at h; cases h
     | some r2 =>
      rw [e2] at h
      simp only [Option.bind_some] at h
      cases e3 : rdN d env r2 with
      | none => rw [e3] at h; cases h
      | some b =>
       rw [e3] at h
       simp only [Option.bind_some] at h
       have hb := rd_cl d env r2 _ _ e3
       cases e4 : eat 41 b.2 with
       | none => rw [e4] at h; cases h
       | some r3 =>
        rw [e4] at h
        simp only [Option.map_some, Option.some.injEq, Prod.mk.injEq] at h
        obtain ⟨rfl, _⟩ := h
        refine cl_flat (by decide) (by decide) fun u hu => ?_
        rcases List.mem_cons.1 hu with rfl | hu
        ·exact ha
        ·rw [List.mem_singleton.1 hu]; exact hb
  rw [if_neg hq8] at h
  by_cases hq9 : c = 91
  ·rw [if_pos hq9] at h
   cases e0 : bnd s with
   | none => rw [e0] at h; cases h
   | some x =>
    rw [e0] at h
    simp only [Option.bind_some] at h
    cases e1 : rdN d env x.2 with
    | none => rw [e1] at h; cases h
    | some a =>
     rw [e1] at h
     simp only [Option.bind_some] at h
     have ha := rd_cl d env x.2 _ _ e1
     cases e2 : eat 93 a.2 with
     | none => rw [e2] at h; cases h
     | some r2 =>
      rw [e2] at h
      simp only [Option.bind_some] at h
      cases e3 : rdN d (x.1 :: env) r2 with
      | none => rw [e3] at h; cases h
      | some b =>
       rw [e3] at h
       have hb := rd_cl d (x.1 :: env) r2 _ _ e3
       simp only [Option.map_some, Option.some.injEq, Prod.mk.injEq] at h
       obtain ⟨rfl, _⟩ := h
       exact cl_two (by decide) ha (by simpa using hb)
  rw [if_neg hq9] at h
  by_cases hq10 : c = 60
  ·rw [if_pos hq10] at h
   exact ser (by decide) (by decide) h
  rw [if_neg hq10] at h
  by_cases hq11 : c = 123
  ·rw [if_pos hq11] at h
   exact ser (by decide) (by decide) h
  rw [if_neg hq11] at h
  by_cases hq12 : c = 124
  ·rw [if_pos hq12] at h
   exact ser (by decide) (by decide) h
  rw [if_neg hq12] at h
  by_cases hq13 : c = 64
  ·rw [if_pos hq13] at h
   cases e0 : eat 60 s with
   | none => rw [e0] at h; cases h
   | some x => rw [e0] at h; exact ser (by decide) (by decide) h
  rw [if_neg hq13] at h
  cases h
theorem joinC_len : ∀ (xs ys : List (List UInt8)), xs.map List.length = ys.map List.length → (joinC xs).length = (joinC ys).length
 | [], [], _ => rfl
 | [x], [y], h => by simp only [List.map_cons, List.cons.injEq] at h; simpa [joinC] using h.1
 | x :: x2 :: xs, y :: y2 :: ys, h => by
  simp only [List.map_cons, List.cons.injEq] at h
  have := joinC_len (x2 :: xs) (y2 :: ys) (by simp [h])
  simp only [joinC, List.length_append, List.length_cons, h.1, this]
 | [], _ :: _, h => by simp at h
 | _ :: _, [], h => by simp at h
 | [_], _ :: _ :: _, h => by simp at h
 | _ :: _ :: _, [_], h => by simp at h
theorem getD_len : ∀ (xs ys : List (List UInt8)) (i : Nat), xs.map List.length = ys.map List.length → (xs.getD i []).length = (ys.getD i []).length
 | [], [], _, _ => rfl
 | x :: xs, y :: ys, 0, h => by simp only [List.map_cons, List.cons.injEq] at h; simpa using h.1
 | x :: xs, y :: ys, i + 1, h => by
  simp only [List.map_cons, List.cons.injEq] at h
  exact getD_len xs ys i h.2
 | [], _ :: _, _, h => by simp at h
 | _ :: _, [], _, h => by simp at h
theorem wv_len (k : Int) (c c' : UInt8) {xs ys : List (List UInt8)} (h : xs.map List.length = ys.map List.length) : (wv k c xs).length = (wv k c' ys).length := by
 have h0 := getD_len xs ys 0 h
 have h1 := getD_len xs ys 1 h
 have hj := joinC_len xs ys h
 unfold wv
 simp only
 by_cases h : k = 3
 ·rw [if_pos h, if_pos h]; first | rfl | (simp only [List.length_cons, List.length_append, List.length_nil, h0, h1, hj])
 rw [if_neg h, if_neg h]; clear h
 by_cases h : k = 4
 ·rw [if_pos h, if_pos h]; first | rfl | (simp only [List.length_cons, List.length_append, List.length_nil, h0, h1, hj])
 rw [if_neg h, if_neg h]; clear h
 by_cases h : k = 5
 ·rw [if_pos h, if_pos h]; first | rfl | (simp only [List.length_cons, List.length_append, List.length_nil, h0, h1, hj])
 rw [if_neg h, if_neg h]; clear h
 by_cases h : k = 6
 ·rw [if_pos h, if_pos h]
 rw [if_neg h, if_neg h]; clear h
 by_cases h : k = 7
 ·rw [if_pos h, if_pos h]
 rw [if_neg h, if_neg h]; clear h
 by_cases h : k = 8
 ·rw [if_pos h, if_pos h]; first | rfl | (simp only [List.length_cons, List.length_append, List.length_nil, h0, h1, hj])
 rw [if_neg h, if_neg h]; clear h
 by_cases h : k = 9
 ·rw [if_pos h, if_pos h]; first | rfl | (simp only [List.length_cons, List.length_append, List.length_nil, h0, h1, hj])
 rw [if_neg h, if_neg h]; clear h
 by_cases h : k = 10
 ·rw [if_pos h, if_pos h]; first | rfl | (simp only [List.length_cons, List.length_append, List.length_nil, h0, h1, hj])
 rw [if_neg h, if_neg h]; clear h
 by_cases h : k = 11
 ·rw [if_pos h, if_pos h]; first | rfl | (simp only [List.length_cons, List.length_append, List.length_nil, h0, h1, hj])
 rw [if_neg h, if_neg h]; clear h
 by_cases h : k = 12
 ·rw [if_pos h, if_pos h]; first | rfl | (simp only [List.length_cons, List.length_append, List.length_nil, h0, h1, hj])
 rw [if_neg h, if_neg h]; clear h
 by_cases h : k = 13
 ·rw [if_pos h, if_pos h]; first | rfl | (simp only [List.length_cons, List.length_append, List.length_nil, h0, h1, hj])
 rw [if_neg h, if_neg h]; clear h
 by_cases h : k = 14
 ·rw [if_pos h, if_pos h]; first | rfl | (simp only [List.length_cons, List.length_append, List.length_nil, h0, h1, hj])
 rw [if_neg h, if_neg h]; clear h
 by_cases h : k = 15
 ·rw [if_pos h, if_pos h]; first | rfl | (simp only [List.length_cons, List.length_append, List.length_nil, h0, h1, hj])
 rw [if_neg h, if_neg h]; clear h
 first | rfl | (simp only [List.length_cons, List.length_append, List.length_nil, h0, h1, hj])
theorem shNL_len (ts : List T) (h : ∀ u ∈ ts, ∀ a b : List UInt8, (shN a u).length = (shN b u).length) (a a' b b' : List UInt8) : ∀ (i : Nat), (shNL a a' i ts).map List.length = (shNL b b' i ts).map List.length := by
 induction ts with
 | nil => intro i; simp [shNL]
 | cons t ts ih =>
  intro i
  simp only [shNL, List.map_cons, ih (fun u hu => h u (by simp [hu])) (i + 1)]
  rw [h t (by simp) _ _]
theorem shn_len (t : T) : ∀ (a b : List UInt8), (shN a t).length = (shN b t).length := by
 induction t using T.ind with | h t ih =>
 intro a b
 cases t with
 | mk k n ts =>
 rw [shN, shN]
 split
 ·rfl
 split
 ·rfl
 ·exact wv_len k _ _ (shNL_len ts (fun u hu => ih u hu) _ _ _ _ 0)
theorem wv_ne (k : Int) (c : UInt8) (xs : List (List UInt8)) : wv k c xs ≠ [] := by
 unfold wv
 simp only
 by_cases h : k = 3
 ·rw [if_pos h]; exact nofun
 rw [if_neg h]; clear h
 by_cases h : k = 4
 ·rw [if_pos h]; exact nofun
 rw [if_neg h]; clear h
 by_cases h : k = 5
 ·rw [if_pos h]; exact nofun
 rw [if_neg h]; clear h
 by_cases h : k = 6
 ·rw [if_pos h]; exact nofun
 rw [if_neg h]; clear h
 by_cases h : k = 7
 ·rw [if_pos h]; exact nofun
 rw [if_neg h]; clear h
 by_cases h : k = 8
 ·rw [if_pos h]; exact nofun
 rw [if_neg h]; clear h
 by_cases h : k = 9
 ·rw [if_pos h]; exact nofun
 rw [if_neg h]; clear h
 by_cases h : k = 10
 ·rw [if_pos h]; exact nofun
 rw [if_neg h]; clear h
 by_cases h : k = 11
 ·rw [if_pos h]; exact nofun
 rw [if_neg h]; clear h
 by_cases h : k = 12
 ·rw [if_pos h]; exact nofun
 rw [if_neg h]; clear h
 by_cases h : k = 13
 ·rw [if_pos h]; exact nofun
 rw [if_neg h]; clear h
 by_cases h : k = 14
 ·rw [if_pos h]; exact nofun
 rw [if_neg h]; clear h
 by_cases h : k = 15
 ·rw [if_pos h]; exact nofun
 rw [if_neg h]; exact nofun
theorem shn_ne (t : T) (a : List UInt8) : shN a t ≠ [] := by
 cases t with
 | mk k n ts =>
 rw [shN]
 split
 ·simp
 split
 ·simp
 ·exact wv_ne _ _ _
end Go.Proofs.YtnogehmgpfpjmaaGreatDoor
end
section
namespace Go.Proofs.YtnogehmgpfpjmaaGreatDoor
open Go Go.Dk
def letterB (c : UInt8) : Bool := decide (97 ≤ (c.toNat : Int)) && decide ((c.toNat : Int) ≤ 122)
theorem idxB_neg (s : ByteArray) (c : UInt8) : idxB s c < 0 ↔ c ∉ s.data.toList := by
 unfold idxB
 cases h : s.data.toList.findIdx? (· == c) with
 | none =>
  rw [List.findIdx?_eq_none_iff] at h
  simp only [Int.reduceNeg, Int.neg_neg_iff_pos, Int.zero_lt_one, true_iff]
  intro hc
  simpa using h c hc
 | some k =>
  rw [List.findIdx?_eq_some_iff_getElem] at h
  obtain ⟨hk, hp, _⟩ := h
  simp only [Int.not_lt.2 (Int.natCast_nonneg k), false_iff, Decidable.not_not]
  have : s.data.toList[k] = c := by simpa using hp
  rw [← this]; exact List.getElem_mem hk
theorem extract_take (s : ByteArray) (i : Nat) (h : i ≤ s.size) : (s.extract 0 i).data.toList = s.data.toList.take i := by
 simp
def nvAt (s : ByteArray) (i : Nat) : Bool := letterB (byteAt s i) && !(s.data.toList.take i).contains (byteAt s i)
def nvB (s : ByteArray) : Bool := (List.range s.size).all (nvAt s) && decide (s.size ≤ 20)
theorem nvB_false {s : ByteArray} {i : Nat} (hi : i < s.size) (h : nvAt s i = false) : nvB s = false := by
 unfold nvB
 rw [Bool.and_eq_false_iff]; left
 rw [List.all_eq_false]
 exact ⟨i, by simpa using hi, by simp [h]⟩
theorem nvB_all {s : ByteArray} (h : ∀ j, j < s.size → nvAt s j = true) : nvB s = decide (s.size ≤ 20) := by
 unfold nvB
 rw [List.all_eq_true.2 (fun x hx => h x (by simpa using hx)), Bool.true_and]
def findFrom (s : ByteArray) (c : UInt8) : Nat → Int
 | 0 => -1
 | k + 1 => if byteAt s k = c then (s.size : Int) - 1 - k else findFrom s c k
def findB (s : ByteArray) (c : UInt8) : Int := findFrom s c s.size
theorem findFrom_neg (s : ByteArray) (c : UInt8) : ∀ k, k ≤ s.size → (findFrom s c k < 0 ↔ ∀ j, j < k → byteAt s j ≠ c)
 | 0, _ => by simp [findFrom]
 | k + 1, hk => by
  unfold findFrom
  split
  ·rename_i h
   constructor
   ·intro h1; omega
   ·intro h1; exact absurd h (h1 k (by omega))
  ·rename_i h
   rw [findFrom_neg s c k (by omega)]
   constructor
   ·intro h1 j hj
    rcases Nat.lt_succ_iff_lt_or_eq.1 hj with hj | rfl
    ·exact h1 j hj
    ·exact h
   ·intro h1 j hj; exact h1 j (by omega)
theorem mem_bytes (s : ByteArray) (c : UInt8) : c ∈ s.data.toList ↔ ∃ j, j < s.size ∧ byteAt s j = c := by
 rw [List.mem_iff_getElem]
 constructor
 ·rintro ⟨j, hj, h⟩
  refine ⟨j, by simpa using hj, ?_⟩
  unfold byteAt; rw [List.getElem?_eq_getElem hj]; exact h
 ·rintro ⟨j, hj, h⟩
  have hj' : j < s.data.toList.length := by simpa using hj
  refine ⟨j, hj', ?_⟩
  unfold byteAt at h; rw [List.getElem?_eq_getElem hj'] at h; exact h
theorem findB_neg (s : ByteArray) (c : UInt8) : findB s c < 0 ↔ c ∉ s.data.toList := by
 unfold findB
 rw [findFrom_neg s c s.size (Nat.le_refl _), mem_bytes]
 constructor
 ·rintro h ⟨j, hj, e⟩; exact h j hj e
 ·intro h j hj e; exact h ⟨j, hj, e⟩
theorem byte_eq {a b : UInt8} : ((a.toNat : Int) = (b.toNat : Int)) ↔ a = b := by
 rw [Int.natCast_inj]
 exact ⟨fun h => UInt8.toNat_inj.1 h, fun h => by rw [h]⟩
def freshFrom (s : ByteArray) : Nat → Nat → UInt8
 | 0, _ => 122
 | f + 1, k => if (UInt8.ofNat k) ∉ s.data.toList then UInt8.ofNat k else freshFrom s f (k + 1)
def freshB (s : ByteArray) : UInt8 := freshFrom s 25 97
def freshSFrom (s : ByteArray) : Nat → Nat → UInt8
 | 0, _ => 0
 | f + 1, k => if (UInt8.ofNat k) ∉ s.data.toList then UInt8.ofNat k else freshSFrom s f (k + 1)
theorem len_le {α : Type} [DecidableEq α] : ∀ (l m : List α), l.Nodup → (∀ x ∈ l, x ∈ m) → l.length ≤ m.length
 | [], _, _, _ => by simp
 | a :: l, m, hn, hs => by
  have hm := hs a (List.mem_cons_self ..)
  simp only [List.nodup_cons] at hn
  have := len_le l (m.erase a) hn.2 (fun x hx => (List.mem_erase_of_ne (fun e => hn.1 (by rw [← e]; exact hx))).2 (hs x (List.mem_cons_of_mem _ hx)))
  rw [List.length_erase_of_mem hm] at this
  have := List.length_pos_of_mem hm
  simp only [List.length_cons]; omega
theorem fresh_eq_from (s : ByteArray) : ∀ g k, k + g = 122 → (∃ j, k ≤ j ∧ j ≤ 122 ∧ (UInt8.ofNat j) ∉ s.data.toList) → freshSFrom s (g + 1) k = freshFrom s g k
 | 0, k, hk, ⟨j, h1, h2, h3⟩ => by
  have : j = 122 := by omega
  subst this
  have : k = 122 := by omega
  subst this
  rw [freshSFrom, if_pos h3, freshFrom]; rfl
 | g + 1, k, hk, ⟨j, h1, h2, h3⟩ => by
  rw [freshSFrom, freshFrom]
  split
  ·rfl
  ·rename_i h
   refine fresh_eq_from s g (k + 1) (by omega) ⟨j, ?_, h2, h3⟩
   rcases Nat.eq_or_lt_of_le h1 with rfl | h1
   ·exact absurd h3 h
   ·omega
theorem fresh_eq (s : ByteArray) (h : s.size ≤ 20) : freshSFrom s 26 97 = freshB s := by
 refine fresh_eq_from s 25 97 rfl ?_
 refine Classical.byContradiction fun hn => ?_
 have hall : ∀ x ∈ (List.range' 97 26).map UInt8.ofNat, x ∈ s.data.toList := by
  intro x hx
  obtain ⟨j, hj, rfl⟩ := List.mem_map.1 hx
  rw [List.mem_range'_1] at hj
  exact Classical.byContradiction fun hm => hn ⟨j, by omega, by omega, hm⟩
 have := len_le _ _ (by decide) hall
 simp at this
 omega
theorem nvB_size {s : ByteArray} (h : nvB s = true) : s.size ≤ 20 := by
 unfold nvB at h
 simp only [Bool.and_eq_true, decide_eq_true_eq] at h
 exact h.2
end Go.Proofs.YtnogehmgpfpjmaaGreatDoor
end
section
namespace Go.Proofs.YtnogehmgpfpjmaaGreatDoor
open Go Go.Ab Go.Dk
theorem find_loop (s : ByteArray) (c : UInt8) (hs : s.size ≤ 1048577) (n : Nat) : ∀ k d, k < d → k ≤ s.size → L_spec_l6Find_0 n d s (c.toNat : Int) ((k : Int) - 1) = some ([.one (.int .i64 (findFrom s c k))], [])
 | k, 0, h, _ => by omega
 | 0, d + 1, _, _ => by
  rw [L_spec_l6Find_0_eq]
  simp [findFrom]
 | k + 1, d + 1, h, hk => by
  rw [L_spec_l6Find_0_eq]
  have e : ((k + 1 : Nat) : Int) - 1 = k := by omega
  have w1 : IntKind.i64.wrap ((k : Int) - 1) = (k : Int) - 1 := wrap64 (by omega)
  have w2 : IntKind.i64.wrap ((s.size : Int) - 1) = (s.size : Int) - 1 := wrap64 (by omega)
  have w3 : IntKind.i64.wrap ((s.size : Int) - 1 - k) = (s.size : Int) - 1 - k := wrap64 (by omega)
  simp only [e, w1, w2, w3, cond_dec, if_pos (show (0 : Int) ≤ k by omega), decide_eq_true (show (0 : Int) ≤ k by omega), decide_eq_true (show (k : Int) < s.size by omega), Bool.and_self, cond_true, Int.toNat_natCast, byte_eq, findFrom, find_loop s c hs n k d (by omega) (by omega)]
  split <;> rfl
theorem nvI_loop (s : ByteArray) (hs : s.size ≤ 1048577) (n : Nat) (h1 : ∀ c : UInt8, FF n 60 [.one (.int .u8 (c.toNat : Int))] [] = some ([.one (.bool (letterB c))], []))
   (h2 : ∀ (s : ByteArray) (c : UInt8), FF n 61 [.one (.str s), .one (.int .u8 (c.toNat : Int))] [] = some ([.one (.int .i64 (idxB s c))], [])) :
   ∀ g d k, g < d → k + g = s.size → (∀ j, j < k → nvAt s j = true) → L_impl_NamesValid_0 n d s (s.size : Int) (k : Int) = some ([.one (.bool (nvB s))], [])
 | g, 0, k, h, _, _ => by omega
 | 0, d + 1, k, _, hk, ha => by
  rw [L_impl_NamesValid_0_eq, nvB_all (fun j hj => ha j (by omega))]
  simp only [cond_dec, if_neg (show ¬ (k : Int) < s.size by omega)]
  have : decide ((s.size : Int) ≤ 20) = decide (s.size ≤ 20) := decide_eq_decide.2 (by omega)
  rw [this]
 | g + 1, d + 1, k, h, hk, ha => by
  rw [L_impl_NamesValid_0_eq]
  have w1 : IntKind.i64.wrap ((k : Int) + 1) = ((k + 1 : Nat) : Int) := wrap64 (by omega)
  simp only [w1, inB, cond_dec, h1, h2, evs, if_pos (show (k : Int) < s.size by omega), decide_eq_true (show (0 : Int) ≤ k by omega), decide_eq_true (show (k : Int) < s.size by omega), decide_eq_true (show (k : Int) ≤ s.size by omega), decide_eq_true (Int.le_refl 0), Bool.and_self, Int.toNat_natCast, Int.toNat_zero]
  have hx := idxB_neg (s.extract 0 k) (byteAt s k)
  rw [extract_take s k (by omega)] at hx
  cases hl : letterB (byteAt s k) with
  | false => rw [nvB_false (i := k) (by omega) (by unfold nvAt; rw [hl]; rfl)]; rfl
  | true =>
   simp only [Bool.not_true, cond_false]
   by_cases h0 : 0 ≤ idxB (s.extract 0 k) (byteAt s k)
   ·rw [if_pos h0, nvB_false (i := k) (by omega)]
    unfold nvAt
    have : byteAt s k ∈ s.data.toList.take k := by
     refine Classical.byContradiction fun hc => ?_
     have := hx.2 hc; omega
    simp [this]
   ·rw [if_neg h0]
    refine nvI_loop s hs n h1 h2 g d (k + 1) (by omega) (by omega) fun j hj => ?_
    rcases Nat.lt_succ_iff_lt_or_eq.1 hj with hj | rfl
    ·exact ha j hj
    ·unfold nvAt
     have hn : byteAt s j ∉ s.data.toList.take j := hx.1 (by omega)
     rw [hl]; simp only [Bool.true_and, Bool.not_eq_true']
     rw [← Bool.not_eq_true, List.contains_iff_mem]; exact hn
theorem nvS_loop (s : ByteArray) (hs : s.size ≤ 1048577) (n : Nat) (h1 : ∀ c : UInt8, FF n 50 [.one (.int .u8 (c.toNat : Int))] [] = some ([.one (.bool (letterB c))], []))
   (h2 : ∀ (t : ByteArray) (c : UInt8), t.size ≤ s.size → FF n 51 [.one (.str t), .one (.int .u8 (c.toNat : Int))] [] = some ([.one (.int .i64 (findB t c))], [])) :
   ∀ g d k, g < d → k + g = s.size → (∀ j, j < k → nvAt s j = true) → L_spec_NamesValid_0 n d s (k : Int) = some ([.one (.bool (nvB s))], [])
 | g, 0, k, h, _, _ => by omega
 | 0, d + 1, k, _, hk, ha => by
  rw [L_spec_NamesValid_0_eq, nvB_all (fun j hj => ha j (by omega))]
  simp only [cond_dec, if_neg (show ¬ (k : Int) < s.size by omega)]
  have : decide ((s.size : Int) ≤ 20) = decide (s.size ≤ 20) := decide_eq_decide.2 (by omega)
  rw [this]
 | g + 1, d + 1, k, h, hk, ha => by
  rw [L_spec_NamesValid_0_eq]
  have w1 : IntKind.i64.wrap ((k : Int) + 1) = ((k + 1 : Nat) : Int) := wrap64 (by omega)
  simp only [w1, inB, cond_dec, h1, h2 _ _ (show (s.extract 0 k).size ≤ s.size by rw [ByteArray.size_extract]; omega), evs, if_pos (show (k : Int) < s.size by omega), decide_eq_true (show (0 : Int) ≤ k by omega), decide_eq_true (show (k : Int) < s.size by omega), decide_eq_true (show (k : Int) ≤ s.size by omega), decide_eq_true (Int.le_refl 0), Bool.and_self, Int.toNat_natCast, Int.toNat_zero]
  have hx := findB_neg (s.extract 0 k) (byteAt s k)
  rw [extract_take s k (by omega)] at hx
  cases hl : letterB (byteAt s k) with
  | false => rw [nvB_false (i := k) (by omega) (by unfold nvAt; rw [hl]; rfl)]; rfl
  | true =>
   simp only [Bool.not_true, cond_false]
   by_cases h0 : 0 ≤ findB (s.extract 0 k) (byteAt s k)
   ·rw [if_pos h0, nvB_false (i := k) (by omega)]
    unfold nvAt
    have : byteAt s k ∈ s.data.toList.take k := by
     refine Classical.byContradiction fun hc => ?_
     have := hx.2 hc; omega
    simp [this]
   ·rw [if_neg h0]
    refine nvS_loop s hs n h1 h2 g d (k + 1) (by omega) (by omega) fun j hj => ?_
    rcases Nat.lt_succ_iff_lt_or_eq.1 hj with hj | rfl
    ·exact ha j hj
    ·unfold nvAt
     have hn : byteAt s j ∉ s.data.toList.take j := hx.1 (by omega)
     rw [hl]; simp only [Bool.true_and, Bool.not_eq_true']
     rw [← Bool.not_eq_true, List.contains_iff_mem]; exact hn
theorem freshI_loop (s : ByteArray) (n : Nat) (h2 : ∀ (s : ByteArray) (c : UInt8), FF n 61 [.one (.str s), .one (.int .u8 (c.toNat : Int))] [] = some ([.one (.int .i64 (idxB s c))], [])) :
   ∀ g d (k : Nat), g < d → k + g = 122 → 97 ≤ k → L_impl_fresh_0 n d s (k : Int) = some ([.one (.str ⟨#[freshFrom s g k]⟩)], [])
 | g, 0, k, h, _, _ => by omega
 | 0, d + 1, k, _, hk, _ => by
  rw [L_impl_fresh_0_eq]
  simp only [cond_dec, if_neg (show ¬ (k : Int) < 122 by omega)]; rfl
 | g + 1, d + 1, k, h, hk, h97 => by
  rw [L_impl_fresh_0_eq]
  have hv : (k : Int) = ((UInt8.ofNat k).toNat : Int) := by rw [UInt8.toNat_ofNat_of_lt' (by simp [UInt8.size]; omega)]
  have hi := h2 s (UInt8.ofNat k)
  rw [← hv] at hi
  have w1 : IntKind.u8.wrap ((k : Int) + 1) = ((k + 1 : Nat) : Int) := by
   rw [IntKind.wrap]; simp [IntKind.signed, IntKind.bits]; omega
  simp only [cond_dec, if_pos (show (k : Int) < 122 by omega), hi, evs, decide_eq_true (show (0 : Int) ≤ k by omega), decide_eq_true (show (k : Int) ≤ 255 by omega), Bool.and_self, Int.toNat_natCast, w1]
  have hx := idxB_neg s (UInt8.ofNat k)
  unfold freshFrom
  by_cases h0 : idxB s (UInt8.ofNat k) < 0
  ·rw [if_pos h0, if_pos (hx.1 h0)]
  ·rw [if_neg h0, if_neg (fun h => h0 (hx.2 h))]
   exact freshI_loop s n h2 g d (k + 1) (by omega) (by omega) (by omega)
theorem freshS_loop (s : ByteArray) (n : Nat) (h2 : ∀ c : UInt8, FF n 51 [.one (.str s), .one (.int .u8 (c.toNat : Int))] [] = some ([.one (.int .i64 (findB s c))], [])) :
   ∀ g d (k : Nat), g < d → k + g = 123 → 97 ≤ k → L_spec_l6Fresh_0 n d s (k : Int) = some ([.one (.int .u8 ((freshSFrom s g k).toNat : Int))], [])
 | g, 0, k, h, _, _ => by omega
 | 0, d + 1, k, _, hk, _ => by
  rw [L_spec_l6Fresh_0_eq]
  simp only [cond_dec, if_neg (show ¬ (k : Int) ≤ 122 by omega)]; rfl
 | g + 1, d + 1, k, h, hk, h97 => by
  rw [L_spec_l6Fresh_0_eq]
  have hv : (k : Int) = ((UInt8.ofNat k).toNat : Int) := by rw [UInt8.toNat_ofNat_of_lt' (by simp [UInt8.size]; omega)]
  have hi := h2 (UInt8.ofNat k)
  rw [← hv] at hi
  have w1 : IntKind.u8.wrap ((k : Int) + 1) = ((k + 1 : Nat) : Int) := by
   rw [IntKind.wrap]; simp [IntKind.signed, IntKind.bits]; omega
  simp only [cond_dec, if_pos (show (k : Int) ≤ 122 by omega), hi, evs, w1]
  have hx := findB_neg s (UInt8.ofNat k)
  unfold freshSFrom
  by_cases h0 : findB s (UInt8.ofNat k) < 0
  ·rw [if_pos h0, if_pos (hx.1 h0), ← hv]
  ·rw [if_neg h0, if_neg (fun h => h0 (hx.2 h))]
   exact freshS_loop s n h2 g d (k + 1) (by omega) (by omega) (by omega)
end Go.Proofs.YtnogehmgpfpjmaaGreatDoor
end
section
namespace Go.Proofs.YtnogehmgpfpjmaaGreatDoor
open Go Go.Ab Go.Dk
abbrev sr (l : List UInt8) : V1 := .one (.str (bytesOf l))
theorem by_size (l : List UInt8) : (bytesOf l).size = l.length := by unfold bytesOf; show l.toArray.size = _; simp
theorem by_data (l : List UInt8) : (bytesOf l).data.toList = l := rfl
theorem by_toList (l : List UInt8) : (bytesOf l).toList = l := by rw [ByteArray.toList_eq]; rfl
theorem by_of (s : ByteArray) : s = bytesOf s.data.toList := by unfold bytesOf; apply ByteArray.ext; simp
theorem by_app (l m : List UInt8) : bytesOf l ++ bytesOf m = bytesOf (l ++ m) := by unfold bytesOf; apply ByteArray.ext; apply Array.toList_inj.1; simp
theorem by_ext (l : List UInt8) (a b : Nat) : (bytesOf l).extract a b = bytesOf ((l.take b).drop a) := by
 unfold bytesOf; apply ByteArray.ext; apply Array.toList_inj.1
 rw [ByteArray.data_extract, Array.toList_extract]
 simp [List.drop_take]
theorem by_at (l : List UInt8) (i : Nat) : byteAt (bytesOf l) i = (l[i]?).getD 0 := rfl
theorem ne_nil {l : List UInt8} : (l == ([] : List UInt8)) = decide (l = []) := by cases l <;> rfl
section
variable {n : Nat} (l p : List UInt8)
theorem f_HasPrefix (hn : 1 ≤ n) : FF n 120 [sr l, sr p] [] = some ([bl (p.isPrefixOf l)], []) := by
 obtain ⟨n, rfl⟩ := pos_succ (show 0 < n by omega)
 rw [E_stringslite_HasPrefix]
 simp only [by_size]
 by_cases h : p.length ≤ l.length
 ·rw [decide_eq_true (show (p.length : Int) ≤ l.length by omega), cond_true]
  have hin : Go.Ab.inB 0 (p.length : Int) l.length = true := by simp only [inB, Bool.and_eq_true, decide_eq_true_eq]; omega
  rw [hin, cond_true, Int.toNat_natCast, show (0 : Int).toNat = 0 from rfl, by_ext, by_toList, by_toList, List.drop_zero]
  congr 5
  rw [Bool.eq_iff_iff, List.isPrefixOf_iff_prefix, beq_iff_eq, List.prefix_iff_eq_take]
  exact eq_comm
 ·rw [decide_eq_false (show ¬ (p.length : Int) ≤ l.length by omega), cond_false]
  have : p.isPrefixOf l = false := by
   cases h2 : p.isPrefixOf l with
   | false => rfl
   | true => rw [List.isPrefixOf_iff_prefix] at h2; exact absurd h2.length_le h
  rw [this]
def cutP (p l : List UInt8) : Option (List UInt8) := if p.isPrefixOf l = true then some (l.drop p.length) else none
theorem in_pre {p l : List UInt8} (h : p.isPrefixOf l = true) : Go.Ab.inB (p.length : Int) l.length l.length = true := by
 have := (List.isPrefixOf_iff_prefix.1 h).length_le
 simp only [inB, Bool.and_eq_true, decide_eq_true_eq]; omega
theorem f_CutPrefix (hn : 3 ≤ n) : FF n 71 [sr l, sr p] [] = some ([sr ((cutP p l).getD l), bl (cutP p l).isSome], []) := by
 obtain ⟨n, rfl⟩ := pos_succ (show 0 < n by omega)
 rw [E_strings_CutPrefix]
 obtain ⟨n, rfl⟩ := pos_succ (show 0 < n by omega)
 rw [E_stringslite_CutPrefix, f_HasPrefix _ _ (by omega)]
 simp only [evt]
 unfold cutP
 cases h : p.isPrefixOf l with
 | true =>
  simp only [Bool.not_true, cond_false, by_size, in_pre h, cond_true, if_true]
  rw [Int.toNat_natCast, Int.toNat_natCast, by_ext, List.take_length]
  simp only [evt, Option.getD_some, Option.isSome_some]
 | false =>
  simp only [Bool.not_false, cond_true, Bool.false_eq_true, if_false]
  simp only [evt, Option.getD_none, Option.isSome_none]
theorem f_TrimPrefix (hn : 3 ≤ n) : FF n 67 [sr l, sr p] [] = some ([sr ((cutP p l).getD l)], []) := by
 obtain ⟨n, rfl⟩ := pos_succ (show 0 < n by omega)
 rw [E_strings_TrimPrefix]
 obtain ⟨n, rfl⟩ := pos_succ (show 0 < n by omega)
 rw [E_stringslite_TrimPrefix, f_HasPrefix _ _ (by omega)]
 simp only [evt]
 unfold cutP
 cases h : p.isPrefixOf l with
 | true =>
  simp only [by_size, in_pre h, cond_true, if_true]
  rw [Int.toNat_natCast, Int.toNat_natCast, by_ext, List.take_length]
  simp only [evt, Option.getD_some]
 | false =>
  simp only [cond_false, Bool.false_eq_true, if_false]
  simp only [evt, Option.getD_none]
end
theorem cut_nil (l : List UInt8) : cutP [] l = some l := by simp [cutP]
theorem cut_one (c : UInt8) (l : List UInt8) : cutP [c] l = eat c l := by
 cases l with
 | nil => rfl
 | cons x l =>
  unfold cutP eat
  simp only [List.isPrefixOf, Bool.and_true, beq_iff_eq]
  by_cases h : c = x
  ·subst h; simp
  ·rw [if_neg h, if_neg (fun e => h e.symm)]
theorem f_Split {n : Nat} (s : List UInt8) {ps : List (List UInt8)} (hs : shTab.lookup s = some ps) : FF (n + 1) 69 [sr s, .one (.str (bytesOf [46]))] [] = some ([.one (.fr (.ss (ps.map bytesOf)))], []) := by
 have e : FF (n + 1) 69 [sr s, .one (.str (bytesOf [46]))] [] = spP [sr s, .one (.str (bytesOf [46]))] := by kernel_rfl
 rw [e]
 unfold spP
 simp only [by_toList, if_true, hs, Option.bind_some]
theorem f_Itoa {n : Nat} {k : Int} (h0 : 0 ≤ k) (h1 : k ≤ 9223372036854775807) : FF (n + 1) 68 [nt k] [] = some ([sr (Lib.itoa k)], []) := by
 have e : FF (n + 1) 68 [nt k] [] = itP [nt k] := by kernel_rfl
 rw [e]
 unfold itP
 simp only [if_pos (show 0 ≤ k ∧ k ≤ 9223372036854775807 from ⟨h0, h1⟩)]
theorem f_readNumber {n : Nat} {l : List UInt8} (h : l.length ≤ 1073741824) : FF (n + 1) 65 [sr l] [] = some ([nt (rnN l), sr (rnR l)], []) := by
 have e : FF (n + 1) 65 [sr l] [] = rnP [sr l] := by kernel_rfl
 rw [e]
 unfold rnP
 simp only [by_size, if_pos h, by_toList]
theorem fnd_none {c : UInt8} : ∀ {l : List UInt8}, c ∉ l → fnd l c = none
 | [], _ => rfl
 | x :: l, h => by
  rw [fnd, if_neg (fun e => h (by rw [e]; exact List.mem_cons_self ..)), fnd_none (fun hm => h (List.mem_cons_of_mem _ hm))]; rfl
theorem fnd_first {c : UInt8} : ∀ {l : List UInt8} {k : Nat} (h : k < l.length), l[k] = c → (∀ j, j < k → l[j]? ≠ some c) → fnd l c = some k
 | x :: l, 0, h, e, _ => by
  rw [fnd, if_pos (by simpa using e)]
 | x :: l, k + 1, h, e, hn => by
  rw [fnd, if_neg (fun e2 => hn 0 (by omega) (by rw [e2]; rfl)), fnd_first (l := l) (k := k) (by simpa using h) (by simpa using e) (fun j hj => by have := hn (j + 1) (by omega); simpa using this)]; rfl
theorem last_loop (e : List UInt8) (c : UInt8) (he : e.length ≤ 1000) (n : Nat) : ∀ g m, g < m → g ≤ e.length → (∀ k, k < e.length - g → e[k]? ≠ some c) →
   L_bytealg_LastIndexByteString_0 n m (bytesOf e.reverse) (c.toNat : Int) ((g : Int) - 1) = some ([nt (match fnd e c with | some k => (e.length : Int) - 1 - k | none => -1)], [])
 | g, 0, h, _, _ => by omega
 | 0, m + 1, _, _, hno => by
  rw [L_bytealg_LastIndexByteString_0_eq, decide_eq_false (show ¬ (0 : Int) ≤ ((0 : Nat) : Int) - 1 by omega), cond_false]
  have : fnd e c = none := fnd_none fun hm => by
   obtain ⟨k, hk, e1⟩ := List.getElem_of_mem hm
   exact hno k (by omega) (by rw [List.getElem?_eq_getElem hk, e1])
  rw [this]
 | g + 1, m + 1, hg, hl, hno => by
  have hi : ((g + 1 : Nat) : Int) - 1 = (g : Int) := by omega
  have hlt : g < e.reverse.length := by rw [List.length_reverse]; omega
  have hat : (e.reverse)[g]? = e[e.length - 1 - g]? := by rw [List.getElem?_reverse (by omega)]
  have hk : e.length - 1 - g < e.length := by omega
  rw [hi, L_bytealg_LastIndexByteString_0_eq, decide_eq_true (show (0 : Int) ≤ (g : Int) by omega), cond_true, by_size, decide_eq_true (show (g : Int) < ((e.reverse.length : Nat) : Int) by omega)]
  simp only [Bool.and_true, decide_true, cond_true, Int.toNat_natCast, by_at, hat, List.getElem?_eq_getElem hk, Option.getD_some, decide_eq_true (show (0 : Int) ≤ (g : Int) by omega)]
  by_cases hc : e[e.length - 1 - g] = c
  ·rw [hc, decide_eq_true rfl, cond_true]
   have : fnd e c = some (e.length - 1 - g) := fnd_first hk hc fun k hk' => fun e1 => hno k (by omega) e1
   rw [this]
   simp only [nt]
   congr 5; omega
  ·rw [decide_eq_false (show ¬ ((e[e.length - 1 - g].toNat : Int) = (c.toNat : Int)) from fun h => hc (byte_eq.1 h)), cond_false, wrap64 (show -9223372036854775808 ≤ (g : Int) - 1 ∧ (g : Int) - 1 ≤ 9223372036854775807 by omega)]
   exact last_loop e c he n g m (by omega) (by omega) fun k hk2 => by
    by_cases hk3 : k = e.length - 1 - g
    ·subst hk3; rw [List.getElem?_eq_getElem hk]; intro h; injection h with h; exact hc h
    ·exact hno k (by omega)
theorem f_LastIndexByte {n : Nat} (e : List UInt8) (c : UInt8) (he : e.length ≤ 1000) (hn : e.length + 3 ≤ n) : FF n 62 [sr e.reverse, .one (.int .u8 (c.toNat : Int))] [] = some ([nt (match fnd e c with | some k => (e.length : Int) - 1 - k | none => -1)], []) := by
 obtain ⟨n, rfl⟩ := pos_succ (show 0 < n by omega)
 rw [E_strings_LastIndexByte]
 obtain ⟨n, rfl⟩ := pos_succ (show 0 < n by omega)
 rw [E_bytealg_LastIndexByteString, by_size, List.length_reverse, wrap64 (show -9223372036854775808 ≤ (e.length : Int) - 1 ∧ (e.length : Int) - 1 ≤ 9223372036854775807 by omega), last_loop e c he n e.length n (by omega) (Nat.le_refl _) (fun k hk => by omega)]
 simp only [evt]
theorem findB_fnd (e : List UInt8) (c : UInt8) : findB (bytesOf e.reverse) c = (match fnd e c with | some k => (k : Int) | none => -1) := by
 have key : ∀ g, g ≤ e.length → (∀ k, k < e.length - g → e[k]? ≠ some c) → findFrom (bytesOf e.reverse) c g = (match fnd e c with | some k => (k : Int) | none => -1) := by
  intro g
  induction g with
  | zero =>
   intro _ hno
   have : fnd e c = none := fnd_none fun hm => by
    obtain ⟨k, hk, e1⟩ := List.getElem_of_mem hm
    exact hno k (by omega) (by rw [List.getElem?_eq_getElem hk, e1])
   rw [this]; rfl
  | succ g ih =>
   intro hg hno
   have hat : (e.reverse)[g]? = e[e.length - 1 - g]? := by rw [List.getElem?_reverse (by omega)]
   have hk : e.length - 1 - g < e.length := by omega
   rw [findFrom, by_at, hat, List.getElem?_eq_getElem hk, Option.getD_some, by_size, List.length_reverse]
   by_cases hc : e[e.length - 1 - g] = c
   ·rw [if_pos hc, fnd_first hk hc fun k hk' => fun e1 => hno k (by omega) e1]
    show (e.length : Int) - 1 - g = ((e.length - 1 - g : Nat) : Int)
    omega
   ·rw [if_neg hc]
    exact ih (by omega) fun k hk2 => by
     by_cases hk3 : k = e.length - 1 - g
     ·subst hk3; rw [List.getElem?_eq_getElem hk]; intro h; injection h with h; exact hc h
     ·exact hno k (by omega)
 have := key e.length (Nat.le_refl _) (fun k hk => by omega)
 unfold findB
 rw [by_size, List.length_reverse]; exact this
end Go.Proofs.YtnogehmgpfpjmaaGreatDoor
end
section
namespace Go.Proofs.YtnogehmgpfpjmaaGreatDoor
open Go Go.Ab Go.Dk
def numI (s : List UInt8) : Option (T × List UInt8) := if 0 ≤ rnN s ∧ rnR s = (cutP (Lib.itoa (rnN s)) s).getD s then some (.mk 2 (rnN s) [], rnR s) else none
def rdI : Nat → List UInt8 → List UInt8 → Option (T × List UInt8)
 | 0, _, _ => none
 | _ + 1, _, [] => none
 | d + 1, env, c :: s =>
  if letB c = true then (fnd env c).map fun k => (.mk 1 k [], s)
  else if c = 42 then numI s
  else if c = 78 then some (.mk 6 0 [], s)
  else if c = 48 then some (.mk 7 0 [], s)
  else if c = 43 then (rdI d env s).map fun x => (.mk 8 0 [x.1], x.2)
  else if c = 33 then (rdI d env s).map fun x => (.mk 11 0 [x.1], x.2)
  else if c = 94 then (rdI d env s).map fun x => (.mk 15 0 [x.1], x.2)
  else if c = 95 then (rdI d env s).map fun x => (.mk 16 0 [x.1], x.2)
  else if c = 40 then (match bnd s with
   | some (x, s) => (rdI d env s).bind fun a => (match a.2 with
    | y :: r => if y = 62 then (rdI d (x :: env) r).bind fun b => (eat 41 b.2).map fun r => (.mk 3 0 [a.1, b.1], r)
     else if y = 42 then (rdI d (x :: env) r).bind fun b => (eat 41 b.2).map fun r => (.mk 13 0 [a.1, b.1], r) else none
    | [] => none)
   | none => (rdI d env s).bind fun a => (eat 32 a.2).bind fun r => (rdI d env r).bind fun b => (eat 41 b.2).map fun r => (.mk 5 0 [a.1, b.1], r))
  else if c = 91 then (bnd s).bind fun x => (rdI d env x.2).bind fun a => (eat 93 a.2).bind fun r => (rdI d (x.1 :: env) r).map fun b => (.mk 4 0 [a.1, b.1], b.2)
  else if c = 60 then (rdS (rdI d env) 62 4 s).map fun y => (.mk 9 0 y.1, y.2)
  else if c = 123 then (rdS (rdI d env) 125 3 s).map fun y => (.mk 10 0 y.1, y.2)
  else if c = 124 then (rdS (rdI d env) 124 3 s).map fun y => (.mk 14 0 y.1, y.2)
  else if c = 64 then (eat 60 s).bind fun s => (rdS (rdI d env) 62 3 s).map fun y => (.mk 12 0 y.1, y.2)
  else none
mutual
def smT : T → Bool
 | .mk k n ts => (!decide (k = 1) || decide (n ≤ 20)) && ((!decide (k = 2) || decide (n ≤ 9)) && smL ts)
def smL : List T → Bool
 | [] => true
 | t :: ts => smT t && smL ts
end
def grd (o : Option (T × List UInt8)) : Option (T × List UInt8) := o.bind fun x => if smT x.1 = true then some x else none
def grdL (o : Option (List T × List UInt8)) : Option (List T × List UInt8) := o.bind fun x => if smL x.1 = true then some x else none
theorem dgs_stop {x : UInt8} {r : List UInt8} (hx : digB x = true) (hr : dhead r = false) : dgs (x :: r) = [x] ∧ (x :: r).dropWhile digB = r := by
 have hr' : r.takeWhile digB = [] ∧ r.dropWhile digB = r := by
  cases r with
  | nil => exact ⟨rfl, rfl⟩
  | cons y r => have : digB y = false := hr; simp [this]
 unfold dgs
 simp [hx, hr'.1, hr'.2]
theorem dig_cases {x : UInt8} (h : digB x = true) : x = 48 ∨ x = 49 ∨ x = 50 ∨ x = 51 ∨ x = 52 ∨ x = 53 ∨ x = 54 ∨ x = 55 ∨ x = 56 ∨ x = 57 := by
 simp only [digB, Bool.and_eq_true, decide_eq_true_eq] at h
 have e : x = UInt8.ofNat x.toNat := by simp
 have : x.toNat = 48 ∨ x.toNat = 49 ∨ x.toNat = 50 ∨ x.toNat = 51 ∨ x.toNat = 52 ∨ x.toNat = 53 ∨ x.toNat = 54 ∨ x.toNat = 55 ∨ x.toNat = 56 ∨ x.toNat = 57 := by omega
 rcases this with h | h | h | h | h | h | h | h | h | h <;> rw [h] at e <;> subst e <;> decide
theorem atoi_one {x : UInt8} (h : digB x = true) : Lib.atoiAll [x] = .ok ((x.toNat : Int) - 48) := by
 rcases dig_cases h with h | h | h | h | h | h | h | h | h | h <;> subst h <;> rfl
theorem itoa_one {x : UInt8} (h : digB x = true) : Lib.itoa ((x.toNat : Int) - 48) = [x] := by
 rcases dig_cases h with h | h | h | h | h | h | h | h | h | h <;> subst h <;> decide +kernel
theorem dw_len (p : UInt8 → Bool) : ∀ l : List UInt8, (l.dropWhile p).length ≤ l.length
 | [] => Nat.le_refl _
 | x :: l => by
  have := dw_len p l
  rw [List.dropWhile_cons]
  split <;> simp <;> omega
theorem num_grd (s : List UInt8) : rdNum s = grd (numI s) := by
 cases s with
 | nil => rfl
 | cons x r =>
  cases hx : digB x with
  | false =>
   have h1 : rnN (x :: r) = -1 := by
    unfold rnN dgs
    simp only [List.takeWhile_cons, hx, Bool.false_eq_true, if_false]; rfl
   simp only [rdNum, hx, Bool.false_eq_true, false_and, if_false, numI, h1]
   rfl
  | true =>
   cases hr : dhead r with
   | false =>
    obtain ⟨h1, h2⟩ := dgs_stop hx hr
    have e1 : rnN (x :: r) = (x.toNat : Int) - 48 := by unfold rnN; rw [h1, atoi_one hx]
    have e2 : rnR (x :: r) = r := by unfold rnR; rw [h1, atoi_one hx]; exact h2
    have hx' := hx
    simp only [digB, Bool.and_eq_true, decide_eq_true_eq] at hx'
    simp only [rdNum, hx, hr, and_self, if_true, numI, e1, e2, itoa_one hx, cut_one, eat, Option.getD_some]
    rw [if_pos (by exact ⟨by omega, trivial⟩)]
    show _ = (if smT (.mk 2 ((x.toNat : Int) - 48) []) = true then _ else _)
    rw [if_pos]
    simp only [smT, smL, Bool.and_true, Bool.and_eq_true, Bool.or_eq_true, decide_eq_true_eq, Bool.not_eq_true', decide_eq_false_iff_not]
    omega
   | true =>
    simp only [rdNum, hx, hr, Bool.true_eq_false, and_false, if_false]
    symm
    unfold grd numI
    split
    ·rename_i hn
     obtain ⟨h0, h1⟩ := hn
     show (if smT (.mk 2 (rnN (x :: r)) []) = true then _ else _) = none
     rw [if_neg]
     intro hs
     simp only [smT, smL, Bool.and_true, Bool.and_eq_true, Bool.or_eq_true, decide_eq_true_eq, Bool.not_eq_true', decide_eq_false_iff_not] at hs
     have h9 : rnN (x :: r) ≤ 9 := by
      rcases hs.2 with h | h
      ·exact absurd trivial h
      ·exact h
     obtain ⟨y, hy, hyd⟩ : ∃ y : UInt8, rnN (x :: r) = (y.toNat : Int) - 48 ∧ digB y = true := by
      generalize rnN (x :: r) = k at h0 h9
      have : k = 0 ∨ k = 1 ∨ k = 2 ∨ k = 3 ∨ k = 4 ∨ k = 5 ∨ k = 6 ∨ k = 7 ∨ k = 8 ∨ k = 9 := by omega
      rcases this with h | h | h | h | h | h | h | h | h | h <;> subst h
      ·exact ⟨48, rfl, rfl⟩
      ·exact ⟨49, rfl, rfl⟩
      ·exact ⟨50, rfl, rfl⟩
      ·exact ⟨51, rfl, rfl⟩
      ·exact ⟨52, rfl, rfl⟩
      ·exact ⟨53, rfl, rfl⟩
      ·exact ⟨54, rfl, rfl⟩
      ·exact ⟨55, rfl, rfl⟩
      ·exact ⟨56, rfl, rfl⟩
      ·exact ⟨57, rfl, rfl⟩
     rw [hy, itoa_one hyd, cut_one] at h1
     have hlen : (rnR (x :: r)).length < r.length := by
      have hd : (x :: r).dropWhile digB = r.dropWhile digB := by simp [hx]
      cases r with
      | nil => cases hr
      | cons z r =>
       have hz : digB z = true := hr
       unfold rnR
       split
       ·rw [hd, List.dropWhile_cons, if_pos hz]
        have := dw_len digB r
        simp; omega
       ·simp
     rw [h1] at hlen
     have he : eat y (x :: r) = if x = y then some r else none := rfl
     rw [he] at hlen
     split at hlen
     ·simp at hlen
     ·simp at hlen; omega
    ·rfl
theorem rdS_grd {p q : List UInt8 → Option (T × List UInt8)} (h : ∀ s, p s = grd (q s)) (last : UInt8) : ∀ n s, rdS p last n s = grdL (rdS q last n s)
 | 0, s => rfl
 | n + 1, s => by
  rw [rdS, rdS, h s]
  cases hq : q s with
  | none => rfl
  | some x =>
   obtain ⟨t, r⟩ := x
   simp only [grd, Option.bind_some]
   cases ht : smT t with
   | false =>
    simp only [Bool.false_eq_true, if_false, Option.bind_none]
    cases he : eat (if n = 0 then last else 44) r with
    | none => rfl
    | some r2 =>
     simp only [Option.bind_some]
     cases hr : rdS q last n r2 with
     | none => rfl
     | some y => simp [grdL, smL, ht]
   | true =>
    simp only [if_true, Option.bind_some]
    cases he : eat (if n = 0 then last else 44) r with
    | none => rfl
    | some r2 =>
     simp only [Option.bind_some]
     rw [rdS_grd h last n r2]
     cases hr : rdS q last n r2 with
     | none => rfl
     | some y =>
      cases hy : smL y.1 <;> simp [grdL, smL, ht, hy]
theorem sm_one (k : Int) (a : T) (h1 : k ≠ 1) (h2 : k ≠ 2) : smT (.mk k 0 [a]) = smT a := by simp [smT, smL, h1, h2]
theorem sm_two (k : Int) (a b : T) (h1 : k ≠ 1) (h2 : k ≠ 2) : smT (.mk k 0 [a, b]) = (smT a && smT b) := by simp [smT, smL, h1, h2]
theorem sm_list (k : Int) (l : List T) (h1 : k ≠ 1) (h2 : k ≠ 2) : smT (.mk k 0 l) = smL l := by simp [smT, h1, h2]
theorem grd_map1 (k : Int) (h1 : k ≠ 1) (h2 : k ≠ 2) (o : Option (T × List UInt8)) : (grd o).map (fun x => (T.mk k 0 [x.1], x.2)) = grd (o.map fun x => (T.mk k 0 [x.1], x.2)) := by
 cases o with
 | none => rfl
 | some x => simp only [grd, Option.bind_some, Option.map_some, sm_one k x.1 h1 h2]; split <;> rfl
theorem grd_mapL (k : Int) (h1 : k ≠ 1) (h2 : k ≠ 2) (o : Option (List T × List UInt8)) : (grdL o).map (fun x => (T.mk k 0 x.1, x.2)) = grd (o.map fun x => (T.mk k 0 x.1, x.2)) := by
 cases o with
 | none => rfl
 | some x => simp only [grd, grdL, Option.bind_some, Option.map_some, sm_list k x.1 h1 h2]; split <;> rfl
theorem grd_two (k : Int) (h1 : k ≠ 1) (h2 : k ≠ 2) (o : Option (T × List UInt8)) (q : List UInt8 → Option (List UInt8)) (p : List UInt8 → Option (T × List UInt8)) (e : List UInt8 → Option (List UInt8)) :
   ((grd o).bind fun a => (q a.2).bind fun r => (grd (p r)).bind fun b => (e b.2).map fun r => (T.mk k 0 [a.1, b.1], r)) = grd (o.bind fun a => (q a.2).bind fun r => (p r).bind fun b => (e b.2).map fun r => (T.mk k 0 [a.1, b.1], r)) := by
 cases o with
 | none => rfl
 | some a =>
  obtain ⟨a, s⟩ := a
  simp only [grd, Option.bind_some]
  cases ha : smT a with
  | false =>
   simp only [Bool.false_eq_true, if_false, Option.bind_none]
   cases hq : q s with
   | none => rfl
   | some r =>
    simp only [Option.bind_some]
    cases hp : p r with
    | none => rfl
    | some b =>
     simp only [Option.bind_some]
     cases he : e b.2 with
     | none => rfl
     | some r2 => simp [sm_two k a b.1 h1 h2, ha]
  | true =>
   simp only [if_true, Option.bind_some]
   cases hq : q s with
   | none => rfl
   | some r =>
    simp only [Option.bind_some]
    cases hp : p r with
    | none => rfl
    | some b =>
     simp only [Option.bind_some]
     cases hb : smT b.1 with
     | false =>
      simp only [Bool.false_eq_true, if_false, Option.bind_none]
      cases he : e b.2 with
      | none => rfl
      | some r2 => simp [sm_two k a b.1 h1 h2, hb]
     | true =>
      simp only [if_true, Option.bind_some]
      cases he : e b.2 with
      | none => rfl
      | some r2 => simp [sm_two k a b.1 h1 h2, ha, hb]
theorem rd_grd : ∀ (d : Nat) (env s : List UInt8), rdN d env s = grd (rdI d env s)
 | 0, _, _ => rfl
 | _ + 1, _, [] => rfl
 | d + 1, env, c :: s => by
  rw [rdN, rdI]
  by_cases h0 : letB c = true
  ·rw [if_pos h0, if_pos h0]
   cases fnd env c with
   | none => rfl
   | some k =>
    show (if k ≤ 20 then _ else _) = (if smT (.mk 1 (k : Int) []) = true then _ else _)
    have : (smT (.mk 1 (k : Int) []) = true) ↔ k ≤ 20 := by simp [smT, smL]; omega
    by_cases h : k ≤ 20
    ·rw [if_pos h, if_pos (this.2 h)]
    ·rw [if_neg h, if_neg (fun e => h (this.1 e))]
  rw [if_neg h0, if_neg h0]
  by_cases h1 : c = 42
  ·rw [if_pos h1, if_pos h1]
   exact num_grd s
  rw [if_neg h1, if_neg h1]
  by_cases h2 : c = 78
  ·rw [if_pos h2, if_pos h2]
   rfl
  rw [if_neg h2, if_neg h2]
  by_cases h3 : c = 48
  ·rw [if_pos h3, if_pos h3]
   rfl
  rw [if_neg h3, if_neg h3]
  by_cases h4 : c = 43
  ·rw [if_pos h4, if_pos h4]
   rw [rd_grd d]; exact grd_map1 8 (by decide) (by decide) _
  rw [if_neg h4, if_neg h4]
  by_cases h5 : c = 33
  ·rw [if_pos h5, if_pos h5]
   rw [rd_grd d]; exact grd_map1 11 (by decide) (by decide) _
  rw [if_neg h5, if_neg h5]
  by_cases h6 : c = 94
  ·rw [if_pos h6, if_pos h6]
   rw [rd_grd d]; exact grd_map1 15 (by decide) (by decide) _
  rw [if_neg h6, if_neg h6]
  by_cases h7 : c = 95
  ·rw [if_pos h7, if_pos h7]
   rw [rd_grd d]; exact grd_map1 16 (by decide) (by decide) _
  rw [if_neg h7, if_neg h7]
  by_cases h8 : c = 40
  ·rw [if_pos h8, if_pos h8]
   cases hb : bnd s with
   | none =>
    simp only [rd_grd d]
    exact grd_two 5 (by decide) (by decide) (rdI d env s) (eat 32) (rdI d env) (eat 41)
   | some x =>
    obtain ⟨x, s⟩ := x
    simp only [rd_grd d]
    cases ho : rdI d env s with
    | none => rfl
    | some a =>
     obtain ⟨a, s2⟩ := a
     cases s2 with
     | nil => simp only [grd, Option.bind_some]; split <;> rfl
     | cons y r =>
      by_cases h1 : y = 62
      ·subst h1
       have := grd_two 3 (by decide) (by decide) (some (a, 62 :: r)) (eat 62) (rdI d (x :: env)) (eat 41)
       simp only [Option.bind_some, eat, if_true] at this ⊢
       rw [← this]
       simp only [grd, Option.bind_some]
       split <;> rfl
      ·by_cases h2 : y = 42
       ·subst h2
        have := grd_two 13 (by decide) (by decide) (some (a, 42 :: r)) (eat 42) (rdI d (x :: env)) (eat 41)
        simp only [Option.bind_some, eat, if_true, show ¬ ((42 : UInt8) = 62) from by decide, if_false] at this ⊢
        rw [← this]
        simp only [grd, Option.bind_some]
        split <;> rfl
       ·simp only [grd, Option.bind_some, if_neg h1, if_neg h2, Option.bind_none]
        split <;> simp [h1, h2]
  rw [if_neg h8, if_neg h8]
  by_cases h9 : c = 91
  ·rw [if_pos h9, if_pos h9]
   cases hb : bnd s with
   | none => rfl
   | some x =>
    simp only [Option.bind_some, rd_grd d]
    have := grd_two 4 (by decide) (by decide) (rdI d env x.2) (eat 93) (rdI d (x.1 :: env)) some
    simp only [Option.map_some] at this
    simp only [Option.map_eq_bind, Function.comp_def]
    exact this
  rw [if_neg h9, if_neg h9]
  by_cases h10 : c = 60
  ·rw [if_pos h10, if_pos h10]
   rw [rdS_grd (rd_grd d env)]; exact grd_mapL 9 (by decide) (by decide) _
  rw [if_neg h10, if_neg h10]
  by_cases h11 : c = 123
  ·rw [if_pos h11, if_pos h11]
   rw [rdS_grd (rd_grd d env)]; exact grd_mapL 10 (by decide) (by decide) _
  rw [if_neg h11, if_neg h11]
  by_cases h12 : c = 124
  ·rw [if_pos h12, if_pos h12]
   rw [rdS_grd (rd_grd d env)]; exact grd_mapL 14 (by decide) (by decide) _
  rw [if_neg h12, if_neg h12]
  by_cases h13 : c = 64
  ·rw [if_pos h13, if_pos h13]
   cases eat 60 s with
   | none => rfl
   | some s =>
    simp only [Option.bind_some]
    rw [rdS_grd (rd_grd d env)]; exact grd_mapL 12 (by decide) (by decide) _
  rw [if_neg h13, if_neg h13]
  rfl
mutual
theorem sm_shape : ∀ (t : T) (g : Nat), shapeF t g = true → smT t = true
 | .mk k n ts, g, h => by
  simp only [shapeF, Bool.and_eq_true, decide_eq_true_eq] at h
  obtain ⟨h1, h2, h3, h4⟩ := h
  simp only [smT, Bool.and_eq_true, Bool.or_eq_true, Bool.not_eq_true', decide_eq_false_iff_not, decide_eq_true_eq]
  refine ⟨?_, ?_, smL_shape ts _ h4⟩
  ·by_cases hk : k = 1
   ·subst hk; right; rw [show mostOf 1 = 20 from rfl] at h3; omega
   ·exact .inl hk
  ·by_cases hk : k = 2
   ·subst hk; right; rw [show mostOf 2 = 3 from rfl] at h3; omega
   ·exact .inl hk
theorem smL_shape : ∀ (ts : List T) (g : Nat), shapeL ts g = true → smL ts = true
 | [], _, _ => rfl
 | t :: ts, g, h => by
  simp only [shapeL, Bool.and_eq_true] at h
  simp only [smL, sm_shape t g h.1, smL_shape ts g h.2, Bool.and_self]
end
def psR (s env : List UInt8) : T × Bool := match rdN 30 env s with
 | some (t, []) => if validB t = true then (t, true) else (.mk 0 0 [], false)
 | _ => (.mk 0 0 [], false)
theorem psR_I (s env : List UInt8) : psR s env = (match rdI 30 env s with
 | some (t, []) => if validB t = true then (t, true) else (.mk 0 0 [], false)
 | _ => (.mk 0 0 [], false)) := by
 unfold psR
 rw [rd_grd]
 cases h : rdI 30 env s with
 | none => rfl
 | some x =>
  obtain ⟨t, r⟩ := x
  simp only [grd, Option.bind_some]
  cases hs : smT t with
  | true => simp
  | false =>
   have hv : validB t ≠ true := fun hv => by
    unfold validB at hv
    rw [Bool.and_eq_true] at hv
    rw [sm_shape t 30 hv.1] at hs; cases hs
   simp only [Bool.false_eq_true, if_false]
   cases r with
   | nil => simp [hv]
   | cons _ _ => rfl
end Go.Proofs.YtnogehmgpfpjmaaGreatDoor
end
section
namespace Go.Proofs.YtnogehmgpfpjmaaGreatDoor
open Go Go.Ab Go.Dk
theorem by_hd (y : UInt8) (p : List UInt8) : byteAt (bytesOf (y :: p)) (0 : Int).toNat = y := rfl
def shps : List (List UInt8) := [[35], [42], [40, 46, 62, 46, 41], [91, 46, 93, 46], [40, 46, 32, 46, 41], [78], [48], [43, 46], [60, 46, 44, 46, 44, 46, 44, 46, 62], [123, 46, 44, 46, 44, 46, 125], [33, 46], [64, 60, 46, 44, 46, 44, 46, 62], [40, 46, 42, 46, 41], [124, 46, 44, 46, 44, 46, 124], [94, 46], [95, 46]]
theorem f_shapes {n : Nat} (hn : 1 ≤ n) : FF n 70 [] [] = some ([.one (.fr (.ss (shps.map bytesOf)))], []) := by
 obtain ⟨n, rfl⟩ := pos_succ (show 0 < n by omega)
 rw [E_impl_shapes]; rfl
def kdL (x : UInt8) : List (List UInt8) → Nat → Int
 | [], _ => -1
 | p :: ps, i => if p.headD 0 = x then 1 + (i : Int) else kdL x ps (i + 1)
theorem kind_loop (x : UInt8) (s : List UInt8) (ps : List (List UInt8)) (hp : ∀ p ∈ ps, p ≠ []) (hl : ps.length ≤ 100) (n : Nat) : ∀ g m i, g < m → i + g = ps.length →
   L_impl_kindAt_0 n m (bytesOf (x :: s)) (ps.map bytesOf) (ps.length : Int) (i : Int) = some ([nt (kdL x (ps.drop i) i)], [])
 | g, 0, i, h, _ => by omega
 | 0, m + 1, i, _, hi => by
  rw [L_impl_kindAt_0_eq, decide_eq_false (show ¬ (i : Int) < ps.length by omega), cond_false, List.drop_of_length_le (by omega)]; rfl
 | g + 1, m + 1, i, hg, hi => by
  have hlt : i < ps.length := by omega
  have hne := hp _ (List.getElem_mem hlt)
  rw [L_impl_kindAt_0_eq, decide_eq_true (show (i : Int) < ps.length by omega), cond_true, decide_eq_true (show (0 : Int) ≤ i by omega), cond_true, Int.toNat_natCast, List.getElem?_map, List.getElem?_eq_getElem hlt, List.drop_eq_getElem_cons hlt, kdL]
  generalize ps[i] = p at hne
  cases p with
  | nil => exact absurd rfl hne
  | cons y p =>
   simp only [Option.map_some, Option.bind_some, by_size, List.length_cons]
   rw [by_hd, by_hd, decide_eq_true (show (0 : Int) < ((p.length + 1 : Nat) : Int) by omega), decide_eq_true (show (0 : Int) < ((s.length + 1 : Nat) : Int) by omega), show decide (0 ≤ 0) = true from rfl, Bool.and_self, cond_true, cond_true]
   by_cases h : y = x
   ·subst h
    rw [decide_eq_true rfl, cond_true, if_pos (show (y :: p).headD 0 = y from rfl), wrap64 (show -9223372036854775808 ≤ 1 + (i : Int) ∧ 1 + (i : Int) ≤ 9223372036854775807 by omega)]
   ·rw [decide_eq_false (fun e => h (byte_eq.1 e)), cond_false, if_neg (show ¬ (y :: p).headD 0 = x from h), wrap64 (show -9223372036854775808 ≤ (i : Int) + 1 ∧ (i : Int) + 1 ≤ 9223372036854775807 by omega)]
    exact kind_loop x s ps hp hl n g m (i + 1) (by omega) (by omega)
def kdF (x : UInt8) : Int := kdL x shps 0
theorem f_kindAt {n : Nat} (hn : 30 ≤ n) (x : UInt8) (s : List UInt8) : FF n 64 [sr (x :: s)] [] = some ([nt (kdF x)], []) := by
 obtain ⟨n, rfl⟩ := pos_succ (show 0 < n by omega)
 rw [E_impl_kindAt, f_shapes (by omega)]
 simp only [by_toList, ne_nil, List.cons_ne_nil, decide_false, cond_false]
 simp only [evt]
 have := kind_loop x s shps (by decide) (by decide) n 16 n 0 (by omega) (by decide)
 simp only [List.length_map]
 exact this
theorem f_isBd {n : Nat} (hn : 1 ≤ n) (k : Int) : FF n 72 [nt k] [] = some ([bl (isBd k)], []) := by
 rw [f_isBinder hn]
 congr 5
 unfold isBd
 rw [Bool.eq_iff_iff]; simp
def RD (B : Nat) (o : Option (T × List UInt8)) (res : OR) : Prop := ∃ t r b, res = some ([tm t, sr r, bl b], []) ∧ (∀ x, o = some x → t = x.1 ∧ r = x.2 ∧ b = true) ∧ (o = none → b = false) ∧ (b = true → r.length ≤ B)
theorem RD.fail {B : Nat} {res : OR} {t : T} {r : List UInt8} (h : res = some ([tm t, sr r, bl false], [])) : RD B none res := ⟨t, r, false, h, fun _ h => (by cases h), fun _ => rfl, fun h => (by cases h)⟩
theorem RD.ok {B : Nat} {res : OR} {t : T} {r : List UInt8} (h : res = some ([tm t, sr r, bl true], [])) (hb : r.length ≤ B) : RD B (some (t, r)) res := ⟨t, r, true, h, fun x e => (by cases e; exact ⟨rfl, rfl, rfl⟩), fun h => (by cases h), fun _ => hb⟩
noncomputable abbrev LN := @L_impl_readNamed_0_oo
section
variable {n c : Nat} {x : UInt8} {s e ins : List UInt8} {deep : Int} {ps : List (List UInt8)} {rest : List UInt8} {binds : Bool} {i : Nat} {z1 z2 : Int} {z3 : List T} {k N : Int} {ks : List T}
theorem ln_false : LN n (c + 1) (bytesOf (x :: s)) (bytesOf e) deep (ps.map bytesOf) (bytesOf rest) false (bytesOf ins) binds (i : Int) z1 z2 z3 k N ks = some ([tm (.mk k N ks), sr rest, bl false], []) := by
 unfold LN
 rw [L_impl_readNamed_0_oo_eq]
 simp only [cond_false, Bool.cond_self]; rfl
theorem ln_end (hn : 1 ≤ n) (hi : i = ps.length) : LN n (c + 1) (bytesOf (x :: s)) (bytesOf e) deep (ps.map bytesOf) (bytesOf rest) true (bytesOf ins) binds (i : Int) z1 z2 z3 k N ks = some ([tm (.mk k N ks), sr rest, bl (decide (isBd k = binds))], []) := by
 unfold LN
 rw [L_impl_readNamed_0_oo_eq, List.length_map, decide_eq_false (show ¬ (i : Int) < ps.length by omega), cond_false, cond_true, f_isBd hn]
 simp only [evt]; rfl
theorem ln_step (hn : 10 ≤ n) (hx : x ≠ 40 ∨ i ≠ 1) (hi : i < ps.length) (hps : ps.length ≤ 10) (hk : ks.length ≤ 10) (hd : 0 ≤ deep ∧ deep ≤ 100) {t : T} {r : List UInt8} {b : Bool}
   (hr : FF n 28 [sr rest, sr (if i = 2 ∧ isBd k = true then ins else e), nt (deep + 1)] [] = some ([tm t, sr r, bl b], [])) :
   LN n (c + 1) (bytesOf (x :: s)) (bytesOf e) deep (ps.map bytesOf) (bytesOf rest) true (bytesOf ins) binds (i : Int) z1 z2 z3 k N ks =
    if b = true then LN n c (bytesOf (x :: s)) (bytesOf e) deep (ps.map bytesOf) (bytesOf ((cutP (ps[i]'hi) r).getD r)) (cutP (ps[i]'hi) r).isSome (bytesOf ins) binds ((i + 1 : Nat) : Int) z1 z2 z3 k N (ks ++ [t]) else some ([tm (.mk 0 0 []), sr [], bl false], []) := by
 unfold LN
 rw [L_impl_readNamed_0_oo_eq, List.length_map, decide_eq_true (show (i : Int) < ps.length by omega), cond_true, cond_true, f_isBd (by omega), wrap64 (show -9223372036854775808 ≤ deep + 1 ∧ deep + 1 ≤ 9223372036854775807 by omega), wrap64 (show -9223372036854775808 ≤ (i : Int) + 1 ∧ (i : Int) + 1 ≤ 9223372036854775807 by omega)]
 have hlen : (ks ++ [t]).length ≤ 11 := by simp; omega
 have hroom : roomB (ks ++ [t]).length = true := roomB_ok (by omega)
 have h0 : decide (0 < (((bytesOf (x :: s)).size : Nat) : Int)) = true := by rw [by_size]; simp
 have hg : (ps.map bytesOf)[((i : Int)).toNat]? = some (bytesOf (ps[i]'hi)) := by rw [Int.toNat_natCast, List.getElem?_map, List.getElem?_eq_getElem hi]; rfl
 have h00 : decide (0 ≤ 0) = true := rfl
 have hi0 : decide ((0 : Int) ≤ (i : Int)) = true := decide_eq_true (by omega)
 have hx1 : ∀ (A B : OR), (x ≠ 40 ∨ i ≠ 1) → cond (decide (((byteAt (bytesOf (x :: s)) (0 : Int).toNat).toNat : Int) = 40)) (cond (decide ((i : Int) = 1)) A B) B = B := fun A B h => by
  rcases h with h | h
  ·rw [by_hd, decide_eq_false (show ¬ (x.toNat : Int) = 40 from fun e => h (byte_eq.1 (show (x.toNat : Int) = ((40 : UInt8).toNat : Int) from e))), cond_false]
  ·rw [decide_eq_false (show ¬ (i : Int) = 1 by omega), cond_false, Bool.cond_self]
 have fin : ∀ (nm : ByteArray), nm = bytesOf (if i = 2 ∧ isBd k = true then ins else e) → FF n 28 [.one (.str (bytesOf rest)), .one (.str nm), .one (.int .i64 (deep + 1))] [] = some ([tm t, sr r, bl b], []) := fun nm h => by rw [h]; exact hr
 by_cases h2 : i = 2 ∧ isBd k = true
 ·rw [decide_eq_true (show (i : Int) = 2 by omega), cond_true, h2.2]
  simp only [evt]
  rw [fin (bytesOf ins) (by rw [if_pos h2])]
  simp only [evt]
  cases b with
  | false => simp only [Bool.not_false, cond_true, Bool.false_eq_true, if_false]; rfl
  | true =>
   simp only [Bool.not_true, cond_false, hroom, h0, h00, Bool.and_self, cond_true, if_true]
   rw [hx1 _ _ hx, hi0, cond_true, hg]
   simp only [Option.bind_some]
   rw [f_CutPrefix _ _ (by omega)]
   simp only [evt]
   rw [show ((i + 1 : Nat) : Int) = (i : Int) + 1 by omega]
 ·have he : FF n 28 [.one (.str (bytesOf rest)), .one (.str (bytesOf e)), .one (.int .i64 (deep + 1))] [] = some ([tm t, sr r, bl b], []) := fin _ (by rw [if_neg h2])
  have two : i = 2 → isBd k = false := fun h => by
   cases hb : isBd k with
   | false => rfl
   | true => exact absurd ⟨h, hb⟩ h2
  by_cases h3 : i = 2
  ·rw [decide_eq_true (show (i : Int) = 2 by omega), cond_true, two h3]
   simp only [evt]
   rw [he]
   simp only [evt]
   cases b with
   | false => simp only [Bool.not_false, cond_true, Bool.false_eq_true, if_false]; rfl
   | true =>
    simp only [Bool.not_true, cond_false, hroom, h0, h00, Bool.and_self, cond_true, if_true]
    rw [hx1 _ _ hx, hi0, cond_true, hg]
    simp only [Option.bind_some]
    rw [f_CutPrefix _ _ (by omega)]
    simp only [evt]
    rw [show ((i + 1 : Nat) : Int) = (i : Int) + 1 by omega]
  ·rw [decide_eq_false (show ¬ (i : Int) = 2 by omega), cond_false, he]
   simp only [evt]
   cases b with
   | false => simp only [Bool.not_false, cond_true, Bool.false_eq_true, if_false]; rfl
   | true =>
    simp only [Bool.not_true, cond_false, hroom, h0, h00, Bool.and_self, cond_true, if_true]
    rw [hx1 _ _ hx, hi0, cond_true, hg]
    simp only [Option.bind_some]
    rw [f_CutPrefix _ _ (by omega)]
    simp only [evt]
    rw [show ((i + 1 : Nat) : Int) = (i : Int) + 1 by omega]
def rkK : List UInt8 → Int
 | y :: _ => if y = 32 then 5 else if y = 42 then 13 else 3
 | [] => 3
def rkC : List UInt8 → UInt8
 | y :: _ => if y = 32 then 32 else if y = 42 then 42 else 62
 | [] => 62
abbrev rps (q : UInt8) : List (List UInt8) := [[40], [q], [41]]
theorem ln_round (hn : 10 ≤ n) (hk : ks.length ≤ 10) (hd : 0 ≤ deep ∧ deep ≤ 100) {t : T} {r : List UInt8} {b : Bool}
   (hr : FF n 28 [sr rest, sr e, nt (deep + 1)] [] = some ([tm t, sr r, bl b], [])) :
   LN n (c + 1) (bytesOf (40 :: s)) (bytesOf e) deep ((rps 62).map bytesOf) (bytesOf rest) true (bytesOf ins) binds 1 z1 z2 z3 3 N ks =
    if b = true then LN n c (bytesOf (40 :: s)) (bytesOf e) deep ((rps (rkC r)).map bytesOf) (bytesOf ((cutP [rkC r] r).getD r)) (cutP [rkC r] r).isSome (bytesOf ins) binds 2 z1 z2 z3 (rkK r) N (ks ++ [t]) else some ([tm (.mk 0 0 []), sr [], bl false], []) := by
 unfold LN
 rw [L_impl_readNamed_0_oo_eq, show decide ((1 : Int) < (((rps 62).map bytesOf).length : Int)) = true from rfl, cond_true, cond_true, show decide ((1 : Int) = 2) = false from rfl, cond_false, wrap64 (show -9223372036854775808 ≤ deep + 1 ∧ deep + 1 ≤ 9223372036854775807 by omega), show IntKind.i64.wrap ((1 : Int) + 1) = 2 from rfl]
 have hroom : roomB (ks ++ [t]).length = true := roomB_ok (by simp; omega)
 have h0 : decide (0 < (((bytesOf (40 :: s)).size : Nat) : Int)) = true := by rw [by_size]; simp
 have h00 : decide (0 ≤ 0) = true := rfl
 have h40 : decide (((byteAt (bytesOf (40 :: s)) (0 : Int).toNat).toNat : Int) = 40) = true := rfl
 simp only [sr, nt] at hr
 rw [hr]
 simp only [evt]
 cases b with
 | false => simp only [Bool.not_false, cond_true, Bool.false_eq_true, if_false]; rfl
 | true =>
  simp only [Bool.not_true, cond_false, hroom, h0, h00, Bool.and_self, cond_true, if_true]
  rw [h40, cond_true, by_toList]
  cases r with
  | nil =>
   simp only [show ((([] : List UInt8) == (bytesOf []).toList)) = true from (by rw [by_toList]; rfl), Bool.not_true, cond_false, show decide ((0 : Int) ≤ 1) = true from rfl, cond_true, show ((rps 62).map bytesOf)[(1 : Int).toNat]? = some (bytesOf [62]) from rfl, Option.bind_some]
   rw [f_CutPrefix _ _ (by omega)]
   simp only [evt]
   simp only [rkK, rkC]
  | cons y r =>
   have hb : ((y :: r) == (bytesOf []).toList) = false := by rw [by_toList]; rfl
   have h1 : decide (0 < (((bytesOf (y :: r)).size : Nat) : Int)) = true := by rw [by_size]; simp
   have dec : ∀ q : UInt8, decide (((byteAt (bytesOf (y :: r)) (0 : Int).toNat).toNat : Int) = (q.toNat : Int)) = decide (y = q) := fun q => by
    rw [by_hd]
    by_cases h : y = q
    ·subst h; simp
    ·rw [decide_eq_false (fun e => h (byte_eq.1 e)), decide_eq_false h]
   have d32 := dec 32
   have d42 := dec 42
   simp only [show ((32 : UInt8).toNat : Int) = 32 from rfl] at d32
   simp only [show ((42 : UInt8).toNat : Int) = 42 from rfl] at d42
   simp only [hb, Bool.not_false, cond_true, h1, h00, Bool.and_self, d32, d42, show decide ((0 : Int) ≤ 1) = true from rfl]
   simp only [f_shapes (n := n) (by omega)]
   simp only [evt]
   obtain ⟨n, rfl⟩ := pos_succ (show 0 < n by omega)
   by_cases hy : y = 32
   ·subst hy
    simp only [decide_true, cond_true, show (shps.map bytesOf)[(4 : Int).toNat]? = some (bytesOf [40, 46, 32, 46, 41]) from rfl, Option.bind_some]
    rw [f_Split (n := n) [40, 46, 32, 46, 41] (ps := rps 32) rfl]
    simp only [evt]
    simp only [show ((rps 32).map bytesOf)[(1 : Int).toNat]? = some (bytesOf [32]) from rfl, Option.bind_some]
    rw [f_CutPrefix _ _ (by omega)]
    simp only [evt]
    simp only [rkK, rkC, if_true]
   ·rw [decide_eq_false hy, cond_false]
    by_cases hz : y = 42
    ·subst hz
     simp only [decide_true, cond_true, show (shps.map bytesOf)[(12 : Int).toNat]? = some (bytesOf [40, 46, 42, 46, 41]) from rfl, Option.bind_some]
     rw [f_Split (n := n) [40, 46, 42, 46, 41] (ps := rps 42) rfl]
     simp only [evt]
     simp only [show ((rps 42).map bytesOf)[(1 : Int).toNat]? = some (bytesOf [42]) from rfl, Option.bind_some]
     rw [f_CutPrefix _ _ (by omega)]
     simp only [evt]
     simp only [rkK, rkC, if_true, show ¬ ((42 : UInt8) = 32) from by decide, if_false]
    ·rw [decide_eq_false hz, cond_false]
     simp only [show (shps.map bytesOf)[(2 : Int).toNat]? = some (bytesOf [40, 46, 62, 46, 41]) from rfl, Option.bind_some]
     rw [f_Split (n := n) [40, 46, 62, 46, 41] (ps := rps 62) rfl]
     simp only [evt]
     simp only [show ((rps 62).map bytesOf)[(1 : Int).toNat]? = some (bytesOf [62]) from rfl, Option.bind_some]
     rw [f_CutPrefix _ _ (by omega)]
     simp only [evt]
     simp only [rkK, rkC, if_neg hy, if_neg hz]
end
def rdP (p : List UInt8 → Option (T × List UInt8)) (k : Int) : List (List UInt8) → List UInt8 → List T → Option (T × List UInt8)
 | [], rest, ks => some (.mk k 0 ks, rest)
 | q :: qs, rest, ks => (p rest).bind fun x => (cutP q x.2).bind fun r => rdP p k qs r (ks ++ [x.1])
def prt (last : UInt8) : Nat → List (List UInt8)
 | 0 => []
 | n + 1 => [if n = 0 then last else 44] :: prt last n
theorem rdP_S (p : List UInt8 → Option (T × List UInt8)) (k : Int) (last : UInt8) : ∀ n s ks, rdP p k (prt last n) s ks = (rdS p last n s).map fun y => (.mk k 0 (ks ++ y.1), y.2)
 | 0, s, ks => by simp [rdP, prt, rdS]
 | n + 1, s, ks => by
  rw [prt, rdP, rdS]
  cases p s with
  | none => rfl
  | some x =>
   simp only [Option.bind_some, cut_one]
   cases eat (if n = 0 then last else 44) x.2 with
   | none => rfl
   | some r =>
    simp only [Option.bind_some]
    rw [rdP_S p k last n r]
    cases rdS p last n r with
    | none => rfl
    | some y => simp
theorem cutP_len {q l r : List UInt8} (h : cutP q l = some r) : r.length ≤ l.length := by
 unfold cutP at h
 split at h
 ·cases h; simp
 ·cases h
theorem plain_loop {B n : Nat} {x : UInt8} {s e ins : List UInt8} {deep k : Int} {ps : List (List UInt8)} (p : List UInt8 → Option (T × List UInt8)) (hn : 10 ≤ n) (hx : x ≠ 40) (hkb : isBd k = false) (hps : ps.length ≤ 10) (hd : 0 ≤ deep ∧ deep ≤ 100)
   (hp : ∀ s : List UInt8, s.length ≤ B → RD B (p s) (FF n 28 [sr s, sr e, nt (deep + 1)] [])) :
   ∀ j m i rest ks, j < m → i + j = ps.length → ks.length ≤ i → rest.length ≤ B → RD B (rdP p k (ps.drop i) rest ks) (LN n m (bytesOf (x :: s)) (bytesOf e) deep (ps.map bytesOf) (bytesOf rest) true (bytesOf ins) false (i : Int) 0 0 [] k 0 ks)
 | j, 0, i, rest, ks, h, _, _, _ => by omega
 | 0, m + 1, i, rest, ks, _, hi, _, hr => by
  rw [List.drop_of_length_le (by omega), rdP]
  refine RD.ok (B := B) ?_ hr
  rw [ln_end (by omega) (by omega), hkb]; rfl
 | j + 1, m + 1, i, rest, ks, hj, hi, hks, hr => by
  have hlt : i < ps.length := by omega
  obtain ⟨t, r, b, h1, h2, h3, h4⟩ := hp rest hr
  rw [List.drop_eq_getElem_cons hlt, rdP]
  rw [ln_step (x := x) (i := i) hn (.inl hx) hlt hps (by omega) hd (by rw [if_neg (by rw [hkb]; simp)]; exact h1)]
  cases b with
  | false =>
   have : p rest = none := by
    cases hq : p rest with
    | none => rfl
    | some y => have := (h2 y hq).2.2; cases this
   rw [this]
   exact RD.fail (t := .mk 0 0 []) (r := []) (by rw [if_neg (by simp)])
  | true =>
   obtain ⟨y, hq⟩ : ∃ y, p rest = some y := by
    cases hq : p rest with
    | none => have := h3 hq; cases this
    | some y => exact ⟨y, rfl⟩
   obtain ⟨rfl, rfl, _⟩ := h2 y hq
   rw [hq, if_pos rfl, Option.bind_some]
   cases hc : cutP ps[i] y.2 with
   | none =>
    simp only [Option.getD_none, Option.isSome_none, Option.bind_none]
    cases m with
    | zero => omega
    | succ m => exact RD.fail ln_false
   | some r2 =>
    simp only [Option.getD_some, Option.isSome_some, Option.bind_some]
    have := cutP_len hc
    have := h4 rfl
    exact plain_loop p hn hx hkb hps hd hp j m (i + 1) r2 (ks ++ [y.1]) (by omega) (by omega) (by simp; omega) (by omega)
theorem letB_eq (c : UInt8) : letterB c = letB c := by unfold letterB letB; rw [Bool.eq_iff_iff]; simp; omega
theorem f_isLetter {n : Nat} (hn : 1 ≤ n) (c : UInt8) : FF n 60 [.one (.int .u8 (c.toNat : Int))] [] = some ([bl (letB c)], []) := by
 obtain ⟨n, rfl⟩ := pos_succ (show 0 < n by omega)
 rw [E_impl_isLetter, ← letB_eq]
 unfold letterB
 by_cases h : (97 : Int) ≤ c.toNat <;> simp only [h, decide_true, decide_false, cond_true, cond_false, Bool.true_and, Bool.false_and]
theorem kd_other {x : UInt8} (h : x ≠ 42 ∧ x ≠ 78 ∧ x ≠ 48 ∧ x ≠ 43 ∧ x ≠ 33 ∧ x ≠ 94 ∧ x ≠ 95 ∧ x ≠ 40 ∧ x ≠ 91 ∧ x ≠ 60 ∧ x ≠ 123 ∧ x ≠ 124 ∧ x ≠ 64) : kdF x = -1 ∨ kdF x = 1 := by
 obtain ⟨h1, h2, h3, h4, h5, h6, h7, h8, h9, h10, h11, h12, h13⟩ := h
 by_cases h0 : x = 35
 ·subst h0; exact .inr rfl
 ·left
  unfold kdF shps
  rw [kdL, if_neg (show ¬ ([35] : List UInt8).headD 0 = x from Ne.symm h0), kdL, if_neg (show ¬ ([42] : List UInt8).headD 0 = x from Ne.symm h1), kdL, if_neg (show ¬ ([40, 46, 62, 46, 41] : List UInt8).headD 0 = x from Ne.symm h8), kdL, if_neg (show ¬ ([91, 46, 93, 46] : List UInt8).headD 0 = x from Ne.symm h9), kdL, if_neg (show ¬ ([40, 46, 32, 46, 41] : List UInt8).headD 0 = x from Ne.symm h8), kdL, if_neg (show ¬ ([78] : List UInt8).headD 0 = x from Ne.symm h2), kdL, if_neg (show ¬ ([48] : List UInt8).headD 0 = x from Ne.symm h3), kdL, if_neg (show ¬ ([43, 46] : List UInt8).headD 0 = x from Ne.symm h4), kdL, if_neg (show ¬ ([60, 46, 44, 46, 44, 46, 44, 46, 62] : List UInt8).headD 0 = x from Ne.symm h10), kdL, if_neg (show ¬ ([123, 46, 44, 46, 44, 46, 125] : List UInt8).headD 0 = x from Ne.symm h11), kdL, if_neg (show ¬ ([33, 46] : List UInt8).headD 0 = x from Ne.symm h5), kdL, if_neg (show ¬ ([64, 60, 46, 44, 46, 44, 46, 62] : List UInt8).headD 0 = x from Ne.symm h13), kdL, if_neg (show ¬ ([40, 46, 42, 46, 41] : List UInt8).headD 0 = x from Ne.symm h8), kdL, if_neg (show ¬ ([124, 46, 44, 46, 44, 46, 124] : List UInt8).headD 0 = x from Ne.symm h12), kdL, if_neg (show ¬ ([94, 46] : List UInt8).headD 0 = x from Ne.symm h6), kdL, if_neg (show ¬ ([95, 46] : List UInt8).headD 0 = x from Ne.symm h7), kdL]
theorem rnN_le (l : List UInt8) : rnN l ≤ 9223372036854775807 := by
 unfold rnN
 split
 ·rename_i v h; exact (Lib.atoiAll_bounds h).2
 ·decide
theorem rnR_len (l : List UInt8) : (rnR l).length ≤ l.length := by
 unfold rnR
 split
 ·exact dw_len digB l
 ·simp
theorem in_1 (x : UInt8) (s : List UInt8) : Go.Ab.inB 1 (((bytesOf (x :: s)).size : Nat) : Int) ((bytesOf (x :: s)).size) = true := by
 rw [by_size]; simp only [List.length_cons, inB, Bool.and_eq_true, decide_eq_true_eq]; omega
theorem tl_1 (x : UInt8) (s : List UInt8) : (bytesOf (x :: s)).extract (1 : Int).toNat ((((bytesOf (x :: s)).size : Nat) : Int)).toNat = bytesOf s := by
 rw [by_size, Int.toNat_natCast, by_ext, List.take_length]; rfl
section
variable {n B : Nat} {x : UInt8} {s e : List UInt8} {deep : Int}
theorem z_hd (x : UInt8) (s : List UInt8) : decide (0 < (((bytesOf (x :: s)).size : Nat) : Int)) = true := by rw [by_size]; simp
theorem rn_start (hn : 100 ≤ n) (hl : letB x = false) (hd : 0 ≤ deep ∧ deep ≤ 30) (h40 : x ≠ 40) (h91 : x ≠ 91) {k : Nat} (hk : kdF x = ((k + 1 : Nat) : Int)) (hk2 : 2 ≤ k) {sh p0 : List UInt8} {ps : List (List UInt8)} (hsh : shps[k]? = some sh) (hsp : shTab.lookup sh = some (p0 :: ps)) :
   FF (n + 1) 28 [sr (x :: s), sr e, nt deep] [] = LN n n (bytesOf (x :: s)) (bytesOf e) deep ((p0 :: ps).map bytesOf) (bytesOf ((cutP p0 (x :: s)).getD (x :: s))) (cutP p0 (x :: s)).isSome (bytesOf e) false 1 0 0 [] ((k + 1 : Nat) : Int) 0 [] := by
 rw [E_impl_readNamed, by_toList]
 simp only [show ((x :: s) == (bytesOf []).toList) = false from (by rw [by_toList]; rfl), cond_false, decide_eq_false (show ¬ (30 : Int) < deep by omega), z_hd, show decide (0 ≤ 0) = true from rfl, Bool.and_self, cond_true]
 rw [by_hd, f_isLetter (by omega), hl]
 simp only [evt]
 rw [f_kindAt (by omega), hk]
 simp only [evt]
 have e1 : decide (((k + 1 : Nat) : Int) < 0) = false := decide_eq_false (by omega)
 have e2 : decide (((k + 1 : Nat) : Int) = 1) = false := decide_eq_false (by omega)
 have e3 : decide (((k + 1 : Nat) : Int) = 2) = false := decide_eq_false (by omega)
 rw [e1, e2, e3]
 simp only [cond_false]
 rw [f_shapes (by omega), wrap64 (show -9223372036854775808 ≤ ((k + 1 : Nat) : Int) - 1 ∧ ((k + 1 : Nat) : Int) - 1 ≤ 9223372036854775807 by have := (List.getElem?_eq_some_iff.1 hsh).1; simp [shps] at this; omega), show ((k + 1 : Nat) : Int) - 1 = (k : Int) by omega]
 simp only [evt]
 rw [decide_eq_true (show (0 : Int) ≤ (k : Int) by omega), cond_true, Int.toNat_natCast, List.getElem?_map, hsh]
 simp only [Option.map_some, Option.bind_some]
 obtain ⟨n, rfl⟩ := pos_succ (show 0 < n by omega)
 rw [f_Split sh hsp]
 simp only [evt]
 simp only [List.map_cons, Int.toNat_zero, List.getElem?_cons_zero, Option.bind_some]
 rw [f_CutPrefix _ _ (by omega)]
 simp only [evt]
 have c40 : decide ((x.toNat : Int) = 40) = false := decide_eq_false fun e => h40 (byte_eq.1 (show (x.toNat : Int) = ((40 : UInt8).toNat : Int) from e))
 have c91 : decide ((x.toNat : Int) = 91) = false := decide_eq_false fun e => h91 (byte_eq.1 (show (x.toNat : Int) = ((91 : UInt8).toNat : Int) from e))
 simp only [z_hd, show decide (0 ≤ 0) = true from rfl, Bool.and_self, cond_true, c40, c91, cond_false]
end
end Go.Proofs.YtnogehmgpfpjmaaGreatDoor
end
section
namespace Go.Proofs.YtnogehmgpfpjmaaGreatDoor
open Go Go.Ab Go.Dk
section
variable {n B : Nat} {x : UInt8} {s e : List UInt8} {deep : Int}
theorem bnd_cons (y z : UInt8) (s : List UInt8) : bnd (y :: z :: s) = if letB y = true ∧ z = 58 then some (y, s) else none := rfl
theorem rn_start40 (hn : 100 ≤ n) (hd : 0 ≤ deep ∧ deep ≤ 30) (he : e.length ≤ 1000) : FF (n + 1) 28 [sr (40 :: s), sr e, nt deep] [] =
   (match bnd s with
   | some (y, s2) => LN n n (bytesOf (40 :: s)) (bytesOf e) deep ((rps 62).map bytesOf) (bytesOf s2) true (bytesOf (e ++ [y])) true 1 0 0 [] 3 0 []
   | none => LN n n (bytesOf (40 :: s)) (bytesOf e) deep ((rps 62).map bytesOf) (bytesOf s) true (bytesOf e) false 1 0 0 [] 3 0 []) := by
 rw [E_impl_readNamed, by_toList]
 simp only [show (((40 : UInt8) :: s) == (bytesOf []).toList) = false from (by rw [by_toList]; rfl), cond_false, decide_eq_false (show ¬ (30 : Int) < deep by omega), z_hd, show decide (0 ≤ 0) = true from rfl, Bool.and_self, cond_true]
 rw [by_hd, f_isLetter (by omega), show letB 40 = false from rfl]
 simp only [evt]
 rw [f_kindAt (by omega), show kdF 40 = 3 from rfl]
 simp only [evt]
 simp only [show decide ((3 : Int) < 0) = false from rfl, show decide ((3 : Int) = 1) = false from rfl, show decide ((3 : Int) = 2) = false from rfl, cond_false]
 rw [f_shapes (by omega), show IntKind.i64.wrap ((3 : Int) - 1) = 2 from rfl]
 simp only [evt]
 simp only [show decide ((0 : Int) ≤ 2) = true from rfl, cond_true, show (shps.map bytesOf)[(2 : Int).toNat]? = some (bytesOf [40, 46, 62, 46, 41]) from rfl, Option.bind_some]
 obtain ⟨n, rfl⟩ := pos_succ (show 0 < n by omega)
 rw [f_Split [40, 46, 62, 46, 41] (ps := (rps 62)) rfl]
 simp only [evt]
 simp only [show ((rps 62).map bytesOf)[(0 : Int).toNat]? = some (bytesOf [40]) from rfl, Option.bind_some]
 rw [f_CutPrefix _ _ (by omega), show cutP [40] (40 :: s) = some s from by rw [cut_one]; rfl]
 simp only [evt, Option.getD_some, Option.isSome_some]
 have d40 : decide ((((40 : UInt8).toNat : Nat) : Int) = 40) = true := by decide
 rw [d40, cond_true]
 match s with
 | [] =>
  rw [show decide ((1 : Int) < (((bytesOf []).size : Nat) : Int)) = false from (by rw [by_size]; rfl), cond_false]; rfl
 | [y] =>
  rw [show decide ((1 : Int) < (((bytesOf [y]).size : Nat) : Int)) = false from (by rw [by_size]; rfl), cond_false]; rfl
 | y :: z :: s2 =>
  have h1 : decide ((1 : Int) < (((bytesOf (y :: z :: s2)).size : Nat) : Int)) = true := by rw [by_size]; simp only [List.length_cons, decide_eq_true_eq]; omega
  have h2 : decide (1 < (((bytesOf (y :: z :: s2)).size : Nat) : Int)) = true := h1
  have h3 : byteAt (bytesOf (y :: z :: s2)) (1 : Int).toNat = z := rfl
  have i1 : Go.Ab.inB 0 1 (bytesOf (y :: z :: s2)).size = true := by rw [by_size]; simp only [List.length_cons, inB, Bool.and_eq_true, decide_eq_true_eq]; omega
  have i2 : Go.Ab.inB 2 (((bytesOf (y :: z :: s2)).size : Nat) : Int) (bytesOf (y :: z :: s2)).size = true := by rw [by_size]; simp only [List.length_cons, inB, Bool.and_eq_true, decide_eq_true_eq]; omega
  have e1 : (bytesOf (y :: z :: s2)).extract (0 : Int).toNat (1 : Int).toNat = bytesOf [y] := by rw [by_ext]; rfl
  have e2 : (bytesOf (y :: z :: s2)).extract (2 : Int).toNat ((((bytesOf (y :: z :: s2)).size : Nat) : Int)).toNat = bytesOf s2 := by rw [by_size, Int.toNat_natCast, by_ext, List.take_length]; rfl
  have e3 : decide ((bytesOf e).size + (bytesOf [y]).size ≤ 9223372036854775807) = true := by rw [by_size, by_size]; simp only [List.length_cons, List.length_nil, decide_eq_true_eq]; omega
  have d01 : decide (0 ≤ 1) = true := rfl
  rw [h1, cond_true, z_hd, cond_true, by_hd, f_isLetter (by omega)]
  simp only [evt]
  rw [bnd_cons]
  cases hy : letB y with
  | false => rw [cond_false, if_neg (fun h => by cases h.1)]
  | true =>
   rw [cond_true, d01, cond_true, h3]
   by_cases hz : z = 58
   ·subst hz
    have d58 : decide ((((58 : UInt8).toNat : Nat) : Int) = 58) = true := by decide
    rw [d58, cond_true, i1, cond_true, e1, e3, cond_true, i2, cond_true, e2, by_app, if_pos ⟨rfl, rfl⟩]
   ·rw [decide_eq_false (show ¬ (z.toNat : Int) = 58 from fun e => hz (byte_eq.1 (show (z.toNat : Int) = ((58 : UInt8).toNat : Int) from e)))]
    rw [cond_false, if_neg (fun h => hz h.2)]
theorem rn_start91 (hn : 100 ≤ n) (hd : 0 ≤ deep ∧ deep ≤ 30) (he : e.length ≤ 1000) : FF (n + 1) 28 [sr (91 :: s), sr e, nt deep] [] =
   (match bnd s with
   | some (y, s2) => LN n n (bytesOf (91 :: s)) (bytesOf e) deep (([[91], [93], []] : List (List UInt8)).map bytesOf) (bytesOf s2) true (bytesOf (e ++ [y])) true 1 0 0 [] 4 0 []
   | none => LN n n (bytesOf (91 :: s)) (bytesOf e) deep (([[91], [93], []] : List (List UInt8)).map bytesOf) (bytesOf s) true (bytesOf e) false 1 0 0 [] 4 0 []) := by
 rw [E_impl_readNamed, by_toList]
 simp only [show (((91 : UInt8) :: s) == (bytesOf []).toList) = false from (by rw [by_toList]; rfl), cond_false, decide_eq_false (show ¬ (30 : Int) < deep by omega), z_hd, show decide (0 ≤ 0) = true from rfl, Bool.and_self, cond_true]
 rw [by_hd, f_isLetter (by omega), show letB 91 = false from rfl]
 simp only [evt]
 rw [f_kindAt (by omega), show kdF 91 = 4 from rfl]
 simp only [evt]
 simp only [show decide ((4 : Int) < 0) = false from rfl, show decide ((4 : Int) = 1) = false from rfl, show decide ((4 : Int) = 2) = false from rfl, cond_false]
 rw [f_shapes (by omega), show IntKind.i64.wrap ((4 : Int) - 1) = 3 from rfl]
 simp only [evt]
 simp only [show decide ((0 : Int) ≤ 3) = true from rfl, cond_true, show (shps.map bytesOf)[(3 : Int).toNat]? = some (bytesOf [91, 46, 93, 46]) from rfl, Option.bind_some]
 obtain ⟨n, rfl⟩ := pos_succ (show 0 < n by omega)
 rw [f_Split [91, 46, 93, 46] (ps := ([[91], [93], []] : List (List UInt8))) rfl]
 simp only [evt]
 simp only [show (([[91], [93], []] : List (List UInt8)).map bytesOf)[(0 : Int).toNat]? = some (bytesOf [91]) from rfl, Option.bind_some]
 rw [f_CutPrefix _ _ (by omega), show cutP [91] (91 :: s) = some s from by rw [cut_one]; rfl]
 simp only [evt, Option.getD_some, Option.isSome_some]
 have d40 : decide ((((91 : UInt8).toNat : Nat) : Int) = 40) = false := by decide
 have d91 : decide ((((91 : UInt8).toNat : Nat) : Int) = 91) = true := by decide
 rw [d40, cond_false, d91, cond_true]
 match s with
 | [] =>
  rw [show decide ((1 : Int) < (((bytesOf []).size : Nat) : Int)) = false from (by rw [by_size]; rfl), cond_false]; rfl
 | [y] =>
  rw [show decide ((1 : Int) < (((bytesOf [y]).size : Nat) : Int)) = false from (by rw [by_size]; rfl), cond_false]; rfl
 | y :: z :: s2 =>
  have h1 : decide ((1 : Int) < (((bytesOf (y :: z :: s2)).size : Nat) : Int)) = true := by rw [by_size]; simp only [List.length_cons, decide_eq_true_eq]; omega
  have h2 : decide (1 < (((bytesOf (y :: z :: s2)).size : Nat) : Int)) = true := h1
  have h3 : byteAt (bytesOf (y :: z :: s2)) (1 : Int).toNat = z := rfl
  have i1 : Go.Ab.inB 0 1 (bytesOf (y :: z :: s2)).size = true := by rw [by_size]; simp only [List.length_cons, inB, Bool.and_eq_true, decide_eq_true_eq]; omega
  have i2 : Go.Ab.inB 2 (((bytesOf (y :: z :: s2)).size : Nat) : Int) (bytesOf (y :: z :: s2)).size = true := by rw [by_size]; simp only [List.length_cons, inB, Bool.and_eq_true, decide_eq_true_eq]; omega
  have e1 : (bytesOf (y :: z :: s2)).extract (0 : Int).toNat (1 : Int).toNat = bytesOf [y] := by rw [by_ext]; rfl
  have e2 : (bytesOf (y :: z :: s2)).extract (2 : Int).toNat ((((bytesOf (y :: z :: s2)).size : Nat) : Int)).toNat = bytesOf s2 := by rw [by_size, Int.toNat_natCast, by_ext, List.take_length]; rfl
  have e3 : decide ((bytesOf e).size + (bytesOf [y]).size ≤ 9223372036854775807) = true := by rw [by_size, by_size]; simp only [List.length_cons, List.length_nil, decide_eq_true_eq]; omega
  have d01 : decide (0 ≤ 1) = true := rfl
  rw [h1, cond_true, z_hd, cond_true, by_hd, f_isLetter (by omega)]
  simp only [evt]
  rw [bnd_cons]
  cases hy : letB y with
  | false => rw [cond_false, if_neg (fun h => by cases h.1)]
  | true =>
   rw [cond_true, d01, cond_true, h3]
   by_cases hz : z = 58
   ·subst hz
    have d58 : decide ((((58 : UInt8).toNat : Nat) : Int) = 58) = true := by decide
    rw [d58, cond_true, i1, cond_true, e1, e3, cond_true, i2, cond_true, e2, by_app, if_pos ⟨rfl, rfl⟩]
   ·rw [decide_eq_false (show ¬ (z.toNat : Int) = 58 from fun e => hz (byte_eq.1 (show (z.toNat : Int) = ((58 : UInt8).toNat : Int) from e)))]
    rw [cond_false, if_neg (fun h => hz h.2)]
end
end Go.Proofs.YtnogehmgpfpjmaaGreatDoor
end
section
namespace Go.Proofs.YtnogehmgpfpjmaaGreatDoor
open Go Go.Ab Go.Dk
section
variable {n B m : Nat} {x : UInt8} {s e ins : List UInt8} {deep : Int} {rest : List UInt8} {binds : Bool} {z1 z2 : Int} {z3 : List T} {k : Int}
theorem f_sort {n : Nat} (hn : 1 ≤ n) (i : Int) : FF n 66 [nt i] [] = some ([tm (.mk 2 i [])], []) := by
 obtain ⟨n, rfl⟩ := pos_succ (show 0 < n by omega)
 exact E_impl_sort n i
theorem RD.both {o : Option (T × List UInt8)} {res : OR} (h : RD B o res) : (∃ t r, o = none ∧ res = some ([tm t, sr r, bl false], [])) ∨ (∃ t r, o = some (t, r) ∧ res = some ([tm t, sr r, bl true], []) ∧ r.length ≤ B) := by
 obtain ⟨t, r, b, h1, h2, h3, h4⟩ := h
 cases o with
 | none => have := h3 rfl; subst this; exact .inl ⟨t, r, rfl, h1⟩
 | some y =>
  obtain ⟨rfl, rfl, rfl⟩ := h2 y rfl
  exact .inr ⟨y.1, y.2, rfl, h1, h4 rfl⟩
theorem ln_two (hn : 10 ≤ n) (hd : 0 ≤ deep ∧ deep ≤ 100) {a q c : List UInt8} {t1 : T} {o : Option (T × List UInt8)}
   (hp : RD B o (FF n 28 [sr rest, sr (if isBd k = true then ins else e), nt (deep + 1)] [])) :
   RD B (o.bind fun b => (cutP c b.2).bind fun r2 => if isBd k = binds then some (.mk k 0 [t1, b.1], r2) else none)
    (LN n (m + 2) (bytesOf (x :: s)) (bytesOf e) deep ([a, q, c].map bytesOf) (bytesOf rest) true (bytesOf ins) binds 2 z1 z2 z3 k 0 [t1]) := by
 have key : ∀ {t : T} {r : List UInt8} {b : Bool}, FF n 28 [sr rest, sr (if isBd k = true then ins else e), nt (deep + 1)] [] = some ([tm t, sr r, bl b], []) →
    LN n (m + 2) (bytesOf (x :: s)) (bytesOf e) deep ([a, q, c].map bytesOf) (bytesOf rest) true (bytesOf ins) binds 2 z1 z2 z3 k 0 [t1] =
    if b = true then LN n (m + 1) (bytesOf (x :: s)) (bytesOf e) deep ([a, q, c].map bytesOf) (bytesOf ((cutP c r).getD r)) (cutP c r).isSome (bytesOf ins) binds ((3 : Nat) : Int) z1 z2 z3 k 0 ([t1] ++ [t]) else some ([tm (.mk 0 0 []), sr [], bl false], []) := by
  intro t r b h
  exact ln_step (x := x) (i := 2) (ps := [a, q, c]) (ks := [t1]) hn (.inr (by decide)) (by simp) (by simp) (by simp) hd (by simp only [true_and]; exact h)
 rcases hp.both with ⟨t, r, rfl, hr⟩ | ⟨t, r, rfl, hr, hl⟩
 ·rw [key hr]; exact RD.fail (by rw [if_neg (by simp)])
 ·rw [key hr, if_pos rfl, Option.bind_some]
  cases hc : cutP c r with
  | none => exact RD.fail (by simp only [Option.getD_none, Option.isSome_none]; exact ln_false)
  | some r2 =>
   simp only [Option.getD_some, Option.isSome_some, Option.bind_some]
   have e := ln_end (n := n) (c := m) (x := x) (s := s) (e := e) (deep := deep) (ps := [a, q, c]) (rest := r2) (ins := ins) (binds := binds) (i := 3) (z1 := z1) (z2 := z2) (z3 := z3) (k := k) (N := 0) (ks := [t1] ++ [t]) (by omega) rfl
   have := cutP_len hc
   by_cases hk : isBd k = binds
   ·rw [if_pos hk]
    refine RD.ok ?_ (by omega)
    rw [e, decide_eq_true hk]; rfl
   ·rw [if_neg hk]
    exact RD.fail (t := .mk k 0 ([t1] ++ [t])) (r := r2) (by rw [e, decide_eq_false hk])
theorem rn_round (hn : 10 ≤ n) (hd : 0 ≤ deep ∧ deep ≤ 100) (hm : 3 ≤ m) {p p2 : List UInt8 → Option (T × List UInt8)} (hrest : rest.length ≤ B)
   (hp : ∀ r : List UInt8, r.length ≤ B → RD B (p r) (FF n 28 [sr r, sr e, nt (deep + 1)] [])) (hp2 : ∀ r : List UInt8, r.length ≤ B → RD B (p2 r) (FF n 28 [sr r, sr ins, nt (deep + 1)] [])) :
   RD B ((p rest).bind fun a => (cutP [rkC a.2] a.2).bind fun r => ((if isBd (rkK a.2) = true then p2 else p) r).bind fun b => (cutP [41] b.2).bind fun r2 => if isBd (rkK a.2) = binds then some (.mk (rkK a.2) 0 [a.1, b.1], r2) else none)
    (LN n m (bytesOf (40 :: s)) (bytesOf e) deep ((rps 62).map bytesOf) (bytesOf rest) true (bytesOf ins) binds 1 z1 z2 z3 3 0 []) := by
 obtain ⟨m, rfl⟩ : ∃ j, m = j + 3 := ⟨m - 3, by omega⟩
 rcases (hp rest hrest).both with ⟨t, r, ho, hr⟩ | ⟨t, r, ho, hr, hl⟩
 ·rw [ho, ln_round hn (by simp) hd hr]; exact RD.fail (by rw [if_neg (by simp)])
 ·rw [ho, ln_round hn (by simp) hd hr, if_pos rfl]
  simp only [Option.bind_some]
  cases hc : cutP [rkC r] r with
  | none => exact RD.fail (by simp only [Option.getD_none, Option.isSome_none]; exact ln_false (i := 2))
  | some r2 =>
   simp only [Option.getD_some, Option.isSome_some, Option.bind_some]
   have := cutP_len hc
   refine ln_two (m := m) (a := [40]) (q := [rkC r]) (c := [41]) hn hd ?_
   by_cases hk : isBd (rkK r) = true
   ·rw [if_pos hk, if_pos hk]; exact hp2 r2 (by omega)
   ·rw [if_neg hk, if_neg hk]; exact hp r2 (by omega)
theorem rn_square (hn : 10 ≤ n) (hd : 0 ≤ deep ∧ deep ≤ 100) (hm : 3 ≤ m) {p p2 : List UInt8 → Option (T × List UInt8)} (hrest : rest.length ≤ B)
   (hp : ∀ r : List UInt8, r.length ≤ B → RD B (p r) (FF n 28 [sr r, sr e, nt (deep + 1)] [])) (hp2 : ∀ r : List UInt8, r.length ≤ B → RD B (p2 r) (FF n 28 [sr r, sr ins, nt (deep + 1)] [])) :
   RD B ((p rest).bind fun a => (cutP [93] a.2).bind fun r => (p2 r).bind fun b => (cutP [] b.2).bind fun r2 => if isBd 4 = binds then some (.mk 4 0 [a.1, b.1], r2) else none)
    (LN n m (bytesOf (91 :: s)) (bytesOf e) deep (([[91], [93], []] : List (List UInt8)).map bytesOf) (bytesOf rest) true (bytesOf ins) binds 1 z1 z2 z3 4 0 []) := by
 obtain ⟨m, rfl⟩ : ∃ j, m = j + 3 := ⟨m - 3, by omega⟩
 have key : ∀ {t : T} {r : List UInt8} {b : Bool}, FF n 28 [sr rest, sr e, nt (deep + 1)] [] = some ([tm t, sr r, bl b], []) →
    LN n (m + 3) (bytesOf (91 :: s)) (bytesOf e) deep (([[91], [93], []] : List (List UInt8)).map bytesOf) (bytesOf rest) true (bytesOf ins) binds 1 z1 z2 z3 4 0 [] =
    if b = true then LN n (m + 2) (bytesOf (91 :: s)) (bytesOf e) deep (([[91], [93], []] : List (List UInt8)).map bytesOf) (bytesOf ((cutP [93] r).getD r)) (cutP [93] r).isSome (bytesOf ins) binds ((2 : Nat) : Int) z1 z2 z3 4 0 [t] else some ([tm (.mk 0 0 []), sr [], bl false], []) := by
  intro t r b h
  exact ln_step (x := 91) (i := 1) (ps := [[91], [93], []]) (ks := []) hn (.inl (by decide)) (by decide) (by decide) (by decide) hd (by rw [if_neg (fun h => by cases h.1)]; exact h)
 rcases (hp rest hrest).both with ⟨t, r, ho, hr⟩ | ⟨t, r, ho, hr, hl⟩
 ·rw [ho, key hr]; exact RD.fail (by rw [if_neg (by simp)])
 ·rw [ho, key hr, if_pos rfl]
  simp only [Option.bind_some]
  cases hc : cutP [93] r with
  | none => exact RD.fail (by simp only [Option.getD_none, Option.isSome_none]; exact ln_false (i := 2))
  | some r2 =>
   simp only [Option.getD_some, Option.isSome_some, Option.bind_some]
   have := cutP_len hc
   refine ln_two (m := m) (a := [91]) (q := [93]) (c := []) hn hd ?_
   rw [if_pos (show isBd 4 = true from rfl)]; exact hp2 r2 (by omega)
theorem rn_plain (hn : 100 ≤ n) (hl : letB x = false) (hd : 0 ≤ deep ∧ deep ≤ 30) (h40 : x ≠ 40) (h91 : x ≠ 91) {k : Nat} (hk : kdF x = ((k + 1 : Nat) : Int)) (hk2 : 2 ≤ k) (hkb : isBd ((k + 1 : Nat) : Int) = false) {sh p0 : List UInt8} {ps : List (List UInt8)} (hsh : shps[k]? = some sh) (hsp : shTab.lookup sh = some (p0 :: ps)) (hps : ps.length ≤ 8)
   {p : List UInt8 → Option (T × List UInt8)} (hs : (x :: s).length ≤ B)
   (hp : ∀ r : List UInt8, r.length ≤ B → RD B (p r) (FF n 28 [sr r, sr e, nt (deep + 1)] [])) :
   RD B ((cutP p0 (x :: s)).bind fun r => rdP p ((k + 1 : Nat) : Int) ps r []) (FF (n + 1) 28 [sr (x :: s), sr e, nt deep] []) := by
 rw [rn_start hn hl hd h40 h91 hk hk2 hsh hsp]
 cases hc : cutP p0 (x :: s) with
 | none =>
  obtain ⟨n, rfl⟩ := pos_succ (show 0 < n by omega)
  exact RD.fail (by simp only [Option.getD_none, Option.isSome_none]; exact ln_false (i := 1))
 | some r =>
  simp only [Option.getD_some, Option.isSome_some, Option.bind_some]
  have := cutP_len hc
  exact plain_loop (ps := p0 :: ps) p (by omega) h40 hkb (by simp; omega) (by omega) hp ps.length n 1 r [] (by omega) (by simp; omega) (by simp) (by omega)
theorem rn_letter (hn : 100 ≤ n) (he : e.length ≤ 70) (hl : letB x = true) (hd : deep ≤ 30) (hs : (x :: s).length ≤ B) : RD B ((fnd e x).map fun k => (.mk 1 k [], s)) (FF (n + 1) 28 [sr (x :: s), sr e.reverse, nt deep] []) := by
 rw [E_impl_readNamed, by_toList]
 simp only [show ((x :: s) == (bytesOf []).toList) = false from (by rw [by_toList]; rfl), cond_false, decide_eq_false (show ¬ (30 : Int) < deep by omega), z_hd, show decide (0 ≤ 0) = true from rfl, Bool.and_self, cond_true]
 rw [by_hd, f_isLetter (by omega), hl]
 simp only [evt]
 rw [f_LastIndexByte e x (by omega) (by omega), by_size, List.length_reverse]
 simp only [evt]
 cases hf : fnd e x with
 | none =>
  simp only [f_variable (n := n) (by omega)]
  simp only [evt]
  rw [in_1, cond_true]
  exact RD.fail (t := .mk 1 (IntKind.i64.wrap (IntKind.i64.wrap (↑e.length - 1) - -1)) []) (r := s) (by rw [tl_1]; rfl)
 | some k =>
  have := fnd_lt _ _ hf
  rw [wrap64 (show -9223372036854775808 ≤ (e.length : Int) - 1 ∧ (e.length : Int) - 1 ≤ 9223372036854775807 by omega)]
  rw [show (e.length : Int) - 1 - ((e.length : Int) - 1 - k) = k by omega, wrap64 (show -9223372036854775808 ≤ (k : Int) ∧ (k : Int) ≤ 9223372036854775807 by omega)]
  simp only [f_variable (n := n) (by omega)]
  simp only [evt]
  rw [in_1, cond_true, tl_1, decide_eq_true (show (0 : Int) ≤ (e.length : Int) - 1 - k by omega)]
  exact RD.ok rfl (by simp only [List.length_cons] at hs; omega)
theorem rn_num (hn : 100 ≤ n) (hd : deep ≤ 30) (hB : B ≤ 1073741824) (hs : (42 :: s).length ≤ B) : RD B (numI s) (FF (n + 1) 28 [sr (42 :: s), sr e, nt deep] []) := by
 rw [E_impl_readNamed, by_toList]
 simp only [show (((42 : UInt8) :: s) == (bytesOf []).toList) = false from (by rw [by_toList]; rfl), cond_false, decide_eq_false (show ¬ (30 : Int) < deep by omega), z_hd, show decide (0 ≤ 0) = true from rfl, Bool.and_self, cond_true]
 rw [by_hd, f_isLetter (by omega), show letB 42 = false from rfl]
 simp only [evt]
 rw [f_kindAt (by omega), show kdF 42 = 2 from rfl]
 simp only [evt]
 have e1 : decide ((2 : Int) < 0) = false := rfl
 have e2 : decide ((2 : Int) = 1) = false := rfl
 rw [e1, cond_false, e2, cond_false, in_1, cond_true, tl_1]
 simp only [List.length_cons] at hs
 obtain ⟨n, rfl⟩ := pos_succ (show 0 < n by omega)
 rw [f_readNumber (by omega)]
 simp only [evt]
 rw [f_sort (by omega)]
 simp only [evt]
 have := rnR_len s
 unfold numI
 by_cases h0 : 0 ≤ rnN s
 ·rw [decide_eq_true h0, cond_true, f_Itoa h0 (rnN_le s)]
  simp only [evt]
  rw [f_TrimPrefix _ _ (by omega)]
  simp only [evt, by_toList]
  by_cases h : rnR s = (cutP (Lib.itoa (rnN s)) s).getD s
  ·rw [if_pos ⟨h0, h⟩]
   refine RD.ok ?_ (by omega)
   rw [show (rnR s == (cutP (Lib.itoa (rnN s)) s).getD s) = true from by rw [beq_iff_eq]; exact h]; rfl
  ·rw [if_neg (fun hh => h hh.2)]
   refine RD.fail (t := .mk 2 (rnN s) []) (r := rnR s) ?_
   rw [show (rnR s == (cutP (Lib.itoa (rnN s)) s).getD s) = false from by rw [Bool.eq_false_iff, ne_eq, beq_iff_eq]; exact h]; rfl
 ·rw [decide_eq_false h0, cond_false, if_neg (fun h => h0 h.1)]
  exact RD.fail (t := .mk 2 (rnN s) []) (r := rnR s) rfl
theorem rn_other (hn : 100 ≤ n) (hd : deep ≤ 30) (hl : letB x = false) (hk : kdF x = -1 ∨ kdF x = 1) : RD B none (FF (n + 1) 28 [sr (x :: s), sr e, nt deep] []) := by
 rw [E_impl_readNamed, by_toList]
 simp only [show ((x :: s) == (bytesOf []).toList) = false from (by rw [by_toList]; rfl), cond_false, decide_eq_false (show ¬ (30 : Int) < deep by omega), z_hd, show decide (0 ≤ 0) = true from rfl, Bool.and_self, cond_true]
 rw [by_hd, f_isLetter (by omega), hl]
 simp only [evt]
 rw [f_kindAt (by omega)]
 simp only [evt]
 rcases hk with h | h
 ·rw [h, show decide ((-1 : Int) < 0) = true from rfl, cond_true]; exact RD.fail (t := .mk 0 0 []) (r := []) rfl
 ·rw [h, show decide ((1 : Int) < 0) = false from rfl, cond_false, show decide ((1 : Int) = 1) = true from rfl, cond_true]; exact RD.fail (t := .mk 0 0 []) (r := []) rfl
theorem rn_nil (hn : 1 ≤ n) : RD B none (FF n 28 [sr [], sr e, nt deep] []) := by
 obtain ⟨n, rfl⟩ := pos_succ (show 0 < n by omega)
 rw [E_impl_readNamed, by_toList, show (([] : List UInt8) == []) = true from rfl, cond_true]
 exact RD.fail (t := .mk 0 0 []) (r := []) rfl
theorem rn_deep (hn : 1 ≤ n) : RD B none (FF n 28 [sr s, sr e, nt 31] []) := by
 obtain ⟨n, rfl⟩ := pos_succ (show 0 < n by omega)
 rw [E_impl_readNamed, show decide ((30 : Int) < 31) = true from rfl, cond_true, Bool.cond_self]
 exact RD.fail (t := .mk 0 0 []) (r := []) rfl
theorem cut_self (x : UInt8) (s : List UInt8) : cutP [x] (x :: s) = some s := by rw [cut_one]; simp [eat]
theorem rdP_one {p : List UInt8 → Option (T × List UInt8)} {s : List UInt8} : rdP p k [[]] s [] = (p s).map fun x => (.mk k 0 [x.1], x.2) := by
 rw [rdP]
 cases p s with
 | none => rfl
 | some x => simp [cut_nil, rdP]
theorem rd_round {p p2 : List UInt8 → Option (T × List UInt8)} {s : List UInt8} :
   ((p s).bind fun a => (cutP [rkC a.2] a.2).bind fun r => ((if isBd (rkK a.2) = true then p2 else p) r).bind fun b => (cutP [41] b.2).bind fun r2 => if isBd (rkK a.2) = true then some (T.mk (rkK a.2) 0 [a.1, b.1], r2) else none) =
   (p s).bind fun a => (match a.2 with
      | y :: r => if y = 62 then (p2 r).bind fun b => (eat 41 b.2).map fun r => (T.mk 3 0 [a.1, b.1], r)
       else if y = 42 then (p2 r).bind fun b => (eat 41 b.2).map fun r => (T.mk 13 0 [a.1, b.1], r) else none
      | [] => none) := by
 refine congrArg _ (funext fun a => ?_)
 obtain ⟨t, r⟩ := a
 cases r with
 | nil => rfl
 | cons y r =>
  simp only [cut_one, rkK, rkC]
  by_cases h1 : y = 62
  ·subst h1; simp [eat, isBd, Option.map_eq_bind, Function.comp_def]
  ·by_cases h2 : y = 42
   ·subst h2; simp [eat, isBd, Option.map_eq_bind, Function.comp_def]
   ·by_cases h3 : y = 32
    ·subst h3
     simp only [eat, isBd, if_true, Option.bind_some]
     cases (p r) with
     | none => simp
     | some b => cases (eat 41 b.2) <;> simp
    ·simp [h1, h2, h3, eat]
theorem rd_app {p p2 : List UInt8 → Option (T × List UInt8)} {s : List UInt8} :
   ((p s).bind fun a => (cutP [rkC a.2] a.2).bind fun r => ((if isBd (rkK a.2) = true then p2 else p) r).bind fun b => (cutP [41] b.2).bind fun r2 => if isBd (rkK a.2) = false then some (T.mk (rkK a.2) 0 [a.1, b.1], r2) else none) =
   (p s).bind fun a => (eat 32 a.2).bind fun r => (p r).bind fun b => (eat 41 b.2).map fun r => (T.mk 5 0 [a.1, b.1], r) := by
 refine congrArg _ (funext fun a => ?_)
 obtain ⟨t, r⟩ := a
 cases r with
 | nil => rfl
 | cons y r =>
  simp only [cut_one, rkK, rkC]
  by_cases h3 : y = 32
  ·subst h3; simp [eat, isBd, Option.map_eq_bind, Function.comp_def]
  ·by_cases h2 : y = 42
   ·subst h2
    simp only [eat, isBd, if_true, Option.bind_some]
    cases (p2 r) with
    | none => simp
    | some b => cases (eat 41 b.2) <;> simp
   ·by_cases h1 : y = 62
    ·subst h1
     simp only [eat, isBd, if_true, Option.bind_some]
     cases (p2 r) with
     | none => simp
     | some b => cases (eat 41 b.2) <;> simp
    ·simp [h1, h2, h3, eat]
theorem rd_square {p p2 : List UInt8 → Option (T × List UInt8)} {s : List UInt8} :
   ((p s).bind fun a => (cutP [93] a.2).bind fun r => (p2 r).bind fun b => (cutP [] b.2).bind fun r2 => if isBd 4 = binds then some (T.mk 4 0 [a.1, b.1], r2) else none) =
   if binds = true then (p s).bind fun a => (eat 93 a.2).bind fun r => (p2 r).map fun b => (T.mk 4 0 [a.1, b.1], b.2) else none := by
 simp only [cut_one, cut_nil, Option.bind_some, show isBd 4 = true from rfl]
 cases binds with
 | true => simp [Option.map_eq_bind, Function.comp_def]
 | false =>
  simp only [Bool.true_eq_false, Bool.false_eq_true, if_false]
  cases p s with
  | none => rfl
  | some a =>
   simp only [Option.bind_some]
   cases eat 93 a.2 with
   | none => rfl
   | some r =>
    simp only [Option.bind_some]
    cases p2 r <;> rfl
end
theorem bnd_len {s r : List UInt8} {y : UInt8} (h : bnd s = some (y, r)) : r.length + 2 = s.length := by
 unfold bnd at h
 split at h
 ·split at h
  ·cases h; simp
  ·cases h
 ·cases h
theorem f_readNamed {B : Nat} (hB : B ≤ 1073741824) : ∀ (d : Nat), d ≤ 30 → ∀ {n : Nat} (e s : List UInt8), 200 + 10 * d ≤ n → e.length + d ≤ 60 → s.length ≤ B → RD B (rdI d e s) (FF n 28 [sr s, sr e.reverse, nt (31 - (d : Int))] []) := by
 intro d
 induction d with
 | zero => intro _ n e s hn _ _; exact rn_deep (by omega)
 | succ d ih =>
  intro hd n e s hn he hs
  cases s with
  | nil => exact rn_nil (by omega)
  | cons c s =>
   obtain ⟨n, rfl⟩ := pos_succ (show 0 < n by omega)
   have hdp : (31 : Int) - ((d + 1 : Nat) : Int) = 30 - d := by omega
   rw [hdp, rdI]
   have ih1 : ∀ r : List UInt8, r.length ≤ B → RD B (rdI d e r) (FF n 28 [sr r, sr e.reverse, nt (30 - (d : Int) + 1)] []) := fun r hr => by
    rw [show (30 : Int) - d + 1 = 31 - d by omega]; exact ih (by omega) e r (by omega) (by omega) hr
   have ih2 : ∀ (y : UInt8) (r : List UInt8), r.length ≤ B → RD B (rdI d (y :: e) r) (FF n 28 [sr r, sr (e.reverse ++ [y]), nt (30 - (d : Int) + 1)] []) := fun y r hr => by
    rw [show (30 : Int) - d + 1 = 31 - d by omega, show e.reverse ++ [y] = (y :: e).reverse by simp]; exact ih (by omega) (y :: e) r (by omega) (by simp; omega) hr
   have hrs : s.length ≤ B := by simp only [List.length_cons] at hs; omega
   by_cases h0 : letB c = true
   ·rw [if_pos h0]; exact rn_letter (by omega) (by omega) h0 (by omega) hs
   have h0' : letB c = false := by simpa using h0
   rw [if_neg h0]
   by_cases h1 : c = 42
   ·rw [if_pos h1]; subst h1; exact rn_num (by omega) (by omega) hB hs
   rw [if_neg h1]
   by_cases h2 : c = 78
   ·rw [if_pos h2]; subst h2
    have := rn_plain (n := n) (s := s) (by omega) h0' (deep := 30 - d) (by omega) (by decide) (by decide) (k := 5) rfl (by decide) rfl rfl (p0 := [78]) (ps := []) rfl (by decide) hs ih1
    rw [cut_self] at this; exact this
   rw [if_neg h2]
   by_cases h3 : c = 48
   ·rw [if_pos h3]; subst h3
    have := rn_plain (n := n) (s := s) (by omega) h0' (deep := 30 - d) (by omega) (by decide) (by decide) (k := 6) rfl (by decide) rfl rfl (p0 := [48]) (ps := []) rfl (by decide) hs ih1
    rw [cut_self] at this; exact this
   rw [if_neg h3]
   by_cases h4 : c = 43
   ·rw [if_pos h4]; subst h4
    have := rn_plain (n := n) (s := s) (by omega) h0' (deep := 30 - d) (by omega) (by decide) (by decide) (k := 7) rfl (by decide) rfl rfl (p0 := [43]) (ps := [[]]) rfl (by decide) hs ih1
    rw [cut_self, Option.bind_some, rdP_one] at this; exact this
   rw [if_neg h4]
   by_cases h5 : c = 33
   ·rw [if_pos h5]; subst h5
    have := rn_plain (n := n) (s := s) (by omega) h0' (deep := 30 - d) (by omega) (by decide) (by decide) (k := 10) rfl (by decide) rfl rfl (p0 := [33]) (ps := [[]]) rfl (by decide) hs ih1
    rw [cut_self, Option.bind_some, rdP_one] at this; exact this
   rw [if_neg h5]
   by_cases h6 : c = 94
   ·rw [if_pos h6]; subst h6
    have := rn_plain (n := n) (s := s) (by omega) h0' (deep := 30 - d) (by omega) (by decide) (by decide) (k := 14) rfl (by decide) rfl rfl (p0 := [94]) (ps := [[]]) rfl (by decide) hs ih1
    rw [cut_self, Option.bind_some, rdP_one] at this; exact this
   rw [if_neg h6]
   by_cases h7 : c = 95
   ·rw [if_pos h7]; subst h7
    have := rn_plain (n := n) (s := s) (by omega) h0' (deep := 30 - d) (by omega) (by decide) (by decide) (k := 15) rfl (by decide) rfl rfl (p0 := [95]) (ps := [[]]) rfl (by decide) hs ih1
    rw [cut_self, Option.bind_some, rdP_one] at this; exact this
   rw [if_neg h7]
   by_cases h8 : c = 40
   ·rw [if_pos h8]; subst h8
    rw [rn_start40 (by omega) (by omega) (by simp; omega)]
    cases hb : bnd s with
    | none =>
     have := rn_round (m := n) (s := s) (binds := false) (z1 := 0) (z2 := 0) (z3 := []) (ins := e.reverse) (by omega) (deep := 30 - d) (by omega) (by omega) hrs ih1 ih1
     rw [rd_app] at this; exact this
    | some x =>
     obtain ⟨y, s2⟩ := x
     have := bnd_len hb
     have := rn_round (m := n) (s := s) (binds := true) (z1 := 0) (z2 := 0) (z3 := []) (rest := s2) (by omega) (deep := 30 - d) (by omega) (by omega) (by omega) ih1 (ih2 y)
     rw [rd_round] at this; exact this
   rw [if_neg h8]
   by_cases h9 : c = 91
   ·rw [if_pos h9]; subst h9
    rw [rn_start91 (by omega) (by omega) (by simp; omega)]
    cases hb : bnd s with
    | none =>
     have := rn_square (m := n) (s := s) (binds := false) (z1 := 0) (z2 := 0) (z3 := []) (ins := e.reverse) (by omega) (deep := 30 - d) (by omega) (by omega) hrs ih1 ih1
     rw [rd_square] at this; exact this
    | some x =>
     obtain ⟨y, s2⟩ := x
     have := bnd_len hb
     have := rn_square (m := n) (s := s) (binds := true) (z1 := 0) (z2 := 0) (z3 := []) (rest := s2) (by omega) (deep := 30 - d) (by omega) (by omega) (by omega) ih1 (ih2 y)
     rw [rd_square, if_pos rfl] at this; exact this
   rw [if_neg h9]
   by_cases h10 : c = 60
   ·rw [if_pos h10]; subst h10
    have := rn_plain (n := n) (s := s) (by omega) h0' (deep := 30 - d) (by omega) (by decide) (by decide) (k := 8) rfl (by decide) rfl rfl (p0 := [60]) (ps := prt 62 4) rfl (by decide) hs ih1
    rw [cut_self, Option.bind_some, rdP_S] at this; simpa using this
   rw [if_neg h10]
   by_cases h11 : c = 123
   ·rw [if_pos h11]; subst h11
    have := rn_plain (n := n) (s := s) (by omega) h0' (deep := 30 - d) (by omega) (by decide) (by decide) (k := 9) rfl (by decide) rfl rfl (p0 := [123]) (ps := prt 125 3) rfl (by decide) hs ih1
    rw [cut_self, Option.bind_some, rdP_S] at this; simpa using this
   rw [if_neg h11]
   by_cases h12 : c = 124
   ·rw [if_pos h12]; subst h12
    have := rn_plain (n := n) (s := s) (by omega) h0' (deep := 30 - d) (by omega) (by decide) (by decide) (k := 13) rfl (by decide) rfl rfl (p0 := [124]) (ps := prt 124 3) rfl (by decide) hs ih1
    rw [cut_self, Option.bind_some, rdP_S] at this; simpa using this
   rw [if_neg h12]
   by_cases h13 : c = 64
   ·rw [if_pos h13]; subst h13
    have := rn_plain (n := n) (s := s) (by omega) h0' (deep := 30 - d) (by omega) (by decide) (by decide) (k := 11) rfl (by decide) rfl rfl (p0 := [64, 60]) (ps := prt 62 3) rfl (by decide) hs ih1
    have hc : cutP [64, 60] (64 :: s) = eat 60 s := by
     cases s with
     | nil => rfl
     | cons y s =>
      unfold cutP eat
      by_cases h : y = 60
      ·subst h; simp
      ·have h2 : ¬ 60 = y := fun e => h e.symm
       simp [h, h2]
    rw [hc] at this
    simpa [rdP_S] using this
   rw [if_neg h13]
   exact rn_other (by omega) (by omega) h0' (kd_other ⟨h1, h2, h3, h4, h5, h6, h7, h8, h9, h10, h11, h12, h13⟩)
end Go.Proofs.YtnogehmgpfpjmaaGreatDoor
end
section
namespace Go.Proofs.YtnogehmgpfpjmaaGreatDoor
open Go Go.Ab Go.Dk
def RQ (S : List UInt8) (o : Option (T × List UInt8)) (t : T) (k : Int) : Prop :=
 (∃ j, o = some (t, S.drop j) ∧ j ≤ S.length ∧ k = (j : Int)) ∨ (o = none ∧ k = -1) ∨ (o = none ∧ ∃ (j : Nat) (y : UInt8) (r : List UInt8), k = (j : Int) ∧ S.drop j = y :: r ∧ digB y = true)
def RP (S : List UInt8) (o : Option (T × List UInt8)) (res : OR) : Prop := ∃ t k, res = some ([tm t, nt k], []) ∧ RQ S o t k
theorem RP.fail {S : List UInt8} {res : OR} {t : T} (h : res = some ([tm t, nt (-1)], [])) : RP S none res := ⟨t, -1, h, .inr (.inl ⟨rfl, rfl⟩)⟩
theorem RP.ok {S : List UInt8} {res : OR} {t : T} {j : Nat} {r : List UInt8} (h : res = some ([tm t, nt (j : Int)], [])) (hj : j ≤ S.length) (hr : r = S.drop j) : RP S (some (t, r)) res := ⟨t, j, h, .inl ⟨j, by rw [hr], hj, rfl⟩⟩
section
variable {S : List UInt8} {j : Nat} {y : UInt8} {r : List UInt8}
theorem dp_lt (h : S.drop j = y :: r) : j < S.length := by
 have := congrArg List.length h
 simp only [List.length_drop, List.length_cons] at this; omega
theorem dp_at (h : S.drop j = y :: r) : byteAt (bytesOf S) ((j : Int)).toNat = y := by
 rw [Int.toNat_natCast, by_at]
 have : S[j]? = some y := by
  have := congrArg List.head? h
  simpa [List.head?_drop] using this
 rw [this]; rfl
theorem dp_tl (h : S.drop j = y :: r) : S.drop (j + 1) = r := by
 rw [← List.drop_drop, h]; rfl
theorem dp_nil (h : S.drop j = []) : S.length ≤ j := by simpa using h
theorem dp_in (h : S.drop j = y :: r) : (decide (0 ≤ (j : Int)) && decide ((j : Int) < (((bytesOf S).size : Nat) : Int))) = true := by
 have := dp_lt h
 rw [by_size]; simp only [Bool.and_eq_true, decide_eq_true_eq]; omega
end
theorem f_l19Num0 {n : Nat} : FF (n + 1) 115 [sr []] [] = some ([nt 0, bl false], []) := by
 rw [E_spec_l19Num]
 simp only [by_size, List.length_nil]
 rfl
theorem f_l19Num1 {n : Nat} {x : UInt8} (h : digB x = true) : FF (n + 3) 115 [sr [x]] [] = some ([nt ((x.toNat : Int) - 48), bl true], []) := by
 have hx := h
 simp only [digB, Bool.and_eq_true, decide_eq_true_eq] at hx
 have e1 : L_spec_l19Num_0 (n + 2) (n + 2) (bytesOf [x]) false 0 0 = some ([nt ((x.toNat : Int) - 48), bl true], []) := by
  rw [L_spec_l19Num_0_eq]
  simp only [by_size, List.length_cons, List.length_nil]
  rw [show decide ((0 : Int) < ((0 + 1 : Nat) : Int)) = true from rfl, cond_true, by_hd, show decide ((0 : Int) ≤ 0) = true from rfl, Bool.and_self, cond_true, decide_eq_false (show ¬ (x.toNat : Int) < 48 by omega), cond_false, cond_true, decide_eq_false (show ¬ (57 : Int) < x.toNat by omega), cond_false, cond_true]
  rw [L_spec_l19Num_0_eq]
  simp only [by_size, List.length_cons, List.length_nil]
  rw [show decide (IntKind.i64.wrap ((0 : Int) + 1) < ((0 + 1 : Nat) : Int)) = false from rfl, cond_false, cond_false]
  rw [wrap_u8 (by omega), show IntKind.i64.wrap ((0 : Int) * 10) = 0 from rfl, wrap64 (show -9223372036854775808 ≤ (x.toNat : Int) - 48 ∧ (x.toNat : Int) - 48 ≤ 9223372036854775807 by omega), Int.zero_add, wrap64 (show -9223372036854775808 ≤ (x.toNat : Int) - 48 ∧ (x.toNat : Int) - 48 ≤ 9223372036854775807 by omega)]
 rw [E_spec_l19Num]
 simp only [by_size, List.length_cons, List.length_nil]
 rw [show decide ((0 : Int) < ((0 + 1 : Nat) : Int)) = true from rfl, cond_true, by_hd, show decide (0 ≤ 0) = true from rfl, Bool.and_self, cond_true, decide_eq_false (show ¬ (x.toNat : Int) = 45 by omega), cond_false, show decide (((0 + 1 : Nat) : Int) = 0) = false from rfl, cond_false, show decide ((17 : Int) < ((0 + 1 : Nat) : Int)) = false from rfl, cond_false, cond_true]
 rw [show decide ((1 : Int) < ((0 + 1 : Nat) : Int)) = false from rfl, cond_false, cond_false, Bool.cond_self]
 exact e1
theorem f_l1Number {n : Nat} {S : List UInt8} {at_ : Nat} (hn : 10 ≤ n) (hS : S.length ≤ 1099511627776) (ha : at_ ≤ S.length) :
   FF n 94 [sr S, nt at_, nt 1] [] = match S.drop at_ with
    | [] => some ([nt 0, nt (-1)], [])
    | y :: r => if digB y = true then some ([nt ((y.toNat : Int) - 48), nt ((at_ + 1 : Nat) : Int)], []) else some ([nt 0, nt (-1)], []) := by
 obtain ⟨n, rfl⟩ : ∃ k, n = k + 4 := ⟨n - 4, by omega⟩
 rw [E_spec_l1Number, L_spec_l1Number_0_eq]
 have hw : IntKind.i64.wrap ((at_ : Int) + 1) = (at_ : Int) + 1 := wrap64 (by omega)
 rw [hw]
 have he : (bytesOf S).extract ((at_ : Int)).toNat ((at_ : Int)).toNat = bytesOf [] := by rw [by_ext, Int.toNat_natCast]; simp [List.drop_take]
 have hin : Go.Ab.inB at_ at_ (bytesOf S).size = true := by rw [by_size]; simp only [inB, Bool.and_eq_true, decide_eq_true_eq]; omega
 have fin : (bif Go.Ab.inB at_ at_ (bytesOf S).size then
    (FF (n + 3) 115 [.one (.str ((bytesOf S).extract ((at_ : Int)).toNat ((at_ : Int)).toNat))] []).bind fun x0 =>
     rInt .i64 x0.1 fun x1 x2 => rBool x2 fun x3 x4 => nilV x4 (nilO x0.2 (cond (!x3) (some ([.one (.int .i64 0), .one (.int .i64 (-1))], [])) (some ([.one (.int .i64 x1), .one (.int .i64 (at_ : Int))], []))))
    else none) = some ([nt 0, nt (-1)], []) := by
  rw [hin, cond_true, he, f_l19Num0]
  simp only [evt]
 cases hd : S.drop at_ with
 | nil =>
  have := dp_nil hd
  rw [decide_eq_false (show ¬ (at_ : Int) < (((bytesOf S).size : Nat) : Int) by rw [by_size]; omega), cond_false]
  exact fin
 | cons y r =>
  have := dp_lt hd
  rw [decide_eq_true (show (at_ : Int) < (((bytesOf S).size : Nat) : Int) by rw [by_size]; omega), cond_true, decide_eq_true (show (at_ : Int) < (at_ : Int) + 1 by omega), cond_true, decide_eq_true (show (0 : Int) ≤ (at_ : Int) by omega), Bool.and_self, cond_true, dp_at hd]
  by_cases h1 : (48 : Int) ≤ y.toNat
  ·rw [decide_eq_true h1, cond_true, cond_true]
   by_cases h2 : (y.toNat : Int) ≤ 57
   ·have hy : digB y = true := by simp only [digB, Bool.and_eq_true, decide_eq_true_eq]; omega
    rw [decide_eq_true h2, cond_true]
    simp only [if_pos hy]
    rw [L_spec_l1Number_0_eq, hw]
    have hin2 : Go.Ab.inB at_ ((at_ : Int) + 1) (bytesOf S).size = true := by rw [by_size]; simp only [inB, Bool.and_eq_true, decide_eq_true_eq]; omega
    have he2 : (bytesOf S).extract ((at_ : Int)).toNat ((at_ : Int) + 1).toNat = bytesOf [y] := by
     rw [by_ext, Int.toNat_natCast, show ((at_ : Int) + 1).toNat = at_ + 1 by omega, List.drop_take, hd]
     simp
    have fin2 : (bif Go.Ab.inB at_ ((at_ : Int) + 1) (bytesOf S).size then
       (FF (n + 3) 115 [.one (.str ((bytesOf S).extract ((at_ : Int)).toNat ((at_ : Int) + 1).toNat))] []).bind fun x0 =>
        rInt .i64 x0.1 fun x1 x2 => rBool x2 fun x3 x4 => nilV x4 (nilO x0.2 (cond (!x3) (some ([.one (.int .i64 0), .one (.int .i64 (-1))], [])) (some ([.one (.int .i64 x1), .one (.int .i64 ((at_ : Int) + 1))], []))))
       else none) = some ([nt ((y.toNat : Int) - 48), nt ((at_ + 1 : Nat) : Int)], []) := by
     rw [hin2, cond_true, he2, f_l19Num1 hy]
     simp only [evt]
     rfl
    by_cases h3 : (at_ : Int) + 1 < (((bytesOf S).size : Nat) : Int)
    ·rw [decide_eq_true h3, cond_true, decide_eq_false (show ¬ (at_ : Int) + 1 < (at_ : Int) + 1 by omega), cond_false]; exact fin2
    ·rw [decide_eq_false h3, cond_false]; exact fin2
   ·have hy : digB y = false := by simp only [digB, Bool.and_eq_false_iff, decide_eq_false_iff_not]; omega
    rw [decide_eq_false h2, cond_false]
    simp only [hy, Bool.false_eq_true, if_false]; exact fin
  ·have hy : digB y = false := by simp only [digB, Bool.and_eq_false_iff, decide_eq_false_iff_not]; omega
   rw [decide_eq_false h1, cond_false]
   simp only [hy, Bool.false_eq_true, if_false]; exact fin
theorem f_l6Find {n : Nat} (e : List UInt8) (c : UInt8) (he : e.length ≤ 1000) (hn : e.length + 3 ≤ n) : FF n 51 [sr e.reverse, .one (.int .u8 (c.toNat : Int))] [] = some ([nt (match fnd e c with | some k => (k : Int) | none => -1)], []) := by
 obtain ⟨n, rfl⟩ := pos_succ (show 0 < n by omega)
 have hs : (bytesOf e.reverse).size = e.length := by rw [by_size, List.length_reverse]
 rw [E_spec_l6Find, wrap64 (by omega), find_loop _ c (by omega) n (bytesOf e.reverse).size n (by omega) (Nat.le_refl _)]
 show some ([nt (findB (bytesOf e.reverse) c)], []) = _
 rw [findB_fnd]
 all_goals (cases fnd e c <;> rfl)
theorem f_l6Letter {n : Nat} (hn : 1 ≤ n) (c : UInt8) : FF n 50 [.one (.int .u8 (c.toNat : Int))] [] = some ([bl (letB c)], []) := by
 obtain ⟨n, rfl⟩ := pos_succ (show 0 < n by omega)
 rw [E_spec_l6Letter, ← letB_eq]
 unfold letterB
 by_cases h : (97 : Int) ≤ c.toNat <;> simp only [h, decide_true, decide_false, cond_true, cond_false, Bool.true_and, Bool.false_and]
theorem f_l6Colon {n : Nat} {S : List UInt8} {at_ : Nat} (hn : 10 ≤ n) (hS : S.length ≤ 1099511627776) (ha : at_ ≤ S.length) : FF n 98 [sr S, nt at_] [] = some ([bl (bnd (S.drop at_)).isSome], []) := by
 obtain ⟨n, rfl⟩ := pos_succ (show 0 < n by omega)
 have hw : IntKind.i64.wrap ((at_ : Int) + 1) = (at_ : Int) + 1 := wrap64 (by omega)
 rw [E_spec_l6Colon, hw]
 cases hd : S.drop at_ with
 | nil =>
  have := dp_nil hd
  rw [decide_eq_false (show ¬ (at_ : Int) + 1 < (((bytesOf S).size : Nat) : Int) by rw [by_size]; omega), cond_false]; rfl
 | cons y r =>
  have := dp_lt hd
  cases r with
  | nil =>
   have := dp_nil (dp_tl hd)
   rw [decide_eq_false (show ¬ (at_ : Int) + 1 < (((bytesOf S).size : Nat) : Int) by rw [by_size]; omega), cond_false]; rfl
  | cons z r =>
   have h2 := dp_tl hd
   have := dp_lt h2
   have hi := dp_in h2
   have hb := dp_at h2
   rw [show ((at_ + 1 : Nat) : Int) = (at_ : Int) + 1 by omega] at hi hb
   rw [decide_eq_true (show (at_ : Int) + 1 < (((bytesOf S).size : Nat) : Int) by rw [by_size]; omega), cond_true, dp_in hd, cond_true, dp_at hd, f_l6Letter (by omega)]
   simp only [evt]
   rw [decide_eq_true (show 0 ≤ (at_ : Int) + 1 by omega), hb, cond_true, bnd_cons]
   cases letB y with
   | false => rw [cond_false, if_neg (fun h => by cases h.1)]; rfl
   | true =>
    rw [cond_true]
    by_cases hz : z = 58
    ·subst hz; rw [if_pos ⟨rfl, rfl⟩]; rfl
    ·rw [if_neg (fun h => hz h.2), decide_eq_false (show ¬ (z.toNat : Int) = 58 from fun e => hz (byte_eq.1 (show (z.toNat : Int) = ((58 : UInt8).toNat : Int) from e)))]; rfl
theorem f_l1ParseL {n : Nat} {S r : List UInt8} {at_ : Nat} {y : UInt8} {d : Nat} (hn : 20 ≤ n) (hS : S.length ≤ 1099511627776) (hd : S.drop at_ = y :: r) (hd1 : 1 ≤ d) :
   (y = 42 → RP S (rdNum r) (FF n 52 [sr S, nt at_, nt d] [])) ∧ (y = 78 → RP S (some (.mk 6 0 [], r)) (FF n 52 [sr S, nt at_, nt d] [])) ∧ (y = 48 → RP S (some (.mk 7 0 [], r)) (FF n 52 [sr S, nt at_, nt d] [])) := by
 obtain ⟨n, rfl⟩ := pos_succ (show 0 < n by omega)
 have hlt := dp_lt hd
 have hw : IntKind.i64.wrap ((at_ : Int) + 1) = ((at_ + 1 : Nat) : Int) := by rw [wrap64 (by omega)]; omega
 have start : decide ((d : Int) < 1) = false ∧ decide ((at_ : Int) < 0) = false ∧ decide ((((bytesOf S).size : Nat) : Int) ≤ (at_ : Int)) = false := by
  rw [by_size]; simp only [decide_eq_false_iff_not]; omega
 refine ⟨fun h => ?_, fun h => ?_, fun h => ?_⟩ <;> subst h
 ·rw [E_spec_l1Parse, start.1, start.2.1, start.2.2, cond_false, cond_false, cond_false, dp_in hd, cond_true, dp_at hd, show decide ((((42 : UInt8).toNat : Nat) : Int) = 35) = false from rfl, cond_false, show decide ((((42 : UInt8).toNat : Nat) : Int) = 42) = true from rfl, cond_true, hw, f_l1Number (by omega) hS (by omega), dp_tl hd]
  cases r with
  | nil =>
   simp only [evt]
   rw [f_l1Leaf (by omega)]
   simp only [evt]
   exact RP.fail (t := .mk 2 0 []) rfl
  | cons x r =>
   have hd2 := dp_tl hd
   cases hx : digB x with
   | false =>
    simp only [hx, Bool.false_eq_true, if_false]
    simp only [evt]
    rw [f_l1Leaf (by omega)]
    simp only [evt]
    simp only [rdNum, hx, Bool.false_eq_true, false_and, if_false]
    exact RP.fail (t := .mk 2 0 []) rfl
   | true =>
    simp only [hx, if_true]
    simp only [evt]
    rw [f_l1Leaf (by omega)]
    simp only [evt]
    simp only [rdNum, hx, true_and]
    have := dp_lt hd2
    have h3 := dp_tl hd2
    by_cases hr : dhead r = false
    ·rw [if_pos hr]
     exact RP.ok (j := at_ + 1 + 1) rfl (by omega) h3.symm
    ·rw [if_neg hr]
     cases r with
     | nil => exact absurd rfl hr
     | cons z r => exact ⟨.mk 2 ((x.toNat : Int) - 48) [], _, rfl, .inr (.inr ⟨rfl, at_ + 1 + 1, z, r, rfl, h3, by simpa [dhead] using hr⟩)⟩
 ·rw [E_spec_l1Parse, start.1, start.2.1, start.2.2, cond_false, cond_false, cond_false, dp_in hd, cond_true, dp_at hd, show decide ((((78 : UInt8).toNat : Nat) : Int) = 35) = false from rfl, cond_false, show decide ((((78 : UInt8).toNat : Nat) : Int) = 42) = false from rfl, cond_false, show decide ((((78 : UInt8).toNat : Nat) : Int) = 78) = true from rfl, cond_true, hw, f_l1Leaf (by omega)]
  simp only [evt]
  exact RP.ok (j := at_ + 1) rfl (by omega) (dp_tl hd).symm
 ·rw [E_spec_l1Parse, start.1, start.2.1, start.2.2, cond_false, cond_false, cond_false, dp_in hd, cond_true, dp_at hd, show decide ((((48 : UInt8).toNat : Nat) : Int) = 35) = false from rfl, cond_false, show decide ((((48 : UInt8).toNat : Nat) : Int) = 42) = false from rfl, cond_false, show decide ((((48 : UInt8).toNat : Nat) : Int) = 78) = false from rfl, cond_false, show decide ((((48 : UInt8).toNat : Nat) : Int) = 48) = true from rfl, cond_true, hw, f_l1Leaf (by omega)]
  simp only [evt]
  exact RP.ok (j := at_ + 1) rfl (by omega) (dp_tl hd).symm
end Go.Proofs.YtnogehmgpfpjmaaGreatDoor
end
