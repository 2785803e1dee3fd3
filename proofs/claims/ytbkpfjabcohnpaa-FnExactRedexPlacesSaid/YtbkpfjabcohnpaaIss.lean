/- Rows of rows of numbers, each row on a block of its own; operations in regions that draw their order. No program in sight. -/
import Derived.Test.YtbkpfjabcohnpaaApr
import Derived.Test.YtbkpfjabcohnpaaDig
import Derived.Test.YtbkpfjabcohnpaaInts
set_option linter.unusedVariables false
set_option linter.unusedSimpArgs false
namespace Go.Dk
open Go
/-- A row of numbers and where it stands. -/
structure IR where
  a : Option Addr
  cap : Nat
  l : List Int
def IR.val (x : IR) : Value := .slice x.a x.l.length x.cap
def IR.cells (x : IR) : List Value := x.l.map (Value.int .i64 ·)
def IR.blocks (x : IR) : List Nat := match x.a with | some ad => [ad.block] | none => []
def IR.blocksL (xs : List IR) : List Nat := xs.flatMap IR.blocks
theorem IR.own_block {x : IR} {b : Nat} : x.val.ownBlock = some b ↔ b ∈ x.blocks := by
  obtain ⟨a, cap, l⟩ := x
  cases a <;> simp [IR.val, IR.blocks, Value.ownBlock, eq_comm]
theorem IR.mem_blocksL {b : Nat} {xs : List IR} : b ∈ IR.blocksL xs ↔ ∃ x ∈ xs, b ∈ x.blocks := by simp [IR.blocksL]
theorem IR.blocksL_append (xs ys : List IR) : IR.blocksL (xs ++ ys) = IR.blocksL xs ++ IR.blocksL ys := by simp [IR.blocksL]
def irR (E : TypeId) (x : IR) : Res := rowR E 1 x.val x.l.length x.cells
theorem irR_local (E : TypeId) (x : IR) : (irR E x).Local := rowR_local _ _ _ _ _
theorem irR_foot {E : TypeId} {x : IR} {b : Nat} : (irR E x).foot b ↔ b ∈ x.blocks := IR.own_block
theorem irR_iF {E : TypeId} {x : IR} {w : World} (h : (irR E x).own w) : iF x.a x.l (· ∈ x.blocks) w := fun i v hi => by
  obtain ⟨hl, h0 | ⟨g, cap, cur, hv, _, hg, hnc, _, hcs, htk⟩⟩ := h
  · have : x.l = [] := List.eq_nil_of_length_eq_zero h0.2
    rw [this] at hi; simp at hi
  · have ha : x.a = some ⟨g, 0, none⟩ := by unfold IR.val at hv; injection hv
    refine ⟨g, 0, ha, by simp [IR.blocks, ha], ?_⟩
    have : x.cells[i]? = some (.int .i64 v) := by simp [IR.cells, hi]
    rw [← htk, List.getElem?_take] at this
    split at this
    · simp only [World.cell?, hg, Nat.zero_add]
      simpa using this
    · cases this
theorem irR_lt {E : TypeId} {x : IR} {w : World} (h : (irR E x).own w) : ∀ b ∈ x.blocks, b < w.heap.size := fun b hb => by
  have h' : w.ownsRow 0 E 1 x.val x.l.length x.cells := h
  exact (World.ownsRow.lt h' b (IR.own_block.2 hb)).2
def irsR (E : TypeId) (xs : List IR) : Res := ⟨(· ∈ IR.blocksL xs), fun w => (∀ x ∈ xs, (irR E x).own w) ∧ (IR.blocksL xs).Nodup⟩
theorem irsR_local (E : TypeId) (xs : List IR) : (irsR E xs).Local := fun w w' h k =>
  ⟨fun x hx => irR_local E x w w' (fun b hb => h b (IR.mem_blocksL.2 ⟨x, hx, irR_foot.1 hb⟩)) (k.1 x hx), k.2⟩
theorem irsR_lt {E : TypeId} {xs : List IR} {w : World} (h : (irsR E xs).own w) : ∀ b ∈ IR.blocksL xs, b < w.heap.size := fun b hb => by
  obtain ⟨x, hx, hb⟩ := IR.mem_blocksL.1 hb
  exact irR_lt (h.1 x hx) b hb
theorem iF.mono {Z Z' : Zone} {w : World} {a : Option Addr} {l : List Int} (h : iF a l Z w) (hz : ∀ b, Z b → Z' b) : iF a l Z' w := fun i v hi => by
  obtain ⟨b, off, ha, hb, hc⟩ := h i v hi
  exact ⟨b, off, ha, hz b hb, hc⟩
/-- A row of rows of numbers at a place. -/
def issF (oa : Option Addr) (xs : List IR) : Fact := fun Z w => (∀ i x, xs[i]? = some x → ∃ b off, oa = some ⟨b, off, none⟩ ∧ Z b ∧ w.cell? ⟨b, off + i, none⟩ = some x.val) ∧ ∀ x ∈ xs, iF x.a x.l Z w
theorem issF_stable (oa : Option Addr) (xs : List IR) : Stable (issF oa xs) := fun Z Z' w w' hz h => by
  refine ⟨fun i x hi => ?_, fun x hx => iF_stable _ _ Z Z' w w' hz (h.2 x hx)⟩
  obtain ⟨b, off, ha, hb, hc⟩ := h.1 i x hi
  have hk := hz b hb (cell_lt hc)
  exact ⟨b, off, ha, hk.1, (cell_keep hk.2).trans hc⟩
theorem issF.any {Z : Zone} {w : World} {a : Option Addr} {xs : List IR} (h : issF a xs Z w) : issF a xs (fun _ => True) w :=
  ⟨fun i x hi => by obtain ⟨b, off, ha, _, hc⟩ := h.1 i x hi; exact ⟨b, off, ha, trivial, hc⟩, fun x hx => (h.2 x hx).any⟩
theorem issF_own {E1 E2 : TypeId} {oa : Option Addr} {n oc : Nat} {xs : List IR} {w : World} {Z : Zone} (h1 : (rowR E1 1 (.slice oa n oc) xs.length (xs.map IR.val)).own w) (h2 : (irsR E2 xs).own w)
    (hz1 : ∀ b, (Value.slice oa n oc).ownBlock = some b → Z b) (hz2 : ∀ b ∈ IR.blocksL xs, Z b) : issF oa xs Z w := by
  refine ⟨fun i x hi => ?_, fun x hx => (irR_iF (h2.1 x hx)).mono fun b hb => hz2 b (IR.mem_blocksL.2 ⟨x, hx, hb⟩)⟩
  obtain ⟨hl, h0 | ⟨g, cap, cur, hv, _, hg, hnc, _, hcs, htk⟩⟩ := h1
  · have : xs = [] := List.eq_nil_of_length_eq_zero h0.2
    rw [this] at hi; simp at hi
  · have ha : oa = some ⟨g, 0, none⟩ := by injection hv
    subst ha
    refine ⟨g, 0, rfl, hz1 g rfl, ?_⟩
    have : (xs.map IR.val)[i]? = some x.val := by simp [hi]
    rw [← htk, List.getElem?_take] at this
    split at this
    · simp only [World.cell?, hg, Nat.zero_add]
      simpa using this
    · cases this
/-- Both: the row and its rows. -/
def issR (E1 E2 : TypeId) (v : Value) (xs : List IR) : Res := ⟨fun b => v.ownBlock = some b ∨ b ∈ IR.blocksL xs, fun w => (rowR E1 1 v xs.length (xs.map IR.val)).own w ∧ (irsR E2 xs).own w ∧ ∀ b, v.ownBlock = some b → b ∉ IR.blocksL xs⟩
theorem issR_local (E1 E2 : TypeId) (v : Value) (xs : List IR) : (issR E1 E2 v xs).Local := fun w w' h k =>
  ⟨rowR_local E1 1 v _ _ w w' (fun b hb => h b (.inl hb)) k.1, irsR_local E2 xs w w' (fun b hb => h b (.inr hb)) k.2.1, k.2.2⟩
theorem issR_lt {E1 E2 : TypeId} {v : Value} {xs : List IR} {w : World} (h : (issR E1 E2 v xs).own w) : ∀ b, (issR E1 E2 v xs).foot b → b < w.heap.size := fun b hb => by
  rcases hb with hb | hb
  · exact (World.ownsRow.lt (show w.ownsRow 0 E1 1 v xs.length (xs.map IR.val) from h.1) b hb).2
  · exact irsR_lt h.2.1 b hb
theorem issR_F {E1 E2 : TypeId} {oa : Option Addr} {n oc : Nat} {xs : List IR} {w : World} (h : (issR E1 E2 (.slice oa n oc) xs).own w) : issF oa xs (fun _ => True) w := issF_own h.1 h.2.1 (fun _ _ => trivial) (fun _ _ => trivial)
structure OwnIr (w w' : World) (E : TypeId) (x : IR) : Prop where
  own : (irR E x).own w'
  new : ∀ b ∈ x.blocks, w.heap.size ≤ b
structure OwnIss (w w' : World) (E1 E2 : TypeId) (v : Value) (xs : List IR) : Prop where
  own : (issR E1 E2 v xs).own w'
  new : ∀ b, (issR E1 E2 v xs).foot b → w.heap.size ≤ b
section
variable {w0 w w' : World} {M Z0 : Zone} {L : List Res} {φ : Fact} {E E1 E2 : TypeId} {v : Value} {x : IR} {xs ys : List IR}
theorem St.pushIr (h : St w0 M Z0 L φ w) (hg : Grow w w') (ho : OwnIr w w' E x) : St w0 M Z0 (irR E x :: L) φ w' :=
  h.push hg (irR_local E x) ho.own (fun b hb => ⟨ho.new b (irR_foot.1 hb), irR_lt ho.own b (irR_foot.1 hb)⟩)
theorem St.pushIrs0 (E : TypeId) (h : St w0 M Z0 L φ w) : St w0 M Z0 (irsR E [] :: L) φ w :=
  h.push (Ext.refl _ _) (irsR_local E []) ⟨by simp, by simp [IR.blocksL]⟩ (by intro b hb; simp [irsR, IR.blocksL] at hb)
theorem St.snocIr (h : St w0 M Z0 (irR E x :: irsR E xs :: L) φ w) : St w0 M Z0 (irsR E (xs ++ [x]) :: L) φ w := by
  refine h.merge (irsR_local _ _) ?_ ?_
  · intro b hb
    have hb : b ∈ IR.blocksL (xs ++ [x]) := hb
    rw [IR.blocksL_append] at hb
    rcases List.mem_append.1 hb with hb | hb
    · exact .inr hb
    · exact .inl (irR_foot.2 (by simpa [IR.blocksL] using hb))
  · intro h1 h2 hd
    refine ⟨fun y hy => ?_, ?_⟩
    · rcases List.mem_append.1 hy with hy | hy
      · exact h2.1 y hy
      · rw [List.mem_singleton.1 hy]; exact h1
    · rw [IR.blocksL_append, List.nodup_append]
      refine ⟨h2.2, ?_, ?_⟩
      · obtain ⟨a, cap, l⟩ := x; cases a <;> simp [IR.blocksL, IR.blocks]
      · intro a ha b hb hab
        subst hab
        exact hd a (irR_foot.2 (by simpa [IR.blocksL] using hb)) ha
theorem St.joinIrs (h : St w0 M Z0 (irsR E xs :: irsR E ys :: L) φ w) : St w0 M Z0 (irsR E (xs ++ ys) :: L) φ w := by
  refine h.merge (irsR_local _ _) ?_ ?_
  · intro b hb
    have hb : b ∈ IR.blocksL (xs ++ ys) := hb
    rw [IR.blocksL_append] at hb
    exact List.mem_append.1 hb
  · intro h1 h2 hd
    refine ⟨fun y hy => ?_, ?_⟩
    · rcases List.mem_append.1 hy with hy | hy
      · exact h1.1 y hy
      · exact h2.1 y hy
    · rw [IR.blocksL_append, List.nodup_append]
      exact ⟨h1.2, h2.2, fun a ha b hb hab => hd a ha (hab ▸ hb)⟩
theorem St.cutIss (h : St w0 M Z0 (issR E1 E2 v xs :: L) φ w) : St w0 M Z0 (irsR E2 xs :: rowR E1 1 v xs.length (xs.map IR.val) :: L) φ w := by
  have ho : (issR E1 E2 v xs).own w := h.own _ (by simp)
  exact h.cut (irsR_local E2 xs) (rowR_local E1 1 v _ _) (fun b hb => .inr hb) (fun b hb => .inl hb) ho.2.1 ho.1 (fun b hb hb' => ho.2.2 b hb' hb)
theorem St.tieIss (h : St w0 M Z0 (irsR E2 xs :: rowR E1 1 v xs.length (xs.map IR.val) :: L) φ w) : St w0 M Z0 (issR E1 E2 v xs :: L) φ w := by
  refine h.merge (issR_local E1 E2 v xs) ?_ ?_
  · intro b hb
    exact Or.symm hb
  · intro h1 h2 hd
    exact ⟨h2, h1, fun b hb hb' => hd b hb' hb⟩
theorem St.pushIss (h : St w0 M Z0 L φ w) (hg : Grow w w') (ho : OwnIss w w' E1 E2 v xs) : St w0 M Z0 (irsR E2 xs :: rowR E1 1 v xs.length (xs.map IR.val) :: L) φ w' :=
  (h.push hg (issR_local E1 E2 v xs) ho.own (fun b hb => ⟨ho.new b hb, issR_lt ho.own b hb⟩)).cutIss
theorem St.pushIss1 (h : St w0 M Z0 L φ w) (hg : Grow w w') (ho : OwnIss w w' E1 E2 v xs) : St w0 M Z0 (issR E1 E2 v xs :: L) φ w' :=
  h.push hg (issR_local E1 E2 v xs) ho.own (fun b hb => ⟨ho.new b hb, issR_lt ho.own b hb⟩)
theorem St.reIss (h : St w0 M Z0 L φ w) {n : Nat} (hn : L[n]? = some (issR E1 E2 v xs)) (ho : (issR E1 E2 v ys).own w') (hb : IR.blocksL ys = IR.blocksL xs) (hx : Ext (issR E1 E2 v xs).foot w w') : St w0 M Z0 (L.set n (issR E1 E2 v ys)) φ w' :=
  h.upd hn hx (issR_local E1 E2 v ys) ho fun b hb' => ⟨.inl (by rcases hb' with h | h; exact .inl h; exact .inr (hb ▸ h)), issR_lt ho b hb'⟩
theorem St.outIss (h : St w0 noneZ Z0 (irsR E2 xs :: rowR E1 1 v xs.length (xs.map IR.val) :: L) φ w) : OwnIss w0 w E1 E2 v xs := by
  have h' := h.tieIss
  exact ⟨h'.own _ (by simp), fun b hb => ((h'.key _ (by simp) b hb).1).resolve_left (fun h => h)⟩
/-- A call has turned both. -/
theorem St.updIss {v' : Value} {xs' : List IR} (h : St w0 M Z0 (irsR E2 xs :: rowR E1 1 v xs.length (xs.map IR.val) :: L) φ w) (hx : Ext (issR E1 E2 v xs).foot w w') (ho : (issR E1 E2 v' xs').own w')
    (hf : ∀ b, (issR E1 E2 v' xs').foot b → (issR E1 E2 v xs).foot b ∨ w.heap.size ≤ b) : St w0 M Z0 (irsR E2 xs' :: rowR E1 1 v' xs'.length (xs'.map IR.val) :: L) φ w' :=
  (h.tieIss.upd (n := 0) rfl hx (issR_local E1 E2 v' xs') ho (fun b hb => ⟨hf b hb, issR_lt ho b hb⟩)).cutIss
end

/-! Operations in regions that draw their order: what is known of the world stays the less that was known ahead. -/
section
variable {P : Program} {ops : Array Oper} {Q : Exit → Act → World → Prop} {dr : Bool} {fu k : Nat} {rest : List (Nat × Oper)} {a : Act} {w w0 : World} {M Z0 : Zone} {L : List Res} {φ : Fact} {S : World → Prop}
  {d : Option Tmp} {ty : TypeId} {pos : String} {aft : Array Edge} {gd : Option (Nat × Bool)} {x y : Operand} {t t' : TypeId}
theorem T_duo2 {o o' : Oper} (p : Nat) {kk : Nat} (hp : rest[p]? = some (kk, o')) (hd : duoB ops ((k, o) :: rest) k o kk o' = true) (h1 : wpD P ops Q fu S o rest a w) (h2 : wpD P ops Q fu S o' ((k, o) :: rest.eraseIdx p) a w) :
    wpT P ops Q true (fu + 1) S ((k, o) :: rest) a w := .inr (.inr ⟨rfl, p, (kk, o'), hp, hd, h1, h2⟩)
theorem run_bsl {n sz e : Nat} {ps : List (Nat × Operand)} {vs cs : List Value} (he : elemT P t = some e ∧ (P.info? e).map (·.size) = some sz ∧ (zeroB P e).isSome = true)
    (hix : ps.map (·.1) = List.range' 0 ps.length) (hvs : ps.map (fun p => a.eval p.2) = vs) (hn : ps.length = n) (hsz : vs.all (fun v => v.cells.size == sz) = true) (hb : n * sz ≤ 16777216) (hcs : flatC vs = cs) :
    (execOp a.eval ⟨d, .buildSlice t n ps.toArray, ty, pos, aft, gd⟩).run P w = .ok (.value (.slice (some ⟨w.heap.size, 0, none⟩) n n)) (w.alloc (.cells cs.toArray e (0, 0))) := by
  obtain ⟨he, hz, hzero⟩ := he
  have hps : ps.map (fun p => (p.1, a.eval p.2)) = partsFrom 0 vs := by rw [partsFrom_map a.eval ps 0 hix, hvs]
  have hn' : vs.length = n := by rw [← hvs, ← hn]; simp
  have hsz' : ∀ v ∈ vs, v.cells.size = sz := by simpa using hsz
  unfold elemT at he
  split at he
  · rename_i e' hu
    obtain rfl := Option.some.inj he
    cases hi : P.info? e' with
    | none => simp [hi] at hz
    | some i =>
      simp only [hi, Option.map_some, Option.some.injEq] at hz
      have hlim : ¬ (n * i.size > 2 ^ 24) := by rw [hz]; simpa using hb
      have hparts : ((ps.toArray.map fun (p : Nat × Operand) => (p.1, a.eval p.2)).toList) = partsFrom 0 vs := by simpa using hps
      have key : ∀ zero : Array Value, Instr.fill (fun j => some (j * i.size, i.size)) ((Array.range (n * i.size)).map (zero[· % zero.size]!)) ((ps.toArray.map fun (p : Nat × Operand) => (p.1, a.eval p.2)).toList) = some cs.toArray := by
        intro zero
        obtain ⟨B, hB, hl⟩ := fill_parts i.size vs 0 ((Array.range (n * i.size)).map (zero[· % zero.size]!)) (by rw [hz]; exact hsz') (by simp [hn'])
        have hBcs : B = cs.toArray := by
          apply Array.toList_inj.1
          rw [hl, Nat.zero_mul, putL_all _ _ (by rw [flatC_length i.size vs (by rw [hz]; exact hsz')]; simp [hn']), hcs]
        rw [hparts, hB, hBcs]
      simp only [execOp, Instr.buildSlice, Sem.run_bind, run_underlying hu, Result.andThen_ok, run_sizeOf hi, if_neg hlim]
      by_cases h0 : n * i.size = 0
      · rw [if_pos h0]
        simp only [Sem.run_bind, Sem.run_pure, Result.andThen_ok, key, newRow, newObj, Sem.run]
        rfl
      · rw [if_neg h0]
        unfold zeroB at hzero
        simp only [hi] at hzero
        cases hzz : i.zero with
        | none => simp [hzz] at hzero
        | some z =>
          have hzv : (zeroValue e').run P w = .ok z w := by
            simp only [zeroValue, Sem.run_bind, run_typeInfo hi, Result.andThen_ok, hzz, Sem.run_pure]
          simp only [Sem.run_bind, hzv, Sem.run_pure, Result.andThen_ok, key, newRow, newObj, Sem.run]
          rfl
  · cases he
/-- A slice literal. -/
theorem E2 {n sz e : Nat} {ps : List (Nat × Operand)} {vs cs : List Value} [he : EB P t e sz] (hw : St w0 M Z0 L φ w) (hS : ∀ w, St w0 M Z0 L φ w → S w)
    (hg : Region.wanted ⟨d, .buildSlice t n ps.toArray, ty, pos, aft, gd⟩ (yielded ops a.tmps) = true)
    (hd : (!dr || soleB ops ((k, ⟨d, .buildSlice t n ps.toArray, ty, pos, aft, gd⟩) :: rest) k ⟨d, .buildSlice t n ps.toArray, ty, pos, aft, gd⟩) = true)
    (hvs : ps.map (fun p => a.eval p.2) = vs) (hcs : flatC vs = cs) (hix : (ps.map (·.1) == List.range' 0 ps.length) = true) (hn : ps.length = n) (hsz : vs.all (fun v => v.cells.size == sz) = true) (hb : Nat.ble (n * sz) 16777216 = true)
    (h : ∀ b w', St w0 M Z0 (blk b cs e :: L) φ w' → wpT P ops Q dr fu S rest (a.put d (.slice (some ⟨b, 0, none⟩) n n)) w') :
    wpT P ops Q dr (fu + 1) S ((k, ⟨d, .buildSlice t n ps.toArray, ty, pos, aft, gd⟩) :: rest) a w := by
  have hs := hw.alloc cs e
  exact T_go hd hg (run_bsl he.out (by simpa using hix) hvs hn hsz (Nat.le_of_ble_eq_true hb) hcs) (fun _ _ h => h) (hS _ hs.tail) (h _ _ hs)
theorem E2d {n sz e : Nat} {ps : List (Nat × Operand)} {vs cs : List Value} [he : EB P t e sz] (hw : St w0 M Z0 L φ w) (hS : ∀ w, St w0 M Z0 L φ w → S w)
    (hg : Region.wanted ⟨d, .buildSlice t n ps.toArray, ty, pos, aft, gd⟩ (yielded ops a.tmps) = true)
    (hvs : ps.map (fun p => a.eval p.2) = vs) (hcs : flatC vs = cs) (hix : (ps.map (·.1) == List.range' 0 ps.length) = true) (hn : ps.length = n) (hsz : vs.all (fun v => v.cells.size == sz) = true) (hb : Nat.ble (n * sz) 16777216 = true)
    (h : ∀ b w', St w0 M Z0 (blk b cs e :: L) φ w' → wpT P ops Q true fu S rest (a.put d (.slice (some ⟨b, 0, none⟩) n n)) w') :
    wpD P ops Q fu S ⟨d, .buildSlice t n ps.toArray, ty, pos, aft, gd⟩ rest a w := by
  have hs := hw.alloc cs e
  unfold wpD wpO
  rw [if_pos hg]
  refine .inl ?_
  simp only [Oper.wp, run_bsl (w := w) (d := d) (ty := ty) (pos := pos) (aft := aft) (gd := gd) he.out (by simpa using hix) hvs hn hsz (Nat.le_of_ble_eq_true hb) hcs, Oper.upon]
  exact ⟨S, fun _ h => h, hS _ hs.tail, h _ _ hs⟩
/-- append onto a row of the call's own. -/
theorem append_at {e sz by_ i n m c : Nat} {v : Value} {ad : Addr} {xs news : List Value} [hp : AP P t e sz by_] (hw : St w0 M Z0 L φ w)
    (hx : a.eval x = v) (hy : a.eval y = .slice (some ad) m c) (hi : L[i]? = some (rowR e sz v n xs)) (hl : news.length = m * sz)
    (hnews : ∀ j u, news[j]? = some u → w.cell? (ad.add j) = some u) (h1 : news.all (·.oneCell') = true) (hbytes : (n + m) * by_ ≤ 140737488355328) (h63 : n + m ≤ 9223372036854775807) :
    ∃ a' c' w', (execOp a.eval ⟨d, .call ⟨.builtin .append, #[x, y], #[t, t]⟩, ty, pos, aft, gd⟩).run P w = .ok (.value (.slice a' (n + m) c')) w' ∧ St w0 M Z0 (L.set i (rowR e sz (.slice a' (n + m) c') (n + m) (xs ++ news))) φ w' := by
  have hown : w.ownsRow 0 e sz v n xs := hw.own _ (List.mem_of_getElem? hi)
  obtain ⟨v', w', hr, ho, hgb, hfb⟩ := run_append_row (P := P) w t ty hp.out v n xs hown ad m c news hl hnews (by simpa using h1) hbytes h63
  have hs : St w0 M Z0 (L.set i (rowR e sz v' (n + m) (xs ++ news))) φ w' := hw.upd hi (grownBy_ext hgb) (rowR_local e sz v' _ _) ho (fun b hb => ⟨hfb b hb, (ho.lt b hb).2⟩)
  obtain ⟨a', c', rfl⟩ : ∃ a' c', v' = .slice a' (n + m) c' := by
    rcases ho.2 with ⟨rfl, h0⟩ | ⟨g, cap, cur, rfl, _⟩
    · exact ⟨_, _, by rw [h0]⟩
    · exact ⟨_, _, rfl⟩
  refine ⟨a', c', w', ?_, hs⟩
  unfold execOp
  simp only [resolve, invoke, builtin, Sem.run_bind, Sem.run_pure, Result.andThen_ok, List.map_toArray, List.map_cons, List.map_nil, hx, hy, hr]
theorem E3 {e sz by_ i n m c : Nat} {v : Value} {ad : Addr} {xs news : List Value} [hp : AP P t e sz by_] (hw : St w0 M Z0 L φ w) (hS : ∀ a' c' w, St w0 M Z0 (L.set i (rowR e sz (.slice a' (n + m) c') (n + m) (xs ++ news))) φ w → S w)
    (hg : Region.wanted ⟨d, .call ⟨.builtin .append, #[x, y], #[t, t]⟩, ty, pos, aft, gd⟩ (yielded ops a.tmps) = true)
    (hd : (!dr || soleB ops ((k, ⟨d, .call ⟨.builtin .append, #[x, y], #[t, t]⟩, ty, pos, aft, gd⟩) :: rest) k ⟨d, .call ⟨.builtin .append, #[x, y], #[t, t]⟩, ty, pos, aft, gd⟩) = true)
    (hx : a.eval x = v) (hy : a.eval y = .slice (some ad) m c) (hi : L[i]? = some (rowR e sz v n xs)) (hl : news.length = m * sz)
    (hnews : ∀ j u, news[j]? = some u → w.cell? (ad.add j) = some u) (h1 : news.all (·.oneCell') = true) (hbytes : (n + m) * by_ ≤ 140737488355328) (h63 : n + m ≤ 9223372036854775807)
    (h : ∀ a' c' w', St w0 M Z0 (L.set i (rowR e sz (.slice a' (n + m) c') (n + m) (xs ++ news))) φ w' → wpT P ops Q dr fu S rest (a.put d (.slice a' (n + m) c')) w') :
    wpT P ops Q dr (fu + 1) S ((k, ⟨d, .call ⟨.builtin .append, #[x, y], #[t, t]⟩, ty, pos, aft, gd⟩) :: rest) a w := by
  obtain ⟨a', c', w', hr, hs⟩ := append_at (P := P) (t := t) (d := d) (ty := ty) (pos := pos) (aft := aft) (gd := gd) hw hx hy hi hl hnews h1 hbytes h63
  exact T_go hd hg hr (fun _ _ h => h) (hS _ _ _ hs) (h _ _ _ hs)
theorem E3d {e sz by_ i n m c : Nat} {v : Value} {ad : Addr} {xs news : List Value} [hp : AP P t e sz by_] (hw : St w0 M Z0 L φ w) (hS : ∀ a' c' w, St w0 M Z0 (L.set i (rowR e sz (.slice a' (n + m) c') (n + m) (xs ++ news))) φ w → S w)
    (hg : Region.wanted ⟨d, .call ⟨.builtin .append, #[x, y], #[t, t]⟩, ty, pos, aft, gd⟩ (yielded ops a.tmps) = true)
    (hx : a.eval x = v) (hy : a.eval y = .slice (some ad) m c) (hi : L[i]? = some (rowR e sz v n xs)) (hl : news.length = m * sz)
    (hnews : ∀ j u, news[j]? = some u → w.cell? (ad.add j) = some u) (h1 : news.all (·.oneCell') = true) (hbytes : (n + m) * by_ ≤ 140737488355328) (h63 : n + m ≤ 9223372036854775807)
    (h : ∀ a' c' w', St w0 M Z0 (L.set i (rowR e sz (.slice a' (n + m) c') (n + m) (xs ++ news))) φ w' → wpT P ops Q true fu S rest (a.put d (.slice a' (n + m) c')) w') :
    wpD P ops Q fu S ⟨d, .call ⟨.builtin .append, #[x, y], #[t, t]⟩, ty, pos, aft, gd⟩ rest a w := by
  obtain ⟨a', c', w', hr, hs⟩ := append_at (P := P) (t := t) (d := d) (ty := ty) (pos := pos) (aft := aft) (gd := gd) hw hx hy hi hl hnews h1 hbytes h63
  unfold wpD wpO
  rw [if_pos hg]
  refine .inl ?_
  simp only [Oper.wp, hr, Oper.upon]
  exact ⟨S, fun _ h => h, hS _ _ _ hs, h _ _ _ hs⟩
/-- Is a slice nil. -/
theorem N0 {a1 : Option Addr} {n c : Nat} (hw : S w) (hg : Region.wanted ⟨d, .binOp .eql t x (.const (.slice none 0 0)) t', ty, pos, aft, gd⟩ (yielded ops a.tmps) = true)
    (hd : (!dr || soleB ops ((k, ⟨d, .binOp .eql t x (.const (.slice none 0 0)) t', ty, pos, aft, gd⟩) :: rest) k ⟨d, .binOp .eql t x (.const (.slice none 0 0)) t', ty, pos, aft, gd⟩) = true)
    (hk : (Go.Ab.kindS P t).isSome = true) (hx : a.eval x = .slice a1 n c)
    (h : wpT P ops Q dr fu S rest (a.put d (.bool a1.isNone)) w) : wpT P ops Q dr (fu + 1) S ((k, ⟨d, .binOp .eql t x (.const (.slice none 0 0)) t', ty, pos, aft, gd⟩) :: rest) a w :=
  T_go hd hg (Go.Ab.Y_nilEq (o := ⟨d, .binOp .eql t x (.const (.slice none 0 0)) t', ty, pos, aft, gd⟩) rfl hk hx rfl) (fun _ _ h => h) hw h
end
end Go.Dk
