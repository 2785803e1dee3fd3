/- append onto a row of the call's own, in walks. No program in sight. -/
import Derived.Test.YtbkpfjabcohnpaaTree
set_option linter.unusedVariables false
set_option linter.unusedSimpArgs false
namespace Go.Dk
open Go
section
variable {P : Program} {ops : Array Oper} {Q : Exit → Act → World → Prop} {dr : Bool} {fu k : Nat} {rest : List (Nat × Oper)} {a : Act} {w w0 : World} {M Z0 : Zone} {L : List Res} {φ : Fact}
  {d : Option Tmp} {ty : TypeId} {pos : String} {aft : Array Edge} {gd : Option (Nat × Bool)} {x y : Operand} {t t' : TypeId}
/-- append onto a row of the call's own, of what another row holds. -/
theorem A0 {S : World → Prop} {e sz by_ i n m c : Nat} {v : Value} {ad : Addr} {xs news : List Value} [hp : AP P t e sz by_] (hw : St w0 M Z0 L φ w)
    (hg : Region.wanted ⟨d, .call ⟨.builtin .append, #[x, y], #[t, t]⟩, ty, pos, aft, gd⟩ (yielded ops a.tmps) = true)
    (hd : (!dr || (soleB ops ((k, ⟨d, .call ⟨.builtin .append, #[x, y], #[t, t]⟩, ty, pos, aft, gd⟩) :: rest) k ⟨d, .call ⟨.builtin .append, #[x, y], #[t, t]⟩, ty, pos, aft, gd⟩ && covB ops ((k, ⟨d, .call ⟨.builtin .append, #[x, y], #[t, t]⟩, ty, pos, aft, gd⟩) :: rest) ⟨d, .call ⟨.builtin .append, #[x, y], #[t, t]⟩, ty, pos, aft, gd⟩)) = true)
    (hx : a.eval x = v) (hy : a.eval y = .slice (some ad) m c) (hi : L[i]? = some (rowR e sz v n xs)) (hl : news.length = m * sz)
    (hnews : ∀ j u, news[j]? = some u → w.cell? (ad.add j) = some u) (h1 : news.all (·.oneCell') = true) (hbytes : (n + m) * by_ ≤ 140737488355328) (h63 : n + m ≤ 9223372036854775807)
    (h : ∀ a' c' w', St w0 M Z0 (L.set i (rowR e sz (.slice a' (n + m) c') (n + m) (xs ++ news))) φ w' → wpT P ops Q dr fu (St w0 M Z0 (L.set i (rowR e sz (.slice a' (n + m) c') (n + m) (xs ++ news))) φ) rest (a.put d (.slice a' (n + m) c')) w') :
    wpT P ops Q dr (fu + 1) S ((k, ⟨d, .call ⟨.builtin .append, #[x, y], #[t, t]⟩, ty, pos, aft, gd⟩) :: rest) a w := by
  have hown : w.ownsRow 0 e sz v n xs := hw.own _ (List.mem_of_getElem? hi)
  obtain ⟨v', w', hr, ho, hgb, hfb⟩ := run_append_row (P := P) w t ty hp.out v n xs hown ad m c news hl hnews (by simpa using h1) hbytes h63
  have hs : St w0 M Z0 (L.set i (rowR e sz v' (n + m) (xs ++ news))) φ w' := hw.upd hi (grownBy_ext hgb) (rowR_local e sz v' _ _) ho (fun b hb => ⟨hfb b hb, (ho.lt b hb).2⟩)
  obtain ⟨a', c', rfl⟩ : ∃ a' c', v' = .slice a' (n + m) c' := by
    rcases ho.2 with ⟨rfl, h0⟩ | ⟨g, cap, cur, rfl, _⟩
    · exact ⟨_, _, by rw [h0]⟩
    · exact ⟨_, _, rfl⟩
  refine T_goC (v := .slice a' (n + m) c') (w' := w') hd hg ?_ hs (h _ _ _ hs)
  have hev : (#[x, y] : Array Operand).map a.eval = #[v, .slice (some ad) m c] := by simp [hx, hy]
  unfold execOp
  simp only [resolve, invoke, builtin, Sem.run_bind, Sem.run_pure, Result.andThen_ok, List.map_toArray, List.map_cons, List.map_nil, hx, hy, hr]
/-- The same, of a block of the call's own. -/
theorem A1 {S : World → Prop} {e sz by_ i p sb n m c : Nat} {v : Value} {xs news : List Value} [hp : AP P t e sz by_] (hw : St w0 M Z0 L φ w)
    (hg : Region.wanted ⟨d, .call ⟨.builtin .append, #[x, y], #[t, t]⟩, ty, pos, aft, gd⟩ (yielded ops a.tmps) = true)
    (hd : (!dr || (soleB ops ((k, ⟨d, .call ⟨.builtin .append, #[x, y], #[t, t]⟩, ty, pos, aft, gd⟩) :: rest) k ⟨d, .call ⟨.builtin .append, #[x, y], #[t, t]⟩, ty, pos, aft, gd⟩ && covB ops ((k, ⟨d, .call ⟨.builtin .append, #[x, y], #[t, t]⟩, ty, pos, aft, gd⟩) :: rest) ⟨d, .call ⟨.builtin .append, #[x, y], #[t, t]⟩, ty, pos, aft, gd⟩)) = true)
    (hx : a.eval x = v) (hy : a.eval y = .slice (some ⟨sb, 0, none⟩) m c) (hi : L[i]? = some (rowR e sz v n xs)) (hq : L[p]? = some (blk sb news e)) (hl : news.length = m * sz)
    (h1 : news.all (·.oneCell') = true) (hbytes : (n + m) * by_ ≤ 140737488355328) (h63 : n + m ≤ 9223372036854775807)
    (h : ∀ a' c' w', St w0 M Z0 (L.set i (rowR e sz (.slice a' (n + m) c') (n + m) (xs ++ news))) φ w' → wpT P ops Q dr fu (St w0 M Z0 (L.set i (rowR e sz (.slice a' (n + m) c') (n + m) (xs ++ news))) φ) rest (a.put d (.slice a' (n + m) c')) w') :
    wpT P ops Q dr (fu + 1) S ((k, ⟨d, .call ⟨.builtin .append, #[x, y], #[t, t]⟩, ty, pos, aft, gd⟩) :: rest) a w :=
  A0 hw hg hd hx hy hi hl (fun j u hj => by rw [addr_add, Nat.zero_add]; exact hw.cell hq hj) h1 hbytes h63 h
theorem Y_min {S : World → Prop} {ρ : Operand → Value} {p q : Int} {tys : Array TypeId} (hx : ρ x = .int .i64 p) (hy : ρ y = .int .i64 q) : Yld P S ρ ⟨d, .call ⟨.builtin .min, #[x, y], tys⟩, ty, pos, aft, gd⟩ (.int .i64 (min p q)) := .mk fun w _ => by
  simp [execOp, resolve, invoke, builtin, Builtin.min_, Builtin.min2, hx, hy, Sem.run_bind, Sem.run_pure, Int.min_def]
  split <;> split <;> first | rfl | omega
/-- A call behind all that have come up: what is known of the world may change. -/
theorem C2 {f : FuncId} {xs : List Operand} {ats : Array TypeId} {vs : List Value} {R : Ending → World → Prop} {S : World → Prop} [hf : CB P f]
    (hg : Region.wanted ⟨d, .call ⟨.value (.func f), xs.toArray, ats⟩, ty, pos, aft, gd⟩ (yielded ops a.tmps) = true) (hd : (!dr || (soleB ops ((k, ⟨d, .call ⟨.value (.func f), xs.toArray, ats⟩, ty, pos, aft, gd⟩) :: rest) k ⟨d, .call ⟨.value (.func f), xs.toArray, ats⟩, ty, pos, aft, gd⟩ && covB ops ((k, ⟨d, .call ⟨.value (.func f), xs.toArray, ats⟩, ty, pos, aft, gd⟩) :: rest) ⟨d, .call ⟨.value (.func f), xs.toArray, ats⟩, ty, pos, aft, gd⟩)) = true)
    (hxs : xs.map a.eval = vs) (hc : Calls P f vs.toArray w R)
    (h : ∀ e w', R e w' → ∃ v, e = .returned v ∧ ∃ S' : World → Prop, S' w' ∧ wpT P ops Q dr fu S' rest (a.put d v) w') :
    wpT P ops Q dr (fu + 1) S ((k, ⟨d, .call ⟨.value (.func f), xs.toArray, ats⟩, ty, pos, aft, gd⟩) :: rest) a w := .inr (.inl ⟨by cases dr <;> simp_all, by
  unfold wpO; rw [if_pos hg]; refine .inl ?_
  have hx : (execOp a.eval ⟨d, .call ⟨.value (.func f), xs.toArray, ats⟩, ty, pos, aft, gd⟩).run P w = .ok (.enter f vs.toArray) w := by
    rw [run_call_op (first := #[]) (cap := #[]) rfl hf.out, ← hxs]
    simp
  simp only [Oper.wp, hx, Oper.upon]
  refine hc.mono fun e w' hr => ?_
  obtain ⟨v, rfl, S', h1, h2⟩ := h e w' hr
  exact ⟨S', fun e => .inl (by subst e; simp_all), h1, h2⟩⟩)
/-- min, at its place. -/
theorem K0 {p q : Int} {tys : Array TypeId} (hw : St w0 M Z0 L φ w) (hg : Region.wanted ⟨d, .call ⟨.builtin .min, #[x, y], tys⟩, ty, pos, aft, gd⟩ (yielded ops a.tmps) = true)
    (hd : (!dr || soleB ops ((k, ⟨d, .call ⟨.builtin .min, #[x, y], tys⟩, ty, pos, aft, gd⟩) :: rest) k ⟨d, .call ⟨.builtin .min, #[x, y], tys⟩, ty, pos, aft, gd⟩) = true) (hx : a.eval x = .int .i64 p) (hy : a.eval y = .int .i64 q)
    (h : wpT P ops Q dr fu (St w0 M Z0 L φ) rest (a.put d (.int .i64 (min p q))) w) : wpT P ops Q dr (fu + 1) (St w0 M Z0 L φ) ((k, ⟨d, .call ⟨.builtin .min, #[x, y], tys⟩, ty, pos, aft, gd⟩) :: rest) a w :=
  T_y' hw hd hg (Y_min hx hy) h
/-- One of two operations that may come up, in a region that draws its order. -/
def wpD (P : Program) (ops : Array Oper) (Q : Exit → Act → World → Prop) (fu : Nat) (S : World → Prop) (o : Oper) (rest : List (Nat × Oper)) (a : Act) (w : World) : Prop :=
  wpO P ops Q o (fun a' w' => ∃ S' : World → Prop, (∀ w, S' w → S w) ∧ S' w' ∧ wpT P ops Q true fu S' rest a' w') a w
theorem T_duo {S : World → Prop} {o : Oper} (p : Nat) {kk : Nat} (hp : rest[p]? = some (kk, ⟨d, .alloc t, ty, pos, aft, gd⟩)) (hd : duoB ops ((k, o) :: rest) k o kk ⟨d, .alloc t, ty, pos, aft, gd⟩ = true) (h1 : wpD P ops Q fu S o rest a w) (h2 : wpD P ops Q fu S ⟨d, .alloc t, ty, pos, aft, gd⟩ ((k, o) :: rest.eraseIdx p) a w) :
    wpT P ops Q true (fu + 1) S ((k, o) :: rest) a w := .inr (.inr ⟨rfl, p, (kk, ⟨d, .alloc t, ty, pos, aft, gd⟩), hp, hd, h1, h2⟩)
theorem B4 {cs : List Value} [hz : ZR P t cs] (hw : St w0 M Z0 L φ w) (hg : Region.wanted ⟨d, .alloc t, ty, pos, aft, gd⟩ (yielded ops a.tmps) = true)
    (h : ∀ b w', St w0 M Z0 (blk b cs t :: L) φ w' → wpT P ops Q true fu (St w0 M Z0 (blk b cs t :: L) φ) rest (a.put d (.pointer (some ⟨b, 0, none⟩))) w') : wpD P ops Q fu (St w0 M Z0 L φ) ⟨d, .alloc t, ty, pos, aft, gd⟩ rest a w := by
  have hs := hw.alloc cs t
  have hzz := hz.out
  have hx : (execOp a.eval ⟨d, .alloc t, ty, pos, aft, gd⟩).run P w = .ok (.value (.pointer (some ⟨w.heap.size, 0, none⟩))) (w.alloc (.cells cs.toArray t (0, 0))) := by
    unfold zeroB at hzz
    split at hzz
    · rename_i i hi
      split at hzz
      · rename_i z hz0
        obtain rfl := Option.some.inj hzz
        have hzv : (zeroValue t).run P w = .ok z w := by
          simp only [zeroValue, Sem.run_bind, run_typeInfo hi, Result.andThen_ok, hz0, Sem.run_pure]
        simp only [execOp, Instr.alloc, Sem.run_bind, hzv, run_newVar, Result.andThen_ok, Sem.run_pure, Array.toArray_toList]
      · cases hzz
    · cases hzz
  unfold wpD wpO
  rw [if_pos hg]
  refine .inl ?_
  simp only [Oper.wp, hx, Oper.upon]
  exact ⟨_, fun _ h => h.tail, hs, h _ _ hs⟩
theorem C3 {f : FuncId} {xs : List Operand} {ats : Array TypeId} {vs : List Value} {R : Ending → World → Prop} {S : World → Prop} [hf : CB P f]
    (hg : Region.wanted ⟨d, .call ⟨.value (.func f), xs.toArray, ats⟩, ty, pos, aft, gd⟩ (yielded ops a.tmps) = true) (hxs : xs.map a.eval = vs) (hc : Calls P f vs.toArray w R)
    (h : ∀ e w', R e w' → ∃ v, e = .returned v ∧ ∃ S' : World → Prop, (∀ w, S' w → S w) ∧ S' w' ∧ wpT P ops Q true fu S' rest (a.put d v) w') : wpD P ops Q fu S ⟨d, .call ⟨.value (.func f), xs.toArray, ats⟩, ty, pos, aft, gd⟩ rest a w := by
  unfold wpD wpO
  rw [if_pos hg]; refine .inl ?_
  have hx : (execOp a.eval ⟨d, .call ⟨.value (.func f), xs.toArray, ats⟩, ty, pos, aft, gd⟩).run P w = .ok (.enter f vs.toArray) w := by
    rw [run_call_op (first := #[]) (cap := #[]) rfl hf.out, ← hxs]
    simp
  simp only [Oper.wp, hx, Oper.upon]
  refine hc.mono fun e w' hr => ?_
  obtain ⟨v, rfl, S', h1, h2⟩ := h e w' hr
  exact ⟨S', h1, h2⟩
end
end Go.Dk
namespace Go.Dk
open Go
/-- Ways that come together: what is known at their end is said once. -/
theorem merge3 {G : Prop} {Q : Exit → Act → World → Prop} {F : HT → HT → HT → Nat → Act} {w0 : World} {M Z0 : Zone} {L : List Res} {E : TypeId} (Φ : HT → HT → HT → Fact) (p : HT → HT → HT → Prop)
    (h1 : (∀ a b c ax w', p a b c → St w0 M Z0 (blk ax [.int .i64 c.k, .int .i64 c.n, .slice c.a c.kids.length c.cap] E :: L) (Φ a b c) w' → Q .normal (F a b c ax) w') → G)
    (h2 : ∀ a b c ax w', p a b c → St w0 M Z0 (blk ax [.int .i64 c.k, .int .i64 c.n, .slice c.a c.kids.length c.cap] E :: L) (Φ a b c) w' → Q .normal (F a b c ax) w') : G := h1 h2
theorem merge4 {G : Prop} {Q : Exit → Act → World → Prop} {F : HT → Nat → HT → HT → Nat → Act} {w0 : World} {M Z0 : Zone} {L : List Res} {E : TypeId} (Φ : HT → Nat → HT → HT → Fact) (p : HT → Nat → HT → HT → Prop)
    (h1 : (∀ a n b c ax w', p a n b c → St w0 M Z0 (blk ax [.int .i64 c.k, .int .i64 c.n, .slice c.a c.kids.length c.cap] E :: L) (Φ a n b c) w' → Q .normal (F a n b c ax) w') → G)
    (h2 : ∀ a n b c ax w', p a n b c → St w0 M Z0 (blk ax [.int .i64 c.k, .int .i64 c.n, .slice c.a c.kids.length c.cap] E :: L) (Φ a n b c) w' → Q .normal (F a n b c ax) w') : G := h1 h2
end Go.Dk
