/- Drawn regions are sound: any order comes to the same. No program in sight. -/
import Derived.Test.YthjbllfcelkajaaDrC
set_option linter.unusedVariables false
set_option linter.unusedSimpArgs false
namespace Go.Ab
open Go Go.Dk

theorem meets_out {a b : List Nat} (h : meets a b = false) {j : Nat} (hj : j ∈ a) : j ∉ b := fun hb => by
  simp only [meets, List.any_eq_false] at h
  exact h j hj (hasN_iff.2 hb)
theorem earlierB_out {ops : List Oper} {anc : List Nat} {i : Nat} {o : Oper} : ∀ {l : List Oper} {k : Nat}, earlierB ops anc i o l k = true → ∀ p x, l[p]? = some x → k + p < i → hasN (k + p) anc = true ∨ apartT ops x o = true
  | [], k, h, p, x, hx, hp => by simp at hx
  | y :: l, k, h, p, x, hx, hp => by
    unfold earlierB at h
    have : Nat.blt k i = true := by rw [Nat.blt_eq]; omega
    rw [this, cond_true, Bool.and_eq_true, Bool.or_eq_true] at h
    cases p with
    | zero => simp only [List.getElem?_cons_zero, Option.some.injEq] at hx; subst hx; exact h.1
    | succ p =>
      have := earlierB_out h.2 p x (by simpa using hx) (by omega)
      rw [show k + (p + 1) = k + 1 + p by omega]; exact this
theorem drawB_out {ops : List Oper} {an : List (List Nat)} : ∀ {l : List Oper} {i : Nat}, drawB ops an l i = true → ∀ p o, l[p]? = some o → plainB o = true ∧ edgesB an (i + p) o = true ∧ earlierB ops (an.getD (i + p) []) (i + p) o ops 0 = true
  | [], i, h, p, o, ho => by simp at ho
  | y :: l, i, h, p, o, ho => by
    unfold drawB at h
    simp only [Bool.and_eq_true] at h
    cases p with
    | zero => simp only [List.getElem?_cons_zero, Option.some.injEq] at ho; subst ho; exact ⟨h.1, h.2.1, h.2.2.1⟩
    | succ p =>
      have := drawB_out h.2.2.2 p o (by simpa using ho)
      rw [show i + (p + 1) = i + 1 + p by omega]; exact this
theorem edgesB_out {an : List (List Nat)} {i : Nat} {o : Oper} (h : edgesB an i o = true) : (∀ e ∈ o.after, Region.binds .any e = true → e.on < i) ∧
    ∀ a ∈ an.getD i [], ∃ e ∈ o.after, Region.binds .any e = true ∧ (a = e.on ∨ a ∈ an.getD e.on []) := by
  simp only [edgesB, Bool.and_eq_true, List.all_eq_true, List.any_eq_true, Bool.or_eq_true, Nat.beq_eq, hasN_iff] at h
  refine ⟨fun e he hb => ?_, fun a ha => ?_⟩
  · have := h.1 e (by simpa using he)
    rw [hb, cond_true, Nat.blt_eq] at this; exact this
  · obtain ⟨e, he, hb, hh⟩ := h.2 a ha
    exact ⟨e, by simpa using he, hb, hh⟩
theorem apartT_out {ops : List Oper} {x y : Oper} (h : apartT ops x y = true) : (∀ d, x.dst = some d → d ∉ looksT ops y) ∧ (∀ d, x.dst = some d → y.dst ≠ some d) ∧ (∀ d, y.dst = some d → d ∉ looksT ops x) := by
  simp only [apartT, Bool.and_eq_true, Bool.not_eq_true'] at h
  refine ⟨fun d hd => meets_out h.1 (by simp [dstL, hd]), fun d hd he => ?_, fun d hd => meets_out h.2.2 (by simp [dstL, hd])⟩
  exact meets_out h.2.1 (j := d) (by simp [dstL, hd]) (by simp [dstL, he])
theorem room_take {P : Program} {D : Dec} : ∀ {l : List Oper} {p : Nat} {o : Oper}, l[p]? = some o → ∀ q, p < q → room P D (l.take p) + nObj P D o ≤ room P D (l.take q)
  | [], p, o, h, q, hq => by simp at h
  | x :: l, 0, o, h, q + 1, hq => by
    simp only [List.getElem?_cons_zero, Option.some.injEq] at h; subst h
    simp only [List.take_zero, room, List.take_succ_cons]; omega
  | x :: l, p + 1, o, h, q + 1, hq => by
    have := room_take (P := P) (D := D) (l := l) (p := p) (by simpa using h) q (by omega)
    simp only [List.take_succ_cons, room]; omega
theorem room_le {P : Program} {D : Dec} : ∀ {l : List Oper} {p : Nat} {o : Oper}, l[p]? = some o → room P D (l.take p) + nObj P D o ≤ room P D l
  | l, p, o, h => by
    have hp : p < l.length := by
      rcases Nat.lt_or_ge p l.length with h' | h'
      · exact h'
      · rw [List.getElem?_eq_none h'] at h; cases h
    have := room_take (P := P) (D := D) h l.length hp
    rwa [List.take_length] at this
theorem wr_sub {P : Program} {D : Dec} {o : Oper} {fp : List Nat} {b : Nat} (h : ∀ j, b ≤ j → j < b + nObj P D o → j ∈ fp) : ∀ j ∈ writes o fp b (nObj P D o), j ∈ fp := by
  intro j hj
  unfold writes at hj
  rcases List.mem_append.1 hj with hj | hj
  · split at hj
    · exact hj
    · exact hj
    · exact hj
    · split at hj
      · exact hj
      · cases hj
      · exact hj
    · cases hj
  · rw [List.mem_range'_1] at hj; exact h j hj.1 hj.2
theorem slots_wr {P : Program} {D : Dec} {o : Oper} {fp : List Nat} {b j : Nat} (h1 : b ≤ j) (h2 : j < b + nObj P D o) : j ∈ writes o fp b (nObj P D o) :=
  List.mem_append.2 (.inr (by rw [List.mem_range'_1]; exact ⟨h1, h2⟩))

section
variable {P : Program} {F : Callee} {D : Dec} {w0 : World} {M Z0 : Zone} {ops : List Oper} {an : List (List Nat)} {k : AS → OR} {r : List V1 × List AObj} {s0 : AS} {es : List Eff} {b0 : Nat} {G0 : List GO} {Q : Exit → Act → World → Prop}
/-- The run in the order of the text, with what is known of each operation. -/
structure Trace (P : Program) (F : Callee) (D : Dec) (ops : List Oper) (an : List (List Nat)) (b0 : Nat) (s0 : AS) (es : List Eff) : Prop where
  len : es.length = ops.length
  step : ∀ p o e, (ops.zip es)[p]? = some (o, e) → e.b = b0 + room P D (ops.take p) ∧ StepOk P F D ops o e (foldE (ops.zip es) 0 (fun q => Nat.blt q p) s0)
  ok : ∀ p q o e o' e', p < q → (ops.zip es)[p]? = some (o, e) → (ops.zip es)[q]? = some (o', e') → e.on = true → e'.on = true → okDone (an.getD q []) e'.fp e'.wr ⟨p, e.fp, e.wr⟩ = true
/-- Behind the operations that are listed. -/
structure Here (P : Program) (D : Dec) (w0 : World) (M Z0 : Zone) (ops : List Oper) (an : List (List Nat)) (s0 : AS) (es : List Eff) (G0 : List GO) (L : Nat → Bool) (G : List GO) (tv : List Value) (w : World) : Prop where
  st : St w0 M Z0 (resL (foldE (ops.zip es) 0 L s0).heap G) (relF (foldE (ops.zip es) 0 L s0) G tv) w
  mz : ∀ k, M k → Z0 k
  fresh : ∀ p o e, (ops.zip es)[p]? = some (o, e) → e.on = true → L p = false → ∀ j, e.b ≤ j → j < e.b + nObj P D o → G[j]? = some .fresh
  down : ∀ p, L p = true → ∀ a ∈ an.getD p [], L a = true
  up : Up G0 G
theorem zip_fst {p : Nat} {o : Oper} {e : Eff} (h : (ops.zip es)[p]? = some (o, e)) : ops[p]? = some o ∧ es[p]? = some e := by
  rw [List.getElem?_zip_eq_some] at h; exact h
theorem zip_some (hl : es.length = ops.length) {p : Nat} {o : Oper} (h : ops[p]? = some o) : ∃ e, (ops.zip es)[p]? = some (o, e) := by
  have hp : p < es.length := by
    rw [hl]
    rcases Nat.lt_or_ge p ops.length with h' | h'
    · exact h'
    · rw [List.getElem?_eq_none h'] at h; cases h
  exact ⟨es[p], by rw [List.getElem?_zip_eq_some]; exact ⟨h, List.getElem?_eq_getElem hp⟩⟩
/-- One step, wherever it comes. -/
theorem Here.step (hF : CallsOK P F) (hib : ∀ f, D.ib f = true → extIB P f) (hd : drawB ops an ops 0 = true) (ht : Trace P F D ops an b0 s0 es) (hroom : b0 + room P D ops ≤ s0.heap.length)
    {L : Nat → Bool} {G : List GO} {tv : List Value} {w : World} (hh : Here P D w0 M Z0 ops an s0 es G0 L G tv w) {i : Nat} {o : Oper} (hi : ops[i]? = some o) (hL : L i = false) (hanc : ∀ e ∈ o.after, Region.binds .any e = true → L e.on = true) :
    wpOp P ops.toArray Q i (fun a' w' => ∃ G' tv', a' = ⟨tv'.toArray, []⟩ ∧ Here P D w0 M Z0 ops an s0 es G0 (fun q => L q || Nat.beq q i) G' tv' w') ⟨tv.toArray, []⟩ w := by
  obtain ⟨e, he⟩ := zip_some ht.len hi
  obtain ⟨heb, hguard, hon, hoff⟩ := ht.step i o e he
  have hstat := fun p x (hp : ops[p]? = some x) => by have := drawB_out hd p x hp; rw [Nat.zero_add] at this; exact this
  have hancL : ∀ a ∈ an.getD i [], L a = true := by
    intro a ha
    obtain ⟨ed, hed, hb, h⟩ := (edgesB_out (hstat i o hi).2.1).2 a ha
    rcases h with rfl | h
    · exact hanc ed hed hb
    · exact hh.down _ (hanc ed hed hb) a h
  -- two of them, one ahead of the other in the text
  have hpair : ∀ (p q : Nat) (x y : Oper), p < q → ops[p]? = some x → ops[q]? = some y → p ∈ an.getD q [] ∨ apartT ops x y = true := by
    intro p q x y hpq hp hq
    have := earlierB_out (hstat q y hq).2.2 p x hp (by omega)
    rw [Nat.zero_add] at this
    exact this.imp hasN_iff.1 id
  have hwrOff : ∀ (p : Nat) (x : Oper) (y : Eff), (ops.zip es)[p]? = some (x, y) → y.on = false → y.wr = [] := fun p x y hp hy => ((ht.step p x y hp).2.2.2 hy).1
  have hwrfp : ∀ (p : Nat) (x : Oper) (y : Eff), (ops.zip es)[p]? = some (x, y) → y.on = true → ∀ j ∈ y.wr, j ∈ y.fp := by
    intro p x y hp hy
    obtain ⟨_, c1, c2, _⟩ := (ht.step p x y hp).2.2.1 hy
    rw [c1]; exact wr_sub c2
  -- whom it does not meet
  have hfar : ∀ (p : Nat) (x : Oper) (y : Eff), (ops.zip es)[p]? = some (x, y) → p ≠ i → L p = decide (i < p) →
      (∀ d, x.dst = some d → d ∉ looksT ops o) ∧ (∀ d, o.dst = some d → x.dst ≠ some d) ∧ (y.on = true → e.on = true → (∀ j ∈ y.wr, j ∉ e.fp) ∧ ∀ j ∈ e.wr, j ∉ y.fp) := by
    intro p x y hp hne hLp
    obtain ⟨hpo, _⟩ := zip_fst hp
    rcases Nat.lt_or_gt_of_ne hne with hlt | hgt
    · have hLf : L p = false := by rw [hLp]; simp; omega
      have hna : p ∉ an.getD i [] := fun ha => by rw [hancL p ha] at hLf; cases hLf
      have hap := apartT_out ((hpair p i x o hlt hpo hi).resolve_left hna)
      refine ⟨hap.1, fun d hd hx => hap.2.1 d hx hd, fun h1 h2 => ?_⟩
      have := ht.ok p i x y o e hlt hp he h1 h2
      simp only [okDone, Bool.or_eq_true, Bool.and_eq_true, Bool.not_eq_true'] at this
      obtain ⟨c1, c2⟩ := this.resolve_left fun hm => hna (hasN_iff.1 hm)
      exact ⟨fun j hj => meets_out c1 hj, fun j hj => meets_out c2 hj⟩
    · have hLt : L p = true := by rw [hLp]; simp; omega
      have hna : i ∉ an.getD p [] := fun ha => by rw [hh.down p hLt i ha] at hL; cases hL
      have hap := apartT_out ((hpair i p o x hgt hi hpo).resolve_left hna)
      refine ⟨hap.2.2, hap.2.1, fun h1 h2 => ?_⟩
      have := ht.ok i p o e x y hgt he hp h2 h1
      simp only [okDone, Bool.or_eq_true, Bool.and_eq_true, Bool.not_eq_true'] at this
      obtain ⟨c1, c2⟩ := this.resolve_left fun hm => hna (hasN_iff.1 hm)
      exact ⟨fun j hj => meets_out c2 hj, fun j hj => meets_out c1 hj⟩
  have hdiff : ∀ (p : Nat) (x : Oper) (y : Eff), (ops.zip es)[p]? = some (x, y) → Nat.blt p i ≠ L p → p ≠ i ∧ L p = decide (i < p) := by
    intro p x y hp hne
    have hpi : p ≠ i := fun h => by
      subst h
      apply hne; rw [hL]
      cases hb : Nat.blt p p with | false => rfl | true => rw [Nat.blt_eq] at hb; omega
    refine ⟨hpi, ?_⟩
    rcases Nat.lt_or_gt_of_ne hpi with hlt | hgt
    · have : Nat.blt p i = true := by rw [Nat.blt_eq]; exact hlt
      rw [this] at hne
      have : L p = false := by cases hLp : L p with | false => rfl | true => exact absurd hLp.symm hne
      rw [this]; symm; simp; omega
    · have : Nat.blt p i = false := by cases hb : Nat.blt p i with | false => rfl | true => rw [Nat.blt_eq] at hb; omega
      rw [this] at hne
      have : L p = true := by cases hLp : L p with | true => rfl | false => exact absurd hLp.symm hne
      rw [this]; symm; simp; omega
  generalize hS : foldE (ops.zip es) 0 L s0 = S
  generalize hT : foldE (ops.zip es) 0 (fun q => Nat.blt q i) s0 = T at hguard hon hoff
  have hst := hh.st
  rw [hS] at hst
  have hlenS : S.heap.length = s0.heap.length := by rw [← hS]; exact foldE_len
  have hlenT : T.heap.length = s0.heap.length := by rw [← hT]; exact foldE_len
  have htm : ∀ t ∈ looksT ops o, T.tmps[t]? = S.tmps[t]? := by
    intro t htl
    rw [← hS, ← hT]
    refine foldE_tmps rfl fun q x hx hne hd => ?_
    rw [Nat.zero_add] at hne
    obtain ⟨h1, h2⟩ := hdiff q x.1 x.2 hx hne
    exact (hfar q x.1 x.2 hx h1 h2).1 t hd htl
  have hheap : e.on = true → ∀ j ∈ e.fp, T.heap[j]? = S.heap[j]? := by
    intro hone j hj
    rw [← hS, ← hT]
    refine foldE_heap rfl fun q x hx hne hw => ?_
    rw [Nat.zero_add] at hne
    obtain ⟨h1, h2⟩ := hdiff q x.1 x.2 hx hne
    cases hxo : x.2.on with
    | false => rw [hwrOff q x.1 x.2 hx hxo] at hw; cases hw
    | true => exact ((hfar q x.1 x.2 hx h1 h2).2.2 hxo hone).1 j hw hj
  have hadd : foldE (ops.zip es) 0 (fun q => L q || Nat.beq q i) s0 = e.app o.dst S := by
    have := foldE_add (L := L) (l := ops.zip es) (i := 0) (p := i) (s := s0) he (by rw [Nat.zero_add]; exact hL) (fun q x hq hx hLq => by
      rw [Nat.zero_add] at hLq
      have h2 := hfar q x.1 x.2 hx (by omega) (by rw [hLq]; symm; simpa using hq)
      refine ⟨h2.2.1, fun j hj hj' => ?_⟩
      cases hxo : x.2.on with
      | false => rw [hwrOff q x.1 x.2 hx hxo] at hj'; cases hj'
      | true => cases heo : e.on with
        | false => rw [hwrOff i o e he heo] at hj; cases hj
        | true => exact (h2.2.2 hxo heo).2 j hj (hwrfp q x.1 x.2 hx hxo j hj'))
    rw [hS] at this
    rw [← this]
    simp only [Nat.zero_add]
  have hdown : ∀ p, (fun q => L q || Nat.beq q i) p = true → ∀ a ∈ an.getD p [], (fun q => L q || Nat.beq q i) a = true := by
    intro p hp a ha
    simp only [Bool.or_eq_true, Nat.beq_eq] at hp ⊢
    rcases hp with hp | rfl
    · exact .inl (hh.down p hp a ha)
    · exact .inl (hancL a ha)
  -- is it carried out?
  have hwant : Region.wanted o (yielded ops.toArray tv.toArray) = e.want := by
    unfold Guard at hguard
    split at hguard
    · rename_i hg; rw [hguard]; simp [Region.wanted, hg]
    · rename_i j want hg
      obtain ⟨d, hdd, hguard⟩ := hguard
      have hdS : ∀ v, T.tmps[d]? = some v → S.tmps[d]? = some v := fun v hv => by
        rw [← htm d ?_]; exact hv
        unfold looksT
        refine List.mem_append.2 (.inr ?_)
        simp [hg, hdd]
      have hd' : (ops.toArray[j]?).bind (·.dst) = some d := by simpa using hdd
      rcases hguard with ⟨bb, hdt, hon'⟩ | ⟨hdt, hon'⟩
      · obtain ⟨X, hX, hr⟩ := hst.per.1.get (hdS _ hdt)
        have hX' := bool_inv hr
        subst hX'
        have hy : yielded ops.toArray tv.toArray j = some bb := by
          simp only [yielded, hd', Option.bind_some]
          have : tv.toArray[d]? = some (.bool bb) := by simpa using hX
          rw [this]
        rw [hon']
        simp only [Region.wanted, hg, hy]; rfl
      · obtain ⟨X, hX, xs, hXe, hr⟩ := hst.per.1.get (hdS _ hdt)
        obtain rfl := hr.nil_inv
        subst hXe
        have hy : yielded ops.toArray tv.toArray j = none := by
          simp only [yielded, hd', Option.bind_some]
          have : tv.toArray[d]? = some (.tuple #[]) := by simpa using hX
          rw [this]
        rw [hon']
        simp only [Region.wanted, hg, hy]; rfl
  unfold wpOp
  have hi' : ops.toArray[i]? = some o := by simpa using hi
  rw [hi']
  simp only [hwant]
  have hevx : ∀ x ∈ o.op.operands, T.ev x = S.ev x := by
    intro x hx
    cases x with
    | tmp t =>
      show T.tmps.getD t anyV = S.tmps.getD t anyV
      have : t ∈ looksT ops o := List.mem_append.2 (.inl (mem_opT.2 hx))
      simp only [List.getD, htm t this]
    | _ => rfl
  have hrefs : refsOf S o = refsOf T o := by
    unfold refsOf
    simp only [List.flatMap_def]
    congr 1
    refine List.map_congr_left fun x hx => ?_
    rw [hevx x (by simpa using hx)]
  cases heo : e.on with
  | false =>
    obtain ⟨c1, c2, c3⟩ := hoff heo
    have happ : e.app o.dst S = S.put o.dst e.v := by unfold Eff.app; rw [c1, mixH_nil]
    have hp : ∀ d : Option Tmp, (S.put d e.v).heap = S.heap := fun d => put_heap _ _ _
    cases hwn : e.want with
    | false =>
      simp only [Bool.false_eq_true, if_false]
      refine ⟨G, putVs tv o.dst undef, by rw [put_act]; cases o.dst <;> rfl, ?_⟩
      refine ⟨?_, hh.mz, ?_, hdown, hh.up⟩
      · rw [hadd, happ, hp]
        refine hst.weak (relF_stable _ _ _) fun q => ⟨?_, by rw [hp]; exact q.2⟩
        have := rel_put q.1 o.dst (v := e.v) (X := undef) (fun _ _ _ => by rw [c2 hwn]; exact und_rel) S.heap
        exact this
      · intro p x y hp hy hLp j h1 h2
        simp only [Bool.or_eq_false_iff] at hLp
        exact hh.fresh p x y hp hy hLp.1 j h1 h2
    | true =>
      simp only [if_true]
      obtain ⟨hl, hrf, h', hlev⟩ := c3 hwn
      refine .inl (Oper.wp_mono (fun a' w' hst' => ?_) (evOp_free (Q := Q) (v := e.v) (h' := h') hF hib hst hh.mz hl (fun k' => by rw [← evOp_congr hevx]; exact hlev k') (by rw [hrefs]; exact hrf)))
      obtain ⟨G', tv', ha, hst', hfr, hup⟩ := hst'
      refine ⟨G', tv', ha, ?_, hh.mz, ?_, hdown, hh.up.trans hup⟩
      · rw [hadd, happ, hp]; exact hst'
      · intro p x y hp hy hLp j h1 h2
        simp only [Bool.or_eq_false_iff] at hLp
        exact hfr j (hh.fresh p x y hp hy hLp.1 j h1 h2)
  | true =>
    obtain ⟨hwn, c1, c2, c3, c4, c5, c6⟩ := hon heo
    rw [hwn]
    simp only [if_true]
    have hcl : closB S.heap e.fp (refsOf S o) = true := by
      rw [hrefs]
      obtain ⟨d1, d2⟩ := closB_out c4
      simp only [closB, Bool.and_eq_true, List.all_eq_true, hasN_iff]
      exact ⟨d1, fun j hj i hi => d2 j hj i (by rw [hheap heo j hj]; exact hi)⟩
    have honly : onlyH e.fp 0 T.heap = onlyH e.fp 0 S.heap := by
      refine List.ext_getElem? fun j => ?_
      rw [onlyH_get, onlyH_get, Nat.zero_add]
      cases hj : hasN j e.fp with
      | true => rw [hheap heo j (hasN_iff.1 hj)]
      | false =>
        rcases Nat.lt_or_ge j s0.heap.length with hlt | hge
        · rw [List.getElem?_eq_getElem (by rw [hlenT]; exact hlt), List.getElem?_eq_getElem (by rw [hlenS]; exact hlt)]; rfl
        · rw [List.getElem?_eq_none (by rw [hlenT]; exact hge), List.getElem?_eq_none (by rw [hlenS]; exact hge)]
    have hev : ∀ k', evOp P F D o S.ev (onlyH e.fp 0 S.heap) e.b k' = k' e.v e.h := by
      intro k'
      rw [← honly, ← evOp_congr hevx]; exact c5 k'
    have hbl : e.b + nObj P D o ≤ S.heap.length := by
      rw [hlenS, heb]
      have := room_le (P := P) (D := D) hi
      omega
    refine .inl (Oper.wp_mono (fun a' w' hst' => ?_) (evOp_masked (Q := Q) hF hib hst hh.mz (hh.fresh i o e he heo hL) hbl c3 hcl hev c6))
    obtain ⟨G', tv', ha, hst', hout, hup⟩ := hst'
    refine ⟨G', tv', ha, ?_, hh.mz, ?_, hdown, hh.up.trans hup⟩
    · rw [hadd]
      have hmix : mixH e.fp 0 S.heap e.h = mixH e.wr 0 S.heap e.h := by
        refine List.ext_getElem? fun j => ?_
        rw [mixH_get, mixH_get, Nat.zero_add]
        cases h1 : hasN j e.fp with
        | false =>
          have : hasN j e.wr = false := by
            cases h2 : hasN j e.wr with
            | false => rfl
            | true => rw [hasN_iff.2 (hwrfp i o e he heo j (hasN_iff.1 h2))] at h1; cases h1
          rw [this]
        | true =>
          cases h2 : hasN j e.wr with
          | true => rfl
          | false =>
            rw [c1] at h2
            have := evOp_keeps hev h1 h2
            rw [this, onlyH_get, Nat.zero_add, h1]
            cases S.heap[j]? <;> rfl
      rw [hmix] at hst'
      unfold Eff.app
      rw [put_heap]
      exact hst'
    · intro p x y hp hy hLp j h1 h2
      simp only [Bool.or_eq_false_iff] at hLp
      have hpi : p ≠ i := fun h => by rw [h] at hLp; simp at hLp
      have hjf : hasN j e.fp = false := by
        cases hj : hasN j e.fp with
        | false => rfl
        | true =>
          have hj := hasN_iff.1 hj
          rcases Nat.lt_or_gt_of_ne hpi with hlt | hgt
          · have hw : j ∈ y.wr := by rw [((ht.step p x y hp).2.2.1 hy).2.1]; exact slots_wr h1 h2
            have hLd : L p = decide (i < p) := by rw [hLp.1]; symm; simp; omega
            exact absurd hj (((hfar p x y hp hpi hLd).2.2 hy heo).1 j hw)
          · have a1 := c3 j hj
            have a2 := (ht.step p x y hp).1
            have a3 := room_take (P := P) (D := D) hi p hgt
            omega
      rw [hout j hjf]
      exact hh.fresh p x y hp hy hLp.1 j h1 h2
end
end Go.Ab
