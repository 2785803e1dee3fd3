/- The abstract run is sound: operations that make or turn memory. No program in sight. -/
import Derived.Test.YthjbllfcelkajaaOpB
set_option linter.unusedVariables false
set_option linter.unusedSimpArgs false
namespace Go.Ab
open Go Go.Dk

section
variable {P : Program} {w0 w w' : World} {M Z0 : Zone} {b : Nat} {G : List GO} {s : AS} {tv : List Value} {r : List V1 × List AObj}
theorem oneB_cells {X : Value} (h : oneB X = true) : X.cells = #[X] := by cases X <;> first | rfl | (simp [oneB] at h)
theorem cs_sound {Z : Zone} {v : AV} {X : Value} {c : List SV} (h : v.cs = some c) (hx : RV G Z w v X) : ∃ xs : List Value, X.cells = xs.toArray ∧ All2 (OneR G Z w) c xs := by
  unfold AV.cs at h
  split at h
  · cases h
  · rename_i v hne
    obtain rfl := Option.some.inj h
    have h1 := hx.2 (fun e => hne (by rw [e]))
    exact ⟨[X], oneB_cells h1, All2.cons ⟨hx.1, h1⟩ All2.nil⟩
  · obtain rfl := Option.some.inj h
    obtain ⟨xs, rfl, hh⟩ := hx
    exact ⟨xs, rfl, hh⟩
  · cases h
theorem csL_sound {Z : Zone} : ∀ {vs : List AV} {Xs : List Value} {cs : List (List SV)}, csL vs = some cs → All2 (RV G Z w) vs Xs →
    ∃ xss : List (List Value), Xs.map Value.cells = xss.map List.toArray ∧ All2 (All2 (OneR G Z w)) cs xss
  | [], Xs, cs, h, ha => by
    obtain rfl := ha.nil_inv
    simp only [csL, Option.some.injEq] at h; subst h
    exact ⟨[], rfl, All2.nil⟩
  | v :: vs, Xs, cs, h, ha => by
    obtain ⟨X, Xs', rfl, h1, h2⟩ := ha.cons_inv
    simp only [csL] at h
    cases hv : v.cs with
    | none => simp [hv] at h
    | some c =>
      simp only [hv, Option.bind_some, Option.map_eq_some_iff] at h
      obtain ⟨cs', hcs, rfl⟩ := h
      obtain ⟨xs, he, hh⟩ := cs_sound hv h1
      obtain ⟨xss, he', hh'⟩ := csL_sound hcs h2
      exact ⟨xs :: xss, by simp [he, he'], All2.cons hh hh'⟩
theorem InvG.raise {b' : Nat} (hI : InvG w0 M Z0 b G s tv w) (h : b ≤ b') : InvG w0 M Z0 b' G s tv w := ⟨hI.st, fun j hj hl => hI.fresh j (Nat.le_trans h hj) hl, hI.mz⟩
theorem OneR.mono {Z Z' : Zone} {G' : List GO} {v : SV} {X : Value} (h : OneR G Z w v X) (hk : Keeps Z Z' w w') (hu : Up G G') : OneR G' Z' w' v X := ⟨(h.1.stable hk).up hu, h.2⟩

variable {ρ : Operand → Value} {x y : Operand} {d : Option Tmp} {ty t t' : TypeId} {pos : String} {aft : Array Edge} {gd : Option (Nat × Bool)} {vx vy : AV} {X : Value}
/-! New variables. -/
theorem newCells (hI : InvG w0 M Z0 b G s tv w) (hb : b < G.length) {l : List SV} {xs : List Value} (ha : All2 (OneR G (zn w0 Z0 s G) w) l xs) (T : TypeId) :
    InvG w0 M Z0 (b + 1) (G.set b (.cells w.heap.size T xs)) ⟨s.tmps, s.heap.set b (.cells l)⟩ tv (w.alloc (.cells xs.toArray T (0, 0))) ∧
    RV (G.set b (.cells w.heap.size T xs)) (zn w0 Z0 ⟨s.tmps, s.heap.set b (.cells l)⟩ (G.set b (.cells w.heap.size T xs))) (w.alloc (.cells xs.toArray T (0, 0))) (.v (.one (.ptr b 0))) (pv w.heap.size 0) ∧ Up G (G.set b (.cells w.heap.size T xs)) := by
  have hup : Up G (G.set b (.cells w.heap.size T xs)) := Up.set fun g0 h0 => by rw [hI.fresh b (Nat.le_refl _) hb] at h0; obtain rfl := Option.some.inj h0; trivial
  refine ⟨(hI.newObj hb (Grow.alloc _ _) (o := .cells l) (g := .cells w.heap.size T xs) (fun q hq => ?_) (fun Z' hk => ?_)).1, ⟨.inr ⟨w.heap.size, T, xs, by simp [hb], rfl⟩, fun _ => rfl⟩, hup⟩
  · simp only [resO, List.mem_singleton] at hq
    subst hq
    refine ⟨alloc_get _ _, fun k hk => ?_⟩
    simp only [blk] at hk; subst hk; rw [alloc_size]; omega
  · exact ha.mono fun _ _ _ q => q.mono hk hup
theorem run_alloc {e : TypeId} {cs : List Value} (hz : zeroB P e = some cs) : (execOp ρ ⟨d, .alloc e, ty, pos, aft, gd⟩).run P w = .ok (.value (pv w.heap.size 0)) (w.alloc (.cells cs.toArray e (0, 0))) := by
  unfold zeroB at hz
  split at hz
  · rename_i i hi
    split at hz
    · rename_i z hzz
      obtain rfl := Option.some.inj hz
      have hzv : (zeroValue e).run P w = .ok z w := by
        simp only [zeroValue, Sem.run_bind, Go.Dk.run_typeInfo hi, Result.andThen_ok, hzz, Sem.run_pure]
      simp only [execOp, Instr.alloc, Sem.run_bind, hzv, run_newVar, Result.andThen_ok, Sem.run_pure, Array.toArray_toList]
      rfl
    · cases hz
  · cases hz
theorem run_box {e : TypeId} {cs : List Value} (hc : (ρ x).cells = cs.toArray) : (execOp ρ ⟨d, .box e x, ty, pos, aft, gd⟩).run P w = .ok (.value (pv w.heap.size 0)) (w.alloc (.cells cs.toArray e (0, 0))) := by
  simp only [execOp, Instr.box, Sem.run_bind, run_newVar, hc, Result.andThen_ok, Sem.run_pure]
  rfl
theorem zeroS_out {e : TypeId} {z : List SV} (h : zeroS P e = some z) : ∃ cs, zeroB P e = some cs ∧ ∀ G Z w, All2 (OneR G Z w) z cs := by
  unfold zeroS at h
  cases hz : zeroB P e with
  | none => simp [hz] at h
  | some cs =>
    simp only [hz, Option.bind_some] at h
    cases hc : cs.all oneB with
    | false => simp [hc] at h
    | true =>
      simp only [hc, cond_true, Option.some.injEq] at h
      subst h
      exact ⟨cs, rfl, fun G Z w => svsOf_rel _ _ fun v hv => List.all_eq_true.1 hc v hv⟩

/-! Stores. -/
theorem run_storeCells2 {bb off : Nat} {T : TypeId} : ∀ (vs : List Value) (i : Nat) (cs : List Value) (w : World), w.heap[bb]? = some (.cells cs.toArray T (0, 0)) →
    (∀ v ∈ vs, oneB v = true) → off + i + vs.length ≤ cs.length →
    ∃ w', (storeCells ⟨bb, off, none⟩ vs i).run P w = .ok () w' ∧ w'.heap[bb]? = some (.cells (putL cs (off + i) vs).toArray T (0, 0)) ∧ Ext (· = bb) w w'
  | [], i, cs, w, hn, _, _ => ⟨w, rfl, hn, Ext.refl _ _⟩
  | v :: vs, i, cs, w, hn, h1, hl => by
    simp only [List.length_cons] at hl
    have hlt : off + i < cs.length := by omega
    have hcell : w.cell? ⟨bb, off + i, none⟩ = some cs[off + i] := by simp [World.cell?, hn, hlt]
    have hfr : w.frozen? ⟨bb, off + i, none⟩ = false := by simp [World.frozen?, hn]
    have hn' : (w.setCell ⟨bb, off + i, none⟩ v).heap[bb]? = some (.cells (cs.set (off + i) v).toArray T (0, 0)) := by
      simp [World.setCell, Array.getElem?_modify, hn]
    obtain ⟨w', hr, hh, hx⟩ := run_storeCells2 (off := off) vs (i + 1) (cs.set (off + i) v) _ hn' (fun u hu => h1 u (List.mem_cons_of_mem _ hu)) (by simp; omega)
    refine ⟨w', ?_, hh, (Ext.setCell w ⟨bb, off + i, none⟩ v).trans hx⟩
    simp only [storeCells, addr_add, Sem.run_bind, store]
    rw [Go.Dk.run_store (h1 v (List.mem_cons_self ..)) hcell hfr]
    simp only [Sem.run, Result.andThen_ok]
    exact hr
theorem run_store_op {bb off m : Nat} {T : TypeId} {cs vs : List Value} (hX : ρ x = pv bb off) (hc : (ρ y).cells = vs.toArray) (hsz : (P.info? t).map (·.size) = some m) (hm : m = vs.length)
    (hn : w.heap[bb]? = some (.cells cs.toArray T (0, 0))) (h1 : ∀ v ∈ vs, oneB v = true) (hl : off + vs.length ≤ cs.length) :
    ∃ w', (execOp ρ ⟨d, .store t x y, ty, pos, aft, gd⟩).run P w = .ok .skip w' ∧ w'.heap[bb]? = some (.cells (putL cs off vs).toArray T (0, 0)) ∧ Ext (· = bb) w w' := by
  obtain ⟨w', hr, hh, hx⟩ := run_storeCells2 (P := P) (off := off) vs 0 cs w hn h1 (by simpa using hl)
  refine ⟨w', ?_, by simpa using hh, hx⟩
  cases hi : P.info? t with
  | none => simp [hi] at hsz
  | some i =>
    simp only [hi, Option.map_some, Option.some.injEq] at hsz
    have hne : ¬ (vs.toArray.size ≠ i.size) := by rw [hsz, hm]; simp
    simp only [execOp, Instr.storeAt, hX, pv, Instr.sureAddr, storeVar, Sem.run_bind, Sem.run_pure, Result.andThen_ok, Go.Dk.run_sizeOf hi, if_neg hne, hc, hr]
theorem putS_rel {α β : Type} {R : α → β → Prop} : True := trivial
theorem put_rel {R : SV → Value → Prop} : ∀ {c : List SV} {ys : List Value} {l : List SV} {vs : List Value} {off : Nat}, All2 R l vs → All2 R c ys → All2 R (putS l off c) (putL vs off ys)
  | [], ys, l, vs, off, hl, hc => by obtain rfl := hc.nil_inv; exact hl
  | x :: c, ys, l, vs, off, hl, hc => by
    obtain ⟨y, ys', rfl, h1, h2⟩ := hc.cons_inv
    show All2 R (putS (l.set off x) (off + 1) c) (putL (vs.set off y) (off + 1) ys')
    exact put_rel (hl.set off h1) h2
theorem CellsR.length {Z : Zone} {e : SE} {cs : List Value} {k : SK} (h : CellsR Z w e cs) (hk : e.kind = k) : cs.length = k.size := by
  subst hk
  cases e with
  | t x => obtain ⟨t, _, _, rfl⟩ := h; rfl
  | i n => simp only [CellsR] at h; subst h; rfl
  | ii l => obtain ⟨x, rfl, _⟩ := h; rfl
  | s x => simp only [CellsR] at h; subst h; rfl
  | b c => simp only [CellsR] at h; subst h; rfl
theorem one_all {Z : Zone} {l : List SV} {xs : List Value} (h : All2 (OneR G Z w) l xs) : ∀ v ∈ xs, oneB v = true := fun v hv => by
  obtain ⟨i, hi⟩ := List.getElem?_of_mem hv
  obtain ⟨a, _, hr⟩ := h.get' hi
  exact hr.2
theorem putL_take (n : Nat) : ∀ (vs cs : List Value) (off : Nat), (putL cs off vs).take n = putL (cs.take n) off vs
  | [], cs, off => rfl
  | v :: vs, cs, off => by
    simp only [putL]
    rw [putL_take n vs, List.take_set]
theorem putL_map {α : Type} (f : α → Value) (l : List α) (i : Nat) (x : α) : putL (l.map f) i [f x] = (l.set i x).map f := by
  simp [putL, List.map_set]
theorem flatT_set : ∀ (hs : List HT) (i : Nat) (t : HT), putL (flatT hs) (i * 3) [.int .i64 t.k, .int .i64 t.n, t.sl] = flatT (hs.set i t)
  | [], i, t => by simp [flatT_nil, putL]
  | h :: hs, 0, t => by rw [flatT_cons]; simp [putL, flatT_cons]
  | h :: hs, i + 1, t => by
    have := flatT_set hs i t
    rw [flatT_cons, List.set_cons_succ, flatT_cons, ← this]
    rw [show (i + 1) * 3 = i * 3 + 1 + 1 + 1 by omega]
    simp [putL]
theorem ElemsR.set {Z : Zone} {D : SD} {xs cs : List Value} {e : SE} {i : Nat} {k : SD → OR} (hd : ElemsR Z w D xs) (hc : CellsR Z w e cs) (h : D.set i e k = some r) :
    ∃ D', k D' = some r ∧ D'.len = D.len ∧ D'.kind = D.kind ∧ ElemsR Z w D' (putL xs (i * D.kind.size) cs) := by
  unfold SD.set at h
  split at h
  · obtain ⟨hs, rfl, rfl, hr⟩ := hd
    obtain ⟨t, rfl, ht, rfl⟩ := hc
    refine ⟨_, h, by simp [SD.len], rfl, hs.set i t, by rw [List.map_set], flatT_set hs i t, fun u hu => ?_⟩
    rcases List.mem_or_eq_of_mem_set hu with hu | rfl
    · exact hr u hu
    · exact ht
  · simp only [ElemsR, CellsR] at hd hc; subst hd hc
    exact ⟨_, h, by simp [SD.len], rfl, by simp only [SD.kind, SK.size, Nat.mul_one]; exact putL_map _ _ _ _⟩
  · obtain ⟨X, rfl, hX⟩ := hc
    exact ⟨_, h, by simp [SD.len], rfl, by simp only [SD.kind, SK.size, Nat.mul_one]; exact All2.set hd i hX⟩
  · simp only [ElemsR, CellsR] at hd hc; subst hd hc
    exact ⟨_, h, by simp [SD.len], rfl, by simp only [SD.kind, SK.size, Nat.mul_one]; exact putL_map _ _ _ _⟩
  · simp only [ElemsR, CellsR] at hd hc; subst hd hc
    exact ⟨_, h, by simp [SD.len], rfl, by simp only [SD.kind, SK.size, Nat.mul_one]; exact putL_map (fun c : UInt8 => Value.int .u8 (c.toNat : Int)) _ _ _⟩
  · cases h

theorem rowZ_pos {e sz n m c : Nat} {a : Option Addr} {xs : List Value} (h : c ≠ 0) : rowZ e sz (.slice a n c) m xs = rowR e sz (.slice a n c) m xs := by
  unfold rowZ
  split
  · rename_i he; injection he with _ _ h3; exact absurd h3 h
  · rfl
theorem rowZ_zero {e sz n m : Nat} {a : Option Addr} {xs : List Value} : rowZ e sz (.slice a n 0) m xs = ⟨fun _ => False, fun _ => m = 0 ∧ xs = [] ∧ (.slice a n 0 : Value) = .slice a 0 0⟩ := rfl
theorem InvG.row (hI : InvG w0 M Z0 b G s tv w) {j : Nat} {e : TypeId} {D : SD} {ver : Nat} (hj : s.heap[j]? = some (.arr e D ver false)) :
    ∃ val xs, G[j]? = some (.arr ver val D.kind.size xs) ∧ ElemsR (zn w0 Z0 s G) w D xs ∧ (∃ a c, val = .slice a D.len c) ∧ (rowZ e D.kind.size val D.len xs).own w := by
  obtain ⟨val, xs, hg, h1, h2⟩ := hI.arr (v := 0) hj
  exact ⟨val, xs, hg, h1, h2, hI.st.own _ (mem_resL hj hg (by simp [resO]))⟩
theorem ext_eq {Z Z' : Zone} (h : ∀ k, Z k ↔ Z' k) (hx : Ext Z w w') : Ext Z' w w' := hx.weak fun k _ hk => (h k).1 hk
theorem evStore_sound (hI : InvG w0 M Z0 b G s tv w) {k : List AObj → OR} (hx : RV G (zn w0 Z0 s G) w vx (ρ x)) (hy : RV G (zn w0 Z0 s G) w vy (ρ y)) (h : evStore P t vx vy s.heap k = some r) :
    ∃ h' G' w', k h' = some r ∧ (execOp ρ ⟨d, .store t x y, ty, pos, aft, gd⟩).run P w = .ok .skip w' ∧ InvG w0 M Z0 b G' ⟨s.tmps, h'⟩ tv w' ∧ h'.length = s.heap.length ∧ Up G G' := by
  unfold evStore at h
  split at h
  · rename_i m hsz
    replace h := bind_some h; obtain ⟨yc, hyc, h⟩ := h
    obtain ⟨ys, hcells, hys⟩ := cs_sound hyc hy
    split at h
    · rename_i j off
      split at h
      · rename_i l hj
        replace h := cond_left h; obtain ⟨hm, h⟩ := h
        simp only [Bool.and_eq_true, Nat.beq_eq, Nat.ble_eq] at hm
        obtain ⟨bb, T, vs, hg, ha, _, hmem⟩ := hI.cells hj
        have hown : w.heap[bb]? = some (.cells vs.toArray T (0, 0)) := hI.st.own _ hmem
        obtain ⟨w', hr, hh, hext⟩ := run_store_op (P := P) (t := t) (d := d) (ty := ty) (pos := pos) (aft := aft) (gd := gd) (ptr_val hx.1 hg) hcells hsz (by rw [hm.1, hys.1]) hown (one_all hys) (by rw [← hys.1, ← ha.1]; omega)
        have hup : Up G (G.set j (.cells bb T (putL vs off ys))) := Up.set fun g0 h0 => by rw [hg] at h0; obtain rfl := Option.some.inj h0; rfl
        have hu := hI.updObj (o' := .cells (putS l off yc)) (g' := .cells bb T (putL vs off ys)) (q := blk bb vs T) (q' := blk bb (putL vs off ys) T) hj hg nofun rfl hext rfl hh
          (fun k hk => ⟨.inl hk, by simp only [blk] at hk; subst hk; exact lt_of_get hh⟩) hup
          (fun Z' hk => (put_rel ha hys).mono fun _ _ _ q => q.mono hk hup)
        exact ⟨_, _, w', h, hr, hu.1, by simp, hup⟩
      · cases h
    · rename_i j v i
      replace h := sealL_sound hI hys h; obtain ⟨c, h', h, hs, hc⟩ := h
      split at h
      · rename_i e D ver hj
        replace h := cond_left h; obtain ⟨hm, h⟩ := h
        simp only [Bool.and_eq_true, Nat.beq_eq] at hm
        obtain ⟨rfl, rfl⟩ := hm
        replace h := elemOf_sound hc h; obtain ⟨el, h, hcr, hek, hone⟩ := h
        have hI' := hs.inv
        obtain ⟨val, xs, hg, hel, ⟨a, cc, hval⟩, hrow⟩ := hI'.row hj
        obtain ⟨bb, off, n, c', hv, hi, hX⟩ := op_val hx.1 hg
        replace h := ElemsR.set hel hcr h; obtain ⟨D', h, hlen, hkind, hset⟩ := h
        rw [hv] at hval
        injection hval with e1 e2 e3
        subst e1 e2 e3
        have hclen := hcr.length hek
        have hrow' := hrow
        rw [hv] at hrow'
        have hc0 : c' ≠ 0 := by
          rintro rfl
          rw [rowZ_zero] at hrow'
          have := hrow'.1; omega
        rw [rowZ_pos hc0] at hrow'
        obtain ⟨rfl, _, _⟩ := rowR_cells hrow' rfl
        simp only [rowR] at hrow'
        obtain ⟨hxl, hrow'⟩ := hrow'
        rcases hrow' with ⟨hh, _⟩ | ⟨g, cap, cur, hh, _, hgg, hnc, hcm, hcs, htake⟩
        · cases hh
        · injection hh with e1 _ e3
          injection e1 with e1
          injection e1 with e1 _
          subst e1 e3
          have hcl : cur.toList.length = c' * D.kind.size := by rw [Array.length_toList, hcs]
          have hbd : i * D.kind.size + ys.length ≤ D.len * D.kind.size := by
            rw [hclen, ← Nat.succ_mul]; exact Nat.mul_le_mul_right _ hi
          have hbd2 : D.len * D.kind.size ≤ c' * D.kind.size := Nat.mul_le_mul_right _ hnc
          obtain ⟨w', hr, hh, hext⟩ := run_store_op (P := P) (t := t) (d := d) (ty := ty) (pos := pos) (aft := aft) (gd := gd) (bb := bb) (cs := cur.toList) (off := i * D.kind.size) (by rw [hX]; simp) hcells hsz hclen.symm (by simpa using hgg) hone (by rw [hcl]; omega)
          have hup : Up G (G.set j (.arr v val D.kind.size (putL xs (i * D.kind.size) ys))) := Up.set fun g0 h0 => by rw [hg] at h0; obtain rfl := Option.some.inj h0; exact ⟨rfl, .inr ⟨rfl, rfl⟩⟩
          have hu := hI'.updObj (o' := .arr e D' v false) (g' := .arr v val D.kind.size (putL xs (i * D.kind.size) ys)) (q := rowZ e D.kind.size val D.len xs) (q' := rowZ e D.kind.size val D'.len (putL xs (i * D.kind.size) ys)) hj hg nofun rfl
            (by rw [hv, rowZ_pos hc0]; exact ext_eq (fun k => by simp only [rowR, Value.ownBlock]; exact ⟨fun h => by rw [h], fun h => (Option.some.inj h).symm⟩) hext) rfl
            (by
              rw [hv, rowZ_pos hc0, hlen]
              simp only [rowR]
              refine ⟨by rw [putL_length]; exact hxl, .inr ⟨bb, c', _, rfl, Nat.zero_le _, hh, hnc, hcm, by simp [putL_length, hcl], ?_⟩⟩
              simp only [List.toList_toArray]
              rw [← htake, putL_take])
            (by
              rw [hv, rowZ_pos hc0, rowZ_pos hc0]
              intro k hk
              refine ⟨.inl hk, ?_⟩
              simp only [rowR, Value.ownBlock] at hk
              obtain rfl := Option.some.inj hk
              exact lt_of_get hh) hup
            (fun Z' hk => ⟨rfl, hkind.symm ▸ rfl, hset.stable hk, by rw [hlen]; exact ⟨_, _, hv⟩⟩)
          exact ⟨_, _, w', h, hr, hu.1, by rw [List.length_set]; have := hs.inv.len; have := hI.len; simp at *; omega, hup⟩
      · cases h
    · cases h
  · cases h
end
end Go.Ab
