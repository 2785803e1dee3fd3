/- The abstract run is sound: slices that are made or grow. No program in sight. -/
import Derived.Test.YtbkpfjabcohnpaaOp1
set_option linter.unusedVariables false
set_option linter.unusedSimpArgs false
namespace Go.Ab
open Go Go.Dk

section
variable {P : Program} {w0 w w' : World} {M Z0 : Zone} {b : Nat} {G : List GO} {s : AS} {tv : List Value} {r : List V1 × List AObj}
variable {ρ : Operand → Value} {x y : Operand} {d : Option Tmp} {ty t t' : TypeId} {pos : String} {aft : Array Edge} {gd : Option (Nat × Bool)} {vx vy : AV} {X : Value}
theorem newArr (hI : InvG w0 M Z0 b G s tv w) (hb : b < G.length) (hg : Grow w w') {e : TypeId} {D : SD} {xs : List Value} {val : Value} (hE : ElemsR (zn w0 Z0 s G) w D xs) (hval : ∃ a c, val = .slice a D.len c)
    (hq : (rowZ e D.kind.size val D.len xs).own w' ∧ ∀ k, (rowZ e D.kind.size val D.len xs).foot k → w.heap.size ≤ k ∧ k < w'.heap.size) :
    InvG w0 M Z0 (b + 1) (G.set b (.arr 0 val D.kind.size xs)) ⟨s.tmps, s.heap.set b (.arr e D 0 false)⟩ tv w' ∧
    OneR (G.set b (.arr 0 val D.kind.size xs)) (zn w0 Z0 ⟨s.tmps, s.heap.set b (.arr e D 0 false)⟩ (G.set b (.arr 0 val D.kind.size xs))) w' (.own b 0) val ∧ Up G (G.set b (.arr 0 val D.kind.size xs)) := by
  have hup : Up G (G.set b (.arr 0 val D.kind.size xs)) := Up.set fun g0 h0 => by rw [hI.fresh b (Nat.le_refl _) hb] at h0; obtain rfl := Option.some.inj h0; trivial
  refine ⟨(hI.newObj hb hg (o := .arr e D 0 false) (g := .arr 0 val D.kind.size xs) (fun q hq' => ?_) (fun Z' hk => ⟨rfl, rfl, hE.stable hk, hval⟩)).1, ⟨.inr ⟨0, val, D.kind.size, xs, by simp [hb], Nat.le_refl _, fun _ => rfl⟩, ?_⟩, hup⟩
  · simp only [resO, List.mem_singleton] at hq'
    subst hq'; exact hq
  · obtain ⟨a, c, rfl⟩ := hval; rfl
/-- A new block as a row. -/
theorem row_new {e sz n : Nat} {cs : List Value} (hn : cs.length = n * sz) (hm : n ≤ maxLen) :
    (rowZ e sz (.slice (some ⟨w.heap.size, 0, none⟩) n n) n cs).own (w.alloc (.cells cs.toArray e (0, 0))) ∧
    ∀ k, (rowZ e sz (.slice (some ⟨w.heap.size, 0, none⟩) n n) n cs).foot k → w.heap.size ≤ k ∧ k < (w.alloc (.cells cs.toArray e (0, 0))).heap.size := by
  cases n with
  | zero =>
    rw [rowZ_zero]
    rw [Nat.zero_mul] at hn
    exact ⟨⟨rfl, List.eq_nil_of_length_eq_zero hn, rfl⟩, fun k h => h.elim⟩
  | succ n =>
    rw [rowZ_pos (by omega)]
    refine ⟨⟨hn, .inr ⟨w.heap.size, n + 1, cs.toArray, rfl, Nat.zero_le _, alloc_get _ _, Nat.le_refl _, hm, by simp [hn], ?_⟩⟩, fun k hk => ?_⟩
    · simp only [List.toList_toArray]; rw [← hn, List.take_length]
    · simp only [rowR, Value.ownBlock] at hk
      obtain rfl := Option.some.inj hk
      rw [alloc_size]; omega
theorem run_buildSlice {n sz e : Nat} {i : TypeInfo} {z : Value} {ps : List (Nat × Operand)} {vs cs : List Value} (hu : P.underlying t = some (.slice e)) (hi : P.info? e = some i) (hz : i.zero = some z) (hsz0 : i.size = sz)
    (hix : ps.map (·.1) = List.range' 0 ps.length) (hvs : ps.map (fun p => ρ p.2) = vs) (hn : ps.length = n) (hsz : ∀ v ∈ vs, v.cells.size = sz) (hb : n * sz ≤ 16777216) (hcs : flatC vs = cs) :
    (execOp ρ ⟨d, .buildSlice t n ps.toArray, ty, pos, aft, gd⟩).run P w = .ok (.value (.slice (some ⟨w.heap.size, 0, none⟩) n n)) (w.alloc (.cells cs.toArray e (0, 0))) := by
  have hlim : ¬ (n * i.size > 2 ^ 24) := by rw [hsz0]; simpa using hb
  have hps : ps.map (fun p => (p.1, ρ p.2)) = partsFrom 0 vs := by rw [partsFrom_map ρ ps 0 hix, hvs]
  have hvl : vs.length = n := by rw [← hvs, ← hn]; simp
  have hparts : ((ps.toArray.map fun (p : Nat × Operand) => (p.1, ρ p.2)).toList) = partsFrom 0 vs := by simpa using hps
  have key : ∀ zero : Array Value, Instr.fill (fun j => some (j * i.size, i.size)) ((Array.range (n * i.size)).map (zero[· % zero.size]!)) ((ps.toArray.map fun (p : Nat × Operand) => (p.1, ρ p.2)).toList) = some cs.toArray := by
    intro zero
    obtain ⟨B, hB, hl⟩ := fill_parts i.size vs 0 ((Array.range (n * i.size)).map (zero[· % zero.size]!)) (by rw [hsz0]; exact hsz) (by simp [hvl])
    have hBcs : B = cs.toArray := by
      apply Array.toList_inj.1
      rw [hl, Nat.zero_mul, putL_all _ _ (by rw [flatC_length i.size vs (by rw [hsz0]; exact hsz)]; simp [hvl]), hcs]
    rw [hparts, hB, hBcs]
  simp only [execOp, Instr.buildSlice, Sem.run_bind, Go.Dk.run_underlying hu, Result.andThen_ok, Go.Dk.run_sizeOf hi, if_neg hlim]
  by_cases h0 : n * i.size = 0
  · rw [if_pos h0]
    simp only [Sem.run_bind, Sem.run_pure, Result.andThen_ok, key, newRow, newObj, Sem.run]
    rfl
  · rw [if_neg h0]
    have hzv : (zeroValue e).run P w = .ok z w := by
      simp only [zeroValue, Sem.run_bind, Go.Dk.run_typeInfo hi, Result.andThen_ok, hz, Sem.run_pure]
    simp only [Sem.run_bind, hzv, Sem.run_pure, Result.andThen_ok, key, newRow, newObj, Sem.run]
    rfl
theorem natIx_out : ∀ (ps : List (Nat × Operand)) (k : Nat), natIx k ps = true → ps.map (·.1) = List.range' k ps.length
  | [], _, _ => rfl
  | p :: ps, k, h => by
    simp only [natIx, Bool.and_eq_true, Nat.beq_eq] at h
    simp only [List.map_cons, List.length_cons, List.range'_succ, natIx_out ps (k + 1) h.2, h.1]
theorem sizes_le {e : TypeId} {k : SK} : k.size ≤ 3 := by cases k <;> decide
theorem evBuildSlice_sound (hI : InvG w0 M Z0 b G s tv w) (hb : b < G.length) {n : Nat} {ps : Array (Nat × Operand)} {ρa : Operand → AV} {k : AV → List AObj → OR} (hρ : ∀ x, RV G (zn w0 Z0 s G) w (ρa x) (ρ x))
    (h : (match kindS P t with
      | some e => cond (natIx 0 ps.toList && (Nat.beq ps.toList.length n && Nat.ble n 4194304))
        ((csL (ps.toList.map fun p => ρa p.2)).bind fun cs => elemsOf e.2 s.heap cs e.2.nil fun d h => k (.v (.one (.own b 0))) (h.set b (.arr e.1 d 0 false))) none
      | none => none) = some r) :
    ∃ v h' G' w' X, k v h' = some r ∧ (execOp ρ ⟨d, .buildSlice t n ps, ty, pos, aft, gd⟩).run P w = .ok (.value X) w' ∧ InvG w0 M Z0 (b + 1) G' ⟨s.tmps, h'⟩ tv w' ∧ RV G' (zn w0 Z0 ⟨s.tmps, h'⟩ G') w' v X ∧ h'.length = s.heap.length ∧ Up G G' := by
  split at h
  · rename_i e hk
    replace h := cond_left h; obtain ⟨hc, h⟩ := h
    simp only [Bool.and_eq_true, Nat.beq_eq, Nat.ble_eq] at hc
    obtain ⟨hix, hlen, hn⟩ := hc
    replace h := bind_some h; obtain ⟨cs, hcs, h⟩ := h
    obtain ⟨hu, hke⟩ := kindS_out hk
    obtain ⟨_, i, z, hi, hz, hsz, _, _⟩ := kindE_out hke
    obtain ⟨xss, hxs, hxr⟩ := csL_sound (Xs := ps.toList.map fun p => ρ p.2) hcs ⟨by simp, fun j a c ha hc => by
      rw [List.getElem?_map] at ha hc
      obtain ⟨p, hp, rfl⟩ := Option.map_eq_some_iff.1 ha
      rw [hp] at hc
      obtain rfl := Option.some.inj hc
      exact hρ p.2⟩
    replace h := elemsOf_sound hI hxr (ElemsR_nil e.2) (SK.nil_kind e.2) h
    obtain ⟨D, h', h, hs, he, hDl, hDk, hall⟩ := h
    have hcl : cs.length = n := by
      have h1 := hxr.1
      have h2 : (ps.toList.map fun p => ρ p.2).length = xss.length := by have := congrArg List.length hxs; simpa using this
      rw [h1, ← h2]; simp [← hlen]
    have hDn : D.len = n := by rw [hDl, SK.nil_len, Nat.zero_add, hcl]
    have hflat : flatC (ps.toList.map fun p => ρ p.2) = xss.flatten := by
      have : ∀ (Xs : List Value) (xss : List (List Value)), Xs.map Value.cells = xss.map List.toArray → flatC Xs = xss.flatten := by
        intro Xs
        induction Xs with
        | nil => intro xss h; cases xss with | nil => rfl | cons => simp at h
        | cons X Xs ih =>
          intro xss h
          cases xss with
          | nil => simp at h
          | cons x xss =>
            simp only [List.map_cons, List.cons.injEq] at h
            have := ih xss h.2
            simp only [flatC] at this
            simp only [flatC, List.flatMap_cons, List.flatten_cons, h.1, this]
      exact this _ _ hxs
    have hrun := run_buildSlice (P := P) (w := w) (ρ := ρ) (d := d) (ty := ty) (pos := pos) (aft := aft) (gd := gd) (n := n) (ps := ps.toList) hu hi hz hsz (natIx_out _ 0 hix) rfl hlen (fun v hv => by
      have : v.cells ∈ xss.map List.toArray := by rw [← hxs]; exact List.mem_map_of_mem hv
      obtain ⟨x, hx, hxe⟩ := List.mem_map.1 this
      rw [← hxe]; simpa using (hall x hx).1) (by have := @sizes_le e.1 e.2; have := Nat.mul_le_mul hn this; omega) hflat
    have hlen2 := he.length
    simp only [List.nil_append] at he hlen2
    rw [hDk] at hlen2
    have hnew := newArr (e := e.1) hs.inv hb (Grow.alloc w (.cells xss.flatten.toArray e.1 (0, 0))) he ⟨some ⟨w.heap.size, 0, none⟩, n, by rw [hDn]⟩ (by
      rw [hDk, hDn]
      exact row_new (by rw [← hDn]; exact hlen2) (by simp only [maxLen]; omega))
    rw [hDk] at hnew
    have hps : ps.toList.toArray = ps := by simp
    rw [hps] at hrun
    exact ⟨_, _, _, _, _, h, hrun, hnew.1, hnew.2.1.rv, by rw [List.length_set]; have := hs.inv.len; have := hI.len; simp at *; omega, hnew.2.2⟩
  · cases h
theorem elems_one {Z : Zone} {D : SD} {ys : List Value} (h : ElemsR Z w D ys) : ∀ u ∈ ys, u.oneCell' = true := by
  cases D with
  | ts l =>
    obtain ⟨hs, _, rfl, _⟩ := h
    induction hs generalizing l with
    | nil => intro u hu; simp [flatT_nil] at hu
    | cons t hs ih =>
      intro u hu
      rw [flatT_cons] at hu
      simp only [List.mem_cons] at hu
      rcases hu with rfl | rfl | rfl | hu
      · rfl
      · rfl
      · rfl
      · rename_i h1 h2; exact ih _ rfl (fun h hh => h2 h (List.mem_cons_of_mem _ hh)) u hu
  | is l => simp only [ElemsR] at h; subst h; intro u hu; obtain ⟨x, _, rfl⟩ := List.mem_map.1 hu; rfl
  | iss l =>
    intro u hu
    obtain ⟨i, hi⟩ := List.getElem?_of_mem hu
    obtain ⟨a, _, c, cap, rfl, _⟩ := All2.get' h hi
    rfl
  | ss l => simp only [ElemsR] at h; subst h; intro u hu; obtain ⟨x, _, rfl⟩ := List.mem_map.1 hu; rfl
  | bs l => simp only [ElemsR] at h; subst h; intro u hu; obtain ⟨x, _, rfl⟩ := List.mem_map.1 hu; rfl
theorem exec_append {v Y v' : Value} (hx : ρ x = v) (hy : ρ y = Y) (hr : (Builtin.append_ #[t, t] ty #[v, Y]).run P w = .ok v' w') :
    (execOp ρ ⟨d, .call ⟨.builtin .append, #[x, y], #[t, t]⟩, ty, pos, aft, gd⟩).run P w = .ok (.value v') w' := by
  unfold execOp
  simp only [resolve, invoke, builtin, Sem.run_bind, Sem.run_pure, Result.andThen_ok, List.map_toArray, List.map_cons, List.map_nil, hx, hy, hr]
theorem run_append_none {e : TypeId} {i : TypeInfo} {a : Option Addr} {n c : Nat} {Y : Value} (hu : P.underlying t = some (.slice e)) (hi : P.info? e = some i) (hY : ∃ a' c', Y = .slice a' 0 c') (hn : n ≤ c) :
    (Builtin.append_ #[t, t] ty #[.slice a n c, Y]).run P w = .ok (.slice a n c) w := by
  obtain ⟨a', c', rfl⟩ := hY
  have hf : (Builtin.firstCells i.size 0 (.slice a' 0 c')).run P w = .ok #[] w := by
    cases a' with
    | none => rfl
    | some a' => simp [Builtin.firstCells, loadCells, loadCellsFrom, Sem.run_pure]
  unfold Builtin.append_
  cases a with
  | none => simp [Sem.run_bind, Go.Dk.run_underlying hu, Go.Dk.run_sizeOf hi, Builtin.lenOf, Sem.run_pure, hn, hf]
  | some a => simp [Sem.run_bind, Go.Dk.run_underlying hu, Go.Dk.run_sizeOf hi, Builtin.lenOf, Sem.run_pure, hn, hf, storeCells]
/-- append, onto a row of the call's own. -/
theorem run_app {e : TypeId × SK} (hk : kindS P t = some e) {v Y : Value} {n : Nat} {xs : List Value} (hown : (rowZ e.1 e.2.size v n xs).own w) (hv : ∃ a c, v = .slice a n c) {Z : Zone} {D : SD} (hD : D.kind = e.2) (hY : RdS Z w D Y) (hroom : n + D.len ≤ 1099511627776) :
    ∃ v' w' ys, ElemsR Z w D ys ∧ (Builtin.append_ #[t, t] ty #[v, Y]).run P w = .ok v' w' ∧ (rowZ e.1 e.2.size v' (n + D.len) (xs ++ ys)).own w' ∧ (∃ a c, v' = .slice a (n + D.len) c) ∧ Ext (rowZ e.1 e.2.size v n xs).foot w w' ∧
      ∀ k, (rowZ e.1 e.2.size v' (n + D.len) (xs ++ ys)).foot k → ((rowZ e.1 e.2.size v n xs).foot k ∨ w.heap.size ≤ k) ∧ k < w'.heap.size := by
  obtain ⟨hu, hke⟩ := kindS_out hk
  obtain ⟨_, i, z, hi, hz, hsz, hzs, hby⟩ := kindE_out hke
  have hpos := SK.size_pos e.2
  obtain ⟨a, c, hv⟩ := hv
  have hrow : n ≤ c ∧ (c = 0 → n = 0 ∧ xs = []) ∧ (c ≠ 0 → w.ownsRow 0 e.1 e.2.size v n xs ∧ ∀ k, (rowZ e.1 e.2.size v n xs).foot k ↔ v.ownBlock = some k) := by
    subst hv
    by_cases hc : c = 0
    · subst hc
      rw [rowZ_zero] at hown
      exact ⟨by rw [hown.1]; exact Nat.zero_le _, fun _ => ⟨hown.1, hown.2.1⟩, fun h => absurd rfl h⟩
    · rw [rowZ_pos hc] at hown
      have h1 : w.ownsRow 0 e.1 e.2.size (.slice a n c) n xs := hown
      refine ⟨?_, fun h => absurd h hc, fun _ => ⟨h1, fun k => by rw [rowZ_pos hc]; rfl⟩⟩
      rcases h1.2 with ⟨h2, h3⟩ | ⟨g, cap, cur, h2, _, _, hn, _⟩
      · rw [h3]; exact Nat.zero_le _
      · injection h2 with _ _ h5; omega
  obtain ⟨hnc, hzero, hpos'⟩ := hrow
  by_cases h0 : D.len = 0
  · have hY' : ∃ a' c', Y = .slice a' 0 c' := by obtain ⟨a', c', ys, hY, _⟩ := hY; exact ⟨a', c', by rw [hY, h0]⟩
    obtain ⟨a', c', ys, hYe, _, he, _⟩ := hY
    have hys : ys = [] := List.eq_nil_of_length_eq_zero (by rw [he.length, h0, Nat.zero_mul])
    subst hys
    refine ⟨v, w, [], he, ?_, by rw [h0, Nat.add_zero, List.append_nil]; exact hown, ⟨a, c, by rw [h0, Nat.add_zero]; exact hv⟩, Ext.refl _ _, fun k hk => ?_⟩
    · rw [hv]; exact run_append_none hu hi hY' hnc
    · rw [h0, Nat.add_zero, List.append_nil] at hk
      refine ⟨.inl hk, ?_⟩
      by_cases hc : c = 0
      · subst hc; subst hv; rw [rowZ_zero] at hk; exact hk.elim
      · obtain ⟨h1, h2⟩ := hpos' hc
        exact (h1.lt k ((h2 k).1 hk)).2
  · obtain ⟨bb, off, c', ys, rfl, he, hc⟩ := hY.ne (by omega)
    have hl : ys.length = D.len * e.2.size := by rw [he.length, hD]
    have hnews : ∀ j u, ys[j]? = some u → w.cell? (Addr.add ⟨bb, off, none⟩ j) = some u := fun j u hj => by rw [addr_add]; exact hc j u hj
    have hone := elems_one he
    have hbytes : (n + D.len) * i.bytes ≤ 140737488355328 := by
      have : (n + D.len) * i.bytes ≤ 1099511627776 * 64 := Nat.mul_le_mul hroom hby
      omega
    have hap : P.underlying t = some (.slice e.1) ∧ ∃ i' z', P.info? e.1 = some i' ∧ i'.zero = some z' ∧ i'.size = e.2.size ∧ i'.bytes = i.bytes ∧ z'.cells.size = e.2.size ∧ 0 < e.2.size := ⟨hu, i, z, hi, hz, hsz, rfl, hzs, hpos⟩
    have fin : ∀ v' w', (Builtin.append_ #[t, t] ty #[v, .slice (some ⟨bb, off, none⟩) D.len c']).run P w = .ok v' w' → w'.ownsRow 0 e.1 e.2.size v' (n + D.len) (xs ++ ys) → Ext (rowZ e.1 e.2.size v n xs).foot w w' →
        (∀ b, v'.ownBlock = some b → (rowZ e.1 e.2.size v n xs).foot b ∨ w.heap.size ≤ b) → 
        ∃ v' w' ys', ElemsR Z w D ys' ∧ (Builtin.append_ #[t, t] ty #[v, .slice (some ⟨bb, off, none⟩) D.len c']).run P w = .ok v' w' ∧ (rowZ e.1 e.2.size v' (n + D.len) (xs ++ ys')).own w' ∧ (∃ a c, v' = .slice a (n + D.len) c) ∧ Ext (rowZ e.1 e.2.size v n xs).foot w w' ∧
          ∀ k, (rowZ e.1 e.2.size v' (n + D.len) (xs ++ ys')).foot k → ((rowZ e.1 e.2.size v n xs).foot k ∨ w.heap.size ≤ k) ∧ k < w'.heap.size := by
      intro v' w' hr ho hx hf
      have ho' := ho
      rcases ho.2 with ⟨_, h3⟩ | ⟨g, cap, cur, h2, _, _, hn, _⟩
      · omega
      · refine ⟨v', w', ys, he, hr, ?_, ⟨_, cap, h2⟩, hx, ?_⟩
        · rw [h2, rowZ_pos (by omega)]; rw [h2] at ho'; exact ho'
        · rw [h2, rowZ_pos (by omega)]
          intro k hk
          rw [h2] at hf ho'
          exact ⟨hf k hk, (ho'.lt k hk).2⟩
    by_cases hc0 : c = 0
    · obtain ⟨rfl, rfl⟩ := hzero hc0
      subst hc0
      have hfoot : ∀ k, ¬ (rowZ e.1 e.2.size v 0 []).foot k := by subst hv; rw [rowZ_zero]; exact fun k h => h
      cases a with
      | none =>
        obtain ⟨v', w', hr, ho, hg, hf⟩ := run_append_row (P := P) w t ty hap v 0 [] (by rw [hv]; exact World.ownsRow_nil w 0 e.1 e.2.size) ⟨bb, off, none⟩ D.len c' ys hl hnews (fun u hu => hone u hu) hbytes (by omega)
        refine fin v' w' hr ho ((grownBy_ext hg).weak fun k _ hk => ?_) fun b hb => .inr ?_
        · rw [hv] at hk; cases hk
        · rcases hf b hb with h | h
          · rw [hv] at h; cases h
          · exact h
      | some ad =>
        obtain ⟨v', w', hr, ho, hg⟩ := run_append_arg_grows (P := P) w t ty e.1 i z e.2.size i.bytes hu hi hz hsz rfl hzs hpos ad 0 0 [] (by simp) (fun j u hj => by simp at hj) ⟨bb, off, none⟩ D.len c' ys hl hnews (by omega) (by simp only [maxLen]; omega) hbytes
        rw [← hv] at hr
        refine fin v' w' hr ⟨ho.1, ho.2.imp id fun ⟨g, cap, cur, h1, h2, h3⟩ => ⟨g, cap, cur, h1, Nat.zero_le _, h3⟩⟩ ⟨hg.os, hg.tape, hg.output, hg.size, fun k hk _ => hg.block k hk nofun⟩ fun b hb => .inr (ho.lt b hb).1
    · obtain ⟨h1, h2⟩ := hpos' hc0
      obtain ⟨v', w', hr, ho, hg, hf⟩ := run_append_row (P := P) w t ty hap v n xs h1 ⟨bb, off, none⟩ D.len c' ys hl hnews (fun u hu => hone u hu) hbytes (by omega)
      exact fin v' w' hr ho ((grownBy_ext hg).weak fun k _ hk => (h2 k).2 hk) fun b hb => (hf b hb).imp (h2 b).2 id
theorem app_sound {Z : Zone} {D D' : SD} {xs ys : List Value} {k : SD → OR} (h1 : ElemsR Z w D xs) (h2 : ElemsR Z w D' ys) (h : D.app D' k = some r) : ∃ D'', k D'' = some r ∧ ElemsR Z w D'' (xs ++ ys) ∧ D''.len = D.len + D'.len ∧ D''.kind = D.kind := by
  unfold SD.app at h
  split at h
  · obtain ⟨hs, rfl, rfl, hr⟩ := h1
    obtain ⟨hs', rfl, rfl, hr'⟩ := h2
    exact ⟨_, h, ⟨hs ++ hs', by simp, by rw [flatT_append], fun u hu => (List.mem_append.1 hu).elim (hr u) (hr' u)⟩, by simp [SD.len], rfl⟩
  · simp only [ElemsR] at h1 h2; subst h1 h2; exact ⟨_, h, by simp [ElemsR], by simp [SD.len], rfl⟩
  · exact ⟨_, h, All2.append h1 h2, by simp [SD.len], rfl⟩
  · simp only [ElemsR] at h1 h2; subst h1 h2; exact ⟨_, h, by simp [ElemsR], by simp [SD.len], rfl⟩
  · simp only [ElemsR] at h1 h2; subst h1 h2; exact ⟨_, h, by simp [ElemsR], by simp [SD.len], rfl⟩
  · cases h
theorem evAppend_sound (hI : InvG w0 M Z0 b G s tv w) (hb : b < G.length) {k : SV → List AObj → OR} (hx : RV G (zn w0 Z0 s G) w vx (ρ x)) (hy : RV G (zn w0 Z0 s G) w vy (ρ y)) (h : evAppend P t vx vy s.heap b k = some r) :
    ∃ v h' G' w' X, k v h' = some r ∧ (execOp ρ ⟨d, .call ⟨.builtin .append, #[x, y], #[t, t]⟩, ty, pos, aft, gd⟩).run P w = .ok (.value X) w' ∧ InvG w0 M Z0 (b + 1) G' ⟨s.tmps, h'⟩ tv w' ∧ OneR G' (zn w0 Z0 ⟨s.tmps, h'⟩ G') w' v X ∧ h'.length = s.heap.length ∧ Up G G' := by
  unfold evAppend at h
  split at h
  · cases h
  · rename_i e hk
    split at h
    · replace h := readS_sound hI hy.1 h; obtain ⟨D, h, hrd⟩ := h
      replace h := cond_left h; obtain ⟨hek, h⟩ := h
      have hek := SK.beq_eq hek
      split at h
      · rename_i j v
        split at h
        · rename_i e' D0 ver hj
          replace h := cond_left h; obtain ⟨hc, h⟩ := h
          simp only [Bool.and_eq_true, Nat.beq_eq] at hc
          obtain ⟨hv, he'⟩ := hc
          obtain ⟨val, xs, hg, hel, hval, hown⟩ := hI.row hj
          have hX := own_val hx.1 hg hv
          have happ : ∀ ys, ElemsR (zn w0 Z0 s G) w D ys → ∃ D'', (cond (roomB D''.len) (k (.own j (ver + 1)) (s.heap.set j (.arr e' D'' (ver + 1) false))) none) = some r ∧ ElemsR (zn w0 Z0 s G) w D'' (xs ++ ys) ∧ D''.len = D0.len + D.len ∧ D''.kind = D0.kind := fun ys hys => app_sound hel hys h
          have hrd' := hrd
          obtain ⟨a', c', ys0, _, _, hel0, _⟩ := hrd
          obtain ⟨D1, h1, _, hl1, hk1⟩ := happ ys0 hel0
          have hkk : D0.kind = e.2 := by
            cases D0 <;> cases D <;> first | exact hek.symm | (simp [SD.app] at h)
          have hroom : D0.len + D.len ≤ 1099511627776 := by
            have := (cond_left h1).1
            simp only [roomB, decide_eq_true_eq] at this
            omega
          obtain ⟨v', w', ys, hys, hr, hown', hval', hext, hfoot⟩ := run_app (P := P) (t := t) (ty := ty) (w := w) (v := val) (n := D0.len) (xs := xs) hk (by rw [he', ← hkk]; exact hown) hval hek.symm hrd' hroom
          obtain ⟨D'', h2, hel'', hl'', hk''⟩ := happ ys hys
          have h2' := (cond_left h2).2
          have hup : Up G (G.set j (.arr (ver + 1) v' D0.kind.size (xs ++ ys))) := Up.set fun g0 h0 => by rw [hg] at h0; obtain rfl := Option.some.inj h0; exact ⟨rfl, .inl (Nat.lt_succ_self _)⟩
          have hu := hI.updObj (o' := .arr e' D'' (ver + 1) false) (g' := .arr (ver + 1) v' D0.kind.size (xs ++ ys)) (q := rowZ e' D0.kind.size val D0.len xs) (q' := rowZ e' D0.kind.size v' D''.len (xs ++ ys)) hj hg nofun rfl
            (by rw [← he', hkk]; exact hext) rfl (by rw [← he', hkk, hl'']; exact hown') (by rw [← he', hkk, hl'']; exact hfoot) hup
            (fun Z' hk => ⟨rfl, hk''.symm ▸ rfl, hel''.stable hk, by rw [hl'']; exact hval'⟩)
          refine ⟨_, _, _, w', v', h2', exec_append hX rfl hr, hu.1.raise (Nat.le_succ _), ⟨.inr ⟨ver + 1, v', D0.kind.size, xs ++ ys, by simp [lt_of_some hg], Nat.le_refl _, fun _ => rfl⟩, ?_⟩, by simp, hup⟩
          obtain ⟨a, c, rfl⟩ := hval'; rfl
        · cases h
      · replace h := cond_left h; obtain ⟨hroom, h⟩ := h
        simp only [roomB, decide_eq_true_eq] at hroom
        obtain ⟨a, hX⟩ := hx.1
        obtain ⟨v', w', ys, hys, hr, hown', hval', hext, hfoot⟩ := run_app (P := P) (t := t) (ty := ty) (w := w) (v := .slice a 0 0) (n := 0) (xs := []) hk (by rw [rowZ_zero]; exact ⟨rfl, rfl, rfl⟩) ⟨a, 0, rfl⟩ hek.symm hrd (by omega)
        rw [rowZ_zero] at hext hfoot
        simp only [Nat.zero_add, List.nil_append] at hown' hval' hfoot
        have hnew := newArr (e := e.1) (b := b) hI hb (hext.weak fun _ _ h => h) hys hval' ⟨by rw [← hek]; exact hown', fun k hk => by rw [← hek] at hk; exact ⟨(hfoot k hk).1.resolve_left id, (hfoot k hk).2⟩⟩
        exact ⟨_, _, _, w', v', h, exec_append hX rfl hr, hnew.1, hnew.2.1, by simp, hnew.2.2⟩
      · cases h
    · cases h
theorem flatT_replicate (n : Nat) (t : HT) : flatT (List.replicate n t) = (List.replicate n [.int .i64 t.k, .int .i64 t.n, t.sl]).flatten := by
  induction n with
  | zero => rfl
  | succ n ih => rw [List.replicate_succ, flatT_cons, ih, List.replicate_succ, List.flatten_cons]; rfl
theorem flatten_one {α : Type} (n : Nat) (a : α) : (List.replicate n [a]).flatten = List.replicate n a := by
  induction n with
  | zero => rfl
  | succ n ih => rw [List.replicate_succ, List.flatten_cons, ih, List.replicate_succ]; rfl
theorem zeros_sound {Z : Zone} {e : TypeId} {k : SK} {n : Nat} {D : SD} (hz : zeroIs P e k = true) (h : zeros n k = some D) : ∃ zs, zeroB P e = some zs ∧ zs.length = k.size ∧ ElemsR Z w D (List.replicate n zs).flatten ∧ D.len = n ∧ D.kind = k := by
  unfold zeroIs at hz
  split at hz
  · rename_i h1
    simp only [Bool.and_eq_true, decide_eq_true_eq] at hz
    obtain ⟨rfl, rfl⟩ := hz
    simp only [zeros, Option.some.injEq] at h; subst h
    refine ⟨_, h1, rfl, ⟨List.replicate n (.mk 0 0 none 0 []), by simp [HT.er, HT.erL], ?_, fun u hu => ?_⟩, by simp [SD.len], rfl⟩
    · rw [flatT_replicate]; rfl
    · rw [(List.mem_replicate.1 hu).2]; exact Rd_none
  · rename_i h1
    simp only [decide_eq_true_eq] at hz; subst hz
    simp only [zeros, Option.some.injEq] at h; subst h
    exact ⟨_, h1, rfl, by simp [ElemsR, flatten_one], by simp [SD.len], rfl⟩
  · rename_i h1
    simp only [decide_eq_true_eq] at hz; subst hz
    simp only [zeros, Option.some.injEq] at h; subst h
    exact ⟨_, h1, rfl, by simp [ElemsR, flatten_one], by simp [SD.len], rfl⟩
  · rename_i h1
    simp only [decide_eq_true_eq] at hz; subst hz
    simp only [zeros, Option.some.injEq] at h; subst h
    exact ⟨_, h1, rfl, by simp [ElemsR, flatten_one], by simp [SD.len], rfl⟩
  · cases hz
theorem evMake_sound (hI : InvG w0 M Z0 b G s tv w) (hb : b < G.length) {k : SV → List AObj → OR} (hx : RV G (zn w0 Z0 s G) w vx (ρ x)) (hy : RV G (zn w0 Z0 s G) w vy (ρ y)) (h : evMake P t vx vy s.heap b k = some r) :
    ∃ v h' G' w' X, k v h' = some r ∧ (execOp ρ ⟨d, .makeSlice t x y, ty, pos, aft, gd⟩).run P w = .ok (.value X) w' ∧ InvG w0 M Z0 (b + 1) G' ⟨s.tmps, h'⟩ tv w' ∧ OneR G' (zn w0 Z0 ⟨s.tmps, h'⟩ G') w' v X ∧ h'.length = s.heap.length ∧ Up G G' := by
  unfold evMake at h
  replace h := optInt_some h hx; obtain ⟨n, hX, h⟩ := h
  replace h := optInt_some h hy; obtain ⟨m, hY, h⟩ := h
  replace h := cond_left h; obtain ⟨hc, h⟩ := h
  simp only [Bool.and_eq_true, decide_eq_true_eq] at hc
  obtain ⟨rfl, hn0, hn⟩ := hc
  split at h
  · rename_i e hk
    replace h := cond_left h; obtain ⟨hz, h⟩ := h
    replace h := bind_some h; obtain ⟨D, hD, h⟩ := h
    obtain ⟨zs, hzb, hzl, hel, hDl, hDk⟩ := zeros_sound (Z := zn w0 Z0 s G) (w := w) hz hD
    obtain ⟨hu, hke⟩ := kindS_out hk
    obtain ⟨_, i, z, hi, hiz, hsz, hzs, hby⟩ := kindE_out hke
    have hzz := hzb
    unfold zeroB at hzz
    simp only [hi, hiz, Option.some.injEq] at hzz
    have hs3 := @sizes_le e.1 e.2
    have hpos := SK.size_pos e.2
    have hr := run_makeSlice (P := P) w t e.1 i z hu hi hiz .i64 .i64 n n (by omega) (by omega) (by
        rw [hsz]
        have := Nat.mul_le_mul (show n.toNat ≤ 4194304 by omega) hs3
        omega) (by
        have : (i.bytes : Int) * n ≤ 64 * 4194304 := Int.mul_le_mul (by omega) (by omega) (by omega) (by omega)
        omega) (by omega)
    have hcs : madeCells z.cells (n.toNat * i.size) = ((List.replicate n.toNat zs).flatten).toArray := by
      apply Array.toList_inj.1
      rw [← made_eq, hzl, hsz, ← hzz]
    have hlen := hel.length
    rw [hDk] at hlen
    have hnew := newArr (e := e.1) (b := b) hI hb (Grow.alloc w (.cells ((List.replicate n.toNat zs).flatten).toArray e.1 (0, 0))) hel ⟨some ⟨w.heap.size, 0, none⟩, n.toNat, by rw [hDl]⟩ (by
      rw [hDk, hDl]
      exact row_new (by rw [hDl] at hlen; exact hlen) (by simp only [maxLen]; omega))
    refine ⟨_, _, _, _, _, h, ?_, hnew.1, hnew.2.1, by simp, hnew.2.2⟩
    rw [hcs] at hr
    simp only [execOp, hX, hY, Sem.run_bind, hr, Result.andThen_ok, Sem.run_pure]
  · cases h

/-! Structs out of parts. -/
theorem build_fill {Z : Zone} {pl : List (Nat × Nat)} : ∀ {ps : List (Nat × AV)} {Xs : List Value} {z : List SV} {zs : List Value} {c : List SV}, All2 (OneR G Z w) z zs → All2 (fun (p : Nat × AV) X => RV G Z w p.2 X) ps Xs → buildS pl z ps = some c →
    ∃ cs : List Value, Instr.fill (pl.toArray[·]?) zs.toArray ((ps.map (·.1)).zip Xs) = some cs.toArray ∧ All2 (OneR G Z w) c cs
  | [], Xs, z, zs, c, hz, ha, h => by
    obtain rfl := ha.nil_inv
    simp only [buildS, Option.some.injEq] at h; subst h
    exact ⟨zs, rfl, hz⟩
  | p :: ps, Xs, z, zs, c, hz, ha, h => by
    obtain ⟨X, Xs', rfl, h1, h2⟩ := ha.cons_inv
    simp only [buildS] at h
    cases hpl : pl[p.1]? with
    | none => simp [hpl] at h
    | some o =>
      cases hcs : p.2.cs with
      | none => simp [hpl, hcs] at h
      | some cc =>
        simp only [hpl, hcs, Option.bind_some] at h
        cases hb : (Nat.beq cc.length o.2 && Nat.ble (o.1 + o.2) z.length) with
        | false => simp [hb] at h
        | true =>
          simp only [hb, cond_true] at h
          simp only [Bool.and_eq_true, Nat.beq_eq, Nat.ble_eq] at hb
          obtain ⟨xs, hx, hr⟩ := cs_sound hcs h1
          obtain ⟨cs, hf, hc⟩ := build_fill (put_rel (off := o.1) hz hr) h2 h
          refine ⟨cs, ?_, hc⟩
          have hsz : X.cells.size = o.2 := by rw [hx, List.size_toArray, ← hr.1, hb.1]
          have hpl' : pl.toArray[p.1]? = some (o.1, o.2) := by simpa using hpl
          simp only [List.map_cons, List.zip_cons_cons, Instr.fill, hpl']
          rw [if_neg (by rw [hsz]; simp [← hz.1]; omega)]
          have hfold : (X.cells.zipIdx.foldl (fun cs (p : Value × Nat) => cs.setIfInBounds (o.1 + p.2) p.1) zs.toArray) = (putL zs o.1 xs).toArray := by
            apply Array.toList_inj.1
            have := foldl_put xs 0 o.1 zs.toArray
            simp only [Nat.add_zero] at this
            rw [← this, hx, ← Array.foldl_toList]
            simp
          rw [hfold]; exact hf
theorem evBuild_sound {Z : Zone} {ps : Array (Nat × Operand)} {ρa : Operand → AV} {k : AV → OR} (hρ : ∀ x, RV G Z w (ρa x) (ρ x)) (h : evBuild P t (ps.toList.map fun p => (p.1, ρa p.2)) k = some r) :
    ∃ v X, k v = some r ∧ (execOp ρ ⟨d, .build t ps, ty, pos, aft, gd⟩).run P w = .ok (.value X) w ∧ RV G Z w v X := by
  unfold evBuild at h
  replace h := bind_some h; obtain ⟨pl, hpl, h⟩ := h
  replace h := bind_some h; obtain ⟨z, hz, h⟩ := h
  replace h := bind_some h; obtain ⟨c, hc, h⟩ := h
  obtain ⟨zs, hzb, hzr⟩ := zeroS_out hz
  obtain ⟨cs, hf, hcr⟩ := build_fill (G := G) (Z := Z) (w := w) (Xs := ps.toList.map fun p => ρ p.2) (hzr G Z w) ⟨by simp, fun i a c ha hc => by
    rw [List.getElem?_map] at ha hc
    obtain ⟨p, hp, rfl⟩ := Option.map_eq_some_iff.1 ha
    rw [hp] at hc
    obtain rfl := Option.some.inj hc
    exact hρ p.2⟩ hc
  refine ⟨_, .agg cs.toArray, h, ?_, cs, rfl, hcr⟩
  have hb : P.built t ((ps.map fun p => (p.1, ρ p.2)).toList) = some cs.toArray := by
    unfold zeroB at hzb
    split at hzb
    · rename_i i hi
      split at hzb
      · rename_i zz hzz
        obtain rfl := Option.some.inj hzb
        unfold placesT at hpl
        split at hpl
        · rename_i fs hu
          unfold Program.built
          simp only [hi, hu, hzz, hpl]
          rw [← hf]
          congr 1
          · have : ∀ l : List (Nat × Operand), (l.map fun p => (p.1, ρ p.2)) = ((l.map fun p => (p.1, ρa p.2)).map (·.1)).zip (l.map fun p => ρ p.2) := by
              intro l
              induction l with
              | nil => rfl
              | cons p l ih => simp only [List.map_cons, List.zip_cons_cons, ih]
            rw [← this]; simp
        · cases hpl
      · cases hzb
    · cases hzb
  simp only [execOp, Sem.run_bind, Go.run_build w t _ _ hb, Result.andThen_ok, Sem.run_pure]

/-! Parts of slices and of strings. -/
theorem sub_len {D : SD} {lo hi : Nat} (h : lo ≤ hi) (h2 : hi ≤ D.len) : (D.sub lo hi).len = hi - lo := by
  cases D <;> simp [SD.sub, SD.len] at * <;> omega
theorem sub_kind {D : SD} {lo hi : Nat} : (D.sub lo hi).kind = D.kind := by cases D <;> rfl
theorem flatT_take (n : Nat) : ∀ hs : List HT, (flatT hs).take (n * 3) = flatT (hs.take n) := by
  induction n with
  | zero => intro hs; simp [flatT_nil]
  | succ n ih =>
    intro hs
    cases hs with
    | nil => simp [flatT_nil]
    | cons t hs => rw [flatT_cons, List.take_succ_cons, flatT_cons, ← ih]; rw [show (n + 1) * 3 = n * 3 + 1 + 1 + 1 by omega]; rfl
theorem flatT_drop (n : Nat) : ∀ hs : List HT, (flatT hs).drop (n * 3) = flatT (hs.drop n) := by
  induction n with
  | zero => intro hs; simp
  | succ n ih =>
    intro hs
    cases hs with
    | nil => simp [flatT_nil]
    | cons t hs => rw [flatT_cons, List.drop_succ_cons, ← ih]; rw [show (n + 1) * 3 = n * 3 + 1 + 1 + 1 by omega]; rfl
theorem sub_sound {Z : Zone} {D : SD} {xs : List Value} (h : ElemsR Z w D xs) (lo hi : Nat) : ElemsR Z w (D.sub lo hi) ((xs.take (hi * D.kind.size)).drop (lo * D.kind.size)) := by
  cases D with
  | ts l =>
    obtain ⟨hs, rfl, rfl, hr⟩ := h
    refine ⟨(hs.take hi).drop lo, by rw [List.map_drop, List.map_take], ?_, fun t ht => hr t (List.mem_of_mem_take (List.mem_of_mem_drop ht))⟩
    simp only [SD.kind, SK.size]
    rw [flatT_take, flatT_drop]
  | is l => simp only [ElemsR] at h; subst h; simp [ElemsR, SD.sub, SD.kind, SK.size, List.map_take, List.map_drop]
  | iss l => simp only [SD.kind, SK.size, Nat.mul_one]; exact (All2.take h hi).drop lo
  | ss l => simp only [ElemsR] at h; subst h; simp [ElemsR, SD.sub, SD.kind, SK.size, List.map_take, List.map_drop]
  | bs l => simp only [ElemsR] at h; subst h; simp [ElemsR, SD.sub, SD.kind, SK.size, List.map_take, List.map_drop]
theorem kindEq_out {o : Option (TypeId × SK)} {k : SK} (h : evSlice.kindEq o k = true) : ∃ e, o = some (e, k) := by
  cases o with
  | none => cases h
  | some a => have := SK.beq_eq h; exact ⟨a.1, by rw [← this]⟩
theorem optRV {Z : Zone} {lo : Option Operand} {ρa : Operand → AV} {v : AV} (hρ : ∀ x, RV G Z w (ρa x) (ρ x)) (h : lo.map ρa = some v) : ∃ X, lo.map ρ = some X ∧ RV G Z w v X := by
  cases lo with
  | none => cases h
  | some x => obtain rfl := Option.some.inj h; exact ⟨_, rfl, hρ x⟩
theorem bounds_sound {Z : Zone} {lo hi : Option Operand} {ρa : Operand → AV} {n : Nat} {k : Int → Int → OR} (hρ : ∀ x, RV G Z w (ρa x) (ρ x)) (h : evSlice.bounds (lo.map ρa) (hi.map ρa) n k = some r) :
    ∃ l m : Int, k l m = some r ∧ 0 ≤ l ∧ l ≤ m ∧ m ≤ n ∧ (∀ sl cap : Nat, n ≤ cap → ∀ b, (Instr.sliceBounds b n cap (lo.map ρ) (hi.map ρ) none).run P w = .ok (l.toNat, m.toNat, cap) w) := by
  unfold evSlice.bounds at h
  split at h
  · rename_i h1 h2
    have h1 : lo = none := by cases lo <;> simp_all
    have h2 : hi = none := by cases hi <;> simp_all
    subst h1 h2
    refine ⟨0, n, h, Int.le_refl _, by omega, Int.le_refl _, fun _ cap hc b => ?_⟩
    simp [Instr.sliceBounds, Sem.run_bind, Sem.run_pure]
  · rename_i h1 h2
    have h2 : hi = none := by cases hi <;> simp_all
    subst h2
    obtain ⟨X, hX, hr⟩ := optRV hρ h1
    replace h := optInt_some h hr; obtain ⟨l, rfl, h⟩ := h
    replace h := cond_left h; obtain ⟨hc, h⟩ := h
    simp only [inB, Bool.and_eq_true, decide_eq_true_eq] at hc
    refine ⟨l, n, h, hc.1, hc.2.1, hc.2.2, fun _ cap hcap b => ?_⟩
    have hb : 0 ≤ l ∧ l ≤ (n : Int) := ⟨hc.1, hc.2.1⟩
    simp [Instr.sliceBounds, hX, Instr.sliceBound, asIntOf, Sem.run_bind, Sem.run_pure, hb]
  · rename_i h1 h2
    have h1 : lo = none := by cases lo <;> simp_all
    subst h1
    obtain ⟨X, hX, hr⟩ := optRV hρ h2
    replace h := optInt_some h hr; obtain ⟨m, rfl, h⟩ := h
    replace h := cond_left h; obtain ⟨hc, h⟩ := h
    simp only [inB, Bool.and_eq_true, decide_eq_true_eq] at hc
    refine ⟨0, m, h, Int.le_refl _, hc.2.1, hc.2.2, fun _ cap hcap b => ?_⟩
    have hb : 0 ≤ m ∧ m ≤ (cap : Int) := ⟨hc.2.1, by omega⟩
    simp [Instr.sliceBounds, hX, Instr.sliceBound, asIntOf, Sem.run_bind, Sem.run_pure, hb]
  · rename_i h1 h2
    obtain ⟨X, hX, hr⟩ := optRV hρ h1
    obtain ⟨Y, hY, hr2⟩ := optRV hρ h2
    replace h := optInt_some h hr; obtain ⟨l, rfl, h⟩ := h
    replace h := optInt_some h hr2; obtain ⟨m, rfl, h⟩ := h
    replace h := cond_left h; obtain ⟨hc, h⟩ := h
    simp only [inB, Bool.and_eq_true, decide_eq_true_eq] at hc
    refine ⟨l, m, h, hc.1, hc.2.1, hc.2.2, fun _ cap hcap b => ?_⟩
    have hb : 0 ≤ m ∧ m ≤ (cap : Int) := ⟨by omega, by omega⟩
    have hb2 : 0 ≤ l ∧ l ≤ ((m.toNat : Nat) : Int) := ⟨hc.1, by omega⟩
    simp [Instr.sliceBounds, hX, hY, Instr.sliceBound, asIntOf, Sem.run_bind, Sem.run_pure, hb]
    intro hq; omega
theorem SlR.sub {Z : Zone} {D : SD} {a : Option Addr} {n c : Nat} (h : SlR Z w D (.slice a n c)) {l m : Nat} (h1 : l ≤ m) (h2 : m ≤ n) : SlR Z w (D.sub l m) (.slice (if c = l then a else a.map (·.add (l * D.kind.size))) (m - l) (c - l)) := by
  obtain ⟨a', c', xs, hX, hc, hm, he, hb⟩ := h
  injection hX with e1 e2 e3
  subst e1 e2 e3
  refine ⟨_, _, _, by rw [sub_len h1 h2], by rw [sub_len h1 h2]; omega, by rw [sub_len h1 h2]; omega, sub_sound he l m, ?_⟩
  rcases hb with rfl | ⟨bb, off, rfl, hz, hc'⟩
  · left; simp
  · by_cases hcl : c = l
    · left
      have : m = l := by omega
      subst this
      apply List.drop_eq_nil_of_le
      rw [List.length_take]; exact Nat.min_le_left _ _
    · right
      refine ⟨bb, off + l * D.kind.size, by rw [if_neg hcl]; simp [addr_add], hz, fun i x hx => ?_⟩
      rw [List.getElem?_drop, List.getElem?_take] at hx
      split at hx
      · rw [Nat.add_assoc]; exact hc' _ x hx
      · cases hx
theorem evSlice_sound (hI : InvG w0 M Z0 b G s tv w) {lo hi mx : Option Operand} {ρa : Operand → AV} {k : SV → List AObj → OR} (hρ : ∀ x, RV G (zn w0 Z0 s G) w (ρa x) (ρ x)) (h : evSlice P t (ρa x) (lo.map ρa) (hi.map ρa) (mx.map ρa) s.heap k = some r) :
    ∃ v h' X, k v h' = some r ∧ (execOp ρ ⟨d, .slice t x lo hi mx, ty, pos, aft, gd⟩).run P w = .ok (.value X) w ∧ Sealed w0 M Z0 b G s tv w h' ∧ OneR G (zn w0 Z0 ⟨s.tmps, h'⟩ G) w v X := by
  have hx := hρ x
  unfold evSlice at h
  split at h
  · rename_i m0 hmx
    obtain ⟨MX, hMX, hrm⟩ := optRV hρ hmx
    replace h := cond_left h; obtain ⟨hks, h⟩ := h
    have hne : kindS P t ≠ none := by intro e; rw [e] at hks; cases hks
    replace h := optInt_some h hrm; obtain ⟨m, rfl, h⟩ := h
    have fin : ∀ {kk : TypeId × SK} {n cap : Nat} {a : Option Addr}, kindS P t = some kk → ρ x = .slice a n cap → ∀ n' : Int, hi.map ρ = some (.int .i64 n') → m = 0 → n' = 0 → (lo = none ∨ lo.map ρ = some (.int .i64 0)) →
        ∃ a', (execOp ρ ⟨d, .slice t x lo hi mx, ty, pos, aft, gd⟩).run P w = .ok (.value (.slice a' 0 0)) w := by
      intro kk n cap a hk hX n' hH hm hn hlo
      subst hm hn
      obtain ⟨hu, hke⟩ := kindS_out hk
      obtain ⟨_, i, z, hi', hz, hsz, _, _⟩ := kindE_out hke
      refine ⟨a, ?_⟩
      rcases hlo with rfl | hlo
      · simp [execOp, Instr.sliceAt, Instr.slice, Sem.run_bind, Go.Dk.run_underlying hu, hX, hMX, hH, Instr.sliceBounds, Instr.sliceBound, asIntOf, Go.Dk.run_sizeOf hi', Sem.run_pure]
      · simp [execOp, Instr.sliceAt, Instr.slice, Sem.run_bind, Go.Dk.run_underlying hu, hX, hMX, hH, hlo, Instr.sliceBounds, Instr.sliceBound, asIntOf, Go.Dk.run_sizeOf hi', Sem.run_pure]
    have body : ∀ n' : Int, hi.map ρ = some (.int .i64 n') → m = 0 → n' = 0 → (lo = none ∨ lo.map ρ = some (.int .i64 0)) → (match ρa x with
      | .v (.one (.fr d)) => cond (evSlice.kindEq (kindS P t) d.kind) (k (.emp (kindS P t)) s.heap) none
      | .v (.one (.own j v)) => (match s.heap[j]? with
        | some (.arr _ d ver _) => cond (Nat.beq v ver && evSlice.kindEq (kindS P t) d.kind) (k (.emp (kindS P t)) s.heap) none
        | _ => none)
      | .v (.one (.emp e)) => (k (.emp (kindS P t)) s.heap)
      | _ => none) = some r → kindS P t ≠ none → 
        ∃ v h' X, k v h' = some r ∧ (execOp ρ ⟨d, .slice t x lo hi mx, ty, pos, aft, gd⟩).run P w = .ok (.value X) w ∧ Sealed w0 M Z0 b G s tv w h' ∧ OneR G (zn w0 Z0 ⟨s.tmps, h'⟩ G) w v X := by
      intro n' hH hm hn hlo h hne
      split at h
      · rename_i D hax
        rw [hax] at hx
        replace h := cond_left h; obtain ⟨hk, h⟩ := h
        obtain ⟨e, hk⟩ := kindEq_out hk
        obtain ⟨a, c, hX⟩ := SlR.val hx.1
        obtain ⟨a', hr⟩ := fin hk hX n' hH hm hn hlo
        exact ⟨_, _, _, h, hr, Sealed.refl hI, ⟨a', rfl⟩, rfl⟩
      · rename_i j v hax
        rw [hax] at hx
        split at h
        · rename_i D ver fz hj
          replace h := cond_left h; obtain ⟨hk, h⟩ := h
          simp only [Bool.and_eq_true, Nat.beq_eq] at hk
          obtain ⟨e, hk2⟩ := kindEq_out hk.2
          obtain ⟨val, xs, hg, a, c, ys, hval, _⟩ := hI.arr_rd hj
          obtain ⟨a', hr⟩ := fin hk2 ((own_val hx.1 hg hk.1).trans hval) n' hH hm hn hlo
          exact ⟨_, _, _, h, hr, Sealed.refl hI, ⟨a', rfl⟩, rfl⟩
        · cases h
      · rename_i e hax
        rw [hax] at hx
        obtain ⟨a, hX⟩ := hx.1
        cases hk : kindS P t with
        | none => exact absurd hk hne
        | some kk =>
          obtain ⟨a', hr⟩ := fin hk hX n' hH hm hn hlo
          exact ⟨_, _, _, h, hr, Sealed.refl hI, ⟨a', rfl⟩, rfl⟩
      · cases h
    split at h
    · rename_i H hhi hlo
      have hlo : lo = none := by cases lo <;> simp_all
      obtain ⟨HX, hHX, hrh⟩ := optRV hρ hhi
      replace h := optInt_some h hrh; obtain ⟨n', rfl, h⟩ := h
      replace h := cond_left h; obtain ⟨hc, h⟩ := h
      simp only [Bool.and_eq_true, decide_eq_true_eq] at hc
      exact body n' hHX hc.1 hc.2 (.inl hlo) h hne
    · rename_i H L hhi hlo
      obtain ⟨HX, hHX, hrh⟩ := optRV hρ hhi
      obtain ⟨LX, hLX, hrl⟩ := optRV hρ hlo
      replace h := optInt_some h hrh; obtain ⟨n', rfl, h⟩ := h
      replace h := optInt_some h hrl; obtain ⟨l', rfl, h⟩ := h
      replace h := cond_left h; obtain ⟨hc, h⟩ := h
      simp only [Bool.and_eq_true, decide_eq_true_eq] at hc
      exact body n' hHX hc.1 hc.2.1 (.inr (by rw [hLX, hc.2.2])) h hne
    · cases h
  · rename_i hmx
    have hmx : mx = none := by cases mx <;> simp_all
    subst hmx
    split at h
    · rename_i a hax
      rw [hax] at hx
      split at h
      · rename_i hu
        obtain ⟨l, m, h', hl, hlm, hm, hb⟩ := bounds_sound (P := P) hρ h
        refine ⟨_, _, _, h', ?_, Sealed.refl hI, str_one _⟩
        simp only [execOp, Instr.sliceAt, Instr.slice, Sem.run_bind, Go.Dk.run_underlying hu, Result.andThen_ok, str_inv hx, Option.map_none]
        simp [Sem.run_bind, hb 0 a.size (Nat.le_refl _) false, Sem.run_pure]
      · cases h
    · rename_i v hv hax
      rw [hax] at hx
      split at h
      · rename_i e hk
        obtain ⟨hu, hke⟩ := kindS_out hk
        obtain ⟨_, i, z, hi', hz, hsz, _, _⟩ := kindE_out hke
        have hone : OneR G (zn w0 Z0 s G) w v (ρ x) := by
          refine ⟨hx.1, hx.2 ?_⟩
          rintro rfl
          simp [sealS] at h
        replace h := sealS_sound hI hone h; obtain ⟨v', h', h, hs, hv'⟩ := h
        split at h
        · rename_i D
          replace h := cond_left h; obtain ⟨hek, h⟩ := h
          have hek := SK.beq_eq hek
          obtain ⟨l, m, h2, hl, hlm, hm, hb⟩ := bounds_sound (P := P) hρ h
          have hsl := hv'.1
          obtain ⟨a, c, xs, hX, hc, _⟩ := id hsl
          rw [hX] at hsl
          have hsub := SlR.sub hsl (l := l.toNat) (m := m.toNat) (by omega) (by omega)
          refine ⟨_, _, _, h2, ?_, hs, hsub, rfl⟩
          simp only [execOp, Instr.sliceAt, Instr.slice, Sem.run_bind, Go.Dk.run_underlying hu, Result.andThen_ok, hX, Option.map_none]
          simp [Sem.run_bind, hb 0 c hc true, Sem.run_pure, Go.Dk.run_sizeOf hi', hsz, hek]
        · cases h
      · cases h
    · cases h
end
end Go.Ab
namespace Go.Ab
open Go Go.Dk

/-! Numbers of objects. -/
theorem hasN_iff {j : Nat} : ∀ {l : List Nat}, hasN j l = true ↔ j ∈ l
  | [] => by simp [hasN]
  | i :: l => by simp [hasN, hasN_iff (l := l)]
theorem nodupB_iff : ∀ {l : List Nat}, nodupB l = true → l.Nodup
  | [], _ => List.nodup_nil
  | i :: l, h => by
    simp only [nodupB, Bool.and_eq_true, Bool.not_eq_true'] at h
    refine List.nodup_cons.2 ⟨fun hm => ?_, nodupB_iff h.2⟩
    rw [hasN_iff.2 hm] at h; exact absurd h.1 (by simp)
theorem okJs_out {js : List Nat} {n : Nat} (h : okJs js n = true) : js.Nodup ∧ ∀ j ∈ js, j < n := by
  simp only [okJs, Bool.and_eq_true, List.all_eq_true, Nat.blt_eq] at h
  exact ⟨nodupB_iff h.1, h.2⟩
theorem idx_some : ∀ {js : List Nat} {j i : Nat}, idx j js = some i → js[i]? = some j
  | [], j, i, h => by simp [idx] at h
  | a :: js, j, i, h => by
    simp only [idx] at h
    cases hb : Nat.beq j a with
    | true => simp only [hb, cond_true, Option.some.injEq] at h; subst h; simp only [Nat.beq_eq] at hb; subst hb; rfl
    | false =>
      simp only [hb, cond_false, Option.map_eq_some_iff] at h
      obtain ⟨i', hi, rfl⟩ := h
      simpa using idx_some hi
theorem idxs_some : ∀ {js l l' : List Nat}, idxs js l = some l' → All2 (fun j i => js[i]? = some j) l l'
  | js, [], l', h => by simp only [idxs, Option.some.injEq] at h; subst h; exact All2.nil
  | js, j :: l, l', h => by
    simp only [idxs] at h
    cases hi : idx j js with
    | none => simp [hi] at h
    | some i =>
      simp only [hi, Option.bind_some, Option.map_eq_some_iff] at h
      obtain ⟨l'', hl, rfl⟩ := h
      exact All2.cons (idx_some hi) (idxs_some hl)
def sel0 (js : List Nat) (h : List AObj) : List AObj := js.map fun j => h.getD j .dead
def selG (js : List Nat) (G : List GO) : List GO := js.map fun j => G.getD j .gone
def kill : List Nat → List AObj → List AObj
  | [], h => h
  | j :: js, h => kill js (h.set j .dead)
def killG : List Nat → List GO → List GO
  | [], G => G
  | j :: js, G => killG js (G.set j .gone)
theorem resO_ren (js : List Nat) (o : AObj) (g : GO) : resO (renO js o) g = resO o g := by cases o <;> cases g <;> rfl
theorem resL_ren (js : List Nat) : ∀ (h : List AObj) (G : List GO), resL (h.map (renO js)) G = resL h G
  | [], _ => rfl
  | o :: h, [] => rfl
  | o :: h, g :: G => by simp only [List.map_cons, resL, resO_ren, resL_ren js h G]
theorem selH_eq (js : List Nat) (h : List AObj) : selH js h = (sel0 js h).map (renO js) := by simp [selH, sel0]
theorem getD_set_ne {α : Type} {l : List α} {i j : Nat} {a d : α} (h : i ≠ j) : (l.set i a).getD j d = l.getD j d := by simp [List.getD, List.getElem?_set_ne h]
theorem sel0_set {js : List Nat} {h : List AObj} {j : Nat} {o : AObj} (hj : j ∉ js) : sel0 js (h.set j o) = sel0 js h := by
  refine List.map_congr_left fun i hi => getD_set_ne fun e => hj (e ▸ hi)
theorem selG_set {js : List Nat} {G : List GO} {j : Nat} {g : GO} (hj : j ∉ js) : selG js (G.set j g) = selG js G := by
  refine List.map_congr_left fun i hi => getD_set_ne fun e => hj (e ▸ hi)
theorem resL_sel : ∀ (js : List Nat) (h : List AObj) (G : List GO), js.Nodup → (∀ j ∈ js, j < h.length ∧ j < G.length) → (resL h G).Perm (resL (sel0 js h) (selG js G) ++ resL (kill js h) (killG js G))
  | [], h, G, _, _ => List.Perm.refl _
  | j :: js, h, G, hn, hl => by
    rw [List.nodup_cons] at hn
    obtain ⟨h1, h2⟩ := hl j (List.mem_cons_self ..)
    have ho : h[j]? = some (h.getD j .dead) := by simp [List.getD, List.getElem?_eq_getElem h1]
    have hg : G[j]? = some (G.getD j .gone) := by simp [List.getD, List.getElem?_eq_getElem h2]
    refine (resL_out h G j ho hg).trans ?_
    have ih := resL_sel js (h.set j .dead) (G.set j .gone) hn.2 (fun i hi => by simpa using hl i (List.mem_cons_of_mem _ hi))
    rw [sel0_set hn.1, selG_set hn.1] at ih
    have := ih.append_left (resO (h.getD j .dead) (G.getD j .gone))
    rw [← List.append_assoc] at this
    exact this

section
variable {P : Program} {w0 w w' : World} {M Z0 : Zone} {b : Nat} {G : List GO} {s : AS} {tv : List Value} {r : List V1 × List AObj} {Z : Zone}
theorem selG_get {js : List Nat} {i j : Nat} {g : GO} (hi : js[i]? = some j) (hg : G[j]? = some g) : (selG js G)[i]? = some g := by
  simp [selG, hi, List.getD, hg]
theorem RS.ren {js : List Nat} {v : SV} {X : Value} (h : RS G Z w v X) : RS (selG js G) Z w (renS js v) X := by
  cases v with
  | own j v =>
    show RS _ _ _ (match idx j js with | some i => SV.own i v | none => .any) X
    split
    · rename_i i hi
      have hi := idx_some hi
      rcases h with h | ⟨ver, val, sz, xs, hg, hh⟩
      · exact .inl (selG_get hi h)
      · exact .inr ⟨ver, val, sz, xs, selG_get hi hg, hh⟩
    · trivial
  | ptr j o =>
    show RS _ _ _ (match idx j js with | some i => SV.ptr i o | none => .any) X
    split
    · rename_i i hi
      have hi := idx_some hi
      rcases h with h | ⟨bb, T, vs, hg, hh⟩
      · exact .inl (selG_get hi h)
      · exact .inr ⟨bb, T, vs, selG_get hi hg, hh⟩
    · trivial
  | op j v i o =>
    show RS _ _ _ (match idx j js with | some j => SV.op j v i o | none => .any) X
    split
    · rename_i i' hi
      have hi := idx_some hi
      rcases h with h | ⟨ver, val, sz, xs, hg, hh⟩
      · exact .inl (selG_get hi h)
      · exact .inr ⟨ver, val, sz, xs, selG_get hi hg, hh⟩
    · trivial
  | fn f l =>
    show RS _ _ _ (match idxs js l with | some l => SV.fn f l | none => .any) X
    split
    · rename_i l' hl
      have hl := idxs_some hl
      obtain ⟨bs, hX, hh⟩ := h
      refine ⟨bs, hX, by rw [← hl.1, hh.1], fun i j bb hj hb => ?_⟩
      obtain ⟨j0, hj0, hji⟩ := hl.get' hj
      have := hh.2 i j0 bb hj0 hb
      rcases this with h1 | ⟨T, vs, h1⟩
      · exact .inl (selG_get hji h1)
      · exact .inr ⟨T, vs, selG_get hji h1⟩
    · trivial
  | _ => exact h
theorem All2.map_left {α α' β : Type} {R : α → β → Prop} {S : α' → β → Prop} {f : α → α'} {l : List α} {m : List β} (h : All2 R l m) (hf : ∀ a b, R a b → S (f a) b) : All2 S (l.map f) m := by
  refine ⟨by simp [h.1], fun i a b ha hb => ?_⟩
  rw [List.getElem?_map] at ha
  obtain ⟨a', ha', rfl⟩ := Option.map_eq_some_iff.1 ha
  exact hf _ _ (h.2 i a' b ha' hb)
theorem OneR.ren {js : List Nat} {v : SV} {X : Value} (h : OneR G Z w v X) : OneR (selG js G) Z w (renS js v) X := ⟨h.1.ren, h.2⟩
theorem RV1.ren {js : List Nat} {v : V1} {X : Value} (h : RV1 G Z w v X) : RV1 (selG js G) Z w (renV js v) X := by
  cases v with
  | one s => exact ⟨h.1.ren, fun _ => h.2 (by rintro rfl; simp_all [renS])⟩
  | agg l => obtain ⟨xs, hX, hh⟩ := h; exact ⟨xs, hX, hh.map_left fun _ _ q => q.ren⟩
theorem RV.ren {js : List Nat} {v : AV} {X : Value} (h : RV G Z w v X) : RV (selG js G) Z w (renA js v) X := by
  cases v with
  | v v => exact RV1.ren h
  | tup l => obtain ⟨xs, hX, hh⟩ := h; exact ⟨xs, hX, hh.map_left fun _ _ q => q.ren⟩
theorem RO.ren {js : List Nat} {o : AObj} {g : GO} (h : RO G Z w o g) : RO (selG js G) Z w (renO js o) g := by
  cases o with
  | cells l => cases g with
    | cells bb T vs => exact All2.map_left h fun _ _ q => q.ren
    | _ => exact h
  | arr e D ver fz => cases g <;> exact h
  | dead => cases g <;> exact h
theorem sel_RO {js : List Nat} {h : List AObj} (hh : All2 (RO G Z w) h G) (hl : ∀ j ∈ js, j < h.length) : All2 (RO (selG js G) Z w) (selH js h) (selG js G) := by
  refine ⟨by simp [selH, selG], fun i o g ho hg => ?_⟩
  simp only [selH, List.getElem?_map] at ho
  obtain ⟨j, hj, rfl⟩ := Option.map_eq_some_iff.1 ho
  simp only [selG, List.getElem?_map, hj, Option.map_some, Option.some.injEq] at hg
  subst hg
  have hjl := hl j (List.mem_of_getElem? hj)
  have h1 : h[j]? = some (h.getD j .dead) := by simp [List.getD, List.getElem?_eq_getElem hjl]
  obtain ⟨g, hg, hr⟩ := hh.get h1
  have : G.getD j .gone = g := by simp [List.getD, hg]
  rw [this]; exact hr.ren
/-- The memory of the objects js alone. -/
theorem InvG.sel (hI : InvG w0 M Z0 b G s tv w) {js : List Nat} (hjs : okJs js s.heap.length = true) :
    InvG w0 M Z0 js.length (selG js G) ⟨s.tmps.map (renA js), selH js s.heap⟩ tv w := by
  obtain ⟨hn, hl⟩ := okJs_out hjs
  have hlG : ∀ j ∈ js, j < s.heap.length ∧ j < G.length := fun j hj => ⟨hl j hj, by rw [← hI.len]; exact hl j hj⟩
  have hp := resL_sel js s.heap G hn hlG
  have hs := (hI.st.perm hp).sub (List.sublist_append_left _ _)
  have heq : resL (selH js s.heap) (selG js G) = resL (sel0 js s.heap) (selG js G) := by rw [selH_eq, resL_ren]
  rw [← heq] at hs
  refine ⟨hs.weak (relF_stable _ _ _) fun hh => ⟨hh.1.map_left fun _ _ q => q.ren, sel_RO hh.2 hl⟩, fun j hj hl' => ?_, hI.mz⟩
  simp [selG] at hl'; omega

/-- From the objects that were handed in to what has become of them. -/
def UpW (G G' : List GO) : Prop := ∀ (j : Nat),
  (G[j]? = some .gone → G'[j]? = some .gone) ∧
  (∀ b T vs, G[j]? = some (.cells b T vs) → G'[j]? = some .gone ∨ ∃ T' vs', G'[j]? = some (.cells b T' vs')) ∧
  (∀ ver val sz xs, G[j]? = some (.arr ver val sz xs) → G'[j]? = some .gone ∨ ∃ ver' val' xs', G'[j]? = some (.arr ver' val' sz xs'))
theorem Up.weak {G G' : List GO} (h : Up G G') : UpW G G' := fun j => ⟨(h j).1, (h j).2.1, fun ver val sz xs hg => ((h j).2.2 ver val sz xs hg).imp id fun ⟨a, c, d, e, _⟩ => ⟨a, c, d, e⟩⟩
theorem UpW.refl (G : List GO) : UpW G G := (Up.refl G).weak
theorem UpW.trans {G G' G'' : List GO} (h : UpW G G') (k : UpW G' G'') : UpW G G'' := by
  intro j
  refine ⟨fun hh => (k j).1 ((h j).1 hh), fun b T vs hh => ?_, fun ver val sz xs hh => ?_⟩
  · rcases (h j).2.1 b T vs hh with h1 | ⟨T', vs', h1⟩
    · exact .inl ((k j).1 h1)
    · exact (k j).2.1 b T' vs' h1
  · rcases (h j).2.2 ver val sz xs hh with h1 | ⟨ver', val', xs', h1⟩
    · exact .inl ((k j).1 h1)
    · exact (k j).2.2 ver' val' sz xs' h1
/-! Calls: a call is handed some of the objects, and turns nothing else. -/
def CallsOK (P : Program) (F : Callee) : Prop :=
  ∀ f fn args h out, P.funcs[f]? = some fn → fn.body.isSome = true → F f args h = some out →
    ∀ w0 M Z0 G vals w, InvG w0 M Z0 h.length G ⟨args.map .v, h⟩ vals w →
      Calls P f vals.toArray w fun e w' => ∃ xs G', e = .returned (if h : xs.toArray.size = 1 then xs.toArray[0] else .tuple xs.toArray) ∧ InvG w0 M Z0 out.2.length G' ⟨out.1.map .v, out.2⟩ xs w' ∧ UpW G G'
def footL (L : List Res) : Zone := fun k => ∃ q ∈ L, q.foot k
/-- What is handed to the call. -/
theorem InvG.pass (hI : InvG w0 M Z0 b G s tv w) {js : List Nat} (hjs : okJs js s.heap.length = true) {vs : List V1} {xs : List Value} (hv : All2 (RV1 G (zn w0 Z0 s G) w) vs xs) :
    InvG w (footL (resL (sel0 js s.heap) (selG js G))) (fun k => zn w0 Z0 s G k ∨ footL (resL (sel0 js s.heap) (selG js G)) k) js.length (selG js G) ⟨(vs.map (renV js)).map .v, selH js s.heap⟩ xs w := by
  obtain ⟨hn, hl⟩ := okJs_out hjs
  have hlG : ∀ j ∈ js, j < s.heap.length ∧ j < G.length := fun j hj => ⟨hl j hj, by rw [← hI.len]; exact hl j hj⟩
  have hp := resL_sel js s.heap G hn hlG
  have hs := (hI.st.perm hp).sub (List.sublist_append_left _ _)
  have heq : resL (selH js s.heap) (selG js G) = resL (sel0 js s.heap) (selG js G) := by rw [selH_eq, resL_ren]
  have hk : ∀ k, zn w0 Z0 s G k → zone w (fun k => zn w0 Z0 s G k ∨ footL (resL (sel0 js s.heap) (selG js G)) k) (resL (selH js s.heap) (selG js G)) k := fun k hk =>
    ⟨.inl (.inl hk), fun q hq => hk.2 q (hp.mem_iff.2 (List.mem_append.2 (.inl (heq ▸ hq))))⟩
  refine ⟨⟨Ext.refl _ _, ?_, ?_, ?_, ?_, relF_stable _ _ _, ?_⟩, ?_, fun k hk => .inr hk, hI.mz.2.sub hI.st.ext fun k ⟨q, hq, hf⟩ => (hs.key q hq k hf).1⟩
  · rw [heq]; exact hs.own
  · rw [heq]; exact hs.loc
  · rw [heq]; exact fun q hq k hf => ⟨.inl ⟨q, hq, hf⟩, (hs.key q hq k hf).2⟩
  · rw [heq]; exact hs.dis
  · refine ⟨(hv.map_left fun _ _ q => (RV1.ren q).stable (keeps_le hk)).map_left fun _ _ q => q, ?_⟩
    exact (sel_RO hI.st.per.2 hl).mono fun _ _ _ q => q.stable (keeps_le hk)
  · intro j hj hl'
    simp [selG] at hl'; omega
/-- What comes back, beside what was not handed in. -/
theorem frame {L L1 L2 Lc : List Res} {φ φc : Fact} (hI : St w0 M Z0 L φ w) (hm : ∀ k, M k → Z0 k) (hp : L.Perm (L1 ++ L2)) (hc : St w (footL L1) (fun k => zone w0 Z0 L k ∨ footL L1 k) Lc φc w') :
    St w0 M Z0 (Lc ++ L2) (andF φc φ) w' ∧ Keeps (zone w0 Z0 L) (zone w0 Z0 (Lc ++ L2)) w w' := by
  have hP := hI.perm hp
  have hd := List.pairwise_append.1 hP.dis
  have hx2 : ∀ q ∈ L2, ∀ k, q.foot k → ¬ footL L1 k := fun q hq k hk ⟨p, hp', hf⟩ => hd.2.2 p hp' q hq k hf hk
  have key1 : ∀ q ∈ Lc, ∀ k, q.foot k → (M k ∨ w0.heap.size ≤ k) := by
    intro q hq k hk
    rcases (hc.key q hq k hk).1 with ⟨p, hp', hf⟩ | h
    · exact (hP.key p (List.mem_append.2 (.inl hp')) k hf).1
    · exact .inr (Nat.le_trans hI.ext.size h)
  have hkz : Keeps (zone w0 Z0 L) (zone w0 Z0 (Lc ++ L2)) w w' := by
    intro k hz hl
    have hn1 : ¬ footL L1 k := fun ⟨p, hp', hf⟩ => hz.2 p (hp.mem_iff.2 (List.mem_append.2 (.inl hp'))) hf
    refine ⟨⟨hz.1, fun q hq hf => ?_⟩, hc.ext.block k hl hn1⟩
    rcases List.mem_append.1 hq with hq | hq
    · rcases (hc.key q hq k hf).1 with h | h
      · exact hn1 h
      · omega
    · exact hz.2 q (hp.mem_iff.2 (List.mem_append.2 (.inr hq))) hf
  refine ⟨⟨?_, ?_, ?_, ?_, ?_, hc.stab.and hI.stab, ?_, ?_⟩, hkz⟩
  · refine ⟨hc.ext.os.trans hI.ext.os, hc.ext.tape.trans hI.ext.tape, hc.ext.output.trans hI.ext.output, Nat.le_trans hI.ext.size hc.ext.size, fun k hk hmk => ?_⟩
    rw [hc.ext.block k (Nat.lt_of_lt_of_le hk hI.ext.size) ?_, hI.ext.block k hk hmk]
    rintro ⟨p, hp', hf⟩
    rcases (hP.key p (List.mem_append.2 (.inl hp')) k hf).1 with h | h
    · exact hmk h
    · omega
  · intro q hq
    rcases List.mem_append.1 hq with hq | hq
    · exact hc.own q hq
    · have hq' := List.mem_append.2 (Or.inr (a := q ∈ L1) hq)
      exact hP.loc q hq' w w' (fun k hk => hc.ext.block k (hP.key q hq' k hk).2 (hx2 q hq k hk)) (hP.own q hq')
  · intro q hq
    rcases List.mem_append.1 hq with hq | hq
    · exact hc.loc q hq
    · exact hP.loc q (List.mem_append.2 (.inr hq))
  · intro q hq k hk
    rcases List.mem_append.1 hq with hq | hq
    · exact ⟨key1 q hq k hk, (hc.key q hq k hk).2⟩
    · have := hP.key q (List.mem_append.2 (.inr hq)) k hk
      exact ⟨this.1, Nat.lt_of_lt_of_le this.2 hc.ext.size⟩
  · refine List.pairwise_append.2 ⟨hc.dis, hd.2.1, fun q hq p hp' k hk hk' => ?_⟩
    rcases (hc.key q hq k hk).1 with h | h
    · exact hx2 p hp' k hk' h
    · have := (hP.key p (List.mem_append.2 (.inr hp')) k hk').2; omega
  · refine hc.stab _ _ w' w' (fun k hz _ => ⟨⟨?_, fun q hq hf => ?_⟩, rfl⟩) hc.per
    · rcases hz.1 with (h | ⟨p, hp', hf⟩) | h
      · exact h.1
      · exact (hP.key p (List.mem_append.2 (.inl hp')) k hf).1.imp (hm k) id
      · exact .inr (Nat.le_trans hI.ext.size h)
    · rcases List.mem_append.1 hq with hq | hq
      · exact hz.2 q hq hf
      · rcases hz.1 with (h | h) | h
        · exact h.2 q (hp.mem_iff.2 (List.mem_append.2 (.inr hq))) hf
        · exact hx2 q hq k hf h
        · have := (hP.key q (List.mem_append.2 (.inr hq)) k hf).2; omega
  · exact hI.stab _ _ w w' hkz hI.per
end
end Go.Ab
namespace Go.Ab
open Go Go.Dk

section
variable {P : Program} {w0 w w' : World} {M Z0 : Zone} {b : Nat} {G : List GO} {s : AS} {tv : List Value} {r : List V1 × List AObj} {Z : Zone}
theorem sealVs_sound : ∀ {l : List V1} {s : AS} {xs : List Value} {k : List V1 → List AObj → OR}, InvG w0 M Z0 b G s tv w → All2 (RV1 G (zn w0 Z0 s G) w) l xs → sealVs s.heap l k = some r →
    ∃ l' h', k l' h' = some r ∧ Sealed w0 M Z0 b G s tv w h' ∧ All2 (RV1 G (zn w0 Z0 ⟨s.tmps, h'⟩ G) w) l' xs
  | [], s, xs, k, hI, ha, h => by
    obtain rfl := ha.nil_inv
    exact ⟨_, _, h, Sealed.refl hI, All2.nil⟩
  | v :: l, s, xs, k, hI, ha, h => by
    obtain ⟨X, xs', rfl, h1, h2⟩ := ha.cons_inv
    unfold sealVs at h
    split at h
    · exact absurd ‹_ :: _ = []› (by simp)
    · rename_i k' l0 e
      simp only [List.cons.injEq] at e
      obtain ⟨rfl, rfl⟩ := e
      obtain ⟨l', h', hk, hs, hl⟩ := sealVs_sound hI h2 h
      exact ⟨_, _, hk, hs, All2.cons ⟨trivial, fun h => absurd rfl h⟩ hl⟩
    · rename_i x l0 hne e
      simp only [List.cons.injEq] at e
      obtain ⟨rfl, rfl⟩ := e
      have hone : OneR G (zn w0 Z0 s G) w x X := ⟨h1.1, h1.2 fun e => hne e⟩
      replace h := sealS_sound hI hone h; obtain ⟨v', h1', h, hs, hv⟩ := h
      obtain ⟨l', h', hk, hs', hl⟩ := sealVs_sound hs.inv (h2.mono fun _ _ _ q => q.stable (keeps_le hs.le)) h
      exact ⟨_, _, hk, hs.trans hs', All2.cons ⟨hv.1.stable (keeps_le hs'.le), fun _ => hv.2⟩ hl⟩
    · rename_i c l0 e
      simp only [List.cons.injEq] at e
      obtain ⟨rfl, rfl⟩ := e
      obtain ⟨ys, hX, hc⟩ := h1
      replace h := sealL_sound hI hc h; obtain ⟨c', h1', h, hs, hv⟩ := h
      obtain ⟨l', h', hk, hs', hl⟩ := sealVs_sound hs.inv (h2.mono fun _ _ _ q => q.stable (keeps_le hs.le)) h
      exact ⟨_, _, hk, hs.trans hs', All2.cons ⟨ys, hX, hv.mono fun _ _ _ q => ⟨q.1.stable (keeps_le hs'.le), q.2⟩⟩ hl⟩

/-! What comes back, taken apart. -/
def LikeS (v y : SV) : Prop := ∀ (G G' : List GO) (Z : Zone) (w : World) (X : Value), OneR G Z w v X → OneR G' Z w y X
theorem LikeS.refl_int {k : IntKind} {n : Int} : LikeS (.int k n) (.int k n) := fun _ _ _ _ _ h => h
theorem intC_some {a : IntKind} {l : List SV} {k : Int → List SV → OR} (h : intC a l k = some r) : ∃ n l', l = .int a n :: l' ∧ k n l' = some r := by
  unfold intC at h; split at h
  · replace h := cond_left h; obtain ⟨ha, h⟩ := h; obtain rfl := ikEq_eq ha; exact ⟨_, _, rfl, h⟩
  · cases h
theorem boolC_some {l : List SV} {k : Bool → List SV → OR} (h : boolC l k = some r) : ∃ n l', l = .bool n :: l' ∧ k n l' = some r := by
  unfold boolC at h; split at h
  · exact ⟨_, _, rfl, h⟩
  · cases h
theorem strC_some {l : List SV} {k : ByteArray → List SV → OR} (h : strC l k = some r) : ∃ n l', l = .str n :: l' ∧ k n l' = some r := by
  unfold strC at h; split at h
  · exact ⟨_, _, rfl, h⟩
  · cases h
theorem slC_some {e : SK} {l : List SV} {k : SD → List SV → OR} (h : slC e l k = some r) : ∃ d l', l = .fr d :: l' ∧ d.kind = e ∧ k d l' = some r := by
  cases e <;> simp only [slC] at h
  · unfold tsC at h; split at h
    · exact ⟨_, _, rfl, rfl, h⟩
    · cases h
  · unfold isC at h; split at h
    · exact ⟨_, _, rfl, rfl, h⟩
    · cases h
  · unfold issC at h; split at h
    · exact ⟨_, _, rfl, rfl, h⟩
    · cases h
  · unfold ssC at h; split at h
    · exact ⟨_, _, rfl, rfl, h⟩
    · cases h
  · unfold bsC at h; split at h
    · exact ⟨_, _, rfl, rfl, h⟩
    · cases h
theorem anyC_some {l : List SV} {k : List SV → OR} (h : anyC l k = some r) : ∃ v l', l = v :: l' ∧ k l' = some r := by
  unfold anyC at h; split at h
  · exact ⟨_, _, rfl, h⟩
  · cases h
theorem likeC_sound {x : SV} {l : List SV} {k : SV → List SV → OR} (h : likeC x l k = some r) : ∃ v y l', l = v :: l' ∧ k y l' = some r ∧ LikeS v y := by
  unfold likeC at h
  split at h
  · obtain ⟨n, l', rfl, h'⟩ := intC_some h; exact ⟨_, _, _, rfl, h', fun _ _ _ _ _ h => h⟩
  · obtain ⟨n, l', rfl, h'⟩ := boolC_some h; exact ⟨_, _, _, rfl, h', fun _ _ _ _ _ h => h⟩
  · obtain ⟨n, l', rfl, h'⟩ := strC_some h; exact ⟨_, _, _, rfl, h', fun _ _ _ _ _ h => h⟩
  · obtain ⟨n, l', rfl, _, h'⟩ := slC_some h; exact ⟨_, _, _, rfl, h', fun _ _ _ _ _ h => h⟩
  · obtain ⟨n, l', rfl, _, h'⟩ := slC_some h; exact ⟨_, _, _, rfl, h', fun _ _ _ _ _ h => h⟩
  · obtain ⟨v, l', rfl, h'⟩ := anyC_some h; exact ⟨_, _, _, rfl, h', fun _ _ _ _ _ h => ⟨trivial, h.2⟩⟩
theorem likeL_sound : ∀ {x l : List SV} {k : List SV → OR}, likeL x l k = some r → ∃ y, k y = some r ∧ All2 LikeS l y
  | [], l, k, h => by
    unfold likeL nilC at h
    split at h
    · exact ⟨_, h, All2.nil⟩
    · cases h
  | x :: xs, l, k, h => by
    unfold likeL at h
    obtain ⟨v, y, l', rfl, h1, hv⟩ := likeC_sound h
    obtain ⟨ys, h2, hl⟩ := likeL_sound h1
    exact ⟨_, h2, All2.cons hv hl⟩
theorem like_one {l y : List SV} {vs : List Value} {G' : List GO} (h : All2 LikeS l y) (k : All2 (OneR G Z w) l vs) : All2 (OneR G' Z w) y vs := by
  refine ⟨h.1.symm.trans k.1, fun i a X ha hX => ?_⟩
  obtain ⟨v, hv, hl⟩ := h.get' ha
  exact hl _ _ _ _ _ (k.2 i v X hv hX)
/-- One object that was handed in and what comes back of it; and what the caller keeps. -/
def Back (o o' : AObj) : Prop := o' = .dead ∨ ∃ l y, o = .cells l ∧ o' = .cells y ∧ All2 LikeS l y
theorem backO_sound : ∀ {x o : List AObj} {k : List AObj → List AObj → OR}, backO x o k = some r → ∃ olds os rest, o = olds ++ rest ∧ k os rest = some r ∧ olds.length = x.length ∧ All2 Back olds os
  | [], o, k, h => ⟨[], [], o, rfl, h, rfl, All2.nil⟩
  | x :: xs, o, k, h => by
    unfold backO at h
    split at h
    · exact absurd ‹_ :: _ = []› (by simp)
    · rename_i c xs0 e
      simp only [List.cons.injEq] at e
      obtain ⟨rfl, rfl⟩ := e
      unfold objC at h
      split at h
      · obtain ⟨y, h1, hy⟩ := likeL_sound h
        obtain ⟨olds, os, rest, rfl, h2, hl, hb⟩ := backO_sound h1
        exact ⟨_ :: olds, _, rest, rfl, h2, by simp [hl], All2.cons (.inr ⟨_, _, rfl, rfl, hy⟩) hb⟩
      · cases h
    · rename_i o0 xs0 hne e
      simp only [List.cons.injEq] at e
      obtain ⟨rfl, rfl⟩ := e
      unfold dropC at h
      split at h
      · obtain ⟨olds, os, rest, rfl, h1, hl, hb⟩ := backO_sound h
        exact ⟨_ :: olds, _, rest, rfl, h1, by simp [hl], All2.cons (.inl rfl) hb⟩
      · cases h
theorem arrC_some {e : TypeId × SK} {o : List AObj} {k : SD → List AObj → OR} (h : arrC e o k = some r) : ∃ d o', o = .arr e.1 d 0 false :: o' ∧ d.kind = e.2 ∧ k d o' = some r := by
  have key : ∀ {α : Type} {f : α → SD} {o : List AObj} {k : SD → List AObj → OR} {e' : TypeId} {x : α} {o' : List AObj}, o = .arr e' (f x) 0 false :: o' → cond (Nat.beq e.1 e') (k (f x) o') none = some r → (f x).kind = e.2 → ∃ d o', o = .arr e.1 d 0 false :: o' ∧ d.kind = e.2 ∧ k d o' = some r := by
    intro α f o k e' x o' ho h hk
    obtain ⟨he, h'⟩ := cond_left h
    simp only [Nat.beq_eq] at he
    subst he
    exact ⟨_, _, ho, hk, h'⟩
  unfold arrC at h
  split at h <;> rename_i he
  · unfold arrTsC at h; split at h
    · exact key (f := SD.ts) rfl h (by rw [he]; rfl)
    · cases h
  · unfold arrIsC at h; split at h
    · exact key (f := SD.is) rfl h (by rw [he]; rfl)
    · cases h
  · unfold arrIssC at h; split at h
    · exact key (f := SD.iss) rfl h (by rw [he]; rfl)
    · cases h
  · unfold arrSsC at h; split at h
    · exact key (f := SD.ss) rfl h (by rw [he]; rfl)
    · cases h
  · unfold arrBsC at h; split at h
    · exact key (f := SD.bs) rfl h (by rw [he]; rfl)
    · cases h
theorem rSl_some {e : SK} {l : List V1} {k : SD → List V1 → OR} (h : rSl e l k = some r) : ∃ d l', l = .one (.fr d) :: l' ∧ k d l' = some r := by
  cases e <;> simp only [rSl] at h
  · unfold rTs at h; split at h
    · exact ⟨_, _, rfl, h⟩
    · cases h
  · unfold rIs at h; split at h
    · exact ⟨_, _, rfl, h⟩
    · cases h
  · unfold rIss at h; split at h
    · exact ⟨_, _, rfl, h⟩
    · cases h
  · unfold rSs at h; split at h
    · exact ⟨_, _, rfl, h⟩
    · cases h
  · unfold rBs at h; split at h
    · exact ⟨_, _, rfl, h⟩
    · cases h
theorem RO_arr_inv {e : TypeId} {d : SD} {g : GO} (h : RO G Z w (.arr e d 0 false) g) : ∃ val xs, g = .arr 0 val d.kind.size xs := by
  cases g with
  | arr ver val sz xs => obtain ⟨rfl, rfl, _⟩ := h; exact ⟨_, _, rfl⟩
  | _ => exact h.elim
theorem RO_arr_any {e : TypeId} {d : SD} {v : Nat} {z : Bool} {g : GO} {G' : List GO} (h : RO G Z w (.arr e d v z) g) : RO G' Z w (.arr e d v z) g := by cases g <;> exact h
theorem own_new {c b' : Nat} {G' : List GO} {g : GO} {e : TypeId} {d : SD} {X : Value} (hx : RS G Z w (.own c 0) X) (hg : RO G Z w (.arr e d 0 false) g) (h1 : G[c]? = some g) (h2 : G'[b']? = some g) : RS G' Z w (.own b' 0) X := by
  obtain ⟨val, xs, rfl⟩ := RO_arr_inv hg
  have := own_val hx h1 rfl
  exact .inr ⟨0, val, _, xs, h2, Nat.le_refl _, fun _ => this⟩
theorem valT_sound {own : Bool} {c b' : Nat} {t : TypeId} {l : List V1} {o : List AObj} {k : V1 → List AObj → List V1 → List AObj → OR} (h : valT P own c b' t l o k = some r) :
    ∃ v n l' o' x0 o0, k v n l' o' = some r ∧ l = x0 :: l' ∧ o = o0 ++ o' ∧ n.length = o0.length ∧ ∀ {Gc G'' : List GO} {Z : Zone} {w : World} {X : Value} {gs : List GO}, RV1 Gc Z w x0 X → All2 (RO Gc Z w) o0 gs →
      (∀ (i : Nat) g, gs[i]? = some g → Gc[c + i]? = some g ∧ G''[b' + i]? = some g) → RV1 G'' Z w v X ∧ All2 (RO G'' Z w) n gs ∧ resL n gs = resL o0 gs := by
  unfold valT at h
  split at h
  · unfold rInt at h; split at h
    · replace h := cond_left h; obtain ⟨ha, h⟩ := h; obtain rfl := ikEq_eq ha
      exact ⟨_, _, _, _, _, [], h, rfl, rfl, rfl, fun hx ho _ => by obtain rfl := ho.nil_inv; exact ⟨hx, All2.nil, rfl⟩⟩
    · cases h
  · unfold rBool at h; split at h
    · exact ⟨_, _, _, _, _, [], h, rfl, rfl, rfl, fun hx ho _ => by obtain rfl := ho.nil_inv; exact ⟨hx, All2.nil, rfl⟩⟩
    · cases h
  · unfold rStr at h; split at h
    · exact ⟨_, _, _, _, _, [], h, rfl, rfl, rfl, fun hx ho _ => by obtain rfl := ho.nil_inv; exact ⟨hx, All2.nil, rfl⟩⟩
    · cases h
  · split at h
    · rename_i e _
      rcases cond_some h with ⟨_, h⟩ | ⟨_, h⟩
      · unfold rOwn at h; split at h
        · replace h := cond_left h; obtain ⟨hi, h⟩ := h
          simp only [Nat.beq_eq] at hi
          obtain ⟨d, o', rfl, hk, h1⟩ := arrC_some h
          refine ⟨_, _, _, _, _, [_], h1, rfl, rfl, rfl, fun hx ho hg => ?_⟩
          obtain ⟨g, gs', rfl, h1, h2⟩ := ho.cons_inv
          obtain rfl := h2.nil_inv
          obtain ⟨e1, e2⟩ := hg 0 g rfl
          refine ⟨⟨own_new (by rw [← hi]; exact hx.1) h1 e1 e2, fun _ => hx.2 nofun⟩, All2.cons (RO_arr_any h1) All2.nil, rfl⟩
        · cases h
      · obtain ⟨d, l', rfl, h1⟩ := rSl_some h
        exact ⟨_, _, _, _, _, [], h1, rfl, rfl, rfl, fun hx ho _ => by obtain rfl := ho.nil_inv; exact ⟨hx, All2.nil, rfl⟩⟩
    · cases h
  · split at h
    · rcases cond_some h with ⟨_, h⟩ | ⟨_, h⟩
      · unfold rOwnT at h; split at h
        · replace h := cond_left h; obtain ⟨hi, h⟩ := h
          simp only [Nat.beq_eq] at hi
          unfold arrTsC at h; split at h
          · replace h := cond_left h; obtain ⟨he, hk2⟩ := h
            simp only [Nat.beq_eq] at he
            subst he
            refine ⟨_, _, _, _, _, [_], hk2, rfl, rfl, rfl, fun hx ho hg => ?_⟩
            obtain ⟨g, gs', rfl, h1, h2⟩ := ho.cons_inv
            obtain rfl := h2.nil_inv
            obtain ⟨e1, e2⟩ := hg 0 g rfl
            obtain ⟨xs, hX, hc⟩ := hx
            obtain ⟨x1, m1, rfl, c1, hc⟩ := hc.cons_inv
            obtain ⟨x2, m2, rfl, c2, hc⟩ := hc.cons_inv
            obtain ⟨x3, m3, rfl, c3, hc⟩ := hc.cons_inv
            obtain rfl := hc.nil_inv
            exact ⟨⟨_, hX, All2.cons c1 (All2.cons c2 (All2.cons ⟨own_new (by rw [← hi]; exact c3.1) h1 e1 e2, c3.2⟩ All2.nil))⟩, All2.cons (RO_arr_any h1) All2.nil, rfl⟩
          · cases h
        · cases h
      · unfold rTerm at h; split at h
        · refine ⟨_, _, _, _, _, [], h, rfl, rfl, rfl, fun hx ho _ => ?_⟩
          obtain rfl := ho.nil_inv
          obtain ⟨xs, hX, hc⟩ := hx
          obtain ⟨x1, m1, rfl, c1, hc⟩ := hc.cons_inv
          obtain ⟨x2, m2, rfl, c2, hc⟩ := hc.cons_inv
          obtain ⟨x3, m3, rfl, c3, hc⟩ := hc.cons_inv
          obtain rfl := hc.nil_inv
          exact ⟨⟨_, hX, All2.cons ⟨c1.1, c1.2⟩ (All2.cons ⟨c2.1, c2.2⟩ (All2.cons ⟨c3.1, c3.2⟩ All2.nil))⟩, All2.nil, rfl⟩
        · cases h
    · cases h
  · unfold rPtr at h; split at h
    · replace h := cond_left h; obtain ⟨hi, h⟩ := h
      simp only [Nat.beq_eq] at hi
      unfold objC at h; split at h
      · split at h
        · obtain ⟨y, h1, hy⟩ := likeL_sound h
          refine ⟨_, _, _, _, _, [_], h1, rfl, rfl, rfl, fun hx ho hg => ?_⟩
          obtain ⟨g, gs', rfl, h1, h2⟩ := ho.cons_inv
          obtain rfl := h2.nil_inv
          obtain ⟨e1, e2⟩ := hg 0 g rfl
          cases g with
          | cells bb T vs =>
            have hp := ptr_val (by rw [← hi]; exact hx.1) e1
            exact ⟨⟨.inr ⟨bb, T, vs, e2, hp⟩, fun _ => hx.2 nofun⟩, All2.cons (like_one hy h1) All2.nil, rfl⟩
          | _ => exact h1.elim
        · cases h
      · cases h
    · cases h
  · cases h
theorem valsT_sound {own : Bool} : ∀ {tys : List TypeId} {c b' : Nat} {l : List V1} {o : List AObj} {k : List V1 → List AObj → OR}, valsT P own tys c b' l o k = some r →
    ∃ vs ns, k vs ns = some r ∧ ns.length = o.length ∧ ∀ {Gc G'' : List GO} {Z : Zone} {w : World} {xs : List Value} {gs : List GO}, All2 (RV1 Gc Z w) l xs → All2 (RO Gc Z w) o gs →
      (∀ (i : Nat) g, gs[i]? = some g → Gc[c + i]? = some g ∧ G''[b' + i]? = some g) → All2 (RV1 G'' Z w) vs xs ∧ All2 (RO G'' Z w) ns gs ∧ resL ns gs = resL o gs
  | [], c, b', l, o, k, h => by
    unfold valsT nilV at h
    split at h
    · unfold nilO at h
      split at h
      · exact ⟨_, _, h, rfl, fun hx ho _ => ⟨by obtain rfl := hx.nil_inv; exact All2.nil, by obtain rfl := ho.nil_inv; exact All2.nil, rfl⟩⟩
      · cases h
    · cases h
  | t :: tys, c, b', l, o, k, h => by
    unfold valsT at h
    obtain ⟨v, n, l', o', x0, o0, h1, rfl, rfl, hn, hv⟩ := valT_sound h
    obtain ⟨vs, ns, h2, hns, hvs⟩ := valsT_sound h1
    refine ⟨_, _, h2, by simp [hn, hns], fun hx ho hg => ?_⟩
    obtain ⟨X, xs', rfl, hx1, hx2⟩ := hx.cons_inv
    obtain ⟨g1, g2, rfl, ho1, ho2⟩ := ho.append_inv
    obtain ⟨a1, a2, a3⟩ := hv hx1 ho1 fun i g hi => hg i g (by rw [List.getElem?_append_left (lt_of_some hi)]; exact hi)
    obtain ⟨b1, b2, b3⟩ := hvs hx2 ho2 fun i g hi => by
      have := hg (g1.length + i) g (by rw [List.getElem?_append_right (by omega)]; simpa using hi)
      rw [← ho1.1] at this
      rw [Nat.add_assoc, Nat.add_assoc, hn]; exact this
    refine ⟨All2.cons a1 b1, All2.append a2 b2, ?_⟩
    rw [resL_append a2.1, resL_append ho1.1, a3, b3]
end
end Go.Ab
