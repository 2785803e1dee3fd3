/- The abstract run is sound: slices that are made or grow. No program in sight. -/
import Derived.Test.YthjbllfcelkajaaOpC
set_option linter.unusedVariables false
set_option linter.unusedSimpArgs false
namespace Go.Ab
open Go Go.Dk

section
variable {P : Program} {w0 w w' : World} {M Z0 : Zone} {b : Nat} {G : List GO} {s : AS} {tv : List Value} {r : List V1 × List AObj}
variable {ρ : Operand → Value} {x y : Operand} {d : Option Tmp} {ty t t' : TypeId} {pos : String} {aft : Array Edge} {gd : Option (Nat × Bool)} {vx vy : AV} {X : Value}
theorem newArr (hI : InvG w0 M Z0 b G s tv w) (hb : b < G.length) (hg : Grow w w') {e : TypeId} {D : SD} {xs : List Value} {val : Value} (hE : ElemsR (zn w0 Z0 s G) w D xs) (hval : ∃ a c, val = .slice a D.len c)
    (hq : (rowZ e D.kind.size val D.len xs).own w' ∧ ∀ k, (rowZ e D.kind.size val D.len xs).foot k → w.heap.size ≤ k ∧ k < w'.heap.size) :
    InvG w0 M Z0 (b + 1) (G.set b (.arr 0 val D.kind.size xs)) ⟨s.tmps, s.heap.set b (.arr e D 0 false)⟩ tv w' ∧
    OneR (G.set b (.arr 0 val D.kind.size xs)) (zn w0 Z0 ⟨s.tmps, s.heap.set b (.arr e D 0 false)⟩ (G.set b (.arr 0 val D.kind.size xs))) w' (.own b 0) val ∧ Up G (G.set b (.arr 0 val D.kind.size xs)) := by
  have hup : Up G (G.set b (.arr 0 val D.kind.size xs)) := Up.set fun g0 h0 => by rw [hI.fresh b (Nat.le_refl _) hb] at h0; obtain rfl := Option.some.inj h0; trivial
  refine ⟨(hI.newObj hb hg (o := .arr e D 0 false) (g := .arr 0 val D.kind.size xs) (fun q hq' => ?_) (fun Z' hk => ⟨rfl, rfl, hE.stable hk, hval⟩)).1, ⟨.inr ⟨0, val, D.kind.size, xs, by simp [hb], Nat.le_refl _, fun _ => rfl⟩, ?_⟩, hup⟩
  · simp only [resO, List.mem_singleton] at hq'
    subst hq'; exact hq
  · obtain ⟨a, c, rfl⟩ := hval; rfl
/-- A new block as a row. -/
theorem row_new {e sz n : Nat} {cs : List Value} (hn : cs.length = n * sz) (hm : n ≤ maxLen) :
    (rowZ e sz (.slice (some ⟨w.heap.size, 0, none⟩) n n) n cs).own (w.alloc (.cells cs.toArray e (0, 0))) ∧
    ∀ k, (rowZ e sz (.slice (some ⟨w.heap.size, 0, none⟩) n n) n cs).foot k → w.heap.size ≤ k ∧ k < (w.alloc (.cells cs.toArray e (0, 0))).heap.size := by
  cases n with
  | zero =>
    rw [rowZ_zero]
    rw [Nat.zero_mul] at hn
    exact ⟨⟨rfl, List.eq_nil_of_length_eq_zero hn, rfl⟩, fun k h => h.elim⟩
  | succ n =>
    rw [rowZ_pos (by omega)]
    refine ⟨⟨hn, .inr ⟨w.heap.size, n + 1, cs.toArray, rfl, Nat.zero_le _, alloc_get _ _, Nat.le_refl _, hm, by simp [hn], ?_⟩⟩, fun k hk => ?_⟩
    · simp only [List.toList_toArray]; rw [← hn, List.take_length]
    · simp only [rowR, Value.ownBlock] at hk
      obtain rfl := Option.some.inj hk
      rw [alloc_size]; omega
theorem run_buildSlice {n sz e : Nat} {i : TypeInfo} {z : Value} {ps : List (Nat × Operand)} {vs cs : List Value} (hu : P.underlying t = some (.slice e)) (hi : P.info? e = some i) (hz : i.zero = some z) (hsz0 : i.size = sz)
    (hix : ps.map (·.1) = List.range' 0 ps.length) (hvs : ps.map (fun p => ρ p.2) = vs) (hn : ps.length = n) (hsz : ∀ v ∈ vs, v.cells.size = sz) (hb : n * sz ≤ 16777216) (hcs : flatC vs = cs) :
    (execOp ρ ⟨d, .buildSlice t n ps.toArray, ty, pos, aft, gd⟩).run P w = .ok (.value (.slice (some ⟨w.heap.size, 0, none⟩) n n)) (w.alloc (.cells cs.toArray e (0, 0))) := by
  have hlim : ¬ (n * i.size > 2 ^ 24) := by rw [hsz0]; simpa using hb
  have hps : ps.map (fun p => (p.1, ρ p.2)) = partsFrom 0 vs := by rw [partsFrom_map ρ ps 0 hix, hvs]
  have hvl : vs.length = n := by rw [← hvs, ← hn]; simp
  have hparts : ((ps.toArray.map fun (p : Nat × Operand) => (p.1, ρ p.2)).toList) = partsFrom 0 vs := by simpa using hps
  have key : ∀ zero : Array Value, Instr.fill (fun j => some (j * i.size, i.size)) ((Array.range (n * i.size)).map (zero[· % zero.size]!)) ((ps.toArray.map fun (p : Nat × Operand) => (p.1, ρ p.2)).toList) = some cs.toArray := by
    intro zero
    obtain ⟨B, hB, hl⟩ := fill_parts i.size vs 0 ((Array.range (n * i.size)).map (zero[· % zero.size]!)) (by rw [hsz0]; exact hsz) (by simp [hvl])
    have hBcs : B = cs.toArray := by
      apply Array.toList_inj.1
      rw [hl, Nat.zero_mul, putL_all _ _ (by rw [flatC_length i.size vs (by rw [hsz0]; exact hsz)]; simp [hvl]), hcs]
    rw [hparts, hB, hBcs]
  simp only [execOp, Instr.buildSlice, Sem.run_bind, Go.Dk.run_underlying hu, Result.andThen_ok, Go.Dk.run_sizeOf hi, if_neg hlim]
  by_cases h0 : n * i.size = 0
  · rw [if_pos h0]
    simp only [Sem.run_bind, Sem.run_pure, Result.andThen_ok, key, newRow, newObj, Sem.run]
    rfl
  · rw [if_neg h0]
    have hzv : (zeroValue e).run P w = .ok z w := by
      simp only [zeroValue, Sem.run_bind, Go.Dk.run_typeInfo hi, Result.andThen_ok, hz, Sem.run_pure]
    simp only [Sem.run_bind, hzv, Sem.run_pure, Result.andThen_ok, key, newRow, newObj, Sem.run]
    rfl
theorem natIx_out : ∀ (ps : List (Nat × Operand)) (k : Nat), natIx k ps = true → ps.map (·.1) = List.range' k ps.length
  | [], _, _ => rfl
  | p :: ps, k, h => by
    simp only [natIx, Bool.and_eq_true, Nat.beq_eq] at h
    simp only [List.map_cons, List.length_cons, List.range'_succ, natIx_out ps (k + 1) h.2, h.1]
theorem sizes_le {e : TypeId} {k : SK} : k.size ≤ 3 := by cases k <;> decide
theorem evBuildSlice_sound (hI : InvG w0 M Z0 b G s tv w) (hb : b < G.length) {n : Nat} {ps : Array (Nat × Operand)} {ρa : Operand → AV} {k : AV → List AObj → OR} (hρ : ∀ x, RV G (zn w0 Z0 s G) w (ρa x) (ρ x))
    (h : (match kindS P t with
      | some e => cond (natIx 0 ps.toList && (Nat.beq ps.toList.length n && Nat.ble n 4194304))
        ((csL (ps.toList.map fun p => ρa p.2)).bind fun cs => elemsOf e.2 s.heap cs e.2.nil fun d h => k (.v (.one (.own b 0))) (h.set b (.arr e.1 d 0 false))) none
      | none => none) = some r) :
    ∃ v h' G' w' X, k v h' = some r ∧ (execOp ρ ⟨d, .buildSlice t n ps, ty, pos, aft, gd⟩).run P w = .ok (.value X) w' ∧ InvG w0 M Z0 (b + 1) G' ⟨s.tmps, h'⟩ tv w' ∧ RV G' (zn w0 Z0 ⟨s.tmps, h'⟩ G') w' v X ∧ h'.length = s.heap.length ∧ Up G G' := by
  split at h
  · rename_i e hk
    replace h := cond_left h; obtain ⟨hc, h⟩ := h
    simp only [Bool.and_eq_true, Nat.beq_eq, Nat.ble_eq] at hc
    obtain ⟨hix, hlen, hn⟩ := hc
    replace h := bind_some h; obtain ⟨cs, hcs, h⟩ := h
    obtain ⟨hu, hke⟩ := kindS_out hk
    obtain ⟨_, i, z, hi, hz, hsz, _, _⟩ := kindE_out hke
    obtain ⟨xss, hxs, hxr⟩ := csL_sound (Xs := ps.toList.map fun p => ρ p.2) hcs ⟨by simp, fun j a c ha hc => by
      rw [List.getElem?_map] at ha hc
      obtain ⟨p, hp, rfl⟩ := Option.map_eq_some_iff.1 ha
      rw [hp] at hc
      obtain rfl := Option.some.inj hc
      exact hρ p.2⟩
    replace h := elemsOf_sound hI hxr (ElemsR_nil e.2) (SK.nil_kind e.2) h
    obtain ⟨D, h', h, hs, he, hDl, hDk, hall⟩ := h
    have hcl : cs.length = n := by
      have h1 := hxr.1
      have h2 : (ps.toList.map fun p => ρ p.2).length = xss.length := by have := congrArg List.length hxs; simpa using this
      rw [h1, ← h2]; simp [← hlen]
    have hDn : D.len = n := by rw [hDl, SK.nil_len, Nat.zero_add, hcl]
    have hflat : flatC (ps.toList.map fun p => ρ p.2) = xss.flatten := by
      have : ∀ (Xs : List Value) (xss : List (List Value)), Xs.map Value.cells = xss.map List.toArray → flatC Xs = xss.flatten := by
        intro Xs
        induction Xs with
        | nil => intro xss h; cases xss with | nil => rfl | cons => simp at h
        | cons X Xs ih =>
          intro xss h
          cases xss with
          | nil => simp at h
          | cons x xss =>
            simp only [List.map_cons, List.cons.injEq] at h
            have := ih xss h.2
            simp only [flatC] at this
            simp only [flatC, List.flatMap_cons, List.flatten_cons, h.1, this]
      exact this _ _ hxs
    have hrun := run_buildSlice (P := P) (w := w) (ρ := ρ) (d := d) (ty := ty) (pos := pos) (aft := aft) (gd := gd) (n := n) (ps := ps.toList) hu hi hz hsz (natIx_out _ 0 hix) rfl hlen (fun v hv => by
      have : v.cells ∈ xss.map List.toArray := by rw [← hxs]; exact List.mem_map_of_mem hv
      obtain ⟨x, hx, hxe⟩ := List.mem_map.1 this
      rw [← hxe]; simpa using (hall x hx).1) (by have := @sizes_le e.1 e.2; have := Nat.mul_le_mul hn this; omega) hflat
    have hlen2 := he.length
    simp only [List.nil_append] at he hlen2
    rw [hDk] at hlen2
    have hnew := newArr (e := e.1) hs.inv hb (Grow.alloc w (.cells xss.flatten.toArray e.1 (0, 0))) he ⟨some ⟨w.heap.size, 0, none⟩, n, by rw [hDn]⟩ (by
      rw [hDk, hDn]
      exact row_new (by rw [← hDn]; exact hlen2) (by simp only [maxLen]; omega))
    rw [hDk] at hnew
    have hps : ps.toList.toArray = ps := by simp
    rw [hps] at hrun
    exact ⟨_, _, _, _, _, h, hrun, hnew.1, hnew.2.1.rv, by rw [List.length_set]; have := hs.inv.len; have := hI.len; simp at *; omega, hnew.2.2⟩
  · cases h
theorem elems_one {Z : Zone} {D : SD} {ys : List Value} (h : ElemsR Z w D ys) : ∀ u ∈ ys, u.oneCell' = true := by
  cases D with
  | ts l =>
    obtain ⟨hs, _, rfl, _⟩ := h
    induction hs generalizing l with
    | nil => intro u hu; simp [flatT_nil] at hu
    | cons t hs ih =>
      intro u hu
      rw [flatT_cons] at hu
      simp only [List.mem_cons] at hu
      rcases hu with rfl | rfl | rfl | hu
      · rfl
      · rfl
      · rfl
      · rename_i h1 h2; exact ih _ rfl (fun h hh => h2 h (List.mem_cons_of_mem _ hh)) u hu
  | is l => simp only [ElemsR] at h; subst h; intro u hu; obtain ⟨x, _, rfl⟩ := List.mem_map.1 hu; rfl
  | iss l =>
    intro u hu
    obtain ⟨i, hi⟩ := List.getElem?_of_mem hu
    obtain ⟨a, _, c, cap, rfl, _⟩ := All2.get' h hi
    rfl
  | ss l => simp only [ElemsR] at h; subst h; intro u hu; obtain ⟨x, _, rfl⟩ := List.mem_map.1 hu; rfl
  | bs l => simp only [ElemsR] at h; subst h; intro u hu; obtain ⟨x, _, rfl⟩ := List.mem_map.1 hu; rfl
theorem exec_append {v Y v' : Value} (hx : ρ x = v) (hy : ρ y = Y) (hr : (Builtin.append_ #[t, t] ty #[v, Y]).run P w = .ok v' w') :
    (execOp ρ ⟨d, .call ⟨.builtin .append, #[x, y], #[t, t]⟩, ty, pos, aft, gd⟩).run P w = .ok (.value v') w' := by
  unfold execOp
  simp only [resolve, invoke, builtin, Sem.run_bind, Sem.run_pure, Result.andThen_ok, List.map_toArray, List.map_cons, List.map_nil, hx, hy, hr]
theorem run_append_none {e : TypeId} {i : TypeInfo} {a : Option Addr} {n c : Nat} {Y : Value} (hu : P.underlying t = some (.slice e)) (hi : P.info? e = some i) (hY : ∃ a' c', Y = .slice a' 0 c') (hn : n ≤ c) :
    (Builtin.append_ #[t, t] ty #[.slice a n c, Y]).run P w = .ok (.slice a n c) w := by
  obtain ⟨a', c', rfl⟩ := hY
  have hf : (Builtin.firstCells i.size 0 (.slice a' 0 c')).run P w = .ok #[] w := by
    cases a' with
    | none => rfl
    | some a' => simp [Builtin.firstCells, loadCells, loadCellsFrom, Sem.run_pure]
  unfold Builtin.append_
  cases a with
  | none => simp [Sem.run_bind, Go.Dk.run_underlying hu, Go.Dk.run_sizeOf hi, Builtin.lenOf, Sem.run_pure, hn, hf]
  | some a => simp [Sem.run_bind, Go.Dk.run_underlying hu, Go.Dk.run_sizeOf hi, Builtin.lenOf, Sem.run_pure, hn, hf, storeCells]
/-- append, onto a row of the call's own. -/
theorem run_app {e : TypeId × SK} (hk : kindS P t = some e) {v Y : Value} {n : Nat} {xs : List Value} (hown : (rowZ e.1 e.2.size v n xs).own w) (hv : ∃ a c, v = .slice a n c) {Z : Zone} {D : SD} (hD : D.kind = e.2) (hY : RdS Z w D Y) (hroom : n + D.len ≤ 1099511627776) :
    ∃ v' w' ys, ElemsR Z w D ys ∧ (Builtin.append_ #[t, t] ty #[v, Y]).run P w = .ok v' w' ∧ (rowZ e.1 e.2.size v' (n + D.len) (xs ++ ys)).own w' ∧ (∃ a c, v' = .slice a (n + D.len) c) ∧ Ext (rowZ e.1 e.2.size v n xs).foot w w' ∧
      ∀ k, (rowZ e.1 e.2.size v' (n + D.len) (xs ++ ys)).foot k → ((rowZ e.1 e.2.size v n xs).foot k ∨ w.heap.size ≤ k) ∧ k < w'.heap.size := by
  obtain ⟨hu, hke⟩ := kindS_out hk
  obtain ⟨_, i, z, hi, hz, hsz, hzs, hby⟩ := kindE_out hke
  have hpos := SK.size_pos e.2
  obtain ⟨a, c, hv⟩ := hv
  have hrow : n ≤ c ∧ (c = 0 → n = 0 ∧ xs = []) ∧ (c ≠ 0 → w.ownsRow 0 e.1 e.2.size v n xs ∧ ∀ k, (rowZ e.1 e.2.size v n xs).foot k ↔ v.ownBlock = some k) := by
    subst hv
    by_cases hc : c = 0
    · subst hc
      rw [rowZ_zero] at hown
      exact ⟨by rw [hown.1]; exact Nat.zero_le _, fun _ => ⟨hown.1, hown.2.1⟩, fun h => absurd rfl h⟩
    · rw [rowZ_pos hc] at hown
      have h1 : w.ownsRow 0 e.1 e.2.size (.slice a n c) n xs := hown
      refine ⟨?_, fun h => absurd h hc, fun _ => ⟨h1, fun k => by rw [rowZ_pos hc]; rfl⟩⟩
      rcases h1.2 with ⟨h2, h3⟩ | ⟨g, cap, cur, h2, _, _, hn, _⟩
      · rw [h3]; exact Nat.zero_le _
      · injection h2 with _ _ h5; omega
  obtain ⟨hnc, hzero, hpos'⟩ := hrow
  by_cases h0 : D.len = 0
  · have hY' : ∃ a' c', Y = .slice a' 0 c' := by obtain ⟨a', c', ys, hY, _⟩ := hY; exact ⟨a', c', by rw [hY, h0]⟩
    obtain ⟨a', c', ys, hYe, _, he, _⟩ := hY
    have hys : ys = [] := List.eq_nil_of_length_eq_zero (by rw [he.length, h0, Nat.zero_mul])
    subst hys
    refine ⟨v, w, [], he, ?_, by rw [h0, Nat.add_zero, List.append_nil]; exact hown, ⟨a, c, by rw [h0, Nat.add_zero]; exact hv⟩, Ext.refl _ _, fun k hk => ?_⟩
    · rw [hv]; exact run_append_none hu hi hY' hnc
    · rw [h0, Nat.add_zero, List.append_nil] at hk
      refine ⟨.inl hk, ?_⟩
      by_cases hc : c = 0
      · subst hc; subst hv; rw [rowZ_zero] at hk; exact hk.elim
      · obtain ⟨h1, h2⟩ := hpos' hc
        exact (h1.lt k ((h2 k).1 hk)).2
  · obtain ⟨bb, off, c', ys, rfl, he, hc⟩ := hY.ne (by omega)
    have hl : ys.length = D.len * e.2.size := by rw [he.length, hD]
    have hnews : ∀ j u, ys[j]? = some u → w.cell? (Addr.add ⟨bb, off, none⟩ j) = some u := fun j u hj => by rw [addr_add]; exact hc j u hj
    have hone := elems_one he
    have hbytes : (n + D.len) * i.bytes ≤ 140737488355328 := by
      have : (n + D.len) * i.bytes ≤ 1099511627776 * 64 := Nat.mul_le_mul hroom hby
      omega
    have hap : P.underlying t = some (.slice e.1) ∧ ∃ i' z', P.info? e.1 = some i' ∧ i'.zero = some z' ∧ i'.size = e.2.size ∧ i'.bytes = i.bytes ∧ z'.cells.size = e.2.size ∧ 0 < e.2.size := ⟨hu, i, z, hi, hz, hsz, rfl, hzs, hpos⟩
    have fin : ∀ v' w', (Builtin.append_ #[t, t] ty #[v, .slice (some ⟨bb, off, none⟩) D.len c']).run P w = .ok v' w' → w'.ownsRow 0 e.1 e.2.size v' (n + D.len) (xs ++ ys) → Ext (rowZ e.1 e.2.size v n xs).foot w w' →
        (∀ b, v'.ownBlock = some b → (rowZ e.1 e.2.size v n xs).foot b ∨ w.heap.size ≤ b) → 
        ∃ v' w' ys', ElemsR Z w D ys' ∧ (Builtin.append_ #[t, t] ty #[v, .slice (some ⟨bb, off, none⟩) D.len c']).run P w = .ok v' w' ∧ (rowZ e.1 e.2.size v' (n + D.len) (xs ++ ys')).own w' ∧ (∃ a c, v' = .slice a (n + D.len) c) ∧ Ext (rowZ e.1 e.2.size v n xs).foot w w' ∧
          ∀ k, (rowZ e.1 e.2.size v' (n + D.len) (xs ++ ys')).foot k → ((rowZ e.1 e.2.size v n xs).foot k ∨ w.heap.size ≤ k) ∧ k < w'.heap.size := by
      intro v' w' hr ho hx hf
      have ho' := ho
      rcases ho.2 with ⟨_, h3⟩ | ⟨g, cap, cur, h2, _, _, hn, _⟩
      · omega
      · refine ⟨v', w', ys, he, hr, ?_, ⟨_, cap, h2⟩, hx, ?_⟩
        · rw [h2, rowZ_pos (by omega)]; rw [h2] at ho'; exact ho'
        · rw [h2, rowZ_pos (by omega)]
          intro k hk
          rw [h2] at hf ho'
          exact ⟨hf k hk, (ho'.lt k hk).2⟩
    by_cases hc0 : c = 0
    · obtain ⟨rfl, rfl⟩ := hzero hc0
      subst hc0
      have hfoot : ∀ k, ¬ (rowZ e.1 e.2.size v 0 []).foot k := by subst hv; rw [rowZ_zero]; exact fun k h => h
      cases a with
      | none =>
        obtain ⟨v', w', hr, ho, hg, hf⟩ := run_append_row (P := P) w t ty hap v 0 [] (by rw [hv]; exact World.ownsRow_nil w 0 e.1 e.2.size) ⟨bb, off, none⟩ D.len c' ys hl hnews (fun u hu => hone u hu) hbytes (by omega)
        refine fin v' w' hr ho ((grownBy_ext hg).weak fun k _ hk => ?_) fun b hb => .inr ?_
        · rw [hv] at hk; cases hk
        · rcases hf b hb with h | h
          · rw [hv] at h; cases h
          · exact h
      | some ad =>
        obtain ⟨v', w', hr, ho, hg⟩ := run_append_arg_grows (P := P) w t ty e.1 i z e.2.size i.bytes hu hi hz hsz rfl hzs hpos ad 0 0 [] (by simp) (fun j u hj => by simp at hj) ⟨bb, off, none⟩ D.len c' ys hl hnews (by omega) (by simp only [maxLen]; omega) hbytes
        rw [← hv] at hr
        refine fin v' w' hr ⟨ho.1, ho.2.imp id fun ⟨g, cap, cur, h1, h2, h3⟩ => ⟨g, cap, cur, h1, Nat.zero_le _, h3⟩⟩ ⟨hg.os, hg.tape, hg.output, hg.size, fun k hk _ => hg.block k hk nofun⟩ fun b hb => .inr (ho.lt b hb).1
    · obtain ⟨h1, h2⟩ := hpos' hc0
      obtain ⟨v', w', hr, ho, hg, hf⟩ := run_append_row (P := P) w t ty hap v n xs h1 ⟨bb, off, none⟩ D.len c' ys hl hnews (fun u hu => hone u hu) hbytes (by omega)
      exact fin v' w' hr ho ((grownBy_ext hg).weak fun k _ hk => (h2 k).2 hk) fun b hb => (hf b hb).imp (h2 b).2 id
theorem app_sound {Z : Zone} {D D' : SD} {xs ys : List Value} {k : SD → OR} (h1 : ElemsR Z w D xs) (h2 : ElemsR Z w D' ys) (h : D.app D' k = some r) : ∃ D'', k D'' = some r ∧ ElemsR Z w D'' (xs ++ ys) ∧ D''.len = D.len + D'.len ∧ D''.kind = D.kind := by
  unfold SD.app at h
  split at h
  · obtain ⟨hs, rfl, rfl, hr⟩ := h1
    obtain ⟨hs', rfl, rfl, hr'⟩ := h2
    exact ⟨_, h, ⟨hs ++ hs', by simp, by rw [flatT_append], fun u hu => (List.mem_append.1 hu).elim (hr u) (hr' u)⟩, by simp [SD.len], rfl⟩
  · simp only [ElemsR] at h1 h2; subst h1 h2; exact ⟨_, h, by simp [ElemsR], by simp [SD.len], rfl⟩
  · exact ⟨_, h, All2.append h1 h2, by simp [SD.len], rfl⟩
  · simp only [ElemsR] at h1 h2; subst h1 h2; exact ⟨_, h, by simp [ElemsR], by simp [SD.len], rfl⟩
  · simp only [ElemsR] at h1 h2; subst h1 h2; exact ⟨_, h, by simp [ElemsR], by simp [SD.len], rfl⟩
  · cases h
theorem evAppend_sound (hI : InvG w0 M Z0 b G s tv w) (hb : b < G.length) {k : SV → List AObj → OR} (hx : RV G (zn w0 Z0 s G) w vx (ρ x)) (hy : RV G (zn w0 Z0 s G) w vy (ρ y)) (h : evAppend P t vx vy s.heap b k = some r) :
    ∃ v h' G' w' X, k v h' = some r ∧ (execOp ρ ⟨d, .call ⟨.builtin .append, #[x, y], #[t, t]⟩, ty, pos, aft, gd⟩).run P w = .ok (.value X) w' ∧ InvG w0 M Z0 (b + 1) G' ⟨s.tmps, h'⟩ tv w' ∧ OneR G' (zn w0 Z0 ⟨s.tmps, h'⟩ G') w' v X ∧ h'.length = s.heap.length ∧ Up G G' := by
  unfold evAppend at h
  split at h
  · cases h
  · rename_i e hk
    split at h
    · replace h := readS_sound hI hy.1 h; obtain ⟨D, h, hrd⟩ := h
      replace h := cond_left h; obtain ⟨hek, h⟩ := h
      have hek := SK.beq_eq hek
      split at h
      · rename_i j v
        split at h
        · rename_i e' D0 ver hj
          replace h := cond_left h; obtain ⟨hc, h⟩ := h
          simp only [Bool.and_eq_true, Nat.beq_eq] at hc
          obtain ⟨hv, he'⟩ := hc
          obtain ⟨val, xs, hg, hel, hval, hown⟩ := hI.row hj
          have hX := own_val hx.1 hg hv
          have happ : ∀ ys, ElemsR (zn w0 Z0 s G) w D ys → ∃ D'', (cond (roomB D''.len) (k (.own j (ver + 1)) (s.heap.set j (.arr e' D'' (ver + 1) false))) none) = some r ∧ ElemsR (zn w0 Z0 s G) w D'' (xs ++ ys) ∧ D''.len = D0.len + D.len ∧ D''.kind = D0.kind := fun ys hys => app_sound hel hys h
          have hrd' := hrd
          obtain ⟨a', c', ys0, _, _, hel0, _⟩ := hrd
          obtain ⟨D1, h1, _, hl1, hk1⟩ := happ ys0 hel0
          have hkk : D0.kind = e.2 := by
            cases D0 <;> cases D <;> first | exact hek.symm | (simp [SD.app] at h)
          have hroom : D0.len + D.len ≤ 1099511627776 := by
            have := (cond_left h1).1
            simp only [roomB, decide_eq_true_eq] at this
            omega
          obtain ⟨v', w', ys, hys, hr, hown', hval', hext, hfoot⟩ := run_app (P := P) (t := t) (ty := ty) (w := w) (v := val) (n := D0.len) (xs := xs) hk (by rw [he', ← hkk]; exact hown) hval hek.symm hrd' hroom
          obtain ⟨D'', h2, hel'', hl'', hk''⟩ := happ ys hys
          have h2' := (cond_left h2).2
          have hup : Up G (G.set j (.arr (ver + 1) v' D0.kind.size (xs ++ ys))) := Up.set fun g0 h0 => by rw [hg] at h0; obtain rfl := Option.some.inj h0; exact ⟨rfl, .inl (Nat.lt_succ_self _)⟩
          have hu := hI.updObj (o' := .arr e' D'' (ver + 1) false) (g' := .arr (ver + 1) v' D0.kind.size (xs ++ ys)) (q := rowZ e' D0.kind.size val D0.len xs) (q' := rowZ e' D0.kind.size v' D''.len (xs ++ ys)) hj hg nofun rfl
            (by rw [← he', hkk]; exact hext) rfl (by rw [← he', hkk, hl'']; exact hown') (by rw [← he', hkk, hl'']; exact hfoot) hup
            (fun Z' hk => ⟨rfl, hk''.symm ▸ rfl, hel''.stable hk, by rw [hl'']; exact hval'⟩)
          refine ⟨_, _, _, w', v', h2', exec_append hX rfl hr, hu.1.raise (Nat.le_succ _), ⟨.inr ⟨ver + 1, v', D0.kind.size, xs ++ ys, by simp [lt_of_some hg], Nat.le_refl _, fun _ => rfl⟩, ?_⟩, by simp, hup⟩
          obtain ⟨a, c, rfl⟩ := hval'; rfl
        · cases h
      · replace h := cond_left h; obtain ⟨hroom, h⟩ := h
        simp only [roomB, decide_eq_true_eq] at hroom
        obtain ⟨a, hX⟩ := hx.1
        obtain ⟨v', w', ys, hys, hr, hown', hval', hext, hfoot⟩ := run_app (P := P) (t := t) (ty := ty) (w := w) (v := .slice a 0 0) (n := 0) (xs := []) hk (by rw [rowZ_zero]; exact ⟨rfl, rfl, rfl⟩) ⟨a, 0, rfl⟩ hek.symm hrd (by omega)
        rw [rowZ_zero] at hext hfoot
        simp only [Nat.zero_add, List.nil_append] at hown' hval' hfoot
        have hnew := newArr (e := e.1) (b := b) hI hb (hext.weak fun _ _ h => h) hys hval' ⟨by rw [← hek]; exact hown', fun k hk => by rw [← hek] at hk; exact ⟨(hfoot k hk).1.resolve_left id, (hfoot k hk).2⟩⟩
        exact ⟨_, _, _, w', v', h, exec_append hX rfl hr, hnew.1, hnew.2.1, by simp, hnew.2.2⟩
      · cases h
    · cases h
theorem flatT_replicate (n : Nat) (t : HT) : flatT (List.replicate n t) = (List.replicate n [.int .i64 t.k, .int .i64 t.n, t.sl]).flatten := by
  induction n with
  | zero => rfl
  | succ n ih => rw [List.replicate_succ, flatT_cons, ih, List.replicate_succ, List.flatten_cons]; rfl
theorem flatten_one {α : Type} (n : Nat) (a : α) : (List.replicate n [a]).flatten = List.replicate n a := by
  induction n with
  | zero => rfl
  | succ n ih => rw [List.replicate_succ, List.flatten_cons, ih, List.replicate_succ]; rfl
theorem zeros_sound {Z : Zone} {e : TypeId} {k : SK} {n : Nat} {D : SD} (hz : zeroIs P e k = true) (h : zeros n k = some D) : ∃ zs, zeroB P e = some zs ∧ zs.length = k.size ∧ ElemsR Z w D (List.replicate n zs).flatten ∧ D.len = n ∧ D.kind = k := by
  unfold zeroIs at hz
  split at hz
  · rename_i h1
    simp only [Bool.and_eq_true, decide_eq_true_eq] at hz
    obtain ⟨rfl, rfl⟩ := hz
    simp only [zeros, Option.some.injEq] at h; subst h
    refine ⟨_, h1, rfl, ⟨List.replicate n (.mk 0 0 none 0 []), by simp [HT.er, HT.erL], ?_, fun u hu => ?_⟩, by simp [SD.len], rfl⟩
    · rw [flatT_replicate]; rfl
    · rw [(List.mem_replicate.1 hu).2]; exact Rd_none
  · rename_i h1
    simp only [decide_eq_true_eq] at hz; subst hz
    simp only [zeros, Option.some.injEq] at h; subst h
    exact ⟨_, h1, rfl, by simp [ElemsR, flatten_one], by simp [SD.len], rfl⟩
  · rename_i h1
    simp only [decide_eq_true_eq] at hz; subst hz
    simp only [zeros, Option.some.injEq] at h; subst h
    exact ⟨_, h1, rfl, by simp [ElemsR, flatten_one], by simp [SD.len], rfl⟩
  · rename_i h1
    simp only [decide_eq_true_eq] at hz; subst hz
    simp only [zeros, Option.some.injEq] at h; subst h
    exact ⟨_, h1, rfl, by simp [ElemsR, flatten_one], by simp [SD.len], rfl⟩
  · cases hz
theorem evMake_sound (hI : InvG w0 M Z0 b G s tv w) (hb : b < G.length) {k : SV → List AObj → OR} (hx : RV G (zn w0 Z0 s G) w vx (ρ x)) (hy : RV G (zn w0 Z0 s G) w vy (ρ y)) (h : evMake P t vx vy s.heap b k = some r) :
    ∃ v h' G' w' X, k v h' = some r ∧ (execOp ρ ⟨d, .makeSlice t x y, ty, pos, aft, gd⟩).run P w = .ok (.value X) w' ∧ InvG w0 M Z0 (b + 1) G' ⟨s.tmps, h'⟩ tv w' ∧ OneR G' (zn w0 Z0 ⟨s.tmps, h'⟩ G') w' v X ∧ h'.length = s.heap.length ∧ Up G G' := by
  unfold evMake at h
  replace h := optInt_some h hx; obtain ⟨n, hX, h⟩ := h
  replace h := optInt_some h hy; obtain ⟨m, hY, h⟩ := h
  replace h := cond_left h; obtain ⟨hc, h⟩ := h
  simp only [Bool.and_eq_true, decide_eq_true_eq] at hc
  obtain ⟨rfl, hn0, hn⟩ := hc
  split at h
  · rename_i e hk
    replace h := cond_left h; obtain ⟨hz, h⟩ := h
    replace h := bind_some h; obtain ⟨D, hD, h⟩ := h
    obtain ⟨zs, hzb, hzl, hel, hDl, hDk⟩ := zeros_sound (Z := zn w0 Z0 s G) (w := w) hz hD
    obtain ⟨hu, hke⟩ := kindS_out hk
    obtain ⟨_, i, z, hi, hiz, hsz, hzs, hby⟩ := kindE_out hke
    have hzz := hzb
    unfold zeroB at hzz
    simp only [hi, hiz, Option.some.injEq] at hzz
    have hs3 := @sizes_le e.1 e.2
    have hpos := SK.size_pos e.2
    have hr := run_makeSlice (P := P) w t e.1 i z hu hi hiz .i64 .i64 n n (by omega) (by omega) (by
        rw [hsz]
        have := Nat.mul_le_mul (show n.toNat ≤ 4194304 by omega) hs3
        omega) (by
        have : (i.bytes : Int) * n ≤ 64 * 4194304 := Int.mul_le_mul (by omega) (by omega) (by omega) (by omega)
        omega) (by omega)
    have hcs : madeCells z.cells (n.toNat * i.size) = ((List.replicate n.toNat zs).flatten).toArray := by
      apply Array.toList_inj.1
      rw [← made_eq, hzl, hsz, ← hzz]
    have hlen := hel.length
    rw [hDk] at hlen
    have hnew := newArr (e := e.1) (b := b) hI hb (Grow.alloc w (.cells ((List.replicate n.toNat zs).flatten).toArray e.1 (0, 0))) hel ⟨some ⟨w.heap.size, 0, none⟩, n.toNat, by rw [hDl]⟩ (by
      rw [hDk, hDl]
      exact row_new (by rw [hDl] at hlen; exact hlen) (by simp only [maxLen]; omega))
    refine ⟨_, _, _, _, _, h, ?_, hnew.1, hnew.2.1, by simp, hnew.2.2⟩
    rw [hcs] at hr
    simp only [execOp, hX, hY, Sem.run_bind, hr, Result.andThen_ok, Sem.run_pure]
  · cases h

/-! Structs out of parts. -/
theorem build_fill {Z : Zone} {pl : List (Nat × Nat)} : ∀ {ps : List (Nat × AV)} {Xs : List Value} {z : List SV} {zs : List Value} {c : List SV}, All2 (OneR G Z w) z zs → All2 (fun (p : Nat × AV) X => RV G Z w p.2 X) ps Xs → buildS pl z ps = some c →
    ∃ cs : List Value, Instr.fill (pl.toArray[·]?) zs.toArray ((ps.map (·.1)).zip Xs) = some cs.toArray ∧ All2 (OneR G Z w) c cs
  | [], Xs, z, zs, c, hz, ha, h => by
    obtain rfl := ha.nil_inv
    simp only [buildS, Option.some.injEq] at h; subst h
    exact ⟨zs, rfl, hz⟩
  | p :: ps, Xs, z, zs, c, hz, ha, h => by
    obtain ⟨X, Xs', rfl, h1, h2⟩ := ha.cons_inv
    simp only [buildS] at h
    cases hpl : pl[p.1]? with
    | none => simp [hpl] at h
    | some o =>
      cases hcs : p.2.cs with
      | none => simp [hpl, hcs] at h
      | some cc =>
        simp only [hpl, hcs, Option.bind_some] at h
        cases hb : (Nat.beq cc.length o.2 && Nat.ble (o.1 + o.2) z.length) with
        | false => simp [hb] at h
        | true =>
          simp only [hb, cond_true] at h
          simp only [Bool.and_eq_true, Nat.beq_eq, Nat.ble_eq] at hb
          obtain ⟨xs, hx, hr⟩ := cs_sound hcs h1
          obtain ⟨cs, hf, hc⟩ := build_fill (put_rel (off := o.1) hz hr) h2 h
          refine ⟨cs, ?_, hc⟩
          have hsz : X.cells.size = o.2 := by rw [hx, List.size_toArray, ← hr.1, hb.1]
          have hpl' : pl.toArray[p.1]? = some (o.1, o.2) := by simpa using hpl
          simp only [List.map_cons, List.zip_cons_cons, Instr.fill, hpl']
          rw [if_neg (by rw [hsz]; simp [← hz.1]; omega)]
          have hfold : (X.cells.zipIdx.foldl (fun cs (p : Value × Nat) => cs.setIfInBounds (o.1 + p.2) p.1) zs.toArray) = (putL zs o.1 xs).toArray := by
            apply Array.toList_inj.1
            have := foldl_put xs 0 o.1 zs.toArray
            simp only [Nat.add_zero] at this
            rw [← this, hx, ← Array.foldl_toList]
            simp
          rw [hfold]; exact hf
theorem evBuild_sound {Z : Zone} {ps : Array (Nat × Operand)} {ρa : Operand → AV} {k : AV → OR} (hρ : ∀ x, RV G Z w (ρa x) (ρ x)) (h : evBuild P t (ps.toList.map fun p => (p.1, ρa p.2)) k = some r) :
    ∃ v X, k v = some r ∧ (execOp ρ ⟨d, .build t ps, ty, pos, aft, gd⟩).run P w = .ok (.value X) w ∧ RV G Z w v X := by
  unfold evBuild at h
  replace h := bind_some h; obtain ⟨pl, hpl, h⟩ := h
  replace h := bind_some h; obtain ⟨z, hz, h⟩ := h
  replace h := bind_some h; obtain ⟨c, hc, h⟩ := h
  obtain ⟨zs, hzb, hzr⟩ := zeroS_out hz
  obtain ⟨cs, hf, hcr⟩ := build_fill (G := G) (Z := Z) (w := w) (Xs := ps.toList.map fun p => ρ p.2) (hzr G Z w) ⟨by simp, fun i a c ha hc => by
    rw [List.getElem?_map] at ha hc
    obtain ⟨p, hp, rfl⟩ := Option.map_eq_some_iff.1 ha
    rw [hp] at hc
    obtain rfl := Option.some.inj hc
    exact hρ p.2⟩ hc
  refine ⟨_, .agg cs.toArray, h, ?_, cs, rfl, hcr⟩
  have hb : P.built t ((ps.map fun p => (p.1, ρ p.2)).toList) = some cs.toArray := by
    unfold zeroB at hzb
    split at hzb
    · rename_i i hi
      split at hzb
      · rename_i zz hzz
        obtain rfl := Option.some.inj hzb
        unfold placesT at hpl
        split at hpl
        · rename_i fs hu
          unfold Program.built
          simp only [hi, hu, hzz, hpl]
          rw [← hf]
          congr 1
          · have : ∀ l : List (Nat × Operand), (l.map fun p => (p.1, ρ p.2)) = ((l.map fun p => (p.1, ρa p.2)).map (·.1)).zip (l.map fun p => ρ p.2) := by
              intro l
              induction l with
              | nil => rfl
              | cons p l ih => simp only [List.map_cons, List.zip_cons_cons, ih]
            rw [← this]; simp
        · cases hpl
      · cases hzb
    · cases hzb
  simp only [execOp, Sem.run_bind, Go.run_build w t _ _ hb, Result.andThen_ok, Sem.run_pure]

/-! Parts of slices and of strings. -/
theorem sub_len {D : SD} {lo hi : Nat} (h : lo ≤ hi) (h2 : hi ≤ D.len) : (D.sub lo hi).len = hi - lo := by
  cases D <;> simp [SD.sub, SD.len] at * <;> omega
theorem sub_kind {D : SD} {lo hi : Nat} : (D.sub lo hi).kind = D.kind := by cases D <;> rfl
theorem flatT_take (n : Nat) : ∀ hs : List HT, (flatT hs).take (n * 3) = flatT (hs.take n) := by
  induction n with
  | zero => intro hs; simp [flatT_nil]
  | succ n ih =>
    intro hs
    cases hs with
    | nil => simp [flatT_nil]
    | cons t hs => rw [flatT_cons, List.take_succ_cons, flatT_cons, ← ih]; rw [show (n + 1) * 3 = n * 3 + 1 + 1 + 1 by omega]; rfl
theorem flatT_drop (n : Nat) : ∀ hs : List HT, (flatT hs).drop (n * 3) = flatT (hs.drop n) := by
  induction n with
  | zero => intro hs; simp
  | succ n ih =>
    intro hs
    cases hs with
    | nil => simp [flatT_nil]
    | cons t hs => rw [flatT_cons, List.drop_succ_cons, ← ih]; rw [show (n + 1) * 3 = n * 3 + 1 + 1 + 1 by omega]; rfl
theorem sub_sound {Z : Zone} {D : SD} {xs : List Value} (h : ElemsR Z w D xs) (lo hi : Nat) : ElemsR Z w (D.sub lo hi) ((xs.take (hi * D.kind.size)).drop (lo * D.kind.size)) := by
  cases D with
  | ts l =>
    obtain ⟨hs, rfl, rfl, hr⟩ := h
    refine ⟨(hs.take hi).drop lo, by rw [List.map_drop, List.map_take], ?_, fun t ht => hr t (List.mem_of_mem_take (List.mem_of_mem_drop ht))⟩
    simp only [SD.kind, SK.size]
    rw [flatT_take, flatT_drop]
  | is l => simp only [ElemsR] at h; subst h; simp [ElemsR, SD.sub, SD.kind, SK.size, List.map_take, List.map_drop]
  | iss l => simp only [SD.kind, SK.size, Nat.mul_one]; exact (All2.take h hi).drop lo
  | ss l => simp only [ElemsR] at h; subst h; simp [ElemsR, SD.sub, SD.kind, SK.size, List.map_take, List.map_drop]
  | bs l => simp only [ElemsR] at h; subst h; simp [ElemsR, SD.sub, SD.kind, SK.size, List.map_take, List.map_drop]
theorem kindEq_out {o : Option (TypeId × SK)} {k : SK} (h : evSlice.kindEq o k = true) : ∃ e, o = some (e, k) := by
  cases o with
  | none => cases h
  | some a => have := SK.beq_eq h; exact ⟨a.1, by rw [← this]⟩
theorem optRV {Z : Zone} {lo : Option Operand} {ρa : Operand → AV} {v : AV} (hρ : ∀ x, RV G Z w (ρa x) (ρ x)) (h : lo.map ρa = some v) : ∃ X, lo.map ρ = some X ∧ RV G Z w v X := by
  cases lo with
  | none => cases h
  | some x => obtain rfl := Option.some.inj h; exact ⟨_, rfl, hρ x⟩
theorem bounds_sound {Z : Zone} {lo hi : Option Operand} {ρa : Operand → AV} {n : Nat} {k : Int → Int → OR} (hρ : ∀ x, RV G Z w (ρa x) (ρ x)) (h : evSlice.bounds (lo.map ρa) (hi.map ρa) n k = some r) :
    ∃ l m : Int, k l m = some r ∧ 0 ≤ l ∧ l ≤ m ∧ m ≤ n ∧ (∀ sl cap : Nat, n ≤ cap → ∀ b, (Instr.sliceBounds b n cap (lo.map ρ) (hi.map ρ) none).run P w = .ok (l.toNat, m.toNat, cap) w) := by
  unfold evSlice.bounds at h
  split at h
  · rename_i h1 h2
    have h1 : lo = none := by cases lo <;> simp_all
    have h2 : hi = none := by cases hi <;> simp_all
    subst h1 h2
    refine ⟨0, n, h, Int.le_refl _, by omega, Int.le_refl _, fun _ cap hc b => ?_⟩
    simp [Instr.sliceBounds, Sem.run_bind, Sem.run_pure]
  · rename_i h1 h2
    have h2 : hi = none := by cases hi <;> simp_all
    subst h2
    obtain ⟨X, hX, hr⟩ := optRV hρ h1
    replace h := optInt_some h hr; obtain ⟨l, rfl, h⟩ := h
    replace h := cond_left h; obtain ⟨hc, h⟩ := h
    simp only [inB, Bool.and_eq_true, decide_eq_true_eq] at hc
    refine ⟨l, n, h, hc.1, hc.2.1, hc.2.2, fun _ cap hcap b => ?_⟩
    have hb : 0 ≤ l ∧ l ≤ (n : Int) := ⟨hc.1, hc.2.1⟩
    simp [Instr.sliceBounds, hX, Instr.sliceBound, asIntOf, Sem.run_bind, Sem.run_pure, hb]
  · rename_i h1 h2
    have h1 : lo = none := by cases lo <;> simp_all
    subst h1
    obtain ⟨X, hX, hr⟩ := optRV hρ h2
    replace h := optInt_some h hr; obtain ⟨m, rfl, h⟩ := h
    replace h := cond_left h; obtain ⟨hc, h⟩ := h
    simp only [inB, Bool.and_eq_true, decide_eq_true_eq] at hc
    refine ⟨0, m, h, Int.le_refl _, hc.2.1, hc.2.2, fun _ cap hcap b => ?_⟩
    have hb : 0 ≤ m ∧ m ≤ (cap : Int) := ⟨hc.2.1, by omega⟩
    simp [Instr.sliceBounds, hX, Instr.sliceBound, asIntOf, Sem.run_bind, Sem.run_pure, hb]
  · rename_i h1 h2
    obtain ⟨X, hX, hr⟩ := optRV hρ h1
    obtain ⟨Y, hY, hr2⟩ := optRV hρ h2
    replace h := optInt_some h hr; obtain ⟨l, rfl, h⟩ := h
    replace h := optInt_some h hr2; obtain ⟨m, rfl, h⟩ := h
    replace h := cond_left h; obtain ⟨hc, h⟩ := h
    simp only [inB, Bool.and_eq_true, decide_eq_true_eq] at hc
    refine ⟨l, m, h, hc.1, hc.2.1, hc.2.2, fun _ cap hcap b => ?_⟩
    have hb : 0 ≤ m ∧ m ≤ (cap : Int) := ⟨by omega, by omega⟩
    have hb2 : 0 ≤ l ∧ l ≤ ((m.toNat : Nat) : Int) := ⟨hc.1, by omega⟩
    simp [Instr.sliceBounds, hX, hY, Instr.sliceBound, asIntOf, Sem.run_bind, Sem.run_pure, hb]
    intro hq; omega
theorem SlR.sub {Z : Zone} {D : SD} {a : Option Addr} {n c : Nat} (h : SlR Z w D (.slice a n c)) {l m : Nat} (h1 : l ≤ m) (h2 : m ≤ n) : SlR Z w (D.sub l m) (.slice (if c = l then a else a.map (·.add (l * D.kind.size))) (m - l) (c - l)) := by
  obtain ⟨a', c', xs, hX, hc, hm, he, hb⟩ := h
  injection hX with e1 e2 e3
  subst e1 e2 e3
  refine ⟨_, _, _, by rw [sub_len h1 h2], by rw [sub_len h1 h2]; omega, by rw [sub_len h1 h2]; omega, sub_sound he l m, ?_⟩
  rcases hb with rfl | ⟨bb, off, rfl, hz, hc'⟩
  · left; simp
  · by_cases hcl : c = l
    · left
      have : m = l := by omega
      subst this
      apply List.drop_eq_nil_of_le
      rw [List.length_take]; exact Nat.min_le_left _ _
    · right
      refine ⟨bb, off + l * D.kind.size, by rw [if_neg hcl]; simp [addr_add], hz, fun i x hx => ?_⟩
      rw [List.getElem?_drop, List.getElem?_take] at hx
      split at hx
      · rw [Nat.add_assoc]; exact hc' _ x hx
      · cases hx
theorem evSlice_sound (hI : InvG w0 M Z0 b G s tv w) {lo hi mx : Option Operand} {ρa : Operand → AV} {k : SV → List AObj → OR} (hρ : ∀ x, RV G (zn w0 Z0 s G) w (ρa x) (ρ x)) (h : evSlice P t (ρa x) (lo.map ρa) (hi.map ρa) (mx.map ρa) s.heap k = some r) :
    ∃ v h' X, k v h' = some r ∧ (execOp ρ ⟨d, .slice t x lo hi mx, ty, pos, aft, gd⟩).run P w = .ok (.value X) w ∧ Sealed w0 M Z0 b G s tv w h' ∧ OneR G (zn w0 Z0 ⟨s.tmps, h'⟩ G) w v X := by
  have hx := hρ x
  unfold evSlice at h
  split at h
  · rename_i m0 hmx
    obtain ⟨MX, hMX, hrm⟩ := optRV hρ hmx
    replace h := cond_left h; obtain ⟨hks, h⟩ := h
    have hne : kindS P t ≠ none := by intro e; rw [e] at hks; cases hks
    replace h := optInt_some h hrm; obtain ⟨m, rfl, h⟩ := h
    have fin : ∀ {kk : TypeId × SK} {n cap : Nat} {a : Option Addr}, kindS P t = some kk → ρ x = .slice a n cap → ∀ n' : Int, hi.map ρ = some (.int .i64 n') → m = 0 → n' = 0 → (lo = none ∨ lo.map ρ = some (.int .i64 0)) →
        ∃ a', (execOp ρ ⟨d, .slice t x lo hi mx, ty, pos, aft, gd⟩).run P w = .ok (.value (.slice a' 0 0)) w := by
      intro kk n cap a hk hX n' hH hm hn hlo
      subst hm hn
      obtain ⟨hu, hke⟩ := kindS_out hk
      obtain ⟨_, i, z, hi', hz, hsz, _, _⟩ := kindE_out hke
      refine ⟨a, ?_⟩
      rcases hlo with rfl | hlo
      · simp [execOp, Instr.sliceAt, Instr.slice, Sem.run_bind, Go.Dk.run_underlying hu, hX, hMX, hH, Instr.sliceBounds, Instr.sliceBound, asIntOf, Go.Dk.run_sizeOf hi', Sem.run_pure]
      · simp [execOp, Instr.sliceAt, Instr.slice, Sem.run_bind, Go.Dk.run_underlying hu, hX, hMX, hH, hlo, Instr.sliceBounds, Instr.sliceBound, asIntOf, Go.Dk.run_sizeOf hi', Sem.run_pure]
    have body : ∀ n' : Int, hi.map ρ = some (.int .i64 n') → m = 0 → n' = 0 → (lo = none ∨ lo.map ρ = some (.int .i64 0)) → (match ρa x with
      | .v (.one (.fr d)) => cond (evSlice.kindEq (kindS P t) d.kind) (k (.emp (kindS P t)) s.heap) none
      | .v (.one (.own j v)) => (match s.heap[j]? with
        | some (.arr _ d ver _) => cond (Nat.beq v ver && evSlice.kindEq (kindS P t) d.kind) (k (.emp (kindS P t)) s.heap) none
        | _ => none)
      | .v (.one (.emp e)) => (k (.emp (kindS P t)) s.heap)
      | _ => none) = some r → kindS P t ≠ none → 
        ∃ v h' X, k v h' = some r ∧ (execOp ρ ⟨d, .slice t x lo hi mx, ty, pos, aft, gd⟩).run P w = .ok (.value X) w ∧ Sealed w0 M Z0 b G s tv w h' ∧ OneR G (zn w0 Z0 ⟨s.tmps, h'⟩ G) w v X := by
      intro n' hH hm hn hlo h hne
      split at h
      · rename_i D hax
        rw [hax] at hx
        replace h := cond_left h; obtain ⟨hk, h⟩ := h
        obtain ⟨e, hk⟩ := kindEq_out hk
        obtain ⟨a, c, hX⟩ := SlR.val hx.1
        obtain ⟨a', hr⟩ := fin hk hX n' hH hm hn hlo
        exact ⟨_, _, _, h, hr, Sealed.refl hI, ⟨a', rfl⟩, rfl⟩
      · rename_i j v hax
        rw [hax] at hx
        split at h
        · rename_i D ver fz hj
          replace h := cond_left h; obtain ⟨hk, h⟩ := h
          simp only [Bool.and_eq_true, Nat.beq_eq] at hk
          obtain ⟨e, hk2⟩ := kindEq_out hk.2
          obtain ⟨val, xs, hg, a, c, ys, hval, _⟩ := hI.arr_rd hj
          obtain ⟨a', hr⟩ := fin hk2 ((own_val hx.1 hg hk.1).trans hval) n' hH hm hn hlo
          exact ⟨_, _, _, h, hr, Sealed.refl hI, ⟨a', rfl⟩, rfl⟩
        · cases h
      · rename_i e hax
        rw [hax] at hx
        obtain ⟨a, hX⟩ := hx.1
        cases hk : kindS P t with
        | none => exact absurd hk hne
        | some kk =>
          obtain ⟨a', hr⟩ := fin hk hX n' hH hm hn hlo
          exact ⟨_, _, _, h, hr, Sealed.refl hI, ⟨a', rfl⟩, rfl⟩
      · cases h
    split at h
    · rename_i H hhi hlo
      have hlo : lo = none := by cases lo <;> simp_all
      obtain ⟨HX, hHX, hrh⟩ := optRV hρ hhi
      replace h := optInt_some h hrh; obtain ⟨n', rfl, h⟩ := h
      replace h := cond_left h; obtain ⟨hc, h⟩ := h
      simp only [Bool.and_eq_true, decide_eq_true_eq] at hc
      exact body n' hHX hc.1 hc.2 (.inl hlo) h hne
    · rename_i H L hhi hlo
      obtain ⟨HX, hHX, hrh⟩ := optRV hρ hhi
      obtain ⟨LX, hLX, hrl⟩ := optRV hρ hlo
      replace h := optInt_some h hrh; obtain ⟨n', rfl, h⟩ := h
      replace h := optInt_some h hrl; obtain ⟨l', rfl, h⟩ := h
      replace h := cond_left h; obtain ⟨hc, h⟩ := h
      simp only [Bool.and_eq_true, decide_eq_true_eq] at hc
      exact body n' hHX hc.1 hc.2.1 (.inr (by rw [hLX, hc.2.2])) h hne
    · cases h
  · rename_i hmx
    have hmx : mx = none := by cases mx <;> simp_all
    subst hmx
    split at h
    · rename_i a hax
      rw [hax] at hx
      split at h
      · rename_i hu
        obtain ⟨l, m, h', hl, hlm, hm, hb⟩ := bounds_sound (P := P) hρ h
        refine ⟨_, _, _, h', ?_, Sealed.refl hI, str_one _⟩
        simp only [execOp, Instr.sliceAt, Instr.slice, Sem.run_bind, Go.Dk.run_underlying hu, Result.andThen_ok, str_inv hx, Option.map_none]
        simp [Sem.run_bind, hb 0 a.size (Nat.le_refl _) false, Sem.run_pure]
      · cases h
    · rename_i v hv hax
      rw [hax] at hx
      split at h
      · rename_i e hk
        obtain ⟨hu, hke⟩ := kindS_out hk
        obtain ⟨_, i, z, hi', hz, hsz, _, _⟩ := kindE_out hke
        have hone : OneR G (zn w0 Z0 s G) w v (ρ x) := by
          refine ⟨hx.1, hx.2 ?_⟩
          rintro rfl
          simp [sealS] at h
        replace h := sealS_sound hI hone h; obtain ⟨v', h', h, hs, hv'⟩ := h
        split at h
        · rename_i D
          replace h := cond_left h; obtain ⟨hek, h⟩ := h
          have hek := SK.beq_eq hek
          obtain ⟨l, m, h2, hl, hlm, hm, hb⟩ := bounds_sound (P := P) hρ h
          have hsl := hv'.1
          obtain ⟨a, c, xs, hX, hc, _⟩ := id hsl
          rw [hX] at hsl
          have hsub := SlR.sub hsl (l := l.toNat) (m := m.toNat) (by omega) (by omega)
          refine ⟨_, _, _, h2, ?_, hs, hsub, rfl⟩
          simp only [execOp, Instr.sliceAt, Instr.slice, Sem.run_bind, Go.Dk.run_underlying hu, Result.andThen_ok, hX, Option.map_none]
          simp [Sem.run_bind, hb 0 c hc true, Sem.run_pure, Go.Dk.run_sizeOf hi', hsz, hek]
        · cases h
      · cases h
    · cases h
end
end Go.Ab
