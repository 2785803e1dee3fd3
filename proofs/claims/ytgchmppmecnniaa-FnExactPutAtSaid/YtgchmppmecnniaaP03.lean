/- Part 3 of the proof. -/
import Derived.Test.YtgchmppmecnniaaP01
import Derived.Test.YtgchmppmecnniaaP02
set_option linter.unusedVariables false
set_option linter.unusedSimpArgs false
section
namespace Go.Ab
open Go Go.Dk
section
variable {P : Program} {w0 w w' : World} {M Z0 : Zone} {b : Nat} {G : List GO} {s : AS} {tv : List Value} {r : List V1 × List AObj}
variable {ρ : Operand → Value} {x y : Operand} {d : Option Tmp} {ty t t' : TypeId} {pos : String} {aft : Array Edge} {gd : Option (Nat × Bool)} {vx vy : AV} {X : Value}
theorem newArr (hI : InvG w0 M Z0 b G s tv w) (hb : b < G.length) (hg : Grow w w') {e : TypeId} {D : SD} {xs : List Value} {val : Value} (hE : ElemsR (zn w0 Z0 s G) w D xs) (hval : ∃ a c, val = .slice a D.len c)
   (hq : (rowZ e D.kind.size val D.len xs).own w' ∧ ∀ k, (rowZ e D.kind.size val D.len xs).foot k → w.heap.size ≤ k ∧ k < w'.heap.size) :
   InvG w0 M Z0 (b + 1) (G.set b (.arr 0 val D.kind.size xs)) ⟨s.tmps, s.heap.set b (.arr e D 0 false)⟩ tv w' ∧
   OneR (G.set b (.arr 0 val D.kind.size xs)) (zn w0 Z0 ⟨s.tmps, s.heap.set b (.arr e D 0 false)⟩ (G.set b (.arr 0 val D.kind.size xs))) w' (.own b 0) val ∧ Up G (G.set b (.arr 0 val D.kind.size xs)) := by
 have hup : Up G (G.set b (.arr 0 val D.kind.size xs)) := Up.set fun g0 h0 => by rw [hI.fresh b (Nat.le_refl _) hb] at h0; obtain rfl := Option.some.inj h0; trivial
 refine ⟨(hI.newObj hb hg (o := .arr e D 0 false) (g := .arr 0 val D.kind.size xs) (fun q hq' => ?_) (fun Z' hk => ⟨rfl, rfl, hE.stable hk, hval⟩)).1, ⟨.inr ⟨0, val, D.kind.size, xs, by simp [hb], Nat.le_refl _, fun _ => rfl⟩, ?_⟩, hup⟩
 ·simp only [resO, List.mem_singleton] at hq'
  subst hq'; exact hq
 ·obtain ⟨a, c, rfl⟩ := hval; rfl
theorem row_new {e sz n : Nat} {cs : List Value} (hn : cs.length = n * sz) (hm : n ≤ maxLen) :
   (rowZ e sz (.slice (some ⟨w.heap.size, 0, none⟩) n n) n cs).own (w.alloc (.cells cs.toArray e (0, 0))) ∧
   ∀ k, (rowZ e sz (.slice (some ⟨w.heap.size, 0, none⟩) n n) n cs).foot k → w.heap.size ≤ k ∧ k < (w.alloc (.cells cs.toArray e (0, 0))).heap.size := by
 cases n with
 | zero =>
  rw [rowZ_zero]
  rw [Nat.zero_mul] at hn
  exact ⟨⟨rfl, List.eq_nil_of_length_eq_zero hn, rfl⟩, fun k h => h.elim⟩
 | succ n =>
  rw [rowZ_pos (by omega)]
  refine ⟨⟨hn, .inr ⟨w.heap.size, n + 1, cs.toArray, rfl, Nat.zero_le _, alloc_get _ _, Nat.le_refl _, hm, by simp [hn], ?_⟩⟩, fun k hk => ?_⟩
  ·simp only [List.toList_toArray]; rw [← hn, List.take_length]
  ·simp only [rowR, Value.ownBlock] at hk
   obtain rfl := Option.some.inj hk
   rw [alloc_size]; omega
theorem run_buildSlice {n sz e : Nat} {i : TypeInfo} {z : Value} {ps : List (Nat × Operand)} {vs cs : List Value} (hu : P.underlying t = some (.slice e)) (hi : P.info? e = some i) (hz : i.zero = some z) (hsz0 : i.size = sz)
   (hix : ps.map (·.1) = List.range' 0 ps.length) (hvs : ps.map (fun p => ρ p.2) = vs) (hn : ps.length = n) (hsz : ∀ v ∈ vs, v.cells.size = sz) (hb : n * sz ≤ 16777216) (hcs : flatC vs = cs) :
   (execOp ρ ⟨d, .buildSlice t n ps.toArray, ty, pos, aft, gd⟩).run P w = .ok (.value (.slice (some ⟨w.heap.size, 0, none⟩) n n)) (w.alloc (.cells cs.toArray e (0, 0))) := by
 have hlim : ¬ (n * i.size > 2 ^ 24) := by rw [hsz0]; simpa using hb
 have hps : ps.map (fun p => (p.1, ρ p.2)) = partsFrom 0 vs := by rw [partsFrom_map ρ ps 0 hix, hvs]
 have hvl : vs.length = n := by rw [← hvs, ← hn]; simp
 have hparts : ((ps.toArray.map fun (p : Nat × Operand) => (p.1, ρ p.2)).toList) = partsFrom 0 vs := by simpa using hps
 have key : ∀ zero : Array Value, Instr.fill (fun j => some (j * i.size, i.size)) ((Array.range (n * i.size)).map (zero[· % zero.size]!)) ((ps.toArray.map fun (p : Nat × Operand) => (p.1, ρ p.2)).toList) = some cs.toArray := by
  intro zero
  obtain ⟨B, hB, hl⟩ := fill_parts i.size vs 0 ((Array.range (n * i.size)).map (zero[· % zero.size]!)) (by rw [hsz0]; exact hsz) (by simp [hvl])
  have hBcs : B = cs.toArray := by
   apply Array.toList_inj.1
   rw [hl, Nat.zero_mul, putL_all _ _ (by rw [flatC_length i.size vs (by rw [hsz0]; exact hsz)]; simp [hvl]), hcs]
  rw [hparts, hB, hBcs]
 simp only [execOp, Instr.buildSlice, Sem.run_bind, Go.Dk.run_underlying hu, Result.andThen_ok, Go.Dk.run_sizeOf hi, if_neg hlim]
 by_cases h0 : n * i.size = 0
 ·rw [if_pos h0]
  simp only [Sem.run_bind, Sem.run_pure, Result.andThen_ok, key, newRow, newObj, Sem.run]
  rfl
 ·rw [if_neg h0]
  have hzv : (zeroValue e).run P w = .ok z w := by
   simp only [zeroValue, Sem.run_bind, Go.Dk.run_typeInfo hi, Result.andThen_ok, hz, Sem.run_pure]
  simp only [Sem.run_bind, hzv, Sem.run_pure, Result.andThen_ok, key, newRow, newObj, Sem.run]
  rfl
theorem natIx_out : ∀ (ps : List (Nat × Operand)) (k : Nat), natIx k ps = true → ps.map (·.1) = List.range' k ps.length
 | [], _, _ => rfl
 | p :: ps, k, h => by
  simp only [natIx, Bool.and_eq_true, Nat.beq_eq] at h
  simp only [List.map_cons, List.length_cons, List.range'_succ, natIx_out ps (k + 1) h.2, h.1]
theorem sizes_le {e : TypeId} {k : SK} : k.size ≤ 3 := by cases k <;> decide
theorem evBuildSlice_sound (hI : InvG w0 M Z0 b G s tv w) (hb : b < G.length) {n : Nat} {ps : Array (Nat × Operand)} {ρa : Operand → AV} {k : AV → List AObj → OR} (hρ : ∀ x, RV G (zn w0 Z0 s G) w (ρa x) (ρ x))
   (h : (match kindS P t with
    | some e => cond (natIx 0 ps.toList && (Nat.beq ps.toList.length n && Nat.ble n 4194304))
     ((csL (ps.toList.map fun p => ρa p.2)).bind fun cs => elemsOf e.2 s.heap cs e.2.nil fun d h => k (.v (.one (.own b 0))) (h.set b (.arr e.1 d 0 false))) none
    | none => none) = some r) :
   ∃ v h' G' w' X, k v h' = some r ∧ (execOp ρ ⟨d, .buildSlice t n ps, ty, pos, aft, gd⟩).run P w = .ok (.value X) w' ∧ InvG w0 M Z0 (b + 1) G' ⟨s.tmps, h'⟩ tv w' ∧ RV G' (zn w0 Z0 ⟨s.tmps, h'⟩ G') w' v X ∧ h'.length = s.heap.length ∧ Up G G' := by
 split at h
 ·rename_i e hk
  replace h := cond_left h; obtain ⟨hc, h⟩ := h
  simp only [Bool.and_eq_true, Nat.beq_eq, Nat.ble_eq] at hc
  obtain ⟨hix, hlen, hn⟩ := hc
  replace h := bind_some h; obtain ⟨cs, hcs, h⟩ := h
  obtain ⟨hu, hke⟩ := kindS_out hk
  obtain ⟨_, i, z, hi, hz, hsz, _, _⟩ := kindE_out hke
  obtain ⟨xss, hxs, hxr⟩ := csL_sound (Xs := ps.toList.map fun p => ρ p.2) hcs ⟨by simp, fun j a c ha hc => by
   rw [List.getElem?_map] at ha hc
   obtain ⟨p, hp, rfl⟩ := Option.map_eq_some_iff.1 ha
   rw [hp] at hc
   obtain rfl := Option.some.inj hc
   exact hρ p.2⟩
  replace h := elemsOf_sound hI hxr (ElemsR_nil e.2) (SK.nil_kind e.2) h
  obtain ⟨D, h', h, hs, he, hDl, hDk, hall⟩ := h
  have hcl : cs.length = n := by
   have h1 := hxr.1
   have h2 : (ps.toList.map fun p => ρ p.2).length = xss.length := by have := congrArg List.length hxs; simpa using this
   rw [h1, ← h2]; simp [← hlen]
  have hDn : D.len = n := by rw [hDl, SK.nil_len, Nat.zero_add, hcl]
  have hflat : flatC (ps.toList.map fun p => ρ p.2) = xss.flatten := by
   have : ∀ (Xs : List Value) (xss : List (List Value)), Xs.map Value.cells = xss.map List.toArray → flatC Xs = xss.flatten := by
    intro Xs
    induction Xs with
    | nil => intro xss h; cases xss with | nil => rfl | cons => simp at h
    | cons X Xs ih =>
     intro xss h
     cases xss with
     | nil => simp at h
     | cons x xss =>
      simp only [List.map_cons, List.cons.injEq] at h
      have := ih xss h.2
      simp only [flatC] at this
      simp only [flatC, List.flatMap_cons, List.flatten_cons, h.1, this]
   exact this _ _ hxs
  have hrun := run_buildSlice (P := P) (w := w) (ρ := ρ) (d := d) (ty := ty) (pos := pos) (aft := aft) (gd := gd) (n := n) (ps := ps.toList) hu hi hz hsz (natIx_out _ 0 hix) rfl hlen (fun v hv => by
   have : v.cells ∈ xss.map List.toArray := by rw [← hxs]; exact List.mem_map_of_mem hv
   obtain ⟨x, hx, hxe⟩ := List.mem_map.1 this
   rw [← hxe]; simpa using (hall x hx).1) (by have := @sizes_le e.1 e.2; have := Nat.mul_le_mul hn this; omega) hflat
  have hlen2 := he.length
  simp only [List.nil_append] at he hlen2
  rw [hDk] at hlen2
  have hnew := newArr (e := e.1) hs.inv hb (Grow.alloc w (.cells xss.flatten.toArray e.1 (0, 0))) he ⟨some ⟨w.heap.size, 0, none⟩, n, by rw [hDn]⟩ (by
   rw [hDk, hDn]
   exact row_new (by rw [← hDn]; exact hlen2) (by simp only [maxLen]; omega))
  rw [hDk] at hnew
  have hps : ps.toList.toArray = ps := by simp
  rw [hps] at hrun
  exact ⟨_, _, _, _, _, h, hrun, hnew.1, hnew.2.1.rv, by rw [List.length_set]; have := hs.inv.len; have := hI.len; simp at *; omega, hnew.2.2⟩
 ·cases h
theorem elems_one {Z : Zone} {D : SD} {ys : List Value} (h : ElemsR Z w D ys) : ∀ u ∈ ys, u.oneCell' = true := by
 cases D with
 | ts l =>
  obtain ⟨hs, _, rfl, _⟩ := h
  induction hs generalizing l with
  | nil => intro u hu; simp [flatT_nil] at hu
  | cons t hs ih =>
   intro u hu
   rw [flatT_cons] at hu
   simp only [List.mem_cons] at hu
   rcases hu with rfl | rfl | rfl | hu
   ·rfl
   ·rfl
   ·rfl
   ·rename_i h1 h2; exact ih _ rfl (fun h hh => h2 h (List.mem_cons_of_mem _ hh)) u hu
 | is l => simp only [ElemsR] at h; subst h; intro u hu; obtain ⟨x, _, rfl⟩ := List.mem_map.1 hu; rfl
 | iss l =>
  intro u hu
  obtain ⟨i, hi⟩ := List.getElem?_of_mem hu
  obtain ⟨a, _, c, cap, rfl, _⟩ := All2.get' h hi
  rfl
 | ss l => simp only [ElemsR] at h; subst h; intro u hu; obtain ⟨x, _, rfl⟩ := List.mem_map.1 hu; rfl
 | bs l => simp only [ElemsR] at h; subst h; intro u hu; obtain ⟨x, _, rfl⟩ := List.mem_map.1 hu; rfl
theorem exec_append {v Y v' : Value} (hx : ρ x = v) (hy : ρ y = Y) (hr : (Builtin.append_ #[t, t] ty #[v, Y]).run P w = .ok v' w') :
   (execOp ρ ⟨d, .call ⟨.builtin .append, #[x, y], #[t, t]⟩, ty, pos, aft, gd⟩).run P w = .ok (.value v') w' := by
 unfold execOp
 simp only [resolve, invoke, builtin, Sem.run_bind, Sem.run_pure, Result.andThen_ok, List.map_toArray, List.map_cons, List.map_nil, hx, hy, hr]
theorem run_append_none {e : TypeId} {i : TypeInfo} {a : Option Addr} {n c : Nat} {Y : Value} (hu : P.underlying t = some (.slice e)) (hi : P.info? e = some i) (hY : ∃ a' c', Y = .slice a' 0 c') (hn : n ≤ c) :
   (Builtin.append_ #[t, t] ty #[.slice a n c, Y]).run P w = .ok (.slice a n c) w := by
 obtain ⟨a', c', rfl⟩ := hY
 have hf : (Builtin.firstCells i.size 0 (.slice a' 0 c')).run P w = .ok #[] w := by
  cases a' with
  | none => rfl
  | some a' => simp [Builtin.firstCells, loadCells, loadCellsFrom, Sem.run_pure]
 unfold Builtin.append_
 cases a with
 | none => simp [Sem.run_bind, Go.Dk.run_underlying hu, Go.Dk.run_sizeOf hi, Builtin.lenOf, Sem.run_pure, hn, hf]
 | some a => simp [Sem.run_bind, Go.Dk.run_underlying hu, Go.Dk.run_sizeOf hi, Builtin.lenOf, Sem.run_pure, hn, hf, storeCells]
theorem run_app {e : TypeId × SK} (hk : kindS P t = some e) {v Y : Value} {n : Nat} {xs : List Value} (hown : (rowZ e.1 e.2.size v n xs).own w) (hv : ∃ a c, v = .slice a n c) {Z : Zone} {D : SD} (hD : D.kind = e.2) (hY : RdS Z w D Y) (hroom : n + D.len ≤ 1099511627776) :
   ∃ v' w' ys, ElemsR Z w D ys ∧ (Builtin.append_ #[t, t] ty #[v, Y]).run P w = .ok v' w' ∧ (rowZ e.1 e.2.size v' (n + D.len) (xs ++ ys)).own w' ∧ (∃ a c, v' = .slice a (n + D.len) c) ∧ Ext (rowZ e.1 e.2.size v n xs).foot w w' ∧
    ∀ k, (rowZ e.1 e.2.size v' (n + D.len) (xs ++ ys)).foot k → ((rowZ e.1 e.2.size v n xs).foot k ∨ w.heap.size ≤ k) ∧ k < w'.heap.size := by
 obtain ⟨hu, hke⟩ := kindS_out hk
 obtain ⟨_, i, z, hi, hz, hsz, hzs, hby⟩ := kindE_out hke
 have hpos := SK.size_pos e.2
 obtain ⟨a, c, hv⟩ := hv
 have hrow : n ≤ c ∧ (c = 0 → n = 0 ∧ xs = []) ∧ (c ≠ 0 → w.ownsRow 0 e.1 e.2.size v n xs ∧ ∀ k, (rowZ e.1 e.2.size v n xs).foot k ↔ v.ownBlock = some k) := by
  subst hv
  by_cases hc : c = 0
  ·subst hc
   rw [rowZ_zero] at hown
   exact ⟨by rw [hown.1]; exact Nat.zero_le _, fun _ => ⟨hown.1, hown.2.1⟩, fun h => absurd rfl h⟩
  ·rw [rowZ_pos hc] at hown
   have h1 : w.ownsRow 0 e.1 e.2.size (.slice a n c) n xs := hown
   refine ⟨?_, fun h => absurd h hc, fun _ => ⟨h1, fun k => by rw [rowZ_pos hc]; rfl⟩⟩
   rcases h1.2 with ⟨h2, h3⟩ | ⟨g, cap, cur, h2, _, _, hn, _⟩
   ·rw [h3]; exact Nat.zero_le _
   ·injection h2 with _ _ h5; omega
 obtain ⟨hnc, hzero, hpos'⟩ := hrow
 by_cases h0 : D.len = 0
 ·have hY' : ∃ a' c', Y = .slice a' 0 c' := by obtain ⟨a', c', ys, hY, _⟩ := hY; exact ⟨a', c', by rw [hY, h0]⟩
  obtain ⟨a', c', ys, hYe, _, he, _⟩ := hY
  have hys : ys = [] := List.eq_nil_of_length_eq_zero (by rw [he.length, h0, Nat.zero_mul])
  subst hys
  refine ⟨v, w, [], he, ?_, by rw [h0, Nat.add_zero, List.append_nil]; exact hown, ⟨a, c, by rw [h0, Nat.add_zero]; exact hv⟩, Ext.refl _ _, fun k hk => ?_⟩
  ·rw [hv]; exact run_append_none hu hi hY' hnc
  ·rw [h0, Nat.add_zero, List.append_nil] at hk
   refine ⟨.inl hk, ?_⟩
   by_cases hc : c = 0
   ·subst hc; subst hv; rw [rowZ_zero] at hk; exact hk.elim
   ·obtain ⟨h1, h2⟩ := hpos' hc
    exact (h1.lt k ((h2 k).1 hk)).2
 ·obtain ⟨bb, off, c', ys, rfl, he, hc⟩ := hY.ne (by omega)
  have hl : ys.length = D.len * e.2.size := by rw [he.length, hD]
  have hnews : ∀ j u, ys[j]? = some u → w.cell? (Addr.add ⟨bb, off, none⟩ j) = some u := fun j u hj => by rw [addr_add]; exact hc j u hj
  have hone := elems_one he
  have hbytes : (n + D.len) * i.bytes ≤ 140737488355328 := by
   have : (n + D.len) * i.bytes ≤ 1099511627776 * 64 := Nat.mul_le_mul hroom hby
   omega
  have hap : P.underlying t = some (.slice e.1) ∧ ∃ i' z', P.info? e.1 = some i' ∧ i'.zero = some z' ∧ i'.size = e.2.size ∧ i'.bytes = i.bytes ∧ z'.cells.size = e.2.size ∧ 0 < e.2.size := ⟨hu, i, z, hi, hz, hsz, rfl, hzs, hpos⟩
  have fin : ∀ v' w', (Builtin.append_ #[t, t] ty #[v, .slice (some ⟨bb, off, none⟩) D.len c']).run P w = .ok v' w' → w'.ownsRow 0 e.1 e.2.size v' (n + D.len) (xs ++ ys) → Ext (rowZ e.1 e.2.size v n xs).foot w w' →
     (∀ b, v'.ownBlock = some b → (rowZ e.1 e.2.size v n xs).foot b ∨ w.heap.size ≤ b) →
     ∃ v' w' ys', ElemsR Z w D ys' ∧ (Builtin.append_ #[t, t] ty #[v, .slice (some ⟨bb, off, none⟩) D.len c']).run P w = .ok v' w' ∧ (rowZ e.1 e.2.size v' (n + D.len) (xs ++ ys')).own w' ∧ (∃ a c, v' = .slice a (n + D.len) c) ∧ Ext (rowZ e.1 e.2.size v n xs).foot w w' ∧
      ∀ k, (rowZ e.1 e.2.size v' (n + D.len) (xs ++ ys')).foot k → ((rowZ e.1 e.2.size v n xs).foot k ∨ w.heap.size ≤ k) ∧ k < w'.heap.size := by
   intro v' w' hr ho hx hf
   have ho' := ho
   rcases ho.2 with ⟨_, h3⟩ | ⟨g, cap, cur, h2, _, _, hn, _⟩
   ·omega
   ·refine ⟨v', w', ys, he, hr, ?_, ⟨_, cap, h2⟩, hx, ?_⟩
    ·rw [h2, rowZ_pos (by omega)]; rw [h2] at ho'; exact ho'
    ·rw [h2, rowZ_pos (by omega)]
     intro k hk
     rw [h2] at hf ho'
     exact ⟨hf k hk, (ho'.lt k hk).2⟩
  by_cases hc0 : c = 0
  ·obtain ⟨rfl, rfl⟩ := hzero hc0
   subst hc0
   have hfoot : ∀ k, ¬ (rowZ e.1 e.2.size v 0 []).foot k := by subst hv; rw [rowZ_zero]; exact fun k h => h
   cases a with
   | none =>
    obtain ⟨v', w', hr, ho, hg, hf⟩ := run_append_row (P := P) w t ty hap v 0 [] (by rw [hv]; exact World.ownsRow_nil w 0 e.1 e.2.size) ⟨bb, off, none⟩ D.len c' ys hl hnews (fun u hu => hone u hu) hbytes (by omega)
    refine fin v' w' hr ho ((grownBy_ext hg).weak fun k _ hk => ?_) fun b hb => .inr ?_
    ·rw [hv] at hk; cases hk
    ·rcases hf b hb with h | h
     ·rw [hv] at h; cases h
     ·exact h
   | some ad =>
    obtain ⟨v', w', hr, ho, hg⟩ := run_append_arg_grows (P := P) w t ty e.1 i z e.2.size i.bytes hu hi hz hsz rfl hzs hpos ad 0 0 [] (by simp) (fun j u hj => by simp at hj) ⟨bb, off, none⟩ D.len c' ys hl hnews (by omega) (by simp only [maxLen]; omega) hbytes
    rw [← hv] at hr
    refine fin v' w' hr ⟨ho.1, ho.2.imp id fun ⟨g, cap, cur, h1, h2, h3⟩ => ⟨g, cap, cur, h1, Nat.zero_le _, h3⟩⟩ ⟨hg.os, hg.tape, hg.output, hg.size, fun k hk _ => hg.block k hk nofun⟩ fun b hb => .inr (ho.lt b hb).1
  ·obtain ⟨h1, h2⟩ := hpos' hc0
   obtain ⟨v', w', hr, ho, hg, hf⟩ := run_append_row (P := P) w t ty hap v n xs h1 ⟨bb, off, none⟩ D.len c' ys hl hnews (fun u hu => hone u hu) hbytes (by omega)
   exact fin v' w' hr ho ((grownBy_ext hg).weak fun k _ hk => (h2 k).2 hk) fun b hb => (hf b hb).imp (h2 b).2 id
theorem app_sound {Z : Zone} {D D' : SD} {xs ys : List Value} {k : SD → OR} (h1 : ElemsR Z w D xs) (h2 : ElemsR Z w D' ys) (h : D.app D' k = some r) : ∃ D'', k D'' = some r ∧ ElemsR Z w D'' (xs ++ ys) ∧ D''.len = D.len + D'.len ∧ D''.kind = D.kind := by
 unfold SD.app at h
 split at h
 ·obtain ⟨hs, rfl, rfl, hr⟩ := h1
  obtain ⟨hs', rfl, rfl, hr'⟩ := h2
  exact ⟨_, h, ⟨hs ++ hs', by simp, by rw [flatT_append], fun u hu => (List.mem_append.1 hu).elim (hr u) (hr' u)⟩, by simp [SD.len], rfl⟩
 ·simp only [ElemsR] at h1 h2; subst h1 h2; exact ⟨_, h, by simp [ElemsR], by simp [SD.len], rfl⟩
 ·exact ⟨_, h, All2.append h1 h2, by simp [SD.len], rfl⟩
 ·simp only [ElemsR] at h1 h2; subst h1 h2; exact ⟨_, h, by simp [ElemsR], by simp [SD.len], rfl⟩
 ·simp only [ElemsR] at h1 h2; subst h1 h2; exact ⟨_, h, by simp [ElemsR], by simp [SD.len], rfl⟩
 ·cases h
theorem evAppend_sound (hI : InvG w0 M Z0 b G s tv w) (hb : b < G.length) {k : SV → List AObj → OR} (hx : RV G (zn w0 Z0 s G) w vx (ρ x)) (hy : RV G (zn w0 Z0 s G) w vy (ρ y)) (h : evAppend P t vx vy s.heap b k = some r) :
   ∃ v h' G' w' X, k v h' = some r ∧ (execOp ρ ⟨d, .call ⟨.builtin .append, #[x, y], #[t, t]⟩, ty, pos, aft, gd⟩).run P w = .ok (.value X) w' ∧ InvG w0 M Z0 (b + 1) G' ⟨s.tmps, h'⟩ tv w' ∧ OneR G' (zn w0 Z0 ⟨s.tmps, h'⟩ G') w' v X ∧ h'.length = s.heap.length ∧ Up G G' := by
 unfold evAppend at h
 split at h
 ·cases h
 ·rename_i e hk
  split at h
  ·replace h := readS_sound hI hy.1 h; obtain ⟨D, h, hrd⟩ := h
   replace h := cond_left h; obtain ⟨hek, h⟩ := h
   have hek := SK.beq_eq hek
   split at h
   ·rename_i j v
    split at h
    ·rename_i e' D0 ver hj
     replace h := cond_left h; obtain ⟨hc, h⟩ := h
     simp only [Bool.and_eq_true, Nat.beq_eq] at hc
     obtain ⟨hv, he'⟩ := hc
     obtain ⟨val, xs, hg, hel, hval, hown⟩ := hI.row hj
     have hX := own_val hx.1 hg hv
     have happ : ∀ ys, ElemsR (zn w0 Z0 s G) w D ys → ∃ D'', (cond (roomB D''.len) (k (.own j (ver + 1)) (s.heap.set j (.arr e' D'' (ver + 1) false))) none) = some r ∧ ElemsR (zn w0 Z0 s G) w D'' (xs ++ ys) ∧ D''.len = D0.len + D.len ∧ D''.kind = D0.kind := fun ys hys => app_sound hel hys h
     have hrd' := hrd
     obtain ⟨a', c', ys0, _, _, hel0, _⟩ := hrd
     obtain ⟨D1, h1, _, hl1, hk1⟩ := happ ys0 hel0
     have hkk : D0.kind = e.2 := by
      cases D0 <;> cases D <;> first | exact hek.symm | (simp [SD.app] at h)
     have hroom : D0.len + D.len ≤ 1099511627776 := by
      have := (cond_left h1).1
      simp only [roomB, decide_eq_true_eq] at this
      omega
     obtain ⟨v', w', ys, hys, hr, hown', hval', hext, hfoot⟩ := run_app (P := P) (t := t) (ty := ty) (w := w) (v := val) (n := D0.len) (xs := xs) hk (by rw [he', ← hkk]; exact hown) hval hek.symm hrd' hroom
     obtain ⟨D'', h2, hel'', hl'', hk''⟩ := happ ys hys
     have h2' := (cond_left h2).2
     have hup : Up G (G.set j (.arr (ver + 1) v' D0.kind.size (xs ++ ys))) := Up.set fun g0 h0 => by rw [hg] at h0; obtain rfl := Option.some.inj h0; exact ⟨rfl, .inl (Nat.lt_succ_self _)⟩
     have hu := hI.updObj (o' := .arr e' D'' (ver + 1) false) (g' := .arr (ver + 1) v' D0.kind.size (xs ++ ys)) (q := rowZ e' D0.kind.size val D0.len xs) (q' := rowZ e' D0.kind.size v' D''.len (xs ++ ys)) hj hg nofun rfl
      (by rw [← he', hkk]; exact hext) rfl (by rw [← he', hkk, hl'']; exact hown') (by rw [← he', hkk, hl'']; exact hfoot) hup
      (fun Z' hk => ⟨rfl, hk''.symm ▸ rfl, hel''.stable hk, by rw [hl'']; exact hval'⟩)
     refine ⟨_, _, _, w', v', h2', exec_append hX rfl hr, hu.1.raise (Nat.le_succ _), ⟨.inr ⟨ver + 1, v', D0.kind.size, xs ++ ys, by simp [lt_of_some hg], Nat.le_refl _, fun _ => rfl⟩, ?_⟩, by simp, hup⟩
     obtain ⟨a, c, rfl⟩ := hval'; rfl
    ·cases h
   ·replace h := cond_left h; obtain ⟨hroom, h⟩ := h
    simp only [roomB, decide_eq_true_eq] at hroom
    obtain ⟨a, hX⟩ := hx.1
    obtain ⟨v', w', ys, hys, hr, hown', hval', hext, hfoot⟩ := run_app (P := P) (t := t) (ty := ty) (w := w) (v := .slice a 0 0) (n := 0) (xs := []) hk (by rw [rowZ_zero]; exact ⟨rfl, rfl, rfl⟩) ⟨a, 0, rfl⟩ hek.symm hrd (by omega)
    rw [rowZ_zero] at hext hfoot
    simp only [Nat.zero_add, List.nil_append] at hown' hval' hfoot
    have hnew := newArr (e := e.1) (b := b) hI hb (hext.weak fun _ _ h => h) hys hval' ⟨by rw [← hek]; exact hown', fun k hk => by rw [← hek] at hk; exact ⟨(hfoot k hk).1.resolve_left id, (hfoot k hk).2⟩⟩
    exact ⟨_, _, _, w', v', h, exec_append hX rfl hr, hnew.1, hnew.2.1, by simp, hnew.2.2⟩
   ·cases h
  ·cases h
theorem flatT_replicate (n : Nat) (t : HT) : flatT (List.replicate n t) = (List.replicate n [.int .i64 t.k, .int .i64 t.n, t.sl]).flatten := by
 induction n with
 | zero => rfl
 | succ n ih => rw [List.replicate_succ, flatT_cons, ih, List.replicate_succ, List.flatten_cons]; rfl
theorem flatten_one {α : Type} (n : Nat) (a : α) : (List.replicate n [a]).flatten = List.replicate n a := by
 induction n with
 | zero => rfl
 | succ n ih => rw [List.replicate_succ, List.flatten_cons, ih, List.replicate_succ]; rfl
theorem zeros_sound {Z : Zone} {e : TypeId} {k : SK} {n : Nat} {D : SD} (hz : zeroIs P e k = true) (h : zeros n k = some D) : ∃ zs, zeroB P e = some zs ∧ zs.length = k.size ∧ ElemsR Z w D (List.replicate n zs).flatten ∧ D.len = n ∧ D.kind = k := by
 unfold zeroIs at hz
 split at hz
 ·rename_i h1
  simp only [Bool.and_eq_true, decide_eq_true_eq] at hz
  obtain ⟨rfl, rfl⟩ := hz
  simp only [zeros, Option.some.injEq] at h; subst h
  refine ⟨_, h1, rfl, ⟨List.replicate n (.mk 0 0 none 0 []), by simp [HT.er, HT.erL], ?_, fun u hu => ?_⟩, by simp [SD.len], rfl⟩
  ·rw [flatT_replicate]; rfl
  ·rw [(List.mem_replicate.1 hu).2]; exact Rd_none
 ·rename_i h1
  simp only [decide_eq_true_eq] at hz; subst hz
  simp only [zeros, Option.some.injEq] at h; subst h
  exact ⟨_, h1, rfl, by simp [ElemsR, flatten_one], by simp [SD.len], rfl⟩
 ·rename_i h1
  simp only [decide_eq_true_eq] at hz; subst hz
  simp only [zeros, Option.some.injEq] at h; subst h
  exact ⟨_, h1, rfl, by simp [ElemsR, flatten_one], by simp [SD.len], rfl⟩
 ·rename_i h1
  simp only [decide_eq_true_eq] at hz; subst hz
  simp only [zeros, Option.some.injEq] at h; subst h
  exact ⟨_, h1, rfl, by simp [ElemsR, flatten_one], by simp [SD.len], rfl⟩
 ·cases hz
theorem evMake_sound (hI : InvG w0 M Z0 b G s tv w) (hb : b < G.length) {k : SV → List AObj → OR} (hx : RV G (zn w0 Z0 s G) w vx (ρ x)) (hy : RV G (zn w0 Z0 s G) w vy (ρ y)) (h : evMake P t vx vy s.heap b k = some r) :
   ∃ v h' G' w' X, k v h' = some r ∧ (execOp ρ ⟨d, .makeSlice t x y, ty, pos, aft, gd⟩).run P w = .ok (.value X) w' ∧ InvG w0 M Z0 (b + 1) G' ⟨s.tmps, h'⟩ tv w' ∧ OneR G' (zn w0 Z0 ⟨s.tmps, h'⟩ G') w' v X ∧ h'.length = s.heap.length ∧ Up G G' := by
 unfold evMake at h
 replace h := optInt_some h hx; obtain ⟨n, hX, h⟩ := h
 replace h := optInt_some h hy; obtain ⟨m, hY, h⟩ := h
 replace h := cond_left h; obtain ⟨hc, h⟩ := h
 simp only [Bool.and_eq_true, decide_eq_true_eq] at hc
 obtain ⟨rfl, hn0, hn⟩ := hc
 split at h
 ·rename_i e hk
  replace h := cond_left h; obtain ⟨hz, h⟩ := h
  replace h := bind_some h; obtain ⟨D, hD, h⟩ := h
  obtain ⟨zs, hzb, hzl, hel, hDl, hDk⟩ := zeros_sound (Z := zn w0 Z0 s G) (w := w) hz hD
  obtain ⟨hu, hke⟩ := kindS_out hk
  obtain ⟨_, i, z, hi, hiz, hsz, hzs, hby⟩ := kindE_out hke
  have hzz := hzb
  unfold zeroB at hzz
  simp only [hi, hiz, Option.some.injEq] at hzz
  have hs3 := @sizes_le e.1 e.2
  have hpos := SK.size_pos e.2
  have hr := run_makeSlice (P := P) w t e.1 i z hu hi hiz .i64 .i64 n n (by omega) (by omega) (by
     rw [hsz]
     have := Nat.mul_le_mul (show n.toNat ≤ 4194304 by omega) hs3
     omega) (by
     have : (i.bytes : Int) * n ≤ 64 * 4194304 := Int.mul_le_mul (by omega) (by omega) (by omega) (by omega)
     omega) (by omega)
  have hcs : madeCells z.cells (n.toNat * i.size) = ((List.replicate n.toNat zs).flatten).toArray := by
   apply Array.toList_inj.1
   rw [← made_eq, hzl, hsz, ← hzz]
  have hlen := hel.length
  rw [hDk] at hlen
  have hnew := newArr (e := e.1) (b := b) hI hb (Grow.alloc w (.cells ((List.replicate n.toNat zs).flatten).toArray e.1 (0, 0))) hel ⟨some ⟨w.heap.size, 0, none⟩, n.toNat, by rw [hDl]⟩ (by
   rw [hDk, hDl]
   exact row_new (by rw [hDl] at hlen; exact hlen) (by simp only [maxLen]; omega))
  refine ⟨_, _, _, _, _, h, ?_, hnew.1, hnew.2.1, by simp, hnew.2.2⟩
  rw [hcs] at hr
  simp only [execOp, hX, hY, Sem.run_bind, hr, Result.andThen_ok, Sem.run_pure]
 ·cases h
theorem build_fill {Z : Zone} {pl : List (Nat × Nat)} : ∀ {ps : List (Nat × AV)} {Xs : List Value} {z : List SV} {zs : List Value} {c : List SV}, All2 (OneR G Z w) z zs → All2 (fun (p : Nat × AV) X => RV G Z w p.2 X) ps Xs → buildS pl z ps = some c →
   ∃ cs : List Value, Instr.fill (pl.toArray[·]?) zs.toArray ((ps.map (·.1)).zip Xs) = some cs.toArray ∧ All2 (OneR G Z w) c cs
 | [], Xs, z, zs, c, hz, ha, h => by
  obtain rfl := ha.nil_inv
  simp only [buildS, Option.some.injEq] at h; subst h
  exact ⟨zs, rfl, hz⟩
 | p :: ps, Xs, z, zs, c, hz, ha, h => by
  obtain ⟨X, Xs', rfl, h1, h2⟩ := ha.cons_inv
  simp only [buildS] at h
  cases hpl : pl[p.1]? with
  | none => simp [hpl] at h
  | some o =>
   cases hcs : p.2.cs with
   | none => simp [hpl, hcs] at h
   | some cc =>
    simp only [hpl, hcs, Option.bind_some] at h
    cases hb : (Nat.beq cc.length o.2 && Nat.ble (o.1 + o.2) z.length) with
    | false => simp [hb] at h
    | true =>
     simp only [hb, cond_true] at h
     simp only [Bool.and_eq_true, Nat.beq_eq, Nat.ble_eq] at hb
     obtain ⟨xs, hx, hr⟩ := cs_sound hcs h1
     obtain ⟨cs, hf, hc⟩ := build_fill (put_rel (off := o.1) hz hr) h2 h
     refine ⟨cs, ?_, hc⟩
     have hsz : X.cells.size = o.2 := by rw [hx, List.size_toArray, ← hr.1, hb.1]
     have hpl' : pl.toArray[p.1]? = some (o.1, o.2) := by simpa using hpl
     simp only [List.map_cons, List.zip_cons_cons, Instr.fill, hpl']
     rw [if_neg (by rw [hsz]; simp [← hz.1]; omega)]
     have hfold : (X.cells.zipIdx.foldl (fun cs (p : Value × Nat) => cs.setIfInBounds (o.1 + p.2) p.1) zs.toArray) = (putL zs o.1 xs).toArray := by
      apply Array.toList_inj.1
      have := foldl_put xs 0 o.1 zs.toArray
      simp only [Nat.add_zero] at this
      rw [← this, hx, ← Array.foldl_toList]
      simp
     rw [hfold]; exact hf
theorem evBuild_sound {Z : Zone} {ps : Array (Nat × Operand)} {ρa : Operand → AV} {k : AV → OR} (hρ : ∀ x, RV G Z w (ρa x) (ρ x)) (h : evBuild P t (ps.toList.map fun p => (p.1, ρa p.2)) k = some r) :
   ∃ v X, k v = some r ∧ (execOp ρ ⟨d, .build t ps, ty, pos, aft, gd⟩).run P w = .ok (.value X) w ∧ RV G Z w v X := by
 unfold evBuild at h
 replace h := bind_some h; obtain ⟨pl, hpl, h⟩ := h
 replace h := bind_some h; obtain ⟨z, hz, h⟩ := h
 replace h := bind_some h; obtain ⟨c, hc, h⟩ := h
 obtain ⟨zs, hzb, hzr⟩ := zeroS_out hz
 obtain ⟨cs, hf, hcr⟩ := build_fill (G := G) (Z := Z) (w := w) (Xs := ps.toList.map fun p => ρ p.2) (hzr G Z w) ⟨by simp, fun i a c ha hc => by
  rw [List.getElem?_map] at ha hc
  obtain ⟨p, hp, rfl⟩ := Option.map_eq_some_iff.1 ha
  rw [hp] at hc
  obtain rfl := Option.some.inj hc
  exact hρ p.2⟩ hc
 refine ⟨_, .agg cs.toArray, h, ?_, cs, rfl, hcr⟩
 have hb : P.built t ((ps.map fun p => (p.1, ρ p.2)).toList) = some cs.toArray := by
  unfold zeroB at hzb
  split at hzb
  ·rename_i i hi
   split at hzb
   ·rename_i zz hzz
    obtain rfl := Option.some.inj hzb
    unfold placesT at hpl
    split at hpl
    ·rename_i fs hu
     unfold Program.built
     simp only [hi, hu, hzz, hpl]
     rw [← hf]
     congr 1
     ·have : ∀ l : List (Nat × Operand), (l.map fun p => (p.1, ρ p.2)) = ((l.map fun p => (p.1, ρa p.2)).map (·.1)).zip (l.map fun p => ρ p.2) := by
        intro l
        induction l with
        | nil => rfl
        | cons p l ih => simp only [List.map_cons, List.zip_cons_cons, ih]
      rw [← this]; simp
    ·cases hpl
   ·cases hzb
  ·cases hzb
 simp only [execOp, Sem.run_bind, Go.run_build w t _ _ hb, Result.andThen_ok, Sem.run_pure]
theorem sub_len {D : SD} {lo hi : Nat} (h : lo ≤ hi) (h2 : hi ≤ D.len) : (D.sub lo hi).len = hi - lo := by
 cases D <;> simp [SD.sub, SD.len] at * <;> omega
theorem flatT_take (n : Nat) : ∀ hs : List HT, (flatT hs).take (n * 3) = flatT (hs.take n) := by
 induction n with
 | zero => intro hs; simp [flatT_nil]
 | succ n ih =>
  intro hs
  cases hs with
  | nil => simp [flatT_nil]
  | cons t hs => rw [flatT_cons, List.take_succ_cons, flatT_cons, ← ih]; rw [show (n + 1) * 3 = n * 3 + 1 + 1 + 1 by omega]; rfl
theorem flatT_drop (n : Nat) : ∀ hs : List HT, (flatT hs).drop (n * 3) = flatT (hs.drop n) := by
 induction n with
 | zero => intro hs; simp
 | succ n ih =>
  intro hs
  cases hs with
  | nil => simp [flatT_nil]
  | cons t hs => rw [flatT_cons, List.drop_succ_cons, ← ih]; rw [show (n + 1) * 3 = n * 3 + 1 + 1 + 1 by omega]; rfl
theorem sub_sound {Z : Zone} {D : SD} {xs : List Value} (h : ElemsR Z w D xs) (lo hi : Nat) : ElemsR Z w (D.sub lo hi) ((xs.take (hi * D.kind.size)).drop (lo * D.kind.size)) := by
 cases D with
 | ts l =>
  obtain ⟨hs, rfl, rfl, hr⟩ := h
  refine ⟨(hs.take hi).drop lo, by rw [List.map_drop, List.map_take], ?_, fun t ht => hr t (List.mem_of_mem_take (List.mem_of_mem_drop ht))⟩
  simp only [SD.kind, SK.size]
  rw [flatT_take, flatT_drop]
 | is l => simp only [ElemsR] at h; subst h; simp [ElemsR, SD.sub, SD.kind, SK.size, List.map_take, List.map_drop]
 | iss l => simp only [SD.kind, SK.size, Nat.mul_one]; exact (All2.take h hi).drop lo
 | ss l => simp only [ElemsR] at h; subst h; simp [ElemsR, SD.sub, SD.kind, SK.size, List.map_take, List.map_drop]
 | bs l => simp only [ElemsR] at h; subst h; simp [ElemsR, SD.sub, SD.kind, SK.size, List.map_take, List.map_drop]
theorem kindEq_out {o : Option (TypeId × SK)} {k : SK} (h : evSlice.kindEq o k = true) : ∃ e, o = some (e, k) := by
 cases o with
 | none => cases h
 | some a => have := SK.beq_eq h; exact ⟨a.1, by rw [← this]⟩
theorem optRV {Z : Zone} {lo : Option Operand} {ρa : Operand → AV} {v : AV} (hρ : ∀ x, RV G Z w (ρa x) (ρ x)) (h : lo.map ρa = some v) : ∃ X, lo.map ρ = some X ∧ RV G Z w v X := by
 cases lo with
 | none => cases h
 | some x => obtain rfl := Option.some.inj h; exact ⟨_, rfl, hρ x⟩
theorem bounds_sound {Z : Zone} {lo hi : Option Operand} {ρa : Operand → AV} {n : Nat} {k : Int → Int → OR} (hρ : ∀ x, RV G Z w (ρa x) (ρ x)) (h : evSlice.bounds (lo.map ρa) (hi.map ρa) n k = some r) :
   ∃ l m : Int, k l m = some r ∧ 0 ≤ l ∧ l ≤ m ∧ m ≤ n ∧ (∀ sl cap : Nat, n ≤ cap → ∀ b, (Instr.sliceBounds b n cap (lo.map ρ) (hi.map ρ) none).run P w = .ok (l.toNat, m.toNat, cap) w) := by
 unfold evSlice.bounds at h
 split at h
 ·rename_i h1 h2
  have h1 : lo = none := by cases lo <;> simp_all
  have h2 : hi = none := by cases hi <;> simp_all
  subst h1 h2
  refine ⟨0, n, h, Int.le_refl _, by omega, Int.le_refl _, fun _ cap hc b => ?_⟩
  simp [Instr.sliceBounds, Sem.run_bind, Sem.run_pure]
 ·rename_i h1 h2
  have h2 : hi = none := by cases hi <;> simp_all
  subst h2
  obtain ⟨X, hX, hr⟩ := optRV hρ h1
  replace h := optInt_some h hr; obtain ⟨l, rfl, h⟩ := h
  replace h := cond_left h; obtain ⟨hc, h⟩ := h
  simp only [inB, Bool.and_eq_true, decide_eq_true_eq] at hc
  refine ⟨l, n, h, hc.1, hc.2.1, hc.2.2, fun _ cap hcap b => ?_⟩
  have hb : 0 ≤ l ∧ l ≤ (n : Int) := ⟨hc.1, hc.2.1⟩
  simp [Instr.sliceBounds, hX, Instr.sliceBound, asIntOf, Sem.run_bind, Sem.run_pure, hb]
 ·rename_i h1 h2
  have h1 : lo = none := by cases lo <;> simp_all
  subst h1
  obtain ⟨X, hX, hr⟩ := optRV hρ h2
  replace h := optInt_some h hr; obtain ⟨m, rfl, h⟩ := h
  replace h := cond_left h; obtain ⟨hc, h⟩ := h
  simp only [inB, Bool.and_eq_true, decide_eq_true_eq] at hc
  refine ⟨0, m, h, Int.le_refl _, hc.2.1, hc.2.2, fun _ cap hcap b => ?_⟩
  have hb : 0 ≤ m ∧ m ≤ (cap : Int) := ⟨hc.2.1, by omega⟩
  simp [Instr.sliceBounds, hX, Instr.sliceBound, asIntOf, Sem.run_bind, Sem.run_pure, hb]
 ·rename_i h1 h2
  obtain ⟨X, hX, hr⟩ := optRV hρ h1
  obtain ⟨Y, hY, hr2⟩ := optRV hρ h2
  replace h := optInt_some h hr; obtain ⟨l, rfl, h⟩ := h
  replace h := optInt_some h hr2; obtain ⟨m, rfl, h⟩ := h
  replace h := cond_left h; obtain ⟨hc, h⟩ := h
  simp only [inB, Bool.and_eq_true, decide_eq_true_eq] at hc
  refine ⟨l, m, h, hc.1, hc.2.1, hc.2.2, fun _ cap hcap b => ?_⟩
  have hb : 0 ≤ m ∧ m ≤ (cap : Int) := ⟨by omega, by omega⟩
  have hb2 : 0 ≤ l ∧ l ≤ ((m.toNat : Nat) : Int) := ⟨hc.1, by omega⟩
  simp [Instr.sliceBounds, hX, hY, Instr.sliceBound, asIntOf, Sem.run_bind, Sem.run_pure, hb]
  intro hq; omega
theorem SlR.sub {Z : Zone} {D : SD} {a : Option Addr} {n c : Nat} (h : SlR Z w D (.slice a n c)) {l m : Nat} (h1 : l ≤ m) (h2 : m ≤ n) : SlR Z w (D.sub l m) (.slice (if c = l then a else a.map (·.add (l * D.kind.size))) (m - l) (c - l)) := by
 obtain ⟨a', c', xs, hX, hc, hm, he, hb⟩ := h
 injection hX with e1 e2 e3
 subst e1 e2 e3
 refine ⟨_, _, _, by rw [sub_len h1 h2], by rw [sub_len h1 h2]; omega, by rw [sub_len h1 h2]; omega, sub_sound he l m, ?_⟩
 rcases hb with rfl | ⟨bb, off, rfl, hz, hc'⟩
 ·left; simp
 ·by_cases hcl : c = l
  ·left
   have : m = l := by omega
   subst this
   apply List.drop_eq_nil_of_le
   rw [List.length_take]; exact Nat.min_le_left _ _
  ·right
   refine ⟨bb, off + l * D.kind.size, by rw [if_neg hcl]; simp [addr_add], hz, fun i x hx => ?_⟩
   rw [List.getElem?_drop, List.getElem?_take] at hx
   split at hx
   ·rw [Nat.add_assoc]; exact hc' _ x hx
   ·cases hx
theorem evSlice_sound (hI : InvG w0 M Z0 b G s tv w) {lo hi mx : Option Operand} {ρa : Operand → AV} {k : SV → List AObj → OR} (hρ : ∀ x, RV G (zn w0 Z0 s G) w (ρa x) (ρ x)) (h : evSlice P t (ρa x) (lo.map ρa) (hi.map ρa) (mx.map ρa) s.heap k = some r) :
   ∃ v h' X, k v h' = some r ∧ (execOp ρ ⟨d, .slice t x lo hi mx, ty, pos, aft, gd⟩).run P w = .ok (.value X) w ∧ Sealed w0 M Z0 b G s tv w h' ∧ OneR G (zn w0 Z0 ⟨s.tmps, h'⟩ G) w v X := by
 have hx := hρ x
 unfold evSlice at h
 split at h
 ·rename_i m0 hmx
  obtain ⟨MX, hMX, hrm⟩ := optRV hρ hmx
  replace h := cond_left h; obtain ⟨hks, h⟩ := h
  have hne : kindS P t ≠ none := by intro e; rw [e] at hks; cases hks
  replace h := optInt_some h hrm; obtain ⟨m, rfl, h⟩ := h
  have fin : ∀ {kk : TypeId × SK} {n cap : Nat} {a : Option Addr}, kindS P t = some kk → ρ x = .slice a n cap → ∀ n' : Int, hi.map ρ = some (.int .i64 n') → m = 0 → n' = 0 → (lo = none ∨ lo.map ρ = some (.int .i64 0)) →
     ∃ a', (execOp ρ ⟨d, .slice t x lo hi mx, ty, pos, aft, gd⟩).run P w = .ok (.value (.slice a' 0 0)) w := by
   intro kk n cap a hk hX n' hH hm hn hlo
   subst hm hn
   obtain ⟨hu, hke⟩ := kindS_out hk
   obtain ⟨_, i, z, hi', hz, hsz, _, _⟩ := kindE_out hke
   refine ⟨a, ?_⟩
   rcases hlo with rfl | hlo
   ·simp [execOp, Instr.sliceAt, Instr.slice, Sem.run_bind, Go.Dk.run_underlying hu, hX, hMX, hH, Instr.sliceBounds, Instr.sliceBound, asIntOf, Go.Dk.run_sizeOf hi', Sem.run_pure]
   ·simp [execOp, Instr.sliceAt, Instr.slice, Sem.run_bind, Go.Dk.run_underlying hu, hX, hMX, hH, hlo, Instr.sliceBounds, Instr.sliceBound, asIntOf, Go.Dk.run_sizeOf hi', Sem.run_pure]
  have body : ∀ n' : Int, hi.map ρ = some (.int .i64 n') → m = 0 → n' = 0 → (lo = none ∨ lo.map ρ = some (.int .i64 0)) → (match ρa x with
   | .v (.one (.fr d)) => cond (evSlice.kindEq (kindS P t) d.kind) (k (.emp (kindS P t)) s.heap) none
   | .v (.one (.own j v)) => (match s.heap[j]? with
    | some (.arr _ d ver _) => cond (Nat.beq v ver && evSlice.kindEq (kindS P t) d.kind) (k (.emp (kindS P t)) s.heap) none
    | _ => none)
   | .v (.one (.emp e)) => (k (.emp (kindS P t)) s.heap)
   | _ => none) = some r → kindS P t ≠ none →
    ∃ v h' X, k v h' = some r ∧ (execOp ρ ⟨d, .slice t x lo hi mx, ty, pos, aft, gd⟩).run P w = .ok (.value X) w ∧ Sealed w0 M Z0 b G s tv w h' ∧ OneR G (zn w0 Z0 ⟨s.tmps, h'⟩ G) w v X := by
   intro n' hH hm hn hlo h hne
   split at h
   ·rename_i D hax
    rw [hax] at hx
    replace h := cond_left h; obtain ⟨hk, h⟩ := h
    obtain ⟨e, hk⟩ := kindEq_out hk
    obtain ⟨a, c, hX⟩ := SlR.val hx.1
    obtain ⟨a', hr⟩ := fin hk hX n' hH hm hn hlo
    exact ⟨_, _, _, h, hr, Sealed.refl hI, ⟨a', rfl⟩, rfl⟩
   ·rename_i j v hax
    rw [hax] at hx
    split at h
    ·rename_i D ver fz hj
     replace h := cond_left h; obtain ⟨hk, h⟩ := h
     simp only [Bool.and_eq_true, Nat.beq_eq] at hk
     obtain ⟨e, hk2⟩ := kindEq_out hk.2
     obtain ⟨val, xs, hg, a, c, ys, hval, _⟩ := hI.arr_rd hj
     obtain ⟨a', hr⟩ := fin hk2 ((own_val hx.1 hg hk.1).trans hval) n' hH hm hn hlo
     exact ⟨_, _, _, h, hr, Sealed.refl hI, ⟨a', rfl⟩, rfl⟩
    ·cases h
   ·rename_i e hax
    rw [hax] at hx
    obtain ⟨a, hX⟩ := hx.1
    cases hk : kindS P t with
    | none => exact absurd hk hne
    | some kk =>
     obtain ⟨a', hr⟩ := fin hk hX n' hH hm hn hlo
     exact ⟨_, _, _, h, hr, Sealed.refl hI, ⟨a', rfl⟩, rfl⟩
   ·cases h
  split at h
  ·rename_i H hhi hlo
   have hlo : lo = none := by cases lo <;> simp_all
   obtain ⟨HX, hHX, hrh⟩ := optRV hρ hhi
   replace h := optInt_some h hrh; obtain ⟨n', rfl, h⟩ := h
   replace h := cond_left h; obtain ⟨hc, h⟩ := h
   simp only [Bool.and_eq_true, decide_eq_true_eq] at hc
   exact body n' hHX hc.1 hc.2 (.inl hlo) h hne
  ·rename_i H L hhi hlo
   obtain ⟨HX, hHX, hrh⟩ := optRV hρ hhi
   obtain ⟨LX, hLX, hrl⟩ := optRV hρ hlo
   replace h := optInt_some h hrh; obtain ⟨n', rfl, h⟩ := h
   replace h := optInt_some h hrl; obtain ⟨l', rfl, h⟩ := h
   replace h := cond_left h; obtain ⟨hc, h⟩ := h
   simp only [Bool.and_eq_true, decide_eq_true_eq] at hc
   exact body n' hHX hc.1 hc.2.1 (.inr (by rw [hLX, hc.2.2])) h hne
  ·cases h
 ·rename_i hmx
  have hmx : mx = none := by cases mx <;> simp_all
  subst hmx
  split at h
  ·rename_i a hax
   rw [hax] at hx
   split at h
   ·rename_i hu
    obtain ⟨l, m, h', hl, hlm, hm, hb⟩ := bounds_sound (P := P) hρ h
    refine ⟨_, _, _, h', ?_, Sealed.refl hI, str_one _⟩
    simp only [execOp, Instr.sliceAt, Instr.slice, Sem.run_bind, Go.Dk.run_underlying hu, Result.andThen_ok, str_inv hx, Option.map_none]
    simp [Sem.run_bind, hb 0 a.size (Nat.le_refl _) false, Sem.run_pure]
   ·cases h
  ·rename_i v hv hax
   rw [hax] at hx
   split at h
   ·rename_i e hk
    obtain ⟨hu, hke⟩ := kindS_out hk
    obtain ⟨_, i, z, hi', hz, hsz, _, _⟩ := kindE_out hke
    have hone : OneR G (zn w0 Z0 s G) w v (ρ x) := by
     refine ⟨hx.1, hx.2 ?_⟩
     rintro rfl
     simp [sealS] at h
    replace h := sealS_sound hI hone h; obtain ⟨v', h', h, hs, hv'⟩ := h
    split at h
    ·rename_i D
     replace h := cond_left h; obtain ⟨hek, h⟩ := h
     have hek := SK.beq_eq hek
     obtain ⟨l, m, h2, hl, hlm, hm, hb⟩ := bounds_sound (P := P) hρ h
     have hsl := hv'.1
     obtain ⟨a, c, xs, hX, hc, _⟩ := id hsl
     rw [hX] at hsl
     have hsub := SlR.sub hsl (l := l.toNat) (m := m.toNat) (by omega) (by omega)
     refine ⟨_, _, _, h2, ?_, hs, hsub, rfl⟩
     simp only [execOp, Instr.sliceAt, Instr.slice, Sem.run_bind, Go.Dk.run_underlying hu, Result.andThen_ok, hX, Option.map_none]
     simp [Sem.run_bind, hb 0 c hc true, Sem.run_pure, Go.Dk.run_sizeOf hi', hsz, hek]
    ·cases h
   ·cases h
  ·cases h
end
end Go.Ab
namespace Go.Ab
open Go Go.Dk
theorem hasN_iff {j : Nat} : ∀ {l : List Nat}, hasN j l = true ↔ j ∈ l
 | [] => by simp [hasN]
 | i :: l => by simp [hasN, hasN_iff (l := l)]
theorem nodupB_iff : ∀ {l : List Nat}, nodupB l = true → l.Nodup
 | [], _ => List.nodup_nil
 | i :: l, h => by
  simp only [nodupB, Bool.and_eq_true, Bool.not_eq_true'] at h
  refine List.nodup_cons.2 ⟨fun hm => ?_, nodupB_iff h.2⟩
  rw [hasN_iff.2 hm] at h; exact absurd h.1 (by simp)
theorem okJs_out {js : List Nat} {n : Nat} (h : okJs js n = true) : js.Nodup ∧ ∀ j ∈ js, j < n := by
 simp only [okJs, Bool.and_eq_true, List.all_eq_true, Nat.blt_eq] at h
 exact ⟨nodupB_iff h.1, h.2⟩
theorem idx_some : ∀ {js : List Nat} {j i : Nat}, idx j js = some i → js[i]? = some j
 | [], j, i, h => by simp [idx] at h
 | a :: js, j, i, h => by
  simp only [idx] at h
  cases hb : Nat.beq j a with
  | true => simp only [hb, cond_true, Option.some.injEq] at h; subst h; simp only [Nat.beq_eq] at hb; subst hb; rfl
  | false =>
   simp only [hb, cond_false, Option.map_eq_some_iff] at h
   obtain ⟨i', hi, rfl⟩ := h
   simpa using idx_some hi
theorem idxs_some : ∀ {js l l' : List Nat}, idxs js l = some l' → All2 (fun j i => js[i]? = some j) l l'
 | js, [], l', h => by simp only [idxs, Option.some.injEq] at h; subst h; exact All2.nil
 | js, j :: l, l', h => by
  simp only [idxs] at h
  cases hi : idx j js with
  | none => simp [hi] at h
  | some i =>
   simp only [hi, Option.bind_some, Option.map_eq_some_iff] at h
   obtain ⟨l'', hl, rfl⟩ := h
   exact All2.cons (idx_some hi) (idxs_some hl)
def sel0 (js : List Nat) (h : List AObj) : List AObj := js.map fun j => h.getD j .dead
def selG (js : List Nat) (G : List GO) : List GO := js.map fun j => G.getD j .gone
def kill : List Nat → List AObj → List AObj
 | [], h => h
 | j :: js, h => kill js (h.set j .dead)
def killG : List Nat → List GO → List GO
 | [], G => G
 | j :: js, G => killG js (G.set j .gone)
theorem resO_ren (js : List Nat) (o : AObj) (g : GO) : resO (renO js o) g = resO o g := by cases o <;> cases g <;> rfl
theorem resL_ren (js : List Nat) : ∀ (h : List AObj) (G : List GO), resL (h.map (renO js)) G = resL h G
 | [], _ => rfl
 | o :: h, [] => rfl
 | o :: h, g :: G => by simp only [List.map_cons, resL, resO_ren, resL_ren js h G]
theorem selH_eq (js : List Nat) (h : List AObj) : selH js h = (sel0 js h).map (renO js) := by simp [selH, sel0]
theorem getD_set_ne {α : Type} {l : List α} {i j : Nat} {a d : α} (h : i ≠ j) : (l.set i a).getD j d = l.getD j d := by simp [List.getD, List.getElem?_set_ne h]
theorem sel0_set {js : List Nat} {h : List AObj} {j : Nat} {o : AObj} (hj : j ∉ js) : sel0 js (h.set j o) = sel0 js h := by
 refine List.map_congr_left fun i hi => getD_set_ne fun e => hj (e ▸ hi)
theorem selG_set {js : List Nat} {G : List GO} {j : Nat} {g : GO} (hj : j ∉ js) : selG js (G.set j g) = selG js G := by
 refine List.map_congr_left fun i hi => getD_set_ne fun e => hj (e ▸ hi)
theorem resL_sel : ∀ (js : List Nat) (h : List AObj) (G : List GO), js.Nodup → (∀ j ∈ js, j < h.length ∧ j < G.length) → (resL h G).Perm (resL (sel0 js h) (selG js G) ++ resL (kill js h) (killG js G))
 | [], h, G, _, _ => List.Perm.refl _
 | j :: js, h, G, hn, hl => by
  rw [List.nodup_cons] at hn
  obtain ⟨h1, h2⟩ := hl j (List.mem_cons_self ..)
  have ho : h[j]? = some (h.getD j .dead) := by simp [List.getD, List.getElem?_eq_getElem h1]
  have hg : G[j]? = some (G.getD j .gone) := by simp [List.getD, List.getElem?_eq_getElem h2]
  refine (resL_out h G j ho hg).trans ?_
  have ih := resL_sel js (h.set j .dead) (G.set j .gone) hn.2 (fun i hi => by simpa using hl i (List.mem_cons_of_mem _ hi))
  rw [sel0_set hn.1, selG_set hn.1] at ih
  have := ih.append_left (resO (h.getD j .dead) (G.getD j .gone))
  rw [← List.append_assoc] at this
  exact this
section
variable {P : Program} {w0 w w' : World} {M Z0 : Zone} {b : Nat} {G : List GO} {s : AS} {tv : List Value} {r : List V1 × List AObj} {Z : Zone}
theorem selG_get {js : List Nat} {i j : Nat} {g : GO} (hi : js[i]? = some j) (hg : G[j]? = some g) : (selG js G)[i]? = some g := by
 simp [selG, hi, List.getD, hg]
theorem RS.ren {js : List Nat} {v : SV} {X : Value} (h : RS G Z w v X) : RS (selG js G) Z w (renS js v) X := by
 cases v with
 | own j v =>
  show RS _ _ _ (match idx j js with | some i => SV.own i v | none => .any) X
  split
  ·rename_i i hi
   have hi := idx_some hi
   rcases h with h | ⟨ver, val, sz, xs, hg, hh⟩
   ·exact .inl (selG_get hi h)
   ·exact .inr ⟨ver, val, sz, xs, selG_get hi hg, hh⟩
  ·trivial
 | ptr j o =>
  show RS _ _ _ (match idx j js with | some i => SV.ptr i o | none => .any) X
  split
  ·rename_i i hi
   have hi := idx_some hi
   rcases h with h | ⟨bb, T, vs, hg, hh⟩
   ·exact .inl (selG_get hi h)
   ·exact .inr ⟨bb, T, vs, selG_get hi hg, hh⟩
  ·trivial
 | op j v i o =>
  show RS _ _ _ (match idx j js with | some j => SV.op j v i o | none => .any) X
  split
  ·rename_i i' hi
   have hi := idx_some hi
   rcases h with h | ⟨ver, val, sz, xs, hg, hh⟩
   ·exact .inl (selG_get hi h)
   ·exact .inr ⟨ver, val, sz, xs, selG_get hi hg, hh⟩
  ·trivial
 | fn f l =>
  show RS _ _ _ (match idxs js l with | some l => SV.fn f l | none => .any) X
  split
  ·rename_i l' hl
   have hl := idxs_some hl
   obtain ⟨bs, hX, hh⟩ := h
   refine ⟨bs, hX, by rw [← hl.1, hh.1], fun i j bb hj hb => ?_⟩
   obtain ⟨j0, hj0, hji⟩ := hl.get' hj
   have := hh.2 i j0 bb hj0 hb
   rcases this with h1 | ⟨T, vs, h1⟩
   ·exact .inl (selG_get hji h1)
   ·exact .inr ⟨T, vs, selG_get hji h1⟩
  ·trivial
 | _ => exact h
theorem All2.map_left {α α' β : Type} {R : α → β → Prop} {S : α' → β → Prop} {f : α → α'} {l : List α} {m : List β} (h : All2 R l m) (hf : ∀ a b, R a b → S (f a) b) : All2 S (l.map f) m := by
 refine ⟨by simp [h.1], fun i a b ha hb => ?_⟩
 rw [List.getElem?_map] at ha
 obtain ⟨a', ha', rfl⟩ := Option.map_eq_some_iff.1 ha
 exact hf _ _ (h.2 i a' b ha' hb)
theorem OneR.ren {js : List Nat} {v : SV} {X : Value} (h : OneR G Z w v X) : OneR (selG js G) Z w (renS js v) X := ⟨h.1.ren, h.2⟩
theorem RV1.ren {js : List Nat} {v : V1} {X : Value} (h : RV1 G Z w v X) : RV1 (selG js G) Z w (renV js v) X := by
 cases v with
 | one s => exact ⟨h.1.ren, fun _ => h.2 (by rintro rfl; simp_all [renS])⟩
 | agg l => obtain ⟨xs, hX, hh⟩ := h; exact ⟨xs, hX, hh.map_left fun _ _ q => q.ren⟩
theorem RV.ren {js : List Nat} {v : AV} {X : Value} (h : RV G Z w v X) : RV (selG js G) Z w (renA js v) X := by
 cases v with
 | v v => exact RV1.ren h
 | tup l => obtain ⟨xs, hX, hh⟩ := h; exact ⟨xs, hX, hh.map_left fun _ _ q => q.ren⟩
theorem RO.ren {js : List Nat} {o : AObj} {g : GO} (h : RO G Z w o g) : RO (selG js G) Z w (renO js o) g := by
 cases o with
 | cells l => cases g with
  | cells bb T vs => exact All2.map_left h fun _ _ q => q.ren
  | _ => exact h
 | arr e D ver fz => cases g <;> exact h
 | dead => cases g <;> exact h
theorem sel_RO {js : List Nat} {h : List AObj} (hh : All2 (RO G Z w) h G) (hl : ∀ j ∈ js, j < h.length) : All2 (RO (selG js G) Z w) (selH js h) (selG js G) := by
 refine ⟨by simp [selH, selG], fun i o g ho hg => ?_⟩
 simp only [selH, List.getElem?_map] at ho
 obtain ⟨j, hj, rfl⟩ := Option.map_eq_some_iff.1 ho
 simp only [selG, List.getElem?_map, hj, Option.map_some, Option.some.injEq] at hg
 subst hg
 have hjl := hl j (List.mem_of_getElem? hj)
 have h1 : h[j]? = some (h.getD j .dead) := by simp [List.getD, List.getElem?_eq_getElem hjl]
 obtain ⟨g, hg, hr⟩ := hh.get h1
 have : G.getD j .gone = g := by simp [List.getD, hg]
 rw [this]; exact hr.ren
theorem InvG.sel (hI : InvG w0 M Z0 b G s tv w) {js : List Nat} (hjs : okJs js s.heap.length = true) :
   InvG w0 M Z0 js.length (selG js G) ⟨s.tmps.map (renA js), selH js s.heap⟩ tv w := by
 obtain ⟨hn, hl⟩ := okJs_out hjs
 have hlG : ∀ j ∈ js, j < s.heap.length ∧ j < G.length := fun j hj => ⟨hl j hj, by rw [← hI.len]; exact hl j hj⟩
 have hp := resL_sel js s.heap G hn hlG
 have hs := (hI.st.perm hp).sub (List.sublist_append_left _ _)
 have heq : resL (selH js s.heap) (selG js G) = resL (sel0 js s.heap) (selG js G) := by rw [selH_eq, resL_ren]
 rw [← heq] at hs
 refine ⟨hs.weak (relF_stable _ _ _) fun hh => ⟨hh.1.map_left fun _ _ q => q.ren, sel_RO hh.2 hl⟩, fun j hj hl' => ?_, hI.mz⟩
 simp [selG] at hl'; omega
def UpW (G G' : List GO) : Prop := ∀ (j : Nat),
 (G[j]? = some .gone → G'[j]? = some .gone) ∧
 (∀ b T vs, G[j]? = some (.cells b T vs) → G'[j]? = some .gone ∨ ∃ T' vs', G'[j]? = some (.cells b T' vs')) ∧
 (∀ ver val sz xs, G[j]? = some (.arr ver val sz xs) → G'[j]? = some .gone ∨ ∃ ver' val' xs', G'[j]? = some (.arr ver' val' sz xs'))
theorem Up.weak {G G' : List GO} (h : Up G G') : UpW G G' := fun j => ⟨(h j).1, (h j).2.1, fun ver val sz xs hg => ((h j).2.2 ver val sz xs hg).imp id fun ⟨a, c, d, e, _⟩ => ⟨a, c, d, e⟩⟩
theorem UpW.refl (G : List GO) : UpW G G := (Up.refl G).weak
theorem UpW.trans {G G' G'' : List GO} (h : UpW G G') (k : UpW G' G'') : UpW G G'' := by
 intro j
 refine ⟨fun hh => (k j).1 ((h j).1 hh), fun b T vs hh => ?_, fun ver val sz xs hh => ?_⟩
 ·rcases (h j).2.1 b T vs hh with h1 | ⟨T', vs', h1⟩
  ·exact .inl ((k j).1 h1)
  ·exact (k j).2.1 b T' vs' h1
 ·rcases (h j).2.2 ver val sz xs hh with h1 | ⟨ver', val', xs', h1⟩
  ·exact .inl ((k j).1 h1)
  ·exact (k j).2.2 ver' val' sz xs' h1
def CallsOK (P : Program) (F : Callee) : Prop :=
 ∀ f fn args h out, P.funcs[f]? = some fn → fn.body.isSome = true → F f args h = some out →
  ∀ w0 M Z0 G vals w, InvG w0 M Z0 h.length G ⟨args.map .v, h⟩ vals w →
   Calls P f vals.toArray w fun e w' => ∃ xs G', e = .returned (if h : xs.toArray.size = 1 then xs.toArray[0] else .tuple xs.toArray) ∧ InvG w0 M Z0 out.2.length G' ⟨out.1.map .v, out.2⟩ xs w' ∧ UpW G G'
def footL (L : List Res) : Zone := fun k => ∃ q ∈ L, q.foot k
theorem InvG.pass (hI : InvG w0 M Z0 b G s tv w) {js : List Nat} (hjs : okJs js s.heap.length = true) {vs : List V1} {xs : List Value} (hv : All2 (RV1 G (zn w0 Z0 s G) w) vs xs) :
   InvG w (footL (resL (sel0 js s.heap) (selG js G))) (fun k => zn w0 Z0 s G k ∨ footL (resL (sel0 js s.heap) (selG js G)) k) js.length (selG js G) ⟨(vs.map (renV js)).map .v, selH js s.heap⟩ xs w := by
 obtain ⟨hn, hl⟩ := okJs_out hjs
 have hlG : ∀ j ∈ js, j < s.heap.length ∧ j < G.length := fun j hj => ⟨hl j hj, by rw [← hI.len]; exact hl j hj⟩
 have hp := resL_sel js s.heap G hn hlG
 have hs := (hI.st.perm hp).sub (List.sublist_append_left _ _)
 have heq : resL (selH js s.heap) (selG js G) = resL (sel0 js s.heap) (selG js G) := by rw [selH_eq, resL_ren]
 have hk : ∀ k, zn w0 Z0 s G k → zone w (fun k => zn w0 Z0 s G k ∨ footL (resL (sel0 js s.heap) (selG js G)) k) (resL (selH js s.heap) (selG js G)) k := fun k hk =>
  ⟨.inl (.inl hk), fun q hq => hk.2 q (hp.mem_iff.2 (List.mem_append.2 (.inl (heq ▸ hq))))⟩
 refine ⟨⟨Ext.refl _ _, ?_, ?_, ?_, ?_, relF_stable _ _ _, ?_⟩, ?_, fun k hk => .inr hk⟩
 ·rw [heq]; exact hs.own
 ·rw [heq]; exact hs.loc
 ·rw [heq]; exact fun q hq k hf => ⟨.inl ⟨q, hq, hf⟩, (hs.key q hq k hf).2⟩
 ·rw [heq]; exact hs.dis
 ·refine ⟨(hv.map_left fun _ _ q => (RV1.ren q).stable (keeps_le hk)).map_left fun _ _ q => q, ?_⟩
  exact (sel_RO hI.st.per.2 hl).mono fun _ _ _ q => q.stable (keeps_le hk)
 ·intro j hj hl'
  simp [selG] at hl'; omega
theorem frame {L L1 L2 Lc : List Res} {φ φc : Fact} (hI : St w0 M Z0 L φ w) (hm : ∀ k, M k → Z0 k) (hp : L.Perm (L1 ++ L2)) (hc : St w (footL L1) (fun k => zone w0 Z0 L k ∨ footL L1 k) Lc φc w') :
   St w0 M Z0 (Lc ++ L2) (andF φc φ) w' ∧ Keeps (zone w0 Z0 L) (zone w0 Z0 (Lc ++ L2)) w w' := by
 have hP := hI.perm hp
 have hd := List.pairwise_append.1 hP.dis
 have hx2 : ∀ q ∈ L2, ∀ k, q.foot k → ¬ footL L1 k := fun q hq k hk ⟨p, hp', hf⟩ => hd.2.2 p hp' q hq k hf hk
 have key1 : ∀ q ∈ Lc, ∀ k, q.foot k → (M k ∨ w0.heap.size ≤ k) := by
  intro q hq k hk
  rcases (hc.key q hq k hk).1 with ⟨p, hp', hf⟩ | h
  ·exact (hP.key p (List.mem_append.2 (.inl hp')) k hf).1
  ·exact .inr (Nat.le_trans hI.ext.size h)
 have hkz : Keeps (zone w0 Z0 L) (zone w0 Z0 (Lc ++ L2)) w w' := by
  intro k hz hl
  have hn1 : ¬ footL L1 k := fun ⟨p, hp', hf⟩ => hz.2 p (hp.mem_iff.2 (List.mem_append.2 (.inl hp'))) hf
  refine ⟨⟨hz.1, fun q hq hf => ?_⟩, hc.ext.block k hl hn1⟩
  rcases List.mem_append.1 hq with hq | hq
  ·rcases (hc.key q hq k hf).1 with h | h
   ·exact hn1 h
   ·omega
  ·exact hz.2 q (hp.mem_iff.2 (List.mem_append.2 (.inr hq))) hf
 refine ⟨⟨?_, ?_, ?_, ?_, ?_, hc.stab.and hI.stab, ?_, ?_⟩, hkz⟩
 ·refine ⟨hc.ext.os.trans hI.ext.os, hc.ext.tape.trans hI.ext.tape, hc.ext.output.trans hI.ext.output, Nat.le_trans hI.ext.size hc.ext.size, fun k hk hmk => ?_⟩
  rw [hc.ext.block k (Nat.lt_of_lt_of_le hk hI.ext.size) ?_, hI.ext.block k hk hmk]
  rintro ⟨p, hp', hf⟩
  rcases (hP.key p (List.mem_append.2 (.inl hp')) k hf).1 with h | h
  ·exact hmk h
  ·omega
 ·intro q hq
  rcases List.mem_append.1 hq with hq | hq
  ·exact hc.own q hq
  ·have hq' := List.mem_append.2 (Or.inr (a := q ∈ L1) hq)
   exact hP.loc q hq' w w' (fun k hk => hc.ext.block k (hP.key q hq' k hk).2 (hx2 q hq k hk)) (hP.own q hq')
 ·intro q hq
  rcases List.mem_append.1 hq with hq | hq
  ·exact hc.loc q hq
  ·exact hP.loc q (List.mem_append.2 (.inr hq))
 ·intro q hq k hk
  rcases List.mem_append.1 hq with hq | hq
  ·exact ⟨key1 q hq k hk, (hc.key q hq k hk).2⟩
  ·have := hP.key q (List.mem_append.2 (.inr hq)) k hk
   exact ⟨this.1, Nat.lt_of_lt_of_le this.2 hc.ext.size⟩
 ·refine List.pairwise_append.2 ⟨hc.dis, hd.2.1, fun q hq p hp' k hk hk' => ?_⟩
  rcases (hc.key q hq k hk).1 with h | h
  ·exact hx2 p hp' k hk' h
  ·have := (hP.key p (List.mem_append.2 (.inr hp')) k hk').2; omega
 ·refine hc.stab _ _ w' w' (fun k hz _ => ⟨⟨?_, fun q hq hf => ?_⟩, rfl⟩) hc.per
  ·rcases hz.1 with (h | ⟨p, hp', hf⟩) | h
   ·exact h.1
   ·exact (hP.key p (List.mem_append.2 (.inl hp')) k hf).1.imp (hm k) id
   ·exact .inr (Nat.le_trans hI.ext.size h)
  ·rcases List.mem_append.1 hq with hq | hq
   ·exact hz.2 q hq hf
   ·rcases hz.1 with (h | h) | h
    ·exact h.2 q (hp.mem_iff.2 (List.mem_append.2 (.inr hq))) hf
    ·exact hx2 q hq k hf h
    ·have := (hP.key q (List.mem_append.2 (.inr hq)) k hf).2; omega
 ·exact hI.stab _ _ w w' hkz hI.per
end
end Go.Ab
namespace Go.Ab
open Go Go.Dk
section
variable {P : Program} {w0 w w' : World} {M Z0 : Zone} {b : Nat} {G : List GO} {s : AS} {tv : List Value} {r : List V1 × List AObj} {Z : Zone}
theorem sealVs_sound : ∀ {l : List V1} {s : AS} {xs : List Value} {k : List V1 → List AObj → OR}, InvG w0 M Z0 b G s tv w → All2 (RV1 G (zn w0 Z0 s G) w) l xs → sealVs s.heap l k = some r →
   ∃ l' h', k l' h' = some r ∧ Sealed w0 M Z0 b G s tv w h' ∧ All2 (RV1 G (zn w0 Z0 ⟨s.tmps, h'⟩ G) w) l' xs
 | [], s, xs, k, hI, ha, h => by
  obtain rfl := ha.nil_inv
  exact ⟨_, _, h, Sealed.refl hI, All2.nil⟩
 | v :: l, s, xs, k, hI, ha, h => by
  obtain ⟨X, xs', rfl, h1, h2⟩ := ha.cons_inv
  unfold sealVs at h
  split at h
  ·exact absurd ‹_ :: _ = []› (by simp)
  ·rename_i k' l0 e
   simp only [List.cons.injEq] at e
   obtain ⟨rfl, rfl⟩ := e
   obtain ⟨l', h', hk, hs, hl⟩ := sealVs_sound hI h2 h
   exact ⟨_, _, hk, hs, All2.cons ⟨trivial, fun h => absurd rfl h⟩ hl⟩
  ·rename_i x l0 hne e
   simp only [List.cons.injEq] at e
   obtain ⟨rfl, rfl⟩ := e
   have hone : OneR G (zn w0 Z0 s G) w x X := ⟨h1.1, h1.2 fun e => hne e⟩
   replace h := sealS_sound hI hone h; obtain ⟨v', h1', h, hs, hv⟩ := h
   obtain ⟨l', h', hk, hs', hl⟩ := sealVs_sound hs.inv (h2.mono fun _ _ _ q => q.stable (keeps_le hs.le)) h
   exact ⟨_, _, hk, hs.trans hs', All2.cons ⟨hv.1.stable (keeps_le hs'.le), fun _ => hv.2⟩ hl⟩
  ·rename_i c l0 e
   simp only [List.cons.injEq] at e
   obtain ⟨rfl, rfl⟩ := e
   obtain ⟨ys, hX, hc⟩ := h1
   replace h := sealL_sound hI hc h; obtain ⟨c', h1', h, hs, hv⟩ := h
   obtain ⟨l', h', hk, hs', hl⟩ := sealVs_sound hs.inv (h2.mono fun _ _ _ q => q.stable (keeps_le hs.le)) h
   exact ⟨_, _, hk, hs.trans hs', All2.cons ⟨ys, hX, hv.mono fun _ _ _ q => ⟨q.1.stable (keeps_le hs'.le), q.2⟩⟩ hl⟩
def LikeS (v y : SV) : Prop := ∀ (G G' : List GO) (Z : Zone) (w : World) (X : Value), OneR G Z w v X → OneR G' Z w y X
theorem intC_some {a : IntKind} {l : List SV} {k : Int → List SV → OR} (h : intC a l k = some r) : ∃ n l', l = .int a n :: l' ∧ k n l' = some r := by
 unfold intC at h; split at h
 ·replace h := cond_left h; obtain ⟨ha, h⟩ := h; obtain rfl := ikEq_eq ha; exact ⟨_, _, rfl, h⟩
 ·cases h
theorem boolC_some {l : List SV} {k : Bool → List SV → OR} (h : boolC l k = some r) : ∃ n l', l = .bool n :: l' ∧ k n l' = some r := by
 unfold boolC at h; split at h
 ·exact ⟨_, _, rfl, h⟩
 ·cases h
theorem strC_some {l : List SV} {k : ByteArray → List SV → OR} (h : strC l k = some r) : ∃ n l', l = .str n :: l' ∧ k n l' = some r := by
 unfold strC at h; split at h
 ·exact ⟨_, _, rfl, h⟩
 ·cases h
theorem slC_some {e : SK} {l : List SV} {k : SD → List SV → OR} (h : slC e l k = some r) : ∃ d l', l = .fr d :: l' ∧ d.kind = e ∧ k d l' = some r := by
 cases e <;> simp only [slC] at h
 ·unfold tsC at h; split at h
  ·exact ⟨_, _, rfl, rfl, h⟩
  ·cases h
 ·unfold isC at h; split at h
  ·exact ⟨_, _, rfl, rfl, h⟩
  ·cases h
 ·unfold issC at h; split at h
  ·exact ⟨_, _, rfl, rfl, h⟩
  ·cases h
 ·unfold ssC at h; split at h
  ·exact ⟨_, _, rfl, rfl, h⟩
  ·cases h
 ·unfold bsC at h; split at h
  ·exact ⟨_, _, rfl, rfl, h⟩
  ·cases h
theorem anyC_some {l : List SV} {k : List SV → OR} (h : anyC l k = some r) : ∃ v l', l = v :: l' ∧ k l' = some r := by
 unfold anyC at h; split at h
 ·exact ⟨_, _, rfl, h⟩
 ·cases h
theorem likeC_sound {x : SV} {l : List SV} {k : SV → List SV → OR} (h : likeC x l k = some r) : ∃ v y l', l = v :: l' ∧ k y l' = some r ∧ LikeS v y := by
 unfold likeC at h
 split at h
 ·obtain ⟨n, l', rfl, h'⟩ := intC_some h; exact ⟨_, _, _, rfl, h', fun _ _ _ _ _ h => h⟩
 ·obtain ⟨n, l', rfl, h'⟩ := boolC_some h; exact ⟨_, _, _, rfl, h', fun _ _ _ _ _ h => h⟩
 ·obtain ⟨n, l', rfl, h'⟩ := strC_some h; exact ⟨_, _, _, rfl, h', fun _ _ _ _ _ h => h⟩
 ·obtain ⟨n, l', rfl, _, h'⟩ := slC_some h; exact ⟨_, _, _, rfl, h', fun _ _ _ _ _ h => h⟩
 ·obtain ⟨n, l', rfl, _, h'⟩ := slC_some h; exact ⟨_, _, _, rfl, h', fun _ _ _ _ _ h => h⟩
 ·obtain ⟨v, l', rfl, h'⟩ := anyC_some h; exact ⟨_, _, _, rfl, h', fun _ _ _ _ _ h => ⟨trivial, h.2⟩⟩
theorem likeL_sound : ∀ {x l : List SV} {k : List SV → OR}, likeL x l k = some r → ∃ y, k y = some r ∧ All2 LikeS l y
 | [], l, k, h => by
  unfold likeL nilC at h
  split at h
  ·exact ⟨_, h, All2.nil⟩
  ·cases h
 | x :: xs, l, k, h => by
  unfold likeL at h
  obtain ⟨v, y, l', rfl, h1, hv⟩ := likeC_sound h
  obtain ⟨ys, h2, hl⟩ := likeL_sound h1
  exact ⟨_, h2, All2.cons hv hl⟩
theorem like_one {l y : List SV} {vs : List Value} {G' : List GO} (h : All2 LikeS l y) (k : All2 (OneR G Z w) l vs) : All2 (OneR G' Z w) y vs := by
 refine ⟨h.1.symm.trans k.1, fun i a X ha hX => ?_⟩
 obtain ⟨v, hv, hl⟩ := h.get' ha
 exact hl _ _ _ _ _ (k.2 i v X hv hX)
def Back (o o' : AObj) : Prop := o' = .dead ∨ ∃ l y, o = .cells l ∧ o' = .cells y ∧ All2 LikeS l y
theorem backO_sound : ∀ {x o : List AObj} {k : List AObj → List AObj → OR}, backO x o k = some r → ∃ olds os rest, o = olds ++ rest ∧ k os rest = some r ∧ olds.length = x.length ∧ All2 Back olds os
 | [], o, k, h => ⟨[], [], o, rfl, h, rfl, All2.nil⟩
 | x :: xs, o, k, h => by
  unfold backO at h
  split at h
  ·exact absurd ‹_ :: _ = []› (by simp)
  ·rename_i c xs0 e
   simp only [List.cons.injEq] at e
   obtain ⟨rfl, rfl⟩ := e
   unfold objC at h
   split at h
   ·obtain ⟨y, h1, hy⟩ := likeL_sound h
    obtain ⟨olds, os, rest, rfl, h2, hl, hb⟩ := backO_sound h1
    exact ⟨_ :: olds, _, rest, rfl, h2, by simp [hl], All2.cons (.inr ⟨_, _, rfl, rfl, hy⟩) hb⟩
   ·cases h
  ·rename_i o0 xs0 hne e
   simp only [List.cons.injEq] at e
   obtain ⟨rfl, rfl⟩ := e
   unfold dropC at h
   split at h
   ·obtain ⟨olds, os, rest, rfl, h1, hl, hb⟩ := backO_sound h
    exact ⟨_ :: olds, _, rest, rfl, h1, by simp [hl], All2.cons (.inl rfl) hb⟩
   ·cases h
theorem arrC_some {e : TypeId × SK} {o : List AObj} {k : SD → List AObj → OR} (h : arrC e o k = some r) : ∃ d o', o = .arr e.1 d 0 false :: o' ∧ d.kind = e.2 ∧ k d o' = some r := by
 have key : ∀ {α : Type} {f : α → SD} {o : List AObj} {k : SD → List AObj → OR} {e' : TypeId} {x : α} {o' : List AObj}, o = .arr e' (f x) 0 false :: o' → cond (Nat.beq e.1 e') (k (f x) o') none = some r → (f x).kind = e.2 → ∃ d o', o = .arr e.1 d 0 false :: o' ∧ d.kind = e.2 ∧ k d o' = some r := by
  intro α f o k e' x o' ho h hk
  obtain ⟨he, h'⟩ := cond_left h
  simp only [Nat.beq_eq] at he
  subst he
  exact ⟨_, _, ho, hk, h'⟩
 unfold arrC at h
 split at h <;> rename_i he
 ·unfold arrTsC at h; split at h
  ·exact key (f := SD.ts) rfl h (by rw [he]; rfl)
  ·cases h
 ·unfold arrIsC at h; split at h
  ·exact key (f := SD.is) rfl h (by rw [he]; rfl)
  ·cases h
 ·unfold arrIssC at h; split at h
  ·exact key (f := SD.iss) rfl h (by rw [he]; rfl)
  ·cases h
 ·unfold arrSsC at h; split at h
  ·exact key (f := SD.ss) rfl h (by rw [he]; rfl)
  ·cases h
 ·unfold arrBsC at h; split at h
  ·exact key (f := SD.bs) rfl h (by rw [he]; rfl)
  ·cases h
theorem rSl_some {e : SK} {l : List V1} {k : SD → List V1 → OR} (h : rSl e l k = some r) : ∃ d l', l = .one (.fr d) :: l' ∧ k d l' = some r := by
 cases e <;> simp only [rSl] at h
 ·unfold rTs at h; split at h
  ·exact ⟨_, _, rfl, h⟩
  ·cases h
 ·unfold rIs at h; split at h
  ·exact ⟨_, _, rfl, h⟩
  ·cases h
 ·unfold rIss at h; split at h
  ·exact ⟨_, _, rfl, h⟩
  ·cases h
 ·unfold rSs at h; split at h
  ·exact ⟨_, _, rfl, h⟩
  ·cases h
 ·unfold rBs at h; split at h
  ·exact ⟨_, _, rfl, h⟩
  ·cases h
theorem RO_arr_inv {e : TypeId} {d : SD} {g : GO} (h : RO G Z w (.arr e d 0 false) g) : ∃ val xs, g = .arr 0 val d.kind.size xs := by
 cases g with
 | arr ver val sz xs => obtain ⟨rfl, rfl, _⟩ := h; exact ⟨_, _, rfl⟩
 | _ => exact h.elim
theorem RO_arr_any {e : TypeId} {d : SD} {v : Nat} {z : Bool} {g : GO} {G' : List GO} (h : RO G Z w (.arr e d v z) g) : RO G' Z w (.arr e d v z) g := by cases g <;> exact h
theorem own_new {c b' : Nat} {G' : List GO} {g : GO} {e : TypeId} {d : SD} {X : Value} (hx : RS G Z w (.own c 0) X) (hg : RO G Z w (.arr e d 0 false) g) (h1 : G[c]? = some g) (h2 : G'[b']? = some g) : RS G' Z w (.own b' 0) X := by
 obtain ⟨val, xs, rfl⟩ := RO_arr_inv hg
 have := own_val hx h1 rfl
 exact .inr ⟨0, val, _, xs, h2, Nat.le_refl _, fun _ => this⟩
theorem valT_sound {own : Bool} {c b' : Nat} {t : TypeId} {l : List V1} {o : List AObj} {k : V1 → List AObj → List V1 → List AObj → OR} (h : valT P own c b' t l o k = some r) :
   ∃ v n l' o' x0 o0, k v n l' o' = some r ∧ l = x0 :: l' ∧ o = o0 ++ o' ∧ n.length = o0.length ∧ ∀ {Gc G'' : List GO} {Z : Zone} {w : World} {X : Value} {gs : List GO}, RV1 Gc Z w x0 X → All2 (RO Gc Z w) o0 gs →
    (∀ (i : Nat) g, gs[i]? = some g → Gc[c + i]? = some g ∧ G''[b' + i]? = some g) → RV1 G'' Z w v X ∧ All2 (RO G'' Z w) n gs ∧ resL n gs = resL o0 gs := by
 unfold valT at h
 split at h
 ·unfold rInt at h; split at h
  ·replace h := cond_left h; obtain ⟨ha, h⟩ := h; obtain rfl := ikEq_eq ha
   exact ⟨_, _, _, _, _, [], h, rfl, rfl, rfl, fun hx ho _ => by obtain rfl := ho.nil_inv; exact ⟨hx, All2.nil, rfl⟩⟩
  ·cases h
 ·unfold rBool at h; split at h
  ·exact ⟨_, _, _, _, _, [], h, rfl, rfl, rfl, fun hx ho _ => by obtain rfl := ho.nil_inv; exact ⟨hx, All2.nil, rfl⟩⟩
  ·cases h
 ·unfold rStr at h; split at h
  ·exact ⟨_, _, _, _, _, [], h, rfl, rfl, rfl, fun hx ho _ => by obtain rfl := ho.nil_inv; exact ⟨hx, All2.nil, rfl⟩⟩
  ·cases h
 ·split at h
  ·rename_i e _
   rcases cond_some h with ⟨_, h⟩ | ⟨_, h⟩
   ·unfold rOwn at h; split at h
    ·replace h := cond_left h; obtain ⟨hi, h⟩ := h
     simp only [Nat.beq_eq] at hi
     obtain ⟨d, o', rfl, hk, h1⟩ := arrC_some h
     refine ⟨_, _, _, _, _, [_], h1, rfl, rfl, rfl, fun hx ho hg => ?_⟩
     obtain ⟨g, gs', rfl, h1, h2⟩ := ho.cons_inv
     obtain rfl := h2.nil_inv
     obtain ⟨e1, e2⟩ := hg 0 g rfl
     refine ⟨⟨own_new (by rw [← hi]; exact hx.1) h1 e1 e2, fun _ => hx.2 nofun⟩, All2.cons (RO_arr_any h1) All2.nil, rfl⟩
    ·cases h
   ·obtain ⟨d, l', rfl, h1⟩ := rSl_some h
    exact ⟨_, _, _, _, _, [], h1, rfl, rfl, rfl, fun hx ho _ => by obtain rfl := ho.nil_inv; exact ⟨hx, All2.nil, rfl⟩⟩
  ·cases h
 ·split at h
  ·rcases cond_some h with ⟨_, h⟩ | ⟨_, h⟩
   ·unfold rOwnT at h; split at h
    ·replace h := cond_left h; obtain ⟨hi, h⟩ := h
     simp only [Nat.beq_eq] at hi
     unfold arrTsC at h; split at h
     ·replace h := cond_left h; obtain ⟨he, hk2⟩ := h
      simp only [Nat.beq_eq] at he
      subst he
      refine ⟨_, _, _, _, _, [_], hk2, rfl, rfl, rfl, fun hx ho hg => ?_⟩
      obtain ⟨g, gs', rfl, h1, h2⟩ := ho.cons_inv
      obtain rfl := h2.nil_inv
      obtain ⟨e1, e2⟩ := hg 0 g rfl
      obtain ⟨xs, hX, hc⟩ := hx
      obtain ⟨x1, m1, rfl, c1, hc⟩ := hc.cons_inv
      obtain ⟨x2, m2, rfl, c2, hc⟩ := hc.cons_inv
      obtain ⟨x3, m3, rfl, c3, hc⟩ := hc.cons_inv
      obtain rfl := hc.nil_inv
      exact ⟨⟨_, hX, All2.cons c1 (All2.cons c2 (All2.cons ⟨own_new (by rw [← hi]; exact c3.1) h1 e1 e2, c3.2⟩ All2.nil))⟩, All2.cons (RO_arr_any h1) All2.nil, rfl⟩
     ·cases h
    ·cases h
   ·unfold rTerm at h; split at h
    ·refine ⟨_, _, _, _, _, [], h, rfl, rfl, rfl, fun hx ho _ => ?_⟩
     obtain rfl := ho.nil_inv
     obtain ⟨xs, hX, hc⟩ := hx
     obtain ⟨x1, m1, rfl, c1, hc⟩ := hc.cons_inv
     obtain ⟨x2, m2, rfl, c2, hc⟩ := hc.cons_inv
     obtain ⟨x3, m3, rfl, c3, hc⟩ := hc.cons_inv
     obtain rfl := hc.nil_inv
     exact ⟨⟨_, hX, All2.cons ⟨c1.1, c1.2⟩ (All2.cons ⟨c2.1, c2.2⟩ (All2.cons ⟨c3.1, c3.2⟩ All2.nil))⟩, All2.nil, rfl⟩
    ·cases h
  ·cases h
 ·unfold rPtr at h; split at h
  ·replace h := cond_left h; obtain ⟨hi, h⟩ := h
   simp only [Nat.beq_eq] at hi
   unfold objC at h; split at h
   ·split at h
    ·obtain ⟨y, h1, hy⟩ := likeL_sound h
     refine ⟨_, _, _, _, _, [_], h1, rfl, rfl, rfl, fun hx ho hg => ?_⟩
     obtain ⟨g, gs', rfl, h1, h2⟩ := ho.cons_inv
     obtain rfl := h2.nil_inv
     obtain ⟨e1, e2⟩ := hg 0 g rfl
     cases g with
     | cells bb T vs =>
      have hp := ptr_val (by rw [← hi]; exact hx.1) e1
      exact ⟨⟨.inr ⟨bb, T, vs, e2, hp⟩, fun _ => hx.2 nofun⟩, All2.cons (like_one hy h1) All2.nil, rfl⟩
     | _ => exact h1.elim
    ·cases h
   ·cases h
  ·cases h
 ·cases h
theorem valsT_sound {own : Bool} : ∀ {tys : List TypeId} {c b' : Nat} {l : List V1} {o : List AObj} {k : List V1 → List AObj → OR}, valsT P own tys c b' l o k = some r →
   ∃ vs ns, k vs ns = some r ∧ ns.length = o.length ∧ ∀ {Gc G'' : List GO} {Z : Zone} {w : World} {xs : List Value} {gs : List GO}, All2 (RV1 Gc Z w) l xs → All2 (RO Gc Z w) o gs →
    (∀ (i : Nat) g, gs[i]? = some g → Gc[c + i]? = some g ∧ G''[b' + i]? = some g) → All2 (RV1 G'' Z w) vs xs ∧ All2 (RO G'' Z w) ns gs ∧ resL ns gs = resL o gs
 | [], c, b', l, o, k, h => by
  unfold valsT nilV at h
  split at h
  ·unfold nilO at h
   split at h
   ·exact ⟨_, _, h, rfl, fun hx ho _ => ⟨by obtain rfl := hx.nil_inv; exact All2.nil, by obtain rfl := ho.nil_inv; exact All2.nil, rfl⟩⟩
   ·cases h
  ·cases h
 | t :: tys, c, b', l, o, k, h => by
  unfold valsT at h
  obtain ⟨v, n, l', o', x0, o0, h1, rfl, rfl, hn, hv⟩ := valT_sound h
  obtain ⟨vs, ns, h2, hns, hvs⟩ := valsT_sound h1
  refine ⟨_, _, h2, by simp [hn, hns], fun hx ho hg => ?_⟩
  obtain ⟨X, xs', rfl, hx1, hx2⟩ := hx.cons_inv
  obtain ⟨g1, g2, rfl, ho1, ho2⟩ := ho.append_inv
  obtain ⟨a1, a2, a3⟩ := hv hx1 ho1 fun i g hi => hg i g (by rw [List.getElem?_append_left (lt_of_some hi)]; exact hi)
  obtain ⟨b1, b2, b3⟩ := hvs hx2 ho2 fun i g hi => by
   have := hg (g1.length + i) g (by rw [List.getElem?_append_right (by omega)]; simpa using hi)
   rw [← ho1.1] at this
   rw [Nat.add_assoc, Nat.add_assoc, hn]; exact this
  refine ⟨All2.cons a1 b1, All2.append a2 b2, ?_⟩
  rw [resL_append a2.1, resL_append ho1.1, a3, b3]
end
end Go.Ab
end
section
namespace Go.Ab
open Go Go.Dk
def backG : List Nat → List GO → List GO → List GO
 | j :: js, g :: gs, G => backG js gs (G.set j g)
 | _, _, G => G
theorem backH_length : ∀ (js : List Nat) (os h : List AObj), (backH js os h).length = h.length
 | [], _, _ => rfl
 | _ :: _, [], _ => rfl
 | j :: js, o :: os, h => by rw [backH, backH_length js os]; simp
theorem backG_length : ∀ (js : List Nat) (gs G : List GO), (backG js gs G).length = G.length
 | [], _, _ => rfl
 | _ :: _, [], _ => rfl
 | j :: js, o :: os, h => by rw [backG, backG_length js os]; simp
theorem backG_other : ∀ (js : List Nat) (gs G : List GO) (q : Nat), q ∉ js → (backG js gs G)[q]? = G[q]?
 | [], _, _, _, _ => rfl
 | _ :: _, [], _, _, _ => rfl
 | j :: js, g :: gs, G, q, h => by
  simp only [List.mem_cons, not_or] at h
  rw [backG, backG_other js gs _ q h.2, List.getElem?_set_ne (fun e => h.1 e.symm)]
theorem backG_at : ∀ (js : List Nat) (gs G : List GO) (i j : Nat) (g : GO), js.Nodup → js[i]? = some j → gs[i]? = some g → j < G.length → (backG js gs G)[j]? = some g
 | [], _, _, i, _, _, _, h, _, _ => by simp at h
 | _ :: _, [], _, i, _, _, _, _, h, _ => by simp at h
 | a :: js, x :: gs, G, 0, j, g, hn, hj, hg, hl => by
  simp only [List.getElem?_cons_zero, Option.some.injEq] at hj hg
  subst hj hg
  rw [List.nodup_cons] at hn
  rw [backG, backG_other js gs _ a hn.1]; simp [hl]
 | a :: js, x :: gs, G, i + 1, j, g, hn, hj, hg, hl => by
  rw [List.nodup_cons] at hn
  rw [backG]
  exact backG_at js gs _ i j g hn.2 (by simpa using hj) (by simpa using hg) (by simpa using hl)
theorem backH_append : ∀ (js js' : List Nat) (os os' h : List AObj), js.length = os.length → backH (js ++ js') (os ++ os') h = backH js' os' (backH js os h)
 | [], js', [], os', h, _ => rfl
 | j :: js, js', o :: os, os', h, hl => by simp only [List.cons_append, backH]; exact backH_append js js' os os' _ (by simpa using hl)
 | [], _, _ :: _, _, _, hl => by simp at hl
 | _ :: _, _, [], _, _, hl => by simp at hl
theorem back_all {R : AObj → GO → Prop} : ∀ {js : List Nat} {os h : List AObj} {gs G : List GO}, All2 R h G → All2 R os gs → All2 R (backH js os h) (backG js gs G)
 | [], os, h, gs, G, hh, ho => hh
 | j :: js, os, h, gs, G, hh, ho => by
  cases os with
  | nil => obtain rfl := ho.nil_inv; exact hh
  | cons o os =>
   obtain ⟨g, gs', rfl, h1, h2⟩ := ho.cons_inv
   show All2 R (backH js os (h.set j o)) (backG js gs' (G.set j g))
   exact back_all (hh.set j h1) h2
theorem kill_set : ∀ {js : List Nat} {j : Nat} {o : AObj} {h : List AObj}, j ∉ js → kill js (h.set j o) = (kill js h).set j o
 | [], _, _, _, _ => rfl
 | i :: js, j, o, h, hj => by
  simp only [List.mem_cons, not_or] at hj
  simp only [kill]
  rw [List.set_comm _ _ hj.1, kill_set hj.2]
theorem killG_set : ∀ {js : List Nat} {j : Nat} {g : GO} {G : List GO}, j ∉ js → killG js (G.set j g) = (killG js G).set j g
 | [], _, _, _, _ => rfl
 | i :: js, j, o, h, hj => by
  simp only [List.mem_cons, not_or] at hj
  simp only [killG]
  rw [List.set_comm _ _ hj.1, killG_set hj.2]
theorem kill_length : ∀ (js : List Nat) (h : List AObj), (kill js h).length = h.length
 | [], _ => rfl
 | j :: js, h => by rw [kill, kill_length js]; simp
theorem killG_length : ∀ (js : List Nat) (h : List GO), (killG js h).length = h.length
 | [], _ => rfl
 | j :: js, h => by rw [killG, killG_length js]; simp
theorem resL_back : ∀ {js : List Nat} {os h : List AObj} {gs G : List GO}, js.Nodup → (∀ j ∈ js, j < h.length ∧ j < G.length) → js.length = os.length → os.length = gs.length →
   (resL (backH js os h) (backG js gs G)).Perm (resL os gs ++ resL (kill js h) (killG js G))
 | [], os, h, gs, G, _, _, hl, hl2 => by
  obtain rfl := List.eq_nil_of_length_eq_zero hl.symm
  exact List.Perm.refl _
 | j :: js, [], h, gs, G, _, _, hl, _ => by simp at hl
 | j :: js, o :: os, h, [], G, _, _, _, hl => by simp at hl
 | j :: js, o :: os, h, g :: gs, G, hn, hl, h1, h2 => by
  rw [List.nodup_cons] at hn
  obtain ⟨hj, hjG⟩ := hl j (List.mem_cons_self ..)
  have ih := resL_back (js := js) (os := os) (h := h.set j o) (gs := gs) (G := G.set j g) hn.2 (fun i hi => by simpa using hl i (List.mem_cons_of_mem _ hi)) (by simpa using h1) (by simpa using h2)
  simp only [backH, backG, kill, killG]
  refine ih.trans ?_
  rw [kill_set hn.1, killG_set hn.1, kill_set hn.1, killG_set hn.1]
  have hin := resL_in (h := kill js h) (G := killG js G) o g (by rw [kill_length]; exact hj) (by rw [killG_length]; exact hjG)
  have : (resL os gs ++ resL ((kill js h).set j o) ((killG js G).set j g)).Perm (resL os gs ++ (resO o g ++ resL ((kill js h).set j .dead) ((killG js G).set j .gone))) := hin.symm.append_left _
  refine this.trans ?_
  simp only [resL]
  rw [← List.append_assoc]
  exact List.perm_append_comm.append_right _
theorem kill_append : ∀ (js js' : List Nat) (h : List AObj), kill (js ++ js') h = kill js' (kill js h)
 | [], _, _ => rfl
 | j :: js, js', h => by simp only [List.cons_append, kill]; exact kill_append js js' _
theorem killG_append : ∀ (js js' : List Nat) (h : List GO), killG (js ++ js') h = killG js' (killG js h)
 | [], _, _ => rfl
 | j :: js, js', h => by simp only [List.cons_append, killG]; exact killG_append js js' _
def keepG : AObj → GO → GO
 | .cells _, g => g
 | _, _ => .gone
theorem resL_append' {h h' : List AObj} {G G' : List GO} (hl : h.length = G.length) : resL (h ++ h') (G ++ G') = resL h G ++ resL h' G' := resL_append hl
section
variable {P : Program} {w0 w w' : World} {M Z0 : Zone} {b : Nat} {G : List GO} {s : AS} {tv : List Value} {r : List V1 × List AObj} {Z : Zone}
theorem back_keep : ∀ {olds os : List AObj} {gs Gc : List GO}, All2 Back olds os → All2 (RO Gc Z w) olds gs → ∀ G'' : List GO,
   All2 (RO G'' Z w) os (List.zipWith keepG os gs) ∧ (resL os (List.zipWith keepG os gs)).Sublist (resL olds gs)
 | [], os, gs, Gc, hb, hr, G'' => by
  obtain rfl := hb.nil_inv
  obtain rfl := hr.nil_inv
  exact ⟨All2.nil, List.Sublist.refl _⟩
 | o :: olds, os, gs, Gc, hb, hr, G'' => by
  obtain ⟨o', os', rfl, h1, h2⟩ := hb.cons_inv
  obtain ⟨g, gs', rfl, h3, h4⟩ := hr.cons_inv
  obtain ⟨a1, a2⟩ := back_keep h2 h4 G''
  simp only [List.zipWith_cons_cons]
  rcases h1 with rfl | ⟨l, y, rfl, rfl, hy⟩
  ·refine ⟨All2.cons trivial a1, ?_⟩
   simp only [resL, resO_dead, List.nil_append]
   exact a2.trans (List.sublist_append_right _ _)
  ·cases g with
   | cells bb T vs =>
    refine ⟨All2.cons (like_one hy h3) a1, ?_⟩
    simp only [resL, keepG]
    exact a2.append_left _
   | _ => exact h3.elim
theorem list_nodup {js : List Nat} {b n : Nat} (h : js.Nodup) (hb : ∀ j ∈ js, j < b) : (js ++ List.range' b n).Nodup := by
 rw [List.nodup_append]
 refine ⟨h, List.nodup_range', fun a ha c hc => ?_⟩
 rw [List.mem_range'_1] at hc
 have := hb a ha
 omega
theorem callGo_sound {F : Callee} (hF : CallsOK P F) {f : FuncId} {fn : Func} (hfn : P.funcs[f]? = some fn) (hbody : fn.body.isSome = true) (hI : InvG w0 M Z0 b G s tv w) {ow : Bool} {tys : List TypeId} {rm : Nat} {k : AV → List AObj → OR} {vs : List V1} {xs : List Value}
   (hv : All2 (RV1 G (zn w0 Z0 s G) w) vs xs) (hb : b + rm ≤ s.heap.length) (h : callGo P F ow f tys b rm k vs s.heap = some r) :
   Calls P f xs.toArray w fun e w' => ∃ X, e = .returned X ∧ ∃ v h' G', k v h' = some r ∧ InvG w0 M Z0 (b + rm) G' ⟨s.tmps, h'⟩ tv w' ∧ RV G' (zn w0 Z0 ⟨s.tmps, h'⟩ G') w' v X ∧ h'.length = s.heap.length ∧ Up G G' := by
 unfold callGo at h
 generalize hjs : reach s.heap 64 (vs.flatMap refsV) [] = js at h
 replace h := cond_left h; obtain ⟨hok, h⟩ := h
 replace h := bind_some h; obtain ⟨out, hout, h⟩ := h
 have hokl : okJs js s.heap.length = true := by
  simp only [okJs, Bool.and_eq_true, List.all_eq_true, Nat.blt_eq] at hok ⊢
  exact ⟨hok.1, fun j hj => by have := hok.2 j hj; omega⟩
 obtain ⟨hnd, hlt⟩ := okJs_out hok
 have hpass := hI.pass hokl hv
 have hlen : (selH js s.heap).length = js.length := by simp [selH]
 have hcall := hF f fn _ _ out hfn hbody hout _ _ _ _ _ _ (by rw [hlen]; exact hpass)
 refine hcall.mono fun e w' ⟨ys, Gc, he, hIc, hupc⟩ => ?_
 refine ⟨_, he, ?_⟩
 obtain ⟨olds, os, rest, ho, h, hol, hback⟩ := backO_sound h
 obtain ⟨vs', ns, h, hns, hvs⟩ := valsT_sound h
 replace h := cond_left h; obtain ⟨hrm, h⟩ := h
 simp only [Nat.ble_eq] at hrm
 have hp := resL_sel js s.heap G hnd (fun j hj => ⟨by have := hlt j hj; omega, by have := hlt j hj; rw [← hI.len]; omega⟩)
 have heq : resL (selH js s.heap) (selG js G) = resL (sel0 js s.heap) (selG js G) := by rw [selH_eq, resL_ren]
 have hfr := frame hI.st hI.mz hp hIc.st
 obtain ⟨hx0, hRO⟩ : All2 (RV Gc (zone w (fun k => zn w0 Z0 s G k ∨ footL (resL (sel0 js s.heap) (selG js G)) k) (resL out.2 Gc)) w') (out.1.map .v) ys ∧ All2 (RO Gc (zone w (fun k => zn w0 Z0 s G k ∨ footL (resL (sel0 js s.heap) (selG js G)) k) (resL out.2 Gc)) w') out.2 Gc := hIc.st.per
 generalize zone w (fun k => zn w0 Z0 s G k ∨ footL (resL (sel0 js s.heap) (selG js G)) k) (resL out.2 Gc) = Zc at hx0 hRO
 rw [ho] at hRO
 obtain ⟨g1, g2, rfl, hr1, hr2⟩ := hRO.append_inv
 have hjo : js.length = olds.length := by rw [hol, hlen]
 have hjos : js.length = os.length := by rw [hjo, hback.1]
 have hg1 : olds.length = g1.length := hr1.1
 let ps := js ++ List.range' b ns.length
 let gs := List.zipWith keepG os g1 ++ g2
 have hzl : (List.zipWith keepG os g1).length = js.length := by rw [List.length_zipWith, ← hjos, ← hg1, ← hjo]; simp
 have hpsn : ps.Nodup := list_nodup hnd hlt
 have hpsl : ∀ j ∈ ps, j < s.heap.length ∧ j < G.length := by
  intro j hj
  rw [← hI.len]
  rcases List.mem_append.1 hj with hj | hj
  ·have := hlt j hj; omega
  ·rw [List.mem_range'_1] at hj; omega
 have hnl : ns.length = g2.length := by rw [hns]; exact hr2.1
 have hH : putO b ns (backH js os s.heap) = backH ps (os ++ ns) s.heap := by
  rw [backH_append js _ os ns s.heap hjos]; rfl
 have hgat : ∀ (i : Nat) g, g2[i]? = some g → (g1 ++ g2)[js.length + i]? = some g ∧ (backG ps gs G)[b + i]? = some g := by
  intro i g hi
  have hil := lt_of_some hi
  refine ⟨by rw [List.getElem?_append_right (by omega), show js.length + i - g1.length = i by omega]; exact hi, ?_⟩
  refine backG_at ps gs G (js.length + i) (b + i) g hpsn ?_ ?_ ?_
  ·show (js ++ List.range' b ns.length)[js.length + i]? = _
   rw [List.getElem?_append_right (by omega)]
   simp [hnl, hil]
  ·show (List.zipWith keepG os g1 ++ g2)[js.length + i]? = _
   rw [List.getElem?_append_right (by omega), hzl]; simpa using hi
  ·rw [← hI.len]; omega
 -- what is spoken of goes on
 have hup : Up G (backG ps gs G) := by
  intro q
  by_cases hq : q ∈ js
  ·obtain ⟨i, hi⟩ := List.getElem?_of_mem hq
   have hil := lt_of_some hi
   have hz : ∃ g, (List.zipWith keepG os g1)[i]? = some g := ⟨_, List.getElem?_eq_getElem (by rw [hzl]; exact hil)⟩
   obtain ⟨g, hz⟩ := hz
   have hat : (backG ps gs G)[q]? = some g := by
    refine backG_at ps gs G i q g hpsn ?_ ?_ (hpsl q (List.mem_append.2 (.inl hq))).2
    ·show (js ++ _)[i]? = _; rw [List.getElem?_append_left hil]; exact hi
    ·show (_ ++ g2)[i]? = _; rw [List.getElem?_append_left (by rw [hzl]; exact hil)]; exact hz
   rw [List.getElem?_zipWith] at hz
   have ho1 : os[i]? = some (os[i]'(by omega)) := List.getElem?_eq_getElem _
   have hg1' : g1[i]? = some (g1[i]'(by omega)) := List.getElem?_eq_getElem _
   generalize os[i]'(by omega) = o1 at ho1
   generalize g1[i]'(by omega) = gg1 at hg1'
   rw [ho1, hg1'] at hz
   simp only [Option.some.injEq] at hz
   have hgc : (g1 ++ g2)[i]? = some gg1 := by rw [List.getElem?_append_left (by omega)]; exact hg1'
   have hu := hupc i
   rw [hgc] at hu
   rw [hat]
   cases o1 with
   | cells y =>
    simp only [keepG] at hz
    subst hz
    obtain ⟨oo, hoo, hbk⟩ := hback.get' ho1
    have hro := hr1.2 i oo gg1 hoo hg1'
    rcases hbk with hbk | ⟨l, y', rfl, _, _⟩
    ·cases hbk
    ·cases gg1 with
     | cells bb T vs0 =>
      refine ⟨fun hg => ?_, fun b0 T0 vs1 hg => ?_, fun ver val sz xs0 hg => ?_⟩
      ·have := hu.1 (selG_get hi hg); cases this
      ·rcases hu.2.1 _ _ _ (selG_get hi hg) with h1 | ⟨T', vs', h1⟩
       ·cases h1
       ·right; injection h1 with h1; injection h1 with h1 h2 h3; subst h1; exact ⟨T, vs0, rfl⟩
      ·rcases hu.2.2 _ _ _ _ (selG_get hi hg) with h1 | ⟨_, _, _, h1⟩ <;> cases h1
     | _ => exact hro.elim
   | _ =>
    simp only [keepG] at hz
    subst hz
    exact ⟨fun _ => rfl, fun _ _ _ _ => .inl rfl, fun _ _ _ _ _ => .inl rfl⟩
  ·by_cases hq2 : q ∈ List.range' b ns.length
   ·rw [List.mem_range'_1] at hq2
    have hf := hI.fresh q hq2.1 (by rw [← hI.len]; omega)
    rw [hf]
    exact ⟨nofun, nofun, nofun⟩
   ·have hqp : q ∉ ps := fun hm => (List.mem_append.1 hm).elim hq hq2
    rw [backG_other ps gs G q hqp]
    exact Up.refl G q
 -- the resources
 have hA : (resL os (List.zipWith keepG os g1) ++ resL ns g2).Sublist (resL out.2 (g1 ++ g2)) := by
  rw [ho, resL_append' hg1]
  have h1 := (back_keep hback hr1 (backG ps gs G)).2
  have h2 : resL ns g2 = resL rest g2 := by
   have hx' : All2 (RV1 (g1 ++ g2) Zc w') out.1 ys := ⟨by have := hx0.1; simpa using this, fun i a c ha hc => hx0.2 i (.v a) c (by simp [ha]) hc⟩
   exact (hvs (Gc := g1 ++ g2) (G'' := backG ps gs G) hx' hr2 hgat).2.2
  rw [h2]
  exact h1.append_right _
 have hperm := resL_back (js := ps) (os := os ++ ns) (h := s.heap) (gs := gs) (G := G) hpsn hpsl (by simp [ps, hjos]) (by simp [gs, hjos, hzl, hnl])
 have hB : (resL (kill js s.heap) (killG js G)).Perm (resL (sel0 (List.range' b ns.length) (kill js s.heap)) (selG (List.range' b ns.length) (killG js G)) ++ resL (kill ps s.heap) (killG ps G)) := by
  have := resL_sel (List.range' b ns.length) (kill js s.heap) (killG js G) List.nodup_range' (fun j hj => by rw [kill_length, killG_length]; exact hpsl j (List.mem_append.2 (.inr hj)))
  rw [show ps = js ++ List.range' b ns.length from rfl, kill_append, killG_append]; exact this
 have hgsl : resL (os ++ ns) gs = resL os (List.zipWith keepG os g1) ++ resL ns g2 := resL_append' (by rw [hzl, hjos])
 rw [hgsl] at hperm
 have hS1 := hfr.1.perm (hB.append_left (resL out.2 (g1 ++ g2)))
 have hsub : (resL os (List.zipWith keepG os g1) ++ resL ns g2 ++ resL (kill ps s.heap) (killG ps G)).Sublist (resL out.2 (g1 ++ g2) ++ (resL (sel0 (List.range' b ns.length) (kill js s.heap)) (selG (List.range' b ns.length) (killG js G)) ++ resL (kill ps s.heap) (killG ps G))) :=
  hA.append (List.sublist_append_right _ _)
 have hS := (hS1.sub hsub).perm hperm.symm
 -- what is known
 refine ⟨tupV vs', backH ps (os ++ ns) s.heap, backG ps gs G, by rw [← hH]; exact h, ?_, ?_, by rw [backH_length], hup⟩
 ·refine ⟨hS.weak (relF_stable _ _ _) fun hh => ?_, fun j hj hjl => ?_, hI.mz⟩
  ·obtain ⟨hc, hs⟩ := hh
   refine ⟨hs.1.mono fun _ _ _ q => q.up hup, ?_⟩
   have hc2 := hc.2
   rw [ho] at hc2
   have h1 : All2 (RO (g1 ++ g2) (zone w0 Z0 (resL (backH ps (os ++ ns) s.heap) (backG ps gs G))) w') olds g1 := by
    have := hc2.take olds.length
    rw [List.take_left, hg1, List.take_left] at this; exact this
   have h2 : All2 (RO (g1 ++ g2) (zone w0 Z0 (resL (backH ps (os ++ ns) s.heap) (backG ps gs G))) w') rest g2 := by
    have := hc2.drop olds.length
    rw [List.drop_left, hg1, List.drop_left] at this; exact this
   have hx' : All2 (RV1 (g1 ++ g2) (zone w0 Z0 (resL (backH ps (os ++ ns) s.heap) (backG ps gs G))) w') out.1 ys := ⟨by have := hc.1.1; simpa using this, fun i a c ha hc' => hc.1.2 i (.v a) c (by simp [ha]) hc'⟩
   refine back_all (hs.2.mono fun _ _ _ q => q.up hup) (All2.append (back_keep hback h1 _).1 (hvs hx' h2 hgat).2.1)
  ·rw [backG_length] at hjl
   rw [backG_other ps gs G j ?_]
   ·exact hI.fresh j (by omega) hjl
   ·intro hm
    rcases List.mem_append.1 hm with hm | hm
    ·have := hlt j hm; omega
    ·rw [List.mem_range'_1] at hm; omega
 ·obtain ⟨hc, hs⟩ := hS.per
  have hc2 := hc.2
  rw [ho] at hc2
  have h2 : All2 (RO (g1 ++ g2) (zone w0 Z0 (resL (backH ps (os ++ ns) s.heap) (backG ps gs G))) w') rest g2 := by
   have := hc2.drop olds.length
   rw [List.drop_left, hg1, List.drop_left] at this; exact this
  have hx' : All2 (RV1 (g1 ++ g2) (zone w0 Z0 (resL (backH ps (os ++ ns) s.heap) (backG ps gs G))) w') out.1 ys := ⟨by have := hc.1.1; simpa using this, fun i a c ha hc' => hc.1.2 i (.v a) c (by simp [ha]) hc'⟩
  have hfin := (hvs hx' h2 hgat).1
  match vs', hfin with
  | [], hfin => obtain rfl := hfin.nil_inv; exact ⟨[], rfl, All2.nil⟩
  | [x], hfin =>
   obtain ⟨y, ys', rfl, h1, h2⟩ := hfin.cons_inv
   obtain rfl := h2.nil_inv
   exact h1
  | x :: x' :: vs'', hfin =>
   have hl := hfin.1
   refine ⟨ys, ?_, hfin⟩
   rw [dif_neg]
   simp only [List.size_toArray, ← hl, List.length_cons]
   omega
end
end Go.Ab
namespace Go.Ab
open Go Go.Dk
section
variable {P : Program} {w0 w w' : World} {M Z0 : Zone} {b : Nat} {G : List GO} {s : AS} {tv : List Value} {r : List V1 × List AObj}
def StepTo (w0 : World) (M Z0 : Zone) (b' : Nat) (G : List GO) (s : AS) (tv : List Value) (d : Option Tmp) (k : AV → List AObj → OR) (r : List V1 × List AObj) (a' : Act) (w' : World) : Prop :=
 ∃ v h' G' tv', k v h' = some r ∧ a' = ⟨tv'.toArray, []⟩ ∧ InvG w0 M Z0 b' G' (AS.put ⟨s.tmps, h'⟩ d v) tv' w' ∧ h'.length = s.heap.length ∧ Up G G' ∧ ∃ X, tv' = (match d with | some d => tv.set d X | none => tv)
theorem put_act (tv : List Value) (d : Option Tmp) (X : Value) : (Act.mk tv.toArray []).put d X = ⟨(match d with | some d => tv.set d X | none => tv).toArray, []⟩ := by
 cases d with
 | none => rfl
 | some d => simp [Act.put]
theorem getD_rel {α β : Type} {R : α → β → Prop} {l : List α} {m : List β} {da : α} {db : β} (h : All2 R l m) (hd : ∀ y, R da y) (i : Nat) : R (l.getD i da) (m.getD i db) := by
 cases hi : l[i]? with
 | none => simp only [List.getD, hi, Option.getD_none]; exact hd _
 | some a => obtain ⟨y, hy, hr⟩ := h.get hi; simp only [List.getD, hi, hy, Option.getD_some]; exact hr
theorem InvG.ev (hI : InvG w0 M Z0 b G s tv w) (x : Operand) : RV G (zn w0 Z0 s G) w (s.ev x) (Act.eval ⟨tv.toArray, []⟩ x) := by
 cases x with
 | tmp t => rw [evalT]; exact getD_rel hI.st.per.1 any_rel t
 | const v => exact ofValue_rel v
 | global g => exact any_rel _
 | func f => exact ⟨⟨[], rfl, All2.nil⟩, fun _ => rfl⟩
theorem value_to {o : Oper} {k : AV → List AObj → OR} {b' : Nat} {G' : List GO} {h' : List AObj} {v : AV} {X : Value} {Q : Exit → Act → World → Prop} (hr : (execOp (Act.eval ⟨tv.toArray, []⟩) o).run P w = .ok (.value X) w') (hk : k v h' = some r)
   (hI : InvG w0 M Z0 b' G' ⟨s.tmps, h'⟩ tv w') (hv : RV G' (zn w0 Z0 ⟨s.tmps, h'⟩ G') w' v X) (hl : h'.length = s.heap.length) (hu : Up G G') : o.wp P ⟨tv.toArray, []⟩ w (StepTo w0 M Z0 b' G s tv o.dst k r) Q := by
 simp only [Oper.wp, hr, Oper.upon]
 exact ⟨v, h', G', _, hk, put_act _ _ _, hI.put o.dst hv, hl, hu, X, by cases o.dst <;> rfl⟩
theorem value_same {o : Oper} {k : AV → List AObj → OR} {b' : Nat} {v : AV} {X : Value} {Q : Exit → Act → World → Prop} (hI : InvG w0 M Z0 b G s tv w) (hb : b ≤ b') (hr : (execOp (Act.eval ⟨tv.toArray, []⟩) o).run P w = .ok (.value X) w) (hk : k v s.heap = some r)
   (hv : RV G (zn w0 Z0 s G) w v X) : o.wp P ⟨tv.toArray, []⟩ w (StepTo w0 M Z0 b' G s tv o.dst k r) Q :=
 value_to hr hk (hI.raise hb) hv rfl (Up.refl G)
theorem call_to {o : Oper} {k : AV → List AObj → OR} {b' : Nat} {f : FuncId} {args : Array Value} {Q : Exit → Act → World → Prop} (hr : (execOp (Act.eval ⟨tv.toArray, []⟩) o).run P w = .ok (.enter f args) w)
   (hc : Calls P f args w fun e w' => ∃ X, e = .returned X ∧ ∃ v h' G', k v h' = some r ∧ InvG w0 M Z0 b' G' ⟨s.tmps, h'⟩ tv w' ∧ RV G' (zn w0 Z0 ⟨s.tmps, h'⟩ G') w' v X ∧ h'.length = s.heap.length ∧ Up G G') :
   o.wp P ⟨tv.toArray, []⟩ w (StepTo w0 M Z0 b' G s tv o.dst k r) Q := by
 simp only [Oper.wp, hr, Oper.upon]
 refine hc.mono fun e w' ⟨X, he, v, h', G', hk, hI, hv, hl, hu⟩ => ?_
 subst he
 exact ⟨v, h', G', _, hk, put_act _ _ _, hI.put o.dst hv, hl, hu, X, by cases o.dst <;> rfl⟩
theorem v1L_sound {Z : Zone} : ∀ {vs : List AV} {Xs : List Value} {l : List V1}, v1L vs = some l → All2 (RV G Z w) vs Xs → All2 (RV1 G Z w) l Xs
 | [], Xs, l, h, ha => by
  obtain rfl := ha.nil_inv
  simp only [v1L, Option.some.injEq] at h; subst h; exact All2.nil
 | .v x :: vs, Xs, l, h, ha => by
  obtain ⟨X, Xs', rfl, h1, h2⟩ := ha.cons_inv
  simp only [v1L, Option.map_eq_some_iff] at h
  obtain ⟨l', hl, rfl⟩ := h
  exact All2.cons h1 (v1L_sound hl h2)
 | .tup _ :: vs, Xs, l, h, ha => by simp [v1L] at h
theorem InvG.evL (hI : InvG w0 M Z0 b G s tv w) (l : List Operand) : All2 (RV G (zn w0 Z0 s G) w) (l.map s.ev) (l.map (Act.eval ⟨tv.toArray, []⟩)) :=
 ⟨by simp, fun i x y hx hy => by
  rw [List.getElem?_map] at hx hy
  obtain ⟨q, hq, rfl⟩ := Option.map_eq_some_iff.1 hx
  rw [hq] at hy
  obtain rfl := Option.some.inj hy
  exact hI.ev q⟩
theorem callB_fn {f : FuncId} (h : callB P f = true) : ∃ fn, P.funcs[f]? = some fn ∧ fn.body.isSome = true := by
 unfold callB at h
 split at h
 ·rename_i fn hf
  simp only [Bool.and_eq_true] at h
  exact ⟨fn, hf, h.2⟩
 ·cases h
theorem callK_sound {F : Callee} {D : Dec} (hF : CallsOK P F) (hI : InvG w0 M Z0 b G s tv w) {f : FuncId} {rm : Nat} {k : AV → List AObj → OR} {vs : List V1} {xs : List Value}
   (hv : All2 (RV1 G (zn w0 Z0 s G) w) vs xs) (hb : b + rm ≤ s.heap.length) (h : callK P F D f vs s.heap b rm k = some r) :
   callB P f = true ∧ Calls P f xs.toArray w fun e w' => ∃ X, e = .returned X ∧ ∃ v h' G', k v h' = some r ∧ InvG w0 M Z0 (b + rm) G' ⟨s.tmps, h'⟩ tv w' ∧ RV G' (zn w0 Z0 ⟨s.tmps, h'⟩ G') w' v X ∧ h'.length = s.heap.length ∧ Up G G' := by
 unfold callK at h
 split at h
 ·cases h
 ·rename_i fn hfn
  replace h := cond_left h; obtain ⟨hcb, h⟩ := h
  refine ⟨hcb, ?_⟩
  obtain ⟨fn', hfn', hbody⟩ := callB_fn hcb
  rw [hfn] at hfn'
  obtain rfl := Option.some.inj hfn'
  rcases cond_some h with ⟨_, h⟩ | ⟨_, h⟩
  ·exact callGo_sound hF hfn hbody hI hv hb h
  ·obtain ⟨vs', h1, h2, hs, hv'⟩ := sealVs_sound hI hv h
   have hl : h1.length = s.heap.length := by have := hs.inv.len; have := hI.len; simp at *; omega
   have := callGo_sound hF hfn hbody hs.inv hv' (by rw [show (AS.mk s.tmps h1).heap.length = h1.length from rfl, hl]; exact hb) h2
   refine this.mono fun e w' ⟨X, he, v, h', G', q1, q2, q3, q4, q5⟩ => ⟨X, he, v, h', G', q1, q2, q3, by rw [q4]; exact hl, q5⟩
theorem two_of {args : Array Operand} {X Y : AV} (h : args.toList.map s.ev = [X, Y]) : ∃ x y, args = #[x, y] ∧ s.ev x = X ∧ s.ev y = Y := by
 obtain ⟨l⟩ := args
 match l, h with
 | [x, y], h => exact ⟨x, y, rfl, by simpa using h⟩
theorem builtin_sound {D : Dec} (hI : InvG w0 M Z0 b G s tv w) {bi : Builtin} {args : Array Operand} {tys : Array TypeId} {dst : Option Tmp} {ty : TypeId} {pos : String} {aft : Array Edge} {gd : Option (Nat × Bool)} {k : AV → List AObj → OR} {Q : Exit → Act → World → Prop}
   (hb : b + nObj P D ⟨dst, .call ⟨.builtin bi, args, tys⟩, ty, pos, aft, gd⟩ ≤ s.heap.length) (h : evBuiltin P bi (args.toList.map s.ev) tys.toList s.heap b k = some r) :
   (Oper.mk dst (.call ⟨.builtin bi, args, tys⟩) ty pos aft gd).wp P ⟨tv.toArray, []⟩ w (StepTo w0 M Z0 (b + nObj P D ⟨dst, .call ⟨.builtin bi, args, tys⟩, ty, pos, aft, gd⟩) G s tv dst k r) Q := by
 have hE := hI.ev
 have hle := Nat.le_add_right b (nObj P D ⟨dst, .call ⟨.builtin bi, args, tys⟩, ty, pos, aft, gd⟩)
 have one : ∀ {X : AV}, args.toList.map s.ev = [X] → ∃ x, args = #[x] ∧ s.ev x = X := by
  intro X h
  obtain ⟨l⟩ := args
  match l, h with
  | [x], h => exact ⟨x, rfl, by simpa using h⟩
 have two : ∀ {X Y : AV}, args.toList.map s.ev = [X, Y] → ∃ x y, args = #[x, y] ∧ s.ev x = X ∧ s.ev y = Y := by
  intro X Y h
  obtain ⟨l⟩ := args
  match l, h with
  | [x, y], h => exact ⟨x, y, rfl, by simpa using h⟩
 unfold evBuiltin at h
 split at h
 ·rename_i X t ha ht
  obtain ⟨x, rfl, rfl⟩ := one ha
  have ht : tys = #[t] := by rw [← Array.toList_inj, ht]
  subst ht
  obtain ⟨v, Y, hk, hr, hv⟩ := evLen_sound (d := dst) (ty := ty) (pos := pos) (aft := aft) (gd := gd) hI (hE x) h
  exact value_same hI hle hr hk hv.rv
 ·rename_i X Y t t' ha ht
  obtain ⟨x, y, rfl, rfl, rfl⟩ := two ha
  replace h := cond_left h; obtain ⟨htt, h⟩ := h
  simp only [Nat.beq_eq] at htt
  subst htt
  have ht : tys = #[t, t] := by rw [← Array.toList_inj, ht]
  subst ht
  have hb' : b < G.length := by rw [← hI.len]; simp only [nObj] at hb; omega
  obtain ⟨v, h', G', w', X, hk, hr, h1, h2, h3, h4⟩ := evAppend_sound (d := dst) (ty := ty) (pos := pos) (aft := aft) (gd := gd) hI hb' (hE x) (hE y) h
  exact value_to hr hk h1 h2.rv h3 h4
 ·rename_i X Y ha
  obtain ⟨x, y, rfl, rfl, rfl⟩ := two ha
  obtain ⟨v, X, hk, hr, hv⟩ := evMax_sound (mx := true) (tys := tys) (d := dst) (ty := ty) (pos := pos) (aft := aft) (gd := gd) (P := P) (w := w) (hE x) (hE y) h
  exact value_same hI hle hr hk hv.rv
 ·rename_i X Y ha
  obtain ⟨x, y, rfl, rfl, rfl⟩ := two ha
  obtain ⟨v, X, hk, hr, hv⟩ := evMax_sound (mx := false) (tys := tys) (d := dst) (ty := ty) (pos := pos) (aft := aft) (gd := gd) (P := P) (w := w) (hE x) (hE y) h
  exact value_same hI hle hr hk hv.rv
 ·cases h
theorem closure_sound {F : Callee} {D : Dec} (hF : CallsOK P F) (hI : InvG w0 M Z0 b G s tv w) {x : Operand} {args : Array Operand} {tys : Array TypeId} {dst : Option Tmp} {ty : TypeId} {pos : String} {aft : Array Edge} {gd : Option (Nat × Bool)} {k : AV → List AObj → OR} {Q : Exit → Act → World → Prop} {rm : Nat}
   (hb : b + rm ≤ s.heap.length) (h : (match s.ev x with
    | .v (.one (.fn f l)) => (v1L (args.toList.map s.ev)).bind fun vs => callK P F D f (vs ++ l.map fun j => .one (.ptr j 0)) s.heap b rm k
    | _ => none) = some r) :
   (Oper.mk dst (.call ⟨.value x, args, tys⟩) ty pos aft gd).wp P ⟨tv.toArray, []⟩ w (StepTo w0 M Z0 (b + rm) G s tv dst k r) Q := by
 split at h
 ·rename_i f l hx
  have hX := hI.ev x
  rw [hx] at hX
  obtain ⟨⟨bs, hX, hh⟩, _⟩ := hX
  replace h := bind_some h; obtain ⟨vs, hvs, h⟩ := h
  have hcaps : All2 (RV1 G (zn w0 Z0 s G) w) (l.map fun j => V1.one (.ptr j 0)) (bs.map fun b => pv b 0) := by
   refine ⟨by simp [hh.1], fun i a c ha hc => ?_⟩
   rw [List.getElem?_map] at ha hc
   obtain ⟨j, hj, rfl⟩ := Option.map_eq_some_iff.1 ha
   obtain ⟨bb, hbb, rfl⟩ := Option.map_eq_some_iff.1 hc
   refine ⟨?_, fun _ => rfl⟩
   rcases hh.2 i j bb hj hbb with h1 | ⟨T, vs, h1⟩
   ·exact .inl h1
   ·exact .inr ⟨bb, T, vs, h1, rfl⟩
  obtain ⟨hcb, hc⟩ := callK_sound hF hI (All2.append (v1L_sound hvs (hI.evL args.toList)) hcaps) hb h
  refine call_to (f := f) (args := (args.toList.map (Act.eval ⟨tv.toArray, []⟩) ++ bs.map fun b => pv b 0).toArray) ?_ hc
  have := run_call_op (P := P) (ρ := Act.eval ⟨tv.toArray, []⟩) (f := f) (x := x) (first := #[]) (cap := (bs.map fun b => pv b 0).toArray) (xs := args) (ats := tys) (d := dst) (ty := ty) (pos := pos) (aft := aft) (gd := gd) hX hcb w
  rw [this]
  congr 2
  exact Array.toList_inj.1 (by simp)
 ·cases h
theorem evOp_sound {F : Callee} {D : Dec} (hF : CallsOK P F) (hib : ∀ f, D.ib f = true → extIB P f) (hI : InvG w0 M Z0 b G s tv w) {o : Oper} {k : AV → List AObj → OR} {Q : Exit → Act → World → Prop}
   (hb : b + nObj P D o ≤ s.heap.length) (h : evOp P F D o s.ev s.heap b k = some r) : o.wp P ⟨tv.toArray, []⟩ w (StepTo w0 M Z0 (b + nObj P D o) G s tv o.dst k r) Q := by
 have hE := hI.ev
 obtain ⟨dst, op, ty, pos, aft, gd⟩ := o
 have hle := Nat.le_add_right b (nObj P D ⟨dst, op, ty, pos, aft, gd⟩)
 cases op <;> simp only [evOp] at h
 case move x => exact value_same hI hle ((Y_move (S := fun _ => True) rfl).out w trivial) h (retype_rel _ (hE x))
 case assign x => exact value_same hI hle ((Y_assign (S := fun _ => True) rfl).out w trivial) h (retype_rel _ (hE x))
 case pick c x y =>
  split at h
  ·rename_i t hc
   have hcv := hE c
   rw [hc] at hcv
   rcases cond_some h with ⟨rfl, h⟩ | ⟨rfl, h⟩
   ·exact value_same hI hle ((Y_pickT (S := fun _ => True) (bool_inv hcv) rfl).out w trivial) h (hE x)
   ·exact value_same hI hle ((Y_pickF (S := fun _ => True) (bool_inv hcv) rfl).out w trivial) h (hE y)
  ·cases h
 case alloc e =>
  replace h := bind_some h; obtain ⟨z, hz, h⟩ := h
  obtain ⟨cs, hzb, hzr⟩ := zeroS_out hz
  have hb' : b < G.length := by rw [← hI.len]; simp only [nObj] at hb; omega
  obtain ⟨h1, h2, h3⟩ := newCells hI hb' (hzr G _ w) e
  exact value_to (run_alloc hzb) h h1 h2 (by simp) h3
 case box e x =>
  replace h := bind_some h; obtain ⟨c, hc, h⟩ := h
  obtain ⟨xs, hX, hr⟩ := cs_sound hc (hE x)
  have hb' : b < G.length := by rw [← hI.len]; simp only [nObj] at hb; omega
  obtain ⟨h1, h2, h3⟩ := newCells hI hb' hr e
  exact value_to (run_box hX) h h1 h2 (by simp) h3
 case build t ps =>
  obtain ⟨v, X, hk, hr, hv⟩ := evBuild_sound (ρ := Act.eval ⟨tv.toArray, []⟩) (d := dst) (ty := ty) (pos := pos) (aft := aft) (gd := gd) hE h
  exact value_same hI hle hr hk hv
 case buildSlice t n ps =>
  have hb' : b < G.length := by rw [← hI.len]; simp only [nObj] at hb; omega
  obtain ⟨v, h', G', w', X, hk, hr, h1, h2, h3, h4⟩ := evBuildSlice_sound (ρ := Act.eval ⟨tv.toArray, []⟩) (d := dst) (ty := ty) (pos := pos) (aft := aft) (gd := gd) hI hb' hE h
  exact value_to hr hk h1 h2 h3 h4
 case load t x =>
  obtain ⟨v, X, hk, hr, hv⟩ := evLoad_sound (d := dst) (ty := ty) (pos := pos) (aft := aft) (gd := gd) hI (hE x) h
  exact value_same hI hle hr hk hv
 case store t x y =>
  obtain ⟨h', G', w', hk, hr, h1, h2, h3⟩ := evStore_sound (d := dst) (ty := ty) (pos := pos) (aft := aft) (gd := gd) hI (hE x) (hE y) h
  simp only [Oper.wp, hr, Oper.upon]
  exact ⟨anyV, h', G', _, hk, put_act _ _ _, (h1.raise hle).put dst (any_rel _), h2, h3, undef, by cases dst <;> rfl⟩
 case nilCheck x =>
  obtain ⟨v, X, hk, hr, hv⟩ := evNil_sound (d := dst) (ty := ty) (pos := pos) (aft := aft) (gd := gd) hI (hE x) h
  exact value_same hI hle hr hk hv.rv
 case binOp op t x y t' =>
  obtain ⟨v, X, hk, hr, hv⟩ := evBin_sound (d := dst) (ty := ty) (pos := pos) (aft := aft) (gd := gd) (t' := t') (P := P) (w := w) (hE x) (hE y) h
  exact value_same hI hle hr hk hv.rv
 case unOp op t x =>
  obtain ⟨v, X, hk, hr, hv⟩ := evUn_sound (d := dst) (ty := ty) (t := t) (pos := pos) (aft := aft) (gd := gd) (P := P) (w := w) (hE x) h
  exact value_same hI hle hr hk hv.rv
 case convert t t' x =>
  obtain ⟨v, X, hk, hr, hv⟩ := evConv_sound (d := dst) (ty := ty) (pos := pos) (aft := aft) (gd := gd) hI (hE x) h
  exact value_same hI hle hr hk hv.rv
 case makeFunc fn first caps =>
  split at h
  ·rename_i f hfirst
   replace h := bind_some h; obtain ⟨l, hl, h⟩ := h
   obtain ⟨bs, hbs, hh⟩ := capsOf_sound hI (hI.evL caps.toList) hl
   have hf : first = #[] := by cases first; simp_all
   subst hf
   have hr : (execOp (Act.eval ⟨tv.toArray, []⟩) ⟨dst, .makeFunc (.func f) #[] caps, ty, pos, aft, gd⟩).run P w = .ok (.value (.func (.func f) #[] (bs.map fun b => pv b 0).toArray)) w := by
    have := (Y_makeFunc (P := P) (S := fun _ => True) (ρ := Act.eval ⟨tv.toArray, []⟩) (d := dst) (ty := ty) (pos := pos) (aft := aft) (gd := gd) (fn := .func f) (first := []) (cap := caps.toList) (vf := []) (vc := bs.map fun b => pv b 0) rfl hbs).out w trivial
    simpa using this
   exact value_same hI hle hr h ⟨⟨bs, rfl, hh⟩, fun _ => rfl⟩
  ·cases h
 case makeSlice t x y =>
  have hb' : b < G.length := by rw [← hI.len]; simp only [nObj] at hb; omega
  obtain ⟨v, h', G', w', X, hk, hr, h1, h2, h3, h4⟩ := evMake_sound (ρ := Act.eval ⟨tv.toArray, []⟩) (d := dst) (ty := ty) (pos := pos) (aft := aft) (gd := gd) hI hb' (hE x) (hE y) h
  exact value_to hr hk h1 h2.rv h3 h4
 case slice t x lo hi mx =>
  obtain ⟨v, h', X, hk, hr, hs, hv⟩ := evSlice_sound (ρ := Act.eval ⟨tv.toArray, []⟩) (d := dst) (ty := ty) (pos := pos) (aft := aft) (gd := gd) hI hE h
  exact value_to hr hk (hs.inv.raise hle) hv.rv (by have := hs.inv.len; have := hI.len; simp at *; omega) (Up.refl G)
 case fieldAddr t x i =>
  replace h := bind_some h; obtain ⟨D, hD, h⟩ := h
  obtain ⟨v, X, hk, hr, hv⟩ := evField_sound (d := dst) (ty := ty) (pos := pos) (aft := aft) (gd := gd) hI (hE x) hD h
  exact value_same hI hle hr hk hv.rv
 case indexAddr t x y =>
  obtain ⟨v, X, hk, hr, hv⟩ := evIndexAddr_sound (d := dst) (ty := ty) (pos := pos) (aft := aft) (gd := gd) hI (hE x) (hE y) h
  exact value_same hI hle hr hk hv.rv
 case index t x y =>
  obtain ⟨v, X, hk, hr, hv⟩ := evIndex_sound (d := dst) (ty := ty) (pos := pos) (aft := aft) (gd := gd) (P := P) (w := w) (hE x) (hE y) h
  exact value_same hI hle hr hk hv.rv
 case extract x i =>
  obtain ⟨v, X, hk, hr, hv⟩ := evExtract_sound (d := dst) (ty := ty) (pos := pos) (aft := aft) (gd := gd) (P := P) (w := w) (hE x) h
  exact value_same hI hle hr hk hv
 case call c =>
  obtain ⟨callee, args, tys⟩ := c
  cases callee with
  | builtin bi =>
   exact builtin_sound hI hb h
  | invoke q m => simp at h
  | value f =>
   cases f with
   | func f =>
    simp only at h
    rcases cond_some h with ⟨hi, h⟩ | ⟨_, h⟩
    ·split at h
     ·rename_i a n hargs
      obtain ⟨hn, hk⟩ := cond_left h
      simp only [Bool.and_eq_true, decide_eq_true_eq] at hn
      obtain ⟨x, y, rfl, e1, e2⟩ := two_of hargs
      have h1 := hE x
      have h2 := hE y
      rw [e1] at h1
      rw [e2] at h2
      have hy : Act.eval ⟨tv.toArray, []⟩ y = .int .u8 ((UInt8.ofNat n.toNat).toNat : Int) := by rw [u8_back hn.1 hn.2]; exact int_inv h2
      exact value_same hI hle ((Y_indexByte (S := fun _ => True) (hib f hi) (str_inv h1) hy rfl).out w trivial) hk (int_one _ _).rv
     ·cases h
    ·replace h := bind_some h; obtain ⟨vs, hvs, h⟩ := h
     obtain ⟨hcb, hc⟩ := callK_sound hF hI (v1L_sound hvs (hI.evL args.toList)) hb h
     refine call_to (f := f) (args := (args.toList.map (Act.eval ⟨tv.toArray, []⟩)).toArray) ?_ hc
     have := run_call_op (P := P) (ρ := Act.eval ⟨tv.toArray, []⟩) (f := f) (x := .func f) (first := #[]) (cap := #[]) (xs := args) (ats := tys) (d := dst) (ty := ty) (pos := pos) (aft := aft) (gd := gd) rfl hcb w
     rw [this]
     congr 2
     exact Array.toList_inj.1 (by simp)
   | tmp t => exact closure_sound hF hI hb h
   | const v => exact closure_sound hF hI hb h
   | global g => exact closure_sound (D := D) hF hI hb h
 all_goals cases h
end
end Go.Ab
namespace Go.Ab
open Go Go.Dk
section
variable {P : Program} {w0 w w' : World} {M Z0 : Zone} {b : Nat} {G : List GO} {s : AS} {tv : List Value} {r : List V1 × List AObj}
theorem wantK_sound (hI : InvG w0 M Z0 b G s tv w) {ops : List Oper} {o : Oper} {yes no : AS → OR} (h : wantK ops s o.guard yes no = some r) :
   (Region.wanted o (yielded ops.toArray tv.toArray) = true ∧ ∃ s', yes s' = some r ∧ InvG w0 M Z0 b G s' tv w ∧ s'.heap = s.heap) ∨
   (Region.wanted o (yielded ops.toArray tv.toArray) = false ∧ ∃ s', no s' = some r ∧ InvG w0 M Z0 b G s' tv w ∧ s'.heap = s.heap) := by
 unfold wantK at h
 split at h
 ·rename_i hg
  exact .inl ⟨by simp [Region.wanted, hg], s, h, hI, rfl⟩
 ·rename_i j want hg
  split at h
  ·rename_i d hd
   split at h
   ·rename_i bb hb
    have hdl : s.tmps[d]? = some (.v (.one (.bool bb))) := by
     cases hs : s.tmps[d]? with
     | none => simp [List.getD, hs, anyV] at hb
     | some v => simp [List.getD, hs] at hb; rw [hb]
    obtain ⟨X, hX, hr⟩ := hI.st.per.1.get hdl
    have hX' := bool_inv hr
    subst hX'
    have hy : yielded ops.toArray tv.toArray j = some bb := by
     have hd' : (ops.toArray[j]?).bind (·.dst) = some d := by simpa using hd
     simp only [yielded, hd', Option.bind_some]
     have : tv.toArray[d]? = some (.bool bb) := by simpa using hX
     rw [this]
    have hput : ∀ c, c = bb → InvG w0 M Z0 b G (s.put (some d) (boolV c)) tv w := by
     rintro c rfl
     have := hI.put (some d) (v := boolV c) (X := .bool c) ⟨rfl, fun _ => rfl⟩
     simp only at this
     rw [set_same hX] at this
     exact this
    have hw : Region.wanted o (yielded ops.toArray tv.toArray) = (bb == want) := by
     simp only [Region.wanted, hg, hy]; rfl
    cases bb <;> cases want <;> simp only [cond_true, cond_false] at h
    ·exact .inl ⟨hw, _, h, hput _ rfl, rfl⟩
    ·exact .inr ⟨hw, _, h, hput _ rfl, rfl⟩
    ·exact .inr ⟨hw, _, h, hput _ rfl, rfl⟩
    ·exact .inl ⟨hw, _, h, hput _ rfl, rfl⟩
   ·rename_i hb
    have hdl : s.tmps[d]? = some (.tup []) := by
     cases hs : s.tmps[d]? with
     | none => simp [List.getD, hs, anyV] at hb
     | some v => simp [List.getD, hs] at hb; rw [hb]
    obtain ⟨X, hX, xs, hXe, hr⟩ := hI.st.per.1.get hdl
    obtain rfl := hr.nil_inv
    subst hXe
    have hy : yielded ops.toArray tv.toArray j = none := by
     have hd' : (ops.toArray[j]?).bind (·.dst) = some d := by simpa using hd
     simp only [yielded, hd', Option.bind_some]
     have : tv.toArray[d]? = some (.tuple #[]) := by simpa using hX
     rw [this]
    have hw : Region.wanted o (yielded ops.toArray tv.toArray) = false := by
     simp only [Region.wanted, hg, hy]; rfl
    exact .inr ⟨hw, s, h, hI, rfl⟩
   ·cases h
  ·cases h
theorem Y_nilEq {o : Oper} {t t' : TypeId} {x : Operand} {a : Option Addr} {n c : Nat} {ρ : Operand → Value} (ho : o.op = .binOp .eql t x (.const (.slice none 0 0)) t') (hk : (kindS P t).isSome = true) (hx : ρ x = .slice a n c) (hy : ρ (.const (.slice none 0 0)) = .slice none 0 0) :
   (execOp ρ o).run P w = .ok (.value (.bool a.isNone)) w := by
 obtain ⟨e, he⟩ : ∃ e, P.underlying t = some (.slice e) := by
  unfold kindS at hk
  split at hk
  ·exact ⟨_, ‹_›⟩
  ·cases hk
 have hq : (Op.equal t (.slice a n c) (.slice none 0 0)).run P w = .ok a.isNone w := by
  unfold Op.equal
  rw [show Op.maxDepth = 9999 + 1 from rfl, Op.equalIn]
  cases a <;> simp [Sem.run_bind, run_underlying he]
 obtain ⟨dst, op, ty, pos, aft, gd⟩ := o
 simp only at ho
 subst ho
 simp only [execOp, hx, hy, eqGuard, binOp, Sem.run_bind]
 simp [hq, Sem.run_bind]
theorem und_rel {Z : Zone} : RV G Z w undV undef := ⟨[], rfl, All2.nil⟩
theorem nilQ_out {o : Oper} {ρ : Operand → AV} {m : Nat} (h : nilQ P o ρ = some m) : ∃ t x t', o.op = .binOp .eql t x (.const (.slice none 0 0)) t' ∧ (kindS P t).isSome = true ∧ ∃ d, ρ x = .v (.one (.fr d)) ∧ m = d.len := by
 unfold nilQ at h
 split at h
 ·rename_i t x t' ho
  split at h
  ·rename_i e d hk hx
   exact ⟨t, x, t', ho, by rw [hk]; rfl, d, hx, (Option.some.inj h).symm⟩
  ·cases h
 ·cases h
theorem evOps_sound {F : Callee} {D : Dec} (hF : CallsOK P F) (hib : ∀ f, D.ib f = true → extIB P f) {ops : List Oper} {k : AS → OR} {Q : Exit → Act → World → Prop} : ∀ {l : List Oper} {b : Nat} {s : AS} {G : List GO} {tv : List Value} {w : World},
   InvG w0 M Z0 b G s tv w → b + room P D l ≤ s.heap.length → evOps P F D ops l b s k = some r →
   (∀ s' G' tv' w', k s' = some r → InvG w0 M Z0 s'.heap.length G' s' tv' w' → Up G G' → Q .normal ⟨tv'.toArray, []⟩ w') → wpList P ops.toArray Q l ⟨tv.toArray, []⟩ w
 | [], b, s, G, tv, w, hI, hb, h, hQ => hQ s G tv w h (hI.raise (by simp only [room] at hb; omega)) (Up.refl G)
 | o :: l, b, s, G, tv, w, hI, hb, h, hQ => by
  simp only [room] at hb
  unfold evOps at h
  unfold wpList
  rcases wantK_sound hI h with ⟨hw, s', h, hI', hh⟩ | ⟨hw, s', h, hI', hh⟩
  ·rw [if_pos hw]
   split at h
   ·rename_i m hm
    have hput : ∀ (d : Option Tmp) (s : AS) (v : AV), (s.put d v).heap = s.heap := fun d s v => by cases d <;> rfl
    obtain ⟨t, x, t', hop, hk, d, hx, rfl⟩ := nilQ_out hm
    have hxr := hI'.ev x
    rw [hx] at hxr
    obtain ⟨⟨a, c, xs, hX, hc1, hc2, hel, hnz⟩, _⟩ := hxr
    obtain ⟨dst, op, ty, pos, aft, gd⟩ := o
    simp only at hop
    subst hop
    have hrun := Y_nilEq (P := P) (o := ⟨dst, .binOp .eql t x (.const (.slice none 0 0)) t', ty, pos, aft, gd⟩) (w := w) (ρ := Act.eval ⟨tv.toArray, []⟩) rfl hk hX rfl
    have key : ∀ bb, a.isNone = bb → evOps P F D ops l (b + nObj P D ⟨dst, .binOp .eql t x (.const (.slice none 0 0)) t', ty, pos, aft, gd⟩) (s'.put dst (boolV bb)) k = some r →
       Oper.wp P ⟨dst, .binOp .eql t x (.const (.slice none 0 0)) t', ty, pos, aft, gd⟩ ⟨tv.toArray, []⟩ w (fun a' w' => wpList P ops.toArray Q l a' w') Q := by
     intro bb hbb h
     refine Oper.wp_mono (fun a' w' hst => ?_) (value_same (k := fun v h => evOps P F D ops l (b + nObj P D ⟨dst, .binOp .eql t x (.const (.slice none 0 0)) t', ty, pos, aft, gd⟩) (({ s' with heap := h } : AS).put dst v) k) (v := boolV bb) (Q := Q) hI' (Nat.le_add_right b (nObj P D ⟨dst, .binOp .eql t x (.const (.slice none 0 0)) t', ty, pos, aft, gd⟩)) hrun h (by rw [hbb]; exact ⟨rfl, fun _ => rfl⟩))
     obtain ⟨v, h', G', tv', hk, rfl, hI2, hl, hu, _⟩ := hst
     refine evOps_sound hF hib (k := k) hI2 ?_ hk fun s2 G2 tv2 w2 h2 hI3 hu2 => hQ s2 G2 tv2 w2 h2 hI3 (hu.trans hu2)
     rw [hput]; show _ ≤ h'.length; rw [hl, hh]; omega
    refine .inl ?_
    rcases cond_some h with ⟨hm0, h⟩ | ⟨hm0, h⟩
    ·obtain ⟨h1, h2⟩ := same_out h
     cases hb : a.isNone with
     | true => exact key true hb h1
     | false => exact key false hb h2
    ·refine key false ?_ h
     rcases hnz with hnz | ⟨ab, ao, ha, _⟩
     ·have := hel.length
      rw [hnz] at this
      simp only [List.length_nil] at this
      have hd0 : d.len ≠ 0 := fun e => by rw [e] at hm0; cases hm0
      have hkz : 0 < d.kind.size := by cases d <;> simp [SD.kind, SK.size]
      have := Nat.mul_pos (Nat.pos_of_ne_zero hd0) hkz
      omega
     ·rw [ha]; rfl
   refine .inl (Oper.wp_mono (fun a' w' hst => ?_) (evOp_sound (Q := Q) hF hib hI' (by rw [hh]; omega) h))
   obtain ⟨v, h', G', tv', hk, rfl, hI2, hl, hu, _⟩ := hst
   have hput : ∀ (d : Option Tmp) (s : AS) (v : AV), (s.put d v).heap = s.heap := fun d s v => by cases d <;> rfl
   refine evOps_sound hF hib (k := k) hI2 ?_ hk fun s2 G2 tv2 w2 h2 hI3 hu2 => hQ s2 G2 tv2 w2 h2 hI3 (hu.trans hu2)
   rw [hput]; show _ ≤ h'.length; rw [hl, hh]; omega
  ·rw [if_neg (by simp [hw])]
   rw [put_act]
   have hput : ∀ (d : Option Tmp) (s : AS) (v : AV), (s.put d v).heap = s.heap := fun d s v => by cases d <;> rfl
   exact evOps_sound hF hib (k := k) ((hI'.put o.dst und_rel).raise (Nat.le_add_right _ _)) (by rw [hput, hh]; omega) h hQ
theorem resL_grow (h : List AObj) (G : List GO) (n : Nat) (hl : h.length = G.length) : resL (h ++ List.replicate n .dead) (G ++ List.replicate n .fresh) = resL h G := by
 rw [resL_append hl, resL_dead, List.append_nil]
theorem InvG.grow (hI : InvG w0 M Z0 b G s tv w) (n : Nat) : InvG w0 M Z0 s.heap.length (G ++ List.replicate n .fresh) (grow n s) tv w := by
 have hr := resL_grow s.heap G n hI.len
 refine ⟨?_, fun j hj hl => ?_, hI.mz⟩
 ·have := hI.st
  rw [← hr] at this
  refine this.weak (relF_stable _ _ _) fun hh => ⟨hh.1.mono fun _ _ _ q => q.up (Up.append _ _), ?_⟩
  exact All2.append (hh.2.mono fun _ _ _ q => q.up (Up.append _ _)) (All2.replicate trivial n)
 ·rw [hI.len] at hj
  rw [List.length_append, List.length_replicate] at hl
  rw [List.getElem?_append_right hj, List.getElem?_replicate, if_pos (by omega)]
end
end Go.Ab
end
section
namespace Go.Ab
open Go Go.Dk
section
variable {P : Program} {w0 w w' : World} {M Z0 Z : Zone} {b : Nat} {G G0 : List GO} {s : AS} {tv : List Value} {r : List V1 × List AObj}
theorem mask_rel (live : List Nat) : ∀ (i : Nat) {l : List AV} {xs : List Value}, All2 (RV G Z w) l xs → All2 (RV G Z w) (maskT live i l) xs
 | i, [], xs, h => h
 | i, v :: l, xs, h => by
  obtain ⟨X, xs', rfl, h1, h2⟩ := h.cons_inv
  refine All2.cons ?_ (mask_rel live (i + 1) h2)
  cases hasN i live
  ·exact any_rel X
  ·exact h1
theorem mask_sound (hI : InvG w0 M Z0 b G s tv w) (live : List Nat) : InvG w0 M Z0 b G ⟨maskT live 0 s.tmps, s.heap⟩ tv w :=
 ⟨hI.st.weak (relF_stable _ _ _) fun hh => ⟨mask_rel live 0 hh.1, hh.2⟩, hI.fresh, hI.mz⟩
theorem sameL_eq : ∀ {l m : List Nat}, sameL l m = true → l = m
 | [], [], _ => rfl
 | a :: l, c :: m, h => by simp only [sameL, Bool.and_eq_true, Nat.beq_eq] at h; rw [h.1, sameL_eq h.2]
 | [], _ :: _, h => by cases h
 | _ :: _, [], h => by cases h
theorem UpW.sel {js : List Nat} {m : Nat} (h : UpW G0 G) (hm : G0.length = m) (hj : js.take m = List.range m) : UpW G0 (selG js G) := by
 have key : ∀ j g, j < m → G[j]? = some g → (selG js G)[j]? = some g := by
  intro j g hjm hg
  have : js[j]? = some j := by
   have := congrArg (fun l => l[j]?) hj
   simp only [List.getElem?_take, if_pos hjm] at this
   rw [this]; simp [hjm]
  exact selG_get this hg
 intro j
 refine ⟨fun hh => ?_, fun b T vs hh => ?_, fun ver val sz xs hh => ?_⟩
 ·exact key j _ (by rw [← hm]; exact lt_of_some hh) ((h j).1 hh)
 ·have hl : j < m := by rw [← hm]; exact lt_of_some hh
  rcases (h j).2.1 b T vs hh with h1 | ⟨T', vs', h1⟩
  ·exact .inl (key j _ hl h1)
  ·exact .inr ⟨T', vs', key j _ hl h1⟩
 ·have hl : j < m := by rw [← hm]; exact lt_of_some hh
  rcases (h j).2.2 _ _ _ _ hh with h1 | ⟨a, c, d, h1⟩
  ·exact .inl (key j _ hl h1)
  ·exact .inr ⟨a, c, d, key j _ hl h1⟩
theorem gc_sound {m : Nat} (hI : InvG w0 M Z0 s.heap.length G s tv w) (hu : UpW G0 G) (hm : G0.length = m) : ∃ G', InvG w0 M Z0 (gc m s).heap.length G' (gc m s) tv w ∧ UpW G0 G' := by
 have hg : gc m s = s ∨ ∃ js, okJs js s.heap.length = true ∧ sameL (js.take m) (List.range m) = true ∧ gc m s = ⟨s.tmps.map (renA js), selH js s.heap⟩ := by
  unfold gc
  generalize reach s.heap 64 _ _ = js
  cases hc : (okJs js s.heap.length && sameL (js.take m) (List.range m)) with
  | false => exact .inl (by simp [hc])
  | true =>
   have hc' := hc
   simp only [Bool.and_eq_true] at hc'
   exact .inr ⟨js, hc'.1, hc'.2, by simp [hc]⟩
 rcases hg with hg | ⟨js, h1, h2, hg⟩
 ·rw [hg]; exact ⟨G, hI, hu⟩
 ·rw [hg]
  exact ⟨selG js G, (hI.sel h1).raise (by simp [selH]), hu.sel hm (sameL_eq h2)⟩
def NewOk (o : AObj) (g : GO) : Prop := ∃ (e : TypeId × SK) (a : Option Addr), o = .arr e.1 e.2.nil 0 false ∧ g = .arr 0 (.slice a 0 0) e.2.size []
def At_ (b : Nat) (N G' : List GO) : Prop := ∀ (i : Nat) g, N[i]? = some g → G'[b + i]? = some g
theorem At_.left {N N' G' : List GO} (h : At_ b (N ++ N') G') : At_ b N G' := fun i g hg => h i g (by rw [List.getElem?_append_left (lt_of_some hg)]; exact hg)
theorem At_.right {N N' G' : List GO} (h : At_ b (N ++ N') G') : At_ (b + N.length) N' G' := fun i g hg => by
 have := h (N.length + i) g (by rw [List.getElem?_append_right (by omega)]; simpa using hg)
 rw [Nat.add_assoc]; exact this
theorem ownS_sound {v : SV} {X : Value} (h : OneR G Z w v X) : ∃ N, All2 NewOk (ownS b v).2 N ∧ ∀ G', At_ b N G' → Up G G' → OneR G' Z w (ownS b v).1 X := by
 unfold ownS
 split
 ·rename_i e
  obtain ⟨⟨a, rfl⟩, h2⟩ := h
  refine ⟨[.arr 0 (.slice a 0 0) e.2.size []], All2.cons ⟨e, a, rfl, rfl⟩ All2.nil, fun G' hA hu => ⟨.inr ⟨0, _, _, _, hA 0 _ rfl, Nat.le_refl _, fun _ => rfl⟩, h2⟩⟩
 ·exact ⟨[], All2.nil, fun G' _ hu => ⟨h.1.up hu, h.2⟩⟩
theorem ownL_sound : ∀ {l : List SV} {xs : List Value} {b : Nat}, All2 (OneR G Z w) l xs → ∃ N, All2 NewOk (ownL b l).2 N ∧ ∀ G', At_ b N G' → Up G G' → All2 (OneR G' Z w) (ownL b l).1 xs
 | [], xs, b, h => ⟨[], All2.nil, fun _ _ _ => by obtain rfl := h.nil_inv; exact All2.nil⟩
 | v :: l, xs, b, h => by
  obtain ⟨X, xs', rfl, h1, h2⟩ := h.cons_inv
  obtain ⟨N1, a1, c1⟩ := ownS_sound (b := b) h1
  obtain ⟨N2, a2, c2⟩ := ownL_sound (b := b + (ownS b v).2.length) h2
  refine ⟨N1 ++ N2, All2.append a1 a2, fun G' hA hu => All2.cons (c1 G' hA.left hu) (c2 G' (by rw [a1.1]; exact hA.right) hu)⟩
theorem ownA_sound {v : AV} {X : Value} {b : Nat} (h : RV G Z w v X) : ∃ N, All2 NewOk (ownA b v).2 N ∧ ∀ G', At_ b N G' → Up G G' → RV G' Z w (ownA b v).1 X := by
 cases v with
 | v x => cases x with
  | one x =>
   by_cases hx : x = .any
   ·subst hx
    exact ⟨[], All2.nil, fun G' _ _ => any_rel X⟩
   ·obtain ⟨N, a, c⟩ := ownS_sound (b := b) ⟨h.1, h.2 hx⟩
    exact ⟨N, a, fun G' hA hu => (c G' hA hu).rv⟩
  | agg l =>
   obtain ⟨xs, hX, hh⟩ := h
   obtain ⟨N, a, c⟩ := ownL_sound (b := b) hh
   exact ⟨N, a, fun G' hA hu => ⟨xs, hX, c G' hA hu⟩⟩
 | tup l => exact ⟨[], All2.nil, fun G' _ hu => RV.up hu h⟩
theorem ownTs_sound : ∀ {l : List AV} {xs : List Value} {b : Nat}, All2 (RV G Z w) l xs → ∃ N, All2 NewOk (ownTs b l).2 N ∧ ∀ G', At_ b N G' → Up G G' → All2 (RV G' Z w) (ownTs b l).1 xs
 | [], xs, b, h => ⟨[], All2.nil, fun _ _ _ => by obtain rfl := h.nil_inv; exact All2.nil⟩
 | v :: l, xs, b, h => by
  obtain ⟨X, xs', rfl, h1, h2⟩ := h.cons_inv
  obtain ⟨N1, a1, c1⟩ := ownA_sound (b := b) h1
  obtain ⟨N2, a2, c2⟩ := ownTs_sound (b := b + (ownA b v).2.length) h2
  refine ⟨N1 ++ N2, All2.append a1 a2, fun G' hA hu => All2.cons (c1 G' hA.left hu) (c2 G' (by rw [a1.1]; exact hA.right) hu)⟩
theorem ownH_sound : ∀ {h : List AObj} {gs : List GO} {b : Nat}, All2 (RO G Z w) h gs → ∃ N, All2 NewOk (ownH b h).2 N ∧ (∀ G', At_ b N G' → Up G G' → All2 (RO G' Z w) (ownH b h).1 gs) ∧ resL (ownH b h).1 gs = resL h gs
 | [], gs, b, h => ⟨[], All2.nil, fun _ _ _ => by obtain rfl := h.nil_inv; exact All2.nil, rfl⟩
 | o :: h, gs, b, hh => by
  obtain ⟨g, gs', rfl, h1, h2⟩ := hh.cons_inv
  cases o with
  | cells c =>
   cases g with
   | cells bb T vs =>
    obtain ⟨N1, a1, c1⟩ := ownL_sound (b := b) h1
    obtain ⟨N2, a2, c2, e2⟩ := ownH_sound (b := b + (ownL b c).2.length) h2
    refine ⟨N1 ++ N2, All2.append a1 a2, fun G' hA hu => All2.cons (c1 G' hA.left hu) (c2 G' (by rw [a1.1]; exact hA.right) hu), ?_⟩
    simp only [ownH, resL, resO, e2]
   | _ => exact h1.elim
  | arr e D v z =>
   obtain ⟨N2, a2, c2, e2⟩ := ownH_sound (b := b) h2
   exact ⟨N2, a2, fun G' hA hu => All2.cons (RO.up hu h1) (c2 G' hA hu), by simp only [ownH, resL, e2]⟩
  | dead =>
   obtain ⟨N2, a2, c2, e2⟩ := ownH_sound (b := b) h2
   exact ⟨N2, a2, fun G' hA hu => All2.cons (RO.up hu h1) (c2 G' hA hu), by simp only [ownH, resL, e2]⟩
theorem new_res : ∀ {o : List AObj} {N : List GO}, All2 NewOk o N → ∀ q ∈ resL o N, (∀ k, ¬ q.foot k) ∧ q.own w ∧ q.Local
 | [], N, h, q, hq => by simp [resL] at hq
 | o :: os, N, h, q, hq => by
  obtain ⟨g, N', rfl, ⟨e, a, rfl, rfl⟩, h2⟩ := h.cons_inv
  simp only [resL, List.mem_append, resO, List.mem_singleton] at hq
  rcases hq with rfl | hq
  ·rw [SK.nil_len]
   exact ⟨fun k h => h, ⟨rfl, rfl, rfl⟩, fun _ _ _ h => h⟩
  ·exact new_res h2 q hq
theorem new_RO {o : List AObj} {N : List GO} (h : All2 NewOk o N) : All2 (RO G Z w) o N :=
 h.mono fun o g _ ⟨e, a, ho, hg⟩ => by
  subst ho hg
  exact ⟨rfl, by rw [SK.nil_kind], ElemsR_nil e.2, a, 0, by rw [SK.nil_len]⟩
theorem _root_.Go.Dk.St.empties {L L' : List Res} {φ : Fact} (h : St w0 M Z0 L φ w) (h' : ∀ q ∈ L', (∀ k, ¬ q.foot k) ∧ q.own w ∧ q.Local) : St w0 M Z0 (L ++ L') φ w := by
 refine ⟨h.ext, ?_, ?_, ?_, ?_, h.stab, ?_⟩
 ·intro q hq; exact (List.mem_append.1 hq).elim (h.own q) (fun hq => (h' q hq).2.1)
 ·intro q hq; exact (List.mem_append.1 hq).elim (h.loc q) (fun hq => (h' q hq).2.2)
 ·intro q hq k hk; exact (List.mem_append.1 hq).elim (fun hq => h.key q hq k hk) (fun hq => ((h' q hq).1 k hk).elim)
 ·refine List.pairwise_append.2 ⟨h.dis, ?_, fun q hq p hp k _ hk => (h' p hp).1 k hk⟩
  exact List.Pairwise.imp_of_mem (fun ha _ _ k hk _ => (h' _ ha).1 k hk) (List.pairwise_of_forall (fun _ _ => trivial) : List.Pairwise (fun _ _ => True) L')
 ·refine h.stab _ _ w w (fun k hz _ => ⟨⟨hz.1, fun q hq hf => ?_⟩, rfl⟩) h.per
  exact (List.mem_append.1 hq).elim (fun hq => hz.2 q hq hf) (fun hq => (h' q hq).1 k hf)
theorem ownAll_sound (hI : InvG w0 M Z0 s.heap.length G s tv w) (hu : UpW G0 G) : ∃ G', InvG w0 M Z0 (ownAll s).heap.length G' (ownAll s) tv w ∧ UpW G0 G' := by
 obtain ⟨N1, a1, c1⟩ := ownTs_sound (b := s.heap.length) hI.st.per.1
 obtain ⟨N2, a2, c2, e2⟩ := ownH_sound (b := s.heap.length + (ownTs s.heap.length s.tmps).2.length) hI.st.per.2
 have hup := Up.append G (N1 ++ N2)
 refine ⟨G ++ (N1 ++ N2), ⟨?_, fun j hj hl => ?_, hI.mz⟩, hu.trans hup.weak⟩
 ·have hnew := All2.append a1 a2
  have hL : resL (ownAll s).heap (G ++ (N1 ++ N2)) = resL s.heap G ++ resL ((ownTs s.heap.length s.tmps).2 ++ (ownH (s.heap.length + (ownTs s.heap.length s.tmps).2.length) s.heap).2) (N1 ++ N2) := by
   show resL ((ownH (s.heap.length + (ownTs s.heap.length s.tmps).2.length) s.heap).1 ++ _) _ = _
   have hlen : (ownH (s.heap.length + (ownTs s.heap.length s.tmps).2.length) s.heap).1.length = G.length := by
    have := c2 (G ++ (N1 ++ N2)) (fun i g hg => by
     have hl := lt_of_some hg
     rw [a1.1, hI.len, List.getElem?_append_right (by omega), List.getElem?_append_right (by omega)]
     rw [show G.length + N1.length + i - G.length - N1.length = i by omega]; exact hg) hup
    exact this.1
   rw [resL_append hlen, e2]
  have hS := hI.st.empties (new_res (w := w) hnew)
  rw [← hL] at hS
  refine hS.weak (relF_stable _ _ _) fun hh => ?_
  obtain ⟨N1', a1', c1'⟩ := ownTs_sound (b := s.heap.length) hh.1
  have hk : ∀ k, zn w0 Z0 s G k → zone w0 Z0 (resL (ownAll s).heap (G ++ (N1 ++ N2))) k := fun k hk => ⟨hk.1, fun q hq hf => by
   rw [hL] at hq
   exact (List.mem_append.1 hq).elim (fun hq => hk.2 q hq hf) (fun hq => (new_res (w := w) hnew q hq).1 k hf)⟩
  have hA1 : At_ s.heap.length N1 (G ++ (N1 ++ N2)) := fun i g hg => by
   have hl := lt_of_some hg
   rw [hI.len, List.getElem?_append_right (by omega), show G.length + i - G.length = i by omega, List.getElem?_append_left hl]; exact hg
  have hA2 : At_ (s.heap.length + (ownTs s.heap.length s.tmps).2.length) N2 (G ++ (N1 ++ N2)) := fun i g hg => by
   rw [a1.1, hI.len, List.getElem?_append_right (by omega), List.getElem?_append_right (by omega)]
   rw [show G.length + N1.length + i - G.length - N1.length = i by omega]; exact hg
  refine ⟨(c1 _ hA1 hup).mono fun _ _ _ q => q.stable (keeps_le hk), ?_⟩
  exact All2.append ((c2 _ hA2 hup).mono fun _ _ _ q => q.stable (keeps_le hk)) (new_RO hnew)
 ·exfalso
  have h1 : (ownAll s).heap.length = s.heap.length + ((ownTs s.heap.length s.tmps).2.length + (ownH (s.heap.length + (ownTs s.heap.length s.tmps).2.length) s.heap).2.length) := by
   show ((ownH (s.heap.length + (ownTs s.heap.length s.tmps).2.length) s.heap).1 ++ _).length = _
   have := c2 (G ++ (N1 ++ N2)) (fun i g hg => by
      have hl := lt_of_some hg
      rw [a1.1, hI.len, List.getElem?_append_right (by omega), List.getElem?_append_right (by omega)]
      rw [show G.length + N1.length + i - G.length - N1.length = i by omega]; exact hg) hup
   rw [List.length_append, List.length_append, this.1, hI.len]
  have e1 := a1.1
  have e2 := a2.1
  have e3 := hI.len
  rw [h1] at hj
  rw [List.length_append, List.length_append] at hl
  omega
def v0 : GO → GO
 | .arr _ v sz xs => .arr 0 v sz xs
 | g => g
theorem ver0S_rel {h : List AObj} (hh : All2 (RO G Z w) h G) {v : SV} {X : Value} (hx : RS G Z w v X) : RS (G.map v0) Z w (ver0S h v) X := by
 cases v with
 | own j v =>
  show RS _ _ _ (match h[j]? with | some (.arr _ _ ver _) => cond (Nat.beq v ver) (.own j 0) .any | _ => .any) X
  split
  ·rename_i hj
   rename_i ver _
   cases hv : Nat.beq v ver with
   | false => trivial
   | true =>
    simp only [Nat.beq_eq] at hv
    obtain ⟨g, hg, hr⟩ := hh.get hj
    cases g with
    | arr ver' val sz xs =>
     obtain ⟨rfl, _⟩ := hr
     exact .inr ⟨0, val, sz, xs, by simp [hg, v0], Nat.le_refl _, fun _ => own_val hx hg hv⟩
    | _ => exact hr.elim
  ·trivial
 | ptr j o =>
  rcases hx with hx | ⟨bb, T, vs, hg, he⟩
  ·exact .inl (by simp [hx, v0])
  ·exact .inr ⟨bb, T, vs, by simp [hg, v0], he⟩
 | op j v i o => trivial
 | fn f l =>
  obtain ⟨bs, hX, hb⟩ := hx
  refine ⟨bs, hX, hb.mono fun j bb _ h => ?_⟩
  rcases h with h | ⟨T, vs, h⟩
  ·exact .inl (by simp [h, v0])
  ·exact .inr ⟨T, vs, by simp [h, v0]⟩
 | _ => exact hx
theorem ver0_sound (hI : InvG w0 M Z0 s.heap.length G s tv w) (hu : UpW G0 G) : ∃ G', InvG w0 M Z0 (ver0 s).heap.length G' (ver0 s) tv w ∧ UpW G0 G' := by
 have hL : ∀ (h : List AObj) (gs : List GO) (h0 : List AObj), resL (h.map (ver0O h0)) (gs.map v0) = resL h gs := by
  intro h
  induction h with
  | nil => intro gs h0; rfl
  | cons o h ih =>
   intro gs h0
   cases gs with
   | nil => rfl
   | cons g gs =>
    simp only [List.map_cons, resL, ih]
    congr 1
    cases o with
    | arr e D v z => cases g <;> cases z <;> rfl
    | _ => cases g <;> rfl
 refine ⟨G.map v0, ⟨?_, fun j hj hl => ?_, hI.mz⟩, ?_⟩
 ·have hS := hI.st
  rw [← hL s.heap G s.heap] at hS
  refine hS.weak (relF_stable _ _ _) fun hh => ⟨?_, ?_⟩
  ·refine hh.1.map_left fun v X hx => ?_
   cases v with
   | v x => cases x with
    | one x =>
     refine ⟨ver0S_rel hh.2 hx.1, fun hne => hx.2 ?_⟩
     rintro rfl; exact hne rfl
    | agg l =>
     obtain ⟨xs, hX, hc⟩ := hx
     exact ⟨xs, hX, hc.map_left fun _ _ q => ⟨ver0S_rel hh.2 q.1, q.2⟩⟩
   | tup l => exact any_rel X
  ·have hh2 := hh.2
   refine ⟨by simp [ver0, hh2.1], fun i o g ho hg => ?_⟩
   simp only [ver0, List.getElem?_map] at ho hg
   obtain ⟨o', ho', rfl⟩ := Option.map_eq_some_iff.1 ho
   obtain ⟨g', hg', rfl⟩ := Option.map_eq_some_iff.1 hg
   have hr := hh2.2 i o' g' ho' hg'
   cases o' with
   | cells l => cases g' with
    | cells bb T vs => exact All2.map_left hr fun _ _ q => ⟨ver0S_rel hh2 q.1, q.2⟩
    | _ => exact hr.elim
   | arr e D v z => cases g' with
    | arr ver val sz xs => obtain ⟨_, h2, h3⟩ := hr; exact ⟨rfl, h2, h3⟩
    | _ => exact hr.elim
   | dead => cases g' <;> first | trivial | exact hr.elim
 ·exfalso
  simp [ver0] at hj hl
  rw [hI.len] at hj; omega
 ·refine hu.trans fun j => ⟨fun hh => by simp [hh, v0], fun bb T vs hh => .inr ⟨T, vs, by simp [hh, v0]⟩, fun ver val sz xs hh => .inr ⟨0, val, xs, by simp [hh, v0]⟩⟩
theorem atHead_sound {m : Nat} {live : Option (List Nat)} (hI : InvG w0 M Z0 s.heap.length G s tv w) (hu : UpW G0 G) (hm : G0.length = m) :
   ∃ G', InvG w0 M Z0 (atHead m live s).heap.length G' (atHead m live s) tv w ∧ UpW G0 G' := by
 cases live with
 | none => exact ⟨G, hI, hu⟩
 | some live =>
  obtain ⟨G1, h1, u1⟩ := gc_sound (s := ⟨maskT live 0 s.tmps, s.heap⟩) (mask_sound hI live) hu hm
  obtain ⟨G2, h2, u2⟩ := ownAll_sound h1 u1
  obtain ⟨G3, h3, u3⟩ := gc_sound h2 u2 hm
  exact ver0_sound h3 u3
end
end Go.Ab
namespace Go.Ab
open Go Go.Dk
section
variable {P : Program} {w0 w w' : World} {M Z0 Z : Zone} {b : Nat} {G G0 : List GO} {s : AS} {tv : List Value} {r : List V1 × List AObj}
theorem resC_sound (hI : InvG w0 M Z0 b G s tv w) : ∀ {l : List ResultVar} {k : List V1 → OR}, resC P s l k = some r →
   ∃ vs xs, k vs = some r ∧ All2 (RV1 G (zn w0 Z0 s G) w) vs xs ∧ (l.mapM (resOne tv.toArray)).run P w = .ok xs w
 | [], k, h => ⟨[], [], h, All2.nil, rfl⟩
 | .tmp t :: l, k, h => by
  unfold resC at h
  split at h
  ·rename_i x hx
   obtain ⟨vs, xs, hk, hr, hrun⟩ := resC_sound hI h
   have hv := getD_rel (da := anyV) (db := undef) hI.st.per.1 any_rel t
   rw [hx] at hv
   refine ⟨_, tv.getD t undef :: xs, hk, All2.cons hv hr, ?_⟩
   have h1 : (resOne tv.toArray (.tmp t)).run P w = .ok (tv.getD t undef) w := R_tmp rfl
   simp only [List.mapM_cons, Sem.run_bind, h1, Result.andThen_ok, hrun, Sem.run_pure]
  ·cases h
 | .cell a t :: l, k, h => by
  unfold resC at h
  obtain ⟨v, X, bb, o, h, hp, hl, hv⟩ := evLoad_addr (VX := tv.getD a undef) hI (getD_rel hI.st.per.1 any_rel a) h
  split at h
  ·rename_i x
   obtain ⟨vs, xs, hk, hr, hrun⟩ := resC_sound hI h
   refine ⟨_, X :: xs, hk, All2.cons hv hr, ?_⟩
   have h1 : (resOne tv.toArray (.cell a t)).run P w = .ok X w := R_cell (ad := ⟨bb, o, none⟩) hp hl
   simp only [List.mapM_cons, Sem.run_bind, h1, Result.andThen_ok, hrun, Sem.run_pure]
  ·cases h
theorem run_results {fn : Func} {xs : List Value} (h : (fn.results.toList.mapM (resOne tv.toArray)).run P w = .ok xs w) :
   (results fn tv.toArray).run P w = .ok (if h : xs.toArray.size = 1 then xs.toArray[0] else .tuple xs.toArray) w := by
 rw [results_eq, Array.mapM_eq_mapM_toList]
 simp [Sem.run_bind, h, Sem.run_pure]
theorem clean_like (v : SV) : LikeS v (clean v) := by
 intro G G' Z w X h
 cases v <;> first | exact h | exact ⟨trivial, h.2⟩
theorem cleanL_like : ∀ l : List SV, All2 LikeS l (l.map clean)
 | [] => All2.nil
 | v :: l => All2.cons (clean_like v) (cleanL_like l)
def Alone (o : AObj) (g : GO) : Prop := ∀ (G G' : List GO) (Z : Zone) (w : World), RO G Z w o g → RO G' Z w o g
theorem alone_arr (e : TypeId) (D : SD) (v : Nat) (z : Bool) (g : GO) : Alone (.arr e D v z) g := fun _ _ _ _ h => RO_arr_any h
theorem alone_cells (l : List SV) (g : GO) : Alone (.cells (l.map clean)) g := by
 intro G G' Z w h
 cases g with
 | cells bb T vs =>
  refine All2.mono h fun v X hv hr => ?_
  obtain ⟨v', _, rfl⟩ := List.mem_map.1 hv
  have hr' : OneR G Z w (clean v') X := hr
  have : ∀ v, clean (clean v) = clean v := by intro v; cases v <;> rfl
  have h2 := clean_like (clean v') G G' Z w X hr'
  rw [this] at h2; exact h2
 | _ => exact h
structure Parked (w0 : World) (M Z0 : Zone) (m : Nat) (G : List GO) (tm : List AV) (tv : List Value) (w : World) (h acc : List AObj) (A : List GO) : Prop where
 inv : InvG w0 M Z0 (h.length + acc.length) (G ++ A) ⟨tm, h ++ acc⟩ tv w
 len : h.length = G.length
 alone : All2 Alone acc A
theorem Parked.lenA {m : Nat} {tm : List AV} {h acc : List AObj} {A : List GO} (hp : Parked w0 M Z0 m G tm tv w h acc A) : acc.length = A.length := hp.alone.1
theorem Parked.park {m : Nat} {tm : List AV} {h acc : List AObj} {A : List GO} (hp : Parked w0 M Z0 m G tm tv w h acc A) {j : Nat} {o o' : AObj} {g g' : GO} (hj : h[j]? = some o) (hg : G[j]? = some g) (hres : resO o' g' = resO o g) (ha : Alone o' g')
   (hro : ∀ Z' : Zone, (∀ k, zn w0 Z0 ⟨tm, h ++ acc⟩ (G ++ A) k → Z' k) → RO (G ++ A) Z' w o' g') :
   Parked w0 M Z0 m (G.set j .gone) tm tv w (h.set j .dead) (acc ++ [o']) (A ++ [g']) ∧ (∀ k, zn w0 Z0 ⟨tm, h ++ acc⟩ (G ++ A) k → zn w0 Z0 ⟨tm, h.set j .dead ++ (acc ++ [o'])⟩ (G.set j .gone ++ (A ++ [g'])) k) ∧ Up (G ++ A) (G.set j .gone ++ (A ++ [g'])) := by
 have hjl := lt_of_some hj
 have hgl := lt_of_some hg
 have hj' : (h ++ acc)[j]? = some o := by rw [List.getElem?_append_left hjl]; exact hj
 have hg' : (G ++ A)[j]? = some g := by rw [List.getElem?_append_left hgl]; exact hg
 have hset : (h ++ acc).set j .dead = h.set j .dead ++ acc := by rw [List.set_append_left _ _ hjl]
 have hsetG : (G ++ A).set j .gone = G.set j .gone ++ A := by rw [List.set_append_left _ _ hgl]
 have hperm : (resL (h ++ acc) (G ++ A)).Perm (resL (h.set j .dead ++ (acc ++ [o'])) (G.set j .gone ++ (A ++ [g']))) := by
  refine (resL_out (h ++ acc) (G ++ A) j hj' hg').trans ?_
  rw [hset, hsetG]
  rw [resL_append (by simp [hp.len]), resL_append (by simp [hp.len]), resL_append hp.lenA]
  have : resL [o'] [g'] = resO o g := by simp [resL, hres]
  rw [this]
  have hc := List.perm_append_comm (l₁ := resO o g) (l₂ := resL (h.set j .dead) (G.set j .gone) ++ resL acc A)
  simpa [List.append_assoc] using hc
 have hz : ∀ k, zn w0 Z0 ⟨tm, h ++ acc⟩ (G ++ A) k → zn w0 Z0 ⟨tm, h.set j .dead ++ (acc ++ [o'])⟩ (G.set j .gone ++ (A ++ [g'])) k := fun k hk => ⟨hk.1, fun q hq => hk.2 q (hperm.mem_iff.2 hq)⟩
 have hup : Up (G ++ A) (G.set j .gone ++ (A ++ [g'])) := by
  have h1 : Up (G ++ A) ((G ++ A).set j .gone) := Up.set fun g0 h0 => by cases g0 <;> trivial
  rw [hsetG] at h1
  have h2 := Up.append (G.set j .gone ++ A) [g']
  rw [List.append_assoc] at h2
  exact h1.trans h2
 refine ⟨⟨⟨?_, fun i hi hl => ?_, hp.inv.mz⟩, by simp [hp.len], All2.append hp.alone (All2.cons ha All2.nil)⟩, hz, hup⟩
 ·refine (hp.inv.st.perm hperm).weak (relF_stable _ _ _) fun hh => ⟨hh.1.mono fun _ _ _ q => q.up hup, ?_⟩
  have hh2 : All2 (RO (G.set j .gone ++ (A ++ [g'])) (zone w0 Z0 (resL (h.set j .dead ++ (acc ++ [o'])) (G.set j .gone ++ (A ++ [g'])))) w) (h ++ acc) (G ++ A) := hh.2.mono fun _ _ _ q => q.up hup
  have hs := hh2.set j (a := .dead) (b := .gone) trivial
  rw [hset, hsetG] at hs
  have hnew : RO (G.set j .gone ++ (A ++ [g'])) (zone w0 Z0 (resL (h.set j .dead ++ (acc ++ [o'])) (G.set j .gone ++ (A ++ [g'])))) w o' g' := ha _ _ _ _ (hro _ hz)
  rw [← List.append_assoc, ← List.append_assoc]
  rw [← List.append_assoc, ← List.append_assoc] at hs hnew
  exact All2.append hs (All2.cons hnew All2.nil)
 ·exfalso
  have := hp.len
  have := hp.lenA
  simp at hi hl; omega
theorem Parked.parkNew {m : Nat} {tm : List AV} {h acc : List AObj} {A : List GO} (hp : Parked w0 M Z0 m G tm tv w h acc A) {o' : AObj} {g' : GO} (hn : NewOk o' g') :
   Parked w0 M Z0 m G tm tv w h (acc ++ [o']) (A ++ [g']) ∧ (∀ k, zn w0 Z0 ⟨tm, h ++ acc⟩ (G ++ A) k → zn w0 Z0 ⟨tm, h ++ (acc ++ [o'])⟩ (G ++ (A ++ [g'])) k) ∧ Up (G ++ A) (G ++ (A ++ [g'])) := by
 have hall : All2 NewOk [o'] [g'] := All2.cons hn All2.nil
 have hnew := new_res (w := w) hall
 have hL : resL (h ++ (acc ++ [o'])) (G ++ (A ++ [g'])) = resL (h ++ acc) (G ++ A) ++ resL [o'] [g'] := by
  rw [← List.append_assoc, ← List.append_assoc, resL_append (by have := hp.len; have := hp.lenA; simp; omega)]
 have hS := hp.inv.st.empties hnew
 rw [← hL] at hS
 have hz : ∀ k, zn w0 Z0 ⟨tm, h ++ acc⟩ (G ++ A) k → zn w0 Z0 ⟨tm, h ++ (acc ++ [o'])⟩ (G ++ (A ++ [g'])) k := fun k hk => ⟨hk.1, fun q hq hf => by
  rw [hL] at hq
  exact (List.mem_append.1 hq).elim (fun hq => hk.2 q hq hf) (fun hq => (hnew q hq).1 k hf)⟩
 have hup : Up (G ++ A) (G ++ (A ++ [g'])) := by rw [← List.append_assoc]; exact Up.append _ _
 refine ⟨⟨⟨?_, fun i hi hl => ?_, hp.inv.mz⟩, hp.len, All2.append hp.alone (All2.cons ?_ All2.nil)⟩, hz, hup⟩
 ·refine hS.weak (relF_stable _ _ _) fun hh => ⟨hh.1.mono fun _ _ _ q => q.up hup, ?_⟩
  have := All2.append (All2.mono hh.2 fun _ _ _ q => RO.up hup q) (new_RO (G := G ++ (A ++ [g'])) (Z := zone w0 Z0 (resL (h ++ (acc ++ [o'])) (G ++ (A ++ [g'])))) (w := w) hall)
  rw [List.append_assoc, List.append_assoc] at this
  exact this
 ·exfalso
  have := hp.len
  have := hp.lenA
  simp at hi hl; omega
 ·obtain ⟨e, a, rfl, rfl⟩ := hn
  exact alone_arr _ _ _ _ _
structure OutTo (w0 : World) (M Z0 : Zone) (m : Nat) (G : List GO) (tm : List AV) (tv : List Value) (w : World) (h acc : List AObj) (A : List GO) (b : Nat) (h' os : List AObj) (G' N : List GO) (Rel : List GO → Prop) : Prop where
 park : Parked w0 M Z0 m G' tm tv w h' (acc ++ os) (A ++ N)
 hl : h'.length = h.length
 zl : ∀ k, zn w0 Z0 ⟨tm, h ++ acc⟩ (G ++ A) k → zn w0 Z0 ⟨tm, h' ++ (acc ++ os)⟩ (G' ++ (A ++ N)) k
 up : Up (G ++ A) (G' ++ (A ++ N))
 nl : os.length = N.length
 rel : ∀ Gf, At_ b N Gf → Rel Gf
theorem Parked.freezeAt {m : Nat} {tm : List AV} {h acc : List AObj} {A : List GO} (hp : Parked w0 M Z0 m G tm tv w h acc A) {j : Nat} {e : TypeId} {D : SD} {ver : Nat} {fz : Bool} (hj : h[j]? = some (.arr e D ver fz)) :
   Parked w0 M Z0 m G tm tv w (h.set j (.arr e D ver true)) acc A ∧ (∀ k, zn w0 Z0 ⟨tm, h ++ acc⟩ (G ++ A) k → zn w0 Z0 ⟨tm, h.set j (.arr e D ver true) ++ acc⟩ (G ++ A) k) := by
 have hjl := lt_of_some hj
 obtain ⟨h1, h2⟩ := hp.inv.freezeAt (j := j) (e := e) (D := D) (ver := ver) (fz := fz) (by show (h ++ acc)[j]? = _; rw [List.getElem?_append_left hjl]; exact hj)
 have hset : (h ++ acc).set j (.arr e D ver true) = h.set j (.arr e D ver true) ++ acc := by rw [List.set_append_left _ _ hjl]
 simp only [hset] at h1 h2
 exact ⟨⟨by simpa using h1, by simp [hp.len], hp.alone⟩, h2⟩
theorem getJ {m : Nat} {tm : List AV} {h acc : List AObj} {A : List GO} (hp : Parked w0 M Z0 m G tm tv w h acc A) {j : Nat} {o : AObj} (hj : h[j]? = some o) : ∃ g, G[j]? = some g ∧ (G ++ A)[j]? = some g ∧ RO (G ++ A) (zn w0 Z0 ⟨tm, h ++ acc⟩ (G ++ A)) w o g := by
 have hjl := lt_of_some hj
 obtain ⟨g, hg, hr⟩ := hp.inv.st.per.2.get (i := j) (a := o) (by show (h ++ acc)[j]? = _; rw [List.getElem?_append_left hjl]; exact hj)
 have hl : j < G.length := by rw [← hp.len]; exact hjl
 exact ⟨g, by rw [List.getElem?_append_left hl] at hg; exact hg, hg, hr⟩
theorem sealS_parked {m : Nat} {tm : List AV} {h acc : List AObj} {A : List GO} (hp : Parked w0 M Z0 m G tm tv w h acc A) {v : SV} {X : Value} {k : SV → List AObj → OR} (hx : OneR (G ++ A) (zn w0 Z0 ⟨tm, h ++ acc⟩ (G ++ A)) w v X) (hk : sealS h v k = some r) :
   ∃ v' h', k v' h' = some r ∧ Parked w0 M Z0 m G tm tv w h' acc A ∧ h'.length = h.length ∧ (∀ k, zn w0 Z0 ⟨tm, h ++ acc⟩ (G ++ A) k → zn w0 Z0 ⟨tm, h' ++ acc⟩ (G ++ A) k) ∧ OneR (G ++ A) (zn w0 Z0 ⟨tm, h' ++ acc⟩ (G ++ A)) w v' X ∧
    ∀ (i : Nat) c, h[i]? = some (.cells c) → h'[i]? = some (.cells c) := by
 unfold sealS at hk
 split at hk
 ·rename_i j v
  split at hk
  ·rename_i e D ver fz hj
   obtain ⟨hv, hk'⟩ := cond_left hk
   simp only [Nat.beq_eq] at hv
   obtain ⟨q1, q2⟩ := hp.freezeAt hj
   have hjl := lt_of_some hj
   refine ⟨_, _, hk', q1, by simp, q2, ⟨?_, hx.2⟩, fun i c hi => ?_⟩
   ·exact q1.inv.frozen_val (j := j) (v := v) (e := e) (D := D) (ver := ver) (X := X) (by show (h.set j _ ++ acc)[j]? = _; rw [List.getElem?_append_left (by simpa using hjl)]; simp [hjl]) hv (hx.1.stable (keeps_le q2))
   ·have : j ≠ i := by rintro rfl; rw [hj] at hi; cases hi
    rw [List.getElem?_set_ne this]; exact hi
  ·cases hk
 ·obtain ⟨⟨a, rfl⟩, h2⟩ := hx
  exact ⟨_, _, hk, hp, rfl, fun _ h => h, ⟨SlR_nil _ _, h2⟩, fun _ _ h => h⟩
 ·exact ⟨_, _, hk, hp, rfl, fun _ h => h, hx, fun _ _ h => h⟩
theorem sealL_parked {m : Nat} {tm : List AV} {acc : List AObj} {A : List GO} : ∀ {l : List SV} {h : List AObj} {xs : List Value} {k : List SV → List AObj → OR}, Parked w0 M Z0 m G tm tv w h acc A → All2 (OneR (G ++ A) (zn w0 Z0 ⟨tm, h ++ acc⟩ (G ++ A)) w) l xs → sealL h l k = some r →
   ∃ l' h', k l' h' = some r ∧ Parked w0 M Z0 m G tm tv w h' acc A ∧ h'.length = h.length ∧ (∀ k, zn w0 Z0 ⟨tm, h ++ acc⟩ (G ++ A) k → zn w0 Z0 ⟨tm, h' ++ acc⟩ (G ++ A) k) ∧ All2 (OneR (G ++ A) (zn w0 Z0 ⟨tm, h' ++ acc⟩ (G ++ A)) w) l' xs ∧
    ∀ (i : Nat) c, h[i]? = some (.cells c) → h'[i]? = some (.cells c)
 | [], h, xs, k, hp, ha, hk => by
  obtain rfl := ha.nil_inv
  exact ⟨_, _, hk, hp, rfl, fun _ h => h, All2.nil, fun _ _ h => h⟩
 | v :: l, h, xs, k, hp, ha, hk => by
  obtain ⟨X, xs', rfl, h1, h2⟩ := ha.cons_inv
  unfold sealL at hk
  obtain ⟨v', h', hk1, q1, q2, q3, q4, q5⟩ := sealS_parked hp h1 hk
  obtain ⟨l', h'', hk2, p1, p2, p3, p4, p5⟩ := sealL_parked q1 (h2.mono fun _ _ _ q => q.mono (keeps_le q3) (Up.refl _)) hk1
  exact ⟨_, _, hk2, p1, p2.trans q2, fun k hk => p3 k (q3 k hk), All2.cons (q4.mono (keeps_le p3) (Up.refl _)) p4, fun i c hi => p5 i c (q5 i c hi)⟩
theorem outC_sound {own : Bool} {m : Nat} {tm : List AV} : ∀ {l : List SV} {h acc : List AObj} {G A : List GO} {b : Nat} {xs : List Value} {k : List SV → List AObj → List AObj → OR},
   Parked w0 M Z0 m G tm tv w h acc A → All2 (OneR (G ++ A) (zn w0 Z0 ⟨tm, h ++ acc⟩ (G ++ A)) w) l xs → outC own l h b k = some r →
   ∃ cs h' os G' N, k cs h' os = some r ∧ OutTo w0 M Z0 m G tm tv w h acc A b h' os G' N (fun Gf => All2 (OneR Gf (zn w0 Z0 ⟨tm, h' ++ (acc ++ os)⟩ (G' ++ (A ++ N))) w) cs xs)
 | [], h, acc, G, A, b, xs, k, hp, ha, hk => by
  obtain rfl := ha.nil_inv
  exact ⟨[], h, [], G, [], hk, by simpa using hp, rfl, by simp, by simpa using Up.refl (G ++ A), rfl, fun _ _ => All2.nil⟩
 | v :: l, h, acc, G, A, b, xs, k, hp, ha, hk => by
  obtain ⟨X, xs', rfl, h1, h2⟩ := ha.cons_inv
  -- a cell that stays what it is, or is forgotten
  have same : ∀ v', LikeS v v' → outC own l h b (fun cs h os => k (v' :: cs) h os) = some r → ∃ cs h' os G' N, k cs h' os = some r ∧ OutTo w0 M Z0 m G tm tv w h acc A b h' os G' N (fun Gf => All2 (OneR Gf (zn w0 Z0 ⟨tm, h' ++ (acc ++ os)⟩ (G' ++ (A ++ N))) w) cs (X :: xs')) := by
   intro v' hv hk
   obtain ⟨cs, h', os, G', N, hk', ho⟩ := outC_sound hp h2 hk
   exact ⟨_, h', os, G', N, hk', ho.park, ho.hl, ho.zl, ho.up, ho.nl, fun Gf hA => All2.cons ((hv _ Gf _ _ _ h1).mono (keeps_le ho.zl) (Up.refl _)) (ho.rel Gf hA)⟩
  -- an object is parked
  have parked : ∀ {h2' : List AObj} {G2 : List GO} {o' : AObj} {g' : GO}, Parked w0 M Z0 m G2 tm tv w h2' (acc ++ [o']) (A ++ [g']) → h2'.length = h.length →
     (∀ k, zn w0 Z0 ⟨tm, h ++ acc⟩ (G ++ A) k → zn w0 Z0 ⟨tm, h2' ++ (acc ++ [o'])⟩ (G2 ++ (A ++ [g'])) k) → Up (G ++ A) (G2 ++ (A ++ [g'])) → ∀ v' : SV, (∀ Gf, Gf[b]? = some g' → OneR Gf (zn w0 Z0 ⟨tm, h ++ acc⟩ (G ++ A)) w v' X) →
     outC own l h2' (b + 1) (fun cs h os => k (v' :: cs) h (o' :: os)) = some r → ∃ cs h' os G' N, k cs h' os = some r ∧ OutTo w0 M Z0 m G tm tv w h acc A b h' os G' N (fun Gf => All2 (OneR Gf (zn w0 Z0 ⟨tm, h' ++ (acc ++ os)⟩ (G' ++ (A ++ N))) w) cs (X :: xs')) := by
   intro h2' G2 o' g' hp2 hl2 hz2 hu2 v' hv hk
   obtain ⟨cs, h', os, G', N, hk', ho⟩ := outC_sound hp2 (h2.mono fun _ _ _ q => q.mono (keeps_le hz2) hu2) hk
   have e1 : acc ++ o' :: os = acc ++ [o'] ++ os := by simp
   have e2 : A ++ g' :: N = A ++ [g'] ++ N := by simp
   refine ⟨_, h', o' :: os, G', g' :: N, hk', ?_, ho.hl.trans hl2, ?_, ?_, by simp [ho.nl], fun Gf hA => ?_⟩
   ·rw [e1, e2]; exact ho.park
   ·rw [e1, e2]; exact fun k hk => ho.zl k (hz2 k hk)
   ·rw [e2]; exact hu2.trans ho.up
   ·rw [e1, e2]
    refine All2.cons ((hv Gf (hA 0 g' rfl)).mono (keeps_le fun k hk => ho.zl k (hz2 k hk)) (Up.refl _)) (ho.rel Gf fun i g hi => ?_)
    have := hA (i + 1) g (by simpa using hi)
    rw [show b + 1 + i = b + (i + 1) by omega]; exact this
  cases v with
  | own j v0 =>
   simp only [outC] at hk
   split at hk
   ·rename_i e D ver fz hj
    replace hk := cond_left hk; obtain ⟨hv, hk⟩ := hk
    simp only [Nat.beq_eq] at hv
    obtain ⟨g, hg, hg', hr⟩ := getJ hp hj
    cases g with
    | arr ver' val sz xs0 =>
     have hverr := hr.1
     subst hverr
     have hX := own_val h1.1 hg' hv
     rcases cond_some hk with ⟨_, hk⟩ | ⟨_, hk⟩
     ·obtain ⟨hfz, hk2⟩ := cond_right hk
      subst hfz
      obtain ⟨q1, q2, q3⟩ := hp.park (o' := .arr e D 0 false) (g' := .arr 0 val sz xs0) hj hg rfl (alone_arr _ _ _ _ _) (fun Z' h => ⟨rfl, (RO.stable (keeps_le h) hr).2⟩)
      exact parked q1 (by simp) q2 q3 (.own b 0) (fun Gf hGf => ⟨.inr ⟨0, val, sz, xs0, hGf, Nat.le_refl _, fun _ => hX⟩, h1.2⟩) hk2
     ·obtain ⟨q1, q2⟩ := hp.freezeAt hj
      obtain ⟨cs, h', os, G', N, hk', ho⟩ := outC_sound q1 (h2.mono fun _ _ _ q => q.mono (keeps_le q2) (Up.refl _)) hk
      refine ⟨_, h', os, G', N, hk', ho.park, by rw [ho.hl]; simp, fun k hk => ho.zl k (q2 k hk), ho.up, ho.nl, fun Gf hA => All2.cons ?_ (ho.rel Gf hA)⟩
      have hjl := lt_of_some hj
      have hsl := q1.inv.frozen_val (j := j) (v := v0) (e := e) (D := D) (ver := ver) (X := X) (by show (h.set j _ ++ acc)[j]? = _; rw [List.getElem?_append_left (by simpa using hjl)]; simp [hjl]) hv (h1.1.stable (keeps_le q2))
      exact ⟨SlR.stable (keeps_le ho.zl) hsl, h1.2⟩
    | _ => exact hr.elim
   ·cases hk
  | emp e => cases e with
   | none => exact same .any (fun _ _ _ _ _ h => ⟨trivial, h.2⟩) (by simpa only [outC] using hk)
   | some e =>
    simp only [outC] at hk
    obtain ⟨⟨a, hXa⟩, hXo⟩ := id h1
    rcases cond_some hk with ⟨_, hk⟩ | ⟨_, hk⟩
    ·obtain ⟨q1, q2, q3⟩ := hp.parkNew (o' := .arr e.1 e.2.nil 0 false) (g' := .arr 0 (.slice a 0 0) e.2.size []) ⟨e, a, rfl, rfl⟩
     exact parked q1 rfl q2 q3 (.own b 0) (fun Gf hGf => ⟨.inr ⟨0, _, _, _, hGf, Nat.le_refl _, fun _ => hXa⟩, hXo⟩) hk
    ·refine same (.fr e.2.nil) (fun G1 G2 Z w X hX => ?_) hk
     obtain ⟨⟨a, rfl⟩, hX2⟩ := hX
     exact ⟨SlR_nil _ _, hX2⟩
  | ptr j o => cases o with
   | zero =>
    simp only [outC] at hk
    split at hk
    ·rename_i c hj
     obtain ⟨g, hg, hg', hr⟩ := getJ hp hj
     cases g with
     | cells bb T vs =>
      have hjl := lt_of_some hj
      obtain ⟨c', h3, hk2, hp3, hl3, hz3, hc3, hj3⟩ := sealL_parked hp hr hk
      obtain ⟨q1, q2, q3⟩ := hp3.park (o' := .cells (c'.map clean)) (g' := .cells bb T vs) (hj3 j _ hj) hg rfl (alone_cells _ _) (fun Z' h => like_one (cleanL_like c') (hc3.mono fun _ _ _ q => q.mono (keeps_le h) (Up.refl _)))
      exact parked q1 (by rw [List.length_set]; exact hl3) (fun k hk => q2 k (hz3 k hk)) q3 (.ptr b 0) (fun Gf hGf => ⟨.inr ⟨bb, T, vs, hGf, ptr_val h1.1 hg'⟩, h1.2⟩) hk2
     | _ => exact hr.elim
    ·cases hk
   | succ o => exact same .any (fun _ _ _ _ _ h => ⟨trivial, h.2⟩) (by simpa only [outC] using hk)
  | int a n => exact same (.int a n) (fun _ _ _ _ _ h => h) (by simpa only [outC] using hk)
  | bool x => exact same (.bool x) (fun _ _ _ _ _ h => h) (by simpa only [outC] using hk)
  | str x => exact same (.str x) (fun _ _ _ _ _ h => h) (by simpa only [outC] using hk)
  | fr x => exact same (.fr x) (fun _ _ _ _ _ h => h) (by simpa only [outC] using hk)
  | ep e o => exact same .any (fun _ _ _ _ _ h => ⟨trivial, h.2⟩) (by simpa only [outC] using hk)
  | op j v i o => exact same .any (fun _ _ _ _ _ h => ⟨trivial, h.2⟩) (by simpa only [outC] using hk)
  | fn f l => exact same .any (fun _ _ _ _ _ h => ⟨trivial, h.2⟩) (by simpa only [outC] using hk)
  | nilp => exact same .any (fun _ _ _ _ _ h => ⟨trivial, h.2⟩) (by simpa only [outC] using hk)
  | any => exact same .any (fun _ _ _ _ _ h => ⟨trivial, h.2⟩) (by simpa only [outC] using hk)
end
end Go.Ab
namespace Go.Ab
open Go Go.Dk
section
variable {P : Program} {w0 w w' : World} {M Z0 Z : Zone} {b : Nat} {G G0 : List GO} {s : AS} {tv : List Value} {r : List V1 × List AObj}
theorem outVs_sound {own : Bool} {m : Nat} {tm : List AV} : ∀ {l : List V1} {h acc : List AObj} {G A : List GO} {b : Nat} {xs : List Value} {k : List V1 → List AObj → List AObj → OR},
   Parked w0 M Z0 m G tm tv w h acc A → All2 (RV1 (G ++ A) (zn w0 Z0 ⟨tm, h ++ acc⟩ (G ++ A)) w) l xs → outVs own l h b k = some r →
   ∃ cs h' os G' N, k cs h' os = some r ∧ OutTo w0 M Z0 m G tm tv w h acc A b h' os G' N (fun Gf => All2 (RV1 Gf (zn w0 Z0 ⟨tm, h' ++ (acc ++ os)⟩ (G' ++ (A ++ N))) w) cs xs)
 | [], h, acc, G, A, b, xs, k, hp, ha, hk => by
  obtain rfl := ha.nil_inv
  exact ⟨[], h, [], G, [], hk, by simpa using hp, rfl, by simp, by simpa using Up.refl (G ++ A), rfl, fun _ _ => All2.nil⟩
 | v :: l, h, acc, G, A, b, xs, k, hp, ha, hk => by
  obtain ⟨X, xs', rfl, h1, h2⟩ := ha.cons_inv
  have comb : ∀ {c : List SV} {ys : List Value} {v' : List SV → V1} {k2 : List SV → List AObj → List AObj → OR}, All2 (OneR (G ++ A) (zn w0 Z0 ⟨tm, h ++ acc⟩ (G ++ A)) w) c ys → outC own c h b k2 = some r →
     (∀ cs h' os, k2 cs h' os = some r → ∃ v', (∀ Gf Z, All2 (OneR Gf Z w) cs ys → RV1 Gf Z w v' X) ∧ outVs own l h' (b + os.length) (fun vs h os' => k (v' :: vs) h (os ++ os')) = some r) →
     ∃ cs h' os G' N, k cs h' os = some r ∧ OutTo w0 M Z0 m G tm tv w h acc A b h' os G' N (fun Gf => All2 (RV1 Gf (zn w0 Z0 ⟨tm, h' ++ (acc ++ os)⟩ (G' ++ (A ++ N))) w) cs (X :: xs')) := by
   intro c ys v' k2 hc hk hnext
   obtain ⟨cs, h1', os1, G1, N1, hk1, o1⟩ := outC_sound hp hc hk
   obtain ⟨v', hv', hk2⟩ := hnext _ _ _ hk1
   obtain ⟨vs, h2', os2, G2, N2, hk3, o2⟩ := outVs_sound o1.park (h2.mono fun _ _ _ q => RV1.up o1.up (q.stable (keeps_le o1.zl))) hk2
   have e1 : acc ++ (os1 ++ os2) = acc ++ os1 ++ os2 := by simp
   have e2 : A ++ (N1 ++ N2) = A ++ N1 ++ N2 := by simp
   refine ⟨_, h2', os1 ++ os2, G2, N1 ++ N2, hk3, ?_, o2.hl.trans o1.hl, ?_, ?_, by simp [o1.nl, o2.nl], fun Gf hA => ?_⟩
   ·rw [e1, e2]; exact o2.park
   ·rw [e1, e2]; exact fun k hk => o2.zl k (o1.zl k hk)
   ·rw [e2]; exact o1.up.trans o2.up
   ·rw [e1, e2]
    refine All2.cons ((hv' Gf _ (o1.rel Gf hA.left)).stable (keeps_le o2.zl)) (o2.rel Gf ?_)
    rw [o1.nl]; exact hA.right
  cases v with
  | one x =>
   by_cases hx : x = .any
   ·subst hx
    simp only [outVs] at hk
    obtain ⟨cs, h', os, G', N, hk', ho⟩ := outVs_sound hp h2 hk
    exact ⟨_, h', os, G', N, hk', ho.park, ho.hl, ho.zl, ho.up, ho.nl, fun Gf hA => All2.cons ⟨trivial, fun h => absurd rfl h⟩ (ho.rel Gf hA)⟩
   ·have hk' : outC own [x] h b (fun c h os => (match c with
        | [x] => outVs own l h (b + os.length) fun vs h os' => k (.one x :: vs) h (os ++ os')
        | _ => none)) = some r := by
      cases x <;> first | exact absurd rfl hx | exact hk
    refine comb (v' := fun _ => .one x) (All2.cons ⟨h1.1, h1.2 hx⟩ All2.nil) hk' fun cs h' os hk2 => ?_
    split at hk2
    ·exact ⟨_, fun Gf Z hr => by obtain ⟨y, ys, e, hr, _⟩ := hr.cons_inv; simp only [List.cons.injEq] at e; obtain ⟨rfl, _⟩ := e; exact ⟨hr.1, fun _ => hr.2⟩, hk2⟩
    ·cases hk2
  | agg c =>
   obtain ⟨ys, hX, hc⟩ := h1
   simp only [outVs] at hk
   exact comb (v' := fun c => .agg c) hc hk fun cs h' os hk2 => ⟨.agg cs, fun Gf Z hr => ⟨ys, hX, hr⟩, hk2⟩
theorem outO_sound {m : Nat} {tm : List AV} {acc : List AObj} {A : List GO} : ∀ {n : Nat} {h : List AObj} {k : List AObj → OR}, Parked w0 M Z0 m G tm tv w h acc A → n ≤ m → m ≤ h.length → outO m n h k = some r →
   ∃ h' ps, k ps = some r ∧ Parked w0 M Z0 m G tm tv w h' acc A ∧ h'.length = h.length ∧ (∀ k, zn w0 Z0 ⟨tm, h ++ acc⟩ (G ++ A) k → zn w0 Z0 ⟨tm, h' ++ acc⟩ (G ++ A) k) ∧ ps.length = n ∧
    (∀ (i : Nat) c, h[i]? = some (.cells c) → h'[i]? = some (.cells c)) ∧
    (∀ (i : Nat) p, ps[i]? = some p → p = .dead ∨ ∃ bb T vs l', G[m - n + i]? = some (.cells bb T vs) ∧ p = .cells (l'.map clean) ∧ All2 (OneR (G ++ A) (zn w0 Z0 ⟨tm, h' ++ acc⟩ (G ++ A)) w) l' vs)
 | 0, h, k, hp, hn, hm, hk => ⟨h, [], hk, hp, rfl, fun _ h => h, rfl, fun _ _ h => h, fun i p hi => by simp at hi⟩
 | n + 1, h, k, hp, hn, hm, hk => by
  unfold outO at hk
  split at hk
  ·rename_i c hj
   obtain ⟨g, hg, hg', hr⟩ := getJ hp hj
   cases g with
   | cells bb T vs =>
    obtain ⟨c', h1, hk1, p1, l1, z1, r1, k1⟩ := sealL_parked hp hr hk
    obtain ⟨h2, ps, hk2, p2, l2, z2, e2, k2, q2⟩ := outO_sound p1 (by omega) (by omega) hk1
    refine ⟨h2, _, hk2, p2, l2.trans l1, fun k hk => z2 k (z1 k hk), by simp [e2], fun i c hi => k2 i c (k1 i c hi), fun i p hi => ?_⟩
    cases i with
    | zero =>
     simp only [List.getElem?_cons_zero, Option.some.injEq] at hi
     subst hi
     exact .inr ⟨bb, T, vs, c', by simpa using hg, rfl, r1.mono fun _ _ _ q => q.mono (keeps_le z2) (Up.refl _)⟩
    | succ i =>
     have := q2 i p (by simpa using hi)
     rw [show m - (n + 1) + (i + 1) = m - n + i by omega]; exact this
   | _ => exact hr.elim
  ·obtain ⟨h2, ps, hk2, p2, l2, z2, e2, k2, q2⟩ := outO_sound hp (by omega) hm hk
   refine ⟨h2, _, hk2, p2, l2, z2, by simp [e2], k2, fun i p hi => ?_⟩
   cases i with
   | zero =>
    simp only [List.getElem?_cons_zero, Option.some.injEq] at hi
    exact .inl hi.symm
   | succ i =>
    have := q2 i p (by simpa using hi)
    rw [show m - (n + 1) + (i + 1) = m - n + i by omega]; exact this
theorem resL_keep {h : List AObj} : ∀ {ps hs : List AObj} {gs : List GO}, ps.length = hs.length → hs.length = gs.length → (∀ (i : Nat) p, ps[i]? = some p → p = .dead ∨ ∃ l bb T vs c, p = .cells l ∧ gs[i]? = some (.cells bb T vs) ∧ hs[i]? = some (.cells c)) →
   (resL ps (List.zipWith keepG ps gs)).Sublist (resL hs gs)
 | [], hs, gs, h1, h2, hq => by simp [resL]
 | p :: ps, [], gs, h1, _, _ => by simp at h1
 | p :: ps, o :: hs, [], _, h2, _ => by simp at h2
 | p :: ps, o :: hs, g :: gs, h1, h2, hq => by
  have ih := resL_keep (h := h) (ps := ps) (hs := hs) (gs := gs) (by simpa using h1) (by simpa using h2) fun i p hi => by simpa using hq (i + 1) p (by simpa using hi)
  simp only [List.zipWith_cons_cons, resL]
  rcases hq 0 p rfl with rfl | ⟨l, bb, T, vs, c, rfl, hg, ho⟩
  ·rw [resO_dead, List.nil_append]; exact ih.trans (List.sublist_append_right _ _)
  ·simp only [List.getElem?_cons_zero, Option.some.injEq] at hg ho
   subst hg ho
   simp only [keepG, resO]
   exact ih.append_left _
theorem finish_sound {own : Bool} {fn : Func} {m : Nat} (hI : InvG w0 M Z0 s.heap.length G s tv w) (hu : UpW G0 G) (hm : G0.length = m) (h : finish P own fn m s = some r) :
   ∃ xs G', (results fn tv.toArray).run P w = .ok (if h : xs.toArray.size = 1 then xs.toArray[0] else .tuple xs.toArray) w ∧ InvG w0 M Z0 r.2.length G' ⟨r.1.map .v, r.2⟩ xs w ∧ UpW G0 G' := by
 unfold finish at h
 replace h := cond_left h; obtain ⟨hml, h⟩ := h
 simp only [Nat.ble_eq] at hml
 replace h := resC_sound hI h; obtain ⟨vs, xs, h, hvs, hrun⟩ := h
 have hp : Parked w0 M Z0 m G s.tmps tv w s.heap [] [] := ⟨by simpa using hI, hI.len, All2.nil⟩
 have hz0 : zn w0 Z0 ⟨s.tmps, s.heap ++ []⟩ (G ++ []) = zn w0 Z0 s G := by simp [zn]
 obtain ⟨cs, h1, os, G1, N, hk1, o1⟩ := outVs_sound hp (by rw [hz0, List.append_nil]; exact hvs) h
 simp only [List.nil_append] at o1
 have hp1 := o1.park
 simp only [List.nil_append] at hp1
 obtain ⟨h2, ps, hk2, p2, l2, z2, e2, k2, q2⟩ := outO_sound hp1 (Nat.le_refl m) (by rw [o1.hl]; exact hml) hk1
 have hr := Option.some.inj hk2
 subst hr
 have hNl : os.length = N.length := o1.nl
 have hl2 : h2.length = s.heap.length := l2.trans o1.hl
 have hG1 : h2.length = G1.length := p2.len
 have hmG : m ≤ G1.length := by omega
 have hgl : (G1.take m).length = m := by simp [hmG]
 let PG := List.zipWith keepG ps (G1.take m)
 have hPl : PG.length = m := by simp [PG, e2, hmG]
 have hAt : At_ m N (PG ++ N) := fun i g hi => by rw [List.getElem?_append_right (by omega), hPl]; simpa using hi
 have hps : ∀ (i : Nat) p, ps[i]? = some p → p = .dead ∨ ∃ bb T vs l', G1[i]? = some (.cells bb T vs) ∧ p = .cells (l'.map clean) ∧ All2 (OneR (G1 ++ N) (zn w0 Z0 ⟨s.tmps, h2 ++ os⟩ (G1 ++ N)) w) l' vs := fun i p hi => by
  have := q2 i p hi
  simpa using this
 have hRO := p2.inv.st.per.2
 have hsub : (resL (ps ++ os) (PG ++ N)).Sublist (resL (h2 ++ os) (G1 ++ N)) := by
  rw [resL_append (by rw [hPl, e2]), resL_append hG1]
  have hk : (resL ps PG).Sublist (resL (h2.take m) (G1.take m)) := by
   refine resL_keep (h := h2) (by simp [e2]; omega) (by simp; omega) fun i p hi => ?_
   have him : i < m := by rw [← e2]; exact lt_of_some hi
   rcases hps i p hi with h | ⟨bb, T, vs, l', hg, rfl, _⟩
   ·exact .inl h
   ·right
    have hg2 : (G1 ++ N)[i]? = some (.cells bb T vs) := by rw [List.getElem?_append_left (by omega)]; exact hg
    obtain ⟨o, ho, hro⟩ := hRO.get' hg2
    have ho' : h2[i]? = some o := by rw [List.getElem?_append_left (by omega)] at ho; exact ho
    cases o with
    | cells c => exact ⟨_, bb, T, vs, c, rfl, by rw [List.getElem?_take, if_pos him]; exact hg, by rw [List.getElem?_take, if_pos him]; exact ho'⟩
    | _ => exact hro.elim
  have hk2 : (resL (h2.take m) (G1.take m)).Sublist (resL h2 G1) := by
   have := resL_append (h := h2.take m) (h' := h2.drop m) (G := G1.take m) (G' := G1.drop m) (by simp; omega)
   rw [List.take_append_drop, List.take_append_drop] at this
   rw [this]; exact List.sublist_append_left _ _
  exact (hk.trans hk2).append_right _
 have hz3 : ∀ k, zn w0 Z0 ⟨s.tmps, h2 ++ os⟩ (G1 ++ N) k → zone w0 Z0 (resL (ps ++ os) (PG ++ N)) k := fun k hk => ⟨hk.1, fun q hq => hk.2 q (hsub.subset hq)⟩
 refine ⟨xs, PG ++ N, run_results hrun, ⟨?_, fun j hj hl => ?_, hI.mz⟩, ?_⟩
 ·refine (p2.inv.st.sub hsub).weak (relF_stable _ _ _) fun _ => ⟨?_, ?_⟩
  ·have := o1.rel (PG ++ N) hAt
   exact (this.mono fun _ _ _ q => (q.stable (keeps_le z2)).stable (keeps_le hz3)).map_left fun _ _ q => q
  ·refine All2.append ⟨by rw [hPl, e2], fun i p g hi hg => ?_⟩ ?_
   ·have him : i < m := by rw [← e2]; exact lt_of_some hi
    simp only [PG, List.getElem?_zipWith, hi, List.getElem?_take, if_pos him] at hg
    rcases hps i p hi with rfl | ⟨bb, T, vs, l', hg', rfl, hr⟩
    ·cases hg1 : G1[i]? with
     | none => simp [hg1] at hg
     | some g1 => simp [hg1, keepG] at hg; subst hg; trivial
    ·simp only [hg', Option.some.injEq, keepG] at hg
     subst hg
     exact like_one (cleanL_like l') (hr.mono fun _ _ _ q => q.mono (keeps_le hz3) (Up.refl _))
   ·refine ⟨hNl, fun i o g hi hg => ?_⟩
    have hro := hRO.2 (h2.length + i) o g (by rw [List.getElem?_append_right (by omega)]; simpa using hi) (by rw [List.getElem?_append_right (by omega), hG1]; simpa using hg)
    have hal := p2.alone.2 i o g hi hg
    exact hal _ _ _ _ (RO.stable (keeps_le hz3) hro)
 ·exfalso
  simp at hj hl
  rw [e2] at hj
  have : PG.length = m := hPl
  simp only [PG] at this hl
  simp at this hl
  omega
 ·have hup1 : Up G (G1 ++ N) := by simpa using o1.up
  intro j
  have key : ∀ g, j < m → (G1 ++ N)[j]? = some g → (PG ++ N)[j]? = some .gone ∨ (PG ++ N)[j]? = some g := by
   intro g hjm hg
   have hg1 : G1[j]? = some g := by rw [List.getElem?_append_left (by omega)] at hg; exact hg
   obtain ⟨p, hp⟩ : ∃ p, ps[j]? = some p := ⟨_, List.getElem?_eq_getElem (by rw [e2]; exact hjm)⟩
   rw [List.getElem?_append_left (by rw [hPl]; exact hjm)]
   simp only [PG, List.getElem?_zipWith, hp, List.getElem?_take, if_pos hjm, hg1]
   cases p <;> first | exact .inr rfl | exact .inl rfl
  have hup2 := (hu.trans hup1.weak) j
  refine ⟨fun hh => ?_, fun b T vs hh => ?_, fun ver val sz xs0 hh => ?_⟩
  ·have hjm : j < m := by rw [← hm]; exact lt_of_some hh
   rcases key _ hjm (hup2.1 hh) with h | h <;> exact h
  ·have hjm : j < m := by rw [← hm]; exact lt_of_some hh
   rcases hup2.2.1 b T vs hh with h | ⟨T', vs', h⟩
   ·rcases key _ hjm h with h | h <;> exact .inl h
   ·rcases key _ hjm h with h | h
    ·exact .inl h
    ·exact .inr ⟨T', vs', h⟩
  ·have hjm : j < m := by rw [← hm]; exact lt_of_some hh
   rcases hup2.2.2 ver val sz xs0 hh with h | ⟨a, c, e, h⟩
   ·rcases key _ hjm h with h | h <;> exact .inl h
   ·rcases key _ hjm h with h | h
    ·exact .inl h
    ·exact .inr ⟨a, c, e, h⟩
end
end Go.Ab
namespace Go.Ab
open Go Go.Dk
section
variable {P : Program} {w0 w w' : World} {M Z0 Z : Zone} {b : Nat} {G G0 : List GO} {s : AS} {tv : List Value} {r : List V1 × List AObj}
def Ex.out : Ex → Exit | .normal => .normal | .exit i => .exit i | .ret => .ret
def DrawOK (P : Program) (F : Callee) (D : Dec) : Prop := ∀ (w0 : World) (M Z0 : Zone) (G : List GO) (s : AS) (tv : List Value) (w : World) (ops : List Oper) (id : Nat) (k : AS → OR) (r : List V1 × List AObj) (Q : Exit → Act → World → Prop),
 InvG w0 M Z0 s.heap.length G s tv w → drawB ops (ancL ops []) ops 0 = true → evDr P F D ops (ancL ops []) ops 0 [] s.heap.length (grow (room P D ops) s) k = some r →
  (∀ s' G' tv' w', k s' = some r → InvG w0 M Z0 s'.heap.length G' s' tv' w' → UpW G G' → Q .normal ⟨tv'.toArray, []⟩ w') → (Code.region id ops.toArray true).wp P Q ⟨tv.toArray, []⟩ w
theorem resL_cells : ∀ (h : List AObj) (G : List GO) (j : Nat) {l l' : List SV}, h[j]? = some (.cells l) → resL (h.set j (.cells l')) G = resL h G
 | [], G, j, l, l', h => by simp at h
 | o :: h, [], j, l, l', _ => by cases j <;> simp [resL]
 | o :: h, g :: G, 0, l, l', hj => by
  simp only [List.getElem?_cons_zero, Option.some.injEq] at hj
  subst hj
  simp only [List.set_cons_zero, resL]
  cases g <;> rfl
 | o :: h, g :: G, j + 1, l, l', hj => by
  simp only [List.getElem?_cons_succ] at hj
  simp only [List.set_cons_succ, resL, resL_cells h G j hj]
theorem sealH_sound : ∀ (n j : Nat) {s : AS} {k : List AObj → OR}, InvG w0 M Z0 b G s tv w → sealH n j s.heap k = some r → ∃ h', k h' = some r ∧ InvG w0 M Z0 b G ⟨s.tmps, h'⟩ tv w
 | 0, j, s, k, hI, h => ⟨_, h, hI⟩
 | n + 1, j, s, k, hI, h => by
  unfold sealH at h
  split at h
  ·rename_i c hj
   obtain ⟨bb, T, vs, hg, hc⟩ := hI.cells hj
   obtain ⟨c', h', hk, hs, hc'⟩ := sealL_sound hI hc.1 h
   have hj' : h'[j]? = some (.cells c) ∨ ∃ c2, h'[j]? = some (.cells c2) := by
    have hl : j < h'.length := by rw [hs.inv.len, ← hI.len]; exact lt_of_some hj
    have hR := hs.inv.st.per.2
    cases ho : h'[j]? with
    | none => rw [List.getElem?_eq_getElem hl] at ho; cases ho
    | some o =>
     obtain ⟨g, hg', hro⟩ := hR.get ho
     rw [hg] at hg'
     obtain rfl := Option.some.inj hg'
     cases o with
     | cells l => exact .inr ⟨l, rfl⟩
     | arr e d ver fz => exact hro.elim
     | dead => exact hro.elim
   have hI2 : InvG w0 M Z0 b G ⟨s.tmps, h'.set j (.cells c')⟩ tv w := by
    obtain ⟨c2, hj2⟩ : ∃ c2, h'[j]? = some (.cells c2) := by rcases hj' with h1 | h1; exact ⟨_, h1⟩; exact h1
    have hr := resL_cells h' G j (l' := c') hj2
    refine ⟨?_, hs.inv.fresh, hs.inv.mz⟩
    have := hs.inv.st
    show St w0 M Z0 (resL (h'.set j (.cells c')) G) _ w
    rw [hr]
    refine this.weak (relF_stable _ _ _) fun hp => ⟨hp.1, ?_⟩
    have h3 := hp.2.set j (a := .cells c') (b := .cells bb T vs) hc'
    rw [set_same hg] at h3
    exact h3
   exact sealH_sound n (j + 1) (s := ⟨s.tmps, h'.set j (.cells c')⟩) hI2 hk
  ·exact sealH_sound n (j + 1) hI h
theorem know_heap (s : AS) (c : Operand) (t : Bool) : (s.know c t).heap = s.heap := by cases c <;> rfl
theorem InvG.know (hI : InvG w0 M Z0 b G s tv w) {c : Operand} {t : Bool} (h : s.ev c = .v (.one (.bool t))) : InvG w0 M Z0 b G (s.know c t) tv w := by
 cases c with
 | tmp d =>
  have hb : s.tmps.getD d anyV = .v (.one (.bool t)) := h
  have hdl : s.tmps[d]? = some (.v (.one (.bool t))) := by
   cases hs : s.tmps[d]? with
   | none => simp [List.getD, hs, anyV] at hb
   | some v => simp [List.getD, hs] at hb; rw [hb]
  obtain ⟨X, hX, hr⟩ := hI.st.per.1.get hdl
  have hX' := bool_inv hr
  subst hX'
  have := hI.put (some d) (v := boolV t) (X := .bool t) ⟨rfl, fun _ => rfl⟩
  simp only at this
  rw [set_same hX] at this
  exact this
 | const _ => exact hI
 | func _ => exact hI
 | global _ => exact hI
def CodeTo (w0 : World) (M Z0 : Zone) (G0 : List GO) (k : Kont) (r : List V1 × List AObj) (e : Exit) (a' : Act) (w' : World) : Prop :=
 ∃ e' s' G' tv', e = e'.out ∧ k e' s' = some r ∧ a' = ⟨tv'.toArray, []⟩ ∧ InvG w0 M Z0 s'.heap.length G' s' tv' w' ∧ UpW G0 G'
theorem evC_sound {E : Env} (hF : CallsOK E.P E.F) (hib : ∀ f, E.D.ib f = true → extIB E.P f) (hdr : DrawOK E.P E.F E.D) (hm : G0.length = E.m) : ∀ (c : Code) (i : Nat) {s : AS} {k : Kont} {G : List GO} {tv : List Value} {w : World},
   InvG w0 M Z0 s.heap.length G s tv w → UpW G0 G → evC E i c s k = some r → c.wp E.P (CodeTo w0 M Z0 G0 k r) ⟨tv.toArray, []⟩ w
 | .skip, i, s, k, G, tv, w, hI, hu, h => wp_skip ⟨.normal, s, G, tv, rfl, h, rfl, hI, hu⟩
 | .region id ops draw, i, s, k, G, tv, w, hI, hu, h => by
  simp only [evC] at h
  rcases cond_some h with ⟨rfl, h⟩ | ⟨rfl, h⟩
  ·have go : ∀ s : AS, InvG w0 M Z0 s.heap.length G s tv w → drawC E ops.toList s k = some r → (Code.region id ops true).wp E.P (CodeTo w0 M Z0 G0 k r) ⟨tv.toArray, []⟩ w := by
     intro s hI h
     obtain ⟨hd, h⟩ := cond_left h
     have := hdr w0 M Z0 G s tv w ops.toList id _ r (CodeTo w0 M Z0 G0 k r) hI hd h (fun s' G' tv' w' hk hI' hu' => ⟨.normal, s', G', tv', rfl, hk, rfl, hI', hu.trans hu'⟩)
     simpa using this
   split at h
   ·obtain ⟨h', hk, hI2⟩ := sealH_sound _ _ hI h
    refine go ⟨s.tmps, h'⟩ ?_ hk
    have e : h'.length = s.heap.length := by have := hI2.len; rw [hI.len]; exact this
    show InvG w0 M Z0 h'.length G _ tv w
    rw [e]; exact hI2
   ·exact go s hI h
  ·have hl := evOps_sound (Q := CodeTo w0 M Z0 G0 k r) hF hib (hI.grow (room E.P E.D ops.toList)) (by simp [grow]) h (fun s' G' tv' w' hk hI' hu' => ⟨.normal, s', G', tv', rfl, hk, rfl, hI', hu.trans ((Up.append _ _).trans hu').weak⟩)
   have := wp_region_lit (id := id) hl
   simpa using this
 | .seq a c, i, s, k, G, tv, w, hI, hu, h => by
  simp only [evC] at h
  refine wp_seq (wp_mono (evC_sound hF hib hdr hm a i hI hu h) fun e a' w' ⟨e', s', G', tv', he, hk, ha, hI', hu'⟩ => ?_)
  subst ha he
  cases e' with
  | normal => exact evC_sound hF hib hdr hm c i hI' hu' hk
  | exit j => exact ⟨.exit j, s', G', tv', rfl, hk, rfl, hI', hu'⟩
  | ret => exact ⟨.ret, s', G', tv', rfl, hk, rfl, hI', hu'⟩
 | .cond x a c, i, s, k, G, tv, w, hI, hu, h => by
  simp only [evC] at h
  split at h
  ·rename_i t hx
   have hv := hI.ev x
   rw [hx] at hv
   rcases cond_some h with ⟨rfl, h⟩ | ⟨rfl, h⟩
   ·exact wp_cond_true (bool_inv hv) (evC_sound hF hib hdr hm a i (s := s.know x true) (by rw [know_heap]; exact hI.know hx) hu h)
   ·exact wp_cond_false (bool_inv hv) (evC_sound hF hib hdr hm c i (s := s.know x false) (by rw [know_heap]; exact hI.know hx) hu h)
  ·cases h
 | .block id c, i, s, k, G, tv, w, hI, hu, h => by
  simp only [evC] at h
  refine wp_block (wp_mono (evC_sound hF hib hdr hm c id hI hu h) fun e a' w' ⟨e', s', G', tv', he, hk, ha, hI', hu'⟩ => ?_)
  subst ha he
  cases e' with
  | normal => exact ⟨.normal, s', G', tv', rfl, hk, rfl, hI', hu'⟩
  | ret => exact ⟨.ret, s', G', tv', rfl, hk, rfl, hI', hu'⟩
  | exit j =>
   simp only [blockK] at hk
   simp only [Ex.out, Exit.inBlock]
   rcases cond_some hk with ⟨hj, hk⟩ | ⟨hj, hk⟩
   ·simp only [Nat.beq_eq] at hj
    rw [if_pos hj]
    exact ⟨.normal, s', G', tv', rfl, hk, rfl, hI', hu'⟩
   ·rw [if_neg (fun e => by rw [e] at hj; simp at hj)]
    exact ⟨.exit j, s', G', tv', rfl, hk, rfl, hI', hu'⟩
 | .loop c, i, s, k, G, tv, w, hI, hu, h => by
  simp only [evC] at h
  obtain ⟨G1, hI1, hu1⟩ := atHead_sound (live := E.live i) hI hu hm
  refine wp_loop_ghost (fun n a w => ∃ s G tv, evL (evC E i c) (atHead E.m (E.live i)) n s k = some r ∧ a = ⟨tv.toArray, []⟩ ∧ InvG w0 M Z0 s.heap.length G s tv w ∧ UpW G0 G) E.n ⟨_, G1, tv, h, rfl, hI1, hu1⟩ ?_
  intro n a w ⟨s, G, tv, h, ha, hI, hu⟩
  subst ha
  cases n with
  | zero => cases h
  | succ n =>
   simp only [evL] at h
   refine wp_mono (evC_sound hF hib hdr hm c i hI hu h) fun e a' w' ⟨e', s', G', tv', he, hk, ha, hI', hu'⟩ => ?_
   subst ha he
   cases e' with
   | normal =>
    obtain ⟨G2, hI2, hu2⟩ := atHead_sound (live := E.live i) hI' hu' hm
    exact ⟨n, Nat.lt_succ_self n, _, G2, tv', hk, rfl, hI2, hu2⟩
   | exit j => exact ⟨.exit j, s', G', tv', rfl, hk, rfl, hI', hu'⟩
   | ret => exact ⟨.ret, s', G', tv', rfl, hk, rfl, hI', hu'⟩
 | .exit id, i, s, k, G, tv, w, hI, hu, h => wp_exit ⟨.exit id, s, G, tv, rfl, h, rfl, hI, hu⟩
 | .ret, i, s, k, G, tv, w, hI, hu, h => wp_ret ⟨.ret, s, G, tv, rfl, h, rfl, hI, hu⟩
 | .rangeFunc _ _ _ _, i, s, k, G, tv, w, hI, hu, h => by simp [evC] at h
 | .scope _, i, s, k, G, tv, w, hI, hu, h => by simp [evC] at h
 | .label _, i, s, k, G, tv, w, hI, hu, h => by simp [evC] at h
 | .goto _, i, s, k, G, tv, w, hI, hu, h => by simp [evC] at h
 | .refuse _, i, s, k, G, tv, w, hI, hu, h => by simp [evC] at h
def PrimsOK (P : Program) (S : Say) : Prop := ∀ f g args out, S.prim f = some g → g args = some out →
 ∀ w0 M Z0 G vals w, InvG w0 M Z0 0 G ⟨args.map .v, []⟩ vals w →
  Calls P f vals.toArray w fun e w' => ∃ xs G', e = .returned (if h : xs.toArray.size = 1 then xs.toArray[0] else .tuple xs.toArray) ∧ InvG w0 M Z0 out.2.length G' ⟨out.1.map .v, out.2⟩ xs w' ∧ UpW G G'
theorem evF_sound {S : Say} (hp : PrimsOK P S) (hib : ∀ f, S.D.ib f = true → extIB P f) (hdr : ∀ F, CallsOK P F → DrawOK P F S.D) : ∀ n, CallsOK P (evF P S n)
 | 0 => fun f fn args h out _ _ ho => by cases ho
 | n + 1 => by
  intro f fn args h out hfn hb ho w0 M Z0 G vals w hI
  have hF := evF_sound hp hib hdr n
  unfold evF at ho
  split at ho
  ·rename_i g hg
   split at ho
   ·exact hp f g args out hg ho w0 M Z0 G vals w hI
   ·cases ho
  ·rw [hfn] at ho
   simp only at ho
   split at ho
   ·rename_i c hc
    have hlen : args.length = vals.length := by have := hI.st.per.1.1; simpa using this
    refine calls_of_wp hfn hc ?_
    have hI2 : InvG w0 M Z0 h.length G ⟨args.map .v ++ List.replicate (fn.ntmps - args.length) anyV, h⟩ (vals ++ List.replicate (fn.ntmps - args.length) undef) w :=
     ⟨hI.st.weak (relF_stable _ _ _) fun hh => ⟨All2.append hh.1 (All2.replicate (any_rel undef) _), hh.2⟩, hI.fresh, hI.mz⟩
    have hwp := evC_sound (E := ⟨P, evF P S n, S.D, n, h.length, S.live f⟩) (G0 := G) hF hib (hdr _ hF) hI.len.symm c 0 hI2 (UpW.refl G) ho
    have harr : vals.toArray ++ Array.replicate (fn.ntmps - vals.toArray.size) undef = (vals ++ List.replicate (fn.ntmps - args.length) undef).toArray := by
     rw [hlen]; simp
    rw [harr]
    refine wp_mono hwp fun e a' w' ⟨e', s', G', tv', he, hk, ha, hI', hu'⟩ => ?_
    subst ha he
    have fin : finish P (S.D.own f) fn h.length s' = some out → ∃ v, (results fn tv'.toArray).run P w' = .ok v w' ∧ ∃ xs G'', (.returned v : Ending) = .returned (if h : xs.toArray.size = 1 then xs.toArray[0] else .tuple xs.toArray) ∧ InvG w0 M Z0 out.2.length G'' ⟨out.1.map .v, out.2⟩ xs w' ∧ UpW G G'' := by
     intro hk
     obtain ⟨xs, G'', h1, h2, h3⟩ := finish_sound hI' hu' hI.len.symm hk
     exact ⟨_, h1, xs, G'', rfl, h2, h3⟩
    cases e' with
    | normal => exact ⟨rfl, fin hk⟩
    | ret => exact ⟨rfl, fin hk⟩
    | exit j => cases hk
   ·cases ho
end
end Go.Ab
end
section
namespace Go.Ab
open Go Go.Dk
def N1 {α : Type} (f : (α → OR) → OR) : Prop := ∀ k r, f k = some r → ∃ a, k a = some r ∧ ∀ k', f k' = k' a
def N2 {α β : Type} (f : (α → β → OR) → OR) : Prop := ∀ k r, f k = some r → ∃ a b, k a b = some r ∧ ∀ k', f k' = k' a b
def N4 {α β γ δ : Type} (f : (α → β → γ → δ → OR) → OR) : Prop := ∀ k r, f k = some r → ∃ a b c d, k a b c d = some r ∧ ∀ k', f k' = k' a b c d
theorem N1.pure {α : Type} (a : α) : N1 fun k => k a := fun k r h => ⟨a, h, fun _ => rfl⟩
theorem N2.pure {α β : Type} (a : α) (b : β) : N2 fun k => k a b := fun k r h => ⟨a, b, h, fun _ => rfl⟩
theorem N4.pure {α β γ δ : Type} (a : α) (b : β) (c : γ) (d : δ) : N4 fun k => k a b c d := fun k r h => ⟨a, b, c, d, h, fun _ => rfl⟩
theorem N1.none {α : Type} : N1 fun (k : α → OR) => none := fun k r h => by cases h
theorem N2.none {α β : Type} : N2 fun (k : α → β → OR) => none := fun k r h => by cases h
theorem N4.none {α β γ δ : Type} : N4 fun (k : α → β → γ → δ → OR) => none := fun k r h => by cases h
theorem N1.cond {α : Type} {b : Bool} {f g : (α → OR) → OR} (hf : N1 f) (hg : N1 g) : N1 fun k => cond b (f k) (g k) := by cases b; exact hg; exact hf
theorem N2.cond {α β : Type} {b : Bool} {f g : (α → β → OR) → OR} (hf : N2 f) (hg : N2 g) : N2 fun k => cond b (f k) (g k) := by cases b; exact hg; exact hf
theorem N4.cond {α β γ δ : Type} {b : Bool} {f g : (α → β → γ → δ → OR) → OR} (hf : N4 f) (hg : N4 g) : N4 fun k => cond b (f k) (g k) := by cases b; exact hg; exact hf
theorem N1.bind {α β : Type} {o : Option β} {f : β → (α → OR) → OR} (hf : ∀ x, N1 (f x)) : N1 fun k => o.bind fun x => f x k := by cases o; exact N1.none; exact hf _
theorem N2.bind {α β γ : Type} {o : Option γ} {f : γ → (α → β → OR) → OR} (hf : ∀ x, N2 (f x)) : N2 fun k => o.bind fun x => f x k := by cases o; exact N2.none; exact hf _
theorem N4.bind {α β γ δ ε : Type} {o : Option ε} {f : ε → (α → β → γ → δ → OR) → OR} (hf : ∀ x, N4 (f x)) : N4 fun k => o.bind fun x => f x k := by cases o; exact N4.none; exact hf _
theorem N1.then1 {α β : Type} {g : (β → OR) → OR} {f : β → (α → OR) → OR} (hg : N1 g) (hf : ∀ x, N1 (f x)) : N1 fun k => g fun x => f x k := by
 intro k r h
 obtain ⟨x, hx, hk⟩ := hg _ _ h
 obtain ⟨a, ha, hk'⟩ := hf x _ _ hx
 exact ⟨a, ha, fun k' => (hk _).trans (hk' k')⟩
theorem N2.then1 {α β γ : Type} {g : (γ → OR) → OR} {f : γ → (α → β → OR) → OR} (hg : N1 g) (hf : ∀ x, N2 (f x)) : N2 fun k => g fun x => f x k := by
 intro k r h
 obtain ⟨x, hx, hk⟩ := hg _ _ h
 obtain ⟨a, b, ha, hk'⟩ := hf x _ _ hx
 exact ⟨a, b, ha, fun k' => (hk _).trans (hk' k')⟩
theorem N4.then1 {α β γ δ ε : Type} {g : (ε → OR) → OR} {f : ε → (α → β → γ → δ → OR) → OR} (hg : N1 g) (hf : ∀ x, N4 (f x)) : N4 fun k => g fun x => f x k := by
 intro k r h
 obtain ⟨x, hx, hk⟩ := hg _ _ h
 obtain ⟨a, b, c, d, ha, hk'⟩ := hf x _ _ hx
 exact ⟨a, b, c, d, ha, fun k' => (hk _).trans (hk' k')⟩
theorem N1.then2 {α β γ : Type} {g : (β → γ → OR) → OR} {f : β → γ → (α → OR) → OR} (hg : N2 g) (hf : ∀ x y, N1 (f x y)) : N1 fun k => g fun x y => f x y k := by
 intro k r h
 obtain ⟨x, y, hx, hk⟩ := hg _ _ h
 obtain ⟨a, ha, hk'⟩ := hf x y _ _ hx
 exact ⟨a, ha, fun k' => (hk _).trans (hk' k')⟩
theorem N2.then2 {α β γ δ : Type} {g : (γ → δ → OR) → OR} {f : γ → δ → (α → β → OR) → OR} (hg : N2 g) (hf : ∀ x y, N2 (f x y)) : N2 fun k => g fun x y => f x y k := by
 intro k r h
 obtain ⟨x, y, hx, hk⟩ := hg _ _ h
 obtain ⟨a, b, ha, hk'⟩ := hf x y _ _ hx
 exact ⟨a, b, ha, fun k' => (hk _).trans (hk' k')⟩
theorem N4.then2 {α β γ δ ε ζ : Type} {g : (ε → ζ → OR) → OR} {f : ε → ζ → (α → β → γ → δ → OR) → OR} (hg : N2 g) (hf : ∀ x y, N4 (f x y)) : N4 fun k => g fun x y => f x y k := by
 intro k r h
 obtain ⟨x, y, hx, hk⟩ := hg _ _ h
 obtain ⟨a, b, c, d, ha, hk'⟩ := hf x y _ _ hx
 exact ⟨a, b, c, d, ha, fun k' => (hk _).trans (hk' k')⟩
theorem N2.then4 {α β γ δ ε ζ : Type} {g : (γ → δ → ε → ζ → OR) → OR} {f : γ → δ → ε → ζ → (α → β → OR) → OR} (hg : N4 g) (hf : ∀ x y z u, N2 (f x y z u)) : N2 fun k => g fun x y z u => f x y z u k := by
 intro k r h
 obtain ⟨x, y, z, u, hx, hk⟩ := hg _ _ h
 obtain ⟨a, b, ha, hk'⟩ := hf x y z u _ _ hx
 exact ⟨a, b, ha, fun k' => (hk _).trans (hk' k')⟩
section
variable (P : Program)
theorem get_N (d : SD) (i : Nat) : N1 (d.get i) := by
 cases d <;> exact N1.bind fun x => N1.pure _
theorem app_N (d e : SD) : N1 (d.app e) := by
 unfold SD.app; split <;> first | exact N1.pure _ | exact N1.none
theorem set_N (d : SD) (i : Nat) (e : SE) : N1 (d.set i e) := by
 unfold SD.set; split <;> first | exact N1.pure _ | exact N1.none
theorem readS_N (h : List AObj) (x : SV) : N1 (readS h x) := by
 unfold readS; split
 ·exact N1.pure _
 ·exact N1.pure _
 ·split
  ·exact N1.cond (N1.pure _) N1.none
  ·exact N1.none
 ·exact N1.none
theorem sealS_N (h : List AObj) (x : SV) : N2 (sealS h x) := by
 unfold sealS; split
 ·split
  ·exact N2.cond (N2.pure _ _) N2.none
  ·exact N2.none
 ·exact N2.pure _ _
 ·exact N2.pure _ _
theorem sealL_N : ∀ (l : List SV) (h : List AObj), N2 (sealL h l)
 | [], h => N2.pure _ _
 | x :: l, h => by
  show N2 fun k => sealS h x fun x' h' => sealL h' l fun l' h'' => k (x' :: l') h''
  exact N2.then2 (sealS_N h x) fun x' h' => N2.then2 (sealL_N l h') fun _ _ => N2.pure _ _
theorem elemOf_N (e : SK) (l : List SV) : N1 (elemOf e l) := by
 unfold elemOf; split <;> first | exact N1.pure _ | exact N1.none | exact N1.cond (N1.pure _) N1.none
theorem elemsOf_N (e : SK) : ∀ (cs : List (List SV)) (h : List AObj) (d : SD), N2 (elemsOf e h cs d)
 | [], h, d => N2.pure _ _
 | c :: cs, h, d => by
  show N2 fun k => sealL h c fun c' h' => elemOf e c' fun x => (d.snoc x).bind fun d' => elemsOf e h' cs d' k
  exact N2.then2 (sealL_N c h) fun c' h' => N2.then1 (elemOf_N e c') fun x => N2.bind fun d' => elemsOf_N e cs h' d'
theorem packK_N (t : TypeId) (l : List SV) : N1 (packK P t l) := by
 unfold packK; split
 ·split
  ·exact N1.pure _
  ·exact N1.none
 ·split
  ·exact N1.cond (N1.pure _) N1.none
  ·exact N1.none
theorem evLoad_N (t : TypeId) (x : AV) (h : List AObj) : N1 (evLoad P t x h) := by
 unfold evLoad; split
 ·split
  ·exact packK_N P _ _
  ·exact N1.none
 ·exact packK_N P _ _
 ·split
  ·exact N1.cond (N1.then1 (get_N _ _) fun e => packK_N P _ _) N1.none
  ·exact N1.none
 ·exact N1.none
theorem evStore_N (t : TypeId) (x y : AV) (h : List AObj) : N1 (evStore P t x y h) := by
 unfold evStore; split
 ·refine N1.bind fun yc => ?_
  split
  ·split
   ·exact N1.cond (N1.pure _) N1.none
   ·exact N1.none
  ·refine N1.then2 (sealL_N _ _) fun c h => ?_
   split
   ·exact N1.cond (N1.then1 (elemOf_N _ _) fun x => N1.then1 (set_N _ _ _) fun d => N1.pure _) N1.none
   ·exact N1.none
  ·exact N1.none
 ·exact N1.none
theorem evInt_N (op : BinOp) (ka : IntKind) (a b : Int) : N1 (evInt op ka a b) := by
 unfold evInt; split <;> first | exact N1.pure _ | exact N1.none | exact N1.cond N1.none (N1.pure _)
theorem evStr_N (op : BinOp) (a b : ByteArray) : N1 (evStr op a b) := by
 unfold evStr; split <;> first | exact N1.pure _ | exact N1.none | exact N1.cond (N1.pure _) N1.none
theorem evBin_N (op : BinOp) (t : TypeId) (x y : AV) : N1 (evBin P op t x y) := by
 unfold evBin; split
 ·exact N1.cond (evInt_N _ _ _ _) N1.none
 ·exact evStr_N _ _ _
 ·split
  ·split <;> first | exact N1.pure _ | exact N1.none
  ·exact N1.none
 ·exact N1.none
theorem evUn_N (op : UnOp) (x : AV) : N1 (evUn op x) := by
 unfold evUn; split <;> first | exact N1.pure _ | exact N1.none
theorem evConv_N (t t' : TypeId) (x : AV) (h : List AObj) : N1 (evConv P t t' x h) := by
 unfold evConv; split
 ·split <;> first | exact N1.pure _ | exact N1.none
 ·split
  ·refine N1.then1 (readS_N _ _) fun d => ?_
   split <;> first | exact N1.pure _ | exact N1.none
  ·exact N1.none
 ·exact N1.none
theorem optInt_N (x : AV) : N1 (optInt x) := by
 unfold optInt; split <;> first | exact N1.pure _ | exact N1.none
theorem bounds_N (lo hi : Option AV) (n : Nat) : N2 (evSlice.bounds lo hi n) := by
 unfold evSlice.bounds; split
 ·exact N2.pure _ _
 ·exact N2.then1 (optInt_N _) fun l => N2.cond (N2.pure _ _) N2.none
 ·exact N2.then1 (optInt_N _) fun l => N2.cond (N2.pure _ _) N2.none
 ·exact N2.then1 (optInt_N _) fun l => N2.then1 (optInt_N _) fun m => N2.cond (N2.pure _ _) N2.none
theorem evSlice_N (t : TypeId) (x : AV) (lo hi mx : Option AV) (h : List AObj) : N2 (evSlice P t x lo hi mx h) := by
 unfold evSlice; split
 ·refine N2.cond (N2.then1 (optInt_N _) fun m => ?_) N2.none
  split
  ·refine N2.then1 (optInt_N _) fun n => N2.cond ?_ N2.none
   split
   ·exact N2.cond (N2.pure _ _) N2.none
   ·split
    ·exact N2.cond (N2.pure _ _) N2.none
    ·exact N2.none
   ·exact N2.pure _ _
   ·exact N2.none
  ·refine N2.then1 (optInt_N _) fun n => N2.then1 (optInt_N _) fun l => N2.cond ?_ N2.none
   split
   ·exact N2.cond (N2.pure _ _) N2.none
   ·split
    ·exact N2.cond (N2.pure _ _) N2.none
    ·exact N2.none
   ·exact N2.pure _ _
   ·exact N2.none
  ·exact N2.none
 ·split
  ·split
   ·exact N2.then2 (bounds_N _ _ _) fun l n => N2.pure _ _
   ·exact N2.none
  ·split
   ·refine N2.then2 (sealS_N _ _) fun x' h' => ?_
    split
    ·exact N2.cond (N2.then2 (bounds_N _ _ _) fun l n => N2.pure _ _) N2.none
    ·exact N2.none
   ·exact N2.none
  ·exact N2.none
theorem evIndexAddr_N (t : TypeId) (x y : AV) (h : List AObj) : N1 (evIndexAddr P t x y h) := by
 unfold evIndexAddr; split
 ·exact N1.none
 ·refine N1.then1 (optInt_N _) fun i => N1.cond ?_ N1.none
  split
  ·exact N1.cond (N1.then1 (get_N _ _) fun x => N1.pure _) N1.none
  ·split
   ·exact N1.cond (N1.cond (N1.pure _) N1.none) N1.none
   ·exact N1.none
  ·exact N1.none
theorem evLen_N (t : TypeId) (x : AV) (h : List AObj) : N1 (evLen P t x h) := by
 unfold evLen; split
 ·split <;> first | exact N1.pure _ | exact N1.none
 ·split <;> first | exact N1.pure _ | exact N1.none
 ·split
  ·exact N1.then1 (readS_N _ _) fun d => N1.pure _
  ·exact N1.none
 ·exact N1.none
theorem evAppend_N (t : TypeId) (x y : AV) (h : List AObj) (sl : Nat) : N2 (evAppend P t x y h sl) := by
 unfold evAppend; split
 ·exact N2.none
 ·split
  ·refine N2.then1 (readS_N _ _) fun d' => N2.cond ?_ N2.none
   split
   ·split
    ·exact N2.cond (N2.then1 (app_N _ _) fun d => N2.cond (N2.pure _ _) N2.none) N2.none
    ·exact N2.none
   ·exact N2.cond (N2.pure _ _) N2.none
   ·exact N2.none
  ·exact N2.none
theorem evMake_N (t : TypeId) (x y : AV) (h : List AObj) (sl : Nat) : N2 (evMake P t x y h sl) := by
 unfold evMake
 refine N2.then1 (optInt_N _) fun n => N2.then1 (optInt_N _) fun m => N2.cond ?_ N2.none
 split
 ·exact N2.cond (N2.bind fun d => N2.pure _ _) N2.none
 ·exact N2.none
theorem evField_N (h : List AObj) (d : Nat) (v : AV) : N1 (evField h d v) := by
 unfold evField; split <;> first | exact N1.pure _ | exact N1.none | exact N1.cond (N1.pure _) N1.none
theorem evNil_N (h : List AObj) (v : AV) : N1 (evNil h v) := by
 unfold evNil; split <;> first | exact N1.pure _ | exact N1.none | exact N1.cond (N1.pure _) N1.none
theorem evIndex_N (t : TypeId) (x y : AV) : N1 (evIndex P t x y) := by
 unfold evIndex; split
 ·refine N1.then1 (optInt_N _) fun n => N1.cond ?_ N1.none
  split <;> first | exact N1.pure _ | exact N1.none
 ·exact N1.none
theorem evExtract_N (x : AV) (i : Nat) : N1 (evExtract x i) := by
 unfold evExtract; split
 ·exact N1.bind fun x => N1.pure _
 ·exact N1.none
theorem evMax_N (mx : Bool) (x y : AV) : N1 (evMax mx x y) := by
 unfold evMax; split <;> first | exact N1.cond (N1.pure _) N1.none | exact N1.none
theorem evBuild_N (t : TypeId) (ps : List (Nat × AV)) : N1 (evBuild P t ps) := N1.bind fun _ => N1.bind fun _ => N1.bind fun _ => N1.pure _
theorem sealVs_N : ∀ (l : List V1) (h : List AObj), N2 (sealVs h l)
 | [], h => N2.pure _ _
 | .agg c :: l, h => by
  show N2 fun k => sealL h c fun c h => sealVs h l fun vs h => k (.agg c :: vs) h
  exact N2.then2 (sealL_N c h) fun c h => N2.then2 (sealVs_N l h) fun _ _ => N2.pure _ _
 | .one x :: l, h => by
  have h1 : N2 fun k => sealVs h l fun vs h => k (.one .any :: vs) h := N2.then2 (sealVs_N l h) fun _ _ => N2.pure _ _
  have h2 : N2 fun k => sealS h x fun x h => sealVs h l fun vs h => k (.one x :: vs) h := N2.then2 (sealS_N h x) fun x h => N2.then2 (sealVs_N l h) fun _ _ => N2.pure _ _
  cases x <;> first | exact h2 | exact h1
theorem intC_N (a : IntKind) (l : List SV) : N2 (intC a l) := by unfold intC; split <;> first | exact N2.cond (N2.pure _ _) N2.none | exact N2.none
theorem boolC_N (l : List SV) : N2 (boolC l) := by unfold boolC; split <;> first | exact N2.pure _ _ | exact N2.none
theorem strC_N (l : List SV) : N2 (strC l) := by unfold strC; split <;> first | exact N2.pure _ _ | exact N2.none
theorem slC_N (e : SK) (l : List SV) : N2 (slC e l) := by
 cases e
 ·show N2 fun k => tsC l fun x l => k (SD.ts x) l; refine N2.then2 (g := tsC l) ?_ fun _ _ => N2.pure _ _; unfold tsC; split <;> first | exact N2.pure _ _ | exact N2.none
 ·show N2 fun k => isC l fun x l => k (SD.is x) l; refine N2.then2 (g := isC l) ?_ fun _ _ => N2.pure _ _; unfold isC; split <;> first | exact N2.pure _ _ | exact N2.none
 ·show N2 fun k => issC l fun x l => k (SD.iss x) l; refine N2.then2 (g := issC l) ?_ fun _ _ => N2.pure _ _; unfold issC; split <;> first | exact N2.pure _ _ | exact N2.none
 ·show N2 fun k => ssC l fun x l => k (SD.ss x) l; refine N2.then2 (g := ssC l) ?_ fun _ _ => N2.pure _ _; unfold ssC; split <;> first | exact N2.pure _ _ | exact N2.none
 ·show N2 fun k => bsC l fun x l => k (SD.bs x) l; refine N2.then2 (g := bsC l) ?_ fun _ _ => N2.pure _ _; unfold bsC; split <;> first | exact N2.pure _ _ | exact N2.none
theorem anyC_N (l : List SV) : N1 (anyC l) := by unfold anyC; split <;> first | exact N1.pure _ | exact N1.none
theorem likeC_N (x : SV) (l : List SV) : N2 (likeC x l) := by
 unfold likeC; split
 ·exact N2.then2 (intC_N _ _) fun _ _ => N2.pure _ _
 ·exact N2.then2 (boolC_N _) fun _ _ => N2.pure _ _
 ·exact N2.then2 (strC_N _) fun _ _ => N2.pure _ _
 ·exact N2.then2 (slC_N _ _) fun _ _ => N2.pure _ _
 ·exact N2.then2 (slC_N _ _) fun _ _ => N2.pure _ _
 ·exact N2.then1 (anyC_N _) fun _ => N2.pure _ _
theorem likeL_N : ∀ (x l : List SV), N1 (likeL x l)
 | [], l => by
  show N1 fun k => nilC l (k [])
  unfold nilC; split <;> first | exact N1.pure _ | exact N1.none
 | x :: xs, l => by
  show N1 fun k => likeC x l fun y l => likeL xs l fun ys => k (y :: ys)
  exact N1.then2 (likeC_N x l) fun y l => N1.then1 (likeL_N xs l) fun _ => N1.pure _
theorem objC_N (o : List AObj) : N2 (objC o) := by unfold objC; split <;> first | exact N2.pure _ _ | exact N2.none
theorem dropC_N (o : List AObj) : N1 (dropC o) := by unfold dropC; split <;> first | exact N1.pure _ | exact N1.none
theorem backO_N : ∀ (x o : List AObj), N2 (backO x o)
 | [], o => N2.pure _ _
 | .cells x :: xs, o => by
  show N2 fun k => objC o fun l o => likeL x l fun y => backO xs o fun ys o => k (.cells y :: ys) o
  exact N2.then2 (objC_N o) fun l o => N2.then1 (likeL_N x l) fun y => N2.then2 (backO_N xs o) fun _ _ => N2.pure _ _
 | .arr _ _ _ _ :: xs, o => by
  show N2 fun k => dropC o fun o => backO xs o fun ys o => k (.dead :: ys) o
  exact N2.then1 (dropC_N o) fun o => N2.then2 (backO_N xs o) fun _ _ => N2.pure _ _
 | .dead :: xs, o => by
  show N2 fun k => dropC o fun o => backO xs o fun ys o => k (.dead :: ys) o
  exact N2.then1 (dropC_N o) fun o => N2.then2 (backO_N xs o) fun _ _ => N2.pure _ _
theorem rInt_N (a : IntKind) (l : List V1) : N2 (rInt a l) := by unfold rInt; split <;> first | exact N2.cond (N2.pure _ _) N2.none | exact N2.none
theorem rBool_N (l : List V1) : N2 (rBool l) := by unfold rBool; split <;> first | exact N2.pure _ _ | exact N2.none
theorem rStr_N (l : List V1) : N2 (rStr l) := by unfold rStr; split <;> first | exact N2.pure _ _ | exact N2.none
theorem rTerm_N (l : List V1) : N2 (rTerm l) := by unfold rTerm; split <;> first | exact N2.pure _ _ | exact N2.none
theorem rOwn_N (j : Nat) (l : List V1) : N1 (rOwn j l) := by unfold rOwn; split <;> first | exact N1.cond (N1.pure _) N1.none | exact N1.none
theorem rPtr_N (j : Nat) (l : List V1) : N1 (rPtr j l) := by unfold rPtr; split <;> first | exact N1.cond (N1.pure _) N1.none | exact N1.none
theorem rSl_N (e : SK) (l : List V1) : N2 (rSl e l) := by
 cases e
 ·show N2 fun k => rTs l fun x l => k (SD.ts x) l; refine N2.then2 (g := rTs l) ?_ fun _ _ => N2.pure _ _; unfold rTs; split <;> first | exact N2.pure _ _ | exact N2.none
 ·show N2 fun k => rIs l fun x l => k (SD.is x) l; refine N2.then2 (g := rIs l) ?_ fun _ _ => N2.pure _ _; unfold rIs; split <;> first | exact N2.pure _ _ | exact N2.none
 ·show N2 fun k => rIss l fun x l => k (SD.iss x) l; refine N2.then2 (g := rIss l) ?_ fun _ _ => N2.pure _ _; unfold rIss; split <;> first | exact N2.pure _ _ | exact N2.none
 ·show N2 fun k => rSs l fun x l => k (SD.ss x) l; refine N2.then2 (g := rSs l) ?_ fun _ _ => N2.pure _ _; unfold rSs; split <;> first | exact N2.pure _ _ | exact N2.none
 ·show N2 fun k => rBs l fun x l => k (SD.bs x) l; refine N2.then2 (g := rBs l) ?_ fun _ _ => N2.pure _ _; unfold rBs; split <;> first | exact N2.pure _ _ | exact N2.none
theorem arrTsC_N (e : TypeId) (o : List AObj) : N2 (arrTsC e o) := by unfold arrTsC; split <;> first | exact N2.cond (N2.pure _ _) N2.none | exact N2.none
theorem arrC_N (e : TypeId × SK) (o : List AObj) : N2 (arrC e o) := by
 unfold arrC; split
 ·exact N2.then2 (arrTsC_N _ _) fun _ _ => N2.pure _ _
 ·refine N2.then2 (g := arrIsC e.1 o) ?_ fun _ _ => N2.pure _ _; unfold arrIsC; split <;> first | exact N2.cond (N2.pure _ _) N2.none | exact N2.none
 ·refine N2.then2 (g := arrIssC e.1 o) ?_ fun _ _ => N2.pure _ _; unfold arrIssC; split <;> first | exact N2.cond (N2.pure _ _) N2.none | exact N2.none
 ·refine N2.then2 (g := arrSsC e.1 o) ?_ fun _ _ => N2.pure _ _; unfold arrSsC; split <;> first | exact N2.cond (N2.pure _ _) N2.none | exact N2.none
 ·refine N2.then2 (g := arrBsC e.1 o) ?_ fun _ _ => N2.pure _ _; unfold arrBsC; split <;> first | exact N2.cond (N2.pure _ _) N2.none | exact N2.none
theorem rOwnT_N {α β γ δ : Type} {j : Nat} {l : List V1} {f : Int → Int → List V1 → (α → β → γ → δ → OR) → OR} (hf : ∀ x y z, N4 (f x y z)) : N4 fun k => rOwnT j l fun x y z => f x y z k := by
 unfold rOwnT; split
 ·exact N4.cond (hf _ _ _) N4.none
 ·exact N4.none
theorem valT_N (own : Bool) (c b : Nat) (t : TypeId) (l : List V1) (o : List AObj) : N4 (valT P own c b t l o) := by
 unfold valT; split
 ·exact N4.then2 (rInt_N _ _) fun _ _ => N4.pure _ _ _ _
 ·exact N4.then2 (rBool_N _) fun _ _ => N4.pure _ _ _ _
 ·exact N4.then2 (rStr_N _) fun _ _ => N4.pure _ _ _ _
 ·split
  ·exact N4.cond (N4.then1 (rOwn_N _ _) fun _ => N4.then2 (arrC_N _ _) fun _ _ => N4.pure _ _ _ _) (N4.then2 (rSl_N _ _) fun _ _ => N4.pure _ _ _ _)
  ·exact N4.none
 ·split
  ·exact N4.cond (rOwnT_N fun _ _ _ => N4.then2 (arrTsC_N _ _) fun _ _ => N4.pure _ _ _ _) (N4.then2 (rTerm_N _) fun _ _ => N4.pure _ _ _ _)
  ·exact N4.none
 ·refine N4.then1 (rPtr_N _ _) fun _ => N4.then2 (objC_N _) fun _ _ => ?_
  split
  ·exact N4.then1 (likeL_N _ _) fun _ => N4.pure _ _ _ _
  ·exact N4.none
 ·exact N4.none
theorem valsT_N (own : Bool) : ∀ (ts : List TypeId) (c b : Nat) (l : List V1) (o : List AObj), N2 (valsT P own ts c b l o)
 | [], c, b, l, o => by
  show N2 fun k => nilV l (nilO o (k [] []))
  unfold nilV; split; (unfold nilO; split <;> first | exact N2.pure _ _ | exact N2.none); exact N2.none
 | t :: ts, c, b, l, o => by
  show N2 fun k => valT P own c b t l o fun v n l o => valsT P own ts (c + n.length) (b + n.length) l o fun vs ns => k (v :: vs) (n ++ ns)
  exact N2.then4 (valT_N P own c b t l o) fun v n l o => N2.then2 (valsT_N own ts _ _ l o) fun _ _ => N2.pure _ _
theorem callGo_N (F : Callee) (ow : Bool) (f : FuncId) (tys : List TypeId) (sl rm : Nat) (args : List V1) (h : List AObj) : N2 fun k => callGo P F ow f tys sl rm k args h := by
 unfold callGo
 exact N2.cond (N2.bind fun r => N2.then2 (backO_N _ _) fun os o => N2.then2 (valsT_N P _ _ _ _ _ _) fun vs ns => N2.cond (N2.pure _ _) N2.none) N2.none
theorem callK_N (F : Callee) (D : Dec) (f : FuncId) (args : List V1) (h : List AObj) (sl rm : Nat) : N2 fun k => callK P F D f args h sl rm k := by
 unfold callK; split
 ·exact N2.none
 ·exact N2.cond (N2.cond (callGo_N P _ _ _ _ _ _ _ _) (N2.then2 (sealVs_N _ _) fun args h => callGo_N P _ _ _ _ _ _ _ _)) N2.none
theorem evBuiltin_N (b : Builtin) (args : List AV) (tys : List TypeId) (h : List AObj) (sl : Nat) : N2 (evBuiltin P b args tys h sl) := by
 unfold evBuiltin; split
 ·exact N2.then1 (evLen_N P _ _ _) fun _ => N2.pure _ _
 ·exact N2.cond (N2.then2 (evAppend_N P _ _ _ _ _) fun _ _ => N2.pure _ _) N2.none
 ·exact N2.then1 (evMax_N _ _ _) fun _ => N2.pure _ _
 ·exact N2.then1 (evMax_N _ _ _) fun _ => N2.pure _ _
 ·exact N2.none
theorem closure_N (F : Callee) (D : Dec) (o : Oper) (ρ : Operand → AV) (x : Operand) (args : Array Operand) (h : List AObj) (sl : Nat) : N2 fun k => (match ρ x with
     | .v (.one (.fn f l)) => (v1L (args.toList.map ρ)).bind fun vs => callK P F D f (vs ++ l.map fun j => .one (.ptr j 0)) h sl (nObj P D o) k
     | _ => none) := by
 split
 ·exact N2.bind fun vs => callK_N P _ _ _ _ _ _ _
 ·exact N2.none
theorem evOp_N (F : Callee) (D : Dec) (o : Oper) (ρ : Operand → AV) (h : List AObj) (sl : Nat) : N2 (evOp P F D o ρ h sl) := by
 obtain ⟨dst, op, ty, pos, aft, gd⟩ := o
 show N2 fun k => evOp P F D ⟨dst, op, ty, pos, aft, gd⟩ ρ h sl k
 cases op <;> simp only [evOp]
 case move => exact N2.pure _ _
 case assign => exact N2.pure _ _
 case pick =>
  split
  ·exact N2.cond (N2.pure _ _) (N2.pure _ _)
  ·exact N2.none
 case alloc => exact N2.bind fun _ => N2.pure _ _
 case box => exact N2.bind fun _ => N2.pure _ _
 case build => exact N2.then1 (evBuild_N P _ _) fun _ => N2.pure _ _
 case buildSlice =>
  split
  ·exact N2.cond (N2.bind fun _ => N2.then2 (elemsOf_N _ _ _ _) fun _ _ => N2.pure _ _) N2.none
  ·exact N2.none
 case load => exact N2.then1 (evLoad_N P _ _ _) fun _ => N2.pure _ _
 case store => exact N2.then1 (evStore_N P _ _ _ _) fun _ => N2.pure _ _
 case nilCheck => exact N2.then1 (evNil_N _ _) fun _ => N2.pure _ _
 case binOp => exact N2.then1 (evBin_N P _ _ _ _) fun _ => N2.pure _ _
 case unOp => exact N2.then1 (evUn_N _ _) fun _ => N2.pure _ _
 case convert => exact N2.then1 (evConv_N P _ _ _ _) fun _ => N2.pure _ _
 case makeFunc =>
  split
  ·exact N2.bind fun _ => N2.pure _ _
  ·exact N2.none
 case makeSlice => exact N2.then2 (evMake_N P _ _ _ _ _) fun _ _ => N2.pure _ _
 case slice => exact N2.then2 (evSlice_N P _ _ _ _ _ _) fun _ _ => N2.pure _ _
 case fieldAddr => exact N2.bind fun _ => N2.then1 (evField_N _ _ _) fun _ => N2.pure _ _
 case indexAddr => exact N2.then1 (evIndexAddr_N P _ _ _ _) fun _ => N2.pure _ _
 case index => exact N2.then1 (evIndex_N P _ _ _) fun _ => N2.pure _ _
 case extract => exact N2.then1 (evExtract_N _ _) fun _ => N2.pure _ _
 case call c =>
  obtain ⟨callee, args, tys⟩ := c
  cases callee with
  | builtin bi => exact evBuiltin_N P _ _ _ _ _
  | invoke q m => exact N2.none
  | value f =>
   cases f with
   | func f =>
    refine N2.cond ?_ (N2.bind fun _ => callK_N P _ _ _ _ _ _ _)
    split
    ·exact N2.cond (N2.pure _ _) N2.none
    ·exact N2.none
   | tmp t => exact closure_N P F D _ ρ _ _ h sl
   | const v => exact closure_N P F D _ ρ _ _ h sl
   | global g => exact closure_N P F D _ ρ _ _ h sl
 all_goals exact N2.none
end
end Go.Ab
end
