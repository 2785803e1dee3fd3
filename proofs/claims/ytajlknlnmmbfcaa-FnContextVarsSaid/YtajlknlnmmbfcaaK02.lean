/- Part 2 of the proof. -/
import Derived.Test.YtajlknlnmmbfcaaK01
set_option linter.unusedVariables false
set_option linter.unusedSimpArgs false
section
namespace Go.Ab
open Go Go.Dk
section
variable {P : Program} {w0 w w' : World} {M Z0 : bn} {b : Nat} {G : List GO} {s : AS} {tv : List Value} {r : List V1 × List aq}
variable {ρ : Operand → Value} {x y : Operand} {d : Option Tmp} {ty t t' : TypeId} {pos : String} {aft : Array Edge} {gd : Option (Nat × Bool)} {vx vy : AV} {X : Value}
theorem Af (hI : bq w0 M Z0 b G s tv w) (hb : b < G.length) (hg : r4 w w') {e : TypeId} {D : SD} {xs : List Value} {val : Value} (hE : aE (zn w0 Z0 s G) w D xs) (hval : ∃ a c, val = .slice a D.len c)
   (hq : (iW e D.kind.size val D.len xs).own w' ∧ ∀ k, (iW e D.kind.size val D.len xs).foot k → w.heap.size ≤ k ∧ k < w'.heap.size) :
   bq w0 M Z0 (b + 1) (G.set b (.arr 0 val D.kind.size xs)) ⟨s.tmps, s.heap.set b (.arr e D 0 false)⟩ tv w' ∧
   cM (G.set b (.arr 0 val D.kind.size xs)) (zn w0 Z0 ⟨s.tmps, s.heap.set b (.arr e D 0 false)⟩ (G.set b (.arr 0 val D.kind.size xs))) w' (.own b 0) val ∧ Up G (G.set b (.arr 0 val D.kind.size xs)) := by
 have hup : Up G (G.set b (.arr 0 val D.kind.size xs)) := Up.set fun g0 h0 => by rw [hI.fresh b (Nat.le_refl _) hb] at h0; obtain rfl := Option.some.inj h0; trivial
 refine ⟨(hI.newObj hb hg (o := .arr e D 0 false) (g := .arr 0 val D.kind.size xs) (fun q hq' => ?_) (fun Z' hk => ⟨rfl, rfl, hE.aM hk, hval⟩)).1, ⟨.inr ⟨0, val, D.kind.size, xs, by simp [hb], Nat.le_refl _, fun _ => rfl⟩, ?_⟩, hup⟩
 ·simp only [ji, List.mem_singleton] at hq'
  subst hq'; exact hq
 ·obtain ⟨a, c, rfl⟩ := hval; rfl
theorem BN {e sz n : Nat} {cs : List Value} (hn : cs.length = n * sz) (hm : n ≤ maxLen) :
   (iW e sz (.slice (some ⟨w.heap.size, 0, none⟩) n n) n cs).own (w.alloc (.cells cs.toArray e (0, 0))) ∧
   ∀ k, (iW e sz (.slice (some ⟨w.heap.size, 0, none⟩) n n) n cs).foot k → w.heap.size ≤ k ∧ k < (w.alloc (.cells cs.toArray e (0, 0))).heap.size := by
 cases n with
 | zero =>
  rw [fw]
  rw [Nat.zero_mul] at hn
  exact ⟨⟨rfl, List.eq_nil_of_length_eq_zero hn, rfl⟩, fun k h => h.elim⟩
 | succ n =>
  rw [eF (by omega)]
  refine ⟨⟨hn, .inr ⟨w.heap.size, n + 1, cs.toArray, rfl, Nat.zero_le _, mT _ _, Nat.le_refl _, hm, by simp [hn], ?_⟩⟩, fun k hk => ?_⟩
  ·simp only [List.toList_toArray]; rw [← hn, List.take_length]
  ·simp only [yw, Value.ownBlock] at hk
   obtain rfl := Option.some.inj hk
   rw [iS]; omega
theorem oD {n sz e : Nat} {i : TypeInfo} {z : Value} {ps : List (Nat × Operand)} {vs cs : List Value} (hu : P.underlying t = some (.slice e)) (hi : P.info? e = some i) (hz : i.zero = some z) (hsz0 : i.size = sz)
   (hix : ps.map (·.1) = List.range' 0 ps.length) (hvs : ps.map (fun p => ρ p.2) = vs) (hn : ps.length = n) (hsz : ∀ v ∈ vs, v.cells.size = sz) (hb : n * sz ≤ 16777216) (hcs : lZ vs = cs) :
   (execOp ρ ⟨d, .buildSlice t n ps.toArray, ty, pos, aft, gd⟩).run P w = .ok (.value (.slice (some ⟨w.heap.size, 0, none⟩) n n)) (w.alloc (.cells cs.toArray e (0, 0))) := by
 have hlim : ¬ (n * i.size > 2 ^ 24) := by rw [hsz0]; simpa using hb
 have hps : ps.map (fun p => (p.1, ρ p.2)) = fD 0 vs := by rw [jR ρ ps 0 hix, hvs]
 have hvl : vs.length = n := by rw [← hvs, ← hn]; simp
 have hparts : ((ps.toArray.map fun (p : Nat × Operand) => (p.1, ρ p.2)).toList) = fD 0 vs := by simpa using hps
 have key : ∀ zero : Array Value, Instr.fill (fun j => some (j * i.size, i.size)) ((Array.range (n * i.size)).map (zero[· % zero.size]!)) ((ps.toArray.map fun (p : Nat × Operand) => (p.1, ρ p.2)).toList) = some cs.toArray := by
  intro zero
  obtain ⟨B, hB, hl⟩ := qk i.size vs 0 ((Array.range (n * i.size)).map (zero[· % zero.size]!)) (by rw [hsz0]; exact hsz) (by simp [hvl])
  have hBcs : B = cs.toArray := by
   apply Array.toList_inj.1
   rw [hl, Nat.zero_mul, C4 _ _ (by rw [ic i.size vs (by rw [hsz0]; exact hsz)]; simp [hvl]), hcs]
  rw [hparts, hB, hBcs]
 simp only [execOp, Instr.buildSlice, Sem.run_bind, Go.Dk.run_underlying hu, Result.andThen_ok, Go.Dk.run_sizeOf hi, if_neg hlim]
 by_cases h0 : n * i.size = 0
 ·rw [if_pos h0]
  simp only [Sem.run_bind, Sem.run_pure, Result.andThen_ok, key, newRow, newObj, Sem.run]
  rfl
 ·rw [if_neg h0]
  have hzv : (zeroValue e).run P w = .ok z w := by
   simp only [zeroValue, Sem.run_bind, Go.Dk.run_typeInfo hi, Result.andThen_ok, hz, Sem.run_pure]
  simp only [Sem.run_bind, hzv, Sem.run_pure, Result.andThen_ok, key, newRow, newObj, Sem.run]
  rfl
theorem uc : ∀ (ps : List (Nat × Operand)) (k : Nat), zh k ps = true → ps.map (·.1) = List.range' k ps.length
 | [], _, _ => rfl
 | p :: ps, k, h => by
  simp only [zh, Bool.and_eq_true, Nat.beq_eq] at h
  simp only [List.map_cons, List.length_cons, List.range'_succ, uc ps (k + 1) h.2, h.1]
theorem wE {e : TypeId} {k : SK} : k.size ≤ 3 := by cases k <;> decide
theorem kA (hI : bq w0 M Z0 b G s tv w) (hb : b < G.length) {n : Nat} {ps : Array (Nat × Operand)} {ρa : Operand → AV} {k : AV → List aq → OR} (hρ : ∀ x, RV G (zn w0 Z0 s G) w (ρa x) (ρ x))
   (h : (match cn P t with
    | some e => cond (zh 0 ps.toList && (Nat.beq ps.toList.length n && Nat.ble n 4194304))
     ((csL (ps.toList.map fun p => ρa p.2)).bind fun cs => jK e.2 s.heap cs e.2.nil fun d h => k (.v (.one (.own b 0))) (h.set b (.arr e.1 d 0 false))) none
    | none => none) = some r) :
   ∃ v h' G' w' X, k v h' = some r ∧ (execOp ρ ⟨d, .buildSlice t n ps, ty, pos, aft, gd⟩).run P w = .ok (.value X) w' ∧ bq w0 M Z0 (b + 1) G' ⟨s.tmps, h'⟩ tv w' ∧ RV G' (zn w0 Z0 ⟨s.tmps, h'⟩ G') w' v X ∧ h'.length = s.heap.length ∧ Up G G' := by
 split at h
 ·rename_i e hk
  replace h := al h; obtain ⟨hc, h⟩ := h
  simp only [Bool.and_eq_true, Nat.beq_eq, Nat.ble_eq] at hc
  obtain ⟨hix, hlen, hn⟩ := hc
  replace h := bind_some h; obtain ⟨cs, hcs, h⟩ := h
  obtain ⟨hu, hke⟩ := fM hk
  obtain ⟨_, i, z, hi, hz, hsz, _, _⟩ := fA hke
  obtain ⟨xss, hxs, hxr⟩ := sX (Xs := ps.toList.map fun p => ρ p.2) hcs ⟨by simp, fun j a c ha hc => by
   rw [List.getElem?_map] at ha hc
   obtain ⟨p, hp, rfl⟩ := Option.map_eq_some_iff.1 ha
   rw [hp] at hc
   obtain rfl := Option.some.inj hc
   exact hρ p.2⟩
  replace h := kn hI hxr (iM e.2) (SK.xK e.2) h
  obtain ⟨D, h', h, hs, he, hDl, hDk, hall⟩ := h
  have hcl : cs.length = n := by
   have h1 := hxr.1
   have h2 : (ps.toList.map fun p => ρ p.2).length = xss.length := by have := congrArg List.length hxs; simpa using this
   rw [h1, ← h2]; simp [← hlen]
  have hDn : D.len = n := by rw [hDl, SK.iG, Nat.zero_add, hcl]
  have hflat : lZ (ps.toList.map fun p => ρ p.2) = xss.flatten := by
   have : ∀ (Xs : List Value) (xss : List (List Value)), Xs.map Value.cells = xss.map List.toArray → lZ Xs = xss.flatten := by
    intro Xs
    induction Xs with
    | nil => intro xss h; cases xss with | nil => rfl | cons => simp at h
    | cons X Xs ih =>
     intro xss h
     cases xss with
     | nil => simp at h
     | cons x xss =>
      simp only [List.map_cons, List.cons.injEq] at h
      have := ih xss h.2
      simp only [lZ] at this
      simp only [lZ, List.flatMap_cons, List.flatten_cons, h.1, this]
   exact this _ _ hxs
  have hrun := oD (P := P) (w := w) (ρ := ρ) (d := d) (ty := ty) (pos := pos) (aft := aft) (gd := gd) (n := n) (ps := ps.toList) hu hi hz hsz (uc _ 0 hix) rfl hlen (fun v hv => by
   have : v.cells ∈ xss.map List.toArray := by rw [← hxs]; exact List.mem_map_of_mem hv
   obtain ⟨x, hx, hxe⟩ := List.mem_map.1 this
   rw [← hxe]; simpa using (hall x hx).1) (by have := @wE e.1 e.2; have := Nat.mul_le_mul hn this; omega) hflat
  have hlen2 := he.length
  simp only [List.nil_append] at he hlen2
  rw [hDk] at hlen2
  have hnew := Af (e := e.1) hs.inv hb (r4.alloc w (.cells xss.flatten.toArray e.1 (0, 0))) he ⟨some ⟨w.heap.size, 0, none⟩, n, by rw [hDn]⟩ (by
   rw [hDk, hDn]
   exact BN (by rw [← hDn]; exact hlen2) (by simp only [maxLen]; omega))
  rw [hDk] at hnew
  have hps : ps.toList.toArray = ps := by simp
  rw [hps] at hrun
  exact ⟨_, _, _, _, _, h, hrun, hnew.1, hnew.2.1.rv, by rw [List.length_set]; have := hs.inv.len; have := hI.len; simp at *; omega, hnew.2.2⟩
 ·cases h
theorem Ak {Z : bn} {D : SD} {ys : List Value} (h : aE Z w D ys) : ∀ u ∈ ys, u.oneCell' = true := by
 cases D with
 | ts l =>
  obtain ⟨hs, _, rfl, _⟩ := h
  induction hs generalizing l with
  | nil => intro u hu; simp [fH] at hu
  | cons t hs ih =>
   intro u hu
   rw [bH] at hu
   simp only [List.mem_cons] at hu
   rcases hu with rfl | rfl | rfl | hu
   ·rfl
   ·rfl
   ·rfl
   ·rename_i h1 h2; exact ih _ rfl (fun h hh => h2 h (List.mem_cons_of_mem _ hh)) u hu
 | is l => simp only [aE] at h; subst h; intro u hu; obtain ⟨x, _, rfl⟩ := List.mem_map.1 hu; rfl
 | iss l =>
  intro u hu
  obtain ⟨i, hi⟩ := List.getElem?_of_mem hu
  obtain ⟨a, _, c, cap, rfl, _⟩ := aw.get' h hi
  rfl
 | ss l => simp only [aE] at h; subst h; intro u hu; obtain ⟨x, _, rfl⟩ := List.mem_map.1 hu; rfl
 | bs l => simp only [aE] at h; subst h; intro u hu; obtain ⟨x, _, rfl⟩ := List.mem_map.1 hu; rfl
theorem m6 {v Y v' : Value} (hx : ρ x = v) (hy : ρ y = Y) (hr : (Builtin.append_ #[t, t] ty #[v, Y]).run P w = .ok v' w') :
   (execOp ρ ⟨d, .call ⟨.builtin .append, #[x, y], #[t, t]⟩, ty, pos, aft, gd⟩).run P w = .ok (.value v') w' := by
 unfold execOp
 simp only [resolve, invoke, builtin, Sem.run_bind, Sem.run_pure, Result.andThen_ok, List.map_toArray, List.map_cons, List.map_nil, hx, hy, hr]
theorem m9 {e : TypeId} {i : TypeInfo} {a : Option Addr} {n c : Nat} {Y : Value} (hu : P.underlying t = some (.slice e)) (hi : P.info? e = some i) (hY : ∃ a' c', Y = .slice a' 0 c') (hn : n ≤ c) :
   (Builtin.append_ #[t, t] ty #[.slice a n c, Y]).run P w = .ok (.slice a n c) w := by
 obtain ⟨a', c', rfl⟩ := hY
 have hf : (Builtin.firstCells i.size 0 (.slice a' 0 c')).run P w = .ok #[] w := by
  cases a' with
  | none => rfl
  | some a' => simp [Builtin.firstCells, loadCells, loadCellsFrom, Sem.run_pure]
 unfold Builtin.append_
 cases a with
 | none => simp [Sem.run_bind, Go.Dk.run_underlying hu, Go.Dk.run_sizeOf hi, Builtin.lenOf, Sem.run_pure, hn, hf]
 | some a => simp [Sem.run_bind, Go.Dk.run_underlying hu, Go.Dk.run_sizeOf hi, Builtin.lenOf, Sem.run_pure, hn, hf, storeCells]
theorem Ba {e : TypeId × SK} (hk : cn P t = some e) {v Y : Value} {n : Nat} {xs : List Value} (hown : (iW e.1 e.2.size v n xs).own w) (hv : ∃ a c, v = .slice a n c) {Z : bn} {D : SD} (hD : D.kind = e.2) (hY : RdS Z w D Y) (hroom : n + D.len ≤ 1099511627776) :
   ∃ v' w' ys, aE Z w D ys ∧ (Builtin.append_ #[t, t] ty #[v, Y]).run P w = .ok v' w' ∧ (iW e.1 e.2.size v' (n + D.len) (xs ++ ys)).own w' ∧ (∃ a c, v' = .slice a (n + D.len) c) ∧ Ext (iW e.1 e.2.size v n xs).foot w w' ∧
    ∀ k, (iW e.1 e.2.size v' (n + D.len) (xs ++ ys)).foot k → ((iW e.1 e.2.size v n xs).foot k ∨ w.heap.size ≤ k) ∧ k < w'.heap.size := by
 obtain ⟨hu, hke⟩ := fM hk
 obtain ⟨_, i, z, hi, hz, hsz, hzs, hby⟩ := fA hke
 have hpos := SK.size_pos e.2
 obtain ⟨a, c, hv⟩ := hv
 have hrow : n ≤ c ∧ (c = 0 → n = 0 ∧ xs = []) ∧ (c ≠ 0 → w.ownsRow 0 e.1 e.2.size v n xs ∧ ∀ k, (iW e.1 e.2.size v n xs).foot k ↔ v.ownBlock = some k) := by
  subst hv
  by_cases hc : c = 0
  ·subst hc
   rw [fw] at hown
   exact ⟨by rw [hown.1]; exact Nat.zero_le _, fun _ => ⟨hown.1, hown.2.1⟩, fun h => absurd rfl h⟩
  ·rw [eF hc] at hown
   have h1 : w.ownsRow 0 e.1 e.2.size (.slice a n c) n xs := hown
   refine ⟨?_, fun h => absurd h hc, fun _ => ⟨h1, fun k => by rw [eF hc]; rfl⟩⟩
   rcases h1.2 with ⟨h2, h3⟩ | ⟨g, cap, cur, h2, _, _, hn, _⟩
   ·rw [h3]; exact Nat.zero_le _
   ·injection h2 with _ _ h5; omega
 obtain ⟨hnc, hzero, hpos'⟩ := hrow
 by_cases h0 : D.len = 0
 ·have hY' : ∃ a' c', Y = .slice a' 0 c' := by obtain ⟨a', c', ys, hY, _⟩ := hY; exact ⟨a', c', by rw [hY, h0]⟩
  obtain ⟨a', c', ys, hYe, _, he, _⟩ := hY
  have hys : ys = [] := List.eq_nil_of_length_eq_zero (by rw [he.length, h0, Nat.zero_mul])
  subst hys
  refine ⟨v, w, [], he, ?_, by rw [h0, Nat.add_zero, List.append_nil]; exact hown, ⟨a, c, by rw [h0, Nat.add_zero]; exact hv⟩, Ext.refl _ _, fun k hk => ?_⟩
  ·rw [hv]; exact m9 hu hi hY' hnc
  ·rw [h0, Nat.add_zero, List.append_nil] at hk
   refine ⟨.inl hk, ?_⟩
   by_cases hc : c = 0
   ·subst hc; subst hv; rw [fw] at hk; exact hk.elim
   ·obtain ⟨h1, h2⟩ := hpos' hc
    exact (h1.lt k ((h2 k).1 hk)).2
 ·obtain ⟨bb, off, c', ys, rfl, he, hc⟩ := hY.ne (by omega)
  have hl : ys.length = D.len * e.2.size := by rw [he.length, hD]
  have hnews : ∀ j u, ys[j]? = some u → w.cell? (Addr.add ⟨bb, off, none⟩ j) = some u := fun j u hj => by rw [iO]; exact hc j u hj
  have hone := Ak he
  have hbytes : (n + D.len) * i.bytes ≤ 140737488355328 := by
   have : (n + D.len) * i.bytes ≤ 1099511627776 * 64 := Nat.mul_le_mul hroom hby
   omega
  have hap : P.underlying t = some (.slice e.1) ∧ ∃ i' z', P.info? e.1 = some i' ∧ i'.zero = some z' ∧ i'.size = e.2.size ∧ i'.bytes = i.bytes ∧ z'.cells.size = e.2.size ∧ 0 < e.2.size := ⟨hu, i, z, hi, hz, hsz, rfl, hzs, hpos⟩
  have fin : ∀ v' w', (Builtin.append_ #[t, t] ty #[v, .slice (some ⟨bb, off, none⟩) D.len c']).run P w = .ok v' w' → w'.ownsRow 0 e.1 e.2.size v' (n + D.len) (xs ++ ys) → Ext (iW e.1 e.2.size v n xs).foot w w' →
     (∀ b, v'.ownBlock = some b → (iW e.1 e.2.size v n xs).foot b ∨ w.heap.size ≤ b) →
     ∃ v' w' ys', aE Z w D ys' ∧ (Builtin.append_ #[t, t] ty #[v, .slice (some ⟨bb, off, none⟩) D.len c']).run P w = .ok v' w' ∧ (iW e.1 e.2.size v' (n + D.len) (xs ++ ys')).own w' ∧ (∃ a c, v' = .slice a (n + D.len) c) ∧ Ext (iW e.1 e.2.size v n xs).foot w w' ∧
      ∀ k, (iW e.1 e.2.size v' (n + D.len) (xs ++ ys')).foot k → ((iW e.1 e.2.size v n xs).foot k ∨ w.heap.size ≤ k) ∧ k < w'.heap.size := by
   intro v' w' hr ho hx hf
   have ho' := ho
   rcases ho.2 with ⟨_, h3⟩ | ⟨g, cap, cur, h2, _, _, hn, _⟩
   ·omega
   ·refine ⟨v', w', ys, he, hr, ?_, ⟨_, cap, h2⟩, hx, ?_⟩
    ·rw [h2, eF (by omega)]; rw [h2] at ho'; exact ho'
    ·rw [h2, eF (by omega)]
     intro k hk
     rw [h2] at hf ho'
     exact ⟨hf k hk, (ho'.lt k hk).2⟩
  by_cases hc0 : c = 0
  ·obtain ⟨rfl, rfl⟩ := hzero hc0
   subst hc0
   have hfoot : ∀ k, ¬ (iW e.1 e.2.size v 0 []).foot k := by subst hv; rw [fw]; exact fun k h => h
   cases a with
   | none =>
    obtain ⟨v', w', hr, ho, hg, hf⟩ := jk (P := P) w t ty hap v 0 [] (by rw [hv]; exact World.ownsRow_nil w 0 e.1 e.2.size) ⟨bb, off, none⟩ D.len c' ys hl hnews (fun u hu => hone u hu) hbytes (by omega)
    refine fin v' w' hr ho ((nD hg).jv fun k _ hk => ?_) fun b hb => .inr ?_
    ·rw [hv] at hk; cases hk
    ·rcases hf b hb with h | h
     ·rw [hv] at h; cases h
     ·exact h
   | some ad =>
    obtain ⟨v', w', hr, ho, hg⟩ := run_append_arg_grows (P := P) w t ty e.1 i z e.2.size i.bytes hu hi hz hsz rfl hzs hpos ad 0 0 [] (by simp) (fun j u hj => by simp at hj) ⟨bb, off, none⟩ D.len c' ys hl hnews (by omega) (by simp only [maxLen]; omega) hbytes
    rw [← hv] at hr
    refine fin v' w' hr ⟨ho.1, ho.2.imp id fun ⟨g, cap, cur, h1, h2, h3⟩ => ⟨g, cap, cur, h1, Nat.zero_le _, h3⟩⟩ ⟨hg.os, hg.tape, hg.output, hg.size, fun k hk _ => hg.block k hk nofun⟩ fun b hb => .inr (ho.lt b hb).1
  ·obtain ⟨h1, h2⟩ := hpos' hc0
   obtain ⟨v', w', hr, ho, hg, hf⟩ := jk (P := P) w t ty hap v n xs h1 ⟨bb, off, none⟩ D.len c' ys hl hnews (fun u hu => hone u hu) hbytes (by omega)
   exact fin v' w' hr ho ((nD hg).jv fun k _ hk => (h2 k).2 hk) fun b hb => (hf b hb).imp (h2 b).2 id
theorem BA {Z : bn} {D D' : SD} {xs ys : List Value} {k : SD → OR} (h1 : aE Z w D xs) (h2 : aE Z w D' ys) (h : D.app D' k = some r) : ∃ D'', k D'' = some r ∧ aE Z w D'' (xs ++ ys) ∧ D''.len = D.len + D'.len ∧ D''.kind = D.kind := by
 unfold SD.app at h
 split at h
 ·obtain ⟨hs, rfl, rfl, hr⟩ := h1
  obtain ⟨hs', rfl, rfl, hr'⟩ := h2
  exact ⟨_, h, ⟨hs ++ hs', by simp, by rw [lV], fun u hu => (List.mem_append.1 hu).elim (hr u) (hr' u)⟩, by simp [SD.len], rfl⟩
 ·simp only [aE] at h1 h2; subst h1 h2; exact ⟨_, h, by simp [aE], by simp [SD.len], rfl⟩
 ·exact ⟨_, h, aw.append h1 h2, by simp [SD.len], rfl⟩
 ·simp only [aE] at h1 h2; subst h1 h2; exact ⟨_, h, by simp [aE], by simp [SD.len], rfl⟩
 ·simp only [aE] at h1 h2; subst h1 h2; exact ⟨_, h, by simp [aE], by simp [SD.len], rfl⟩
 ·cases h
theorem o8 (hI : bq w0 M Z0 b G s tv w) (hb : b < G.length) {k : SV → List aq → OR} (hx : RV G (zn w0 Z0 s G) w vx (ρ x)) (hy : RV G (zn w0 Z0 s G) w vy (ρ y)) (h : jS P t vx vy s.heap b k = some r) :
   ∃ v h' G' w' X, k v h' = some r ∧ (execOp ρ ⟨d, .call ⟨.builtin .append, #[x, y], #[t, t]⟩, ty, pos, aft, gd⟩).run P w = .ok (.value X) w' ∧ bq w0 M Z0 (b + 1) G' ⟨s.tmps, h'⟩ tv w' ∧ cM G' (zn w0 Z0 ⟨s.tmps, h'⟩ G') w' v X ∧ h'.length = s.heap.length ∧ Up G G' := by
 unfold jS at h
 split at h
 ·cases h
 ·rename_i e hk
  split at h
  ·replace h := jB hI hy.1 h; obtain ⟨D, h, hrd⟩ := h
   replace h := al h; obtain ⟨hek, h⟩ := h
   have hek := SK.beq_eq hek
   split at h
   ·rename_i j v
    split at h
    ·rename_i e' D0 ver hj
     replace h := al h; obtain ⟨hc, h⟩ := h
     simp only [Bool.and_eq_true, Nat.beq_eq] at hc
     obtain ⟨hv, he'⟩ := hc
     obtain ⟨val, xs, hg, hel, hval, hown⟩ := hI.row hj
     have hX := ix hx.1 hg hv
     have happ : ∀ ys, aE (zn w0 Z0 s G) w D ys → ∃ D'', (cond (b8 D''.len) (k (.own j (ver + 1)) (s.heap.set j (.arr e' D'' (ver + 1) false))) none) = some r ∧ aE (zn w0 Z0 s G) w D'' (xs ++ ys) ∧ D''.len = D0.len + D.len ∧ D''.kind = D0.kind := fun ys hys => BA hel hys h
     have hrd' := hrd
     obtain ⟨a', c', ys0, _, _, hel0, _⟩ := hrd
     obtain ⟨D1, h1, _, hl1, hk1⟩ := happ ys0 hel0
     have hkk : D0.kind = e.2 := by
      cases D0 <;> cases D <;> first | exact hek.symm | (simp [SD.app] at h)
     have hroom : D0.len + D.len ≤ 1099511627776 := by
      have := (al h1).1
      simp only [b8, decide_eq_true_eq] at this
      omega
     obtain ⟨v', w', ys, hys, hr, hown', hval', hext, hfoot⟩ := Ba (P := P) (t := t) (ty := ty) (w := w) (v := val) (n := D0.len) (xs := xs) hk (by rw [he', ← hkk]; exact hown) hval hek.symm hrd' hroom
     obtain ⟨D'', h2, hel'', hl'', hk''⟩ := happ ys hys
     have h2' := (al h2).2
     have hup : Up G (G.set j (.arr (ver + 1) v' D0.kind.size (xs ++ ys))) := Up.set fun g0 h0 => by rw [hg] at h0; obtain rfl := Option.some.inj h0; exact ⟨rfl, .inl (Nat.lt_succ_self _)⟩
     have hu := hI.B6 (o' := .arr e' D'' (ver + 1) false) (g' := .arr (ver + 1) v' D0.kind.size (xs ++ ys)) (q := iW e' D0.kind.size val D0.len xs) (q' := iW e' D0.kind.size v' D''.len (xs ++ ys)) hj hg nofun rfl
      (by rw [← he', hkk]; exact hext) rfl (by rw [← he', hkk, hl'']; exact hown') (by rw [← he', hkk, hl'']; exact hfoot) hup
      (fun Z' hk => ⟨rfl, hk''.symm ▸ rfl, hel''.aM hk, by rw [hl'']; exact hval'⟩)
     refine ⟨_, _, _, w', v', h2', m6 hX rfl hr, hu.1.raise (Nat.le_succ _), ⟨.inr ⟨ver + 1, v', D0.kind.size, xs ++ ys, by simp [aC hg], Nat.le_refl _, fun _ => rfl⟩, ?_⟩, by simp, hup⟩
     obtain ⟨a, c, rfl⟩ := hval'; rfl
    ·cases h
   ·replace h := al h; obtain ⟨hroom, h⟩ := h
    simp only [b8, decide_eq_true_eq] at hroom
    obtain ⟨a, hX⟩ := hx.1
    obtain ⟨v', w', ys, hys, hr, hown', hval', hext, hfoot⟩ := Ba (P := P) (t := t) (ty := ty) (w := w) (v := .slice a 0 0) (n := 0) (xs := []) hk (by rw [fw]; exact ⟨rfl, rfl, rfl⟩) ⟨a, 0, rfl⟩ hek.symm hrd (by omega)
    rw [fw] at hext hfoot
    simp only [Nat.zero_add, List.nil_append] at hown' hval' hfoot
    have hnew := Af (e := e.1) (b := b) hI hb (hext.jv fun _ _ h => h) hys hval' ⟨by rw [← hek]; exact hown', fun k hk => by rw [← hek] at hk; exact ⟨(hfoot k hk).1.resolve_left id, (hfoot k hk).2⟩⟩
    exact ⟨_, _, _, w', v', h, m6 hX rfl hr, hnew.1, hnew.2.1, by simp, hnew.2.2⟩
   ·cases h
  ·cases h
theorem mU (n : Nat) (t : HT) : fo (List.replicate n t) = (List.replicate n [.int .i64 t.k, .int .i64 t.n, t.sl]).flatten := by
 induction n with
 | zero => rfl
 | succ n ih => rw [List.replicate_succ, bH, ih, List.replicate_succ, List.flatten_cons]; rfl
theorem jz {α : Type} (n : Nat) (a : α) : (List.replicate n [a]).flatten = List.replicate n a := by
 induction n with
 | zero => rfl
 | succ n ih => rw [List.replicate_succ, List.flatten_cons, ih, List.replicate_succ]; rfl
theorem uK {Z : bn} {e : TypeId} {k : SK} {n : Nat} {D : SD} (hz : AD P e k = true) (h : yN n k = some D) : ∃ zs, me P e = some zs ∧ zs.length = k.size ∧ aE Z w D (List.replicate n zs).flatten ∧ D.len = n ∧ D.kind = k := by
 unfold AD at hz
 split at hz
 ·rename_i h1
  simp only [Bool.and_eq_true, decide_eq_true_eq] at hz
  obtain ⟨rfl, rfl⟩ := hz
  simp only [yN, Option.some.injEq] at h; subst h
  refine ⟨_, h1, rfl, ⟨List.replicate n (.mk 0 0 none 0 []), by simp [HT.er, HT.erL], ?_, fun u hu => ?_⟩, by simp [SD.len], rfl⟩
  ·rw [mU]; rfl
  ·rw [(List.mem_replicate.1 hu).2]; exact E0
 ·rename_i h1
  simp only [decide_eq_true_eq] at hz; subst hz
  simp only [yN, Option.some.injEq] at h; subst h
  exact ⟨_, h1, rfl, by simp [aE, jz], by simp [SD.len], rfl⟩
 ·rename_i h1
  simp only [decide_eq_true_eq] at hz; subst hz
  simp only [yN, Option.some.injEq] at h; subst h
  exact ⟨_, h1, rfl, by simp [aE, jz], by simp [SD.len], rfl⟩
 ·rename_i h1
  simp only [decide_eq_true_eq] at hz; subst hz
  simp only [yN, Option.some.injEq] at h; subst h
  exact ⟨_, h1, rfl, by simp [aE, jz], by simp [SD.len], rfl⟩
 ·cases hz
theorem sj (hI : bq w0 M Z0 b G s tv w) (hb : b < G.length) {k : SV → List aq → OR} (hx : RV G (zn w0 Z0 s G) w vx (ρ x)) (hy : RV G (zn w0 Z0 s G) w vy (ρ y)) (h : pU P t vx vy s.heap b k = some r) :
   ∃ v h' G' w' X, k v h' = some r ∧ (execOp ρ ⟨d, .makeSlice t x y, ty, pos, aft, gd⟩).run P w = .ok (.value X) w' ∧ bq w0 M Z0 (b + 1) G' ⟨s.tmps, h'⟩ tv w' ∧ cM G' (zn w0 Z0 ⟨s.tmps, h'⟩ G') w' v X ∧ h'.length = s.heap.length ∧ Up G G' := by
 unfold pU at h
 replace h := bJ h hx; obtain ⟨n, hX, h⟩ := h
 replace h := bJ h hy; obtain ⟨m, hY, h⟩ := h
 replace h := al h; obtain ⟨hc, h⟩ := h
 simp only [Bool.and_eq_true, decide_eq_true_eq] at hc
 obtain ⟨rfl, hn0, hn⟩ := hc
 split at h
 ·rename_i e hk
  replace h := al h; obtain ⟨hz, h⟩ := h
  replace h := bind_some h; obtain ⟨D, hD, h⟩ := h
  obtain ⟨zs, hzb, hzl, hel, hDl, hDk⟩ := uK (Z := zn w0 Z0 s G) (w := w) hz hD
  obtain ⟨hu, hke⟩ := fM hk
  obtain ⟨_, i, z, hi, hiz, hsz, hzs, hby⟩ := fA hke
  have hzz := hzb
  unfold me at hzz
  simp only [hi, hiz, Option.some.injEq] at hzz
  have hs3 := @wE e.1 e.2
  have hpos := SK.size_pos e.2
  have hr := run_makeSlice (P := P) w t e.1 i z hu hi hiz .i64 .i64 n n (by omega) (by omega) (by
     rw [hsz]
     have := Nat.mul_le_mul (show n.toNat ≤ 4194304 by omega) hs3
     omega) (by
     have : (i.bytes : Int) * n ≤ 64 * 4194304 := Int.mul_le_mul (by omega) (by omega) (by omega) (by omega)
     omega) (by omega)
  have hcs : madeCells z.cells (n.toNat * i.size) = ((List.replicate n.toNat zs).flatten).toArray := by
   apply Array.toList_inj.1
   rw [← ET, hzl, hsz, ← hzz]
  have hlen := hel.length
  rw [hDk] at hlen
  have hnew := Af (e := e.1) (b := b) hI hb (r4.alloc w (.cells ((List.replicate n.toNat zs).flatten).toArray e.1 (0, 0))) hel ⟨some ⟨w.heap.size, 0, none⟩, n.toNat, by rw [hDl]⟩ (by
   rw [hDk, hDl]
   exact BN (by rw [hDl] at hlen; exact hlen) (by simp only [maxLen]; omega))
  refine ⟨_, _, _, _, _, h, ?_, hnew.1, hnew.2.1, by simp, hnew.2.2⟩
  rw [hcs] at hr
  simp only [execOp, hX, hY, Sem.run_bind, hr, Result.andThen_ok, Sem.run_pure]
 ·cases h
theorem pC {Z : bn} {pl : List (Nat × Nat)} : ∀ {ps : List (Nat × AV)} {Xs : List Value} {z : List SV} {zs : List Value} {c : List SV}, aw (cM G Z w) z zs → aw (fun (p : Nat × AV) X => RV G Z w p.2 X) ps Xs → tM pl z ps = some c →
   ∃ cs : List Value, Instr.fill (pl.toArray[·]?) zs.toArray ((ps.map (·.1)).zip Xs) = some cs.toArray ∧ aw (cM G Z w) c cs
 | [], Xs, z, zs, c, hz, ha, h => by
  obtain rfl := ha.aV
  simp only [tM, Option.some.injEq] at h; subst h
  exact ⟨zs, rfl, hz⟩
 | p :: ps, Xs, z, zs, c, hz, ha, h => by
  obtain ⟨X, Xs', rfl, h1, h2⟩ := ha.cons_inv
  simp only [tM] at h
  cases hpl : pl[p.1]? with
  | none => simp [hpl] at h
  | some o =>
   cases hcs : p.2.cs with
   | none => simp [hpl, hcs] at h
   | some cc =>
    simp only [hpl, hcs, Option.bind_some] at h
    cases hb : (Nat.beq cc.length o.2 && Nat.ble (o.1 + o.2) z.length) with
    | false => simp [hb] at h
    | true =>
     simp only [hb, cond_true] at h
     simp only [Bool.and_eq_true, Nat.beq_eq, Nat.ble_eq] at hb
     obtain ⟨xs, hx, hr⟩ := mj hcs h1
     obtain ⟨cs, hf, hc⟩ := pC (wv (off := o.1) hz hr) h2 h
     refine ⟨cs, ?_, hc⟩
     have hsz : X.cells.size = o.2 := by rw [hx, List.size_toArray, ← hr.1, hb.1]
     have hpl' : pl.toArray[p.1]? = some (o.1, o.2) := by simpa using hpl
     simp only [List.map_cons, List.zip_cons_cons, Instr.fill, hpl']
     rw [if_neg (by rw [hsz]; simp [← hz.1]; omega)]
     have hfold : (X.cells.zipIdx.foldl (fun cs (p : Value × Nat) => cs.setIfInBounds (o.1 + p.2) p.1) zs.toArray) = (gV zs o.1 xs).toArray := by
      apply Array.toList_inj.1
      have := sD xs 0 o.1 zs.toArray
      simp only [Nat.add_zero] at this
      rw [← this, hx, ← Array.foldl_toList]
      simp
     rw [hfold]; exact hf
theorem rz {Z : bn} {ps : Array (Nat × Operand)} {ρa : Operand → AV} {k : AV → OR} (hρ : ∀ x, RV G Z w (ρa x) (ρ x)) (h : qs P t (ps.toList.map fun p => (p.1, ρa p.2)) k = some r) :
   ∃ v X, k v = some r ∧ (execOp ρ ⟨d, .build t ps, ty, pos, aft, gd⟩).run P w = .ok (.value X) w ∧ RV G Z w v X := by
 unfold qs at h
 replace h := bind_some h; obtain ⟨pl, hpl, h⟩ := h
 replace h := bind_some h; obtain ⟨z, hz, h⟩ := h
 replace h := bind_some h; obtain ⟨c, hc, h⟩ := h
 obtain ⟨zs, hzb, hzr⟩ := tC hz
 obtain ⟨cs, hf, hcr⟩ := pC (G := G) (Z := Z) (w := w) (Xs := ps.toList.map fun p => ρ p.2) (hzr G Z w) ⟨by simp, fun i a c ha hc => by
  rw [List.getElem?_map] at ha hc
  obtain ⟨p, hp, rfl⟩ := Option.map_eq_some_iff.1 ha
  rw [hp] at hc
  obtain rfl := Option.some.inj hc
  exact hρ p.2⟩ hc
 refine ⟨_, .agg cs.toArray, h, ?_, cs, rfl, hcr⟩
 have hb : P.built t ((ps.map fun p => (p.1, ρ p.2)).toList) = some cs.toArray := by
  unfold me at hzb
  split at hzb
  ·rename_i i hi
   split at hzb
   ·rename_i zz hzz
    obtain rfl := Option.some.inj hzb
    unfold BM at hpl
    split at hpl
    ·rename_i fs hu
     unfold Program.built
     simp only [hi, hu, hzz, hpl]
     rw [← hf]
     congr 1
     ·have : ∀ l : List (Nat × Operand), (l.map fun p => (p.1, ρ p.2)) = ((l.map fun p => (p.1, ρa p.2)).map (·.1)).zip (l.map fun p => ρ p.2) := by
        intro l
        induction l with
        | nil => rfl
        | cons p l ih => simp only [List.map_cons, List.zip_cons_cons, ih]
      rw [← this]; simp
    ·cases hpl
   ·cases hzb
  ·cases hzb
 simp only [execOp, Sem.run_bind, Go.run_build w t _ _ hb, Result.andThen_ok, Sem.run_pure]
theorem vY {D : SD} {lo hi : Nat} (h : lo ≤ hi) (h2 : hi ≤ D.len) : (D.sub lo hi).len = hi - lo := by
 cases D <;> simp [SD.sub, SD.len] at * <;> omega
theorem yT (n : Nat) : ∀ hs : List HT, (fo hs).take (n * 3) = fo (hs.take n) := by
 induction n with
 | zero => intro hs; simp [fH]
 | succ n ih =>
  intro hs
  cases hs with
  | nil => simp [fH]
  | cons t hs => rw [bH, List.take_succ_cons, bH, ← ih]; rw [show (n + 1) * 3 = n * 3 + 1 + 1 + 1 by omega]; rfl
theorem yq (n : Nat) : ∀ hs : List HT, (fo hs).drop (n * 3) = fo (hs.drop n) := by
 induction n with
 | zero => intro hs; simp
 | succ n ih =>
  intro hs
  cases hs with
  | nil => simp [fH]
  | cons t hs => rw [bH, List.drop_succ_cons, ← ih]; rw [show (n + 1) * 3 = n * 3 + 1 + 1 + 1 by omega]; rfl
theorem AQ {Z : bn} {D : SD} {xs : List Value} (h : aE Z w D xs) (lo hi : Nat) : aE Z w (D.sub lo hi) ((xs.take (hi * D.kind.size)).drop (lo * D.kind.size)) := by
 cases D with
 | ts l =>
  obtain ⟨hs, rfl, rfl, hr⟩ := h
  refine ⟨(hs.take hi).drop lo, by rw [List.map_drop, List.map_take], ?_, fun t ht => hr t (List.mem_of_mem_take (List.mem_of_mem_drop ht))⟩
  simp only [SD.kind, SK.size]
  rw [yT, yq]
 | is l => simp only [aE] at h; subst h; simp [aE, SD.sub, SD.kind, SK.size, List.map_take, List.map_drop]
 | iss l => simp only [SD.kind, SK.size, Nat.mul_one]; exact (aw.take h hi).drop lo
 | ss l => simp only [aE] at h; subst h; simp [aE, SD.sub, SD.kind, SK.size, List.map_take, List.map_drop]
 | bs l => simp only [aE] at h; subst h; simp [aE, SD.sub, SD.kind, SK.size, List.map_take, List.map_drop]
theorem pk {o : Option (TypeId × SK)} {k : SK} (h : eY.kindEq o k = true) : ∃ e, o = some (e, k) := by
 cases o with
 | none => cases h
 | some a => have := SK.beq_eq h; exact ⟨a.1, by rw [← this]⟩
theorem sR {Z : bn} {lo : Option Operand} {ρa : Operand → AV} {v : AV} (hρ : ∀ x, RV G Z w (ρa x) (ρ x)) (h : lo.map ρa = some v) : ∃ X, lo.map ρ = some X ∧ RV G Z w v X := by
 cases lo with
 | none => cases h
 | some x => obtain rfl := Option.some.inj h; exact ⟨_, rfl, hρ x⟩
theorem lA {Z : bn} {lo hi : Option Operand} {ρa : Operand → AV} {n : Nat} {k : Int → Int → OR} (hρ : ∀ x, RV G Z w (ρa x) (ρ x)) (h : eY.bounds (lo.map ρa) (hi.map ρa) n k = some r) :
   ∃ l m : Int, k l m = some r ∧ 0 ≤ l ∧ l ≤ m ∧ m ≤ n ∧ (∀ sl cap : Nat, n ≤ cap → ∀ b, (Instr.sliceBounds b n cap (lo.map ρ) (hi.map ρ) none).run P w = .ok (l.toNat, m.toNat, cap) w) := by
 unfold eY.bounds at h
 split at h
 ·rename_i h1 h2
  have h1 : lo = none := by cases lo <;> simp_all
  have h2 : hi = none := by cases hi <;> simp_all
  subst h1 h2
  refine ⟨0, n, h, Int.le_refl _, by omega, Int.le_refl _, fun _ cap hc b => ?_⟩
  simp [Instr.sliceBounds, Sem.run_bind, Sem.run_pure]
 ·rename_i h1 h2
  have h2 : hi = none := by cases hi <;> simp_all
  subst h2
  obtain ⟨X, hX, hr⟩ := sR hρ h1
  replace h := bJ h hr; obtain ⟨l, rfl, h⟩ := h
  replace h := al h; obtain ⟨hc, h⟩ := h
  simp only [inB, Bool.and_eq_true, decide_eq_true_eq] at hc
  refine ⟨l, n, h, hc.1, hc.2.1, hc.2.2, fun _ cap hcap b => ?_⟩
  have hb : 0 ≤ l ∧ l ≤ (n : Int) := ⟨hc.1, hc.2.1⟩
  simp [Instr.sliceBounds, hX, Instr.sliceBound, asIntOf, Sem.run_bind, Sem.run_pure, hb]
 ·rename_i h1 h2
  have h1 : lo = none := by cases lo <;> simp_all
  subst h1
  obtain ⟨X, hX, hr⟩ := sR hρ h2
  replace h := bJ h hr; obtain ⟨m, rfl, h⟩ := h
  replace h := al h; obtain ⟨hc, h⟩ := h
  simp only [inB, Bool.and_eq_true, decide_eq_true_eq] at hc
  refine ⟨0, m, h, Int.le_refl _, hc.2.1, hc.2.2, fun _ cap hcap b => ?_⟩
  have hb : 0 ≤ m ∧ m ≤ (cap : Int) := ⟨hc.2.1, by omega⟩
  simp [Instr.sliceBounds, hX, Instr.sliceBound, asIntOf, Sem.run_bind, Sem.run_pure, hb]
 ·rename_i h1 h2
  obtain ⟨X, hX, hr⟩ := sR hρ h1
  obtain ⟨Y, hY, hr2⟩ := sR hρ h2
  replace h := bJ h hr; obtain ⟨l, rfl, h⟩ := h
  replace h := bJ h hr2; obtain ⟨m, rfl, h⟩ := h
  replace h := al h; obtain ⟨hc, h⟩ := h
  simp only [inB, Bool.and_eq_true, decide_eq_true_eq] at hc
  refine ⟨l, m, h, hc.1, hc.2.1, hc.2.2, fun _ cap hcap b => ?_⟩
  have hb : 0 ≤ m ∧ m ≤ (cap : Int) := ⟨by omega, by omega⟩
  have hb2 : 0 ≤ l ∧ l ≤ ((m.toNat : Nat) : Int) := ⟨hc.1, by omega⟩
  simp [Instr.sliceBounds, hX, hY, Instr.sliceBound, asIntOf, Sem.run_bind, Sem.run_pure, hb]
  intro hq; omega
theorem SlR.sub {Z : bn} {D : SD} {a : Option Addr} {n c : Nat} (h : SlR Z w D (.slice a n c)) {l m : Nat} (h1 : l ≤ m) (h2 : m ≤ n) : SlR Z w (D.sub l m) (.slice (if c = l then a else a.map (·.add (l * D.kind.size))) (m - l) (c - l)) := by
 obtain ⟨a', c', xs, hX, hc, hm, he, hb⟩ := h
 injection hX with e1 e2 e3
 subst e1 e2 e3
 refine ⟨_, _, _, by rw [vY h1 h2], by rw [vY h1 h2]; omega, by rw [vY h1 h2]; omega, AQ he l m, ?_⟩
 rcases hb with rfl | ⟨bb, off, rfl, hz, hc'⟩
 ·left; simp
 ·by_cases hcl : c = l
  ·left
   have : m = l := by omega
   subst this
   apply List.drop_eq_nil_of_le
   rw [List.length_take]; exact Nat.min_le_left _ _
  ·right
   refine ⟨bb, off + l * D.kind.size, by rw [if_neg hcl]; simp [iO], hz, fun i x hx => ?_⟩
   rw [List.getElem?_drop, List.getElem?_take] at hx
   split at hx
   ·rw [Nat.add_assoc]; exact hc' _ x hx
   ·cases hx
theorem qw (hI : bq w0 M Z0 b G s tv w) {lo hi mx : Option Operand} {ρa : Operand → AV} {k : SV → List aq → OR} (hρ : ∀ x, RV G (zn w0 Z0 s G) w (ρa x) (ρ x)) (h : eY P t (ρa x) (lo.map ρa) (hi.map ρa) (mx.map ρa) s.heap k = some r) :
   ∃ v h' X, k v h' = some r ∧ (execOp ρ ⟨d, .slice t x lo hi mx, ty, pos, aft, gd⟩).run P w = .ok (.value X) w ∧ dd w0 M Z0 b G s tv w h' ∧ cM G (zn w0 Z0 ⟨s.tmps, h'⟩ G) w v X := by
 have hx := hρ x
 unfold eY at h
 split at h
 ·rename_i m0 hmx
  obtain ⟨MX, hMX, hrm⟩ := sR hρ hmx
  replace h := al h; obtain ⟨hks, h⟩ := h
  have hne : cn P t ≠ none := by intro e; rw [e] at hks; cases hks
  replace h := bJ h hrm; obtain ⟨m, rfl, h⟩ := h
  have fin : ∀ {kk : TypeId × SK} {n cap : Nat} {a : Option Addr}, cn P t = some kk → ρ x = .slice a n cap → ∀ n' : Int, hi.map ρ = some (.int .i64 n') → m = 0 → n' = 0 → (lo = none ∨ lo.map ρ = some (.int .i64 0)) →
     ∃ a', (execOp ρ ⟨d, .slice t x lo hi mx, ty, pos, aft, gd⟩).run P w = .ok (.value (.slice a' 0 0)) w := by
   intro kk n cap a hk hX n' hH hm hn hlo
   subst hm hn
   obtain ⟨hu, hke⟩ := fM hk
   obtain ⟨_, i, z, hi', hz, hsz, _, _⟩ := fA hke
   refine ⟨a, ?_⟩
   rcases hlo with rfl | hlo
   ·simp [execOp, Instr.sliceAt, Instr.slice, Sem.run_bind, Go.Dk.run_underlying hu, hX, hMX, hH, Instr.sliceBounds, Instr.sliceBound, asIntOf, Go.Dk.run_sizeOf hi', Sem.run_pure]
   ·simp [execOp, Instr.sliceAt, Instr.slice, Sem.run_bind, Go.Dk.run_underlying hu, hX, hMX, hH, hlo, Instr.sliceBounds, Instr.sliceBound, asIntOf, Go.Dk.run_sizeOf hi', Sem.run_pure]
  have body : ∀ n' : Int, hi.map ρ = some (.int .i64 n') → m = 0 → n' = 0 → (lo = none ∨ lo.map ρ = some (.int .i64 0)) → (match ρa x with
   | .v (.one (.fr d)) => cond (eY.kindEq (cn P t) d.kind) (k (.emp (cn P t)) s.heap) none
   | .v (.one (.own j v)) => (match s.heap[j]? with
    | some (.arr _ d ver _) => cond (Nat.beq v ver && eY.kindEq (cn P t) d.kind) (k (.emp (cn P t)) s.heap) none
    | _ => none)
   | .v (.one (.emp e)) => (k (.emp (cn P t)) s.heap)
   | _ => none) = some r → cn P t ≠ none →
    ∃ v h' X, k v h' = some r ∧ (execOp ρ ⟨d, .slice t x lo hi mx, ty, pos, aft, gd⟩).run P w = .ok (.value X) w ∧ dd w0 M Z0 b G s tv w h' ∧ cM G (zn w0 Z0 ⟨s.tmps, h'⟩ G) w v X := by
   intro n' hH hm hn hlo h hne
   split at h
   ·rename_i D hax
    rw [hax] at hx
    replace h := al h; obtain ⟨hk, h⟩ := h
    obtain ⟨e, hk⟩ := pk hk
    obtain ⟨a, c, hX⟩ := SlR.val hx.1
    obtain ⟨a', hr⟩ := fin hk hX n' hH hm hn hlo
    exact ⟨_, _, _, h, hr, dd.refl hI, ⟨a', rfl⟩, rfl⟩
   ·rename_i j v hax
    rw [hax] at hx
    split at h
    ·rename_i D ver fz hj
     replace h := al h; obtain ⟨hk, h⟩ := h
     simp only [Bool.and_eq_true, Nat.beq_eq] at hk
     obtain ⟨e, hk2⟩ := pk hk.2
     obtain ⟨val, xs, hg, a, c, ys, hval, _⟩ := hI.pw hj
     obtain ⟨a', hr⟩ := fin hk2 ((ix hx.1 hg hk.1).trans hval) n' hH hm hn hlo
     exact ⟨_, _, _, h, hr, dd.refl hI, ⟨a', rfl⟩, rfl⟩
    ·cases h
   ·rename_i e hax
    rw [hax] at hx
    obtain ⟨a, hX⟩ := hx.1
    cases hk : cn P t with
    | none => exact absurd hk hne
    | some kk =>
     obtain ⟨a', hr⟩ := fin hk hX n' hH hm hn hlo
     exact ⟨_, _, _, h, hr, dd.refl hI, ⟨a', rfl⟩, rfl⟩
   ·cases h
  split at h
  ·rename_i H hhi hlo
   have hlo : lo = none := by cases lo <;> simp_all
   obtain ⟨HX, hHX, hrh⟩ := sR hρ hhi
   replace h := bJ h hrh; obtain ⟨n', rfl, h⟩ := h
   replace h := al h; obtain ⟨hc, h⟩ := h
   simp only [Bool.and_eq_true, decide_eq_true_eq] at hc
   exact body n' hHX hc.1 hc.2 (.inl hlo) h hne
  ·rename_i H L hhi hlo
   obtain ⟨HX, hHX, hrh⟩ := sR hρ hhi
   obtain ⟨LX, hLX, hrl⟩ := sR hρ hlo
   replace h := bJ h hrh; obtain ⟨n', rfl, h⟩ := h
   replace h := bJ h hrl; obtain ⟨l', rfl, h⟩ := h
   replace h := al h; obtain ⟨hc, h⟩ := h
   simp only [Bool.and_eq_true, decide_eq_true_eq] at hc
   exact body n' hHX hc.1 hc.2.1 (.inr (by rw [hLX, hc.2.2])) h hne
  ·cases h
 ·rename_i hmx
  have hmx : mx = none := by cases mx <;> simp_all
  subst hmx
  split at h
  ·rename_i a hax
   rw [hax] at hx
   split at h
   ·rename_i hu
    obtain ⟨l, m, h', hl, hlm, hm, hb⟩ := lA (P := P) hρ h
    refine ⟨_, _, _, h', ?_, dd.refl hI, uZ _⟩
    simp only [execOp, Instr.sliceAt, Instr.slice, Sem.run_bind, Go.Dk.run_underlying hu, Result.andThen_ok, kG hx, Option.map_none]
    simp [Sem.run_bind, hb 0 a.size (Nat.le_refl _) false, Sem.run_pure]
   ·cases h
  ·rename_i v hv hax
   rw [hax] at hx
   split at h
   ·rename_i e hk
    obtain ⟨hu, hke⟩ := fM hk
    obtain ⟨_, i, z, hi', hz, hsz, _, _⟩ := fA hke
    have hone : cM G (zn w0 Z0 s G) w v (ρ x) := by
     refine ⟨hx.1, hx.2 ?_⟩
     rintro rfl
     simp [mg] at h
    replace h := jO hI hone h; obtain ⟨v', h', h, hs, hv'⟩ := h
    split at h
    ·rename_i D
     replace h := al h; obtain ⟨hek, h⟩ := h
     have hek := SK.beq_eq hek
     obtain ⟨l, m, h2, hl, hlm, hm, hb⟩ := lA (P := P) hρ h
     have hsl := hv'.1
     obtain ⟨a, c, xs, hX, hc, _⟩ := id hsl
     rw [hX] at hsl
     have hsub := SlR.sub hsl (l := l.toNat) (m := m.toNat) (by omega) (by omega)
     refine ⟨_, _, _, h2, ?_, hs, hsub, rfl⟩
     simp only [execOp, Instr.sliceAt, Instr.slice, Sem.run_bind, Go.Dk.run_underlying hu, Result.andThen_ok, hX, Option.map_none]
     simp [Sem.run_bind, hb 0 c hc true, Sem.run_pure, Go.Dk.run_sizeOf hi', hsz, hek]
    ·cases h
   ·cases h
  ·cases h
end
end Go.Ab
namespace Go.Ab
open Go Go.Dk
theorem aN {j : Nat} : ∀ {l : List Nat}, dc j l = true ↔ j ∈ l
 | [] => by simp [dc]
 | i :: l => by simp [dc, aN (l := l)]
theorem pA : ∀ {l : List Nat}, xz l = true → l.Nodup
 | [], _ => List.nodup_nil
 | i :: l, h => by
  simp only [xz, Bool.and_eq_true, Bool.not_eq_true'] at h
  refine List.nodup_cons.2 ⟨fun hm => ?_, pA h.2⟩
  rw [aN.2 hm] at h; exact absurd h.1 (by simp)
theorem qY {js : List Nat} {n : Nat} (h : B8 js n = true) : js.Nodup ∧ ∀ j ∈ js, j < n := by
 simp only [B8, Bool.and_eq_true, List.all_eq_true, Nat.blt_eq] at h
 exact ⟨pA h.1, h.2⟩
theorem j6 : ∀ {js : List Nat} {j i : Nat}, idx j js = some i → js[i]? = some j
 | [], j, i, h => by simp [idx] at h
 | a :: js, j, i, h => by
  simp only [idx] at h
  cases hb : Nat.beq j a with
  | true => simp only [hb, cond_true, Option.some.injEq] at h; subst h; simp only [Nat.beq_eq] at hb; subst hb; rfl
  | false =>
   simp only [hb, cond_false, Option.map_eq_some_iff] at h
   obtain ⟨i', hi, rfl⟩ := h
   simpa using j6 hi
theorem td : ∀ {js l l' : List Nat}, idxs js l = some l' → aw (fun j i => js[i]? = some j) l l'
 | js, [], l', h => by simp only [idxs, Option.some.injEq] at h; subst h; exact aw.nil
 | js, j :: l, l', h => by
  simp only [idxs] at h
  cases hi : idx j js with
  | none => simp [hi] at h
  | some i =>
   simp only [hi, Option.bind_some, Option.map_eq_some_iff] at h
   obtain ⟨l'', hl, rfl⟩ := h
   exact aw.cons (j6 hi) (td hl)
def uI (js : List Nat) (h : List aq) : List aq := js.map fun j => h.getD j .dead
def gW (js : List Nat) (G : List GO) : List GO := js.map fun j => G.getD j .gone
def kill : List Nat → List aq → List aq
 | [], h => h
 | j :: js, h => kill js (h.set j .dead)
def fF : List Nat → List GO → List GO
 | [], G => G
 | j :: js, G => fF js (G.set j .gone)
theorem CZ (js : List Nat) (o : aq) (g : GO) : ji (Ha js o) g = ji o g := by cases o <;> cases g <;> rfl
theorem mH (js : List Nat) : ∀ (h : List aq) (G : List GO), aU (h.map (Ha js)) G = aU h G
 | [], _ => rfl
 | o :: h, [] => rfl
 | o :: h, g :: G => by simp only [List.map_cons, aU, CZ, mH js h G]
theorem wg (js : List Nat) (h : List aq) : tw js h = (uI js h).map (Ha js) := by simp [tw, uI]
theorem getD_set_ne {α : Type} {l : List α} {i j : Nat} {a d : α} (h : i ≠ j) : (l.set i a).getD j d = l.getD j d := by simp [List.getD, List.getElem?_set_ne h]
theorem CW {js : List Nat} {h : List aq} {j : Nat} {o : aq} (hj : j ∉ js) : uI js (h.set j o) = uI js h := by
 refine List.map_congr_left fun i hi => getD_set_ne fun e => hj (e ▸ hi)
theorem C6 {js : List Nat} {G : List GO} {j : Nat} {g : GO} (hj : j ∉ js) : gW js (G.set j g) = gW js G := by
 refine List.map_congr_left fun i hi => getD_set_ne fun e => hj (e ▸ hi)
theorem kt : ∀ (js : List Nat) (h : List aq) (G : List GO), js.Nodup → (∀ j ∈ js, j < h.length ∧ j < G.length) → (aU h G).Perm (aU (uI js h) (gW js G) ++ aU (kill js h) (fF js G))
 | [], h, G, _, _ => List.Perm.refl _
 | j :: js, h, G, hn, hl => by
  rw [List.nodup_cons] at hn
  obtain ⟨h1, h2⟩ := hl j (List.mem_cons_self ..)
  have ho : h[j]? = some (h.getD j .dead) := by simp [List.getD, List.getElem?_eq_getElem h1]
  have hg : G[j]? = some (G.getD j .gone) := by simp [List.getD, List.getElem?_eq_getElem h2]
  refine (dn h G j ho hg).trans ?_
  have ih := kt js (h.set j .dead) (G.set j .gone) hn.2 (fun i hi => by simpa using hl i (List.mem_cons_of_mem _ hi))
  rw [CW hn.1, C6 hn.1] at ih
  have := ih.append_left (ji (h.getD j .dead) (G.getD j .gone))
  rw [← List.append_assoc] at this
  exact this
section
variable {P : Program} {w0 w w' : World} {M Z0 : bn} {b : Nat} {G : List GO} {s : AS} {tv : List Value} {r : List V1 × List aq} {Z : bn}
theorem dh {js : List Nat} {i j : Nat} {g : GO} (hi : js[i]? = some j) (hg : G[j]? = some g) : (gW js G)[i]? = some g := by
 simp [gW, hi, List.getD, hg]
theorem RS.ren {js : List Nat} {v : SV} {X : Value} (h : RS G Z w v X) : RS (gW js G) Z w (Fm js v) X := by
 cases v with
 | own j v =>
  show RS _ _ _ (match idx j js with | some i => SV.own i v | none => .any) X
  split
  ·rename_i i hi
   have hi := j6 hi
   rcases h with h | ⟨ver, val, sz, xs, hg, hh⟩
   ·exact .inl (dh hi h)
   ·exact .inr ⟨ver, val, sz, xs, dh hi hg, hh⟩
  ·trivial
 | ptr j o =>
  show RS _ _ _ (match idx j js with | some i => SV.ptr i o | none => .any) X
  split
  ·rename_i i hi
   have hi := j6 hi
   rcases h with h | ⟨bb, T, vs, hg, hh⟩
   ·exact .inl (dh hi h)
   ·exact .inr ⟨bb, T, vs, dh hi hg, hh⟩
  ·trivial
 | op j v i o =>
  show RS _ _ _ (match idx j js with | some j => SV.op j v i o | none => .any) X
  split
  ·rename_i i' hi
   have hi := j6 hi
   rcases h with h | ⟨ver, val, sz, xs, hg, hh⟩
   ·exact .inl (dh hi h)
   ·exact .inr ⟨ver, val, sz, xs, dh hi hg, hh⟩
  ·trivial
 | fn f l =>
  show RS _ _ _ (match idxs js l with | some l => SV.fn f l | none => .any) X
  split
  ·rename_i l' hl
   have hl := td hl
   obtain ⟨bs, hX, hh⟩ := h
   refine ⟨bs, hX, by rw [← hl.1, hh.1], fun i j bb hj hb => ?_⟩
   obtain ⟨j0, hj0, hji⟩ := hl.get' hj
   have := hh.2 i j0 bb hj0 hb
   rcases this with h1 | ⟨T, vs, h1⟩
   ·exact .inl (dh hji h1)
   ·exact .inr ⟨T, vs, dh hji h1⟩
  ·trivial
 | _ => exact h
theorem aw.eH {α α' β : Type} {R : α → β → Prop} {S : α' → β → Prop} {f : α → α'} {l : List α} {m : List β} (h : aw R l m) (hf : ∀ a b, R a b → S (f a) b) : aw S (l.map f) m := by
 refine ⟨by simp [h.1], fun i a b ha hb => ?_⟩
 rw [List.getElem?_map] at ha
 obtain ⟨a', ha', rfl⟩ := Option.map_eq_some_iff.1 ha
 exact hf _ _ (h.2 i a' b ha' hb)
theorem cM.ren {js : List Nat} {v : SV} {X : Value} (h : cM G Z w v X) : cM (gW js G) Z w (Fm js v) X := ⟨h.1.ren, h.2⟩
theorem RV1.ren {js : List Nat} {v : V1} {X : Value} (h : RV1 G Z w v X) : RV1 (gW js G) Z w (Fo js v) X := by
 cases v with
 | one s => exact ⟨h.1.ren, fun _ => h.2 (by rintro rfl; simp_all [Fm])⟩
 | agg l => obtain ⟨xs, hX, hh⟩ := h; exact ⟨xs, hX, hh.eH fun _ _ q => q.ren⟩
theorem RV.ren {js : List Nat} {v : AV} {X : Value} (h : RV G Z w v X) : RV (gW js G) Z w (Hj js v) X := by
 cases v with
 | v v => exact RV1.ren h
 | tup l => obtain ⟨xs, hX, hh⟩ := h; exact ⟨xs, hX, hh.eH fun _ _ q => q.ren⟩
theorem RO.ren {js : List Nat} {o : aq} {g : GO} (h : RO G Z w o g) : RO (gW js G) Z w (Ha js o) g := by
 cases o with
 | cells l => cases g with
  | cells bb T vs => exact aw.eH h fun _ _ q => q.ren
  | _ => exact h
 | arr e D ver fz => cases g <;> exact h
 | dead => cases g <;> exact h
theorem DG {js : List Nat} {h : List aq} (hh : aw (RO G Z w) h G) (hl : ∀ j ∈ js, j < h.length) : aw (RO (gW js G) Z w) (tw js h) (gW js G) := by
 refine ⟨by simp [tw, gW], fun i o g ho hg => ?_⟩
 simp only [tw, List.getElem?_map] at ho
 obtain ⟨j, hj, rfl⟩ := Option.map_eq_some_iff.1 ho
 simp only [gW, List.getElem?_map, hj, Option.map_some, Option.some.injEq] at hg
 subst hg
 have hjl := hl j (List.mem_of_getElem? hj)
 have h1 : h[j]? = some (h.getD j .dead) := by simp [List.getD, List.getElem?_eq_getElem hjl]
 obtain ⟨g, hg, hr⟩ := hh.get h1
 have : G.getD j .gone = g := by simp [List.getD, hg]
 rw [this]; exact hr.ren
theorem bq.sel (hI : bq w0 M Z0 b G s tv w) {js : List Nat} (hjs : B8 js s.heap.length = true) :
   bq w0 M Z0 js.length (gW js G) ⟨s.tmps.map (Hj js), tw js s.heap⟩ tv w := by
 obtain ⟨hn, hl⟩ := qY hjs
 have hlG : ∀ j ∈ js, j < s.heap.length ∧ j < G.length := fun j hj => ⟨hl j hj, by rw [← hI.len]; exact hl j hj⟩
 have hp := kt js s.heap G hn hlG
 have hs := (hI.st.perm hp).sub (List.sublist_append_left _ _)
 have heq : aU (tw js s.heap) (gW js G) = aU (uI js s.heap) (gW js G) := by rw [wg, mH]
 rw [← heq] at hs
 refine ⟨hs.jv (aR _ _ _) fun hh => ⟨hh.1.eH fun _ _ q => q.ren, DG hh.2 hl⟩, fun j hj hl' => ?_, hI.mz⟩
 simp [gW] at hl'; omega
def UpW (G G' : List GO) : Prop := ∀ (j : Nat),
 (G[j]? = some .gone → G'[j]? = some .gone) ∧
 (∀ b T vs, G[j]? = some (.cells b T vs) → G'[j]? = some .gone ∨ ∃ T' vs', G'[j]? = some (.cells b T' vs')) ∧
 (∀ ver val sz xs, G[j]? = some (.arr ver val sz xs) → G'[j]? = some .gone ∨ ∃ ver' val' xs', G'[j]? = some (.arr ver' val' sz xs'))
theorem Up.jv {G G' : List GO} (h : Up G G') : UpW G G' := fun j => ⟨(h j).1, (h j).2.1, fun ver val sz xs hg => ((h j).2.2 ver val sz xs hg).imp id fun ⟨a, c, d, e, _⟩ => ⟨a, c, d, e⟩⟩
theorem UpW.refl (G : List GO) : UpW G G := (Up.refl G).jv
theorem UpW.trans {G G' G'' : List GO} (h : UpW G G') (k : UpW G' G'') : UpW G G'' := by
 intro j
 refine ⟨fun hh => (k j).1 ((h j).1 hh), fun b T vs hh => ?_, fun ver val sz xs hh => ?_⟩
 ·rcases (h j).2.1 b T vs hh with h1 | ⟨T', vs', h1⟩
  ·exact .inl ((k j).1 h1)
  ·exact (k j).2.1 b T' vs' h1
 ·rcases (h j).2.2 ver val sz xs hh with h1 | ⟨ver', val', xs', h1⟩
  ·exact .inl ((k j).1 h1)
  ·exact (k j).2.2 ver' val' sz xs' h1
def dV (P : Program) (F : Callee) : Prop :=
 ∀ f fn args h out, P.funcs[f]? = some fn → fn.body.isSome = true → F f args h = some out →
  ∀ w0 M Z0 G vals w, bq w0 M Z0 h.length G ⟨args.map .v, h⟩ vals w →
   Calls P f vals.toArray w fun e w' => ∃ xs G', e = .returned (if h : xs.toArray.size = 1 then xs.toArray[0] else .tuple xs.toArray) ∧ bq w0 M Z0 out.2.length G' ⟨out.1.map .v, out.2⟩ xs w' ∧ UpW G G'
def kF (L : List Res) : bn := fun k => ∃ q ∈ L, q.foot k
theorem bq.pass (hI : bq w0 M Z0 b G s tv w) {js : List Nat} (hjs : B8 js s.heap.length = true) {vs : List V1} {xs : List Value} (hv : aw (RV1 G (zn w0 Z0 s G) w) vs xs) :
   bq w (kF (aU (uI js s.heap) (gW js G))) (fun k => zn w0 Z0 s G k ∨ kF (aU (uI js s.heap) (gW js G)) k) js.length (gW js G) ⟨(vs.map (Fo js)).map .v, tw js s.heap⟩ xs w := by
 obtain ⟨hn, hl⟩ := qY hjs
 have hlG : ∀ j ∈ js, j < s.heap.length ∧ j < G.length := fun j hj => ⟨hl j hj, by rw [← hI.len]; exact hl j hj⟩
 have hp := kt js s.heap G hn hlG
 have hs := (hI.st.perm hp).sub (List.sublist_append_left _ _)
 have heq : aU (tw js s.heap) (gW js G) = aU (uI js s.heap) (gW js G) := by rw [wg, mH]
 have hk : ∀ k, zn w0 Z0 s G k → jc w (fun k => zn w0 Z0 s G k ∨ kF (aU (uI js s.heap) (gW js G)) k) (aU (tw js s.heap) (gW js G)) k := fun k hk =>
  ⟨.inl (.inl hk), fun q hq => hk.2 q (hp.mem_iff.2 (List.mem_append.2 (.inl (heq ▸ hq))))⟩
 refine ⟨⟨Ext.refl _ _, ?_, ?_, ?_, ?_, aR _ _ _, ?_⟩, ?_, fun k hk => .inr hk⟩
 ·rw [heq]; exact hs.own
 ·rw [heq]; exact hs.loc
 ·rw [heq]; exact fun q hq k hf => ⟨.inl ⟨q, hq, hf⟩, (hs.key q hq k hf).2⟩
 ·rw [heq]; exact hs.dis
 ·refine ⟨(hv.eH fun _ _ q => (RV1.ren q).aM (aO hk)).eH fun _ _ q => q, ?_⟩
  exact (DG hI.st.per.2 hl).mono fun _ _ _ q => q.aM (aO hk)
 ·intro j hj hl'
  simp [gW] at hl'; omega
theorem frame {L L1 L2 Lc : List Res} {φ φc : Fact} (hI : St w0 M Z0 L φ w) (hm : ∀ k, M k → Z0 k) (hp : L.Perm (L1 ++ L2)) (hc : St w (kF L1) (fun k => jc w0 Z0 L k ∨ kF L1 k) Lc φc w') :
   St w0 M Z0 (Lc ++ L2) (HW φc φ) w' ∧ fZ (jc w0 Z0 L) (jc w0 Z0 (Lc ++ L2)) w w' := by
 have hP := hI.perm hp
 have hd := List.pairwise_append.1 hP.dis
 have hx2 : ∀ q ∈ L2, ∀ k, q.foot k → ¬ kF L1 k := fun q hq k hk ⟨p, hp', hf⟩ => hd.2.2 p hp' q hq k hf hk
 have key1 : ∀ q ∈ Lc, ∀ k, q.foot k → (M k ∨ w0.heap.size ≤ k) := by
  intro q hq k hk
  rcases (hc.key q hq k hk).1 with ⟨p, hp', hf⟩ | h
  ·exact (hP.key p (List.mem_append.2 (.inl hp')) k hf).1
  ·exact .inr (Nat.le_trans hI.ext.size h)
 have hkz : fZ (jc w0 Z0 L) (jc w0 Z0 (Lc ++ L2)) w w' := by
  intro k hz hl
  have hn1 : ¬ kF L1 k := fun ⟨p, hp', hf⟩ => hz.2 p (hp.mem_iff.2 (List.mem_append.2 (.inl hp'))) hf
  refine ⟨⟨hz.1, fun q hq hf => ?_⟩, hc.ext.block k hl hn1⟩
  rcases List.mem_append.1 hq with hq | hq
  ·rcases (hc.key q hq k hf).1 with h | h
   ·exact hn1 h
   ·omega
  ·exact hz.2 q (hp.mem_iff.2 (List.mem_append.2 (.inr hq))) hf
 refine ⟨⟨?_, ?_, ?_, ?_, ?_, hc.stab.and hI.stab, ?_, ?_⟩, hkz⟩
 ·refine ⟨hc.ext.os.trans hI.ext.os, hc.ext.tape.trans hI.ext.tape, hc.ext.output.trans hI.ext.output, Nat.le_trans hI.ext.size hc.ext.size, fun k hk hmk => ?_⟩
  rw [hc.ext.block k (Nat.lt_of_lt_of_le hk hI.ext.size) ?_, hI.ext.block k hk hmk]
  rintro ⟨p, hp', hf⟩
  rcases (hP.key p (List.mem_append.2 (.inl hp')) k hf).1 with h | h
  ·exact hmk h
  ·omega
 ·intro q hq
  rcases List.mem_append.1 hq with hq | hq
  ·exact hc.own q hq
  ·have hq' := List.mem_append.2 (Or.inr (a := q ∈ L1) hq)
   exact hP.loc q hq' w w' (fun k hk => hc.ext.block k (hP.key q hq' k hk).2 (hx2 q hq k hk)) (hP.own q hq')
 ·intro q hq
  rcases List.mem_append.1 hq with hq | hq
  ·exact hc.loc q hq
  ·exact hP.loc q (List.mem_append.2 (.inr hq))
 ·intro q hq k hk
  rcases List.mem_append.1 hq with hq | hq
  ·exact ⟨key1 q hq k hk, (hc.key q hq k hk).2⟩
  ·have := hP.key q (List.mem_append.2 (.inr hq)) k hk
   exact ⟨this.1, Nat.lt_of_lt_of_le this.2 hc.ext.size⟩
 ·refine List.pairwise_append.2 ⟨hc.dis, hd.2.1, fun q hq p hp' k hk hk' => ?_⟩
  rcases (hc.key q hq k hk).1 with h | h
  ·exact hx2 p hp' k hk' h
  ·have := (hP.key p (List.mem_append.2 (.inr hp')) k hk').2; omega
 ·refine hc.stab _ _ w' w' (fun k hz _ => ⟨⟨?_, fun q hq hf => ?_⟩, rfl⟩) hc.per
  ·rcases hz.1 with (h | ⟨p, hp', hf⟩) | h
   ·exact h.1
   ·exact (hP.key p (List.mem_append.2 (.inl hp')) k hf).1.imp (hm k) id
   ·exact .inr (Nat.le_trans hI.ext.size h)
  ·rcases List.mem_append.1 hq with hq | hq
   ·exact hz.2 q hq hf
   ·rcases hz.1 with (h | h) | h
    ·exact h.2 q (hp.mem_iff.2 (List.mem_append.2 (.inr hq))) hf
    ·exact hx2 q hq k hf h
    ·have := (hP.key q (List.mem_append.2 (.inr hq)) k hf).2; omega
 ·exact hI.stab _ _ w w' hkz hI.per
end
end Go.Ab
namespace Go.Ab
open Go Go.Dk
section
variable {P : Program} {w0 w w' : World} {M Z0 : bn} {b : Nat} {G : List GO} {s : AS} {tv : List Value} {r : List V1 × List aq} {Z : bn}
theorem fV : ∀ {l : List V1} {s : AS} {xs : List Value} {k : List V1 → List aq → OR}, bq w0 M Z0 b G s tv w → aw (RV1 G (zn w0 Z0 s G) w) l xs → jl s.heap l k = some r →
   ∃ l' h', k l' h' = some r ∧ dd w0 M Z0 b G s tv w h' ∧ aw (RV1 G (zn w0 Z0 ⟨s.tmps, h'⟩ G) w) l' xs
 | [], s, xs, k, hI, ha, h => by
  obtain rfl := ha.aV
  exact ⟨_, _, h, dd.refl hI, aw.nil⟩
 | v :: l, s, xs, k, hI, ha, h => by
  obtain ⟨X, xs', rfl, h1, h2⟩ := ha.cons_inv
  unfold jl at h
  split at h
  ·exact absurd ‹_ :: _ = []› (by simp)
  ·rename_i k' l0 e
   simp only [List.cons.injEq] at e
   obtain ⟨rfl, rfl⟩ := e
   obtain ⟨l', h', hk, hs, hl⟩ := fV hI h2 h
   exact ⟨_, _, hk, hs, aw.cons ⟨trivial, fun h => absurd rfl h⟩ hl⟩
  ·rename_i x l0 hne e
   simp only [List.cons.injEq] at e
   obtain ⟨rfl, rfl⟩ := e
   have hone : cM G (zn w0 Z0 s G) w x X := ⟨h1.1, h1.2 fun e => hne e⟩
   replace h := jO hI hone h; obtain ⟨v', h1', h, hs, hv⟩ := h
   obtain ⟨l', h', hk, hs', hl⟩ := fV hs.inv (h2.mono fun _ _ _ q => q.aM (aO hs.le)) h
   exact ⟨_, _, hk, hs.trans hs', aw.cons ⟨hv.1.aM (aO hs'.le), fun _ => hv.2⟩ hl⟩
  ·rename_i c l0 e
   simp only [List.cons.injEq] at e
   obtain ⟨rfl, rfl⟩ := e
   obtain ⟨ys, hX, hc⟩ := h1
   replace h := fJ hI hc h; obtain ⟨c', h1', h, hs, hv⟩ := h
   obtain ⟨l', h', hk, hs', hl⟩ := fV hs.inv (h2.mono fun _ _ _ q => q.aM (aO hs.le)) h
   exact ⟨_, _, hk, hs.trans hs', aw.cons ⟨ys, hX, hv.mono fun _ _ _ q => ⟨q.1.aM (aO hs'.le), q.2⟩⟩ hl⟩
def uU (v y : SV) : Prop := ∀ (G G' : List GO) (Z : bn) (w : World) (X : Value), cM G Z w v X → cM G' Z w y X
theorem BO {a : IntKind} {l : List SV} {k : Int → List SV → OR} (h : aS a l k = some r) : ∃ n l', l = .int a n :: l' ∧ k n l' = some r := by
 unfold aS at h; split at h
 ·replace h := al h; obtain ⟨ha, h⟩ := h; obtain rfl := re ha; exact ⟨_, _, rfl, h⟩
 ·cases h
theorem yr {l : List SV} {k : Bool → List SV → OR} (h : lX l k = some r) : ∃ n l', l = .bool n :: l' ∧ k n l' = some r := by
 unfold lX at h; split at h
 ·exact ⟨_, _, rfl, h⟩
 ·cases h
theorem AR {l : List SV} {k : ByteArray → List SV → OR} (h : E9 l k = some r) : ∃ n l', l = .str n :: l' ∧ k n l' = some r := by
 unfold E9 at h; split at h
 ·exact ⟨_, _, rfl, h⟩
 ·cases h
theorem xO {e : SK} {l : List SV} {k : SD → List SV → OR} (h : slC e l k = some r) : ∃ d l', l = .fr d :: l' ∧ d.kind = e ∧ k d l' = some r := by
 cases e <;> simp only [slC] at h
 ·unfold tsC at h; split at h
  ·exact ⟨_, _, rfl, rfl, h⟩
  ·cases h
 ·unfold isC at h; split at h
  ·exact ⟨_, _, rfl, rfl, h⟩
  ·cases h
 ·unfold Fi at h; split at h
  ·exact ⟨_, _, rfl, rfl, h⟩
  ·cases h
 ·unfold ssC at h; split at h
  ·exact ⟨_, _, rfl, rfl, h⟩
  ·cases h
 ·unfold bsC at h; split at h
  ·exact ⟨_, _, rfl, rfl, h⟩
  ·cases h
theorem Ay {l : List SV} {k : List SV → OR} (h : Fc l k = some r) : ∃ v l', l = v :: l' ∧ k l' = some r := by
 unfold Fc at h; split at h
 ·exact ⟨_, _, rfl, h⟩
 ·cases h
theorem vh {x : SV} {l : List SV} {k : SV → List SV → OR} (h : yW x l k = some r) : ∃ v y l', l = v :: l' ∧ k y l' = some r ∧ uU v y := by
 unfold yW at h
 split at h
 ·obtain ⟨n, l', rfl, h'⟩ := BO h; exact ⟨_, _, _, rfl, h', fun _ _ _ _ _ h => h⟩
 ·obtain ⟨n, l', rfl, h'⟩ := yr h; exact ⟨_, _, _, rfl, h', fun _ _ _ _ _ h => h⟩
 ·obtain ⟨n, l', rfl, h'⟩ := AR h; exact ⟨_, _, _, rfl, h', fun _ _ _ _ _ h => h⟩
 ·obtain ⟨n, l', rfl, _, h'⟩ := xO h; exact ⟨_, _, _, rfl, h', fun _ _ _ _ _ h => h⟩
 ·obtain ⟨n, l', rfl, _, h'⟩ := xO h; exact ⟨_, _, _, rfl, h', fun _ _ _ _ _ h => h⟩
 ·obtain ⟨v, l', rfl, h'⟩ := Ay h; exact ⟨_, _, _, rfl, h', fun _ _ _ _ _ h => ⟨trivial, h.2⟩⟩
theorem jM : ∀ {x l : List SV} {k : List SV → OR}, rr x l k = some r → ∃ y, k y = some r ∧ aw uU l y
 | [], l, k, h => by
  unfold rr aQ at h
  split at h
  ·exact ⟨_, h, aw.nil⟩
  ·cases h
 | x :: xs, l, k, h => by
  unfold rr at h
  obtain ⟨v, y, l', rfl, h1, hv⟩ := vh h
  obtain ⟨ys, h2, hl⟩ := jM h1
  exact ⟨_, h2, aw.cons hv hl⟩
theorem mE {l y : List SV} {vs : List Value} {G' : List GO} (h : aw uU l y) (k : aw (cM G Z w) l vs) : aw (cM G' Z w) y vs := by
 refine ⟨h.1.symm.trans k.1, fun i a X ha hX => ?_⟩
 obtain ⟨v, hv, hl⟩ := h.get' ha
 exact hl _ _ _ _ _ (k.2 i v X hv hX)
def HS (o o' : aq) : Prop := o' = .dead ∨ ∃ l y, o = .cells l ∧ o' = .cells y ∧ aw uU l y
theorem jq : ∀ {x o : List aq} {k : List aq → List aq → OR}, rJ x o k = some r → ∃ olds os rest, o = olds ++ rest ∧ k os rest = some r ∧ olds.length = x.length ∧ aw HS olds os
 | [], o, k, h => ⟨[], [], o, rfl, h, rfl, aw.nil⟩
 | x :: xs, o, k, h => by
  unfold rJ at h
  split at h
  ·exact absurd ‹_ :: _ = []› (by simp)
  ·rename_i c xs0 e
   simp only [List.cons.injEq] at e
   obtain ⟨rfl, rfl⟩ := e
   unfold aP at h
   split at h
   ·obtain ⟨y, h1, hy⟩ := jM h
    obtain ⟨olds, os, rest, rfl, h2, hl, hb⟩ := jq h1
    exact ⟨_ :: olds, _, rest, rfl, h2, by simp [hl], aw.cons (.inr ⟨_, _, rfl, rfl, hy⟩) hb⟩
   ·cases h
  ·rename_i o0 xs0 hne e
   simp only [List.cons.injEq] at e
   obtain ⟨rfl, rfl⟩ := e
   unfold vu at h
   split at h
   ·obtain ⟨olds, os, rest, rfl, h1, hl, hb⟩ := jq h
    exact ⟨_ :: olds, _, rest, rfl, h1, by simp [hl], aw.cons (.inl rfl) hb⟩
   ·cases h
theorem Bd {e : TypeId × SK} {o : List aq} {k : SD → List aq → OR} (h : Gk e o k = some r) : ∃ d o', o = .arr e.1 d 0 false :: o' ∧ d.kind = e.2 ∧ k d o' = some r := by
 have key : ∀ {α : Type} {f : α → SD} {o : List aq} {k : SD → List aq → OR} {e' : TypeId} {x : α} {o' : List aq}, o = .arr e' (f x) 0 false :: o' → cond (Nat.beq e.1 e') (k (f x) o') none = some r → (f x).kind = e.2 → ∃ d o', o = .arr e.1 d 0 false :: o' ∧ d.kind = e.2 ∧ k d o' = some r := by
  intro α f o k e' x o' ho h hk
  obtain ⟨he, h'⟩ := al h
  simp only [Nat.beq_eq] at he
  subst he
  exact ⟨_, _, ho, hk, h'⟩
 unfold Gk at h
 split at h <;> rename_i he
 ·unfold bW at h; split at h
  ·exact key (f := SD.ts) rfl h (by rw [he]; rfl)
  ·cases h
 ·unfold pE at h; split at h
  ·exact key (f := SD.is) rfl h (by rw [he]; rfl)
  ·cases h
 ·unfold kO at h; split at h
  ·exact key (f := SD.iss) rfl h (by rw [he]; rfl)
  ·cases h
 ·unfold qg at h; split at h
  ·exact key (f := SD.ss) rfl h (by rw [he]; rfl)
  ·cases h
 ·unfold pG at h; split at h
  ·exact key (f := SD.bs) rfl h (by rw [he]; rfl)
  ·cases h
theorem CL {e : SK} {l : List V1} {k : SD → List V1 → OR} (h : rSl e l k = some r) : ∃ d l', l = .one (.fr d) :: l' ∧ k d l' = some r := by
 cases e <;> simp only [rSl] at h
 ·unfold rTs at h; split at h
  ·exact ⟨_, _, rfl, h⟩
  ·cases h
 ·unfold rIs at h; split at h
  ·exact ⟨_, _, rfl, h⟩
  ·cases h
 ·unfold Fa at h; split at h
  ·exact ⟨_, _, rfl, h⟩
  ·cases h
 ·unfold rSs at h; split at h
  ·exact ⟨_, _, rfl, h⟩
  ·cases h
 ·unfold rBs at h; split at h
  ·exact ⟨_, _, rfl, h⟩
  ·cases h
theorem yY {e : TypeId} {d : SD} {g : GO} (h : RO G Z w (.arr e d 0 false) g) : ∃ val xs, g = .arr 0 val d.kind.size xs := by
 cases g with
 | arr ver val sz xs => obtain ⟨rfl, rfl, _⟩ := h; exact ⟨_, _, rfl⟩
 | _ => exact h.elim
theorem k7 {e : TypeId} {d : SD} {v : Nat} {z : Bool} {g : GO} {G' : List GO} (h : RO G Z w (.arr e d v z) g) : RO G' Z w (.arr e d v z) g := by cases g <;> exact h
theorem AM {c b' : Nat} {G' : List GO} {g : GO} {e : TypeId} {d : SD} {X : Value} (hx : RS G Z w (.own c 0) X) (hg : RO G Z w (.arr e d 0 false) g) (h1 : G[c]? = some g) (h2 : G'[b']? = some g) : RS G' Z w (.own b' 0) X := by
 obtain ⟨val, xs, rfl⟩ := yY hg
 have := ix hx h1 rfl
 exact .inr ⟨0, val, _, xs, h2, Nat.le_refl _, fun _ => this⟩
theorem yh {own : Bool} {c b' : Nat} {t : TypeId} {l : List V1} {o : List aq} {k : V1 → List aq → List V1 → List aq → OR} (h : Fe P own c b' t l o k = some r) :
   ∃ v n l' o' x0 o0, k v n l' o' = some r ∧ l = x0 :: l' ∧ o = o0 ++ o' ∧ n.length = o0.length ∧ ∀ {Gc G'' : List GO} {Z : bn} {w : World} {X : Value} {gs : List GO}, RV1 Gc Z w x0 X → aw (RO Gc Z w) o0 gs →
    (∀ (i : Nat) g, gs[i]? = some g → Gc[c + i]? = some g ∧ G''[b' + i]? = some g) → RV1 G'' Z w v X ∧ aw (RO G'' Z w) n gs ∧ aU n gs = aU o0 gs := by
 unfold Fe at h
 split at h
 ·unfold aB at h; split at h
  ·replace h := al h; obtain ⟨ha, h⟩ := h; obtain rfl := re ha
   exact ⟨_, _, _, _, _, [], h, rfl, rfl, rfl, fun hx ho _ => by obtain rfl := ho.aV; exact ⟨hx, aw.nil, rfl⟩⟩
  ·cases h
 ·unfold aD at h; split at h
  ·exact ⟨_, _, _, _, _, [], h, rfl, rfl, rfl, fun hx ho _ => by obtain rfl := ho.aV; exact ⟨hx, aw.nil, rfl⟩⟩
  ·cases h
 ·unfold kB at h; split at h
  ·exact ⟨_, _, _, _, _, [], h, rfl, rfl, rfl, fun hx ho _ => by obtain rfl := ho.aV; exact ⟨hx, aw.nil, rfl⟩⟩
  ·cases h
 ·split at h
  ·rename_i e _
   rcases cg h with ⟨_, h⟩ | ⟨_, h⟩
   ·unfold D6 at h; split at h
    ·replace h := al h; obtain ⟨hi, h⟩ := h
     simp only [Nat.beq_eq] at hi
     obtain ⟨d, o', rfl, hk, h1⟩ := Bd h
     refine ⟨_, _, _, _, _, [_], h1, rfl, rfl, rfl, fun hx ho hg => ?_⟩
     obtain ⟨g, gs', rfl, h1, h2⟩ := ho.cons_inv
     obtain rfl := h2.aV
     obtain ⟨e1, e2⟩ := hg 0 g rfl
     refine ⟨⟨AM (by rw [← hi]; exact hx.1) h1 e1 e2, fun _ => hx.2 nofun⟩, aw.cons (k7 h1) aw.nil, rfl⟩
    ·cases h
   ·obtain ⟨d, l', rfl, h1⟩ := CL h
    exact ⟨_, _, _, _, _, [], h1, rfl, rfl, rfl, fun hx ho _ => by obtain rfl := ho.aV; exact ⟨hx, aw.nil, rfl⟩⟩
  ·cases h
 ·split at h
  ·rcases cg h with ⟨_, h⟩ | ⟨_, h⟩
   ·unfold eK at h; split at h
    ·replace h := al h; obtain ⟨hi, h⟩ := h
     simp only [Nat.beq_eq] at hi
     unfold bW at h; split at h
     ·replace h := al h; obtain ⟨he, hk2⟩ := h
      simp only [Nat.beq_eq] at he
      subst he
      refine ⟨_, _, _, _, _, [_], hk2, rfl, rfl, rfl, fun hx ho hg => ?_⟩
      obtain ⟨g, gs', rfl, h1, h2⟩ := ho.cons_inv
      obtain rfl := h2.aV
      obtain ⟨e1, e2⟩ := hg 0 g rfl
      obtain ⟨xs, hX, hc⟩ := hx
      obtain ⟨x1, m1, rfl, c1, hc⟩ := hc.cons_inv
      obtain ⟨x2, m2, rfl, c2, hc⟩ := hc.cons_inv
      obtain ⟨x3, m3, rfl, c3, hc⟩ := hc.cons_inv
      obtain rfl := hc.aV
      exact ⟨⟨_, hX, aw.cons c1 (aw.cons c2 (aw.cons ⟨AM (by rw [← hi]; exact c3.1) h1 e1 e2, c3.2⟩ aw.nil))⟩, aw.cons (k7 h1) aw.nil, rfl⟩
     ·cases h
    ·cases h
   ·unfold ag at h; split at h
    ·refine ⟨_, _, _, _, _, [], h, rfl, rfl, rfl, fun hx ho _ => ?_⟩
     obtain rfl := ho.aV
     obtain ⟨xs, hX, hc⟩ := hx
     obtain ⟨x1, m1, rfl, c1, hc⟩ := hc.cons_inv
     obtain ⟨x2, m2, rfl, c2, hc⟩ := hc.cons_inv
     obtain ⟨x3, m3, rfl, c3, hc⟩ := hc.cons_inv
     obtain rfl := hc.aV
     exact ⟨⟨_, hX, aw.cons ⟨c1.1, c1.2⟩ (aw.cons ⟨c2.1, c2.2⟩ (aw.cons ⟨c3.1, c3.2⟩ aw.nil))⟩, aw.nil, rfl⟩
    ·cases h
  ·cases h
 ·unfold Dr at h; split at h
  ·replace h := al h; obtain ⟨hi, h⟩ := h
   simp only [Nat.beq_eq] at hi
   unfold aP at h; split at h
   ·split at h
    ·obtain ⟨y, h1, hy⟩ := jM h
     refine ⟨_, _, _, _, _, [_], h1, rfl, rfl, rfl, fun hx ho hg => ?_⟩
     obtain ⟨g, gs', rfl, h1, h2⟩ := ho.cons_inv
     obtain rfl := h2.aV
     obtain ⟨e1, e2⟩ := hg 0 g rfl
     cases g with
     | cells bb T vs =>
      have hp := jN (by rw [← hi]; exact hx.1) e1
      exact ⟨⟨.inr ⟨bb, T, vs, e2, hp⟩, fun _ => hx.2 nofun⟩, aw.cons (mE hy h1) aw.nil, rfl⟩
     | _ => exact h1.elim
    ·cases h
   ·cases h
  ·cases h
 ·cases h
theorem nX {own : Bool} : ∀ {tys : List TypeId} {c b' : Nat} {l : List V1} {o : List aq} {k : List V1 → List aq → OR}, vO P own tys c b' l o k = some r →
   ∃ vs ns, k vs ns = some r ∧ ns.length = o.length ∧ ∀ {Gc G'' : List GO} {Z : bn} {w : World} {xs : List Value} {gs : List GO}, aw (RV1 Gc Z w) l xs → aw (RO Gc Z w) o gs →
    (∀ (i : Nat) g, gs[i]? = some g → Gc[c + i]? = some g ∧ G''[b' + i]? = some g) → aw (RV1 G'' Z w) vs xs ∧ aw (RO G'' Z w) ns gs ∧ aU ns gs = aU o gs
 | [], c, b', l, o, k, h => by
  unfold vO ai at h
  split at h
  ·unfold aj at h
   split at h
   ·exact ⟨_, _, h, rfl, fun hx ho _ => ⟨by obtain rfl := hx.aV; exact aw.nil, by obtain rfl := ho.aV; exact aw.nil, rfl⟩⟩
   ·cases h
  ·cases h
 | t :: tys, c, b', l, o, k, h => by
  unfold vO at h
  obtain ⟨v, n, l', o', x0, o0, h1, rfl, rfl, hn, hv⟩ := yh h
  obtain ⟨vs, ns, h2, hns, hvs⟩ := nX h1
  refine ⟨_, _, h2, by simp [hn, hns], fun hx ho hg => ?_⟩
  obtain ⟨X, xs', rfl, hx1, hx2⟩ := hx.cons_inv
  obtain ⟨g1, g2, rfl, ho1, ho2⟩ := ho.px
  obtain ⟨a1, a2, a3⟩ := hv hx1 ho1 fun i g hi => hg i g (by rw [List.getElem?_append_left (aC hi)]; exact hi)
  obtain ⟨b1, b2, b3⟩ := hvs hx2 ho2 fun i g hi => by
   have := hg (g1.length + i) g (by rw [List.getElem?_append_right (by omega)]; simpa using hi)
   rw [← ho1.1] at this
   rw [Nat.add_assoc, Nat.add_assoc, hn]; exact this
  refine ⟨aw.cons a1 b1, aw.append a2 b2, ?_⟩
  rw [bC a2.1, bC ho1.1, a3, b3]
end
end Go.Ab
end
section
namespace Go.Ab
open Go Go.Dk
def ft : List Nat → List GO → List GO → List GO
 | j :: js, g :: gs, G => ft js gs (G.set j g)
 | _, _, G => G
theorem lD : ∀ (js : List Nat) (os h : List aq), (ga js os h).length = h.length
 | [], _, _ => rfl
 | _ :: _, [], _ => rfl
 | j :: js, o :: os, h => by rw [ga, lD js os]; simp
theorem lI : ∀ (js : List Nat) (gs G : List GO), (ft js gs G).length = G.length
 | [], _, _ => rfl
 | _ :: _, [], _ => rfl
 | j :: js, o :: os, h => by rw [ft, lI js os]; simp
theorem gx : ∀ (js : List Nat) (gs G : List GO) (q : Nat), q ∉ js → (ft js gs G)[q]? = G[q]?
 | [], _, _, _, _ => rfl
 | _ :: _, [], _, _, _ => rfl
 | j :: js, g :: gs, G, q, h => by
  simp only [List.mem_cons, not_or] at h
  rw [ft, gx js gs _ q h.2, List.getElem?_set_ne (fun e => h.1 e.symm)]
theorem qv : ∀ (js : List Nat) (gs G : List GO) (i j : Nat) (g : GO), js.Nodup → js[i]? = some j → gs[i]? = some g → j < G.length → (ft js gs G)[j]? = some g
 | [], _, _, i, _, _, _, h, _, _ => by simp at h
 | _ :: _, [], _, i, _, _, _, _, h, _ => by simp at h
 | a :: js, x :: gs, G, 0, j, g, hn, hj, hg, hl => by
  simp only [List.getElem?_cons_zero, Option.some.injEq] at hj hg
  subst hj hg
  rw [List.nodup_cons] at hn
  rw [ft, gx js gs _ a hn.1]; simp [hl]
 | a :: js, x :: gs, G, i + 1, j, g, hn, hj, hg, hl => by
  rw [List.nodup_cons] at hn
  rw [ft]
  exact qv js gs _ i j g hn.2 (by simpa using hj) (by simpa using hg) (by simpa using hl)
theorem lC : ∀ (js js' : List Nat) (os os' h : List aq), js.length = os.length → ga (js ++ js') (os ++ os') h = ga js' os' (ga js os h)
 | [], js', [], os', h, _ => rfl
 | j :: js, js', o :: os, os', h, hl => by simp only [List.cons_append, ga]; exact lC js js' os os' _ (by simpa using hl)
 | [], _, _ :: _, _, _, hl => by simp at hl
 | _ :: _, _, [], _, _, hl => by simp at hl
theorem yf {R : aq → GO → Prop} : ∀ {js : List Nat} {os h : List aq} {gs G : List GO}, aw R h G → aw R os gs → aw R (ga js os h) (ft js gs G)
 | [], os, h, gs, G, hh, ho => hh
 | j :: js, os, h, gs, G, hh, ho => by
  cases os with
  | nil => obtain rfl := ho.aV; exact hh
  | cons o os =>
   obtain ⟨g, gs', rfl, h1, h2⟩ := ho.cons_inv
   show aw R (ga js os (h.set j o)) (ft js gs' (G.set j g))
   exact yf (hh.set j h1) h2
theorem qL : ∀ {js : List Nat} {j : Nat} {o : aq} {h : List aq}, j ∉ js → kill js (h.set j o) = (kill js h).set j o
 | [], _, _, _, _ => rfl
 | i :: js, j, o, h, hj => by
  simp only [List.mem_cons, not_or] at hj
  simp only [kill]
  rw [List.set_comm _ _ hj.1, qL hj.2]
theorem nE : ∀ {js : List Nat} {j : Nat} {g : GO} {G : List GO}, j ∉ js → fF js (G.set j g) = (fF js G).set j g
 | [], _, _, _, _ => rfl
 | i :: js, j, o, h, hj => by
  simp only [List.mem_cons, not_or] at hj
  simp only [fF]
  rw [List.set_comm _ _ hj.1, nE hj.2]
theorem jy : ∀ (js : List Nat) (h : List aq), (kill js h).length = h.length
 | [], _ => rfl
 | j :: js, h => by rw [kill, jy js]; simp
theorem iK : ∀ (js : List Nat) (h : List GO), (fF js h).length = h.length
 | [], _ => rfl
 | j :: js, h => by rw [fF, iK js]; simp
theorem uC : ∀ {js : List Nat} {os h : List aq} {gs G : List GO}, js.Nodup → (∀ j ∈ js, j < h.length ∧ j < G.length) → js.length = os.length → os.length = gs.length →
   (aU (ga js os h) (ft js gs G)).Perm (aU os gs ++ aU (kill js h) (fF js G))
 | [], os, h, gs, G, _, _, hl, hl2 => by
  obtain rfl := List.eq_nil_of_length_eq_zero hl.symm
  exact List.Perm.refl _
 | j :: js, [], h, gs, G, _, _, hl, _ => by simp at hl
 | j :: js, o :: os, h, [], G, _, _, _, hl => by simp at hl
 | j :: js, o :: os, h, g :: gs, G, hn, hl, h1, h2 => by
  rw [List.nodup_cons] at hn
  obtain ⟨hj, hjG⟩ := hl j (List.mem_cons_self ..)
  have ih := uC (js := js) (os := os) (h := h.set j o) (gs := gs) (G := G.set j g) hn.2 (fun i hi => by simpa using hl i (List.mem_cons_of_mem _ hi)) (by simpa using h1) (by simpa using h2)
  simp only [ga, ft, kill, fF]
  refine ih.trans ?_
  rw [qL hn.1, nE hn.1, qL hn.1, nE hn.1]
  have hin := vg (h := kill js h) (G := fF js G) o g (by rw [jy]; exact hj) (by rw [iK]; exact hjG)
  have : (aU os gs ++ aU ((kill js h).set j o) ((fF js G).set j g)).Perm (aU os gs ++ (ji o g ++ aU ((kill js h).set j .dead) ((fF js G).set j .gone))) := hin.symm.append_left _
  refine this.trans ?_
  simp only [aU]
  rw [← List.append_assoc]
  exact List.perm_append_comm.append_right _
theorem nU : ∀ (js js' : List Nat) (h : List aq), kill (js ++ js') h = kill js' (kill js h)
 | [], _, _ => rfl
 | j :: js, js', h => by simp only [List.cons_append, kill]; exact nU js js' _
theorem lT : ∀ (js js' : List Nat) (h : List GO), fF (js ++ js') h = fF js' (fF js h)
 | [], _, _ => rfl
 | j :: js, js', h => by simp only [List.cons_append, fF]; exact lT js js' _
def ij : aq → GO → GO
 | .cells _, g => g
 | _, _ => .gone
theorem lF {h h' : List aq} {G G' : List GO} (hl : h.length = G.length) : aU (h ++ h') (G ++ G') = aU h G ++ aU h' G' := bC hl
section
variable {P : Program} {w0 w w' : World} {M Z0 : bn} {b : Nat} {G : List GO} {s : AS} {tv : List Value} {r : List V1 × List aq} {Z : bn}
theorem m7 : ∀ {olds os : List aq} {gs Gc : List GO}, aw HS olds os → aw (RO Gc Z w) olds gs → ∀ G'' : List GO,
   aw (RO G'' Z w) os (List.zipWith ij os gs) ∧ (aU os (List.zipWith ij os gs)).Sublist (aU olds gs)
 | [], os, gs, Gc, hb, hr, G'' => by
  obtain rfl := hb.aV
  obtain rfl := hr.aV
  exact ⟨aw.nil, List.Sublist.refl _⟩
 | o :: olds, os, gs, Gc, hb, hr, G'' => by
  obtain ⟨o', os', rfl, h1, h2⟩ := hb.cons_inv
  obtain ⟨g, gs', rfl, h3, h4⟩ := hr.cons_inv
  obtain ⟨a1, a2⟩ := m7 h2 h4 G''
  simp only [List.zipWith_cons_cons]
  rcases h1 with rfl | ⟨l, y, rfl, rfl, hy⟩
  ·refine ⟨aw.cons trivial a1, ?_⟩
   simp only [aU, cC, List.nil_append]
   exact a2.trans (List.sublist_append_right _ _)
  ·cases g with
   | cells bb T vs =>
    refine ⟨aw.cons (mE hy h3) a1, ?_⟩
    simp only [aU, ij]
    exact a2.append_left _
   | _ => exact h3.elim
theorem y4 {js : List Nat} {b n : Nat} (h : js.Nodup) (hb : ∀ j ∈ js, j < b) : (js ++ List.range' b n).Nodup := by
 rw [List.nodup_append]
 refine ⟨h, List.nodup_range', fun a ha c hc => ?_⟩
 rw [List.mem_range'_1] at hc
 have := hb a ha
 omega
theorem lB {F : Callee} (hF : dV P F) {f : FuncId} {fn : Func} (hfn : P.funcs[f]? = some fn) (hbody : fn.body.isSome = true) (hI : bq w0 M Z0 b G s tv w) {ow : Bool} {tys : List TypeId} {rm : Nat} {k : AV → List aq → OR} {vs : List V1} {xs : List Value}
   (hv : aw (RV1 G (zn w0 Z0 s G) w) vs xs) (hb : b + rm ≤ s.heap.length) (h : pN P F ow f tys b rm k vs s.heap = some r) :
   Calls P f xs.toArray w fun e w' => ∃ X, e = .returned X ∧ ∃ v h' G', k v h' = some r ∧ bq w0 M Z0 (b + rm) G' ⟨s.tmps, h'⟩ tv w' ∧ RV G' (zn w0 Z0 ⟨s.tmps, h'⟩ G') w' v X ∧ h'.length = s.heap.length ∧ Up G G' := by
 unfold pN at h
 generalize hjs : reach s.heap 64 (vs.flatMap yL) [] = js at h
 replace h := al h; obtain ⟨hok, h⟩ := h
 replace h := bind_some h; obtain ⟨out, hout, h⟩ := h
 have hokl : B8 js s.heap.length = true := by
  simp only [B8, Bool.and_eq_true, List.all_eq_true, Nat.blt_eq] at hok ⊢
  exact ⟨hok.1, fun j hj => by have := hok.2 j hj; omega⟩
 obtain ⟨hnd, hlt⟩ := qY hok
 have hpass := hI.pass hokl hv
 have hlen : (tw js s.heap).length = js.length := by simp [tw]
 have hcall := hF f fn _ _ out hfn hbody hout _ _ _ _ _ _ (by rw [hlen]; exact hpass)
 refine hcall.mono fun e w' ⟨ys, Gc, he, hIc, hupc⟩ => ?_
 refine ⟨_, he, ?_⟩
 obtain ⟨olds, os, rest, ho, h, hol, hback⟩ := jq h
 obtain ⟨vs', ns, h, hns, hvs⟩ := nX h
 replace h := al h; obtain ⟨hrm, h⟩ := h
 simp only [Nat.ble_eq] at hrm
 have hp := kt js s.heap G hnd (fun j hj => ⟨by have := hlt j hj; omega, by have := hlt j hj; rw [← hI.len]; omega⟩)
 have heq : aU (tw js s.heap) (gW js G) = aU (uI js s.heap) (gW js G) := by rw [wg, mH]
 have hfr := frame hI.st hI.mz hp hIc.st
 obtain ⟨hx0, hRO⟩ : aw (RV Gc (jc w (fun k => zn w0 Z0 s G k ∨ kF (aU (uI js s.heap) (gW js G)) k) (aU out.2 Gc)) w') (out.1.map .v) ys ∧ aw (RO Gc (jc w (fun k => zn w0 Z0 s G k ∨ kF (aU (uI js s.heap) (gW js G)) k) (aU out.2 Gc)) w') out.2 Gc := hIc.st.per
 generalize jc w (fun k => zn w0 Z0 s G k ∨ kF (aU (uI js s.heap) (gW js G)) k) (aU out.2 Gc) = Zc at hx0 hRO
 rw [ho] at hRO
 obtain ⟨g1, g2, rfl, hr1, hr2⟩ := hRO.px
 have hjo : js.length = olds.length := by rw [hol, hlen]
 have hjos : js.length = os.length := by rw [hjo, hback.1]
 have hg1 : olds.length = g1.length := hr1.1
 let ps := js ++ List.range' b ns.length
 let gs := List.zipWith ij os g1 ++ g2
 have hzl : (List.zipWith ij os g1).length = js.length := by rw [List.length_zipWith, ← hjos, ← hg1, ← hjo]; simp
 have hpsn : ps.Nodup := y4 hnd hlt
 have hpsl : ∀ j ∈ ps, j < s.heap.length ∧ j < G.length := by
  intro j hj
  rw [← hI.len]
  rcases List.mem_append.1 hj with hj | hj
  ·have := hlt j hj; omega
  ·rw [List.mem_range'_1] at hj; omega
 have hnl : ns.length = g2.length := by rw [hns]; exact hr2.1
 have hH : H0 b ns (ga js os s.heap) = ga ps (os ++ ns) s.heap := by
  rw [lC js _ os ns s.heap hjos]; rfl
 have hgat : ∀ (i : Nat) g, g2[i]? = some g → (g1 ++ g2)[js.length + i]? = some g ∧ (ft ps gs G)[b + i]? = some g := by
  intro i g hi
  have hil := aC hi
  refine ⟨by rw [List.getElem?_append_right (by omega), show js.length + i - g1.length = i by omega]; exact hi, ?_⟩
  refine qv ps gs G (js.length + i) (b + i) g hpsn ?_ ?_ ?_
  ·show (js ++ List.range' b ns.length)[js.length + i]? = _
   rw [List.getElem?_append_right (by omega)]
   simp [hnl, hil]
  ·show (List.zipWith ij os g1 ++ g2)[js.length + i]? = _
   rw [List.getElem?_append_right (by omega), hzl]; simpa using hi
  ·rw [← hI.len]; omega
 -- what is spoken of goes on
 have hup : Up G (ft ps gs G) := by
  intro q
  by_cases hq : q ∈ js
  ·obtain ⟨i, hi⟩ := List.getElem?_of_mem hq
   have hil := aC hi
   have hz : ∃ g, (List.zipWith ij os g1)[i]? = some g := ⟨_, List.getElem?_eq_getElem (by rw [hzl]; exact hil)⟩
   obtain ⟨g, hz⟩ := hz
   have hat : (ft ps gs G)[q]? = some g := by
    refine qv ps gs G i q g hpsn ?_ ?_ (hpsl q (List.mem_append.2 (.inl hq))).2
    ·show (js ++ _)[i]? = _; rw [List.getElem?_append_left hil]; exact hi
    ·show (_ ++ g2)[i]? = _; rw [List.getElem?_append_left (by rw [hzl]; exact hil)]; exact hz
   rw [List.getElem?_zipWith] at hz
   have ho1 : os[i]? = some (os[i]'(by omega)) := List.getElem?_eq_getElem _
   have hg1' : g1[i]? = some (g1[i]'(by omega)) := List.getElem?_eq_getElem _
   generalize os[i]'(by omega) = o1 at ho1
   generalize g1[i]'(by omega) = gg1 at hg1'
   rw [ho1, hg1'] at hz
   simp only [Option.some.injEq] at hz
   have hgc : (g1 ++ g2)[i]? = some gg1 := by rw [List.getElem?_append_left (by omega)]; exact hg1'
   have hu := hupc i
   rw [hgc] at hu
   rw [hat]
   cases o1 with
   | cells y =>
    simp only [ij] at hz
    subst hz
    obtain ⟨oo, hoo, hbk⟩ := hback.get' ho1
    have hro := hr1.2 i oo gg1 hoo hg1'
    rcases hbk with hbk | ⟨l, y', rfl, _, _⟩
    ·cases hbk
    ·cases gg1 with
     | cells bb T vs0 =>
      refine ⟨fun hg => ?_, fun b0 T0 vs1 hg => ?_, fun ver val sz xs0 hg => ?_⟩
      ·have := hu.1 (dh hi hg); cases this
      ·rcases hu.2.1 _ _ _ (dh hi hg) with h1 | ⟨T', vs', h1⟩
       ·cases h1
       ·right; injection h1 with h1; injection h1 with h1 h2 h3; subst h1; exact ⟨T, vs0, rfl⟩
      ·rcases hu.2.2 _ _ _ _ (dh hi hg) with h1 | ⟨_, _, _, h1⟩ <;> cases h1
     | _ => exact hro.elim
   | _ =>
    simp only [ij] at hz
    subst hz
    exact ⟨fun _ => rfl, fun _ _ _ _ => .inl rfl, fun _ _ _ _ _ => .inl rfl⟩
  ·by_cases hq2 : q ∈ List.range' b ns.length
   ·rw [List.mem_range'_1] at hq2
    have hf := hI.fresh q hq2.1 (by rw [← hI.len]; omega)
    rw [hf]
    exact ⟨nofun, nofun, nofun⟩
   ·have hqp : q ∉ ps := fun hm => (List.mem_append.1 hm).elim hq hq2
    rw [gx ps gs G q hqp]
    exact Up.refl G q
 -- the resources
 have hA : (aU os (List.zipWith ij os g1) ++ aU ns g2).Sublist (aU out.2 (g1 ++ g2)) := by
  rw [ho, lF hg1]
  have h1 := (m7 hback hr1 (ft ps gs G)).2
  have h2 : aU ns g2 = aU rest g2 := by
   have hx' : aw (RV1 (g1 ++ g2) Zc w') out.1 ys := ⟨by have := hx0.1; simpa using this, fun i a c ha hc => hx0.2 i (.v a) c (by simp [ha]) hc⟩
   exact (hvs (Gc := g1 ++ g2) (G'' := ft ps gs G) hx' hr2 hgat).2.2
  rw [h2]
  exact h1.append_right _
 have hperm := uC (js := ps) (os := os ++ ns) (h := s.heap) (gs := gs) (G := G) hpsn hpsl (by simp [ps, hjos]) (by simp [gs, hjos, hzl, hnl])
 have hB : (aU (kill js s.heap) (fF js G)).Perm (aU (uI (List.range' b ns.length) (kill js s.heap)) (gW (List.range' b ns.length) (fF js G)) ++ aU (kill ps s.heap) (fF ps G)) := by
  have := kt (List.range' b ns.length) (kill js s.heap) (fF js G) List.nodup_range' (fun j hj => by rw [jy, iK]; exact hpsl j (List.mem_append.2 (.inr hj)))
  rw [show ps = js ++ List.range' b ns.length from rfl, nU, lT]; exact this
 have hgsl : aU (os ++ ns) gs = aU os (List.zipWith ij os g1) ++ aU ns g2 := lF (by rw [hzl, hjos])
 rw [hgsl] at hperm
 have hS1 := hfr.1.perm (hB.append_left (aU out.2 (g1 ++ g2)))
 have hsub : (aU os (List.zipWith ij os g1) ++ aU ns g2 ++ aU (kill ps s.heap) (fF ps G)).Sublist (aU out.2 (g1 ++ g2) ++ (aU (uI (List.range' b ns.length) (kill js s.heap)) (gW (List.range' b ns.length) (fF js G)) ++ aU (kill ps s.heap) (fF ps G))) :=
  hA.append (List.sublist_append_right _ _)
 have hS := (hS1.sub hsub).perm hperm.symm
 -- what is known
 refine ⟨HY vs', ga ps (os ++ ns) s.heap, ft ps gs G, by rw [← hH]; exact h, ?_, ?_, by rw [lD], hup⟩
 ·refine ⟨hS.jv (aR _ _ _) fun hh => ?_, fun j hj hjl => ?_, hI.mz⟩
  ·obtain ⟨hc, hs⟩ := hh
   refine ⟨hs.1.mono fun _ _ _ q => q.up hup, ?_⟩
   have hc2 := hc.2
   rw [ho] at hc2
   have h1 : aw (RO (g1 ++ g2) (jc w0 Z0 (aU (ga ps (os ++ ns) s.heap) (ft ps gs G))) w') olds g1 := by
    have := hc2.take olds.length
    rw [List.take_left, hg1, List.take_left] at this; exact this
   have h2 : aw (RO (g1 ++ g2) (jc w0 Z0 (aU (ga ps (os ++ ns) s.heap) (ft ps gs G))) w') rest g2 := by
    have := hc2.drop olds.length
    rw [List.drop_left, hg1, List.drop_left] at this; exact this
   have hx' : aw (RV1 (g1 ++ g2) (jc w0 Z0 (aU (ga ps (os ++ ns) s.heap) (ft ps gs G))) w') out.1 ys := ⟨by have := hc.1.1; simpa using this, fun i a c ha hc' => hc.1.2 i (.v a) c (by simp [ha]) hc'⟩
   refine yf (hs.2.mono fun _ _ _ q => q.up hup) (aw.append (m7 hback h1 _).1 (hvs hx' h2 hgat).2.1)
  ·rw [lI] at hjl
   rw [gx ps gs G j ?_]
   ·exact hI.fresh j (by omega) hjl
   ·intro hm
    rcases List.mem_append.1 hm with hm | hm
    ·have := hlt j hm; omega
    ·rw [List.mem_range'_1] at hm; omega
 ·obtain ⟨hc, hs⟩ := hS.per
  have hc2 := hc.2
  rw [ho] at hc2
  have h2 : aw (RO (g1 ++ g2) (jc w0 Z0 (aU (ga ps (os ++ ns) s.heap) (ft ps gs G))) w') rest g2 := by
   have := hc2.drop olds.length
   rw [List.drop_left, hg1, List.drop_left] at this; exact this
  have hx' : aw (RV1 (g1 ++ g2) (jc w0 Z0 (aU (ga ps (os ++ ns) s.heap) (ft ps gs G))) w') out.1 ys := ⟨by have := hc.1.1; simpa using this, fun i a c ha hc' => hc.1.2 i (.v a) c (by simp [ha]) hc'⟩
  have hfin := (hvs hx' h2 hgat).1
  match vs', hfin with
  | [], hfin => obtain rfl := hfin.aV; exact ⟨[], rfl, aw.nil⟩
  | [x], hfin =>
   obtain ⟨y, ys', rfl, h1, h2⟩ := hfin.cons_inv
   obtain rfl := h2.aV
   exact h1
  | x :: x' :: vs'', hfin =>
   have hl := hfin.1
   refine ⟨ys, ?_, hfin⟩
   rw [dif_neg]
   simp only [List.size_toArray, ← hl, List.length_cons]
   omega
end
end Go.Ab
namespace Go.Ab
open Go Go.Dk
section
variable {P : Program} {w0 w w' : World} {M Z0 : bn} {b : Nat} {G : List GO} {s : AS} {tv : List Value} {r : List V1 × List aq}
def pO (w0 : World) (M Z0 : bn) (b' : Nat) (G : List GO) (s : AS) (tv : List Value) (d : Option Tmp) (k : AV → List aq → OR) (r : List V1 × List aq) (a' : Act) (w' : World) : Prop :=
 ∃ v h' G' tv', k v h' = some r ∧ a' = ⟨tv'.toArray, []⟩ ∧ bq w0 M Z0 b' G' (AS.put ⟨s.tmps, h'⟩ d v) tv' w' ∧ h'.length = s.heap.length ∧ Up G G' ∧ ∃ X, tv' = (match d with | some d => tv.set d X | none => tv)
theorem nO (tv : List Value) (d : Option Tmp) (X : Value) : (Act.mk tv.toArray []).put d X = ⟨(match d with | some d => tv.set d X | none => tv).toArray, []⟩ := by
 cases d with
 | none => rfl
 | some d => simp [Act.put]
theorem qo {α β : Type} {R : α → β → Prop} {l : List α} {m : List β} {da : α} {db : β} (h : aw R l m) (hd : ∀ y, R da y) (i : Nat) : R (l.getD i da) (m.getD i db) := by
 cases hi : l[i]? with
 | none => simp only [List.getD, hi, Option.getD_none]; exact hd _
 | some a => obtain ⟨y, hy, hr⟩ := h.get hi; simp only [List.getD, hi, hy, Option.getD_some]; exact hr
theorem bq.ev (hI : bq w0 M Z0 b G s tv w) (x : Operand) : RV G (zn w0 Z0 s G) w (s.ev x) (Act.eval ⟨tv.toArray, []⟩ x) := by
 cases x with
 | tmp t => rw [HG]; exact qo hI.st.per.1 fa t
 | const v => exact vU v
 | global g => exact fa _
 | func f => exact ⟨⟨[], rfl, aw.nil⟩, fun _ => rfl⟩
theorem gy {o : Oper} {k : AV → List aq → OR} {b' : Nat} {G' : List GO} {h' : List aq} {v : AV} {X : Value} {Q : Exit → Act → World → Prop} (hr : (execOp (Act.eval ⟨tv.toArray, []⟩) o).run P w = .ok (.value X) w') (hk : k v h' = some r)
   (hI : bq w0 M Z0 b' G' ⟨s.tmps, h'⟩ tv w') (hv : RV G' (zn w0 Z0 ⟨s.tmps, h'⟩ G') w' v X) (hl : h'.length = s.heap.length) (hu : Up G G') : o.wp P ⟨tv.toArray, []⟩ w (pO w0 M Z0 b' G s tv o.dst k r) Q := by
 simp only [Oper.wp, hr, Oper.upon]
 exact ⟨v, h', G', _, hk, nO _ _ _, hI.put o.dst hv, hl, hu, X, by cases o.dst <;> rfl⟩
theorem a9 {o : Oper} {k : AV → List aq → OR} {b' : Nat} {v : AV} {X : Value} {Q : Exit → Act → World → Prop} (hI : bq w0 M Z0 b G s tv w) (hb : b ≤ b') (hr : (execOp (Act.eval ⟨tv.toArray, []⟩) o).run P w = .ok (.value X) w) (hk : k v s.heap = some r)
   (hv : RV G (zn w0 Z0 s G) w v X) : o.wp P ⟨tv.toArray, []⟩ w (pO w0 M Z0 b' G s tv o.dst k r) Q :=
 gy hr hk (hI.raise hb) hv rfl (Up.refl G)
theorem Bf {o : Oper} {k : AV → List aq → OR} {b' : Nat} {f : FuncId} {args : Array Value} {Q : Exit → Act → World → Prop} (hr : (execOp (Act.eval ⟨tv.toArray, []⟩) o).run P w = .ok (.enter f args) w)
   (hc : Calls P f args w fun e w' => ∃ X, e = .returned X ∧ ∃ v h' G', k v h' = some r ∧ bq w0 M Z0 b' G' ⟨s.tmps, h'⟩ tv w' ∧ RV G' (zn w0 Z0 ⟨s.tmps, h'⟩ G') w' v X ∧ h'.length = s.heap.length ∧ Up G G') :
   o.wp P ⟨tv.toArray, []⟩ w (pO w0 M Z0 b' G s tv o.dst k r) Q := by
 simp only [Oper.wp, hr, Oper.upon]
 refine hc.mono fun e w' ⟨X, he, v, h', G', hk, hI, hv, hl, hu⟩ => ?_
 subst he
 exact ⟨v, h', G', _, hk, nO _ _ _, hI.put o.dst hv, hl, hu, X, by cases o.dst <;> rfl⟩
theorem nM {Z : bn} : ∀ {vs : List AV} {Xs : List Value} {l : List V1}, v1L vs = some l → aw (RV G Z w) vs Xs → aw (RV1 G Z w) l Xs
 | [], Xs, l, h, ha => by
  obtain rfl := ha.aV
  simp only [v1L, Option.some.injEq] at h; subst h; exact aw.nil
 | .v x :: vs, Xs, l, h, ha => by
  obtain ⟨X, Xs', rfl, h1, h2⟩ := ha.cons_inv
  simp only [v1L, Option.map_eq_some_iff] at h
  obtain ⟨l', hl, rfl⟩ := h
  exact aw.cons h1 (nM hl h2)
 | .tup _ :: vs, Xs, l, h, ha => by simp [v1L] at h
theorem bq.evL (hI : bq w0 M Z0 b G s tv w) (l : List Operand) : aw (RV G (zn w0 Z0 s G) w) (l.map s.ev) (l.map (Act.eval ⟨tv.toArray, []⟩)) :=
 ⟨by simp, fun i x y hx hy => by
  rw [List.getElem?_map] at hx hy
  obtain ⟨q, hq, rfl⟩ := Option.map_eq_some_iff.1 hx
  rw [hq] at hy
  obtain rfl := Option.some.inj hy
  exact hI.ev q⟩
theorem CC {f : FuncId} (h : sv P f = true) : ∃ fn, P.funcs[f]? = some fn ∧ fn.body.isSome = true := by
 unfold sv at h
 split at h
 ·rename_i fn hf
  simp only [Bool.and_eq_true] at h
  exact ⟨fn, hf, h.2⟩
 ·cases h
theorem mO {F : Callee} {D : Dec} (hF : dV P F) (hI : bq w0 M Z0 b G s tv w) {f : FuncId} {rm : Nat} {k : AV → List aq → OR} {vs : List V1} {xs : List Value}
   (hv : aw (RV1 G (zn w0 Z0 s G) w) vs xs) (hb : b + rm ≤ s.heap.length) (h : tF P F D f vs s.heap b rm k = some r) :
   sv P f = true ∧ Calls P f xs.toArray w fun e w' => ∃ X, e = .returned X ∧ ∃ v h' G', k v h' = some r ∧ bq w0 M Z0 (b + rm) G' ⟨s.tmps, h'⟩ tv w' ∧ RV G' (zn w0 Z0 ⟨s.tmps, h'⟩ G') w' v X ∧ h'.length = s.heap.length ∧ Up G G' := by
 unfold tF at h
 split at h
 ·cases h
 ·rename_i fn hfn
  replace h := al h; obtain ⟨hcb, h⟩ := h
  refine ⟨hcb, ?_⟩
  obtain ⟨fn', hfn', hbody⟩ := CC hcb
  rw [hfn] at hfn'
  obtain rfl := Option.some.inj hfn'
  rcases cg h with ⟨_, h⟩ | ⟨_, h⟩
  ·exact lB hF hfn hbody hI hv hb h
  ·obtain ⟨vs', h1, h2, hs, hv'⟩ := fV hI hv h
   have hl : h1.length = s.heap.length := by have := hs.inv.len; have := hI.len; simp at *; omega
   have := lB hF hfn hbody hs.inv hv' (by rw [show (AS.mk s.tmps h1).heap.length = h1.length from rfl, hl]; exact hb) h2
   refine this.mono fun e w' ⟨X, he, v, h', G', q1, q2, q3, q4, q5⟩ => ⟨X, he, v, h', G', q1, q2, q3, by rw [q4]; exact hl, q5⟩
theorem GA {args : Array Operand} {X Y : AV} (h : args.toList.map s.ev = [X, Y]) : ∃ x y, args = #[x, y] ∧ s.ev x = X ∧ s.ev y = Y := by
 obtain ⟨l⟩ := args
 match l, h with
 | [x, y], h => exact ⟨x, y, rfl, by simpa using h⟩
theorem q9 {D : Dec} (hI : bq w0 M Z0 b G s tv w) {bi : Builtin} {args : Array Operand} {tys : Array TypeId} {dst : Option Tmp} {ty : TypeId} {pos : String} {aft : Array Edge} {gd : Option (Nat × Bool)} {k : AV → List aq → OR} {Q : Exit → Act → World → Prop}
   (hb : b + fO P D ⟨dst, .call ⟨.builtin bi, args, tys⟩, ty, pos, aft, gd⟩ ≤ s.heap.length) (h : gn P bi (args.toList.map s.ev) tys.toList s.heap b k = some r) :
   (Oper.mk dst (.call ⟨.builtin bi, args, tys⟩) ty pos aft gd).wp P ⟨tv.toArray, []⟩ w (pO w0 M Z0 (b + fO P D ⟨dst, .call ⟨.builtin bi, args, tys⟩, ty, pos, aft, gd⟩) G s tv dst k r) Q := by
 have hE := hI.ev
 have hle := Nat.le_add_right b (fO P D ⟨dst, .call ⟨.builtin bi, args, tys⟩, ty, pos, aft, gd⟩)
 have one : ∀ {X : AV}, args.toList.map s.ev = [X] → ∃ x, args = #[x] ∧ s.ev x = X := by
  intro X h
  obtain ⟨l⟩ := args
  match l, h with
  | [x], h => exact ⟨x, rfl, by simpa using h⟩
 have two : ∀ {X Y : AV}, args.toList.map s.ev = [X, Y] → ∃ x y, args = #[x, y] ∧ s.ev x = X ∧ s.ev y = Y := by
  intro X Y h
  obtain ⟨l⟩ := args
  match l, h with
  | [x, y], h => exact ⟨x, y, rfl, by simpa using h⟩
 unfold gn at h
 split at h
 ·rename_i X t ha ht
  obtain ⟨x, rfl, rfl⟩ := one ha
  have ht : tys = #[t] := by rw [← Array.toList_inj, ht]
  subst ht
  obtain ⟨v, Y, hk, hr, hv⟩ := vF (d := dst) (ty := ty) (pos := pos) (aft := aft) (gd := gd) hI (hE x) h
  exact a9 hI hle hr hk hv.rv
 ·rename_i X Y t t' ha ht
  obtain ⟨x, y, rfl, rfl, rfl⟩ := two ha
  replace h := al h; obtain ⟨htt, h⟩ := h
  simp only [Nat.beq_eq] at htt
  subst htt
  have ht : tys = #[t, t] := by rw [← Array.toList_inj, ht]
  subst ht
  have hb' : b < G.length := by rw [← hI.len]; simp only [fO] at hb; omega
  obtain ⟨v, h', G', w', X, hk, hr, h1, h2, h3, h4⟩ := o8 (d := dst) (ty := ty) (pos := pos) (aft := aft) (gd := gd) hI hb' (hE x) (hE y) h
  exact gy hr hk h1 h2.rv h3 h4
 ·rename_i X Y ha
  obtain ⟨x, y, rfl, rfl, rfl⟩ := two ha
  obtain ⟨v, X, hk, hr, hv⟩ := n4 (mx := true) (tys := tys) (d := dst) (ty := ty) (pos := pos) (aft := aft) (gd := gd) (P := P) (w := w) (hE x) (hE y) h
  exact a9 hI hle hr hk hv.rv
 ·rename_i X Y ha
  obtain ⟨x, y, rfl, rfl, rfl⟩ := two ha
  obtain ⟨v, X, hk, hr, hv⟩ := n4 (mx := false) (tys := tys) (d := dst) (ty := ty) (pos := pos) (aft := aft) (gd := gd) (P := P) (w := w) (hE x) (hE y) h
  exact a9 hI hle hr hk hv.rv
 ·cases h
theorem gC {F : Callee} {D : Dec} (hF : dV P F) (hI : bq w0 M Z0 b G s tv w) {x : Operand} {args : Array Operand} {tys : Array TypeId} {dst : Option Tmp} {ty : TypeId} {pos : String} {aft : Array Edge} {gd : Option (Nat × Bool)} {k : AV → List aq → OR} {Q : Exit → Act → World → Prop} {rm : Nat}
   (hb : b + rm ≤ s.heap.length) (h : (match s.ev x with
    | .v (.one (.fn f l)) => (v1L (args.toList.map s.ev)).bind fun vs => tF P F D f (vs ++ l.map fun j => .one (.ptr j 0)) s.heap b rm k
    | _ => none) = some r) :
   (Oper.mk dst (.call ⟨.value x, args, tys⟩) ty pos aft gd).wp P ⟨tv.toArray, []⟩ w (pO w0 M Z0 (b + rm) G s tv dst k r) Q := by
 split at h
 ·rename_i f l hx
  have hX := hI.ev x
  rw [hx] at hX
  obtain ⟨⟨bs, hX, hh⟩, _⟩ := hX
  replace h := bind_some h; obtain ⟨vs, hvs, h⟩ := h
  have hcaps : aw (RV1 G (zn w0 Z0 s G) w) (l.map fun j => V1.one (.ptr j 0)) (bs.map fun b => pv b 0) := by
   refine ⟨by simp [hh.1], fun i a c ha hc => ?_⟩
   rw [List.getElem?_map] at ha hc
   obtain ⟨j, hj, rfl⟩ := Option.map_eq_some_iff.1 ha
   obtain ⟨bb, hbb, rfl⟩ := Option.map_eq_some_iff.1 hc
   refine ⟨?_, fun _ => rfl⟩
   rcases hh.2 i j bb hj hbb with h1 | ⟨T, vs, h1⟩
   ·exact .inl h1
   ·exact .inr ⟨bb, T, vs, h1, rfl⟩
  obtain ⟨hcb, hc⟩ := mO hF hI (aw.append (nM hvs (hI.evL args.toList)) hcaps) hb h
  refine Bf (f := f) (args := (args.toList.map (Act.eval ⟨tv.toArray, []⟩) ++ bs.map fun b => pv b 0).toArray) ?_ hc
  have := oe (P := P) (ρ := Act.eval ⟨tv.toArray, []⟩) (f := f) (x := x) (first := #[]) (cap := (bs.map fun b => pv b 0).toArray) (xs := args) (ats := tys) (d := dst) (ty := ty) (pos := pos) (aft := aft) (gd := gd) hX hcb w
  rw [this]
  congr 2
  exact Array.toList_inj.1 (by simp)
 ·cases h
theorem qb {F : Callee} {D : Dec} (hF : dV P F) (hib : ∀ f, D.ib f = true → jZ P f) (hI : bq w0 M Z0 b G s tv w) {o : Oper} {k : AV → List aq → OR} {Q : Exit → Act → World → Prop}
   (hb : b + fO P D o ≤ s.heap.length) (h : oq P F D o s.ev s.heap b k = some r) : o.wp P ⟨tv.toArray, []⟩ w (pO w0 M Z0 (b + fO P D o) G s tv o.dst k r) Q := by
 have hE := hI.ev
 obtain ⟨dst, op, ty, pos, aft, gd⟩ := o
 have hle := Nat.le_add_right b (fO P D ⟨dst, op, ty, pos, aft, gd⟩)
 cases op <;> simp only [oq] at h
 case move x => exact a9 hI hle ((G8 (S := fun _ => True) rfl).out w trivial) h (pR _ (hE x))
 case assign x => exact a9 hI hle ((Cu (S := fun _ => True) rfl).out w trivial) h (pR _ (hE x))
 case pick c x y =>
  split at h
  ·rename_i t hc
   have hcv := hE c
   rw [hc] at hcv
   rcases cg h with ⟨rfl, h⟩ | ⟨rfl, h⟩
   ·exact a9 hI hle ((EC (S := fun _ => True) (cU hcv) rfl).out w trivial) h (hE x)
   ·exact a9 hI hle ((El (S := fun _ => True) (cU hcv) rfl).out w trivial) h (hE y)
  ·cases h
 case alloc e =>
  replace h := bind_some h; obtain ⟨z, hz, h⟩ := h
  obtain ⟨cs, hzb, hzr⟩ := tC hz
  have hb' : b < G.length := by rw [← hI.len]; simp only [fO] at hb; omega
  obtain ⟨h1, h2, h3⟩ := xt hI hb' (hzr G _ w) e
  exact gy (zY hzb) h h1 h2 (by simp) h3
 case box e x =>
  replace h := bind_some h; obtain ⟨c, hc, h⟩ := h
  obtain ⟨xs, hX, hr⟩ := mj hc (hE x)
  have hb' : b < G.length := by rw [← hI.len]; simp only [fO] at hb; omega
  obtain ⟨h1, h2, h3⟩ := xt hI hb' hr e
  exact gy (EV hX) h h1 h2 (by simp) h3
 case build t ps =>
  obtain ⟨v, X, hk, hr, hv⟩ := rz (ρ := Act.eval ⟨tv.toArray, []⟩) (d := dst) (ty := ty) (pos := pos) (aft := aft) (gd := gd) hE h
  exact a9 hI hle hr hk hv
 case buildSlice t n ps =>
  have hb' : b < G.length := by rw [← hI.len]; simp only [fO] at hb; omega
  obtain ⟨v, h', G', w', X, hk, hr, h1, h2, h3, h4⟩ := kA (ρ := Act.eval ⟨tv.toArray, []⟩) (d := dst) (ty := ty) (pos := pos) (aft := aft) (gd := gd) hI hb' hE h
  exact gy hr hk h1 h2 h3 h4
 case load t x =>
  obtain ⟨v, X, hk, hr, hv⟩ := s9 (d := dst) (ty := ty) (pos := pos) (aft := aft) (gd := gd) hI (hE x) h
  exact a9 hI hle hr hk hv
 case store t x y =>
  obtain ⟨h', G', w', hk, hr, h1, h2, h3⟩ := rk (d := dst) (ty := ty) (pos := pos) (aft := aft) (gd := gd) hI (hE x) (hE y) h
  simp only [Oper.wp, hr, Oper.upon]
  exact ⟨aa, h', G', _, hk, nO _ _ _, (h1.raise hle).put dst (fa _), h2, h3, undef, by cases dst <;> rfl⟩
 case nilCheck x =>
  obtain ⟨v, X, hk, hr, hv⟩ := vi (d := dst) (ty := ty) (pos := pos) (aft := aft) (gd := gd) hI (hE x) h
  exact a9 hI hle hr hk hv.rv
 case binOp op t x y t' =>
  obtain ⟨v, X, hk, hr, hv⟩ := vK (d := dst) (ty := ty) (pos := pos) (aft := aft) (gd := gd) (t' := t') (P := P) (w := w) (hE x) (hE y) h
  exact a9 hI hle hr hk hv.rv
 case unOp op t x =>
  obtain ⟨v, X, hk, hr, hv⟩ := yB (d := dst) (ty := ty) (t := t) (pos := pos) (aft := aft) (gd := gd) (P := P) (w := w) (hE x) h
  exact a9 hI hle hr hk hv.rv
 case convert t t' x =>
  obtain ⟨v, X, hk, hr, hv⟩ := s7 (d := dst) (ty := ty) (pos := pos) (aft := aft) (gd := gd) hI (hE x) h
  exact a9 hI hle hr hk hv.rv
 case makeFunc fn first caps =>
  split at h
  ·rename_i f hfirst
   replace h := bind_some h; obtain ⟨l, hl, h⟩ := h
   obtain ⟨bs, hbs, hh⟩ := lz hI (hI.evL caps.toList) hl
   have hf : first = #[] := by cases first; simp_all
   subst hf
   have hr : (execOp (Act.eval ⟨tv.toArray, []⟩) ⟨dst, .makeFunc (.func f) #[] caps, ty, pos, aft, gd⟩).run P w = .ok (.value (.func (.func f) #[] (bs.map fun b => pv b 0).toArray)) w := by
    have := (y9 (P := P) (S := fun _ => True) (ρ := Act.eval ⟨tv.toArray, []⟩) (d := dst) (ty := ty) (pos := pos) (aft := aft) (gd := gd) (fn := .func f) (first := []) (cap := caps.toList) (vf := []) (vc := bs.map fun b => pv b 0) rfl hbs).out w trivial
    simpa using this
   exact a9 hI hle hr h ⟨⟨bs, rfl, hh⟩, fun _ => rfl⟩
  ·cases h
 case makeSlice t x y =>
  have hb' : b < G.length := by rw [← hI.len]; simp only [fO] at hb; omega
  obtain ⟨v, h', G', w', X, hk, hr, h1, h2, h3, h4⟩ := sj (ρ := Act.eval ⟨tv.toArray, []⟩) (d := dst) (ty := ty) (pos := pos) (aft := aft) (gd := gd) hI hb' (hE x) (hE y) h
  exact gy hr hk h1 h2.rv h3 h4
 case slice t x lo hi mx =>
  obtain ⟨v, h', X, hk, hr, hs, hv⟩ := qw (ρ := Act.eval ⟨tv.toArray, []⟩) (d := dst) (ty := ty) (pos := pos) (aft := aft) (gd := gd) hI hE h
  exact gy hr hk (hs.inv.raise hle) hv.rv (by have := hs.inv.len; have := hI.len; simp at *; omega) (Up.refl G)
 case fieldAddr t x i =>
  replace h := bind_some h; obtain ⟨D, hD, h⟩ := h
  obtain ⟨v, X, hk, hr, hv⟩ := qT (d := dst) (ty := ty) (pos := pos) (aft := aft) (gd := gd) hI (hE x) hD h
  exact a9 hI hle hr hk hv.rv
 case indexAddr t x y =>
  obtain ⟨v, X, hk, hr, hv⟩ := kQ (d := dst) (ty := ty) (pos := pos) (aft := aft) (gd := gd) hI (hE x) (hE y) h
  exact a9 hI hle hr hk hv.rv
 case index t x y =>
  obtain ⟨v, X, hk, hr, hv⟩ := ry (d := dst) (ty := ty) (pos := pos) (aft := aft) (gd := gd) (P := P) (w := w) (hE x) (hE y) h
  exact a9 hI hle hr hk hv.rv
 case extract x i =>
  obtain ⟨v, X, hk, hr, hv⟩ := nF (d := dst) (ty := ty) (pos := pos) (aft := aft) (gd := gd) (P := P) (w := w) (hE x) h
  exact a9 hI hle hr hk hv
 case call c =>
  obtain ⟨callee, args, tys⟩ := c
  cases callee with
  | builtin bi =>
   exact q9 hI hb h
  | invoke q m => simp at h
  | value f =>
   cases f with
   | func f =>
    simp only at h
    rcases cg h with ⟨hi, h⟩ | ⟨_, h⟩
    ·split at h
     ·rename_i a n hargs
      obtain ⟨hn, hk⟩ := al h
      simp only [Bool.and_eq_true, decide_eq_true_eq] at hn
      obtain ⟨x, y, rfl, e1, e2⟩ := GA hargs
      have h1 := hE x
      have h2 := hE y
      rw [e1] at h1
      rw [e2] at h2
      have hy : Act.eval ⟨tv.toArray, []⟩ y = .int .u8 ((UInt8.ofNat n.toNat).toNat : Int) := by rw [AW hn.1 hn.2]; exact fX h2
      exact a9 hI hle ((vp (S := fun _ => True) (hib f hi) (kG h1) hy rfl).out w trivial) hk (dM _ _).rv
     ·cases h
    ·replace h := bind_some h; obtain ⟨vs, hvs, h⟩ := h
     obtain ⟨hcb, hc⟩ := mO hF hI (nM hvs (hI.evL args.toList)) hb h
     refine Bf (f := f) (args := (args.toList.map (Act.eval ⟨tv.toArray, []⟩)).toArray) ?_ hc
     have := oe (P := P) (ρ := Act.eval ⟨tv.toArray, []⟩) (f := f) (x := .func f) (first := #[]) (cap := #[]) (xs := args) (ats := tys) (d := dst) (ty := ty) (pos := pos) (aft := aft) (gd := gd) rfl hcb w
     rw [this]
     congr 2
     exact Array.toList_inj.1 (by simp)
   | tmp t => exact gC hF hI hb h
   | const v => exact gC hF hI hb h
   | global g => exact gC (D := D) hF hI hb h
 all_goals cases h
end
end Go.Ab
namespace Go.Ab
open Go Go.Dk
section
variable {P : Program} {w0 w w' : World} {M Z0 : bn} {b : Nat} {G : List GO} {s : AS} {tv : List Value} {r : List V1 × List aq}
theorem vJ (hI : bq w0 M Z0 b G s tv w) {ops : List Oper} {o : Oper} {yes no : AS → OR} (h : y0 ops s o.guard yes no = some r) :
   (Region.wanted o (yielded ops.toArray tv.toArray) = true ∧ ∃ s', yes s' = some r ∧ bq w0 M Z0 b G s' tv w ∧ s'.heap = s.heap) ∨
   (Region.wanted o (yielded ops.toArray tv.toArray) = false ∧ ∃ s', no s' = some r ∧ bq w0 M Z0 b G s' tv w ∧ s'.heap = s.heap) := by
 unfold y0 at h
 split at h
 ·rename_i hg
  exact .inl ⟨by simp [Region.wanted, hg], s, h, hI, rfl⟩
 ·rename_i j want hg
  split at h
  ·rename_i d hd
   split at h
   ·rename_i bb hb
    have hdl : s.tmps[d]? = some (.v (.one (.bool bb))) := by
     cases hs : s.tmps[d]? with
     | none => simp [List.getD, hs, aa] at hb
     | some v => simp [List.getD, hs] at hb; rw [hb]
    obtain ⟨X, hX, hr⟩ := hI.st.per.1.get hdl
    have hX' := cU hr
    subst hX'
    have hy : yielded ops.toArray tv.toArray j = some bb := by
     have hd' : (ops.toArray[j]?).bind (·.dst) = some d := by simpa using hd
     simp only [yielded, hd', Option.bind_some]
     have : tv.toArray[d]? = some (.bool bb) := by simpa using hX
     rw [this]
    have hput : ∀ c, c = bb → bq w0 M Z0 b G (s.put (some d) (iZ c)) tv w := by
     rintro c rfl
     have := hI.put (some d) (v := iZ c) (X := .bool c) ⟨rfl, fun _ => rfl⟩
     simp only at this
     rw [iP hX] at this
     exact this
    have hw : Region.wanted o (yielded ops.toArray tv.toArray) = (bb == want) := by
     simp only [Region.wanted, hg, hy]; rfl
    cases bb <;> cases want <;> simp only [cond_true, cond_false] at h
    ·exact .inl ⟨hw, _, h, hput _ rfl, rfl⟩
    ·exact .inr ⟨hw, _, h, hput _ rfl, rfl⟩
    ·exact .inr ⟨hw, _, h, hput _ rfl, rfl⟩
    ·exact .inl ⟨hw, _, h, hput _ rfl, rfl⟩
   ·rename_i hb
    have hdl : s.tmps[d]? = some (.tup []) := by
     cases hs : s.tmps[d]? with
     | none => simp [List.getD, hs, aa] at hb
     | some v => simp [List.getD, hs] at hb; rw [hb]
    obtain ⟨X, hX, xs, hXe, hr⟩ := hI.st.per.1.get hdl
    obtain rfl := hr.aV
    subst hXe
    have hy : yielded ops.toArray tv.toArray j = none := by
     have hd' : (ops.toArray[j]?).bind (·.dst) = some d := by simpa using hd
     simp only [yielded, hd', Option.bind_some]
     have : tv.toArray[d]? = some (.tuple #[]) := by simpa using hX
     rw [this]
    have hw : Region.wanted o (yielded ops.toArray tv.toArray) = false := by
     simp only [Region.wanted, hg, hy]; rfl
    exact .inr ⟨hw, s, h, hI, rfl⟩
   ·cases h
  ·cases h
theorem Ew {o : Oper} {t t' : TypeId} {x : Operand} {a : Option Addr} {n c : Nat} {ρ : Operand → Value} (ho : o.op = .binOp .eql t x (.const (.slice none 0 0)) t') (hk : (cn P t).isSome = true) (hx : ρ x = .slice a n c) (hy : ρ (.const (.slice none 0 0)) = .slice none 0 0) :
   (execOp ρ o).run P w = .ok (.value (.bool a.isNone)) w := by
 obtain ⟨e, he⟩ : ∃ e, P.underlying t = some (.slice e) := by
  unfold cn at hk
  split at hk
  ·exact ⟨_, ‹_›⟩
  ·cases hk
 have hq : (Op.equal t (.slice a n c) (.slice none 0 0)).run P w = .ok a.isNone w := by
  unfold Op.equal
  rw [show Op.maxDepth = 9999 + 1 from rfl, Op.equalIn]
  cases a <;> simp [Sem.run_bind, run_underlying he]
 obtain ⟨dst, op, ty, pos, aft, gd⟩ := o
 simp only at ho
 subst ho
 simp only [execOp, hx, hy, eqGuard, binOp, Sem.run_bind]
 simp [hq, Sem.run_bind]
theorem Bw {Z : bn} : RV G Z w Ei undef := ⟨[], rfl, aw.nil⟩
theorem C5 {o : Oper} {ρ : Operand → AV} {m : Nat} (h : HA P o ρ = some m) : ∃ t x t', o.op = .binOp .eql t x (.const (.slice none 0 0)) t' ∧ (cn P t).isSome = true ∧ ∃ d, ρ x = .v (.one (.fr d)) ∧ m = d.len := by
 unfold HA at h
 split at h
 ·rename_i t x t' ho
  split at h
  ·rename_i e d hk hx
   exact ⟨t, x, t', ho, by rw [hk]; rfl, d, hx, (Option.some.inj h).symm⟩
  ·cases h
 ·cases h
theorem gA {F : Callee} {D : Dec} (hF : dV P F) (hib : ∀ f, D.ib f = true → jZ P f) {ops : List Oper} {k : AS → OR} {Q : Exit → Act → World → Prop} : ∀ {l : List Oper} {b : Nat} {s : AS} {G : List GO} {tv : List Value} {w : World},
   bq w0 M Z0 b G s tv w → b + room P D l ≤ s.heap.length → oG P F D ops l b s k = some r →
   (∀ s' G' tv' w', k s' = some r → bq w0 M Z0 s'.heap.length G' s' tv' w' → Up G G' → Q .normal ⟨tv'.toArray, []⟩ w') → wpList P ops.toArray Q l ⟨tv.toArray, []⟩ w
 | [], b, s, G, tv, w, hI, hb, h, hQ => hQ s G tv w h (hI.raise (by simp only [room] at hb; omega)) (Up.refl G)
 | o :: l, b, s, G, tv, w, hI, hb, h, hQ => by
  simp only [room] at hb
  unfold oG at h
  unfold wpList
  rcases vJ hI h with ⟨hw, s', h, hI', hh⟩ | ⟨hw, s', h, hI', hh⟩
  ·rw [if_pos hw]
   split at h
   ·rename_i m hm
    have hput : ∀ (d : Option Tmp) (s : AS) (v : AV), (s.put d v).heap = s.heap := fun d s v => by cases d <;> rfl
    obtain ⟨t, x, t', hop, hk, d, hx, rfl⟩ := C5 hm
    have hxr := hI'.ev x
    rw [hx] at hxr
    obtain ⟨⟨a, c, xs, hX, hc1, hc2, hel, hnz⟩, _⟩ := hxr
    obtain ⟨dst, op, ty, pos, aft, gd⟩ := o
    simp only at hop
    subst hop
    have hrun := Ew (P := P) (o := ⟨dst, .binOp .eql t x (.const (.slice none 0 0)) t', ty, pos, aft, gd⟩) (w := w) (ρ := Act.eval ⟨tv.toArray, []⟩) rfl hk hX rfl
    have key : ∀ bb, a.isNone = bb → oG P F D ops l (b + fO P D ⟨dst, .binOp .eql t x (.const (.slice none 0 0)) t', ty, pos, aft, gd⟩) (s'.put dst (iZ bb)) k = some r →
       Oper.wp P ⟨dst, .binOp .eql t x (.const (.slice none 0 0)) t', ty, pos, aft, gd⟩ ⟨tv.toArray, []⟩ w (fun a' w' => wpList P ops.toArray Q l a' w') Q := by
     intro bb hbb h
     refine Oper.wp_mono (fun a' w' hst => ?_) (a9 (k := fun v h => oG P F D ops l (b + fO P D ⟨dst, .binOp .eql t x (.const (.slice none 0 0)) t', ty, pos, aft, gd⟩) (({ s' with heap := h } : AS).put dst v) k) (v := iZ bb) (Q := Q) hI' (Nat.le_add_right b (fO P D ⟨dst, .binOp .eql t x (.const (.slice none 0 0)) t', ty, pos, aft, gd⟩)) hrun h (by rw [hbb]; exact ⟨rfl, fun _ => rfl⟩))
     obtain ⟨v, h', G', tv', hk, rfl, hI2, hl, hu, _⟩ := hst
     refine gA hF hib (k := k) hI2 ?_ hk fun s2 G2 tv2 w2 h2 hI3 hu2 => hQ s2 G2 tv2 w2 h2 hI3 (hu.trans hu2)
     rw [hput]; show _ ≤ h'.length; rw [hl, hh]; omega
    refine .inl ?_
    rcases cg h with ⟨hm0, h⟩ | ⟨hm0, h⟩
    ·obtain ⟨h1, h2⟩ := CE h
     cases hb : a.isNone with
     | true => exact key true hb h1
     | false => exact key false hb h2
    ·refine key false ?_ h
     rcases hnz with hnz | ⟨ab, ao, ha, _⟩
     ·have := hel.length
      rw [hnz] at this
      simp only [List.length_nil] at this
      have hd0 : d.len ≠ 0 := fun e => by rw [e] at hm0; cases hm0
      have hkz : 0 < d.kind.size := by cases d <;> simp [SD.kind, SK.size]
      have := Nat.mul_pos (Nat.pos_of_ne_zero hd0) hkz
      omega
     ·rw [ha]; rfl
   refine .inl (Oper.wp_mono (fun a' w' hst => ?_) (qb (Q := Q) hF hib hI' (by rw [hh]; omega) h))
   obtain ⟨v, h', G', tv', hk, rfl, hI2, hl, hu, _⟩ := hst
   have hput : ∀ (d : Option Tmp) (s : AS) (v : AV), (s.put d v).heap = s.heap := fun d s v => by cases d <;> rfl
   refine gA hF hib (k := k) hI2 ?_ hk fun s2 G2 tv2 w2 h2 hI3 hu2 => hQ s2 G2 tv2 w2 h2 hI3 (hu.trans hu2)
   rw [hput]; show _ ≤ h'.length; rw [hl, hh]; omega
  ·rw [if_neg (by simp [hw])]
   rw [nO]
   have hput : ∀ (d : Option Tmp) (s : AS) (v : AV), (s.put d v).heap = s.heap := fun d s v => by cases d <;> rfl
   exact gA hF hib (k := k) ((hI'.put o.dst Bw).raise (Nat.le_add_right _ _)) (by rw [hput, hh]; omega) h hQ
theorem zf (h : List aq) (G : List GO) (n : Nat) (hl : h.length = G.length) : aU (h ++ List.replicate n .dead) (G ++ List.replicate n .fresh) = aU h G := by
 rw [bC hl, su, List.append_nil]
theorem bq.grow (hI : bq w0 M Z0 b G s tv w) (n : Nat) : bq w0 M Z0 s.heap.length (G ++ List.replicate n .fresh) (grow n s) tv w := by
 have hr := zf s.heap G n hI.len
 refine ⟨?_, fun j hj hl => ?_, hI.mz⟩
 ·have := hI.st
  rw [← hr] at this
  refine this.jv (aR _ _ _) fun hh => ⟨hh.1.mono fun _ _ _ q => q.up (Up.append _ _), ?_⟩
  exact aw.append (hh.2.mono fun _ _ _ q => q.up (Up.append _ _)) (aw.replicate trivial n)
 ·rw [hI.len] at hj
  rw [List.length_append, List.length_replicate] at hl
  rw [List.getElem?_append_right hj, List.getElem?_replicate, if_pos (by omega)]
end
end Go.Ab
end
section
namespace Go.Ab
open Go Go.Dk
section
variable {P : Program} {w0 w w' : World} {M Z0 Z : bn} {b : Nat} {G G0 : List GO} {s : AS} {tv : List Value} {r : List V1 × List aq}
theorem xy (live : List Nat) : ∀ (i : Nat) {l : List AV} {xs : List Value}, aw (RV G Z w) l xs → aw (RV G Z w) (gK live i l) xs
 | i, [], xs, h => h
 | i, v :: l, xs, h => by
  obtain ⟨X, xs', rfl, h1, h2⟩ := h.cons_inv
  refine aw.cons ?_ (xy live (i + 1) h2)
  cases dc i live
  ·exact fa X
  ·exact h1
theorem yj (hI : bq w0 M Z0 b G s tv w) (live : List Nat) : bq w0 M Z0 b G ⟨gK live 0 s.tmps, s.heap⟩ tv w :=
 ⟨hI.st.jv (aR _ _ _) fun hh => ⟨xy live 0 hh.1, hh.2⟩, hI.fresh, hI.mz⟩
theorem xJ : ∀ {l m : List Nat}, y3 l m = true → l = m
 | [], [], _ => rfl
 | a :: l, c :: m, h => by simp only [y3, Bool.and_eq_true, Nat.beq_eq] at h; rw [h.1, xJ h.2]
 | [], _ :: _, h => by cases h
 | _ :: _, [], h => by cases h
theorem UpW.sel {js : List Nat} {m : Nat} (h : UpW G0 G) (hm : G0.length = m) (hj : js.take m = List.range m) : UpW G0 (gW js G) := by
 have key : ∀ j g, j < m → G[j]? = some g → (gW js G)[j]? = some g := by
  intro j g hjm hg
  have : js[j]? = some j := by
   have := congrArg (fun l => l[j]?) hj
   simp only [List.getElem?_take, if_pos hjm] at this
   rw [this]; simp [hjm]
  exact dh this hg
 intro j
 refine ⟨fun hh => ?_, fun b T vs hh => ?_, fun ver val sz xs hh => ?_⟩
 ·exact key j _ (by rw [← hm]; exact aC hh) ((h j).1 hh)
 ·have hl : j < m := by rw [← hm]; exact aC hh
  rcases (h j).2.1 b T vs hh with h1 | ⟨T', vs', h1⟩
  ·exact .inl (key j _ hl h1)
  ·exact .inr ⟨T', vs', key j _ hl h1⟩
 ·have hl : j < m := by rw [← hm]; exact aC hh
  rcases (h j).2.2 _ _ _ _ hh with h1 | ⟨a, c, d, h1⟩
  ·exact .inl (key j _ hl h1)
  ·exact .inr ⟨a, c, d, key j _ hl h1⟩
theorem xw {m : Nat} (hI : bq w0 M Z0 s.heap.length G s tv w) (hu : UpW G0 G) (hm : G0.length = m) : ∃ G', bq w0 M Z0 (gc m s).heap.length G' (gc m s) tv w ∧ UpW G0 G' := by
 have hg : gc m s = s ∨ ∃ js, B8 js s.heap.length = true ∧ y3 (js.take m) (List.range m) = true ∧ gc m s = ⟨s.tmps.map (Hj js), tw js s.heap⟩ := by
  unfold gc
  generalize reach s.heap 64 _ _ = js
  cases hc : (B8 js s.heap.length && y3 (js.take m) (List.range m)) with
  | false => exact .inl (by simp [hc])
  | true =>
   have hc' := hc
   simp only [Bool.and_eq_true] at hc'
   exact .inr ⟨js, hc'.1, hc'.2, by simp [hc]⟩
 rcases hg with hg | ⟨js, h1, h2, hg⟩
 ·rw [hg]; exact ⟨G, hI, hu⟩
 ·rw [hg]
  exact ⟨gW js G, (hI.sel h1).raise (by simp [tw]), hu.sel hm (xJ h2)⟩
def qP (o : aq) (g : GO) : Prop := ∃ (e : TypeId × SK) (a : Option Addr), o = .arr e.1 e.2.nil 0 false ∧ g = .arr 0 (.slice a 0 0) e.2.size []
def At_ (b : Nat) (N G' : List GO) : Prop := ∀ (i : Nat) g, N[i]? = some g → G'[b + i]? = some g
theorem At_.left {N N' G' : List GO} (h : At_ b (N ++ N') G') : At_ b N G' := fun i g hg => h i g (by rw [List.getElem?_append_left (aC hg)]; exact hg)
theorem At_.right {N N' G' : List GO} (h : At_ b (N ++ N') G') : At_ (b + N.length) N' G' := fun i g hg => by
 have := h (N.length + i) g (by rw [List.getElem?_append_right (by omega)]; simpa using hg)
 rw [Nat.add_assoc]; exact this
theorem pK {v : SV} {X : Value} (h : cM G Z w v X) : ∃ N, aw qP (Fk b v).2 N ∧ ∀ G', At_ b N G' → Up G G' → cM G' Z w (Fk b v).1 X := by
 unfold Fk
 split
 ·rename_i e
  obtain ⟨⟨a, rfl⟩, h2⟩ := h
  refine ⟨[.arr 0 (.slice a 0 0) e.2.size []], aw.cons ⟨e, a, rfl, rfl⟩ aw.nil, fun G' hA hu => ⟨.inr ⟨0, _, _, _, hA 0 _ rfl, Nat.le_refl _, fun _ => rfl⟩, h2⟩⟩
 ·exact ⟨[], aw.nil, fun G' _ hu => ⟨h.1.up hu, h.2⟩⟩
theorem lr : ∀ {l : List SV} {xs : List Value} {b : Nat}, aw (cM G Z w) l xs → ∃ N, aw qP (Fj b l).2 N ∧ ∀ G', At_ b N G' → Up G G' → aw (cM G' Z w) (Fj b l).1 xs
 | [], xs, b, h => ⟨[], aw.nil, fun _ _ _ => by obtain rfl := h.aV; exact aw.nil⟩
 | v :: l, xs, b, h => by
  obtain ⟨X, xs', rfl, h1, h2⟩ := h.cons_inv
  obtain ⟨N1, a1, c1⟩ := pK (b := b) h1
  obtain ⟨N2, a2, c2⟩ := lr (b := b + (Fk b v).2.length) h2
  refine ⟨N1 ++ N2, aw.append a1 a2, fun G' hA hu => aw.cons (c1 G' hA.left hu) (c2 G' (by rw [a1.1]; exact hA.right) hu)⟩
theorem yy {v : AV} {X : Value} {b : Nat} (h : RV G Z w v X) : ∃ N, aw qP (Hp b v).2 N ∧ ∀ G', At_ b N G' → Up G G' → RV G' Z w (Hp b v).1 X := by
 cases v with
 | v x => cases x with
  | one x =>
   by_cases hx : x = .any
   ·subst hx
    exact ⟨[], aw.nil, fun G' _ _ => fa X⟩
   ·obtain ⟨N, a, c⟩ := pK (b := b) ⟨h.1, h.2 hx⟩
    exact ⟨N, a, fun G' hA hu => (c G' hA hu).rv⟩
  | agg l =>
   obtain ⟨xs, hX, hh⟩ := h
   obtain ⟨N, a, c⟩ := lr (b := b) hh
   exact ⟨N, a, fun G' hA hu => ⟨xs, hX, c G' hA hu⟩⟩
 | tup l => exact ⟨[], aw.nil, fun G' _ hu => RV.up hu h⟩
theorem jJ : ∀ {l : List AV} {xs : List Value} {b : Nat}, aw (RV G Z w) l xs → ∃ N, aw qP (lq b l).2 N ∧ ∀ G', At_ b N G' → Up G G' → aw (RV G' Z w) (lq b l).1 xs
 | [], xs, b, h => ⟨[], aw.nil, fun _ _ _ => by obtain rfl := h.aV; exact aw.nil⟩
 | v :: l, xs, b, h => by
  obtain ⟨X, xs', rfl, h1, h2⟩ := h.cons_inv
  obtain ⟨N1, a1, c1⟩ := yy (b := b) h1
  obtain ⟨N2, a2, c2⟩ := jJ (b := b + (Hp b v).2.length) h2
  refine ⟨N1 ++ N2, aw.append a1 a2, fun G' hA hu => aw.cons (c1 G' hA.left hu) (c2 G' (by rw [a1.1]; exact hA.right) hu)⟩
theorem iX : ∀ {h : List aq} {gs : List GO} {b : Nat}, aw (RO G Z w) h gs → ∃ N, aw qP (wF b h).2 N ∧ (∀ G', At_ b N G' → Up G G' → aw (RO G' Z w) (wF b h).1 gs) ∧ aU (wF b h).1 gs = aU h gs
 | [], gs, b, h => ⟨[], aw.nil, fun _ _ _ => by obtain rfl := h.aV; exact aw.nil, rfl⟩
 | o :: h, gs, b, hh => by
  obtain ⟨g, gs', rfl, h1, h2⟩ := hh.cons_inv
  cases o with
  | cells c =>
   cases g with
   | cells bb T vs =>
    obtain ⟨N1, a1, c1⟩ := lr (b := b) h1
    obtain ⟨N2, a2, c2, e2⟩ := iX (b := b + (Fj b c).2.length) h2
    refine ⟨N1 ++ N2, aw.append a1 a2, fun G' hA hu => aw.cons (c1 G' hA.left hu) (c2 G' (by rw [a1.1]; exact hA.right) hu), ?_⟩
    simp only [wF, aU, ji, e2]
   | _ => exact h1.elim
  | arr e D v z =>
   obtain ⟨N2, a2, c2, e2⟩ := iX (b := b) h2
   exact ⟨N2, a2, fun G' hA hu => aw.cons (RO.up hu h1) (c2 G' hA hu), by simp only [wF, aU, e2]⟩
  | dead =>
   obtain ⟨N2, a2, c2, e2⟩ := iX (b := b) h2
   exact ⟨N2, a2, fun G' hA hu => aw.cons (RO.up hu h1) (c2 G' hA hu), by simp only [wF, aU, e2]⟩
theorem rP : ∀ {o : List aq} {N : List GO}, aw qP o N → ∀ q ∈ aU o N, (∀ k, ¬ q.foot k) ∧ q.own w ∧ q.Local
 | [], N, h, q, hq => by simp [aU] at hq
 | o :: os, N, h, q, hq => by
  obtain ⟨g, N', rfl, ⟨e, a, rfl, rfl⟩, h2⟩ := h.cons_inv
  simp only [aU, List.mem_append, ji, List.mem_singleton] at hq
  rcases hq with rfl | hq
  ·rw [SK.iG]
   exact ⟨fun k h => h, ⟨rfl, rfl, rfl⟩, fun _ _ _ h => h⟩
  ·exact rP h2 q hq
theorem Dy {o : List aq} {N : List GO} (h : aw qP o N) : aw (RO G Z w) o N :=
 h.mono fun o g _ ⟨e, a, ho, hg⟩ => by
  subst ho hg
  exact ⟨rfl, by rw [SK.xK], iM e.2, a, 0, by rw [SK.iG]⟩
theorem _root_.Go.Dk.St.As {L L' : List Res} {φ : Fact} (h : St w0 M Z0 L φ w) (h' : ∀ q ∈ L', (∀ k, ¬ q.foot k) ∧ q.own w ∧ q.Local) : St w0 M Z0 (L ++ L') φ w := by
 refine ⟨h.ext, ?_, ?_, ?_, ?_, h.stab, ?_⟩
 ·intro q hq; exact (List.mem_append.1 hq).elim (h.own q) (fun hq => (h' q hq).2.1)
 ·intro q hq; exact (List.mem_append.1 hq).elim (h.loc q) (fun hq => (h' q hq).2.2)
 ·intro q hq k hk; exact (List.mem_append.1 hq).elim (fun hq => h.key q hq k hk) (fun hq => ((h' q hq).1 k hk).elim)
 ·refine List.pairwise_append.2 ⟨h.dis, ?_, fun q hq p hp k _ hk => (h' p hp).1 k hk⟩
  exact List.Pairwise.imp_of_mem (fun ha _ _ k hk _ => (h' _ ha).1 k hk) (List.pairwise_of_forall (fun _ _ => trivial) : List.Pairwise (fun _ _ => True) L')
 ·refine h.stab _ _ w w (fun k hz _ => ⟨⟨hz.1, fun q hq hf => ?_⟩, rfl⟩) h.per
  exact (List.mem_append.1 hq).elim (fun hq => hz.2 q hq hf) (fun hq => (h' q hq).1 k hf)
theorem tH (hI : bq w0 M Z0 s.heap.length G s tv w) (hu : UpW G0 G) : ∃ G', bq w0 M Z0 (qh s).heap.length G' (qh s) tv w ∧ UpW G0 G' := by
 obtain ⟨N1, a1, c1⟩ := jJ (b := s.heap.length) hI.st.per.1
 obtain ⟨N2, a2, c2, e2⟩ := iX (b := s.heap.length + (lq s.heap.length s.tmps).2.length) hI.st.per.2
 have hup := Up.append G (N1 ++ N2)
 refine ⟨G ++ (N1 ++ N2), ⟨?_, fun j hj hl => ?_, hI.mz⟩, hu.trans hup.jv⟩
 ·have hnew := aw.append a1 a2
  have hL : aU (qh s).heap (G ++ (N1 ++ N2)) = aU s.heap G ++ aU ((lq s.heap.length s.tmps).2 ++ (wF (s.heap.length + (lq s.heap.length s.tmps).2.length) s.heap).2) (N1 ++ N2) := by
   show aU ((wF (s.heap.length + (lq s.heap.length s.tmps).2.length) s.heap).1 ++ _) _ = _
   have hlen : (wF (s.heap.length + (lq s.heap.length s.tmps).2.length) s.heap).1.length = G.length := by
    have := c2 (G ++ (N1 ++ N2)) (fun i g hg => by
     have hl := aC hg
     rw [a1.1, hI.len, List.getElem?_append_right (by omega), List.getElem?_append_right (by omega)]
     rw [show G.length + N1.length + i - G.length - N1.length = i by omega]; exact hg) hup
    exact this.1
   rw [bC hlen, e2]
  have hS := hI.st.As (rP (w := w) hnew)
  rw [← hL] at hS
  refine hS.jv (aR _ _ _) fun hh => ?_
  obtain ⟨N1', a1', c1'⟩ := jJ (b := s.heap.length) hh.1
  have hk : ∀ k, zn w0 Z0 s G k → jc w0 Z0 (aU (qh s).heap (G ++ (N1 ++ N2))) k := fun k hk => ⟨hk.1, fun q hq hf => by
   rw [hL] at hq
   exact (List.mem_append.1 hq).elim (fun hq => hk.2 q hq hf) (fun hq => (rP (w := w) hnew q hq).1 k hf)⟩
  have hA1 : At_ s.heap.length N1 (G ++ (N1 ++ N2)) := fun i g hg => by
   have hl := aC hg
   rw [hI.len, List.getElem?_append_right (by omega), show G.length + i - G.length = i by omega, List.getElem?_append_left hl]; exact hg
  have hA2 : At_ (s.heap.length + (lq s.heap.length s.tmps).2.length) N2 (G ++ (N1 ++ N2)) := fun i g hg => by
   rw [a1.1, hI.len, List.getElem?_append_right (by omega), List.getElem?_append_right (by omega)]
   rw [show G.length + N1.length + i - G.length - N1.length = i by omega]; exact hg
  refine ⟨(c1 _ hA1 hup).mono fun _ _ _ q => q.aM (aO hk), ?_⟩
  exact aw.append ((c2 _ hA2 hup).mono fun _ _ _ q => q.aM (aO hk)) (Dy hnew)
 ·exfalso
  have h1 : (qh s).heap.length = s.heap.length + ((lq s.heap.length s.tmps).2.length + (wF (s.heap.length + (lq s.heap.length s.tmps).2.length) s.heap).2.length) := by
   show ((wF (s.heap.length + (lq s.heap.length s.tmps).2.length) s.heap).1 ++ _).length = _
   have := c2 (G ++ (N1 ++ N2)) (fun i g hg => by
      have hl := aC hg
      rw [a1.1, hI.len, List.getElem?_append_right (by omega), List.getElem?_append_right (by omega)]
      rw [show G.length + N1.length + i - G.length - N1.length = i by omega]; exact hg) hup
   rw [List.length_append, List.length_append, this.1, hI.len]
  have e1 := a1.1
  have e2 := a2.1
  have e3 := hI.len
  rw [h1] at hj
  rw [List.length_append, List.length_append] at hl
  omega
def v0 : GO → GO
 | .arr _ v sz xs => .arr 0 v sz xs
 | g => g
theorem mX {h : List aq} (hh : aw (RO G Z w) h G) {v : SV} {X : Value} (hx : RS G Z w v X) : RS (G.map v0) Z w (C8 h v) X := by
 cases v with
 | own j v =>
  show RS _ _ _ (match h[j]? with | some (.arr _ _ ver _) => cond (Nat.beq v ver) (.own j 0) .any | _ => .any) X
  split
  ·rename_i hj
   rename_i ver _
   cases hv : Nat.beq v ver with
   | false => trivial
   | true =>
    simp only [Nat.beq_eq] at hv
    obtain ⟨g, hg, hr⟩ := hh.get hj
    cases g with
    | arr ver' val sz xs =>
     obtain ⟨rfl, _⟩ := hr
     exact .inr ⟨0, val, sz, xs, by simp [hg, v0], Nat.le_refl _, fun _ => ix hx hg hv⟩
    | _ => exact hr.elim
  ·trivial
 | ptr j o =>
  rcases hx with hx | ⟨bb, T, vs, hg, he⟩
  ·exact .inl (by simp [hx, v0])
  ·exact .inr ⟨bb, T, vs, by simp [hg, v0], he⟩
 | op j v i o => trivial
 | fn f l =>
  obtain ⟨bs, hX, hb⟩ := hx
  refine ⟨bs, hX, hb.mono fun j bb _ h => ?_⟩
  rcases h with h | ⟨T, vs, h⟩
  ·exact .inl (by simp [h, v0])
  ·exact .inr ⟨T, vs, by simp [h, v0]⟩
 | _ => exact hx
theorem yl (hI : bq w0 M Z0 s.heap.length G s tv w) (hu : UpW G0 G) : ∃ G', bq w0 M Z0 (Fb s).heap.length G' (Fb s) tv w ∧ UpW G0 G' := by
 have hL : ∀ (h : List aq) (gs : List GO) (h0 : List aq), aU (h.map (Gi h0)) (gs.map v0) = aU h gs := by
  intro h
  induction h with
  | nil => intro gs h0; rfl
  | cons o h ih =>
   intro gs h0
   cases gs with
   | nil => rfl
   | cons g gs =>
    simp only [List.map_cons, aU, ih]
    congr 1
    cases o with
    | arr e D v z => cases g <;> cases z <;> rfl
    | _ => cases g <;> rfl
 refine ⟨G.map v0, ⟨?_, fun j hj hl => ?_, hI.mz⟩, ?_⟩
 ·have hS := hI.st
  rw [← hL s.heap G s.heap] at hS
  refine hS.jv (aR _ _ _) fun hh => ⟨?_, ?_⟩
  ·refine hh.1.eH fun v X hx => ?_
   cases v with
   | v x => cases x with
    | one x =>
     refine ⟨mX hh.2 hx.1, fun hne => hx.2 ?_⟩
     rintro rfl; exact hne rfl
    | agg l =>
     obtain ⟨xs, hX, hc⟩ := hx
     exact ⟨xs, hX, hc.eH fun _ _ q => ⟨mX hh.2 q.1, q.2⟩⟩
   | tup l => exact fa X
  ·have hh2 := hh.2
   refine ⟨by simp [Fb, hh2.1], fun i o g ho hg => ?_⟩
   simp only [Fb, List.getElem?_map] at ho hg
   obtain ⟨o', ho', rfl⟩ := Option.map_eq_some_iff.1 ho
   obtain ⟨g', hg', rfl⟩ := Option.map_eq_some_iff.1 hg
   have hr := hh2.2 i o' g' ho' hg'
   cases o' with
   | cells l => cases g' with
    | cells bb T vs => exact aw.eH hr fun _ _ q => ⟨mX hh2 q.1, q.2⟩
    | _ => exact hr.elim
   | arr e D v z => cases g' with
    | arr ver val sz xs => obtain ⟨_, h2, h3⟩ := hr; exact ⟨rfl, h2, h3⟩
    | _ => exact hr.elim
   | dead => cases g' <;> first | trivial | exact hr.elim
 ·exfalso
  simp [Fb] at hj hl
  rw [hI.len] at hj; omega
 ·refine hu.trans fun j => ⟨fun hh => by simp [hh, v0], fun bb T vs hh => .inr ⟨T, vs, by simp [hh, v0]⟩, fun ver val sz xs hh => .inr ⟨0, val, xs, by simp [hh, v0]⟩⟩
theorem lS {m : Nat} {live : Option (List Nat)} (hI : bq w0 M Z0 s.heap.length G s tv w) (hu : UpW G0 G) (hm : G0.length = m) :
   ∃ G', bq w0 M Z0 (lN m live s).heap.length G' (lN m live s) tv w ∧ UpW G0 G' := by
 cases live with
 | none => exact ⟨G, hI, hu⟩
 | some live =>
  obtain ⟨G1, h1, u1⟩ := xw (s := ⟨gK live 0 s.tmps, s.heap⟩) (yj hI live) hu hm
  obtain ⟨G2, h2, u2⟩ := tH h1 u1
  obtain ⟨G3, h3, u3⟩ := xw h2 u2 hm
  exact yl h3 u3
end
end Go.Ab
namespace Go.Ab
open Go Go.Dk
section
variable {P : Program} {w0 w w' : World} {M Z0 Z : bn} {b : Nat} {G G0 : List GO} {s : AS} {tv : List Value} {r : List V1 × List aq}
theorem kR (hI : bq w0 M Z0 b G s tv w) : ∀ {l : List ResultVar} {k : List V1 → OR}, Fg P s l k = some r →
   ∃ vs xs, k vs = some r ∧ aw (RV1 G (zn w0 Z0 s G) w) vs xs ∧ (l.mapM (iF tv.toArray)).run P w = .ok xs w
 | [], k, h => ⟨[], [], h, aw.nil, rfl⟩
 | .tmp t :: l, k, h => by
  unfold Fg at h
  split at h
  ·rename_i x hx
   obtain ⟨vs, xs, hk, hr, hrun⟩ := kR hI h
   have hv := qo (da := aa) (db := undef) hI.st.per.1 fa t
   rw [hx] at hv
   refine ⟨_, tv.getD t undef :: xs, hk, aw.cons hv hr, ?_⟩
   have h1 : (iF tv.toArray (.tmp t)).run P w = .ok (tv.getD t undef) w := HK rfl
   simp only [List.mapM_cons, Sem.run_bind, h1, Result.andThen_ok, hrun, Sem.run_pure]
  ·cases h
 | .cell a t :: l, k, h => by
  unfold Fg at h
  obtain ⟨v, X, bb, o, h, hp, hl, hv⟩ := nN (VX := tv.getD a undef) hI (qo hI.st.per.1 fa a) h
  split at h
  ·rename_i x
   obtain ⟨vs, xs, hk, hr, hrun⟩ := kR hI h
   refine ⟨_, X :: xs, hk, aw.cons hv hr, ?_⟩
   have h1 : (iF tv.toArray (.cell a t)).run P w = .ok X w := Gx (ad := ⟨bb, o, none⟩) hp hl
   simp only [List.mapM_cons, Sem.run_bind, h1, Result.andThen_ok, hrun, Sem.run_pure]
  ·cases h
theorem vo {fn : Func} {xs : List Value} (h : (fn.results.toList.mapM (iF tv.toArray)).run P w = .ok xs w) :
   (results fn tv.toArray).run P w = .ok (if h : xs.toArray.size = 1 then xs.toArray[0] else .tuple xs.toArray) w := by
 rw [yE, Array.mapM_eq_mapM_toList]
 simp [Sem.run_bind, h, Sem.run_pure]
theorem pM (v : SV) : uU v (clean v) := by
 intro G G' Z w X h
 cases v <;> first | exact h | exact ⟨trivial, h.2⟩
theorem jr : ∀ l : List SV, aw uU l (l.map clean)
 | [] => aw.nil
 | v :: l => aw.cons (pM v) (jr l)
def Cj (o : aq) (g : GO) : Prop := ∀ (G G' : List GO) (Z : bn) (w : World), RO G Z w o g → RO G' Z w o g
theorem uF (e : TypeId) (D : SD) (v : Nat) (z : Bool) (g : GO) : Cj (.arr e D v z) g := fun _ _ _ _ h => k7 h
theorem uP (l : List SV) (g : GO) : Cj (.cells (l.map clean)) g := by
 intro G G' Z w h
 cases g with
 | cells bb T vs =>
  refine aw.mono h fun v X hv hr => ?_
  obtain ⟨v', _, rfl⟩ := List.mem_map.1 hv
  have hr' : cM G Z w (clean v') X := hr
  have : ∀ v, clean (clean v) = clean v := by intro v; cases v <;> rfl
  have h2 := pM (clean v') G G' Z w X hr'
  rw [this] at h2; exact h2
 | _ => exact h
structure cR (w0 : World) (M Z0 : bn) (m : Nat) (G : List GO) (tm : List AV) (tv : List Value) (w : World) (h acc : List aq) (A : List GO) : Prop where
 inv : bq w0 M Z0 (h.length + acc.length) (G ++ A) ⟨tm, h ++ acc⟩ tv w
 len : h.length = G.length
 alone : aw Cj acc A
theorem cR.Hs {m : Nat} {tm : List AV} {h acc : List aq} {A : List GO} (hp : cR w0 M Z0 m G tm tv w h acc A) : acc.length = A.length := hp.alone.1
theorem cR.Cb {m : Nat} {tm : List AV} {h acc : List aq} {A : List GO} (hp : cR w0 M Z0 m G tm tv w h acc A) {j : Nat} {o o' : aq} {g g' : GO} (hj : h[j]? = some o) (hg : G[j]? = some g) (hres : ji o' g' = ji o g) (ha : Cj o' g')
   (hro : ∀ Z' : bn, (∀ k, zn w0 Z0 ⟨tm, h ++ acc⟩ (G ++ A) k → Z' k) → RO (G ++ A) Z' w o' g') :
   cR w0 M Z0 m (G.set j .gone) tm tv w (h.set j .dead) (acc ++ [o']) (A ++ [g']) ∧ (∀ k, zn w0 Z0 ⟨tm, h ++ acc⟩ (G ++ A) k → zn w0 Z0 ⟨tm, h.set j .dead ++ (acc ++ [o'])⟩ (G.set j .gone ++ (A ++ [g'])) k) ∧ Up (G ++ A) (G.set j .gone ++ (A ++ [g'])) := by
 have hjl := aC hj
 have hgl := aC hg
 have hj' : (h ++ acc)[j]? = some o := by rw [List.getElem?_append_left hjl]; exact hj
 have hg' : (G ++ A)[j]? = some g := by rw [List.getElem?_append_left hgl]; exact hg
 have hset : (h ++ acc).set j .dead = h.set j .dead ++ acc := by rw [List.set_append_left _ _ hjl]
 have hsetG : (G ++ A).set j .gone = G.set j .gone ++ A := by rw [List.set_append_left _ _ hgl]
 have hperm : (aU (h ++ acc) (G ++ A)).Perm (aU (h.set j .dead ++ (acc ++ [o'])) (G.set j .gone ++ (A ++ [g']))) := by
  refine (dn (h ++ acc) (G ++ A) j hj' hg').trans ?_
  rw [hset, hsetG]
  rw [bC (by simp [hp.len]), bC (by simp [hp.len]), bC hp.Hs]
  have : aU [o'] [g'] = ji o g := by simp [aU, hres]
  rw [this]
  have hc := List.perm_append_comm (l₁ := ji o g) (l₂ := aU (h.set j .dead) (G.set j .gone) ++ aU acc A)
  simpa [List.append_assoc] using hc
 have hz : ∀ k, zn w0 Z0 ⟨tm, h ++ acc⟩ (G ++ A) k → zn w0 Z0 ⟨tm, h.set j .dead ++ (acc ++ [o'])⟩ (G.set j .gone ++ (A ++ [g'])) k := fun k hk => ⟨hk.1, fun q hq => hk.2 q (hperm.mem_iff.2 hq)⟩
 have hup : Up (G ++ A) (G.set j .gone ++ (A ++ [g'])) := by
  have h1 : Up (G ++ A) ((G ++ A).set j .gone) := Up.set fun g0 h0 => by cases g0 <;> trivial
  rw [hsetG] at h1
  have h2 := Up.append (G.set j .gone ++ A) [g']
  rw [List.append_assoc] at h2
  exact h1.trans h2
 refine ⟨⟨⟨?_, fun i hi hl => ?_, hp.inv.mz⟩, by simp [hp.len], aw.append hp.alone (aw.cons ha aw.nil)⟩, hz, hup⟩
 ·refine (hp.inv.st.perm hperm).jv (aR _ _ _) fun hh => ⟨hh.1.mono fun _ _ _ q => q.up hup, ?_⟩
  have hh2 : aw (RO (G.set j .gone ++ (A ++ [g'])) (jc w0 Z0 (aU (h.set j .dead ++ (acc ++ [o'])) (G.set j .gone ++ (A ++ [g'])))) w) (h ++ acc) (G ++ A) := hh.2.mono fun _ _ _ q => q.up hup
  have hs := hh2.set j (a := .dead) (b := .gone) trivial
  rw [hset, hsetG] at hs
  have hnew : RO (G.set j .gone ++ (A ++ [g'])) (jc w0 Z0 (aU (h.set j .dead ++ (acc ++ [o'])) (G.set j .gone ++ (A ++ [g'])))) w o' g' := ha _ _ _ _ (hro _ hz)
  rw [← List.append_assoc, ← List.append_assoc]
  rw [← List.append_assoc, ← List.append_assoc] at hs hnew
  exact aw.append hs (aw.cons hnew aw.nil)
 ·exfalso
  have := hp.len
  have := hp.Hs
  simp at hi hl; omega
theorem cR.E1 {m : Nat} {tm : List AV} {h acc : List aq} {A : List GO} (hp : cR w0 M Z0 m G tm tv w h acc A) {o' : aq} {g' : GO} (hn : qP o' g') :
   cR w0 M Z0 m G tm tv w h (acc ++ [o']) (A ++ [g']) ∧ (∀ k, zn w0 Z0 ⟨tm, h ++ acc⟩ (G ++ A) k → zn w0 Z0 ⟨tm, h ++ (acc ++ [o'])⟩ (G ++ (A ++ [g'])) k) ∧ Up (G ++ A) (G ++ (A ++ [g'])) := by
 have hall : aw qP [o'] [g'] := aw.cons hn aw.nil
 have hnew := rP (w := w) hall
 have hL : aU (h ++ (acc ++ [o'])) (G ++ (A ++ [g'])) = aU (h ++ acc) (G ++ A) ++ aU [o'] [g'] := by
  rw [← List.append_assoc, ← List.append_assoc, bC (by have := hp.len; have := hp.Hs; simp; omega)]
 have hS := hp.inv.st.As hnew
 rw [← hL] at hS
 have hz : ∀ k, zn w0 Z0 ⟨tm, h ++ acc⟩ (G ++ A) k → zn w0 Z0 ⟨tm, h ++ (acc ++ [o'])⟩ (G ++ (A ++ [g'])) k := fun k hk => ⟨hk.1, fun q hq hf => by
  rw [hL] at hq
  exact (List.mem_append.1 hq).elim (fun hq => hk.2 q hq hf) (fun hq => (hnew q hq).1 k hf)⟩
 have hup : Up (G ++ A) (G ++ (A ++ [g'])) := by rw [← List.append_assoc]; exact Up.append _ _
 refine ⟨⟨⟨?_, fun i hi hl => ?_, hp.inv.mz⟩, hp.len, aw.append hp.alone (aw.cons ?_ aw.nil)⟩, hz, hup⟩
 ·refine hS.jv (aR _ _ _) fun hh => ⟨hh.1.mono fun _ _ _ q => q.up hup, ?_⟩
  have := aw.append (aw.mono hh.2 fun _ _ _ q => RO.up hup q) (Dy (G := G ++ (A ++ [g'])) (Z := jc w0 Z0 (aU (h ++ (acc ++ [o'])) (G ++ (A ++ [g'])))) (w := w) hall)
  rw [List.append_assoc, List.append_assoc] at this
  exact this
 ·exfalso
  have := hp.len
  have := hp.Hs
  simp at hi hl; omega
 ·obtain ⟨e, a, rfl, rfl⟩ := hn
  exact uF _ _ _ _ _
structure zM (w0 : World) (M Z0 : bn) (m : Nat) (G : List GO) (tm : List AV) (tv : List Value) (w : World) (h acc : List aq) (A : List GO) (b : Nat) (h' os : List aq) (G' N : List GO) (Rel : List GO → Prop) : Prop where
 Cb : cR w0 M Z0 m G' tm tv w h' (acc ++ os) (A ++ N)
 hl : h'.length = h.length
 zl : ∀ k, zn w0 Z0 ⟨tm, h ++ acc⟩ (G ++ A) k → zn w0 Z0 ⟨tm, h' ++ (acc ++ os)⟩ (G' ++ (A ++ N)) k
 up : Up (G ++ A) (G' ++ (A ++ N))
 nl : os.length = N.length
 rel : ∀ Gf, At_ b N Gf → Rel Gf
theorem cR.kg {m : Nat} {tm : List AV} {h acc : List aq} {A : List GO} (hp : cR w0 M Z0 m G tm tv w h acc A) {j : Nat} {e : TypeId} {D : SD} {ver : Nat} {fz : Bool} (hj : h[j]? = some (.arr e D ver fz)) :
   cR w0 M Z0 m G tm tv w (h.set j (.arr e D ver true)) acc A ∧ (∀ k, zn w0 Z0 ⟨tm, h ++ acc⟩ (G ++ A) k → zn w0 Z0 ⟨tm, h.set j (.arr e D ver true) ++ acc⟩ (G ++ A) k) := by
 have hjl := aC hj
 obtain ⟨h1, h2⟩ := hp.inv.kg (j := j) (e := e) (D := D) (ver := ver) (fz := fz) (by show (h ++ acc)[j]? = _; rw [List.getElem?_append_left hjl]; exact hj)
 have hset : (h ++ acc).set j (.arr e D ver true) = h.set j (.arr e D ver true) ++ acc := by rw [List.set_append_left _ _ hjl]
 simp only [hset] at h1 h2
 exact ⟨⟨by simpa using h1, by simp [hp.len], hp.alone⟩, h2⟩
theorem Hu {m : Nat} {tm : List AV} {h acc : List aq} {A : List GO} (hp : cR w0 M Z0 m G tm tv w h acc A) {j : Nat} {o : aq} (hj : h[j]? = some o) : ∃ g, G[j]? = some g ∧ (G ++ A)[j]? = some g ∧ RO (G ++ A) (zn w0 Z0 ⟨tm, h ++ acc⟩ (G ++ A)) w o g := by
 have hjl := aC hj
 obtain ⟨g, hg, hr⟩ := hp.inv.st.per.2.get (i := j) (a := o) (by show (h ++ acc)[j]? = _; rw [List.getElem?_append_left hjl]; exact hj)
 have hl : j < G.length := by rw [← hp.len]; exact hjl
 exact ⟨g, by rw [List.getElem?_append_left hl] at hg; exact hg, hg, hr⟩
theorem sr {m : Nat} {tm : List AV} {h acc : List aq} {A : List GO} (hp : cR w0 M Z0 m G tm tv w h acc A) {v : SV} {X : Value} {k : SV → List aq → OR} (hx : cM (G ++ A) (zn w0 Z0 ⟨tm, h ++ acc⟩ (G ++ A)) w v X) (hk : mg h v k = some r) :
   ∃ v' h', k v' h' = some r ∧ cR w0 M Z0 m G tm tv w h' acc A ∧ h'.length = h.length ∧ (∀ k, zn w0 Z0 ⟨tm, h ++ acc⟩ (G ++ A) k → zn w0 Z0 ⟨tm, h' ++ acc⟩ (G ++ A) k) ∧ cM (G ++ A) (zn w0 Z0 ⟨tm, h' ++ acc⟩ (G ++ A)) w v' X ∧
    ∀ (i : Nat) c, h[i]? = some (.cells c) → h'[i]? = some (.cells c) := by
 unfold mg at hk
 split at hk
 ·rename_i j v
  split at hk
  ·rename_i e D ver fz hj
   obtain ⟨hv, hk'⟩ := al hk
   simp only [Nat.beq_eq] at hv
   obtain ⟨q1, q2⟩ := hp.kg hj
   have hjl := aC hj
   refine ⟨_, _, hk', q1, by simp, q2, ⟨?_, hx.2⟩, fun i c hi => ?_⟩
   ·exact q1.inv.lu (j := j) (v := v) (e := e) (D := D) (ver := ver) (X := X) (by show (h.set j _ ++ acc)[j]? = _; rw [List.getElem?_append_left (by simpa using hjl)]; simp [hjl]) hv (hx.1.aM (aO q2))
   ·have : j ≠ i := by rintro rfl; rw [hj] at hi; cases hi
    rw [List.getElem?_set_ne this]; exact hi
  ·cases hk
 ·obtain ⟨⟨a, rfl⟩, h2⟩ := hx
  exact ⟨_, _, hk, hp, rfl, fun _ h => h, ⟨vV _ _, h2⟩, fun _ _ h => h⟩
 ·exact ⟨_, _, hk, hp, rfl, fun _ h => h, hx, fun _ _ h => h⟩
theorem hJ {m : Nat} {tm : List AV} {acc : List aq} {A : List GO} : ∀ {l : List SV} {h : List aq} {xs : List Value} {k : List SV → List aq → OR}, cR w0 M Z0 m G tm tv w h acc A → aw (cM (G ++ A) (zn w0 Z0 ⟨tm, h ++ acc⟩ (G ++ A)) w) l xs → jE h l k = some r →
   ∃ l' h', k l' h' = some r ∧ cR w0 M Z0 m G tm tv w h' acc A ∧ h'.length = h.length ∧ (∀ k, zn w0 Z0 ⟨tm, h ++ acc⟩ (G ++ A) k → zn w0 Z0 ⟨tm, h' ++ acc⟩ (G ++ A) k) ∧ aw (cM (G ++ A) (zn w0 Z0 ⟨tm, h' ++ acc⟩ (G ++ A)) w) l' xs ∧
    ∀ (i : Nat) c, h[i]? = some (.cells c) → h'[i]? = some (.cells c)
 | [], h, xs, k, hp, ha, hk => by
  obtain rfl := ha.aV
  exact ⟨_, _, hk, hp, rfl, fun _ h => h, aw.nil, fun _ _ h => h⟩
 | v :: l, h, xs, k, hp, ha, hk => by
  obtain ⟨X, xs', rfl, h1, h2⟩ := ha.cons_inv
  unfold jE at hk
  obtain ⟨v', h', hk1, q1, q2, q3, q4, q5⟩ := sr hp h1 hk
  obtain ⟨l', h'', hk2, p1, p2, p3, p4, p5⟩ := hJ q1 (h2.mono fun _ _ _ q => q.mono (aO q3) (Up.refl _)) hk1
  exact ⟨_, _, hk2, p1, p2.trans q2, fun k hk => p3 k (q3 k hk), aw.cons (q4.mono (aO p3) (Up.refl _)) p4, fun i c hi => p5 i c (q5 i c hi)⟩
theorem iR {own : Bool} {m : Nat} {tm : List AV} : ∀ {l : List SV} {h acc : List aq} {G A : List GO} {b : Nat} {xs : List Value} {k : List SV → List aq → List aq → OR},
   cR w0 M Z0 m G tm tv w h acc A → aw (cM (G ++ A) (zn w0 Z0 ⟨tm, h ++ acc⟩ (G ++ A)) w) l xs → jH own l h b k = some r →
   ∃ cs h' os G' N, k cs h' os = some r ∧ zM w0 M Z0 m G tm tv w h acc A b h' os G' N (fun Gf => aw (cM Gf (zn w0 Z0 ⟨tm, h' ++ (acc ++ os)⟩ (G' ++ (A ++ N))) w) cs xs)
 | [], h, acc, G, A, b, xs, k, hp, ha, hk => by
  obtain rfl := ha.aV
  exact ⟨[], h, [], G, [], hk, by simpa using hp, rfl, by simp, by simpa using Up.refl (G ++ A), rfl, fun _ _ => aw.nil⟩
 | v :: l, h, acc, G, A, b, xs, k, hp, ha, hk => by
  obtain ⟨X, xs', rfl, h1, h2⟩ := ha.cons_inv
  -- a cell that stays what it is, or is forgotten
  have same : ∀ v', uU v v' → jH own l h b (fun cs h os => k (v' :: cs) h os) = some r → ∃ cs h' os G' N, k cs h' os = some r ∧ zM w0 M Z0 m G tm tv w h acc A b h' os G' N (fun Gf => aw (cM Gf (zn w0 Z0 ⟨tm, h' ++ (acc ++ os)⟩ (G' ++ (A ++ N))) w) cs (X :: xs')) := by
   intro v' hv hk
   obtain ⟨cs, h', os, G', N, hk', ho⟩ := iR hp h2 hk
   exact ⟨_, h', os, G', N, hk', ho.Cb, ho.hl, ho.zl, ho.up, ho.nl, fun Gf hA => aw.cons ((hv _ Gf _ _ _ h1).mono (aO ho.zl) (Up.refl _)) (ho.rel Gf hA)⟩
  -- an object is parked
  have parked : ∀ {h2' : List aq} {G2 : List GO} {o' : aq} {g' : GO}, cR w0 M Z0 m G2 tm tv w h2' (acc ++ [o']) (A ++ [g']) → h2'.length = h.length →
     (∀ k, zn w0 Z0 ⟨tm, h ++ acc⟩ (G ++ A) k → zn w0 Z0 ⟨tm, h2' ++ (acc ++ [o'])⟩ (G2 ++ (A ++ [g'])) k) → Up (G ++ A) (G2 ++ (A ++ [g'])) → ∀ v' : SV, (∀ Gf, Gf[b]? = some g' → cM Gf (zn w0 Z0 ⟨tm, h ++ acc⟩ (G ++ A)) w v' X) →
     jH own l h2' (b + 1) (fun cs h os => k (v' :: cs) h (o' :: os)) = some r → ∃ cs h' os G' N, k cs h' os = some r ∧ zM w0 M Z0 m G tm tv w h acc A b h' os G' N (fun Gf => aw (cM Gf (zn w0 Z0 ⟨tm, h' ++ (acc ++ os)⟩ (G' ++ (A ++ N))) w) cs (X :: xs')) := by
   intro h2' G2 o' g' hp2 hl2 hz2 hu2 v' hv hk
   obtain ⟨cs, h', os, G', N, hk', ho⟩ := iR hp2 (h2.mono fun _ _ _ q => q.mono (aO hz2) hu2) hk
   have e1 : acc ++ o' :: os = acc ++ [o'] ++ os := by simp
   have e2 : A ++ g' :: N = A ++ [g'] ++ N := by simp
   refine ⟨_, h', o' :: os, G', g' :: N, hk', ?_, ho.hl.trans hl2, ?_, ?_, by simp [ho.nl], fun Gf hA => ?_⟩
   ·rw [e1, e2]; exact ho.Cb
   ·rw [e1, e2]; exact fun k hk => ho.zl k (hz2 k hk)
   ·rw [e2]; exact hu2.trans ho.up
   ·rw [e1, e2]
    refine aw.cons ((hv Gf (hA 0 g' rfl)).mono (aO fun k hk => ho.zl k (hz2 k hk)) (Up.refl _)) (ho.rel Gf fun i g hi => ?_)
    have := hA (i + 1) g (by simpa using hi)
    rw [show b + 1 + i = b + (i + 1) by omega]; exact this
  cases v with
  | own j v0 =>
   simp only [jH] at hk
   split at hk
   ·rename_i e D ver fz hj
    replace hk := al hk; obtain ⟨hv, hk⟩ := hk
    simp only [Nat.beq_eq] at hv
    obtain ⟨g, hg, hg', hr⟩ := Hu hp hj
    cases g with
    | arr ver' val sz xs0 =>
     have hverr := hr.1
     subst hverr
     have hX := ix h1.1 hg' hv
     rcases cg hk with ⟨_, hk⟩ | ⟨_, hk⟩
     ·obtain ⟨hfz, hk2⟩ := lh hk
      subst hfz
      obtain ⟨q1, q2, q3⟩ := hp.Cb (o' := .arr e D 0 false) (g' := .arr 0 val sz xs0) hj hg rfl (uF _ _ _ _ _) (fun Z' h => ⟨rfl, (RO.aM (aO h) hr).2⟩)
      exact parked q1 (by simp) q2 q3 (.own b 0) (fun Gf hGf => ⟨.inr ⟨0, val, sz, xs0, hGf, Nat.le_refl _, fun _ => hX⟩, h1.2⟩) hk2
     ·obtain ⟨q1, q2⟩ := hp.kg hj
      obtain ⟨cs, h', os, G', N, hk', ho⟩ := iR q1 (h2.mono fun _ _ _ q => q.mono (aO q2) (Up.refl _)) hk
      refine ⟨_, h', os, G', N, hk', ho.Cb, by rw [ho.hl]; simp, fun k hk => ho.zl k (q2 k hk), ho.up, ho.nl, fun Gf hA => aw.cons ?_ (ho.rel Gf hA)⟩
      have hjl := aC hj
      have hsl := q1.inv.lu (j := j) (v := v0) (e := e) (D := D) (ver := ver) (X := X) (by show (h.set j _ ++ acc)[j]? = _; rw [List.getElem?_append_left (by simpa using hjl)]; simp [hjl]) hv (h1.1.aM (aO q2))
      exact ⟨SlR.aM (aO ho.zl) hsl, h1.2⟩
    | _ => exact hr.elim
   ·cases hk
  | emp e => cases e with
   | none => exact same .any (fun _ _ _ _ _ h => ⟨trivial, h.2⟩) (by simpa only [jH] using hk)
   | some e =>
    simp only [jH] at hk
    obtain ⟨⟨a, hXa⟩, hXo⟩ := id h1
    rcases cg hk with ⟨_, hk⟩ | ⟨_, hk⟩
    ·obtain ⟨q1, q2, q3⟩ := hp.E1 (o' := .arr e.1 e.2.nil 0 false) (g' := .arr 0 (.slice a 0 0) e.2.size []) ⟨e, a, rfl, rfl⟩
     exact parked q1 rfl q2 q3 (.own b 0) (fun Gf hGf => ⟨.inr ⟨0, _, _, _, hGf, Nat.le_refl _, fun _ => hXa⟩, hXo⟩) hk
    ·refine same (.fr e.2.nil) (fun G1 G2 Z w X hX => ?_) hk
     obtain ⟨⟨a, rfl⟩, hX2⟩ := hX
     exact ⟨vV _ _, hX2⟩
  | ptr j o => cases o with
   | zero =>
    simp only [jH] at hk
    split at hk
    ·rename_i c hj
     obtain ⟨g, hg, hg', hr⟩ := Hu hp hj
     cases g with
     | cells bb T vs =>
      have hjl := aC hj
      obtain ⟨c', h3, hk2, hp3, hl3, hz3, hc3, hj3⟩ := hJ hp hr hk
      obtain ⟨q1, q2, q3⟩ := hp3.Cb (o' := .cells (c'.map clean)) (g' := .cells bb T vs) (hj3 j _ hj) hg rfl (uP _ _) (fun Z' h => mE (jr c') (hc3.mono fun _ _ _ q => q.mono (aO h) (Up.refl _)))
      exact parked q1 (by rw [List.length_set]; exact hl3) (fun k hk => q2 k (hz3 k hk)) q3 (.ptr b 0) (fun Gf hGf => ⟨.inr ⟨bb, T, vs, hGf, jN h1.1 hg'⟩, h1.2⟩) hk2
     | _ => exact hr.elim
    ·cases hk
   | succ o => exact same .any (fun _ _ _ _ _ h => ⟨trivial, h.2⟩) (by simpa only [jH] using hk)
  | int a n => exact same (.int a n) (fun _ _ _ _ _ h => h) (by simpa only [jH] using hk)
  | bool x => exact same (.bool x) (fun _ _ _ _ _ h => h) (by simpa only [jH] using hk)
  | str x => exact same (.str x) (fun _ _ _ _ _ h => h) (by simpa only [jH] using hk)
  | fr x => exact same (.fr x) (fun _ _ _ _ _ h => h) (by simpa only [jH] using hk)
  | ep e o => exact same .any (fun _ _ _ _ _ h => ⟨trivial, h.2⟩) (by simpa only [jH] using hk)
  | op j v i o => exact same .any (fun _ _ _ _ _ h => ⟨trivial, h.2⟩) (by simpa only [jH] using hk)
  | fn f l => exact same .any (fun _ _ _ _ _ h => ⟨trivial, h.2⟩) (by simpa only [jH] using hk)
  | nilp => exact same .any (fun _ _ _ _ _ h => ⟨trivial, h.2⟩) (by simpa only [jH] using hk)
  | any => exact same .any (fun _ _ _ _ _ h => ⟨trivial, h.2⟩) (by simpa only [jH] using hk)
end
end Go.Ab
namespace Go.Ab
open Go Go.Dk
section
variable {P : Program} {w0 w w' : World} {M Z0 Z : bn} {b : Nat} {G G0 : List GO} {s : AS} {tv : List Value} {r : List V1 × List aq}
theorem jD {own : Bool} {m : Nat} {tm : List AV} : ∀ {l : List V1} {h acc : List aq} {G A : List GO} {b : Nat} {xs : List Value} {k : List V1 → List aq → List aq → OR},
   cR w0 M Z0 m G tm tv w h acc A → aw (RV1 (G ++ A) (zn w0 Z0 ⟨tm, h ++ acc⟩ (G ++ A)) w) l xs → qu own l h b k = some r →
   ∃ cs h' os G' N, k cs h' os = some r ∧ zM w0 M Z0 m G tm tv w h acc A b h' os G' N (fun Gf => aw (RV1 Gf (zn w0 Z0 ⟨tm, h' ++ (acc ++ os)⟩ (G' ++ (A ++ N))) w) cs xs)
 | [], h, acc, G, A, b, xs, k, hp, ha, hk => by
  obtain rfl := ha.aV
  exact ⟨[], h, [], G, [], hk, by simpa using hp, rfl, by simp, by simpa using Up.refl (G ++ A), rfl, fun _ _ => aw.nil⟩
 | v :: l, h, acc, G, A, b, xs, k, hp, ha, hk => by
  obtain ⟨X, xs', rfl, h1, h2⟩ := ha.cons_inv
  have comb : ∀ {c : List SV} {ys : List Value} {v' : List SV → V1} {k2 : List SV → List aq → List aq → OR}, aw (cM (G ++ A) (zn w0 Z0 ⟨tm, h ++ acc⟩ (G ++ A)) w) c ys → jH own c h b k2 = some r →
     (∀ cs h' os, k2 cs h' os = some r → ∃ v', (∀ Gf Z, aw (cM Gf Z w) cs ys → RV1 Gf Z w v' X) ∧ qu own l h' (b + os.length) (fun vs h os' => k (v' :: vs) h (os ++ os')) = some r) →
     ∃ cs h' os G' N, k cs h' os = some r ∧ zM w0 M Z0 m G tm tv w h acc A b h' os G' N (fun Gf => aw (RV1 Gf (zn w0 Z0 ⟨tm, h' ++ (acc ++ os)⟩ (G' ++ (A ++ N))) w) cs (X :: xs')) := by
   intro c ys v' k2 hc hk hnext
   obtain ⟨cs, h1', os1, G1, N1, hk1, o1⟩ := iR hp hc hk
   obtain ⟨v', hv', hk2⟩ := hnext _ _ _ hk1
   obtain ⟨vs, h2', os2, G2, N2, hk3, o2⟩ := jD o1.Cb (h2.mono fun _ _ _ q => RV1.up o1.up (q.aM (aO o1.zl))) hk2
   have e1 : acc ++ (os1 ++ os2) = acc ++ os1 ++ os2 := by simp
   have e2 : A ++ (N1 ++ N2) = A ++ N1 ++ N2 := by simp
   refine ⟨_, h2', os1 ++ os2, G2, N1 ++ N2, hk3, ?_, o2.hl.trans o1.hl, ?_, ?_, by simp [o1.nl, o2.nl], fun Gf hA => ?_⟩
   ·rw [e1, e2]; exact o2.Cb
   ·rw [e1, e2]; exact fun k hk => o2.zl k (o1.zl k hk)
   ·rw [e2]; exact o1.up.trans o2.up
   ·rw [e1, e2]
    refine aw.cons ((hv' Gf _ (o1.rel Gf hA.left)).aM (aO o2.zl)) (o2.rel Gf ?_)
    rw [o1.nl]; exact hA.right
  cases v with
  | one x =>
   by_cases hx : x = .any
   ·subst hx
    simp only [qu] at hk
    obtain ⟨cs, h', os, G', N, hk', ho⟩ := jD hp h2 hk
    exact ⟨_, h', os, G', N, hk', ho.Cb, ho.hl, ho.zl, ho.up, ho.nl, fun Gf hA => aw.cons ⟨trivial, fun h => absurd rfl h⟩ (ho.rel Gf hA)⟩
   ·have hk' : jH own [x] h b (fun c h os => (match c with
        | [x] => qu own l h (b + os.length) fun vs h os' => k (.one x :: vs) h (os ++ os')
        | _ => none)) = some r := by
      cases x <;> first | exact absurd rfl hx | exact hk
    refine comb (v' := fun _ => .one x) (aw.cons ⟨h1.1, h1.2 hx⟩ aw.nil) hk' fun cs h' os hk2 => ?_
    split at hk2
    ·exact ⟨_, fun Gf Z hr => by obtain ⟨y, ys, e, hr, _⟩ := hr.cons_inv; simp only [List.cons.injEq] at e; obtain ⟨rfl, _⟩ := e; exact ⟨hr.1, fun _ => hr.2⟩, hk2⟩
    ·cases hk2
  | agg c =>
   obtain ⟨ys, hX, hc⟩ := h1
   simp only [qu] at hk
   exact comb (v' := fun c => .agg c) hc hk fun cs h' os hk2 => ⟨.agg cs, fun Gf Z hr => ⟨ys, hX, hr⟩, hk2⟩
theorem lf {m : Nat} {tm : List AV} {acc : List aq} {A : List GO} : ∀ {n : Nat} {h : List aq} {k : List aq → OR}, cR w0 M Z0 m G tm tv w h acc A → n ≤ m → m ≤ h.length → GL m n h k = some r →
   ∃ h' ps, k ps = some r ∧ cR w0 M Z0 m G tm tv w h' acc A ∧ h'.length = h.length ∧ (∀ k, zn w0 Z0 ⟨tm, h ++ acc⟩ (G ++ A) k → zn w0 Z0 ⟨tm, h' ++ acc⟩ (G ++ A) k) ∧ ps.length = n ∧
    (∀ (i : Nat) c, h[i]? = some (.cells c) → h'[i]? = some (.cells c)) ∧
    (∀ (i : Nat) p, ps[i]? = some p → p = .dead ∨ ∃ bb T vs l', G[m - n + i]? = some (.cells bb T vs) ∧ p = .cells (l'.map clean) ∧ aw (cM (G ++ A) (zn w0 Z0 ⟨tm, h' ++ acc⟩ (G ++ A)) w) l' vs)
 | 0, h, k, hp, hn, hm, hk => ⟨h, [], hk, hp, rfl, fun _ h => h, rfl, fun _ _ h => h, fun i p hi => by simp at hi⟩
 | n + 1, h, k, hp, hn, hm, hk => by
  unfold GL at hk
  split at hk
  ·rename_i c hj
   obtain ⟨g, hg, hg', hr⟩ := Hu hp hj
   cases g with
   | cells bb T vs =>
    obtain ⟨c', h1, hk1, p1, l1, z1, r1, k1⟩ := hJ hp hr hk
    obtain ⟨h2, ps, hk2, p2, l2, z2, e2, k2, q2⟩ := lf p1 (by omega) (by omega) hk1
    refine ⟨h2, _, hk2, p2, l2.trans l1, fun k hk => z2 k (z1 k hk), by simp [e2], fun i c hi => k2 i c (k1 i c hi), fun i p hi => ?_⟩
    cases i with
    | zero =>
     simp only [List.getElem?_cons_zero, Option.some.injEq] at hi
     subst hi
     exact .inr ⟨bb, T, vs, c', by simpa using hg, rfl, r1.mono fun _ _ _ q => q.mono (aO z2) (Up.refl _)⟩
    | succ i =>
     have := q2 i p (by simpa using hi)
     rw [show m - (n + 1) + (i + 1) = m - n + i by omega]; exact this
   | _ => exact hr.elim
  ·obtain ⟨h2, ps, hk2, p2, l2, z2, e2, k2, q2⟩ := lf hp (by omega) hm hk
   refine ⟨h2, _, hk2, p2, l2, z2, by simp [e2], k2, fun i p hi => ?_⟩
   cases i with
   | zero =>
    simp only [List.getElem?_cons_zero, Option.some.injEq] at hi
    exact .inl hi.symm
   | succ i =>
    have := q2 i p (by simpa using hi)
    rw [show m - (n + 1) + (i + 1) = m - n + i by omega]; exact this
theorem sA {h : List aq} : ∀ {ps hs : List aq} {gs : List GO}, ps.length = hs.length → hs.length = gs.length → (∀ (i : Nat) p, ps[i]? = some p → p = .dead ∨ ∃ l bb T vs c, p = .cells l ∧ gs[i]? = some (.cells bb T vs) ∧ hs[i]? = some (.cells c)) →
   (aU ps (List.zipWith ij ps gs)).Sublist (aU hs gs)
 | [], hs, gs, h1, h2, hq => by simp [aU]
 | p :: ps, [], gs, h1, _, _ => by simp at h1
 | p :: ps, o :: hs, [], _, h2, _ => by simp at h2
 | p :: ps, o :: hs, g :: gs, h1, h2, hq => by
  have ih := sA (h := h) (ps := ps) (hs := hs) (gs := gs) (by simpa using h1) (by simpa using h2) fun i p hi => by simpa using hq (i + 1) p (by simpa using hi)
  simp only [List.zipWith_cons_cons, aU]
  rcases hq 0 p rfl with rfl | ⟨l, bb, T, vs, c, rfl, hg, ho⟩
  ·rw [cC, List.nil_append]; exact ih.trans (List.sublist_append_right _ _)
  ·simp only [List.getElem?_cons_zero, Option.some.injEq] at hg ho
   subst hg ho
   simp only [ij, ji]
   exact ih.append_left _
theorem tE {own : Bool} {fn : Func} {m : Nat} (hI : bq w0 M Z0 s.heap.length G s tv w) (hu : UpW G0 G) (hm : G0.length = m) (h : finish P own fn m s = some r) :
   ∃ xs G', (results fn tv.toArray).run P w = .ok (if h : xs.toArray.size = 1 then xs.toArray[0] else .tuple xs.toArray) w ∧ bq w0 M Z0 r.2.length G' ⟨r.1.map .v, r.2⟩ xs w ∧ UpW G0 G' := by
 unfold finish at h
 replace h := al h; obtain ⟨hml, h⟩ := h
 simp only [Nat.ble_eq] at hml
 replace h := kR hI h; obtain ⟨vs, xs, h, hvs, hrun⟩ := h
 have hp : cR w0 M Z0 m G s.tmps tv w s.heap [] [] := ⟨by simpa using hI, hI.len, aw.nil⟩
 have hz0 : zn w0 Z0 ⟨s.tmps, s.heap ++ []⟩ (G ++ []) = zn w0 Z0 s G := by simp [zn]
 obtain ⟨cs, h1, os, G1, N, hk1, o1⟩ := jD hp (by rw [hz0, List.append_nil]; exact hvs) h
 simp only [List.nil_append] at o1
 have hp1 := o1.Cb
 simp only [List.nil_append] at hp1
 obtain ⟨h2, ps, hk2, p2, l2, z2, e2, k2, q2⟩ := lf hp1 (Nat.le_refl m) (by rw [o1.hl]; exact hml) hk1
 have hr := Option.some.inj hk2
 subst hr
 have hNl : os.length = N.length := o1.nl
 have hl2 : h2.length = s.heap.length := l2.trans o1.hl
 have hG1 : h2.length = G1.length := p2.len
 have hmG : m ≤ G1.length := by omega
 have hgl : (G1.take m).length = m := by simp [hmG]
 let PG := List.zipWith ij ps (G1.take m)
 have hPl : PG.length = m := by simp [PG, e2, hmG]
 have hAt : At_ m N (PG ++ N) := fun i g hi => by rw [List.getElem?_append_right (by omega), hPl]; simpa using hi
 have hps : ∀ (i : Nat) p, ps[i]? = some p → p = .dead ∨ ∃ bb T vs l', G1[i]? = some (.cells bb T vs) ∧ p = .cells (l'.map clean) ∧ aw (cM (G1 ++ N) (zn w0 Z0 ⟨s.tmps, h2 ++ os⟩ (G1 ++ N)) w) l' vs := fun i p hi => by
  have := q2 i p hi
  simpa using this
 have hRO := p2.inv.st.per.2
 have hsub : (aU (ps ++ os) (PG ++ N)).Sublist (aU (h2 ++ os) (G1 ++ N)) := by
  rw [bC (by rw [hPl, e2]), bC hG1]
  have hk : (aU ps PG).Sublist (aU (h2.take m) (G1.take m)) := by
   refine sA (h := h2) (by simp [e2]; omega) (by simp; omega) fun i p hi => ?_
   have him : i < m := by rw [← e2]; exact aC hi
   rcases hps i p hi with h | ⟨bb, T, vs, l', hg, rfl, _⟩
   ·exact .inl h
   ·right
    have hg2 : (G1 ++ N)[i]? = some (.cells bb T vs) := by rw [List.getElem?_append_left (by omega)]; exact hg
    obtain ⟨o, ho, hro⟩ := hRO.get' hg2
    have ho' : h2[i]? = some o := by rw [List.getElem?_append_left (by omega)] at ho; exact ho
    cases o with
    | cells c => exact ⟨_, bb, T, vs, c, rfl, by rw [List.getElem?_take, if_pos him]; exact hg, by rw [List.getElem?_take, if_pos him]; exact ho'⟩
    | _ => exact hro.elim
  have hk2 : (aU (h2.take m) (G1.take m)).Sublist (aU h2 G1) := by
   have := bC (h := h2.take m) (h' := h2.drop m) (G := G1.take m) (G' := G1.drop m) (by simp; omega)
   rw [List.take_append_drop, List.take_append_drop] at this
   rw [this]; exact List.sublist_append_left _ _
  exact (hk.trans hk2).append_right _
 have hz3 : ∀ k, zn w0 Z0 ⟨s.tmps, h2 ++ os⟩ (G1 ++ N) k → jc w0 Z0 (aU (ps ++ os) (PG ++ N)) k := fun k hk => ⟨hk.1, fun q hq => hk.2 q (hsub.subset hq)⟩
 refine ⟨xs, PG ++ N, vo hrun, ⟨?_, fun j hj hl => ?_, hI.mz⟩, ?_⟩
 ·refine (p2.inv.st.sub hsub).jv (aR _ _ _) fun _ => ⟨?_, ?_⟩
  ·have := o1.rel (PG ++ N) hAt
   exact (this.mono fun _ _ _ q => (q.aM (aO z2)).aM (aO hz3)).eH fun _ _ q => q
  ·refine aw.append ⟨by rw [hPl, e2], fun i p g hi hg => ?_⟩ ?_
   ·have him : i < m := by rw [← e2]; exact aC hi
    simp only [PG, List.getElem?_zipWith, hi, List.getElem?_take, if_pos him] at hg
    rcases hps i p hi with rfl | ⟨bb, T, vs, l', hg', rfl, hr⟩
    ·cases hg1 : G1[i]? with
     | none => simp [hg1] at hg
     | some g1 => simp [hg1, ij] at hg; subst hg; trivial
    ·simp only [hg', Option.some.injEq, ij] at hg
     subst hg
     exact mE (jr l') (hr.mono fun _ _ _ q => q.mono (aO hz3) (Up.refl _))
   ·refine ⟨hNl, fun i o g hi hg => ?_⟩
    have hro := hRO.2 (h2.length + i) o g (by rw [List.getElem?_append_right (by omega)]; simpa using hi) (by rw [List.getElem?_append_right (by omega), hG1]; simpa using hg)
    have hal := p2.alone.2 i o g hi hg
    exact hal _ _ _ _ (RO.aM (aO hz3) hro)
 ·exfalso
  simp at hj hl
  rw [e2] at hj
  have : PG.length = m := hPl
  simp only [PG] at this hl
  simp at this hl
  omega
 ·have hup1 : Up G (G1 ++ N) := by simpa using o1.up
  intro j
  have key : ∀ g, j < m → (G1 ++ N)[j]? = some g → (PG ++ N)[j]? = some .gone ∨ (PG ++ N)[j]? = some g := by
   intro g hjm hg
   have hg1 : G1[j]? = some g := by rw [List.getElem?_append_left (by omega)] at hg; exact hg
   obtain ⟨p, hp⟩ : ∃ p, ps[j]? = some p := ⟨_, List.getElem?_eq_getElem (by rw [e2]; exact hjm)⟩
   rw [List.getElem?_append_left (by rw [hPl]; exact hjm)]
   simp only [PG, List.getElem?_zipWith, hp, List.getElem?_take, if_pos hjm, hg1]
   cases p <;> first | exact .inr rfl | exact .inl rfl
  have hup2 := (hu.trans hup1.jv) j
  refine ⟨fun hh => ?_, fun b T vs hh => ?_, fun ver val sz xs0 hh => ?_⟩
  ·have hjm : j < m := by rw [← hm]; exact aC hh
   rcases key _ hjm (hup2.1 hh) with h | h <;> exact h
  ·have hjm : j < m := by rw [← hm]; exact aC hh
   rcases hup2.2.1 b T vs hh with h | ⟨T', vs', h⟩
   ·rcases key _ hjm h with h | h <;> exact .inl h
   ·rcases key _ hjm h with h | h
    ·exact .inl h
    ·exact .inr ⟨T', vs', h⟩
  ·have hjm : j < m := by rw [← hm]; exact aC hh
   rcases hup2.2.2 ver val sz xs0 hh with h | ⟨a, c, e, h⟩
   ·rcases key _ hjm h with h | h <;> exact .inl h
   ·rcases key _ hjm h with h | h
    ·exact .inl h
    ·exact .inr ⟨a, c, e, h⟩
end
end Go.Ab
namespace Go.Ab
open Go Go.Dk
section
variable {P : Program} {w0 w w' : World} {M Z0 Z : bn} {b : Nat} {G G0 : List GO} {s : AS} {tv : List Value} {r : List V1 × List aq}
def Ex.out : Ex → Exit | .normal => .normal | .exit i => .exit i | .ret => .ret
def Bz (P : Program) (F : Callee) (D : Dec) : Prop := ∀ (w0 : World) (M Z0 : bn) (G : List GO) (s : AS) (tv : List Value) (w : World) (ops : List Oper) (id : Nat) (k : AS → OR) (r : List V1 × List aq) (Q : Exit → Act → World → Prop),
 bq w0 M Z0 s.heap.length G s tv w → um ops (Ff ops []) ops 0 = true → Dh P F D ops (Ff ops []) ops 0 [] s.heap.length (grow (room P D ops) s) k = some r →
  (∀ s' G' tv' w', k s' = some r → bq w0 M Z0 s'.heap.length G' s' tv' w' → UpW G G' → Q .normal ⟨tv'.toArray, []⟩ w') → (Code.region id ops.toArray true).wp P Q ⟨tv.toArray, []⟩ w
theorem pD : ∀ (h : List aq) (G : List GO) (j : Nat) {l l' : List SV}, h[j]? = some (.cells l) → aU (h.set j (.cells l')) G = aU h G
 | [], G, j, l, l', h => by simp at h
 | o :: h, [], j, l, l', _ => by cases j <;> simp [aU]
 | o :: h, g :: G, 0, l, l', hj => by
  simp only [List.getElem?_cons_zero, Option.some.injEq] at hj
  subst hj
  simp only [List.set_cons_zero, aU]
  cases g <;> rfl
 | o :: h, g :: G, j + 1, l, l', hj => by
  simp only [List.getElem?_cons_succ] at hj
  simp only [List.set_cons_succ, aU, pD h G j hj]
theorem jA : ∀ (n j : Nat) {s : AS} {k : List aq → OR}, bq w0 M Z0 b G s tv w → AE n j s.heap k = some r → ∃ h', k h' = some r ∧ bq w0 M Z0 b G ⟨s.tmps, h'⟩ tv w
 | 0, j, s, k, hI, h => ⟨_, h, hI⟩
 | n + 1, j, s, k, hI, h => by
  unfold AE at h
  split at h
  ·rename_i c hj
   obtain ⟨bb, T, vs, hg, hc⟩ := hI.cells hj
   obtain ⟨c', h', hk, hs, hc'⟩ := fJ hI hc.1 h
   have hj' : h'[j]? = some (.cells c) ∨ ∃ c2, h'[j]? = some (.cells c2) := by
    have hl : j < h'.length := by rw [hs.inv.len, ← hI.len]; exact aC hj
    have hR := hs.inv.st.per.2
    cases ho : h'[j]? with
    | none => rw [List.getElem?_eq_getElem hl] at ho; cases ho
    | some o =>
     obtain ⟨g, hg', hro⟩ := hR.get ho
     rw [hg] at hg'
     obtain rfl := Option.some.inj hg'
     cases o with
     | cells l => exact .inr ⟨l, rfl⟩
     | arr e d ver fz => exact hro.elim
     | dead => exact hro.elim
   have hI2 : bq w0 M Z0 b G ⟨s.tmps, h'.set j (.cells c')⟩ tv w := by
    obtain ⟨c2, hj2⟩ : ∃ c2, h'[j]? = some (.cells c2) := by rcases hj' with h1 | h1; exact ⟨_, h1⟩; exact h1
    have hr := pD h' G j (l' := c') hj2
    refine ⟨?_, hs.inv.fresh, hs.inv.mz⟩
    have := hs.inv.st
    show St w0 M Z0 (aU (h'.set j (.cells c')) G) _ w
    rw [hr]
    refine this.jv (aR _ _ _) fun hp => ⟨hp.1, ?_⟩
    have h3 := hp.2.set j (a := .cells c') (b := .cells bb T vs) hc'
    rw [iP hg] at h3
    exact h3
   exact jA n (j + 1) (s := ⟨s.tmps, h'.set j (.cells c')⟩) hI2 hk
  ·exact jA n (j + 1) hI h
theorem tY (s : AS) (c : Operand) (t : Bool) : (s.C0 c t).heap = s.heap := by cases c <;> rfl
theorem bq.C0 (hI : bq w0 M Z0 b G s tv w) {c : Operand} {t : Bool} (h : s.ev c = .v (.one (.bool t))) : bq w0 M Z0 b G (s.C0 c t) tv w := by
 cases c with
 | tmp d =>
  have hb : s.tmps.getD d aa = .v (.one (.bool t)) := h
  have hdl : s.tmps[d]? = some (.v (.one (.bool t))) := by
   cases hs : s.tmps[d]? with
   | none => simp [List.getD, hs, aa] at hb
   | some v => simp [List.getD, hs] at hb; rw [hb]
  obtain ⟨X, hX, hr⟩ := hI.st.per.1.get hdl
  have hX' := cU hr
  subst hX'
  have := hI.put (some d) (v := iZ t) (X := .bool t) ⟨rfl, fun _ => rfl⟩
  simp only at this
  rw [iP hX] at this
  exact this
 | const _ => exact hI
 | func _ => exact hI
 | global _ => exact hI
def wP (w0 : World) (M Z0 : bn) (G0 : List GO) (k : xr) (r : List V1 × List aq) (e : Exit) (a' : Act) (w' : World) : Prop :=
 ∃ e' s' G' tv', e = e'.out ∧ k e' s' = some r ∧ a' = ⟨tv'.toArray, []⟩ ∧ bq w0 M Z0 s'.heap.length G' s' tv' w' ∧ UpW G0 G'
theorem fv {E : Env} (hF : dV E.P E.F) (hib : ∀ f, E.D.ib f = true → jZ E.P f) (hdr : Bz E.P E.F E.D) (hm : G0.length = E.m) : ∀ (c : Code) (i : Nat) {s : AS} {k : xr} {G : List GO} {tv : List Value} {w : World},
   bq w0 M Z0 s.heap.length G s tv w → UpW G0 G → evC E i c s k = some r → c.wp E.P (wP w0 M Z0 G0 k r) ⟨tv.toArray, []⟩ w
 | .skip, i, s, k, G, tv, w, hI, hu, h => wp_skip ⟨.normal, s, G, tv, rfl, h, rfl, hI, hu⟩
 | .region id ops draw, i, s, k, G, tv, w, hI, hu, h => by
  simp only [evC] at h
  rcases cg h with ⟨rfl, h⟩ | ⟨rfl, h⟩
  ·have go : ∀ s : AS, bq w0 M Z0 s.heap.length G s tv w → E5 E ops.toList s k = some r → (Code.region id ops true).wp E.P (wP w0 M Z0 G0 k r) ⟨tv.toArray, []⟩ w := by
     intro s hI h
     obtain ⟨hd, h⟩ := al h
     have := hdr w0 M Z0 G s tv w ops.toList id _ r (wP w0 M Z0 G0 k r) hI hd h (fun s' G' tv' w' hk hI' hu' => ⟨.normal, s', G', tv', rfl, hk, rfl, hI', hu.trans hu'⟩)
     simpa using this
   split at h
   ·obtain ⟨h', hk, hI2⟩ := jA _ _ hI h
    refine go ⟨s.tmps, h'⟩ ?_ hk
    have e : h'.length = s.heap.length := by have := hI2.len; rw [hI.len]; exact this
    show bq w0 M Z0 h'.length G _ tv w
    rw [e]; exact hI2
   ·exact go s hI h
  ·have hl := gA (Q := wP w0 M Z0 G0 k r) hF hib (hI.grow (room E.P E.D ops.toList)) (by simp [grow]) h (fun s' G' tv' w' hk hI' hu' => ⟨.normal, s', G', tv', rfl, hk, rfl, hI', hu.trans ((Up.append _ _).trans hu').jv⟩)
   have := wp_region_lit (id := id) hl
   simpa using this
 | .seq a c, i, s, k, G, tv, w, hI, hu, h => by
  simp only [evC] at h
  refine wp_seq (wp_mono (fv hF hib hdr hm a i hI hu h) fun e a' w' ⟨e', s', G', tv', he, hk, ha, hI', hu'⟩ => ?_)
  subst ha he
  cases e' with
  | normal => exact fv hF hib hdr hm c i hI' hu' hk
  | exit j => exact ⟨.exit j, s', G', tv', rfl, hk, rfl, hI', hu'⟩
  | ret => exact ⟨.ret, s', G', tv', rfl, hk, rfl, hI', hu'⟩
 | .cond x a c, i, s, k, G, tv, w, hI, hu, h => by
  simp only [evC] at h
  split at h
  ·rename_i t hx
   have hv := hI.ev x
   rw [hx] at hv
   rcases cg h with ⟨rfl, h⟩ | ⟨rfl, h⟩
   ·exact wp_cond_true (cU hv) (fv hF hib hdr hm a i (s := s.C0 x true) (by rw [tY]; exact hI.C0 hx) hu h)
   ·exact wp_cond_false (cU hv) (fv hF hib hdr hm c i (s := s.C0 x false) (by rw [tY]; exact hI.C0 hx) hu h)
  ·cases h
 | .block id c, i, s, k, G, tv, w, hI, hu, h => by
  simp only [evC] at h
  refine wp_block (wp_mono (fv hF hib hdr hm c id hI hu h) fun e a' w' ⟨e', s', G', tv', he, hk, ha, hI', hu'⟩ => ?_)
  subst ha he
  cases e' with
  | normal => exact ⟨.normal, s', G', tv', rfl, hk, rfl, hI', hu'⟩
  | ret => exact ⟨.ret, s', G', tv', rfl, hk, rfl, hI', hu'⟩
  | exit j =>
   simp only [zg] at hk
   simp only [Ex.out, Exit.inBlock]
   rcases cg hk with ⟨hj, hk⟩ | ⟨hj, hk⟩
   ·simp only [Nat.beq_eq] at hj
    rw [if_pos hj]
    exact ⟨.normal, s', G', tv', rfl, hk, rfl, hI', hu'⟩
   ·rw [if_neg (fun e => by rw [e] at hj; simp at hj)]
    exact ⟨.exit j, s', G', tv', rfl, hk, rfl, hI', hu'⟩
 | .loop c, i, s, k, G, tv, w, hI, hu, h => by
  simp only [evC] at h
  obtain ⟨G1, hI1, hu1⟩ := lS (live := E.live i) hI hu hm
  refine wp_loop_ghost (fun n a w => ∃ s G tv, evL (evC E i c) (lN E.m (E.live i)) n s k = some r ∧ a = ⟨tv.toArray, []⟩ ∧ bq w0 M Z0 s.heap.length G s tv w ∧ UpW G0 G) E.n ⟨_, G1, tv, h, rfl, hI1, hu1⟩ ?_
  intro n a w ⟨s, G, tv, h, ha, hI, hu⟩
  subst ha
  cases n with
  | zero => cases h
  | succ n =>
   simp only [evL] at h
   refine wp_mono (fv hF hib hdr hm c i hI hu h) fun e a' w' ⟨e', s', G', tv', he, hk, ha, hI', hu'⟩ => ?_
   subst ha he
   cases e' with
   | normal =>
    obtain ⟨G2, hI2, hu2⟩ := lS (live := E.live i) hI' hu' hm
    exact ⟨n, Nat.lt_succ_self n, _, G2, tv', hk, rfl, hI2, hu2⟩
   | exit j => exact ⟨.exit j, s', G', tv', rfl, hk, rfl, hI', hu'⟩
   | ret => exact ⟨.ret, s', G', tv', rfl, hk, rfl, hI', hu'⟩
 | .exit id, i, s, k, G, tv, w, hI, hu, h => wp_exit ⟨.exit id, s, G, tv, rfl, h, rfl, hI, hu⟩
 | .ret, i, s, k, G, tv, w, hI, hu, h => wp_ret ⟨.ret, s, G, tv, rfl, h, rfl, hI, hu⟩
 | .rangeFunc _ _ _ _, i, s, k, G, tv, w, hI, hu, h => by simp [evC] at h
 | .scope _, i, s, k, G, tv, w, hI, hu, h => by simp [evC] at h
 | .label _, i, s, k, G, tv, w, hI, hu, h => by simp [evC] at h
 | .goto _, i, s, k, G, tv, w, hI, hu, h => by simp [evC] at h
 | .refuse _, i, s, k, G, tv, w, hI, hu, h => by simp [evC] at h
def rH (P : Program) (S : Say) : Prop := ∀ f g args out, S.prim f = some g → g args = some out →
 ∀ w0 M Z0 G vals w, bq w0 M Z0 0 G ⟨args.map .v, []⟩ vals w →
  Calls P f vals.toArray w fun e w' => ∃ xs G', e = .returned (if h : xs.toArray.size = 1 then xs.toArray[0] else .tuple xs.toArray) ∧ bq w0 M Z0 out.2.length G' ⟨out.1.map .v, out.2⟩ xs w' ∧ UpW G G'
theorem tD {S : Say} (hp : rH P S) (hib : ∀ f, S.D.ib f = true → jZ P f) (hdr : ∀ F, dV P F → Bz P F S.D) : ∀ n, dV P (evF P S n)
 | 0 => fun f fn args h out _ _ ho => by cases ho
 | n + 1 => by
  intro f fn args h out hfn hb ho w0 M Z0 G vals w hI
  have hF := tD hp hib hdr n
  unfold evF at ho
  split at ho
  ·rename_i g hg
   split at ho
   ·exact hp f g args out hg ho w0 M Z0 G vals w hI
   ·cases ho
  ·rw [hfn] at ho
   simp only at ho
   split at ho
   ·rename_i c hc
    have hlen : args.length = vals.length := by have := hI.st.per.1.1; simpa using this
    refine calls_of_wp hfn hc ?_
    have hI2 : bq w0 M Z0 h.length G ⟨args.map .v ++ List.replicate (fn.ntmps - args.length) aa, h⟩ (vals ++ List.replicate (fn.ntmps - args.length) undef) w :=
     ⟨hI.st.jv (aR _ _ _) fun hh => ⟨aw.append hh.1 (aw.replicate (fa undef) _), hh.2⟩, hI.fresh, hI.mz⟩
    have hwp := fv (E := ⟨P, evF P S n, S.D, n, h.length, S.live f⟩) (G0 := G) hF hib (hdr _ hF) hI.len.symm c 0 hI2 (UpW.refl G) ho
    have harr : vals.toArray ++ Array.replicate (fn.ntmps - vals.toArray.size) undef = (vals ++ List.replicate (fn.ntmps - args.length) undef).toArray := by
     rw [hlen]; simp
    rw [harr]
    refine wp_mono hwp fun e a' w' ⟨e', s', G', tv', he, hk, ha, hI', hu'⟩ => ?_
    subst ha he
    have fin : finish P (S.D.own f) fn h.length s' = some out → ∃ v, (results fn tv'.toArray).run P w' = .ok v w' ∧ ∃ xs G'', (.returned v : Ending) = .returned (if h : xs.toArray.size = 1 then xs.toArray[0] else .tuple xs.toArray) ∧ bq w0 M Z0 out.2.length G'' ⟨out.1.map .v, out.2⟩ xs w' ∧ UpW G G'' := by
     intro hk
     obtain ⟨xs, G'', h1, h2, h3⟩ := tE hI' hu' hI.len.symm hk
     exact ⟨_, h1, xs, G'', rfl, h2, h3⟩
    cases e' with
    | normal => exact ⟨rfl, fin hk⟩
    | ret => exact ⟨rfl, fin hk⟩
    | exit j => cases hk
   ·cases ho
end
end Go.Ab
end
section
namespace Go.Ab
open Go Go.Dk
def N1 {α : Type} (f : (α → OR) → OR) : Prop := ∀ k r, f k = some r → ∃ a, k a = some r ∧ ∀ k', f k' = k' a
def N2 {α β : Type} (f : (α → β → OR) → OR) : Prop := ∀ k r, f k = some r → ∃ a b, k a b = some r ∧ ∀ k', f k' = k' a b
def N4 {α β γ δ : Type} (f : (α → β → γ → δ → OR) → OR) : Prop := ∀ k r, f k = some r → ∃ a b c d, k a b c d = some r ∧ ∀ k', f k' = k' a b c d
theorem N1.pure {α : Type} (a : α) : N1 fun k => k a := fun k r h => ⟨a, h, fun _ => rfl⟩
theorem N2.pure {α β : Type} (a : α) (b : β) : N2 fun k => k a b := fun k r h => ⟨a, b, h, fun _ => rfl⟩
theorem N4.pure {α β γ δ : Type} (a : α) (b : β) (c : γ) (d : δ) : N4 fun k => k a b c d := fun k r h => ⟨a, b, c, d, h, fun _ => rfl⟩
theorem N1.none {α : Type} : N1 fun (k : α → OR) => none := fun k r h => by cases h
theorem N2.none {α β : Type} : N2 fun (k : α → β → OR) => none := fun k r h => by cases h
theorem N4.none {α β γ δ : Type} : N4 fun (k : α → β → γ → δ → OR) => none := fun k r h => by cases h
theorem N1.cond {α : Type} {b : Bool} {f g : (α → OR) → OR} (hf : N1 f) (hg : N1 g) : N1 fun k => cond b (f k) (g k) := by cases b; exact hg; exact hf
theorem N2.cond {α β : Type} {b : Bool} {f g : (α → β → OR) → OR} (hf : N2 f) (hg : N2 g) : N2 fun k => cond b (f k) (g k) := by cases b; exact hg; exact hf
theorem N4.cond {α β γ δ : Type} {b : Bool} {f g : (α → β → γ → δ → OR) → OR} (hf : N4 f) (hg : N4 g) : N4 fun k => cond b (f k) (g k) := by cases b; exact hg; exact hf
theorem N1.bind {α β : Type} {o : Option β} {f : β → (α → OR) → OR} (hf : ∀ x, N1 (f x)) : N1 fun k => o.bind fun x => f x k := by cases o; exact N1.none; exact hf _
theorem N2.bind {α β γ : Type} {o : Option γ} {f : γ → (α → β → OR) → OR} (hf : ∀ x, N2 (f x)) : N2 fun k => o.bind fun x => f x k := by cases o; exact N2.none; exact hf _
theorem N4.bind {α β γ δ ε : Type} {o : Option ε} {f : ε → (α → β → γ → δ → OR) → OR} (hf : ∀ x, N4 (f x)) : N4 fun k => o.bind fun x => f x k := by cases o; exact N4.none; exact hf _
theorem N1.bY {α β : Type} {g : (β → OR) → OR} {f : β → (α → OR) → OR} (hg : N1 g) (hf : ∀ x, N1 (f x)) : N1 fun k => g fun x => f x k := by
 intro k r h
 obtain ⟨x, hx, hk⟩ := hg _ _ h
 obtain ⟨a, ha, hk'⟩ := hf x _ _ hx
 exact ⟨a, ha, fun k' => (hk _).trans (hk' k')⟩
theorem N2.bY {α β γ : Type} {g : (γ → OR) → OR} {f : γ → (α → β → OR) → OR} (hg : N1 g) (hf : ∀ x, N2 (f x)) : N2 fun k => g fun x => f x k := by
 intro k r h
 obtain ⟨x, hx, hk⟩ := hg _ _ h
 obtain ⟨a, b, ha, hk'⟩ := hf x _ _ hx
 exact ⟨a, b, ha, fun k' => (hk _).trans (hk' k')⟩
theorem N4.bY {α β γ δ ε : Type} {g : (ε → OR) → OR} {f : ε → (α → β → γ → δ → OR) → OR} (hg : N1 g) (hf : ∀ x, N4 (f x)) : N4 fun k => g fun x => f x k := by
 intro k r h
 obtain ⟨x, hx, hk⟩ := hg _ _ h
 obtain ⟨a, b, c, d, ha, hk'⟩ := hf x _ _ hx
 exact ⟨a, b, c, d, ha, fun k' => (hk _).trans (hk' k')⟩
theorem N1.bD {α β γ : Type} {g : (β → γ → OR) → OR} {f : β → γ → (α → OR) → OR} (hg : N2 g) (hf : ∀ x y, N1 (f x y)) : N1 fun k => g fun x y => f x y k := by
 intro k r h
 obtain ⟨x, y, hx, hk⟩ := hg _ _ h
 obtain ⟨a, ha, hk'⟩ := hf x y _ _ hx
 exact ⟨a, ha, fun k' => (hk _).trans (hk' k')⟩
theorem N2.bD {α β γ δ : Type} {g : (γ → δ → OR) → OR} {f : γ → δ → (α → β → OR) → OR} (hg : N2 g) (hf : ∀ x y, N2 (f x y)) : N2 fun k => g fun x y => f x y k := by
 intro k r h
 obtain ⟨x, y, hx, hk⟩ := hg _ _ h
 obtain ⟨a, b, ha, hk'⟩ := hf x y _ _ hx
 exact ⟨a, b, ha, fun k' => (hk _).trans (hk' k')⟩
theorem N4.bD {α β γ δ ε ζ : Type} {g : (ε → ζ → OR) → OR} {f : ε → ζ → (α → β → γ → δ → OR) → OR} (hg : N2 g) (hf : ∀ x y, N4 (f x y)) : N4 fun k => g fun x y => f x y k := by
 intro k r h
 obtain ⟨x, y, hx, hk⟩ := hg _ _ h
 obtain ⟨a, b, c, d, ha, hk'⟩ := hf x y _ _ hx
 exact ⟨a, b, c, d, ha, fun k' => (hk _).trans (hk' k')⟩
theorem N2.HC {α β γ δ ε ζ : Type} {g : (γ → δ → ε → ζ → OR) → OR} {f : γ → δ → ε → ζ → (α → β → OR) → OR} (hg : N4 g) (hf : ∀ x y z u, N2 (f x y z u)) : N2 fun k => g fun x y z u => f x y z u k := by
 intro k r h
 obtain ⟨x, y, z, u, hx, hk⟩ := hg _ _ h
 obtain ⟨a, b, ha, hk'⟩ := hf x y z u _ _ hx
 exact ⟨a, b, ha, fun k' => (hk _).trans (hk' k')⟩
section
variable (P : Program)
theorem Gv (d : SD) (i : Nat) : N1 (d.get i) := by
 cases d <;> exact N1.bind fun x => N1.pure _
theorem Hx (d e : SD) : N1 (d.app e) := by
 unfold SD.app; split <;> first | exact N1.pure _ | exact N1.none
theorem HP (d : SD) (i : Nat) (e : SE) : N1 (d.set i e) := by
 unfold SD.set; split <;> first | exact N1.pure _ | exact N1.none
theorem wj (h : List aq) (x : SV) : N1 (vr h x) := by
 unfold vr; split
 ·exact N1.pure _
 ·exact N1.pure _
 ·split
  ·exact N1.cond (N1.pure _) N1.none
  ·exact N1.none
 ·exact N1.none
theorem vv (h : List aq) (x : SV) : N2 (mg h x) := by
 unfold mg; split
 ·split
  ·exact N2.cond (N2.pure _ _) N2.none
  ·exact N2.none
 ·exact N2.pure _ _
 ·exact N2.pure _ _
theorem rQ : ∀ (l : List SV) (h : List aq), N2 (jE h l)
 | [], h => N2.pure _ _
 | x :: l, h => by
  show N2 fun k => mg h x fun x' h' => jE h' l fun l' h'' => k (x' :: l') h''
  exact N2.bD (vv h x) fun x' h' => N2.bD (rQ l h') fun _ _ => N2.pure _ _
theorem xR (e : SK) (l : List SV) : N1 (elemOf e l) := by
 unfold elemOf; split <;> first | exact N1.pure _ | exact N1.none | exact N1.cond (N1.pure _) N1.none
theorem sn (e : SK) : ∀ (cs : List (List SV)) (h : List aq) (d : SD), N2 (jK e h cs d)
 | [], h, d => N2.pure _ _
 | c :: cs, h, d => by
  show N2 fun k => jE h c fun c' h' => elemOf e c' fun x => (d.snoc x).bind fun d' => jK e h' cs d' k
  exact N2.bD (rQ c h) fun c' h' => N2.bY (xR e c') fun x => N2.bind fun d' => sn e cs h' d'
theorem uN (t : TypeId) (l : List SV) : N1 (vj P t l) := by
 unfold vj; split
 ·split
  ·exact N1.pure _
  ·exact N1.none
 ·split
  ·exact N1.cond (N1.pure _) N1.none
  ·exact N1.none
theorem wL (t : TypeId) (x : AV) (h : List aq) : N1 (mS P t x h) := by
 unfold mS; split
 ·split
  ·exact uN P _ _
  ·exact N1.none
 ·exact uN P _ _
 ·split
  ·exact N1.cond (N1.bY (Gv _ _) fun e => uN P _ _) N1.none
  ·exact N1.none
 ·exact N1.none
theorem BE (t : TypeId) (x y : AV) (h : List aq) : N1 (nT P t x y h) := by
 unfold nT; split
 ·refine N1.bind fun yc => ?_
  split
  ·split
   ·exact N1.cond (N1.pure _) N1.none
   ·exact N1.none
  ·refine N1.bD (rQ _ _) fun c h => ?_
   split
   ·exact N1.cond (N1.bY (xR _ _) fun x => N1.bY (HP _ _ _) fun d => N1.pure _) N1.none
   ·exact N1.none
  ·exact N1.none
 ·exact N1.none
theorem Eu (op : BinOp) (ka : IntKind) (a b : Int) : N1 (Bc op ka a b) := by
 unfold Bc; split <;> first | exact N1.pure _ | exact N1.none | exact N1.cond N1.none (N1.pure _)
theorem EI (op : BinOp) (a b : ByteArray) : N1 (Bq op a b) := by
 unfold Bq; split <;> first | exact N1.pure _ | exact N1.none | exact N1.cond (N1.pure _) N1.none
theorem BI (op : BinOp) (t : TypeId) (x y : AV) : N1 (BZ P op t x y) := by
 unfold BZ; split
 ·exact N1.cond (Eu _ _ _ _) N1.none
 ·exact EI _ _ _
 ·split
  ·split <;> first | exact N1.pure _ | exact N1.none
  ·exact N1.none
 ·exact N1.none
theorem DP (op : UnOp) (x : AV) : N1 (Gh op x) := by
 unfold Gh; split <;> first | exact N1.pure _ | exact N1.none
theorem wD (t t' : TypeId) (x : AV) (h : List aq) : N1 (sd P t t' x h) := by
 unfold sd; split
 ·split <;> first | exact N1.pure _ | exact N1.none
 ·split
  ·refine N1.bY (wj _ _) fun d => ?_
   split <;> first | exact N1.pure _ | exact N1.none
  ·exact N1.none
 ·exact N1.none
theorem cI (x : AV) : N1 (fc x) := by
 unfold fc; split <;> first | exact N1.pure _ | exact N1.none
theorem xu (lo hi : Option AV) (n : Nat) : N2 (eY.bounds lo hi n) := by
 unfold eY.bounds; split
 ·exact N2.pure _ _
 ·exact N2.bY (cI _) fun l => N2.cond (N2.pure _ _) N2.none
 ·exact N2.bY (cI _) fun l => N2.cond (N2.pure _ _) N2.none
 ·exact N2.bY (cI _) fun l => N2.bY (cI _) fun m => N2.cond (N2.pure _ _) N2.none
theorem Bt (t : TypeId) (x : AV) (lo hi mx : Option AV) (h : List aq) : N2 (eY P t x lo hi mx h) := by
 unfold eY; split
 ·refine N2.cond (N2.bY (cI _) fun m => ?_) N2.none
  split
  ·refine N2.bY (cI _) fun n => N2.cond ?_ N2.none
   split
   ·exact N2.cond (N2.pure _ _) N2.none
   ·split
    ·exact N2.cond (N2.pure _ _) N2.none
    ·exact N2.none
   ·exact N2.pure _ _
   ·exact N2.none
  ·refine N2.bY (cI _) fun n => N2.bY (cI _) fun l => N2.cond ?_ N2.none
   split
   ·exact N2.cond (N2.pure _ _) N2.none
   ·split
    ·exact N2.cond (N2.pure _ _) N2.none
    ·exact N2.none
   ·exact N2.pure _ _
   ·exact N2.none
  ·exact N2.none
 ·split
  ·split
   ·exact N2.bD (xu _ _ _) fun l n => N2.pure _ _
   ·exact N2.none
  ·split
   ·refine N2.bD (vv _ _) fun x' h' => ?_
    split
    ·exact N2.cond (N2.bD (xu _ _ _) fun l n => N2.pure _ _) N2.none
    ·exact N2.none
   ·exact N2.none
  ·exact N2.none
theorem kh (t : TypeId) (x y : AV) (h : List aq) : N1 (fK P t x y h) := by
 unfold fK; split
 ·exact N1.none
 ·refine N1.bY (cI _) fun i => N1.cond ?_ N1.none
  split
  ·exact N1.cond (N1.bY (Gv _ _) fun x => N1.pure _) N1.none
  ·split
   ·exact N1.cond (N1.cond (N1.pure _) N1.none) N1.none
   ·exact N1.none
  ·exact N1.none
theorem Az (t : TypeId) (x : AV) (h : List aq) : N1 (A3 P t x h) := by
 unfold A3; split
 ·split <;> first | exact N1.pure _ | exact N1.none
 ·split <;> first | exact N1.pure _ | exact N1.none
 ·split
  ·exact N1.bY (wj _ _) fun d => N1.pure _
  ·exact N1.none
 ·exact N1.none
theorem yR (t : TypeId) (x y : AV) (h : List aq) (sl : Nat) : N2 (jS P t x y h sl) := by
 unfold jS; split
 ·exact N2.none
 ·split
  ·refine N2.bY (wj _ _) fun d' => N2.cond ?_ N2.none
   split
   ·split
    ·exact N2.cond (N2.bY (Hx _ _) fun d => N2.cond (N2.pure _ _) N2.none) N2.none
    ·exact N2.none
   ·exact N2.cond (N2.pure _ _) N2.none
   ·exact N2.none
  ·exact N2.none
theorem Ce (t : TypeId) (x y : AV) (h : List aq) (sl : Nat) : N2 (pU P t x y h sl) := by
 unfold pU
 refine N2.bY (cI _) fun n => N2.bY (cI _) fun m => N2.cond ?_ N2.none
 split
 ·exact N2.cond (N2.bind fun d => N2.pure _ _) N2.none
 ·exact N2.none
theorem tn (h : List aq) (d : Nat) (v : AV) : N1 (nj h d v) := by
 unfold nj; split <;> first | exact N1.pure _ | exact N1.none | exact N1.cond (N1.pure _) N1.none
theorem BD (h : List aq) (v : AV) : N1 (BQ h v) := by
 unfold BQ; split <;> first | exact N1.pure _ | exact N1.none | exact N1.cond (N1.pure _) N1.none
theorem r7 (t : TypeId) (x y : AV) : N1 (mY P t x y) := by
 unfold mY; split
 ·refine N1.bY (cI _) fun n => N1.cond ?_ N1.none
  split <;> first | exact N1.pure _ | exact N1.none
 ·exact N1.none
theorem nG (x : AV) (i : Nat) : N1 (iw x i) := by
 unfold iw; split
 ·exact N1.bind fun x => N1.pure _
 ·exact N1.none
theorem rn (mx : Bool) (x y : AV) : N1 (yD mx x y) := by
 unfold yD; split <;> first | exact N1.cond (N1.pure _) N1.none | exact N1.none
theorem sW (t : TypeId) (ps : List (Nat × AV)) : N1 (qs P t ps) := N1.bind fun _ => N1.bind fun _ => N1.bind fun _ => N1.pure _
theorem my : ∀ (l : List V1) (h : List aq), N2 (jl h l)
 | [], h => N2.pure _ _
 | .agg c :: l, h => by
  show N2 fun k => jE h c fun c h => jl h l fun vs h => k (.agg c :: vs) h
  exact N2.bD (rQ c h) fun c h => N2.bD (my l h) fun _ _ => N2.pure _ _
 | .one x :: l, h => by
  have h1 : N2 fun k => jl h l fun vs h => k (.one .any :: vs) h := N2.bD (my l h) fun _ _ => N2.pure _ _
  have h2 : N2 fun k => mg h x fun x h => jl h l fun vs h => k (.one x :: vs) h := N2.bD (vv h x) fun x h => N2.bD (my l h) fun _ _ => N2.pure _ _
  cases x <;> first | exact h2 | exact h1
theorem GH (a : IntKind) (l : List SV) : N2 (aS a l) := by unfold aS; split <;> first | exact N2.cond (N2.pure _ _) N2.none | exact N2.none
theorem ER (l : List SV) : N2 (lX l) := by unfold lX; split <;> first | exact N2.pure _ _ | exact N2.none
theorem Ft (l : List SV) : N2 (E9 l) := by unfold E9; split <;> first | exact N2.pure _ _ | exact N2.none
theorem GR (e : SK) (l : List SV) : N2 (slC e l) := by
 cases e
 ·show N2 fun k => tsC l fun x l => k (SD.ts x) l; refine N2.bD (g := tsC l) ?_ fun _ _ => N2.pure _ _; unfold tsC; split <;> first | exact N2.pure _ _ | exact N2.none
 ·show N2 fun k => isC l fun x l => k (SD.is x) l; refine N2.bD (g := isC l) ?_ fun _ _ => N2.pure _ _; unfold isC; split <;> first | exact N2.pure _ _ | exact N2.none
 ·show N2 fun k => Fi l fun x l => k (SD.iss x) l; refine N2.bD (g := Fi l) ?_ fun _ _ => N2.pure _ _; unfold Fi; split <;> first | exact N2.pure _ _ | exact N2.none
 ·show N2 fun k => ssC l fun x l => k (SD.ss x) l; refine N2.bD (g := ssC l) ?_ fun _ _ => N2.pure _ _; unfold ssC; split <;> first | exact N2.pure _ _ | exact N2.none
 ·show N2 fun k => bsC l fun x l => k (SD.bs x) l; refine N2.bD (g := bsC l) ?_ fun _ _ => N2.pure _ _; unfold bsC; split <;> first | exact N2.pure _ _ | exact N2.none
theorem GG (l : List SV) : N1 (Fc l) := by unfold Fc; split <;> first | exact N1.pure _ | exact N1.none
theorem ED (x : SV) (l : List SV) : N2 (yW x l) := by
 unfold yW; split
 ·exact N2.bD (GH _ _) fun _ _ => N2.pure _ _
 ·exact N2.bD (ER _) fun _ _ => N2.pure _ _
 ·exact N2.bD (Ft _) fun _ _ => N2.pure _ _
 ·exact N2.bD (GR _ _) fun _ _ => N2.pure _ _
 ·exact N2.bD (GR _ _) fun _ _ => N2.pure _ _
 ·exact N2.bY (GG _) fun _ => N2.pure _ _
theorem wo : ∀ (x l : List SV), N1 (rr x l)
 | [], l => by
  show N1 fun k => aQ l (k [])
  unfold aQ; split <;> first | exact N1.pure _ | exact N1.none
 | x :: xs, l => by
  show N1 fun k => yW x l fun y l => rr xs l fun ys => k (y :: ys)
  exact N1.bD (ED x l) fun y l => N1.bY (wo xs l) fun _ => N1.pure _
theorem DY (o : List aq) : N2 (aP o) := by unfold aP; split <;> first | exact N2.pure _ _ | exact N2.none
theorem Bb (o : List aq) : N1 (vu o) := by unfold vu; split <;> first | exact N1.pure _ | exact N1.none
theorem qp : ∀ (x o : List aq), N2 (rJ x o)
 | [], o => N2.pure _ _
 | .cells x :: xs, o => by
  show N2 fun k => aP o fun l o => rr x l fun y => rJ xs o fun ys o => k (.cells y :: ys) o
  exact N2.bD (DY o) fun l o => N2.bY (wo x l) fun y => N2.bD (qp xs o) fun _ _ => N2.pure _ _
 | .arr _ _ _ _ :: xs, o => by
  show N2 fun k => vu o fun o => rJ xs o fun ys o => k (.dead :: ys) o
  exact N2.bY (Bb o) fun o => N2.bD (qp xs o) fun _ _ => N2.pure _ _
 | .dead :: xs, o => by
  show N2 fun k => vu o fun o => rJ xs o fun ys o => k (.dead :: ys) o
  exact N2.bY (Bb o) fun o => N2.bD (qp xs o) fun _ _ => N2.pure _ _
theorem Gq (a : IntKind) (l : List V1) : N2 (aB a l) := by unfold aB; split <;> first | exact N2.cond (N2.pure _ _) N2.none | exact N2.none
theorem EM (l : List V1) : N2 (aD l) := by unfold aD; split <;> first | exact N2.pure _ _ | exact N2.none
theorem Gu (l : List V1) : N2 (kB l) := by unfold kB; split <;> first | exact N2.pure _ _ | exact N2.none
theorem Eo (l : List V1) : N2 (ag l) := by unfold ag; split <;> first | exact N2.pure _ _ | exact N2.none
theorem Fq (j : Nat) (l : List V1) : N1 (D6 j l) := by unfold D6; split <;> first | exact N1.cond (N1.pure _) N1.none | exact N1.none
theorem F0 (j : Nat) (l : List V1) : N1 (Dr j l) := by unfold Dr; split <;> first | exact N1.cond (N1.pure _) N1.none | exact N1.none
theorem Hz (e : SK) (l : List V1) : N2 (rSl e l) := by
 cases e
 ·show N2 fun k => rTs l fun x l => k (SD.ts x) l; refine N2.bD (g := rTs l) ?_ fun _ _ => N2.pure _ _; unfold rTs; split <;> first | exact N2.pure _ _ | exact N2.none
 ·show N2 fun k => rIs l fun x l => k (SD.is x) l; refine N2.bD (g := rIs l) ?_ fun _ _ => N2.pure _ _; unfold rIs; split <;> first | exact N2.pure _ _ | exact N2.none
 ·show N2 fun k => Fa l fun x l => k (SD.iss x) l; refine N2.bD (g := Fa l) ?_ fun _ _ => N2.pure _ _; unfold Fa; split <;> first | exact N2.pure _ _ | exact N2.none
 ·show N2 fun k => rSs l fun x l => k (SD.ss x) l; refine N2.bD (g := rSs l) ?_ fun _ _ => N2.pure _ _; unfold rSs; split <;> first | exact N2.pure _ _ | exact N2.none
 ·show N2 fun k => rBs l fun x l => k (SD.bs x) l; refine N2.bD (g := rBs l) ?_ fun _ _ => N2.pure _ _; unfold rBs; split <;> first | exact N2.pure _ _ | exact N2.none
theorem xA (e : TypeId) (o : List aq) : N2 (bW e o) := by unfold bW; split <;> first | exact N2.cond (N2.pure _ _) N2.none | exact N2.none
theorem FW (e : TypeId × SK) (o : List aq) : N2 (Gk e o) := by
 unfold Gk; split
 ·exact N2.bD (xA _ _) fun _ _ => N2.pure _ _
 ·refine N2.bD (g := pE e.1 o) ?_ fun _ _ => N2.pure _ _; unfold pE; split <;> first | exact N2.cond (N2.pure _ _) N2.none | exact N2.none
 ·refine N2.bD (g := kO e.1 o) ?_ fun _ _ => N2.pure _ _; unfold kO; split <;> first | exact N2.cond (N2.pure _ _) N2.none | exact N2.none
 ·refine N2.bD (g := qg e.1 o) ?_ fun _ _ => N2.pure _ _; unfold qg; split <;> first | exact N2.cond (N2.pure _ _) N2.none | exact N2.none
 ·refine N2.bD (g := pG e.1 o) ?_ fun _ _ => N2.pure _ _; unfold pG; split <;> first | exact N2.cond (N2.pure _ _) N2.none | exact N2.none
theorem Ep {α β γ δ : Type} {j : Nat} {l : List V1} {f : Int → Int → List V1 → (α → β → γ → δ → OR) → OR} (hf : ∀ x y z, N4 (f x y z)) : N4 fun k => eK j l fun x y z => f x y z k := by
 unfold eK; split
 ·exact N4.cond (hf _ _ _) N4.none
 ·exact N4.none
theorem F8 (own : Bool) (c b : Nat) (t : TypeId) (l : List V1) (o : List aq) : N4 (Fe P own c b t l o) := by
 unfold Fe; split
 ·exact N4.bD (Gq _ _) fun _ _ => N4.pure _ _ _ _
 ·exact N4.bD (EM _) fun _ _ => N4.pure _ _ _ _
 ·exact N4.bD (Gu _) fun _ _ => N4.pure _ _ _ _
 ·split
  ·exact N4.cond (N4.bY (Fq _ _) fun _ => N4.bD (FW _ _) fun _ _ => N4.pure _ _ _ _) (N4.bD (Hz _ _) fun _ _ => N4.pure _ _ _ _)
  ·exact N4.none
 ·split
  ·exact N4.cond (Ep fun _ _ _ => N4.bD (xA _ _) fun _ _ => N4.pure _ _ _ _) (N4.bD (Eo _) fun _ _ => N4.pure _ _ _ _)
  ·exact N4.none
 ·refine N4.bY (F0 _ _) fun _ => N4.bD (DY _) fun _ _ => ?_
  split
  ·exact N4.bY (wo _ _) fun _ => N4.pure _ _ _ _
  ·exact N4.none
 ·exact N4.none
theorem A7 (own : Bool) : ∀ (ts : List TypeId) (c b : Nat) (l : List V1) (o : List aq), N2 (vO P own ts c b l o)
 | [], c, b, l, o => by
  show N2 fun k => ai l (aj o (k [] []))
  unfold ai; split; (unfold aj; split <;> first | exact N2.pure _ _ | exact N2.none); exact N2.none
 | t :: ts, c, b, l, o => by
  show N2 fun k => Fe P own c b t l o fun v n l o => vO P own ts (c + n.length) (b + n.length) l o fun vs ns => k (v :: vs) (n ++ ns)
  exact N2.HC (F8 P own c b t l o) fun v n l o => N2.bD (A7 own ts _ _ l o) fun _ _ => N2.pure _ _
theorem yb (F : Callee) (ow : Bool) (f : FuncId) (tys : List TypeId) (sl rm : Nat) (args : List V1) (h : List aq) : N2 fun k => pN P F ow f tys sl rm k args h := by
 unfold pN
 exact N2.cond (N2.bind fun r => N2.bD (qp _ _) fun os o => N2.bD (A7 P _ _ _ _ _ _) fun vs ns => N2.cond (N2.pure _ _) N2.none) N2.none
theorem Ax (F : Callee) (D : Dec) (f : FuncId) (args : List V1) (h : List aq) (sl rm : Nat) : N2 fun k => tF P F D f args h sl rm k := by
 unfold tF; split
 ·exact N2.none
 ·exact N2.cond (N2.cond (yb P _ _ _ _ _ _ _ _) (N2.bD (my _ _) fun args h => yb P _ _ _ _ _ _ _ _)) N2.none
theorem vS (b : Builtin) (args : List AV) (tys : List TypeId) (h : List aq) (sl : Nat) : N2 (gn P b args tys h sl) := by
 unfold gn; split
 ·exact N2.bY (Az P _ _ _) fun _ => N2.pure _ _
 ·exact N2.cond (N2.bD (yR P _ _ _ _ _) fun _ _ => N2.pure _ _) N2.none
 ·exact N2.bY (rn _ _ _) fun _ => N2.pure _ _
 ·exact N2.bY (rn _ _ _) fun _ => N2.pure _ _
 ·exact N2.none
theorem m8 (F : Callee) (D : Dec) (o : Oper) (ρ : Operand → AV) (x : Operand) (args : Array Operand) (h : List aq) (sl : Nat) : N2 fun k => (match ρ x with
     | .v (.one (.fn f l)) => (v1L (args.toList.map ρ)).bind fun vs => tF P F D f (vs ++ l.map fun j => .one (.ptr j 0)) h sl (fO P D o) k
     | _ => none) := by
 split
 ·exact N2.bind fun vs => Ax P _ _ _ _ _ _ _
 ·exact N2.none
theorem DL (F : Callee) (D : Dec) (o : Oper) (ρ : Operand → AV) (h : List aq) (sl : Nat) : N2 (oq P F D o ρ h sl) := by
 obtain ⟨dst, op, ty, pos, aft, gd⟩ := o
 show N2 fun k => oq P F D ⟨dst, op, ty, pos, aft, gd⟩ ρ h sl k
 cases op <;> simp only [oq]
 case move => exact N2.pure _ _
 case assign => exact N2.pure _ _
 case pick =>
  split
  ·exact N2.cond (N2.pure _ _) (N2.pure _ _)
  ·exact N2.none
 case alloc => exact N2.bind fun _ => N2.pure _ _
 case box => exact N2.bind fun _ => N2.pure _ _
 case build => exact N2.bY (sW P _ _) fun _ => N2.pure _ _
 case buildSlice =>
  split
  ·exact N2.cond (N2.bind fun _ => N2.bD (sn _ _ _ _) fun _ _ => N2.pure _ _) N2.none
  ·exact N2.none
 case load => exact N2.bY (wL P _ _ _) fun _ => N2.pure _ _
 case store => exact N2.bY (BE P _ _ _ _) fun _ => N2.pure _ _
 case nilCheck => exact N2.bY (BD _ _) fun _ => N2.pure _ _
 case binOp => exact N2.bY (BI P _ _ _ _) fun _ => N2.pure _ _
 case unOp => exact N2.bY (DP _ _) fun _ => N2.pure _ _
 case convert => exact N2.bY (wD P _ _ _ _) fun _ => N2.pure _ _
 case makeFunc =>
  split
  ·exact N2.bind fun _ => N2.pure _ _
  ·exact N2.none
 case makeSlice => exact N2.bD (Ce P _ _ _ _ _) fun _ _ => N2.pure _ _
 case slice => exact N2.bD (Bt P _ _ _ _ _ _) fun _ _ => N2.pure _ _
 case fieldAddr => exact N2.bind fun _ => N2.bY (tn _ _ _) fun _ => N2.pure _ _
 case indexAddr => exact N2.bY (kh P _ _ _ _) fun _ => N2.pure _ _
 case index => exact N2.bY (r7 P _ _ _) fun _ => N2.pure _ _
 case extract => exact N2.bY (nG _ _) fun _ => N2.pure _ _
 case call c =>
  obtain ⟨callee, args, tys⟩ := c
  cases callee with
  | builtin bi => exact vS P _ _ _ _ _
  | invoke q m => exact N2.none
  | value f =>
   cases f with
   | func f =>
    refine N2.cond ?_ (N2.bind fun _ => Ax P _ _ _ _ _ _ _)
    split
    ·exact N2.cond (N2.pure _ _) N2.none
    ·exact N2.none
   | tmp t => exact m8 P F D _ ρ _ _ h sl
   | const v => exact m8 P F D _ ρ _ _ h sl
   | global g => exact m8 P F D _ ρ _ _ h sl
 all_goals exact N2.none
end
end Go.Ab
end
