/- Part 2 of the proof. -/
import Derived.Test.YtajlknlnmmbfcaaGreatJ01
set_option linter.unusedVariables false
set_option linter.unusedSimpArgs false
section
namespace Go.Ab
open Go Go.Dk
section
variable {P : Program} {w0 w w' : World} {M Z0 : bn} {b : Nat} {G : List GO} {s : AS} {tv : List Value} {r : List V1 × List au}
variable {ρ : Operand → Value} {x y : Operand} {d : Option Tmp} {ty t t' : TypeId} {pos : String} {aft : Array Edge} {gd : Option (Nat × Bool)} {vx vy : AV} {X : Value}
theorem CL (hI : bp w0 M Z0 b G s tv w) (hb : b < G.length) (hg : sP w w') {e : TypeId} {D : SD} {xs : List Value} {val : Value} (hE : aH (zn w0 Z0 s G) w D xs) (hval : ∃ a c, val = .slice a D.len c)
   (hq : (jr e D.kind.size val D.len xs).own w' ∧ ∀ k, (jr e D.kind.size val D.len xs).foot k → w.heap.size ≤ k ∧ k < w'.heap.size) :
   bp w0 M Z0 (b + 1) (G.set b (.arr 0 val D.kind.size xs)) ⟨s.tmps, s.heap.set b (.arr e D 0 false)⟩ tv w' ∧
   cO (G.set b (.arr 0 val D.kind.size xs)) (zn w0 Z0 ⟨s.tmps, s.heap.set b (.arr e D 0 false)⟩ (G.set b (.arr 0 val D.kind.size xs))) w' (.own b 0) val ∧ Up G (G.set b (.arr 0 val D.kind.size xs)) := by
 have hup : Up G (G.set b (.arr 0 val D.kind.size xs)) := Up.set fun g0 h0 => by rw [hI.fresh b (Nat.le_refl _) hb] at h0; obtain rfl := Option.some.inj h0; trivial
 refine ⟨(hI.newObj hb hg (o := .arr e D 0 false) (g := .arr 0 val D.kind.size xs) (fun q hq' => ?_) (fun Z' hk => ⟨rfl, rfl, hE.aN hk, hval⟩)).1, ⟨.inr ⟨0, val, D.kind.size, xs, by simp [hb], Nat.le_refl _, fun _ => rfl⟩, ?_⟩, hup⟩
 ·simp only [jC, List.mem_singleton] at hq'
  subst hq'; exact hq
 ·obtain ⟨a, c, rfl⟩ := hval; rfl
theorem B6 {e sz n : Nat} {cs : List Value} (hn : cs.length = n * sz) (hm : n ≤ maxLen) :
   (jr e sz (.slice (some ⟨w.heap.size, 0, none⟩) n n) n cs).own (w.alloc (.cells cs.toArray e (0, 0))) ∧
   ∀ k, (jr e sz (.slice (some ⟨w.heap.size, 0, none⟩) n n) n cs).foot k → w.heap.size ≤ k ∧ k < (w.alloc (.cells cs.toArray e (0, 0))).heap.size := by
 cases n with
 | zero =>
  rw [fI]
  rw [Nat.zero_mul] at hn
  exact ⟨⟨rfl, List.eq_nil_of_length_eq_zero hn, rfl⟩, fun k h => h.elim⟩
 | succ n =>
  rw [eR (by omega)]
  refine ⟨⟨hn, .inr ⟨w.heap.size, n + 1, cs.toArray, rfl, Nat.zero_le _, n3 _ _, Nat.le_refl _, hm, by simp [hn], ?_⟩⟩, fun k hk => ?_⟩
  ·simp only [List.toList_toArray]; rw [← hn, List.take_length]
  ·simp only [zN, Value.ownBlock] at hk
   obtain rfl := Option.some.inj hk
   rw [jm]; omega
theorem pd {n sz e : Nat} {i : TypeInfo} {z : Value} {ps : List (Nat × Operand)} {vs cs : List Value} (hu : P.underlying t = some (.slice e)) (hi : P.info? e = some i) (hz : i.zero = some z) (hsz0 : i.size = sz)
   (hix : ps.map (·.1) = List.range' 0 ps.length) (hvs : ps.map (fun p => ρ p.2) = vs) (hn : ps.length = n) (hsz : ∀ v ∈ vs, v.cells.size = sz) (hb : n * sz ≤ 16777216) (hcs : mI vs = cs) :
   (execOp ρ ⟨d, .buildSlice t n ps.toArray, ty, pos, aft, gd⟩).run P w = .ok (.value (.slice (some ⟨w.heap.size, 0, none⟩) n n)) (w.alloc (.cells cs.toArray e (0, 0))) := by
 have hlim : ¬ (n * i.size > 2 ^ 24) := by rw [hsz0]; simpa using hb
 have hps : ps.map (fun p => (p.1, ρ p.2)) = fQ 0 vs := by rw [kt ρ ps 0 hix, hvs]
 have hvl : vs.length = n := by rw [← hvs, ← hn]; simp
 have hparts : ((ps.toArray.map fun (p : Nat × Operand) => (p.1, ρ p.2)).toList) = fQ 0 vs := by simpa using hps
 have key : ∀ zero : Array Value, Instr.fill (fun j => some (j * i.size, i.size)) ((Array.range (n * i.size)).map (zero[· % zero.size]!)) ((ps.toArray.map fun (p : Nat × Operand) => (p.1, ρ p.2)).toList) = some cs.toArray := by
  intro zero
  obtain ⟨B, hB, hl⟩ := qf i.size vs 0 ((Array.range (n * i.size)).map (zero[· % zero.size]!)) (by rw [hsz0]; exact hsz) (by simp [hvl])
  have hBcs : B = cs.toArray := by
   apply Array.toList_inj.1
   rw [hl, Nat.zero_mul, EM _ _ (by rw [iI i.size vs (by rw [hsz0]; exact hsz)]; simp [hvl]), hcs]
  rw [hparts, hB, hBcs]
 simp only [execOp, Instr.buildSlice, Sem.run_bind, Go.Dk.run_underlying hu, Result.andThen_ok, Go.Dk.run_sizeOf hi, if_neg hlim]
 by_cases h0 : n * i.size = 0
 ·rw [if_pos h0]
  simp only [Sem.run_bind, Sem.run_pure, Result.andThen_ok, key, newRow, newObj, Sem.run]
  rfl
 ·rw [if_neg h0]
  have hzv : (zeroValue e).run P w = .ok z w := by
   simp only [zeroValue, Sem.run_bind, Go.Dk.run_typeInfo hi, Result.andThen_ok, hz, Sem.run_pure]
  simp only [Sem.run_bind, hzv, Sem.run_pure, Result.andThen_ok, key, newRow, newObj, Sem.run]
  rfl
theorem tK : ∀ (ps : List (Nat × Operand)) (k : Nat), Bl k ps = true → ps.map (·.1) = List.range' k ps.length
 | [], _, _ => rfl
 | p :: ps, k, h => by
  simp only [Bl, Bool.and_eq_true, Nat.beq_eq] at h
  simp only [List.map_cons, List.length_cons, List.range'_succ, tK ps (k + 1) h.2, h.1]
theorem yd {e : TypeId} {k : SK} : k.size ≤ 3 := by cases k <;> decide
theorem ko (hI : bp w0 M Z0 b G s tv w) (hb : b < G.length) {n : Nat} {ps : Array (Nat × Operand)} {ρa : Operand → AV} {k : AV → List au → OR} (hρ : ∀ x, RV G (zn w0 Z0 s G) w (ρa x) (ρ x))
   (h : (match ct P t with
    | some e => cond (Bl 0 ps.toList && (Nat.beq ps.toList.length n && Nat.ble n 4194304))
     ((csL (ps.toList.map fun p => ρa p.2)).bind fun cs => jX e.2 s.heap cs e.2.nil fun d h => k (.v (.one (.own b 0))) (h.set b (.arr e.1 d 0 false))) none
    | none => none) = some r) :
   ∃ v h' G' w' X, k v h' = some r ∧ (execOp ρ ⟨d, .buildSlice t n ps, ty, pos, aft, gd⟩).run P w = .ok (.value X) w' ∧ bp w0 M Z0 (b + 1) G' ⟨s.tmps, h'⟩ tv w' ∧ RV G' (zn w0 Z0 ⟨s.tmps, h'⟩ G') w' v X ∧ h'.length = s.heap.length ∧ Up G G' := by
 split at h
 ·rename_i e hk
  replace h := ar h; obtain ⟨hc, h⟩ := h
  simp only [Bool.and_eq_true, Nat.beq_eq, Nat.ble_eq] at hc
  obtain ⟨hix, hlen, hn⟩ := hc
  replace h := bind_some h; obtain ⟨cs, hcs, h⟩ := h
  obtain ⟨hu, hke⟩ := fK hk
  obtain ⟨_, i, z, hi, hz, hsz, _, _⟩ := fV hke
  obtain ⟨xss, hxs, hxr⟩ := tt (Xs := ps.toList.map fun p => ρ p.2) hcs ⟨by simp, fun j a c ha hc => by
   rw [List.getElem?_map] at ha hc
   obtain ⟨p, hp, rfl⟩ := Option.map_eq_some_iff.1 ha
   rw [hp] at hc
   obtain rfl := Option.some.inj hc
   exact hρ p.2⟩
  replace h := kD hI hxr (jo e.2) (SK.y3 e.2) h
  obtain ⟨D, h', h, hs, he, hDl, hDk, hall⟩ := h
  have hcl : cs.length = n := by
   have h1 := hxr.1
   have h2 : (ps.toList.map fun p => ρ p.2).length = xss.length := by have := congrArg List.length hxs; simpa using this
   rw [h1, ← h2]; simp [← hlen]
  have hDn : D.len = n := by rw [hDl, SK.iJ, Nat.zero_add, hcl]
  have hflat : mI (ps.toList.map fun p => ρ p.2) = xss.flatten := by
   have : ∀ (Xs : List Value) (xss : List (List Value)), Xs.map Value.cells = xss.map List.toArray → mI Xs = xss.flatten := by
    intro Xs
    induction Xs with
    | nil => intro xss h; cases xss with | nil => rfl | cons => simp at h
    | cons X Xs ih =>
     intro xss h
     cases xss with
     | nil => simp at h
     | cons x xss =>
      simp only [List.map_cons, List.cons.injEq] at h
      have := ih xss h.2
      simp only [mI] at this
      simp only [mI, List.flatMap_cons, List.flatten_cons, h.1, this]
   exact this _ _ hxs
  have hrun := pd (P := P) (w := w) (ρ := ρ) (d := d) (ty := ty) (pos := pos) (aft := aft) (gd := gd) (n := n) (ps := ps.toList) hu hi hz hsz (tK _ 0 hix) rfl hlen (fun v hv => by
   have : v.cells ∈ xss.map List.toArray := by rw [← hxs]; exact List.mem_map_of_mem hv
   obtain ⟨x, hx, hxe⟩ := List.mem_map.1 this
   rw [← hxe]; simpa using (hall x hx).1) (by have := @yd e.1 e.2; have := Nat.mul_le_mul hn this; omega) hflat
  have hlen2 := he.length
  simp only [List.nil_append] at he hlen2
  rw [hDk] at hlen2
  have hnew := CL (e := e.1) hs.inv hb (sP.alloc w (.cells xss.flatten.toArray e.1 (0, 0))) he ⟨some ⟨w.heap.size, 0, none⟩, n, by rw [hDn]⟩ (by
   rw [hDk, hDn]
   exact B6 (by rw [← hDn]; exact hlen2) (by simp only [maxLen]; omega))
  rw [hDk] at hnew
  have hps : ps.toList.toArray = ps := by simp
  rw [hps] at hrun
  exact ⟨_, _, _, _, _, h, hrun, hnew.1, hnew.2.1.rv, by rw [List.length_set]; have := hs.inv.len; have := hI.len; simp at *; omega, hnew.2.2⟩
 ·cases h
theorem Bf {Z : bn} {D : SD} {ys : List Value} (h : aH Z w D ys) : ∀ u ∈ ys, u.oneCell' = true := by
 cases D with
 | ts l =>
  obtain ⟨hs, _, rfl, _⟩ := h
  induction hs generalizing l with
  | nil => intro u hu; simp [fZ] at hu
  | cons t hs ih =>
   intro u hu
   rw [bM] at hu
   simp only [List.mem_cons] at hu
   rcases hu with rfl | rfl | rfl | hu
   ·rfl
   ·rfl
   ·rfl
   ·rename_i h1 h2; exact ih _ rfl (fun h hh => h2 h (List.mem_cons_of_mem _ hh)) u hu
 | is l => simp only [aH] at h; subst h; intro u hu; obtain ⟨x, _, rfl⟩ := List.mem_map.1 hu; rfl
 | iss l =>
  intro u hu
  obtain ⟨i, hi⟩ := List.getElem?_of_mem hu
  obtain ⟨a, _, c, cap, rfl, _⟩ := aw.get' h hi
  rfl
 | ss l => simp only [aH] at h; subst h; intro u hu; obtain ⟨x, _, rfl⟩ := List.mem_map.1 hu; rfl
 | bs l => simp only [aH] at h; subst h; intro u hu; obtain ⟨x, _, rfl⟩ := List.mem_map.1 hu; rfl
theorem nE {v Y v' : Value} (hx : ρ x = v) (hy : ρ y = Y) (hr : (Builtin.append_ #[t, t] ty #[v, Y]).run P w = .ok v' w') :
   (execOp ρ ⟨d, .call ⟨.builtin .append, #[x, y], #[t, t]⟩, ty, pos, aft, gd⟩).run P w = .ok (.value v') w' := by
 unfold execOp
 simp only [resolve, invoke, builtin, Sem.run_bind, Sem.run_pure, Result.andThen_ok, List.map_toArray, List.map_cons, List.map_nil, hx, hy, hr]
theorem nR {e : TypeId} {i : TypeInfo} {a : Option Addr} {n c : Nat} {Y : Value} (hu : P.underlying t = some (.slice e)) (hi : P.info? e = some i) (hY : ∃ a' c', Y = .slice a' 0 c') (hn : n ≤ c) :
   (Builtin.append_ #[t, t] ty #[.slice a n c, Y]).run P w = .ok (.slice a n c) w := by
 obtain ⟨a', c', rfl⟩ := hY
 have hf : (Builtin.firstCells i.size 0 (.slice a' 0 c')).run P w = .ok #[] w := by
  cases a' with
  | none => rfl
  | some a' => simp [Builtin.firstCells, loadCells, loadCellsFrom, Sem.run_pure]
 unfold Builtin.append_
 cases a with
 | none => simp [Sem.run_bind, Go.Dk.run_underlying hu, Go.Dk.run_sizeOf hi, Builtin.lenOf, Sem.run_pure, hn, hf]
 | some a => simp [Sem.run_bind, Go.Dk.run_underlying hu, Go.Dk.run_sizeOf hi, Builtin.lenOf, Sem.run_pure, hn, hf, storeCells]
theorem Br {e : TypeId × SK} (hk : ct P t = some e) {v Y : Value} {n : Nat} {xs : List Value} (hown : (jr e.1 e.2.size v n xs).own w) (hv : ∃ a c, v = .slice a n c) {Z : bn} {D : SD} (hD : D.kind = e.2) (hY : RdS Z w D Y) (hroom : n + D.len ≤ 1099511627776) :
   ∃ v' w' ys, aH Z w D ys ∧ (Builtin.append_ #[t, t] ty #[v, Y]).run P w = .ok v' w' ∧ (jr e.1 e.2.size v' (n + D.len) (xs ++ ys)).own w' ∧ (∃ a c, v' = .slice a (n + D.len) c) ∧ Ext (jr e.1 e.2.size v n xs).foot w w' ∧
    ∀ k, (jr e.1 e.2.size v' (n + D.len) (xs ++ ys)).foot k → ((jr e.1 e.2.size v n xs).foot k ∨ w.heap.size ≤ k) ∧ k < w'.heap.size := by
 obtain ⟨hu, hke⟩ := fK hk
 obtain ⟨_, i, z, hi, hz, hsz, hzs, hby⟩ := fV hke
 have hpos := SK.size_pos e.2
 obtain ⟨a, c, hv⟩ := hv
 have hrow : n ≤ c ∧ (c = 0 → n = 0 ∧ xs = []) ∧ (c ≠ 0 → w.ownsRow 0 e.1 e.2.size v n xs ∧ ∀ k, (jr e.1 e.2.size v n xs).foot k ↔ v.ownBlock = some k) := by
  subst hv
  by_cases hc : c = 0
  ·subst hc
   rw [fI] at hown
   exact ⟨by rw [hown.1]; exact Nat.zero_le _, fun _ => ⟨hown.1, hown.2.1⟩, fun h => absurd rfl h⟩
  ·rw [eR hc] at hown
   have h1 : w.ownsRow 0 e.1 e.2.size (.slice a n c) n xs := hown
   refine ⟨?_, fun h => absurd h hc, fun _ => ⟨h1, fun k => by rw [eR hc]; rfl⟩⟩
   rcases h1.2 with ⟨h2, h3⟩ | ⟨g, cap, cur, h2, _, _, hn, _⟩
   ·rw [h3]; exact Nat.zero_le _
   ·injection h2 with _ _ h5; omega
 obtain ⟨hnc, hzero, hpos'⟩ := hrow
 by_cases h0 : D.len = 0
 ·have hY' : ∃ a' c', Y = .slice a' 0 c' := by obtain ⟨a', c', ys, hY, _⟩ := hY; exact ⟨a', c', by rw [hY, h0]⟩
  obtain ⟨a', c', ys, hYe, _, he, _⟩ := hY
  have hys : ys = [] := List.eq_nil_of_length_eq_zero (by rw [he.length, h0, Nat.zero_mul])
  subst hys
  refine ⟨v, w, [], he, ?_, by rw [h0, Nat.add_zero, List.append_nil]; exact hown, ⟨a, c, by rw [h0, Nat.add_zero]; exact hv⟩, Ext.refl _ _, fun k hk => ?_⟩
  ·rw [hv]; exact nR hu hi hY' hnc
  ·rw [h0, Nat.add_zero, List.append_nil] at hk
   refine ⟨.inl hk, ?_⟩
   by_cases hc : c = 0
   ·subst hc; subst hv; rw [fI] at hk; exact hk.elim
   ·obtain ⟨h1, h2⟩ := hpos' hc
    exact (h1.lt k ((h2 k).1 hk)).2
 ·obtain ⟨bb, off, c', ys, rfl, he, hc⟩ := hY.ne (by omega)
  have hl : ys.length = D.len * e.2.size := by rw [he.length, hD]
  have hnews : ∀ j u, ys[j]? = some u → w.cell? (Addr.add ⟨bb, off, none⟩ j) = some u := fun j u hj => by rw [ji]; exact hc j u hj
  have hone := Bf he
  have hbytes : (n + D.len) * i.bytes ≤ 140737488355328 := by
   have : (n + D.len) * i.bytes ≤ 1099511627776 * 64 := Nat.mul_le_mul hroom hby
   omega
  have hap : P.underlying t = some (.slice e.1) ∧ ∃ i' z', P.info? e.1 = some i' ∧ i'.zero = some z' ∧ i'.size = e.2.size ∧ i'.bytes = i.bytes ∧ z'.cells.size = e.2.size ∧ 0 < e.2.size := ⟨hu, i, z, hi, hz, hsz, rfl, hzs, hpos⟩
  have fin : ∀ v' w', (Builtin.append_ #[t, t] ty #[v, .slice (some ⟨bb, off, none⟩) D.len c']).run P w = .ok v' w' → w'.ownsRow 0 e.1 e.2.size v' (n + D.len) (xs ++ ys) → Ext (jr e.1 e.2.size v n xs).foot w w' →
     (∀ b, v'.ownBlock = some b → (jr e.1 e.2.size v n xs).foot b ∨ w.heap.size ≤ b) →
     ∃ v' w' ys', aH Z w D ys' ∧ (Builtin.append_ #[t, t] ty #[v, .slice (some ⟨bb, off, none⟩) D.len c']).run P w = .ok v' w' ∧ (jr e.1 e.2.size v' (n + D.len) (xs ++ ys')).own w' ∧ (∃ a c, v' = .slice a (n + D.len) c) ∧ Ext (jr e.1 e.2.size v n xs).foot w w' ∧
      ∀ k, (jr e.1 e.2.size v' (n + D.len) (xs ++ ys')).foot k → ((jr e.1 e.2.size v n xs).foot k ∨ w.heap.size ≤ k) ∧ k < w'.heap.size := by
   intro v' w' hr ho hx hf
   have ho' := ho
   rcases ho.2 with ⟨_, h3⟩ | ⟨g, cap, cur, h2, _, _, hn, _⟩
   ·omega
   ·refine ⟨v', w', ys, he, hr, ?_, ⟨_, cap, h2⟩, hx, ?_⟩
    ·rw [h2, eR (by omega)]; rw [h2] at ho'; exact ho'
    ·rw [h2, eR (by omega)]
     intro k hk
     rw [h2] at hf ho'
     exact ⟨hf k hk, (ho'.lt k hk).2⟩
  by_cases hc0 : c = 0
  ·obtain ⟨rfl, rfl⟩ := hzero hc0
   subst hc0
   have hfoot : ∀ k, ¬ (jr e.1 e.2.size v 0 []).foot k := by subst hv; rw [fI]; exact fun k h => h
   cases a with
   | none =>
    obtain ⟨v', w', hr, ho, hg, hf⟩ := jB (P := P) w t ty hap v 0 [] (by rw [hv]; exact World.ownsRow_nil w 0 e.1 e.2.size) ⟨bb, off, none⟩ D.len c' ys hl hnews (fun u hu => hone u hu) hbytes (by omega)
    refine fin v' w' hr ho ((nS hg).jP fun k _ hk => ?_) fun b hb => .inr ?_
    ·rw [hv] at hk; cases hk
    ·rcases hf b hb with h | h
     ·rw [hv] at h; cases h
     ·exact h
   | some ad =>
    obtain ⟨v', w', hr, ho, hg⟩ := run_append_arg_grows (P := P) w t ty e.1 i z e.2.size i.bytes hu hi hz hsz rfl hzs hpos ad 0 0 [] (by simp) (fun j u hj => by simp at hj) ⟨bb, off, none⟩ D.len c' ys hl hnews (by omega) (by simp only [maxLen]; omega) hbytes
    rw [← hv] at hr
    refine fin v' w' hr ⟨ho.1, ho.2.imp id fun ⟨g, cap, cur, h1, h2, h3⟩ => ⟨g, cap, cur, h1, Nat.zero_le _, h3⟩⟩ ⟨hg.os, hg.tape, hg.output, hg.size, fun k hk _ => hg.block k hk nofun⟩ fun b hb => .inr (ho.lt b hb).1
  ·obtain ⟨h1, h2⟩ := hpos' hc0
   obtain ⟨v', w', hr, ho, hg, hf⟩ := jB (P := P) w t ty hap v n xs h1 ⟨bb, off, none⟩ D.len c' ys hl hnews (fun u hu => hone u hu) hbytes (by omega)
   exact fin v' w' hr ho ((nS hg).jP fun k _ hk => (h2 k).2 hk) fun b hb => (hf b hb).imp (h2 b).2 id
theorem Dh {Z : bn} {D D' : SD} {xs ys : List Value} {k : SD → OR} (h1 : aH Z w D xs) (h2 : aH Z w D' ys) (h : D.app D' k = some r) : ∃ D'', k D'' = some r ∧ aH Z w D'' (xs ++ ys) ∧ D''.len = D.len + D'.len ∧ D''.kind = D.kind := by
 unfold SD.app at h
 split at h
 ·obtain ⟨hs, rfl, rfl, hr⟩ := h1
  obtain ⟨hs', rfl, rfl, hr'⟩ := h2
  exact ⟨_, h, ⟨hs ++ hs', by simp, by rw [mq], fun u hu => (List.mem_append.1 hu).elim (hr u) (hr' u)⟩, by simp [SD.len], rfl⟩
 ·simp only [aH] at h1 h2; subst h1 h2; exact ⟨_, h, by simp [aH], by simp [SD.len], rfl⟩
 ·exact ⟨_, h, aw.append h1 h2, by simp [SD.len], rfl⟩
 ·simp only [aH] at h1 h2; subst h1 h2; exact ⟨_, h, by simp [aH], by simp [SD.len], rfl⟩
 ·simp only [aH] at h1 h2; subst h1 h2; exact ⟨_, h, by simp [aH], by simp [SD.len], rfl⟩
 ·cases h
theorem o5 (hI : bp w0 M Z0 b G s tv w) (hb : b < G.length) {k : SV → List au → OR} (hx : RV G (zn w0 Z0 s G) w vx (ρ x)) (hy : RV G (zn w0 Z0 s G) w vy (ρ y)) (h : kL P t vx vy s.heap b k = some r) :
   ∃ v h' G' w' X, k v h' = some r ∧ (execOp ρ ⟨d, .call ⟨.builtin .append, #[x, y], #[t, t]⟩, ty, pos, aft, gd⟩).run P w = .ok (.value X) w' ∧ bp w0 M Z0 (b + 1) G' ⟨s.tmps, h'⟩ tv w' ∧ cO G' (zn w0 Z0 ⟨s.tmps, h'⟩ G') w' v X ∧ h'.length = s.heap.length ∧ Up G G' := by
 unfold kL at h
 split at h
 ·cases h
 ·rename_i e hk
  split at h
  ·replace h := jN hI hy.1 h; obtain ⟨D, h, hrd⟩ := h
   replace h := ar h; obtain ⟨hek, h⟩ := h
   have hek := SK.beq_eq hek
   split at h
   ·rename_i j v
    split at h
    ·rename_i e' D0 ver hj
     replace h := ar h; obtain ⟨hc, h⟩ := h
     simp only [Bool.and_eq_true, Nat.beq_eq] at hc
     obtain ⟨hv, he'⟩ := hc
     obtain ⟨val, xs, hg, hel, hval, hown⟩ := hI.row hj
     have hX := iK hx.1 hg hv
     have happ : ∀ ys, aH (zn w0 Z0 s G) w D ys → ∃ D'', (cond (cr D''.len) (k (.own j (ver + 1)) (s.heap.set j (.arr e' D'' (ver + 1) false))) none) = some r ∧ aH (zn w0 Z0 s G) w D'' (xs ++ ys) ∧ D''.len = D0.len + D.len ∧ D''.kind = D0.kind := fun ys hys => Dh hel hys h
     have hrd' := hrd
     obtain ⟨a', c', ys0, _, _, hel0, _⟩ := hrd
     obtain ⟨D1, h1, _, hl1, hk1⟩ := happ ys0 hel0
     have hkk : D0.kind = e.2 := by
      cases D0 <;> cases D <;> first | exact hek.symm | (simp [SD.app] at h)
     have hroom : D0.len + D.len ≤ 1099511627776 := by
      have := (ar h1).1
      simp only [cr, decide_eq_true_eq] at this
      omega
     obtain ⟨v', w', ys, hys, hr, hown', hval', hext, hfoot⟩ := Br (P := P) (t := t) (ty := ty) (w := w) (v := val) (n := D0.len) (xs := xs) hk (by rw [he', ← hkk]; exact hown) hval hek.symm hrd' hroom
     obtain ⟨D'', h2, hel'', hl'', hk''⟩ := happ ys hys
     have h2' := (ar h2).2
     have hup : Up G (G.set j (.arr (ver + 1) v' D0.kind.size (xs ++ ys))) := Up.set fun g0 h0 => by rw [hg] at h0; obtain rfl := Option.some.inj h0; exact ⟨rfl, .inl (Nat.lt_succ_self _)⟩
     have hu := hI.AL (o' := .arr e' D'' (ver + 1) false) (g' := .arr (ver + 1) v' D0.kind.size (xs ++ ys)) (q := jr e' D0.kind.size val D0.len xs) (q' := jr e' D0.kind.size v' D''.len (xs ++ ys)) hj hg nofun rfl
      (by rw [← he', hkk]; exact hext) rfl (by rw [← he', hkk, hl'']; exact hown') (by rw [← he', hkk, hl'']; exact hfoot) hup
      (fun Z' hk => ⟨rfl, hk''.symm ▸ rfl, hel''.aN hk, by rw [hl'']; exact hval'⟩)
     refine ⟨_, _, _, w', v', h2', nE hX rfl hr, hu.1.raise (Nat.le_succ _), ⟨.inr ⟨ver + 1, v', D0.kind.size, xs ++ ys, by simp [aD hg], Nat.le_refl _, fun _ => rfl⟩, ?_⟩, by simp, hup⟩
     obtain ⟨a, c, rfl⟩ := hval'; rfl
    ·cases h
   ·replace h := ar h; obtain ⟨hroom, h⟩ := h
    simp only [cr, decide_eq_true_eq] at hroom
    obtain ⟨a, hX⟩ := hx.1
    obtain ⟨v', w', ys, hys, hr, hown', hval', hext, hfoot⟩ := Br (P := P) (t := t) (ty := ty) (w := w) (v := .slice a 0 0) (n := 0) (xs := []) hk (by rw [fI]; exact ⟨rfl, rfl, rfl⟩) ⟨a, 0, rfl⟩ hek.symm hrd (by omega)
    rw [fI] at hext hfoot
    simp only [Nat.zero_add, List.nil_append] at hown' hval' hfoot
    have hnew := CL (e := e.1) (b := b) hI hb (hext.jP fun _ _ h => h) hys hval' ⟨by rw [← hek]; exact hown', fun k hk => by rw [← hek] at hk; exact ⟨(hfoot k hk).1.resolve_left id, (hfoot k hk).2⟩⟩
    exact ⟨_, _, _, w', v', h, nE hX rfl hr, hnew.1, hnew.2.1, by simp, hnew.2.2⟩
   ·cases h
  ·cases h
theorem oV (n : Nat) (t : HT) : fM (List.replicate n t) = (List.replicate n [.int .i64 t.k, .int .i64 t.n, t.sl]).flatten := by
 induction n with
 | zero => rfl
 | succ n ih => rw [List.replicate_succ, bM, ih, List.replicate_succ, List.flatten_cons]; rfl
theorem jJ {α : Type} (n : Nat) (a : α) : (List.replicate n [a]).flatten = List.replicate n a := by
 induction n with
 | zero => rfl
 | succ n ih => rw [List.replicate_succ, List.flatten_cons, ih, List.replicate_succ]; rfl
theorem wE {Z : bn} {e : TypeId} {k : SK} {n : Nat} {D : SD} (hz : C4 P e k = true) (h : Ac n k = some D) : ∃ zs, mC P e = some zs ∧ zs.length = k.size ∧ aH Z w D (List.replicate n zs).flatten ∧ D.len = n ∧ D.kind = k := by
 unfold C4 at hz
 split at hz
 ·rename_i h1
  simp only [Bool.and_eq_true, decide_eq_true_eq] at hz
  obtain ⟨rfl, rfl⟩ := hz
  simp only [Ac, Option.some.injEq] at h; subst h
  refine ⟨_, h1, rfl, ⟨List.replicate n (.mk 0 0 none 0 []), by simp [HT.er, HT.erL], ?_, fun u hu => ?_⟩, by simp [SD.len], rfl⟩
  ·rw [oV]; rfl
  ·rw [(List.mem_replicate.1 hu).2]; exact Hi
 ·rename_i h1
  simp only [decide_eq_true_eq] at hz; subst hz
  simp only [Ac, Option.some.injEq] at h; subst h
  exact ⟨_, h1, rfl, by simp [aH, jJ], by simp [SD.len], rfl⟩
 ·rename_i h1
  simp only [decide_eq_true_eq] at hz; subst hz
  simp only [Ac, Option.some.injEq] at h; subst h
  exact ⟨_, h1, rfl, by simp [aH, jJ], by simp [SD.len], rfl⟩
 ·rename_i h1
  simp only [decide_eq_true_eq] at hz; subst hz
  simp only [Ac, Option.some.injEq] at h; subst h
  exact ⟨_, h1, rfl, by simp [aH, jJ], by simp [SD.len], rfl⟩
 ·cases hz
theorem th (hI : bp w0 M Z0 b G s tv w) (hb : b < G.length) {k : SV → List au → OR} (hx : RV G (zn w0 Z0 s G) w vx (ρ x)) (hy : RV G (zn w0 Z0 s G) w vy (ρ y)) (h : qn P t vx vy s.heap b k = some r) :
   ∃ v h' G' w' X, k v h' = some r ∧ (execOp ρ ⟨d, .makeSlice t x y, ty, pos, aft, gd⟩).run P w = .ok (.value X) w' ∧ bp w0 M Z0 (b + 1) G' ⟨s.tmps, h'⟩ tv w' ∧ cO G' (zn w0 Z0 ⟨s.tmps, h'⟩ G') w' v X ∧ h'.length = s.heap.length ∧ Up G G' := by
 unfold qn at h
 replace h := bN h hx; obtain ⟨n, hX, h⟩ := h
 replace h := bN h hy; obtain ⟨m, hY, h⟩ := h
 replace h := ar h; obtain ⟨hc, h⟩ := h
 simp only [Bool.and_eq_true, decide_eq_true_eq] at hc
 obtain ⟨rfl, hn0, hn⟩ := hc
 split at h
 ·rename_i e hk
  replace h := ar h; obtain ⟨hz, h⟩ := h
  replace h := bind_some h; obtain ⟨D, hD, h⟩ := h
  obtain ⟨zs, hzb, hzl, hel, hDl, hDk⟩ := wE (Z := zn w0 Z0 s G) (w := w) hz hD
  obtain ⟨hu, hke⟩ := fK hk
  obtain ⟨_, i, z, hi, hiz, hsz, hzs, hby⟩ := fV hke
  have hzz := hzb
  unfold mC at hzz
  simp only [hi, hiz, Option.some.injEq] at hzz
  have hs3 := @yd e.1 e.2
  have hpos := SK.size_pos e.2
  have hr := run_makeSlice (P := P) w t e.1 i z hu hi hiz .i64 .i64 n n (by omega) (by omega) (by
     rw [hsz]
     have := Nat.mul_le_mul (show n.toNat ≤ 4194304 by omega) hs3
     omega) (by
     have : (i.bytes : Int) * n ≤ 64 * 4194304 := Int.mul_le_mul (by omega) (by omega) (by omega) (by omega)
     omega) (by omega)
  have hcs : madeCells z.cells (n.toNat * i.size) = ((List.replicate n.toNat zs).flatten).toArray := by
   apply Array.toList_inj.1
   rw [← F4, hzl, hsz, ← hzz]
  have hlen := hel.length
  rw [hDk] at hlen
  have hnew := CL (e := e.1) (b := b) hI hb (sP.alloc w (.cells ((List.replicate n.toNat zs).flatten).toArray e.1 (0, 0))) hel ⟨some ⟨w.heap.size, 0, none⟩, n.toNat, by rw [hDl]⟩ (by
   rw [hDk, hDl]
   exact B6 (by rw [hDl] at hlen; exact hlen) (by simp only [maxLen]; omega))
  refine ⟨_, _, _, _, _, h, ?_, hnew.1, hnew.2.1, by simp, hnew.2.2⟩
  rw [hcs] at hr
  simp only [execOp, hX, hY, Sem.run_bind, hr, Result.andThen_ok, Sem.run_pure]
 ·cases h
theorem pI {Z : bn} {pl : List (Nat × Nat)} : ∀ {ps : List (Nat × AV)} {Xs : List Value} {z : List SV} {zs : List Value} {c : List SV}, aw (cO G Z w) z zs → aw (fun (p : Nat × AV) X => RV G Z w p.2 X) ps Xs → u4 pl z ps = some c →
   ∃ cs : List Value, Instr.fill (pl.toArray[·]?) zs.toArray ((ps.map (·.1)).zip Xs) = some cs.toArray ∧ aw (cO G Z w) c cs
 | [], Xs, z, zs, c, hz, ha, h => by
  obtain rfl := ha.a0
  simp only [u4, Option.some.injEq] at h; subst h
  exact ⟨zs, rfl, hz⟩
 | p :: ps, Xs, z, zs, c, hz, ha, h => by
  obtain ⟨X, Xs', rfl, h1, h2⟩ := ha.cons_inv
  simp only [u4] at h
  cases hpl : pl[p.1]? with
  | none => simp [hpl] at h
  | some o =>
   cases hcs : p.2.cs with
   | none => simp [hpl, hcs] at h
   | some cc =>
    simp only [hpl, hcs, Option.bind_some] at h
    cases hb : (Nat.beq cc.length o.2 && Nat.ble (o.1 + o.2) z.length) with
    | false => simp [hb] at h
    | true =>
     simp only [hb, cond_true] at h
     simp only [Bool.and_eq_true, Nat.beq_eq, Nat.ble_eq] at hb
     obtain ⟨xs, hx, hr⟩ := m5 hcs h1
     obtain ⟨cs, hf, hc⟩ := pI (wi (off := o.1) hz hr) h2 h
     refine ⟨cs, ?_, hc⟩
     have hsz : X.cells.size = o.2 := by rw [hx, List.size_toArray, ← hr.1, hb.1]
     have hpl' : pl.toArray[p.1]? = some (o.1, o.2) := by simpa using hpl
     simp only [List.map_cons, List.zip_cons_cons, Instr.fill, hpl']
     rw [if_neg (by rw [hsz]; simp [← hz.1]; omega)]
     have hfold : (X.cells.zipIdx.foldl (fun cs (p : Value × Nat) => cs.setIfInBounds (o.1 + p.2) p.1) zs.toArray) = (iF zs o.1 xs).toArray := by
      apply Array.toList_inj.1
      have := uD xs 0 o.1 zs.toArray
      simp only [Nat.add_zero] at this
      rw [← this, hx, ← Array.foldl_toList]
      simp
     rw [hfold]; exact hf
theorem sI {Z : bn} {ps : Array (Nat × Operand)} {ρa : Operand → AV} {k : AV → OR} (hρ : ∀ x, RV G Z w (ρa x) (ρ x)) (h : sx P t (ps.toList.map fun p => (p.1, ρa p.2)) k = some r) :
   ∃ v X, k v = some r ∧ (execOp ρ ⟨d, .build t ps, ty, pos, aft, gd⟩).run P w = .ok (.value X) w ∧ RV G Z w v X := by
 unfold sx at h
 replace h := bind_some h; obtain ⟨pl, hpl, h⟩ := h
 replace h := bind_some h; obtain ⟨z, hz, h⟩ := h
 replace h := bind_some h; obtain ⟨c, hc, h⟩ := h
 obtain ⟨zs, hzb, hzr⟩ := uW hz
 obtain ⟨cs, hf, hcr⟩ := pI (G := G) (Z := Z) (w := w) (Xs := ps.toList.map fun p => ρ p.2) (hzr G Z w) ⟨by simp, fun i a c ha hc => by
  rw [List.getElem?_map] at ha hc
  obtain ⟨p, hp, rfl⟩ := Option.map_eq_some_iff.1 ha
  rw [hp] at hc
  obtain rfl := Option.some.inj hc
  exact hρ p.2⟩ hc
 refine ⟨_, .agg cs.toArray, h, ?_, cs, rfl, hcr⟩
 have hb : P.built t ((ps.map fun p => (p.1, ρ p.2)).toList) = some cs.toArray := by
  unfold mC at hzb
  split at hzb
  ·rename_i i hi
   split at hzb
   ·rename_i zz hzz
    obtain rfl := Option.some.inj hzb
    unfold De at hpl
    split at hpl
    ·rename_i fs hu
     unfold Program.built
     simp only [hi, hu, hzz, hpl]
     rw [← hf]
     congr 1
     ·have : ∀ l : List (Nat × Operand), (l.map fun p => (p.1, ρ p.2)) = ((l.map fun p => (p.1, ρa p.2)).map (·.1)).zip (l.map fun p => ρ p.2) := by
        intro l
        induction l with
        | nil => rfl
        | cons p l ih => simp only [List.map_cons, List.zip_cons_cons, ih]
      rw [← this]; simp
    ·cases hpl
   ·cases hzb
  ·cases hzb
 simp only [execOp, Sem.run_bind, Go.run_build w t _ _ hb, Result.andThen_ok, Sem.run_pure]
theorem xJ {D : SD} {lo hi : Nat} (h : lo ≤ hi) (h2 : hi ≤ D.len) : (D.sub lo hi).len = hi - lo := by
 cases D <;> simp [SD.sub, SD.len] at * <;> omega
theorem AD (n : Nat) : ∀ hs : List HT, (fM hs).take (n * 3) = fM (hs.take n) := by
 induction n with
 | zero => intro hs; simp [fZ]
 | succ n ih =>
  intro hs
  cases hs with
  | nil => simp [fZ]
  | cons t hs => rw [bM, List.take_succ_cons, bM, ← ih]; rw [show (n + 1) * 3 = n * 3 + 1 + 1 + 1 by omega]; rfl
theorem Av (n : Nat) : ∀ hs : List HT, (fM hs).drop (n * 3) = fM (hs.drop n) := by
 induction n with
 | zero => intro hs; simp
 | succ n ih =>
  intro hs
  cases hs with
  | nil => simp [fZ]
  | cons t hs => rw [bM, List.drop_succ_cons, ← ih]; rw [show (n + 1) * 3 = n * 3 + 1 + 1 + 1 by omega]; rfl
theorem Cn {Z : bn} {D : SD} {xs : List Value} (h : aH Z w D xs) (lo hi : Nat) : aH Z w (D.sub lo hi) ((xs.take (hi * D.kind.size)).drop (lo * D.kind.size)) := by
 cases D with
 | ts l =>
  obtain ⟨hs, rfl, rfl, hr⟩ := h
  refine ⟨(hs.take hi).drop lo, by rw [List.map_drop, List.map_take], ?_, fun t ht => hr t (List.mem_of_mem_take (List.mem_of_mem_drop ht))⟩
  simp only [SD.kind, SK.size]
  rw [AD, Av]
 | is l => simp only [aH] at h; subst h; simp [aH, SD.sub, SD.kind, SK.size, List.map_take, List.map_drop]
 | iss l => simp only [SD.kind, SK.size, Nat.mul_one]; exact (aw.take h hi).drop lo
 | ss l => simp only [aH] at h; subst h; simp [aH, SD.sub, SD.kind, SK.size, List.map_take, List.map_drop]
 | bs l => simp only [aH] at h; subst h; simp [aH, SD.sub, SD.kind, SK.size, List.map_take, List.map_drop]
theorem qd {o : Option (TypeId × SK)} {k : SK} (h : eZ.kindEq o k = true) : ∃ e, o = some (e, k) := by
 cases o with
 | none => cases h
 | some a => have := SK.beq_eq h; exact ⟨a.1, by rw [← this]⟩
theorem ud {Z : bn} {lo : Option Operand} {ρa : Operand → AV} {v : AV} (hρ : ∀ x, RV G Z w (ρa x) (ρ x)) (h : lo.map ρa = some v) : ∃ X, lo.map ρ = some X ∧ RV G Z w v X := by
 cases lo with
 | none => cases h
 | some x => obtain rfl := Option.some.inj h; exact ⟨_, rfl, hρ x⟩
theorem mi {Z : bn} {lo hi : Option Operand} {ρa : Operand → AV} {n : Nat} {k : Int → Int → OR} (hρ : ∀ x, RV G Z w (ρa x) (ρ x)) (h : eZ.bounds (lo.map ρa) (hi.map ρa) n k = some r) :
   ∃ l m : Int, k l m = some r ∧ 0 ≤ l ∧ l ≤ m ∧ m ≤ n ∧ (∀ sl cap : Nat, n ≤ cap → ∀ b, (Instr.sliceBounds b n cap (lo.map ρ) (hi.map ρ) none).run P w = .ok (l.toNat, m.toNat, cap) w) := by
 unfold eZ.bounds at h
 split at h
 ·rename_i h1 h2
  have h1 : lo = none := by cases lo <;> simp_all
  have h2 : hi = none := by cases hi <;> simp_all
  subst h1 h2
  refine ⟨0, n, h, Int.le_refl _, by omega, Int.le_refl _, fun _ cap hc b => ?_⟩
  simp [Instr.sliceBounds, Sem.run_bind, Sem.run_pure]
 ·rename_i h1 h2
  have h2 : hi = none := by cases hi <;> simp_all
  subst h2
  obtain ⟨X, hX, hr⟩ := ud hρ h1
  replace h := bN h hr; obtain ⟨l, rfl, h⟩ := h
  replace h := ar h; obtain ⟨hc, h⟩ := h
  simp only [inB, Bool.and_eq_true, decide_eq_true_eq] at hc
  refine ⟨l, n, h, hc.1, hc.2.1, hc.2.2, fun _ cap hcap b => ?_⟩
  have hb : 0 ≤ l ∧ l ≤ (n : Int) := ⟨hc.1, hc.2.1⟩
  simp [Instr.sliceBounds, hX, Instr.sliceBound, asIntOf, Sem.run_bind, Sem.run_pure, hb]
 ·rename_i h1 h2
  have h1 : lo = none := by cases lo <;> simp_all
  subst h1
  obtain ⟨X, hX, hr⟩ := ud hρ h2
  replace h := bN h hr; obtain ⟨m, rfl, h⟩ := h
  replace h := ar h; obtain ⟨hc, h⟩ := h
  simp only [inB, Bool.and_eq_true, decide_eq_true_eq] at hc
  refine ⟨0, m, h, Int.le_refl _, hc.2.1, hc.2.2, fun _ cap hcap b => ?_⟩
  have hb : 0 ≤ m ∧ m ≤ (cap : Int) := ⟨hc.2.1, by omega⟩
  simp [Instr.sliceBounds, hX, Instr.sliceBound, asIntOf, Sem.run_bind, Sem.run_pure, hb]
 ·rename_i h1 h2
  obtain ⟨X, hX, hr⟩ := ud hρ h1
  obtain ⟨Y, hY, hr2⟩ := ud hρ h2
  replace h := bN h hr; obtain ⟨l, rfl, h⟩ := h
  replace h := bN h hr2; obtain ⟨m, rfl, h⟩ := h
  replace h := ar h; obtain ⟨hc, h⟩ := h
  simp only [inB, Bool.and_eq_true, decide_eq_true_eq] at hc
  refine ⟨l, m, h, hc.1, hc.2.1, hc.2.2, fun _ cap hcap b => ?_⟩
  have hb : 0 ≤ m ∧ m ≤ (cap : Int) := ⟨by omega, by omega⟩
  have hb2 : 0 ≤ l ∧ l ≤ ((m.toNat : Nat) : Int) := ⟨hc.1, by omega⟩
  simp [Instr.sliceBounds, hX, hY, Instr.sliceBound, asIntOf, Sem.run_bind, Sem.run_pure, hb]
  intro hq; omega
theorem SlR.sub {Z : bn} {D : SD} {a : Option Addr} {n c : Nat} (h : SlR Z w D (.slice a n c)) {l m : Nat} (h1 : l ≤ m) (h2 : m ≤ n) : SlR Z w (D.sub l m) (.slice (if c = l then a else a.map (·.add (l * D.kind.size))) (m - l) (c - l)) := by
 obtain ⟨a', c', xs, hX, hc, hm, he, hb⟩ := h
 injection hX with e1 e2 e3
 subst e1 e2 e3
 refine ⟨_, _, _, by rw [xJ h1 h2], by rw [xJ h1 h2]; omega, by rw [xJ h1 h2]; omega, Cn he l m, ?_⟩
 rcases hb with rfl | ⟨bb, off, rfl, hz, hc'⟩
 ·left; simp
 ·by_cases hcl : c = l
  ·left
   have : m = l := by omega
   subst this
   apply List.drop_eq_nil_of_le
   rw [List.length_take]; exact Nat.min_le_left _ _
  ·right
   refine ⟨bb, off + l * D.kind.size, by rw [if_neg hcl]; simp [ji], hz, fun i x hx => ?_⟩
   rw [List.getElem?_drop, List.getElem?_take] at hx
   split at hx
   ·rw [Nat.add_assoc]; exact hc' _ x hx
   ·cases hx
theorem sG (hI : bp w0 M Z0 b G s tv w) {lo hi mx : Option Operand} {ρa : Operand → AV} {k : SV → List au → OR} (hρ : ∀ x, RV G (zn w0 Z0 s G) w (ρa x) (ρ x)) (h : eZ P t (ρa x) (lo.map ρa) (hi.map ρa) (mx.map ρa) s.heap k = some r) :
   ∃ v h' X, k v h' = some r ∧ (execOp ρ ⟨d, .slice t x lo hi mx, ty, pos, aft, gd⟩).run P w = .ok (.value X) w ∧ dj w0 M Z0 b G s tv w h' ∧ cO G (zn w0 Z0 ⟨s.tmps, h'⟩ G) w v X := by
 have hx := hρ x
 unfold eZ at h
 split at h
 ·rename_i m0 hmx
  obtain ⟨MX, hMX, hrm⟩ := ud hρ hmx
  replace h := ar h; obtain ⟨hks, h⟩ := h
  have hne : ct P t ≠ none := by intro e; rw [e] at hks; cases hks
  replace h := bN h hrm; obtain ⟨m, rfl, h⟩ := h
  have fin : ∀ {kk : TypeId × SK} {n cap : Nat} {a : Option Addr}, ct P t = some kk → ρ x = .slice a n cap → ∀ n' : Int, hi.map ρ = some (.int .i64 n') → m = 0 → n' = 0 → (lo = none ∨ lo.map ρ = some (.int .i64 0)) →
     ∃ a', (execOp ρ ⟨d, .slice t x lo hi mx, ty, pos, aft, gd⟩).run P w = .ok (.value (.slice a' 0 0)) w := by
   intro kk n cap a hk hX n' hH hm hn hlo
   subst hm hn
   obtain ⟨hu, hke⟩ := fK hk
   obtain ⟨_, i, z, hi', hz, hsz, _, _⟩ := fV hke
   refine ⟨a, ?_⟩
   rcases hlo with rfl | hlo
   ·simp [execOp, Instr.sliceAt, Instr.slice, Sem.run_bind, Go.Dk.run_underlying hu, hX, hMX, hH, Instr.sliceBounds, Instr.sliceBound, asIntOf, Go.Dk.run_sizeOf hi', Sem.run_pure]
   ·simp [execOp, Instr.sliceAt, Instr.slice, Sem.run_bind, Go.Dk.run_underlying hu, hX, hMX, hH, hlo, Instr.sliceBounds, Instr.sliceBound, asIntOf, Go.Dk.run_sizeOf hi', Sem.run_pure]
  have body : ∀ n' : Int, hi.map ρ = some (.int .i64 n') → m = 0 → n' = 0 → (lo = none ∨ lo.map ρ = some (.int .i64 0)) → (match ρa x with
   | .v (.one (.fr d)) => cond (eZ.kindEq (ct P t) d.kind) (k (.emp (ct P t)) s.heap) none
   | .v (.one (.own j v)) => (match s.heap[j]? with
    | some (.arr _ d ver _) => cond (Nat.beq v ver && eZ.kindEq (ct P t) d.kind) (k (.emp (ct P t)) s.heap) none
    | _ => none)
   | .v (.one (.emp e)) => (k (.emp (ct P t)) s.heap)
   | _ => none) = some r → ct P t ≠ none →
    ∃ v h' X, k v h' = some r ∧ (execOp ρ ⟨d, .slice t x lo hi mx, ty, pos, aft, gd⟩).run P w = .ok (.value X) w ∧ dj w0 M Z0 b G s tv w h' ∧ cO G (zn w0 Z0 ⟨s.tmps, h'⟩ G) w v X := by
   intro n' hH hm hn hlo h hne
   split at h
   ·rename_i D hax
    rw [hax] at hx
    replace h := ar h; obtain ⟨hk, h⟩ := h
    obtain ⟨e, hk⟩ := qd hk
    obtain ⟨a, c, hX⟩ := SlR.val hx.1
    obtain ⟨a', hr⟩ := fin hk hX n' hH hm hn hlo
    exact ⟨_, _, _, h, hr, dj.refl hI, ⟨a', rfl⟩, rfl⟩
   ·rename_i j v hax
    rw [hax] at hx
    split at h
    ·rename_i D ver fz hj
     replace h := ar h; obtain ⟨hk, h⟩ := h
     simp only [Bool.and_eq_true, Nat.beq_eq] at hk
     obtain ⟨e, hk2⟩ := qd hk.2
     obtain ⟨val, xs, hg, a, c, ys, hval, _⟩ := hI.p6 hj
     obtain ⟨a', hr⟩ := fin hk2 ((iK hx.1 hg hk.1).trans hval) n' hH hm hn hlo
     exact ⟨_, _, _, h, hr, dj.refl hI, ⟨a', rfl⟩, rfl⟩
    ·cases h
   ·rename_i e hax
    rw [hax] at hx
    obtain ⟨a, hX⟩ := hx.1
    cases hk : ct P t with
    | none => exact absurd hk hne
    | some kk =>
     obtain ⟨a', hr⟩ := fin hk hX n' hH hm hn hlo
     exact ⟨_, _, _, h, hr, dj.refl hI, ⟨a', rfl⟩, rfl⟩
   ·cases h
  split at h
  ·rename_i H hhi hlo
   have hlo : lo = none := by cases lo <;> simp_all
   obtain ⟨HX, hHX, hrh⟩ := ud hρ hhi
   replace h := bN h hrh; obtain ⟨n', rfl, h⟩ := h
   replace h := ar h; obtain ⟨hc, h⟩ := h
   simp only [Bool.and_eq_true, decide_eq_true_eq] at hc
   exact body n' hHX hc.1 hc.2 (.inl hlo) h hne
  ·rename_i H L hhi hlo
   obtain ⟨HX, hHX, hrh⟩ := ud hρ hhi
   obtain ⟨LX, hLX, hrl⟩ := ud hρ hlo
   replace h := bN h hrh; obtain ⟨n', rfl, h⟩ := h
   replace h := bN h hrl; obtain ⟨l', rfl, h⟩ := h
   replace h := ar h; obtain ⟨hc, h⟩ := h
   simp only [Bool.and_eq_true, decide_eq_true_eq] at hc
   exact body n' hHX hc.1 hc.2.1 (.inr (by rw [hLX, hc.2.2])) h hne
  ·cases h
 ·rename_i hmx
  have hmx : mx = none := by cases mx <;> simp_all
  subst hmx
  split at h
  ·rename_i a hax
   rw [hax] at hx
   split at h
   ·rename_i hu
    obtain ⟨l, m, h', hl, hlm, hm, hb⟩ := mi (P := P) hρ h
    refine ⟨_, _, _, h', ?_, dj.refl hI, xw _⟩
    simp only [execOp, Instr.sliceAt, Instr.slice, Sem.run_bind, Go.Dk.run_underlying hu, Result.andThen_ok, lu hx, Option.map_none]
    simp [Sem.run_bind, hb 0 a.size (Nat.le_refl _) false, Sem.run_pure]
   ·cases h
  ·rename_i v hv hax
   rw [hax] at hx
   split at h
   ·rename_i e hk
    obtain ⟨hu, hke⟩ := fK hk
    obtain ⟨_, i, z, hi', hz, hsz, _, _⟩ := fV hke
    have hone : cO G (zn w0 Z0 s G) w v (ρ x) := by
     refine ⟨hx.1, hx.2 ?_⟩
     rintro rfl
     simp [mJ] at h
    replace h := jZ hI hone h; obtain ⟨v', h', h, hs, hv'⟩ := h
    split at h
    ·rename_i D
     replace h := ar h; obtain ⟨hek, h⟩ := h
     have hek := SK.beq_eq hek
     obtain ⟨l, m, h2, hl, hlm, hm, hb⟩ := mi (P := P) hρ h
     have hsl := hv'.1
     obtain ⟨a, c, xs, hX, hc, _⟩ := id hsl
     rw [hX] at hsl
     have hsub := SlR.sub hsl (l := l.toNat) (m := m.toNat) (by omega) (by omega)
     refine ⟨_, _, _, h2, ?_, hs, hsub, rfl⟩
     simp only [execOp, Instr.sliceAt, Instr.slice, Sem.run_bind, Go.Dk.run_underlying hu, Result.andThen_ok, hX, Option.map_none]
     simp [Sem.run_bind, hb 0 c hc true, Sem.run_pure, Go.Dk.run_sizeOf hi', hsz, hek]
    ·cases h
   ·cases h
  ·cases h
end
end Go.Ab
namespace Go.Ab
open Go Go.Dk
theorem aO {j : Nat} : ∀ {l : List Nat}, dh j l = true ↔ j ∈ l
 | [] => by simp [dh]
 | i :: l => by simp [dh, aO (l := l)]
theorem qv : ∀ {l : List Nat}, zc l = true → l.Nodup
 | [], _ => List.nodup_nil
 | i :: l, h => by
  simp only [zc, Bool.and_eq_true, Bool.not_eq_true'] at h
  refine List.nodup_cons.2 ⟨fun hm => ?_, qv h.2⟩
  rw [aO.2 hm] at h; exact absurd h.1 (by simp)
theorem rY {js : List Nat} {n : Nat} (h : DA js n = true) : js.Nodup ∧ ∀ j ∈ js, j < n := by
 simp only [DA, Bool.and_eq_true, List.all_eq_true, Nat.blt_eq] at h
 exact ⟨qv h.1, h.2⟩
theorem kP : ∀ {js : List Nat} {j i : Nat}, idx j js = some i → js[i]? = some j
 | [], j, i, h => by simp [idx] at h
 | a :: js, j, i, h => by
  simp only [idx] at h
  cases hb : Nat.beq j a with
  | true => simp only [hb, cond_true, Option.some.injEq] at h; subst h; simp only [Nat.beq_eq] at hb; subst hb; rfl
  | false =>
   simp only [hb, cond_false, Option.map_eq_some_iff] at h
   obtain ⟨i', hi, rfl⟩ := h
   simpa using kP hi
theorem tD : ∀ {js l l' : List Nat}, idxs js l = some l' → aw (fun j i => js[i]? = some j) l l'
 | js, [], l', h => by simp only [idxs, Option.some.injEq] at h; subst h; exact aw.nil
 | js, j :: l, l', h => by
  simp only [idxs] at h
  cases hi : idx j js with
  | none => simp [hi] at h
  | some i =>
   simp only [hi, Option.bind_some, Option.map_eq_some_iff] at h
   obtain ⟨l'', hl, rfl⟩ := h
   exact aw.cons (kP hi) (tD hl)
def vU (js : List Nat) (h : List au) : List au := js.map fun j => h.getD j .dead
def iG (js : List Nat) (G : List GO) : List GO := js.map fun j => G.getD j .gone
def kill : List Nat → List au → List au
 | [], h => h
 | j :: js, h => kill js (h.set j .dead)
def fW : List Nat → List GO → List GO
 | [], G => G
 | j :: js, G => fW js (G.set j .gone)
theorem Eh (js : List Nat) (o : au) (g : GO) : jC (IK js o) g = jC o g := by cases o <;> cases g <;> rfl
theorem mO (js : List Nat) : ∀ (h : List au) (G : List GO), aY (h.map (IK js)) G = aY h G
 | [], _ => rfl
 | o :: h, [] => rfl
 | o :: h, g :: G => by simp only [List.map_cons, aY, Eh, mO js h G]
theorem wD (js : List Nat) (h : List au) : tW js h = (vU js h).map (IK js) := by simp [tW, vU]
theorem getD_set_ne {α : Type} {l : List α} {i j : Nat} {a d : α} (h : i ≠ j) : (l.set i a).getD j d = l.getD j d := by simp [List.getD, List.getElem?_set_ne h]
theorem EA {js : List Nat} {h : List au} {j : Nat} {o : au} (hj : j ∉ js) : vU js (h.set j o) = vU js h := by
 refine List.map_congr_left fun i hi => getD_set_ne fun e => hj (e ▸ hi)
theorem DV {js : List Nat} {G : List GO} {j : Nat} {g : GO} (hj : j ∉ js) : iG js (G.set j g) = iG js G := by
 refine List.map_congr_left fun i hi => getD_set_ne fun e => hj (e ▸ hi)
theorem kg : ∀ (js : List Nat) (h : List au) (G : List GO), js.Nodup → (∀ j ∈ js, j < h.length ∧ j < G.length) → (aY h G).Perm (aY (vU js h) (iG js G) ++ aY (kill js h) (fW js G))
 | [], h, G, _, _ => List.Perm.refl _
 | j :: js, h, G, hn, hl => by
  rw [List.nodup_cons] at hn
  obtain ⟨h1, h2⟩ := hl j (List.mem_cons_self ..)
  have ho : h[j]? = some (h.getD j .dead) := by simp [List.getD, List.getElem?_eq_getElem h1]
  have hg : G[j]? = some (G.getD j .gone) := by simp [List.getD, List.getElem?_eq_getElem h2]
  refine (dz h G j ho hg).trans ?_
  have ih := kg js (h.set j .dead) (G.set j .gone) hn.2 (fun i hi => by simpa using hl i (List.mem_cons_of_mem _ hi))
  rw [EA hn.1, DV hn.1] at ih
  have := ih.append_left (jC (h.getD j .dead) (G.getD j .gone))
  rw [← List.append_assoc] at this
  exact this
section
variable {P : Program} {w0 w w' : World} {M Z0 : bn} {b : Nat} {G : List GO} {s : AS} {tv : List Value} {r : List V1 × List au} {Z : bn}
theorem dn {js : List Nat} {i j : Nat} {g : GO} (hi : js[i]? = some j) (hg : G[j]? = some g) : (iG js G)[i]? = some g := by
 simp [iG, hi, List.getD, hg]
theorem RS.ren {js : List Nat} {v : SV} {X : Value} (h : RS G Z w v X) : RS (iG js G) Z w (Hv js v) X := by
 cases v with
 | own j v =>
  show RS _ _ _ (match idx j js with | some i => SV.own i v | none => .any) X
  split
  ·rename_i i hi
   have hi := kP hi
   rcases h with h | ⟨ver, val, sz, xs, hg, hh⟩
   ·exact .inl (dn hi h)
   ·exact .inr ⟨ver, val, sz, xs, dn hi hg, hh⟩
  ·trivial
 | ptr j o =>
  show RS _ _ _ (match idx j js with | some i => SV.ptr i o | none => .any) X
  split
  ·rename_i i hi
   have hi := kP hi
   rcases h with h | ⟨bb, T, vs, hg, hh⟩
   ·exact .inl (dn hi h)
   ·exact .inr ⟨bb, T, vs, dn hi hg, hh⟩
  ·trivial
 | op j v i o =>
  show RS _ _ _ (match idx j js with | some j => SV.op j v i o | none => .any) X
  split
  ·rename_i i' hi
   have hi := kP hi
   rcases h with h | ⟨ver, val, sz, xs, hg, hh⟩
   ·exact .inl (dn hi h)
   ·exact .inr ⟨ver, val, sz, xs, dn hi hg, hh⟩
  ·trivial
 | fn f l =>
  show RS _ _ _ (match idxs js l with | some l => SV.fn f l | none => .any) X
  split
  ·rename_i l' hl
   have hl := tD hl
   obtain ⟨bs, hX, hh⟩ := h
   refine ⟨bs, hX, by rw [← hl.1, hh.1], fun i j bb hj hb => ?_⟩
   obtain ⟨j0, hj0, hji⟩ := hl.get' hj
   have := hh.2 i j0 bb hj0 hb
   rcases this with h1 | ⟨T, vs, h1⟩
   ·exact .inl (dn hji h1)
   ·exact .inr ⟨T, vs, dn hji h1⟩
  ·trivial
 | _ => exact h
theorem aw.eQ {α α' β : Type} {R : α → β → Prop} {S : α' → β → Prop} {f : α → α'} {l : List α} {m : List β} (h : aw R l m) (hf : ∀ a b, R a b → S (f a) b) : aw S (l.map f) m := by
 refine ⟨by simp [h.1], fun i a b ha hb => ?_⟩
 rw [List.getElem?_map] at ha
 obtain ⟨a', ha', rfl⟩ := Option.map_eq_some_iff.1 ha
 exact hf _ _ (h.2 i a' b ha' hb)
theorem cO.ren {js : List Nat} {v : SV} {X : Value} (h : cO G Z w v X) : cO (iG js G) Z w (Hv js v) X := ⟨h.1.ren, h.2⟩
theorem RV1.ren {js : List Nat} {v : V1} {X : Value} (h : RV1 G Z w v X) : RV1 (iG js G) Z w (Jo js v) X := by
 cases v with
 | one s => exact ⟨h.1.ren, fun _ => h.2 (by rintro rfl; simp_all [Hv])⟩
 | agg l => obtain ⟨xs, hX, hh⟩ := h; exact ⟨xs, hX, hh.eQ fun _ _ q => q.ren⟩
theorem RV.ren {js : List Nat} {v : AV} {X : Value} (h : RV G Z w v X) : RV (iG js G) Z w (JK js v) X := by
 cases v with
 | v v => exact RV1.ren h
 | tup l => obtain ⟨xs, hX, hh⟩ := h; exact ⟨xs, hX, hh.eQ fun _ _ q => q.ren⟩
theorem RO.ren {js : List Nat} {o : au} {g : GO} (h : RO G Z w o g) : RO (iG js G) Z w (IK js o) g := by
 cases o with
 | cells l => cases g with
  | cells bb T vs => exact aw.eQ h fun _ _ q => q.ren
  | _ => exact h
 | arr e D ver fz => cases g <;> exact h
 | dead => cases g <;> exact h
theorem FA {js : List Nat} {h : List au} (hh : aw (RO G Z w) h G) (hl : ∀ j ∈ js, j < h.length) : aw (RO (iG js G) Z w) (tW js h) (iG js G) := by
 refine ⟨by simp [tW, iG], fun i o g ho hg => ?_⟩
 simp only [tW, List.getElem?_map] at ho
 obtain ⟨j, hj, rfl⟩ := Option.map_eq_some_iff.1 ho
 simp only [iG, List.getElem?_map, hj, Option.map_some, Option.some.injEq] at hg
 subst hg
 have hjl := hl j (List.mem_of_getElem? hj)
 have h1 : h[j]? = some (h.getD j .dead) := by simp [List.getD, List.getElem?_eq_getElem hjl]
 obtain ⟨g, hg, hr⟩ := hh.get h1
 have : G.getD j .gone = g := by simp [List.getD, hg]
 rw [this]; exact hr.ren
theorem bp.sel (hI : bp w0 M Z0 b G s tv w) {js : List Nat} (hjs : DA js s.heap.length = true) :
   bp w0 M Z0 js.length (iG js G) ⟨s.tmps.map (JK js), tW js s.heap⟩ tv w := by
 obtain ⟨hn, hl⟩ := rY hjs
 have hlG : ∀ j ∈ js, j < s.heap.length ∧ j < G.length := fun j hj => ⟨hl j hj, by rw [← hI.len]; exact hl j hj⟩
 have hp := kg js s.heap G hn hlG
 have hs := (hI.st.perm hp).sub (List.sublist_append_left _ _)
 have heq : aY (tW js s.heap) (iG js G) = aY (vU js s.heap) (iG js G) := by rw [wD, mO]
 rw [← heq] at hs
 refine ⟨hs.jP (aS _ _ _) fun hh => ⟨hh.1.eQ fun _ _ q => q.ren, FA hh.2 hl⟩, fun j hj hl' => ?_, hI.mz⟩
 simp [iG] at hl'; omega
def UpW (G G' : List GO) : Prop := ∀ (j : Nat),
 (G[j]? = some .gone → G'[j]? = some .gone) ∧
 (∀ b T vs, G[j]? = some (.cells b T vs) → G'[j]? = some .gone ∨ ∃ T' vs', G'[j]? = some (.cells b T' vs')) ∧
 (∀ ver val sz xs, G[j]? = some (.arr ver val sz xs) → G'[j]? = some .gone ∨ ∃ ver' val' xs', G'[j]? = some (.arr ver' val' sz xs'))
theorem Up.jP {G G' : List GO} (h : Up G G') : UpW G G' := fun j => ⟨(h j).1, (h j).2.1, fun ver val sz xs hg => ((h j).2.2 ver val sz xs hg).imp id fun ⟨a, c, d, e, _⟩ => ⟨a, c, d, e⟩⟩
theorem UpW.refl (G : List GO) : UpW G G := (Up.refl G).jP
theorem UpW.trans {G G' G'' : List GO} (h : UpW G G') (k : UpW G' G'') : UpW G G'' := by
 intro j
 refine ⟨fun hh => (k j).1 ((h j).1 hh), fun b T vs hh => ?_, fun ver val sz xs hh => ?_⟩
 ·rcases (h j).2.1 b T vs hh with h1 | ⟨T', vs', h1⟩
  ·exact .inl ((k j).1 h1)
  ·exact (k j).2.1 b T' vs' h1
 ·rcases (h j).2.2 ver val sz xs hh with h1 | ⟨ver', val', xs', h1⟩
  ·exact .inl ((k j).1 h1)
  ·exact (k j).2.2 ver' val' sz xs' h1
def dW (P : Program) (F : Callee) : Prop :=
 ∀ f fn args h out, P.funcs[f]? = some fn → fn.body.isSome = true → F f args h = some out →
  ∀ w0 M Z0 G vals w, bp w0 M Z0 h.length G ⟨args.map .v, h⟩ vals w →
   Calls P f vals.toArray w fun e w' => ∃ xs G', e = .returned (if h : xs.toArray.size = 1 then xs.toArray[0] else .tuple xs.toArray) ∧ bp w0 M Z0 out.2.length G' ⟨out.1.map .v, out.2⟩ xs w' ∧ UpW G G'
def la (L : List Res) : bn := fun k => ∃ q ∈ L, q.foot k
theorem bp.pass (hI : bp w0 M Z0 b G s tv w) {js : List Nat} (hjs : DA js s.heap.length = true) {vs : List V1} {xs : List Value} (hv : aw (RV1 G (zn w0 Z0 s G) w) vs xs) :
   bp w (la (aY (vU js s.heap) (iG js G))) (fun k => zn w0 Z0 s G k ∨ la (aY (vU js s.heap) (iG js G)) k) js.length (iG js G) ⟨(vs.map (Jo js)).map .v, tW js s.heap⟩ xs w := by
 obtain ⟨hn, hl⟩ := rY hjs
 have hlG : ∀ j ∈ js, j < s.heap.length ∧ j < G.length := fun j hj => ⟨hl j hj, by rw [← hI.len]; exact hl j hj⟩
 have hp := kg js s.heap G hn hlG
 have hs := (hI.st.perm hp).sub (List.sublist_append_left _ _)
 have heq : aY (tW js s.heap) (iG js G) = aY (vU js s.heap) (iG js G) := by rw [wD, mO]
 have hk : ∀ k, zn w0 Z0 s G k → jw w (fun k => zn w0 Z0 s G k ∨ la (aY (vU js s.heap) (iG js G)) k) (aY (tW js s.heap) (iG js G)) k := fun k hk =>
  ⟨.inl (.inl hk), fun q hq => hk.2 q (hp.mem_iff.2 (List.mem_append.2 (.inl (heq ▸ hq))))⟩
 refine ⟨⟨Ext.refl _ _, ?_, ?_, ?_, ?_, aS _ _ _, ?_⟩, ?_, fun k hk => .inr hk⟩
 ·rw [heq]; exact hs.own
 ·rw [heq]; exact hs.loc
 ·rw [heq]; exact fun q hq k hf => ⟨.inl ⟨q, hq, hf⟩, (hs.key q hq k hf).2⟩
 ·rw [heq]; exact hs.dis
 ·refine ⟨(hv.eQ fun _ _ q => (RV1.ren q).aN (aP hk)).eQ fun _ _ q => q, ?_⟩
  exact (FA hI.st.per.2 hl).mono fun _ _ _ q => q.aN (aP hk)
 ·intro j hj hl'
  simp [iG] at hl'; omega
theorem frame {L L1 L2 Lc : List Res} {φ φc : Fact} (hI : St w0 M Z0 L φ w) (hm : ∀ k, M k → Z0 k) (hp : L.Perm (L1 ++ L2)) (hc : St w (la L1) (fun k => jw w0 Z0 L k ∨ la L1 k) Lc φc w') :
   St w0 M Z0 (Lc ++ L2) (Kr φc φ) w' ∧ gF (jw w0 Z0 L) (jw w0 Z0 (Lc ++ L2)) w w' := by
 have hP := hI.perm hp
 have hd := List.pairwise_append.1 hP.dis
 have hx2 : ∀ q ∈ L2, ∀ k, q.foot k → ¬ la L1 k := fun q hq k hk ⟨p, hp', hf⟩ => hd.2.2 p hp' q hq k hf hk
 have key1 : ∀ q ∈ Lc, ∀ k, q.foot k → (M k ∨ w0.heap.size ≤ k) := by
  intro q hq k hk
  rcases (hc.key q hq k hk).1 with ⟨p, hp', hf⟩ | h
  ·exact (hP.key p (List.mem_append.2 (.inl hp')) k hf).1
  ·exact .inr (Nat.le_trans hI.ext.size h)
 have hkz : gF (jw w0 Z0 L) (jw w0 Z0 (Lc ++ L2)) w w' := by
  intro k hz hl
  have hn1 : ¬ la L1 k := fun ⟨p, hp', hf⟩ => hz.2 p (hp.mem_iff.2 (List.mem_append.2 (.inl hp'))) hf
  refine ⟨⟨hz.1, fun q hq hf => ?_⟩, hc.ext.block k hl hn1⟩
  rcases List.mem_append.1 hq with hq | hq
  ·rcases (hc.key q hq k hf).1 with h | h
   ·exact hn1 h
   ·omega
  ·exact hz.2 q (hp.mem_iff.2 (List.mem_append.2 (.inr hq))) hf
 refine ⟨⟨?_, ?_, ?_, ?_, ?_, hc.stab.and hI.stab, ?_, ?_⟩, hkz⟩
 ·refine ⟨hc.ext.os.trans hI.ext.os, hc.ext.tape.trans hI.ext.tape, hc.ext.output.trans hI.ext.output, Nat.le_trans hI.ext.size hc.ext.size, fun k hk hmk => ?_⟩
  rw [hc.ext.block k (Nat.lt_of_lt_of_le hk hI.ext.size) ?_, hI.ext.block k hk hmk]
  rintro ⟨p, hp', hf⟩
  rcases (hP.key p (List.mem_append.2 (.inl hp')) k hf).1 with h | h
  ·exact hmk h
  ·omega
 ·intro q hq
  rcases List.mem_append.1 hq with hq | hq
  ·exact hc.own q hq
  ·have hq' := List.mem_append.2 (Or.inr (a := q ∈ L1) hq)
   exact hP.loc q hq' w w' (fun k hk => hc.ext.block k (hP.key q hq' k hk).2 (hx2 q hq k hk)) (hP.own q hq')
 ·intro q hq
  rcases List.mem_append.1 hq with hq | hq
  ·exact hc.loc q hq
  ·exact hP.loc q (List.mem_append.2 (.inr hq))
 ·intro q hq k hk
  rcases List.mem_append.1 hq with hq | hq
  ·exact ⟨key1 q hq k hk, (hc.key q hq k hk).2⟩
  ·have := hP.key q (List.mem_append.2 (.inr hq)) k hk
   exact ⟨this.1, Nat.lt_of_lt_of_le this.2 hc.ext.size⟩
 ·refine List.pairwise_append.2 ⟨hc.dis, hd.2.1, fun q hq p hp' k hk hk' => ?_⟩
  rcases (hc.key q hq k hk).1 with h | h
  ·exact hx2 p hp' k hk' h
  ·have := (hP.key p (List.mem_append.2 (.inr hp')) k hk').2; omega
 ·refine hc.stab _ _ w' w' (fun k hz _ => ⟨⟨?_, fun q hq hf => ?_⟩, rfl⟩) hc.per
  ·rcases hz.1 with (h | ⟨p, hp', hf⟩) | h
   ·exact h.1
   ·exact (hP.key p (List.mem_append.2 (.inl hp')) k hf).1.imp (hm k) id
   ·exact .inr (Nat.le_trans hI.ext.size h)
  ·rcases List.mem_append.1 hq with hq | hq
   ·exact hz.2 q hq hf
   ·rcases hz.1 with (h | h) | h
    ·exact h.2 q (hp.mem_iff.2 (List.mem_append.2 (.inr hq))) hf
    ·exact hx2 q hq k hf h
    ·have := (hP.key q (List.mem_append.2 (.inr hq)) k hf).2; omega
 ·exact hI.stab _ _ w w' hkz hI.per
end
end Go.Ab
namespace Go.Ab
open Go Go.Dk
section
variable {P : Program} {w0 w w' : World} {M Z0 : bn} {b : Nat} {G : List GO} {s : AS} {tv : List Value} {r : List V1 × List au} {Z : bn}
theorem gA : ∀ {l : List V1} {s : AS} {xs : List Value} {k : List V1 → List au → OR}, bp w0 M Z0 b G s tv w → aw (RV1 G (zn w0 Z0 s G) w) l xs → jA s.heap l k = some r →
   ∃ l' h', k l' h' = some r ∧ dj w0 M Z0 b G s tv w h' ∧ aw (RV1 G (zn w0 Z0 ⟨s.tmps, h'⟩ G) w) l' xs
 | [], s, xs, k, hI, ha, h => by
  obtain rfl := ha.a0
  exact ⟨_, _, h, dj.refl hI, aw.nil⟩
 | v :: l, s, xs, k, hI, ha, h => by
  obtain ⟨X, xs', rfl, h1, h2⟩ := ha.cons_inv
  unfold jA at h
  split at h
  ·exact absurd ‹_ :: _ = []› (by simp)
  ·rename_i k' l0 e
   simp only [List.cons.injEq] at e
   obtain ⟨rfl, rfl⟩ := e
   obtain ⟨l', h', hk, hs, hl⟩ := gA hI h2 h
   exact ⟨_, _, hk, hs, aw.cons ⟨trivial, fun h => absurd rfl h⟩ hl⟩
  ·rename_i x l0 hne e
   simp only [List.cons.injEq] at e
   obtain ⟨rfl, rfl⟩ := e
   have hone : cO G (zn w0 Z0 s G) w x X := ⟨h1.1, h1.2 fun e => hne e⟩
   replace h := jZ hI hone h; obtain ⟨v', h1', h, hs, hv⟩ := h
   obtain ⟨l', h', hk, hs', hl⟩ := gA hs.inv (h2.mono fun _ _ _ q => q.aN (aP hs.le)) h
   exact ⟨_, _, hk, hs.trans hs', aw.cons ⟨hv.1.aN (aP hs'.le), fun _ => hv.2⟩ hl⟩
  ·rename_i c l0 e
   simp only [List.cons.injEq] at e
   obtain ⟨rfl, rfl⟩ := e
   obtain ⟨ys, hX, hc⟩ := h1
   replace h := fT hI hc h; obtain ⟨c', h1', h, hs, hv⟩ := h
   obtain ⟨l', h', hk, hs', hl⟩ := gA hs.inv (h2.mono fun _ _ _ q => q.aN (aP hs.le)) h
   exact ⟨_, _, hk, hs.trans hs', aw.cons ⟨ys, hX, hv.mono fun _ _ _ q => ⟨q.1.aN (aP hs'.le), q.2⟩⟩ hl⟩
def xI (v y : SV) : Prop := ∀ (G G' : List GO) (Z : bn) (w : World) (X : Value), cO G Z w v X → cO G' Z w y X
theorem Cq {a : IntKind} {l : List SV} {k : Int → List SV → OR} (h : aV a l k = some r) : ∃ n l', l = .int a n :: l' ∧ k n l' = some r := by
 unfold aV at h; split at h
 ·replace h := ar h; obtain ⟨ha, h⟩ := h; obtain rfl := rR ha; exact ⟨_, _, rfl, h⟩
 ·cases h
theorem zZ {l : List SV} {k : Bool → List SV → OR} (h : mB l k = some r) : ∃ n l', l = .bool n :: l' ∧ k n l' = some r := by
 unfold mB at h; split at h
 ·exact ⟨_, _, rfl, h⟩
 ·cases h
theorem CX {l : List SV} {k : ByteArray → List SV → OR} (h : HB l k = some r) : ∃ n l', l = .str n :: l' ∧ k n l' = some r := by
 unfold HB at h; split at h
 ·exact ⟨_, _, rfl, h⟩
 ·cases h
theorem yP {e : SK} {l : List SV} {k : SD → List SV → OR} (h : slC e l k = some r) : ∃ d l', l = .fr d :: l' ∧ d.kind = e ∧ k d l' = some r := by
 cases e <;> simp only [slC] at h
 ·unfold tsC at h; split at h
  ·exact ⟨_, _, rfl, rfl, h⟩
  ·cases h
 ·unfold isC at h; split at h
  ·exact ⟨_, _, rfl, rfl, h⟩
  ·cases h
 ·unfold Hz at h; split at h
  ·exact ⟨_, _, rfl, rfl, h⟩
  ·cases h
 ·unfold ssC at h; split at h
  ·exact ⟨_, _, rfl, rfl, h⟩
  ·cases h
 ·unfold bsC at h; split at h
  ·exact ⟨_, _, rfl, rfl, h⟩
  ·cases h
theorem Cf {l : List SV} {k : List SV → OR} (h : HJ l k = some r) : ∃ v l', l = v :: l' ∧ k l' = some r := by
 unfold HJ at h; split at h
 ·exact ⟨_, _, rfl, h⟩
 ·cases h
theorem xu {x : SV} {l : List SV} {k : SV → List SV → OR} (h : zO x l k = some r) : ∃ v y l', l = v :: l' ∧ k y l' = some r ∧ xI v y := by
 unfold zO at h
 split at h
 ·obtain ⟨n, l', rfl, h'⟩ := Cq h; exact ⟨_, _, _, rfl, h', fun _ _ _ _ _ h => h⟩
 ·obtain ⟨n, l', rfl, h'⟩ := zZ h; exact ⟨_, _, _, rfl, h', fun _ _ _ _ _ h => h⟩
 ·obtain ⟨n, l', rfl, h'⟩ := CX h; exact ⟨_, _, _, rfl, h', fun _ _ _ _ _ h => h⟩
 ·obtain ⟨n, l', rfl, _, h'⟩ := yP h; exact ⟨_, _, _, rfl, h', fun _ _ _ _ _ h => h⟩
 ·obtain ⟨n, l', rfl, _, h'⟩ := yP h; exact ⟨_, _, _, rfl, h', fun _ _ _ _ _ h => h⟩
 ·obtain ⟨v, l', rfl, h'⟩ := Cf h; exact ⟨_, _, _, rfl, h', fun _ _ _ _ _ h => ⟨trivial, h.2⟩⟩
theorem j6 : ∀ {x l : List SV} {k : List SV → OR}, qM x l k = some r → ∃ y, k y = some r ∧ aw xI l y
 | [], l, k, h => by
  unfold qM aT at h
  split at h
  ·exact ⟨_, h, aw.nil⟩
  ·cases h
 | x :: xs, l, k, h => by
  unfold qM at h
  obtain ⟨v, y, l', rfl, h1, hv⟩ := xu h
  obtain ⟨ys, h2, hl⟩ := j6 h1
  exact ⟨_, h2, aw.cons hv hl⟩
theorem m6 {l y : List SV} {vs : List Value} {G' : List GO} (h : aw xI l y) (k : aw (cO G Z w) l vs) : aw (cO G' Z w) y vs := by
 refine ⟨h.1.symm.trans k.1, fun i a X ha hX => ?_⟩
 obtain ⟨v, hv, hl⟩ := h.get' ha
 exact hl _ _ _ _ _ (k.2 i v X hv hX)
def Kp (o o' : au) : Prop := o' = .dead ∨ ∃ l y, o = .cells l ∧ o' = .cells y ∧ aw xI l y
theorem jO : ∀ {x o : List au} {k : List au → List au → OR}, rF x o k = some r → ∃ olds os rest, o = olds ++ rest ∧ k os rest = some r ∧ olds.length = x.length ∧ aw Kp olds os
 | [], o, k, h => ⟨[], [], o, rfl, h, rfl, aw.nil⟩
 | x :: xs, o, k, h => by
  unfold rF at h
  split at h
  ·exact absurd ‹_ :: _ = []› (by simp)
  ·rename_i c xs0 e
   simp only [List.cons.injEq] at e
   obtain ⟨rfl, rfl⟩ := e
   unfold aR at h
   split at h
   ·obtain ⟨y, h1, hy⟩ := j6 h
    obtain ⟨olds, os, rest, rfl, h2, hl, hb⟩ := jO h1
    exact ⟨_ :: olds, _, rest, rfl, h2, by simp [hl], aw.cons (.inr ⟨_, _, rfl, rfl, hy⟩) hb⟩
   ·cases h
  ·rename_i o0 xs0 hne e
   simp only [List.cons.injEq] at e
   obtain ⟨rfl, rfl⟩ := e
   unfold wZ at h
   split at h
   ·obtain ⟨olds, os, rest, rfl, h1, hl, hb⟩ := jO h
    exact ⟨_ :: olds, _, rest, rfl, h1, by simp [hl], aw.cons (.inl rfl) hb⟩
   ·cases h
theorem C8 {e : TypeId × SK} {o : List au} {k : SD → List au → OR} (h : IE e o k = some r) : ∃ d o', o = .arr e.1 d 0 false :: o' ∧ d.kind = e.2 ∧ k d o' = some r := by
 have key : ∀ {α : Type} {f : α → SD} {o : List au} {k : SD → List au → OR} {e' : TypeId} {x : α} {o' : List au}, o = .arr e' (f x) 0 false :: o' → cond (Nat.beq e.1 e') (k (f x) o') none = some r → (f x).kind = e.2 → ∃ d o', o = .arr e.1 d 0 false :: o' ∧ d.kind = e.2 ∧ k d o' = some r := by
  intro α f o k e' x o' ho h hk
  obtain ⟨he, h'⟩ := ar h
  simp only [Nat.beq_eq] at he
  subst he
  exact ⟨_, _, ho, hk, h'⟩
 unfold IE at h
 split at h <;> rename_i he
 ·unfold ck at h; split at h
  ·exact key (f := SD.ts) rfl h (by rw [he]; rfl)
  ·cases h
 ·unfold qC at h; split at h
  ·exact key (f := SD.is) rfl h (by rw [he]; rfl)
  ·cases h
 ·unfold lf at h; split at h
  ·exact key (f := SD.iss) rfl h (by rw [he]; rfl)
  ·cases h
 ·unfold qD at h; split at h
  ·exact key (f := SD.ss) rfl h (by rw [he]; rfl)
  ·cases h
 ·unfold qi at h; split at h
  ·exact key (f := SD.bs) rfl h (by rw [he]; rfl)
  ·cases h
theorem EG {e : SK} {l : List V1} {k : SD → List V1 → OR} (h : rSl e l k = some r) : ∃ d l', l = .one (.fr d) :: l' ∧ k d l' = some r := by
 cases e <;> simp only [rSl] at h
 ·unfold rTs at h; split at h
  ·exact ⟨_, _, rfl, h⟩
  ·cases h
 ·unfold rIs at h; split at h
  ·exact ⟨_, _, rfl, h⟩
  ·cases h
 ·unfold HE at h; split at h
  ·exact ⟨_, _, rfl, h⟩
  ·cases h
 ·unfold rSs at h; split at h
  ·exact ⟨_, _, rfl, h⟩
  ·cases h
 ·unfold rBs at h; split at h
  ·exact ⟨_, _, rfl, h⟩
  ·cases h
theorem zL {e : TypeId} {d : SD} {g : GO} (h : RO G Z w (.arr e d 0 false) g) : ∃ val xs, g = .arr 0 val d.kind.size xs := by
 cases g with
 | arr ver val sz xs => obtain ⟨rfl, rfl, _⟩ := h; exact ⟨_, _, rfl⟩
 | _ => exact h.elim
theorem lM {e : TypeId} {d : SD} {v : Nat} {z : Bool} {g : GO} {G' : List GO} (h : RO G Z w (.arr e d v z) g) : RO G' Z w (.arr e d v z) g := by cases g <;> exact h
theorem Dt {c b' : Nat} {G' : List GO} {g : GO} {e : TypeId} {d : SD} {X : Value} (hx : RS G Z w (.own c 0) X) (hg : RO G Z w (.arr e d 0 false) g) (h1 : G[c]? = some g) (h2 : G'[b']? = some g) : RS G' Z w (.own b' 0) X := by
 obtain ⟨val, xs, rfl⟩ := zL hg
 have := iK hx h1 rfl
 exact .inr ⟨0, val, _, xs, h2, Nat.le_refl _, fun _ => this⟩
theorem Af {own : Bool} {c b' : Nat} {t : TypeId} {l : List V1} {o : List au} {k : V1 → List au → List V1 → List au → OR} (h : HC P own c b' t l o k = some r) :
   ∃ v n l' o' x0 o0, k v n l' o' = some r ∧ l = x0 :: l' ∧ o = o0 ++ o' ∧ n.length = o0.length ∧ ∀ {Gc G'' : List GO} {Z : bn} {w : World} {X : Value} {gs : List GO}, RV1 Gc Z w x0 X → aw (RO Gc Z w) o0 gs →
    (∀ (i : Nat) g, gs[i]? = some g → Gc[c + i]? = some g ∧ G''[b' + i]? = some g) → RV1 G'' Z w v X ∧ aw (RO G'' Z w) n gs ∧ aY n gs = aY o0 gs := by
 unfold HC at h
 split at h
 ·unfold aC at h; split at h
  ·replace h := ar h; obtain ⟨ha, h⟩ := h; obtain rfl := rR ha
   exact ⟨_, _, _, _, _, [], h, rfl, rfl, rfl, fun hx ho _ => by obtain rfl := ho.a0; exact ⟨hx, aw.nil, rfl⟩⟩
  ·cases h
 ·unfold aK at h; split at h
  ·exact ⟨_, _, _, _, _, [], h, rfl, rfl, rfl, fun hx ho _ => by obtain rfl := ho.a0; exact ⟨hx, aw.nil, rfl⟩⟩
  ·cases h
 ·unfold kW at h; split at h
  ·exact ⟨_, _, _, _, _, [], h, rfl, rfl, rfl, fun hx ho _ => by obtain rfl := ho.a0; exact ⟨hx, aw.nil, rfl⟩⟩
  ·cases h
 ·split at h
  ·rename_i e _
   rcases cm h with ⟨_, h⟩ | ⟨_, h⟩
   ·unfold FB at h; split at h
    ·replace h := ar h; obtain ⟨hi, h⟩ := h
     simp only [Nat.beq_eq] at hi
     obtain ⟨d, o', rfl, hk, h1⟩ := C8 h
     refine ⟨_, _, _, _, _, [_], h1, rfl, rfl, rfl, fun hx ho hg => ?_⟩
     obtain ⟨g, gs', rfl, h1, h2⟩ := ho.cons_inv
     obtain rfl := h2.a0
     obtain ⟨e1, e2⟩ := hg 0 g rfl
     refine ⟨⟨Dt (by rw [← hi]; exact hx.1) h1 e1 e2, fun _ => hx.2 nofun⟩, aw.cons (lM h1) aw.nil, rfl⟩
    ·cases h
   ·obtain ⟨d, l', rfl, h1⟩ := EG h
    exact ⟨_, _, _, _, _, [], h1, rfl, rfl, rfl, fun hx ho _ => by obtain rfl := ho.a0; exact ⟨hx, aw.nil, rfl⟩⟩
  ·cases h
 ·split at h
  ·rcases cm h with ⟨_, h⟩ | ⟨_, h⟩
   ·unfold fL at h; split at h
    ·replace h := ar h; obtain ⟨hi, h⟩ := h
     simp only [Nat.beq_eq] at hi
     unfold ck at h; split at h
     ·replace h := ar h; obtain ⟨he, hk2⟩ := h
      simp only [Nat.beq_eq] at he
      subst he
      refine ⟨_, _, _, _, _, [_], hk2, rfl, rfl, rfl, fun hx ho hg => ?_⟩
      obtain ⟨g, gs', rfl, h1, h2⟩ := ho.cons_inv
      obtain rfl := h2.a0
      obtain ⟨e1, e2⟩ := hg 0 g rfl
      obtain ⟨xs, hX, hc⟩ := hx
      obtain ⟨x1, m1, rfl, c1, hc⟩ := hc.cons_inv
      obtain ⟨x2, m2, rfl, c2, hc⟩ := hc.cons_inv
      obtain ⟨x3, m3, rfl, c3, hc⟩ := hc.cons_inv
      obtain rfl := hc.a0
      exact ⟨⟨_, hX, aw.cons c1 (aw.cons c2 (aw.cons ⟨Dt (by rw [← hi]; exact c3.1) h1 e1 e2, c3.2⟩ aw.nil))⟩, aw.cons (lM h1) aw.nil, rfl⟩
     ·cases h
    ·cases h
   ·unfold ag at h; split at h
    ·refine ⟨_, _, _, _, _, [], h, rfl, rfl, rfl, fun hx ho _ => ?_⟩
     obtain rfl := ho.a0
     obtain ⟨xs, hX, hc⟩ := hx
     obtain ⟨x1, m1, rfl, c1, hc⟩ := hc.cons_inv
     obtain ⟨x2, m2, rfl, c2, hc⟩ := hc.cons_inv
     obtain ⟨x3, m3, rfl, c3, hc⟩ := hc.cons_inv
     obtain rfl := hc.a0
     exact ⟨⟨_, hX, aw.cons ⟨c1.1, c1.2⟩ (aw.cons ⟨c2.1, c2.2⟩ (aw.cons ⟨c3.1, c3.2⟩ aw.nil))⟩, aw.nil, rfl⟩
    ·cases h
  ·cases h
 ·unfold Gq at h; split at h
  ·replace h := ar h; obtain ⟨hi, h⟩ := h
   simp only [Nat.beq_eq] at hi
   unfold aR at h; split at h
   ·split at h
    ·obtain ⟨y, h1, hy⟩ := j6 h
     refine ⟨_, _, _, _, _, [_], h1, rfl, rfl, rfl, fun hx ho hg => ?_⟩
     obtain ⟨g, gs', rfl, h1, h2⟩ := ho.cons_inv
     obtain rfl := h2.a0
     obtain ⟨e1, e2⟩ := hg 0 g rfl
     cases g with
     | cells bb T vs =>
      have hp := jI (by rw [← hi]; exact hx.1) e1
      exact ⟨⟨.inr ⟨bb, T, vs, e2, hp⟩, fun _ => hx.2 nofun⟩, aw.cons (m6 hy h1) aw.nil, rfl⟩
     | _ => exact h1.elim
    ·cases h
   ·cases h
  ·cases h
 ·cases h
theorem oi {own : Bool} : ∀ {tys : List TypeId} {c b' : Nat} {l : List V1} {o : List au} {k : List V1 → List au → OR}, xr P own tys c b' l o k = some r →
   ∃ vs ns, k vs ns = some r ∧ ns.length = o.length ∧ ∀ {Gc G'' : List GO} {Z : bn} {w : World} {xs : List Value} {gs : List GO}, aw (RV1 Gc Z w) l xs → aw (RO Gc Z w) o gs →
    (∀ (i : Nat) g, gs[i]? = some g → Gc[c + i]? = some g ∧ G''[b' + i]? = some g) → aw (RV1 G'' Z w) vs xs ∧ aw (RO G'' Z w) ns gs ∧ aY ns gs = aY o gs
 | [], c, b', l, o, k, h => by
  unfold xr ai at h
  split at h
  ·unfold aj at h
   split at h
   ·exact ⟨_, _, h, rfl, fun hx ho _ => ⟨by obtain rfl := hx.a0; exact aw.nil, by obtain rfl := ho.a0; exact aw.nil, rfl⟩⟩
   ·cases h
  ·cases h
 | t :: tys, c, b', l, o, k, h => by
  unfold xr at h
  obtain ⟨v, n, l', o', x0, o0, h1, rfl, rfl, hn, hv⟩ := Af h
  obtain ⟨vs, ns, h2, hns, hvs⟩ := oi h1
  refine ⟨_, _, h2, by simp [hn, hns], fun hx ho hg => ?_⟩
  obtain ⟨X, xs', rfl, hx1, hx2⟩ := hx.cons_inv
  obtain ⟨g1, g2, rfl, ho1, ho2⟩ := ho.pQ
  obtain ⟨a1, a2, a3⟩ := hv hx1 ho1 fun i g hi => hg i g (by rw [List.getElem?_append_left (aD hi)]; exact hi)
  obtain ⟨b1, b2, b3⟩ := hvs hx2 ho2 fun i g hi => by
   have := hg (g1.length + i) g (by rw [List.getElem?_append_right (by omega)]; simpa using hi)
   rw [← ho1.1] at this
   rw [Nat.add_assoc, Nat.add_assoc, hn]; exact this
  refine ⟨aw.cons a1 b1, aw.append a2 b2, ?_⟩
  rw [bH a2.1, bH ho1.1, a3, b3]
end
end Go.Ab
end
section
namespace Go.Ab
open Go Go.Dk
def fU : List Nat → List GO → List GO → List GO
 | j :: js, g :: gs, G => fU js gs (G.set j g)
 | _, _, G => G
theorem mn : ∀ (js : List Nat) (os h : List au), (gB js os h).length = h.length
 | [], _, _ => rfl
 | _ :: _, [], _ => rfl
 | j :: js, o :: os, h => by rw [gB, mn js os]; simp
theorem mg : ∀ (js : List Nat) (gs G : List GO), (fU js gs G).length = G.length
 | [], _, _ => rfl
 | _ :: _, [], _ => rfl
 | j :: js, o :: os, h => by rw [fU, mg js os]; simp
theorem gU : ∀ (js : List Nat) (gs G : List GO) (q : Nat), q ∉ js → (fU js gs G)[q]? = G[q]?
 | [], _, _, _, _ => rfl
 | _ :: _, [], _, _, _ => rfl
 | j :: js, g :: gs, G, q, h => by
  simp only [List.mem_cons, not_or] at h
  rw [fU, gU js gs _ q h.2, List.getElem?_set_ne (fun e => h.1 e.symm)]
theorem rr : ∀ (js : List Nat) (gs G : List GO) (i j : Nat) (g : GO), js.Nodup → js[i]? = some j → gs[i]? = some g → j < G.length → (fU js gs G)[j]? = some g
 | [], _, _, i, _, _, _, h, _, _ => by simp at h
 | _ :: _, [], _, i, _, _, _, _, h, _ => by simp at h
 | a :: js, x :: gs, G, 0, j, g, hn, hj, hg, hl => by
  simp only [List.getElem?_cons_zero, Option.some.injEq] at hj hg
  subst hj hg
  rw [List.nodup_cons] at hn
  rw [fU, gU js gs _ a hn.1]; simp [hl]
 | a :: js, x :: gs, G, i + 1, j, g, hn, hj, hg, hl => by
  rw [List.nodup_cons] at hn
  rw [fU]
  exact rr js gs _ i j g hn.2 (by simpa using hj) (by simpa using hg) (by simpa using hl)
theorem lZ : ∀ (js js' : List Nat) (os os' h : List au), js.length = os.length → gB (js ++ js') (os ++ os') h = gB js' os' (gB js os h)
 | [], js', [], os', h, _ => rfl
 | j :: js, js', o :: os, os', h, hl => by simp only [List.cons_append, gB]; exact lZ js js' os os' _ (by simpa using hl)
 | [], _, _ :: _, _, _, hl => by simp at hl
 | _ :: _, _, [], _, _, hl => by simp at hl
theorem yZ {R : au → GO → Prop} : ∀ {js : List Nat} {os h : List au} {gs G : List GO}, aw R h G → aw R os gs → aw R (gB js os h) (fU js gs G)
 | [], os, h, gs, G, hh, ho => hh
 | j :: js, os, h, gs, G, hh, ho => by
  cases os with
  | nil => obtain rfl := ho.a0; exact hh
  | cons o os =>
   obtain ⟨g, gs', rfl, h1, h2⟩ := ho.cons_inv
   show aw R (gB js os (h.set j o)) (fU js gs' (G.set j g))
   exact yZ (hh.set j h1) h2
theorem rq : ∀ {js : List Nat} {j : Nat} {o : au} {h : List au}, j ∉ js → kill js (h.set j o) = (kill js h).set j o
 | [], _, _, _, _ => rfl
 | i :: js, j, o, h, hj => by
  simp only [List.mem_cons, not_or] at hj
  simp only [kill]
  rw [List.set_comm _ _ hj.1, rq hj.2]
theorem nL : ∀ {js : List Nat} {j : Nat} {g : GO} {G : List GO}, j ∉ js → fW js (G.set j g) = (fW js G).set j g
 | [], _, _, _, _ => rfl
 | i :: js, j, o, h, hj => by
  simp only [List.mem_cons, not_or] at hj
  simp only [fW]
  rw [List.set_comm _ _ hj.1, nL hj.2]
theorem j9 : ∀ (js : List Nat) (h : List au), (kill js h).length = h.length
 | [], _ => rfl
 | j :: js, h => by rw [kill, j9 js]; simp
theorem je : ∀ (js : List Nat) (h : List GO), (fW js h).length = h.length
 | [], _ => rfl
 | j :: js, h => by rw [fW, je js]; simp
theorem u9 : ∀ {js : List Nat} {os h : List au} {gs G : List GO}, js.Nodup → (∀ j ∈ js, j < h.length ∧ j < G.length) → js.length = os.length → os.length = gs.length →
   (aY (gB js os h) (fU js gs G)).Perm (aY os gs ++ aY (kill js h) (fW js G))
 | [], os, h, gs, G, _, _, hl, hl2 => by
  obtain rfl := List.eq_nil_of_length_eq_zero hl.symm
  exact List.Perm.refl _
 | j :: js, [], h, gs, G, _, _, hl, _ => by simp at hl
 | j :: js, o :: os, h, [], G, _, _, _, hl => by simp at hl
 | j :: js, o :: os, h, g :: gs, G, hn, hl, h1, h2 => by
  rw [List.nodup_cons] at hn
  obtain ⟨hj, hjG⟩ := hl j (List.mem_cons_self ..)
  have ih := u9 (js := js) (os := os) (h := h.set j o) (gs := gs) (G := G.set j g) hn.2 (fun i hi => by simpa using hl i (List.mem_cons_of_mem _ hi)) (by simpa using h1) (by simpa using h2)
  simp only [gB, fU, kill, fW]
  refine ih.trans ?_
  rw [rq hn.1, nL hn.1, rq hn.1, nL hn.1]
  have hin := wv (h := kill js h) (G := fW js G) o g (by rw [j9]; exact hj) (by rw [je]; exact hjG)
  have : (aY os gs ++ aY ((kill js h).set j o) ((fW js G).set j g)).Perm (aY os gs ++ (jC o g ++ aY ((kill js h).set j .dead) ((fW js G).set j .gone))) := hin.symm.append_left _
  refine this.trans ?_
  simp only [aY]
  rw [← List.append_assoc]
  exact List.perm_append_comm.append_right _
theorem oG : ∀ (js js' : List Nat) (h : List au), kill (js ++ js') h = kill js' (kill js h)
 | [], _, _ => rfl
 | j :: js, js', h => by simp only [List.cons_append, kill]; exact oG js js' _
theorem mb : ∀ (js js' : List Nat) (h : List GO), fW (js ++ js') h = fW js' (fW js h)
 | [], _, _ => rfl
 | j :: js, js', h => by simp only [List.cons_append, fW]; exact mb js js' _
def iS : au → GO → GO
 | .cells _, g => g
 | _, _ => .gone
theorem ml {h h' : List au} {G G' : List GO} (hl : h.length = G.length) : aY (h ++ h') (G ++ G') = aY h G ++ aY h' G' := bH hl
section
variable {P : Program} {w0 w w' : World} {M Z0 : bn} {b : Nat} {G : List GO} {s : AS} {tv : List Value} {r : List V1 × List au} {Z : bn}
theorem oK : ∀ {olds os : List au} {gs Gc : List GO}, aw Kp olds os → aw (RO Gc Z w) olds gs → ∀ G'' : List GO,
   aw (RO G'' Z w) os (List.zipWith iS os gs) ∧ (aY os (List.zipWith iS os gs)).Sublist (aY olds gs)
 | [], os, gs, Gc, hb, hr, G'' => by
  obtain rfl := hb.a0
  obtain rfl := hr.a0
  exact ⟨aw.nil, List.Sublist.refl _⟩
 | o :: olds, os, gs, Gc, hb, hr, G'' => by
  obtain ⟨o', os', rfl, h1, h2⟩ := hb.cons_inv
  obtain ⟨g, gs', rfl, h3, h4⟩ := hr.cons_inv
  obtain ⟨a1, a2⟩ := oK h2 h4 G''
  simp only [List.zipWith_cons_cons]
  rcases h1 with rfl | ⟨l, y, rfl, rfl, hy⟩
  ·refine ⟨aw.cons trivial a1, ?_⟩
   simp only [aY, cE, List.nil_append]
   exact a2.trans (List.sublist_append_right _ _)
  ·cases g with
   | cells bb T vs =>
    refine ⟨aw.cons (m6 hy h3) a1, ?_⟩
    simp only [aY, iS]
    exact a2.append_left _
   | _ => exact h3.elim
theorem Az {js : List Nat} {b n : Nat} (h : js.Nodup) (hb : ∀ j ∈ js, j < b) : (js ++ List.range' b n).Nodup := by
 rw [List.nodup_append]
 refine ⟨h, List.nodup_range', fun a ha c hc => ?_⟩
 rw [List.mem_range'_1] at hc
 have := hb a ha
 omega
theorem l6 {F : Callee} (hF : dW P F) {f : FuncId} {fn : Func} (hfn : P.funcs[f]? = some fn) (hbody : fn.body.isSome = true) (hI : bp w0 M Z0 b G s tv w) {ow : Bool} {tys : List TypeId} {rm : Nat} {k : AV → List au → OR} {vs : List V1} {xs : List Value}
   (hv : aw (RV1 G (zn w0 Z0 s G) w) vs xs) (hb : b + rm ≤ s.heap.length) (h : pJ P F ow f tys b rm k vs s.heap = some r) :
   Calls P f xs.toArray w fun e w' => ∃ X, e = .returned X ∧ ∃ v h' G', k v h' = some r ∧ bp w0 M Z0 (b + rm) G' ⟨s.tmps, h'⟩ tv w' ∧ RV G' (zn w0 Z0 ⟨s.tmps, h'⟩ G') w' v X ∧ h'.length = s.heap.length ∧ Up G G' := by
 unfold pJ at h
 generalize hjs : reach s.heap 64 (vs.flatMap z6) [] = js at h
 replace h := ar h; obtain ⟨hok, h⟩ := h
 replace h := bind_some h; obtain ⟨out, hout, h⟩ := h
 have hokl : DA js s.heap.length = true := by
  simp only [DA, Bool.and_eq_true, List.all_eq_true, Nat.blt_eq] at hok ⊢
  exact ⟨hok.1, fun j hj => by have := hok.2 j hj; omega⟩
 obtain ⟨hnd, hlt⟩ := rY hok
 have hpass := hI.pass hokl hv
 have hlen : (tW js s.heap).length = js.length := by simp [tW]
 have hcall := hF f fn _ _ out hfn hbody hout _ _ _ _ _ _ (by rw [hlen]; exact hpass)
 refine hcall.mono fun e w' ⟨ys, Gc, he, hIc, hupc⟩ => ?_
 refine ⟨_, he, ?_⟩
 obtain ⟨olds, os, rest, ho, h, hol, hback⟩ := jO h
 obtain ⟨vs', ns, h, hns, hvs⟩ := oi h
 replace h := ar h; obtain ⟨hrm, h⟩ := h
 simp only [Nat.ble_eq] at hrm
 have hp := kg js s.heap G hnd (fun j hj => ⟨by have := hlt j hj; omega, by have := hlt j hj; rw [← hI.len]; omega⟩)
 have heq : aY (tW js s.heap) (iG js G) = aY (vU js s.heap) (iG js G) := by rw [wD, mO]
 have hfr := frame hI.st hI.mz hp hIc.st
 obtain ⟨hx0, hRO⟩ : aw (RV Gc (jw w (fun k => zn w0 Z0 s G k ∨ la (aY (vU js s.heap) (iG js G)) k) (aY out.2 Gc)) w') (out.1.map .v) ys ∧ aw (RO Gc (jw w (fun k => zn w0 Z0 s G k ∨ la (aY (vU js s.heap) (iG js G)) k) (aY out.2 Gc)) w') out.2 Gc := hIc.st.per
 generalize jw w (fun k => zn w0 Z0 s G k ∨ la (aY (vU js s.heap) (iG js G)) k) (aY out.2 Gc) = Zc at hx0 hRO
 rw [ho] at hRO
 obtain ⟨g1, g2, rfl, hr1, hr2⟩ := hRO.pQ
 have hjo : js.length = olds.length := by rw [hol, hlen]
 have hjos : js.length = os.length := by rw [hjo, hback.1]
 have hg1 : olds.length = g1.length := hr1.1
 let ps := js ++ List.range' b ns.length
 let gs := List.zipWith iS os g1 ++ g2
 have hzl : (List.zipWith iS os g1).length = js.length := by rw [List.length_zipWith, ← hjos, ← hg1, ← hjo]; simp
 have hpsn : ps.Nodup := Az hnd hlt
 have hpsl : ∀ j ∈ ps, j < s.heap.length ∧ j < G.length := by
  intro j hj
  rw [← hI.len]
  rcases List.mem_append.1 hj with hj | hj
  ·have := hlt j hj; omega
  ·rw [List.mem_range'_1] at hj; omega
 have hnl : ns.length = g2.length := by rw [hns]; exact hr2.1
 have hH : Ko b ns (gB js os s.heap) = gB ps (os ++ ns) s.heap := by
  rw [lZ js _ os ns s.heap hjos]; rfl
 have hgat : ∀ (i : Nat) g, g2[i]? = some g → (g1 ++ g2)[js.length + i]? = some g ∧ (fU ps gs G)[b + i]? = some g := by
  intro i g hi
  have hil := aD hi
  refine ⟨by rw [List.getElem?_append_right (by omega), show js.length + i - g1.length = i by omega]; exact hi, ?_⟩
  refine rr ps gs G (js.length + i) (b + i) g hpsn ?_ ?_ ?_
  ·show (js ++ List.range' b ns.length)[js.length + i]? = _
   rw [List.getElem?_append_right (by omega)]
   simp [hnl, hil]
  ·show (List.zipWith iS os g1 ++ g2)[js.length + i]? = _
   rw [List.getElem?_append_right (by omega), hzl]; simpa using hi
  ·rw [← hI.len]; omega
 -- what is spoken of goes on
 have hup : Up G (fU ps gs G) := by
  intro q
  by_cases hq : q ∈ js
  ·obtain ⟨i, hi⟩ := List.getElem?_of_mem hq
   have hil := aD hi
   have hz : ∃ g, (List.zipWith iS os g1)[i]? = some g := ⟨_, List.getElem?_eq_getElem (by rw [hzl]; exact hil)⟩
   obtain ⟨g, hz⟩ := hz
   have hat : (fU ps gs G)[q]? = some g := by
    refine rr ps gs G i q g hpsn ?_ ?_ (hpsl q (List.mem_append.2 (.inl hq))).2
    ·show (js ++ _)[i]? = _; rw [List.getElem?_append_left hil]; exact hi
    ·show (_ ++ g2)[i]? = _; rw [List.getElem?_append_left (by rw [hzl]; exact hil)]; exact hz
   rw [List.getElem?_zipWith] at hz
   have ho1 : os[i]? = some (os[i]'(by omega)) := List.getElem?_eq_getElem _
   have hg1' : g1[i]? = some (g1[i]'(by omega)) := List.getElem?_eq_getElem _
   generalize os[i]'(by omega) = o1 at ho1
   generalize g1[i]'(by omega) = gg1 at hg1'
   rw [ho1, hg1'] at hz
   simp only [Option.some.injEq] at hz
   have hgc : (g1 ++ g2)[i]? = some gg1 := by rw [List.getElem?_append_left (by omega)]; exact hg1'
   have hu := hupc i
   rw [hgc] at hu
   rw [hat]
   cases o1 with
   | cells y =>
    simp only [iS] at hz
    subst hz
    obtain ⟨oo, hoo, hbk⟩ := hback.get' ho1
    have hro := hr1.2 i oo gg1 hoo hg1'
    rcases hbk with hbk | ⟨l, y', rfl, _, _⟩
    ·cases hbk
    ·cases gg1 with
     | cells bb T vs0 =>
      refine ⟨fun hg => ?_, fun b0 T0 vs1 hg => ?_, fun ver val sz xs0 hg => ?_⟩
      ·have := hu.1 (dn hi hg); cases this
      ·rcases hu.2.1 _ _ _ (dn hi hg) with h1 | ⟨T', vs', h1⟩
       ·cases h1
       ·right; injection h1 with h1; injection h1 with h1 h2 h3; subst h1; exact ⟨T, vs0, rfl⟩
      ·rcases hu.2.2 _ _ _ _ (dn hi hg) with h1 | ⟨_, _, _, h1⟩ <;> cases h1
     | _ => exact hro.elim
   | _ =>
    simp only [iS] at hz
    subst hz
    exact ⟨fun _ => rfl, fun _ _ _ _ => .inl rfl, fun _ _ _ _ _ => .inl rfl⟩
  ·by_cases hq2 : q ∈ List.range' b ns.length
   ·rw [List.mem_range'_1] at hq2
    have hf := hI.fresh q hq2.1 (by rw [← hI.len]; omega)
    rw [hf]
    exact ⟨nofun, nofun, nofun⟩
   ·have hqp : q ∉ ps := fun hm => (List.mem_append.1 hm).elim hq hq2
    rw [gU ps gs G q hqp]
    exact Up.refl G q
 -- the resources
 have hA : (aY os (List.zipWith iS os g1) ++ aY ns g2).Sublist (aY out.2 (g1 ++ g2)) := by
  rw [ho, ml hg1]
  have h1 := (oK hback hr1 (fU ps gs G)).2
  have h2 : aY ns g2 = aY rest g2 := by
   have hx' : aw (RV1 (g1 ++ g2) Zc w') out.1 ys := ⟨by have := hx0.1; simpa using this, fun i a c ha hc => hx0.2 i (.v a) c (by simp [ha]) hc⟩
   exact (hvs (Gc := g1 ++ g2) (G'' := fU ps gs G) hx' hr2 hgat).2.2
  rw [h2]
  exact h1.append_right _
 have hperm := u9 (js := ps) (os := os ++ ns) (h := s.heap) (gs := gs) (G := G) hpsn hpsl (by simp [ps, hjos]) (by simp [gs, hjos, hzl, hnl])
 have hB : (aY (kill js s.heap) (fW js G)).Perm (aY (vU (List.range' b ns.length) (kill js s.heap)) (iG (List.range' b ns.length) (fW js G)) ++ aY (kill ps s.heap) (fW ps G)) := by
  have := kg (List.range' b ns.length) (kill js s.heap) (fW js G) List.nodup_range' (fun j hj => by rw [j9, je]; exact hpsl j (List.mem_append.2 (.inr hj)))
  rw [show ps = js ++ List.range' b ns.length from rfl, oG, mb]; exact this
 have hgsl : aY (os ++ ns) gs = aY os (List.zipWith iS os g1) ++ aY ns g2 := ml (by rw [hzl, hjos])
 rw [hgsl] at hperm
 have hS1 := hfr.1.perm (hB.append_left (aY out.2 (g1 ++ g2)))
 have hsub : (aY os (List.zipWith iS os g1) ++ aY ns g2 ++ aY (kill ps s.heap) (fW ps G)).Sublist (aY out.2 (g1 ++ g2) ++ (aY (vU (List.range' b ns.length) (kill js s.heap)) (iG (List.range' b ns.length) (fW js G)) ++ aY (kill ps s.heap) (fW ps G))) :=
  hA.append (List.sublist_append_right _ _)
 have hS := (hS1.sub hsub).perm hperm.symm
 -- what is known
 refine ⟨Ks vs', gB ps (os ++ ns) s.heap, fU ps gs G, by rw [← hH]; exact h, ?_, ?_, by rw [mn], hup⟩
 ·refine ⟨hS.jP (aS _ _ _) fun hh => ?_, fun j hj hjl => ?_, hI.mz⟩
  ·obtain ⟨hc, hs⟩ := hh
   refine ⟨hs.1.mono fun _ _ _ q => q.up hup, ?_⟩
   have hc2 := hc.2
   rw [ho] at hc2
   have h1 : aw (RO (g1 ++ g2) (jw w0 Z0 (aY (gB ps (os ++ ns) s.heap) (fU ps gs G))) w') olds g1 := by
    have := hc2.take olds.length
    rw [List.take_left, hg1, List.take_left] at this; exact this
   have h2 : aw (RO (g1 ++ g2) (jw w0 Z0 (aY (gB ps (os ++ ns) s.heap) (fU ps gs G))) w') rest g2 := by
    have := hc2.drop olds.length
    rw [List.drop_left, hg1, List.drop_left] at this; exact this
   have hx' : aw (RV1 (g1 ++ g2) (jw w0 Z0 (aY (gB ps (os ++ ns) s.heap) (fU ps gs G))) w') out.1 ys := ⟨by have := hc.1.1; simpa using this, fun i a c ha hc' => hc.1.2 i (.v a) c (by simp [ha]) hc'⟩
   refine yZ (hs.2.mono fun _ _ _ q => q.up hup) (aw.append (oK hback h1 _).1 (hvs hx' h2 hgat).2.1)
  ·rw [mg] at hjl
   rw [gU ps gs G j ?_]
   ·exact hI.fresh j (by omega) hjl
   ·intro hm
    rcases List.mem_append.1 hm with hm | hm
    ·have := hlt j hm; omega
    ·rw [List.mem_range'_1] at hm; omega
 ·obtain ⟨hc, hs⟩ := hS.per
  have hc2 := hc.2
  rw [ho] at hc2
  have h2 : aw (RO (g1 ++ g2) (jw w0 Z0 (aY (gB ps (os ++ ns) s.heap) (fU ps gs G))) w') rest g2 := by
   have := hc2.drop olds.length
   rw [List.drop_left, hg1, List.drop_left] at this; exact this
  have hx' : aw (RV1 (g1 ++ g2) (jw w0 Z0 (aY (gB ps (os ++ ns) s.heap) (fU ps gs G))) w') out.1 ys := ⟨by have := hc.1.1; simpa using this, fun i a c ha hc' => hc.1.2 i (.v a) c (by simp [ha]) hc'⟩
  have hfin := (hvs hx' h2 hgat).1
  match vs', hfin with
  | [], hfin => obtain rfl := hfin.a0; exact ⟨[], rfl, aw.nil⟩
  | [x], hfin =>
   obtain ⟨y, ys', rfl, h1, h2⟩ := hfin.cons_inv
   obtain rfl := h2.a0
   exact h1
  | x :: x' :: vs'', hfin =>
   have hl := hfin.1
   refine ⟨ys, ?_, hfin⟩
   rw [dif_neg]
   simp only [List.size_toArray, ← hl, List.length_cons]
   omega
end
end Go.Ab
namespace Go.Ab
open Go Go.Dk
section
variable {P : Program} {w0 w w' : World} {M Z0 : bn} {b : Nat} {G : List GO} {s : AS} {tv : List Value} {r : List V1 × List au}
def pR (w0 : World) (M Z0 : bn) (b' : Nat) (G : List GO) (s : AS) (tv : List Value) (d : Option Tmp) (k : AV → List au → OR) (r : List V1 × List au) (a' : Act) (w' : World) : Prop :=
 ∃ v h' G' tv', k v h' = some r ∧ a' = ⟨tv'.toArray, []⟩ ∧ bp w0 M Z0 b' G' (AS.put ⟨s.tmps, h'⟩ d v) tv' w' ∧ h'.length = s.heap.length ∧ Up G G' ∧ ∃ X, tv' = (match d with | some d => tv.set d X | none => tv)
theorem nA (tv : List Value) (d : Option Tmp) (X : Value) : (Act.mk tv.toArray []).put d X = ⟨(match d with | some d => tv.set d X | none => tv).toArray, []⟩ := by
 cases d with
 | none => rfl
 | some d => simp [Act.put]
theorem qQ {α β : Type} {R : α → β → Prop} {l : List α} {m : List β} {da : α} {db : β} (h : aw R l m) (hd : ∀ y, R da y) (i : Nat) : R (l.getD i da) (m.getD i db) := by
 cases hi : l[i]? with
 | none => simp only [List.getD, hi, Option.getD_none]; exact hd _
 | some a => obtain ⟨y, hy, hr⟩ := h.get hi; simp only [List.getD, hi, hy, Option.getD_some]; exact hr
theorem bp.ev (hI : bp w0 M Z0 b G s tv w) (x : Operand) : RV G (zn w0 Z0 s G) w (s.ev x) (Act.eval ⟨tv.toArray, []⟩ x) := by
 cases x with
 | tmp t => rw [J4]; exact qQ hI.st.per.1 fh t
 | const v => exact wH v
 | global g => exact fh _
 | func f => exact ⟨⟨[], rfl, aw.nil⟩, fun _ => rfl⟩
theorem ic {o : Oper} {k : AV → List au → OR} {b' : Nat} {G' : List GO} {h' : List au} {v : AV} {X : Value} {Q : Exit → Act → World → Prop} (hr : (execOp (Act.eval ⟨tv.toArray, []⟩) o).run P w = .ok (.value X) w') (hk : k v h' = some r)
   (hI : bp w0 M Z0 b' G' ⟨s.tmps, h'⟩ tv w') (hv : RV G' (zn w0 Z0 ⟨s.tmps, h'⟩ G') w' v X) (hl : h'.length = s.heap.length) (hu : Up G G') : o.wp P ⟨tv.toArray, []⟩ w (pR w0 M Z0 b' G s tv o.dst k r) Q := by
 simp only [Oper.wp, hr, Oper.upon]
 exact ⟨v, h', G', _, hk, nA _ _ _, hI.put o.dst hv, hl, hu, X, by cases o.dst <;> rfl⟩
theorem bc {o : Oper} {k : AV → List au → OR} {b' : Nat} {v : AV} {X : Value} {Q : Exit → Act → World → Prop} (hI : bp w0 M Z0 b G s tv w) (hb : b ≤ b') (hr : (execOp (Act.eval ⟨tv.toArray, []⟩) o).run P w = .ok (.value X) w) (hk : k v s.heap = some r)
   (hv : RV G (zn w0 Z0 s G) w v X) : o.wp P ⟨tv.toArray, []⟩ w (pR w0 M Z0 b' G s tv o.dst k r) Q :=
 ic hr hk (hI.raise hb) hv rfl (Up.refl G)
theorem BW {o : Oper} {k : AV → List au → OR} {b' : Nat} {f : FuncId} {args : Array Value} {Q : Exit → Act → World → Prop} (hr : (execOp (Act.eval ⟨tv.toArray, []⟩) o).run P w = .ok (.enter f args) w)
   (hc : Calls P f args w fun e w' => ∃ X, e = .returned X ∧ ∃ v h' G', k v h' = some r ∧ bp w0 M Z0 b' G' ⟨s.tmps, h'⟩ tv w' ∧ RV G' (zn w0 Z0 ⟨s.tmps, h'⟩ G') w' v X ∧ h'.length = s.heap.length ∧ Up G G') :
   o.wp P ⟨tv.toArray, []⟩ w (pR w0 M Z0 b' G s tv o.dst k r) Q := by
 simp only [Oper.wp, hr, Oper.upon]
 refine hc.mono fun e w' ⟨X, he, v, h', G', hk, hI, hv, hl, hu⟩ => ?_
 subst he
 exact ⟨v, h', G', _, hk, nA _ _ _, hI.put o.dst hv, hl, hu, X, by cases o.dst <;> rfl⟩
theorem oM {Z : bn} : ∀ {vs : List AV} {Xs : List Value} {l : List V1}, v1L vs = some l → aw (RV G Z w) vs Xs → aw (RV1 G Z w) l Xs
 | [], Xs, l, h, ha => by
  obtain rfl := ha.a0
  simp only [v1L, Option.some.injEq] at h; subst h; exact aw.nil
 | .v x :: vs, Xs, l, h, ha => by
  obtain ⟨X, Xs', rfl, h1, h2⟩ := ha.cons_inv
  simp only [v1L, Option.map_eq_some_iff] at h
  obtain ⟨l', hl, rfl⟩ := h
  exact aw.cons h1 (oM hl h2)
 | .tup _ :: vs, Xs, l, h, ha => by simp [v1L] at h
theorem bp.evL (hI : bp w0 M Z0 b G s tv w) (l : List Operand) : aw (RV G (zn w0 Z0 s G) w) (l.map s.ev) (l.map (Act.eval ⟨tv.toArray, []⟩)) :=
 ⟨by simp, fun i x y hx hy => by
  rw [List.getElem?_map] at hx hy
  obtain ⟨q, hq, rfl⟩ := Option.map_eq_some_iff.1 hx
  rw [hq] at hy
  obtain rfl := Option.some.inj hy
  exact hI.ev q⟩
theorem DQ {f : FuncId} (h : ua P f = true) : ∃ fn, P.funcs[f]? = some fn ∧ fn.body.isSome = true := by
 unfold ua at h
 split at h
 ·rename_i fn hf
  simp only [Bool.and_eq_true] at h
  exact ⟨fn, hf, h.2⟩
 ·cases h
theorem nQ {F : Callee} {D : Dec} (hF : dW P F) (hI : bp w0 M Z0 b G s tv w) {f : FuncId} {rm : Nat} {k : AV → List au → OR} {vs : List V1} {xs : List Value}
   (hv : aw (RV1 G (zn w0 Z0 s G) w) vs xs) (hb : b + rm ≤ s.heap.length) (h : s4 P F D f vs s.heap b rm k = some r) :
   ua P f = true ∧ Calls P f xs.toArray w fun e w' => ∃ X, e = .returned X ∧ ∃ v h' G', k v h' = some r ∧ bp w0 M Z0 (b + rm) G' ⟨s.tmps, h'⟩ tv w' ∧ RV G' (zn w0 Z0 ⟨s.tmps, h'⟩ G') w' v X ∧ h'.length = s.heap.length ∧ Up G G' := by
 unfold s4 at h
 split at h
 ·cases h
 ·rename_i fn hfn
  replace h := ar h; obtain ⟨hcb, h⟩ := h
  refine ⟨hcb, ?_⟩
  obtain ⟨fn', hfn', hbody⟩ := DQ hcb
  rw [hfn] at hfn'
  obtain rfl := Option.some.inj hfn'
  rcases cm h with ⟨_, h⟩ | ⟨_, h⟩
  ·exact l6 hF hfn hbody hI hv hb h
  ·obtain ⟨vs', h1, h2, hs, hv'⟩ := gA hI hv h
   have hl : h1.length = s.heap.length := by have := hs.inv.len; have := hI.len; simp at *; omega
   have := l6 hF hfn hbody hs.inv hv' (by rw [show (AS.mk s.tmps h1).heap.length = h1.length from rfl, hl]; exact hb) h2
   refine this.mono fun e w' ⟨X, he, v, h', G', q1, q2, q3, q4, q5⟩ => ⟨X, he, v, h', G', q1, q2, q3, by rw [q4]; exact hl, q5⟩
theorem Jw {args : Array Operand} {X Y : AV} (h : args.toList.map s.ev = [X, Y]) : ∃ x y, args = #[x, y] ∧ s.ev x = X ∧ s.ev y = Y := by
 obtain ⟨l⟩ := args
 match l, h with
 | [x, y], h => exact ⟨x, y, rfl, by simpa using h⟩
theorem qF {D : Dec} (hI : bp w0 M Z0 b G s tv w) {bi : Builtin} {args : Array Operand} {tys : Array TypeId} {dst : Option Tmp} {ty : TypeId} {pos : String} {aft : Array Edge} {gd : Option (Nat × Bool)} {k : AV → List au → OR} {Q : Exit → Act → World → Prop}
   (hb : b + gi P D ⟨dst, .call ⟨.builtin bi, args, tys⟩, ty, pos, aft, gd⟩ ≤ s.heap.length) (h : gK P bi (args.toList.map s.ev) tys.toList s.heap b k = some r) :
   (Oper.mk dst (.call ⟨.builtin bi, args, tys⟩) ty pos aft gd).wp P ⟨tv.toArray, []⟩ w (pR w0 M Z0 (b + gi P D ⟨dst, .call ⟨.builtin bi, args, tys⟩, ty, pos, aft, gd⟩) G s tv dst k r) Q := by
 have hE := hI.ev
 have hle := Nat.le_add_right b (gi P D ⟨dst, .call ⟨.builtin bi, args, tys⟩, ty, pos, aft, gd⟩)
 have one : ∀ {X : AV}, args.toList.map s.ev = [X] → ∃ x, args = #[x] ∧ s.ev x = X := by
  intro X h
  obtain ⟨l⟩ := args
  match l, h with
  | [x], h => exact ⟨x, rfl, by simpa using h⟩
 have two : ∀ {X Y : AV}, args.toList.map s.ev = [X, Y] → ∃ x y, args = #[x, y] ∧ s.ev x = X ∧ s.ev y = Y := by
  intro X Y h
  obtain ⟨l⟩ := args
  match l, h with
  | [x, y], h => exact ⟨x, y, rfl, by simpa using h⟩
 unfold gK at h
 split at h
 ·rename_i X t ha ht
  obtain ⟨x, rfl, rfl⟩ := one ha
  have ht : tys = #[t] := by rw [← Array.toList_inj, ht]
  subst ht
  obtain ⟨v, Y, hk, hr, hv⟩ := xH (d := dst) (ty := ty) (pos := pos) (aft := aft) (gd := gd) hI (hE x) h
  exact bc hI hle hr hk hv.rv
 ·rename_i X Y t t' ha ht
  obtain ⟨x, y, rfl, rfl, rfl⟩ := two ha
  replace h := ar h; obtain ⟨htt, h⟩ := h
  simp only [Nat.beq_eq] at htt
  subst htt
  have ht : tys = #[t, t] := by rw [← Array.toList_inj, ht]
  subst ht
  have hb' : b < G.length := by rw [← hI.len]; simp only [gi] at hb; omega
  obtain ⟨v, h', G', w', X, hk, hr, h1, h2, h3, h4⟩ := o5 (d := dst) (ty := ty) (pos := pos) (aft := aft) (gd := gd) hI hb' (hE x) (hE y) h
  exact ic hr hk h1 h2.rv h3 h4
 ·rename_i X Y ha
  obtain ⟨x, y, rfl, rfl, rfl⟩ := two ha
  obtain ⟨v, X, hk, hr, hv⟩ := oO (mx := true) (tys := tys) (d := dst) (ty := ty) (pos := pos) (aft := aft) (gd := gd) (P := P) (w := w) (hE x) (hE y) h
  exact bc hI hle hr hk hv.rv
 ·rename_i X Y ha
  obtain ⟨x, y, rfl, rfl, rfl⟩ := two ha
  obtain ⟨v, X, hk, hr, hv⟩ := oO (mx := false) (tys := tys) (d := dst) (ty := ty) (pos := pos) (aft := aft) (gd := gd) (P := P) (w := w) (hE x) (hE y) h
  exact bc hI hle hr hk hv.rv
 ·cases h
theorem g9 {F : Callee} {D : Dec} (hF : dW P F) (hI : bp w0 M Z0 b G s tv w) {x : Operand} {args : Array Operand} {tys : Array TypeId} {dst : Option Tmp} {ty : TypeId} {pos : String} {aft : Array Edge} {gd : Option (Nat × Bool)} {k : AV → List au → OR} {Q : Exit → Act → World → Prop} {rm : Nat}
   (hb : b + rm ≤ s.heap.length) (h : (match s.ev x with
    | .v (.one (.fn f l)) => (v1L (args.toList.map s.ev)).bind fun vs => s4 P F D f (vs ++ l.map fun j => .one (.ptr j 0)) s.heap b rm k
    | _ => none) = some r) :
   (Oper.mk dst (.call ⟨.value x, args, tys⟩) ty pos aft gd).wp P ⟨tv.toArray, []⟩ w (pR w0 M Z0 (b + rm) G s tv dst k r) Q := by
 split at h
 ·rename_i f l hx
  have hX := hI.ev x
  rw [hx] at hX
  obtain ⟨⟨bs, hX, hh⟩, _⟩ := hX
  replace h := bind_some h; obtain ⟨vs, hvs, h⟩ := h
  have hcaps : aw (RV1 G (zn w0 Z0 s G) w) (l.map fun j => V1.one (.ptr j 0)) (bs.map fun b => pv b 0) := by
   refine ⟨by simp [hh.1], fun i a c ha hc => ?_⟩
   rw [List.getElem?_map] at ha hc
   obtain ⟨j, hj, rfl⟩ := Option.map_eq_some_iff.1 ha
   obtain ⟨bb, hbb, rfl⟩ := Option.map_eq_some_iff.1 hc
   refine ⟨?_, fun _ => rfl⟩
   rcases hh.2 i j bb hj hbb with h1 | ⟨T, vs, h1⟩
   ·exact .inl h1
   ·exact .inr ⟨bb, T, vs, h1, rfl⟩
  obtain ⟨hcb, hc⟩ := nQ hF hI (aw.append (oM hvs (hI.evL args.toList)) hcaps) hb h
  refine BW (f := f) (args := (args.toList.map (Act.eval ⟨tv.toArray, []⟩) ++ bs.map fun b => pv b 0).toArray) ?_ hc
  have := oF (P := P) (ρ := Act.eval ⟨tv.toArray, []⟩) (f := f) (x := x) (first := #[]) (cap := (bs.map fun b => pv b 0).toArray) (xs := args) (ats := tys) (d := dst) (ty := ty) (pos := pos) (aft := aft) (gd := gd) hX hcb w
  rw [this]
  congr 2
  exact Array.toList_inj.1 (by simp)
 ·cases h
theorem qB {F : Callee} {D : Dec} (hF : dW P F) (hib : ∀ f, D.ib f = true → kc P f) (hI : bp w0 M Z0 b G s tv w) {o : Oper} {k : AV → List au → OR} {Q : Exit → Act → World → Prop}
   (hb : b + gi P D o ≤ s.heap.length) (h : oX P F D o s.ev s.heap b k = some r) : o.wp P ⟨tv.toArray, []⟩ w (pR w0 M Z0 (b + gi P D o) G s tv o.dst k r) Q := by
 have hE := hI.ev
 obtain ⟨dst, op, ty, pos, aft, gd⟩ := o
 have hle := Nat.le_add_right b (gi P D ⟨dst, op, ty, pos, aft, gd⟩)
 cases op <;> simp only [oX] at h
 case move x => exact bc hI hle ((Ic (S := fun _ => True) rfl).out w trivial) h (qt _ (hE x))
 case assign x => exact bc hI hle ((Es (S := fun _ => True) rfl).out w trivial) h (qt _ (hE x))
 case pick c x y =>
  split at h
  ·rename_i t hc
   have hcv := hE c
   rw [hc] at hcv
   rcases cm h with ⟨rfl, h⟩ | ⟨rfl, h⟩
   ·exact bc hI hle ((Hh (S := fun _ => True) (cX hcv) rfl).out w trivial) h (hE x)
   ·exact bc hI hle ((GY (S := fun _ => True) (cX hcv) rfl).out w trivial) h (hE y)
  ·cases h
 case alloc e =>
  replace h := bind_some h; obtain ⟨z, hz, h⟩ := h
  obtain ⟨cs, hzb, hzr⟩ := uW hz
  have hb' : b < G.length := by rw [← hI.len]; simp only [gi] at hb; omega
  obtain ⟨h1, h2, h3⟩ := yI hI hb' (hzr G _ w) e
  exact ic (CR hzb) h h1 h2 (by simp) h3
 case box e x =>
  replace h := bind_some h; obtain ⟨c, hc, h⟩ := h
  obtain ⟨xs, hX, hr⟩ := m5 hc (hE x)
  have hb' : b < G.length := by rw [← hI.len]; simp only [gi] at hb; omega
  obtain ⟨h1, h2, h3⟩ := yI hI hb' hr e
  exact ic (Gb hX) h h1 h2 (by simp) h3
 case build t ps =>
  obtain ⟨v, X, hk, hr, hv⟩ := sI (ρ := Act.eval ⟨tv.toArray, []⟩) (d := dst) (ty := ty) (pos := pos) (aft := aft) (gd := gd) hE h
  exact bc hI hle hr hk hv
 case buildSlice t n ps =>
  have hb' : b < G.length := by rw [← hI.len]; simp only [gi] at hb; omega
  obtain ⟨v, h', G', w', X, hk, hr, h1, h2, h3, h4⟩ := ko (ρ := Act.eval ⟨tv.toArray, []⟩) (d := dst) (ty := ty) (pos := pos) (aft := aft) (gd := gd) hI hb' hE h
  exact ic hr hk h1 h2 h3 h4
 case load t x =>
  obtain ⟨v, X, hk, hr, hv⟩ := tM (d := dst) (ty := ty) (pos := pos) (aft := aft) (gd := gd) hI (hE x) h
  exact bc hI hle hr hk hv
 case store t x y =>
  obtain ⟨h', G', w', hk, hr, h1, h2, h3⟩ := q7 (d := dst) (ty := ty) (pos := pos) (aft := aft) (gd := gd) hI (hE x) (hE y) h
  simp only [Oper.wp, hr, Oper.upon]
  exact ⟨aa, h', G', _, hk, nA _ _ _, (h1.raise hle).put dst (fh _), h2, h3, undef, by cases dst <;> rfl⟩
 case nilCheck x =>
  obtain ⟨v, X, hk, hr, hv⟩ := wJ (d := dst) (ty := ty) (pos := pos) (aft := aft) (gd := gd) hI (hE x) h
  exact bc hI hle hr hk hv.rv
 case binOp op t x y t' =>
  obtain ⟨v, X, hk, hr, hv⟩ := wz (d := dst) (ty := ty) (pos := pos) (aft := aft) (gd := gd) (t' := t') (P := P) (w := w) (hE x) (hE y) h
  exact bc hI hle hr hk hv.rv
 case unOp op t x =>
  obtain ⟨v, X, hk, hr, hv⟩ := Ap (d := dst) (ty := ty) (t := t) (pos := pos) (aft := aft) (gd := gd) (P := P) (w := w) (hE x) h
  exact bc hI hle hr hk hv.rv
 case convert t t' x =>
  obtain ⟨v, X, hk, hr, hv⟩ := uY (d := dst) (ty := ty) (pos := pos) (aft := aft) (gd := gd) hI (hE x) h
  exact bc hI hle hr hk hv.rv
 case makeFunc fn first caps =>
  split at h
  ·rename_i f hfirst
   replace h := bind_some h; obtain ⟨l, hl, h⟩ := h
   obtain ⟨bs, hbs, hh⟩ := l7 hI (hI.evL caps.toList) hl
   have hf : first = #[] := by cases first; simp_all
   subst hf
   have hr : (execOp (Act.eval ⟨tv.toArray, []⟩) ⟨dst, .makeFunc (.func f) #[] caps, ty, pos, aft, gd⟩).run P w = .ok (.value (.func (.func f) #[] (bs.map fun b => pv b 0).toArray)) w := by
    have := (zR (P := P) (S := fun _ => True) (ρ := Act.eval ⟨tv.toArray, []⟩) (d := dst) (ty := ty) (pos := pos) (aft := aft) (gd := gd) (fn := .func f) (first := []) (cap := caps.toList) (vf := []) (vc := bs.map fun b => pv b 0) rfl hbs).out w trivial
    simpa using this
   exact bc hI hle hr h ⟨⟨bs, rfl, hh⟩, fun _ => rfl⟩
  ·cases h
 case makeSlice t x y =>
  have hb' : b < G.length := by rw [← hI.len]; simp only [gi] at hb; omega
  obtain ⟨v, h', G', w', X, hk, hr, h1, h2, h3, h4⟩ := th (ρ := Act.eval ⟨tv.toArray, []⟩) (d := dst) (ty := ty) (pos := pos) (aft := aft) (gd := gd) hI hb' (hE x) (hE y) h
  exact ic hr hk h1 h2.rv h3 h4
 case slice t x lo hi mx =>
  obtain ⟨v, h', X, hk, hr, hs, hv⟩ := sG (ρ := Act.eval ⟨tv.toArray, []⟩) (d := dst) (ty := ty) (pos := pos) (aft := aft) (gd := gd) hI hE h
  exact ic hr hk (hs.inv.raise hle) hv.rv (by have := hs.inv.len; have := hI.len; simp at *; omega) (Up.refl G)
 case fieldAddr t x i =>
  replace h := bind_some h; obtain ⟨D, hD, h⟩ := h
  obtain ⟨v, X, hk, hr, hv⟩ := qZ (d := dst) (ty := ty) (pos := pos) (aft := aft) (gd := gd) hI (hE x) hD h
  exact bc hI hle hr hk hv.rv
 case indexAddr t x y =>
  obtain ⟨v, X, hk, hr, hv⟩ := lN (d := dst) (ty := ty) (pos := pos) (aft := aft) (gd := gd) hI (hE x) (hE y) h
  exact bc hI hle hr hk hv.rv
 case index t x y =>
  obtain ⟨v, X, hk, hr, hv⟩ := sw (d := dst) (ty := ty) (pos := pos) (aft := aft) (gd := gd) (P := P) (w := w) (hE x) (hE y) h
  exact bc hI hle hr hk hv.rv
 case extract x i =>
  obtain ⟨v, X, hk, hr, hv⟩ := nr (d := dst) (ty := ty) (pos := pos) (aft := aft) (gd := gd) (P := P) (w := w) (hE x) h
  exact bc hI hle hr hk hv
 case call c =>
  obtain ⟨callee, args, tys⟩ := c
  cases callee with
  | builtin bi =>
   exact qF hI hb h
  | invoke q m => simp at h
  | value f =>
   cases f with
   | func f =>
    simp only at h
    rcases cm h with ⟨hi, h⟩ | ⟨_, h⟩
    ·split at h
     ·rename_i a n hargs
      obtain ⟨hn, hk⟩ := ar h
      simp only [Bool.and_eq_true, decide_eq_true_eq] at hn
      obtain ⟨x, y, rfl, e1, e2⟩ := Jw hargs
      have h1 := hE x
      have h2 := hE y
      rw [e1] at h1
      rw [e2] at h2
      have hy : Act.eval ⟨tv.toArray, []⟩ y = .int .u8 ((UInt8.ofNat n.toNat).toNat : Int) := by rw [Ct hn.1 hn.2]; exact gC h2
      exact bc hI hle ((xj (S := fun _ => True) (hib f hi) (lu h1) hy rfl).out w trivial) hk (dY _ _).rv
     ·cases h
    ·replace h := bind_some h; obtain ⟨vs, hvs, h⟩ := h
     obtain ⟨hcb, hc⟩ := nQ hF hI (oM hvs (hI.evL args.toList)) hb h
     refine BW (f := f) (args := (args.toList.map (Act.eval ⟨tv.toArray, []⟩)).toArray) ?_ hc
     have := oF (P := P) (ρ := Act.eval ⟨tv.toArray, []⟩) (f := f) (x := .func f) (first := #[]) (cap := #[]) (xs := args) (ats := tys) (d := dst) (ty := ty) (pos := pos) (aft := aft) (gd := gd) rfl hcb w
     rw [this]
     congr 2
     exact Array.toList_inj.1 (by simp)
   | tmp t => exact g9 hF hI hb h
   | const v => exact g9 hF hI hb h
   | global g => exact g9 (D := D) hF hI hb h
 all_goals cases h
end
end Go.Ab
namespace Go.Ab
open Go Go.Dk
section
variable {P : Program} {w0 w w' : World} {M Z0 : bn} {b : Nat} {G : List GO} {s : AS} {tv : List Value} {r : List V1 × List au}
theorem xg (hI : bp w0 M Z0 b G s tv w) {ops : List Oper} {o : Oper} {yes no : AS → OR} (h : Ax ops s o.guard yes no = some r) :
   (Region.wanted o (yielded ops.toArray tv.toArray) = true ∧ ∃ s', yes s' = some r ∧ bp w0 M Z0 b G s' tv w ∧ s'.heap = s.heap) ∨
   (Region.wanted o (yielded ops.toArray tv.toArray) = false ∧ ∃ s', no s' = some r ∧ bp w0 M Z0 b G s' tv w ∧ s'.heap = s.heap) := by
 unfold Ax at h
 split at h
 ·rename_i hg
  exact .inl ⟨by simp [Region.wanted, hg], s, h, hI, rfl⟩
 ·rename_i j want hg
  split at h
  ·rename_i d hd
   split at h
   ·rename_i bb hb
    have hdl : s.tmps[d]? = some (.v (.one (.bool bb))) := by
     cases hs : s.tmps[d]? with
     | none => simp [List.getD, hs, aa] at hb
     | some v => simp [List.getD, hs] at hb; rw [hb]
    obtain ⟨X, hX, hr⟩ := hI.st.per.1.get hdl
    have hX' := cX hr
    subst hX'
    have hy : yielded ops.toArray tv.toArray j = some bb := by
     have hd' : (ops.toArray[j]?).bind (·.dst) = some d := by simpa using hd
     simp only [yielded, hd', Option.bind_some]
     have : tv.toArray[d]? = some (.bool bb) := by simpa using hX
     rw [this]
    have hput : ∀ c, c = bb → bp w0 M Z0 b G (s.put (some d) (jz c)) tv w := by
     rintro c rfl
     have := hI.put (some d) (v := jz c) (X := .bool c) ⟨rfl, fun _ => rfl⟩
     simp only at this
     rw [jl hX] at this
     exact this
    have hw : Region.wanted o (yielded ops.toArray tv.toArray) = (bb == want) := by
     simp only [Region.wanted, hg, hy]; rfl
    cases bb <;> cases want <;> simp only [cond_true, cond_false] at h
    ·exact .inl ⟨hw, _, h, hput _ rfl, rfl⟩
    ·exact .inr ⟨hw, _, h, hput _ rfl, rfl⟩
    ·exact .inr ⟨hw, _, h, hput _ rfl, rfl⟩
    ·exact .inl ⟨hw, _, h, hput _ rfl, rfl⟩
   ·rename_i hb
    have hdl : s.tmps[d]? = some (.tup []) := by
     cases hs : s.tmps[d]? with
     | none => simp [List.getD, hs, aa] at hb
     | some v => simp [List.getD, hs] at hb; rw [hb]
    obtain ⟨X, hX, xs, hXe, hr⟩ := hI.st.per.1.get hdl
    obtain rfl := hr.a0
    subst hXe
    have hy : yielded ops.toArray tv.toArray j = none := by
     have hd' : (ops.toArray[j]?).bind (·.dst) = some d := by simpa using hd
     simp only [yielded, hd', Option.bind_some]
     have : tv.toArray[d]? = some (.tuple #[]) := by simpa using hX
     rw [this]
    have hw : Region.wanted o (yielded ops.toArray tv.toArray) = false := by
     simp only [Region.wanted, hg, hy]; rfl
    exact .inr ⟨hw, s, h, hI, rfl⟩
   ·cases h
  ·cases h
theorem GL {o : Oper} {t t' : TypeId} {x : Operand} {a : Option Addr} {n c : Nat} {ρ : Operand → Value} (ho : o.op = .binOp .eql t x (.const (.slice none 0 0)) t') (hk : (ct P t).isSome = true) (hx : ρ x = .slice a n c) (hy : ρ (.const (.slice none 0 0)) = .slice none 0 0) :
   (execOp ρ o).run P w = .ok (.value (.bool a.isNone)) w := by
 obtain ⟨e, he⟩ : ∃ e, P.underlying t = some (.slice e) := by
  unfold ct at hk
  split at hk
  ·exact ⟨_, ‹_›⟩
  ·cases hk
 have hq : (Op.equal t (.slice a n c) (.slice none 0 0)).run P w = .ok a.isNone w := by
  unfold Op.equal
  rw [show Op.maxDepth = 9999 + 1 from rfl, Op.equalIn]
  cases a <;> simp [Sem.run_bind, run_underlying he]
 obtain ⟨dst, op, ty, pos, aft, gd⟩ := o
 simp only at ho
 subst ho
 simp only [execOp, hx, hy, eqGuard, binOp, Sem.run_bind]
 simp [hq, Sem.run_bind]
theorem Bj {Z : bn} : RV G Z w F9 undef := ⟨[], rfl, aw.nil⟩
theorem Ef {o : Oper} {ρ : Operand → AV} {m : Nat} (h : JS P o ρ = some m) : ∃ t x t', o.op = .binOp .eql t x (.const (.slice none 0 0)) t' ∧ (ct P t).isSome = true ∧ ∃ d, ρ x = .v (.one (.fr d)) ∧ m = d.len := by
 unfold JS at h
 split at h
 ·rename_i t x t' ho
  split at h
  ·rename_i e d hk hx
   exact ⟨t, x, t', ho, by rw [hk]; rfl, d, hx, (Option.some.inj h).symm⟩
  ·cases h
 ·cases h
theorem gW {F : Callee} {D : Dec} (hF : dW P F) (hib : ∀ f, D.ib f = true → kc P f) {ops : List Oper} {k : AS → OR} {Q : Exit → Act → World → Prop} : ∀ {l : List Oper} {b : Nat} {s : AS} {G : List GO} {tv : List Value} {w : World},
   bp w0 M Z0 b G s tv w → b + room P D l ≤ s.heap.length → pr P F D ops l b s k = some r →
   (∀ s' G' tv' w', k s' = some r → bp w0 M Z0 s'.heap.length G' s' tv' w' → Up G G' → Q .normal ⟨tv'.toArray, []⟩ w') → wpList P ops.toArray Q l ⟨tv.toArray, []⟩ w
 | [], b, s, G, tv, w, hI, hb, h, hQ => hQ s G tv w h (hI.raise (by simp only [room] at hb; omega)) (Up.refl G)
 | o :: l, b, s, G, tv, w, hI, hb, h, hQ => by
  simp only [room] at hb
  unfold pr at h
  unfold wpList
  rcases xg hI h with ⟨hw, s', h, hI', hh⟩ | ⟨hw, s', h, hI', hh⟩
  ·rw [if_pos hw]
   split at h
   ·rename_i m hm
    have hput : ∀ (d : Option Tmp) (s : AS) (v : AV), (s.put d v).heap = s.heap := fun d s v => by cases d <;> rfl
    obtain ⟨t, x, t', hop, hk, d, hx, rfl⟩ := Ef hm
    have hxr := hI'.ev x
    rw [hx] at hxr
    obtain ⟨⟨a, c, xs, hX, hc1, hc2, hel, hnz⟩, _⟩ := hxr
    obtain ⟨dst, op, ty, pos, aft, gd⟩ := o
    simp only at hop
    subst hop
    have hrun := GL (P := P) (o := ⟨dst, .binOp .eql t x (.const (.slice none 0 0)) t', ty, pos, aft, gd⟩) (w := w) (ρ := Act.eval ⟨tv.toArray, []⟩) rfl hk hX rfl
    have key : ∀ bb, a.isNone = bb → pr P F D ops l (b + gi P D ⟨dst, .binOp .eql t x (.const (.slice none 0 0)) t', ty, pos, aft, gd⟩) (s'.put dst (jz bb)) k = some r →
       Oper.wp P ⟨dst, .binOp .eql t x (.const (.slice none 0 0)) t', ty, pos, aft, gd⟩ ⟨tv.toArray, []⟩ w (fun a' w' => wpList P ops.toArray Q l a' w') Q := by
     intro bb hbb h
     refine Oper.wp_mono (fun a' w' hst => ?_) (bc (k := fun v h => pr P F D ops l (b + gi P D ⟨dst, .binOp .eql t x (.const (.slice none 0 0)) t', ty, pos, aft, gd⟩) (({ s' with heap := h } : AS).put dst v) k) (v := jz bb) (Q := Q) hI' (Nat.le_add_right b (gi P D ⟨dst, .binOp .eql t x (.const (.slice none 0 0)) t', ty, pos, aft, gd⟩)) hrun h (by rw [hbb]; exact ⟨rfl, fun _ => rfl⟩))
     obtain ⟨v, h', G', tv', hk, rfl, hI2, hl, hu, _⟩ := hst
     refine gW hF hib (k := k) hI2 ?_ hk fun s2 G2 tv2 w2 h2 hI3 hu2 => hQ s2 G2 tv2 w2 h2 hI3 (hu.trans hu2)
     rw [hput]; show _ ≤ h'.length; rw [hl, hh]; omega
    refine .inl ?_
    rcases cm h with ⟨hm0, h⟩ | ⟨hm0, h⟩
    ·obtain ⟨h1, h2⟩ := DM h
     cases hb : a.isNone with
     | true => exact key true hb h1
     | false => exact key false hb h2
    ·refine key false ?_ h
     rcases hnz with hnz | ⟨ab, ao, ha, _⟩
     ·have := hel.length
      rw [hnz] at this
      simp only [List.length_nil] at this
      have hd0 : d.len ≠ 0 := fun e => by rw [e] at hm0; cases hm0
      have hkz : 0 < d.kind.size := by cases d <;> simp [SD.kind, SK.size]
      have := Nat.mul_pos (Nat.pos_of_ne_zero hd0) hkz
      omega
     ·rw [ha]; rfl
   refine .inl (Oper.wp_mono (fun a' w' hst => ?_) (qB (Q := Q) hF hib hI' (by rw [hh]; omega) h))
   obtain ⟨v, h', G', tv', hk, rfl, hI2, hl, hu, _⟩ := hst
   have hput : ∀ (d : Option Tmp) (s : AS) (v : AV), (s.put d v).heap = s.heap := fun d s v => by cases d <;> rfl
   refine gW hF hib (k := k) hI2 ?_ hk fun s2 G2 tv2 w2 h2 hI3 hu2 => hQ s2 G2 tv2 w2 h2 hI3 (hu.trans hu2)
   rw [hput]; show _ ≤ h'.length; rw [hl, hh]; omega
  ·rw [if_neg (by simp [hw])]
   rw [nA]
   have hput : ∀ (d : Option Tmp) (s : AS) (v : AV), (s.put d v).heap = s.heap := fun d s v => by cases d <;> rfl
   exact gW hF hib (k := k) ((hI'.put o.dst Bj).raise (Nat.le_add_right _ _)) (by rw [hput, hh]; omega) h hQ
theorem AN (h : List au) (G : List GO) (n : Nat) (hl : h.length = G.length) : aY (h ++ List.replicate n .dead) (G ++ List.replicate n .fresh) = aY h G := by
 rw [bH hl, vi, List.append_nil]
theorem bp.grow (hI : bp w0 M Z0 b G s tv w) (n : Nat) : bp w0 M Z0 s.heap.length (G ++ List.replicate n .fresh) (grow n s) tv w := by
 have hr := AN s.heap G n hI.len
 refine ⟨?_, fun j hj hl => ?_, hI.mz⟩
 ·have := hI.st
  rw [← hr] at this
  refine this.jP (aS _ _ _) fun hh => ⟨hh.1.mono fun _ _ _ q => q.up (Up.append _ _), ?_⟩
  exact aw.append (hh.2.mono fun _ _ _ q => q.up (Up.append _ _)) (aw.replicate trivial n)
 ·rw [hI.len] at hj
  rw [List.length_append, List.length_replicate] at hl
  rw [List.getElem?_append_right hj, List.getElem?_replicate, if_pos (by omega)]
end
end Go.Ab
end
section
namespace Go.Ab
open Go Go.Dk
section
variable {P : Program} {w0 w w' : World} {M Z0 Z : bn} {b : Nat} {G G0 : List GO} {s : AS} {tv : List Value} {r : List V1 × List au}
theorem yF (live : List Nat) : ∀ (i : Nat) {l : List AV} {xs : List Value}, aw (RV G Z w) l xs → aw (RV G Z w) (g8 live i l) xs
 | i, [], xs, h => h
 | i, v :: l, xs, h => by
  obtain ⟨X, xs', rfl, h1, h2⟩ := h.cons_inv
  refine aw.cons ?_ (yF live (i + 1) h2)
  cases dh i live
  ·exact fh X
  ·exact h1
theorem zV (hI : bp w0 M Z0 b G s tv w) (live : List Nat) : bp w0 M Z0 b G ⟨g8 live 0 s.tmps, s.heap⟩ tv w :=
 ⟨hI.st.jP (aS _ _ _) fun hh => ⟨yF live 0 hh.1, hh.2⟩, hI.fresh, hI.mz⟩
theorem y6 : ∀ {l m : List Nat}, zj l m = true → l = m
 | [], [], _ => rfl
 | a :: l, c :: m, h => by simp only [zj, Bool.and_eq_true, Nat.beq_eq] at h; rw [h.1, y6 h.2]
 | [], _ :: _, h => by cases h
 | _ :: _, [], h => by cases h
theorem UpW.sel {js : List Nat} {m : Nat} (h : UpW G0 G) (hm : G0.length = m) (hj : js.take m = List.range m) : UpW G0 (iG js G) := by
 have key : ∀ j g, j < m → G[j]? = some g → (iG js G)[j]? = some g := by
  intro j g hjm hg
  have : js[j]? = some j := by
   have := congrArg (fun l => l[j]?) hj
   simp only [List.getElem?_take, if_pos hjm] at this
   rw [this]; simp [hjm]
  exact dn this hg
 intro j
 refine ⟨fun hh => ?_, fun b T vs hh => ?_, fun ver val sz xs hh => ?_⟩
 ·exact key j _ (by rw [← hm]; exact aD hh) ((h j).1 hh)
 ·have hl : j < m := by rw [← hm]; exact aD hh
  rcases (h j).2.1 b T vs hh with h1 | ⟨T', vs', h1⟩
  ·exact .inl (key j _ hl h1)
  ·exact .inr ⟨T', vs', key j _ hl h1⟩
 ·have hl : j < m := by rw [← hm]; exact aD hh
  rcases (h j).2.2 _ _ _ _ hh with h1 | ⟨a, c, d, h1⟩
  ·exact .inl (key j _ hl h1)
  ·exact .inr ⟨a, c, d, key j _ hl h1⟩
theorem xN {m : Nat} (hI : bp w0 M Z0 s.heap.length G s tv w) (hu : UpW G0 G) (hm : G0.length = m) : ∃ G', bp w0 M Z0 (gc m s).heap.length G' (gc m s) tv w ∧ UpW G0 G' := by
 have hg : gc m s = s ∨ ∃ js, DA js s.heap.length = true ∧ zj (js.take m) (List.range m) = true ∧ gc m s = ⟨s.tmps.map (JK js), tW js s.heap⟩ := by
  unfold gc
  generalize reach s.heap 64 _ _ = js
  cases hc : (DA js s.heap.length && zj (js.take m) (List.range m)) with
  | false => exact .inl (by simp [hc])
  | true =>
   have hc' := hc
   simp only [Bool.and_eq_true] at hc'
   exact .inr ⟨js, hc'.1, hc'.2, by simp [hc]⟩
 rcases hg with hg | ⟨js, h1, h2, hg⟩
 ·rw [hg]; exact ⟨G, hI, hu⟩
 ·rw [hg]
  exact ⟨iG js G, (hI.sel h1).raise (by simp [tW]), hu.sel hm (y6 h2)⟩
def sJ (o : au) (g : GO) : Prop := ∃ (e : TypeId × SK) (a : Option Addr), o = .arr e.1 e.2.nil 0 false ∧ g = .arr 0 (.slice a 0 0) e.2.size []
def At_ (b : Nat) (N G' : List GO) : Prop := ∀ (i : Nat) g, N[i]? = some g → G'[b + i]? = some g
theorem At_.left {N N' G' : List GO} (h : At_ b (N ++ N') G') : At_ b N G' := fun i g hg => h i g (by rw [List.getElem?_append_left (aD hg)]; exact hg)
theorem At_.right {N N' G' : List GO} (h : At_ b (N ++ N') G') : At_ (b + N.length) N' G' := fun i g hg => by
 have := h (N.length + i) g (by rw [List.getElem?_append_right (by omega)]; simpa using hg)
 rw [Nat.add_assoc]; exact this
theorem pZ {v : SV} {X : Value} (h : cO G Z w v X) : ∃ N, aw sJ (HD b v).2 N ∧ ∀ G', At_ b N G' → Up G G' → cO G' Z w (HD b v).1 X := by
 unfold HD
 split
 ·rename_i e
  obtain ⟨⟨a, rfl⟩, h2⟩ := h
  refine ⟨[.arr 0 (.slice a 0 0) e.2.size []], aw.cons ⟨e, a, rfl, rfl⟩ aw.nil, fun G' hA hu => ⟨.inr ⟨0, _, _, _, hA 0 _ rfl, Nat.le_refl _, fun _ => rfl⟩, h2⟩⟩
 ·exact ⟨[], aw.nil, fun G' _ hu => ⟨h.1.up hu, h.2⟩⟩
theorem ln : ∀ {l : List SV} {xs : List Value} {b : Nat}, aw (cO G Z w) l xs → ∃ N, aw sJ (Hx b l).2 N ∧ ∀ G', At_ b N G' → Up G G' → aw (cO G' Z w) (Hx b l).1 xs
 | [], xs, b, h => ⟨[], aw.nil, fun _ _ _ => by obtain rfl := h.a0; exact aw.nil⟩
 | v :: l, xs, b, h => by
  obtain ⟨X, xs', rfl, h1, h2⟩ := h.cons_inv
  obtain ⟨N1, a1, c1⟩ := pZ (b := b) h1
  obtain ⟨N2, a2, c2⟩ := ln (b := b + (HD b v).2.length) h2
  refine ⟨N1 ++ N2, aw.append a1 a2, fun G' hA hu => aw.cons (c1 G' hA.left hu) (c2 G' (by rw [a1.1]; exact hA.right) hu)⟩
theorem Au {v : AV} {X : Value} {b : Nat} (h : RV G Z w v X) : ∃ N, aw sJ (JN b v).2 N ∧ ∀ G', At_ b N G' → Up G G' → RV G' Z w (JN b v).1 X := by
 cases v with
 | v x => cases x with
  | one x =>
   by_cases hx : x = .any
   ·subst hx
    exact ⟨[], aw.nil, fun G' _ _ => fh X⟩
   ·obtain ⟨N, a, c⟩ := pZ (b := b) ⟨h.1, h.2 hx⟩
    exact ⟨N, a, fun G' hA hu => (c G' hA hu).rv⟩
  | agg l =>
   obtain ⟨xs, hX, hh⟩ := h
   obtain ⟨N, a, c⟩ := ln (b := b) hh
   exact ⟨N, a, fun G' hA hu => ⟨xs, hX, c G' hA hu⟩⟩
 | tup l => exact ⟨[], aw.nil, fun G' _ hu => RV.up hu h⟩
theorem jV : ∀ {l : List AV} {xs : List Value} {b : Nat}, aw (RV G Z w) l xs → ∃ N, aw sJ (kZ b l).2 N ∧ ∀ G', At_ b N G' → Up G G' → aw (RV G' Z w) (kZ b l).1 xs
 | [], xs, b, h => ⟨[], aw.nil, fun _ _ _ => by obtain rfl := h.a0; exact aw.nil⟩
 | v :: l, xs, b, h => by
  obtain ⟨X, xs', rfl, h1, h2⟩ := h.cons_inv
  obtain ⟨N1, a1, c1⟩ := Au (b := b) h1
  obtain ⟨N2, a2, c2⟩ := jV (b := b + (JN b v).2.length) h2
  refine ⟨N1 ++ N2, aw.append a1 a2, fun G' hA hu => aw.cons (c1 G' hA.left hu) (c2 G' (by rw [a1.1]; exact hA.right) hu)⟩
theorem jt : ∀ {h : List au} {gs : List GO} {b : Nat}, aw (RO G Z w) h gs → ∃ N, aw sJ (yK b h).2 N ∧ (∀ G', At_ b N G' → Up G G' → aw (RO G' Z w) (yK b h).1 gs) ∧ aY (yK b h).1 gs = aY h gs
 | [], gs, b, h => ⟨[], aw.nil, fun _ _ _ => by obtain rfl := h.a0; exact aw.nil, rfl⟩
 | o :: h, gs, b, hh => by
  obtain ⟨g, gs', rfl, h1, h2⟩ := hh.cons_inv
  cases o with
  | cells c =>
   cases g with
   | cells bb T vs =>
    obtain ⟨N1, a1, c1⟩ := ln (b := b) h1
    obtain ⟨N2, a2, c2, e2⟩ := jt (b := b + (Hx b c).2.length) h2
    refine ⟨N1 ++ N2, aw.append a1 a2, fun G' hA hu => aw.cons (c1 G' hA.left hu) (c2 G' (by rw [a1.1]; exact hA.right) hu), ?_⟩
    simp only [yK, aY, jC, e2]
   | _ => exact h1.elim
  | arr e D v z =>
   obtain ⟨N2, a2, c2, e2⟩ := jt (b := b) h2
   exact ⟨N2, a2, fun G' hA hu => aw.cons (RO.up hu h1) (c2 G' hA hu), by simp only [yK, aY, e2]⟩
  | dead =>
   obtain ⟨N2, a2, c2, e2⟩ := jt (b := b) h2
   exact ⟨N2, a2, fun G' hA hu => aw.cons (RO.up hu h1) (c2 G' hA hu), by simp only [yK, aY, e2]⟩
theorem qY : ∀ {o : List au} {N : List GO}, aw sJ o N → ∀ q ∈ aY o N, (∀ k, ¬ q.foot k) ∧ q.own w ∧ q.Local
 | [], N, h, q, hq => by simp [aY] at hq
 | o :: os, N, h, q, hq => by
  obtain ⟨g, N', rfl, ⟨e, a, rfl, rfl⟩, h2⟩ := h.cons_inv
  simp only [aY, List.mem_append, jC, List.mem_singleton] at hq
  rcases hq with rfl | hq
  ·rw [SK.iJ]
   exact ⟨fun k h => h, ⟨rfl, rfl, rfl⟩, fun _ _ _ h => h⟩
  ·exact qY h2 q hq
theorem Fb {o : List au} {N : List GO} (h : aw sJ o N) : aw (RO G Z w) o N :=
 h.mono fun o g _ ⟨e, a, ho, hg⟩ => by
  subst ho hg
  exact ⟨rfl, by rw [SK.y3], jo e.2, a, 0, by rw [SK.iJ]⟩
theorem _root_.Go.Dk.St.BH {L L' : List Res} {φ : Fact} (h : St w0 M Z0 L φ w) (h' : ∀ q ∈ L', (∀ k, ¬ q.foot k) ∧ q.own w ∧ q.Local) : St w0 M Z0 (L ++ L') φ w := by
 refine ⟨h.ext, ?_, ?_, ?_, ?_, h.stab, ?_⟩
 ·intro q hq; exact (List.mem_append.1 hq).elim (h.own q) (fun hq => (h' q hq).2.1)
 ·intro q hq; exact (List.mem_append.1 hq).elim (h.loc q) (fun hq => (h' q hq).2.2)
 ·intro q hq k hk; exact (List.mem_append.1 hq).elim (fun hq => h.key q hq k hk) (fun hq => ((h' q hq).1 k hk).elim)
 ·refine List.pairwise_append.2 ⟨h.dis, ?_, fun q hq p hp k _ hk => (h' p hp).1 k hk⟩
  exact List.Pairwise.imp_of_mem (fun ha _ _ k hk _ => (h' _ ha).1 k hk) (List.pairwise_of_forall (fun _ _ => trivial) : List.Pairwise (fun _ _ => True) L')
 ·refine h.stab _ _ w w (fun k hz _ => ⟨⟨hz.1, fun q hq hf => ?_⟩, rfl⟩) h.per
  exact (List.mem_append.1 hq).elim (fun hq => hz.2 q hq hf) (fun hq => (h' q hq).1 k hf)
theorem sX (hI : bp w0 M Z0 s.heap.length G s tv w) (hu : UpW G0 G) : ∃ G', bp w0 M Z0 (qc s).heap.length G' (qc s) tv w ∧ UpW G0 G' := by
 obtain ⟨N1, a1, c1⟩ := jV (b := s.heap.length) hI.st.per.1
 obtain ⟨N2, a2, c2, e2⟩ := jt (b := s.heap.length + (kZ s.heap.length s.tmps).2.length) hI.st.per.2
 have hup := Up.append G (N1 ++ N2)
 refine ⟨G ++ (N1 ++ N2), ⟨?_, fun j hj hl => ?_, hI.mz⟩, hu.trans hup.jP⟩
 ·have hnew := aw.append a1 a2
  have hL : aY (qc s).heap (G ++ (N1 ++ N2)) = aY s.heap G ++ aY ((kZ s.heap.length s.tmps).2 ++ (yK (s.heap.length + (kZ s.heap.length s.tmps).2.length) s.heap).2) (N1 ++ N2) := by
   show aY ((yK (s.heap.length + (kZ s.heap.length s.tmps).2.length) s.heap).1 ++ _) _ = _
   have hlen : (yK (s.heap.length + (kZ s.heap.length s.tmps).2.length) s.heap).1.length = G.length := by
    have := c2 (G ++ (N1 ++ N2)) (fun i g hg => by
     have hl := aD hg
     rw [a1.1, hI.len, List.getElem?_append_right (by omega), List.getElem?_append_right (by omega)]
     rw [show G.length + N1.length + i - G.length - N1.length = i by omega]; exact hg) hup
    exact this.1
   rw [bH hlen, e2]
  have hS := hI.st.BH (qY (w := w) hnew)
  rw [← hL] at hS
  refine hS.jP (aS _ _ _) fun hh => ?_
  obtain ⟨N1', a1', c1'⟩ := jV (b := s.heap.length) hh.1
  have hk : ∀ k, zn w0 Z0 s G k → jw w0 Z0 (aY (qc s).heap (G ++ (N1 ++ N2))) k := fun k hk => ⟨hk.1, fun q hq hf => by
   rw [hL] at hq
   exact (List.mem_append.1 hq).elim (fun hq => hk.2 q hq hf) (fun hq => (qY (w := w) hnew q hq).1 k hf)⟩
  have hA1 : At_ s.heap.length N1 (G ++ (N1 ++ N2)) := fun i g hg => by
   have hl := aD hg
   rw [hI.len, List.getElem?_append_right (by omega), show G.length + i - G.length = i by omega, List.getElem?_append_left hl]; exact hg
  have hA2 : At_ (s.heap.length + (kZ s.heap.length s.tmps).2.length) N2 (G ++ (N1 ++ N2)) := fun i g hg => by
   rw [a1.1, hI.len, List.getElem?_append_right (by omega), List.getElem?_append_right (by omega)]
   rw [show G.length + N1.length + i - G.length - N1.length = i by omega]; exact hg
  refine ⟨(c1 _ hA1 hup).mono fun _ _ _ q => q.aN (aP hk), ?_⟩
  exact aw.append ((c2 _ hA2 hup).mono fun _ _ _ q => q.aN (aP hk)) (Fb hnew)
 ·exfalso
  have h1 : (qc s).heap.length = s.heap.length + ((kZ s.heap.length s.tmps).2.length + (yK (s.heap.length + (kZ s.heap.length s.tmps).2.length) s.heap).2.length) := by
   show ((yK (s.heap.length + (kZ s.heap.length s.tmps).2.length) s.heap).1 ++ _).length = _
   have := c2 (G ++ (N1 ++ N2)) (fun i g hg => by
      have hl := aD hg
      rw [a1.1, hI.len, List.getElem?_append_right (by omega), List.getElem?_append_right (by omega)]
      rw [show G.length + N1.length + i - G.length - N1.length = i by omega]; exact hg) hup
   rw [List.length_append, List.length_append, this.1, hI.len]
  have e1 := a1.1
  have e2 := a2.1
  have e3 := hI.len
  rw [h1] at hj
  rw [List.length_append, List.length_append] at hl
  omega
def v0 : GO → GO
 | .arr _ v sz xs => .arr 0 v sz xs
 | g => g
theorem od {h : List au} (hh : aw (RO G Z w) h G) {v : SV} {X : Value} (hx : RS G Z w v X) : RS (G.map v0) Z w (DX h v) X := by
 cases v with
 | own j v =>
  show RS _ _ _ (match h[j]? with | some (.arr _ _ ver _) => cond (Nat.beq v ver) (.own j 0) .any | _ => .any) X
  split
  ·rename_i hj
   rename_i ver _
   cases hv : Nat.beq v ver with
   | false => trivial
   | true =>
    simp only [Nat.beq_eq] at hv
    obtain ⟨g, hg, hr⟩ := hh.get hj
    cases g with
    | arr ver' val sz xs =>
     obtain ⟨rfl, _⟩ := hr
     exact .inr ⟨0, val, sz, xs, by simp [hg, v0], Nat.le_refl _, fun _ => iK hx hg hv⟩
    | _ => exact hr.elim
  ·trivial
 | ptr j o =>
  rcases hx with hx | ⟨bb, T, vs, hg, he⟩
  ·exact .inl (by simp [hx, v0])
  ·exact .inr ⟨bb, T, vs, by simp [hg, v0], he⟩
 | op j v i o => trivial
 | fn f l =>
  obtain ⟨bs, hX, hb⟩ := hx
  refine ⟨bs, hX, hb.mono fun j bb _ h => ?_⟩
  rcases h with h | ⟨T, vs, h⟩
  ·exact .inl (by simp [h, v0])
  ·exact .inr ⟨T, vs, by simp [h, v0]⟩
 | _ => exact hx
theorem zH (hI : bp w0 M Z0 s.heap.length G s tv w) (hu : UpW G0 G) : ∃ G', bp w0 M Z0 (Hu s).heap.length G' (Hu s) tv w ∧ UpW G0 G' := by
 have hL : ∀ (h : List au) (gs : List GO) (h0 : List au), aY (h.map (H4 h0)) (gs.map v0) = aY h gs := by
  intro h
  induction h with
  | nil => intro gs h0; rfl
  | cons o h ih =>
   intro gs h0
   cases gs with
   | nil => rfl
   | cons g gs =>
    simp only [List.map_cons, aY, ih]
    congr 1
    cases o with
    | arr e D v z => cases g <;> cases z <;> rfl
    | _ => cases g <;> rfl
 refine ⟨G.map v0, ⟨?_, fun j hj hl => ?_, hI.mz⟩, ?_⟩
 ·have hS := hI.st
  rw [← hL s.heap G s.heap] at hS
  refine hS.jP (aS _ _ _) fun hh => ⟨?_, ?_⟩
  ·refine hh.1.eQ fun v X hx => ?_
   cases v with
   | v x => cases x with
    | one x =>
     refine ⟨od hh.2 hx.1, fun hne => hx.2 ?_⟩
     rintro rfl; exact hne rfl
    | agg l =>
     obtain ⟨xs, hX, hc⟩ := hx
     exact ⟨xs, hX, hc.eQ fun _ _ q => ⟨od hh.2 q.1, q.2⟩⟩
   | tup l => exact fh X
  ·have hh2 := hh.2
   refine ⟨by simp [Hu, hh2.1], fun i o g ho hg => ?_⟩
   simp only [Hu, List.getElem?_map] at ho hg
   obtain ⟨o', ho', rfl⟩ := Option.map_eq_some_iff.1 ho
   obtain ⟨g', hg', rfl⟩ := Option.map_eq_some_iff.1 hg
   have hr := hh2.2 i o' g' ho' hg'
   cases o' with
   | cells l => cases g' with
    | cells bb T vs => exact aw.eQ hr fun _ _ q => ⟨od hh2 q.1, q.2⟩
    | _ => exact hr.elim
   | arr e D v z => cases g' with
    | arr ver val sz xs => obtain ⟨_, h2, h3⟩ := hr; exact ⟨rfl, h2, h3⟩
    | _ => exact hr.elim
   | dead => cases g' <;> first | trivial | exact hr.elim
 ·exfalso
  simp [Hu] at hj hl
  rw [hI.len] at hj; omega
 ·refine hu.trans fun j => ⟨fun hh => by simp [hh, v0], fun bb T vs hh => .inr ⟨T, vs, by simp [hh, v0]⟩, fun ver val sz xs hh => .inr ⟨0, val, xs, by simp [hh, v0]⟩⟩
theorem lW {m : Nat} {live : Option (List Nat)} (hI : bp w0 M Z0 s.heap.length G s tv w) (hu : UpW G0 G) (hm : G0.length = m) :
   ∃ G', bp w0 M Z0 (mu m live s).heap.length G' (mu m live s) tv w ∧ UpW G0 G' := by
 cases live with
 | none => exact ⟨G, hI, hu⟩
 | some live =>
  obtain ⟨G1, h1, u1⟩ := xN (s := ⟨g8 live 0 s.tmps, s.heap⟩) (zV hI live) hu hm
  obtain ⟨G2, h2, u2⟩ := sX h1 u1
  obtain ⟨G3, h3, u3⟩ := xN h2 u2 hm
  exact zH h3 u3
end
end Go.Ab
namespace Go.Ab
open Go Go.Dk
section
variable {P : Program} {w0 w w' : World} {M Z0 Z : bn} {b : Nat} {G G0 : List GO} {s : AS} {tv : List Value} {r : List V1 × List au}
theorem kY (hI : bp w0 M Z0 b G s tv w) : ∀ {l : List ResultVar} {k : List V1 → OR}, HG P s l k = some r →
   ∃ vs xs, k vs = some r ∧ aw (RV1 G (zn w0 Z0 s G) w) vs xs ∧ (l.mapM (iY tv.toArray)).run P w = .ok xs w
 | [], k, h => ⟨[], [], h, aw.nil, rfl⟩
 | .tmp t :: l, k, h => by
  unfold HG at h
  split at h
  ·rename_i x hx
   obtain ⟨vs, xs, hk, hr, hrun⟩ := kY hI h
   have hv := qQ (da := aa) (db := undef) hI.st.per.1 fh t
   rw [hx] at hv
   refine ⟨_, tv.getD t undef :: xs, hk, aw.cons hv hr, ?_⟩
   have h1 : (iY tv.toArray (.tmp t)).run P w = .ok (tv.getD t undef) w := JR rfl
   simp only [List.mapM_cons, Sem.run_bind, h1, Result.andThen_ok, hrun, Sem.run_pure]
  ·cases h
 | .cell a t :: l, k, h => by
  unfold HG at h
  obtain ⟨v, X, bb, o, h, hp, hl, hv⟩ := ov (VX := tv.getD a undef) hI (qQ hI.st.per.1 fh a) h
  split at h
  ·rename_i x
   obtain ⟨vs, xs, hk, hr, hrun⟩ := kY hI h
   refine ⟨_, X :: xs, hk, aw.cons hv hr, ?_⟩
   have h1 : (iY tv.toArray (.cell a t)).run P w = .ok X w := H8 (ad := ⟨bb, o, none⟩) hp hl
   simp only [List.mapM_cons, Sem.run_bind, h1, Result.andThen_ok, hrun, Sem.run_pure]
  ·cases h
theorem xC {fn : Func} {xs : List Value} (h : (fn.results.toList.mapM (iY tv.toArray)).run P w = .ok xs w) :
   (results fn tv.toArray).run P w = .ok (if h : xs.toArray.size = 1 then xs.toArray[0] else .tuple xs.toArray) w := by
 rw [zW, Array.mapM_eq_mapM_toList]
 simp [Sem.run_bind, h, Sem.run_pure]
theorem qk (v : SV) : xI v (clean v) := by
 intro G G' Z w X h
 cases v <;> first | exact h | exact ⟨trivial, h.2⟩
theorem jY : ∀ l : List SV, aw xI l (l.map clean)
 | [] => aw.nil
 | v :: l => aw.cons (qk v) (jY l)
def DS (o : au) (g : GO) : Prop := ∀ (G G' : List GO) (Z : bn) (w : World), RO G Z w o g → RO G' Z w o g
theorem tP (e : TypeId) (D : SD) (v : Nat) (z : Bool) (g : GO) : DS (.arr e D v z) g := fun _ _ _ _ h => lM h
theorem wI (l : List SV) (g : GO) : DS (.cells (l.map clean)) g := by
 intro G G' Z w h
 cases g with
 | cells bb T vs =>
  refine aw.mono h fun v X hv hr => ?_
  obtain ⟨v', _, rfl⟩ := List.mem_map.1 hv
  have hr' : cO G Z w (clean v') X := hr
  have : ∀ v, clean (clean v) = clean v := by intro v; cases v <;> rfl
  have h2 := qk (clean v') G G' Z w X hr'
  rw [this] at h2; exact h2
 | _ => exact h
structure cU (w0 : World) (M Z0 : bn) (m : Nat) (G : List GO) (tm : List AV) (tv : List Value) (w : World) (h acc : List au) (A : List GO) : Prop where
 inv : bp w0 M Z0 (h.length + acc.length) (G ++ A) ⟨tm, h ++ acc⟩ tv w
 len : h.length = G.length
 alone : aw DS acc A
theorem cU.JM {m : Nat} {tm : List AV} {h acc : List au} {A : List GO} (hp : cU w0 M Z0 m G tm tv w h acc A) : acc.length = A.length := hp.alone.1
theorem cU.DC {m : Nat} {tm : List AV} {h acc : List au} {A : List GO} (hp : cU w0 M Z0 m G tm tv w h acc A) {j : Nat} {o o' : au} {g g' : GO} (hj : h[j]? = some o) (hg : G[j]? = some g) (hres : jC o' g' = jC o g) (ha : DS o' g')
   (hro : ∀ Z' : bn, (∀ k, zn w0 Z0 ⟨tm, h ++ acc⟩ (G ++ A) k → Z' k) → RO (G ++ A) Z' w o' g') :
   cU w0 M Z0 m (G.set j .gone) tm tv w (h.set j .dead) (acc ++ [o']) (A ++ [g']) ∧ (∀ k, zn w0 Z0 ⟨tm, h ++ acc⟩ (G ++ A) k → zn w0 Z0 ⟨tm, h.set j .dead ++ (acc ++ [o'])⟩ (G.set j .gone ++ (A ++ [g'])) k) ∧ Up (G ++ A) (G.set j .gone ++ (A ++ [g'])) := by
 have hjl := aD hj
 have hgl := aD hg
 have hj' : (h ++ acc)[j]? = some o := by rw [List.getElem?_append_left hjl]; exact hj
 have hg' : (G ++ A)[j]? = some g := by rw [List.getElem?_append_left hgl]; exact hg
 have hset : (h ++ acc).set j .dead = h.set j .dead ++ acc := by rw [List.set_append_left _ _ hjl]
 have hsetG : (G ++ A).set j .gone = G.set j .gone ++ A := by rw [List.set_append_left _ _ hgl]
 have hperm : (aY (h ++ acc) (G ++ A)).Perm (aY (h.set j .dead ++ (acc ++ [o'])) (G.set j .gone ++ (A ++ [g']))) := by
  refine (dz (h ++ acc) (G ++ A) j hj' hg').trans ?_
  rw [hset, hsetG]
  rw [bH (by simp [hp.len]), bH (by simp [hp.len]), bH hp.JM]
  have : aY [o'] [g'] = jC o g := by simp [aY, hres]
  rw [this]
  have hc := List.perm_append_comm (l₁ := jC o g) (l₂ := aY (h.set j .dead) (G.set j .gone) ++ aY acc A)
  simpa [List.append_assoc] using hc
 have hz : ∀ k, zn w0 Z0 ⟨tm, h ++ acc⟩ (G ++ A) k → zn w0 Z0 ⟨tm, h.set j .dead ++ (acc ++ [o'])⟩ (G.set j .gone ++ (A ++ [g'])) k := fun k hk => ⟨hk.1, fun q hq => hk.2 q (hperm.mem_iff.2 hq)⟩
 have hup : Up (G ++ A) (G.set j .gone ++ (A ++ [g'])) := by
  have h1 : Up (G ++ A) ((G ++ A).set j .gone) := Up.set fun g0 h0 => by cases g0 <;> trivial
  rw [hsetG] at h1
  have h2 := Up.append (G.set j .gone ++ A) [g']
  rw [List.append_assoc] at h2
  exact h1.trans h2
 refine ⟨⟨⟨?_, fun i hi hl => ?_, hp.inv.mz⟩, by simp [hp.len], aw.append hp.alone (aw.cons ha aw.nil)⟩, hz, hup⟩
 ·refine (hp.inv.st.perm hperm).jP (aS _ _ _) fun hh => ⟨hh.1.mono fun _ _ _ q => q.up hup, ?_⟩
  have hh2 : aw (RO (G.set j .gone ++ (A ++ [g'])) (jw w0 Z0 (aY (h.set j .dead ++ (acc ++ [o'])) (G.set j .gone ++ (A ++ [g'])))) w) (h ++ acc) (G ++ A) := hh.2.mono fun _ _ _ q => q.up hup
  have hs := hh2.set j (a := .dead) (b := .gone) trivial
  rw [hset, hsetG] at hs
  have hnew : RO (G.set j .gone ++ (A ++ [g'])) (jw w0 Z0 (aY (h.set j .dead ++ (acc ++ [o'])) (G.set j .gone ++ (A ++ [g'])))) w o' g' := ha _ _ _ _ (hro _ hz)
  rw [← List.append_assoc, ← List.append_assoc]
  rw [← List.append_assoc, ← List.append_assoc] at hs hnew
  exact aw.append hs (aw.cons hnew aw.nil)
 ·exfalso
  have := hp.len
  have := hp.JM
  simp at hi hl; omega
theorem cU.Gt {m : Nat} {tm : List AV} {h acc : List au} {A : List GO} (hp : cU w0 M Z0 m G tm tv w h acc A) {o' : au} {g' : GO} (hn : sJ o' g') :
   cU w0 M Z0 m G tm tv w h (acc ++ [o']) (A ++ [g']) ∧ (∀ k, zn w0 Z0 ⟨tm, h ++ acc⟩ (G ++ A) k → zn w0 Z0 ⟨tm, h ++ (acc ++ [o'])⟩ (G ++ (A ++ [g'])) k) ∧ Up (G ++ A) (G ++ (A ++ [g'])) := by
 have hall : aw sJ [o'] [g'] := aw.cons hn aw.nil
 have hnew := qY (w := w) hall
 have hL : aY (h ++ (acc ++ [o'])) (G ++ (A ++ [g'])) = aY (h ++ acc) (G ++ A) ++ aY [o'] [g'] := by
  rw [← List.append_assoc, ← List.append_assoc, bH (by have := hp.len; have := hp.JM; simp; omega)]
 have hS := hp.inv.st.BH hnew
 rw [← hL] at hS
 have hz : ∀ k, zn w0 Z0 ⟨tm, h ++ acc⟩ (G ++ A) k → zn w0 Z0 ⟨tm, h ++ (acc ++ [o'])⟩ (G ++ (A ++ [g'])) k := fun k hk => ⟨hk.1, fun q hq hf => by
  rw [hL] at hq
  exact (List.mem_append.1 hq).elim (fun hq => hk.2 q hq hf) (fun hq => (hnew q hq).1 k hf)⟩
 have hup : Up (G ++ A) (G ++ (A ++ [g'])) := by rw [← List.append_assoc]; exact Up.append _ _
 refine ⟨⟨⟨?_, fun i hi hl => ?_, hp.inv.mz⟩, hp.len, aw.append hp.alone (aw.cons ?_ aw.nil)⟩, hz, hup⟩
 ·refine hS.jP (aS _ _ _) fun hh => ⟨hh.1.mono fun _ _ _ q => q.up hup, ?_⟩
  have := aw.append (aw.mono hh.2 fun _ _ _ q => RO.up hup q) (Fb (G := G ++ (A ++ [g'])) (Z := jw w0 Z0 (aY (h ++ (acc ++ [o'])) (G ++ (A ++ [g'])))) (w := w) hall)
  rw [List.append_assoc, List.append_assoc] at this
  exact this
 ·exfalso
  have := hp.len
  have := hp.JM
  simp at hi hl; omega
 ·obtain ⟨e, a, rfl, rfl⟩ := hn
  exact tP _ _ _ _ _
structure AX (w0 : World) (M Z0 : bn) (m : Nat) (G : List GO) (tm : List AV) (tv : List Value) (w : World) (h acc : List au) (A : List GO) (b : Nat) (h' os : List au) (G' N : List GO) (Rel : List GO → Prop) : Prop where
 DC : cU w0 M Z0 m G' tm tv w h' (acc ++ os) (A ++ N)
 hl : h'.length = h.length
 zl : ∀ k, zn w0 Z0 ⟨tm, h ++ acc⟩ (G ++ A) k → zn w0 Z0 ⟨tm, h' ++ (acc ++ os)⟩ (G' ++ (A ++ N)) k
 up : Up (G ++ A) (G' ++ (A ++ N))
 nl : os.length = N.length
 rel : ∀ Gf, At_ b N Gf → Rel Gf
theorem cU.ku {m : Nat} {tm : List AV} {h acc : List au} {A : List GO} (hp : cU w0 M Z0 m G tm tv w h acc A) {j : Nat} {e : TypeId} {D : SD} {ver : Nat} {fz : Bool} (hj : h[j]? = some (.arr e D ver fz)) :
   cU w0 M Z0 m G tm tv w (h.set j (.arr e D ver true)) acc A ∧ (∀ k, zn w0 Z0 ⟨tm, h ++ acc⟩ (G ++ A) k → zn w0 Z0 ⟨tm, h.set j (.arr e D ver true) ++ acc⟩ (G ++ A) k) := by
 have hjl := aD hj
 obtain ⟨h1, h2⟩ := hp.inv.ku (j := j) (e := e) (D := D) (ver := ver) (fz := fz) (by show (h ++ acc)[j]? = _; rw [List.getElem?_append_left hjl]; exact hj)
 have hset : (h ++ acc).set j (.arr e D ver true) = h.set j (.arr e D ver true) ++ acc := by rw [List.set_append_left _ _ hjl]
 simp only [hset] at h1 h2
 exact ⟨⟨by simpa using h1, by simp [hp.len], hp.alone⟩, h2⟩
theorem Ke {m : Nat} {tm : List AV} {h acc : List au} {A : List GO} (hp : cU w0 M Z0 m G tm tv w h acc A) {j : Nat} {o : au} (hj : h[j]? = some o) : ∃ g, G[j]? = some g ∧ (G ++ A)[j]? = some g ∧ RO (G ++ A) (zn w0 Z0 ⟨tm, h ++ acc⟩ (G ++ A)) w o g := by
 have hjl := aD hj
 obtain ⟨g, hg, hr⟩ := hp.inv.st.per.2.get (i := j) (a := o) (by show (h ++ acc)[j]? = _; rw [List.getElem?_append_left hjl]; exact hj)
 have hl : j < G.length := by rw [← hp.len]; exact hjl
 exact ⟨g, by rw [List.getElem?_append_left hl] at hg; exact hg, hg, hr⟩
theorem uE {m : Nat} {tm : List AV} {h acc : List au} {A : List GO} (hp : cU w0 M Z0 m G tm tv w h acc A) {v : SV} {X : Value} {k : SV → List au → OR} (hx : cO (G ++ A) (zn w0 Z0 ⟨tm, h ++ acc⟩ (G ++ A)) w v X) (hk : mJ h v k = some r) :
   ∃ v' h', k v' h' = some r ∧ cU w0 M Z0 m G tm tv w h' acc A ∧ h'.length = h.length ∧ (∀ k, zn w0 Z0 ⟨tm, h ++ acc⟩ (G ++ A) k → zn w0 Z0 ⟨tm, h' ++ acc⟩ (G ++ A) k) ∧ cO (G ++ A) (zn w0 Z0 ⟨tm, h' ++ acc⟩ (G ++ A)) w v' X ∧
    ∀ (i : Nat) c, h[i]? = some (.cells c) → h'[i]? = some (.cells c) := by
 unfold mJ at hk
 split at hk
 ·rename_i j v
  split at hk
  ·rename_i e D ver fz hj
   obtain ⟨hv, hk'⟩ := ar hk
   simp only [Nat.beq_eq] at hv
   obtain ⟨q1, q2⟩ := hp.ku hj
   have hjl := aD hj
   refine ⟨_, _, hk', q1, by simp, q2, ⟨?_, hx.2⟩, fun i c hi => ?_⟩
   ·exact q1.inv.lJ (j := j) (v := v) (e := e) (D := D) (ver := ver) (X := X) (by show (h.set j _ ++ acc)[j]? = _; rw [List.getElem?_append_left (by simpa using hjl)]; simp [hjl]) hv (hx.1.aN (aP q2))
   ·have : j ≠ i := by rintro rfl; rw [hj] at hi; cases hi
    rw [List.getElem?_set_ne this]; exact hi
  ·cases hk
 ·obtain ⟨⟨a, rfl⟩, h2⟩ := hx
  exact ⟨_, _, hk, hp, rfl, fun _ h => h, ⟨we _ _, h2⟩, fun _ _ h => h⟩
 ·exact ⟨_, _, hk, hp, rfl, fun _ h => h, hx, fun _ _ h => h⟩
theorem iV {m : Nat} {tm : List AV} {acc : List au} {A : List GO} : ∀ {l : List SV} {h : List au} {xs : List Value} {k : List SV → List au → OR}, cU w0 M Z0 m G tm tv w h acc A → aw (cO (G ++ A) (zn w0 Z0 ⟨tm, h ++ acc⟩ (G ++ A)) w) l xs → jM h l k = some r →
   ∃ l' h', k l' h' = some r ∧ cU w0 M Z0 m G tm tv w h' acc A ∧ h'.length = h.length ∧ (∀ k, zn w0 Z0 ⟨tm, h ++ acc⟩ (G ++ A) k → zn w0 Z0 ⟨tm, h' ++ acc⟩ (G ++ A) k) ∧ aw (cO (G ++ A) (zn w0 Z0 ⟨tm, h' ++ acc⟩ (G ++ A)) w) l' xs ∧
    ∀ (i : Nat) c, h[i]? = some (.cells c) → h'[i]? = some (.cells c)
 | [], h, xs, k, hp, ha, hk => by
  obtain rfl := ha.a0
  exact ⟨_, _, hk, hp, rfl, fun _ h => h, aw.nil, fun _ _ h => h⟩
 | v :: l, h, xs, k, hp, ha, hk => by
  obtain ⟨X, xs', rfl, h1, h2⟩ := ha.cons_inv
  unfold jM at hk
  obtain ⟨v', h', hk1, q1, q2, q3, q4, q5⟩ := uE hp h1 hk
  obtain ⟨l', h'', hk2, p1, p2, p3, p4, p5⟩ := iV q1 (h2.mono fun _ _ _ q => q.mono (aP q3) (Up.refl _)) hk1
  exact ⟨_, _, hk2, p1, p2.trans q2, fun k hk => p3 k (q3 k hk), aw.cons (q4.mono (aP p3) (Up.refl _)) p4, fun i c hi => p5 i c (q5 i c hi)⟩
theorem jj {own : Bool} {m : Nat} {tm : List AV} : ∀ {l : List SV} {h acc : List au} {G A : List GO} {b : Nat} {xs : List Value} {k : List SV → List au → List au → OR},
   cU w0 M Z0 m G tm tv w h acc A → aw (cO (G ++ A) (zn w0 Z0 ⟨tm, h ++ acc⟩ (G ++ A)) w) l xs → jT own l h b k = some r →
   ∃ cs h' os G' N, k cs h' os = some r ∧ AX w0 M Z0 m G tm tv w h acc A b h' os G' N (fun Gf => aw (cO Gf (zn w0 Z0 ⟨tm, h' ++ (acc ++ os)⟩ (G' ++ (A ++ N))) w) cs xs)
 | [], h, acc, G, A, b, xs, k, hp, ha, hk => by
  obtain rfl := ha.a0
  exact ⟨[], h, [], G, [], hk, by simpa using hp, rfl, by simp, by simpa using Up.refl (G ++ A), rfl, fun _ _ => aw.nil⟩
 | v :: l, h, acc, G, A, b, xs, k, hp, ha, hk => by
  obtain ⟨X, xs', rfl, h1, h2⟩ := ha.cons_inv
  -- a cell that stays what it is, or is forgotten
  have same : ∀ v', xI v v' → jT own l h b (fun cs h os => k (v' :: cs) h os) = some r → ∃ cs h' os G' N, k cs h' os = some r ∧ AX w0 M Z0 m G tm tv w h acc A b h' os G' N (fun Gf => aw (cO Gf (zn w0 Z0 ⟨tm, h' ++ (acc ++ os)⟩ (G' ++ (A ++ N))) w) cs (X :: xs')) := by
   intro v' hv hk
   obtain ⟨cs, h', os, G', N, hk', ho⟩ := jj hp h2 hk
   exact ⟨_, h', os, G', N, hk', ho.DC, ho.hl, ho.zl, ho.up, ho.nl, fun Gf hA => aw.cons ((hv _ Gf _ _ _ h1).mono (aP ho.zl) (Up.refl _)) (ho.rel Gf hA)⟩
  -- an object is parked
  have parked : ∀ {h2' : List au} {G2 : List GO} {o' : au} {g' : GO}, cU w0 M Z0 m G2 tm tv w h2' (acc ++ [o']) (A ++ [g']) → h2'.length = h.length →
     (∀ k, zn w0 Z0 ⟨tm, h ++ acc⟩ (G ++ A) k → zn w0 Z0 ⟨tm, h2' ++ (acc ++ [o'])⟩ (G2 ++ (A ++ [g'])) k) → Up (G ++ A) (G2 ++ (A ++ [g'])) → ∀ v' : SV, (∀ Gf, Gf[b]? = some g' → cO Gf (zn w0 Z0 ⟨tm, h ++ acc⟩ (G ++ A)) w v' X) →
     jT own l h2' (b + 1) (fun cs h os => k (v' :: cs) h (o' :: os)) = some r → ∃ cs h' os G' N, k cs h' os = some r ∧ AX w0 M Z0 m G tm tv w h acc A b h' os G' N (fun Gf => aw (cO Gf (zn w0 Z0 ⟨tm, h' ++ (acc ++ os)⟩ (G' ++ (A ++ N))) w) cs (X :: xs')) := by
   intro h2' G2 o' g' hp2 hl2 hz2 hu2 v' hv hk
   obtain ⟨cs, h', os, G', N, hk', ho⟩ := jj hp2 (h2.mono fun _ _ _ q => q.mono (aP hz2) hu2) hk
   have e1 : acc ++ o' :: os = acc ++ [o'] ++ os := by simp
   have e2 : A ++ g' :: N = A ++ [g'] ++ N := by simp
   refine ⟨_, h', o' :: os, G', g' :: N, hk', ?_, ho.hl.trans hl2, ?_, ?_, by simp [ho.nl], fun Gf hA => ?_⟩
   ·rw [e1, e2]; exact ho.DC
   ·rw [e1, e2]; exact fun k hk => ho.zl k (hz2 k hk)
   ·rw [e2]; exact hu2.trans ho.up
   ·rw [e1, e2]
    refine aw.cons ((hv Gf (hA 0 g' rfl)).mono (aP fun k hk => ho.zl k (hz2 k hk)) (Up.refl _)) (ho.rel Gf fun i g hi => ?_)
    have := hA (i + 1) g (by simpa using hi)
    rw [show b + 1 + i = b + (i + 1) by omega]; exact this
  cases v with
  | own j v0 =>
   simp only [jT] at hk
   split at hk
   ·rename_i e D ver fz hj
    replace hk := ar hk; obtain ⟨hv, hk⟩ := hk
    simp only [Nat.beq_eq] at hv
    obtain ⟨g, hg, hg', hr⟩ := Ke hp hj
    cases g with
    | arr ver' val sz xs0 =>
     have hverr := hr.1
     subst hverr
     have hX := iK h1.1 hg' hv
     rcases cm hk with ⟨_, hk⟩ | ⟨_, hk⟩
     ·obtain ⟨hfz, hk2⟩ := ll hk
      subst hfz
      obtain ⟨q1, q2, q3⟩ := hp.DC (o' := .arr e D 0 false) (g' := .arr 0 val sz xs0) hj hg rfl (tP _ _ _ _ _) (fun Z' h => ⟨rfl, (RO.aN (aP h) hr).2⟩)
      exact parked q1 (by simp) q2 q3 (.own b 0) (fun Gf hGf => ⟨.inr ⟨0, val, sz, xs0, hGf, Nat.le_refl _, fun _ => hX⟩, h1.2⟩) hk2
     ·obtain ⟨q1, q2⟩ := hp.ku hj
      obtain ⟨cs, h', os, G', N, hk', ho⟩ := jj q1 (h2.mono fun _ _ _ q => q.mono (aP q2) (Up.refl _)) hk
      refine ⟨_, h', os, G', N, hk', ho.DC, by rw [ho.hl]; simp, fun k hk => ho.zl k (q2 k hk), ho.up, ho.nl, fun Gf hA => aw.cons ?_ (ho.rel Gf hA)⟩
      have hjl := aD hj
      have hsl := q1.inv.lJ (j := j) (v := v0) (e := e) (D := D) (ver := ver) (X := X) (by show (h.set j _ ++ acc)[j]? = _; rw [List.getElem?_append_left (by simpa using hjl)]; simp [hjl]) hv (h1.1.aN (aP q2))
      exact ⟨SlR.aN (aP ho.zl) hsl, h1.2⟩
    | _ => exact hr.elim
   ·cases hk
  | emp e => cases e with
   | none => exact same .any (fun _ _ _ _ _ h => ⟨trivial, h.2⟩) (by simpa only [jT] using hk)
   | some e =>
    simp only [jT] at hk
    obtain ⟨⟨a, hXa⟩, hXo⟩ := id h1
    rcases cm hk with ⟨_, hk⟩ | ⟨_, hk⟩
    ·obtain ⟨q1, q2, q3⟩ := hp.Gt (o' := .arr e.1 e.2.nil 0 false) (g' := .arr 0 (.slice a 0 0) e.2.size []) ⟨e, a, rfl, rfl⟩
     exact parked q1 rfl q2 q3 (.own b 0) (fun Gf hGf => ⟨.inr ⟨0, _, _, _, hGf, Nat.le_refl _, fun _ => hXa⟩, hXo⟩) hk
    ·refine same (.fr e.2.nil) (fun G1 G2 Z w X hX => ?_) hk
     obtain ⟨⟨a, rfl⟩, hX2⟩ := hX
     exact ⟨we _ _, hX2⟩
  | ptr j o => cases o with
   | zero =>
    simp only [jT] at hk
    split at hk
    ·rename_i c hj
     obtain ⟨g, hg, hg', hr⟩ := Ke hp hj
     cases g with
     | cells bb T vs =>
      have hjl := aD hj
      obtain ⟨c', h3, hk2, hp3, hl3, hz3, hc3, hj3⟩ := iV hp hr hk
      obtain ⟨q1, q2, q3⟩ := hp3.DC (o' := .cells (c'.map clean)) (g' := .cells bb T vs) (hj3 j _ hj) hg rfl (wI _ _) (fun Z' h => m6 (jY c') (hc3.mono fun _ _ _ q => q.mono (aP h) (Up.refl _)))
      exact parked q1 (by rw [List.length_set]; exact hl3) (fun k hk => q2 k (hz3 k hk)) q3 (.ptr b 0) (fun Gf hGf => ⟨.inr ⟨bb, T, vs, hGf, jI h1.1 hg'⟩, h1.2⟩) hk2
     | _ => exact hr.elim
    ·cases hk
   | succ o => exact same .any (fun _ _ _ _ _ h => ⟨trivial, h.2⟩) (by simpa only [jT] using hk)
  | int a n => exact same (.int a n) (fun _ _ _ _ _ h => h) (by simpa only [jT] using hk)
  | bool x => exact same (.bool x) (fun _ _ _ _ _ h => h) (by simpa only [jT] using hk)
  | str x => exact same (.str x) (fun _ _ _ _ _ h => h) (by simpa only [jT] using hk)
  | fr x => exact same (.fr x) (fun _ _ _ _ _ h => h) (by simpa only [jT] using hk)
  | ep e o => exact same .any (fun _ _ _ _ _ h => ⟨trivial, h.2⟩) (by simpa only [jT] using hk)
  | op j v i o => exact same .any (fun _ _ _ _ _ h => ⟨trivial, h.2⟩) (by simpa only [jT] using hk)
  | fn f l => exact same .any (fun _ _ _ _ _ h => ⟨trivial, h.2⟩) (by simpa only [jT] using hk)
  | nilp => exact same .any (fun _ _ _ _ _ h => ⟨trivial, h.2⟩) (by simpa only [jT] using hk)
  | any => exact same .any (fun _ _ _ _ _ h => ⟨trivial, h.2⟩) (by simpa only [jT] using hk)
end
end Go.Ab
namespace Go.Ab
open Go Go.Dk
section
variable {P : Program} {w0 w w' : World} {M Z0 Z : bn} {b : Nat} {G G0 : List GO} {s : AS} {tv : List Value} {r : List V1 × List au}
theorem jS {own : Bool} {m : Nat} {tm : List AV} : ∀ {l : List V1} {h acc : List au} {G A : List GO} {b : Nat} {xs : List Value} {k : List V1 → List au → List au → OR},
   cU w0 M Z0 m G tm tv w h acc A → aw (RV1 (G ++ A) (zn w0 Z0 ⟨tm, h ++ acc⟩ (G ++ A)) w) l xs → rC own l h b k = some r →
   ∃ cs h' os G' N, k cs h' os = some r ∧ AX w0 M Z0 m G tm tv w h acc A b h' os G' N (fun Gf => aw (RV1 Gf (zn w0 Z0 ⟨tm, h' ++ (acc ++ os)⟩ (G' ++ (A ++ N))) w) cs xs)
 | [], h, acc, G, A, b, xs, k, hp, ha, hk => by
  obtain rfl := ha.a0
  exact ⟨[], h, [], G, [], hk, by simpa using hp, rfl, by simp, by simpa using Up.refl (G ++ A), rfl, fun _ _ => aw.nil⟩
 | v :: l, h, acc, G, A, b, xs, k, hp, ha, hk => by
  obtain ⟨X, xs', rfl, h1, h2⟩ := ha.cons_inv
  have comb : ∀ {c : List SV} {ys : List Value} {v' : List SV → V1} {k2 : List SV → List au → List au → OR}, aw (cO (G ++ A) (zn w0 Z0 ⟨tm, h ++ acc⟩ (G ++ A)) w) c ys → jT own c h b k2 = some r →
     (∀ cs h' os, k2 cs h' os = some r → ∃ v', (∀ Gf Z, aw (cO Gf Z w) cs ys → RV1 Gf Z w v' X) ∧ rC own l h' (b + os.length) (fun vs h os' => k (v' :: vs) h (os ++ os')) = some r) →
     ∃ cs h' os G' N, k cs h' os = some r ∧ AX w0 M Z0 m G tm tv w h acc A b h' os G' N (fun Gf => aw (RV1 Gf (zn w0 Z0 ⟨tm, h' ++ (acc ++ os)⟩ (G' ++ (A ++ N))) w) cs (X :: xs')) := by
   intro c ys v' k2 hc hk hnext
   obtain ⟨cs, h1', os1, G1, N1, hk1, o1⟩ := jj hp hc hk
   obtain ⟨v', hv', hk2⟩ := hnext _ _ _ hk1
   obtain ⟨vs, h2', os2, G2, N2, hk3, o2⟩ := jS o1.DC (h2.mono fun _ _ _ q => RV1.up o1.up (q.aN (aP o1.zl))) hk2
   have e1 : acc ++ (os1 ++ os2) = acc ++ os1 ++ os2 := by simp
   have e2 : A ++ (N1 ++ N2) = A ++ N1 ++ N2 := by simp
   refine ⟨_, h2', os1 ++ os2, G2, N1 ++ N2, hk3, ?_, o2.hl.trans o1.hl, ?_, ?_, by simp [o1.nl, o2.nl], fun Gf hA => ?_⟩
   ·rw [e1, e2]; exact o2.DC
   ·rw [e1, e2]; exact fun k hk => o2.zl k (o1.zl k hk)
   ·rw [e2]; exact o1.up.trans o2.up
   ·rw [e1, e2]
    refine aw.cons ((hv' Gf _ (o1.rel Gf hA.left)).aN (aP o2.zl)) (o2.rel Gf ?_)
    rw [o1.nl]; exact hA.right
  cases v with
  | one x =>
   by_cases hx : x = .any
   ·subst hx
    simp only [rC] at hk
    obtain ⟨cs, h', os, G', N, hk', ho⟩ := jS hp h2 hk
    exact ⟨_, h', os, G', N, hk', ho.DC, ho.hl, ho.zl, ho.up, ho.nl, fun Gf hA => aw.cons ⟨trivial, fun h => absurd rfl h⟩ (ho.rel Gf hA)⟩
   ·have hk' : jT own [x] h b (fun c h os => (match c with
        | [x] => rC own l h (b + os.length) fun vs h os' => k (.one x :: vs) h (os ++ os')
        | _ => none)) = some r := by
      cases x <;> first | exact absurd rfl hx | exact hk
    refine comb (v' := fun _ => .one x) (aw.cons ⟨h1.1, h1.2 hx⟩ aw.nil) hk' fun cs h' os hk2 => ?_
    split at hk2
    ·exact ⟨_, fun Gf Z hr => by obtain ⟨y, ys, e, hr, _⟩ := hr.cons_inv; simp only [List.cons.injEq] at e; obtain ⟨rfl, _⟩ := e; exact ⟨hr.1, fun _ => hr.2⟩, hk2⟩
    ·cases hk2
  | agg c =>
   obtain ⟨ys, hX, hc⟩ := h1
   simp only [rC] at hk
   exact comb (v' := fun c => .agg c) hc hk fun cs h' os hk2 => ⟨.agg cs, fun Gf Z hr => ⟨ys, hX, hr⟩, hk2⟩
theorem lB {m : Nat} {tm : List AV} {acc : List au} {A : List GO} : ∀ {n : Nat} {h : List au} {k : List au → OR}, cU w0 M Z0 m G tm tv w h acc A → n ≤ m → m ≤ h.length → Ii m n h k = some r →
   ∃ h' ps, k ps = some r ∧ cU w0 M Z0 m G tm tv w h' acc A ∧ h'.length = h.length ∧ (∀ k, zn w0 Z0 ⟨tm, h ++ acc⟩ (G ++ A) k → zn w0 Z0 ⟨tm, h' ++ acc⟩ (G ++ A) k) ∧ ps.length = n ∧
    (∀ (i : Nat) c, h[i]? = some (.cells c) → h'[i]? = some (.cells c)) ∧
    (∀ (i : Nat) p, ps[i]? = some p → p = .dead ∨ ∃ bb T vs l', G[m - n + i]? = some (.cells bb T vs) ∧ p = .cells (l'.map clean) ∧ aw (cO (G ++ A) (zn w0 Z0 ⟨tm, h' ++ acc⟩ (G ++ A)) w) l' vs)
 | 0, h, k, hp, hn, hm, hk => ⟨h, [], hk, hp, rfl, fun _ h => h, rfl, fun _ _ h => h, fun i p hi => by simp at hi⟩
 | n + 1, h, k, hp, hn, hm, hk => by
  unfold Ii at hk
  split at hk
  ·rename_i c hj
   obtain ⟨g, hg, hg', hr⟩ := Ke hp hj
   cases g with
   | cells bb T vs =>
    obtain ⟨c', h1, hk1, p1, l1, z1, r1, k1⟩ := iV hp hr hk
    obtain ⟨h2, ps, hk2, p2, l2, z2, e2, k2, q2⟩ := lB p1 (by omega) (by omega) hk1
    refine ⟨h2, _, hk2, p2, l2.trans l1, fun k hk => z2 k (z1 k hk), by simp [e2], fun i c hi => k2 i c (k1 i c hi), fun i p hi => ?_⟩
    cases i with
    | zero =>
     simp only [List.getElem?_cons_zero, Option.some.injEq] at hi
     subst hi
     exact .inr ⟨bb, T, vs, c', by simpa using hg, rfl, r1.mono fun _ _ _ q => q.mono (aP z2) (Up.refl _)⟩
    | succ i =>
     have := q2 i p (by simpa using hi)
     rw [show m - (n + 1) + (i + 1) = m - n + i by omega]; exact this
   | _ => exact hr.elim
  ·obtain ⟨h2, ps, hk2, p2, l2, z2, e2, k2, q2⟩ := lB hp (by omega) hm hk
   refine ⟨h2, _, hk2, p2, l2, z2, by simp [e2], k2, fun i p hi => ?_⟩
   cases i with
   | zero =>
    simp only [List.getElem?_cons_zero, Option.some.injEq] at hi
    exact .inl hi.symm
   | succ i =>
    have := q2 i p (by simpa using hi)
    rw [show m - (n + 1) + (i + 1) = m - n + i by omega]; exact this
theorem vl {h : List au} : ∀ {ps hs : List au} {gs : List GO}, ps.length = hs.length → hs.length = gs.length → (∀ (i : Nat) p, ps[i]? = some p → p = .dead ∨ ∃ l bb T vs c, p = .cells l ∧ gs[i]? = some (.cells bb T vs) ∧ hs[i]? = some (.cells c)) →
   (aY ps (List.zipWith iS ps gs)).Sublist (aY hs gs)
 | [], hs, gs, h1, h2, hq => by simp [aY]
 | p :: ps, [], gs, h1, _, _ => by simp at h1
 | p :: ps, o :: hs, [], _, h2, _ => by simp at h2
 | p :: ps, o :: hs, g :: gs, h1, h2, hq => by
  have ih := vl (h := h) (ps := ps) (hs := hs) (gs := gs) (by simpa using h1) (by simpa using h2) fun i p hi => by simpa using hq (i + 1) p (by simpa using hi)
  simp only [List.zipWith_cons_cons, aY]
  rcases hq 0 p rfl with rfl | ⟨l, bb, T, vs, c, rfl, hg, ho⟩
  ·rw [cE, List.nil_append]; exact ih.trans (List.sublist_append_right _ _)
  ·simp only [List.getElem?_cons_zero, Option.some.injEq] at hg ho
   subst hg ho
   simp only [iS, jC]
   exact ih.append_left _
theorem tG {own : Bool} {fn : Func} {m : Nat} (hI : bp w0 M Z0 s.heap.length G s tv w) (hu : UpW G0 G) (hm : G0.length = m) (h : finish P own fn m s = some r) :
   ∃ xs G', (results fn tv.toArray).run P w = .ok (if h : xs.toArray.size = 1 then xs.toArray[0] else .tuple xs.toArray) w ∧ bp w0 M Z0 r.2.length G' ⟨r.1.map .v, r.2⟩ xs w ∧ UpW G0 G' := by
 unfold finish at h
 replace h := ar h; obtain ⟨hml, h⟩ := h
 simp only [Nat.ble_eq] at hml
 replace h := kY hI h; obtain ⟨vs, xs, h, hvs, hrun⟩ := h
 have hp : cU w0 M Z0 m G s.tmps tv w s.heap [] [] := ⟨by simpa using hI, hI.len, aw.nil⟩
 have hz0 : zn w0 Z0 ⟨s.tmps, s.heap ++ []⟩ (G ++ []) = zn w0 Z0 s G := by simp [zn]
 obtain ⟨cs, h1, os, G1, N, hk1, o1⟩ := jS hp (by rw [hz0, List.append_nil]; exact hvs) h
 simp only [List.nil_append] at o1
 have hp1 := o1.DC
 simp only [List.nil_append] at hp1
 obtain ⟨h2, ps, hk2, p2, l2, z2, e2, k2, q2⟩ := lB hp1 (Nat.le_refl m) (by rw [o1.hl]; exact hml) hk1
 have hr := Option.some.inj hk2
 subst hr
 have hNl : os.length = N.length := o1.nl
 have hl2 : h2.length = s.heap.length := l2.trans o1.hl
 have hG1 : h2.length = G1.length := p2.len
 have hmG : m ≤ G1.length := by omega
 have hgl : (G1.take m).length = m := by simp [hmG]
 let PG := List.zipWith iS ps (G1.take m)
 have hPl : PG.length = m := by simp [PG, e2, hmG]
 have hAt : At_ m N (PG ++ N) := fun i g hi => by rw [List.getElem?_append_right (by omega), hPl]; simpa using hi
 have hps : ∀ (i : Nat) p, ps[i]? = some p → p = .dead ∨ ∃ bb T vs l', G1[i]? = some (.cells bb T vs) ∧ p = .cells (l'.map clean) ∧ aw (cO (G1 ++ N) (zn w0 Z0 ⟨s.tmps, h2 ++ os⟩ (G1 ++ N)) w) l' vs := fun i p hi => by
  have := q2 i p hi
  simpa using this
 have hRO := p2.inv.st.per.2
 have hsub : (aY (ps ++ os) (PG ++ N)).Sublist (aY (h2 ++ os) (G1 ++ N)) := by
  rw [bH (by rw [hPl, e2]), bH hG1]
  have hk : (aY ps PG).Sublist (aY (h2.take m) (G1.take m)) := by
   refine vl (h := h2) (by simp [e2]; omega) (by simp; omega) fun i p hi => ?_
   have him : i < m := by rw [← e2]; exact aD hi
   rcases hps i p hi with h | ⟨bb, T, vs, l', hg, rfl, _⟩
   ·exact .inl h
   ·right
    have hg2 : (G1 ++ N)[i]? = some (.cells bb T vs) := by rw [List.getElem?_append_left (by omega)]; exact hg
    obtain ⟨o, ho, hro⟩ := hRO.get' hg2
    have ho' : h2[i]? = some o := by rw [List.getElem?_append_left (by omega)] at ho; exact ho
    cases o with
    | cells c => exact ⟨_, bb, T, vs, c, rfl, by rw [List.getElem?_take, if_pos him]; exact hg, by rw [List.getElem?_take, if_pos him]; exact ho'⟩
    | _ => exact hro.elim
  have hk2 : (aY (h2.take m) (G1.take m)).Sublist (aY h2 G1) := by
   have := bH (h := h2.take m) (h' := h2.drop m) (G := G1.take m) (G' := G1.drop m) (by simp; omega)
   rw [List.take_append_drop, List.take_append_drop] at this
   rw [this]; exact List.sublist_append_left _ _
  exact (hk.trans hk2).append_right _
 have hz3 : ∀ k, zn w0 Z0 ⟨s.tmps, h2 ++ os⟩ (G1 ++ N) k → jw w0 Z0 (aY (ps ++ os) (PG ++ N)) k := fun k hk => ⟨hk.1, fun q hq => hk.2 q (hsub.subset hq)⟩
 refine ⟨xs, PG ++ N, xC hrun, ⟨?_, fun j hj hl => ?_, hI.mz⟩, ?_⟩
 ·refine (p2.inv.st.sub hsub).jP (aS _ _ _) fun _ => ⟨?_, ?_⟩
  ·have := o1.rel (PG ++ N) hAt
   exact (this.mono fun _ _ _ q => (q.aN (aP z2)).aN (aP hz3)).eQ fun _ _ q => q
  ·refine aw.append ⟨by rw [hPl, e2], fun i p g hi hg => ?_⟩ ?_
   ·have him : i < m := by rw [← e2]; exact aD hi
    simp only [PG, List.getElem?_zipWith, hi, List.getElem?_take, if_pos him] at hg
    rcases hps i p hi with rfl | ⟨bb, T, vs, l', hg', rfl, hr⟩
    ·cases hg1 : G1[i]? with
     | none => simp [hg1] at hg
     | some g1 => simp [hg1, iS] at hg; subst hg; trivial
    ·simp only [hg', Option.some.injEq, iS] at hg
     subst hg
     exact m6 (jY l') (hr.mono fun _ _ _ q => q.mono (aP hz3) (Up.refl _))
   ·refine ⟨hNl, fun i o g hi hg => ?_⟩
    have hro := hRO.2 (h2.length + i) o g (by rw [List.getElem?_append_right (by omega)]; simpa using hi) (by rw [List.getElem?_append_right (by omega), hG1]; simpa using hg)
    have hal := p2.alone.2 i o g hi hg
    exact hal _ _ _ _ (RO.aN (aP hz3) hro)
 ·exfalso
  simp at hj hl
  rw [e2] at hj
  have : PG.length = m := hPl
  simp only [PG] at this hl
  simp at this hl
  omega
 ·have hup1 : Up G (G1 ++ N) := by simpa using o1.up
  intro j
  have key : ∀ g, j < m → (G1 ++ N)[j]? = some g → (PG ++ N)[j]? = some .gone ∨ (PG ++ N)[j]? = some g := by
   intro g hjm hg
   have hg1 : G1[j]? = some g := by rw [List.getElem?_append_left (by omega)] at hg; exact hg
   obtain ⟨p, hp⟩ : ∃ p, ps[j]? = some p := ⟨_, List.getElem?_eq_getElem (by rw [e2]; exact hjm)⟩
   rw [List.getElem?_append_left (by rw [hPl]; exact hjm)]
   simp only [PG, List.getElem?_zipWith, hp, List.getElem?_take, if_pos hjm, hg1]
   cases p <;> first | exact .inr rfl | exact .inl rfl
  have hup2 := (hu.trans hup1.jP) j
  refine ⟨fun hh => ?_, fun b T vs hh => ?_, fun ver val sz xs0 hh => ?_⟩
  ·have hjm : j < m := by rw [← hm]; exact aD hh
   rcases key _ hjm (hup2.1 hh) with h | h <;> exact h
  ·have hjm : j < m := by rw [← hm]; exact aD hh
   rcases hup2.2.1 b T vs hh with h | ⟨T', vs', h⟩
   ·rcases key _ hjm h with h | h <;> exact .inl h
   ·rcases key _ hjm h with h | h
    ·exact .inl h
    ·exact .inr ⟨T', vs', h⟩
  ·have hjm : j < m := by rw [← hm]; exact aD hh
   rcases hup2.2.2 ver val sz xs0 hh with h | ⟨a, c, e, h⟩
   ·rcases key _ hjm h with h | h <;> exact .inl h
   ·rcases key _ hjm h with h | h
    ·exact .inl h
    ·exact .inr ⟨a, c, e, h⟩
end
end Go.Ab
namespace Go.Ab
open Go Go.Dk
section
variable {P : Program} {w0 w w' : World} {M Z0 Z : bn} {b : Nat} {G G0 : List GO} {s : AS} {tv : List Value} {r : List V1 × List au}
def Ex.out : Ex → Exit | .normal => .normal | .exit i => .exit i | .ret => .ret
def BA (P : Program) (F : Callee) (D : Dec) : Prop := ∀ (w0 : World) (M Z0 : bn) (G : List GO) (s : AS) (tv : List Value) (w : World) (ops : List Oper) (id : Nat) (k : AS → OR) (r : List V1 × List au) (Q : Exit → Act → World → Prop),
 bp w0 M Z0 s.heap.length G s tv w → tX ops (HH ops []) ops 0 = true → FG P F D ops (HH ops []) ops 0 [] s.heap.length (grow (room P D ops) s) k = some r →
  (∀ s' G' tv' w', k s' = some r → bp w0 M Z0 s'.heap.length G' s' tv' w' → UpW G G' → Q .normal ⟨tv'.toArray, []⟩ w') → (Code.region id ops.toArray true).wp P Q ⟨tv.toArray, []⟩ w
theorem qo : ∀ (h : List au) (G : List GO) (j : Nat) {l l' : List SV}, h[j]? = some (.cells l) → aY (h.set j (.cells l')) G = aY h G
 | [], G, j, l, l', h => by simp at h
 | o :: h, [], j, l, l', _ => by cases j <;> simp [aY]
 | o :: h, g :: G, 0, l, l', hj => by
  simp only [List.getElem?_cons_zero, Option.some.injEq] at hj
  subst hj
  simp only [List.set_cons_zero, aY]
  cases g <;> rfl
 | o :: h, g :: G, j + 1, l, l', hj => by
  simp only [List.getElem?_cons_succ] at hj
  simp only [List.set_cons_succ, aY, qo h G j hj]
theorem j4 : ∀ (n j : Nat) {s : AS} {k : List au → OR}, bp w0 M Z0 b G s tv w → Dj n j s.heap k = some r → ∃ h', k h' = some r ∧ bp w0 M Z0 b G ⟨s.tmps, h'⟩ tv w
 | 0, j, s, k, hI, h => ⟨_, h, hI⟩
 | n + 1, j, s, k, hI, h => by
  unfold Dj at h
  split at h
  ·rename_i c hj
   obtain ⟨bb, T, vs, hg, hc⟩ := hI.cells hj
   obtain ⟨c', h', hk, hs, hc'⟩ := fT hI hc.1 h
   have hj' : h'[j]? = some (.cells c) ∨ ∃ c2, h'[j]? = some (.cells c2) := by
    have hl : j < h'.length := by rw [hs.inv.len, ← hI.len]; exact aD hj
    have hR := hs.inv.st.per.2
    cases ho : h'[j]? with
    | none => rw [List.getElem?_eq_getElem hl] at ho; cases ho
    | some o =>
     obtain ⟨g, hg', hro⟩ := hR.get ho
     rw [hg] at hg'
     obtain rfl := Option.some.inj hg'
     cases o with
     | cells l => exact .inr ⟨l, rfl⟩
     | arr e d ver fz => exact hro.elim
     | dead => exact hro.elim
   have hI2 : bp w0 M Z0 b G ⟨s.tmps, h'.set j (.cells c')⟩ tv w := by
    obtain ⟨c2, hj2⟩ : ∃ c2, h'[j]? = some (.cells c2) := by rcases hj' with h1 | h1; exact ⟨_, h1⟩; exact h1
    have hr := qo h' G j (l' := c') hj2
    refine ⟨?_, hs.inv.fresh, hs.inv.mz⟩
    have := hs.inv.st
    show St w0 M Z0 (aY (h'.set j (.cells c')) G) _ w
    rw [hr]
    refine this.jP (aS _ _ _) fun hp => ⟨hp.1, ?_⟩
    have h3 := hp.2.set j (a := .cells c') (b := .cells bb T vs) hc'
    rw [jl hg] at h3
    exact h3
   exact j4 n (j + 1) (s := ⟨s.tmps, h'.set j (.cells c')⟩) hI2 hk
  ·exact j4 n (j + 1) hI h
theorem vL (s : AS) (c : Operand) (t : Bool) : (s.DZ c t).heap = s.heap := by cases c <;> rfl
theorem bp.DZ (hI : bp w0 M Z0 b G s tv w) {c : Operand} {t : Bool} (h : s.ev c = .v (.one (.bool t))) : bp w0 M Z0 b G (s.DZ c t) tv w := by
 cases c with
 | tmp d =>
  have hb : s.tmps.getD d aa = .v (.one (.bool t)) := h
  have hdl : s.tmps[d]? = some (.v (.one (.bool t))) := by
   cases hs : s.tmps[d]? with
   | none => simp [List.getD, hs, aa] at hb
   | some v => simp [List.getD, hs] at hb; rw [hb]
  obtain ⟨X, hX, hr⟩ := hI.st.per.1.get hdl
  have hX' := cX hr
  subst hX'
  have := hI.put (some d) (v := jz t) (X := .bool t) ⟨rfl, fun _ => rfl⟩
  simp only at this
  rw [jl hX] at this
  exact this
 | const _ => exact hI
 | func _ => exact hI
 | global _ => exact hI
def xL (w0 : World) (M Z0 : bn) (G0 : List GO) (k : y4) (r : List V1 × List au) (e : Exit) (a' : Act) (w' : World) : Prop :=
 ∃ e' s' G' tv', e = e'.out ∧ k e' s' = some r ∧ a' = ⟨tv'.toArray, []⟩ ∧ bp w0 M Z0 s'.heap.length G' s' tv' w' ∧ UpW G0 G'
theorem fR {E : Env} (hF : dW E.P E.F) (hib : ∀ f, E.D.ib f = true → kc E.P f) (hdr : BA E.P E.F E.D) (hm : G0.length = E.m) : ∀ (c : Code) (i : Nat) {s : AS} {k : y4} {G : List GO} {tv : List Value} {w : World},
   bp w0 M Z0 s.heap.length G s tv w → UpW G0 G → evC E i c s k = some r → c.wp E.P (xL w0 M Z0 G0 k r) ⟨tv.toArray, []⟩ w
 | .skip, i, s, k, G, tv, w, hI, hu, h => wp_skip ⟨.normal, s, G, tv, rfl, h, rfl, hI, hu⟩
 | .region id ops draw, i, s, k, G, tv, w, hI, hu, h => by
  simp only [evC] at h
  rcases cm h with ⟨rfl, h⟩ | ⟨rfl, h⟩
  ·have go : ∀ s : AS, bp w0 M Z0 s.heap.length G s tv w → GN E ops.toList s k = some r → (Code.region id ops true).wp E.P (xL w0 M Z0 G0 k r) ⟨tv.toArray, []⟩ w := by
     intro s hI h
     obtain ⟨hd, h⟩ := ar h
     have := hdr w0 M Z0 G s tv w ops.toList id _ r (xL w0 M Z0 G0 k r) hI hd h (fun s' G' tv' w' hk hI' hu' => ⟨.normal, s', G', tv', rfl, hk, rfl, hI', hu.trans hu'⟩)
     simpa using this
   split at h
   ·obtain ⟨h', hk, hI2⟩ := j4 _ _ hI h
    refine go ⟨s.tmps, h'⟩ ?_ hk
    have e : h'.length = s.heap.length := by have := hI2.len; rw [hI.len]; exact this
    show bp w0 M Z0 h'.length G _ tv w
    rw [e]; exact hI2
   ·exact go s hI h
  ·have hl := gW (Q := xL w0 M Z0 G0 k r) hF hib (hI.grow (room E.P E.D ops.toList)) (by simp [grow]) h (fun s' G' tv' w' hk hI' hu' => ⟨.normal, s', G', tv', rfl, hk, rfl, hI', hu.trans ((Up.append _ _).trans hu').jP⟩)
   have := wp_region_lit (id := id) hl
   simpa using this
 | .seq a c, i, s, k, G, tv, w, hI, hu, h => by
  simp only [evC] at h
  refine wp_seq (wp_mono (fR hF hib hdr hm a i hI hu h) fun e a' w' ⟨e', s', G', tv', he, hk, ha, hI', hu'⟩ => ?_)
  subst ha he
  cases e' with
  | normal => exact fR hF hib hdr hm c i hI' hu' hk
  | exit j => exact ⟨.exit j, s', G', tv', rfl, hk, rfl, hI', hu'⟩
  | ret => exact ⟨.ret, s', G', tv', rfl, hk, rfl, hI', hu'⟩
 | .cond x a c, i, s, k, G, tv, w, hI, hu, h => by
  simp only [evC] at h
  split at h
  ·rename_i t hx
   have hv := hI.ev x
   rw [hx] at hv
   rcases cm h with ⟨rfl, h⟩ | ⟨rfl, h⟩
   ·exact wp_cond_true (cX hv) (fR hF hib hdr hm a i (s := s.DZ x true) (by rw [vL]; exact hI.DZ hx) hu h)
   ·exact wp_cond_false (cX hv) (fR hF hib hdr hm c i (s := s.DZ x false) (by rw [vL]; exact hI.DZ hx) hu h)
  ·cases h
 | .block id c, i, s, k, G, tv, w, hI, hu, h => by
  simp only [evC] at h
  refine wp_block (wp_mono (fR hF hib hdr hm c id hI hu h) fun e a' w' ⟨e', s', G', tv', he, hk, ha, hI', hu'⟩ => ?_)
  subst ha he
  cases e' with
  | normal => exact ⟨.normal, s', G', tv', rfl, hk, rfl, hI', hu'⟩
  | ret => exact ⟨.ret, s', G', tv', rfl, hk, rfl, hI', hu'⟩
  | exit j =>
   simp only [AU] at hk
   simp only [Ex.out, Exit.inBlock]
   rcases cm hk with ⟨hj, hk⟩ | ⟨hj, hk⟩
   ·simp only [Nat.beq_eq] at hj
    rw [if_pos hj]
    exact ⟨.normal, s', G', tv', rfl, hk, rfl, hI', hu'⟩
   ·rw [if_neg (fun e => by rw [e] at hj; simp at hj)]
    exact ⟨.exit j, s', G', tv', rfl, hk, rfl, hI', hu'⟩
 | .loop c, i, s, k, G, tv, w, hI, hu, h => by
  simp only [evC] at h
  obtain ⟨G1, hI1, hu1⟩ := lW (live := E.live i) hI hu hm
  refine wp_loop_ghost (fun n a w => ∃ s G tv, evL (evC E i c) (mu E.m (E.live i)) n s k = some r ∧ a = ⟨tv.toArray, []⟩ ∧ bp w0 M Z0 s.heap.length G s tv w ∧ UpW G0 G) E.n ⟨_, G1, tv, h, rfl, hI1, hu1⟩ ?_
  intro n a w ⟨s, G, tv, h, ha, hI, hu⟩
  subst ha
  cases n with
  | zero => cases h
  | succ n =>
   simp only [evL] at h
   refine wp_mono (fR hF hib hdr hm c i hI hu h) fun e a' w' ⟨e', s', G', tv', he, hk, ha, hI', hu'⟩ => ?_
   subst ha he
   cases e' with
   | normal =>
    obtain ⟨G2, hI2, hu2⟩ := lW (live := E.live i) hI' hu' hm
    exact ⟨n, Nat.lt_succ_self n, _, G2, tv', hk, rfl, hI2, hu2⟩
   | exit j => exact ⟨.exit j, s', G', tv', rfl, hk, rfl, hI', hu'⟩
   | ret => exact ⟨.ret, s', G', tv', rfl, hk, rfl, hI', hu'⟩
 | .exit id, i, s, k, G, tv, w, hI, hu, h => wp_exit ⟨.exit id, s, G, tv, rfl, h, rfl, hI, hu⟩
 | .ret, i, s, k, G, tv, w, hI, hu, h => wp_ret ⟨.ret, s, G, tv, rfl, h, rfl, hI, hu⟩
 | .rangeFunc _ _ _ _, i, s, k, G, tv, w, hI, hu, h => by simp [evC] at h
 | .scope _, i, s, k, G, tv, w, hI, hu, h => by simp [evC] at h
 | .label _, i, s, k, G, tv, w, hI, hu, h => by simp [evC] at h
 | .goto _, i, s, k, G, tv, w, hI, hu, h => by simp [evC] at h
 | .refuse _, i, s, k, G, tv, w, hI, hu, h => by simp [evC] at h
def qR (P : Program) (S : Say) : Prop := ∀ f g args out, S.prim f = some g → g args = some out →
 ∀ w0 M Z0 G vals w, bp w0 M Z0 0 G ⟨args.map .v, []⟩ vals w →
  Calls P f vals.toArray w fun e w' => ∃ xs G', e = .returned (if h : xs.toArray.size = 1 then xs.toArray[0] else .tuple xs.toArray) ∧ bp w0 M Z0 out.2.length G' ⟨out.1.map .v, out.2⟩ xs w' ∧ UpW G G'
theorem vo {S : Say} (hp : qR P S) (hib : ∀ f, S.D.ib f = true → kc P f) (hdr : ∀ F, dW P F → BA P F S.D) : ∀ n, dW P (evF P S n)
 | 0 => fun f fn args h out _ _ ho => by cases ho
 | n + 1 => by
  intro f fn args h out hfn hb ho w0 M Z0 G vals w hI
  have hF := vo hp hib hdr n
  unfold evF at ho
  split at ho
  ·rename_i g hg
   split at ho
   ·exact hp f g args out hg ho w0 M Z0 G vals w hI
   ·cases ho
  ·rw [hfn] at ho
   simp only at ho
   split at ho
   ·rename_i c hc
    have hlen : args.length = vals.length := by have := hI.st.per.1.1; simpa using this
    refine calls_of_wp hfn hc ?_
    have hI2 : bp w0 M Z0 h.length G ⟨args.map .v ++ List.replicate (fn.ntmps - args.length) aa, h⟩ (vals ++ List.replicate (fn.ntmps - args.length) undef) w :=
     ⟨hI.st.jP (aS _ _ _) fun hh => ⟨aw.append hh.1 (aw.replicate (fh undef) _), hh.2⟩, hI.fresh, hI.mz⟩
    have hwp := fR (E := ⟨P, evF P S n, S.D, n, h.length, S.live f⟩) (G0 := G) hF hib (hdr _ hF) hI.len.symm c 0 hI2 (UpW.refl G) ho
    have harr : vals.toArray ++ Array.replicate (fn.ntmps - vals.toArray.size) undef = (vals ++ List.replicate (fn.ntmps - args.length) undef).toArray := by
     rw [hlen]; simp
    rw [harr]
    refine wp_mono hwp fun e a' w' ⟨e', s', G', tv', he, hk, ha, hI', hu'⟩ => ?_
    subst ha he
    have fin : finish P (S.D.own f) fn h.length s' = some out → ∃ v, (results fn tv'.toArray).run P w' = .ok v w' ∧ ∃ xs G'', (.returned v : Ending) = .returned (if h : xs.toArray.size = 1 then xs.toArray[0] else .tuple xs.toArray) ∧ bp w0 M Z0 out.2.length G'' ⟨out.1.map .v, out.2⟩ xs w' ∧ UpW G G'' := by
     intro hk
     obtain ⟨xs, G'', h1, h2, h3⟩ := tG hI' hu' hI.len.symm hk
     exact ⟨_, h1, xs, G'', rfl, h2, h3⟩
    cases e' with
    | normal => exact ⟨rfl, fin hk⟩
    | ret => exact ⟨rfl, fin hk⟩
    | exit j => cases hk
   ·cases ho
end
end Go.Ab
end
section
namespace Go.Ab
open Go Go.Dk
def N1 {α : Type} (f : (α → OR) → OR) : Prop := ∀ k r, f k = some r → ∃ a, k a = some r ∧ ∀ k', f k' = k' a
def N2 {α β : Type} (f : (α → β → OR) → OR) : Prop := ∀ k r, f k = some r → ∃ a b, k a b = some r ∧ ∀ k', f k' = k' a b
def N4 {α β γ δ : Type} (f : (α → β → γ → δ → OR) → OR) : Prop := ∀ k r, f k = some r → ∃ a b c d, k a b c d = some r ∧ ∀ k', f k' = k' a b c d
theorem N1.pure {α : Type} (a : α) : N1 fun k => k a := fun k r h => ⟨a, h, fun _ => rfl⟩
theorem N2.pure {α β : Type} (a : α) (b : β) : N2 fun k => k a b := fun k r h => ⟨a, b, h, fun _ => rfl⟩
theorem N4.pure {α β γ δ : Type} (a : α) (b : β) (c : γ) (d : δ) : N4 fun k => k a b c d := fun k r h => ⟨a, b, c, d, h, fun _ => rfl⟩
theorem N1.none {α : Type} : N1 fun (k : α → OR) => none := fun k r h => by cases h
theorem N2.none {α β : Type} : N2 fun (k : α → β → OR) => none := fun k r h => by cases h
theorem N4.none {α β γ δ : Type} : N4 fun (k : α → β → γ → δ → OR) => none := fun k r h => by cases h
theorem N1.cond {α : Type} {b : Bool} {f g : (α → OR) → OR} (hf : N1 f) (hg : N1 g) : N1 fun k => cond b (f k) (g k) := by cases b; exact hg; exact hf
theorem N2.cond {α β : Type} {b : Bool} {f g : (α → β → OR) → OR} (hf : N2 f) (hg : N2 g) : N2 fun k => cond b (f k) (g k) := by cases b; exact hg; exact hf
theorem N4.cond {α β γ δ : Type} {b : Bool} {f g : (α → β → γ → δ → OR) → OR} (hf : N4 f) (hg : N4 g) : N4 fun k => cond b (f k) (g k) := by cases b; exact hg; exact hf
theorem N1.bind {α β : Type} {o : Option β} {f : β → (α → OR) → OR} (hf : ∀ x, N1 (f x)) : N1 fun k => o.bind fun x => f x k := by cases o; exact N1.none; exact hf _
theorem N2.bind {α β γ : Type} {o : Option γ} {f : γ → (α → β → OR) → OR} (hf : ∀ x, N2 (f x)) : N2 fun k => o.bind fun x => f x k := by cases o; exact N2.none; exact hf _
theorem N4.bind {α β γ δ ε : Type} {o : Option ε} {f : ε → (α → β → γ → δ → OR) → OR} (hf : ∀ x, N4 (f x)) : N4 fun k => o.bind fun x => f x k := by cases o; exact N4.none; exact hf _
theorem N1.b4 {α β : Type} {g : (β → OR) → OR} {f : β → (α → OR) → OR} (hg : N1 g) (hf : ∀ x, N1 (f x)) : N1 fun k => g fun x => f x k := by
 intro k r h
 obtain ⟨x, hx, hk⟩ := hg _ _ h
 obtain ⟨a, ha, hk'⟩ := hf x _ _ hx
 exact ⟨a, ha, fun k' => (hk _).trans (hk' k')⟩
theorem N2.b4 {α β γ : Type} {g : (γ → OR) → OR} {f : γ → (α → β → OR) → OR} (hg : N1 g) (hf : ∀ x, N2 (f x)) : N2 fun k => g fun x => f x k := by
 intro k r h
 obtain ⟨x, hx, hk⟩ := hg _ _ h
 obtain ⟨a, b, ha, hk'⟩ := hf x _ _ hx
 exact ⟨a, b, ha, fun k' => (hk _).trans (hk' k')⟩
theorem N4.b4 {α β γ δ ε : Type} {g : (ε → OR) → OR} {f : ε → (α → β → γ → δ → OR) → OR} (hg : N1 g) (hf : ∀ x, N4 (f x)) : N4 fun k => g fun x => f x k := by
 intro k r h
 obtain ⟨x, hx, hk⟩ := hg _ _ h
 obtain ⟨a, b, c, d, ha, hk'⟩ := hf x _ _ hx
 exact ⟨a, b, c, d, ha, fun k' => (hk _).trans (hk' k')⟩
theorem N1.bI {α β γ : Type} {g : (β → γ → OR) → OR} {f : β → γ → (α → OR) → OR} (hg : N2 g) (hf : ∀ x y, N1 (f x y)) : N1 fun k => g fun x y => f x y k := by
 intro k r h
 obtain ⟨x, y, hx, hk⟩ := hg _ _ h
 obtain ⟨a, ha, hk'⟩ := hf x y _ _ hx
 exact ⟨a, ha, fun k' => (hk _).trans (hk' k')⟩
theorem N2.bI {α β γ δ : Type} {g : (γ → δ → OR) → OR} {f : γ → δ → (α → β → OR) → OR} (hg : N2 g) (hf : ∀ x y, N2 (f x y)) : N2 fun k => g fun x y => f x y k := by
 intro k r h
 obtain ⟨x, y, hx, hk⟩ := hg _ _ h
 obtain ⟨a, b, ha, hk'⟩ := hf x y _ _ hx
 exact ⟨a, b, ha, fun k' => (hk _).trans (hk' k')⟩
theorem N4.bI {α β γ δ ε ζ : Type} {g : (ε → ζ → OR) → OR} {f : ε → ζ → (α → β → γ → δ → OR) → OR} (hg : N2 g) (hf : ∀ x y, N4 (f x y)) : N4 fun k => g fun x y => f x y k := by
 intro k r h
 obtain ⟨x, y, hx, hk⟩ := hg _ _ h
 obtain ⟨a, b, c, d, ha, hk'⟩ := hf x y _ _ hx
 exact ⟨a, b, c, d, ha, fun k' => (hk _).trans (hk' k')⟩
theorem N2.Kb {α β γ δ ε ζ : Type} {g : (γ → δ → ε → ζ → OR) → OR} {f : γ → δ → ε → ζ → (α → β → OR) → OR} (hg : N4 g) (hf : ∀ x y z u, N2 (f x y z u)) : N2 fun k => g fun x y z u => f x y z u k := by
 intro k r h
 obtain ⟨x, y, z, u, hx, hk⟩ := hg _ _ h
 obtain ⟨a, b, ha, hk'⟩ := hf x y z u _ _ hx
 exact ⟨a, b, ha, fun k' => (hk _).trans (hk' k')⟩
section
variable (P : Program)
theorem Jb (d : SD) (i : Nat) : N1 (d.get i) := by
 cases d <;> exact N1.bind fun x => N1.pure _
theorem Ki (d e : SD) : N1 (d.app e) := by
 unfold SD.app; split <;> first | exact N1.pure _ | exact N1.none
theorem Kd (d : SD) (i : Nat) (e : SE) : N1 (d.set i e) := by
 unfold SD.set; split <;> first | exact N1.pure _ | exact N1.none
theorem vX (h : List au) (x : SV) : N1 (wx h x) := by
 unfold wx; split
 ·exact N1.pure _
 ·exact N1.pure _
 ·split
  ·exact N1.cond (N1.pure _) N1.none
  ·exact N1.none
 ·exact N1.none
theorem wR (h : List au) (x : SV) : N2 (mJ h x) := by
 unfold mJ; split
 ·split
  ·exact N2.cond (N2.pure _ _) N2.none
  ·exact N2.none
 ·exact N2.pure _ _
 ·exact N2.pure _ _
theorem sN : ∀ (l : List SV) (h : List au), N2 (jM h l)
 | [], h => N2.pure _ _
 | x :: l, h => by
  show N2 fun k => mJ h x fun x' h' => jM h' l fun l' h'' => k (x' :: l') h''
  exact N2.bI (wR h x) fun x' h' => N2.bI (sN l h') fun _ _ => N2.pure _ _
theorem yu (e : SK) (l : List SV) : N1 (elemOf e l) := by
 unfold elemOf; split <;> first | exact N1.pure _ | exact N1.none | exact N1.cond (N1.pure _) N1.none
theorem uV (e : SK) : ∀ (cs : List (List SV)) (h : List au) (d : SD), N2 (jX e h cs d)
 | [], h, d => N2.pure _ _
 | c :: cs, h, d => by
  show N2 fun k => jM h c fun c' h' => elemOf e c' fun x => (d.snoc x).bind fun d' => jX e h' cs d' k
  exact N2.bI (sN c h) fun c' h' => N2.b4 (yu e c') fun x => N2.bind fun d' => uV e cs h' d'
theorem vZ (t : TypeId) (l : List SV) : N1 (xc P t l) := by
 unfold xc; split
 ·split
  ·exact N1.pure _
  ·exact N1.none
 ·split
  ·exact N1.cond (N1.pure _) N1.none
  ·exact N1.none
theorem ye (t : TypeId) (x : AV) (h : List au) : N1 (nK P t x h) := by
 unfold nK; split
 ·split
  ·exact vZ P _ _
  ·exact N1.none
 ·exact vZ P _ _
 ·split
  ·exact N1.cond (N1.b4 (Jb _ _) fun e => vZ P _ _) N1.none
  ·exact N1.none
 ·exact N1.none
theorem BI (t : TypeId) (x y : AV) (h : List au) : N1 (ng P t x y h) := by
 unfold ng; split
 ·refine N1.bind fun yc => ?_
  split
  ·split
   ·exact N1.cond (N1.pure _) N1.none
   ·exact N1.none
  ·refine N1.bI (sN _ _) fun c h => ?_
   split
   ·exact N1.cond (N1.b4 (yu _ _) fun x => N1.b4 (Kd _ _ _) fun d => N1.pure _) N1.none
   ·exact N1.none
  ·exact N1.none
 ·exact N1.none
theorem Gx (op : BinOp) (ka : IntKind) (a b : Int) : N1 (C0 op ka a b) := by
 unfold C0; split <;> first | exact N1.pure _ | exact N1.none | exact N1.cond N1.none (N1.pure _)
theorem Gs (op : BinOp) (a b : ByteArray) : N1 (Bz op a b) := by
 unfold Bz; split <;> first | exact N1.pure _ | exact N1.none | exact N1.cond (N1.pure _) N1.none
theorem C2 (op : BinOp) (t : TypeId) (x y : AV) : N1 (Cp P op t x y) := by
 unfold Cp; split
 ·exact N1.cond (Gx _ _ _ _) N1.none
 ·exact Gs _ _ _
 ·split
  ·split <;> first | exact N1.pure _ | exact N1.none
  ·exact N1.none
 ·exact N1.none
theorem FE (op : UnOp) (x : AV) : N1 (JA op x) := by
 unfold JA; split <;> first | exact N1.pure _ | exact N1.none
theorem yy (t t' : TypeId) (x : AV) (h : List au) : N1 (s8 P t t' x h) := by
 unfold s8; split
 ·split <;> first | exact N1.pure _ | exact N1.none
 ·split
  ·refine N1.b4 (vX _ _) fun d => ?_
   split <;> first | exact N1.pure _ | exact N1.none
  ·exact N1.none
 ·exact N1.none
theorem cI (x : AV) : N1 (fx x) := by
 unfold fx; split <;> first | exact N1.pure _ | exact N1.none
theorem xS (lo hi : Option AV) (n : Nat) : N2 (eZ.bounds lo hi n) := by
 unfold eZ.bounds; split
 ·exact N2.pure _ _
 ·exact N2.b4 (cI _) fun l => N2.cond (N2.pure _ _) N2.none
 ·exact N2.b4 (cI _) fun l => N2.cond (N2.pure _ _) N2.none
 ·exact N2.b4 (cI _) fun l => N2.b4 (cI _) fun m => N2.cond (N2.pure _ _) N2.none
theorem Co (t : TypeId) (x : AV) (lo hi mx : Option AV) (h : List au) : N2 (eZ P t x lo hi mx h) := by
 unfold eZ; split
 ·refine N2.cond (N2.b4 (cI _) fun m => ?_) N2.none
  split
  ·refine N2.b4 (cI _) fun n => N2.cond ?_ N2.none
   split
   ·exact N2.cond (N2.pure _ _) N2.none
   ·split
    ·exact N2.cond (N2.pure _ _) N2.none
    ·exact N2.none
   ·exact N2.pure _ _
   ·exact N2.none
  ·refine N2.b4 (cI _) fun n => N2.b4 (cI _) fun l => N2.cond ?_ N2.none
   split
   ·exact N2.cond (N2.pure _ _) N2.none
   ·split
    ·exact N2.cond (N2.pure _ _) N2.none
    ·exact N2.none
   ·exact N2.pure _ _
   ·exact N2.none
  ·exact N2.none
 ·split
  ·split
   ·exact N2.bI (xS _ _ _) fun l n => N2.pure _ _
   ·exact N2.none
  ·split
   ·refine N2.bI (wR _ _) fun x' h' => ?_
    split
    ·exact N2.cond (N2.bI (xS _ _ _) fun l n => N2.pure _ _) N2.none
    ·exact N2.none
   ·exact N2.none
  ·exact N2.none
theorem ky (t : TypeId) (x y : AV) (h : List au) : N1 (fO P t x y h) := by
 unfold fO; split
 ·exact N1.none
 ·refine N1.b4 (cI _) fun i => N1.cond ?_ N1.none
  split
  ·exact N1.cond (N1.b4 (Jb _ _) fun x => N1.pure _) N1.none
  ·split
   ·exact N1.cond (N1.cond (N1.pure _) N1.none) N1.none
   ·exact N1.none
  ·exact N1.none
theorem C1 (t : TypeId) (x : AV) (h : List au) : N1 (B0 P t x h) := by
 unfold B0; split
 ·split <;> first | exact N1.pure _ | exact N1.none
 ·split <;> first | exact N1.pure _ | exact N1.none
 ·split
  ·exact N1.b4 (vX _ _) fun d => N1.pure _
  ·exact N1.none
 ·exact N1.none
theorem Ag (t : TypeId) (x y : AV) (h : List au) (sl : Nat) : N2 (kL P t x y h sl) := by
 unfold kL; split
 ·exact N2.none
 ·split
  ·refine N2.b4 (vX _ _) fun d' => N2.cond ?_ N2.none
   split
   ·split
    ·exact N2.cond (N2.b4 (Ki _ _) fun d => N2.cond (N2.pure _ _) N2.none) N2.none
    ·exact N2.none
   ·exact N2.cond (N2.pure _ _) N2.none
   ·exact N2.none
  ·exact N2.none
theorem DD (t : TypeId) (x y : AV) (h : List au) (sl : Nat) : N2 (qn P t x y h sl) := by
 unfold qn
 refine N2.b4 (cI _) fun n => N2.b4 (cI _) fun m => N2.cond ?_ N2.none
 split
 ·exact N2.cond (N2.bind fun d => N2.pure _ _) N2.none
 ·exact N2.none
theorem uc (h : List au) (d : Nat) (v : AV) : N1 (nn h d v) := by
 unfold nn; split <;> first | exact N1.pure _ | exact N1.none | exact N1.cond (N1.pure _) N1.none
theorem CO (h : List au) (v : AV) : N1 (CJ h v) := by
 unfold CJ; split <;> first | exact N1.pure _ | exact N1.none | exact N1.cond (N1.pure _) N1.none
theorem te (t : TypeId) (x y : AV) : N1 (ny P t x y) := by
 unfold ny; split
 ·refine N1.b4 (cI _) fun n => N1.cond ?_ N1.none
  split <;> first | exact N1.pure _ | exact N1.none
 ·exact N1.none
theorem nj (x : AV) (i : Nat) : N1 (jh x i) := by
 unfold jh; split
 ·exact N1.bind fun x => N1.pure _
 ·exact N1.none
theorem sK (mx : Bool) (x y : AV) : N1 (zE mx x y) := by
 unfold zE; split <;> first | exact N1.cond (N1.pure _) N1.none | exact N1.none
theorem uS (t : TypeId) (ps : List (Nat × AV)) : N1 (sx P t ps) := N1.bind fun _ => N1.bind fun _ => N1.bind fun _ => N1.pure _
theorem mP : ∀ (l : List V1) (h : List au), N2 (jA h l)
 | [], h => N2.pure _ _
 | .agg c :: l, h => by
  show N2 fun k => jM h c fun c h => jA h l fun vs h => k (.agg c :: vs) h
  exact N2.bI (sN c h) fun c h => N2.bI (mP l h) fun _ _ => N2.pure _ _
 | .one x :: l, h => by
  have h1 : N2 fun k => jA h l fun vs h => k (.one .any :: vs) h := N2.bI (mP l h) fun _ _ => N2.pure _ _
  have h2 : N2 fun k => mJ h x fun x h => jA h l fun vs h => k (.one x :: vs) h := N2.bI (wR h x) fun x h => N2.bI (mP l h) fun _ _ => N2.pure _ _
  cases x <;> first | exact h2 | exact h1
theorem Jh (a : IntKind) (l : List SV) : N2 (aV a l) := by unfold aV; split <;> first | exact N2.cond (N2.pure _ _) N2.none | exact N2.none
theorem GG (l : List SV) : N2 (mB l) := by unfold mB; split <;> first | exact N2.pure _ _ | exact N2.none
theorem HY (l : List SV) : N2 (HB l) := by unfold HB; split <;> first | exact N2.pure _ _ | exact N2.none
theorem Ig (e : SK) (l : List SV) : N2 (slC e l) := by
 cases e
 ·show N2 fun k => tsC l fun x l => k (SD.ts x) l; refine N2.bI (g := tsC l) ?_ fun _ _ => N2.pure _ _; unfold tsC; split <;> first | exact N2.pure _ _ | exact N2.none
 ·show N2 fun k => isC l fun x l => k (SD.is x) l; refine N2.bI (g := isC l) ?_ fun _ _ => N2.pure _ _; unfold isC; split <;> first | exact N2.pure _ _ | exact N2.none
 ·show N2 fun k => Hz l fun x l => k (SD.iss x) l; refine N2.bI (g := Hz l) ?_ fun _ _ => N2.pure _ _; unfold Hz; split <;> first | exact N2.pure _ _ | exact N2.none
 ·show N2 fun k => ssC l fun x l => k (SD.ss x) l; refine N2.bI (g := ssC l) ?_ fun _ _ => N2.pure _ _; unfold ssC; split <;> first | exact N2.pure _ _ | exact N2.none
 ·show N2 fun k => bsC l fun x l => k (SD.bs x) l; refine N2.bI (g := bsC l) ?_ fun _ _ => N2.pure _ _; unfold bsC; split <;> first | exact N2.pure _ _ | exact N2.none
theorem HS (l : List SV) : N1 (HJ l) := by unfold HJ; split <;> first | exact N1.pure _ | exact N1.none
theorem Hc (x : SV) (l : List SV) : N2 (zO x l) := by
 unfold zO; split
 ·exact N2.bI (Jh _ _) fun _ _ => N2.pure _ _
 ·exact N2.bI (GG _) fun _ _ => N2.pure _ _
 ·exact N2.bI (HY _) fun _ _ => N2.pure _ _
 ·exact N2.bI (Ig _ _) fun _ _ => N2.pure _ _
 ·exact N2.bI (Ig _ _) fun _ _ => N2.pure _ _
 ·exact N2.b4 (HS _) fun _ => N2.pure _ _
theorem vW : ∀ (x l : List SV), N1 (qM x l)
 | [], l => by
  show N1 fun k => aT l (k [])
  unfold aT; split <;> first | exact N1.pure _ | exact N1.none
 | x :: xs, l => by
  show N1 fun k => zO x l fun y l => qM xs l fun ys => k (y :: ys)
  exact N1.bI (Hc x l) fun y l => N1.b4 (vW xs l) fun _ => N1.pure _
theorem FM (o : List au) : N2 (aR o) := by unfold aR; split <;> first | exact N2.pure _ _ | exact N2.none
theorem CI (o : List au) : N1 (wZ o) := by unfold wZ; split <;> first | exact N1.pure _ | exact N1.none
theorem qT : ∀ (x o : List au), N2 (rF x o)
 | [], o => N2.pure _ _
 | .cells x :: xs, o => by
  show N2 fun k => aR o fun l o => qM x l fun y => rF xs o fun ys o => k (.cells y :: ys) o
  exact N2.bI (FM o) fun l o => N2.b4 (vW x l) fun y => N2.bI (qT xs o) fun _ _ => N2.pure _ _
 | .arr _ _ _ _ :: xs, o => by
  show N2 fun k => wZ o fun o => rF xs o fun ys o => k (.dead :: ys) o
  exact N2.b4 (CI o) fun o => N2.bI (qT xs o) fun _ _ => N2.pure _ _
 | .dead :: xs, o => by
  show N2 fun k => wZ o fun o => rF xs o fun ys o => k (.dead :: ys) o
  exact N2.b4 (CI o) fun o => N2.bI (qT xs o) fun _ _ => N2.pure _ _
theorem IT (a : IntKind) (l : List V1) : N2 (aC a l) := by unfold aC; split <;> first | exact N2.cond (N2.pure _ _) N2.none | exact N2.none
theorem GR (l : List V1) : N2 (aK l) := by unfold aK; split <;> first | exact N2.pure _ _ | exact N2.none
theorem Jq (l : List V1) : N2 (kW l) := by unfold kW; split <;> first | exact N2.pure _ _ | exact N2.none
theorem Hq (l : List V1) : N2 (ag l) := by unfold ag; split <;> first | exact N2.pure _ _ | exact N2.none
theorem IG (j : Nat) (l : List V1) : N1 (FB j l) := by unfold FB; split <;> first | exact N1.cond (N1.pure _) N1.none | exact N1.none
theorem Ij (j : Nat) (l : List V1) : N1 (Gq j l) := by unfold Gq; split <;> first | exact N1.cond (N1.pure _) N1.none | exact N1.none
theorem JZ (e : SK) (l : List V1) : N2 (rSl e l) := by
 cases e
 ·show N2 fun k => rTs l fun x l => k (SD.ts x) l; refine N2.bI (g := rTs l) ?_ fun _ _ => N2.pure _ _; unfold rTs; split <;> first | exact N2.pure _ _ | exact N2.none
 ·show N2 fun k => rIs l fun x l => k (SD.is x) l; refine N2.bI (g := rIs l) ?_ fun _ _ => N2.pure _ _; unfold rIs; split <;> first | exact N2.pure _ _ | exact N2.none
 ·show N2 fun k => HE l fun x l => k (SD.iss x) l; refine N2.bI (g := HE l) ?_ fun _ _ => N2.pure _ _; unfold HE; split <;> first | exact N2.pure _ _ | exact N2.none
 ·show N2 fun k => rSs l fun x l => k (SD.ss x) l; refine N2.bI (g := rSs l) ?_ fun _ _ => N2.pure _ _; unfold rSs; split <;> first | exact N2.pure _ _ | exact N2.none
 ·show N2 fun k => rBs l fun x l => k (SD.bs x) l; refine N2.bI (g := rBs l) ?_ fun _ _ => N2.pure _ _; unfold rBs; split <;> first | exact N2.pure _ _ | exact N2.none
theorem yn (e : TypeId) (o : List au) : N2 (ck e o) := by unfold ck; split <;> first | exact N2.cond (N2.pure _ _) N2.none | exact N2.none
theorem Ip (e : TypeId × SK) (o : List au) : N2 (IE e o) := by
 unfold IE; split
 ·exact N2.bI (yn _ _) fun _ _ => N2.pure _ _
 ·refine N2.bI (g := qC e.1 o) ?_ fun _ _ => N2.pure _ _; unfold qC; split <;> first | exact N2.cond (N2.pure _ _) N2.none | exact N2.none
 ·refine N2.bI (g := lf e.1 o) ?_ fun _ _ => N2.pure _ _; unfold lf; split <;> first | exact N2.cond (N2.pure _ _) N2.none | exact N2.none
 ·refine N2.bI (g := qD e.1 o) ?_ fun _ _ => N2.pure _ _; unfold qD; split <;> first | exact N2.cond (N2.pure _ _) N2.none | exact N2.none
 ·refine N2.bI (g := qi e.1 o) ?_ fun _ _ => N2.pure _ _; unfold qi; split <;> first | exact N2.cond (N2.pure _ _) N2.none | exact N2.none
theorem G5 {α β γ δ : Type} {j : Nat} {l : List V1} {f : Int → Int → List V1 → (α → β → γ → δ → OR) → OR} (hf : ∀ x y z, N4 (f x y z)) : N4 fun k => fL j l fun x y z => f x y z k := by
 unfold fL; split
 ·exact N4.cond (hf _ _ _) N4.none
 ·exact N4.none
theorem I7 (own : Bool) (c b : Nat) (t : TypeId) (l : List V1) (o : List au) : N4 (HC P own c b t l o) := by
 unfold HC; split
 ·exact N4.bI (IT _ _) fun _ _ => N4.pure _ _ _ _
 ·exact N4.bI (GR _) fun _ _ => N4.pure _ _ _ _
 ·exact N4.bI (Jq _) fun _ _ => N4.pure _ _ _ _
 ·split
  ·exact N4.cond (N4.b4 (IG _ _) fun _ => N4.bI (Ip _ _) fun _ _ => N4.pure _ _ _ _) (N4.bI (JZ _ _) fun _ _ => N4.pure _ _ _ _)
  ·exact N4.none
 ·split
  ·exact N4.cond (G5 fun _ _ _ => N4.bI (yn _ _) fun _ _ => N4.pure _ _ _ _) (N4.bI (Hq _) fun _ _ => N4.pure _ _ _ _)
  ·exact N4.none
 ·refine N4.b4 (Ij _ _) fun _ => N4.bI (FM _) fun _ _ => ?_
  split
  ·exact N4.b4 (vW _ _) fun _ => N4.pure _ _ _ _
  ·exact N4.none
 ·exact N4.none
theorem Cv (own : Bool) : ∀ (ts : List TypeId) (c b : Nat) (l : List V1) (o : List au), N2 (xr P own ts c b l o)
 | [], c, b, l, o => by
  show N2 fun k => ai l (aj o (k [] []))
  unfold ai; split; (unfold aj; split <;> first | exact N2.pure _ _ | exact N2.none); exact N2.none
 | t :: ts, c, b, l, o => by
  show N2 fun k => HC P own c b t l o fun v n l o => xr P own ts (c + n.length) (b + n.length) l o fun vs ns => k (v :: vs) (n ++ ns)
  exact N2.Kb (I7 P own c b t l o) fun v n l o => N2.bI (Cv own ts _ _ l o) fun _ _ => N2.pure _ _
theorem yj (F : Callee) (ow : Bool) (f : FuncId) (tys : List TypeId) (sl rm : Nat) (args : List V1) (h : List au) : N2 fun k => pJ P F ow f tys sl rm k args h := by
 unfold pJ
 exact N2.cond (N2.bind fun r => N2.bI (qT _ _) fun os o => N2.bI (Cv P _ _ _ _ _ _) fun vs ns => N2.cond (N2.pure _ _) N2.none) N2.none
theorem Ca (F : Callee) (D : Dec) (f : FuncId) (args : List V1) (h : List au) (sl rm : Nat) : N2 fun k => s4 P F D f args h sl rm k := by
 unfold s4; split
 ·exact N2.none
 ·exact N2.cond (N2.cond (yj P _ _ _ _ _ _ _ _) (N2.bI (mP _ _) fun args h => yj P _ _ _ _ _ _ _ _)) N2.none
theorem xD (b : Builtin) (args : List AV) (tys : List TypeId) (h : List au) (sl : Nat) : N2 (gK P b args tys h sl) := by
 unfold gK; split
 ·exact N2.b4 (C1 P _ _ _) fun _ => N2.pure _ _
 ·exact N2.cond (N2.bI (Ag P _ _ _ _ _) fun _ _ => N2.pure _ _) N2.none
 ·exact N2.b4 (sK _ _ _) fun _ => N2.pure _ _
 ·exact N2.b4 (sK _ _ _) fun _ => N2.pure _ _
 ·exact N2.none
theorem nH (F : Callee) (D : Dec) (o : Oper) (ρ : Operand → AV) (x : Operand) (args : Array Operand) (h : List au) (sl : Nat) : N2 fun k => (match ρ x with
     | .v (.one (.fn f l)) => (v1L (args.toList.map ρ)).bind fun vs => s4 P F D f (vs ++ l.map fun j => .one (.ptr j 0)) h sl (gi P D o) k
     | _ => none) := by
 split
 ·exact N2.bind fun vs => Ca P _ _ _ _ _ _ _
 ·exact N2.none
theorem FW (F : Callee) (D : Dec) (o : Oper) (ρ : Operand → AV) (h : List au) (sl : Nat) : N2 (oX P F D o ρ h sl) := by
 obtain ⟨dst, op, ty, pos, aft, gd⟩ := o
 show N2 fun k => oX P F D ⟨dst, op, ty, pos, aft, gd⟩ ρ h sl k
 cases op <;> simp only [oX]
 case move => exact N2.pure _ _
 case assign => exact N2.pure _ _
 case pick =>
  split
  ·exact N2.cond (N2.pure _ _) (N2.pure _ _)
  ·exact N2.none
 case alloc => exact N2.bind fun _ => N2.pure _ _
 case box => exact N2.bind fun _ => N2.pure _ _
 case build => exact N2.b4 (uS P _ _) fun _ => N2.pure _ _
 case buildSlice =>
  split
  ·exact N2.cond (N2.bind fun _ => N2.bI (uV _ _ _ _) fun _ _ => N2.pure _ _) N2.none
  ·exact N2.none
 case load => exact N2.b4 (ye P _ _ _) fun _ => N2.pure _ _
 case store => exact N2.b4 (BI P _ _ _ _) fun _ => N2.pure _ _
 case nilCheck => exact N2.b4 (CO _ _) fun _ => N2.pure _ _
 case binOp => exact N2.b4 (C2 P _ _ _ _) fun _ => N2.pure _ _
 case unOp => exact N2.b4 (FE _ _) fun _ => N2.pure _ _
 case convert => exact N2.b4 (yy P _ _ _ _) fun _ => N2.pure _ _
 case makeFunc =>
  split
  ·exact N2.bind fun _ => N2.pure _ _
  ·exact N2.none
 case makeSlice => exact N2.bI (DD P _ _ _ _ _) fun _ _ => N2.pure _ _
 case slice => exact N2.bI (Co P _ _ _ _ _ _) fun _ _ => N2.pure _ _
 case fieldAddr => exact N2.bind fun _ => N2.b4 (uc _ _ _) fun _ => N2.pure _ _
 case indexAddr => exact N2.b4 (ky P _ _ _ _) fun _ => N2.pure _ _
 case index => exact N2.b4 (te P _ _ _) fun _ => N2.pure _ _
 case extract => exact N2.b4 (nj _ _) fun _ => N2.pure _ _
 case call c =>
  obtain ⟨callee, args, tys⟩ := c
  cases callee with
  | builtin bi => exact xD P _ _ _ _ _
  | invoke q m => exact N2.none
  | value f =>
   cases f with
   | func f =>
    refine N2.cond ?_ (N2.bind fun _ => Ca P _ _ _ _ _ _ _)
    split
    ·exact N2.cond (N2.pure _ _) N2.none
    ·exact N2.none
   | tmp t => exact nH P F D _ ρ _ _ h sl
   | const v => exact nH P F D _ ρ _ _ h sl
   | global g => exact nH P F D _ ρ _ _ h sl
 all_goals exact N2.none
end
end Go.Ab
end
