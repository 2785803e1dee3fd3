/- Part 2 of 7 of the proof of FnLamOver_holds. -/
import Derived.Test.YthopkmimhlcjkaaGreatK01
section
/- The abstract run is sound: operations that only read. No program in sight. -/
set_option linter.unusedVariables false
set_option linter.unusedSimpArgs false
namespace Go.Ab
open Go Go.Dk

theorem cond_some {b : Bool} {x y : OR} {r} (h : cond b x y = some r) : (b = true ∧ x = some r) ∨ (b = false ∧ y = some r) := by cases b <;> simp_all
theorem cond_left {b : Bool} {x : OR} {r} (h : cond b x none = some r) : b = true ∧ x = some r := by cases b <;> simp_all
theorem cond_right {b : Bool} {x : OR} {r} (h : cond b none x = some r) : b = false ∧ x = some r := by cases b <;> simp_all
theorem bind_some {α : Type} {o : Option α} {k : α → OR} {r} (h : o.bind k = some r) : ∃ a, o = some a ∧ k a = some r := by cases o <;> simp_all
theorem ikEq_eq {a b : IntKind} (h : ikEq a b = true) : a = b := by simpa [ikEq] using h

section
variable {P : Program} {G : List GO} {Z : Zone} {w : World}
theorem int_inv {k : IntKind} {n : Int} {x : Value} (h : RV G Z w (.v (.one (.int k n))) x) : x = .int k n := h.1
theorem bool_inv {b : Bool} {x : Value} (h : RV G Z w (.v (.one (.bool b))) x) : x = .bool b := h.1
theorem str_inv {b : ByteArray} {x : Value} (h : RV G Z w (.v (.one (.str b))) x) : x = .string b := h.1
theorem OneR.rv {v : SV} {x : Value} (h : OneR G Z w v x) : RV G Z w (.v (.one v)) x := ⟨h.1, fun _ => h.2⟩

theorem svOf_rel (k : Option (TypeId × SK)) (v : Value) : RS G Z w (svOf k v) v := by
  unfold svOf
  split <;> first | rfl | trivial | exact ⟨none, rfl⟩
theorem svOf_cells (k : Option (TypeId × SK)) (v : Value) : svOf k v ≠ .any → oneB v = true := by
  unfold svOf
  split <;> intro h <;> first | rfl | exact absurd rfl h
theorem svsOf_rel : ∀ (ks : List (Option (TypeId × SK))) (vs : List Value), (∀ v ∈ vs, oneB v = true) → All2 (OneR G Z w) (svsOf ks vs) vs
  | _, [], _ => by cases ‹List (Option (TypeId × SK))› <;> exact All2.nil
  | [], v :: vs, h => All2.cons ⟨svOf_rel _ _, h v (by simp)⟩ (svsOf_rel [] vs fun u hu => h u (by simp [hu]))
  | k :: ks, v :: vs, h => All2.cons ⟨svOf_rel _ _, h v (by simp)⟩ (svsOf_rel ks vs fun u hu => h u (by simp [hu]))
theorem any_rel (x : Value) : RV G Z w anyV x := ⟨trivial, fun h => absurd rfl h⟩
theorem ofValue_rel (v : Value) : RV G Z w (AV.ofValue v) v := by
  unfold AV.ofValue
  split
  · rename_i cs
    cases hc : cs.toList.all oneB with
    | true => exact ⟨cs.toList, by simp, svsOf_rel _ _ (fun v hv => List.all_eq_true.1 hc v hv)⟩
    | false => exact any_rel _
  · exact any_rel _
  · exact ⟨svOf_rel _ _, svOf_cells _ _⟩
theorem retype_go_rel : ∀ (ks : List (Option (TypeId × SK))) (l : List SV) (xs : List Value), All2 (OneR G Z w) l xs → All2 (OneR G Z w) (retype.go ks l) xs
  | [], l, xs, h => by unfold retype.go; exact h
  | k :: ks, [], xs, h => by unfold retype.go; exact h
  | k :: ks, x :: l, xs, h => by
    obtain ⟨y, ys, rfl, h1, h2⟩ := h.cons_inv
    have ih := retype_go_rel ks l ys h2
    cases x with
    | emp e => cases e with
      | none => exact All2.cons h1 ih
      | some e => exact All2.cons h1 ih
    | _ => exact All2.cons h1 ih
theorem retype_rel (t : TypeId) {v : AV} {x : Value} (h : RV G Z w v x) : RV G Z w (retype P t v) x := by
  unfold retype
  split
  · exact ⟨h.1, fun _ => h.2 nofun⟩
  · obtain ⟨xs, hx, hh⟩ := h
    exact ⟨xs, hx, retype_go_rel _ _ _ hh⟩
  · exact h

variable {ρ : Operand → Value} {x y : Operand} {d : Option Tmp} {ty t t' : TypeId} {pos : String} {aft : Array Edge} {gd : Option (Nat × Bool)} {vx vy : AV} {r : List V1 × List AObj}
theorem int_one (k : IntKind) (n : Int) : OneR G Z w (.int k n) (.int k n) := ⟨rfl, rfl⟩
theorem bool_one (b : Bool) : OneR G Z w (.bool b) (.bool b) := ⟨rfl, rfl⟩
theorem str_one (b : ByteArray) : OneR G Z w (.str b) (.string b) := ⟨rfl, rfl⟩
theorem evInt_sound {op : BinOp} {ka : IntKind} {a b : Int} {k : SV → OR} (hx : ρ x = .int ka a) (hy : ρ y = .int ka b) (h : evInt op ka a b k = some r) :
    ∃ v X, k v = some r ∧ (execOp ρ ⟨d, .binOp op t x y t', ty, pos, aft, gd⟩).run P w = .ok (.value X) w ∧ OneR G Z w v X := by
  cases op <;> simp only [evInt] at h
  case add => exact ⟨_, _, h, by simp [go_sem, execOp, hx, hy, eqGuard, binOp, Op.intArith], int_one _ _⟩
  case sub => exact ⟨_, _, h, by simp [go_sem, execOp, hx, hy, eqGuard, binOp, Op.intArith], int_one _ _⟩
  case mul => exact ⟨_, _, h, by simp [go_sem, execOp, hx, hy, eqGuard, binOp, Op.intArith], int_one _ _⟩
  case quo =>
    obtain ⟨hb, h⟩ := cond_right h
    have hb : b ≠ 0 := by simpa using hb
    exact ⟨_, _, h, by simp [go_sem, execOp, hx, hy, eqGuard, binOp, Op.intDiv, hb], int_one _ _⟩
  case rem =>
    obtain ⟨hb, h⟩ := cond_right h
    have hb : b ≠ 0 := by simpa using hb
    exact ⟨_, _, h, by simp [go_sem, execOp, hx, hy, eqGuard, binOp, Op.intDiv, hb], int_one _ _⟩
  case xor => exact ⟨_, _, h, by simp [go_sem, execOp, hx, hy, eqGuard, binOp, Op.intBits], int_one _ _⟩
  case eql => exact ⟨_, _, h, by simp [go_sem, execOp, hx, hy, eqGuard, binOp, Op.intCmp]; rfl, bool_one _⟩
  case neq => exact ⟨_, _, h, by simp [go_sem, execOp, hx, hy, eqGuard, binOp, Op.intCmp]; rfl, bool_one _⟩
  case lss => exact ⟨_, _, h, by simp [go_sem, execOp, hx, hy, eqGuard, binOp, Op.intCmp], bool_one _⟩
  case leq => exact ⟨_, _, h, by simp [go_sem, execOp, hx, hy, eqGuard, binOp, Op.intCmp], bool_one _⟩
  case gtr => exact ⟨_, _, h, by simp [go_sem, execOp, hx, hy, eqGuard, binOp, Op.intCmp], bool_one _⟩
  case geq => exact ⟨_, _, h, by simp [go_sem, execOp, hx, hy, eqGuard, binOp, Op.intCmp], bool_one _⟩
  all_goals cases h
theorem evStr_sound {op : BinOp} {a b : ByteArray} {k : SV → OR} (hx : ρ x = .string a) (hy : ρ y = .string b) (h : evStr op a b k = some r) :
    ∃ v X, k v = some r ∧ (execOp ρ ⟨d, .binOp op t x y t', ty, pos, aft, gd⟩).run P w = .ok (.value X) w ∧ OneR G Z w v X := by
  cases op <;> simp only [evStr] at h
  case add =>
    obtain ⟨hb, h⟩ := cond_left h
    exact ⟨_, _, h, (Y_sadd (S := fun _ => True) hx hy (by simpa using hb)).out w trivial, str_one _⟩
  case eql => exact ⟨_, _, h, (Y_seql (S := fun _ => True) hx hy).out w trivial, bool_one _⟩
  case neq => exact ⟨_, _, h, (Y_sneq (S := fun _ => True) hx hy).out w trivial, bool_one _⟩
  case gtr => exact ⟨_, _, h, by simp [go_sem, execOp, hx, hy, eqGuard, binOp, Op.stringOp], bool_one _⟩
  all_goals cases h
theorem evBin_sound {op : BinOp} {k : SV → OR} (hx : RV G Z w vx (ρ x)) (hy : RV G Z w vy (ρ y)) (h : evBin P op t vx vy k = some r) :
    ∃ v X, k v = some r ∧ (execOp ρ ⟨d, .binOp op t x y t', ty, pos, aft, gd⟩).run P w = .ok (.value X) w ∧ OneR G Z w v X := by
  unfold evBin at h
  split at h
  · obtain ⟨hk, h'⟩ := cond_left h
    obtain rfl := ikEq_eq hk
    exact evInt_sound (int_inv hx) (int_inv hy) h'
  · exact evStr_sound (str_inv hx) (str_inv hy) h
  · split at h
    · rename_i hb
      split at h
      · exact ⟨_, _, h, (Y_beql (S := fun _ => True) (bool_inv hx) (bool_inv hy) hb).out w trivial, bool_one _⟩
      · exact ⟨_, _, h, (Y_bneq (S := fun _ => True) (bool_inv hx) (bool_inv hy) hb).out w trivial, bool_one _⟩
      · cases h
    · cases h
  · cases h
theorem evUn_sound {op : UnOp} {k : SV → OR} (hx : RV G Z w vx (ρ x)) (h : evUn op vx k = some r) :
    ∃ v X, k v = some r ∧ (execOp ρ ⟨d, .unOp op t x, ty, pos, aft, gd⟩).run P w = .ok (.value X) w ∧ OneR G Z w v X := by
  unfold evUn at h
  split at h
  · exact ⟨_, _, h, by simp [go_sem, execOp, (bool_inv hx), Op.unary], bool_one _⟩
  · exact ⟨_, _, h, by simp [go_sem, execOp, (int_inv hx), Op.unary, Op.intArith], int_one _ _⟩
  · cases h
theorem optInt_some {v : AV} {X : Value} {k : Int → OR} (h : optInt v k = some r) (hx : RV G Z w v X) : ∃ n, X = .int .i64 n ∧ k n = some r := by
  unfold optInt at h
  split at h
  · exact ⟨_, (int_inv hx), h⟩
  · cases h

/-! Reading memory: slices. -/
theorem SlR.val {D : SD} {X : Value} (h : SlR Z w D X) : ∃ a c, X = .slice a D.len c := by obtain ⟨a, c, _, hx, _⟩ := h; exact ⟨a, c, hx⟩
theorem SK.size_pos (k : SK) : 0 < k.size := by cases k <;> decide
theorem kindE_out {e : TypeId} {k : SK} (h : kindE P e = some k) : kind0 P e = some k ∧ ∃ i z, P.info? e = some i ∧ i.zero = some z ∧ i.size = k.size ∧ z.cells.size = k.size ∧ i.bytes ≤ 64 := by
  unfold kindE at h
  cases h0 : kind0 P e with
  | none => simp [h0] at h
  | some k' =>
    simp only [h0, Option.bind_some] at h
    cases hs : sizeOk P e k' with
    | false => simp [hs] at h
    | true =>
      simp only [hs, cond_true, Option.some.injEq] at h
      subst h
      refine ⟨rfl, ?_⟩
      unfold sizeOk at hs
      split at hs
      · rename_i i hi
        split at hs
        · rename_i z hz
          simp only [Bool.and_eq_true, Nat.beq_eq, Nat.ble_eq] at hs
          exact ⟨i, z, hi, hz, hs.1, hs.2.1, hs.2.2⟩
        · cases hs
      · cases hs
theorem kindS_out {t : TypeId} {e : TypeId × SK} (h : kindS P t = some e) : P.underlying t = some (.slice e.1) ∧ kindE P e.1 = some e.2 := by
  unfold kindS at h
  split at h
  · rename_i e' hu
    cases hk : kindE P e' with
    | none => simp [hk] at h
    | some k => simp only [hk, Option.map_some, Option.some.injEq] at h; subst h; exact ⟨hu, hk⟩
  · cases h
theorem kindS_el {t : TypeId} {e : TypeId × SK} (h : kindS P t = some e) : sliceEl P t = some e.2.size := by
  obtain ⟨h1, h2⟩ := kindS_out h
  obtain ⟨_, i, z, hi, _, hs, _⟩ := kindE_out h2
  unfold sliceEl
  simp only [h1, hi, hs]
theorem SK.beq_eq {a c : SK} (h : SK.beq a c = true) : a = c := by cases a <;> cases c <;> first | rfl | cases h

/-! Elements of what a slice holds. -/
theorem flatT_get {hs : List HT} {i : Nat} {h : HT} (hi : hs[i]? = some h) : (flatT hs)[i * 3]? = some (.int .i64 h.k) ∧ (flatT hs)[i * 3 + 1]? = some (.int .i64 h.n) ∧ (flatT hs)[i * 3 + 2]? = some h.sl := by
  induction hs generalizing i with
  | nil => simp at hi
  | cons x hs ih =>
    rw [flatT_cons]
    cases i with
    | zero => simp at hi; subst hi; exact ⟨rfl, rfl, rfl⟩
    | succ i =>
      have := ih (i := i) (by simpa using hi)
      rw [show (i + 1) * 3 = i * 3 + 1 + 1 + 1 by omega]
      exact this
theorem RdL_cells {b : Nat} : ∀ {ts : List HT} {off : Nat}, RdL Z w b off ts → CellsAt w b off (flatT ts)
  | [], _, _, i, x, hx => by simp [flatT_nil] at hx
  | t :: ts, off, h, i, x, hx => by
    simp only [RdL] at h
    rw [flatT_cons] at hx
    match i, hx with
    | 0, hx => simp at hx; subst hx; simpa using h.1.1
    | 1, hx => simp at hx; subst hx; exact h.1.2.1
    | 2, hx => simp at hx; subst hx; exact h.1.2.2
    | i + 3, hx =>
      have := RdL_cells h.2.2 i x (by simpa using hx)
      rw [show off + (i + 3) = off + 3 + i by omega]; exact this
theorem RdL_each {b : Nat} : ∀ {ts : List HT} {off : Nat}, RdL Z w b off ts → ∀ t ∈ ts, Rd Z w t
  | [], _, _, t, ht => by cases ht
  | u :: ts, off, h, t, ht => by
    simp only [RdL] at h
    rcases List.mem_cons.1 ht with rfl | ht
    · exact h.2.1
    · exact RdL_each h.2.2 t ht
theorem Rd_sl {t : HT} (h : Rd Z w t) : SlR Z w (.ts t.er.kids) t.sl := by
  cases t with | mk k n a cap kids =>
  simp only [Rd] at h
  obtain ⟨h1, h2, h3⟩ := h
  have hk : (HT.mk k n a cap kids).er.kids = kids.map HT.er := HT.er_kids _
  refine ⟨a, cap, flatT kids, ?_, ?_, ?_, ?_, ?_⟩
  · simp [HT.sl, HT.a, HT.kids, HT.cap, hk, SD.len]
  · simpa [hk, SD.len] using h2
  · simpa [hk, SD.len, maxLen] using h3
  · rcases h1 with rfl | ⟨b, off, ha, hb, hl⟩
    · exact ⟨[], by simp [hk], rfl, nofun⟩
    · exact ⟨kids, hk.symm, rfl, RdL_each hl⟩
  · rcases h1 with rfl | ⟨b, off, ha, hb, hl⟩
    · exact .inl rfl
    · exact .inr ⟨b, off, ha, hb, RdL_cells hl⟩
theorem sl_Rd {l : List T} {X : Value} (h : SlR Z w (.ts l) X) (k n : Int) : ∃ t : HT, t.er = .mk k n l ∧ Rd Z w t ∧ t.sl = X ∧ t.k = k ∧ t.n = n := by
  obtain ⟨a, cap, xs, hx, h1, h2, ⟨hs, rfl, rfl, hr⟩, h4⟩ := h
  refine ⟨.mk k n a cap hs, by rw [HT.er_eq]; rfl, ?_, ?_, rfl, rfl⟩
  · simp only [Rd]
    refine ⟨?_, by simpa [SD.len] using h1, by simpa [SD.len, maxLen] using h2⟩
    rcases h4 with h4 | ⟨b, off, ha, hb, hc⟩
    · left
      cases hs with
      | nil => rfl
      | cons t ts => rw [flatT_cons] at h4; cases h4
    · exact .inr ⟨b, off, ha, hb, RdL_of_cells hs off (fun j u hj => hc j u hj) hr⟩
  · rw [hx]; simp [HT.sl, HT.a, HT.kids, HT.cap, SD.len]
theorem ElemsR.length {D : SD} {xs : List Value} (h : ElemsR Z w D xs) : xs.length = D.len * D.kind.size := by
  cases D with
  | ts l => obtain ⟨hs, rfl, rfl, _⟩ := h; rw [flatT_length]; simp [SD.len, SD.kind, SK.size]
  | is l => simp only [ElemsR] at h; subst h; simp [SD.len, SD.kind, SK.size]
  | iss l => have := All2.mono h (fun _ _ _ h => h) |>.1; simp [SD.len, SD.kind, SK.size, this]
  | ss l => simp only [ElemsR] at h; subst h; simp [SD.len, SD.kind, SK.size]
  | bs l => simp only [ElemsR] at h; subst h; simp [SD.len, SD.kind, SK.size]
theorem lt_of_some {α : Type} {l : List α} {i : Nat} {a : α} (h : l[i]? = some a) : i < l.length := by
  rcases Nat.lt_or_ge i l.length with h' | h'
  · exact h'
  · rw [List.getElem?_eq_none h'] at h; cases h
theorem ElemsR.get {D : SD} {xs : List Value} (h : ElemsR Z w D xs) {i : Nat} {k : SE → OR} (hg : D.get i k = some r) :
    ∃ e cs, k e = some r ∧ i < D.len ∧ CellsR Z w e cs ∧ ∀ (j : Nat) v, cs[j]? = some v → xs[i * D.kind.size + j]? = some v := by
  cases D with
  | ts l =>
    obtain ⟨hs, rfl, rfl, hr⟩ := h
    obtain ⟨x, hx, hk⟩ := bind_some hg
    rw [List.getElem?_map] at hx
    obtain ⟨t, ht, rfl⟩ := Option.map_eq_some_iff.1 hx
    have := flatT_get ht
    refine ⟨_, _, hk, by simpa [SD.len] using lt_of_some ht, ⟨t, rfl, hr t (List.mem_of_getElem? ht), rfl⟩, fun j v hv => ?_⟩
    match j, hv with
    | 0, hv => simp at hv; subst hv; exact this.1
    | 1, hv => simp at hv; subst hv; exact this.2.1
    | 2, hv => simp at hv; subst hv; exact this.2.2
    | j + 3, hv => simp at hv
  | is l =>
    simp only [ElemsR] at h; subst h
    obtain ⟨x, hx, hk⟩ := bind_some hg
    refine ⟨_, _, hk, lt_of_some hx, rfl, fun j v hv => ?_⟩
    match j, hv with
    | 0, hv => simp at hv; subst hv; simp [SD.kind, SK.size, hx]
    | j + 1, hv => simp at hv
  | iss l =>
    obtain ⟨x, hx, hk⟩ := bind_some hg
    obtain ⟨X, hX, hr⟩ := All2.get h hx
    refine ⟨_, _, hk, lt_of_some hx, ⟨X, rfl, hr⟩, fun j v hv => ?_⟩
    match j, hv with
    | 0, hv => simp at hv; subst hv; simpa [SD.kind, SK.size] using hX
    | j + 1, hv => simp at hv
  | ss l =>
    simp only [ElemsR] at h; subst h
    obtain ⟨x, hx, hk⟩ := bind_some hg
    refine ⟨_, _, hk, lt_of_some hx, rfl, fun j v hv => ?_⟩
    match j, hv with
    | 0, hv => simp at hv; subst hv; simp [SD.kind, SK.size, hx]
    | j + 1, hv => simp at hv
  | bs l =>
    simp only [ElemsR] at h; subst h
    obtain ⟨x, hx, hk⟩ := bind_some hg
    refine ⟨_, _, hk, lt_of_some hx, rfl, fun j v hv => ?_⟩
    match j, hv with
    | 0, hv => simp at hv; subst hv; simp [SD.kind, SK.size, hx]
    | j + 1, hv => simp at hv
/-- The cells that an element shows are what they are. -/
theorem CellsR.cells {e : SE} {cs : List Value} (h : CellsR Z w e cs) : All2 (OneR G Z w) e.cells cs := by
  cases e with
  | t x =>
    obtain ⟨t, rfl, hr, rfl⟩ := h
    refine All2.cons ⟨?_, rfl⟩ (All2.cons ⟨?_, rfl⟩ (All2.cons ⟨Rd_sl hr, rfl⟩ All2.nil))
    · show _ = _; rw [HT.er_k]
    · show _ = _; rw [HT.er_n]
  | i n => simp only [CellsR] at h; subst h; exact All2.cons ⟨rfl, rfl⟩ All2.nil
  | ii l =>
    obtain ⟨x, rfl, a, cap, rfl, h1, h2, h3⟩ := h
    refine All2.cons ⟨⟨a, cap, l.map (.int .i64 ·), rfl, h1, h2, rfl, ?_⟩, rfl⟩ All2.nil
    rcases h3 with rfl | h3
    · exact .inl rfl
    · exact .inr h3
  | s x => simp only [CellsR] at h; subst h; exact All2.cons ⟨rfl, rfl⟩ All2.nil
  | b c => simp only [CellsR] at h; subst h; exact All2.cons ⟨rfl, rfl⟩ All2.nil

/-! Loads. -/
theorem structT_out {n : Nat} (h : structT P t = some n) : ∃ fs i, P.underlying t = some (.struct fs) ∧ P.info? t = some i ∧ i.size = n := by
  unfold structT at h
  split at h
  · rename_i fs i hu hi
    exact ⟨fs, i, hu, hi, Option.some.inj h⟩
  · cases h
theorem run_load_one {a : Addr} {X : Value} (ht : scalarT P t = true) (hc : w.cell? a = some X) : (loadVar t a).run P w = .ok X w := by
  unfold scalarT at ht
  cases hu : P.underlying t with
  | none => simp [hu] at ht
  | some de =>
    have hag : (isAgg t).run P w = .ok false w := by
      simp only [isAgg, Sem.run_bind, run_underlying hu, Result.andThen_ok]
      cases de <;> simp_all
    simp [loadVar, Sem.run_bind, hag, load, Sem.run, hc]
theorem run_load_agg {b o n : Nat} {xs : List Value} (ht : structT P t = some n) (hc : CellsAt w b o xs) (hn : xs.length = n) : (loadVar t ⟨b, o, none⟩).run P w = .ok (.agg xs.toArray) w := by
  obtain ⟨fs, i, hu, hi, hs⟩ := structT_out ht
  have hag : (isAgg t).run P w = .ok true w := by
    simp only [isAgg, Sem.run_bind, run_underlying hu, Result.andThen_ok]; rfl
  have hl := run_loadCells_list (P := P) (w := w) ⟨b, o, none⟩ xs (fun j v hj => by rw [addr_add]; exact hc j v hj)
  rw [hn, ← hs] at hl
  simp only [loadVar, Sem.run_bind, hag, Result.andThen_ok, if_true, Go.Dk.run_sizeOf hi, hl, Sem.run_pure]
theorem CellsAt.drop {b o : Nat} {xs : List Value} (h : CellsAt w b o xs) (n : Nat) : CellsAt w b (o + n) (xs.drop n) := fun i x hx => by
  rw [List.getElem?_drop] at hx
  rw [Nat.add_assoc]; exact h (n + i) x hx
theorem CellsAt.take {b o : Nat} {xs : List Value} (h : CellsAt w b o xs) (n : Nat) : CellsAt w b o (xs.take n) := fun i x hx => by
  rw [List.getElem?_take] at hx
  split at hx
  · exact h i x hx
  · cases hx
theorem packK_sound {l : List SV} {xs : List Value} {b o : Nat} {k : AV → OR} (hl : All2 (OneR G Z w) l xs) (hc : CellsAt w b o xs) (h : packK P t l k = some r) :
    ∃ v X, k v = some r ∧ (loadVar t ⟨b, o, none⟩).run P w = .ok X w ∧ RV G Z w v X := by
  unfold packK at h
  split at h
  · rename_i ht
    split at h
    · rename_i c l'
      obtain ⟨X, xs', rfl, h1, _⟩ := hl.cons_inv
      exact ⟨_, X, h, run_load_one ht (hc 0 X rfl), h1.1, fun _ => h1.2⟩
    · cases h
  · split at h
    · rename_i n hs
      obtain ⟨hn, h⟩ := cond_left h
      simp only [Nat.ble_eq] at hn
      exact ⟨_, .agg (xs.take n).toArray, h, run_load_agg hs (hc.take n) (by rw [List.length_take, ← hl.1]; omega), ⟨_, rfl, hl.take n⟩⟩
    · cases h
theorem St.cells_at {w0 : World} {M Z0 : Zone} {L : List Res} {φ : Fact} {b : Nat} {T : TypeId} {vs : List Value} (hw : St w0 M Z0 L φ w) (hr : blk b vs T ∈ L) : CellsAt w b 0 vs := by
  intro i x hx
  have := hw.own _ hr
  simp only [blk] at this
  simp [World.cell?, this, hx]
theorem rowR_cells {e sz n : Nat} {X : Value} {xs : List Value} {b off m c : Nat} (h : (rowR e sz X n xs).own w) (hX : X = .slice (some ⟨b, off, none⟩) m c) : off = 0 ∧ m = n ∧ CellsAt w b 0 xs := by
  simp only [rowR] at h
  obtain ⟨_, h⟩ := h
  rcases h with ⟨h, _⟩ | ⟨g, cap, cur, h, _, hg, _, _, _, ht⟩
  · rw [hX] at h; cases h
  · rw [hX] at h
    injection h with h1 h2 h3
    injection h1 with h1
    injection h1 with h4 h5
    subst h4 h5 h2
    refine ⟨rfl, rfl, fun i x hx => ?_⟩
    have : cur.toList[i]? = some x := by
      rw [← ht] at hx
      rw [List.getElem?_take] at hx
      split at hx
      · exact hx
      · cases hx
    simp only [World.cell?, hg, Nat.zero_add]
    simpa using this
theorem mem_resL : ∀ {h : List AObj} {G : List GO} {j : Nat} {o : AObj} {g : GO} {q : Res}, h[j]? = some o → G[j]? = some g → q ∈ resO o g → q ∈ resL h G
  | [], _, j, o, g, q, hj, _, _ => by simp at hj
  | _ :: _, [], j, o, g, q, _, gj, _ => by simp at gj
  | x :: h, y :: G, 0, o, g, q, hj, gj, hq => by
    simp at hj gj; subst hj gj; simp [resL, hq]
  | x :: h, y :: G, j + 1, o, g, q, hj, gj, hq => by
    simp only [resL, List.mem_append]
    exact .inr (mem_resL (by simpa using hj) (by simpa using gj) hq)
end

/-! What the objects say, in a memory that they describe. -/
section
variable {P : Program} {w0 w : World} {M Z0 : Zone} {b : Nat} {G : List GO} {s : AS} {tv : List Value}
abbrev zn (w0 : World) (Z0 : Zone) (s : AS) (G : List GO) : Zone := zone w0 Z0 (resL s.heap G)
theorem InvG.cells (hI : InvG w0 M Z0 b G s tv w) {j : Nat} {l : List SV} (hj : s.heap[j]? = some (.cells l)) :
    ∃ bb T vs, G[j]? = some (.cells bb T vs) ∧ All2 (OneR G (zn w0 Z0 s G) w) l vs ∧ CellsAt w bb 0 vs ∧ blk bb vs T ∈ resL s.heap G := by
  obtain ⟨g, hg, hr⟩ := hI.st.per.2.get hj
  cases g with
  | cells bb T vs =>
    have hm : blk bb vs T ∈ resL s.heap G := mem_resL hj hg (by simp [resO])
    exact ⟨bb, T, vs, hg, hr, St.cells_at hI.st hm, hm⟩
  | _ => exact hr.elim
/-- An array that a value stands for. -/
theorem InvG.arr (hI : InvG w0 M Z0 b G s tv w) {j v : Nat} {e : TypeId} {D : SD} {ver : Nat} {fz : Bool} (hj : s.heap[j]? = some (.arr e D ver fz)) :
    ∃ val xs, G[j]? = some (.arr ver val D.kind.size xs) ∧ cond fz (SlR (zn w0 Z0 s G) w D val) (ElemsR (zn w0 Z0 s G) w D xs ∧ ∃ a c, val = .slice a D.len c) := by
  obtain ⟨g, hg, hr⟩ := hI.st.per.2.get hj
  cases g with
  | arr ver' val sz xs => obtain ⟨rfl, rfl, h3⟩ := hr; exact ⟨val, xs, hg, h3⟩
  | _ => exact hr.elim
theorem own_val {j v : Nat} {X val : Value} {ver sz : Nat} {xs : List Value} {Z : Zone} (hx : RS G Z w (.own j v) X) (hg : G[j]? = some (.arr ver val sz xs)) (hv : v = ver) : X = val := by
  rcases hx with hx | ⟨ver', val', sz', xs', hx, _, he⟩
  · rw [hg] at hx; cases hx
  · rw [hg] at hx
    injection hx with hx
    injection hx with h1 h2 h3 h4
    subst h1 h2
    exact he hv
theorem ptr_val {j o : Nat} {X : Value} {bb : Nat} {T : TypeId} {vs : List Value} {Z : Zone} (hx : RS G Z w (.ptr j o) X) (hg : G[j]? = some (.cells bb T vs)) : X = pv bb o := by
  rcases hx with hx | ⟨b', T', vs', hx, he⟩
  · rw [hg] at hx; cases hx
  · rw [hg] at hx
    injection hx with hx
    injection hx with h1 h2 h3
    subst h1; exact he
/-- A slice that can be read. -/
def RdS (Z : Zone) (w : World) (D : SD) (X : Value) : Prop := ∃ a c ys, X = .slice a D.len c ∧ D.len ≤ maxLen ∧ ElemsR Z w D ys ∧ (ys = [] ∨ ∃ b off, a = some ⟨b, off, none⟩ ∧ CellsAt w b off ys)
theorem SlR.rd {Z : Zone} {D : SD} {X : Value} (h : SlR Z w D X) : RdS Z w D X := by
  obtain ⟨a, c, ys, hx, h1, h2, h3, h4⟩ := h
  exact ⟨a, c, ys, hx, h2, h3, h4.imp id fun ⟨b, off, ha, _, hc⟩ => ⟨b, off, ha, hc⟩⟩
theorem RdS.ne {Z : Zone} {D : SD} {X : Value} (h : RdS Z w D X) (hl : 0 < D.len) : ∃ b off c ys, X = .slice (some ⟨b, off, none⟩) D.len c ∧ ElemsR Z w D ys ∧ CellsAt w b off ys := by
  obtain ⟨a, c, ys, hx, h2, h3, h4⟩ := h
  rcases h4 with rfl | ⟨b, off, rfl, hc⟩
  · have := h3.length
    have hp := SK.size_pos D.kind
    have : 0 < D.len * D.kind.size := Nat.mul_pos hl hp
    simp at *; omega
  · exact ⟨b, off, c, ys, hx, h3, hc⟩
/-- What stands in an array of the call's own or in one that is frozen. -/
theorem InvG.arr_rd (hI : InvG w0 M Z0 b G s tv w) {j : Nat} {e : TypeId} {D : SD} {ver : Nat} {fz : Bool} (hj : s.heap[j]? = some (.arr e D ver fz)) :
    ∃ val xs, G[j]? = some (.arr ver val D.kind.size xs) ∧ RdS (zn w0 Z0 s G) w D val := by
  obtain ⟨val, xs, hg, hh⟩ := hI.arr (v := 0) hj
  cases fz with
  | true => exact ⟨val, xs, hg, SlR.rd hh⟩
  | false =>
    obtain ⟨h1, a, c, hx⟩ := hh
    have hm : rowZ e D.kind.size val D.len xs ∈ resL s.heap G := mem_resL hj hg (by simp [resO])
    have ho := hI.st.own _ hm
    refine ⟨val, xs, hg, ?_⟩
    subst hx
    unfold rowZ at ho
    split at ho
    · rename_i a' _ he
      obtain ⟨h0, rfl, _⟩ := ho
      exact ⟨a, c, [], rfl, by rw [h0]; exact Nat.zero_le _, h1, .inl rfl⟩
    · rename_i v hne
      have ho' := ho
      simp only [rowR] at ho
      rcases ho.2 with ⟨h2, _⟩ | ⟨g, cap, cur, h2, _, _, hn, hm, _, _⟩
      · injection h2 with _ _ h3; subst h3; exact absurd rfl (hne a D.len)
      · injection h2 with h3 h4 h5
        subst h3 h5
        exact ⟨_, _, xs, rfl, Nat.le_trans hn hm, h1, .inr ⟨g, 0, rfl, (rowR_cells ho' rfl).2.2⟩⟩
theorem evLoad_addr (hI : InvG w0 M Z0 b G s tv w) {t : TypeId} {VX : Value} {vx : AV} {k : AV → OR} {r : List V1 × List AObj}
    (hx : RV G (zn w0 Z0 s G) w vx VX) (h : evLoad P t vx s.heap k = some r) :
    ∃ v X bb o, k v = some r ∧ VX = pv bb o ∧ (loadVar t ⟨bb, o, none⟩).run P w = .ok X w ∧ RV G (zn w0 Z0 s G) w v X := by
  unfold evLoad at h
  split at h
  · rename_i j off
    split at h
    · rename_i l hj
      obtain ⟨bb, T, vs, hg, ha, hc, _⟩ := hI.cells hj
      obtain ⟨v, X, h1, h2, h3⟩ := packK_sound (ha.drop off) (hc.drop off) h
      exact ⟨v, X, _, _, h1, by rw [Nat.zero_add]; exact ptr_val hx.1 hg, h2, h3⟩
    · cases h
  · rename_i e off
    obtain ⟨bb, o, cs, hp, hb, hc, hr⟩ := hx.1
    obtain ⟨v, X, h1, h2, h3⟩ := packK_sound (hr.cells.drop off) (hc.drop off) h
    exact ⟨v, X, _, _, h1, hp, h2, h3⟩
  · rename_i j v i off
    split at h
    · rename_i D ver fz hj
      obtain ⟨hv, h⟩ := cond_left h
      simp only [Nat.beq_eq] at hv
      obtain ⟨val, xs, hg, a, c, ys, hval, _, he, hc⟩ := hI.arr_rd hj
      obtain ⟨el, cs, h, hlt, hr, hsub⟩ := he.get h
      rcases hx.1 with hx | ⟨ver', val', sz', xs', hx, _, hh⟩
      · rw [hg] at hx; cases hx
      · rw [hg] at hx
        injection hx with hx
        injection hx with e1 e2 e3 e4
        subst e1 e2 e3
        obtain ⟨bb, o, n, c', hs, hi, hp⟩ := hh hv
        have hcs : CellsAt w bb (o + i * D.kind.size) cs := by
          rcases hc with rfl | ⟨b1, o1, ha, hc⟩
          · intro q u hq; have := hsub q u hq; simp at this
          · rw [hval, ha] at hs
            injection hs with hs _ _
            injection hs with hs
            injection hs with e1 e2
            subst e1 e2
            intro q u hq; rw [Nat.add_assoc]; exact hc _ u (hsub q u hq)
        obtain ⟨v, X, h1, h2, h3⟩ := packK_sound (hr.cells.drop off) (hcs.drop off) h
        exact ⟨v, X, _, _, h1, hp, h2, h3⟩
    · cases h
  · cases h
theorem evLoad_sound (hI : InvG w0 M Z0 b G s tv w) {ρ : Operand → Value} {x : Operand} {d : Option Tmp} {ty t : TypeId} {pos : String} {aft : Array Edge} {gd : Option (Nat × Bool)} {vx : AV} {k : AV → OR} {r : List V1 × List AObj}
    (hx : RV G (zn w0 Z0 s G) w vx (ρ x)) (h : evLoad P t vx s.heap k = some r) :
    ∃ v X, k v = some r ∧ (execOp ρ ⟨d, .load t x, ty, pos, aft, gd⟩).run P w = .ok (.value X) w ∧ RV G (zn w0 Z0 s G) w v X := by
  obtain ⟨v, X, bb, o, h1, hp, hr, hv⟩ := evLoad_addr hI hx h
  refine ⟨v, X, h1, ?_, hv⟩
  simp [execOp, Instr.loadAt, hp, pv, Instr.sureAddr, Sem.run_bind, hr]

/-! Slices that are read. -/
theorem SK.nil_len (k : SK) : k.nil.len = 0 := by cases k <;> rfl
theorem SK.nil_kind (k : SK) : k.nil.kind = k := by cases k <;> rfl
theorem ElemsR_nil {Z : Zone} (k : SK) : ElemsR Z w k.nil [] := by cases k <;> first | exact ⟨[], rfl, rfl, nofun⟩ | rfl | exact All2.nil
theorem RdS_nil {Z : Zone} (k : SK) (a : Option Addr) : RdS Z w k.nil (.slice a 0 0) := ⟨a, 0, [], by rw [k.nil_len], by rw [k.nil_len]; exact Nat.zero_le _, ElemsR_nil k, .inl rfl⟩
theorem SlR_nil {Z : Zone} (k : SK) (a : Option Addr) : SlR Z w k.nil (.slice a 0 0) := ⟨a, 0, [], by rw [k.nil_len], by rw [k.nil_len]; exact Nat.le_refl _, by rw [k.nil_len]; exact Nat.zero_le _, ElemsR_nil k, .inl rfl⟩
variable {ρ : Operand → Value} {x y : Operand} {d : Option Tmp} {ty t t' : TypeId} {pos : String} {aft : Array Edge} {gd : Option (Nat × Bool)} {vx vy : AV} {r : List V1 × List AObj} {X : Value}
theorem readS_sound (hI : InvG w0 M Z0 b G s tv w) {v : SV} {k : SD → OR} (hx : RS G (zn w0 Z0 s G) w v X) (h : readS s.heap v k = some r) : ∃ D, k D = some r ∧ RdS (zn w0 Z0 s G) w D X := by
  unfold readS at h
  split at h
  · exact ⟨_, h, SlR.rd hx⟩
  · obtain ⟨a, rfl⟩ := hx
    exact ⟨_, h, RdS_nil _ _⟩
  · split at h
    · rename_i hj
      obtain ⟨hv, h'⟩ := cond_left h
      simp only [Nat.beq_eq] at hv
      obtain ⟨val, xs, hg, hr⟩ := hI.arr_rd hj
      rw [own_val hx hg hv]
      exact ⟨_, h', hr⟩
    · cases h
  · cases h
theorem evLen_sound (hI : InvG w0 M Z0 b G s tv w) {k : SV → OR} (hx : RV G (zn w0 Z0 s G) w vx (ρ x)) (h : evLen P t vx s.heap k = some r) :
    ∃ v X, k v = some r ∧ (execOp ρ ⟨d, .call ⟨.builtin .len, #[x], #[t]⟩, ty, pos, aft, gd⟩).run P w = .ok (.value X) w ∧ OneR G (zn w0 Z0 s G) w v X := by
  unfold evLen at h
  split at h
  · split at h
    · rename_i hu
      exact ⟨_, _, h, (Y_lenStr (S := fun _ => True) (by simp [isStrT, hu]) (str_inv hx)).out w trivial, int_one _ _⟩
    · cases h
  · split at h
    · rename_i hk
      obtain ⟨a, hX⟩ := hx.1
      exact ⟨_, _, h, (Y_lenSlice (S := fun _ => True) (kindS_el hk) hX).out w trivial, int_one _ _⟩
    · cases h
  · split at h
    · rename_i hk
      obtain ⟨D, h', a, c, ys, hX, _⟩ := readS_sound hI hx.1 h
      exact ⟨_, _, h', (Y_lenSlice (S := fun _ => True) (kindS_el hk) hX).out w trivial, int_one _ _⟩
    · cases h
  · cases h
theorem SlR.get {Z : Zone} {D : SD} {i : Nat} {k : SE → OR} (h : SlR Z w D X) (hg : D.get i k = some r) :
    ∃ e bb off c, k e = some r ∧ X = .slice (some ⟨bb, off, none⟩) D.len c ∧ i < D.len ∧ EpR Z w e 0 (pv bb (off + i * D.kind.size)) := by
  obtain ⟨a, c, ys, hx, h1, h2, h3, h4⟩ := h
  obtain ⟨e, cs, hk, hlt, hr, hsub⟩ := h3.get hg
  rcases h4 with rfl | ⟨bb, off, rfl, hb, hc⟩
  · cases cs with
    | nil => exact absurd rfl hr.ne
    | cons u cs => have := hsub 0 u rfl; simp at this
  · exact ⟨e, bb, off, c, hk, hx, hlt, bb, off + i * D.kind.size, cs, rfl, hb, fun q u hq => by rw [Nat.add_assoc]; exact hc _ u (hsub q u hq), hr⟩
theorem evIndexAddr_sound (hI : InvG w0 M Z0 b G s tv w) {k : SV → OR} (hx : RV G (zn w0 Z0 s G) w vx (ρ x)) (hy : RV G (zn w0 Z0 s G) w vy (ρ y)) (h : evIndexAddr P t vx vy s.heap k = some r) :
    ∃ v X, k v = some r ∧ (execOp ρ ⟨d, .indexAddr t x y, ty, pos, aft, gd⟩).run P w = .ok (.value X) w ∧ OneR G (zn w0 Z0 s G) w v X := by
  unfold evIndexAddr at h
  split at h
  · cases h
  · rename_i e hk
    obtain ⟨i, hY, h⟩ := optInt_some h hy
    obtain ⟨hi, h⟩ := cond_left h
    have hi : 0 ≤ i := by simpa using hi
    split at h
    · rename_i D
      obtain ⟨he, h⟩ := cond_left h
      have he := SK.beq_eq he
      obtain ⟨el, bb, off, c, h, hX, hlt, hp⟩ := SlR.get hx.1 h
      refine ⟨_, _, h, (Y_indexAddr (S := fun _ => True) (kindS_el hk) hX hY ⟨hi, by omega⟩).out w trivial, ?_, rfl⟩
      rw [he]; exact hp
    · split at h
      · rename_i j v D ver _ hj
        obtain ⟨hv, h⟩ := cond_left h
        simp only [Bool.and_eq_true, Nat.beq_eq] at hv
        have he := SK.beq_eq hv.2
        obtain ⟨hlt, h⟩ := cond_left h
        have hlt : i < D.len := by simpa using hlt
        obtain ⟨val, xs, hg, hr⟩ := hI.arr_rd hj
        obtain ⟨bb, off, c, ys, hX, _⟩ := hr.ne (by omega)
        have hX' := own_val hx.1 hg hv.1
        refine ⟨_, _, h, (Y_indexAddr (S := fun _ => True) (kindS_el hk) (hX'.trans hX) hY ⟨hi, hlt⟩).out w trivial, .inr ⟨ver, val, D.kind.size, xs, hg, by omega, fun _ => ⟨bb, off, D.len, c, hX, by omega, ?_⟩⟩, rfl⟩
        rw [he]; rfl
      · cases h
    · cases h
theorem kind0_b {e : TypeId} (h : kind0 P e = some .b) : P.underlying e = some (.int .u8) := by
  unfold kind0 at h
  split at h
  · split at h <;> cases h
  · cases h
  · rename_i hu; exact hu
  · cases h
  · split at h <;> cases h
  · cases h
theorem bs_list {l : List UInt8} {ys : List Value} {Z : Zone} (h : ElemsR Z w (.bs l) ys) : ys = l.map fun c => .int .u8 (c.toNat : Int) := h
theorem evConv_sound (hI : InvG w0 M Z0 b G s tv w) {k : SV → OR} (hx : RV G (zn w0 Z0 s G) w vx (ρ x)) (h : evConv P t t' vx s.heap k = some r) :
    ∃ v X, k v = some r ∧ (execOp ρ ⟨d, .convert t t' x, ty, pos, aft, gd⟩).run P w = .ok (.value X) w ∧ OneR G (zn w0 Z0 s G) w v X := by
  unfold evConv at h
  split at h
  · split at h
    · rename_i h1 h2
      exact ⟨_, _, h, by simp [go_sem, execOp, convert, (int_inv hx), Sem.run_bind, run_underlying h1, run_underlying h2, Conv.intToInt], int_one _ _⟩
    · cases h
  · split at h
    · rename_i h1 h2
      obtain ⟨D, h', a, c, ys, hX, hmx, he, hc⟩ := readS_sound hI hx.1 h
      split at h'
      · rename_i l
        obtain ⟨h3, h4⟩ := kindS_out h1
        have h5 := kind0_b (kindE_out h4).1
        have he := bs_list he
        refine ⟨_, _, h', ?_, str_one _⟩
        have key : (Conv.bytesToString (ρ x)).run P w = .ok (.string ⟨l.toArray⟩) w := by
          rw [hX]
          have hfold : ∀ (l : List UInt8) (s : ByteArray), ((l.map fun c => (c.toNat : Int)).foldl (fun r n => r.push (UInt8.ofNat n.toNat)) s) = ⟨s.data ++ l.toArray⟩ := by
            intro l
            induction l with
            | nil => intro s; simp
            | cons c l ih => intro s; simp only [List.map_cons, List.foldl_cons, ih]; simp [ByteArray.push]
          cases a with
          | none =>
            rcases hc with rfl | ⟨_, _, ha, _⟩
            · cases l with
              | nil => rfl
              | cons c l => simp at he
            · cases ha
          | some a =>
            have hl : (loadCells a (SD.bs l).len).run P w = .ok ((l.map fun c => (c.toNat : Int)).map (Value.int .u8)).toArray w := by
              have : ((l.map fun c => (c.toNat : Int)).map (Value.int .u8)) = ys := by rw [he]; simp
              rw [this]
              have hlen : (SD.bs l).len = ys.length := by rw [he]; simp [SD.len]
              rw [hlen]
              refine run_loadCells_list w a ys fun j v hj => ?_
              rcases hc with rfl | ⟨b1, o1, ha, hc⟩
              · simp at hj
              · injection ha with ha; subst ha; rw [addr_add]; exact hc j v hj
            rw [run_bytesToString w a _ c _ hl, hfold]
            simp
        rw [hX] at key
        simp only [execOp, hX, Sem.run_bind, run_convert_bytes_string w t t' _ a _ c h3 h5 h2, key, Result.andThen_ok, Sem.run_pure]
      · cases h'
    · cases h
  · cases h

theorem InvG.liveC (hI : InvG w0 M Z0 b G s tv w) {j : Nat} (h : liveC s.heap j = true) : ∃ bb T vs, G[j]? = some (.cells bb T vs) := by
  unfold Go.Ab.liveC at h
  split at h
  · rename_i hj; obtain ⟨bb, T, vs, hg, _⟩ := hI.cells hj; exact ⟨bb, T, vs, hg⟩
  · cases h
theorem InvG.liveA (hI : InvG w0 M Z0 b G s tv w) {j v : Nat} (h : liveA s.heap j v = true) : ∃ val sz xs, G[j]? = some (.arr v val sz xs) := by
  unfold Go.Ab.liveA at h
  split at h
  · rename_i hj; obtain ⟨val, xs, hg, _⟩ := hI.arr_rd hj; simp only [Nat.beq_eq] at h; subst h; exact ⟨val, _, xs, hg⟩
  · cases h
theorem op_val {Z : Zone} {j v i o : Nat} {val : Value} {sz : Nat} {xs : List Value} (hx : RS G Z w (.op j v i o) X) (hg : G[j]? = some (.arr v val sz xs)) :
    ∃ bb off n c, val = .slice (some ⟨bb, off, none⟩) n c ∧ i < n ∧ X = pv bb (off + i * sz + o) := by
  rcases hx with hx | ⟨ver', val', sz', xs', hx, _, he⟩
  · rw [hg] at hx; cases hx
  · rw [hg] at hx
    injection hx with hx
    injection hx with h1 h2 h3 h4
    subst h1 h2 h3
    exact he rfl
/-- The address of a field. -/
theorem evField_sound (hI : InvG w0 M Z0 b G s tv w) {i D : Nat} {k : SV → OR} (hx : RV G (zn w0 Z0 s G) w vx (ρ x)) (hf : fieldOff P t i = some D) (h : evField s.heap D vx k = some r) :
    ∃ v X, k v = some r ∧ (execOp ρ ⟨d, .fieldAddr t x i, ty, pos, aft, gd⟩).run P w = .ok (.value X) w ∧ OneR G (zn w0 Z0 s G) w v X := by
  unfold evField at h
  split at h
  · obtain ⟨hl, h⟩ := cond_left h
    obtain ⟨bb, T, vs, hg⟩ := hI.liveC hl
    exact ⟨_, _, h, (Y_fieldAddr (S := fun _ => True) hf (ptr_val hx.1 hg)).out w trivial, .inr ⟨bb, T, vs, hg, rfl⟩, rfl⟩
  · obtain ⟨bb, off, cs, hX, hb, hc, hr⟩ := hx.1
    exact ⟨_, _, h, (Y_fieldAddr (S := fun _ => True) hf hX).out w trivial, ⟨bb, off, cs, by rw [Nat.add_assoc], hb, hc, hr⟩, rfl⟩
  · obtain ⟨hl, h⟩ := cond_left h
    obtain ⟨val, sz, xs, hg⟩ := hI.liveA hl
    obtain ⟨bb, off, n, c, hv, hi, hX⟩ := op_val hx.1 hg
    exact ⟨_, _, h, (Y_fieldAddr (S := fun _ => True) hf hX).out w trivial, .inr ⟨_, val, sz, xs, hg, Nat.le_refl _, fun _ => ⟨bb, off, n, c, hv, hi, by rw [Nat.add_assoc]; rfl⟩⟩, rfl⟩
  · cases h
theorem run_nilCheck {bb o : Nat} (h : ρ x = pv bb o) : (execOp ρ ⟨d, .nilCheck x, ty, pos, aft, gd⟩).run P w = .ok (.value (pv bb o)) w := (Y_nilCheck (S := fun _ => True) h).out w trivial
theorem evNil_sound (hI : InvG w0 M Z0 b G s tv w) {k : SV → OR} (hx : RV G (zn w0 Z0 s G) w vx (ρ x)) (h : evNil s.heap vx k = some r) :
    ∃ v X, k v = some r ∧ (execOp ρ ⟨d, .nilCheck x, ty, pos, aft, gd⟩).run P w = .ok (.value X) w ∧ OneR G (zn w0 Z0 s G) w v X := by
  unfold evNil at h
  split at h
  · obtain ⟨hl, h⟩ := cond_left h
    obtain ⟨bb, T, vs, hg⟩ := hI.liveC hl
    exact ⟨_, _, h, run_nilCheck (ptr_val hx.1 hg), .inr ⟨bb, T, vs, hg, rfl⟩, rfl⟩
  · obtain ⟨bb, off, cs, hX, hb, hc, hr⟩ := hx.1
    exact ⟨_, _, h, run_nilCheck hX, ⟨bb, off, cs, rfl, hb, hc, hr⟩, rfl⟩
  · obtain ⟨hl, h⟩ := cond_left h
    obtain ⟨val, sz, xs, hg⟩ := hI.liveA hl
    obtain ⟨bb, off, n, c, hv, hi, hX⟩ := op_val hx.1 hg
    exact ⟨_, _, h, run_nilCheck hX, .inr ⟨_, val, sz, xs, hg, Nat.le_refl _, fun _ => ⟨bb, off, n, c, hv, hi, rfl⟩⟩, rfl⟩
  · obtain ⟨bs, hX, hh⟩ := hx.1
    exact ⟨_, _, h, (Y_nilCheckF (S := fun _ => True) hX).out w trivial, ⟨bs, rfl, hh⟩, rfl⟩
  · cases h
theorem evIndex_sound {Z : Zone} {k : SV → OR} (hx : RV G Z w vx (ρ x)) (hy : RV G Z w vy (ρ y)) (h : evIndex P t vx vy k = some r) :
    ∃ v X, k v = some r ∧ (execOp ρ ⟨d, .index t x y, ty, pos, aft, gd⟩).run P w = .ok (.value X) w ∧ OneR G Z w v X := by
  unfold evIndex at h
  split at h
  · obtain ⟨n, hY, h⟩ := optInt_some h hy
    obtain ⟨hn, h⟩ := cond_left h
    simp only [Bool.and_eq_true, decide_eq_true_eq] at hn
    split at h
    · rename_i hu
      exact ⟨_, _, h, (Y_indexStr (S := fun _ => True) (by simp [isStrT, hu]) (str_inv hx) hY ⟨hn.1, by omega⟩).out w trivial, int_one _ _⟩
    · cases h
  · cases h
theorem evExtract_sound {Z : Zone} {i : Nat} {k : AV → OR} (hx : RV G Z w vx (ρ x)) (h : evExtract vx i k = some r) :
    ∃ v X, k v = some r ∧ (execOp ρ ⟨d, .extract x i, ty, pos, aft, gd⟩).run P w = .ok (.value X) w ∧ RV G Z w v X := by
  unfold evExtract at h
  split at h
  · obtain ⟨v, hv, h⟩ := bind_some h
    obtain ⟨xs, hX, hh⟩ := hx
    obtain ⟨X, hX', hr⟩ := hh.get hv
    exact ⟨_, X, h, (Y_extract (S := fun _ => True) hX (by simpa using hX')).out w trivial, hr⟩
  · cases h
theorem evMax_sound {Z : Zone} {mx : Bool} {tys : Array TypeId} {k : SV → OR} (hx : RV G Z w vx (ρ x)) (hy : RV G Z w vy (ρ y)) (h : evMax mx vx vy k = some r) :
    ∃ v X, k v = some r ∧ (execOp ρ ⟨d, .call ⟨.builtin (cond mx .max .min), #[x, y], tys⟩, ty, pos, aft, gd⟩).run P w = .ok (.value X) w ∧ OneR G Z w v X := by
  unfold evMax at h
  split at h
  · obtain ⟨hk, h'⟩ := cond_left h
    obtain rfl := ikEq_eq hk
    refine ⟨_, _, h', ?_, int_one _ _⟩
    cases mx
    · simp [execOp, resolve, invoke, builtin, Builtin.min_, Builtin.min2, (int_inv hx), (int_inv hy), Sem.run_bind, Sem.run_pure, Int.min_def]
      split <;> split <;> first | rfl | omega
    · simp [execOp, resolve, invoke, builtin, Builtin.max_, Builtin.max2, (int_inv hx), (int_inv hy), Sem.run_bind, Sem.run_pure, Int.max_def]
      split <;> split <;> first | rfl | omega
  · cases h
theorem capsOf_sound (hI : InvG w0 M Z0 b G s tv w) : ∀ {vs : List AV} {xs : List Value} {l : List Nat}, All2 (RV G (zn w0 Z0 s G) w) vs xs → capsOf s.heap vs = some l →
    ∃ bs : List Nat, xs = bs.map (fun b => pv b 0) ∧ All2 (fun j b => G[j]? = some .gone ∨ ∃ T vs, G[j]? = some (.cells b T vs)) l bs
  | [], xs, l, ha, h => by
    obtain rfl := ha.nil_inv
    simp only [capsOf, Option.some.injEq] at h
    subst h
    exact ⟨[], rfl, All2.nil⟩
  | v :: vs, xs, l, ha, h => by
    obtain ⟨X, xs', rfl, h1, h2⟩ := ha.cons_inv
    unfold capsOf at h
    split at h
    · rename_i e; cases e
    · rename_i j vs' e
      simp only [List.cons.injEq] at e
      obtain ⟨rfl, rfl⟩ := e
      cases hl : liveC s.heap j with
      | false => simp [hl] at h
      | true =>
        simp only [hl, cond_true, Option.map_eq_some_iff] at h
        obtain ⟨l', hl', rfl⟩ := h
        obtain ⟨bs, rfl, hh⟩ := capsOf_sound hI h2 hl'
        obtain ⟨bb, T, vs0, hg⟩ := hI.liveC hl
        exact ⟨bb :: bs, by rw [List.map_cons, ptr_val h1.1 hg], All2.cons (.inr ⟨T, vs0, hg⟩) hh⟩
    · cases h
end
end Go.Ab
namespace Go.Ab
open Go Go.Dk

section
variable {P : Program} {w0 w w' : World} {M Z0 : Zone} {b : Nat} {G : List GO} {s : AS} {tv : List Value}
theorem zn_le {Z : Zone} {L L' : List Res} (h : ∀ r ∈ L', r ∈ L) : ∀ k, zone w0 Z0 L k → zone w0 Z0 L' k := fun k hk => ⟨hk.1, fun r hr => hk.2 r (h r hr)⟩
theorem keeps_le {Z Z' : Zone} (h : ∀ k, Z k → Z' k) : Keeps Z Z' w w := fun k hk _ => ⟨h k hk, rfl⟩
theorem InvG.put (hI : InvG w0 M Z0 b G s tv w) (d : Option Tmp) {v : AV} {X : Value} (h : RV G (zn w0 Z0 s G) w v X) :
    InvG w0 M Z0 b G (s.put d v) (match d with | some d => tv.set d X | none => tv) w := by
  cases d with
  | none => exact hI
  | some d => exact ⟨hI.st.weak (relF_stable _ _ _) fun hp => ⟨hp.1.set d h, hp.2⟩, hI.fresh, hI.mz⟩
theorem InvG.len (hI : InvG w0 M Z0 b G s tv w) : s.heap.length = G.length := hI.st.per.2.1
theorem set_same {α : Type} {l : List α} {j : Nat} {a : α} (h : l[j]? = some a) : l.set j a = l := by
  apply List.ext_getElem?
  intro i
  by_cases hi : j = i
  · subst hi; rw [List.getElem?_set_self (lt_of_some h), h]
  · rw [List.getElem?_set_ne hi]
/-- An array is frozen. -/
theorem InvG.freezeAt (hI : InvG w0 M Z0 b G s tv w) {j : Nat} {e : TypeId} {D : SD} {ver : Nat} {fz : Bool} (hj : s.heap[j]? = some (.arr e D ver fz)) :
    InvG w0 M Z0 b G ⟨s.tmps, s.heap.set j (.arr e D ver true)⟩ tv w ∧ (∀ k, zn w0 Z0 s G k → zn w0 Z0 ⟨s.tmps, s.heap.set j (.arr e D ver true)⟩ G k) := by
  cases fz with
  | true => rw [set_same hj]; exact ⟨hI, fun _ h => h⟩
  | false =>
    obtain ⟨val, xs, hg, hrd⟩ := hI.arr_rd hj
    have hP := hI.st.perm (resL_out s.heap G j hj hg)
    have hrest : (resL (s.heap.set j (.arr e D ver true)) G).Perm (resL (s.heap.set j .dead) (G.set j .gone)) := by
      have := resL_out (s.heap.set j (.arr e D ver true)) G j (o := .arr e D ver true) (g := .arr ver val D.kind.size xs) (by simp [lt_of_some hj]) hg
      rw [List.set_set] at this
      simpa [resO] using this
    have hS : St w0 M Z0 (rowZ e D.kind.size val D.len xs :: resL (s.heap.set j .dead) (G.set j .gone)) (relF s G tv) w := by simpa [resO] using hP
    have hT := hS.tail.perm hrest.symm
    have hle : ∀ k, zn w0 Z0 s G k → zone w0 Z0 (resL (s.heap.set j (.arr e D ver true)) G) k := by
      refine zn_le (Z := Z0) fun r hr => ?_
      exact (resL_out s.heap G j hj hg).mem_iff.2 (List.mem_append.2 (.inr (hrest.mem_iff.1 hr)))
    refine ⟨⟨hT.weak (relF_stable _ _ _) fun hp => ⟨hp.1, ?_⟩, hI.fresh, hI.mz⟩, hle⟩
    have := hp.2.set j (a := .arr e D ver true) (b := .arr ver val D.kind.size xs) ⟨rfl, rfl, ?_⟩
    · rw [set_same hg] at this; exact this
    · show SlR _ _ _ _
      obtain ⟨a, c, ys, hX, hm, he, hc⟩ := hrd
      have ho := hS.own _ (List.mem_cons_self ..)
      have hcap : D.len ≤ c := by
        subst hX
        unfold rowZ at ho
        split at ho
        · rename_i he; obtain ⟨h0, _⟩ := ho; rw [h0]; exact Nat.zero_le _
        · simp only [rowR] at ho
          rcases ho.2 with ⟨h2, h3⟩ | ⟨g, cap, cur, h2, _, _, hn, _⟩
          · rw [h3]; exact Nat.zero_le _
          · injection h2 with _ _ h5; omega
      refine ⟨a, c, ys, hX, hcap, hm, he.stable (keeps_le hle), ?_⟩
      rcases hc with hc | ⟨b1, off, ha, hc⟩
      · exact .inl hc
      · by_cases hys : ys = []
        · exact .inl hys
        · refine .inr ⟨b1, off, ha, ?_, hc⟩
          have hc0 : c ≠ 0 := by
            rintro rfl
            have h0 : D.len = 0 := by omega
            have := he.length
            rw [h0, Nat.zero_mul] at this
            exact hys (List.eq_nil_of_length_eq_zero this)
          have hfoot : (rowZ e D.kind.size val D.len xs).foot b1 := by
            subst hX ha
            unfold rowZ
            split
            · rename_i he; injection he with _ _ h3; exact absurd h3 hc0
            · rfl
          have hk := (hS.key _ (List.mem_cons_self ..) b1 hfoot).1
          refine ⟨hk.imp (hI.mz b1) id, fun r hr hf => ?_⟩
          have hd := hS.dis
          rw [List.pairwise_cons] at hd
          exact hd.1 r (hrest.mem_iff.1 hr) b1 hfoot hf
/-- The tmps and their values alone. -/
theorem InvG.frozen_val (hI : InvG w0 M Z0 b G s tv w) {j v : Nat} {e : TypeId} {D : SD} {ver : Nat} {X : Value} (hj : s.heap[j]? = some (.arr e D ver true)) (hv : v = ver) (hx : RS G (zn w0 Z0 s G) w (.own j v) X) :
    SlR (zn w0 Z0 s G) w D X := by
  obtain ⟨val, xs, hg, hh⟩ := hI.arr (v := 0) hj
  rw [own_val hx hg hv]; exact hh
structure Sealed (w0 : World) (M Z0 : Zone) (b : Nat) (G : List GO) (s : AS) (tv : List Value) (w : World) (h : List AObj) : Prop where
  inv : InvG w0 M Z0 b G ⟨s.tmps, h⟩ tv w
  le : ∀ k, zn w0 Z0 s G k → zn w0 Z0 ⟨s.tmps, h⟩ G k
  dead : ∀ j : Nat, s.heap[j]? = some .dead → h[j]? = some .dead
theorem Sealed.refl (hI : InvG w0 M Z0 b G s tv w) : Sealed w0 M Z0 b G s tv w s.heap := ⟨hI, fun _ h => h, fun _ h => h⟩
theorem Sealed.trans {h h' : List AObj} (h1 : Sealed w0 M Z0 b G s tv w h) (h2 : Sealed w0 M Z0 b G ⟨s.tmps, h⟩ tv w h') : Sealed w0 M Z0 b G s tv w h' :=
  ⟨h2.inv, fun k hk => h2.le k (h1.le k hk), fun j hj => h2.dead j (h1.dead j hj)⟩
variable {r : List V1 × List AObj}
theorem sealS_sound (hI : InvG w0 M Z0 b G s tv w) {v : SV} {X : Value} {k : SV → List AObj → OR} (hx : OneR G (zn w0 Z0 s G) w v X) (h : sealS s.heap v k = some r) :
    ∃ v' h', k v' h' = some r ∧ Sealed w0 M Z0 b G s tv w h' ∧ OneR G (zn w0 Z0 ⟨s.tmps, h'⟩ G) w v' X := by
  unfold sealS at h
  split at h
  · rename_i j v
    split at h
    · rename_i e D ver fz hj
      obtain ⟨hv, h'⟩ := cond_left h
      simp only [Nat.beq_eq] at hv
      obtain ⟨h1, h2⟩ := hI.freezeAt hj
      refine ⟨_, _, h', ⟨h1, h2, fun i hi => ?_⟩, ?_, hx.2⟩
      · have : j ≠ i := by rintro rfl; rw [hj] at hi; cases hi
        simpa [List.getElem?_set_ne this] using hi
      · exact h1.frozen_val (e := e) (by simp [lt_of_some hj]) hv (hx.1.stable (keeps_le h2))
    · cases h
  · obtain ⟨⟨a, rfl⟩, h2⟩ := hx
    exact ⟨_, _, h, Sealed.refl hI, SlR_nil _ _, h2⟩
  · exact ⟨_, _, h, Sealed.refl hI, hx⟩
theorem sealL_sound : ∀ {l : List SV} {s : AS} {xs : List Value} {k : List SV → List AObj → OR}, InvG w0 M Z0 b G s tv w → All2 (OneR G (zn w0 Z0 s G) w) l xs → sealL s.heap l k = some r →
    ∃ l' h', k l' h' = some r ∧ Sealed w0 M Z0 b G s tv w h' ∧ All2 (OneR G (zn w0 Z0 ⟨s.tmps, h'⟩ G) w) l' xs
  | [], s, xs, k, hI, ha, h => by
    obtain rfl := ha.nil_inv
    exact ⟨_, _, h, Sealed.refl hI, All2.nil⟩
  | v :: l, s, xs, k, hI, ha, h => by
    obtain ⟨X, xs', rfl, h1, h2⟩ := ha.cons_inv
    unfold sealL at h
    obtain ⟨v', h', hk, hs, hv⟩ := sealS_sound hI h1 h
    obtain ⟨l', h'', hk', hs', hl⟩ := sealL_sound hs.inv (h2.mono fun _ _ _ q => ⟨q.1.stable (keeps_le hs.le), q.2⟩) hk
    exact ⟨_, _, hk', hs.trans hs', All2.cons ⟨hv.1.stable (keeps_le hs'.le), hv.2⟩ hl⟩

/-! Elements out of cells. -/
def SE.kind : SE → SK | .t _ => .t | .i _ => .i | .ii _ => .ii | .s _ => .s | .b _ => .b
theorem one_int {Z : Zone} {k : IntKind} {n : Int} {X : Value} (h : OneR G Z w (.int k n) X) : X = .int k n := h.1
theorem u8_back {n : Int} (h0 : 0 ≤ n) (h1 : n ≤ 255) : ((UInt8.ofNat n.toNat).toNat : Int) = n := by
  have : (UInt8.ofNat n.toNat).toNat = n.toNat % 256 := by simp
  rw [this]; omega
theorem elemOf_sound {Z : Zone} {e : SK} {l : List SV} {xs : List Value} {k : SE → OR} (ha : All2 (OneR G Z w) l xs) (h : elemOf e l k = some r) :
    ∃ x, k x = some r ∧ CellsR Z w x xs ∧ x.kind = e ∧ (∀ v ∈ xs, oneB v = true) := by
  have h1 : ∀ v ∈ xs, oneB v = true := fun v hv => by
    obtain ⟨i, hi⟩ := List.getElem?_of_mem hv
    obtain ⟨a, _, hr⟩ := ha.get' hi
    exact hr.2
  unfold elemOf at h
  split at h
  · rename_i a c l
    obtain ⟨x1, m1, rfl, e1, ha⟩ := ha.cons_inv
    obtain ⟨x2, m2, rfl, e2, ha⟩ := ha.cons_inv
    obtain ⟨x3, m3, rfl, e3, ha⟩ := ha.cons_inv
    obtain rfl := ha.nil_inv
    obtain ⟨t, h2, h3, h4, h5, h6⟩ := sl_Rd e3.1 a c
    exact ⟨_, h, ⟨t, h2, h3, by rw [one_int e1, one_int e2, h4, h5, h6]⟩, rfl, h1⟩
  · obtain ⟨x1, m1, rfl, e1, ha⟩ := ha.cons_inv
    obtain rfl := ha.nil_inv
    exact ⟨_, h, by rw [one_int e1]; rfl, rfl, h1⟩
  · obtain ⟨x1, m1, rfl, e1, ha⟩ := ha.cons_inv
    obtain rfl := ha.nil_inv
    obtain ⟨a, c, ys, h2, h3, h4, h5, h6⟩ := e1.1
    simp only [ElemsR] at h5
    subst h5
    exact ⟨_, h, ⟨x1, rfl, a, c, h2, h3, h4, h6.imp (fun h => by simpa using h) id⟩, rfl, h1⟩
  · obtain ⟨x1, m1, rfl, e1, ha⟩ := ha.cons_inv
    obtain rfl := ha.nil_inv
    exact ⟨_, h, by rw [show x1 = _ from e1.1]; rfl, rfl, h1⟩
  · obtain ⟨x1, m1, rfl, e1, ha⟩ := ha.cons_inv
    obtain rfl := ha.nil_inv
    obtain ⟨hn, h⟩ := cond_left h
    simp only [Bool.and_eq_true, decide_eq_true_eq] at hn
    exact ⟨_, h, by rw [one_int e1]; show _ = _; rw [u8_back hn.1 hn.2], rfl, h1⟩
  · cases h
theorem snoc_sound {Z : Zone} {D D' : SD} {x : SE} {xs cs : List Value} (hd : ElemsR Z w D xs) (hc : CellsR Z w x cs) (h : D.snoc x = some D') :
    ElemsR Z w D' (xs ++ cs) ∧ D'.len = D.len + 1 ∧ D'.kind = D.kind ∧ cs.length = D.kind.size ∧ x.kind = D.kind := by
  unfold SD.snoc at h
  split at h
  · obtain rfl := Option.some.inj h
    obtain ⟨hs, rfl, rfl, hr⟩ := hd
    obtain ⟨t, rfl, ht, rfl⟩ := hc
    refine ⟨⟨hs ++ [t], by simp, by rw [flatT_append, flatT_cons, flatT_nil], fun u hu => ?_⟩, by simp [SD.len], rfl, rfl, rfl⟩
    rcases List.mem_append.1 hu with hu | hu
    · exact hr u hu
    · rw [List.mem_singleton.1 hu]; exact ht
  · obtain rfl := Option.some.inj h
    simp only [ElemsR, CellsR] at hd hc; subst hd hc
    exact ⟨by simp [ElemsR], by simp [SD.len], rfl, rfl, rfl⟩
  · obtain rfl := Option.some.inj h
    obtain ⟨X, rfl, hX⟩ := hc
    exact ⟨All2.append hd (All2.cons hX All2.nil), by simp [SD.len], rfl, rfl, rfl⟩
  · obtain rfl := Option.some.inj h
    simp only [ElemsR, CellsR] at hd hc; subst hd hc
    exact ⟨by simp [ElemsR], by simp [SD.len], rfl, rfl, rfl⟩
  · obtain rfl := Option.some.inj h
    simp only [ElemsR, CellsR] at hd hc; subst hd hc
    exact ⟨by simp [ElemsR], by simp [SD.len], rfl, rfl, rfl⟩
  · cases h
theorem elemsOf_sound {e : SK} : ∀ {cs : List (List SV)} {s : AS} {xss : List (List Value)} {D : SD} {ys : List Value} {k : SD → List AObj → OR}, InvG w0 M Z0 b G s tv w →
    All2 (All2 (OneR G (zn w0 Z0 s G) w)) cs xss → ElemsR (zn w0 Z0 s G) w D ys → D.kind = e → elemsOf e s.heap cs D k = some r →
    ∃ D' h', k D' h' = some r ∧ Sealed w0 M Z0 b G s tv w h' ∧ ElemsR (zn w0 Z0 ⟨s.tmps, h'⟩ G) w D' (ys ++ xss.flatten) ∧ D'.len = D.len + cs.length ∧ D'.kind = e ∧ ∀ x ∈ xss, x.length = e.size ∧ ∀ v ∈ x, oneB v = true
  | [], s, xss, D, ys, k, hI, ha, he, hk, h => by
    obtain rfl := ha.nil_inv
    exact ⟨D, s.heap, h, Sealed.refl hI, by simpa using he, rfl, hk, by simp⟩
  | c :: cs, s, xss, D, ys, k, hI, ha, he, hk, h => by
    obtain ⟨x, xss', rfl, h1, h2⟩ := ha.cons_inv
    unfold elemsOf at h
    obtain ⟨c', h', h, hs, hc⟩ := sealL_sound hI h1 h
    obtain ⟨el, h, hcr, hek, hone⟩ := elemOf_sound hc h
    obtain ⟨D1, hd1, h⟩ := bind_some h
    obtain ⟨g1, g2, g3, g4, g5⟩ := snoc_sound (he.stable (keeps_le hs.le)) hcr hd1
    obtain ⟨D', h'', hk', hs', e1, e2, e3, e4⟩ := elemsOf_sound (k := k) hs.inv (h2.mono fun _ _ _ q => q.mono fun _ _ _ p => ⟨p.1.stable (keeps_le hs.le), p.2⟩) g1 (g3.trans hk) h
    refine ⟨D', h'', hk', hs.trans hs', by rw [List.flatten_cons, ← List.append_assoc]; exact e1, by rw [e2, g2, List.length_cons]; omega, e3, ?_⟩
    intro y hy
    rcases List.mem_cons.1 hy with rfl | hy
    · exact ⟨by rw [g4, hk], hone⟩
    · exact e4 y hy

/-! New objects, and objects that turn. -/
theorem InvG.dead_fresh (hI : InvG w0 M Z0 b G s tv w) {j : Nat} (h : G[j]? = some .fresh) : s.heap[j]? = some .dead := by
  obtain ⟨o, ho, hr⟩ := hI.st.per.2.get' h
  cases o with
  | dead => exact ho
  | _ => exact hr.elim
theorem InvG.newObj (hI : InvG w0 M Z0 b G s tv w) (hb : b < G.length) (hg : Grow w w') {o : AObj} {g : GO} (hq : ∀ q ∈ resO o g, q.own w' ∧ ∀ k, q.foot k → w.heap.size ≤ k ∧ k < w'.heap.size)
    (hro : ∀ Z', Keeps (zn w0 Z0 s G) Z' w w' → RO (G.set b g) Z' w' o g) :
    InvG w0 M Z0 (b + 1) (G.set b g) ⟨s.tmps, s.heap.set b o⟩ tv w' ∧ Keeps (zn w0 Z0 s G) (zn w0 Z0 ⟨s.tmps, s.heap.set b o⟩ (G.set b g)) w w' := by
  have hgb := hI.fresh b (Nat.le_refl _) hb
  have hdead := hI.dead_fresh hgb
  have hbl : b < s.heap.length := by rw [hI.len]; exact hb
  have hin := resL_in (h := s.heap) (G := G) o g hbl hb
  have hP := hI.st.perm (resL_out s.heap G b hdead hgb)
  rw [resO_dead, List.nil_append] at hP
  have hone : resO o g = [] ∨ ∃ q, resO o g = [q] := by
    unfold resO; split
    · exact .inr ⟨_, rfl⟩
    · exact .inr ⟨_, rfl⟩
    · exact .inl rfl
  have hup : Up G (G.set b g) := Up.set fun g0 h0 => by rw [hgb] at h0; obtain rfl := Option.some.inj h0; trivial
  have hfr : ∀ j, b + 1 ≤ j → j < (G.set b g).length → (G.set b g)[j]? = some .fresh := fun j hj hl => by
    rw [List.getElem?_set_ne (by omega)]; exact hI.fresh j (by omega) (by simpa using hl)
  have fin : ∀ {L : List Res}, St w0 M Z0 L (relF s G tv) w' → L.Perm (resL (s.heap.set b o) (G.set b g)) → Keeps (zn w0 Z0 s G) (zone w0 Z0 L) w w' →
      InvG w0 M Z0 (b + 1) (G.set b g) ⟨s.tmps, s.heap.set b o⟩ tv w' ∧ Keeps (zn w0 Z0 s G) (zn w0 Z0 ⟨s.tmps, s.heap.set b o⟩ (G.set b g)) w w' := by
    intro L hs hp hk
    have hk' : Keeps (zn w0 Z0 s G) (zone w0 Z0 (resL (s.heap.set b o) (G.set b g))) w w' := fun k hz hl => ⟨⟨(hk k hz hl).1.1, fun q hq' => (hk k hz hl).1.2 q (hp.mem_iff.2 hq')⟩, (hk k hz hl).2⟩
    refine ⟨⟨(hs.perm hp).weak (relF_stable _ _ _) fun hh => ⟨hh.1.mono fun _ _ _ q => q.up hup, ?_⟩, hfr, hI.mz⟩, hk'⟩
    exact (All2.mono hh.2 fun _ _ _ q => q.up hup).set b (hro _ hk')
  rcases hone with h0 | ⟨q, h1⟩
  · rw [h0, List.nil_append] at hin
    refine fin (hP.grow hg) hin fun k hz hl => ⟨⟨hz.1, fun q hq' => hz.2 q ?_⟩, hg.blk hl⟩
    exact (resL_out s.heap G b hdead hgb).mem_iff.2 (by rw [resO_dead, List.nil_append]; exact hq')
  · rw [h1] at hin
    have hqq := hq q (by rw [h1]; exact List.mem_cons_self ..)
    have hql : q.Local := resO_local o g q (by rw [h1]; exact List.mem_cons_self ..)
    refine fin (hP.push hg hql hqq.1 hqq.2) hin fun k hz hl => ⟨⟨hz.1, fun q' hq' => ?_⟩, hg.blk hl⟩
    rcases List.mem_cons.1 hq' with rfl | hq'
    · intro hf; have := (hqq.2 k hf).1; omega
    · exact hz.2 q' ((resL_out s.heap G b hdead hgb).mem_iff.2 (by rw [resO_dead, List.nil_append]; exact hq'))
theorem InvG.updObj (hI : InvG w0 M Z0 b G s tv w) {j : Nat} {o o' : AObj} {g g' : GO} {q q' : Res} (hj : s.heap[j]? = some o) (hgj : G[j]? = some g) (hne : g ≠ .fresh) (h1 : resO o g = [q]) (hx : Ext q.foot w w') (h1' : resO o' g' = [q'])
    (ho : q'.own w') (hf : ∀ k, q'.foot k → (q.foot k ∨ w.heap.size ≤ k) ∧ k < w'.heap.size) (hup : Up G (G.set j g'))
    (hro : ∀ Z', Keeps (zn w0 Z0 s G) Z' w w' → RO (G.set j g') Z' w' o' g') :
    InvG w0 M Z0 b (G.set j g') ⟨s.tmps, s.heap.set j o'⟩ tv w' ∧ Keeps (zn w0 Z0 s G) (zn w0 Z0 ⟨s.tmps, s.heap.set j o'⟩ (G.set j g')) w w' := by
  have hjl := lt_of_some hj
  have hgl := lt_of_some hgj
  have hin := resL_in (h := s.heap) (G := G) o' g' hjl hgl
  have hP := hI.st.perm (resL_out s.heap G j hj hgj)
  rw [h1] at hP
  rw [h1'] at hin
  have hU : St w0 M Z0 (q' :: resL (s.heap.set j .dead) (G.set j .gone)) (relF s G tv) w' := by
    have := hP.upd (n := 0) (r := q) (r' := q') rfl hx (resO_local o' g' q' (by rw [h1']; exact List.mem_cons_self ..)) ho hf
    simpa using this
  have hk' : Keeps (zn w0 Z0 s G) (zone w0 Z0 (resL (s.heap.set j o') (G.set j g'))) w w' := fun k hz hl => by
    have hqn : ¬ q.foot k := hz.2 q (mem_resL hj hgj (by rw [h1]; exact List.mem_cons_self ..))
    refine ⟨⟨hz.1, fun p hp => ?_⟩, hx.block k hl hqn⟩
    rcases List.mem_cons.1 (hin.mem_iff.2 hp) with rfl | hp
    · intro hf'
      rcases (hf k hf').1 with h2 | h2
      · exact hqn h2
      · omega
    · exact hz.2 p ((resL_out s.heap G j hj hgj).mem_iff.2 (List.mem_append.2 (.inr hp)))
  refine ⟨⟨(hU.perm hin).weak (relF_stable _ _ _) fun hh => ⟨hh.1.mono fun _ _ _ p => p.up hup, ?_⟩, fun i hi hl => ?_, hI.mz⟩, hk'⟩
  · exact (All2.mono hh.2 fun _ _ _ p => p.up hup).set j (hro _ hk')
  · have : j ≠ i := by
      rintro rfl
      have := hI.fresh j hi hgl
      rw [hgj] at this
      exact hne (Option.some.inj this)
    rw [List.getElem?_set_ne this]; exact hI.fresh i hi (by simpa using hl)
end
end Go.Ab
namespace Go.Ab
open Go Go.Dk

section
variable {P : Program} {w0 w w' : World} {M Z0 : Zone} {b : Nat} {G : List GO} {s : AS} {tv : List Value} {r : List V1 × List AObj}
theorem oneB_cells {X : Value} (h : oneB X = true) : X.cells = #[X] := by cases X <;> first | rfl | (simp [oneB] at h)
theorem cs_sound {Z : Zone} {v : AV} {X : Value} {c : List SV} (h : v.cs = some c) (hx : RV G Z w v X) : ∃ xs : List Value, X.cells = xs.toArray ∧ All2 (OneR G Z w) c xs := by
  unfold AV.cs at h
  split at h
  · cases h
  · rename_i v hne
    obtain rfl := Option.some.inj h
    have h1 := hx.2 (fun e => hne (by rw [e]))
    exact ⟨[X], oneB_cells h1, All2.cons ⟨hx.1, h1⟩ All2.nil⟩
  · obtain rfl := Option.some.inj h
    obtain ⟨xs, rfl, hh⟩ := hx
    exact ⟨xs, rfl, hh⟩
  · cases h
theorem csL_sound {Z : Zone} : ∀ {vs : List AV} {Xs : List Value} {cs : List (List SV)}, csL vs = some cs → All2 (RV G Z w) vs Xs →
    ∃ xss : List (List Value), Xs.map Value.cells = xss.map List.toArray ∧ All2 (All2 (OneR G Z w)) cs xss
  | [], Xs, cs, h, ha => by
    obtain rfl := ha.nil_inv
    simp only [csL, Option.some.injEq] at h; subst h
    exact ⟨[], rfl, All2.nil⟩
  | v :: vs, Xs, cs, h, ha => by
    obtain ⟨X, Xs', rfl, h1, h2⟩ := ha.cons_inv
    simp only [csL] at h
    cases hv : v.cs with
    | none => simp [hv] at h
    | some c =>
      simp only [hv, Option.bind_some, Option.map_eq_some_iff] at h
      obtain ⟨cs', hcs, rfl⟩ := h
      obtain ⟨xs, he, hh⟩ := cs_sound hv h1
      obtain ⟨xss, he', hh'⟩ := csL_sound hcs h2
      exact ⟨xs :: xss, by simp [he, he'], All2.cons hh hh'⟩
theorem InvG.raise {b' : Nat} (hI : InvG w0 M Z0 b G s tv w) (h : b ≤ b') : InvG w0 M Z0 b' G s tv w := ⟨hI.st, fun j hj hl => hI.fresh j (Nat.le_trans h hj) hl, hI.mz⟩
theorem OneR.mono {Z Z' : Zone} {G' : List GO} {v : SV} {X : Value} (h : OneR G Z w v X) (hk : Keeps Z Z' w w') (hu : Up G G') : OneR G' Z' w' v X := ⟨(h.1.stable hk).up hu, h.2⟩

variable {ρ : Operand → Value} {x y : Operand} {d : Option Tmp} {ty t t' : TypeId} {pos : String} {aft : Array Edge} {gd : Option (Nat × Bool)} {vx vy : AV} {X : Value}
/-! New variables. -/
theorem newCells (hI : InvG w0 M Z0 b G s tv w) (hb : b < G.length) {l : List SV} {xs : List Value} (ha : All2 (OneR G (zn w0 Z0 s G) w) l xs) (T : TypeId) :
    InvG w0 M Z0 (b + 1) (G.set b (.cells w.heap.size T xs)) ⟨s.tmps, s.heap.set b (.cells l)⟩ tv (w.alloc (.cells xs.toArray T (0, 0))) ∧
    RV (G.set b (.cells w.heap.size T xs)) (zn w0 Z0 ⟨s.tmps, s.heap.set b (.cells l)⟩ (G.set b (.cells w.heap.size T xs))) (w.alloc (.cells xs.toArray T (0, 0))) (.v (.one (.ptr b 0))) (pv w.heap.size 0) ∧ Up G (G.set b (.cells w.heap.size T xs)) := by
  have hup : Up G (G.set b (.cells w.heap.size T xs)) := Up.set fun g0 h0 => by rw [hI.fresh b (Nat.le_refl _) hb] at h0; obtain rfl := Option.some.inj h0; trivial
  refine ⟨(hI.newObj hb (Grow.alloc _ _) (o := .cells l) (g := .cells w.heap.size T xs) (fun q hq => ?_) (fun Z' hk => ?_)).1, ⟨.inr ⟨w.heap.size, T, xs, by simp [hb], rfl⟩, fun _ => rfl⟩, hup⟩
  · simp only [resO, List.mem_singleton] at hq
    subst hq
    refine ⟨alloc_get _ _, fun k hk => ?_⟩
    simp only [blk] at hk; subst hk; rw [alloc_size]; omega
  · exact ha.mono fun _ _ _ q => q.mono hk hup
theorem run_alloc {e : TypeId} {cs : List Value} (hz : zeroB P e = some cs) : (execOp ρ ⟨d, .alloc e, ty, pos, aft, gd⟩).run P w = .ok (.value (pv w.heap.size 0)) (w.alloc (.cells cs.toArray e (0, 0))) := by
  unfold zeroB at hz
  split at hz
  · rename_i i hi
    split at hz
    · rename_i z hzz
      obtain rfl := Option.some.inj hz
      have hzv : (zeroValue e).run P w = .ok z w := by
        simp only [zeroValue, Sem.run_bind, Go.Dk.run_typeInfo hi, Result.andThen_ok, hzz, Sem.run_pure]
      simp only [execOp, Instr.alloc, Sem.run_bind, hzv, run_newVar, Result.andThen_ok, Sem.run_pure, Array.toArray_toList]
      rfl
    · cases hz
  · cases hz
theorem run_box {e : TypeId} {cs : List Value} (hc : (ρ x).cells = cs.toArray) : (execOp ρ ⟨d, .box e x, ty, pos, aft, gd⟩).run P w = .ok (.value (pv w.heap.size 0)) (w.alloc (.cells cs.toArray e (0, 0))) := by
  simp only [execOp, Instr.box, Sem.run_bind, run_newVar, hc, Result.andThen_ok, Sem.run_pure]
  rfl
theorem zeroS_out {e : TypeId} {z : List SV} (h : zeroS P e = some z) : ∃ cs, zeroB P e = some cs ∧ ∀ G Z w, All2 (OneR G Z w) z cs := by
  unfold zeroS at h
  cases hz : zeroB P e with
  | none => simp [hz] at h
  | some cs =>
    simp only [hz, Option.bind_some] at h
    cases hc : cs.all oneB with
    | false => simp [hc] at h
    | true =>
      simp only [hc, cond_true, Option.some.injEq] at h
      subst h
      exact ⟨cs, rfl, fun G Z w => svsOf_rel _ _ fun v hv => List.all_eq_true.1 hc v hv⟩

/-! Stores. -/
theorem run_storeCells2 {bb off : Nat} {T : TypeId} : ∀ (vs : List Value) (i : Nat) (cs : List Value) (w : World), w.heap[bb]? = some (.cells cs.toArray T (0, 0)) →
    (∀ v ∈ vs, oneB v = true) → off + i + vs.length ≤ cs.length →
    ∃ w', (storeCells ⟨bb, off, none⟩ vs i).run P w = .ok () w' ∧ w'.heap[bb]? = some (.cells (putL cs (off + i) vs).toArray T (0, 0)) ∧ Ext (· = bb) w w'
  | [], i, cs, w, hn, _, _ => ⟨w, rfl, hn, Ext.refl _ _⟩
  | v :: vs, i, cs, w, hn, h1, hl => by
    simp only [List.length_cons] at hl
    have hlt : off + i < cs.length := by omega
    have hcell : w.cell? ⟨bb, off + i, none⟩ = some cs[off + i] := by simp [World.cell?, hn, hlt]
    have hfr : w.frozen? ⟨bb, off + i, none⟩ = false := by simp [World.frozen?, hn]
    have hn' : (w.setCell ⟨bb, off + i, none⟩ v).heap[bb]? = some (.cells (cs.set (off + i) v).toArray T (0, 0)) := by
      simp [World.setCell, Array.getElem?_modify, hn]
    obtain ⟨w', hr, hh, hx⟩ := run_storeCells2 (off := off) vs (i + 1) (cs.set (off + i) v) _ hn' (fun u hu => h1 u (List.mem_cons_of_mem _ hu)) (by simp; omega)
    refine ⟨w', ?_, hh, (Ext.setCell w ⟨bb, off + i, none⟩ v).trans hx⟩
    simp only [storeCells, addr_add, Sem.run_bind, store]
    rw [Go.Dk.run_store (h1 v (List.mem_cons_self ..)) hcell hfr]
    simp only [Sem.run, Result.andThen_ok]
    exact hr
theorem run_store_op {bb off m : Nat} {T : TypeId} {cs vs : List Value} (hX : ρ x = pv bb off) (hc : (ρ y).cells = vs.toArray) (hsz : (P.info? t).map (·.size) = some m) (hm : m = vs.length)
    (hn : w.heap[bb]? = some (.cells cs.toArray T (0, 0))) (h1 : ∀ v ∈ vs, oneB v = true) (hl : off + vs.length ≤ cs.length) :
    ∃ w', (execOp ρ ⟨d, .store t x y, ty, pos, aft, gd⟩).run P w = .ok .skip w' ∧ w'.heap[bb]? = some (.cells (putL cs off vs).toArray T (0, 0)) ∧ Ext (· = bb) w w' := by
  obtain ⟨w', hr, hh, hx⟩ := run_storeCells2 (P := P) (off := off) vs 0 cs w hn h1 (by simpa using hl)
  refine ⟨w', ?_, by simpa using hh, hx⟩
  cases hi : P.info? t with
  | none => simp [hi] at hsz
  | some i =>
    simp only [hi, Option.map_some, Option.some.injEq] at hsz
    have hne : ¬ (vs.toArray.size ≠ i.size) := by rw [hsz, hm]; simp
    simp only [execOp, Instr.storeAt, hX, pv, Instr.sureAddr, storeVar, Sem.run_bind, Sem.run_pure, Result.andThen_ok, Go.Dk.run_sizeOf hi, if_neg hne, hc, hr]
theorem put_rel {R : SV → Value → Prop} : ∀ {c : List SV} {ys : List Value} {l : List SV} {vs : List Value} {off : Nat}, All2 R l vs → All2 R c ys → All2 R (putS l off c) (putL vs off ys)
  | [], ys, l, vs, off, hl, hc => by obtain rfl := hc.nil_inv; exact hl
  | x :: c, ys, l, vs, off, hl, hc => by
    obtain ⟨y, ys', rfl, h1, h2⟩ := hc.cons_inv
    show All2 R (putS (l.set off x) (off + 1) c) (putL (vs.set off y) (off + 1) ys')
    exact put_rel (hl.set off h1) h2
theorem CellsR.length {Z : Zone} {e : SE} {cs : List Value} {k : SK} (h : CellsR Z w e cs) (hk : e.kind = k) : cs.length = k.size := by
  subst hk
  cases e with
  | t x => obtain ⟨t, _, _, rfl⟩ := h; rfl
  | i n => simp only [CellsR] at h; subst h; rfl
  | ii l => obtain ⟨x, rfl, _⟩ := h; rfl
  | s x => simp only [CellsR] at h; subst h; rfl
  | b c => simp only [CellsR] at h; subst h; rfl
theorem one_all {Z : Zone} {l : List SV} {xs : List Value} (h : All2 (OneR G Z w) l xs) : ∀ v ∈ xs, oneB v = true := fun v hv => by
  obtain ⟨i, hi⟩ := List.getElem?_of_mem hv
  obtain ⟨a, _, hr⟩ := h.get' hi
  exact hr.2
theorem putL_take (n : Nat) : ∀ (vs cs : List Value) (off : Nat), (putL cs off vs).take n = putL (cs.take n) off vs
  | [], cs, off => rfl
  | v :: vs, cs, off => by
    simp only [putL]
    rw [putL_take n vs, List.take_set]
theorem putL_map {α : Type} (f : α → Value) (l : List α) (i : Nat) (x : α) : putL (l.map f) i [f x] = (l.set i x).map f := by
  simp [putL, List.map_set]
theorem flatT_set : ∀ (hs : List HT) (i : Nat) (t : HT), putL (flatT hs) (i * 3) [.int .i64 t.k, .int .i64 t.n, t.sl] = flatT (hs.set i t)
  | [], i, t => by simp [flatT_nil, putL]
  | h :: hs, 0, t => by rw [flatT_cons]; simp [putL, flatT_cons]
  | h :: hs, i + 1, t => by
    have := flatT_set hs i t
    rw [flatT_cons, List.set_cons_succ, flatT_cons, ← this]
    rw [show (i + 1) * 3 = i * 3 + 1 + 1 + 1 by omega]
    simp [putL]
theorem ElemsR.set {Z : Zone} {D : SD} {xs cs : List Value} {e : SE} {i : Nat} {k : SD → OR} (hd : ElemsR Z w D xs) (hc : CellsR Z w e cs) (h : D.set i e k = some r) :
    ∃ D', k D' = some r ∧ D'.len = D.len ∧ D'.kind = D.kind ∧ ElemsR Z w D' (putL xs (i * D.kind.size) cs) := by
  unfold SD.set at h
  split at h
  · obtain ⟨hs, rfl, rfl, hr⟩ := hd
    obtain ⟨t, rfl, ht, rfl⟩ := hc
    refine ⟨_, h, by simp [SD.len], rfl, hs.set i t, by rw [List.map_set], flatT_set hs i t, fun u hu => ?_⟩
    rcases List.mem_or_eq_of_mem_set hu with hu | rfl
    · exact hr u hu
    · exact ht
  · simp only [ElemsR, CellsR] at hd hc; subst hd hc
    exact ⟨_, h, by simp [SD.len], rfl, by simp only [SD.kind, SK.size, Nat.mul_one]; exact putL_map _ _ _ _⟩
  · obtain ⟨X, rfl, hX⟩ := hc
    exact ⟨_, h, by simp [SD.len], rfl, by simp only [SD.kind, SK.size, Nat.mul_one]; exact All2.set hd i hX⟩
  · simp only [ElemsR, CellsR] at hd hc; subst hd hc
    exact ⟨_, h, by simp [SD.len], rfl, by simp only [SD.kind, SK.size, Nat.mul_one]; exact putL_map _ _ _ _⟩
  · simp only [ElemsR, CellsR] at hd hc; subst hd hc
    exact ⟨_, h, by simp [SD.len], rfl, by simp only [SD.kind, SK.size, Nat.mul_one]; exact putL_map (fun c : UInt8 => Value.int .u8 (c.toNat : Int)) _ _ _⟩
  · cases h

theorem rowZ_pos {e sz n m c : Nat} {a : Option Addr} {xs : List Value} (h : c ≠ 0) : rowZ e sz (.slice a n c) m xs = rowR e sz (.slice a n c) m xs := by
  unfold rowZ
  split
  · rename_i he; injection he with _ _ h3; exact absurd h3 h
  · rfl
theorem rowZ_zero {e sz n m : Nat} {a : Option Addr} {xs : List Value} : rowZ e sz (.slice a n 0) m xs = ⟨fun _ => False, fun _ => m = 0 ∧ xs = [] ∧ (.slice a n 0 : Value) = .slice a 0 0⟩ := rfl
theorem InvG.row (hI : InvG w0 M Z0 b G s tv w) {j : Nat} {e : TypeId} {D : SD} {ver : Nat} (hj : s.heap[j]? = some (.arr e D ver false)) :
    ∃ val xs, G[j]? = some (.arr ver val D.kind.size xs) ∧ ElemsR (zn w0 Z0 s G) w D xs ∧ (∃ a c, val = .slice a D.len c) ∧ (rowZ e D.kind.size val D.len xs).own w := by
  obtain ⟨val, xs, hg, h1, h2⟩ := hI.arr (v := 0) hj
  exact ⟨val, xs, hg, h1, h2, hI.st.own _ (mem_resL hj hg (by simp [resO]))⟩
theorem ext_eq {Z Z' : Zone} (h : ∀ k, Z k ↔ Z' k) (hx : Ext Z w w') : Ext Z' w w' := hx.weak fun k _ hk => (h k).1 hk
theorem evStore_sound (hI : InvG w0 M Z0 b G s tv w) {k : List AObj → OR} (hx : RV G (zn w0 Z0 s G) w vx (ρ x)) (hy : RV G (zn w0 Z0 s G) w vy (ρ y)) (h : evStore P t vx vy s.heap k = some r) :
    ∃ h' G' w', k h' = some r ∧ (execOp ρ ⟨d, .store t x y, ty, pos, aft, gd⟩).run P w = .ok .skip w' ∧ InvG w0 M Z0 b G' ⟨s.tmps, h'⟩ tv w' ∧ h'.length = s.heap.length ∧ Up G G' := by
  unfold evStore at h
  split at h
  · rename_i m hsz
    replace h := bind_some h; obtain ⟨yc, hyc, h⟩ := h
    obtain ⟨ys, hcells, hys⟩ := cs_sound hyc hy
    split at h
    · rename_i j off
      split at h
      · rename_i l hj
        replace h := cond_left h; obtain ⟨hm, h⟩ := h
        simp only [Bool.and_eq_true, Nat.beq_eq, Nat.ble_eq] at hm
        obtain ⟨bb, T, vs, hg, ha, _, hmem⟩ := hI.cells hj
        have hown : w.heap[bb]? = some (.cells vs.toArray T (0, 0)) := hI.st.own _ hmem
        obtain ⟨w', hr, hh, hext⟩ := run_store_op (P := P) (t := t) (d := d) (ty := ty) (pos := pos) (aft := aft) (gd := gd) (ptr_val hx.1 hg) hcells hsz (by rw [hm.1, hys.1]) hown (one_all hys) (by rw [← hys.1, ← ha.1]; omega)
        have hup : Up G (G.set j (.cells bb T (putL vs off ys))) := Up.set fun g0 h0 => by rw [hg] at h0; obtain rfl := Option.some.inj h0; rfl
        have hu := hI.updObj (o' := .cells (putS l off yc)) (g' := .cells bb T (putL vs off ys)) (q := blk bb vs T) (q' := blk bb (putL vs off ys) T) hj hg nofun rfl hext rfl hh
          (fun k hk => ⟨.inl hk, by simp only [blk] at hk; subst hk; exact lt_of_get hh⟩) hup
          (fun Z' hk => (put_rel ha hys).mono fun _ _ _ q => q.mono hk hup)
        exact ⟨_, _, w', h, hr, hu.1, by simp, hup⟩
      · cases h
    · rename_i j v i
      replace h := sealL_sound hI hys h; obtain ⟨c, h', h, hs, hc⟩ := h
      split at h
      · rename_i e D ver hj
        replace h := cond_left h; obtain ⟨hm, h⟩ := h
        simp only [Bool.and_eq_true, Nat.beq_eq] at hm
        obtain ⟨rfl, rfl⟩ := hm
        replace h := elemOf_sound hc h; obtain ⟨el, h, hcr, hek, hone⟩ := h
        have hI' := hs.inv
        obtain ⟨val, xs, hg, hel, ⟨a, cc, hval⟩, hrow⟩ := hI'.row hj
        obtain ⟨bb, off, n, c', hv, hi, hX⟩ := op_val hx.1 hg
        replace h := ElemsR.set hel hcr h; obtain ⟨D', h, hlen, hkind, hset⟩ := h
        rw [hv] at hval
        injection hval with e1 e2 e3
        subst e1 e2 e3
        have hclen := hcr.length hek
        have hrow' := hrow
        rw [hv] at hrow'
        have hc0 : c' ≠ 0 := by
          rintro rfl
          rw [rowZ_zero] at hrow'
          have := hrow'.1; omega
        rw [rowZ_pos hc0] at hrow'
        obtain ⟨rfl, _, _⟩ := rowR_cells hrow' rfl
        simp only [rowR] at hrow'
        obtain ⟨hxl, hrow'⟩ := hrow'
        rcases hrow' with ⟨hh, _⟩ | ⟨g, cap, cur, hh, _, hgg, hnc, hcm, hcs, htake⟩
        · cases hh
        · injection hh with e1 _ e3
          injection e1 with e1
          injection e1 with e1 _
          subst e1 e3
          have hcl : cur.toList.length = c' * D.kind.size := by rw [Array.length_toList, hcs]
          have hbd : i * D.kind.size + ys.length ≤ D.len * D.kind.size := by
            rw [hclen, ← Nat.succ_mul]; exact Nat.mul_le_mul_right _ hi
          have hbd2 : D.len * D.kind.size ≤ c' * D.kind.size := Nat.mul_le_mul_right _ hnc
          obtain ⟨w', hr, hh, hext⟩ := run_store_op (P := P) (t := t) (d := d) (ty := ty) (pos := pos) (aft := aft) (gd := gd) (bb := bb) (cs := cur.toList) (off := i * D.kind.size) (by rw [hX]; simp) hcells hsz hclen.symm (by simpa using hgg) hone (by rw [hcl]; omega)
          have hup : Up G (G.set j (.arr v val D.kind.size (putL xs (i * D.kind.size) ys))) := Up.set fun g0 h0 => by rw [hg] at h0; obtain rfl := Option.some.inj h0; exact ⟨rfl, .inr ⟨rfl, rfl⟩⟩
          have hu := hI'.updObj (o' := .arr e D' v false) (g' := .arr v val D.kind.size (putL xs (i * D.kind.size) ys)) (q := rowZ e D.kind.size val D.len xs) (q' := rowZ e D.kind.size val D'.len (putL xs (i * D.kind.size) ys)) hj hg nofun rfl
            (by rw [hv, rowZ_pos hc0]; exact ext_eq (fun k => by simp only [rowR, Value.ownBlock]; exact ⟨fun h => by rw [h], fun h => (Option.some.inj h).symm⟩) hext) rfl
            (by
              rw [hv, rowZ_pos hc0, hlen]
              simp only [rowR]
              refine ⟨by rw [putL_length]; exact hxl, .inr ⟨bb, c', _, rfl, Nat.zero_le _, hh, hnc, hcm, by simp [putL_length, hcl], ?_⟩⟩
              simp only [List.toList_toArray]
              rw [← htake, putL_take])
            (by
              rw [hv, rowZ_pos hc0, rowZ_pos hc0]
              intro k hk
              refine ⟨.inl hk, ?_⟩
              simp only [rowR, Value.ownBlock] at hk
              obtain rfl := Option.some.inj hk
              exact lt_of_get hh) hup
            (fun Z' hk => ⟨rfl, hkind.symm ▸ rfl, hset.stable hk, by rw [hlen]; exact ⟨_, _, hv⟩⟩)
          exact ⟨_, _, w', h, hr, hu.1, by rw [List.length_set]; have := hs.inv.len; have := hI.len; simp at *; omega, hup⟩
      · cases h
    · cases h
  · cases h
end
end Go.Ab
end
section
/- The abstract run is sound: slices that are made or grow. No program in sight. -/
set_option linter.unusedVariables false
set_option linter.unusedSimpArgs false
namespace Go.Ab
open Go Go.Dk

section
variable {P : Program} {w0 w w' : World} {M Z0 : Zone} {b : Nat} {G : List GO} {s : AS} {tv : List Value} {r : List V1 × List AObj}
variable {ρ : Operand → Value} {x y : Operand} {d : Option Tmp} {ty t t' : TypeId} {pos : String} {aft : Array Edge} {gd : Option (Nat × Bool)} {vx vy : AV} {X : Value}
theorem newArr (hI : InvG w0 M Z0 b G s tv w) (hb : b < G.length) (hg : Grow w w') {e : TypeId} {D : SD} {xs : List Value} {val : Value} (hE : ElemsR (zn w0 Z0 s G) w D xs) (hval : ∃ a c, val = .slice a D.len c)
    (hq : (rowZ e D.kind.size val D.len xs).own w' ∧ ∀ k, (rowZ e D.kind.size val D.len xs).foot k → w.heap.size ≤ k ∧ k < w'.heap.size) :
    InvG w0 M Z0 (b + 1) (G.set b (.arr 0 val D.kind.size xs)) ⟨s.tmps, s.heap.set b (.arr e D 0 false)⟩ tv w' ∧
    OneR (G.set b (.arr 0 val D.kind.size xs)) (zn w0 Z0 ⟨s.tmps, s.heap.set b (.arr e D 0 false)⟩ (G.set b (.arr 0 val D.kind.size xs))) w' (.own b 0) val ∧ Up G (G.set b (.arr 0 val D.kind.size xs)) := by
  have hup : Up G (G.set b (.arr 0 val D.kind.size xs)) := Up.set fun g0 h0 => by rw [hI.fresh b (Nat.le_refl _) hb] at h0; obtain rfl := Option.some.inj h0; trivial
  refine ⟨(hI.newObj hb hg (o := .arr e D 0 false) (g := .arr 0 val D.kind.size xs) (fun q hq' => ?_) (fun Z' hk => ⟨rfl, rfl, hE.stable hk, hval⟩)).1, ⟨.inr ⟨0, val, D.kind.size, xs, by simp [hb], Nat.le_refl _, fun _ => rfl⟩, ?_⟩, hup⟩
  · simp only [resO, List.mem_singleton] at hq'
    subst hq'; exact hq
  · obtain ⟨a, c, rfl⟩ := hval; rfl
/-- A new block as a row. -/
theorem row_new {e sz n : Nat} {cs : List Value} (hn : cs.length = n * sz) (hm : n ≤ maxLen) :
    (rowZ e sz (.slice (some ⟨w.heap.size, 0, none⟩) n n) n cs).own (w.alloc (.cells cs.toArray e (0, 0))) ∧
    ∀ k, (rowZ e sz (.slice (some ⟨w.heap.size, 0, none⟩) n n) n cs).foot k → w.heap.size ≤ k ∧ k < (w.alloc (.cells cs.toArray e (0, 0))).heap.size := by
  cases n with
  | zero =>
    rw [rowZ_zero]
    rw [Nat.zero_mul] at hn
    exact ⟨⟨rfl, List.eq_nil_of_length_eq_zero hn, rfl⟩, fun k h => h.elim⟩
  | succ n =>
    rw [rowZ_pos (by omega)]
    refine ⟨⟨hn, .inr ⟨w.heap.size, n + 1, cs.toArray, rfl, Nat.zero_le _, alloc_get _ _, Nat.le_refl _, hm, by simp [hn], ?_⟩⟩, fun k hk => ?_⟩
    · simp only [List.toList_toArray]; rw [← hn, List.take_length]
    · simp only [rowR, Value.ownBlock] at hk
      obtain rfl := Option.some.inj hk
      rw [alloc_size]; omega
theorem run_buildSlice {n sz e : Nat} {i : TypeInfo} {z : Value} {ps : List (Nat × Operand)} {vs cs : List Value} (hu : P.underlying t = some (.slice e)) (hi : P.info? e = some i) (hz : i.zero = some z) (hsz0 : i.size = sz)
    (hix : ps.map (·.1) = List.range' 0 ps.length) (hvs : ps.map (fun p => ρ p.2) = vs) (hn : ps.length = n) (hsz : ∀ v ∈ vs, v.cells.size = sz) (hb : n * sz ≤ 16777216) (hcs : flatC vs = cs) :
    (execOp ρ ⟨d, .buildSlice t n ps.toArray, ty, pos, aft, gd⟩).run P w = .ok (.value (.slice (some ⟨w.heap.size, 0, none⟩) n n)) (w.alloc (.cells cs.toArray e (0, 0))) := by
  have hlim : ¬ (n * i.size > 2 ^ 24) := by rw [hsz0]; simpa using hb
  have hps : ps.map (fun p => (p.1, ρ p.2)) = partsFrom 0 vs := by rw [partsFrom_map ρ ps 0 hix, hvs]
  have hvl : vs.length = n := by rw [← hvs, ← hn]; simp
  have hparts : ((ps.toArray.map fun (p : Nat × Operand) => (p.1, ρ p.2)).toList) = partsFrom 0 vs := by simpa using hps
  have key : ∀ zero : Array Value, Instr.fill (fun j => some (j * i.size, i.size)) ((Array.range (n * i.size)).map (zero[· % zero.size]!)) ((ps.toArray.map fun (p : Nat × Operand) => (p.1, ρ p.2)).toList) = some cs.toArray := by
    intro zero
    obtain ⟨B, hB, hl⟩ := fill_parts i.size vs 0 ((Array.range (n * i.size)).map (zero[· % zero.size]!)) (by rw [hsz0]; exact hsz) (by simp [hvl])
    have hBcs : B = cs.toArray := by
      apply Array.toList_inj.1
      rw [hl, Nat.zero_mul, putL_all _ _ (by rw [flatC_length i.size vs (by rw [hsz0]; exact hsz)]; simp [hvl]), hcs]
    rw [hparts, hB, hBcs]
  simp only [execOp, Instr.buildSlice, Sem.run_bind, Go.Dk.run_underlying hu, Result.andThen_ok, Go.Dk.run_sizeOf hi, if_neg hlim]
  by_cases h0 : n * i.size = 0
  · rw [if_pos h0]
    simp only [Sem.run_bind, Sem.run_pure, Result.andThen_ok, key, newRow, newObj, Sem.run]
    rfl
  · rw [if_neg h0]
    have hzv : (zeroValue e).run P w = .ok z w := by
      simp only [zeroValue, Sem.run_bind, Go.Dk.run_typeInfo hi, Result.andThen_ok, hz, Sem.run_pure]
    simp only [Sem.run_bind, hzv, Sem.run_pure, Result.andThen_ok, key, newRow, newObj, Sem.run]
    rfl
theorem natIx_out : ∀ (ps : List (Nat × Operand)) (k : Nat), natIx k ps = true → ps.map (·.1) = List.range' k ps.length
  | [], _, _ => rfl
  | p :: ps, k, h => by
    simp only [natIx, Bool.and_eq_true, Nat.beq_eq] at h
    simp only [List.map_cons, List.length_cons, List.range'_succ, natIx_out ps (k + 1) h.2, h.1]
theorem sizes_le {e : TypeId} {k : SK} : k.size ≤ 3 := by cases k <;> decide
theorem evBuildSlice_sound (hI : InvG w0 M Z0 b G s tv w) (hb : b < G.length) {n : Nat} {ps : Array (Nat × Operand)} {ρa : Operand → AV} {k : AV → List AObj → OR} (hρ : ∀ x, RV G (zn w0 Z0 s G) w (ρa x) (ρ x))
    (h : (match kindS P t with
      | some e => cond (natIx 0 ps.toList && (Nat.beq ps.toList.length n && Nat.ble n 4194304))
        ((csL (ps.toList.map fun p => ρa p.2)).bind fun cs => elemsOf e.2 s.heap cs e.2.nil fun d h => k (.v (.one (.own b 0))) (h.set b (.arr e.1 d 0 false))) none
      | none => none) = some r) :
    ∃ v h' G' w' X, k v h' = some r ∧ (execOp ρ ⟨d, .buildSlice t n ps, ty, pos, aft, gd⟩).run P w = .ok (.value X) w' ∧ InvG w0 M Z0 (b + 1) G' ⟨s.tmps, h'⟩ tv w' ∧ RV G' (zn w0 Z0 ⟨s.tmps, h'⟩ G') w' v X ∧ h'.length = s.heap.length ∧ Up G G' := by
  split at h
  · rename_i e hk
    replace h := cond_left h; obtain ⟨hc, h⟩ := h
    simp only [Bool.and_eq_true, Nat.beq_eq, Nat.ble_eq] at hc
    obtain ⟨hix, hlen, hn⟩ := hc
    replace h := bind_some h; obtain ⟨cs, hcs, h⟩ := h
    obtain ⟨hu, hke⟩ := kindS_out hk
    obtain ⟨_, i, z, hi, hz, hsz, _, _⟩ := kindE_out hke
    obtain ⟨xss, hxs, hxr⟩ := csL_sound (Xs := ps.toList.map fun p => ρ p.2) hcs ⟨by simp, fun j a c ha hc => by
      rw [List.getElem?_map] at ha hc
      obtain ⟨p, hp, rfl⟩ := Option.map_eq_some_iff.1 ha
      rw [hp] at hc
      obtain rfl := Option.some.inj hc
      exact hρ p.2⟩
    replace h := elemsOf_sound hI hxr (ElemsR_nil e.2) (SK.nil_kind e.2) h
    obtain ⟨D, h', h, hs, he, hDl, hDk, hall⟩ := h
    have hcl : cs.length = n := by
      have h1 := hxr.1
      have h2 : (ps.toList.map fun p => ρ p.2).length = xss.length := by have := congrArg List.length hxs; simpa using this
      rw [h1, ← h2]; simp [← hlen]
    have hDn : D.len = n := by rw [hDl, SK.nil_len, Nat.zero_add, hcl]
    have hflat : flatC (ps.toList.map fun p => ρ p.2) = xss.flatten := by
      have : ∀ (Xs : List Value) (xss : List (List Value)), Xs.map Value.cells = xss.map List.toArray → flatC Xs = xss.flatten := by
        intro Xs
        induction Xs with
        | nil => intro xss h; cases xss with | nil => rfl | cons => simp at h
        | cons X Xs ih =>
          intro xss h
          cases xss with
          | nil => simp at h
          | cons x xss =>
            simp only [List.map_cons, List.cons.injEq] at h
            have := ih xss h.2
            simp only [flatC] at this
            simp only [flatC, List.flatMap_cons, List.flatten_cons, h.1, this]
      exact this _ _ hxs
    have hrun := run_buildSlice (P := P) (w := w) (ρ := ρ) (d := d) (ty := ty) (pos := pos) (aft := aft) (gd := gd) (n := n) (ps := ps.toList) hu hi hz hsz (natIx_out _ 0 hix) rfl hlen (fun v hv => by
      have : v.cells ∈ xss.map List.toArray := by rw [← hxs]; exact List.mem_map_of_mem hv
      obtain ⟨x, hx, hxe⟩ := List.mem_map.1 this
      rw [← hxe]; simpa using (hall x hx).1) (by have := @sizes_le e.1 e.2; have := Nat.mul_le_mul hn this; omega) hflat
    have hlen2 := he.length
    simp only [List.nil_append] at he hlen2
    rw [hDk] at hlen2
    have hnew := newArr (e := e.1) hs.inv hb (Grow.alloc w (.cells xss.flatten.toArray e.1 (0, 0))) he ⟨some ⟨w.heap.size, 0, none⟩, n, by rw [hDn]⟩ (by
      rw [hDk, hDn]
      exact row_new (by rw [← hDn]; exact hlen2) (by simp only [maxLen]; omega))
    rw [hDk] at hnew
    have hps : ps.toList.toArray = ps := by simp
    rw [hps] at hrun
    exact ⟨_, _, _, _, _, h, hrun, hnew.1, hnew.2.1.rv, by rw [List.length_set]; have := hs.inv.len; have := hI.len; simp at *; omega, hnew.2.2⟩
  · cases h
theorem elems_one {Z : Zone} {D : SD} {ys : List Value} (h : ElemsR Z w D ys) : ∀ u ∈ ys, u.oneCell' = true := by
  cases D with
  | ts l =>
    obtain ⟨hs, _, rfl, _⟩ := h
    induction hs generalizing l with
    | nil => intro u hu; simp [flatT_nil] at hu
    | cons t hs ih =>
      intro u hu
      rw [flatT_cons] at hu
      simp only [List.mem_cons] at hu
      rcases hu with rfl | rfl | rfl | hu
      · rfl
      · rfl
      · rfl
      · rename_i h1 h2; exact ih _ rfl (fun h hh => h2 h (List.mem_cons_of_mem _ hh)) u hu
  | is l => simp only [ElemsR] at h; subst h; intro u hu; obtain ⟨x, _, rfl⟩ := List.mem_map.1 hu; rfl
  | iss l =>
    intro u hu
    obtain ⟨i, hi⟩ := List.getElem?_of_mem hu
    obtain ⟨a, _, c, cap, rfl, _⟩ := All2.get' h hi
    rfl
  | ss l => simp only [ElemsR] at h; subst h; intro u hu; obtain ⟨x, _, rfl⟩ := List.mem_map.1 hu; rfl
  | bs l => simp only [ElemsR] at h; subst h; intro u hu; obtain ⟨x, _, rfl⟩ := List.mem_map.1 hu; rfl
theorem exec_append {v Y v' : Value} (hx : ρ x = v) (hy : ρ y = Y) (hr : (Builtin.append_ #[t, t] ty #[v, Y]).run P w = .ok v' w') :
    (execOp ρ ⟨d, .call ⟨.builtin .append, #[x, y], #[t, t]⟩, ty, pos, aft, gd⟩).run P w = .ok (.value v') w' := by
  unfold execOp
  simp only [resolve, invoke, builtin, Sem.run_bind, Sem.run_pure, Result.andThen_ok, List.map_toArray, List.map_cons, List.map_nil, hx, hy, hr]
theorem run_append_none {e : TypeId} {i : TypeInfo} {a : Option Addr} {n c : Nat} {Y : Value} (hu : P.underlying t = some (.slice e)) (hi : P.info? e = some i) (hY : ∃ a' c', Y = .slice a' 0 c') (hn : n ≤ c) :
    (Builtin.append_ #[t, t] ty #[.slice a n c, Y]).run P w = .ok (.slice a n c) w := by
  obtain ⟨a', c', rfl⟩ := hY
  have hf : (Builtin.firstCells i.size 0 (.slice a' 0 c')).run P w = .ok #[] w := by
    cases a' with
    | none => rfl
    | some a' => simp [Builtin.firstCells, loadCells, loadCellsFrom, Sem.run_pure]
  unfold Builtin.append_
  cases a with
  | none => simp [Sem.run_bind, Go.Dk.run_underlying hu, Go.Dk.run_sizeOf hi, Builtin.lenOf, Sem.run_pure, hn, hf]
  | some a => simp [Sem.run_bind, Go.Dk.run_underlying hu, Go.Dk.run_sizeOf hi, Builtin.lenOf, Sem.run_pure, hn, hf, storeCells]
/-- append, onto a row of the call's own. -/
theorem run_app {e : TypeId × SK} (hk : kindS P t = some e) {v Y : Value} {n : Nat} {xs : List Value} (hown : (rowZ e.1 e.2.size v n xs).own w) (hv : ∃ a c, v = .slice a n c) {Z : Zone} {D : SD} (hD : D.kind = e.2) (hY : RdS Z w D Y) (hroom : n + D.len ≤ 1099511627776) :
    ∃ v' w' ys, ElemsR Z w D ys ∧ (Builtin.append_ #[t, t] ty #[v, Y]).run P w = .ok v' w' ∧ (rowZ e.1 e.2.size v' (n + D.len) (xs ++ ys)).own w' ∧ (∃ a c, v' = .slice a (n + D.len) c) ∧ Ext (rowZ e.1 e.2.size v n xs).foot w w' ∧
      ∀ k, (rowZ e.1 e.2.size v' (n + D.len) (xs ++ ys)).foot k → ((rowZ e.1 e.2.size v n xs).foot k ∨ w.heap.size ≤ k) ∧ k < w'.heap.size := by
  obtain ⟨hu, hke⟩ := kindS_out hk
  obtain ⟨_, i, z, hi, hz, hsz, hzs, hby⟩ := kindE_out hke
  have hpos := SK.size_pos e.2
  obtain ⟨a, c, hv⟩ := hv
  have hrow : n ≤ c ∧ (c = 0 → n = 0 ∧ xs = []) ∧ (c ≠ 0 → w.ownsRow 0 e.1 e.2.size v n xs ∧ ∀ k, (rowZ e.1 e.2.size v n xs).foot k ↔ v.ownBlock = some k) := by
    subst hv
    by_cases hc : c = 0
    · subst hc
      rw [rowZ_zero] at hown
      exact ⟨by rw [hown.1]; exact Nat.zero_le _, fun _ => ⟨hown.1, hown.2.1⟩, fun h => absurd rfl h⟩
    · rw [rowZ_pos hc] at hown
      have h1 : w.ownsRow 0 e.1 e.2.size (.slice a n c) n xs := hown
      refine ⟨?_, fun h => absurd h hc, fun _ => ⟨h1, fun k => by rw [rowZ_pos hc]; rfl⟩⟩
      rcases h1.2 with ⟨h2, h3⟩ | ⟨g, cap, cur, h2, _, _, hn, _⟩
      · rw [h3]; exact Nat.zero_le _
      · injection h2 with _ _ h5; omega
  obtain ⟨hnc, hzero, hpos'⟩ := hrow
  by_cases h0 : D.len = 0
  · have hY' : ∃ a' c', Y = .slice a' 0 c' := by obtain ⟨a', c', ys, hY, _⟩ := hY; exact ⟨a', c', by rw [hY, h0]⟩
    obtain ⟨a', c', ys, hYe, _, he, _⟩ := hY
    have hys : ys = [] := List.eq_nil_of_length_eq_zero (by rw [he.length, h0, Nat.zero_mul])
    subst hys
    refine ⟨v, w, [], he, ?_, by rw [h0, Nat.add_zero, List.append_nil]; exact hown, ⟨a, c, by rw [h0, Nat.add_zero]; exact hv⟩, Ext.refl _ _, fun k hk => ?_⟩
    · rw [hv]; exact run_append_none hu hi hY' hnc
    · rw [h0, Nat.add_zero, List.append_nil] at hk
      refine ⟨.inl hk, ?_⟩
      by_cases hc : c = 0
      · subst hc; subst hv; rw [rowZ_zero] at hk; exact hk.elim
      · obtain ⟨h1, h2⟩ := hpos' hc
        exact (h1.lt k ((h2 k).1 hk)).2
  · obtain ⟨bb, off, c', ys, rfl, he, hc⟩ := hY.ne (by omega)
    have hl : ys.length = D.len * e.2.size := by rw [he.length, hD]
    have hnews : ∀ j u, ys[j]? = some u → w.cell? (Addr.add ⟨bb, off, none⟩ j) = some u := fun j u hj => by rw [addr_add]; exact hc j u hj
    have hone := elems_one he
    have hbytes : (n + D.len) * i.bytes ≤ 140737488355328 := by
      have : (n + D.len) * i.bytes ≤ 1099511627776 * 64 := Nat.mul_le_mul hroom hby
      omega
    have hap : P.underlying t = some (.slice e.1) ∧ ∃ i' z', P.info? e.1 = some i' ∧ i'.zero = some z' ∧ i'.size = e.2.size ∧ i'.bytes = i.bytes ∧ z'.cells.size = e.2.size ∧ 0 < e.2.size := ⟨hu, i, z, hi, hz, hsz, rfl, hzs, hpos⟩
    have fin : ∀ v' w', (Builtin.append_ #[t, t] ty #[v, .slice (some ⟨bb, off, none⟩) D.len c']).run P w = .ok v' w' → w'.ownsRow 0 e.1 e.2.size v' (n + D.len) (xs ++ ys) → Ext (rowZ e.1 e.2.size v n xs).foot w w' →
        (∀ b, v'.ownBlock = some b → (rowZ e.1 e.2.size v n xs).foot b ∨ w.heap.size ≤ b) → 
        ∃ v' w' ys', ElemsR Z w D ys' ∧ (Builtin.append_ #[t, t] ty #[v, .slice (some ⟨bb, off, none⟩) D.len c']).run P w = .ok v' w' ∧ (rowZ e.1 e.2.size v' (n + D.len) (xs ++ ys')).own w' ∧ (∃ a c, v' = .slice a (n + D.len) c) ∧ Ext (rowZ e.1 e.2.size v n xs).foot w w' ∧
          ∀ k, (rowZ e.1 e.2.size v' (n + D.len) (xs ++ ys')).foot k → ((rowZ e.1 e.2.size v n xs).foot k ∨ w.heap.size ≤ k) ∧ k < w'.heap.size := by
      intro v' w' hr ho hx hf
      have ho' := ho
      rcases ho.2 with ⟨_, h3⟩ | ⟨g, cap, cur, h2, _, _, hn, _⟩
      · omega
      · refine ⟨v', w', ys, he, hr, ?_, ⟨_, cap, h2⟩, hx, ?_⟩
        · rw [h2, rowZ_pos (by omega)]; rw [h2] at ho'; exact ho'
        · rw [h2, rowZ_pos (by omega)]
          intro k hk
          rw [h2] at hf ho'
          exact ⟨hf k hk, (ho'.lt k hk).2⟩
    by_cases hc0 : c = 0
    · obtain ⟨rfl, rfl⟩ := hzero hc0
      subst hc0
      have hfoot : ∀ k, ¬ (rowZ e.1 e.2.size v 0 []).foot k := by subst hv; rw [rowZ_zero]; exact fun k h => h
      cases a with
      | none =>
        obtain ⟨v', w', hr, ho, hg, hf⟩ := run_append_row (P := P) w t ty hap v 0 [] (by rw [hv]; exact World.ownsRow_nil w 0 e.1 e.2.size) ⟨bb, off, none⟩ D.len c' ys hl hnews (fun u hu => hone u hu) hbytes (by omega)
        refine fin v' w' hr ho ((grownBy_ext hg).weak fun k _ hk => ?_) fun b hb => .inr ?_
        · rw [hv] at hk; cases hk
        · rcases hf b hb with h | h
          · rw [hv] at h; cases h
          · exact h
      | some ad =>
        obtain ⟨v', w', hr, ho, hg⟩ := run_append_arg_grows (P := P) w t ty e.1 i z e.2.size i.bytes hu hi hz hsz rfl hzs hpos ad 0 0 [] (by simp) (fun j u hj => by simp at hj) ⟨bb, off, none⟩ D.len c' ys hl hnews (by omega) (by simp only [maxLen]; omega) hbytes
        rw [← hv] at hr
        refine fin v' w' hr ⟨ho.1, ho.2.imp id fun ⟨g, cap, cur, h1, h2, h3⟩ => ⟨g, cap, cur, h1, Nat.zero_le _, h3⟩⟩ ⟨hg.os, hg.tape, hg.output, hg.size, fun k hk _ => hg.block k hk nofun⟩ fun b hb => .inr (ho.lt b hb).1
    · obtain ⟨h1, h2⟩ := hpos' hc0
      obtain ⟨v', w', hr, ho, hg, hf⟩ := run_append_row (P := P) w t ty hap v n xs h1 ⟨bb, off, none⟩ D.len c' ys hl hnews (fun u hu => hone u hu) hbytes (by omega)
      exact fin v' w' hr ho ((grownBy_ext hg).weak fun k _ hk => (h2 k).2 hk) fun b hb => (hf b hb).imp (h2 b).2 id
theorem app_sound {Z : Zone} {D D' : SD} {xs ys : List Value} {k : SD → OR} (h1 : ElemsR Z w D xs) (h2 : ElemsR Z w D' ys) (h : D.app D' k = some r) : ∃ D'', k D'' = some r ∧ ElemsR Z w D'' (xs ++ ys) ∧ D''.len = D.len + D'.len ∧ D''.kind = D.kind := by
  unfold SD.app at h
  split at h
  · obtain ⟨hs, rfl, rfl, hr⟩ := h1
    obtain ⟨hs', rfl, rfl, hr'⟩ := h2
    exact ⟨_, h, ⟨hs ++ hs', by simp, by rw [flatT_append], fun u hu => (List.mem_append.1 hu).elim (hr u) (hr' u)⟩, by simp [SD.len], rfl⟩
  · simp only [ElemsR] at h1 h2; subst h1 h2; exact ⟨_, h, by simp [ElemsR], by simp [SD.len], rfl⟩
  · exact ⟨_, h, All2.append h1 h2, by simp [SD.len], rfl⟩
  · simp only [ElemsR] at h1 h2; subst h1 h2; exact ⟨_, h, by simp [ElemsR], by simp [SD.len], rfl⟩
  · simp only [ElemsR] at h1 h2; subst h1 h2; exact ⟨_, h, by simp [ElemsR], by simp [SD.len], rfl⟩
  · cases h
theorem evAppend_sound (hI : InvG w0 M Z0 b G s tv w) (hb : b < G.length) {k : SV → List AObj → OR} (hx : RV G (zn w0 Z0 s G) w vx (ρ x)) (hy : RV G (zn w0 Z0 s G) w vy (ρ y)) (h : evAppend P t vx vy s.heap b k = some r) :
    ∃ v h' G' w' X, k v h' = some r ∧ (execOp ρ ⟨d, .call ⟨.builtin .append, #[x, y], #[t, t]⟩, ty, pos, aft, gd⟩).run P w = .ok (.value X) w' ∧ InvG w0 M Z0 (b + 1) G' ⟨s.tmps, h'⟩ tv w' ∧ OneR G' (zn w0 Z0 ⟨s.tmps, h'⟩ G') w' v X ∧ h'.length = s.heap.length ∧ Up G G' := by
  unfold evAppend at h
  split at h
  · cases h
  · rename_i e hk
    split at h
    · replace h := readS_sound hI hy.1 h; obtain ⟨D, h, hrd⟩ := h
      replace h := cond_left h; obtain ⟨hek, h⟩ := h
      have hek := SK.beq_eq hek
      split at h
      · rename_i j v
        split at h
        · rename_i e' D0 ver hj
          replace h := cond_left h; obtain ⟨hc, h⟩ := h
          simp only [Bool.and_eq_true, Nat.beq_eq] at hc
          obtain ⟨hv, he'⟩ := hc
          obtain ⟨val, xs, hg, hel, hval, hown⟩ := hI.row hj
          have hX := own_val hx.1 hg hv
          have happ : ∀ ys, ElemsR (zn w0 Z0 s G) w D ys → ∃ D'', (cond (roomB D''.len) (k (.own j (ver + 1)) (s.heap.set j (.arr e' D'' (ver + 1) false))) none) = some r ∧ ElemsR (zn w0 Z0 s G) w D'' (xs ++ ys) ∧ D''.len = D0.len + D.len ∧ D''.kind = D0.kind := fun ys hys => app_sound hel hys h
          have hrd' := hrd
          obtain ⟨a', c', ys0, _, _, hel0, _⟩ := hrd
          obtain ⟨D1, h1, _, hl1, hk1⟩ := happ ys0 hel0
          have hkk : D0.kind = e.2 := by
            cases D0 <;> cases D <;> first | exact hek.symm | (simp [SD.app] at h)
          have hroom : D0.len + D.len ≤ 1099511627776 := by
            have := (cond_left h1).1
            simp only [roomB, decide_eq_true_eq] at this
            omega
          obtain ⟨v', w', ys, hys, hr, hown', hval', hext, hfoot⟩ := run_app (P := P) (t := t) (ty := ty) (w := w) (v := val) (n := D0.len) (xs := xs) hk (by rw [he', ← hkk]; exact hown) hval hek.symm hrd' hroom
          obtain ⟨D'', h2, hel'', hl'', hk''⟩ := happ ys hys
          have h2' := (cond_left h2).2
          have hup : Up G (G.set j (.arr (ver + 1) v' D0.kind.size (xs ++ ys))) := Up.set fun g0 h0 => by rw [hg] at h0; obtain rfl := Option.some.inj h0; exact ⟨rfl, .inl (Nat.lt_succ_self _)⟩
          have hu := hI.updObj (o' := .arr e' D'' (ver + 1) false) (g' := .arr (ver + 1) v' D0.kind.size (xs ++ ys)) (q := rowZ e' D0.kind.size val D0.len xs) (q' := rowZ e' D0.kind.size v' D''.len (xs ++ ys)) hj hg nofun rfl
            (by rw [← he', hkk]; exact hext) rfl (by rw [← he', hkk, hl'']; exact hown') (by rw [← he', hkk, hl'']; exact hfoot) hup
            (fun Z' hk => ⟨rfl, hk''.symm ▸ rfl, hel''.stable hk, by rw [hl'']; exact hval'⟩)
          refine ⟨_, _, _, w', v', h2', exec_append hX rfl hr, hu.1.raise (Nat.le_succ _), ⟨.inr ⟨ver + 1, v', D0.kind.size, xs ++ ys, by simp [lt_of_some hg], Nat.le_refl _, fun _ => rfl⟩, ?_⟩, by simp, hup⟩
          obtain ⟨a, c, rfl⟩ := hval'; rfl
        · cases h
      · replace h := cond_left h; obtain ⟨hroom, h⟩ := h
        simp only [roomB, decide_eq_true_eq] at hroom
        obtain ⟨a, hX⟩ := hx.1
        obtain ⟨v', w', ys, hys, hr, hown', hval', hext, hfoot⟩ := run_app (P := P) (t := t) (ty := ty) (w := w) (v := .slice a 0 0) (n := 0) (xs := []) hk (by rw [rowZ_zero]; exact ⟨rfl, rfl, rfl⟩) ⟨a, 0, rfl⟩ hek.symm hrd (by omega)
        rw [rowZ_zero] at hext hfoot
        simp only [Nat.zero_add, List.nil_append] at hown' hval' hfoot
        have hnew := newArr (e := e.1) (b := b) hI hb (hext.weak fun _ _ h => h) hys hval' ⟨by rw [← hek]; exact hown', fun k hk => by rw [← hek] at hk; exact ⟨(hfoot k hk).1.resolve_left id, (hfoot k hk).2⟩⟩
        exact ⟨_, _, _, w', v', h, exec_append hX rfl hr, hnew.1, hnew.2.1, by simp, hnew.2.2⟩
      · cases h
    · cases h
theorem flatT_replicate (n : Nat) (t : HT) : flatT (List.replicate n t) = (List.replicate n [.int .i64 t.k, .int .i64 t.n, t.sl]).flatten := by
  induction n with
  | zero => rfl
  | succ n ih => rw [List.replicate_succ, flatT_cons, ih, List.replicate_succ, List.flatten_cons]; rfl
theorem flatten_one {α : Type} (n : Nat) (a : α) : (List.replicate n [a]).flatten = List.replicate n a := by
  induction n with
  | zero => rfl
  | succ n ih => rw [List.replicate_succ, List.flatten_cons, ih, List.replicate_succ]; rfl
theorem zeros_sound {Z : Zone} {e : TypeId} {k : SK} {n : Nat} {D : SD} (hz : zeroIs P e k = true) (h : zeros n k = some D) : ∃ zs, zeroB P e = some zs ∧ zs.length = k.size ∧ ElemsR Z w D (List.replicate n zs).flatten ∧ D.len = n ∧ D.kind = k := by
  unfold zeroIs at hz
  split at hz
  · rename_i h1
    simp only [Bool.and_eq_true, decide_eq_true_eq] at hz
    obtain ⟨rfl, rfl⟩ := hz
    simp only [zeros, Option.some.injEq] at h; subst h
    refine ⟨_, h1, rfl, ⟨List.replicate n (.mk 0 0 none 0 []), by simp [HT.er, HT.erL], ?_, fun u hu => ?_⟩, by simp [SD.len], rfl⟩
    · rw [flatT_replicate]; rfl
    · rw [(List.mem_replicate.1 hu).2]; exact Rd_none
  · rename_i h1
    simp only [decide_eq_true_eq] at hz; subst hz
    simp only [zeros, Option.some.injEq] at h; subst h
    exact ⟨_, h1, rfl, by simp [ElemsR, flatten_one], by simp [SD.len], rfl⟩
  · rename_i h1
    simp only [decide_eq_true_eq] at hz; subst hz
    simp only [zeros, Option.some.injEq] at h; subst h
    exact ⟨_, h1, rfl, by simp [ElemsR, flatten_one], by simp [SD.len], rfl⟩
  · rename_i h1
    simp only [decide_eq_true_eq] at hz; subst hz
    simp only [zeros, Option.some.injEq] at h; subst h
    exact ⟨_, h1, rfl, by simp [ElemsR, flatten_one], by simp [SD.len], rfl⟩
  · cases hz
theorem evMake_sound (hI : InvG w0 M Z0 b G s tv w) (hb : b < G.length) {k : SV → List AObj → OR} (hx : RV G (zn w0 Z0 s G) w vx (ρ x)) (hy : RV G (zn w0 Z0 s G) w vy (ρ y)) (h : evMake P t vx vy s.heap b k = some r) :
    ∃ v h' G' w' X, k v h' = some r ∧ (execOp ρ ⟨d, .makeSlice t x y, ty, pos, aft, gd⟩).run P w = .ok (.value X) w' ∧ InvG w0 M Z0 (b + 1) G' ⟨s.tmps, h'⟩ tv w' ∧ OneR G' (zn w0 Z0 ⟨s.tmps, h'⟩ G') w' v X ∧ h'.length = s.heap.length ∧ Up G G' := by
  unfold evMake at h
  replace h := optInt_some h hx; obtain ⟨n, hX, h⟩ := h
  replace h := optInt_some h hy; obtain ⟨m, hY, h⟩ := h
  replace h := cond_left h; obtain ⟨hc, h⟩ := h
  simp only [Bool.and_eq_true, decide_eq_true_eq] at hc
  obtain ⟨rfl, hn0, hn⟩ := hc
  split at h
  · rename_i e hk
    replace h := cond_left h; obtain ⟨hz, h⟩ := h
    replace h := bind_some h; obtain ⟨D, hD, h⟩ := h
    obtain ⟨zs, hzb, hzl, hel, hDl, hDk⟩ := zeros_sound (Z := zn w0 Z0 s G) (w := w) hz hD
    obtain ⟨hu, hke⟩ := kindS_out hk
    obtain ⟨_, i, z, hi, hiz, hsz, hzs, hby⟩ := kindE_out hke
    have hzz := hzb
    unfold zeroB at hzz
    simp only [hi, hiz, Option.some.injEq] at hzz
    have hs3 := @sizes_le e.1 e.2
    have hpos := SK.size_pos e.2
    have hr := run_makeSlice (P := P) w t e.1 i z hu hi hiz .i64 .i64 n n (by omega) (by omega) (by
        rw [hsz]
        have := Nat.mul_le_mul (show n.toNat ≤ 4194304 by omega) hs3
        omega) (by
        have : (i.bytes : Int) * n ≤ 64 * 4194304 := Int.mul_le_mul (by omega) (by omega) (by omega) (by omega)
        omega) (by omega)
    have hcs : madeCells z.cells (n.toNat * i.size) = ((List.replicate n.toNat zs).flatten).toArray := by
      apply Array.toList_inj.1
      rw [← made_eq, hzl, hsz, ← hzz]
    have hlen := hel.length
    rw [hDk] at hlen
    have hnew := newArr (e := e.1) (b := b) hI hb (Grow.alloc w (.cells ((List.replicate n.toNat zs).flatten).toArray e.1 (0, 0))) hel ⟨some ⟨w.heap.size, 0, none⟩, n.toNat, by rw [hDl]⟩ (by
      rw [hDk, hDl]
      exact row_new (by rw [hDl] at hlen; exact hlen) (by simp only [maxLen]; omega))
    refine ⟨_, _, _, _, _, h, ?_, hnew.1, hnew.2.1, by simp, hnew.2.2⟩
    rw [hcs] at hr
    simp only [execOp, hX, hY, Sem.run_bind, hr, Result.andThen_ok, Sem.run_pure]
  · cases h

/-! Structs out of parts. -/
theorem build_fill {Z : Zone} {pl : List (Nat × Nat)} : ∀ {ps : List (Nat × AV)} {Xs : List Value} {z : List SV} {zs : List Value} {c : List SV}, All2 (OneR G Z w) z zs → All2 (fun (p : Nat × AV) X => RV G Z w p.2 X) ps Xs → buildS pl z ps = some c →
    ∃ cs : List Value, Instr.fill (pl.toArray[·]?) zs.toArray ((ps.map (·.1)).zip Xs) = some cs.toArray ∧ All2 (OneR G Z w) c cs
  | [], Xs, z, zs, c, hz, ha, h => by
    obtain rfl := ha.nil_inv
    simp only [buildS, Option.some.injEq] at h; subst h
    exact ⟨zs, rfl, hz⟩
  | p :: ps, Xs, z, zs, c, hz, ha, h => by
    obtain ⟨X, Xs', rfl, h1, h2⟩ := ha.cons_inv
    simp only [buildS] at h
    cases hpl : pl[p.1]? with
    | none => simp [hpl] at h
    | some o =>
      cases hcs : p.2.cs with
      | none => simp [hpl, hcs] at h
      | some cc =>
        simp only [hpl, hcs, Option.bind_some] at h
        cases hb : (Nat.beq cc.length o.2 && Nat.ble (o.1 + o.2) z.length) with
        | false => simp [hb] at h
        | true =>
          simp only [hb, cond_true] at h
          simp only [Bool.and_eq_true, Nat.beq_eq, Nat.ble_eq] at hb
          obtain ⟨xs, hx, hr⟩ := cs_sound hcs h1
          obtain ⟨cs, hf, hc⟩ := build_fill (put_rel (off := o.1) hz hr) h2 h
          refine ⟨cs, ?_, hc⟩
          have hsz : X.cells.size = o.2 := by rw [hx, List.size_toArray, ← hr.1, hb.1]
          have hpl' : pl.toArray[p.1]? = some (o.1, o.2) := by simpa using hpl
          simp only [List.map_cons, List.zip_cons_cons, Instr.fill, hpl']
          rw [if_neg (by rw [hsz]; simp [← hz.1]; omega)]
          have hfold : (X.cells.zipIdx.foldl (fun cs (p : Value × Nat) => cs.setIfInBounds (o.1 + p.2) p.1) zs.toArray) = (putL zs o.1 xs).toArray := by
            apply Array.toList_inj.1
            have := foldl_put xs 0 o.1 zs.toArray
            simp only [Nat.add_zero] at this
            rw [← this, hx, ← Array.foldl_toList]
            simp
          rw [hfold]; exact hf
theorem evBuild_sound {Z : Zone} {ps : Array (Nat × Operand)} {ρa : Operand → AV} {k : AV → OR} (hρ : ∀ x, RV G Z w (ρa x) (ρ x)) (h : evBuild P t (ps.toList.map fun p => (p.1, ρa p.2)) k = some r) :
    ∃ v X, k v = some r ∧ (execOp ρ ⟨d, .build t ps, ty, pos, aft, gd⟩).run P w = .ok (.value X) w ∧ RV G Z w v X := by
  unfold evBuild at h
  replace h := bind_some h; obtain ⟨pl, hpl, h⟩ := h
  replace h := bind_some h; obtain ⟨z, hz, h⟩ := h
  replace h := bind_some h; obtain ⟨c, hc, h⟩ := h
  obtain ⟨zs, hzb, hzr⟩ := zeroS_out hz
  obtain ⟨cs, hf, hcr⟩ := build_fill (G := G) (Z := Z) (w := w) (Xs := ps.toList.map fun p => ρ p.2) (hzr G Z w) ⟨by simp, fun i a c ha hc => by
    rw [List.getElem?_map] at ha hc
    obtain ⟨p, hp, rfl⟩ := Option.map_eq_some_iff.1 ha
    rw [hp] at hc
    obtain rfl := Option.some.inj hc
    exact hρ p.2⟩ hc
  refine ⟨_, .agg cs.toArray, h, ?_, cs, rfl, hcr⟩
  have hb : P.built t ((ps.map fun p => (p.1, ρ p.2)).toList) = some cs.toArray := by
    unfold zeroB at hzb
    split at hzb
    · rename_i i hi
      split at hzb
      · rename_i zz hzz
        obtain rfl := Option.some.inj hzb
        unfold placesT at hpl
        split at hpl
        · rename_i fs hu
          unfold Program.built
          simp only [hi, hu, hzz, hpl]
          rw [← hf]
          congr 1
          · have : ∀ l : List (Nat × Operand), (l.map fun p => (p.1, ρ p.2)) = ((l.map fun p => (p.1, ρa p.2)).map (·.1)).zip (l.map fun p => ρ p.2) := by
              intro l
              induction l with
              | nil => rfl
              | cons p l ih => simp only [List.map_cons, List.zip_cons_cons, ih]
            rw [← this]; simp
        · cases hpl
      · cases hzb
    · cases hzb
  simp only [execOp, Sem.run_bind, Go.run_build w t _ _ hb, Result.andThen_ok, Sem.run_pure]

/-! Parts of slices and of strings. -/
theorem sub_len {D : SD} {lo hi : Nat} (h : lo ≤ hi) (h2 : hi ≤ D.len) : (D.sub lo hi).len = hi - lo := by
  cases D <;> simp [SD.sub, SD.len] at * <;> omega
theorem flatT_take (n : Nat) : ∀ hs : List HT, (flatT hs).take (n * 3) = flatT (hs.take n) := by
  induction n with
  | zero => intro hs; simp [flatT_nil]
  | succ n ih =>
    intro hs
    cases hs with
    | nil => simp [flatT_nil]
    | cons t hs => rw [flatT_cons, List.take_succ_cons, flatT_cons, ← ih]; rw [show (n + 1) * 3 = n * 3 + 1 + 1 + 1 by omega]; rfl
theorem flatT_drop (n : Nat) : ∀ hs : List HT, (flatT hs).drop (n * 3) = flatT (hs.drop n) := by
  induction n with
  | zero => intro hs; simp
  | succ n ih =>
    intro hs
    cases hs with
    | nil => simp [flatT_nil]
    | cons t hs => rw [flatT_cons, List.drop_succ_cons, ← ih]; rw [show (n + 1) * 3 = n * 3 + 1 + 1 + 1 by omega]; rfl
theorem sub_sound {Z : Zone} {D : SD} {xs : List Value} (h : ElemsR Z w D xs) (lo hi : Nat) : ElemsR Z w (D.sub lo hi) ((xs.take (hi * D.kind.size)).drop (lo * D.kind.size)) := by
  cases D with
  | ts l =>
    obtain ⟨hs, rfl, rfl, hr⟩ := h
    refine ⟨(hs.take hi).drop lo, by rw [List.map_drop, List.map_take], ?_, fun t ht => hr t (List.mem_of_mem_take (List.mem_of_mem_drop ht))⟩
    simp only [SD.kind, SK.size]
    rw [flatT_take, flatT_drop]
  | is l => simp only [ElemsR] at h; subst h; simp [ElemsR, SD.sub, SD.kind, SK.size, List.map_take, List.map_drop]
  | iss l => simp only [SD.kind, SK.size, Nat.mul_one]; exact (All2.take h hi).drop lo
  | ss l => simp only [ElemsR] at h; subst h; simp [ElemsR, SD.sub, SD.kind, SK.size, List.map_take, List.map_drop]
  | bs l => simp only [ElemsR] at h; subst h; simp [ElemsR, SD.sub, SD.kind, SK.size, List.map_take, List.map_drop]
theorem kindEq_out {o : Option (TypeId × SK)} {k : SK} (h : evSlice.kindEq o k = true) : ∃ e, o = some (e, k) := by
  cases o with
  | none => cases h
  | some a => have := SK.beq_eq h; exact ⟨a.1, by rw [← this]⟩
theorem optRV {Z : Zone} {lo : Option Operand} {ρa : Operand → AV} {v : AV} (hρ : ∀ x, RV G Z w (ρa x) (ρ x)) (h : lo.map ρa = some v) : ∃ X, lo.map ρ = some X ∧ RV G Z w v X := by
  cases lo with
  | none => cases h
  | some x => obtain rfl := Option.some.inj h; exact ⟨_, rfl, hρ x⟩
theorem bounds_sound {Z : Zone} {lo hi : Option Operand} {ρa : Operand → AV} {n : Nat} {k : Int → Int → OR} (hρ : ∀ x, RV G Z w (ρa x) (ρ x)) (h : evSlice.bounds (lo.map ρa) (hi.map ρa) n k = some r) :
    ∃ l m : Int, k l m = some r ∧ 0 ≤ l ∧ l ≤ m ∧ m ≤ n ∧ (∀ sl cap : Nat, n ≤ cap → ∀ b, (Instr.sliceBounds b n cap (lo.map ρ) (hi.map ρ) none).run P w = .ok (l.toNat, m.toNat, cap) w) := by
  unfold evSlice.bounds at h
  split at h
  · rename_i h1 h2
    have h1 : lo = none := by cases lo <;> simp_all
    have h2 : hi = none := by cases hi <;> simp_all
    subst h1 h2
    refine ⟨0, n, h, Int.le_refl _, by omega, Int.le_refl _, fun _ cap hc b => ?_⟩
    simp [Instr.sliceBounds, Sem.run_bind, Sem.run_pure]
  · rename_i h1 h2
    have h2 : hi = none := by cases hi <;> simp_all
    subst h2
    obtain ⟨X, hX, hr⟩ := optRV hρ h1
    replace h := optInt_some h hr; obtain ⟨l, rfl, h⟩ := h
    replace h := cond_left h; obtain ⟨hc, h⟩ := h
    simp only [inB, Bool.and_eq_true, decide_eq_true_eq] at hc
    refine ⟨l, n, h, hc.1, hc.2.1, hc.2.2, fun _ cap hcap b => ?_⟩
    have hb : 0 ≤ l ∧ l ≤ (n : Int) := ⟨hc.1, hc.2.1⟩
    simp [Instr.sliceBounds, hX, Instr.sliceBound, asIntOf, Sem.run_bind, Sem.run_pure, hb]
  · rename_i h1 h2
    have h1 : lo = none := by cases lo <;> simp_all
    subst h1
    obtain ⟨X, hX, hr⟩ := optRV hρ h2
    replace h := optInt_some h hr; obtain ⟨m, rfl, h⟩ := h
    replace h := cond_left h; obtain ⟨hc, h⟩ := h
    simp only [inB, Bool.and_eq_true, decide_eq_true_eq] at hc
    refine ⟨0, m, h, Int.le_refl _, hc.2.1, hc.2.2, fun _ cap hcap b => ?_⟩
    have hb : 0 ≤ m ∧ m ≤ (cap : Int) := ⟨hc.2.1, by omega⟩
    simp [Instr.sliceBounds, hX, Instr.sliceBound, asIntOf, Sem.run_bind, Sem.run_pure, hb]
  · rename_i h1 h2
    obtain ⟨X, hX, hr⟩ := optRV hρ h1
    obtain ⟨Y, hY, hr2⟩ := optRV hρ h2
    replace h := optInt_some h hr; obtain ⟨l, rfl, h⟩ := h
    replace h := optInt_some h hr2; obtain ⟨m, rfl, h⟩ := h
    replace h := cond_left h; obtain ⟨hc, h⟩ := h
    simp only [inB, Bool.and_eq_true, decide_eq_true_eq] at hc
    refine ⟨l, m, h, hc.1, hc.2.1, hc.2.2, fun _ cap hcap b => ?_⟩
    have hb : 0 ≤ m ∧ m ≤ (cap : Int) := ⟨by omega, by omega⟩
    have hb2 : 0 ≤ l ∧ l ≤ ((m.toNat : Nat) : Int) := ⟨hc.1, by omega⟩
    simp [Instr.sliceBounds, hX, hY, Instr.sliceBound, asIntOf, Sem.run_bind, Sem.run_pure, hb]
    intro hq; omega
theorem SlR.sub {Z : Zone} {D : SD} {a : Option Addr} {n c : Nat} (h : SlR Z w D (.slice a n c)) {l m : Nat} (h1 : l ≤ m) (h2 : m ≤ n) : SlR Z w (D.sub l m) (.slice (if c = l then a else a.map (·.add (l * D.kind.size))) (m - l) (c - l)) := by
  obtain ⟨a', c', xs, hX, hc, hm, he, hb⟩ := h
  injection hX with e1 e2 e3
  subst e1 e2 e3
  refine ⟨_, _, _, by rw [sub_len h1 h2], by rw [sub_len h1 h2]; omega, by rw [sub_len h1 h2]; omega, sub_sound he l m, ?_⟩
  rcases hb with rfl | ⟨bb, off, rfl, hz, hc'⟩
  · left; simp
  · by_cases hcl : c = l
    · left
      have : m = l := by omega
      subst this
      apply List.drop_eq_nil_of_le
      rw [List.length_take]; exact Nat.min_le_left _ _
    · right
      refine ⟨bb, off + l * D.kind.size, by rw [if_neg hcl]; simp [addr_add], hz, fun i x hx => ?_⟩
      rw [List.getElem?_drop, List.getElem?_take] at hx
      split at hx
      · rw [Nat.add_assoc]; exact hc' _ x hx
      · cases hx
theorem evSlice_sound (hI : InvG w0 M Z0 b G s tv w) {lo hi mx : Option Operand} {ρa : Operand → AV} {k : SV → List AObj → OR} (hρ : ∀ x, RV G (zn w0 Z0 s G) w (ρa x) (ρ x)) (h : evSlice P t (ρa x) (lo.map ρa) (hi.map ρa) (mx.map ρa) s.heap k = some r) :
    ∃ v h' X, k v h' = some r ∧ (execOp ρ ⟨d, .slice t x lo hi mx, ty, pos, aft, gd⟩).run P w = .ok (.value X) w ∧ Sealed w0 M Z0 b G s tv w h' ∧ OneR G (zn w0 Z0 ⟨s.tmps, h'⟩ G) w v X := by
  have hx := hρ x
  unfold evSlice at h
  split at h
  · rename_i m0 hmx
    obtain ⟨MX, hMX, hrm⟩ := optRV hρ hmx
    replace h := cond_left h; obtain ⟨hks, h⟩ := h
    have hne : kindS P t ≠ none := by intro e; rw [e] at hks; cases hks
    replace h := optInt_some h hrm; obtain ⟨m, rfl, h⟩ := h
    have fin : ∀ {kk : TypeId × SK} {n cap : Nat} {a : Option Addr}, kindS P t = some kk → ρ x = .slice a n cap → ∀ n' : Int, hi.map ρ = some (.int .i64 n') → m = 0 → n' = 0 → (lo = none ∨ lo.map ρ = some (.int .i64 0)) →
        ∃ a', (execOp ρ ⟨d, .slice t x lo hi mx, ty, pos, aft, gd⟩).run P w = .ok (.value (.slice a' 0 0)) w := by
      intro kk n cap a hk hX n' hH hm hn hlo
      subst hm hn
      obtain ⟨hu, hke⟩ := kindS_out hk
      obtain ⟨_, i, z, hi', hz, hsz, _, _⟩ := kindE_out hke
      refine ⟨a, ?_⟩
      rcases hlo with rfl | hlo
      · simp [execOp, Instr.sliceAt, Instr.slice, Sem.run_bind, Go.Dk.run_underlying hu, hX, hMX, hH, Instr.sliceBounds, Instr.sliceBound, asIntOf, Go.Dk.run_sizeOf hi', Sem.run_pure]
      · simp [execOp, Instr.sliceAt, Instr.slice, Sem.run_bind, Go.Dk.run_underlying hu, hX, hMX, hH, hlo, Instr.sliceBounds, Instr.sliceBound, asIntOf, Go.Dk.run_sizeOf hi', Sem.run_pure]
    have body : ∀ n' : Int, hi.map ρ = some (.int .i64 n') → m = 0 → n' = 0 → (lo = none ∨ lo.map ρ = some (.int .i64 0)) → (match ρa x with
      | .v (.one (.fr d)) => cond (evSlice.kindEq (kindS P t) d.kind) (k (.emp (kindS P t)) s.heap) none
      | .v (.one (.own j v)) => (match s.heap[j]? with
        | some (.arr _ d ver _) => cond (Nat.beq v ver && evSlice.kindEq (kindS P t) d.kind) (k (.emp (kindS P t)) s.heap) none
        | _ => none)
      | .v (.one (.emp e)) => (k (.emp (kindS P t)) s.heap)
      | _ => none) = some r → kindS P t ≠ none → 
        ∃ v h' X, k v h' = some r ∧ (execOp ρ ⟨d, .slice t x lo hi mx, ty, pos, aft, gd⟩).run P w = .ok (.value X) w ∧ Sealed w0 M Z0 b G s tv w h' ∧ OneR G (zn w0 Z0 ⟨s.tmps, h'⟩ G) w v X := by
      intro n' hH hm hn hlo h hne
      split at h
      · rename_i D hax
        rw [hax] at hx
        replace h := cond_left h; obtain ⟨hk, h⟩ := h
        obtain ⟨e, hk⟩ := kindEq_out hk
        obtain ⟨a, c, hX⟩ := SlR.val hx.1
        obtain ⟨a', hr⟩ := fin hk hX n' hH hm hn hlo
        exact ⟨_, _, _, h, hr, Sealed.refl hI, ⟨a', rfl⟩, rfl⟩
      · rename_i j v hax
        rw [hax] at hx
        split at h
        · rename_i D ver fz hj
          replace h := cond_left h; obtain ⟨hk, h⟩ := h
          simp only [Bool.and_eq_true, Nat.beq_eq] at hk
          obtain ⟨e, hk2⟩ := kindEq_out hk.2
          obtain ⟨val, xs, hg, a, c, ys, hval, _⟩ := hI.arr_rd hj
          obtain ⟨a', hr⟩ := fin hk2 ((own_val hx.1 hg hk.1).trans hval) n' hH hm hn hlo
          exact ⟨_, _, _, h, hr, Sealed.refl hI, ⟨a', rfl⟩, rfl⟩
        · cases h
      · rename_i e hax
        rw [hax] at hx
        obtain ⟨a, hX⟩ := hx.1
        cases hk : kindS P t with
        | none => exact absurd hk hne
        | some kk =>
          obtain ⟨a', hr⟩ := fin hk hX n' hH hm hn hlo
          exact ⟨_, _, _, h, hr, Sealed.refl hI, ⟨a', rfl⟩, rfl⟩
      · cases h
    split at h
    · rename_i H hhi hlo
      have hlo : lo = none := by cases lo <;> simp_all
      obtain ⟨HX, hHX, hrh⟩ := optRV hρ hhi
      replace h := optInt_some h hrh; obtain ⟨n', rfl, h⟩ := h
      replace h := cond_left h; obtain ⟨hc, h⟩ := h
      simp only [Bool.and_eq_true, decide_eq_true_eq] at hc
      exact body n' hHX hc.1 hc.2 (.inl hlo) h hne
    · rename_i H L hhi hlo
      obtain ⟨HX, hHX, hrh⟩ := optRV hρ hhi
      obtain ⟨LX, hLX, hrl⟩ := optRV hρ hlo
      replace h := optInt_some h hrh; obtain ⟨n', rfl, h⟩ := h
      replace h := optInt_some h hrl; obtain ⟨l', rfl, h⟩ := h
      replace h := cond_left h; obtain ⟨hc, h⟩ := h
      simp only [Bool.and_eq_true, decide_eq_true_eq] at hc
      exact body n' hHX hc.1 hc.2.1 (.inr (by rw [hLX, hc.2.2])) h hne
    · cases h
  · rename_i hmx
    have hmx : mx = none := by cases mx <;> simp_all
    subst hmx
    split at h
    · rename_i a hax
      rw [hax] at hx
      split at h
      · rename_i hu
        obtain ⟨l, m, h', hl, hlm, hm, hb⟩ := bounds_sound (P := P) hρ h
        refine ⟨_, _, _, h', ?_, Sealed.refl hI, str_one _⟩
        simp only [execOp, Instr.sliceAt, Instr.slice, Sem.run_bind, Go.Dk.run_underlying hu, Result.andThen_ok, str_inv hx, Option.map_none]
        simp [Sem.run_bind, hb 0 a.size (Nat.le_refl _) false, Sem.run_pure]
      · cases h
    · rename_i v hv hax
      rw [hax] at hx
      split at h
      · rename_i e hk
        obtain ⟨hu, hke⟩ := kindS_out hk
        obtain ⟨_, i, z, hi', hz, hsz, _, _⟩ := kindE_out hke
        have hone : OneR G (zn w0 Z0 s G) w v (ρ x) := by
          refine ⟨hx.1, hx.2 ?_⟩
          rintro rfl
          simp [sealS] at h
        replace h := sealS_sound hI hone h; obtain ⟨v', h', h, hs, hv'⟩ := h
        split at h
        · rename_i D
          replace h := cond_left h; obtain ⟨hek, h⟩ := h
          have hek := SK.beq_eq hek
          obtain ⟨l, m, h2, hl, hlm, hm, hb⟩ := bounds_sound (P := P) hρ h
          have hsl := hv'.1
          obtain ⟨a, c, xs, hX, hc, _⟩ := id hsl
          rw [hX] at hsl
          have hsub := SlR.sub hsl (l := l.toNat) (m := m.toNat) (by omega) (by omega)
          refine ⟨_, _, _, h2, ?_, hs, hsub, rfl⟩
          simp only [execOp, Instr.sliceAt, Instr.slice, Sem.run_bind, Go.Dk.run_underlying hu, Result.andThen_ok, hX, Option.map_none]
          simp [Sem.run_bind, hb 0 c hc true, Sem.run_pure, Go.Dk.run_sizeOf hi', hsz, hek]
        · cases h
      · cases h
    · cases h
end
end Go.Ab
namespace Go.Ab
open Go Go.Dk

/-! Numbers of objects. -/
theorem hasN_iff {j : Nat} : ∀ {l : List Nat}, hasN j l = true ↔ j ∈ l
  | [] => by simp [hasN]
  | i :: l => by simp [hasN, hasN_iff (l := l)]
theorem nodupB_iff : ∀ {l : List Nat}, nodupB l = true → l.Nodup
  | [], _ => List.nodup_nil
  | i :: l, h => by
    simp only [nodupB, Bool.and_eq_true, Bool.not_eq_true'] at h
    refine List.nodup_cons.2 ⟨fun hm => ?_, nodupB_iff h.2⟩
    rw [hasN_iff.2 hm] at h; exact absurd h.1 (by simp)
theorem okJs_out {js : List Nat} {n : Nat} (h : okJs js n = true) : js.Nodup ∧ ∀ j ∈ js, j < n := by
  simp only [okJs, Bool.and_eq_true, List.all_eq_true, Nat.blt_eq] at h
  exact ⟨nodupB_iff h.1, h.2⟩
theorem idx_some : ∀ {js : List Nat} {j i : Nat}, idx j js = some i → js[i]? = some j
  | [], j, i, h => by simp [idx] at h
  | a :: js, j, i, h => by
    simp only [idx] at h
    cases hb : Nat.beq j a with
    | true => simp only [hb, cond_true, Option.some.injEq] at h; subst h; simp only [Nat.beq_eq] at hb; subst hb; rfl
    | false =>
      simp only [hb, cond_false, Option.map_eq_some_iff] at h
      obtain ⟨i', hi, rfl⟩ := h
      simpa using idx_some hi
theorem idxs_some : ∀ {js l l' : List Nat}, idxs js l = some l' → All2 (fun j i => js[i]? = some j) l l'
  | js, [], l', h => by simp only [idxs, Option.some.injEq] at h; subst h; exact All2.nil
  | js, j :: l, l', h => by
    simp only [idxs] at h
    cases hi : idx j js with
    | none => simp [hi] at h
    | some i =>
      simp only [hi, Option.bind_some, Option.map_eq_some_iff] at h
      obtain ⟨l'', hl, rfl⟩ := h
      exact All2.cons (idx_some hi) (idxs_some hl)
def sel0 (js : List Nat) (h : List AObj) : List AObj := js.map fun j => h.getD j .dead
def selG (js : List Nat) (G : List GO) : List GO := js.map fun j => G.getD j .gone
def kill : List Nat → List AObj → List AObj
  | [], h => h
  | j :: js, h => kill js (h.set j .dead)
def killG : List Nat → List GO → List GO
  | [], G => G
  | j :: js, G => killG js (G.set j .gone)
theorem resO_ren (js : List Nat) (o : AObj) (g : GO) : resO (renO js o) g = resO o g := by cases o <;> cases g <;> rfl
theorem resL_ren (js : List Nat) : ∀ (h : List AObj) (G : List GO), resL (h.map (renO js)) G = resL h G
  | [], _ => rfl
  | o :: h, [] => rfl
  | o :: h, g :: G => by simp only [List.map_cons, resL, resO_ren, resL_ren js h G]
theorem selH_eq (js : List Nat) (h : List AObj) : selH js h = (sel0 js h).map (renO js) := by simp [selH, sel0]
theorem getD_set_ne {α : Type} {l : List α} {i j : Nat} {a d : α} (h : i ≠ j) : (l.set i a).getD j d = l.getD j d := by simp [List.getD, List.getElem?_set_ne h]
theorem sel0_set {js : List Nat} {h : List AObj} {j : Nat} {o : AObj} (hj : j ∉ js) : sel0 js (h.set j o) = sel0 js h := by
  refine List.map_congr_left fun i hi => getD_set_ne fun e => hj (e ▸ hi)
theorem selG_set {js : List Nat} {G : List GO} {j : Nat} {g : GO} (hj : j ∉ js) : selG js (G.set j g) = selG js G := by
  refine List.map_congr_left fun i hi => getD_set_ne fun e => hj (e ▸ hi)
theorem resL_sel : ∀ (js : List Nat) (h : List AObj) (G : List GO), js.Nodup → (∀ j ∈ js, j < h.length ∧ j < G.length) → (resL h G).Perm (resL (sel0 js h) (selG js G) ++ resL (kill js h) (killG js G))
  | [], h, G, _, _ => List.Perm.refl _
  | j :: js, h, G, hn, hl => by
    rw [List.nodup_cons] at hn
    obtain ⟨h1, h2⟩ := hl j (List.mem_cons_self ..)
    have ho : h[j]? = some (h.getD j .dead) := by simp [List.getD, List.getElem?_eq_getElem h1]
    have hg : G[j]? = some (G.getD j .gone) := by simp [List.getD, List.getElem?_eq_getElem h2]
    refine (resL_out h G j ho hg).trans ?_
    have ih := resL_sel js (h.set j .dead) (G.set j .gone) hn.2 (fun i hi => by simpa using hl i (List.mem_cons_of_mem _ hi))
    rw [sel0_set hn.1, selG_set hn.1] at ih
    have := ih.append_left (resO (h.getD j .dead) (G.getD j .gone))
    rw [← List.append_assoc] at this
    exact this

section
variable {P : Program} {w0 w w' : World} {M Z0 : Zone} {b : Nat} {G : List GO} {s : AS} {tv : List Value} {r : List V1 × List AObj} {Z : Zone}
theorem selG_get {js : List Nat} {i j : Nat} {g : GO} (hi : js[i]? = some j) (hg : G[j]? = some g) : (selG js G)[i]? = some g := by
  simp [selG, hi, List.getD, hg]
theorem RS.ren {js : List Nat} {v : SV} {X : Value} (h : RS G Z w v X) : RS (selG js G) Z w (renS js v) X := by
  cases v with
  | own j v =>
    show RS _ _ _ (match idx j js with | some i => SV.own i v | none => .any) X
    split
    · rename_i i hi
      have hi := idx_some hi
      rcases h with h | ⟨ver, val, sz, xs, hg, hh⟩
      · exact .inl (selG_get hi h)
      · exact .inr ⟨ver, val, sz, xs, selG_get hi hg, hh⟩
    · trivial
  | ptr j o =>
    show RS _ _ _ (match idx j js with | some i => SV.ptr i o | none => .any) X
    split
    · rename_i i hi
      have hi := idx_some hi
      rcases h with h | ⟨bb, T, vs, hg, hh⟩
      · exact .inl (selG_get hi h)
      · exact .inr ⟨bb, T, vs, selG_get hi hg, hh⟩
    · trivial
  | op j v i o =>
    show RS _ _ _ (match idx j js with | some j => SV.op j v i o | none => .any) X
    split
    · rename_i i' hi
      have hi := idx_some hi
      rcases h with h | ⟨ver, val, sz, xs, hg, hh⟩
      · exact .inl (selG_get hi h)
      · exact .inr ⟨ver, val, sz, xs, selG_get hi hg, hh⟩
    · trivial
  | fn f l =>
    show RS _ _ _ (match idxs js l with | some l => SV.fn f l | none => .any) X
    split
    · rename_i l' hl
      have hl := idxs_some hl
      obtain ⟨bs, hX, hh⟩ := h
      refine ⟨bs, hX, by rw [← hl.1, hh.1], fun i j bb hj hb => ?_⟩
      obtain ⟨j0, hj0, hji⟩ := hl.get' hj
      have := hh.2 i j0 bb hj0 hb
      rcases this with h1 | ⟨T, vs, h1⟩
      · exact .inl (selG_get hji h1)
      · exact .inr ⟨T, vs, selG_get hji h1⟩
    · trivial
  | _ => exact h
theorem All2.map_left {α α' β : Type} {R : α → β → Prop} {S : α' → β → Prop} {f : α → α'} {l : List α} {m : List β} (h : All2 R l m) (hf : ∀ a b, R a b → S (f a) b) : All2 S (l.map f) m := by
  refine ⟨by simp [h.1], fun i a b ha hb => ?_⟩
  rw [List.getElem?_map] at ha
  obtain ⟨a', ha', rfl⟩ := Option.map_eq_some_iff.1 ha
  exact hf _ _ (h.2 i a' b ha' hb)
theorem OneR.ren {js : List Nat} {v : SV} {X : Value} (h : OneR G Z w v X) : OneR (selG js G) Z w (renS js v) X := ⟨h.1.ren, h.2⟩
theorem RV1.ren {js : List Nat} {v : V1} {X : Value} (h : RV1 G Z w v X) : RV1 (selG js G) Z w (renV js v) X := by
  cases v with
  | one s => exact ⟨h.1.ren, fun _ => h.2 (by rintro rfl; simp_all [renS])⟩
  | agg l => obtain ⟨xs, hX, hh⟩ := h; exact ⟨xs, hX, hh.map_left fun _ _ q => q.ren⟩
theorem RV.ren {js : List Nat} {v : AV} {X : Value} (h : RV G Z w v X) : RV (selG js G) Z w (renA js v) X := by
  cases v with
  | v v => exact RV1.ren h
  | tup l => obtain ⟨xs, hX, hh⟩ := h; exact ⟨xs, hX, hh.map_left fun _ _ q => q.ren⟩
theorem RO.ren {js : List Nat} {o : AObj} {g : GO} (h : RO G Z w o g) : RO (selG js G) Z w (renO js o) g := by
  cases o with
  | cells l => cases g with
    | cells bb T vs => exact All2.map_left h fun _ _ q => q.ren
    | _ => exact h
  | arr e D ver fz => cases g <;> exact h
  | dead => cases g <;> exact h
theorem sel_RO {js : List Nat} {h : List AObj} (hh : All2 (RO G Z w) h G) (hl : ∀ j ∈ js, j < h.length) : All2 (RO (selG js G) Z w) (selH js h) (selG js G) := by
  refine ⟨by simp [selH, selG], fun i o g ho hg => ?_⟩
  simp only [selH, List.getElem?_map] at ho
  obtain ⟨j, hj, rfl⟩ := Option.map_eq_some_iff.1 ho
  simp only [selG, List.getElem?_map, hj, Option.map_some, Option.some.injEq] at hg
  subst hg
  have hjl := hl j (List.mem_of_getElem? hj)
  have h1 : h[j]? = some (h.getD j .dead) := by simp [List.getD, List.getElem?_eq_getElem hjl]
  obtain ⟨g, hg, hr⟩ := hh.get h1
  have : G.getD j .gone = g := by simp [List.getD, hg]
  rw [this]; exact hr.ren
/-- The memory of the objects js alone. -/
theorem InvG.sel (hI : InvG w0 M Z0 b G s tv w) {js : List Nat} (hjs : okJs js s.heap.length = true) :
    InvG w0 M Z0 js.length (selG js G) ⟨s.tmps.map (renA js), selH js s.heap⟩ tv w := by
  obtain ⟨hn, hl⟩ := okJs_out hjs
  have hlG : ∀ j ∈ js, j < s.heap.length ∧ j < G.length := fun j hj => ⟨hl j hj, by rw [← hI.len]; exact hl j hj⟩
  have hp := resL_sel js s.heap G hn hlG
  have hs := (hI.st.perm hp).sub (List.sublist_append_left _ _)
  have heq : resL (selH js s.heap) (selG js G) = resL (sel0 js s.heap) (selG js G) := by rw [selH_eq, resL_ren]
  rw [← heq] at hs
  refine ⟨hs.weak (relF_stable _ _ _) fun hh => ⟨hh.1.map_left fun _ _ q => q.ren, sel_RO hh.2 hl⟩, fun j hj hl' => ?_, hI.mz⟩
  simp [selG] at hl'; omega

/-- From the objects that were handed in to what has become of them. -/
def UpW (G G' : List GO) : Prop := ∀ (j : Nat),
  (G[j]? = some .gone → G'[j]? = some .gone) ∧
  (∀ b T vs, G[j]? = some (.cells b T vs) → G'[j]? = some .gone ∨ ∃ T' vs', G'[j]? = some (.cells b T' vs')) ∧
  (∀ ver val sz xs, G[j]? = some (.arr ver val sz xs) → G'[j]? = some .gone ∨ ∃ ver' val' xs', G'[j]? = some (.arr ver' val' sz xs'))
theorem Up.weak {G G' : List GO} (h : Up G G') : UpW G G' := fun j => ⟨(h j).1, (h j).2.1, fun ver val sz xs hg => ((h j).2.2 ver val sz xs hg).imp id fun ⟨a, c, d, e, _⟩ => ⟨a, c, d, e⟩⟩
theorem UpW.refl (G : List GO) : UpW G G := (Up.refl G).weak
theorem UpW.trans {G G' G'' : List GO} (h : UpW G G') (k : UpW G' G'') : UpW G G'' := by
  intro j
  refine ⟨fun hh => (k j).1 ((h j).1 hh), fun b T vs hh => ?_, fun ver val sz xs hh => ?_⟩
  · rcases (h j).2.1 b T vs hh with h1 | ⟨T', vs', h1⟩
    · exact .inl ((k j).1 h1)
    · exact (k j).2.1 b T' vs' h1
  · rcases (h j).2.2 ver val sz xs hh with h1 | ⟨ver', val', xs', h1⟩
    · exact .inl ((k j).1 h1)
    · exact (k j).2.2 ver' val' sz xs' h1
/-! Calls: a call is handed some of the objects, and turns nothing else. -/
def CallsOK (P : Program) (F : Callee) : Prop :=
  ∀ f fn args h out, P.funcs[f]? = some fn → fn.body.isSome = true → F f args h = some out →
    ∀ w0 M Z0 G vals w, InvG w0 M Z0 h.length G ⟨args.map .v, h⟩ vals w →
      Calls P f vals.toArray w fun e w' => ∃ xs G', e = .returned (if h : xs.toArray.size = 1 then xs.toArray[0] else .tuple xs.toArray) ∧ InvG w0 M Z0 out.2.length G' ⟨out.1.map .v, out.2⟩ xs w' ∧ UpW G G'
def footL (L : List Res) : Zone := fun k => ∃ q ∈ L, q.foot k
/-- What is handed to the call. -/
theorem InvG.pass (hI : InvG w0 M Z0 b G s tv w) {js : List Nat} (hjs : okJs js s.heap.length = true) {vs : List V1} {xs : List Value} (hv : All2 (RV1 G (zn w0 Z0 s G) w) vs xs) :
    InvG w (footL (resL (sel0 js s.heap) (selG js G))) (fun k => zn w0 Z0 s G k ∨ footL (resL (sel0 js s.heap) (selG js G)) k) js.length (selG js G) ⟨(vs.map (renV js)).map .v, selH js s.heap⟩ xs w := by
  obtain ⟨hn, hl⟩ := okJs_out hjs
  have hlG : ∀ j ∈ js, j < s.heap.length ∧ j < G.length := fun j hj => ⟨hl j hj, by rw [← hI.len]; exact hl j hj⟩
  have hp := resL_sel js s.heap G hn hlG
  have hs := (hI.st.perm hp).sub (List.sublist_append_left _ _)
  have heq : resL (selH js s.heap) (selG js G) = resL (sel0 js s.heap) (selG js G) := by rw [selH_eq, resL_ren]
  have hk : ∀ k, zn w0 Z0 s G k → zone w (fun k => zn w0 Z0 s G k ∨ footL (resL (sel0 js s.heap) (selG js G)) k) (resL (selH js s.heap) (selG js G)) k := fun k hk =>
    ⟨.inl (.inl hk), fun q hq => hk.2 q (hp.mem_iff.2 (List.mem_append.2 (.inl (heq ▸ hq))))⟩
  refine ⟨⟨Ext.refl _ _, ?_, ?_, ?_, ?_, relF_stable _ _ _, ?_⟩, ?_, fun k hk => .inr hk⟩
  · rw [heq]; exact hs.own
  · rw [heq]; exact hs.loc
  · rw [heq]; exact fun q hq k hf => ⟨.inl ⟨q, hq, hf⟩, (hs.key q hq k hf).2⟩
  · rw [heq]; exact hs.dis
  · refine ⟨(hv.map_left fun _ _ q => (RV1.ren q).stable (keeps_le hk)).map_left fun _ _ q => q, ?_⟩
    exact (sel_RO hI.st.per.2 hl).mono fun _ _ _ q => q.stable (keeps_le hk)
  · intro j hj hl'
    simp [selG] at hl'; omega
/-- What comes back, beside what was not handed in. -/
theorem frame {L L1 L2 Lc : List Res} {φ φc : Fact} (hI : St w0 M Z0 L φ w) (hm : ∀ k, M k → Z0 k) (hp : L.Perm (L1 ++ L2)) (hc : St w (footL L1) (fun k => zone w0 Z0 L k ∨ footL L1 k) Lc φc w') :
    St w0 M Z0 (Lc ++ L2) (andF φc φ) w' ∧ Keeps (zone w0 Z0 L) (zone w0 Z0 (Lc ++ L2)) w w' := by
  have hP := hI.perm hp
  have hd := List.pairwise_append.1 hP.dis
  have hx2 : ∀ q ∈ L2, ∀ k, q.foot k → ¬ footL L1 k := fun q hq k hk ⟨p, hp', hf⟩ => hd.2.2 p hp' q hq k hf hk
  have key1 : ∀ q ∈ Lc, ∀ k, q.foot k → (M k ∨ w0.heap.size ≤ k) := by
    intro q hq k hk
    rcases (hc.key q hq k hk).1 with ⟨p, hp', hf⟩ | h
    · exact (hP.key p (List.mem_append.2 (.inl hp')) k hf).1
    · exact .inr (Nat.le_trans hI.ext.size h)
  have hkz : Keeps (zone w0 Z0 L) (zone w0 Z0 (Lc ++ L2)) w w' := by
    intro k hz hl
    have hn1 : ¬ footL L1 k := fun ⟨p, hp', hf⟩ => hz.2 p (hp.mem_iff.2 (List.mem_append.2 (.inl hp'))) hf
    refine ⟨⟨hz.1, fun q hq hf => ?_⟩, hc.ext.block k hl hn1⟩
    rcases List.mem_append.1 hq with hq | hq
    · rcases (hc.key q hq k hf).1 with h | h
      · exact hn1 h
      · omega
    · exact hz.2 q (hp.mem_iff.2 (List.mem_append.2 (.inr hq))) hf
  refine ⟨⟨?_, ?_, ?_, ?_, ?_, hc.stab.and hI.stab, ?_, ?_⟩, hkz⟩
  · refine ⟨hc.ext.os.trans hI.ext.os, hc.ext.tape.trans hI.ext.tape, hc.ext.output.trans hI.ext.output, Nat.le_trans hI.ext.size hc.ext.size, fun k hk hmk => ?_⟩
    rw [hc.ext.block k (Nat.lt_of_lt_of_le hk hI.ext.size) ?_, hI.ext.block k hk hmk]
    rintro ⟨p, hp', hf⟩
    rcases (hP.key p (List.mem_append.2 (.inl hp')) k hf).1 with h | h
    · exact hmk h
    · omega
  · intro q hq
    rcases List.mem_append.1 hq with hq | hq
    · exact hc.own q hq
    · have hq' := List.mem_append.2 (Or.inr (a := q ∈ L1) hq)
      exact hP.loc q hq' w w' (fun k hk => hc.ext.block k (hP.key q hq' k hk).2 (hx2 q hq k hk)) (hP.own q hq')
  · intro q hq
    rcases List.mem_append.1 hq with hq | hq
    · exact hc.loc q hq
    · exact hP.loc q (List.mem_append.2 (.inr hq))
  · intro q hq k hk
    rcases List.mem_append.1 hq with hq | hq
    · exact ⟨key1 q hq k hk, (hc.key q hq k hk).2⟩
    · have := hP.key q (List.mem_append.2 (.inr hq)) k hk
      exact ⟨this.1, Nat.lt_of_lt_of_le this.2 hc.ext.size⟩
  · refine List.pairwise_append.2 ⟨hc.dis, hd.2.1, fun q hq p hp' k hk hk' => ?_⟩
    rcases (hc.key q hq k hk).1 with h | h
    · exact hx2 p hp' k hk' h
    · have := (hP.key p (List.mem_append.2 (.inr hp')) k hk').2; omega
  · refine hc.stab _ _ w' w' (fun k hz _ => ⟨⟨?_, fun q hq hf => ?_⟩, rfl⟩) hc.per
    · rcases hz.1 with (h | ⟨p, hp', hf⟩) | h
      · exact h.1
      · exact (hP.key p (List.mem_append.2 (.inl hp')) k hf).1.imp (hm k) id
      · exact .inr (Nat.le_trans hI.ext.size h)
    · rcases List.mem_append.1 hq with hq | hq
      · exact hz.2 q hq hf
      · rcases hz.1 with (h | h) | h
        · exact h.2 q (hp.mem_iff.2 (List.mem_append.2 (.inr hq))) hf
        · exact hx2 q hq k hf h
        · have := (hP.key q (List.mem_append.2 (.inr hq)) k hf).2; omega
  · exact hI.stab _ _ w w' hkz hI.per
end
end Go.Ab
namespace Go.Ab
open Go Go.Dk

section
variable {P : Program} {w0 w w' : World} {M Z0 : Zone} {b : Nat} {G : List GO} {s : AS} {tv : List Value} {r : List V1 × List AObj} {Z : Zone}
theorem sealVs_sound : ∀ {l : List V1} {s : AS} {xs : List Value} {k : List V1 → List AObj → OR}, InvG w0 M Z0 b G s tv w → All2 (RV1 G (zn w0 Z0 s G) w) l xs → sealVs s.heap l k = some r →
    ∃ l' h', k l' h' = some r ∧ Sealed w0 M Z0 b G s tv w h' ∧ All2 (RV1 G (zn w0 Z0 ⟨s.tmps, h'⟩ G) w) l' xs
  | [], s, xs, k, hI, ha, h => by
    obtain rfl := ha.nil_inv
    exact ⟨_, _, h, Sealed.refl hI, All2.nil⟩
  | v :: l, s, xs, k, hI, ha, h => by
    obtain ⟨X, xs', rfl, h1, h2⟩ := ha.cons_inv
    unfold sealVs at h
    split at h
    · exact absurd ‹_ :: _ = []› (by simp)
    · rename_i k' l0 e
      simp only [List.cons.injEq] at e
      obtain ⟨rfl, rfl⟩ := e
      obtain ⟨l', h', hk, hs, hl⟩ := sealVs_sound hI h2 h
      exact ⟨_, _, hk, hs, All2.cons ⟨trivial, fun h => absurd rfl h⟩ hl⟩
    · rename_i x l0 hne e
      simp only [List.cons.injEq] at e
      obtain ⟨rfl, rfl⟩ := e
      have hone : OneR G (zn w0 Z0 s G) w x X := ⟨h1.1, h1.2 fun e => hne e⟩
      replace h := sealS_sound hI hone h; obtain ⟨v', h1', h, hs, hv⟩ := h
      obtain ⟨l', h', hk, hs', hl⟩ := sealVs_sound hs.inv (h2.mono fun _ _ _ q => q.stable (keeps_le hs.le)) h
      exact ⟨_, _, hk, hs.trans hs', All2.cons ⟨hv.1.stable (keeps_le hs'.le), fun _ => hv.2⟩ hl⟩
    · rename_i c l0 e
      simp only [List.cons.injEq] at e
      obtain ⟨rfl, rfl⟩ := e
      obtain ⟨ys, hX, hc⟩ := h1
      replace h := sealL_sound hI hc h; obtain ⟨c', h1', h, hs, hv⟩ := h
      obtain ⟨l', h', hk, hs', hl⟩ := sealVs_sound hs.inv (h2.mono fun _ _ _ q => q.stable (keeps_le hs.le)) h
      exact ⟨_, _, hk, hs.trans hs', All2.cons ⟨ys, hX, hv.mono fun _ _ _ q => ⟨q.1.stable (keeps_le hs'.le), q.2⟩⟩ hl⟩

/-! What comes back, taken apart. -/
def LikeS (v y : SV) : Prop := ∀ (G G' : List GO) (Z : Zone) (w : World) (X : Value), OneR G Z w v X → OneR G' Z w y X
theorem intC_some {a : IntKind} {l : List SV} {k : Int → List SV → OR} (h : intC a l k = some r) : ∃ n l', l = .int a n :: l' ∧ k n l' = some r := by
  unfold intC at h; split at h
  · replace h := cond_left h; obtain ⟨ha, h⟩ := h; obtain rfl := ikEq_eq ha; exact ⟨_, _, rfl, h⟩
  · cases h
theorem boolC_some {l : List SV} {k : Bool → List SV → OR} (h : boolC l k = some r) : ∃ n l', l = .bool n :: l' ∧ k n l' = some r := by
  unfold boolC at h; split at h
  · exact ⟨_, _, rfl, h⟩
  · cases h
theorem strC_some {l : List SV} {k : ByteArray → List SV → OR} (h : strC l k = some r) : ∃ n l', l = .str n :: l' ∧ k n l' = some r := by
  unfold strC at h; split at h
  · exact ⟨_, _, rfl, h⟩
  · cases h
theorem slC_some {e : SK} {l : List SV} {k : SD → List SV → OR} (h : slC e l k = some r) : ∃ d l', l = .fr d :: l' ∧ d.kind = e ∧ k d l' = some r := by
  cases e <;> simp only [slC] at h
  · unfold tsC at h; split at h
    · exact ⟨_, _, rfl, rfl, h⟩
    · cases h
  · unfold isC at h; split at h
    · exact ⟨_, _, rfl, rfl, h⟩
    · cases h
  · unfold issC at h; split at h
    · exact ⟨_, _, rfl, rfl, h⟩
    · cases h
  · unfold ssC at h; split at h
    · exact ⟨_, _, rfl, rfl, h⟩
    · cases h
  · unfold bsC at h; split at h
    · exact ⟨_, _, rfl, rfl, h⟩
    · cases h
theorem anyC_some {l : List SV} {k : List SV → OR} (h : anyC l k = some r) : ∃ v l', l = v :: l' ∧ k l' = some r := by
  unfold anyC at h; split at h
  · exact ⟨_, _, rfl, h⟩
  · cases h
theorem likeC_sound {x : SV} {l : List SV} {k : SV → List SV → OR} (h : likeC x l k = some r) : ∃ v y l', l = v :: l' ∧ k y l' = some r ∧ LikeS v y := by
  unfold likeC at h
  split at h
  · obtain ⟨n, l', rfl, h'⟩ := intC_some h; exact ⟨_, _, _, rfl, h', fun _ _ _ _ _ h => h⟩
  · obtain ⟨n, l', rfl, h'⟩ := boolC_some h; exact ⟨_, _, _, rfl, h', fun _ _ _ _ _ h => h⟩
  · obtain ⟨n, l', rfl, h'⟩ := strC_some h; exact ⟨_, _, _, rfl, h', fun _ _ _ _ _ h => h⟩
  · obtain ⟨n, l', rfl, _, h'⟩ := slC_some h; exact ⟨_, _, _, rfl, h', fun _ _ _ _ _ h => h⟩
  · obtain ⟨n, l', rfl, _, h'⟩ := slC_some h; exact ⟨_, _, _, rfl, h', fun _ _ _ _ _ h => h⟩
  · obtain ⟨v, l', rfl, h'⟩ := anyC_some h; exact ⟨_, _, _, rfl, h', fun _ _ _ _ _ h => ⟨trivial, h.2⟩⟩
theorem likeL_sound : ∀ {x l : List SV} {k : List SV → OR}, likeL x l k = some r → ∃ y, k y = some r ∧ All2 LikeS l y
  | [], l, k, h => by
    unfold likeL nilC at h
    split at h
    · exact ⟨_, h, All2.nil⟩
    · cases h
  | x :: xs, l, k, h => by
    unfold likeL at h
    obtain ⟨v, y, l', rfl, h1, hv⟩ := likeC_sound h
    obtain ⟨ys, h2, hl⟩ := likeL_sound h1
    exact ⟨_, h2, All2.cons hv hl⟩
theorem like_one {l y : List SV} {vs : List Value} {G' : List GO} (h : All2 LikeS l y) (k : All2 (OneR G Z w) l vs) : All2 (OneR G' Z w) y vs := by
  refine ⟨h.1.symm.trans k.1, fun i a X ha hX => ?_⟩
  obtain ⟨v, hv, hl⟩ := h.get' ha
  exact hl _ _ _ _ _ (k.2 i v X hv hX)
/-- One object that was handed in and what comes back of it; and what the caller keeps. -/
def Back (o o' : AObj) : Prop := o' = .dead ∨ ∃ l y, o = .cells l ∧ o' = .cells y ∧ All2 LikeS l y
theorem backO_sound : ∀ {x o : List AObj} {k : List AObj → List AObj → OR}, backO x o k = some r → ∃ olds os rest, o = olds ++ rest ∧ k os rest = some r ∧ olds.length = x.length ∧ All2 Back olds os
  | [], o, k, h => ⟨[], [], o, rfl, h, rfl, All2.nil⟩
  | x :: xs, o, k, h => by
    unfold backO at h
    split at h
    · exact absurd ‹_ :: _ = []› (by simp)
    · rename_i c xs0 e
      simp only [List.cons.injEq] at e
      obtain ⟨rfl, rfl⟩ := e
      unfold objC at h
      split at h
      · obtain ⟨y, h1, hy⟩ := likeL_sound h
        obtain ⟨olds, os, rest, rfl, h2, hl, hb⟩ := backO_sound h1
        exact ⟨_ :: olds, _, rest, rfl, h2, by simp [hl], All2.cons (.inr ⟨_, _, rfl, rfl, hy⟩) hb⟩
      · cases h
    · rename_i o0 xs0 hne e
      simp only [List.cons.injEq] at e
      obtain ⟨rfl, rfl⟩ := e
      unfold dropC at h
      split at h
      · obtain ⟨olds, os, rest, rfl, h1, hl, hb⟩ := backO_sound h
        exact ⟨_ :: olds, _, rest, rfl, h1, by simp [hl], All2.cons (.inl rfl) hb⟩
      · cases h
theorem arrC_some {e : TypeId × SK} {o : List AObj} {k : SD → List AObj → OR} (h : arrC e o k = some r) : ∃ d o', o = .arr e.1 d 0 false :: o' ∧ d.kind = e.2 ∧ k d o' = some r := by
  have key : ∀ {α : Type} {f : α → SD} {o : List AObj} {k : SD → List AObj → OR} {e' : TypeId} {x : α} {o' : List AObj}, o = .arr e' (f x) 0 false :: o' → cond (Nat.beq e.1 e') (k (f x) o') none = some r → (f x).kind = e.2 → ∃ d o', o = .arr e.1 d 0 false :: o' ∧ d.kind = e.2 ∧ k d o' = some r := by
    intro α f o k e' x o' ho h hk
    obtain ⟨he, h'⟩ := cond_left h
    simp only [Nat.beq_eq] at he
    subst he
    exact ⟨_, _, ho, hk, h'⟩
  unfold arrC at h
  split at h <;> rename_i he
  · unfold arrTsC at h; split at h
    · exact key (f := SD.ts) rfl h (by rw [he]; rfl)
    · cases h
  · unfold arrIsC at h; split at h
    · exact key (f := SD.is) rfl h (by rw [he]; rfl)
    · cases h
  · unfold arrIssC at h; split at h
    · exact key (f := SD.iss) rfl h (by rw [he]; rfl)
    · cases h
  · unfold arrSsC at h; split at h
    · exact key (f := SD.ss) rfl h (by rw [he]; rfl)
    · cases h
  · unfold arrBsC at h; split at h
    · exact key (f := SD.bs) rfl h (by rw [he]; rfl)
    · cases h
theorem rSl_some {e : SK} {l : List V1} {k : SD → List V1 → OR} (h : rSl e l k = some r) : ∃ d l', l = .one (.fr d) :: l' ∧ k d l' = some r := by
  cases e <;> simp only [rSl] at h
  · unfold rTs at h; split at h
    · exact ⟨_, _, rfl, h⟩
    · cases h
  · unfold rIs at h; split at h
    · exact ⟨_, _, rfl, h⟩
    · cases h
  · unfold rIss at h; split at h
    · exact ⟨_, _, rfl, h⟩
    · cases h
  · unfold rSs at h; split at h
    · exact ⟨_, _, rfl, h⟩
    · cases h
  · unfold rBs at h; split at h
    · exact ⟨_, _, rfl, h⟩
    · cases h
theorem RO_arr_inv {e : TypeId} {d : SD} {g : GO} (h : RO G Z w (.arr e d 0 false) g) : ∃ val xs, g = .arr 0 val d.kind.size xs := by
  cases g with
  | arr ver val sz xs => obtain ⟨rfl, rfl, _⟩ := h; exact ⟨_, _, rfl⟩
  | _ => exact h.elim
theorem RO_arr_any {e : TypeId} {d : SD} {v : Nat} {z : Bool} {g : GO} {G' : List GO} (h : RO G Z w (.arr e d v z) g) : RO G' Z w (.arr e d v z) g := by cases g <;> exact h
theorem own_new {c b' : Nat} {G' : List GO} {g : GO} {e : TypeId} {d : SD} {X : Value} (hx : RS G Z w (.own c 0) X) (hg : RO G Z w (.arr e d 0 false) g) (h1 : G[c]? = some g) (h2 : G'[b']? = some g) : RS G' Z w (.own b' 0) X := by
  obtain ⟨val, xs, rfl⟩ := RO_arr_inv hg
  have := own_val hx h1 rfl
  exact .inr ⟨0, val, _, xs, h2, Nat.le_refl _, fun _ => this⟩
theorem valT_sound {own : Bool} {c b' : Nat} {t : TypeId} {l : List V1} {o : List AObj} {k : V1 → List AObj → List V1 → List AObj → OR} (h : valT P own c b' t l o k = some r) :
    ∃ v n l' o' x0 o0, k v n l' o' = some r ∧ l = x0 :: l' ∧ o = o0 ++ o' ∧ n.length = o0.length ∧ ∀ {Gc G'' : List GO} {Z : Zone} {w : World} {X : Value} {gs : List GO}, RV1 Gc Z w x0 X → All2 (RO Gc Z w) o0 gs →
      (∀ (i : Nat) g, gs[i]? = some g → Gc[c + i]? = some g ∧ G''[b' + i]? = some g) → RV1 G'' Z w v X ∧ All2 (RO G'' Z w) n gs ∧ resL n gs = resL o0 gs := by
  unfold valT at h
  split at h
  · unfold rInt at h; split at h
    · replace h := cond_left h; obtain ⟨ha, h⟩ := h; obtain rfl := ikEq_eq ha
      exact ⟨_, _, _, _, _, [], h, rfl, rfl, rfl, fun hx ho _ => by obtain rfl := ho.nil_inv; exact ⟨hx, All2.nil, rfl⟩⟩
    · cases h
  · unfold rBool at h; split at h
    · exact ⟨_, _, _, _, _, [], h, rfl, rfl, rfl, fun hx ho _ => by obtain rfl := ho.nil_inv; exact ⟨hx, All2.nil, rfl⟩⟩
    · cases h
  · unfold rStr at h; split at h
    · exact ⟨_, _, _, _, _, [], h, rfl, rfl, rfl, fun hx ho _ => by obtain rfl := ho.nil_inv; exact ⟨hx, All2.nil, rfl⟩⟩
    · cases h
  · split at h
    · rename_i e _
      rcases cond_some h with ⟨_, h⟩ | ⟨_, h⟩
      · unfold rOwn at h; split at h
        · replace h := cond_left h; obtain ⟨hi, h⟩ := h
          simp only [Nat.beq_eq] at hi
          obtain ⟨d, o', rfl, hk, h1⟩ := arrC_some h
          refine ⟨_, _, _, _, _, [_], h1, rfl, rfl, rfl, fun hx ho hg => ?_⟩
          obtain ⟨g, gs', rfl, h1, h2⟩ := ho.cons_inv
          obtain rfl := h2.nil_inv
          obtain ⟨e1, e2⟩ := hg 0 g rfl
          refine ⟨⟨own_new (by rw [← hi]; exact hx.1) h1 e1 e2, fun _ => hx.2 nofun⟩, All2.cons (RO_arr_any h1) All2.nil, rfl⟩
        · cases h
      · obtain ⟨d, l', rfl, h1⟩ := rSl_some h
        exact ⟨_, _, _, _, _, [], h1, rfl, rfl, rfl, fun hx ho _ => by obtain rfl := ho.nil_inv; exact ⟨hx, All2.nil, rfl⟩⟩
    · cases h
  · split at h
    · rcases cond_some h with ⟨_, h⟩ | ⟨_, h⟩
      · unfold rOwnT at h; split at h
        · replace h := cond_left h; obtain ⟨hi, h⟩ := h
          simp only [Nat.beq_eq] at hi
          unfold arrTsC at h; split at h
          · replace h := cond_left h; obtain ⟨he, hk2⟩ := h
            simp only [Nat.beq_eq] at he
            subst he
            refine ⟨_, _, _, _, _, [_], hk2, rfl, rfl, rfl, fun hx ho hg => ?_⟩
            obtain ⟨g, gs', rfl, h1, h2⟩ := ho.cons_inv
            obtain rfl := h2.nil_inv
            obtain ⟨e1, e2⟩ := hg 0 g rfl
            obtain ⟨xs, hX, hc⟩ := hx
            obtain ⟨x1, m1, rfl, c1, hc⟩ := hc.cons_inv
            obtain ⟨x2, m2, rfl, c2, hc⟩ := hc.cons_inv
            obtain ⟨x3, m3, rfl, c3, hc⟩ := hc.cons_inv
            obtain rfl := hc.nil_inv
            exact ⟨⟨_, hX, All2.cons c1 (All2.cons c2 (All2.cons ⟨own_new (by rw [← hi]; exact c3.1) h1 e1 e2, c3.2⟩ All2.nil))⟩, All2.cons (RO_arr_any h1) All2.nil, rfl⟩
          · cases h
        · cases h
      · unfold rTerm at h; split at h
        · refine ⟨_, _, _, _, _, [], h, rfl, rfl, rfl, fun hx ho _ => ?_⟩
          obtain rfl := ho.nil_inv
          obtain ⟨xs, hX, hc⟩ := hx
          obtain ⟨x1, m1, rfl, c1, hc⟩ := hc.cons_inv
          obtain ⟨x2, m2, rfl, c2, hc⟩ := hc.cons_inv
          obtain ⟨x3, m3, rfl, c3, hc⟩ := hc.cons_inv
          obtain rfl := hc.nil_inv
          exact ⟨⟨_, hX, All2.cons ⟨c1.1, c1.2⟩ (All2.cons ⟨c2.1, c2.2⟩ (All2.cons ⟨c3.1, c3.2⟩ All2.nil))⟩, All2.nil, rfl⟩
        · cases h
    · cases h
  · unfold rPtr at h; split at h
    · replace h := cond_left h; obtain ⟨hi, h⟩ := h
      simp only [Nat.beq_eq] at hi
      unfold objC at h; split at h
      · split at h
        · obtain ⟨y, h1, hy⟩ := likeL_sound h
          refine ⟨_, _, _, _, _, [_], h1, rfl, rfl, rfl, fun hx ho hg => ?_⟩
          obtain ⟨g, gs', rfl, h1, h2⟩ := ho.cons_inv
          obtain rfl := h2.nil_inv
          obtain ⟨e1, e2⟩ := hg 0 g rfl
          cases g with
          | cells bb T vs =>
            have hp := ptr_val (by rw [← hi]; exact hx.1) e1
            exact ⟨⟨.inr ⟨bb, T, vs, e2, hp⟩, fun _ => hx.2 nofun⟩, All2.cons (like_one hy h1) All2.nil, rfl⟩
          | _ => exact h1.elim
        · cases h
      · cases h
    · cases h
  · cases h
theorem valsT_sound {own : Bool} : ∀ {tys : List TypeId} {c b' : Nat} {l : List V1} {o : List AObj} {k : List V1 → List AObj → OR}, valsT P own tys c b' l o k = some r →
    ∃ vs ns, k vs ns = some r ∧ ns.length = o.length ∧ ∀ {Gc G'' : List GO} {Z : Zone} {w : World} {xs : List Value} {gs : List GO}, All2 (RV1 Gc Z w) l xs → All2 (RO Gc Z w) o gs →
      (∀ (i : Nat) g, gs[i]? = some g → Gc[c + i]? = some g ∧ G''[b' + i]? = some g) → All2 (RV1 G'' Z w) vs xs ∧ All2 (RO G'' Z w) ns gs ∧ resL ns gs = resL o gs
  | [], c, b', l, o, k, h => by
    unfold valsT nilV at h
    split at h
    · unfold nilO at h
      split at h
      · exact ⟨_, _, h, rfl, fun hx ho _ => ⟨by obtain rfl := hx.nil_inv; exact All2.nil, by obtain rfl := ho.nil_inv; exact All2.nil, rfl⟩⟩
      · cases h
    · cases h
  | t :: tys, c, b', l, o, k, h => by
    unfold valsT at h
    obtain ⟨v, n, l', o', x0, o0, h1, rfl, rfl, hn, hv⟩ := valT_sound h
    obtain ⟨vs, ns, h2, hns, hvs⟩ := valsT_sound h1
    refine ⟨_, _, h2, by simp [hn, hns], fun hx ho hg => ?_⟩
    obtain ⟨X, xs', rfl, hx1, hx2⟩ := hx.cons_inv
    obtain ⟨g1, g2, rfl, ho1, ho2⟩ := ho.append_inv
    obtain ⟨a1, a2, a3⟩ := hv hx1 ho1 fun i g hi => hg i g (by rw [List.getElem?_append_left (lt_of_some hi)]; exact hi)
    obtain ⟨b1, b2, b3⟩ := hvs hx2 ho2 fun i g hi => by
      have := hg (g1.length + i) g (by rw [List.getElem?_append_right (by omega)]; simpa using hi)
      rw [← ho1.1] at this
      rw [Nat.add_assoc, Nat.add_assoc, hn]; exact this
    refine ⟨All2.cons a1 b1, All2.append a2 b2, ?_⟩
    rw [resL_append a2.1, resL_append ho1.1, a3, b3]
end
end Go.Ab
end
section
/- The abstract run is sound: calls, put together. No program in sight. -/
set_option linter.unusedVariables false
set_option linter.unusedSimpArgs false
namespace Go.Ab
open Go Go.Dk

def backG : List Nat → List GO → List GO → List GO
  | j :: js, g :: gs, G => backG js gs (G.set j g)
  | _, _, G => G
theorem backH_length : ∀ (js : List Nat) (os h : List AObj), (backH js os h).length = h.length
  | [], _, _ => rfl
  | _ :: _, [], _ => rfl
  | j :: js, o :: os, h => by rw [backH, backH_length js os]; simp
theorem backG_length : ∀ (js : List Nat) (gs G : List GO), (backG js gs G).length = G.length
  | [], _, _ => rfl
  | _ :: _, [], _ => rfl
  | j :: js, o :: os, h => by rw [backG, backG_length js os]; simp
theorem backG_other : ∀ (js : List Nat) (gs G : List GO) (q : Nat), q ∉ js → (backG js gs G)[q]? = G[q]?
  | [], _, _, _, _ => rfl
  | _ :: _, [], _, _, _ => rfl
  | j :: js, g :: gs, G, q, h => by
    simp only [List.mem_cons, not_or] at h
    rw [backG, backG_other js gs _ q h.2, List.getElem?_set_ne (fun e => h.1 e.symm)]
theorem backG_at : ∀ (js : List Nat) (gs G : List GO) (i j : Nat) (g : GO), js.Nodup → js[i]? = some j → gs[i]? = some g → j < G.length → (backG js gs G)[j]? = some g
  | [], _, _, i, _, _, _, h, _, _ => by simp at h
  | _ :: _, [], _, i, _, _, _, _, h, _ => by simp at h
  | a :: js, x :: gs, G, 0, j, g, hn, hj, hg, hl => by
    simp only [List.getElem?_cons_zero, Option.some.injEq] at hj hg
    subst hj hg
    rw [List.nodup_cons] at hn
    rw [backG, backG_other js gs _ a hn.1]; simp [hl]
  | a :: js, x :: gs, G, i + 1, j, g, hn, hj, hg, hl => by
    rw [List.nodup_cons] at hn
    rw [backG]
    exact backG_at js gs _ i j g hn.2 (by simpa using hj) (by simpa using hg) (by simpa using hl)
theorem backH_append : ∀ (js js' : List Nat) (os os' h : List AObj), js.length = os.length → backH (js ++ js') (os ++ os') h = backH js' os' (backH js os h)
  | [], js', [], os', h, _ => rfl
  | j :: js, js', o :: os, os', h, hl => by simp only [List.cons_append, backH]; exact backH_append js js' os os' _ (by simpa using hl)
  | [], _, _ :: _, _, _, hl => by simp at hl
  | _ :: _, _, [], _, _, hl => by simp at hl
theorem back_all {R : AObj → GO → Prop} : ∀ {js : List Nat} {os h : List AObj} {gs G : List GO}, All2 R h G → All2 R os gs → All2 R (backH js os h) (backG js gs G)
  | [], os, h, gs, G, hh, ho => hh
  | j :: js, os, h, gs, G, hh, ho => by
    cases os with
    | nil => obtain rfl := ho.nil_inv; exact hh
    | cons o os =>
      obtain ⟨g, gs', rfl, h1, h2⟩ := ho.cons_inv
      show All2 R (backH js os (h.set j o)) (backG js gs' (G.set j g))
      exact back_all (hh.set j h1) h2
theorem kill_set : ∀ {js : List Nat} {j : Nat} {o : AObj} {h : List AObj}, j ∉ js → kill js (h.set j o) = (kill js h).set j o
  | [], _, _, _, _ => rfl
  | i :: js, j, o, h, hj => by
    simp only [List.mem_cons, not_or] at hj
    simp only [kill]
    rw [List.set_comm _ _ hj.1, kill_set hj.2]
theorem killG_set : ∀ {js : List Nat} {j : Nat} {g : GO} {G : List GO}, j ∉ js → killG js (G.set j g) = (killG js G).set j g
  | [], _, _, _, _ => rfl
  | i :: js, j, o, h, hj => by
    simp only [List.mem_cons, not_or] at hj
    simp only [killG]
    rw [List.set_comm _ _ hj.1, killG_set hj.2]
theorem kill_length : ∀ (js : List Nat) (h : List AObj), (kill js h).length = h.length
  | [], _ => rfl
  | j :: js, h => by rw [kill, kill_length js]; simp
theorem killG_length : ∀ (js : List Nat) (h : List GO), (killG js h).length = h.length
  | [], _ => rfl
  | j :: js, h => by rw [killG, killG_length js]; simp
theorem resL_back : ∀ {js : List Nat} {os h : List AObj} {gs G : List GO}, js.Nodup → (∀ j ∈ js, j < h.length ∧ j < G.length) → js.length = os.length → os.length = gs.length →
    (resL (backH js os h) (backG js gs G)).Perm (resL os gs ++ resL (kill js h) (killG js G))
  | [], os, h, gs, G, _, _, hl, hl2 => by
    obtain rfl := List.eq_nil_of_length_eq_zero hl.symm
    exact List.Perm.refl _
  | j :: js, [], h, gs, G, _, _, hl, _ => by simp at hl
  | j :: js, o :: os, h, [], G, _, _, _, hl => by simp at hl
  | j :: js, o :: os, h, g :: gs, G, hn, hl, h1, h2 => by
    rw [List.nodup_cons] at hn
    obtain ⟨hj, hjG⟩ := hl j (List.mem_cons_self ..)
    have ih := resL_back (js := js) (os := os) (h := h.set j o) (gs := gs) (G := G.set j g) hn.2 (fun i hi => by simpa using hl i (List.mem_cons_of_mem _ hi)) (by simpa using h1) (by simpa using h2)
    simp only [backH, backG, kill, killG]
    refine ih.trans ?_
    rw [kill_set hn.1, killG_set hn.1, kill_set hn.1, killG_set hn.1]
    have hin := resL_in (h := kill js h) (G := killG js G) o g (by rw [kill_length]; exact hj) (by rw [killG_length]; exact hjG)
    have : (resL os gs ++ resL ((kill js h).set j o) ((killG js G).set j g)).Perm (resL os gs ++ (resO o g ++ resL ((kill js h).set j .dead) ((killG js G).set j .gone))) := hin.symm.append_left _
    refine this.trans ?_
    simp only [resL]
    rw [← List.append_assoc]
    exact List.perm_append_comm.append_right _
theorem kill_append : ∀ (js js' : List Nat) (h : List AObj), kill (js ++ js') h = kill js' (kill js h)
  | [], _, _ => rfl
  | j :: js, js', h => by simp only [List.cons_append, kill]; exact kill_append js js' _
theorem killG_append : ∀ (js js' : List Nat) (h : List GO), killG (js ++ js') h = killG js' (killG js h)
  | [], _, _ => rfl
  | j :: js, js', h => by simp only [List.cons_append, killG]; exact killG_append js js' _
/-- What the caller keeps of an object that was handed in. -/
def keepG : AObj → GO → GO
  | .cells _, g => g
  | _, _ => .gone
theorem resL_append' {h h' : List AObj} {G G' : List GO} (hl : h.length = G.length) : resL (h ++ h') (G ++ G') = resL h G ++ resL h' G' := resL_append hl
section
variable {P : Program} {w0 w w' : World} {M Z0 : Zone} {b : Nat} {G : List GO} {s : AS} {tv : List Value} {r : List V1 × List AObj} {Z : Zone}
theorem back_keep : ∀ {olds os : List AObj} {gs Gc : List GO}, All2 Back olds os → All2 (RO Gc Z w) olds gs → ∀ G'' : List GO,
    All2 (RO G'' Z w) os (List.zipWith keepG os gs) ∧ (resL os (List.zipWith keepG os gs)).Sublist (resL olds gs)
  | [], os, gs, Gc, hb, hr, G'' => by
    obtain rfl := hb.nil_inv
    obtain rfl := hr.nil_inv
    exact ⟨All2.nil, List.Sublist.refl _⟩
  | o :: olds, os, gs, Gc, hb, hr, G'' => by
    obtain ⟨o', os', rfl, h1, h2⟩ := hb.cons_inv
    obtain ⟨g, gs', rfl, h3, h4⟩ := hr.cons_inv
    obtain ⟨a1, a2⟩ := back_keep h2 h4 G''
    simp only [List.zipWith_cons_cons]
    rcases h1 with rfl | ⟨l, y, rfl, rfl, hy⟩
    · refine ⟨All2.cons trivial a1, ?_⟩
      simp only [resL, resO_dead, List.nil_append]
      exact a2.trans (List.sublist_append_right _ _)
    · cases g with
      | cells bb T vs =>
        refine ⟨All2.cons (like_one hy h3) a1, ?_⟩
        simp only [resL, keepG]
        exact a2.append_left _
      | _ => exact h3.elim
theorem list_nodup {js : List Nat} {b n : Nat} (h : js.Nodup) (hb : ∀ j ∈ js, j < b) : (js ++ List.range' b n).Nodup := by
  rw [List.nodup_append]
  refine ⟨h, List.nodup_range', fun a ha c hc => ?_⟩
  rw [List.mem_range'_1] at hc
  have := hb a ha
  omega
/-- A call, and what is known behind it. -/
theorem callGo_sound {F : Callee} (hF : CallsOK P F) {f : FuncId} {fn : Func} (hfn : P.funcs[f]? = some fn) (hbody : fn.body.isSome = true) (hI : InvG w0 M Z0 b G s tv w) {ow : Bool} {tys : List TypeId} {rm : Nat} {k : AV → List AObj → OR} {vs : List V1} {xs : List Value}
    (hv : All2 (RV1 G (zn w0 Z0 s G) w) vs xs) (hb : b + rm ≤ s.heap.length) (h : callGo P F ow f tys b rm k vs s.heap = some r) :
    Calls P f xs.toArray w fun e w' => ∃ X, e = .returned X ∧ ∃ v h' G', k v h' = some r ∧ InvG w0 M Z0 (b + rm) G' ⟨s.tmps, h'⟩ tv w' ∧ RV G' (zn w0 Z0 ⟨s.tmps, h'⟩ G') w' v X ∧ h'.length = s.heap.length ∧ Up G G' := by
  unfold callGo at h
  generalize hjs : reach s.heap 64 (vs.flatMap refsV) [] = js at h
  replace h := cond_left h; obtain ⟨hok, h⟩ := h
  replace h := bind_some h; obtain ⟨out, hout, h⟩ := h
  have hokl : okJs js s.heap.length = true := by
    simp only [okJs, Bool.and_eq_true, List.all_eq_true, Nat.blt_eq] at hok ⊢
    exact ⟨hok.1, fun j hj => by have := hok.2 j hj; omega⟩
  obtain ⟨hnd, hlt⟩ := okJs_out hok
  have hpass := hI.pass hokl hv
  have hlen : (selH js s.heap).length = js.length := by simp [selH]
  have hcall := hF f fn _ _ out hfn hbody hout _ _ _ _ _ _ (by rw [hlen]; exact hpass)
  refine hcall.mono fun e w' ⟨ys, Gc, he, hIc, hupc⟩ => ?_
  refine ⟨_, he, ?_⟩
  obtain ⟨olds, os, rest, ho, h, hol, hback⟩ := backO_sound h
  obtain ⟨vs', ns, h, hns, hvs⟩ := valsT_sound h
  replace h := cond_left h; obtain ⟨hrm, h⟩ := h
  simp only [Nat.ble_eq] at hrm
  have hp := resL_sel js s.heap G hnd (fun j hj => ⟨by have := hlt j hj; omega, by have := hlt j hj; rw [← hI.len]; omega⟩)
  have heq : resL (selH js s.heap) (selG js G) = resL (sel0 js s.heap) (selG js G) := by rw [selH_eq, resL_ren]
  have hfr := frame hI.st hI.mz hp hIc.st
  obtain ⟨hx0, hRO⟩ : All2 (RV Gc (zone w (fun k => zn w0 Z0 s G k ∨ footL (resL (sel0 js s.heap) (selG js G)) k) (resL out.2 Gc)) w') (out.1.map .v) ys ∧ All2 (RO Gc (zone w (fun k => zn w0 Z0 s G k ∨ footL (resL (sel0 js s.heap) (selG js G)) k) (resL out.2 Gc)) w') out.2 Gc := hIc.st.per
  generalize zone w (fun k => zn w0 Z0 s G k ∨ footL (resL (sel0 js s.heap) (selG js G)) k) (resL out.2 Gc) = Zc at hx0 hRO
  rw [ho] at hRO
  obtain ⟨g1, g2, rfl, hr1, hr2⟩ := hRO.append_inv
  have hjo : js.length = olds.length := by rw [hol, hlen]
  have hjos : js.length = os.length := by rw [hjo, hback.1]
  have hg1 : olds.length = g1.length := hr1.1
  let ps := js ++ List.range' b ns.length
  let gs := List.zipWith keepG os g1 ++ g2
  have hzl : (List.zipWith keepG os g1).length = js.length := by rw [List.length_zipWith, ← hjos, ← hg1, ← hjo]; simp
  have hpsn : ps.Nodup := list_nodup hnd hlt
  have hpsl : ∀ j ∈ ps, j < s.heap.length ∧ j < G.length := by
    intro j hj
    rw [← hI.len]
    rcases List.mem_append.1 hj with hj | hj
    · have := hlt j hj; omega
    · rw [List.mem_range'_1] at hj; omega
  have hnl : ns.length = g2.length := by rw [hns]; exact hr2.1
  have hH : putO b ns (backH js os s.heap) = backH ps (os ++ ns) s.heap := by
    rw [backH_append js _ os ns s.heap hjos]; rfl
  have hgat : ∀ (i : Nat) g, g2[i]? = some g → (g1 ++ g2)[js.length + i]? = some g ∧ (backG ps gs G)[b + i]? = some g := by
    intro i g hi
    have hil := lt_of_some hi
    refine ⟨by rw [List.getElem?_append_right (by omega), show js.length + i - g1.length = i by omega]; exact hi, ?_⟩
    refine backG_at ps gs G (js.length + i) (b + i) g hpsn ?_ ?_ ?_
    · show (js ++ List.range' b ns.length)[js.length + i]? = _
      rw [List.getElem?_append_right (by omega)]
      simp [hnl, hil]
    · show (List.zipWith keepG os g1 ++ g2)[js.length + i]? = _
      rw [List.getElem?_append_right (by omega), hzl]; simpa using hi
    · rw [← hI.len]; omega
  -- what is spoken of goes on
  have hup : Up G (backG ps gs G) := by
    intro q
    by_cases hq : q ∈ js
    · obtain ⟨i, hi⟩ := List.getElem?_of_mem hq
      have hil := lt_of_some hi
      have hz : ∃ g, (List.zipWith keepG os g1)[i]? = some g := ⟨_, List.getElem?_eq_getElem (by rw [hzl]; exact hil)⟩
      obtain ⟨g, hz⟩ := hz
      have hat : (backG ps gs G)[q]? = some g := by
        refine backG_at ps gs G i q g hpsn ?_ ?_ (hpsl q (List.mem_append.2 (.inl hq))).2
        · show (js ++ _)[i]? = _; rw [List.getElem?_append_left hil]; exact hi
        · show (_ ++ g2)[i]? = _; rw [List.getElem?_append_left (by rw [hzl]; exact hil)]; exact hz
      rw [List.getElem?_zipWith] at hz
      have ho1 : os[i]? = some (os[i]'(by omega)) := List.getElem?_eq_getElem _
      have hg1' : g1[i]? = some (g1[i]'(by omega)) := List.getElem?_eq_getElem _
      generalize os[i]'(by omega) = o1 at ho1
      generalize g1[i]'(by omega) = gg1 at hg1'
      rw [ho1, hg1'] at hz
      simp only [Option.some.injEq] at hz
      have hgc : (g1 ++ g2)[i]? = some gg1 := by rw [List.getElem?_append_left (by omega)]; exact hg1'
      have hu := hupc i
      rw [hgc] at hu
      rw [hat]
      cases o1 with
      | cells y =>
        simp only [keepG] at hz
        subst hz
        obtain ⟨oo, hoo, hbk⟩ := hback.get' ho1
        have hro := hr1.2 i oo gg1 hoo hg1'
        rcases hbk with hbk | ⟨l, y', rfl, _, _⟩
        · cases hbk
        · cases gg1 with
          | cells bb T vs0 =>
            refine ⟨fun hg => ?_, fun b0 T0 vs1 hg => ?_, fun ver val sz xs0 hg => ?_⟩
            · have := hu.1 (selG_get hi hg); cases this
            · rcases hu.2.1 _ _ _ (selG_get hi hg) with h1 | ⟨T', vs', h1⟩
              · cases h1
              · right; injection h1 with h1; injection h1 with h1 h2 h3; subst h1; exact ⟨T, vs0, rfl⟩
            · rcases hu.2.2 _ _ _ _ (selG_get hi hg) with h1 | ⟨_, _, _, h1⟩ <;> cases h1
          | _ => exact hro.elim
      | _ =>
        simp only [keepG] at hz
        subst hz
        exact ⟨fun _ => rfl, fun _ _ _ _ => .inl rfl, fun _ _ _ _ _ => .inl rfl⟩
    · by_cases hq2 : q ∈ List.range' b ns.length
      · rw [List.mem_range'_1] at hq2
        have hf := hI.fresh q hq2.1 (by rw [← hI.len]; omega)
        rw [hf]
        exact ⟨nofun, nofun, nofun⟩
      · have hqp : q ∉ ps := fun hm => (List.mem_append.1 hm).elim hq hq2
        rw [backG_other ps gs G q hqp]
        exact Up.refl G q
  -- the resources
  have hA : (resL os (List.zipWith keepG os g1) ++ resL ns g2).Sublist (resL out.2 (g1 ++ g2)) := by
    rw [ho, resL_append' hg1]
    have h1 := (back_keep hback hr1 (backG ps gs G)).2
    have h2 : resL ns g2 = resL rest g2 := by
      have hx' : All2 (RV1 (g1 ++ g2) Zc w') out.1 ys := ⟨by have := hx0.1; simpa using this, fun i a c ha hc => hx0.2 i (.v a) c (by simp [ha]) hc⟩
      exact (hvs (Gc := g1 ++ g2) (G'' := backG ps gs G) hx' hr2 hgat).2.2
    rw [h2]
    exact h1.append_right _
  have hperm := resL_back (js := ps) (os := os ++ ns) (h := s.heap) (gs := gs) (G := G) hpsn hpsl (by simp [ps, hjos]) (by simp [gs, hjos, hzl, hnl])
  have hB : (resL (kill js s.heap) (killG js G)).Perm (resL (sel0 (List.range' b ns.length) (kill js s.heap)) (selG (List.range' b ns.length) (killG js G)) ++ resL (kill ps s.heap) (killG ps G)) := by
    have := resL_sel (List.range' b ns.length) (kill js s.heap) (killG js G) List.nodup_range' (fun j hj => by rw [kill_length, killG_length]; exact hpsl j (List.mem_append.2 (.inr hj)))
    rw [show ps = js ++ List.range' b ns.length from rfl, kill_append, killG_append]; exact this
  have hgsl : resL (os ++ ns) gs = resL os (List.zipWith keepG os g1) ++ resL ns g2 := resL_append' (by rw [hzl, hjos])
  rw [hgsl] at hperm
  have hS1 := hfr.1.perm (hB.append_left (resL out.2 (g1 ++ g2)))
  have hsub : (resL os (List.zipWith keepG os g1) ++ resL ns g2 ++ resL (kill ps s.heap) (killG ps G)).Sublist (resL out.2 (g1 ++ g2) ++ (resL (sel0 (List.range' b ns.length) (kill js s.heap)) (selG (List.range' b ns.length) (killG js G)) ++ resL (kill ps s.heap) (killG ps G))) :=
    hA.append (List.sublist_append_right _ _)
  have hS := (hS1.sub hsub).perm hperm.symm
  -- what is known
  refine ⟨tupV vs', backH ps (os ++ ns) s.heap, backG ps gs G, by rw [← hH]; exact h, ?_, ?_, by rw [backH_length], hup⟩
  · refine ⟨hS.weak (relF_stable _ _ _) fun hh => ?_, fun j hj hjl => ?_, hI.mz⟩
    · obtain ⟨hc, hs⟩ := hh
      refine ⟨hs.1.mono fun _ _ _ q => q.up hup, ?_⟩
      have hc2 := hc.2
      rw [ho] at hc2
      have h1 : All2 (RO (g1 ++ g2) (zone w0 Z0 (resL (backH ps (os ++ ns) s.heap) (backG ps gs G))) w') olds g1 := by
        have := hc2.take olds.length
        rw [List.take_left, hg1, List.take_left] at this; exact this
      have h2 : All2 (RO (g1 ++ g2) (zone w0 Z0 (resL (backH ps (os ++ ns) s.heap) (backG ps gs G))) w') rest g2 := by
        have := hc2.drop olds.length
        rw [List.drop_left, hg1, List.drop_left] at this; exact this
      have hx' : All2 (RV1 (g1 ++ g2) (zone w0 Z0 (resL (backH ps (os ++ ns) s.heap) (backG ps gs G))) w') out.1 ys := ⟨by have := hc.1.1; simpa using this, fun i a c ha hc' => hc.1.2 i (.v a) c (by simp [ha]) hc'⟩
      refine back_all (hs.2.mono fun _ _ _ q => q.up hup) (All2.append (back_keep hback h1 _).1 (hvs hx' h2 hgat).2.1)
    · rw [backG_length] at hjl
      rw [backG_other ps gs G j ?_]
      · exact hI.fresh j (by omega) hjl
      · intro hm
        rcases List.mem_append.1 hm with hm | hm
        · have := hlt j hm; omega
        · rw [List.mem_range'_1] at hm; omega
  · obtain ⟨hc, hs⟩ := hS.per
    have hc2 := hc.2
    rw [ho] at hc2
    have h2 : All2 (RO (g1 ++ g2) (zone w0 Z0 (resL (backH ps (os ++ ns) s.heap) (backG ps gs G))) w') rest g2 := by
      have := hc2.drop olds.length
      rw [List.drop_left, hg1, List.drop_left] at this; exact this
    have hx' : All2 (RV1 (g1 ++ g2) (zone w0 Z0 (resL (backH ps (os ++ ns) s.heap) (backG ps gs G))) w') out.1 ys := ⟨by have := hc.1.1; simpa using this, fun i a c ha hc' => hc.1.2 i (.v a) c (by simp [ha]) hc'⟩
    have hfin := (hvs hx' h2 hgat).1
    match vs', hfin with
    | [], hfin => obtain rfl := hfin.nil_inv; exact ⟨[], rfl, All2.nil⟩
    | [x], hfin =>
      obtain ⟨y, ys', rfl, h1, h2⟩ := hfin.cons_inv
      obtain rfl := h2.nil_inv
      exact h1
    | x :: x' :: vs'', hfin =>
      have hl := hfin.1
      refine ⟨ys, ?_, hfin⟩
      rw [dif_neg]
      simp only [List.size_toArray, ← hl, List.length_cons]
      omega
end
end Go.Ab
namespace Go.Ab
open Go Go.Dk

section
variable {P : Program} {w0 w w' : World} {M Z0 : Zone} {b : Nat} {G : List GO} {s : AS} {tv : List Value} {r : List V1 × List AObj}
/-- Behind an operation. -/
def StepTo (w0 : World) (M Z0 : Zone) (b' : Nat) (G : List GO) (s : AS) (tv : List Value) (d : Option Tmp) (k : AV → List AObj → OR) (r : List V1 × List AObj) (a' : Act) (w' : World) : Prop :=
  ∃ v h' G' tv', k v h' = some r ∧ a' = ⟨tv'.toArray, []⟩ ∧ InvG w0 M Z0 b' G' (AS.put ⟨s.tmps, h'⟩ d v) tv' w' ∧ h'.length = s.heap.length ∧ Up G G' ∧ ∃ X, tv' = (match d with | some d => tv.set d X | none => tv)
theorem put_act (tv : List Value) (d : Option Tmp) (X : Value) : (Act.mk tv.toArray []).put d X = ⟨(match d with | some d => tv.set d X | none => tv).toArray, []⟩ := by
  cases d with
  | none => rfl
  | some d => simp [Act.put]
theorem getD_rel {α β : Type} {R : α → β → Prop} {l : List α} {m : List β} {da : α} {db : β} (h : All2 R l m) (hd : ∀ y, R da y) (i : Nat) : R (l.getD i da) (m.getD i db) := by
  cases hi : l[i]? with
  | none => simp only [List.getD, hi, Option.getD_none]; exact hd _
  | some a => obtain ⟨y, hy, hr⟩ := h.get hi; simp only [List.getD, hi, hy, Option.getD_some]; exact hr
theorem InvG.ev (hI : InvG w0 M Z0 b G s tv w) (x : Operand) : RV G (zn w0 Z0 s G) w (s.ev x) (Act.eval ⟨tv.toArray, []⟩ x) := by
  cases x with
  | tmp t => rw [evalT]; exact getD_rel hI.st.per.1 any_rel t
  | const v => exact ofValue_rel v
  | global g => exact any_rel _
  | func f => exact ⟨⟨[], rfl, All2.nil⟩, fun _ => rfl⟩
theorem value_to {o : Oper} {k : AV → List AObj → OR} {b' : Nat} {G' : List GO} {h' : List AObj} {v : AV} {X : Value} {Q : Exit → Act → World → Prop} (hr : (execOp (Act.eval ⟨tv.toArray, []⟩) o).run P w = .ok (.value X) w') (hk : k v h' = some r)
    (hI : InvG w0 M Z0 b' G' ⟨s.tmps, h'⟩ tv w') (hv : RV G' (zn w0 Z0 ⟨s.tmps, h'⟩ G') w' v X) (hl : h'.length = s.heap.length) (hu : Up G G') : o.wp P ⟨tv.toArray, []⟩ w (StepTo w0 M Z0 b' G s tv o.dst k r) Q := by
  simp only [Oper.wp, hr, Oper.upon]
  exact ⟨v, h', G', _, hk, put_act _ _ _, hI.put o.dst hv, hl, hu, X, by cases o.dst <;> rfl⟩
/-- An operation that leaves all as it is. -/
theorem value_same {o : Oper} {k : AV → List AObj → OR} {b' : Nat} {v : AV} {X : Value} {Q : Exit → Act → World → Prop} (hI : InvG w0 M Z0 b G s tv w) (hb : b ≤ b') (hr : (execOp (Act.eval ⟨tv.toArray, []⟩) o).run P w = .ok (.value X) w) (hk : k v s.heap = some r)
    (hv : RV G (zn w0 Z0 s G) w v X) : o.wp P ⟨tv.toArray, []⟩ w (StepTo w0 M Z0 b' G s tv o.dst k r) Q :=
  value_to hr hk (hI.raise hb) hv rfl (Up.refl G)
theorem call_to {o : Oper} {k : AV → List AObj → OR} {b' : Nat} {f : FuncId} {args : Array Value} {Q : Exit → Act → World → Prop} (hr : (execOp (Act.eval ⟨tv.toArray, []⟩) o).run P w = .ok (.enter f args) w)
    (hc : Calls P f args w fun e w' => ∃ X, e = .returned X ∧ ∃ v h' G', k v h' = some r ∧ InvG w0 M Z0 b' G' ⟨s.tmps, h'⟩ tv w' ∧ RV G' (zn w0 Z0 ⟨s.tmps, h'⟩ G') w' v X ∧ h'.length = s.heap.length ∧ Up G G') :
    o.wp P ⟨tv.toArray, []⟩ w (StepTo w0 M Z0 b' G s tv o.dst k r) Q := by
  simp only [Oper.wp, hr, Oper.upon]
  refine hc.mono fun e w' ⟨X, he, v, h', G', hk, hI, hv, hl, hu⟩ => ?_
  subst he
  exact ⟨v, h', G', _, hk, put_act _ _ _, hI.put o.dst hv, hl, hu, X, by cases o.dst <;> rfl⟩
theorem v1L_sound {Z : Zone} : ∀ {vs : List AV} {Xs : List Value} {l : List V1}, v1L vs = some l → All2 (RV G Z w) vs Xs → All2 (RV1 G Z w) l Xs
  | [], Xs, l, h, ha => by
    obtain rfl := ha.nil_inv
    simp only [v1L, Option.some.injEq] at h; subst h; exact All2.nil
  | .v x :: vs, Xs, l, h, ha => by
    obtain ⟨X, Xs', rfl, h1, h2⟩ := ha.cons_inv
    simp only [v1L, Option.map_eq_some_iff] at h
    obtain ⟨l', hl, rfl⟩ := h
    exact All2.cons h1 (v1L_sound hl h2)
  | .tup _ :: vs, Xs, l, h, ha => by simp [v1L] at h
theorem InvG.evL (hI : InvG w0 M Z0 b G s tv w) (l : List Operand) : All2 (RV G (zn w0 Z0 s G) w) (l.map s.ev) (l.map (Act.eval ⟨tv.toArray, []⟩)) :=
  ⟨by simp, fun i x y hx hy => by
    rw [List.getElem?_map] at hx hy
    obtain ⟨q, hq, rfl⟩ := Option.map_eq_some_iff.1 hx
    rw [hq] at hy
    obtain rfl := Option.some.inj hy
    exact hI.ev q⟩
theorem callB_fn {f : FuncId} (h : callB P f = true) : ∃ fn, P.funcs[f]? = some fn ∧ fn.body.isSome = true := by
  unfold callB at h
  split at h
  · rename_i fn hf
    simp only [Bool.and_eq_true] at h
    exact ⟨fn, hf, h.2⟩
  · cases h
theorem callK_sound {F : Callee} {D : Dec} (hF : CallsOK P F) (hI : InvG w0 M Z0 b G s tv w) {f : FuncId} {rm : Nat} {k : AV → List AObj → OR} {vs : List V1} {xs : List Value}
    (hv : All2 (RV1 G (zn w0 Z0 s G) w) vs xs) (hb : b + rm ≤ s.heap.length) (h : callK P F D f vs s.heap b rm k = some r) :
    callB P f = true ∧ Calls P f xs.toArray w fun e w' => ∃ X, e = .returned X ∧ ∃ v h' G', k v h' = some r ∧ InvG w0 M Z0 (b + rm) G' ⟨s.tmps, h'⟩ tv w' ∧ RV G' (zn w0 Z0 ⟨s.tmps, h'⟩ G') w' v X ∧ h'.length = s.heap.length ∧ Up G G' := by
  unfold callK at h
  split at h
  · cases h
  · rename_i fn hfn
    replace h := cond_left h; obtain ⟨hcb, h⟩ := h
    refine ⟨hcb, ?_⟩
    obtain ⟨fn', hfn', hbody⟩ := callB_fn hcb
    rw [hfn] at hfn'
    obtain rfl := Option.some.inj hfn'
    rcases cond_some h with ⟨_, h⟩ | ⟨_, h⟩
    · exact callGo_sound hF hfn hbody hI hv hb h
    · obtain ⟨vs', h1, h2, hs, hv'⟩ := sealVs_sound hI hv h
      have hl : h1.length = s.heap.length := by have := hs.inv.len; have := hI.len; simp at *; omega
      have := callGo_sound hF hfn hbody hs.inv hv' (by rw [show (AS.mk s.tmps h1).heap.length = h1.length from rfl, hl]; exact hb) h2
      refine this.mono fun e w' ⟨X, he, v, h', G', q1, q2, q3, q4, q5⟩ => ⟨X, he, v, h', G', q1, q2, q3, by rw [q4]; exact hl, q5⟩
theorem two_of {args : Array Operand} {X Y : AV} (h : args.toList.map s.ev = [X, Y]) : ∃ x y, args = #[x, y] ∧ s.ev x = X ∧ s.ev y = Y := by
  obtain ⟨l⟩ := args
  match l, h with
  | [x, y], h => exact ⟨x, y, rfl, by simpa using h⟩
theorem builtin_sound {D : Dec} (hI : InvG w0 M Z0 b G s tv w) {bi : Builtin} {args : Array Operand} {tys : Array TypeId} {dst : Option Tmp} {ty : TypeId} {pos : String} {aft : Array Edge} {gd : Option (Nat × Bool)} {k : AV → List AObj → OR} {Q : Exit → Act → World → Prop}
    (hb : b + nObj P D ⟨dst, .call ⟨.builtin bi, args, tys⟩, ty, pos, aft, gd⟩ ≤ s.heap.length) (h : evBuiltin P bi (args.toList.map s.ev) tys.toList s.heap b k = some r) :
    (Oper.mk dst (.call ⟨.builtin bi, args, tys⟩) ty pos aft gd).wp P ⟨tv.toArray, []⟩ w (StepTo w0 M Z0 (b + nObj P D ⟨dst, .call ⟨.builtin bi, args, tys⟩, ty, pos, aft, gd⟩) G s tv dst k r) Q := by
  have hE := hI.ev
  have hle := Nat.le_add_right b (nObj P D ⟨dst, .call ⟨.builtin bi, args, tys⟩, ty, pos, aft, gd⟩)
  have one : ∀ {X : AV}, args.toList.map s.ev = [X] → ∃ x, args = #[x] ∧ s.ev x = X := by
    intro X h
    obtain ⟨l⟩ := args
    match l, h with
    | [x], h => exact ⟨x, rfl, by simpa using h⟩
  have two : ∀ {X Y : AV}, args.toList.map s.ev = [X, Y] → ∃ x y, args = #[x, y] ∧ s.ev x = X ∧ s.ev y = Y := by
    intro X Y h
    obtain ⟨l⟩ := args
    match l, h with
    | [x, y], h => exact ⟨x, y, rfl, by simpa using h⟩
  unfold evBuiltin at h
  split at h
  · rename_i X t ha ht
    obtain ⟨x, rfl, rfl⟩ := one ha
    have ht : tys = #[t] := by rw [← Array.toList_inj, ht]
    subst ht
    obtain ⟨v, Y, hk, hr, hv⟩ := evLen_sound (d := dst) (ty := ty) (pos := pos) (aft := aft) (gd := gd) hI (hE x) h
    exact value_same hI hle hr hk hv.rv
  · rename_i X Y t t' ha ht
    obtain ⟨x, y, rfl, rfl, rfl⟩ := two ha
    replace h := cond_left h; obtain ⟨htt, h⟩ := h
    simp only [Nat.beq_eq] at htt
    subst htt
    have ht : tys = #[t, t] := by rw [← Array.toList_inj, ht]
    subst ht
    have hb' : b < G.length := by rw [← hI.len]; simp only [nObj] at hb; omega
    obtain ⟨v, h', G', w', X, hk, hr, h1, h2, h3, h4⟩ := evAppend_sound (d := dst) (ty := ty) (pos := pos) (aft := aft) (gd := gd) hI hb' (hE x) (hE y) h
    exact value_to hr hk h1 h2.rv h3 h4
  · rename_i X Y ha
    obtain ⟨x, y, rfl, rfl, rfl⟩ := two ha
    obtain ⟨v, X, hk, hr, hv⟩ := evMax_sound (mx := true) (tys := tys) (d := dst) (ty := ty) (pos := pos) (aft := aft) (gd := gd) (P := P) (w := w) (hE x) (hE y) h
    exact value_same hI hle hr hk hv.rv
  · rename_i X Y ha
    obtain ⟨x, y, rfl, rfl, rfl⟩ := two ha
    obtain ⟨v, X, hk, hr, hv⟩ := evMax_sound (mx := false) (tys := tys) (d := dst) (ty := ty) (pos := pos) (aft := aft) (gd := gd) (P := P) (w := w) (hE x) (hE y) h
    exact value_same hI hle hr hk hv.rv
  · cases h
theorem closure_sound {F : Callee} {D : Dec} (hF : CallsOK P F) (hI : InvG w0 M Z0 b G s tv w) {x : Operand} {args : Array Operand} {tys : Array TypeId} {dst : Option Tmp} {ty : TypeId} {pos : String} {aft : Array Edge} {gd : Option (Nat × Bool)} {k : AV → List AObj → OR} {Q : Exit → Act → World → Prop} {rm : Nat}
    (hb : b + rm ≤ s.heap.length) (h : (match s.ev x with
      | .v (.one (.fn f l)) => (v1L (args.toList.map s.ev)).bind fun vs => callK P F D f (vs ++ l.map fun j => .one (.ptr j 0)) s.heap b rm k
      | _ => none) = some r) :
    (Oper.mk dst (.call ⟨.value x, args, tys⟩) ty pos aft gd).wp P ⟨tv.toArray, []⟩ w (StepTo w0 M Z0 (b + rm) G s tv dst k r) Q := by
  split at h
  · rename_i f l hx
    have hX := hI.ev x
    rw [hx] at hX
    obtain ⟨⟨bs, hX, hh⟩, _⟩ := hX
    replace h := bind_some h; obtain ⟨vs, hvs, h⟩ := h
    have hcaps : All2 (RV1 G (zn w0 Z0 s G) w) (l.map fun j => V1.one (.ptr j 0)) (bs.map fun b => pv b 0) := by
      refine ⟨by simp [hh.1], fun i a c ha hc => ?_⟩
      rw [List.getElem?_map] at ha hc
      obtain ⟨j, hj, rfl⟩ := Option.map_eq_some_iff.1 ha
      obtain ⟨bb, hbb, rfl⟩ := Option.map_eq_some_iff.1 hc
      refine ⟨?_, fun _ => rfl⟩
      rcases hh.2 i j bb hj hbb with h1 | ⟨T, vs, h1⟩
      · exact .inl h1
      · exact .inr ⟨bb, T, vs, h1, rfl⟩
    obtain ⟨hcb, hc⟩ := callK_sound hF hI (All2.append (v1L_sound hvs (hI.evL args.toList)) hcaps) hb h
    refine call_to (f := f) (args := (args.toList.map (Act.eval ⟨tv.toArray, []⟩) ++ bs.map fun b => pv b 0).toArray) ?_ hc
    have := run_call_op (P := P) (ρ := Act.eval ⟨tv.toArray, []⟩) (f := f) (x := x) (first := #[]) (cap := (bs.map fun b => pv b 0).toArray) (xs := args) (ats := tys) (d := dst) (ty := ty) (pos := pos) (aft := aft) (gd := gd) hX hcb w
    rw [this]
    congr 2
    exact Array.toList_inj.1 (by simp)
  · cases h
theorem evOp_sound {F : Callee} {D : Dec} (hF : CallsOK P F) (hib : ∀ f, D.ib f = true → extIB P f) (hI : InvG w0 M Z0 b G s tv w) {o : Oper} {k : AV → List AObj → OR} {Q : Exit → Act → World → Prop}
    (hb : b + nObj P D o ≤ s.heap.length) (h : evOp P F D o s.ev s.heap b k = some r) : o.wp P ⟨tv.toArray, []⟩ w (StepTo w0 M Z0 (b + nObj P D o) G s tv o.dst k r) Q := by
  have hE := hI.ev
  obtain ⟨dst, op, ty, pos, aft, gd⟩ := o
  have hle := Nat.le_add_right b (nObj P D ⟨dst, op, ty, pos, aft, gd⟩)
  cases op <;> simp only [evOp] at h
  case move x => exact value_same hI hle ((Y_move (S := fun _ => True) rfl).out w trivial) h (retype_rel _ (hE x))
  case assign x => exact value_same hI hle ((Y_assign (S := fun _ => True) rfl).out w trivial) h (retype_rel _ (hE x))
  case pick c x y =>
    split at h
    · rename_i t hc
      have hcv := hE c
      rw [hc] at hcv
      rcases cond_some h with ⟨rfl, h⟩ | ⟨rfl, h⟩
      · exact value_same hI hle ((Y_pickT (S := fun _ => True) (bool_inv hcv) rfl).out w trivial) h (hE x)
      · exact value_same hI hle ((Y_pickF (S := fun _ => True) (bool_inv hcv) rfl).out w trivial) h (hE y)
    · cases h
  case alloc e =>
    replace h := bind_some h; obtain ⟨z, hz, h⟩ := h
    obtain ⟨cs, hzb, hzr⟩ := zeroS_out hz
    have hb' : b < G.length := by rw [← hI.len]; simp only [nObj] at hb; omega
    obtain ⟨h1, h2, h3⟩ := newCells hI hb' (hzr G _ w) e
    exact value_to (run_alloc hzb) h h1 h2 (by simp) h3
  case box e x =>
    replace h := bind_some h; obtain ⟨c, hc, h⟩ := h
    obtain ⟨xs, hX, hr⟩ := cs_sound hc (hE x)
    have hb' : b < G.length := by rw [← hI.len]; simp only [nObj] at hb; omega
    obtain ⟨h1, h2, h3⟩ := newCells hI hb' hr e
    exact value_to (run_box hX) h h1 h2 (by simp) h3
  case build t ps =>
    obtain ⟨v, X, hk, hr, hv⟩ := evBuild_sound (ρ := Act.eval ⟨tv.toArray, []⟩) (d := dst) (ty := ty) (pos := pos) (aft := aft) (gd := gd) hE h
    exact value_same hI hle hr hk hv
  case buildSlice t n ps =>
    have hb' : b < G.length := by rw [← hI.len]; simp only [nObj] at hb; omega
    obtain ⟨v, h', G', w', X, hk, hr, h1, h2, h3, h4⟩ := evBuildSlice_sound (ρ := Act.eval ⟨tv.toArray, []⟩) (d := dst) (ty := ty) (pos := pos) (aft := aft) (gd := gd) hI hb' hE h
    exact value_to hr hk h1 h2 h3 h4
  case load t x =>
    obtain ⟨v, X, hk, hr, hv⟩ := evLoad_sound (d := dst) (ty := ty) (pos := pos) (aft := aft) (gd := gd) hI (hE x) h
    exact value_same hI hle hr hk hv
  case store t x y =>
    obtain ⟨h', G', w', hk, hr, h1, h2, h3⟩ := evStore_sound (d := dst) (ty := ty) (pos := pos) (aft := aft) (gd := gd) hI (hE x) (hE y) h
    simp only [Oper.wp, hr, Oper.upon]
    exact ⟨anyV, h', G', _, hk, put_act _ _ _, (h1.raise hle).put dst (any_rel _), h2, h3, undef, by cases dst <;> rfl⟩
  case nilCheck x =>
    obtain ⟨v, X, hk, hr, hv⟩ := evNil_sound (d := dst) (ty := ty) (pos := pos) (aft := aft) (gd := gd) hI (hE x) h
    exact value_same hI hle hr hk hv.rv
  case binOp op t x y t' =>
    obtain ⟨v, X, hk, hr, hv⟩ := evBin_sound (d := dst) (ty := ty) (pos := pos) (aft := aft) (gd := gd) (t' := t') (P := P) (w := w) (hE x) (hE y) h
    exact value_same hI hle hr hk hv.rv
  case unOp op t x =>
    obtain ⟨v, X, hk, hr, hv⟩ := evUn_sound (d := dst) (ty := ty) (t := t) (pos := pos) (aft := aft) (gd := gd) (P := P) (w := w) (hE x) h
    exact value_same hI hle hr hk hv.rv
  case convert t t' x =>
    obtain ⟨v, X, hk, hr, hv⟩ := evConv_sound (d := dst) (ty := ty) (pos := pos) (aft := aft) (gd := gd) hI (hE x) h
    exact value_same hI hle hr hk hv.rv
  case makeFunc fn first caps =>
    split at h
    · rename_i f hfirst
      replace h := bind_some h; obtain ⟨l, hl, h⟩ := h
      obtain ⟨bs, hbs, hh⟩ := capsOf_sound hI (hI.evL caps.toList) hl
      have hf : first = #[] := by cases first; simp_all
      subst hf
      have hr : (execOp (Act.eval ⟨tv.toArray, []⟩) ⟨dst, .makeFunc (.func f) #[] caps, ty, pos, aft, gd⟩).run P w = .ok (.value (.func (.func f) #[] (bs.map fun b => pv b 0).toArray)) w := by
        have := (Y_makeFunc (P := P) (S := fun _ => True) (ρ := Act.eval ⟨tv.toArray, []⟩) (d := dst) (ty := ty) (pos := pos) (aft := aft) (gd := gd) (fn := .func f) (first := []) (cap := caps.toList) (vf := []) (vc := bs.map fun b => pv b 0) rfl hbs).out w trivial
        simpa using this
      exact value_same hI hle hr h ⟨⟨bs, rfl, hh⟩, fun _ => rfl⟩
    · cases h
  case makeSlice t x y =>
    have hb' : b < G.length := by rw [← hI.len]; simp only [nObj] at hb; omega
    obtain ⟨v, h', G', w', X, hk, hr, h1, h2, h3, h4⟩ := evMake_sound (ρ := Act.eval ⟨tv.toArray, []⟩) (d := dst) (ty := ty) (pos := pos) (aft := aft) (gd := gd) hI hb' (hE x) (hE y) h
    exact value_to hr hk h1 h2.rv h3 h4
  case slice t x lo hi mx =>
    obtain ⟨v, h', X, hk, hr, hs, hv⟩ := evSlice_sound (ρ := Act.eval ⟨tv.toArray, []⟩) (d := dst) (ty := ty) (pos := pos) (aft := aft) (gd := gd) hI hE h
    exact value_to hr hk (hs.inv.raise hle) hv.rv (by have := hs.inv.len; have := hI.len; simp at *; omega) (Up.refl G)
  case fieldAddr t x i =>
    replace h := bind_some h; obtain ⟨D, hD, h⟩ := h
    obtain ⟨v, X, hk, hr, hv⟩ := evField_sound (d := dst) (ty := ty) (pos := pos) (aft := aft) (gd := gd) hI (hE x) hD h
    exact value_same hI hle hr hk hv.rv
  case indexAddr t x y =>
    obtain ⟨v, X, hk, hr, hv⟩ := evIndexAddr_sound (d := dst) (ty := ty) (pos := pos) (aft := aft) (gd := gd) hI (hE x) (hE y) h
    exact value_same hI hle hr hk hv.rv
  case index t x y =>
    obtain ⟨v, X, hk, hr, hv⟩ := evIndex_sound (d := dst) (ty := ty) (pos := pos) (aft := aft) (gd := gd) (P := P) (w := w) (hE x) (hE y) h
    exact value_same hI hle hr hk hv.rv
  case extract x i =>
    obtain ⟨v, X, hk, hr, hv⟩ := evExtract_sound (d := dst) (ty := ty) (pos := pos) (aft := aft) (gd := gd) (P := P) (w := w) (hE x) h
    exact value_same hI hle hr hk hv
  case call c =>
    obtain ⟨callee, args, tys⟩ := c
    cases callee with
    | builtin bi =>
      exact builtin_sound hI hb h
    | invoke q m => simp at h
    | value f =>
      cases f with
      | func f =>
        simp only at h
        rcases cond_some h with ⟨hi, h⟩ | ⟨_, h⟩
        · split at h
          · rename_i a n hargs
            obtain ⟨hn, hk⟩ := cond_left h
            simp only [Bool.and_eq_true, decide_eq_true_eq] at hn
            obtain ⟨x, y, rfl, e1, e2⟩ := two_of hargs
            have h1 := hE x
            have h2 := hE y
            rw [e1] at h1
            rw [e2] at h2
            have hy : Act.eval ⟨tv.toArray, []⟩ y = .int .u8 ((UInt8.ofNat n.toNat).toNat : Int) := by rw [u8_back hn.1 hn.2]; exact int_inv h2
            exact value_same hI hle ((Y_indexByte (S := fun _ => True) (hib f hi) (str_inv h1) hy rfl).out w trivial) hk (int_one _ _).rv
          · cases h
        · replace h := bind_some h; obtain ⟨vs, hvs, h⟩ := h
          obtain ⟨hcb, hc⟩ := callK_sound hF hI (v1L_sound hvs (hI.evL args.toList)) hb h
          refine call_to (f := f) (args := (args.toList.map (Act.eval ⟨tv.toArray, []⟩)).toArray) ?_ hc
          have := run_call_op (P := P) (ρ := Act.eval ⟨tv.toArray, []⟩) (f := f) (x := .func f) (first := #[]) (cap := #[]) (xs := args) (ats := tys) (d := dst) (ty := ty) (pos := pos) (aft := aft) (gd := gd) rfl hcb w
          rw [this]
          congr 2
          exact Array.toList_inj.1 (by simp)
      | tmp t => exact closure_sound hF hI hb h
      | const v => exact closure_sound hF hI hb h
      | global g => exact closure_sound (D := D) hF hI hb h
  all_goals cases h
end
end Go.Ab
namespace Go.Ab
open Go Go.Dk

section
variable {P : Program} {w0 w w' : World} {M Z0 : Zone} {b : Nat} {G : List GO} {s : AS} {tv : List Value} {r : List V1 × List AObj}
theorem wantK_sound (hI : InvG w0 M Z0 b G s tv w) {ops : List Oper} {o : Oper} {yes no : AS → OR} (h : wantK ops s o.guard yes no = some r) :
    (Region.wanted o (yielded ops.toArray tv.toArray) = true ∧ ∃ s', yes s' = some r ∧ InvG w0 M Z0 b G s' tv w ∧ s'.heap = s.heap) ∨
    (Region.wanted o (yielded ops.toArray tv.toArray) = false ∧ ∃ s', no s' = some r ∧ InvG w0 M Z0 b G s' tv w ∧ s'.heap = s.heap) := by
  unfold wantK at h
  split at h
  · rename_i hg
    exact .inl ⟨by simp [Region.wanted, hg], s, h, hI, rfl⟩
  · rename_i j want hg
    split at h
    · rename_i d hd
      split at h
      · rename_i bb hb
        have hdl : s.tmps[d]? = some (.v (.one (.bool bb))) := by
          cases hs : s.tmps[d]? with
          | none => simp [List.getD, hs, anyV] at hb
          | some v => simp [List.getD, hs] at hb; rw [hb]
        obtain ⟨X, hX, hr⟩ := hI.st.per.1.get hdl
        have hX' := bool_inv hr
        subst hX'
        have hy : yielded ops.toArray tv.toArray j = some bb := by
          have hd' : (ops.toArray[j]?).bind (·.dst) = some d := by simpa using hd
          simp only [yielded, hd', Option.bind_some]
          have : tv.toArray[d]? = some (.bool bb) := by simpa using hX
          rw [this]
        have hput : ∀ c, c = bb → InvG w0 M Z0 b G (s.put (some d) (boolV c)) tv w := by
          rintro c rfl
          have := hI.put (some d) (v := boolV c) (X := .bool c) ⟨rfl, fun _ => rfl⟩
          simp only at this
          rw [set_same hX] at this
          exact this
        have hw : Region.wanted o (yielded ops.toArray tv.toArray) = (bb == want) := by
          simp only [Region.wanted, hg, hy]; rfl
        cases bb <;> cases want <;> simp only [cond_true, cond_false] at h
        · exact .inl ⟨hw, _, h, hput _ rfl, rfl⟩
        · exact .inr ⟨hw, _, h, hput _ rfl, rfl⟩
        · exact .inr ⟨hw, _, h, hput _ rfl, rfl⟩
        · exact .inl ⟨hw, _, h, hput _ rfl, rfl⟩
      · rename_i hb
        have hdl : s.tmps[d]? = some (.tup []) := by
          cases hs : s.tmps[d]? with
          | none => simp [List.getD, hs, anyV] at hb
          | some v => simp [List.getD, hs] at hb; rw [hb]
        obtain ⟨X, hX, xs, hXe, hr⟩ := hI.st.per.1.get hdl
        obtain rfl := hr.nil_inv
        subst hXe
        have hy : yielded ops.toArray tv.toArray j = none := by
          have hd' : (ops.toArray[j]?).bind (·.dst) = some d := by simpa using hd
          simp only [yielded, hd', Option.bind_some]
          have : tv.toArray[d]? = some (.tuple #[]) := by simpa using hX
          rw [this]
        have hw : Region.wanted o (yielded ops.toArray tv.toArray) = false := by
          simp only [Region.wanted, hg, hy]; rfl
        exact .inr ⟨hw, s, h, hI, rfl⟩
      · cases h
    · cases h
theorem Y_nilEq {o : Oper} {t t' : TypeId} {x : Operand} {a : Option Addr} {n c : Nat} {ρ : Operand → Value} (ho : o.op = .binOp .eql t x (.const (.slice none 0 0)) t') (hk : (kindS P t).isSome = true) (hx : ρ x = .slice a n c) (hy : ρ (.const (.slice none 0 0)) = .slice none 0 0) :
    (execOp ρ o).run P w = .ok (.value (.bool a.isNone)) w := by
  obtain ⟨e, he⟩ : ∃ e, P.underlying t = some (.slice e) := by
    unfold kindS at hk
    split at hk
    · exact ⟨_, ‹_›⟩
    · cases hk
  have hq : (Op.equal t (.slice a n c) (.slice none 0 0)).run P w = .ok a.isNone w := by
    unfold Op.equal
    rw [show Op.maxDepth = 9999 + 1 from rfl, Op.equalIn]
    cases a <;> simp [Sem.run_bind, run_underlying he]
  obtain ⟨dst, op, ty, pos, aft, gd⟩ := o
  simp only at ho
  subst ho
  simp only [execOp, hx, hy, eqGuard, binOp, Sem.run_bind]
  simp [hq, Sem.run_bind]
theorem und_rel {Z : Zone} : RV G Z w undV undef := ⟨[], rfl, All2.nil⟩
theorem nilQ_out {o : Oper} {ρ : Operand → AV} {m : Nat} (h : nilQ P o ρ = some m) : ∃ t x t', o.op = .binOp .eql t x (.const (.slice none 0 0)) t' ∧ (kindS P t).isSome = true ∧ ∃ d, ρ x = .v (.one (.fr d)) ∧ m = d.len := by
  unfold nilQ at h
  split at h
  · rename_i t x t' ho
    split at h
    · rename_i e d hk hx
      exact ⟨t, x, t', ho, by rw [hk]; rfl, d, hx, (Option.some.inj h).symm⟩
    · cases h
  · cases h
theorem evOps_sound {F : Callee} {D : Dec} (hF : CallsOK P F) (hib : ∀ f, D.ib f = true → extIB P f) {ops : List Oper} {k : AS → OR} {Q : Exit → Act → World → Prop} : ∀ {l : List Oper} {b : Nat} {s : AS} {G : List GO} {tv : List Value} {w : World},
    InvG w0 M Z0 b G s tv w → b + room P D l ≤ s.heap.length → evOps P F D ops l b s k = some r →
    (∀ s' G' tv' w', k s' = some r → InvG w0 M Z0 s'.heap.length G' s' tv' w' → Up G G' → Q .normal ⟨tv'.toArray, []⟩ w') → wpList P ops.toArray Q l ⟨tv.toArray, []⟩ w
  | [], b, s, G, tv, w, hI, hb, h, hQ => hQ s G tv w h (hI.raise (by simp only [room] at hb; omega)) (Up.refl G)
  | o :: l, b, s, G, tv, w, hI, hb, h, hQ => by
    simp only [room] at hb
    unfold evOps at h
    unfold wpList
    rcases wantK_sound hI h with ⟨hw, s', h, hI', hh⟩ | ⟨hw, s', h, hI', hh⟩
    · rw [if_pos hw]
      split at h
      · rename_i m hm
        have hput : ∀ (d : Option Tmp) (s : AS) (v : AV), (s.put d v).heap = s.heap := fun d s v => by cases d <;> rfl
        obtain ⟨t, x, t', hop, hk, d, hx, rfl⟩ := nilQ_out hm
        have hxr := hI'.ev x
        rw [hx] at hxr
        obtain ⟨⟨a, c, xs, hX, hc1, hc2, hel, hnz⟩, _⟩ := hxr
        obtain ⟨dst, op, ty, pos, aft, gd⟩ := o
        simp only at hop
        subst hop
        have hrun := Y_nilEq (P := P) (o := ⟨dst, .binOp .eql t x (.const (.slice none 0 0)) t', ty, pos, aft, gd⟩) (w := w) (ρ := Act.eval ⟨tv.toArray, []⟩) rfl hk hX rfl
        have key : ∀ bb, a.isNone = bb → evOps P F D ops l (b + nObj P D ⟨dst, .binOp .eql t x (.const (.slice none 0 0)) t', ty, pos, aft, gd⟩) (s'.put dst (boolV bb)) k = some r →
            Oper.wp P ⟨dst, .binOp .eql t x (.const (.slice none 0 0)) t', ty, pos, aft, gd⟩ ⟨tv.toArray, []⟩ w (fun a' w' => wpList P ops.toArray Q l a' w') Q := by
          intro bb hbb h
          refine Oper.wp_mono (fun a' w' hst => ?_) (value_same (k := fun v h => evOps P F D ops l (b + nObj P D ⟨dst, .binOp .eql t x (.const (.slice none 0 0)) t', ty, pos, aft, gd⟩) (({ s' with heap := h } : AS).put dst v) k) (v := boolV bb) (Q := Q) hI' (Nat.le_add_right b (nObj P D ⟨dst, .binOp .eql t x (.const (.slice none 0 0)) t', ty, pos, aft, gd⟩)) hrun h (by rw [hbb]; exact ⟨rfl, fun _ => rfl⟩))
          obtain ⟨v, h', G', tv', hk, rfl, hI2, hl, hu, _⟩ := hst
          refine evOps_sound hF hib (k := k) hI2 ?_ hk fun s2 G2 tv2 w2 h2 hI3 hu2 => hQ s2 G2 tv2 w2 h2 hI3 (hu.trans hu2)
          rw [hput]; show _ ≤ h'.length; rw [hl, hh]; omega
        refine .inl ?_
        rcases cond_some h with ⟨hm0, h⟩ | ⟨hm0, h⟩
        · obtain ⟨h1, h2⟩ := same_out h
          cases hb : a.isNone with
          | true => exact key true hb h1
          | false => exact key false hb h2
        · refine key false ?_ h
          rcases hnz with hnz | ⟨ab, ao, ha, _⟩
          · have := hel.length
            rw [hnz] at this
            simp only [List.length_nil] at this
            have hd0 : d.len ≠ 0 := fun e => by rw [e] at hm0; cases hm0
            have hkz : 0 < d.kind.size := by cases d <;> simp [SD.kind, SK.size]
            have := Nat.mul_pos (Nat.pos_of_ne_zero hd0) hkz
            omega
          · rw [ha]; rfl
      refine .inl (Oper.wp_mono (fun a' w' hst => ?_) (evOp_sound (Q := Q) hF hib hI' (by rw [hh]; omega) h))
      obtain ⟨v, h', G', tv', hk, rfl, hI2, hl, hu, _⟩ := hst
      have hput : ∀ (d : Option Tmp) (s : AS) (v : AV), (s.put d v).heap = s.heap := fun d s v => by cases d <;> rfl
      refine evOps_sound hF hib (k := k) hI2 ?_ hk fun s2 G2 tv2 w2 h2 hI3 hu2 => hQ s2 G2 tv2 w2 h2 hI3 (hu.trans hu2)
      rw [hput]; show _ ≤ h'.length; rw [hl, hh]; omega
    · rw [if_neg (by simp [hw])]
      rw [put_act]
      have hput : ∀ (d : Option Tmp) (s : AS) (v : AV), (s.put d v).heap = s.heap := fun d s v => by cases d <;> rfl
      exact evOps_sound hF hib (k := k) ((hI'.put o.dst und_rel).raise (Nat.le_add_right _ _)) (by rw [hput, hh]; omega) h hQ
theorem resL_grow (h : List AObj) (G : List GO) (n : Nat) (hl : h.length = G.length) : resL (h ++ List.replicate n .dead) (G ++ List.replicate n .fresh) = resL h G := by
  rw [resL_append hl, resL_dead, List.append_nil]
theorem InvG.grow (hI : InvG w0 M Z0 b G s tv w) (n : Nat) : InvG w0 M Z0 s.heap.length (G ++ List.replicate n .fresh) (grow n s) tv w := by
  have hr := resL_grow s.heap G n hI.len
  refine ⟨?_, fun j hj hl => ?_, hI.mz⟩
  · have := hI.st
    rw [← hr] at this
    refine this.weak (relF_stable _ _ _) fun hh => ⟨hh.1.mono fun _ _ _ q => q.up (Up.append _ _), ?_⟩
    exact All2.append (hh.2.mono fun _ _ _ q => q.up (Up.append _ _)) (All2.replicate trivial n)
  · rw [hI.len] at hj
    rw [List.length_append, List.length_replicate] at hl
    rw [List.getElem?_append_right hj, List.getElem?_replicate, if_pos (by omega)]
end
end Go.Ab
end
