/- The abstract run is sound: operations that only read. No program in sight. -/
import Derived.Test.YthjbllfcelkajaaInv
set_option linter.unusedVariables false
set_option linter.unusedSimpArgs false
namespace Go.Ab
open Go Go.Dk

theorem cond_some {b : Bool} {x y : OR} {r} (h : cond b x y = some r) : (b = true ∧ x = some r) ∨ (b = false ∧ y = some r) := by cases b <;> simp_all
theorem cond_left {b : Bool} {x : OR} {r} (h : cond b x none = some r) : b = true ∧ x = some r := by cases b <;> simp_all
theorem cond_right {b : Bool} {x : OR} {r} (h : cond b none x = some r) : b = false ∧ x = some r := by cases b <;> simp_all
theorem bind_some {α : Type} {o : Option α} {k : α → OR} {r} (h : o.bind k = some r) : ∃ a, o = some a ∧ k a = some r := by cases o <;> simp_all
theorem ikEq_eq {a b : IntKind} (h : ikEq a b = true) : a = b := by simpa [ikEq] using h

section
variable {P : Program} {G : List GO} {Z : Zone} {w : World}
theorem int_inv {k : IntKind} {n : Int} {x : Value} (h : RV G Z w (.v (.one (.int k n))) x) : x = .int k n := h.1
theorem bool_inv {b : Bool} {x : Value} (h : RV G Z w (.v (.one (.bool b))) x) : x = .bool b := h.1
theorem str_inv {b : ByteArray} {x : Value} (h : RV G Z w (.v (.one (.str b))) x) : x = .string b := h.1
theorem OneR.rv {v : SV} {x : Value} (h : OneR G Z w v x) : RV G Z w (.v (.one v)) x := ⟨h.1, fun _ => h.2⟩

theorem svOf_rel (k : Option (TypeId × SK)) (v : Value) : RS G Z w (svOf k v) v := by
  unfold svOf
  split <;> first | rfl | trivial | exact ⟨none, rfl⟩
theorem svOf_cells (k : Option (TypeId × SK)) (v : Value) : svOf k v ≠ .any → oneB v = true := by
  unfold svOf
  split <;> intro h <;> first | rfl | exact absurd rfl h
theorem svsOf_rel : ∀ (ks : List (Option (TypeId × SK))) (vs : List Value), (∀ v ∈ vs, oneB v = true) → All2 (OneR G Z w) (svsOf ks vs) vs
  | _, [], _ => by cases ‹List (Option (TypeId × SK))› <;> exact All2.nil
  | [], v :: vs, h => All2.cons ⟨svOf_rel _ _, h v (by simp)⟩ (svsOf_rel [] vs fun u hu => h u (by simp [hu]))
  | k :: ks, v :: vs, h => All2.cons ⟨svOf_rel _ _, h v (by simp)⟩ (svsOf_rel ks vs fun u hu => h u (by simp [hu]))
theorem any_rel (x : Value) : RV G Z w anyV x := ⟨trivial, fun h => absurd rfl h⟩
theorem ofValue_rel (v : Value) : RV G Z w (AV.ofValue v) v := by
  unfold AV.ofValue
  split
  · rename_i cs
    cases hc : cs.toList.all oneB with
    | true => exact ⟨cs.toList, by simp, svsOf_rel _ _ (fun v hv => List.all_eq_true.1 hc v hv)⟩
    | false => exact any_rel _
  · exact any_rel _
  · exact ⟨svOf_rel _ _, svOf_cells _ _⟩
theorem retype_go_rel : ∀ (ks : List (Option (TypeId × SK))) (l : List SV) (xs : List Value), All2 (OneR G Z w) l xs → All2 (OneR G Z w) (retype.go ks l) xs
  | [], l, xs, h => by unfold retype.go; exact h
  | k :: ks, [], xs, h => by unfold retype.go; exact h
  | k :: ks, x :: l, xs, h => by
    obtain ⟨y, ys, rfl, h1, h2⟩ := h.cons_inv
    have ih := retype_go_rel ks l ys h2
    cases x with
    | emp e => cases e with
      | none => exact All2.cons h1 ih
      | some e => exact All2.cons h1 ih
    | _ => exact All2.cons h1 ih
theorem retype_rel (t : TypeId) {v : AV} {x : Value} (h : RV G Z w v x) : RV G Z w (retype P t v) x := by
  unfold retype
  split
  · exact ⟨h.1, fun _ => h.2 nofun⟩
  · obtain ⟨xs, hx, hh⟩ := h
    exact ⟨xs, hx, retype_go_rel _ _ _ hh⟩
  · exact h

variable {ρ : Operand → Value} {x y : Operand} {d : Option Tmp} {ty t t' : TypeId} {pos : String} {aft : Array Edge} {gd : Option (Nat × Bool)} {vx vy : AV} {r : List V1 × List AObj}
theorem int_one (k : IntKind) (n : Int) : OneR G Z w (.int k n) (.int k n) := ⟨rfl, rfl⟩
theorem bool_one (b : Bool) : OneR G Z w (.bool b) (.bool b) := ⟨rfl, rfl⟩
theorem str_one (b : ByteArray) : OneR G Z w (.str b) (.string b) := ⟨rfl, rfl⟩
theorem evInt_sound {op : BinOp} {ka : IntKind} {a b : Int} {k : SV → OR} (hx : ρ x = .int ka a) (hy : ρ y = .int ka b) (h : evInt op ka a b k = some r) :
    ∃ v X, k v = some r ∧ (execOp ρ ⟨d, .binOp op t x y t', ty, pos, aft, gd⟩).run P w = .ok (.value X) w ∧ OneR G Z w v X := by
  cases op <;> simp only [evInt] at h
  case add => exact ⟨_, _, h, by simp [go_sem, execOp, hx, hy, eqGuard, binOp, Op.intArith], int_one _ _⟩
  case sub => exact ⟨_, _, h, by simp [go_sem, execOp, hx, hy, eqGuard, binOp, Op.intArith], int_one _ _⟩
  case mul => exact ⟨_, _, h, by simp [go_sem, execOp, hx, hy, eqGuard, binOp, Op.intArith], int_one _ _⟩
  case quo =>
    obtain ⟨hb, h⟩ := cond_right h
    have hb : b ≠ 0 := by simpa using hb
    exact ⟨_, _, h, by simp [go_sem, execOp, hx, hy, eqGuard, binOp, Op.intDiv, hb], int_one _ _⟩
  case rem =>
    obtain ⟨hb, h⟩ := cond_right h
    have hb : b ≠ 0 := by simpa using hb
    exact ⟨_, _, h, by simp [go_sem, execOp, hx, hy, eqGuard, binOp, Op.intDiv, hb], int_one _ _⟩
  case xor => exact ⟨_, _, h, by simp [go_sem, execOp, hx, hy, eqGuard, binOp, Op.intBits], int_one _ _⟩
  case eql => exact ⟨_, _, h, by simp [go_sem, execOp, hx, hy, eqGuard, binOp, Op.intCmp]; rfl, bool_one _⟩
  case neq => exact ⟨_, _, h, by simp [go_sem, execOp, hx, hy, eqGuard, binOp, Op.intCmp]; rfl, bool_one _⟩
  case lss => exact ⟨_, _, h, by simp [go_sem, execOp, hx, hy, eqGuard, binOp, Op.intCmp], bool_one _⟩
  case leq => exact ⟨_, _, h, by simp [go_sem, execOp, hx, hy, eqGuard, binOp, Op.intCmp], bool_one _⟩
  case gtr => exact ⟨_, _, h, by simp [go_sem, execOp, hx, hy, eqGuard, binOp, Op.intCmp], bool_one _⟩
  case geq => exact ⟨_, _, h, by simp [go_sem, execOp, hx, hy, eqGuard, binOp, Op.intCmp], bool_one _⟩
  all_goals cases h
theorem evStr_sound {op : BinOp} {a b : ByteArray} {k : SV → OR} (hx : ρ x = .string a) (hy : ρ y = .string b) (h : evStr op a b k = some r) :
    ∃ v X, k v = some r ∧ (execOp ρ ⟨d, .binOp op t x y t', ty, pos, aft, gd⟩).run P w = .ok (.value X) w ∧ OneR G Z w v X := by
  cases op <;> simp only [evStr] at h
  case add =>
    obtain ⟨hb, h⟩ := cond_left h
    exact ⟨_, _, h, (Y_sadd (S := fun _ => True) hx hy (by simpa using hb)).out w trivial, str_one _⟩
  case eql => exact ⟨_, _, h, (Y_seql (S := fun _ => True) hx hy).out w trivial, bool_one _⟩
  case neq => exact ⟨_, _, h, (Y_sneq (S := fun _ => True) hx hy).out w trivial, bool_one _⟩
  case gtr => exact ⟨_, _, h, by simp [go_sem, execOp, hx, hy, eqGuard, binOp, Op.stringOp], bool_one _⟩
  all_goals cases h
theorem evBin_sound {op : BinOp} {k : SV → OR} (hx : RV G Z w vx (ρ x)) (hy : RV G Z w vy (ρ y)) (h : evBin P op t vx vy k = some r) :
    ∃ v X, k v = some r ∧ (execOp ρ ⟨d, .binOp op t x y t', ty, pos, aft, gd⟩).run P w = .ok (.value X) w ∧ OneR G Z w v X := by
  unfold evBin at h
  split at h
  · obtain ⟨hk, h'⟩ := cond_left h
    obtain rfl := ikEq_eq hk
    exact evInt_sound (int_inv hx) (int_inv hy) h'
  · exact evStr_sound (str_inv hx) (str_inv hy) h
  · split at h
    · rename_i hb
      split at h
      · exact ⟨_, _, h, (Y_beql (S := fun _ => True) (bool_inv hx) (bool_inv hy) hb).out w trivial, bool_one _⟩
      · exact ⟨_, _, h, (Y_bneq (S := fun _ => True) (bool_inv hx) (bool_inv hy) hb).out w trivial, bool_one _⟩
      · cases h
    · cases h
  · cases h
theorem evUn_sound {op : UnOp} {k : SV → OR} (hx : RV G Z w vx (ρ x)) (h : evUn op vx k = some r) :
    ∃ v X, k v = some r ∧ (execOp ρ ⟨d, .unOp op t x, ty, pos, aft, gd⟩).run P w = .ok (.value X) w ∧ OneR G Z w v X := by
  unfold evUn at h
  split at h
  · exact ⟨_, _, h, by simp [go_sem, execOp, (bool_inv hx), Op.unary], bool_one _⟩
  · exact ⟨_, _, h, by simp [go_sem, execOp, (int_inv hx), Op.unary, Op.intArith], int_one _ _⟩
  · cases h
theorem optInt_some {v : AV} {X : Value} {k : Int → OR} (h : optInt v k = some r) (hx : RV G Z w v X) : ∃ n, X = .int .i64 n ∧ k n = some r := by
  unfold optInt at h
  split at h
  · exact ⟨_, (int_inv hx), h⟩
  · cases h

/-! Reading memory: slices. -/
theorem SlR.val {D : SD} {X : Value} (h : SlR Z w D X) : ∃ a c, X = .slice a D.len c := by obtain ⟨a, c, _, hx, _⟩ := h; exact ⟨a, c, hx⟩
theorem SK.size_pos (k : SK) : 0 < k.size := by cases k <;> decide
theorem kindE_out {e : TypeId} {k : SK} (h : kindE P e = some k) : kind0 P e = some k ∧ ∃ i z, P.info? e = some i ∧ i.zero = some z ∧ i.size = k.size ∧ z.cells.size = k.size ∧ i.bytes ≤ 64 := by
  unfold kindE at h
  cases h0 : kind0 P e with
  | none => simp [h0] at h
  | some k' =>
    simp only [h0, Option.bind_some] at h
    cases hs : sizeOk P e k' with
    | false => simp [hs] at h
    | true =>
      simp only [hs, cond_true, Option.some.injEq] at h
      subst h
      refine ⟨rfl, ?_⟩
      unfold sizeOk at hs
      split at hs
      · rename_i i hi
        split at hs
        · rename_i z hz
          simp only [Bool.and_eq_true, Nat.beq_eq, Nat.ble_eq] at hs
          exact ⟨i, z, hi, hz, hs.1, hs.2.1, hs.2.2⟩
        · cases hs
      · cases hs
theorem kindS_out {t : TypeId} {e : TypeId × SK} (h : kindS P t = some e) : P.underlying t = some (.slice e.1) ∧ kindE P e.1 = some e.2 := by
  unfold kindS at h
  split at h
  · rename_i e' hu
    cases hk : kindE P e' with
    | none => simp [hk] at h
    | some k => simp only [hk, Option.map_some, Option.some.injEq] at h; subst h; exact ⟨hu, hk⟩
  · cases h
theorem kindS_el {t : TypeId} {e : TypeId × SK} (h : kindS P t = some e) : sliceEl P t = some e.2.size := by
  obtain ⟨h1, h2⟩ := kindS_out h
  obtain ⟨_, i, z, hi, _, hs, _⟩ := kindE_out h2
  unfold sliceEl
  simp only [h1, hi, hs]
theorem SK.beq_eq {a c : SK} (h : SK.beq a c = true) : a = c := by cases a <;> cases c <;> first | rfl | cases h

/-! Elements of what a slice holds. -/
theorem flatT_get {hs : List HT} {i : Nat} {h : HT} (hi : hs[i]? = some h) : (flatT hs)[i * 3]? = some (.int .i64 h.k) ∧ (flatT hs)[i * 3 + 1]? = some (.int .i64 h.n) ∧ (flatT hs)[i * 3 + 2]? = some h.sl := by
  induction hs generalizing i with
  | nil => simp at hi
  | cons x hs ih =>
    rw [flatT_cons]
    cases i with
    | zero => simp at hi; subst hi; exact ⟨rfl, rfl, rfl⟩
    | succ i =>
      have := ih (i := i) (by simpa using hi)
      rw [show (i + 1) * 3 = i * 3 + 1 + 1 + 1 by omega]
      exact this
theorem RdL_cells {b : Nat} : ∀ {ts : List HT} {off : Nat}, RdL Z w b off ts → CellsAt w b off (flatT ts)
  | [], _, _, i, x, hx => by simp [flatT_nil] at hx
  | t :: ts, off, h, i, x, hx => by
    simp only [RdL] at h
    rw [flatT_cons] at hx
    match i, hx with
    | 0, hx => simp at hx; subst hx; simpa using h.1.1
    | 1, hx => simp at hx; subst hx; exact h.1.2.1
    | 2, hx => simp at hx; subst hx; exact h.1.2.2
    | i + 3, hx =>
      have := RdL_cells h.2.2 i x (by simpa using hx)
      rw [show off + (i + 3) = off + 3 + i by omega]; exact this
theorem RdL_each {b : Nat} : ∀ {ts : List HT} {off : Nat}, RdL Z w b off ts → ∀ t ∈ ts, Rd Z w t
  | [], _, _, t, ht => by cases ht
  | u :: ts, off, h, t, ht => by
    simp only [RdL] at h
    rcases List.mem_cons.1 ht with rfl | ht
    · exact h.2.1
    · exact RdL_each h.2.2 t ht
theorem Rd_sl {t : HT} (h : Rd Z w t) : SlR Z w (.ts t.er.kids) t.sl := by
  cases t with | mk k n a cap kids =>
  simp only [Rd] at h
  obtain ⟨h1, h2, h3⟩ := h
  have hk : (HT.mk k n a cap kids).er.kids = kids.map HT.er := HT.er_kids _
  refine ⟨a, cap, flatT kids, ?_, ?_, ?_, ?_, ?_⟩
  · simp [HT.sl, HT.a, HT.kids, HT.cap, hk, SD.len]
  · simpa [hk, SD.len] using h2
  · simpa [hk, SD.len, maxLen] using h3
  · rcases h1 with rfl | ⟨b, off, ha, hb, hl⟩
    · exact ⟨[], by simp [hk], rfl, nofun⟩
    · exact ⟨kids, hk.symm, rfl, RdL_each hl⟩
  · rcases h1 with rfl | ⟨b, off, ha, hb, hl⟩
    · exact .inl rfl
    · exact .inr ⟨b, off, ha, hb, RdL_cells hl⟩
theorem sl_Rd {l : List T} {X : Value} (h : SlR Z w (.ts l) X) (k n : Int) : ∃ t : HT, t.er = .mk k n l ∧ Rd Z w t ∧ t.sl = X ∧ t.k = k ∧ t.n = n := by
  obtain ⟨a, cap, xs, hx, h1, h2, ⟨hs, rfl, rfl, hr⟩, h4⟩ := h
  refine ⟨.mk k n a cap hs, by rw [HT.er_eq]; rfl, ?_, ?_, rfl, rfl⟩
  · simp only [Rd]
    refine ⟨?_, by simpa [SD.len] using h1, by simpa [SD.len, maxLen] using h2⟩
    rcases h4 with h4 | ⟨b, off, ha, hb, hc⟩
    · left
      cases hs with
      | nil => rfl
      | cons t ts => rw [flatT_cons] at h4; cases h4
    · exact .inr ⟨b, off, ha, hb, RdL_of_cells hs off (fun j u hj => hc j u hj) hr⟩
  · rw [hx]; simp [HT.sl, HT.a, HT.kids, HT.cap, SD.len]
theorem ElemsR.length {D : SD} {xs : List Value} (h : ElemsR Z w D xs) : xs.length = D.len * D.kind.size := by
  cases D with
  | ts l => obtain ⟨hs, rfl, rfl, _⟩ := h; rw [flatT_length]; simp [SD.len, SD.kind, SK.size]
  | is l => simp only [ElemsR] at h; subst h; simp [SD.len, SD.kind, SK.size]
  | iss l => have := All2.mono h (fun _ _ _ h => h) |>.1; simp [SD.len, SD.kind, SK.size, this]
  | ss l => simp only [ElemsR] at h; subst h; simp [SD.len, SD.kind, SK.size]
  | bs l => simp only [ElemsR] at h; subst h; simp [SD.len, SD.kind, SK.size]
theorem lt_of_some {α : Type} {l : List α} {i : Nat} {a : α} (h : l[i]? = some a) : i < l.length := by
  rcases Nat.lt_or_ge i l.length with h' | h'
  · exact h'
  · rw [List.getElem?_eq_none h'] at h; cases h
theorem ElemsR.get {D : SD} {xs : List Value} (h : ElemsR Z w D xs) {i : Nat} {k : SE → OR} (hg : D.get i k = some r) :
    ∃ e cs, k e = some r ∧ i < D.len ∧ CellsR Z w e cs ∧ ∀ (j : Nat) v, cs[j]? = some v → xs[i * D.kind.size + j]? = some v := by
  cases D with
  | ts l =>
    obtain ⟨hs, rfl, rfl, hr⟩ := h
    obtain ⟨x, hx, hk⟩ := bind_some hg
    rw [List.getElem?_map] at hx
    obtain ⟨t, ht, rfl⟩ := Option.map_eq_some_iff.1 hx
    have := flatT_get ht
    refine ⟨_, _, hk, by simpa [SD.len] using lt_of_some ht, ⟨t, rfl, hr t (List.mem_of_getElem? ht), rfl⟩, fun j v hv => ?_⟩
    match j, hv with
    | 0, hv => simp at hv; subst hv; exact this.1
    | 1, hv => simp at hv; subst hv; exact this.2.1
    | 2, hv => simp at hv; subst hv; exact this.2.2
    | j + 3, hv => simp at hv
  | is l =>
    simp only [ElemsR] at h; subst h
    obtain ⟨x, hx, hk⟩ := bind_some hg
    refine ⟨_, _, hk, lt_of_some hx, rfl, fun j v hv => ?_⟩
    match j, hv with
    | 0, hv => simp at hv; subst hv; simp [SD.kind, SK.size, hx]
    | j + 1, hv => simp at hv
  | iss l =>
    obtain ⟨x, hx, hk⟩ := bind_some hg
    obtain ⟨X, hX, hr⟩ := All2.get h hx
    refine ⟨_, _, hk, lt_of_some hx, ⟨X, rfl, hr⟩, fun j v hv => ?_⟩
    match j, hv with
    | 0, hv => simp at hv; subst hv; simpa [SD.kind, SK.size] using hX
    | j + 1, hv => simp at hv
  | ss l =>
    simp only [ElemsR] at h; subst h
    obtain ⟨x, hx, hk⟩ := bind_some hg
    refine ⟨_, _, hk, lt_of_some hx, rfl, fun j v hv => ?_⟩
    match j, hv with
    | 0, hv => simp at hv; subst hv; simp [SD.kind, SK.size, hx]
    | j + 1, hv => simp at hv
  | bs l =>
    simp only [ElemsR] at h; subst h
    obtain ⟨x, hx, hk⟩ := bind_some hg
    refine ⟨_, _, hk, lt_of_some hx, rfl, fun j v hv => ?_⟩
    match j, hv with
    | 0, hv => simp at hv; subst hv; simp [SD.kind, SK.size, hx]
    | j + 1, hv => simp at hv
/-- The cells that an element shows are what they are. -/
theorem CellsR.cells {e : SE} {cs : List Value} (h : CellsR Z w e cs) : All2 (OneR G Z w) e.cells cs := by
  cases e with
  | t x =>
    obtain ⟨t, rfl, hr, rfl⟩ := h
    refine All2.cons ⟨?_, rfl⟩ (All2.cons ⟨?_, rfl⟩ (All2.cons ⟨Rd_sl hr, rfl⟩ All2.nil))
    · show _ = _; rw [HT.er_k]
    · show _ = _; rw [HT.er_n]
  | i n => simp only [CellsR] at h; subst h; exact All2.cons ⟨rfl, rfl⟩ All2.nil
  | ii l =>
    obtain ⟨x, rfl, a, cap, rfl, h1, h2, h3⟩ := h
    refine All2.cons ⟨⟨a, cap, l.map (.int .i64 ·), rfl, h1, h2, rfl, ?_⟩, rfl⟩ All2.nil
    rcases h3 with rfl | h3
    · exact .inl rfl
    · exact .inr h3
  | s x => simp only [CellsR] at h; subst h; exact All2.cons ⟨rfl, rfl⟩ All2.nil
  | b c => simp only [CellsR] at h; subst h; exact All2.cons ⟨rfl, rfl⟩ All2.nil

/-! Loads. -/
theorem structT_out {n : Nat} (h : structT P t = some n) : ∃ fs i, P.underlying t = some (.struct fs) ∧ P.info? t = some i ∧ i.size = n := by
  unfold structT at h
  split at h
  · rename_i fs i hu hi
    exact ⟨fs, i, hu, hi, Option.some.inj h⟩
  · cases h
theorem run_load_one {a : Addr} {X : Value} (ht : scalarT P t = true) (hc : w.cell? a = some X) : (loadVar t a).run P w = .ok X w := by
  unfold scalarT at ht
  cases hu : P.underlying t with
  | none => simp [hu] at ht
  | some de =>
    have hag : (isAgg t).run P w = .ok false w := by
      simp only [isAgg, Sem.run_bind, run_underlying hu, Result.andThen_ok]
      cases de <;> simp_all
    simp [loadVar, Sem.run_bind, hag, load, Sem.run, hc]
theorem run_load_agg {b o n : Nat} {xs : List Value} (ht : structT P t = some n) (hc : CellsAt w b o xs) (hn : xs.length = n) : (loadVar t ⟨b, o, none⟩).run P w = .ok (.agg xs.toArray) w := by
  obtain ⟨fs, i, hu, hi, hs⟩ := structT_out ht
  have hag : (isAgg t).run P w = .ok true w := by
    simp only [isAgg, Sem.run_bind, run_underlying hu, Result.andThen_ok]; rfl
  have hl := run_loadCells_list (P := P) (w := w) ⟨b, o, none⟩ xs (fun j v hj => by rw [addr_add]; exact hc j v hj)
  rw [hn, ← hs] at hl
  simp only [loadVar, Sem.run_bind, hag, Result.andThen_ok, if_true, Go.Dk.run_sizeOf hi, hl, Sem.run_pure]
theorem CellsAt.drop {b o : Nat} {xs : List Value} (h : CellsAt w b o xs) (n : Nat) : CellsAt w b (o + n) (xs.drop n) := fun i x hx => by
  rw [List.getElem?_drop] at hx
  rw [Nat.add_assoc]; exact h (n + i) x hx
theorem CellsAt.take {b o : Nat} {xs : List Value} (h : CellsAt w b o xs) (n : Nat) : CellsAt w b o (xs.take n) := fun i x hx => by
  rw [List.getElem?_take] at hx
  split at hx
  · exact h i x hx
  · cases hx
theorem packK_sound {l : List SV} {xs : List Value} {b o : Nat} {k : AV → OR} (hl : All2 (OneR G Z w) l xs) (hc : CellsAt w b o xs) (h : packK P t l k = some r) :
    ∃ v X, k v = some r ∧ (loadVar t ⟨b, o, none⟩).run P w = .ok X w ∧ RV G Z w v X := by
  unfold packK at h
  split at h
  · rename_i ht
    split at h
    · rename_i c l'
      obtain ⟨X, xs', rfl, h1, _⟩ := hl.cons_inv
      exact ⟨_, X, h, run_load_one ht (hc 0 X rfl), h1.1, fun _ => h1.2⟩
    · cases h
  · split at h
    · rename_i n hs
      obtain ⟨hn, h⟩ := cond_left h
      simp only [Nat.ble_eq] at hn
      exact ⟨_, .agg (xs.take n).toArray, h, run_load_agg hs (hc.take n) (by rw [List.length_take, ← hl.1]; omega), ⟨_, rfl, hl.take n⟩⟩
    · cases h
theorem St.cells_at {w0 : World} {M Z0 : Zone} {L : List Res} {φ : Fact} {b : Nat} {T : TypeId} {vs : List Value} (hw : St w0 M Z0 L φ w) (hr : blk b vs T ∈ L) : CellsAt w b 0 vs := by
  intro i x hx
  have := hw.own _ hr
  simp only [blk] at this
  simp [World.cell?, this, hx]
theorem rowR_cells {e sz n : Nat} {X : Value} {xs : List Value} {b off m c : Nat} (h : (rowR e sz X n xs).own w) (hX : X = .slice (some ⟨b, off, none⟩) m c) : off = 0 ∧ m = n ∧ CellsAt w b 0 xs := by
  simp only [rowR] at h
  obtain ⟨_, h⟩ := h
  rcases h with ⟨h, _⟩ | ⟨g, cap, cur, h, _, hg, _, _, _, ht⟩
  · rw [hX] at h; cases h
  · rw [hX] at h
    injection h with h1 h2 h3
    injection h1 with h1
    injection h1 with h4 h5
    subst h4 h5 h2
    refine ⟨rfl, rfl, fun i x hx => ?_⟩
    have : cur.toList[i]? = some x := by
      rw [← ht] at hx
      rw [List.getElem?_take] at hx
      split at hx
      · exact hx
      · cases hx
    simp only [World.cell?, hg, Nat.zero_add]
    simpa using this
theorem mem_resL : ∀ {h : List AObj} {G : List GO} {j : Nat} {o : AObj} {g : GO} {q : Res}, h[j]? = some o → G[j]? = some g → q ∈ resO o g → q ∈ resL h G
  | [], _, j, o, g, q, hj, _, _ => by simp at hj
  | _ :: _, [], j, o, g, q, _, gj, _ => by simp at gj
  | x :: h, y :: G, 0, o, g, q, hj, gj, hq => by
    simp at hj gj; subst hj gj; simp [resL, hq]
  | x :: h, y :: G, j + 1, o, g, q, hj, gj, hq => by
    simp only [resL, List.mem_append]
    exact .inr (mem_resL (by simpa using hj) (by simpa using gj) hq)
end

/-! What the objects say, in a memory that they describe. -/
section
variable {P : Program} {w0 w : World} {M Z0 : Zone} {b : Nat} {G : List GO} {s : AS} {tv : List Value}
abbrev zn (w0 : World) (Z0 : Zone) (s : AS) (G : List GO) : Zone := zone w0 Z0 (resL s.heap G)
theorem InvG.cells (hI : InvG w0 M Z0 b G s tv w) {j : Nat} {l : List SV} (hj : s.heap[j]? = some (.cells l)) :
    ∃ bb T vs, G[j]? = some (.cells bb T vs) ∧ All2 (OneR G (zn w0 Z0 s G) w) l vs ∧ CellsAt w bb 0 vs ∧ blk bb vs T ∈ resL s.heap G := by
  obtain ⟨g, hg, hr⟩ := hI.st.per.2.get hj
  cases g with
  | cells bb T vs =>
    have hm : blk bb vs T ∈ resL s.heap G := mem_resL hj hg (by simp [resO])
    exact ⟨bb, T, vs, hg, hr, St.cells_at hI.st hm, hm⟩
  | _ => exact hr.elim
/-- An array that a value stands for. -/
theorem InvG.arr (hI : InvG w0 M Z0 b G s tv w) {j v : Nat} {e : TypeId} {D : SD} {ver : Nat} {fz : Bool} (hj : s.heap[j]? = some (.arr e D ver fz)) :
    ∃ val xs, G[j]? = some (.arr ver val D.kind.size xs) ∧ cond fz (SlR (zn w0 Z0 s G) w D val) (ElemsR (zn w0 Z0 s G) w D xs ∧ ∃ a c, val = .slice a D.len c) := by
  obtain ⟨g, hg, hr⟩ := hI.st.per.2.get hj
  cases g with
  | arr ver' val sz xs => obtain ⟨rfl, rfl, h3⟩ := hr; exact ⟨val, xs, hg, h3⟩
  | _ => exact hr.elim
theorem own_val {j v : Nat} {X val : Value} {ver sz : Nat} {xs : List Value} {Z : Zone} (hx : RS G Z w (.own j v) X) (hg : G[j]? = some (.arr ver val sz xs)) (hv : v = ver) : X = val := by
  rcases hx with hx | ⟨ver', val', sz', xs', hx, _, he⟩
  · rw [hg] at hx; cases hx
  · rw [hg] at hx
    injection hx with hx
    injection hx with h1 h2 h3 h4
    subst h1 h2
    exact he hv
theorem ptr_val {j o : Nat} {X : Value} {bb : Nat} {T : TypeId} {vs : List Value} {Z : Zone} (hx : RS G Z w (.ptr j o) X) (hg : G[j]? = some (.cells bb T vs)) : X = pv bb o := by
  rcases hx with hx | ⟨b', T', vs', hx, he⟩
  · rw [hg] at hx; cases hx
  · rw [hg] at hx
    injection hx with hx
    injection hx with h1 h2 h3
    subst h1; exact he
/-- A slice that can be read. -/
def RdS (Z : Zone) (w : World) (D : SD) (X : Value) : Prop := ∃ a c ys, X = .slice a D.len c ∧ D.len ≤ maxLen ∧ ElemsR Z w D ys ∧ (ys = [] ∨ ∃ b off, a = some ⟨b, off, none⟩ ∧ CellsAt w b off ys)
theorem SlR.rd {Z : Zone} {D : SD} {X : Value} (h : SlR Z w D X) : RdS Z w D X := by
  obtain ⟨a, c, ys, hx, h1, h2, h3, h4⟩ := h
  exact ⟨a, c, ys, hx, h2, h3, h4.imp id fun ⟨b, off, ha, _, hc⟩ => ⟨b, off, ha, hc⟩⟩
theorem RdS.ne {Z : Zone} {D : SD} {X : Value} (h : RdS Z w D X) (hl : 0 < D.len) : ∃ b off c ys, X = .slice (some ⟨b, off, none⟩) D.len c ∧ ElemsR Z w D ys ∧ CellsAt w b off ys := by
  obtain ⟨a, c, ys, hx, h2, h3, h4⟩ := h
  rcases h4 with rfl | ⟨b, off, rfl, hc⟩
  · have := h3.length
    have hp := SK.size_pos D.kind
    have : 0 < D.len * D.kind.size := Nat.mul_pos hl hp
    simp at *; omega
  · exact ⟨b, off, c, ys, hx, h3, hc⟩
/-- What stands in an array of the call's own or in one that is frozen. -/
theorem InvG.arr_rd (hI : InvG w0 M Z0 b G s tv w) {j : Nat} {e : TypeId} {D : SD} {ver : Nat} {fz : Bool} (hj : s.heap[j]? = some (.arr e D ver fz)) :
    ∃ val xs, G[j]? = some (.arr ver val D.kind.size xs) ∧ RdS (zn w0 Z0 s G) w D val := by
  obtain ⟨val, xs, hg, hh⟩ := hI.arr (v := 0) hj
  cases fz with
  | true => exact ⟨val, xs, hg, SlR.rd hh⟩
  | false =>
    obtain ⟨h1, a, c, hx⟩ := hh
    have hm : rowZ e D.kind.size val D.len xs ∈ resL s.heap G := mem_resL hj hg (by simp [resO])
    have ho := hI.st.own _ hm
    refine ⟨val, xs, hg, ?_⟩
    subst hx
    unfold rowZ at ho
    split at ho
    · rename_i a' _ he
      obtain ⟨h0, rfl, _⟩ := ho
      exact ⟨a, c, [], rfl, by rw [h0]; exact Nat.zero_le _, h1, .inl rfl⟩
    · rename_i v hne
      have ho' := ho
      simp only [rowR] at ho
      rcases ho.2 with ⟨h2, _⟩ | ⟨g, cap, cur, h2, _, _, hn, hm, _, _⟩
      · injection h2 with _ _ h3; subst h3; exact absurd rfl (hne a D.len)
      · injection h2 with h3 h4 h5
        subst h3 h5
        exact ⟨_, _, xs, rfl, Nat.le_trans hn hm, h1, .inr ⟨g, 0, rfl, (rowR_cells ho' rfl).2.2⟩⟩
theorem evLoad_addr (hI : InvG w0 M Z0 b G s tv w) {t : TypeId} {VX : Value} {vx : AV} {k : AV → OR} {r : List V1 × List AObj}
    (hx : RV G (zn w0 Z0 s G) w vx VX) (h : evLoad P t vx s.heap k = some r) :
    ∃ v X bb o, k v = some r ∧ VX = pv bb o ∧ (loadVar t ⟨bb, o, none⟩).run P w = .ok X w ∧ RV G (zn w0 Z0 s G) w v X := by
  unfold evLoad at h
  split at h
  · rename_i j off
    split at h
    · rename_i l hj
      obtain ⟨bb, T, vs, hg, ha, hc, _⟩ := hI.cells hj
      obtain ⟨v, X, h1, h2, h3⟩ := packK_sound (ha.drop off) (hc.drop off) h
      exact ⟨v, X, _, _, h1, by rw [Nat.zero_add]; exact ptr_val hx.1 hg, h2, h3⟩
    · cases h
  · rename_i e off
    obtain ⟨bb, o, cs, hp, hb, hc, hr⟩ := hx.1
    obtain ⟨v, X, h1, h2, h3⟩ := packK_sound (hr.cells.drop off) (hc.drop off) h
    exact ⟨v, X, _, _, h1, hp, h2, h3⟩
  · rename_i j v i off
    split at h
    · rename_i D ver fz hj
      obtain ⟨hv, h⟩ := cond_left h
      simp only [Nat.beq_eq] at hv
      obtain ⟨val, xs, hg, a, c, ys, hval, _, he, hc⟩ := hI.arr_rd hj
      obtain ⟨el, cs, h, hlt, hr, hsub⟩ := he.get h
      rcases hx.1 with hx | ⟨ver', val', sz', xs', hx, _, hh⟩
      · rw [hg] at hx; cases hx
      · rw [hg] at hx
        injection hx with hx
        injection hx with e1 e2 e3 e4
        subst e1 e2 e3
        obtain ⟨bb, o, n, c', hs, hi, hp⟩ := hh hv
        have hcs : CellsAt w bb (o + i * D.kind.size) cs := by
          rcases hc with rfl | ⟨b1, o1, ha, hc⟩
          · intro q u hq; have := hsub q u hq; simp at this
          · rw [hval, ha] at hs
            injection hs with hs _ _
            injection hs with hs
            injection hs with e1 e2
            subst e1 e2
            intro q u hq; rw [Nat.add_assoc]; exact hc _ u (hsub q u hq)
        obtain ⟨v, X, h1, h2, h3⟩ := packK_sound (hr.cells.drop off) (hcs.drop off) h
        exact ⟨v, X, _, _, h1, hp, h2, h3⟩
    · cases h
  · cases h
theorem evLoad_sound (hI : InvG w0 M Z0 b G s tv w) {ρ : Operand → Value} {x : Operand} {d : Option Tmp} {ty t : TypeId} {pos : String} {aft : Array Edge} {gd : Option (Nat × Bool)} {vx : AV} {k : AV → OR} {r : List V1 × List AObj}
    (hx : RV G (zn w0 Z0 s G) w vx (ρ x)) (h : evLoad P t vx s.heap k = some r) :
    ∃ v X, k v = some r ∧ (execOp ρ ⟨d, .load t x, ty, pos, aft, gd⟩).run P w = .ok (.value X) w ∧ RV G (zn w0 Z0 s G) w v X := by
  obtain ⟨v, X, bb, o, h1, hp, hr, hv⟩ := evLoad_addr hI hx h
  refine ⟨v, X, h1, ?_, hv⟩
  simp [execOp, Instr.loadAt, hp, pv, Instr.sureAddr, Sem.run_bind, hr]

/-! Slices that are read. -/
theorem SK.nil_len (k : SK) : k.nil.len = 0 := by cases k <;> rfl
theorem SK.nil_kind (k : SK) : k.nil.kind = k := by cases k <;> rfl
theorem ElemsR_nil {Z : Zone} (k : SK) : ElemsR Z w k.nil [] := by cases k <;> first | exact ⟨[], rfl, rfl, nofun⟩ | rfl | exact All2.nil
theorem RdS_nil {Z : Zone} (k : SK) (a : Option Addr) : RdS Z w k.nil (.slice a 0 0) := ⟨a, 0, [], by rw [k.nil_len], by rw [k.nil_len]; exact Nat.zero_le _, ElemsR_nil k, .inl rfl⟩
theorem SlR_nil {Z : Zone} (k : SK) (a : Option Addr) : SlR Z w k.nil (.slice a 0 0) := ⟨a, 0, [], by rw [k.nil_len], by rw [k.nil_len]; exact Nat.le_refl _, by rw [k.nil_len]; exact Nat.zero_le _, ElemsR_nil k, .inl rfl⟩
variable {ρ : Operand → Value} {x y : Operand} {d : Option Tmp} {ty t t' : TypeId} {pos : String} {aft : Array Edge} {gd : Option (Nat × Bool)} {vx vy : AV} {r : List V1 × List AObj} {X : Value}
theorem readS_sound (hI : InvG w0 M Z0 b G s tv w) {v : SV} {k : SD → OR} (hx : RS G (zn w0 Z0 s G) w v X) (h : readS s.heap v k = some r) : ∃ D, k D = some r ∧ RdS (zn w0 Z0 s G) w D X := by
  unfold readS at h
  split at h
  · exact ⟨_, h, SlR.rd hx⟩
  · obtain ⟨a, rfl⟩ := hx
    exact ⟨_, h, RdS_nil _ _⟩
  · split at h
    · rename_i hj
      obtain ⟨hv, h'⟩ := cond_left h
      simp only [Nat.beq_eq] at hv
      obtain ⟨val, xs, hg, hr⟩ := hI.arr_rd hj
      rw [own_val hx hg hv]
      exact ⟨_, h', hr⟩
    · cases h
  · cases h
theorem evLen_sound (hI : InvG w0 M Z0 b G s tv w) {k : SV → OR} (hx : RV G (zn w0 Z0 s G) w vx (ρ x)) (h : evLen P t vx s.heap k = some r) :
    ∃ v X, k v = some r ∧ (execOp ρ ⟨d, .call ⟨.builtin .len, #[x], #[t]⟩, ty, pos, aft, gd⟩).run P w = .ok (.value X) w ∧ OneR G (zn w0 Z0 s G) w v X := by
  unfold evLen at h
  split at h
  · split at h
    · rename_i hu
      exact ⟨_, _, h, (Y_lenStr (S := fun _ => True) (by simp [isStrT, hu]) (str_inv hx)).out w trivial, int_one _ _⟩
    · cases h
  · split at h
    · rename_i hk
      obtain ⟨a, hX⟩ := hx.1
      exact ⟨_, _, h, (Y_lenSlice (S := fun _ => True) (kindS_el hk) hX).out w trivial, int_one _ _⟩
    · cases h
  · split at h
    · rename_i hk
      obtain ⟨D, h', a, c, ys, hX, _⟩ := readS_sound hI hx.1 h
      exact ⟨_, _, h', (Y_lenSlice (S := fun _ => True) (kindS_el hk) hX).out w trivial, int_one _ _⟩
    · cases h
  · cases h
theorem SlR.get {Z : Zone} {D : SD} {i : Nat} {k : SE → OR} (h : SlR Z w D X) (hg : D.get i k = some r) :
    ∃ e bb off c, k e = some r ∧ X = .slice (some ⟨bb, off, none⟩) D.len c ∧ i < D.len ∧ EpR Z w e 0 (pv bb (off + i * D.kind.size)) := by
  obtain ⟨a, c, ys, hx, h1, h2, h3, h4⟩ := h
  obtain ⟨e, cs, hk, hlt, hr, hsub⟩ := h3.get hg
  rcases h4 with rfl | ⟨bb, off, rfl, hb, hc⟩
  · cases cs with
    | nil => exact absurd rfl hr.ne
    | cons u cs => have := hsub 0 u rfl; simp at this
  · exact ⟨e, bb, off, c, hk, hx, hlt, bb, off + i * D.kind.size, cs, rfl, hb, fun q u hq => by rw [Nat.add_assoc]; exact hc _ u (hsub q u hq), hr⟩
theorem evIndexAddr_sound (hI : InvG w0 M Z0 b G s tv w) {k : SV → OR} (hx : RV G (zn w0 Z0 s G) w vx (ρ x)) (hy : RV G (zn w0 Z0 s G) w vy (ρ y)) (h : evIndexAddr P t vx vy s.heap k = some r) :
    ∃ v X, k v = some r ∧ (execOp ρ ⟨d, .indexAddr t x y, ty, pos, aft, gd⟩).run P w = .ok (.value X) w ∧ OneR G (zn w0 Z0 s G) w v X := by
  unfold evIndexAddr at h
  split at h
  · cases h
  · rename_i e hk
    obtain ⟨i, hY, h⟩ := optInt_some h hy
    obtain ⟨hi, h⟩ := cond_left h
    have hi : 0 ≤ i := by simpa using hi
    split at h
    · rename_i D
      obtain ⟨he, h⟩ := cond_left h
      have he := SK.beq_eq he
      obtain ⟨el, bb, off, c, h, hX, hlt, hp⟩ := SlR.get hx.1 h
      refine ⟨_, _, h, (Y_indexAddr (S := fun _ => True) (kindS_el hk) hX hY ⟨hi, by omega⟩).out w trivial, ?_, rfl⟩
      rw [he]; exact hp
    · split at h
      · rename_i j v D ver _ hj
        obtain ⟨hv, h⟩ := cond_left h
        simp only [Bool.and_eq_true, Nat.beq_eq] at hv
        have he := SK.beq_eq hv.2
        obtain ⟨hlt, h⟩ := cond_left h
        have hlt : i < D.len := by simpa using hlt
        obtain ⟨val, xs, hg, hr⟩ := hI.arr_rd hj
        obtain ⟨bb, off, c, ys, hX, _⟩ := hr.ne (by omega)
        have hX' := own_val hx.1 hg hv.1
        refine ⟨_, _, h, (Y_indexAddr (S := fun _ => True) (kindS_el hk) (hX'.trans hX) hY ⟨hi, hlt⟩).out w trivial, .inr ⟨ver, val, D.kind.size, xs, hg, by omega, fun _ => ⟨bb, off, D.len, c, hX, by omega, ?_⟩⟩, rfl⟩
        rw [he]; rfl
      · cases h
    · cases h
theorem kind0_b {e : TypeId} (h : kind0 P e = some .b) : P.underlying e = some (.int .u8) := by
  unfold kind0 at h
  split at h
  · split at h <;> cases h
  · cases h
  · rename_i hu; exact hu
  · cases h
  · split at h <;> cases h
  · cases h
theorem bs_list {l : List UInt8} {ys : List Value} {Z : Zone} (h : ElemsR Z w (.bs l) ys) : ys = l.map fun c => .int .u8 (c.toNat : Int) := h
theorem evConv_sound (hI : InvG w0 M Z0 b G s tv w) {k : SV → OR} (hx : RV G (zn w0 Z0 s G) w vx (ρ x)) (h : evConv P t t' vx s.heap k = some r) :
    ∃ v X, k v = some r ∧ (execOp ρ ⟨d, .convert t t' x, ty, pos, aft, gd⟩).run P w = .ok (.value X) w ∧ OneR G (zn w0 Z0 s G) w v X := by
  unfold evConv at h
  split at h
  · split at h
    · rename_i h1 h2
      exact ⟨_, _, h, by simp [go_sem, execOp, convert, (int_inv hx), Sem.run_bind, run_underlying h1, run_underlying h2, Conv.intToInt], int_one _ _⟩
    · cases h
  · split at h
    · rename_i h1 h2
      obtain ⟨D, h', a, c, ys, hX, hmx, he, hc⟩ := readS_sound hI hx.1 h
      split at h'
      · rename_i l
        obtain ⟨h3, h4⟩ := kindS_out h1
        have h5 := kind0_b (kindE_out h4).1
        have he := bs_list he
        refine ⟨_, _, h', ?_, str_one _⟩
        have key : (Conv.bytesToString (ρ x)).run P w = .ok (.string ⟨l.toArray⟩) w := by
          rw [hX]
          have hfold : ∀ (l : List UInt8) (s : ByteArray), ((l.map fun c => (c.toNat : Int)).foldl (fun r n => r.push (UInt8.ofNat n.toNat)) s) = ⟨s.data ++ l.toArray⟩ := by
            intro l
            induction l with
            | nil => intro s; simp
            | cons c l ih => intro s; simp only [List.map_cons, List.foldl_cons, ih]; simp [ByteArray.push]
          cases a with
          | none =>
            rcases hc with rfl | ⟨_, _, ha, _⟩
            · cases l with
              | nil => rfl
              | cons c l => simp at he
            · cases ha
          | some a =>
            have hl : (loadCells a (SD.bs l).len).run P w = .ok ((l.map fun c => (c.toNat : Int)).map (Value.int .u8)).toArray w := by
              have : ((l.map fun c => (c.toNat : Int)).map (Value.int .u8)) = ys := by rw [he]; simp
              rw [this]
              have hlen : (SD.bs l).len = ys.length := by rw [he]; simp [SD.len]
              rw [hlen]
              refine run_loadCells_list w a ys fun j v hj => ?_
              rcases hc with rfl | ⟨b1, o1, ha, hc⟩
              · simp at hj
              · injection ha with ha; subst ha; rw [addr_add]; exact hc j v hj
            rw [run_bytesToString w a _ c _ hl, hfold]
            simp
        rw [hX] at key
        simp only [execOp, hX, Sem.run_bind, run_convert_bytes_string w t t' _ a _ c h3 h5 h2, key, Result.andThen_ok, Sem.run_pure]
      · cases h'
    · cases h
  · cases h

theorem InvG.liveC (hI : InvG w0 M Z0 b G s tv w) {j : Nat} (h : liveC s.heap j = true) : ∃ bb T vs, G[j]? = some (.cells bb T vs) := by
  unfold Go.Ab.liveC at h
  split at h
  · rename_i hj; obtain ⟨bb, T, vs, hg, _⟩ := hI.cells hj; exact ⟨bb, T, vs, hg⟩
  · cases h
theorem InvG.liveA (hI : InvG w0 M Z0 b G s tv w) {j v : Nat} (h : liveA s.heap j v = true) : ∃ val sz xs, G[j]? = some (.arr v val sz xs) := by
  unfold Go.Ab.liveA at h
  split at h
  · rename_i hj; obtain ⟨val, xs, hg, _⟩ := hI.arr_rd hj; simp only [Nat.beq_eq] at h; subst h; exact ⟨val, _, xs, hg⟩
  · cases h
theorem op_val {Z : Zone} {j v i o : Nat} {val : Value} {sz : Nat} {xs : List Value} (hx : RS G Z w (.op j v i o) X) (hg : G[j]? = some (.arr v val sz xs)) :
    ∃ bb off n c, val = .slice (some ⟨bb, off, none⟩) n c ∧ i < n ∧ X = pv bb (off + i * sz + o) := by
  rcases hx with hx | ⟨ver', val', sz', xs', hx, _, he⟩
  · rw [hg] at hx; cases hx
  · rw [hg] at hx
    injection hx with hx
    injection hx with h1 h2 h3 h4
    subst h1 h2 h3
    exact he rfl
/-- The address of a field. -/
theorem evField_sound (hI : InvG w0 M Z0 b G s tv w) {i D : Nat} {k : SV → OR} (hx : RV G (zn w0 Z0 s G) w vx (ρ x)) (hf : fieldOff P t i = some D) (h : evField s.heap D vx k = some r) :
    ∃ v X, k v = some r ∧ (execOp ρ ⟨d, .fieldAddr t x i, ty, pos, aft, gd⟩).run P w = .ok (.value X) w ∧ OneR G (zn w0 Z0 s G) w v X := by
  unfold evField at h
  split at h
  · obtain ⟨hl, h⟩ := cond_left h
    obtain ⟨bb, T, vs, hg⟩ := hI.liveC hl
    exact ⟨_, _, h, (Y_fieldAddr (S := fun _ => True) hf (ptr_val hx.1 hg)).out w trivial, .inr ⟨bb, T, vs, hg, rfl⟩, rfl⟩
  · obtain ⟨bb, off, cs, hX, hb, hc, hr⟩ := hx.1
    exact ⟨_, _, h, (Y_fieldAddr (S := fun _ => True) hf hX).out w trivial, ⟨bb, off, cs, by rw [Nat.add_assoc], hb, hc, hr⟩, rfl⟩
  · obtain ⟨hl, h⟩ := cond_left h
    obtain ⟨val, sz, xs, hg⟩ := hI.liveA hl
    obtain ⟨bb, off, n, c, hv, hi, hX⟩ := op_val hx.1 hg
    exact ⟨_, _, h, (Y_fieldAddr (S := fun _ => True) hf hX).out w trivial, .inr ⟨_, val, sz, xs, hg, Nat.le_refl _, fun _ => ⟨bb, off, n, c, hv, hi, by rw [Nat.add_assoc]; rfl⟩⟩, rfl⟩
  · cases h
theorem run_nilCheck {bb o : Nat} (h : ρ x = pv bb o) : (execOp ρ ⟨d, .nilCheck x, ty, pos, aft, gd⟩).run P w = .ok (.value (pv bb o)) w := (Y_nilCheck (S := fun _ => True) h).out w trivial
theorem evNil_sound (hI : InvG w0 M Z0 b G s tv w) {k : SV → OR} (hx : RV G (zn w0 Z0 s G) w vx (ρ x)) (h : evNil s.heap vx k = some r) :
    ∃ v X, k v = some r ∧ (execOp ρ ⟨d, .nilCheck x, ty, pos, aft, gd⟩).run P w = .ok (.value X) w ∧ OneR G (zn w0 Z0 s G) w v X := by
  unfold evNil at h
  split at h
  · obtain ⟨hl, h⟩ := cond_left h
    obtain ⟨bb, T, vs, hg⟩ := hI.liveC hl
    exact ⟨_, _, h, run_nilCheck (ptr_val hx.1 hg), .inr ⟨bb, T, vs, hg, rfl⟩, rfl⟩
  · obtain ⟨bb, off, cs, hX, hb, hc, hr⟩ := hx.1
    exact ⟨_, _, h, run_nilCheck hX, ⟨bb, off, cs, rfl, hb, hc, hr⟩, rfl⟩
  · obtain ⟨hl, h⟩ := cond_left h
    obtain ⟨val, sz, xs, hg⟩ := hI.liveA hl
    obtain ⟨bb, off, n, c, hv, hi, hX⟩ := op_val hx.1 hg
    exact ⟨_, _, h, run_nilCheck hX, .inr ⟨_, val, sz, xs, hg, Nat.le_refl _, fun _ => ⟨bb, off, n, c, hv, hi, rfl⟩⟩, rfl⟩
  · obtain ⟨bs, hX, hh⟩ := hx.1
    exact ⟨_, _, h, (Y_nilCheckF (S := fun _ => True) hX).out w trivial, ⟨bs, rfl, hh⟩, rfl⟩
  · cases h
theorem evIndex_sound {Z : Zone} {k : SV → OR} (hx : RV G Z w vx (ρ x)) (hy : RV G Z w vy (ρ y)) (h : evIndex P t vx vy k = some r) :
    ∃ v X, k v = some r ∧ (execOp ρ ⟨d, .index t x y, ty, pos, aft, gd⟩).run P w = .ok (.value X) w ∧ OneR G Z w v X := by
  unfold evIndex at h
  split at h
  · obtain ⟨n, hY, h⟩ := optInt_some h hy
    obtain ⟨hn, h⟩ := cond_left h
    simp only [Bool.and_eq_true, decide_eq_true_eq] at hn
    split at h
    · rename_i hu
      exact ⟨_, _, h, (Y_indexStr (S := fun _ => True) (by simp [isStrT, hu]) (str_inv hx) hY ⟨hn.1, by omega⟩).out w trivial, int_one _ _⟩
    · cases h
  · cases h
theorem evExtract_sound {Z : Zone} {i : Nat} {k : AV → OR} (hx : RV G Z w vx (ρ x)) (h : evExtract vx i k = some r) :
    ∃ v X, k v = some r ∧ (execOp ρ ⟨d, .extract x i, ty, pos, aft, gd⟩).run P w = .ok (.value X) w ∧ RV G Z w v X := by
  unfold evExtract at h
  split at h
  · obtain ⟨v, hv, h⟩ := bind_some h
    obtain ⟨xs, hX, hh⟩ := hx
    obtain ⟨X, hX', hr⟩ := hh.get hv
    exact ⟨_, X, h, (Y_extract (S := fun _ => True) hX (by simpa using hX')).out w trivial, hr⟩
  · cases h
theorem evMax_sound {Z : Zone} {mx : Bool} {tys : Array TypeId} {k : SV → OR} (hx : RV G Z w vx (ρ x)) (hy : RV G Z w vy (ρ y)) (h : evMax mx vx vy k = some r) :
    ∃ v X, k v = some r ∧ (execOp ρ ⟨d, .call ⟨.builtin (cond mx .max .min), #[x, y], tys⟩, ty, pos, aft, gd⟩).run P w = .ok (.value X) w ∧ OneR G Z w v X := by
  unfold evMax at h
  split at h
  · obtain ⟨hk, h'⟩ := cond_left h
    obtain rfl := ikEq_eq hk
    refine ⟨_, _, h', ?_, int_one _ _⟩
    cases mx
    · simp [execOp, resolve, invoke, builtin, Builtin.min_, Builtin.min2, (int_inv hx), (int_inv hy), Sem.run_bind, Sem.run_pure, Int.min_def]
      split <;> split <;> first | rfl | omega
    · simp [execOp, resolve, invoke, builtin, Builtin.max_, Builtin.max2, (int_inv hx), (int_inv hy), Sem.run_bind, Sem.run_pure, Int.max_def]
      split <;> split <;> first | rfl | omega
  · cases h
theorem capsOf_sound (hI : InvG w0 M Z0 b G s tv w) : ∀ {vs : List AV} {xs : List Value} {l : List Nat}, All2 (RV G (zn w0 Z0 s G) w) vs xs → capsOf s.heap vs = some l →
    ∃ bs : List Nat, xs = bs.map (fun b => pv b 0) ∧ All2 (fun j b => G[j]? = some .gone ∨ ∃ T vs, G[j]? = some (.cells b T vs)) l bs
  | [], xs, l, ha, h => by
    obtain rfl := ha.nil_inv
    simp only [capsOf, Option.some.injEq] at h
    subst h
    exact ⟨[], rfl, All2.nil⟩
  | v :: vs, xs, l, ha, h => by
    obtain ⟨X, xs', rfl, h1, h2⟩ := ha.cons_inv
    unfold capsOf at h
    split at h
    · rename_i e; cases e
    · rename_i j vs' e
      simp only [List.cons.injEq] at e
      obtain ⟨rfl, rfl⟩ := e
      cases hl : liveC s.heap j with
      | false => simp [hl] at h
      | true =>
        simp only [hl, cond_true, Option.map_eq_some_iff] at h
        obtain ⟨l', hl', rfl⟩ := h
        obtain ⟨bs, rfl, hh⟩ := capsOf_sound hI h2 hl'
        obtain ⟨bb, T, vs0, hg⟩ := hI.liveC hl
        exact ⟨bb :: bs, by rw [List.map_cons, ptr_val h1.1 hg], All2.cons (.inr ⟨T, vs0, hg⟩) hh⟩
    · cases h
end
end Go.Ab
