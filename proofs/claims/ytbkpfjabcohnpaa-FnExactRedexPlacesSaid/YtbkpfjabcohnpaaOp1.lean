/- The abstract run is sound: operations that only read. No program in sight. -/
import Derived.Test.YtbkpfjabcohnpaaAb1
set_option linter.unusedVariables false
set_option linter.unusedSimpArgs false
namespace Go.Ab
open Go Go.Dk

theorem cond_some {b : Bool} {x y : OR} {r} (h : cond b x y = some r) : (b = true ∧ x = some r) ∨ (b = false ∧ y = some r) := by cases b <;> simp_all
theorem cond_left {b : Bool} {x : OR} {r} (h : cond b x none = some r) : b = true ∧ x = some r := by cases b <;> simp_all
theorem cond_right {b : Bool} {x : OR} {r} (h : cond b none x = some r) : b = false ∧ x = some r := by cases b <;> simp_all
theorem bind_some {α : Type} {o : Option α} {k : α → OR} {r} (h : o.bind k = some r) : ∃ a, o = some a ∧ k a = some r := by cases o <;> simp_all
theorem ikEq_eq {a b : IntKind} (h : ikEq a b = true) : a = b := by simpa [ikEq] using h

section
variable {P : Program} {G : List GO} {Z : Zone} {w : World}
theorem int_inv {k : IntKind} {n : Int} {x : Value} (h : RV G Z w (.v (.one (.int k n))) x) : x = .int k n := h.1
theorem bool_inv {b : Bool} {x : Value} (h : RV G Z w (.v (.one (.bool b))) x) : x = .bool b := h.1
theorem str_inv {b : ByteArray} {x : Value} (h : RV G Z w (.v (.one (.str b))) x) : x = .string b := h.1
theorem OneR.rv {v : SV} {x : Value} (h : OneR G Z w v x) : RV G Z w (.v (.one v)) x := ⟨h.1, fun _ => h.2⟩

theorem svOf_rel (k : Option (TypeId × SK)) (v : Value) : RS G Z w (svOf k v) v := by
  unfold svOf
  split <;> first | rfl | trivial | exact ⟨none, rfl⟩
theorem svOf_cells (k : Option (TypeId × SK)) (v : Value) : svOf k v ≠ .any → oneB v = true := by
  unfold svOf
  split <;> intro h <;> first | rfl | exact absurd rfl h
theorem svsOf_rel : ∀ (ks : List (Option (TypeId × SK))) (vs : List Value), (∀ v ∈ vs, oneB v = true) → All2 (OneR G Z w) (svsOf ks vs) vs
  | _, [], _ => by cases ‹List (Option (TypeId × SK))› <;> exact All2.nil
  | [], v :: vs, h => All2.cons ⟨svOf_rel _ _, h v (by simp)⟩ (svsOf_rel [] vs fun u hu => h u (by simp [hu]))
  | k :: ks, v :: vs, h => All2.cons ⟨svOf_rel _ _, h v (by simp)⟩ (svsOf_rel ks vs fun u hu => h u (by simp [hu]))
theorem any_rel (x : Value) : RV G Z w anyV x := ⟨trivial, fun h => absurd rfl h⟩
theorem ofValue_rel (v : Value) : RV G Z w (AV.ofValue v) v := by
  unfold AV.ofValue
  split
  · rename_i cs
    cases hc : cs.toList.all oneB with
    | true => exact ⟨cs.toList, by simp, svsOf_rel _ _ (fun v hv => List.all_eq_true.1 hc v hv)⟩
    | false => exact any_rel _
  · exact any_rel _
  · exact ⟨svOf_rel _ _, svOf_cells _ _⟩
theorem retype_go_rel : ∀ (ks : List (Option (TypeId × SK))) (l : List SV) (xs : List Value), All2 (OneR G Z w) l xs → All2 (OneR G Z w) (retype.go ks l) xs
  | [], l, xs, h => by unfold retype.go; exact h
  | k :: ks, [], xs, h => by unfold retype.go; exact h
  | k :: ks, x :: l, xs, h => by
    obtain ⟨y, ys, rfl, h1, h2⟩ := h.cons_inv
    have ih := retype_go_rel ks l ys h2
    cases x with
    | emp e => cases e with
      | none => exact All2.cons h1 ih
      | some e => exact All2.cons h1 ih
    | _ => exact All2.cons h1 ih
theorem retype_rel (t : TypeId) {v : AV} {x : Value} (h : RV G Z w v x) : RV G Z w (retype P t v) x := by
  unfold retype
  split
  · exact ⟨h.1, fun _ => h.2 nofun⟩
  · obtain ⟨xs, hx, hh⟩ := h
    exact ⟨xs, hx, retype_go_rel _ _ _ hh⟩
  · exact h

variable {ρ : Operand → Value} {x y : Operand} {d : Option Tmp} {ty t t' : TypeId} {pos : String} {aft : Array Edge} {gd : Option (Nat × Bool)} {vx vy : AV} {r : List V1 × List AObj}
theorem int_one (k : IntKind) (n : Int) : OneR G Z w (.int k n) (.int k n) := ⟨rfl, rfl⟩
theorem bool_one (b : Bool) : OneR G Z w (.bool b) (.bool b) := ⟨rfl, rfl⟩
theorem str_one (b : ByteArray) : OneR G Z w (.str b) (.string b) := ⟨rfl, rfl⟩
theorem evInt_sound {op : BinOp} {ka : IntKind} {a b : Int} {k : SV → OR} (hx : ρ x = .int ka a) (hy : ρ y = .int ka b) (h : evInt op ka a b k = some r) :
    ∃ v X, k v = some r ∧ (execOp ρ ⟨d, .binOp op t x y t', ty, pos, aft, gd⟩).run P w = .ok (.value X) w ∧ OneR G Z w v X := by
  cases op <;> simp only [evInt] at h
  case add => exact ⟨_, _, h, by simp [go_sem, execOp, hx, hy, eqGuard, binOp, Op.intArith], int_one _ _⟩
  case sub => exact ⟨_, _, h, by simp [go_sem, execOp, hx, hy, eqGuard, binOp, Op.intArith], int_one _ _⟩
  case mul => exact ⟨_, _, h, by simp [go_sem, execOp, hx, hy, eqGuard, binOp, Op.intArith], int_one _ _⟩
  case quo =>
    obtain ⟨hb, h⟩ := cond_right h
    have hb : b ≠ 0 := by simpa using hb
    exact ⟨_, _, h, by simp [go_sem, execOp, hx, hy, eqGuard, binOp, Op.intDiv, hb], int_one _ _⟩
  case rem =>
    obtain ⟨hb, h⟩ := cond_right h
    have hb : b ≠ 0 := by simpa using hb
    exact ⟨_, _, h, by simp [go_sem, execOp, hx, hy, eqGuard, binOp, Op.intDiv, hb], int_one _ _⟩
  case xor => exact ⟨_, _, h, by simp [go_sem, execOp, hx, hy, eqGuard, binOp, Op.intBits], int_one _ _⟩
  case eql => exact ⟨_, _, h, by simp [go_sem, execOp, hx, hy, eqGuard, binOp, Op.intCmp]; rfl, bool_one _⟩
  case neq => exact ⟨_, _, h, by simp [go_sem, execOp, hx, hy, eqGuard, binOp, Op.intCmp]; rfl, bool_one _⟩
  case lss => exact ⟨_, _, h, by simp [go_sem, execOp, hx, hy, eqGuard, binOp, Op.intCmp], bool_one _⟩
  case leq => exact ⟨_, _, h, by simp [go_sem, execOp, hx, hy, eqGuard, binOp, Op.intCmp], bool_one _⟩
  case gtr => exact ⟨_, _, h, by simp [go_sem, execOp, hx, hy, eqGuard, binOp, Op.intCmp], bool_one _⟩
  case geq => exact ⟨_, _, h, by simp [go_sem, execOp, hx, hy, eqGuard, binOp, Op.intCmp], bool_one _⟩
  all_goals cases h
theorem evStr_sound {op : BinOp} {a b : ByteArray} {k : SV → OR} (hx : ρ x = .string a) (hy : ρ y = .string b) (h : evStr op a b k = some r) :
    ∃ v X, k v = some r ∧ (execOp ρ ⟨d, .binOp op t x y t', ty, pos, aft, gd⟩).run P w = .ok (.value X) w ∧ OneR G Z w v X := by
  cases op <;> simp only [evStr] at h
  case add =>
    obtain ⟨hb, h⟩ := cond_left h
    exact ⟨_, _, h, (Y_sadd (S := fun _ => True) hx hy (by simpa using hb)).out w trivial, str_one _⟩
  case eql => exact ⟨_, _, h, (Y_seql (S := fun _ => True) hx hy).out w trivial, bool_one _⟩
  case neq => exact ⟨_, _, h, (Y_sneq (S := fun _ => True) hx hy).out w trivial, bool_one _⟩
  case gtr => exact ⟨_, _, h, by simp [go_sem, execOp, hx, hy, eqGuard, binOp, Op.stringOp], bool_one _⟩
  all_goals cases h
theorem evBin_sound {op : BinOp} {k : SV → OR} (hx : RV G Z w vx (ρ x)) (hy : RV G Z w vy (ρ y)) (h : evBin P op t vx vy k = some r) :
    ∃ v X, k v = some r ∧ (execOp ρ ⟨d, .binOp op t x y t', ty, pos, aft, gd⟩).run P w = .ok (.value X) w ∧ OneR G Z w v X := by
  unfold evBin at h
  split at h
  · obtain ⟨hk, h'⟩ := cond_left h
    obtain rfl := ikEq_eq hk
    exact evInt_sound (int_inv hx) (int_inv hy) h'
  · exact evStr_sound (str_inv hx) (str_inv hy) h
  · split at h
    · rename_i hb
      split at h
      · exact ⟨_, _, h, (Y_beql (S := fun _ => True) (bool_inv hx) (bool_inv hy) hb).out w trivial, bool_one _⟩
      · exact ⟨_, _, h, (Y_bneq (S := fun _ => True) (bool_inv hx) (bool_inv hy) hb).out w trivial, bool_one _⟩
      · cases h
    · cases h
  · cases h
theorem evUn_sound {op : UnOp} {k : SV → OR} (hx : RV G Z w vx (ρ x)) (h : evUn op vx k = some r) :
    ∃ v X, k v = some r ∧ (execOp ρ ⟨d, .unOp op t x, ty, pos, aft, gd⟩).run P w = .ok (.value X) w ∧ OneR G Z w v X := by
  unfold evUn at h
  split at h
  · exact ⟨_, _, h, by simp [go_sem, execOp, (bool_inv hx), Op.unary], bool_one _⟩
  · exact ⟨_, _, h, by simp [go_sem, execOp, (int_inv hx), Op.unary, Op.intArith], int_one _ _⟩
  · cases h
theorem optInt_some {v : AV} {X : Value} {k : Int → OR} (h : optInt v k = some r) (hx : RV G Z w v X) : ∃ n, X = .int .i64 n ∧ k n = some r := by
  unfold optInt at h
  split at h
  · exact ⟨_, (int_inv hx), h⟩
  · cases h

/-! Reading memory: slices. -/
theorem SlR.val {D : SD} {X : Value} (h : SlR Z w D X) : ∃ a c, X = .slice a D.len c := by obtain ⟨a, c, _, hx, _⟩ := h; exact ⟨a, c, hx⟩
theorem SK.size_pos (k : SK) : 0 < k.size := by cases k <;> decide
theorem kindE_out {e : TypeId} {k : SK} (h : kindE P e = some k) : kind0 P e = some k ∧ ∃ i z, P.info? e = some i ∧ i.zero = some z ∧ i.size = k.size ∧ z.cells.size = k.size ∧ i.bytes ≤ 64 := by
  unfold kindE at h
  cases h0 : kind0 P e with
  | none => simp [h0] at h
  | some k' =>
    simp only [h0, Option.bind_some] at h
    cases hs : sizeOk P e k' with
    | false => simp [hs] at h
    | true =>
      simp only [hs, cond_true, Option.some.injEq] at h
      subst h
      refine ⟨rfl, ?_⟩
      unfold sizeOk at hs
      split at hs
      · rename_i i hi
        split at hs
        · rename_i z hz
          simp only [Bool.and_eq_true, Nat.beq_eq, Nat.ble_eq] at hs
          exact ⟨i, z, hi, hz, hs.1, hs.2.1, hs.2.2⟩
        · cases hs
      · cases hs
theorem kindS_out {t : TypeId} {e : TypeId × SK} (h : kindS P t = some e) : P.underlying t = some (.slice e.1) ∧ kindE P e.1 = some e.2 := by
  unfold kindS at h
  split at h
  · rename_i e' hu
    cases hk : kindE P e' with
    | none => simp [hk] at h
    | some k => simp only [hk, Option.map_some, Option.some.injEq] at h; subst h; exact ⟨hu, hk⟩
  · cases h
theorem kindS_el {t : TypeId} {e : TypeId × SK} (h : kindS P t = some e) : sliceEl P t = some e.2.size := by
  obtain ⟨h1, h2⟩ := kindS_out h
  obtain ⟨_, i, z, hi, _, hs, _⟩ := kindE_out h2
  unfold sliceEl
  simp only [h1, hi, hs]
theorem SK.beq_eq {a c : SK} (h : SK.beq a c = true) : a = c := by cases a <;> cases c <;> first | rfl | cases h

/-! Elements of what a slice holds. -/
theorem flatT_get {hs : List HT} {i : Nat} {h : HT} (hi : hs[i]? = some h) : (flatT hs)[i * 3]? = some (.int .i64 h.k) ∧ (flatT hs)[i * 3 + 1]? = some (.int .i64 h.n) ∧ (flatT hs)[i * 3 + 2]? = some h.sl := by
  induction hs generalizing i with
  | nil => simp at hi
  | cons x hs ih =>
    rw [flatT_cons]
    cases i with
    | zero => simp at hi; subst hi; exact ⟨rfl, rfl, rfl⟩
    | succ i =>
      have := ih (i := i) (by simpa using hi)
      rw [show (i + 1) * 3 = i * 3 + 1 + 1 + 1 by omega]
      exact this
theorem RdL_cells {b : Nat} : ∀ {ts : List HT} {off : Nat}, RdL Z w b off ts → CellsAt w b off (flatT ts)
  | [], _, _, i, x, hx => by simp [flatT_nil] at hx
  | t :: ts, off, h, i, x, hx => by
    simp only [RdL] at h
    rw [flatT_cons] at hx
    match i, hx with
    | 0, hx => simp at hx; subst hx; simpa using h.1.1
    | 1, hx => simp at hx; subst hx; exact h.1.2.1
    | 2, hx => simp at hx; subst hx; exact h.1.2.2
    | i + 3, hx =>
      have := RdL_cells h.2.2 i x (by simpa using hx)
      rw [show off + (i + 3) = off + 3 + i by omega]; exact this
theorem RdL_each {b : Nat} : ∀ {ts : List HT} {off : Nat}, RdL Z w b off ts → ∀ t ∈ ts, Rd Z w t
  | [], _, _, t, ht => by cases ht
  | u :: ts, off, h, t, ht => by
    simp only [RdL] at h
    rcases List.mem_cons.1 ht with rfl | ht
    · exact h.2.1
    · exact RdL_each h.2.2 t ht
theorem Rd_sl {t : HT} (h : Rd Z w t) : SlR Z w (.ts t.er.kids) t.sl := by
  cases t with | mk k n a cap kids =>
  simp only [Rd] at h
  obtain ⟨h1, h2, h3⟩ := h
  have hk : (HT.mk k n a cap kids).er.kids = kids.map HT.er := HT.er_kids _
  refine ⟨a, cap, flatT kids, ?_, ?_, ?_, ?_, ?_⟩
  · simp [HT.sl, HT.a, HT.kids, HT.cap, hk, SD.len]
  · simpa [hk, SD.len] using h2
  · simpa [hk, SD.len, maxLen] using h3
  · rcases h1 with rfl | ⟨b, off, ha, hb, hl⟩
    · exact ⟨[], by simp [hk], rfl, nofun⟩
    · exact ⟨kids, hk.symm, rfl, RdL_each hl⟩
  · rcases h1 with rfl | ⟨b, off, ha, hb, hl⟩
    · exact .inl rfl
    · exact .inr ⟨b, off, ha, hb, RdL_cells hl⟩
theorem sl_Rd {l : List T} {X : Value} (h : SlR Z w (.ts l) X) (k n : Int) : ∃ t : HT, t.er = .mk k n l ∧ Rd Z w t ∧ t.sl = X ∧ t.k = k ∧ t.n = n := by
  obtain ⟨a, cap, xs, hx, h1, h2, ⟨hs, rfl, rfl, hr⟩, h4⟩ := h
  refine ⟨.mk k n a cap hs, by rw [HT.er_eq]; rfl, ?_, ?_, rfl, rfl⟩
  · simp only [Rd]
    refine ⟨?_, by simpa [SD.len] using h1, by simpa [SD.len, maxLen] using h2⟩
    rcases h4 with h4 | ⟨b, off, ha, hb, hc⟩
    · left
      cases hs with
      | nil => rfl
      | cons t ts => rw [flatT_cons] at h4; cases h4
    · exact .inr ⟨b, off, ha, hb, RdL_of_cells hs off (fun j u hj => hc j u hj) hr⟩
  · rw [hx]; simp [HT.sl, HT.a, HT.kids, HT.cap, SD.len]
theorem ElemsR.length {D : SD} {xs : List Value} (h : ElemsR Z w D xs) : xs.length = D.len * D.kind.size := by
  cases D with
  | ts l => obtain ⟨hs, rfl, rfl, _⟩ := h; rw [flatT_length]; simp [SD.len, SD.kind, SK.size]
  | is l => simp only [ElemsR] at h; subst h; simp [SD.len, SD.kind, SK.size]
  | iss l => have := All2.mono h (fun _ _ _ h => h) |>.1; simp [SD.len, SD.kind, SK.size, this]
  | ss l => simp only [ElemsR] at h; subst h; simp [SD.len, SD.kind, SK.size]
  | bs l => simp only [ElemsR] at h; subst h; simp [SD.len, SD.kind, SK.size]
theorem lt_of_some {α : Type} {l : List α} {i : Nat} {a : α} (h : l[i]? = some a) : i < l.length := by
  rcases Nat.lt_or_ge i l.length with h' | h'
  · exact h'
  · rw [List.getElem?_eq_none h'] at h; cases h
theorem ElemsR.get {D : SD} {xs : List Value} (h : ElemsR Z w D xs) {i : Nat} {k : SE → OR} (hg : D.get i k = some r) :
    ∃ e cs, k e = some r ∧ i < D.len ∧ CellsR Z w e cs ∧ ∀ (j : Nat) v, cs[j]? = some v → xs[i * D.kind.size + j]? = some v := by
  cases D with
  | ts l =>
    obtain ⟨hs, rfl, rfl, hr⟩ := h
    obtain ⟨x, hx, hk⟩ := bind_some hg
    rw [List.getElem?_map] at hx
    obtain ⟨t, ht, rfl⟩ := Option.map_eq_some_iff.1 hx
    have := flatT_get ht
    refine ⟨_, _, hk, by simpa [SD.len] using lt_of_some ht, ⟨t, rfl, hr t (List.mem_of_getElem? ht), rfl⟩, fun j v hv => ?_⟩
    match j, hv with
    | 0, hv => simp at hv; subst hv; exact this.1
    | 1, hv => simp at hv; subst hv; exact this.2.1
    | 2, hv => simp at hv; subst hv; exact this.2.2
    | j + 3, hv => simp at hv
  | is l =>
    simp only [ElemsR] at h; subst h
    obtain ⟨x, hx, hk⟩ := bind_some hg
    refine ⟨_, _, hk, lt_of_some hx, rfl, fun j v hv => ?_⟩
    match j, hv with
    | 0, hv => simp at hv; subst hv; simp [SD.kind, SK.size, hx]
    | j + 1, hv => simp at hv
  | iss l =>
    obtain ⟨x, hx, hk⟩ := bind_some hg
    obtain ⟨X, hX, hr⟩ := All2.get h hx
    refine ⟨_, _, hk, lt_of_some hx, ⟨X, rfl, hr⟩, fun j v hv => ?_⟩
    match j, hv with
    | 0, hv => simp at hv; subst hv; simpa [SD.kind, SK.size] using hX
    | j + 1, hv => simp at hv
  | ss l =>
    simp only [ElemsR] at h; subst h
    obtain ⟨x, hx, hk⟩ := bind_some hg
    refine ⟨_, _, hk, lt_of_some hx, rfl, fun j v hv => ?_⟩
    match j, hv with
    | 0, hv => simp at hv; subst hv; simp [SD.kind, SK.size, hx]
    | j + 1, hv => simp at hv
  | bs l =>
    simp only [ElemsR] at h; subst h
    obtain ⟨x, hx, hk⟩ := bind_some hg
    refine ⟨_, _, hk, lt_of_some hx, rfl, fun j v hv => ?_⟩
    match j, hv with
    | 0, hv => simp at hv; subst hv; simp [SD.kind, SK.size, hx]
    | j + 1, hv => simp at hv
/-- The cells that an element shows are what they are. -/
theorem CellsR.cells {e : SE} {cs : List Value} (h : CellsR Z w e cs) : All2 (OneR G Z w) e.cells cs := by
  cases e with
  | t x =>
    obtain ⟨t, rfl, hr, rfl⟩ := h
    refine All2.cons ⟨?_, rfl⟩ (All2.cons ⟨?_, rfl⟩ (All2.cons ⟨Rd_sl hr, rfl⟩ All2.nil))
    · show _ = _; rw [HT.er_k]
    · show _ = _; rw [HT.er_n]
  | i n => simp only [CellsR] at h; subst h; exact All2.cons ⟨rfl, rfl⟩ All2.nil
  | ii l =>
    obtain ⟨x, rfl, a, cap, rfl, h1, h2, h3⟩ := h
    refine All2.cons ⟨⟨a, cap, l.map (.int .i64 ·), rfl, h1, h2, rfl, ?_⟩, rfl⟩ All2.nil
    rcases h3 with rfl | h3
    · exact .inl rfl
    · exact .inr h3
  | s x => simp only [CellsR] at h; subst h; exact All2.cons ⟨rfl, rfl⟩ All2.nil
  | b c => simp only [CellsR] at h; subst h; exact All2.cons ⟨rfl, rfl⟩ All2.nil

/-! Loads. -/
theorem structT_out {n : Nat} (h : structT P t = some n) : ∃ fs i, P.underlying t = some (.struct fs) ∧ P.info? t = some i ∧ i.size = n := by
  unfold structT at h
  split at h
  · rename_i fs i hu hi
    exact ⟨fs, i, hu, hi, Option.some.inj h⟩
  · cases h
theorem run_load_one {a : Addr} {X : Value} (ht : scalarT P t = true) (hc : w.cell? a = some X) : (loadVar t a).run P w = .ok X w := by
  unfold scalarT at ht
  cases hu : P.underlying t with
  | none => simp [hu] at ht
  | some de =>
    have hag : (isAgg t).run P w = .ok false w := by
      simp only [isAgg, Sem.run_bind, run_underlying hu, Result.andThen_ok]
      cases de <;> simp_all
    simp [loadVar, Sem.run_bind, hag, load, Sem.run, hc]
theorem run_load_agg {b o n : Nat} {xs : List Value} (ht : structT P t = some n) (hc : CellsAt w b o xs) (hn : xs.length = n) : (loadVar t ⟨b, o, none⟩).run P w = .ok (.agg xs.toArray) w := by
  obtain ⟨fs, i, hu, hi, hs⟩ := structT_out ht
  have hag : (isAgg t).run P w = .ok true w := by
    simp only [isAgg, Sem.run_bind, run_underlying hu, Result.andThen_ok]; rfl
  have hl := run_loadCells_list (P := P) (w := w) ⟨b, o, none⟩ xs (fun j v hj => by rw [addr_add]; exact hc j v hj)
  rw [hn, ← hs] at hl
  simp only [loadVar, Sem.run_bind, hag, Result.andThen_ok, if_true, Go.Dk.run_sizeOf hi, hl, Sem.run_pure]
theorem CellsAt.drop {b o : Nat} {xs : List Value} (h : CellsAt w b o xs) (n : Nat) : CellsAt w b (o + n) (xs.drop n) := fun i x hx => by
  rw [List.getElem?_drop] at hx
  rw [Nat.add_assoc]; exact h (n + i) x hx
theorem CellsAt.take {b o : Nat} {xs : List Value} (h : CellsAt w b o xs) (n : Nat) : CellsAt w b o (xs.take n) := fun i x hx => by
  rw [List.getElem?_take] at hx
  split at hx
  · exact h i x hx
  · cases hx
theorem packK_sound {l : List SV} {xs : List Value} {b o : Nat} {k : AV → OR} (hl : All2 (OneR G Z w) l xs) (hc : CellsAt w b o xs) (h : packK P t l k = some r) :
    ∃ v X, k v = some r ∧ (loadVar t ⟨b, o, none⟩).run P w = .ok X w ∧ RV G Z w v X := by
  unfold packK at h
  split at h
  · rename_i ht
    split at h
    · rename_i c l'
      obtain ⟨X, xs', rfl, h1, _⟩ := hl.cons_inv
      exact ⟨_, X, h, run_load_one ht (hc 0 X rfl), h1.1, fun _ => h1.2⟩
    · cases h
  · split at h
    · rename_i n hs
      obtain ⟨hn, h⟩ := cond_left h
      simp only [Nat.ble_eq] at hn
      exact ⟨_, .agg (xs.take n).toArray, h, run_load_agg hs (hc.take n) (by rw [List.length_take, ← hl.1]; omega), ⟨_, rfl, hl.take n⟩⟩
    · cases h
theorem St.cells_at {w0 : World} {M Z0 : Zone} {L : List Res} {φ : Fact} {b : Nat} {T : TypeId} {vs : List Value} (hw : St w0 M Z0 L φ w) (hr : blk b vs T ∈ L) : CellsAt w b 0 vs := by
  intro i x hx
  have := hw.own _ hr
  simp only [blk] at this
  simp [World.cell?, this, hx]
theorem rowR_cells {e sz n : Nat} {X : Value} {xs : List Value} {b off m c : Nat} (h : (rowR e sz X n xs).own w) (hX : X = .slice (some ⟨b, off, none⟩) m c) : off = 0 ∧ m = n ∧ CellsAt w b 0 xs := by
  simp only [rowR] at h
  obtain ⟨_, h⟩ := h
  rcases h with ⟨h, _⟩ | ⟨g, cap, cur, h, _, hg, _, _, _, ht⟩
  · rw [hX] at h; cases h
  · rw [hX] at h
    injection h with h1 h2 h3
    injection h1 with h1
    injection h1 with h4 h5
    subst h4 h5 h2
    refine ⟨rfl, rfl, fun i x hx => ?_⟩
    have : cur.toList[i]? = some x := by
      rw [← ht] at hx
      rw [List.getElem?_take] at hx
      split at hx
      · exact hx
      · cases hx
    simp only [World.cell?, hg, Nat.zero_add]
    simpa using this
theorem mem_resL : ∀ {h : List AObj} {G : List GO} {j : Nat} {o : AObj} {g : GO} {q : Res}, h[j]? = some o → G[j]? = some g → q ∈ resO o g → q ∈ resL h G
  | [], _, j, o, g, q, hj, _, _ => by simp at hj
  | _ :: _, [], j, o, g, q, _, gj, _ => by simp at gj
  | x :: h, y :: G, 0, o, g, q, hj, gj, hq => by
    simp at hj gj; subst hj gj; simp [resL, hq]
  | x :: h, y :: G, j + 1, o, g, q, hj, gj, hq => by
    simp only [resL, List.mem_append]
    exact .inr (mem_resL (by simpa using hj) (by simpa using gj) hq)
end

/-! What the objects say, in a memory that they describe. -/
section
variable {P : Program} {w0 w : World} {M Z0 : Zone} {b : Nat} {G : List GO} {s : AS} {tv : List Value}
abbrev zn (w0 : World) (Z0 : Zone) (s : AS) (G : List GO) : Zone := zone w0 Z0 (resL s.heap G)
theorem InvG.cells (hI : InvG w0 M Z0 b G s tv w) {j : Nat} {l : List SV} (hj : s.heap[j]? = some (.cells l)) :
    ∃ bb T vs, G[j]? = some (.cells bb T vs) ∧ All2 (OneR G (zn w0 Z0 s G) w) l vs ∧ CellsAt w bb 0 vs ∧ blk bb vs T ∈ resL s.heap G := by
  obtain ⟨g, hg, hr⟩ := hI.st.per.2.get hj
  cases g with
  | cells bb T vs =>
    have hm : blk bb vs T ∈ resL s.heap G := mem_resL hj hg (by simp [resO])
    exact ⟨bb, T, vs, hg, hr, St.cells_at hI.st hm, hm⟩
  | _ => exact hr.elim
/-- An array that a value stands for. -/
theorem InvG.arr (hI : InvG w0 M Z0 b G s tv w) {j v : Nat} {e : TypeId} {D : SD} {ver : Nat} {fz : Bool} (hj : s.heap[j]? = some (.arr e D ver fz)) :
    ∃ val xs, G[j]? = some (.arr ver val D.kind.size xs) ∧ cond fz (SlR (zn w0 Z0 s G) w D val) (ElemsR (zn w0 Z0 s G) w D xs ∧ ∃ a c, val = .slice a D.len c) := by
  obtain ⟨g, hg, hr⟩ := hI.st.per.2.get hj
  cases g with
  | arr ver' val sz xs => obtain ⟨rfl, rfl, h3⟩ := hr; exact ⟨val, xs, hg, h3⟩
  | _ => exact hr.elim
theorem own_val {j v : Nat} {X val : Value} {ver sz : Nat} {xs : List Value} {Z : Zone} (hx : RS G Z w (.own j v) X) (hg : G[j]? = some (.arr ver val sz xs)) (hv : v = ver) : X = val := by
  rcases hx with hx | ⟨ver', val', sz', xs', hx, _, he⟩
  · rw [hg] at hx; cases hx
  · rw [hg] at hx
    injection hx with hx
    injection hx with h1 h2 h3 h4
    subst h1 h2
    exact he hv
theorem ptr_val {j o : Nat} {X : Value} {bb : Nat} {T : TypeId} {vs : List Value} {Z : Zone} (hx : RS G Z w (.ptr j o) X) (hg : G[j]? = some (.cells bb T vs)) : X = pv bb o := by
  rcases hx with hx | ⟨b', T', vs', hx, he⟩
  · rw [hg] at hx; cases hx
  · rw [hg] at hx
    injection hx with hx
    injection hx with h1 h2 h3
    subst h1; exact he
/-- A slice that can be read. -/
def RdS (Z : Zone) (w : World) (D : SD) (X : Value) : Prop := ∃ a c ys, X = .slice a D.len c ∧ D.len ≤ maxLen ∧ ElemsR Z w D ys ∧ (ys = [] ∨ ∃ b off, a = some ⟨b, off, none⟩ ∧ CellsAt w b off ys)
theorem SlR.rd {Z : Zone} {D : SD} {X : Value} (h : SlR Z w D X) : RdS Z w D X := by
  obtain ⟨a, c, ys, hx, h1, h2, h3, h4⟩ := h
  exact ⟨a, c, ys, hx, h2, h3, h4.imp id fun ⟨b, off, ha, _, hc⟩ => ⟨b, off, ha, hc⟩⟩
theorem RdS.ne {Z : Zone} {D : SD} {X : Value} (h : RdS Z w D X) (hl : 0 < D.len) : ∃ b off c ys, X = .slice (some ⟨b, off, none⟩) D.len c ∧ ElemsR Z w D ys ∧ CellsAt w b off ys := by
  obtain ⟨a, c, ys, hx, h2, h3, h4⟩ := h
  rcases h4 with rfl | ⟨b, off, rfl, hc⟩
  · have := h3.length
    have hp := SK.size_pos D.kind
    have : 0 < D.len * D.kind.size := Nat.mul_pos hl hp
    simp at *; omega
  · exact ⟨b, off, c, ys, hx, h3, hc⟩
/-- What stands in an array of the call's own or in one that is frozen. -/
theorem InvG.arr_rd (hI : InvG w0 M Z0 b G s tv w) {j : Nat} {e : TypeId} {D : SD} {ver : Nat} {fz : Bool} (hj : s.heap[j]? = some (.arr e D ver fz)) :
    ∃ val xs, G[j]? = some (.arr ver val D.kind.size xs) ∧ RdS (zn w0 Z0 s G) w D val := by
  obtain ⟨val, xs, hg, hh⟩ := hI.arr (v := 0) hj
  cases fz with
  | true => exact ⟨val, xs, hg, SlR.rd hh⟩
  | false =>
    obtain ⟨h1, a, c, hx⟩ := hh
    have hm : rowZ e D.kind.size val D.len xs ∈ resL s.heap G := mem_resL hj hg (by simp [resO])
    have ho := hI.st.own _ hm
    refine ⟨val, xs, hg, ?_⟩
    subst hx
    unfold rowZ at ho
    split at ho
    · rename_i a' _ he
      obtain ⟨h0, rfl, _⟩ := ho
      exact ⟨a, c, [], rfl, by rw [h0]; exact Nat.zero_le _, h1, .inl rfl⟩
    · rename_i v hne
      have ho' := ho
      simp only [rowR] at ho
      rcases ho.2 with ⟨h2, _⟩ | ⟨g, cap, cur, h2, _, _, hn, hm, _, _⟩
      · injection h2 with _ _ h3; subst h3; exact absurd rfl (hne a D.len)
      · injection h2 with h3 h4 h5
        subst h3 h5
        exact ⟨_, _, xs, rfl, Nat.le_trans hn hm, h1, .inr ⟨g, 0, rfl, (rowR_cells ho' rfl).2.2⟩⟩
theorem evLoad_addr (hI : InvG w0 M Z0 b G s tv w) {t : TypeId} {VX : Value} {vx : AV} {k : AV → OR} {r : List V1 × List AObj}
    (hx : RV G (zn w0 Z0 s G) w vx VX) (h : evLoad P t vx s.heap k = some r) :
    ∃ v X bb o, k v = some r ∧ VX = pv bb o ∧ (loadVar t ⟨bb, o, none⟩).run P w = .ok X w ∧ RV G (zn w0 Z0 s G) w v X := by
  unfold evLoad at h
  split at h
  · rename_i j off
    split at h
    · rename_i l hj
      obtain ⟨bb, T, vs, hg, ha, hc, _⟩ := hI.cells hj
      obtain ⟨v, X, h1, h2, h3⟩ := packK_sound (ha.drop off) (hc.drop off) h
      exact ⟨v, X, _, _, h1, by rw [Nat.zero_add]; exact ptr_val hx.1 hg, h2, h3⟩
    · cases h
  · rename_i e off
    obtain ⟨bb, o, cs, hp, hb, hc, hr⟩ := hx.1
    obtain ⟨v, X, h1, h2, h3⟩ := packK_sound (hr.cells.drop off) (hc.drop off) h
    exact ⟨v, X, _, _, h1, hp, h2, h3⟩
  · rename_i j v i off
    split at h
    · rename_i D ver fz hj
      obtain ⟨hv, h⟩ := cond_left h
      simp only [Nat.beq_eq] at hv
      obtain ⟨val, xs, hg, a, c, ys, hval, _, he, hc⟩ := hI.arr_rd hj
      obtain ⟨el, cs, h, hlt, hr, hsub⟩ := he.get h
      rcases hx.1 with hx | ⟨ver', val', sz', xs', hx, _, hh⟩
      · rw [hg] at hx; cases hx
      · rw [hg] at hx
        injection hx with hx
        injection hx with e1 e2 e3 e4
        subst e1 e2 e3
        obtain ⟨bb, o, n, c', hs, hi, hp⟩ := hh hv
        have hcs : CellsAt w bb (o + i * D.kind.size) cs := by
          rcases hc with rfl | ⟨b1, o1, ha, hc⟩
          · intro q u hq; have := hsub q u hq; simp at this
          · rw [hval, ha] at hs
            injection hs with hs _ _
            injection hs with hs
            injection hs with e1 e2
            subst e1 e2
            intro q u hq; rw [Nat.add_assoc]; exact hc _ u (hsub q u hq)
        obtain ⟨v, X, h1, h2, h3⟩ := packK_sound (hr.cells.drop off) (hcs.drop off) h
        exact ⟨v, X, _, _, h1, hp, h2, h3⟩
    · cases h
  · cases h
theorem evLoad_sound (hI : InvG w0 M Z0 b G s tv w) {ρ : Operand → Value} {x : Operand} {d : Option Tmp} {ty t : TypeId} {pos : String} {aft : Array Edge} {gd : Option (Nat × Bool)} {vx : AV} {k : AV → OR} {r : List V1 × List AObj}
    (hx : RV G (zn w0 Z0 s G) w vx (ρ x)) (h : evLoad P t vx s.heap k = some r) :
    ∃ v X, k v = some r ∧ (execOp ρ ⟨d, .load t x, ty, pos, aft, gd⟩).run P w = .ok (.value X) w ∧ RV G (zn w0 Z0 s G) w v X := by
  obtain ⟨v, X, bb, o, h1, hp, hr, hv⟩ := evLoad_addr hI hx h
  refine ⟨v, X, h1, ?_, hv⟩
  simp [execOp, Instr.loadAt, hp, pv, Instr.sureAddr, Sem.run_bind, hr]

/-! Slices that are read. -/
theorem SK.nil_len (k : SK) : k.nil.len = 0 := by cases k <;> rfl
theorem SK.nil_kind (k : SK) : k.nil.kind = k := by cases k <;> rfl
theorem ElemsR_nil {Z : Zone} (k : SK) : ElemsR Z w k.nil [] := by cases k <;> first | exact ⟨[], rfl, rfl, nofun⟩ | rfl | exact All2.nil
theorem RdS_nil {Z : Zone} (k : SK) (a : Option Addr) : RdS Z w k.nil (.slice a 0 0) := ⟨a, 0, [], by rw [k.nil_len], by rw [k.nil_len]; exact Nat.zero_le _, ElemsR_nil k, .inl rfl⟩
theorem SlR_nil {Z : Zone} (k : SK) (a : Option Addr) : SlR Z w k.nil (.slice a 0 0) := ⟨a, 0, [], by rw [k.nil_len], by rw [k.nil_len]; exact Nat.le_refl _, by rw [k.nil_len]; exact Nat.zero_le _, ElemsR_nil k, .inl rfl⟩
variable {ρ : Operand → Value} {x y : Operand} {d : Option Tmp} {ty t t' : TypeId} {pos : String} {aft : Array Edge} {gd : Option (Nat × Bool)} {vx vy : AV} {r : List V1 × List AObj} {X : Value}
theorem readS_sound (hI : InvG w0 M Z0 b G s tv w) {v : SV} {k : SD → OR} (hx : RS G (zn w0 Z0 s G) w v X) (h : readS s.heap v k = some r) : ∃ D, k D = some r ∧ RdS (zn w0 Z0 s G) w D X := by
  unfold readS at h
  split at h
  · exact ⟨_, h, SlR.rd hx⟩
  · obtain ⟨a, rfl⟩ := hx
    exact ⟨_, h, RdS_nil _ _⟩
  · split at h
    · rename_i hj
      obtain ⟨hv, h'⟩ := cond_left h
      simp only [Nat.beq_eq] at hv
      obtain ⟨val, xs, hg, hr⟩ := hI.arr_rd hj
      rw [own_val hx hg hv]
      exact ⟨_, h', hr⟩
    · cases h
  · cases h
theorem evLen_sound (hI : InvG w0 M Z0 b G s tv w) {k : SV → OR} (hx : RV G (zn w0 Z0 s G) w vx (ρ x)) (h : evLen P t vx s.heap k = some r) :
    ∃ v X, k v = some r ∧ (execOp ρ ⟨d, .call ⟨.builtin .len, #[x], #[t]⟩, ty, pos, aft, gd⟩).run P w = .ok (.value X) w ∧ OneR G (zn w0 Z0 s G) w v X := by
  unfold evLen at h
  split at h
  · split at h
    · rename_i hu
      exact ⟨_, _, h, (Y_lenStr (S := fun _ => True) (by simp [isStrT, hu]) (str_inv hx)).out w trivial, int_one _ _⟩
    · cases h
  · split at h
    · rename_i hk
      obtain ⟨a, hX⟩ := hx.1
      exact ⟨_, _, h, (Y_lenSlice (S := fun _ => True) (kindS_el hk) hX).out w trivial, int_one _ _⟩
    · cases h
  · split at h
    · rename_i hk
      obtain ⟨D, h', a, c, ys, hX, _⟩ := readS_sound hI hx.1 h
      exact ⟨_, _, h', (Y_lenSlice (S := fun _ => True) (kindS_el hk) hX).out w trivial, int_one _ _⟩
    · cases h
  · cases h
theorem SlR.get {Z : Zone} {D : SD} {i : Nat} {k : SE → OR} (h : SlR Z w D X) (hg : D.get i k = some r) :
    ∃ e bb off c, k e = some r ∧ X = .slice (some ⟨bb, off, none⟩) D.len c ∧ i < D.len ∧ EpR Z w e 0 (pv bb (off + i * D.kind.size)) := by
  obtain ⟨a, c, ys, hx, h1, h2, h3, h4⟩ := h
  obtain ⟨e, cs, hk, hlt, hr, hsub⟩ := h3.get hg
  rcases h4 with rfl | ⟨bb, off, rfl, hb, hc⟩
  · cases cs with
    | nil => exact absurd rfl hr.ne
    | cons u cs => have := hsub 0 u rfl; simp at this
  · exact ⟨e, bb, off, c, hk, hx, hlt, bb, off + i * D.kind.size, cs, rfl, hb, fun q u hq => by rw [Nat.add_assoc]; exact hc _ u (hsub q u hq), hr⟩
theorem evIndexAddr_sound (hI : InvG w0 M Z0 b G s tv w) {k : SV → OR} (hx : RV G (zn w0 Z0 s G) w vx (ρ x)) (hy : RV G (zn w0 Z0 s G) w vy (ρ y)) (h : evIndexAddr P t vx vy s.heap k = some r) :
    ∃ v X, k v = some r ∧ (execOp ρ ⟨d, .indexAddr t x y, ty, pos, aft, gd⟩).run P w = .ok (.value X) w ∧ OneR G (zn w0 Z0 s G) w v X := by
  unfold evIndexAddr at h
  split at h
  · cases h
  · rename_i e hk
    obtain ⟨i, hY, h⟩ := optInt_some h hy
    obtain ⟨hi, h⟩ := cond_left h
    have hi : 0 ≤ i := by simpa using hi
    split at h
    · rename_i D
      obtain ⟨he, h⟩ := cond_left h
      have he := SK.beq_eq he
      obtain ⟨el, bb, off, c, h, hX, hlt, hp⟩ := SlR.get hx.1 h
      refine ⟨_, _, h, (Y_indexAddr (S := fun _ => True) (kindS_el hk) hX hY ⟨hi, by omega⟩).out w trivial, ?_, rfl⟩
      rw [he]; exact hp
    · split at h
      · rename_i j v D ver _ hj
        obtain ⟨hv, h⟩ := cond_left h
        simp only [Bool.and_eq_true, Nat.beq_eq] at hv
        have he := SK.beq_eq hv.2
        obtain ⟨hlt, h⟩ := cond_left h
        have hlt : i < D.len := by simpa using hlt
        obtain ⟨val, xs, hg, hr⟩ := hI.arr_rd hj
        obtain ⟨bb, off, c, ys, hX, _⟩ := hr.ne (by omega)
        have hX' := own_val hx.1 hg hv.1
        refine ⟨_, _, h, (Y_indexAddr (S := fun _ => True) (kindS_el hk) (hX'.trans hX) hY ⟨hi, hlt⟩).out w trivial, .inr ⟨ver, val, D.kind.size, xs, hg, by omega, fun _ => ⟨bb, off, D.len, c, hX, by omega, ?_⟩⟩, rfl⟩
        rw [he]; rfl
      · cases h
    · cases h
theorem kind0_b {e : TypeId} (h : kind0 P e = some .b) : P.underlying e = some (.int .u8) := by
  unfold kind0 at h
  split at h
  · split at h <;> cases h
  · cases h
  · rename_i hu; exact hu
  · cases h
  · split at h <;> cases h
  · cases h
theorem bs_list {l : List UInt8} {ys : List Value} {Z : Zone} (h : ElemsR Z w (.bs l) ys) : ys = l.map fun c => .int .u8 (c.toNat : Int) := h
theorem evConv_sound (hI : InvG w0 M Z0 b G s tv w) {k : SV → OR} (hx : RV G (zn w0 Z0 s G) w vx (ρ x)) (h : evConv P t t' vx s.heap k = some r) :
    ∃ v X, k v = some r ∧ (execOp ρ ⟨d, .convert t t' x, ty, pos, aft, gd⟩).run P w = .ok (.value X) w ∧ OneR G (zn w0 Z0 s G) w v X := by
  unfold evConv at h
  split at h
  · split at h
    · rename_i h1 h2
      exact ⟨_, _, h, by simp [go_sem, execOp, convert, (int_inv hx), Sem.run_bind, run_underlying h1, run_underlying h2, Conv.intToInt], int_one _ _⟩
    · cases h
  · split at h
    · rename_i h1 h2
      obtain ⟨D, h', a, c, ys, hX, hmx, he, hc⟩ := readS_sound hI hx.1 h
      split at h'
      · rename_i l
        obtain ⟨h3, h4⟩ := kindS_out h1
        have h5 := kind0_b (kindE_out h4).1
        have he := bs_list he
        refine ⟨_, _, h', ?_, str_one _⟩
        have key : (Conv.bytesToString (ρ x)).run P w = .ok (.string ⟨l.toArray⟩) w := by
          rw [hX]
          have hfold : ∀ (l : List UInt8) (s : ByteArray), ((l.map fun c => (c.toNat : Int)).foldl (fun r n => r.push (UInt8.ofNat n.toNat)) s) = ⟨s.data ++ l.toArray⟩ := by
            intro l
            induction l with
            | nil => intro s; simp
            | cons c l ih => intro s; simp only [List.map_cons, List.foldl_cons, ih]; simp [ByteArray.push]
          cases a with
          | none =>
            rcases hc with rfl | ⟨_, _, ha, _⟩
            · cases l with
              | nil => rfl
              | cons c l => simp at he
            · cases ha
          | some a =>
            have hl : (loadCells a (SD.bs l).len).run P w = .ok ((l.map fun c => (c.toNat : Int)).map (Value.int .u8)).toArray w := by
              have : ((l.map fun c => (c.toNat : Int)).map (Value.int .u8)) = ys := by rw [he]; simp
              rw [this]
              have hlen : (SD.bs l).len = ys.length := by rw [he]; simp [SD.len]
              rw [hlen]
              refine run_loadCells_list w a ys fun j v hj => ?_
              rcases hc with rfl | ⟨b1, o1, ha, hc⟩
              · simp at hj
              · injection ha with ha; subst ha; rw [addr_add]; exact hc j v hj
            rw [run_bytesToString w a _ c _ hl, hfold]
            simp
        rw [hX] at key
        simp only [execOp, hX, Sem.run_bind, run_convert_bytes_string w t t' _ a _ c h3 h5 h2, key, Result.andThen_ok, Sem.run_pure]
      · cases h'
    · cases h
  · cases h

theorem InvG.liveC (hI : InvG w0 M Z0 b G s tv w) {j : Nat} (h : liveC s.heap j = true) : ∃ bb T vs, G[j]? = some (.cells bb T vs) := by
  unfold Go.Ab.liveC at h
  split at h
  · rename_i hj; obtain ⟨bb, T, vs, hg, _⟩ := hI.cells hj; exact ⟨bb, T, vs, hg⟩
  · cases h
theorem InvG.liveA (hI : InvG w0 M Z0 b G s tv w) {j v : Nat} (h : liveA s.heap j v = true) : ∃ val sz xs, G[j]? = some (.arr v val sz xs) := by
  unfold Go.Ab.liveA at h
  split at h
  · rename_i hj; obtain ⟨val, xs, hg, _⟩ := hI.arr_rd hj; simp only [Nat.beq_eq] at h; subst h; exact ⟨val, _, xs, hg⟩
  · cases h
theorem op_val {Z : Zone} {j v i o : Nat} {val : Value} {sz : Nat} {xs : List Value} (hx : RS G Z w (.op j v i o) X) (hg : G[j]? = some (.arr v val sz xs)) :
    ∃ bb off n c, val = .slice (some ⟨bb, off, none⟩) n c ∧ i < n ∧ X = pv bb (off + i * sz + o) := by
  rcases hx with hx | ⟨ver', val', sz', xs', hx, _, he⟩
  · rw [hg] at hx; cases hx
  · rw [hg] at hx
    injection hx with hx
    injection hx with h1 h2 h3 h4
    subst h1 h2 h3
    exact he rfl
/-- The address of a field. -/
theorem evField_sound (hI : InvG w0 M Z0 b G s tv w) {i D : Nat} {k : SV → OR} (hx : RV G (zn w0 Z0 s G) w vx (ρ x)) (hf : fieldOff P t i = some D) (h : evField s.heap D vx k = some r) :
    ∃ v X, k v = some r ∧ (execOp ρ ⟨d, .fieldAddr t x i, ty, pos, aft, gd⟩).run P w = .ok (.value X) w ∧ OneR G (zn w0 Z0 s G) w v X := by
  unfold evField at h
  split at h
  · obtain ⟨hl, h⟩ := cond_left h
    obtain ⟨bb, T, vs, hg⟩ := hI.liveC hl
    exact ⟨_, _, h, (Y_fieldAddr (S := fun _ => True) hf (ptr_val hx.1 hg)).out w trivial, .inr ⟨bb, T, vs, hg, rfl⟩, rfl⟩
  · obtain ⟨bb, off, cs, hX, hb, hc, hr⟩ := hx.1
    exact ⟨_, _, h, (Y_fieldAddr (S := fun _ => True) hf hX).out w trivial, ⟨bb, off, cs, by rw [Nat.add_assoc], hb, hc, hr⟩, rfl⟩
  · obtain ⟨hl, h⟩ := cond_left h
    obtain ⟨val, sz, xs, hg⟩ := hI.liveA hl
    obtain ⟨bb, off, n, c, hv, hi, hX⟩ := op_val hx.1 hg
    exact ⟨_, _, h, (Y_fieldAddr (S := fun _ => True) hf hX).out w trivial, .inr ⟨_, val, sz, xs, hg, Nat.le_refl _, fun _ => ⟨bb, off, n, c, hv, hi, by rw [Nat.add_assoc]; rfl⟩⟩, rfl⟩
  · cases h
theorem run_nilCheck {bb o : Nat} (h : ρ x = pv bb o) : (execOp ρ ⟨d, .nilCheck x, ty, pos, aft, gd⟩).run P w = .ok (.value (pv bb o)) w := (Y_nilCheck (S := fun _ => True) h).out w trivial
theorem evNil_sound (hI : InvG w0 M Z0 b G s tv w) {k : SV → OR} (hx : RV G (zn w0 Z0 s G) w vx (ρ x)) (h : evNil s.heap vx k = some r) :
    ∃ v X, k v = some r ∧ (execOp ρ ⟨d, .nilCheck x, ty, pos, aft, gd⟩).run P w = .ok (.value X) w ∧ OneR G (zn w0 Z0 s G) w v X := by
  unfold evNil at h
  split at h
  · obtain ⟨hl, h⟩ := cond_left h
    obtain ⟨bb, T, vs, hg⟩ := hI.liveC hl
    exact ⟨_, _, h, run_nilCheck (ptr_val hx.1 hg), .inr ⟨bb, T, vs, hg, rfl⟩, rfl⟩
  · obtain ⟨bb, off, cs, hX, hb, hc, hr⟩ := hx.1
    exact ⟨_, _, h, run_nilCheck hX, ⟨bb, off, cs, rfl, hb, hc, hr⟩, rfl⟩
  · obtain ⟨hl, h⟩ := cond_left h
    obtain ⟨val, sz, xs, hg⟩ := hI.liveA hl
    obtain ⟨bb, off, n, c, hv, hi, hX⟩ := op_val hx.1 hg
    exact ⟨_, _, h, run_nilCheck hX, .inr ⟨_, val, sz, xs, hg, Nat.le_refl _, fun _ => ⟨bb, off, n, c, hv, hi, rfl⟩⟩, rfl⟩
  · obtain ⟨bs, hX, hh⟩ := hx.1
    exact ⟨_, _, h, (Y_nilCheckF (S := fun _ => True) hX).out w trivial, ⟨bs, rfl, hh⟩, rfl⟩
  · cases h
theorem evIndex_sound {Z : Zone} {k : SV → OR} (hx : RV G Z w vx (ρ x)) (hy : RV G Z w vy (ρ y)) (h : evIndex P t vx vy k = some r) :
    ∃ v X, k v = some r ∧ (execOp ρ ⟨d, .index t x y, ty, pos, aft, gd⟩).run P w = .ok (.value X) w ∧ OneR G Z w v X := by
  unfold evIndex at h
  split at h
  · obtain ⟨n, hY, h⟩ := optInt_some h hy
    obtain ⟨hn, h⟩ := cond_left h
    simp only [Bool.and_eq_true, decide_eq_true_eq] at hn
    split at h
    · rename_i hu
      exact ⟨_, _, h, (Y_indexStr (S := fun _ => True) (by simp [isStrT, hu]) (str_inv hx) hY ⟨hn.1, by omega⟩).out w trivial, int_one _ _⟩
    · cases h
  · cases h
theorem evExtract_sound {Z : Zone} {i : Nat} {k : AV → OR} (hx : RV G Z w vx (ρ x)) (h : evExtract vx i k = some r) :
    ∃ v X, k v = some r ∧ (execOp ρ ⟨d, .extract x i, ty, pos, aft, gd⟩).run P w = .ok (.value X) w ∧ RV G Z w v X := by
  unfold evExtract at h
  split at h
  · obtain ⟨v, hv, h⟩ := bind_some h
    obtain ⟨xs, hX, hh⟩ := hx
    obtain ⟨X, hX', hr⟩ := hh.get hv
    exact ⟨_, X, h, (Y_extract (S := fun _ => True) hX (by simpa using hX')).out w trivial, hr⟩
  · cases h
theorem evMax_sound {Z : Zone} {mx : Bool} {tys : Array TypeId} {k : SV → OR} (hx : RV G Z w vx (ρ x)) (hy : RV G Z w vy (ρ y)) (h : evMax mx vx vy k = some r) :
    ∃ v X, k v = some r ∧ (execOp ρ ⟨d, .call ⟨.builtin (cond mx .max .min), #[x, y], tys⟩, ty, pos, aft, gd⟩).run P w = .ok (.value X) w ∧ OneR G Z w v X := by
  unfold evMax at h
  split at h
  · obtain ⟨hk, h'⟩ := cond_left h
    obtain rfl := ikEq_eq hk
    refine ⟨_, _, h', ?_, int_one _ _⟩
    cases mx
    · simp [execOp, resolve, invoke, builtin, Builtin.min_, Builtin.min2, (int_inv hx), (int_inv hy), Sem.run_bind, Sem.run_pure, Int.min_def]
      split <;> split <;> first | rfl | omega
    · simp [execOp, resolve, invoke, builtin, Builtin.max_, Builtin.max2, (int_inv hx), (int_inv hy), Sem.run_bind, Sem.run_pure, Int.max_def]
      split <;> split <;> first | rfl | omega
  · cases h
theorem capsOf_sound (hI : InvG w0 M Z0 b G s tv w) : ∀ {vs : List AV} {xs : List Value} {l : List Nat}, All2 (RV G (zn w0 Z0 s G) w) vs xs → capsOf s.heap vs = some l →
    ∃ bs : List Nat, xs = bs.map (fun b => pv b 0) ∧ All2 (fun j b => G[j]? = some .gone ∨ ∃ T vs, G[j]? = some (.cells b T vs)) l bs
  | [], xs, l, ha, h => by
    obtain rfl := ha.nil_inv
    simp only [capsOf, Option.some.injEq] at h
    subst h
    exact ⟨[], rfl, All2.nil⟩
  | v :: vs, xs, l, ha, h => by
    obtain ⟨X, xs', rfl, h1, h2⟩ := ha.cons_inv
    unfold capsOf at h
    split at h
    · rename_i e; cases e
    · rename_i j vs' e
      simp only [List.cons.injEq] at e
      obtain ⟨rfl, rfl⟩ := e
      cases hl : liveC s.heap j with
      | false => simp [hl] at h
      | true =>
        simp only [hl, cond_true, Option.map_eq_some_iff] at h
        obtain ⟨l', hl', rfl⟩ := h
        obtain ⟨bs, rfl, hh⟩ := capsOf_sound hI h2 hl'
        obtain ⟨bb, T, vs0, hg⟩ := hI.liveC hl
        exact ⟨bb :: bs, by rw [List.map_cons, ptr_val h1.1 hg], All2.cons (.inr ⟨T, vs0, hg⟩) hh⟩
    · cases h
end
end Go.Ab
namespace Go.Ab
open Go Go.Dk

section
variable {P : Program} {w0 w w' : World} {M Z0 : Zone} {b : Nat} {G : List GO} {s : AS} {tv : List Value}
theorem zn_le {Z : Zone} {L L' : List Res} (h : ∀ r ∈ L', r ∈ L) : ∀ k, zone w0 Z0 L k → zone w0 Z0 L' k := fun k hk => ⟨hk.1, fun r hr => hk.2 r (h r hr)⟩
theorem keeps_le {Z Z' : Zone} (h : ∀ k, Z k → Z' k) : Keeps Z Z' w w := fun k hk _ => ⟨h k hk, rfl⟩
theorem InvG.put (hI : InvG w0 M Z0 b G s tv w) (d : Option Tmp) {v : AV} {X : Value} (h : RV G (zn w0 Z0 s G) w v X) :
    InvG w0 M Z0 b G (s.put d v) (match d with | some d => tv.set d X | none => tv) w := by
  cases d with
  | none => exact hI
  | some d => exact ⟨hI.st.weak (relF_stable _ _ _) fun hp => ⟨hp.1.set d h, hp.2⟩, hI.fresh, hI.mz⟩
theorem InvG.len (hI : InvG w0 M Z0 b G s tv w) : s.heap.length = G.length := hI.st.per.2.1
theorem set_same {α : Type} {l : List α} {j : Nat} {a : α} (h : l[j]? = some a) : l.set j a = l := by
  apply List.ext_getElem?
  intro i
  by_cases hi : j = i
  · subst hi; rw [List.getElem?_set_self (lt_of_some h), h]
  · rw [List.getElem?_set_ne hi]
/-- An array is frozen. -/
theorem InvG.freezeAt (hI : InvG w0 M Z0 b G s tv w) {j : Nat} {e : TypeId} {D : SD} {ver : Nat} {fz : Bool} (hj : s.heap[j]? = some (.arr e D ver fz)) :
    InvG w0 M Z0 b G ⟨s.tmps, s.heap.set j (.arr e D ver true)⟩ tv w ∧ (∀ k, zn w0 Z0 s G k → zn w0 Z0 ⟨s.tmps, s.heap.set j (.arr e D ver true)⟩ G k) := by
  cases fz with
  | true => rw [set_same hj]; exact ⟨hI, fun _ h => h⟩
  | false =>
    obtain ⟨val, xs, hg, hrd⟩ := hI.arr_rd hj
    have hP := hI.st.perm (resL_out s.heap G j hj hg)
    have hrest : (resL (s.heap.set j (.arr e D ver true)) G).Perm (resL (s.heap.set j .dead) (G.set j .gone)) := by
      have := resL_out (s.heap.set j (.arr e D ver true)) G j (o := .arr e D ver true) (g := .arr ver val D.kind.size xs) (by simp [lt_of_some hj]) hg
      rw [List.set_set] at this
      simpa [resO] using this
    have hS : St w0 M Z0 (rowZ e D.kind.size val D.len xs :: resL (s.heap.set j .dead) (G.set j .gone)) (relF s G tv) w := by simpa [resO] using hP
    have hT := hS.tail.perm hrest.symm
    have hle : ∀ k, zn w0 Z0 s G k → zone w0 Z0 (resL (s.heap.set j (.arr e D ver true)) G) k := by
      refine zn_le (Z := Z0) fun r hr => ?_
      exact (resL_out s.heap G j hj hg).mem_iff.2 (List.mem_append.2 (.inr (hrest.mem_iff.1 hr)))
    refine ⟨⟨hT.weak (relF_stable _ _ _) fun hp => ⟨hp.1, ?_⟩, hI.fresh, hI.mz⟩, hle⟩
    have := hp.2.set j (a := .arr e D ver true) (b := .arr ver val D.kind.size xs) ⟨rfl, rfl, ?_⟩
    · rw [set_same hg] at this; exact this
    · show SlR _ _ _ _
      obtain ⟨a, c, ys, hX, hm, he, hc⟩ := hrd
      have ho := hS.own _ (List.mem_cons_self ..)
      have hcap : D.len ≤ c := by
        subst hX
        unfold rowZ at ho
        split at ho
        · rename_i he; obtain ⟨h0, _⟩ := ho; rw [h0]; exact Nat.zero_le _
        · simp only [rowR] at ho
          rcases ho.2 with ⟨h2, h3⟩ | ⟨g, cap, cur, h2, _, _, hn, _⟩
          · rw [h3]; exact Nat.zero_le _
          · injection h2 with _ _ h5; omega
      refine ⟨a, c, ys, hX, hcap, hm, he.stable (keeps_le hle), ?_⟩
      rcases hc with hc | ⟨b1, off, ha, hc⟩
      · exact .inl hc
      · by_cases hys : ys = []
        · exact .inl hys
        · refine .inr ⟨b1, off, ha, ?_, hc⟩
          have hc0 : c ≠ 0 := by
            rintro rfl
            have h0 : D.len = 0 := by omega
            have := he.length
            rw [h0, Nat.zero_mul] at this
            exact hys (List.eq_nil_of_length_eq_zero this)
          have hfoot : (rowZ e D.kind.size val D.len xs).foot b1 := by
            subst hX ha
            unfold rowZ
            split
            · rename_i he; injection he with _ _ h3; exact absurd h3 hc0
            · rfl
          have hk := (hS.key _ (List.mem_cons_self ..) b1 hfoot).1
          refine ⟨hk.imp (hI.mz.1 b1) id, fun r hr hf => ?_⟩
          have hd := hS.dis
          rw [List.pairwise_cons] at hd
          exact hd.1 r (hrest.mem_iff.1 hr) b1 hfoot hf
/-- The tmps and their values alone. -/
theorem InvG.frozen_val (hI : InvG w0 M Z0 b G s tv w) {j v : Nat} {e : TypeId} {D : SD} {ver : Nat} {X : Value} (hj : s.heap[j]? = some (.arr e D ver true)) (hv : v = ver) (hx : RS G (zn w0 Z0 s G) w (.own j v) X) :
    SlR (zn w0 Z0 s G) w D X := by
  obtain ⟨val, xs, hg, hh⟩ := hI.arr (v := 0) hj
  rw [own_val hx hg hv]; exact hh
structure Sealed (w0 : World) (M Z0 : Zone) (b : Nat) (G : List GO) (s : AS) (tv : List Value) (w : World) (h : List AObj) : Prop where
  inv : InvG w0 M Z0 b G ⟨s.tmps, h⟩ tv w
  le : ∀ k, zn w0 Z0 s G k → zn w0 Z0 ⟨s.tmps, h⟩ G k
  dead : ∀ j : Nat, s.heap[j]? = some .dead → h[j]? = some .dead
theorem Sealed.refl (hI : InvG w0 M Z0 b G s tv w) : Sealed w0 M Z0 b G s tv w s.heap := ⟨hI, fun _ h => h, fun _ h => h⟩
theorem Sealed.trans {h h' : List AObj} (h1 : Sealed w0 M Z0 b G s tv w h) (h2 : Sealed w0 M Z0 b G ⟨s.tmps, h⟩ tv w h') : Sealed w0 M Z0 b G s tv w h' :=
  ⟨h2.inv, fun k hk => h2.le k (h1.le k hk), fun j hj => h2.dead j (h1.dead j hj)⟩
variable {r : List V1 × List AObj}
theorem sealS_sound (hI : InvG w0 M Z0 b G s tv w) {v : SV} {X : Value} {k : SV → List AObj → OR} (hx : OneR G (zn w0 Z0 s G) w v X) (h : sealS s.heap v k = some r) :
    ∃ v' h', k v' h' = some r ∧ Sealed w0 M Z0 b G s tv w h' ∧ OneR G (zn w0 Z0 ⟨s.tmps, h'⟩ G) w v' X := by
  unfold sealS at h
  split at h
  · rename_i j v
    split at h
    · rename_i e D ver fz hj
      obtain ⟨hv, h'⟩ := cond_left h
      simp only [Nat.beq_eq] at hv
      obtain ⟨h1, h2⟩ := hI.freezeAt hj
      refine ⟨_, _, h', ⟨h1, h2, fun i hi => ?_⟩, ?_, hx.2⟩
      · have : j ≠ i := by rintro rfl; rw [hj] at hi; cases hi
        simpa [List.getElem?_set_ne this] using hi
      · exact h1.frozen_val (e := e) (by simp [lt_of_some hj]) hv (hx.1.stable (keeps_le h2))
    · cases h
  · obtain ⟨⟨a, rfl⟩, h2⟩ := hx
    exact ⟨_, _, h, Sealed.refl hI, SlR_nil _ _, h2⟩
  · exact ⟨_, _, h, Sealed.refl hI, hx⟩
theorem sealL_sound : ∀ {l : List SV} {s : AS} {xs : List Value} {k : List SV → List AObj → OR}, InvG w0 M Z0 b G s tv w → All2 (OneR G (zn w0 Z0 s G) w) l xs → sealL s.heap l k = some r →
    ∃ l' h', k l' h' = some r ∧ Sealed w0 M Z0 b G s tv w h' ∧ All2 (OneR G (zn w0 Z0 ⟨s.tmps, h'⟩ G) w) l' xs
  | [], s, xs, k, hI, ha, h => by
    obtain rfl := ha.nil_inv
    exact ⟨_, _, h, Sealed.refl hI, All2.nil⟩
  | v :: l, s, xs, k, hI, ha, h => by
    obtain ⟨X, xs', rfl, h1, h2⟩ := ha.cons_inv
    unfold sealL at h
    obtain ⟨v', h', hk, hs, hv⟩ := sealS_sound hI h1 h
    obtain ⟨l', h'', hk', hs', hl⟩ := sealL_sound hs.inv (h2.mono fun _ _ _ q => ⟨q.1.stable (keeps_le hs.le), q.2⟩) hk
    exact ⟨_, _, hk', hs.trans hs', All2.cons ⟨hv.1.stable (keeps_le hs'.le), hv.2⟩ hl⟩

/-! Elements out of cells. -/
def SE.kind : SE → SK | .t _ => .t | .i _ => .i | .ii _ => .ii | .s _ => .s | .b _ => .b
theorem one_int {Z : Zone} {k : IntKind} {n : Int} {X : Value} (h : OneR G Z w (.int k n) X) : X = .int k n := h.1
theorem u8_back {n : Int} (h0 : 0 ≤ n) (h1 : n ≤ 255) : ((UInt8.ofNat n.toNat).toNat : Int) = n := by
  have : (UInt8.ofNat n.toNat).toNat = n.toNat % 256 := by simp
  rw [this]; omega
theorem elemOf_sound {Z : Zone} {e : SK} {l : List SV} {xs : List Value} {k : SE → OR} (ha : All2 (OneR G Z w) l xs) (h : elemOf e l k = some r) :
    ∃ x, k x = some r ∧ CellsR Z w x xs ∧ x.kind = e ∧ (∀ v ∈ xs, oneB v = true) := by
  have h1 : ∀ v ∈ xs, oneB v = true := fun v hv => by
    obtain ⟨i, hi⟩ := List.getElem?_of_mem hv
    obtain ⟨a, _, hr⟩ := ha.get' hi
    exact hr.2
  unfold elemOf at h
  split at h
  · rename_i a c l
    obtain ⟨x1, m1, rfl, e1, ha⟩ := ha.cons_inv
    obtain ⟨x2, m2, rfl, e2, ha⟩ := ha.cons_inv
    obtain ⟨x3, m3, rfl, e3, ha⟩ := ha.cons_inv
    obtain rfl := ha.nil_inv
    obtain ⟨t, h2, h3, h4, h5, h6⟩ := sl_Rd e3.1 a c
    exact ⟨_, h, ⟨t, h2, h3, by rw [one_int e1, one_int e2, h4, h5, h6]⟩, rfl, h1⟩
  · obtain ⟨x1, m1, rfl, e1, ha⟩ := ha.cons_inv
    obtain rfl := ha.nil_inv
    exact ⟨_, h, by rw [one_int e1]; rfl, rfl, h1⟩
  · obtain ⟨x1, m1, rfl, e1, ha⟩ := ha.cons_inv
    obtain rfl := ha.nil_inv
    obtain ⟨a, c, ys, h2, h3, h4, h5, h6⟩ := e1.1
    simp only [ElemsR] at h5
    subst h5
    exact ⟨_, h, ⟨x1, rfl, a, c, h2, h3, h4, h6.imp (fun h => by simpa using h) id⟩, rfl, h1⟩
  · obtain ⟨x1, m1, rfl, e1, ha⟩ := ha.cons_inv
    obtain rfl := ha.nil_inv
    exact ⟨_, h, by rw [show x1 = _ from e1.1]; rfl, rfl, h1⟩
  · obtain ⟨x1, m1, rfl, e1, ha⟩ := ha.cons_inv
    obtain rfl := ha.nil_inv
    obtain ⟨hn, h⟩ := cond_left h
    simp only [Bool.and_eq_true, decide_eq_true_eq] at hn
    exact ⟨_, h, by rw [one_int e1]; show _ = _; rw [u8_back hn.1 hn.2], rfl, h1⟩
  · cases h
theorem snoc_sound {Z : Zone} {D D' : SD} {x : SE} {xs cs : List Value} (hd : ElemsR Z w D xs) (hc : CellsR Z w x cs) (h : D.snoc x = some D') :
    ElemsR Z w D' (xs ++ cs) ∧ D'.len = D.len + 1 ∧ D'.kind = D.kind ∧ cs.length = D.kind.size ∧ x.kind = D.kind := by
  unfold SD.snoc at h
  split at h
  · obtain rfl := Option.some.inj h
    obtain ⟨hs, rfl, rfl, hr⟩ := hd
    obtain ⟨t, rfl, ht, rfl⟩ := hc
    refine ⟨⟨hs ++ [t], by simp, by rw [flatT_append, flatT_cons, flatT_nil], fun u hu => ?_⟩, by simp [SD.len], rfl, rfl, rfl⟩
    rcases List.mem_append.1 hu with hu | hu
    · exact hr u hu
    · rw [List.mem_singleton.1 hu]; exact ht
  · obtain rfl := Option.some.inj h
    simp only [ElemsR, CellsR] at hd hc; subst hd hc
    exact ⟨by simp [ElemsR], by simp [SD.len], rfl, rfl, rfl⟩
  · obtain rfl := Option.some.inj h
    obtain ⟨X, rfl, hX⟩ := hc
    exact ⟨All2.append hd (All2.cons hX All2.nil), by simp [SD.len], rfl, rfl, rfl⟩
  · obtain rfl := Option.some.inj h
    simp only [ElemsR, CellsR] at hd hc; subst hd hc
    exact ⟨by simp [ElemsR], by simp [SD.len], rfl, rfl, rfl⟩
  · obtain rfl := Option.some.inj h
    simp only [ElemsR, CellsR] at hd hc; subst hd hc
    exact ⟨by simp [ElemsR], by simp [SD.len], rfl, rfl, rfl⟩
  · cases h
theorem elemsOf_sound {e : SK} : ∀ {cs : List (List SV)} {s : AS} {xss : List (List Value)} {D : SD} {ys : List Value} {k : SD → List AObj → OR}, InvG w0 M Z0 b G s tv w →
    All2 (All2 (OneR G (zn w0 Z0 s G) w)) cs xss → ElemsR (zn w0 Z0 s G) w D ys → D.kind = e → elemsOf e s.heap cs D k = some r →
    ∃ D' h', k D' h' = some r ∧ Sealed w0 M Z0 b G s tv w h' ∧ ElemsR (zn w0 Z0 ⟨s.tmps, h'⟩ G) w D' (ys ++ xss.flatten) ∧ D'.len = D.len + cs.length ∧ D'.kind = e ∧ ∀ x ∈ xss, x.length = e.size ∧ ∀ v ∈ x, oneB v = true
  | [], s, xss, D, ys, k, hI, ha, he, hk, h => by
    obtain rfl := ha.nil_inv
    exact ⟨D, s.heap, h, Sealed.refl hI, by simpa using he, rfl, hk, by simp⟩
  | c :: cs, s, xss, D, ys, k, hI, ha, he, hk, h => by
    obtain ⟨x, xss', rfl, h1, h2⟩ := ha.cons_inv
    unfold elemsOf at h
    obtain ⟨c', h', h, hs, hc⟩ := sealL_sound hI h1 h
    obtain ⟨el, h, hcr, hek, hone⟩ := elemOf_sound hc h
    obtain ⟨D1, hd1, h⟩ := bind_some h
    obtain ⟨g1, g2, g3, g4, g5⟩ := snoc_sound (he.stable (keeps_le hs.le)) hcr hd1
    obtain ⟨D', h'', hk', hs', e1, e2, e3, e4⟩ := elemsOf_sound (k := k) hs.inv (h2.mono fun _ _ _ q => q.mono fun _ _ _ p => ⟨p.1.stable (keeps_le hs.le), p.2⟩) g1 (g3.trans hk) h
    refine ⟨D', h'', hk', hs.trans hs', by rw [List.flatten_cons, ← List.append_assoc]; exact e1, by rw [e2, g2, List.length_cons]; omega, e3, ?_⟩
    intro y hy
    rcases List.mem_cons.1 hy with rfl | hy
    · exact ⟨by rw [g4, hk], hone⟩
    · exact e4 y hy

/-! New objects, and objects that turn. -/
theorem InvG.dead_fresh (hI : InvG w0 M Z0 b G s tv w) {j : Nat} (h : G[j]? = some .fresh) : s.heap[j]? = some .dead := by
  obtain ⟨o, ho, hr⟩ := hI.st.per.2.get' h
  cases o with
  | dead => exact ho
  | _ => exact hr.elim
theorem InvG.newObj (hI : InvG w0 M Z0 b G s tv w) (hb : b < G.length) (hg : Grow w w') {o : AObj} {g : GO} (hq : ∀ q ∈ resO o g, q.own w' ∧ ∀ k, q.foot k → w.heap.size ≤ k ∧ k < w'.heap.size)
    (hro : ∀ Z', Keeps (zn w0 Z0 s G) Z' w w' → RO (G.set b g) Z' w' o g) :
    InvG w0 M Z0 (b + 1) (G.set b g) ⟨s.tmps, s.heap.set b o⟩ tv w' ∧ Keeps (zn w0 Z0 s G) (zn w0 Z0 ⟨s.tmps, s.heap.set b o⟩ (G.set b g)) w w' := by
  have hgb := hI.fresh b (Nat.le_refl _) hb
  have hdead := hI.dead_fresh hgb
  have hbl : b < s.heap.length := by rw [hI.len]; exact hb
  have hin := resL_in (h := s.heap) (G := G) o g hbl hb
  have hP := hI.st.perm (resL_out s.heap G b hdead hgb)
  rw [resO_dead, List.nil_append] at hP
  have hone : resO o g = [] ∨ ∃ q, resO o g = [q] := by
    unfold resO; split
    · exact .inr ⟨_, rfl⟩
    · exact .inr ⟨_, rfl⟩
    · exact .inl rfl
  have hup : Up G (G.set b g) := Up.set fun g0 h0 => by rw [hgb] at h0; obtain rfl := Option.some.inj h0; trivial
  have hfr : ∀ j, b + 1 ≤ j → j < (G.set b g).length → (G.set b g)[j]? = some .fresh := fun j hj hl => by
    rw [List.getElem?_set_ne (by omega)]; exact hI.fresh j (by omega) (by simpa using hl)
  have fin : ∀ {L : List Res}, St w0 M Z0 L (relF s G tv) w' → L.Perm (resL (s.heap.set b o) (G.set b g)) → Keeps (zn w0 Z0 s G) (zone w0 Z0 L) w w' →
      InvG w0 M Z0 (b + 1) (G.set b g) ⟨s.tmps, s.heap.set b o⟩ tv w' ∧ Keeps (zn w0 Z0 s G) (zn w0 Z0 ⟨s.tmps, s.heap.set b o⟩ (G.set b g)) w w' := by
    intro L hs hp hk
    have hk' : Keeps (zn w0 Z0 s G) (zone w0 Z0 (resL (s.heap.set b o) (G.set b g))) w w' := fun k hz hl => ⟨⟨(hk k hz hl).1.1, fun q hq' => (hk k hz hl).1.2 q (hp.mem_iff.2 hq')⟩, (hk k hz hl).2⟩
    refine ⟨⟨(hs.perm hp).weak (relF_stable _ _ _) fun hh => ⟨hh.1.mono fun _ _ _ q => q.up hup, ?_⟩, hfr, hI.mz⟩, hk'⟩
    exact (All2.mono hh.2 fun _ _ _ q => q.up hup).set b (hro _ hk')
  rcases hone with h0 | ⟨q, h1⟩
  · rw [h0, List.nil_append] at hin
    refine fin (hP.grow hg) hin fun k hz hl => ⟨⟨hz.1, fun q hq' => hz.2 q ?_⟩, hg.blk hl⟩
    exact (resL_out s.heap G b hdead hgb).mem_iff.2 (by rw [resO_dead, List.nil_append]; exact hq')
  · rw [h1] at hin
    have hqq := hq q (by rw [h1]; exact List.mem_cons_self ..)
    have hql : q.Local := resO_local o g q (by rw [h1]; exact List.mem_cons_self ..)
    refine fin (hP.push hg hql hqq.1 hqq.2) hin fun k hz hl => ⟨⟨hz.1, fun q' hq' => ?_⟩, hg.blk hl⟩
    rcases List.mem_cons.1 hq' with rfl | hq'
    · intro hf; have := (hqq.2 k hf).1; omega
    · exact hz.2 q' ((resL_out s.heap G b hdead hgb).mem_iff.2 (by rw [resO_dead, List.nil_append]; exact hq'))
theorem InvG.updObj (hI : InvG w0 M Z0 b G s tv w) {j : Nat} {o o' : AObj} {g g' : GO} {q q' : Res} (hj : s.heap[j]? = some o) (hgj : G[j]? = some g) (hne : g ≠ .fresh) (h1 : resO o g = [q]) (hx : Ext q.foot w w') (h1' : resO o' g' = [q'])
    (ho : q'.own w') (hf : ∀ k, q'.foot k → (q.foot k ∨ w.heap.size ≤ k) ∧ k < w'.heap.size) (hup : Up G (G.set j g'))
    (hro : ∀ Z', Keeps (zn w0 Z0 s G) Z' w w' → RO (G.set j g') Z' w' o' g') :
    InvG w0 M Z0 b (G.set j g') ⟨s.tmps, s.heap.set j o'⟩ tv w' ∧ Keeps (zn w0 Z0 s G) (zn w0 Z0 ⟨s.tmps, s.heap.set j o'⟩ (G.set j g')) w w' := by
  have hjl := lt_of_some hj
  have hgl := lt_of_some hgj
  have hin := resL_in (h := s.heap) (G := G) o' g' hjl hgl
  have hP := hI.st.perm (resL_out s.heap G j hj hgj)
  rw [h1] at hP
  rw [h1'] at hin
  have hU : St w0 M Z0 (q' :: resL (s.heap.set j .dead) (G.set j .gone)) (relF s G tv) w' := by
    have := hP.upd (n := 0) (r := q) (r' := q') rfl hx (resO_local o' g' q' (by rw [h1']; exact List.mem_cons_self ..)) ho hf
    simpa using this
  have hk' : Keeps (zn w0 Z0 s G) (zone w0 Z0 (resL (s.heap.set j o') (G.set j g'))) w w' := fun k hz hl => by
    have hqn : ¬ q.foot k := hz.2 q (mem_resL hj hgj (by rw [h1]; exact List.mem_cons_self ..))
    refine ⟨⟨hz.1, fun p hp => ?_⟩, hx.block k hl hqn⟩
    rcases List.mem_cons.1 (hin.mem_iff.2 hp) with rfl | hp
    · intro hf'
      rcases (hf k hf').1 with h2 | h2
      · exact hqn h2
      · omega
    · exact hz.2 p ((resL_out s.heap G j hj hgj).mem_iff.2 (List.mem_append.2 (.inr hp)))
  refine ⟨⟨(hU.perm hin).weak (relF_stable _ _ _) fun hh => ⟨hh.1.mono fun _ _ _ p => p.up hup, ?_⟩, fun i hi hl => ?_, hI.mz⟩, hk'⟩
  · exact (All2.mono hh.2 fun _ _ _ p => p.up hup).set j (hro _ hk')
  · have : j ≠ i := by
      rintro rfl
      have := hI.fresh j hi hgl
      rw [hgj] at this
      exact hne (Option.some.inj this)
    rw [List.getElem?_set_ne this]; exact hI.fresh i hi (by simpa using hl)
end
end Go.Ab
namespace Go.Ab
open Go Go.Dk

section
variable {P : Program} {w0 w w' : World} {M Z0 : Zone} {b : Nat} {G : List GO} {s : AS} {tv : List Value} {r : List V1 × List AObj}
theorem oneB_cells {X : Value} (h : oneB X = true) : X.cells = #[X] := by cases X <;> first | rfl | (simp [oneB] at h)
theorem cs_sound {Z : Zone} {v : AV} {X : Value} {c : List SV} (h : v.cs = some c) (hx : RV G Z w v X) : ∃ xs : List Value, X.cells = xs.toArray ∧ All2 (OneR G Z w) c xs := by
  unfold AV.cs at h
  split at h
  · cases h
  · rename_i v hne
    obtain rfl := Option.some.inj h
    have h1 := hx.2 (fun e => hne (by rw [e]))
    exact ⟨[X], oneB_cells h1, All2.cons ⟨hx.1, h1⟩ All2.nil⟩
  · obtain rfl := Option.some.inj h
    obtain ⟨xs, rfl, hh⟩ := hx
    exact ⟨xs, rfl, hh⟩
  · cases h
theorem csL_sound {Z : Zone} : ∀ {vs : List AV} {Xs : List Value} {cs : List (List SV)}, csL vs = some cs → All2 (RV G Z w) vs Xs →
    ∃ xss : List (List Value), Xs.map Value.cells = xss.map List.toArray ∧ All2 (All2 (OneR G Z w)) cs xss
  | [], Xs, cs, h, ha => by
    obtain rfl := ha.nil_inv
    simp only [csL, Option.some.injEq] at h; subst h
    exact ⟨[], rfl, All2.nil⟩
  | v :: vs, Xs, cs, h, ha => by
    obtain ⟨X, Xs', rfl, h1, h2⟩ := ha.cons_inv
    simp only [csL] at h
    cases hv : v.cs with
    | none => simp [hv] at h
    | some c =>
      simp only [hv, Option.bind_some, Option.map_eq_some_iff] at h
      obtain ⟨cs', hcs, rfl⟩ := h
      obtain ⟨xs, he, hh⟩ := cs_sound hv h1
      obtain ⟨xss, he', hh'⟩ := csL_sound hcs h2
      exact ⟨xs :: xss, by simp [he, he'], All2.cons hh hh'⟩
theorem InvG.raise {b' : Nat} (hI : InvG w0 M Z0 b G s tv w) (h : b ≤ b') : InvG w0 M Z0 b' G s tv w := ⟨hI.st, fun j hj hl => hI.fresh j (Nat.le_trans h hj) hl, hI.mz⟩
theorem OneR.mono {Z Z' : Zone} {G' : List GO} {v : SV} {X : Value} (h : OneR G Z w v X) (hk : Keeps Z Z' w w') (hu : Up G G') : OneR G' Z' w' v X := ⟨(h.1.stable hk).up hu, h.2⟩

variable {ρ : Operand → Value} {x y : Operand} {d : Option Tmp} {ty t t' : TypeId} {pos : String} {aft : Array Edge} {gd : Option (Nat × Bool)} {vx vy : AV} {X : Value}
/-! New variables. -/
theorem newCells (hI : InvG w0 M Z0 b G s tv w) (hb : b < G.length) {l : List SV} {xs : List Value} (ha : All2 (OneR G (zn w0 Z0 s G) w) l xs) (T : TypeId) :
    InvG w0 M Z0 (b + 1) (G.set b (.cells w.heap.size T xs)) ⟨s.tmps, s.heap.set b (.cells l)⟩ tv (w.alloc (.cells xs.toArray T (0, 0))) ∧
    RV (G.set b (.cells w.heap.size T xs)) (zn w0 Z0 ⟨s.tmps, s.heap.set b (.cells l)⟩ (G.set b (.cells w.heap.size T xs))) (w.alloc (.cells xs.toArray T (0, 0))) (.v (.one (.ptr b 0))) (pv w.heap.size 0) ∧ Up G (G.set b (.cells w.heap.size T xs)) := by
  have hup : Up G (G.set b (.cells w.heap.size T xs)) := Up.set fun g0 h0 => by rw [hI.fresh b (Nat.le_refl _) hb] at h0; obtain rfl := Option.some.inj h0; trivial
  refine ⟨(hI.newObj hb (Grow.alloc _ _) (o := .cells l) (g := .cells w.heap.size T xs) (fun q hq => ?_) (fun Z' hk => ?_)).1, ⟨.inr ⟨w.heap.size, T, xs, by simp [hb], rfl⟩, fun _ => rfl⟩, hup⟩
  · simp only [resO, List.mem_singleton] at hq
    subst hq
    refine ⟨alloc_get _ _, fun k hk => ?_⟩
    simp only [blk] at hk; subst hk; rw [alloc_size]; omega
  · exact ha.mono fun _ _ _ q => q.mono hk hup
theorem run_alloc {e : TypeId} {cs : List Value} (hz : zeroB P e = some cs) : (execOp ρ ⟨d, .alloc e, ty, pos, aft, gd⟩).run P w = .ok (.value (pv w.heap.size 0)) (w.alloc (.cells cs.toArray e (0, 0))) := by
  unfold zeroB at hz
  split at hz
  · rename_i i hi
    split at hz
    · rename_i z hzz
      obtain rfl := Option.some.inj hz
      have hzv : (zeroValue e).run P w = .ok z w := by
        simp only [zeroValue, Sem.run_bind, Go.Dk.run_typeInfo hi, Result.andThen_ok, hzz, Sem.run_pure]
      simp only [execOp, Instr.alloc, Sem.run_bind, hzv, run_newVar, Result.andThen_ok, Sem.run_pure, Array.toArray_toList]
      rfl
    · cases hz
  · cases hz
theorem run_box {e : TypeId} {cs : List Value} (hc : (ρ x).cells = cs.toArray) : (execOp ρ ⟨d, .box e x, ty, pos, aft, gd⟩).run P w = .ok (.value (pv w.heap.size 0)) (w.alloc (.cells cs.toArray e (0, 0))) := by
  simp only [execOp, Instr.box, Sem.run_bind, run_newVar, hc, Result.andThen_ok, Sem.run_pure]
  rfl
theorem zeroS_out {e : TypeId} {z : List SV} (h : zeroS P e = some z) : ∃ cs, zeroB P e = some cs ∧ ∀ G Z w, All2 (OneR G Z w) z cs := by
  unfold zeroS at h
  cases hz : zeroB P e with
  | none => simp [hz] at h
  | some cs =>
    simp only [hz, Option.bind_some] at h
    cases hc : cs.all oneB with
    | false => simp [hc] at h
    | true =>
      simp only [hc, cond_true, Option.some.injEq] at h
      subst h
      exact ⟨cs, rfl, fun G Z w => svsOf_rel _ _ fun v hv => List.all_eq_true.1 hc v hv⟩

/-! Stores. -/
theorem run_storeCells2 {bb off : Nat} {T : TypeId} : ∀ (vs : List Value) (i : Nat) (cs : List Value) (w : World), w.heap[bb]? = some (.cells cs.toArray T (0, 0)) →
    (∀ v ∈ vs, oneB v = true) → off + i + vs.length ≤ cs.length →
    ∃ w', (storeCells ⟨bb, off, none⟩ vs i).run P w = .ok () w' ∧ w'.heap[bb]? = some (.cells (putL cs (off + i) vs).toArray T (0, 0)) ∧ Ext (· = bb) w w'
  | [], i, cs, w, hn, _, _ => ⟨w, rfl, hn, Ext.refl _ _⟩
  | v :: vs, i, cs, w, hn, h1, hl => by
    simp only [List.length_cons] at hl
    have hlt : off + i < cs.length := by omega
    have hcell : w.cell? ⟨bb, off + i, none⟩ = some cs[off + i] := by simp [World.cell?, hn, hlt]
    have hfr : w.frozen? ⟨bb, off + i, none⟩ = false := by simp [World.frozen?, hn]
    have hn' : (w.setCell ⟨bb, off + i, none⟩ v).heap[bb]? = some (.cells (cs.set (off + i) v).toArray T (0, 0)) := by
      simp [World.setCell, Array.getElem?_modify, hn]
    obtain ⟨w', hr, hh, hx⟩ := run_storeCells2 (off := off) vs (i + 1) (cs.set (off + i) v) _ hn' (fun u hu => h1 u (List.mem_cons_of_mem _ hu)) (by simp; omega)
    refine ⟨w', ?_, hh, (Ext.setCell w ⟨bb, off + i, none⟩ v).trans hx⟩
    simp only [storeCells, addr_add, Sem.run_bind, store]
    rw [Go.Dk.run_store (h1 v (List.mem_cons_self ..)) hcell hfr]
    simp only [Sem.run, Result.andThen_ok]
    exact hr
theorem run_store_op {bb off m : Nat} {T : TypeId} {cs vs : List Value} (hX : ρ x = pv bb off) (hc : (ρ y).cells = vs.toArray) (hsz : (P.info? t).map (·.size) = some m) (hm : m = vs.length)
    (hn : w.heap[bb]? = some (.cells cs.toArray T (0, 0))) (h1 : ∀ v ∈ vs, oneB v = true) (hl : off + vs.length ≤ cs.length) :
    ∃ w', (execOp ρ ⟨d, .store t x y, ty, pos, aft, gd⟩).run P w = .ok .skip w' ∧ w'.heap[bb]? = some (.cells (putL cs off vs).toArray T (0, 0)) ∧ Ext (· = bb) w w' := by
  obtain ⟨w', hr, hh, hx⟩ := run_storeCells2 (P := P) (off := off) vs 0 cs w hn h1 (by simpa using hl)
  refine ⟨w', ?_, by simpa using hh, hx⟩
  cases hi : P.info? t with
  | none => simp [hi] at hsz
  | some i =>
    simp only [hi, Option.map_some, Option.some.injEq] at hsz
    have hne : ¬ (vs.toArray.size ≠ i.size) := by rw [hsz, hm]; simp
    simp only [execOp, Instr.storeAt, hX, pv, Instr.sureAddr, storeVar, Sem.run_bind, Sem.run_pure, Result.andThen_ok, Go.Dk.run_sizeOf hi, if_neg hne, hc, hr]
theorem putS_rel {α β : Type} {R : α → β → Prop} : True := trivial
theorem put_rel {R : SV → Value → Prop} : ∀ {c : List SV} {ys : List Value} {l : List SV} {vs : List Value} {off : Nat}, All2 R l vs → All2 R c ys → All2 R (putS l off c) (putL vs off ys)
  | [], ys, l, vs, off, hl, hc => by obtain rfl := hc.nil_inv; exact hl
  | x :: c, ys, l, vs, off, hl, hc => by
    obtain ⟨y, ys', rfl, h1, h2⟩ := hc.cons_inv
    show All2 R (putS (l.set off x) (off + 1) c) (putL (vs.set off y) (off + 1) ys')
    exact put_rel (hl.set off h1) h2
theorem CellsR.length {Z : Zone} {e : SE} {cs : List Value} {k : SK} (h : CellsR Z w e cs) (hk : e.kind = k) : cs.length = k.size := by
  subst hk
  cases e with
  | t x => obtain ⟨t, _, _, rfl⟩ := h; rfl
  | i n => simp only [CellsR] at h; subst h; rfl
  | ii l => obtain ⟨x, rfl, _⟩ := h; rfl
  | s x => simp only [CellsR] at h; subst h; rfl
  | b c => simp only [CellsR] at h; subst h; rfl
theorem one_all {Z : Zone} {l : List SV} {xs : List Value} (h : All2 (OneR G Z w) l xs) : ∀ v ∈ xs, oneB v = true := fun v hv => by
  obtain ⟨i, hi⟩ := List.getElem?_of_mem hv
  obtain ⟨a, _, hr⟩ := h.get' hi
  exact hr.2
theorem putL_take (n : Nat) : ∀ (vs cs : List Value) (off : Nat), (putL cs off vs).take n = putL (cs.take n) off vs
  | [], cs, off => rfl
  | v :: vs, cs, off => by
    simp only [putL]
    rw [putL_take n vs, List.take_set]
theorem putL_map {α : Type} (f : α → Value) (l : List α) (i : Nat) (x : α) : putL (l.map f) i [f x] = (l.set i x).map f := by
  simp [putL, List.map_set]
theorem flatT_set : ∀ (hs : List HT) (i : Nat) (t : HT), putL (flatT hs) (i * 3) [.int .i64 t.k, .int .i64 t.n, t.sl] = flatT (hs.set i t)
  | [], i, t => by simp [flatT_nil, putL]
  | h :: hs, 0, t => by rw [flatT_cons]; simp [putL, flatT_cons]
  | h :: hs, i + 1, t => by
    have := flatT_set hs i t
    rw [flatT_cons, List.set_cons_succ, flatT_cons, ← this]
    rw [show (i + 1) * 3 = i * 3 + 1 + 1 + 1 by omega]
    simp [putL]
theorem ElemsR.set {Z : Zone} {D : SD} {xs cs : List Value} {e : SE} {i : Nat} {k : SD → OR} (hd : ElemsR Z w D xs) (hc : CellsR Z w e cs) (h : D.set i e k = some r) :
    ∃ D', k D' = some r ∧ D'.len = D.len ∧ D'.kind = D.kind ∧ ElemsR Z w D' (putL xs (i * D.kind.size) cs) := by
  unfold SD.set at h
  split at h
  · obtain ⟨hs, rfl, rfl, hr⟩ := hd
    obtain ⟨t, rfl, ht, rfl⟩ := hc
    refine ⟨_, h, by simp [SD.len], rfl, hs.set i t, by rw [List.map_set], flatT_set hs i t, fun u hu => ?_⟩
    rcases List.mem_or_eq_of_mem_set hu with hu | rfl
    · exact hr u hu
    · exact ht
  · simp only [ElemsR, CellsR] at hd hc; subst hd hc
    exact ⟨_, h, by simp [SD.len], rfl, by simp only [SD.kind, SK.size, Nat.mul_one]; exact putL_map _ _ _ _⟩
  · obtain ⟨X, rfl, hX⟩ := hc
    exact ⟨_, h, by simp [SD.len], rfl, by simp only [SD.kind, SK.size, Nat.mul_one]; exact All2.set hd i hX⟩
  · simp only [ElemsR, CellsR] at hd hc; subst hd hc
    exact ⟨_, h, by simp [SD.len], rfl, by simp only [SD.kind, SK.size, Nat.mul_one]; exact putL_map _ _ _ _⟩
  · simp only [ElemsR, CellsR] at hd hc; subst hd hc
    exact ⟨_, h, by simp [SD.len], rfl, by simp only [SD.kind, SK.size, Nat.mul_one]; exact putL_map (fun c : UInt8 => Value.int .u8 (c.toNat : Int)) _ _ _⟩
  · cases h

theorem rowZ_pos {e sz n m c : Nat} {a : Option Addr} {xs : List Value} (h : c ≠ 0) : rowZ e sz (.slice a n c) m xs = rowR e sz (.slice a n c) m xs := by
  unfold rowZ
  split
  · rename_i he; injection he with _ _ h3; exact absurd h3 h
  · rfl
theorem rowZ_zero {e sz n m : Nat} {a : Option Addr} {xs : List Value} : rowZ e sz (.slice a n 0) m xs = ⟨fun _ => False, fun _ => m = 0 ∧ xs = [] ∧ (.slice a n 0 : Value) = .slice a 0 0⟩ := rfl
theorem InvG.row (hI : InvG w0 M Z0 b G s tv w) {j : Nat} {e : TypeId} {D : SD} {ver : Nat} (hj : s.heap[j]? = some (.arr e D ver false)) :
    ∃ val xs, G[j]? = some (.arr ver val D.kind.size xs) ∧ ElemsR (zn w0 Z0 s G) w D xs ∧ (∃ a c, val = .slice a D.len c) ∧ (rowZ e D.kind.size val D.len xs).own w := by
  obtain ⟨val, xs, hg, h1, h2⟩ := hI.arr (v := 0) hj
  exact ⟨val, xs, hg, h1, h2, hI.st.own _ (mem_resL hj hg (by simp [resO]))⟩
theorem ext_eq {Z Z' : Zone} (h : ∀ k, Z k ↔ Z' k) (hx : Ext Z w w') : Ext Z' w w' := hx.weak fun k _ hk => (h k).1 hk
theorem evStore_sound (hI : InvG w0 M Z0 b G s tv w) {k : List AObj → OR} (hx : RV G (zn w0 Z0 s G) w vx (ρ x)) (hy : RV G (zn w0 Z0 s G) w vy (ρ y)) (h : evStore P t vx vy s.heap k = some r) :
    ∃ h' G' w', k h' = some r ∧ (execOp ρ ⟨d, .store t x y, ty, pos, aft, gd⟩).run P w = .ok .skip w' ∧ InvG w0 M Z0 b G' ⟨s.tmps, h'⟩ tv w' ∧ h'.length = s.heap.length ∧ Up G G' := by
  unfold evStore at h
  split at h
  · rename_i m hsz
    replace h := bind_some h; obtain ⟨yc, hyc, h⟩ := h
    obtain ⟨ys, hcells, hys⟩ := cs_sound hyc hy
    split at h
    · rename_i j off
      split at h
      · rename_i l hj
        replace h := cond_left h; obtain ⟨hm, h⟩ := h
        simp only [Bool.and_eq_true, Nat.beq_eq, Nat.ble_eq] at hm
        obtain ⟨bb, T, vs, hg, ha, _, hmem⟩ := hI.cells hj
        have hown : w.heap[bb]? = some (.cells vs.toArray T (0, 0)) := hI.st.own _ hmem
        obtain ⟨w', hr, hh, hext⟩ := run_store_op (P := P) (t := t) (d := d) (ty := ty) (pos := pos) (aft := aft) (gd := gd) (ptr_val hx.1 hg) hcells hsz (by rw [hm.1, hys.1]) hown (one_all hys) (by rw [← hys.1, ← ha.1]; omega)
        have hup : Up G (G.set j (.cells bb T (putL vs off ys))) := Up.set fun g0 h0 => by rw [hg] at h0; obtain rfl := Option.some.inj h0; rfl
        have hu := hI.updObj (o' := .cells (putS l off yc)) (g' := .cells bb T (putL vs off ys)) (q := blk bb vs T) (q' := blk bb (putL vs off ys) T) hj hg nofun rfl hext rfl hh
          (fun k hk => ⟨.inl hk, by simp only [blk] at hk; subst hk; exact lt_of_get hh⟩) hup
          (fun Z' hk => (put_rel ha hys).mono fun _ _ _ q => q.mono hk hup)
        exact ⟨_, _, w', h, hr, hu.1, by simp, hup⟩
      · cases h
    · rename_i j v i
      replace h := sealL_sound hI hys h; obtain ⟨c, h', h, hs, hc⟩ := h
      split at h
      · rename_i e D ver hj
        replace h := cond_left h; obtain ⟨hm, h⟩ := h
        simp only [Bool.and_eq_true, Nat.beq_eq] at hm
        obtain ⟨rfl, rfl⟩ := hm
        replace h := elemOf_sound hc h; obtain ⟨el, h, hcr, hek, hone⟩ := h
        have hI' := hs.inv
        obtain ⟨val, xs, hg, hel, ⟨a, cc, hval⟩, hrow⟩ := hI'.row hj
        obtain ⟨bb, off, n, c', hv, hi, hX⟩ := op_val hx.1 hg
        replace h := ElemsR.set hel hcr h; obtain ⟨D', h, hlen, hkind, hset⟩ := h
        rw [hv] at hval
        injection hval with e1 e2 e3
        subst e1 e2 e3
        have hclen := hcr.length hek
        have hrow' := hrow
        rw [hv] at hrow'
        have hc0 : c' ≠ 0 := by
          rintro rfl
          rw [rowZ_zero] at hrow'
          have := hrow'.1; omega
        rw [rowZ_pos hc0] at hrow'
        obtain ⟨rfl, _, _⟩ := rowR_cells hrow' rfl
        simp only [rowR] at hrow'
        obtain ⟨hxl, hrow'⟩ := hrow'
        rcases hrow' with ⟨hh, _⟩ | ⟨g, cap, cur, hh, _, hgg, hnc, hcm, hcs, htake⟩
        · cases hh
        · injection hh with e1 _ e3
          injection e1 with e1
          injection e1 with e1 _
          subst e1 e3
          have hcl : cur.toList.length = c' * D.kind.size := by rw [Array.length_toList, hcs]
          have hbd : i * D.kind.size + ys.length ≤ D.len * D.kind.size := by
            rw [hclen, ← Nat.succ_mul]; exact Nat.mul_le_mul_right _ hi
          have hbd2 : D.len * D.kind.size ≤ c' * D.kind.size := Nat.mul_le_mul_right _ hnc
          obtain ⟨w', hr, hh, hext⟩ := run_store_op (P := P) (t := t) (d := d) (ty := ty) (pos := pos) (aft := aft) (gd := gd) (bb := bb) (cs := cur.toList) (off := i * D.kind.size) (by rw [hX]; simp) hcells hsz hclen.symm (by simpa using hgg) hone (by rw [hcl]; omega)
          have hup : Up G (G.set j (.arr v val D.kind.size (putL xs (i * D.kind.size) ys))) := Up.set fun g0 h0 => by rw [hg] at h0; obtain rfl := Option.some.inj h0; exact ⟨rfl, .inr ⟨rfl, rfl⟩⟩
          have hu := hI'.updObj (o' := .arr e D' v false) (g' := .arr v val D.kind.size (putL xs (i * D.kind.size) ys)) (q := rowZ e D.kind.size val D.len xs) (q' := rowZ e D.kind.size val D'.len (putL xs (i * D.kind.size) ys)) hj hg nofun rfl
            (by rw [hv, rowZ_pos hc0]; exact ext_eq (fun k => by simp only [rowR, Value.ownBlock]; exact ⟨fun h => by rw [h], fun h => (Option.some.inj h).symm⟩) hext) rfl
            (by
              rw [hv, rowZ_pos hc0, hlen]
              simp only [rowR]
              refine ⟨by rw [putL_length]; exact hxl, .inr ⟨bb, c', _, rfl, Nat.zero_le _, hh, hnc, hcm, by simp [putL_length, hcl], ?_⟩⟩
              simp only [List.toList_toArray]
              rw [← htake, putL_take])
            (by
              rw [hv, rowZ_pos hc0, rowZ_pos hc0]
              intro k hk
              refine ⟨.inl hk, ?_⟩
              simp only [rowR, Value.ownBlock] at hk
              obtain rfl := Option.some.inj hk
              exact lt_of_get hh) hup
            (fun Z' hk => ⟨rfl, hkind.symm ▸ rfl, hset.stable hk, by rw [hlen]; exact ⟨_, _, hv⟩⟩)
          exact ⟨_, _, w', h, hr, hu.1, by rw [List.length_set]; have := hs.inv.len; have := hI.len; simp at *; omega, hup⟩
      · cases h
    · cases h
  · cases h
end
end Go.Ab
