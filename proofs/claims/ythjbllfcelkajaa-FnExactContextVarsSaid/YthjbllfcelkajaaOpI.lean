/- The abstract run is sound: regions in the order of their text, loops' heads, the ends of functions. No program in sight. -/
import Derived.Test.YthjbllfcelkajaaOpH
set_option linter.unusedVariables false
set_option linter.unusedSimpArgs false
namespace Go.Ab
open Go Go.Dk

section
variable {P : Program} {w0 w w' : World} {M Z0 : Zone} {b : Nat} {G : List GO} {s : AS} {tv : List Value} {r : List V1 × List AObj}
theorem wantK_sound (hI : InvG w0 M Z0 b G s tv w) {ops : List Oper} {o : Oper} {yes no : AS → OR} (h : wantK ops s o.guard yes no = some r) :
    (Region.wanted o (yielded ops.toArray tv.toArray) = true ∧ ∃ s', yes s' = some r ∧ InvG w0 M Z0 b G s' tv w ∧ s'.heap = s.heap) ∨
    (Region.wanted o (yielded ops.toArray tv.toArray) = false ∧ ∃ s', no s' = some r ∧ InvG w0 M Z0 b G s' tv w ∧ s'.heap = s.heap) := by
  unfold wantK at h
  split at h
  · rename_i hg
    exact .inl ⟨by simp [Region.wanted, hg], s, h, hI, rfl⟩
  · rename_i j want hg
    split at h
    · rename_i d hd
      split at h
      · rename_i bb hb
        have hdl : s.tmps[d]? = some (.v (.one (.bool bb))) := by
          cases hs : s.tmps[d]? with
          | none => simp [List.getD, hs, anyV] at hb
          | some v => simp [List.getD, hs] at hb; rw [hb]
        obtain ⟨X, hX, hr⟩ := hI.st.per.1.get hdl
        have hX' := bool_inv hr
        subst hX'
        have hy : yielded ops.toArray tv.toArray j = some bb := by
          have hd' : (ops.toArray[j]?).bind (·.dst) = some d := by simpa using hd
          simp only [yielded, hd', Option.bind_some]
          have : tv.toArray[d]? = some (.bool bb) := by simpa using hX
          rw [this]
        have hput : ∀ c, c = bb → InvG w0 M Z0 b G (s.put (some d) (boolV c)) tv w := by
          rintro c rfl
          have := hI.put (some d) (v := boolV c) (X := .bool c) ⟨rfl, fun _ => rfl⟩
          simp only at this
          rw [set_same hX] at this
          exact this
        have hw : Region.wanted o (yielded ops.toArray tv.toArray) = (bb == want) := by
          simp only [Region.wanted, hg, hy]; rfl
        cases bb <;> cases want <;> simp only [cond_true, cond_false] at h
        · exact .inl ⟨hw, _, h, hput _ rfl, rfl⟩
        · exact .inr ⟨hw, _, h, hput _ rfl, rfl⟩
        · exact .inr ⟨hw, _, h, hput _ rfl, rfl⟩
        · exact .inl ⟨hw, _, h, hput _ rfl, rfl⟩
      · rename_i hb
        have hdl : s.tmps[d]? = some (.tup []) := by
          cases hs : s.tmps[d]? with
          | none => simp [List.getD, hs, anyV] at hb
          | some v => simp [List.getD, hs] at hb; rw [hb]
        obtain ⟨X, hX, xs, hXe, hr⟩ := hI.st.per.1.get hdl
        obtain rfl := hr.nil_inv
        subst hXe
        have hy : yielded ops.toArray tv.toArray j = none := by
          have hd' : (ops.toArray[j]?).bind (·.dst) = some d := by simpa using hd
          simp only [yielded, hd', Option.bind_some]
          have : tv.toArray[d]? = some (.tuple #[]) := by simpa using hX
          rw [this]
        have hw : Region.wanted o (yielded ops.toArray tv.toArray) = false := by
          simp only [Region.wanted, hg, hy]; rfl
        exact .inr ⟨hw, s, h, hI, rfl⟩
      · cases h
    · cases h
theorem Y_nilEq {o : Oper} {t t' : TypeId} {x : Operand} {a : Option Addr} {n c : Nat} {ρ : Operand → Value} (ho : o.op = .binOp .eql t x (.const (.slice none 0 0)) t') (hk : (kindS P t).isSome = true) (hx : ρ x = .slice a n c) (hy : ρ (.const (.slice none 0 0)) = .slice none 0 0) :
    (execOp ρ o).run P w = .ok (.value (.bool a.isNone)) w := by
  obtain ⟨e, he⟩ : ∃ e, P.underlying t = some (.slice e) := by
    unfold kindS at hk
    split at hk
    · exact ⟨_, ‹_›⟩
    · cases hk
  have hq : (Op.equal t (.slice a n c) (.slice none 0 0)).run P w = .ok a.isNone w := by
    unfold Op.equal
    rw [show Op.maxDepth = 9999 + 1 from rfl, Op.equalIn]
    cases a <;> simp [Sem.run_bind, run_underlying he]
  obtain ⟨dst, op, ty, pos, aft, gd⟩ := o
  simp only at ho
  subst ho
  simp only [execOp, hx, hy, eqGuard, binOp, Sem.run_bind]
  simp [hq, Sem.run_bind]
theorem und_rel {Z : Zone} : RV G Z w undV undef := ⟨[], rfl, All2.nil⟩
theorem nilQ_out {o : Oper} {ρ : Operand → AV} {m : Nat} (h : nilQ P o ρ = some m) : ∃ t x t', o.op = .binOp .eql t x (.const (.slice none 0 0)) t' ∧ (kindS P t).isSome = true ∧ ∃ d, ρ x = .v (.one (.fr d)) ∧ m = d.len := by
  unfold nilQ at h
  split at h
  · rename_i t x t' ho
    split at h
    · rename_i e d hk hx
      exact ⟨t, x, t', ho, by rw [hk]; rfl, d, hx, (Option.some.inj h).symm⟩
    · cases h
  · cases h
theorem evOps_sound {F : Callee} {D : Dec} (hF : CallsOK P F) (hib : ∀ f, D.ib f = true → extIB P f) {ops : List Oper} {k : AS → OR} {Q : Exit → Act → World → Prop} : ∀ {l : List Oper} {b : Nat} {s : AS} {G : List GO} {tv : List Value} {w : World},
    InvG w0 M Z0 b G s tv w → b + room P D l ≤ s.heap.length → evOps P F D ops l b s k = some r →
    (∀ s' G' tv' w', k s' = some r → InvG w0 M Z0 s'.heap.length G' s' tv' w' → Up G G' → Q .normal ⟨tv'.toArray, []⟩ w') → wpList P ops.toArray Q l ⟨tv.toArray, []⟩ w
  | [], b, s, G, tv, w, hI, hb, h, hQ => hQ s G tv w h (hI.raise (by simp only [room] at hb; omega)) (Up.refl G)
  | o :: l, b, s, G, tv, w, hI, hb, h, hQ => by
    simp only [room] at hb
    unfold evOps at h
    unfold wpList
    rcases wantK_sound hI h with ⟨hw, s', h, hI', hh⟩ | ⟨hw, s', h, hI', hh⟩
    · rw [if_pos hw]
      split at h
      · rename_i m hm
        have hput : ∀ (d : Option Tmp) (s : AS) (v : AV), (s.put d v).heap = s.heap := fun d s v => by cases d <;> rfl
        obtain ⟨t, x, t', hop, hk, d, hx, rfl⟩ := nilQ_out hm
        have hxr := hI'.ev x
        rw [hx] at hxr
        obtain ⟨⟨a, c, xs, hX, hc1, hc2, hel, hnz⟩, _⟩ := hxr
        obtain ⟨dst, op, ty, pos, aft, gd⟩ := o
        simp only at hop
        subst hop
        have hrun := Y_nilEq (P := P) (o := ⟨dst, .binOp .eql t x (.const (.slice none 0 0)) t', ty, pos, aft, gd⟩) (w := w) (ρ := Act.eval ⟨tv.toArray, []⟩) rfl hk hX rfl
        have key : ∀ bb, a.isNone = bb → evOps P F D ops l (b + nObj P D ⟨dst, .binOp .eql t x (.const (.slice none 0 0)) t', ty, pos, aft, gd⟩) (s'.put dst (boolV bb)) k = some r →
            Oper.wp P ⟨dst, .binOp .eql t x (.const (.slice none 0 0)) t', ty, pos, aft, gd⟩ ⟨tv.toArray, []⟩ w (fun a' w' => wpList P ops.toArray Q l a' w') Q := by
          intro bb hbb h
          refine Oper.wp_mono (fun a' w' hst => ?_) (value_same (k := fun v h => evOps P F D ops l (b + nObj P D ⟨dst, .binOp .eql t x (.const (.slice none 0 0)) t', ty, pos, aft, gd⟩) (({ s' with heap := h } : AS).put dst v) k) (v := boolV bb) (Q := Q) hI' (Nat.le_add_right b (nObj P D ⟨dst, .binOp .eql t x (.const (.slice none 0 0)) t', ty, pos, aft, gd⟩)) hrun h (by rw [hbb]; exact ⟨rfl, fun _ => rfl⟩))
          obtain ⟨v, h', G', tv', hk, rfl, hI2, hl, hu, _⟩ := hst
          refine evOps_sound hF hib (k := k) hI2 ?_ hk fun s2 G2 tv2 w2 h2 hI3 hu2 => hQ s2 G2 tv2 w2 h2 hI3 (hu.trans hu2)
          rw [hput]; show _ ≤ h'.length; rw [hl, hh]; omega
        refine .inl ?_
        rcases cond_some h with ⟨hm0, h⟩ | ⟨hm0, h⟩
        · obtain ⟨h1, h2⟩ := same_out h
          cases hb : a.isNone with
          | true => exact key true hb h1
          | false => exact key false hb h2
        · refine key false ?_ h
          rcases hnz with hnz | ⟨ab, ao, ha, _⟩
          · have := hel.length
            rw [hnz] at this
            simp only [List.length_nil] at this
            have hd0 : d.len ≠ 0 := fun e => by rw [e] at hm0; cases hm0
            have hkz : 0 < d.kind.size := by cases d <;> simp [SD.kind, SK.size]
            have := Nat.mul_pos (Nat.pos_of_ne_zero hd0) hkz
            omega
          · rw [ha]; rfl
      refine .inl (Oper.wp_mono (fun a' w' hst => ?_) (evOp_sound (Q := Q) hF hib hI' (by rw [hh]; omega) h))
      obtain ⟨v, h', G', tv', hk, rfl, hI2, hl, hu, _⟩ := hst
      have hput : ∀ (d : Option Tmp) (s : AS) (v : AV), (s.put d v).heap = s.heap := fun d s v => by cases d <;> rfl
      refine evOps_sound hF hib (k := k) hI2 ?_ hk fun s2 G2 tv2 w2 h2 hI3 hu2 => hQ s2 G2 tv2 w2 h2 hI3 (hu.trans hu2)
      rw [hput]; show _ ≤ h'.length; rw [hl, hh]; omega
    · rw [if_neg (by simp [hw])]
      rw [put_act]
      have hput : ∀ (d : Option Tmp) (s : AS) (v : AV), (s.put d v).heap = s.heap := fun d s v => by cases d <;> rfl
      exact evOps_sound hF hib (k := k) ((hI'.put o.dst und_rel).raise (Nat.le_add_right _ _)) (by rw [hput, hh]; omega) h hQ
theorem resL_grow (h : List AObj) (G : List GO) (n : Nat) (hl : h.length = G.length) : resL (h ++ List.replicate n .dead) (G ++ List.replicate n .fresh) = resL h G := by
  rw [resL_append hl, resL_dead, List.append_nil]
theorem InvG.grow (hI : InvG w0 M Z0 b G s tv w) (n : Nat) : InvG w0 M Z0 s.heap.length (G ++ List.replicate n .fresh) (grow n s) tv w := by
  have hr := resL_grow s.heap G n hI.len
  refine ⟨?_, fun j hj hl => ?_, hI.mz⟩
  · have := hI.st
    rw [← hr] at this
    refine this.weak (relF_stable _ _ _) fun hh => ⟨hh.1.mono fun _ _ _ q => q.up (Up.append _ _), ?_⟩
    exact All2.append (hh.2.mono fun _ _ _ q => q.up (Up.append _ _)) (All2.replicate trivial n)
  · rw [hI.len] at hj
    rw [List.length_append, List.length_replicate] at hl
    rw [List.getElem?_append_right hj, List.getElem?_replicate, if_pos (by omega)]
end
end Go.Ab
