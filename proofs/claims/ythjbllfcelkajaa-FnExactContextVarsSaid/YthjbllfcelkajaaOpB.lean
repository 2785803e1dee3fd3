/- The abstract run is sound: objects that are sealed, made, turned. No program in sight. -/
import Derived.Test.YthjbllfcelkajaaOpA
set_option linter.unusedVariables false
set_option linter.unusedSimpArgs false
namespace Go.Ab
open Go Go.Dk

section
variable {P : Program} {w0 w w' : World} {M Z0 : Zone} {b : Nat} {G : List GO} {s : AS} {tv : List Value}
theorem zn_le {Z : Zone} {L L' : List Res} (h : ∀ r ∈ L', r ∈ L) : ∀ k, zone w0 Z0 L k → zone w0 Z0 L' k := fun k hk => ⟨hk.1, fun r hr => hk.2 r (h r hr)⟩
theorem keeps_le {Z Z' : Zone} (h : ∀ k, Z k → Z' k) : Keeps Z Z' w w := fun k hk _ => ⟨h k hk, rfl⟩
theorem InvG.put (hI : InvG w0 M Z0 b G s tv w) (d : Option Tmp) {v : AV} {X : Value} (h : RV G (zn w0 Z0 s G) w v X) :
    InvG w0 M Z0 b G (s.put d v) (match d with | some d => tv.set d X | none => tv) w := by
  cases d with
  | none => exact hI
  | some d => exact ⟨hI.st.weak (relF_stable _ _ _) fun hp => ⟨hp.1.set d h, hp.2⟩, hI.fresh, hI.mz⟩
theorem InvG.len (hI : InvG w0 M Z0 b G s tv w) : s.heap.length = G.length := hI.st.per.2.1
theorem set_same {α : Type} {l : List α} {j : Nat} {a : α} (h : l[j]? = some a) : l.set j a = l := by
  apply List.ext_getElem?
  intro i
  by_cases hi : j = i
  · subst hi; rw [List.getElem?_set_self (lt_of_some h), h]
  · rw [List.getElem?_set_ne hi]
/-- An array is frozen. -/
theorem InvG.freezeAt (hI : InvG w0 M Z0 b G s tv w) {j : Nat} {e : TypeId} {D : SD} {ver : Nat} {fz : Bool} (hj : s.heap[j]? = some (.arr e D ver fz)) :
    InvG w0 M Z0 b G ⟨s.tmps, s.heap.set j (.arr e D ver true)⟩ tv w ∧ (∀ k, zn w0 Z0 s G k → zn w0 Z0 ⟨s.tmps, s.heap.set j (.arr e D ver true)⟩ G k) := by
  cases fz with
  | true => rw [set_same hj]; exact ⟨hI, fun _ h => h⟩
  | false =>
    obtain ⟨val, xs, hg, hrd⟩ := hI.arr_rd hj
    have hP := hI.st.perm (resL_out s.heap G j hj hg)
    have hrest : (resL (s.heap.set j (.arr e D ver true)) G).Perm (resL (s.heap.set j .dead) (G.set j .gone)) := by
      have := resL_out (s.heap.set j (.arr e D ver true)) G j (o := .arr e D ver true) (g := .arr ver val D.kind.size xs) (by simp [lt_of_some hj]) hg
      rw [List.set_set] at this
      simpa [resO] using this
    have hS : St w0 M Z0 (rowZ e D.kind.size val D.len xs :: resL (s.heap.set j .dead) (G.set j .gone)) (relF s G tv) w := by simpa [resO] using hP
    have hT := hS.tail.perm hrest.symm
    have hle : ∀ k, zn w0 Z0 s G k → zone w0 Z0 (resL (s.heap.set j (.arr e D ver true)) G) k := by
      refine zn_le (Z := Z0) fun r hr => ?_
      exact (resL_out s.heap G j hj hg).mem_iff.2 (List.mem_append.2 (.inr (hrest.mem_iff.1 hr)))
    refine ⟨⟨hT.weak (relF_stable _ _ _) fun hp => ⟨hp.1, ?_⟩, hI.fresh, hI.mz⟩, hle⟩
    have := hp.2.set j (a := .arr e D ver true) (b := .arr ver val D.kind.size xs) ⟨rfl, rfl, ?_⟩
    · rw [set_same hg] at this; exact this
    · show SlR _ _ _ _
      obtain ⟨a, c, ys, hX, hm, he, hc⟩ := hrd
      have ho := hS.own _ (List.mem_cons_self ..)
      have hcap : D.len ≤ c := by
        subst hX
        unfold rowZ at ho
        split at ho
        · rename_i he; obtain ⟨h0, _⟩ := ho; rw [h0]; exact Nat.zero_le _
        · simp only [rowR] at ho
          rcases ho.2 with ⟨h2, h3⟩ | ⟨g, cap, cur, h2, _, _, hn, _⟩
          · rw [h3]; exact Nat.zero_le _
          · injection h2 with _ _ h5; omega
      refine ⟨a, c, ys, hX, hcap, hm, he.stable (keeps_le hle), ?_⟩
      rcases hc with hc | ⟨b1, off, ha, hc⟩
      · exact .inl hc
      · by_cases hys : ys = []
        · exact .inl hys
        · refine .inr ⟨b1, off, ha, ?_, hc⟩
          have hc0 : c ≠ 0 := by
            rintro rfl
            have h0 : D.len = 0 := by omega
            have := he.length
            rw [h0, Nat.zero_mul] at this
            exact hys (List.eq_nil_of_length_eq_zero this)
          have hfoot : (rowZ e D.kind.size val D.len xs).foot b1 := by
            subst hX ha
            unfold rowZ
            split
            · rename_i he; injection he with _ _ h3; exact absurd h3 hc0
            · rfl
          have hk := (hS.key _ (List.mem_cons_self ..) b1 hfoot).1
          refine ⟨hk.imp (hI.mz b1) id, fun r hr hf => ?_⟩
          have hd := hS.dis
          rw [List.pairwise_cons] at hd
          exact hd.1 r (hrest.mem_iff.1 hr) b1 hfoot hf
/-- The tmps and their values alone. -/
theorem InvG.frozen_val (hI : InvG w0 M Z0 b G s tv w) {j v : Nat} {e : TypeId} {D : SD} {ver : Nat} {X : Value} (hj : s.heap[j]? = some (.arr e D ver true)) (hv : v = ver) (hx : RS G (zn w0 Z0 s G) w (.own j v) X) :
    SlR (zn w0 Z0 s G) w D X := by
  obtain ⟨val, xs, hg, hh⟩ := hI.arr (v := 0) hj
  rw [own_val hx hg hv]; exact hh
structure Sealed (w0 : World) (M Z0 : Zone) (b : Nat) (G : List GO) (s : AS) (tv : List Value) (w : World) (h : List AObj) : Prop where
  inv : InvG w0 M Z0 b G ⟨s.tmps, h⟩ tv w
  le : ∀ k, zn w0 Z0 s G k → zn w0 Z0 ⟨s.tmps, h⟩ G k
  dead : ∀ j : Nat, s.heap[j]? = some .dead → h[j]? = some .dead
theorem Sealed.refl (hI : InvG w0 M Z0 b G s tv w) : Sealed w0 M Z0 b G s tv w s.heap := ⟨hI, fun _ h => h, fun _ h => h⟩
theorem Sealed.trans {h h' : List AObj} (h1 : Sealed w0 M Z0 b G s tv w h) (h2 : Sealed w0 M Z0 b G ⟨s.tmps, h⟩ tv w h') : Sealed w0 M Z0 b G s tv w h' :=
  ⟨h2.inv, fun k hk => h2.le k (h1.le k hk), fun j hj => h2.dead j (h1.dead j hj)⟩
variable {r : List V1 × List AObj}
theorem sealS_sound (hI : InvG w0 M Z0 b G s tv w) {v : SV} {X : Value} {k : SV → List AObj → OR} (hx : OneR G (zn w0 Z0 s G) w v X) (h : sealS s.heap v k = some r) :
    ∃ v' h', k v' h' = some r ∧ Sealed w0 M Z0 b G s tv w h' ∧ OneR G (zn w0 Z0 ⟨s.tmps, h'⟩ G) w v' X := by
  unfold sealS at h
  split at h
  · rename_i j v
    split at h
    · rename_i e D ver fz hj
      obtain ⟨hv, h'⟩ := cond_left h
      simp only [Nat.beq_eq] at hv
      obtain ⟨h1, h2⟩ := hI.freezeAt hj
      refine ⟨_, _, h', ⟨h1, h2, fun i hi => ?_⟩, ?_, hx.2⟩
      · have : j ≠ i := by rintro rfl; rw [hj] at hi; cases hi
        simpa [List.getElem?_set_ne this] using hi
      · exact h1.frozen_val (e := e) (by simp [lt_of_some hj]) hv (hx.1.stable (keeps_le h2))
    · cases h
  · obtain ⟨⟨a, rfl⟩, h2⟩ := hx
    exact ⟨_, _, h, Sealed.refl hI, SlR_nil _ _, h2⟩
  · exact ⟨_, _, h, Sealed.refl hI, hx⟩
theorem sealL_sound : ∀ {l : List SV} {s : AS} {xs : List Value} {k : List SV → List AObj → OR}, InvG w0 M Z0 b G s tv w → All2 (OneR G (zn w0 Z0 s G) w) l xs → sealL s.heap l k = some r →
    ∃ l' h', k l' h' = some r ∧ Sealed w0 M Z0 b G s tv w h' ∧ All2 (OneR G (zn w0 Z0 ⟨s.tmps, h'⟩ G) w) l' xs
  | [], s, xs, k, hI, ha, h => by
    obtain rfl := ha.nil_inv
    exact ⟨_, _, h, Sealed.refl hI, All2.nil⟩
  | v :: l, s, xs, k, hI, ha, h => by
    obtain ⟨X, xs', rfl, h1, h2⟩ := ha.cons_inv
    unfold sealL at h
    obtain ⟨v', h', hk, hs, hv⟩ := sealS_sound hI h1 h
    obtain ⟨l', h'', hk', hs', hl⟩ := sealL_sound hs.inv (h2.mono fun _ _ _ q => ⟨q.1.stable (keeps_le hs.le), q.2⟩) hk
    exact ⟨_, _, hk', hs.trans hs', All2.cons ⟨hv.1.stable (keeps_le hs'.le), hv.2⟩ hl⟩

/-! Elements out of cells. -/
def SE.kind : SE → SK | .t _ => .t | .i _ => .i | .ii _ => .ii | .s _ => .s | .b _ => .b
theorem one_int {Z : Zone} {k : IntKind} {n : Int} {X : Value} (h : OneR G Z w (.int k n) X) : X = .int k n := h.1
theorem u8_back {n : Int} (h0 : 0 ≤ n) (h1 : n ≤ 255) : ((UInt8.ofNat n.toNat).toNat : Int) = n := by
  have : (UInt8.ofNat n.toNat).toNat = n.toNat % 256 := by simp
  rw [this]; omega
theorem elemOf_sound {Z : Zone} {e : SK} {l : List SV} {xs : List Value} {k : SE → OR} (ha : All2 (OneR G Z w) l xs) (h : elemOf e l k = some r) :
    ∃ x, k x = some r ∧ CellsR Z w x xs ∧ x.kind = e ∧ (∀ v ∈ xs, oneB v = true) := by
  have h1 : ∀ v ∈ xs, oneB v = true := fun v hv => by
    obtain ⟨i, hi⟩ := List.getElem?_of_mem hv
    obtain ⟨a, _, hr⟩ := ha.get' hi
    exact hr.2
  unfold elemOf at h
  split at h
  · rename_i a c l
    obtain ⟨x1, m1, rfl, e1, ha⟩ := ha.cons_inv
    obtain ⟨x2, m2, rfl, e2, ha⟩ := ha.cons_inv
    obtain ⟨x3, m3, rfl, e3, ha⟩ := ha.cons_inv
    obtain rfl := ha.nil_inv
    obtain ⟨t, h2, h3, h4, h5, h6⟩ := sl_Rd e3.1 a c
    exact ⟨_, h, ⟨t, h2, h3, by rw [one_int e1, one_int e2, h4, h5, h6]⟩, rfl, h1⟩
  · obtain ⟨x1, m1, rfl, e1, ha⟩ := ha.cons_inv
    obtain rfl := ha.nil_inv
    exact ⟨_, h, by rw [one_int e1]; rfl, rfl, h1⟩
  · obtain ⟨x1, m1, rfl, e1, ha⟩ := ha.cons_inv
    obtain rfl := ha.nil_inv
    obtain ⟨a, c, ys, h2, h3, h4, h5, h6⟩ := e1.1
    simp only [ElemsR] at h5
    subst h5
    exact ⟨_, h, ⟨x1, rfl, a, c, h2, h3, h4, h6.imp (fun h => by simpa using h) id⟩, rfl, h1⟩
  · obtain ⟨x1, m1, rfl, e1, ha⟩ := ha.cons_inv
    obtain rfl := ha.nil_inv
    exact ⟨_, h, by rw [show x1 = _ from e1.1]; rfl, rfl, h1⟩
  · obtain ⟨x1, m1, rfl, e1, ha⟩ := ha.cons_inv
    obtain rfl := ha.nil_inv
    obtain ⟨hn, h⟩ := cond_left h
    simp only [Bool.and_eq_true, decide_eq_true_eq] at hn
    exact ⟨_, h, by rw [one_int e1]; show _ = _; rw [u8_back hn.1 hn.2], rfl, h1⟩
  · cases h
theorem snoc_sound {Z : Zone} {D D' : SD} {x : SE} {xs cs : List Value} (hd : ElemsR Z w D xs) (hc : CellsR Z w x cs) (h : D.snoc x = some D') :
    ElemsR Z w D' (xs ++ cs) ∧ D'.len = D.len + 1 ∧ D'.kind = D.kind ∧ cs.length = D.kind.size ∧ x.kind = D.kind := by
  unfold SD.snoc at h
  split at h
  · obtain rfl := Option.some.inj h
    obtain ⟨hs, rfl, rfl, hr⟩ := hd
    obtain ⟨t, rfl, ht, rfl⟩ := hc
    refine ⟨⟨hs ++ [t], by simp, by rw [flatT_append, flatT_cons, flatT_nil], fun u hu => ?_⟩, by simp [SD.len], rfl, rfl, rfl⟩
    rcases List.mem_append.1 hu with hu | hu
    · exact hr u hu
    · rw [List.mem_singleton.1 hu]; exact ht
  · obtain rfl := Option.some.inj h
    simp only [ElemsR, CellsR] at hd hc; subst hd hc
    exact ⟨by simp [ElemsR], by simp [SD.len], rfl, rfl, rfl⟩
  · obtain rfl := Option.some.inj h
    obtain ⟨X, rfl, hX⟩ := hc
    exact ⟨All2.append hd (All2.cons hX All2.nil), by simp [SD.len], rfl, rfl, rfl⟩
  · obtain rfl := Option.some.inj h
    simp only [ElemsR, CellsR] at hd hc; subst hd hc
    exact ⟨by simp [ElemsR], by simp [SD.len], rfl, rfl, rfl⟩
  · obtain rfl := Option.some.inj h
    simp only [ElemsR, CellsR] at hd hc; subst hd hc
    exact ⟨by simp [ElemsR], by simp [SD.len], rfl, rfl, rfl⟩
  · cases h
theorem elemsOf_sound {e : SK} : ∀ {cs : List (List SV)} {s : AS} {xss : List (List Value)} {D : SD} {ys : List Value} {k : SD → List AObj → OR}, InvG w0 M Z0 b G s tv w →
    All2 (All2 (OneR G (zn w0 Z0 s G) w)) cs xss → ElemsR (zn w0 Z0 s G) w D ys → D.kind = e → elemsOf e s.heap cs D k = some r →
    ∃ D' h', k D' h' = some r ∧ Sealed w0 M Z0 b G s tv w h' ∧ ElemsR (zn w0 Z0 ⟨s.tmps, h'⟩ G) w D' (ys ++ xss.flatten) ∧ D'.len = D.len + cs.length ∧ D'.kind = e ∧ ∀ x ∈ xss, x.length = e.size ∧ ∀ v ∈ x, oneB v = true
  | [], s, xss, D, ys, k, hI, ha, he, hk, h => by
    obtain rfl := ha.nil_inv
    exact ⟨D, s.heap, h, Sealed.refl hI, by simpa using he, rfl, hk, by simp⟩
  | c :: cs, s, xss, D, ys, k, hI, ha, he, hk, h => by
    obtain ⟨x, xss', rfl, h1, h2⟩ := ha.cons_inv
    unfold elemsOf at h
    obtain ⟨c', h', h, hs, hc⟩ := sealL_sound hI h1 h
    obtain ⟨el, h, hcr, hek, hone⟩ := elemOf_sound hc h
    obtain ⟨D1, hd1, h⟩ := bind_some h
    obtain ⟨g1, g2, g3, g4, g5⟩ := snoc_sound (he.stable (keeps_le hs.le)) hcr hd1
    obtain ⟨D', h'', hk', hs', e1, e2, e3, e4⟩ := elemsOf_sound (k := k) hs.inv (h2.mono fun _ _ _ q => q.mono fun _ _ _ p => ⟨p.1.stable (keeps_le hs.le), p.2⟩) g1 (g3.trans hk) h
    refine ⟨D', h'', hk', hs.trans hs', by rw [List.flatten_cons, ← List.append_assoc]; exact e1, by rw [e2, g2, List.length_cons]; omega, e3, ?_⟩
    intro y hy
    rcases List.mem_cons.1 hy with rfl | hy
    · exact ⟨by rw [g4, hk], hone⟩
    · exact e4 y hy

/-! New objects, and objects that turn. -/
theorem InvG.dead_fresh (hI : InvG w0 M Z0 b G s tv w) {j : Nat} (h : G[j]? = some .fresh) : s.heap[j]? = some .dead := by
  obtain ⟨o, ho, hr⟩ := hI.st.per.2.get' h
  cases o with
  | dead => exact ho
  | _ => exact hr.elim
theorem InvG.newObj (hI : InvG w0 M Z0 b G s tv w) (hb : b < G.length) (hg : Grow w w') {o : AObj} {g : GO} (hq : ∀ q ∈ resO o g, q.own w' ∧ ∀ k, q.foot k → w.heap.size ≤ k ∧ k < w'.heap.size)
    (hro : ∀ Z', Keeps (zn w0 Z0 s G) Z' w w' → RO (G.set b g) Z' w' o g) :
    InvG w0 M Z0 (b + 1) (G.set b g) ⟨s.tmps, s.heap.set b o⟩ tv w' ∧ Keeps (zn w0 Z0 s G) (zn w0 Z0 ⟨s.tmps, s.heap.set b o⟩ (G.set b g)) w w' := by
  have hgb := hI.fresh b (Nat.le_refl _) hb
  have hdead := hI.dead_fresh hgb
  have hbl : b < s.heap.length := by rw [hI.len]; exact hb
  have hin := resL_in (h := s.heap) (G := G) o g hbl hb
  have hP := hI.st.perm (resL_out s.heap G b hdead hgb)
  rw [resO_dead, List.nil_append] at hP
  have hone : resO o g = [] ∨ ∃ q, resO o g = [q] := by
    unfold resO; split
    · exact .inr ⟨_, rfl⟩
    · exact .inr ⟨_, rfl⟩
    · exact .inl rfl
  have hup : Up G (G.set b g) := Up.set fun g0 h0 => by rw [hgb] at h0; obtain rfl := Option.some.inj h0; trivial
  have hfr : ∀ j, b + 1 ≤ j → j < (G.set b g).length → (G.set b g)[j]? = some .fresh := fun j hj hl => by
    rw [List.getElem?_set_ne (by omega)]; exact hI.fresh j (by omega) (by simpa using hl)
  have fin : ∀ {L : List Res}, St w0 M Z0 L (relF s G tv) w' → L.Perm (resL (s.heap.set b o) (G.set b g)) → Keeps (zn w0 Z0 s G) (zone w0 Z0 L) w w' →
      InvG w0 M Z0 (b + 1) (G.set b g) ⟨s.tmps, s.heap.set b o⟩ tv w' ∧ Keeps (zn w0 Z0 s G) (zn w0 Z0 ⟨s.tmps, s.heap.set b o⟩ (G.set b g)) w w' := by
    intro L hs hp hk
    have hk' : Keeps (zn w0 Z0 s G) (zone w0 Z0 (resL (s.heap.set b o) (G.set b g))) w w' := fun k hz hl => ⟨⟨(hk k hz hl).1.1, fun q hq' => (hk k hz hl).1.2 q (hp.mem_iff.2 hq')⟩, (hk k hz hl).2⟩
    refine ⟨⟨(hs.perm hp).weak (relF_stable _ _ _) fun hh => ⟨hh.1.mono fun _ _ _ q => q.up hup, ?_⟩, hfr, hI.mz⟩, hk'⟩
    exact (All2.mono hh.2 fun _ _ _ q => q.up hup).set b (hro _ hk')
  rcases hone with h0 | ⟨q, h1⟩
  · rw [h0, List.nil_append] at hin
    refine fin (hP.grow hg) hin fun k hz hl => ⟨⟨hz.1, fun q hq' => hz.2 q ?_⟩, hg.blk hl⟩
    exact (resL_out s.heap G b hdead hgb).mem_iff.2 (by rw [resO_dead, List.nil_append]; exact hq')
  · rw [h1] at hin
    have hqq := hq q (by rw [h1]; exact List.mem_cons_self ..)
    have hql : q.Local := resO_local o g q (by rw [h1]; exact List.mem_cons_self ..)
    refine fin (hP.push hg hql hqq.1 hqq.2) hin fun k hz hl => ⟨⟨hz.1, fun q' hq' => ?_⟩, hg.blk hl⟩
    rcases List.mem_cons.1 hq' with rfl | hq'
    · intro hf; have := (hqq.2 k hf).1; omega
    · exact hz.2 q' ((resL_out s.heap G b hdead hgb).mem_iff.2 (by rw [resO_dead, List.nil_append]; exact hq'))
theorem InvG.updObj (hI : InvG w0 M Z0 b G s tv w) {j : Nat} {o o' : AObj} {g g' : GO} {q q' : Res} (hj : s.heap[j]? = some o) (hgj : G[j]? = some g) (hne : g ≠ .fresh) (h1 : resO o g = [q]) (hx : Ext q.foot w w') (h1' : resO o' g' = [q'])
    (ho : q'.own w') (hf : ∀ k, q'.foot k → (q.foot k ∨ w.heap.size ≤ k) ∧ k < w'.heap.size) (hup : Up G (G.set j g'))
    (hro : ∀ Z', Keeps (zn w0 Z0 s G) Z' w w' → RO (G.set j g') Z' w' o' g') :
    InvG w0 M Z0 b (G.set j g') ⟨s.tmps, s.heap.set j o'⟩ tv w' ∧ Keeps (zn w0 Z0 s G) (zn w0 Z0 ⟨s.tmps, s.heap.set j o'⟩ (G.set j g')) w w' := by
  have hjl := lt_of_some hj
  have hgl := lt_of_some hgj
  have hin := resL_in (h := s.heap) (G := G) o' g' hjl hgl
  have hP := hI.st.perm (resL_out s.heap G j hj hgj)
  rw [h1] at hP
  rw [h1'] at hin
  have hU : St w0 M Z0 (q' :: resL (s.heap.set j .dead) (G.set j .gone)) (relF s G tv) w' := by
    have := hP.upd (n := 0) (r := q) (r' := q') rfl hx (resO_local o' g' q' (by rw [h1']; exact List.mem_cons_self ..)) ho hf
    simpa using this
  have hk' : Keeps (zn w0 Z0 s G) (zone w0 Z0 (resL (s.heap.set j o') (G.set j g'))) w w' := fun k hz hl => by
    have hqn : ¬ q.foot k := hz.2 q (mem_resL hj hgj (by rw [h1]; exact List.mem_cons_self ..))
    refine ⟨⟨hz.1, fun p hp => ?_⟩, hx.block k hl hqn⟩
    rcases List.mem_cons.1 (hin.mem_iff.2 hp) with rfl | hp
    · intro hf'
      rcases (hf k hf').1 with h2 | h2
      · exact hqn h2
      · omega
    · exact hz.2 p ((resL_out s.heap G j hj hgj).mem_iff.2 (List.mem_append.2 (.inr hp)))
  refine ⟨⟨(hU.perm hin).weak (relF_stable _ _ _) fun hh => ⟨hh.1.mono fun _ _ _ p => p.up hup, ?_⟩, fun i hi hl => ?_, hI.mz⟩, hk'⟩
  · exact (All2.mono hh.2 fun _ _ _ p => p.up hup).set j (hro _ hk')
  · have : j ≠ i := by
      rintro rfl
      have := hI.fresh j hi hgl
      rw [hgj] at this
      exact hne (Option.some.inj this)
    rw [List.getElem?_set_ne this]; exact hI.fresh i hi (by simpa using hl)
end
end Go.Ab
