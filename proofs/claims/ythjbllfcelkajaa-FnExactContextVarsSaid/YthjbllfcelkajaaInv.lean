/- What abstract values and objects say of memory. No program in sight. -/
import Derived.Test.YthjbllfcelkajaaAbc
set_option linter.unusedVariables false
set_option linter.unusedSimpArgs false
namespace Go.Ab
open Go Go.Dk

def All2 {α β : Type} (R : α → β → Prop) (l : List α) (m : List β) : Prop := l.length = m.length ∧ ∀ (i : Nat) a b, l[i]? = some a → m[i]? = some b → R a b
section
variable {α β γ : Type} {R S : α → β → Prop}
theorem All2.nil : All2 R [] [] := ⟨rfl, fun i a b h => by simp at h⟩
theorem All2.cons {a : α} {b : β} {l : List α} {m : List β} (h : R a b) (k : All2 R l m) : All2 R (a :: l) (b :: m) := by
  refine ⟨by simp [k.1], fun i x y hx hy => ?_⟩
  cases i with
  | zero => simp at hx hy; subst hx hy; exact h
  | succ i => simp at hx hy; exact k.2 i x y hx hy
theorem All2.cons_inv {a : α} {l : List α} {m : List β} (h : All2 R (a :: l) m) : ∃ b m', m = b :: m' ∧ R a b ∧ All2 R l m' := by
  cases m with
  | nil => simp [All2] at h
  | cons b m => exact ⟨b, m, rfl, h.2 0 a b rfl rfl, by simpa using h.1, fun i x y hx hy => h.2 (i + 1) x y (by simpa using hx) (by simpa using hy)⟩
theorem All2.nil_inv {m : List β} (h : All2 R [] m) : m = [] := by cases m with | nil => rfl | cons b m => simp [All2] at h
theorem All2.mono {l : List α} {m : List β} (h : All2 R l m) (hm : ∀ a b, a ∈ l → R a b → S a b) : All2 S l m :=
  ⟨h.1, fun i a b ha hb => hm a b (List.mem_of_getElem? ha) (h.2 i a b ha hb)⟩
theorem All2.get {l : List α} {m : List β} (h : All2 R l m) {i : Nat} {a : α} (ha : l[i]? = some a) : ∃ b, m[i]? = some b ∧ R a b := by
  have hi : i < l.length := by
    rcases Nat.lt_or_ge i l.length with h' | h'
    · exact h'
    · rw [List.getElem?_eq_none h'] at ha; cases ha
  have hb : m[i]? = some (m[i]'(by rw [← h.1]; exact hi)) := List.getElem?_eq_getElem _
  exact ⟨_, hb, h.2 i a _ ha hb⟩
theorem All2.get' {l : List α} {m : List β} (h : All2 R l m) {i : Nat} {b : β} (hb : m[i]? = some b) : ∃ a, l[i]? = some a ∧ R a b := by
  have hi : i < m.length := by
    rcases Nat.lt_or_ge i m.length with h' | h'
    · exact h'
    · rw [List.getElem?_eq_none h'] at hb; cases hb
  have ha : l[i]? = some (l[i]'(by rw [h.1]; exact hi)) := List.getElem?_eq_getElem _
  exact ⟨_, ha, h.2 i _ b ha hb⟩
theorem All2.set {l : List α} {m : List β} (h : All2 R l m) (i : Nat) {a : α} {b : β} (hab : R a b) : All2 R (l.set i a) (m.set i b) := by
  refine ⟨by simp [h.1], fun j x y hx hy => ?_⟩
  by_cases hij : i = j
  · subst hij
    rw [List.getElem?_set_self'] at hx hy
    cases hl : l[i]? with
    | none => simp [hl] at hx
    | some x' =>
      obtain ⟨y', hy', _⟩ := h.get hl
      simp [hl, hy'] at hx hy
      subst hx hy; exact hab
  · rw [List.getElem?_set_ne hij] at hx hy
    exact h.2 j x y hx hy
theorem All2.append {l l' : List α} {m m' : List β} (h : All2 R l m) (k : All2 R l' m') : All2 R (l ++ l') (m ++ m') := by
  refine ⟨by simp [h.1, k.1], fun i x y hx hy => ?_⟩
  rcases Nat.lt_or_ge i l.length with hi | hi
  · rw [List.getElem?_append_left hi] at hx
    rw [List.getElem?_append_left (by rw [← h.1]; exact hi)] at hy
    exact h.2 i x y hx hy
  · rw [List.getElem?_append_right hi] at hx
    rw [List.getElem?_append_right (by rw [← h.1]; exact hi), ← h.1] at hy
    exact k.2 _ x y hx hy
theorem All2.take {l : List α} {m : List β} (h : All2 R l m) (n : Nat) : All2 R (l.take n) (m.take n) := by
  refine ⟨by simp [h.1], fun i x y hx hy => ?_⟩
  rw [List.getElem?_take] at hx hy
  split at hx
  · rename_i hi; rw [if_pos hi] at hy; exact h.2 i x y hx hy
  · cases hx
theorem All2.drop {l : List α} {m : List β} (h : All2 R l m) (n : Nat) : All2 R (l.drop n) (m.drop n) := by
  refine ⟨by simp [h.1], fun i x y hx hy => ?_⟩
  rw [List.getElem?_drop] at hx hy
  exact h.2 _ x y hx hy
theorem All2.append_inv {l l' : List α} {m : List β} (h : All2 R (l ++ l') m) : ∃ m1 m2, m = m1 ++ m2 ∧ All2 R l m1 ∧ All2 R l' m2 := by
  refine ⟨m.take l.length, m.drop l.length, (List.take_append_drop _ _).symm, ?_, ?_⟩
  · have := h.take l.length; simpa using this
  · have := h.drop l.length; simpa using this
theorem All2.replicate {a : α} {b : β} (h : R a b) (n : Nat) : All2 R (List.replicate n a) (List.replicate n b) := by
  refine ⟨by simp, fun i x y hx hy => ?_⟩
  have h1 := List.mem_of_getElem? hx
  have h2 := List.mem_of_getElem? hy
  rw [(List.mem_replicate.1 h1).2, (List.mem_replicate.1 h2).2]; exact h
end

/-- What an object is in memory. -/
inductive GO | cells (b : Nat) (T : TypeId) (vs : List Value) | arr (ver : Nat) (v : Value) (sz : Nat) (xs : List Value) | gone | fresh

def CellsAt (w : World) (b off : Nat) (xs : List Value) : Prop := ∀ (i : Nat) x, xs[i]? = some x → w.cell? ⟨b, off + i, none⟩ = some x
def SlI (Z : Zone) (w : World) (l : List Int) (x : Value) : Prop := ∃ a cap, x = .slice a l.length cap ∧ l.length ≤ cap ∧ l.length ≤ maxLen ∧
  (l = [] ∨ ∃ b off, a = some ⟨b, off, none⟩ ∧ Z b ∧ CellsAt w b off (l.map (.int .i64 ·)))
def ElemsR (Z : Zone) (w : World) : SD → List Value → Prop
  | .ts l, xs => ∃ hs : List HT, hs.map HT.er = l ∧ xs = flatT hs ∧ ∀ h ∈ hs, Rd Z w h
  | .is l, xs => xs = l.map (.int .i64 ·)
  | .iss l, xs => All2 (SlI Z w) l xs
  | .ss l, xs => xs = l.map .string
  | .bs l, xs => xs = l.map fun c => .int .u8 (c.toNat : Int)
def SlR (Z : Zone) (w : World) (d : SD) (x : Value) : Prop := ∃ a cap xs, x = .slice a d.len cap ∧ d.len ≤ cap ∧ d.len ≤ maxLen ∧ ElemsR Z w d xs ∧
  (xs = [] ∨ ∃ b off, a = some ⟨b, off, none⟩ ∧ Z b ∧ CellsAt w b off xs)
def CellsR (Z : Zone) (w : World) : SE → List Value → Prop
  | .t x, cs => ∃ h : HT, h.er = x ∧ Rd Z w h ∧ cs = [.int .i64 h.k, .int .i64 h.n, h.sl]
  | .i n, cs => cs = [.int .i64 n]
  | .ii l, cs => ∃ x, cs = [x] ∧ SlI Z w l x
  | .s x, cs => cs = [.string x]
  | .b c, cs => cs = [.int .u8 (c.toNat : Int)]
def EpR (Z : Zone) (w : World) (e : SE) (o : Nat) (x : Value) : Prop := ∃ b off cs, x = .pointer (some ⟨b, off + o, none⟩) ∧ Z b ∧ CellsAt w b off cs ∧ CellsR Z w e cs
def pv (b o : Nat) : Value := .pointer (some ⟨b, o, none⟩)
def RS (G : List GO) (Z : Zone) (w : World) : SV → Value → Prop
  | .int k n, x => x = .int k n
  | .bool b, x => x = .bool b
  | .str s, x => x = .string s
  | .emp _, x => ∃ a, x = .slice a 0 0
  | .fr d, x => SlR Z w d x
  | .own j v, x => G[j]? = some .gone ∨ ∃ ver val sz xs, G[j]? = some (.arr ver val sz xs) ∧ v ≤ ver ∧ (v = ver → x = val)
  | .ptr j o, x => G[j]? = some .gone ∨ ∃ b T vs, G[j]? = some (.cells b T vs) ∧ x = pv b o
  | .ep e o, x => EpR Z w e o x
  | .op j v i o, x => G[j]? = some .gone ∨ ∃ ver val sz xs, G[j]? = some (.arr ver val sz xs) ∧ v ≤ ver ∧ (v = ver → ∃ b off n c, val = .slice (some ⟨b, off, none⟩) n c ∧ i < n ∧ x = pv b (off + i * sz + o))
  | .fn f l, x => ∃ bs : List Nat, x = .func (.func f) #[] (bs.map fun b => pv b 0).toArray ∧ All2 (fun j b => G[j]? = some .gone ∨ ∃ T vs, G[j]? = some (.cells b T vs)) l bs
  | .nilp, x => x = .pointer none
  | .any, _ => True
/-- A value that takes one cell. -/
def OneR (G : List GO) (Z : Zone) (w : World) (v : SV) (x : Value) : Prop := RS G Z w v x ∧ oneB x = true
def RV1 (G : List GO) (Z : Zone) (w : World) : V1 → Value → Prop
  | .one s, x => RS G Z w s x ∧ (s ≠ .any → oneB x = true)
  | .agg l, x => ∃ xs : List Value, x = .agg xs.toArray ∧ All2 (OneR G Z w) l xs
def RV (G : List GO) (Z : Zone) (w : World) : AV → Value → Prop
  | .v v, x => RV1 G Z w v x
  | .tup l, x => ∃ xs : List Value, x = .tuple xs.toArray ∧ All2 (RV1 G Z w) l xs
/-- A row of the call's own: a slice without room stands on nothing. -/
def rowZ (e sz : Nat) (v : Value) (n : Nat) (xs : List Value) : Res :=
  match v with
  | .slice a _ 0 => ⟨fun _ => False, fun _ => n = 0 ∧ xs = [] ∧ v = .slice a 0 0⟩
  | v => rowR e sz v n xs
theorem rowZ_local (e sz : Nat) (v : Value) (n : Nat) (xs : List Value) : (rowZ e sz v n xs).Local := by
  unfold rowZ
  split
  · exact fun _ _ _ h => h
  · exact rowR_local _ _ _ _ _
def resO : AObj → GO → List Res
  | .cells _, .cells b T vs => [blk b vs T]
  | .arr e d _ false, .arr _ v sz xs => [rowZ e sz v d.len xs]
  | _, _ => []
def RO (G : List GO) (Z : Zone) (w : World) : AObj → GO → Prop
  | .cells l, .cells b T vs => All2 (OneR G Z w) l vs
  | .arr e d ver fz, .arr ver' v sz xs => ver = ver' ∧ sz = d.kind.size ∧ cond fz (SlR Z w d v) (ElemsR Z w d xs ∧ ∃ a c, v = .slice a d.len c)
  | .dead, .gone => True
  | .dead, .fresh => True
  | _, _ => False
def resL : List AObj → List GO → List Res
  | o :: h, g :: G => resO o g ++ resL h G
  | _, _ => []
/-- What is known beside the call's own memory. -/
def relF (s : AS) (G : List GO) (tv : List Value) : Fact := fun Z w => All2 (RV G Z w) s.tmps tv ∧ All2 (RO G Z w) s.heap G
/-- The objects are G; from number b on none has been made. -/
structure InvG (w0 : World) (M Z0 : Zone) (b : Nat) (G : List GO) (s : AS) (tv : List Value) (w : World) : Prop where
  st : St w0 M Z0 (resL s.heap G) (relF s G tv) w
  fresh : ∀ j, b ≤ j → j < G.length → G[j]? = some .fresh
  mz : ∀ k, M k → Z0 k
def Inv (w0 : World) (M Z0 : Zone) (b : Nat) (s : AS) (tv : List Value) (w : World) : Prop := ∃ G, InvG w0 M Z0 b G s tv w

/-! All of it stands as long as the memory that it speaks of does. -/
section
variable {Z Z' : Zone} {w w' : World}
abbrev Keeps (Z Z' : Zone) (w w' : World) : Prop := ∀ b, Z b → b < w.heap.size → Z' b ∧ w'.heap[b]? = w.heap[b]?
theorem CellsAt.lt {b off : Nat} {xs : List Value} (h : CellsAt w b off xs) (hne : xs ≠ []) : b < w.heap.size := by
  cases xs with
  | nil => exact absurd rfl hne
  | cons x xs => exact cell_lt (h 0 x rfl)
theorem CellsAt.keep {b off : Nat} {xs : List Value} (h : CellsAt w b off xs) (hk : w'.heap[b]? = w.heap[b]?) : CellsAt w' b off xs :=
  fun i x hx => (cell_keep hk).trans (h i x hx)
theorem SlI.stable (hz : Keeps Z Z' w w') {l : List Int} {x : Value} (h : SlI Z w l x) : SlI Z' w' l x := by
  obtain ⟨a, cap, hx, h1, h2, h3⟩ := h
  refine ⟨a, cap, hx, h1, h2, ?_⟩
  rcases h3 with h3 | ⟨b, off, ha, hb, hc⟩
  · exact .inl h3
  · by_cases hl : l = []
    · exact .inl hl
    · have hlt := hc.lt (by simpa using hl)
      exact .inr ⟨b, off, ha, (hz b hb hlt).1, hc.keep (hz b hb hlt).2⟩
theorem ElemsR.stable (hz : Keeps Z Z' w w') {d : SD} {xs : List Value} (h : ElemsR Z w d xs) : ElemsR Z' w' d xs := by
  cases d with
  | ts l => obtain ⟨hs, h1, h2, h3⟩ := h; exact ⟨hs, h1, h2, fun t ht => Rd.stable Z Z' w w' hz t (h3 t ht)⟩
  | is l => exact h
  | iss l => exact All2.mono h (fun _ _ _ hh => hh.stable hz)
  | ss l => exact h
  | bs l => exact h
theorem SlR.stable (hz : Keeps Z Z' w w') {d : SD} {x : Value} (h : SlR Z w d x) : SlR Z' w' d x := by
  obtain ⟨a, cap, xs, hx, h1, h2, h3, h4⟩ := h
  refine ⟨a, cap, xs, hx, h1, h2, h3.stable hz, ?_⟩
  rcases h4 with h4 | ⟨b, off, ha, hb, hc⟩
  · exact .inl h4
  · by_cases hl : xs = []
    · exact .inl hl
    · have hlt := hc.lt hl
      exact .inr ⟨b, off, ha, (hz b hb hlt).1, hc.keep (hz b hb hlt).2⟩
theorem CellsR.stable (hz : Keeps Z Z' w w') {e : SE} {cs : List Value} (h : CellsR Z w e cs) : CellsR Z' w' e cs := by
  cases e with
  | t x => obtain ⟨t, h1, h2, h3⟩ := h; exact ⟨t, h1, Rd.stable Z Z' w w' hz t h2, h3⟩
  | i n => exact h
  | ii l => obtain ⟨x, h1, h2⟩ := h; exact ⟨x, h1, h2.stable hz⟩
  | s x => exact h
  | b c => exact h
theorem CellsR.ne {e : SE} {cs : List Value} (h : CellsR Z w e cs) : cs ≠ [] := by
  cases e with
  | t x => obtain ⟨t, h1, h2, h3⟩ := h; simp [h3]
  | i n => simp only [CellsR] at h; simp [h]
  | ii l => obtain ⟨x, h1, h2⟩ := h; simp [h1]
  | s x => simp only [CellsR] at h; simp [h]
  | b c => simp only [CellsR] at h; simp [h]
theorem EpR.stable (hz : Keeps Z Z' w w') {e : SE} {o : Nat} {x : Value} (h : EpR Z w e o x) : EpR Z' w' e o x := by
  obtain ⟨b, off, cs, hx, hb, hc, hr⟩ := h
  have hlt := hc.lt hr.ne
  exact ⟨b, off, cs, hx, (hz b hb hlt).1, hc.keep (hz b hb hlt).2, hr.stable hz⟩
theorem RS.stable {G : List GO} (hz : Keeps Z Z' w w') {s : SV} {x : Value} (h : RS G Z w s x) : RS G Z' w' s x := by
  cases s with
  | fr d => exact SlR.stable hz h
  | ep e o => exact EpR.stable hz h
  | _ => exact h
theorem RV1.stable {G : List GO} (hz : Keeps Z Z' w w') {v : V1} {x : Value} (h : RV1 G Z w v x) : RV1 G Z' w' v x := by
  cases v with
  | one s => exact ⟨h.1.stable hz, h.2⟩
  | agg l => obtain ⟨xs, hx, hh⟩ := h; exact ⟨xs, hx, hh.mono fun _ _ _ k => ⟨k.1.stable hz, k.2⟩⟩
theorem RV.stable {G : List GO} (hz : Keeps Z Z' w w') {v : AV} {x : Value} (h : RV G Z w v x) : RV G Z' w' v x := by
  cases v with
  | v v => exact RV1.stable hz h
  | tup l => obtain ⟨xs, hx, hh⟩ := h; exact ⟨xs, hx, hh.mono fun _ _ _ k => k.stable hz⟩
theorem RO.stable {G : List GO} (hz : Keeps Z Z' w w') {o : AObj} {g : GO} (h : RO G Z w o g) : RO G Z' w' o g := by
  cases o with
  | cells l => cases g with
    | cells b T vs => exact All2.mono h fun _ _ _ k => ⟨k.1.stable hz, k.2⟩
    | _ => exact h
  | arr e d ver fz => cases g with
    | arr ver' v sz xs =>
      obtain ⟨h1, h2, h3⟩ := h
      refine ⟨h1, h2, ?_⟩
      cases fz with
      | true => exact SlR.stable hz h3
      | false => exact ⟨ElemsR.stable hz h3.1, h3.2⟩
    | _ => exact h
  | dead => cases g <;> exact h
theorem relF_stable (s : AS) (G : List GO) (tv : List Value) : Stable (relF s G tv) := fun Z Z' w w' hz h =>
  ⟨h.1.mono fun _ _ _ k => k.stable hz, h.2.mono fun _ _ _ k => k.stable hz⟩
end
theorem resO_local (o : AObj) (g : GO) : ∀ r ∈ resO o g, r.Local := by
  intro r hr
  unfold resO at hr
  split at hr
  · rw [List.mem_singleton] at hr; subst hr; exact blk_local _ _ _
  · rw [List.mem_singleton] at hr; subst hr; exact rowZ_local _ _ _ _ _
  · cases hr

/-! One object taken out of all. -/
theorem resO_gone (o : AObj) : resO o .gone = [] := by cases o with | arr e d v z => cases z <;> rfl | _ => rfl
theorem resO_dead (g : GO) : resO .dead g = [] := by cases g <;> rfl
theorem resL_out : ∀ (h : List AObj) (G : List GO) (j : Nat) {o : AObj} {g : GO}, h[j]? = some o → G[j]? = some g → (resL h G).Perm (resO o g ++ resL (h.set j .dead) (G.set j .gone))
  | [], _, j, o, g, hj, _ => by simp at hj
  | _ :: _, [], j, o, g, _, gj => by simp at gj
  | x :: h, y :: G, 0, o, g, hj, gj => by
    simp only [List.getElem?_cons_zero, Option.some.injEq] at hj gj
    subst hj gj
    simp only [List.set_cons_zero, resL, resO_dead, List.nil_append]
    exact List.Perm.refl _
  | x :: h, y :: G, j + 1, o, g, hj, gj => by
    simp only [List.getElem?_cons_succ] at hj gj
    simp only [List.set_cons_succ, resL]
    have := (resL_out h G j hj gj).append_left (resO x y)
    refine this.trans ?_
    rw [← List.append_assoc, ← List.append_assoc]
    exact List.perm_append_comm.append_right _
theorem resL_in {h : List AObj} {G : List GO} {j : Nat} (o : AObj) (g : GO) (hj : j < h.length) (gj : j < G.length) : (resO o g ++ resL (h.set j .dead) (G.set j .gone)).Perm (resL (h.set j o) (G.set j g)) := by
  have := resL_out (h.set j o) (G.set j g) j (o := o) (g := g) (by simp [hj]) (by simp [gj])
  rw [List.set_set, List.set_set] at this
  exact this.symm
theorem resL_append : ∀ {h h' : List AObj} {G G' : List GO}, h.length = G.length → resL (h ++ h') (G ++ G') = resL h G ++ resL h' G'
  | [], _, [], _, _ => rfl
  | x :: h, h', y :: G, G', hl => by simp only [List.cons_append, resL]; rw [resL_append (by simpa using hl), List.append_assoc]
  | [], _, _ :: _, _, hl => by simp at hl
  | _ :: _, _, [], _, hl => by simp at hl
theorem resL_dead : ∀ (n : Nat) (G : List GO), resL (List.replicate n .dead) G = []
  | 0, _ => rfl
  | n + 1, [] => rfl
  | n + 1, g :: G => by rw [List.replicate_succ, resL, resO_dead, resL_dead n G]; rfl
/-- The memory of fewer objects. -/
theorem _root_.Go.Dk.St.sub {w0 w : World} {M Z0 : Zone} {L L' : List Res} {φ : Fact} (h : St w0 M Z0 L φ w) (hs : L'.Sublist L) : St w0 M Z0 L' φ w :=
  ⟨h.ext, fun r hr => h.own r (hs.subset hr), fun r hr => h.loc r (hs.subset hr), fun r hr => h.key r (hs.subset hr), h.dis.sublist hs, h.stab,
    h.stab _ _ w w (fun b hz _ => ⟨⟨hz.1, fun r hr => hz.2 r (hs.subset hr)⟩, rfl⟩) h.per⟩
theorem _root_.Go.Dk.St.weak {w0 w : World} {M Z0 : Zone} {L : List Res} {φ ψ : Fact} (h : St w0 M Z0 L φ w) (hs : Stable ψ) (hp : φ (zone w0 Z0 L) w → ψ (zone w0 Z0 L) w) : St w0 M Z0 L ψ w :=
  ⟨h.ext, h.own, h.loc, h.key, h.dis, hs, hp h.per⟩

/-! Objects that turn, or are no more. -/
/-- From one list of objects to a later one: what is spoken of stays what it was, or is gone. -/
def Up (G G' : List GO) : Prop := ∀ (j : Nat), 
  (G[j]? = some .gone → G'[j]? = some .gone) ∧
  (∀ b T vs, G[j]? = some (.cells b T vs) → G'[j]? = some .gone ∨ ∃ T' vs', G'[j]? = some (.cells b T' vs')) ∧
  (∀ ver val sz xs, G[j]? = some (.arr ver val sz xs) → G'[j]? = some .gone ∨ ∃ ver' val' xs', G'[j]? = some (.arr ver' val' sz xs') ∧ (ver < ver' ∨ (ver = ver' ∧ val = val')))
theorem Up.refl (G : List GO) : Up G G := fun j => ⟨id, fun b T vs h => .inr ⟨T, vs, h⟩, fun ver val sz xs h => .inr ⟨ver, val, xs, h, .inr ⟨rfl, rfl⟩⟩⟩
theorem Up.trans {G G' G'' : List GO} (h : Up G G') (k : Up G' G'') : Up G G'' := by
  intro j
  refine ⟨fun hh => (k j).1 ((h j).1 hh), fun b T vs hh => ?_, fun ver val sz xs hh => ?_⟩
  · rcases (h j).2.1 b T vs hh with h1 | ⟨T', vs', h1⟩
    · exact .inl ((k j).1 h1)
    · exact (k j).2.1 b T' vs' h1
  · rcases (h j).2.2 ver val sz xs hh with h1 | ⟨ver', val', xs', h1, h2⟩
    · exact .inl ((k j).1 h1)
    · rcases (k j).2.2 ver' val' sz xs' h1 with h3 | ⟨ver'', val'', xs'', h3, h4⟩
      · exact .inl h3
      · refine .inr ⟨ver'', val'', xs'', h3, ?_⟩
        rcases h2 with h2 | ⟨rfl, rfl⟩
        · rcases h4 with h4 | ⟨rfl, rfl⟩
          · exact .inl (by omega)
          · exact .inl h2
        · exact h4
/-- Turning object j. -/
theorem Up.set {G : List GO} {j : Nat} {g : GO} (h : ∀ g0, G[j]? = some g0 → match g0, g with
    | .fresh, _ => True
    | _, .gone => True
    | .cells b _ _, .cells b' _ _ => b = b'
    | .arr ver val sz _, .arr ver' val' sz' _ => sz = sz' ∧ (ver < ver' ∨ (ver = ver' ∧ val = val'))
    | _, _ => False) : Up G (G.set j g) := by
  intro i
  by_cases hij : j = i
  · subst hij
    cases hg : G[j]? with
    | none => exact ⟨nofun, nofun, nofun⟩
    | some g0 =>
      have hlt : j < G.length := by
        rcases Nat.lt_or_ge j G.length with h' | h'
        · exact h'
        · rw [List.getElem?_eq_none h'] at hg; cases hg
      have hs : (G.set j g)[j]? = some g := by simp [hlt]
      have hh := h g0 hg
      refine ⟨fun e => ?_, fun b T vs e => ?_, fun ver val sz xs e => ?_⟩
      · obtain rfl := Option.some.inj e; rw [hs]; cases g <;> first | rfl | exact hh.elim
      · obtain rfl := Option.some.inj e; rw [hs]
        cases g with
        | gone => exact .inl rfl
        | cells b' T' vs' => have hh : b = b' := hh; subst hh; exact .inr ⟨T', vs', rfl⟩
        | _ => exact hh.elim
      · obtain rfl := Option.some.inj e; rw [hs]
        cases g with
        | gone => exact .inl rfl
        | arr ver' val' sz' xs' => obtain ⟨rfl, hh⟩ := hh; exact .inr ⟨ver', val', xs', rfl, hh⟩
        | _ => exact hh.elim
  · rw [List.getElem?_set_ne hij]
    exact ⟨id, fun b T vs h => .inr ⟨T, vs, h⟩, fun ver val sz xs h => .inr ⟨ver, val, xs, h, .inr ⟨rfl, rfl⟩⟩⟩
theorem Up.append (G N : List GO) : Up G (G ++ N) := by
  intro j
  have : ∀ g, G[j]? = some g → (G ++ N)[j]? = some g := fun g h => by
    rcases Nat.lt_or_ge j G.length with h' | h'
    · rw [List.getElem?_append_left h']; exact h
    · rw [List.getElem?_eq_none h'] at h; cases h
  exact ⟨fun h => this _ h, fun b T vs h => .inr ⟨T, vs, this _ h⟩, fun ver val sz xs h => .inr ⟨ver, val, xs, this _ h, .inr ⟨rfl, rfl⟩⟩⟩
section
variable {G G' : List GO} {Z : Zone} {w : World}
theorem RS.up (h : Up G G') {s : SV} {x : Value} (k : RS G Z w s x) : RS G' Z w s x := by
  cases s with
  | own j v =>
    rcases k with k | ⟨ver, val, sz, xs, hg, hv, he⟩
    · exact .inl ((h j).1 k)
    · rcases (h j).2.2 _ _ _ _ hg with h1 | ⟨ver', val', xs', h1, h2⟩
      · exact .inl h1
      · refine .inr ⟨ver', val', sz, xs', h1, ?_⟩
        rcases h2 with h2 | ⟨rfl, rfl⟩
        · exact ⟨by omega, fun e => by omega⟩
        · exact ⟨hv, he⟩
  | ptr j o =>
    rcases k with k | ⟨b, T, vs, hg, he⟩
    · exact .inl ((h j).1 k)
    · rcases (h j).2.1 _ _ _ hg with h1 | ⟨T', vs', h1⟩
      · exact .inl h1
      · exact .inr ⟨b, T', vs', h1, he⟩
  | op j v i o =>
    rcases k with k | ⟨ver, val, sz, xs, hg, hv, he⟩
    · exact .inl ((h j).1 k)
    · rcases (h j).2.2 _ _ _ _ hg with h1 | ⟨ver', val', xs', h1, h2⟩
      · exact .inl h1
      · refine .inr ⟨ver', val', sz, xs', h1, ?_⟩
        rcases h2 with h2 | ⟨rfl, rfl⟩
        · exact ⟨by omega, fun e => by omega⟩
        · exact ⟨hv, he⟩
  | fn f l =>
    obtain ⟨bs, hx, hh⟩ := k
    refine ⟨bs, hx, hh.mono fun j b _ hjb => ?_⟩
    rcases hjb with h1 | ⟨T, vs, h1⟩
    · exact .inl ((h j).1 h1)
    · rcases (h j).2.1 _ _ _ h1 with h2 | ⟨T', vs', h2⟩
      · exact .inl h2
      · exact .inr ⟨T', vs', h2⟩
  | _ => exact k
theorem RV1.up (h : Up G G') {s : V1} {x : Value} (k : RV1 G Z w s x) : RV1 G' Z w s x := by
  cases s with
  | one s => exact ⟨k.1.up h, k.2⟩
  | agg l => obtain ⟨xs, hx, hh⟩ := k; exact ⟨xs, hx, hh.mono fun _ _ _ k => ⟨k.1.up h, k.2⟩⟩
theorem RV.up (h : Up G G') {s : AV} {x : Value} (k : RV G Z w s x) : RV G' Z w s x := by
  cases s with
  | v s => exact RV1.up h k
  | tup l => obtain ⟨xs, hx, hh⟩ := k; exact ⟨xs, hx, hh.mono fun _ _ _ k => k.up h⟩
theorem RO.up (h : Up G G') {o : AObj} {g : GO} (k : RO G Z w o g) : RO G' Z w o g := by
  cases o with
  | cells l => cases g with
    | cells b T vs => exact All2.mono k fun _ _ _ k => ⟨k.1.up h, k.2⟩
    | _ => exact k
  | arr e d ver fz => cases g <;> exact k
  | dead => cases g <;> exact k
end
end Go.Ab
