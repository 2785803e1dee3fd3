/- Rows that grow, trees that are the call's own, and the laws of make and append for the walk. No program in sight. -/
import Derived.Test.YtbkpfjabcohnpaaLib
import Derived.Laws.AppendOwn
import Derived.ArgAppend
import Derived.Laws.MakeOwn
set_option linter.unusedVariables false
set_option linter.unusedSimpArgs false
namespace Go.Dk
open Go

/-! Resources in another order, two made one. -/
section
variable {w0 w w' : World} {M Z0 : Zone} {L L' : List Res} {φ : Fact} {r s r' : Res}
theorem St.perm (h : St w0 M Z0 L φ w) (hp : L.Perm L') : St w0 M Z0 L' φ w :=
  ⟨h.ext, fun r hr => h.own r (hp.mem_iff.2 hr), fun r hr => h.loc r (hp.mem_iff.2 hr), fun r hr => h.key r (hp.mem_iff.2 hr),
    (hp.pairwise_iff (fun {a b} hab x hx hx' => hab x hx' hx)).1 h.dis, h.stab,
    h.stab _ _ w w (fun b hz _ => ⟨⟨hz.1, fun r hr => hz.2 r (hp.mem_iff.2 hr)⟩, rfl⟩) h.per⟩
theorem St.swap (h : St w0 M Z0 (r :: s :: L) φ w) : St w0 M Z0 (s :: r :: L) φ w := h.perm (List.Perm.swap _ _ _)
/-- Two resources become one. -/
theorem St.merge (h : St w0 M Z0 (r :: s :: L) φ w) (hl : r'.Local) (hf : ∀ b, r'.foot b → r.foot b ∨ s.foot b) (ho : r.own w → s.own w → (∀ b, r.foot b → ¬ s.foot b) → r'.own w) : St w0 M Z0 (r' :: L) φ w := by
  have hd := h.dis
  rw [List.pairwise_cons] at hd
  obtain ⟨hd1, hd2⟩ := hd
  rw [List.pairwise_cons] at hd2
  refine ⟨h.ext, ?_, ?_, ?_, ?_, h.stab, ?_⟩
  · intro x hx; rcases List.mem_cons.1 hx with rfl | hx
    · exact ho (h.own r (by simp)) (h.own s (by simp)) (hd1 s (by simp))
    · exact h.own x (by simp [hx])
  · intro x hx; rcases List.mem_cons.1 hx with rfl | hx
    · exact hl
    · exact h.loc x (by simp [hx])
  · intro x hx b hb; rcases List.mem_cons.1 hx with rfl | hx
    · rcases hf b hb with h1 | h1
      · exact h.key r (by simp) b h1
      · exact h.key s (by simp) b h1
    · exact h.key x (by simp [hx]) b hb
  · refine List.Pairwise.cons (fun x hx b hb hb' => ?_) hd2.2
    rcases hf b hb with h1 | h1
    · exact hd1 x (by simp [hx]) b h1 hb'
    · exact hd2.1 x hx b h1 hb'
  · refine h.stab _ _ w w (fun b hz _ => ⟨⟨hz.1, fun x hx hb => ?_⟩, rfl⟩) h.per
    rcases List.mem_cons.1 hx with rfl | hx
    · rcases hf b hb with h1 | h1
      · exact hz.2 r (by simp) h1
      · exact hz.2 s (by simp) h1
    · exact hz.2 x (by simp [hx]) hb
/-- One resource is seen as another, on fewer blocks. -/
theorem St.recast (h : St w0 M Z0 (r :: L) φ w) (hl : r'.Local) (hf : ∀ b, r'.foot b → r.foot b) (ho : r.own w → r'.own w) : St w0 M Z0 (r' :: L) φ w := by
  have hd := h.dis
  rw [List.pairwise_cons] at hd
  refine ⟨h.ext, ?_, ?_, ?_, ?_, h.stab, ?_⟩
  · intro x hx; rcases List.mem_cons.1 hx with rfl | hx
    · exact ho (h.own r (by simp))
    · exact h.own x (by simp [hx])
  · intro x hx; rcases List.mem_cons.1 hx with rfl | hx
    · exact hl
    · exact h.loc x (by simp [hx])
  · intro x hx b hb; rcases List.mem_cons.1 hx with rfl | hx
    · exact h.key r (by simp) b (hf b hb)
    · exact h.key x (by simp [hx]) b hb
  · exact List.Pairwise.cons (fun x hx b hb hb' => hd.1 x hx b (hf b hb) hb') hd.2
  · refine h.stab _ _ w w (fun b hz _ => ⟨⟨hz.1, fun x hx hb => ?_⟩, rfl⟩) h.per
    rcases List.mem_cons.1 hx with rfl | hx
    · exact hz.2 r (by simp) (hf b hb)
    · exact hz.2 x (by simp [hx]) hb
end

/-! Terms on blocks. -/
def HT.sl (t : HT) : Value := .slice t.a t.kids.length t.cap
def HT.head : Option Addr → List HT → List Nat
  | some ad, _ :: _ => [ad.block]
  | _, _ => []
mutual
def HT.blocks : HT → List Nat
  | .mk _ _ a _ kids => HT.head a kids ++ HT.blocksL kids
def HT.blocksL : List HT → List Nat
  | [] => []
  | t :: ts => HT.blocks t ++ HT.blocksL ts
end
theorem HT.blocks_eq (t : HT) : t.blocks = HT.head t.a t.kids ++ HT.blocksL t.kids := by cases t; simp [HT.blocks, HT.a, HT.kids]
theorem HT.blocksL_append (ts us : List HT) : HT.blocksL (ts ++ us) = HT.blocksL ts ++ HT.blocksL us := by
  induction ts with
  | nil => rfl
  | cons t ts ih => simp [HT.blocksL, ih]
theorem HT.mem_blocksL {b : Nat} {ts : List HT} : b ∈ HT.blocksL ts ↔ ∃ t ∈ ts, b ∈ t.blocks := by
  induction ts with
  | nil => simp [HT.blocksL]
  | cons t ts ih => simp [HT.blocksL, ih]
mutual
theorem Rd.zone {Z : Zone} {w : World} : ∀ t, Rd Z w t → ∀ b ∈ t.blocks, Z b ∧ b < w.heap.size
  | .mk k n a cap kids, h, b, hb => by
    simp only [Rd] at h
    simp only [HT.blocks, List.mem_append] at hb
    rcases h.1 with rfl | ⟨b', off, rfl, hz, hl⟩
    · rcases hb with hb | hb
      · cases a <;> simp [HT.head] at hb
      · simp [HT.blocksL] at hb
    · rcases hb with hb | hb
      · cases kids with
        | nil => simp [HT.head] at hb
        | cons t ts =>
          simp only [HT.head, List.mem_singleton] at hb
          subst hb
          simp only [RdL] at hl
          exact ⟨hz, cell_lt hl.1.1⟩
      · exact RdL.zone kids hl b hb
theorem RdL.zone {Z : Zone} {w : World} {b0 off : Nat} : ∀ ts, RdL Z w b0 off ts → ∀ b ∈ HT.blocksL ts, Z b ∧ b < w.heap.size
  | [], _, b, hb => by simp [HT.blocksL] at hb
  | t :: ts, h, b, hb => by
    simp only [RdL] at h
    simp only [HT.blocksL, List.mem_append] at hb
    rcases hb with hb | hb
    · exact Rd.zone t h.2.1 b hb
    · exact RdL.zone ts h.2.2 b hb
end
mutual
theorem Rd.frame {Z Z' : Zone} {w w' : World} : ∀ t, Rd Z w t → (∀ b ∈ t.blocks, Z' b ∧ w'.heap[b]? = w.heap[b]?) → Rd Z' w' t
  | .mk k n a cap kids, h, hf => by
    simp only [Rd] at h ⊢
    refine ⟨?_, h.2⟩
    rcases h.1 with h1 | ⟨b, off, rfl, hb, hl⟩
    · exact .inl h1
    · cases kids with
      | nil => exact .inl rfl
      | cons t ts =>
        have h0 := hf b (by simp [HT.blocks, HT.head])
        exact .inr ⟨b, off, rfl, h0.1, RdL.frame (t :: ts) hl h0.2 (fun c hc => hf c (by simp only [HT.blocks, List.mem_append]; exact .inr hc))⟩
theorem RdL.frame {Z Z' : Zone} {w w' : World} {b off : Nat} : ∀ ts, RdL Z w b off ts → w'.heap[b]? = w.heap[b]? → (∀ c ∈ HT.blocksL ts, Z' c ∧ w'.heap[c]? = w.heap[c]?) → RdL Z' w' b off ts
  | [], _, _, _ => by simp [RdL]
  | t :: ts, h, hk, hf => by
    simp only [RdL] at h ⊢
    exact ⟨⟨(cell_keep hk).trans h.1.1, (cell_keep hk).trans h.1.2.1, (cell_keep hk).trans h.1.2.2⟩,
      Rd.frame t h.2.1 (fun c hc => hf c (by simp only [HT.blocksL, List.mem_append]; exact .inl hc)),
      RdL.frame ts h.2.2 hk (fun c hc => hf c (by simp only [HT.blocksL, List.mem_append]; exact .inr hc))⟩
end
theorem Rd.any {Z : Zone} {w : World} {t : HT} (h : Rd Z w t) : Rd (fun _ => True) w t := Rd.frame t h (fun _ _ => ⟨trivial, rfl⟩)
theorem Rd.kid {Z : Zone} {w : World} {t u : HT} (h : Rd Z w t) (hu : u ∈ t.kids) : Rd Z w u := by
  obtain ⟨i, hi, rfl⟩ := List.getElem_of_mem hu
  have hx : t.kids[i]? = some t.kids[i] := List.getElem?_eq_getElem hi
  obtain ⟨b, off, ha⟩ := h.addr hx
  exact (h.elem ha hx).2

def Unf (w : World) (b : Nat) : Prop := ∃ cs T, w.heap[b]? = some (.cells cs T (0, 0))
/-- A tree of the call's own: each of its rows stands on a block of its own. -/
def treeR (t : HT) : Res := ⟨(· ∈ t.blocks), fun w => Rd (fun _ => True) w t ∧ t.blocks.Nodup ∧ ∀ b ∈ t.blocks, Unf w b⟩
theorem treeR_local (t : HT) : (treeR t).Local := fun w w' h k =>
  ⟨Rd.frame t k.1 (fun b hb => ⟨trivial, h b hb⟩), k.2.1, fun b hb => by obtain ⟨cs, T, hh⟩ := k.2.2 b hb; exact ⟨cs, T, (h b hb).trans hh⟩⟩
/-- Trees of the call's own. -/
def kidsR (ts : List HT) : Res := ⟨(· ∈ HT.blocksL ts), fun w => (∀ t ∈ ts, Rd (fun _ => True) w t) ∧ (HT.blocksL ts).Nodup ∧ ∀ b ∈ HT.blocksL ts, Unf w b⟩
theorem kidsR_local (ts : List HT) : (kidsR ts).Local := fun w w' h k =>
  ⟨fun t ht => Rd.frame t (k.1 t ht) (fun b hb => ⟨trivial, h b (HT.mem_blocksL.2 ⟨t, ht, hb⟩)⟩), k.2.1, fun b hb => by obtain ⟨cs, T, hh⟩ := k.2.2 b hb; exact ⟨cs, T, (h b hb).trans hh⟩⟩
/-- What a function that hands back a tree of its own says. -/
structure Own (w w' : World) (t : HT) : Prop where
  own : (treeR t).own w'
  new : ∀ b ∈ t.blocks, w.heap.size ≤ b
theorem Rd.node {Z : Zone} {w : World} {t : HT} (h : Rd Z w t) (k n : Int) : Rd Z w (.mk k n t.a t.cap t.kids) := by
  cases t; simpa only [Rd, HT.a, HT.cap, HT.kids] using h
theorem Own.node {w w' : World} {t : HT} (h : Own w w' t) (k n : Int) : Own w w' (.mk k n t.a t.cap t.kids) := by
  have hb : HT.blocks (.mk k n t.a t.cap t.kids) = t.blocks := by cases t; rfl
  refine ⟨⟨h.own.1.node k n, by rw [hb]; exact h.own.2.1, by rw [hb]; exact h.own.2.2⟩, by rw [hb]; exact h.new⟩
theorem Own.lt {w w' : World} {t : HT} (h : Own w w' t) : ∀ b ∈ t.blocks, b < w'.heap.size := fun b hb => (Rd.zone t h.own.1 b hb).2
theorem Own.rd {w w' : World} {t : HT} (h : Own w w' t) (Z : Zone) : Rd (fun b => Z b ∨ w.heap.size ≤ b) w' t := Rd.frame t h.own.1 (fun b hb => ⟨.inr (h.new b hb), rfl⟩)

section
variable {w0 w w' : World} {M Z0 : Zone} {L : List Res} {φ : Fact}
theorem St.pushTree (h : St w0 M Z0 L φ w) (hg : Grow w w') {t : HT} (ho : Own w w' t) : St w0 M Z0 (treeR t :: L) φ w' :=
  h.push hg (treeR_local t) ho.own (fun b hb => ⟨ho.new b hb, ho.lt b hb⟩)
theorem St.pushNone (h : St w0 M Z0 L φ w) : St w0 M Z0 (kidsR [] :: L) φ w :=
  h.push (Ext.refl _ _) (kidsR_local []) ⟨by simp, by simp [HT.blocksL], by simp [HT.blocksL]⟩ (by intro b hb; simp [kidsR, HT.blocksL] at hb)
theorem St.snoc {t : HT} {ts : List HT} (h : St w0 M Z0 (treeR t :: kidsR ts :: L) φ w) : St w0 M Z0 (kidsR (ts ++ [t]) :: L) φ w := by
  refine h.merge (kidsR_local _) ?_ ?_
  · intro b hb
    simp only [kidsR, HT.blocksL_append, List.mem_append, HT.blocksL, List.append_nil] at hb
    rcases hb with hb | hb
    · exact .inr hb
    · exact .inl hb
  · intro h1 h2 hd
    refine ⟨?_, ?_, ?_⟩
    · intro x hx
      rcases List.mem_append.1 hx with hx | hx
      · exact h2.1 x hx
      · rw [List.mem_singleton.1 hx]; exact h1.1
    · rw [HT.blocksL_append, List.nodup_append]
      refine ⟨h2.2.1, by simpa [HT.blocksL] using h1.2.1, ?_⟩
      intro a ha b hb hab
      subst hab
      simp only [HT.blocksL, List.append_nil] at hb
      exact hd a hb ha
    · intro b hb
      simp only [HT.blocksL_append, List.mem_append, HT.blocksL, List.append_nil] at hb
      rcases hb with hb | hb
      · exact h2.2.2 b hb
      · exact h1.2.2 b hb
/-- A tree of one's own is given up: it is known, and turns no more. -/
theorem St.shelve {t : HT} (h : St w0 M Z0 (treeR t :: L) φ w) (hm : ∀ b, ¬ M b) : St w0 M Z0 L (andF (rdF t) φ) w := by
  have hz := h.zone_drop (n := 0) (r := treeR t) rfl (fun b hb => ((h.key (treeR t) (by simp) b hb).1).resolve_left (hm b))
  have ho : (treeR t).own w := h.own _ (by simp)
  have h' : St w0 M Z0 L φ w := h.tail
  exact h'.fact (rdF_stable t) (Rd.frame t ho.1 (fun b hb => ⟨hz b hb, rfl⟩))
theorem St.outTree {t : HT} (h : St w0 noneZ Z0 (treeR t :: L) φ w) : Own w0 w t :=
  ⟨h.own (treeR t) (by simp), fun b hb => ((h.key (treeR t) (by simp) b hb).1).resolve_left (fun h => h)⟩
theorem St.rdAt {t : HT} (h : St w0 M Z0 L φ w) (n : Nat) (hn : L[n]? = some (treeR t)) : Rd (fun _ => True) w t := (h.own (treeR t) (List.mem_of_getElem? hn)).1
theorem St.rdTree {t : HT} (h : St w0 M Z0 (treeR t :: L) φ w) : Rd (fun _ => True) w t := (h.own (treeR t) (by simp)).1
end

/-! Rows of terms, as cells. -/
def flatT (ts : List HT) : List Value := flatC (ts.map HT.val)
theorem flatT_nil : flatT [] = [] := rfl
theorem flatT_cons (t : HT) (ts : List HT) : flatT (t :: ts) = .int .i64 t.k :: .int .i64 t.n :: t.sl :: flatT ts := rfl
theorem flatT_append (ts us : List HT) : flatT (ts ++ us) = flatT ts ++ flatT us := by simp [flatT, flatC]
theorem flatT_length (ts : List HT) : (flatT ts).length = ts.length * 3 := by
  rw [flatT, flatC_length 3 _ (by intro v hv; obtain ⟨t, _, rfl⟩ := List.mem_map.1 hv; rfl)]; simp
theorem putL_at (A B : List Value) : ∀ (vs C : List Value), vs.length = C.length → putL (A ++ (C ++ B)) A.length vs = A ++ (vs ++ B) := by
  intro vs C hl
  apply List.ext_getElem?
  intro i
  rw [putL_get _ _ _ _ (by simp; omega)]
  split
  · rename_i h
    rw [List.getElem?_append_right h.1, List.getElem?_append_left (by omega)]
  · rename_i h
    rcases Nat.lt_or_ge i A.length with h1 | h1
    · rw [List.getElem?_append_left h1, List.getElem?_append_left h1]
    · rw [List.getElem?_append_right h1, List.getElem?_append_right h1, List.getElem?_append_right (by omega), List.getElem?_append_right (by omega), hl]
theorem put_next (us : List HT) (u : HT) (zs : List Value) (m : Nat) (hz : zs.length = 3) : putL (flatT us ++ (List.replicate (m + 1) zs).flatten) (us.length * 3) [.int .i64 u.k, .int .i64 u.n, .slice u.a u.kids.length u.cap] = flatT (us ++ [u]) ++ (List.replicate m zs).flatten := by
  have := putL_at (flatT us) (List.replicate m zs).flatten [.int .i64 u.k, .int .i64 u.n, .slice u.a u.kids.length u.cap] zs (by simp [hz])
  rw [flatT_length] at this
  rw [List.replicate_succ, List.flatten_cons, this, flatT_append, flatT_cons, flatT_nil, HT.sl]
  simp
theorem RdL_of_cells {Z : Zone} {w : World} {b : Nat} : ∀ (ts : List HT) (off : Nat), (∀ j u, (flatT ts)[j]? = some u → w.cell? ⟨b, off + j, none⟩ = some u) → (∀ t ∈ ts, Rd Z w t) → RdL Z w b off ts
  | [], _, _, _ => by simp [RdL]
  | t :: ts, off, hc, hr => by
    simp only [RdL]
    rw [flatT_cons] at hc
    refine ⟨⟨by simpa using hc 0 _ rfl, hc 1 _ rfl, hc 2 _ rfl⟩, hr t (by simp), RdL_of_cells ts (off + 3) (fun j u hj => ?_) (fun x hx => hr x (by simp [hx]))⟩
    rw [Nat.add_assoc, Nat.add_comm 3 j]
    exact hc (j + 3) u (by simpa using hj)
theorem Rd_mk {Z : Zone} {w : World} {b off cap : Nat} {k n : Int} {ts : List HT} (hl : ts.length ≤ cap) (hm : ts.length ≤ 9223372036854775807) (hz : Z b) (h : RdL Z w b off ts) : Rd Z w (.mk k n (some ⟨b, off, none⟩) cap ts) := by
  simp only [Rd]; exact ⟨.inr ⟨b, off, rfl, hz, h⟩, hl, hm⟩
theorem Rd_none {Z : Zone} {w : World} {k n : Int} {a : Option Addr} {cap : Nat} : Rd Z w (.mk k n a cap []) := by
  simp [Rd]

section
variable {w0 w w' : World} {M Z0 : Zone} {L : List Res} {φ : Fact}
/-- A block that holds a row of terms, with the terms' own trees, is the tree. -/
theorem St.plant {g : Nat} {cs : List Value} {T : TypeId} {ts : List HT} (h : St w0 M Z0 (blk g cs T :: kidsR ts :: L) φ w) (k n : Int) (cap : Nat) (hl : ts.length ≤ cap) (hm : ts.length ≤ 9223372036854775807)
    (hc : ∀ (j : Nat) (u : Value), (flatT ts)[j]? = some u → cs[j]? = some u) : St w0 M Z0 (treeR (.mk k n (some ⟨g, 0, none⟩) cap ts) :: L) φ w := by
  refine h.merge (treeR_local _) ?_ ?_
  · intro b hb
    simp only [treeR, HT.blocks, List.mem_append] at hb
    rcases hb with hb | hb
    · left; cases ts with
      | nil => simp [HT.head] at hb
      | cons t ts => simpa [HT.head, blk] using hb
    · exact .inr hb
  · intro h1 h2 hd
    simp only [blk] at h1 hd
    have hnd : g ∉ HT.blocksL ts := hd g rfl
    refine ⟨?_, ?_, ?_⟩
    · refine Rd_mk hl hm trivial (RdL_of_cells ts 0 (fun j u hj => ?_) h2.1)
      have hcj := hc j u hj
      simp [World.cell?, h1, hcj]
    · simp only [HT.blocks]
      rw [List.nodup_append]
      refine ⟨?_, h2.2.1, ?_⟩
      · cases ts <;> simp [HT.head]
      · intro a ha b hb hab
        subst hab
        cases ts with
        | nil => simp [HT.head] at ha
        | cons t ts =>
          simp only [HT.head, List.mem_singleton] at ha
          subst ha
          exact hnd hb
    · intro b hb
      simp only [HT.blocks, List.mem_append] at hb
      rcases hb with hb | hb
      · cases ts with
        | nil => simp [HT.head] at hb
        | cons t ts =>
          simp only [HT.head, List.mem_singleton] at hb
          subst hb
          exact ⟨_, _, h1⟩
      · exact h2.2.2 b hb
end

/-! Rows that grow. -/
def rowR (e size : Nat) (v : Value) (n : Nat) (xs : List Value) : Res := ⟨fun b => v.ownBlock = some b, fun w => w.ownsRow 0 e size v n xs⟩
theorem rowR_local (e size : Nat) (v : Value) (n : Nat) (xs : List Value) : (rowR e size v n xs).Local := by
  intro w w' h k
  simp only [rowR] at k h ⊢
  refine ⟨k.1, ?_⟩
  rcases k.2 with h1 | ⟨g, cap, cur, rfl, h2, h3, h4⟩
  · exact .inl h1
  · exact .inr ⟨g, cap, cur, rfl, h2, (h g rfl).trans h3, h4⟩
theorem St.pushRow {w0 w : World} {M Z0 : Zone} {L : List Res} {φ : Fact} (h : St w0 M Z0 L φ w) (e size : Nat) : St w0 M Z0 (rowR e size (.slice none 0 0) 0 [] :: L) φ w :=
  h.push (Ext.refl _ _) (rowR_local e size _ 0 []) (World.ownsRow_nil w 0 e size) (by intro b hb; simp [rowR, Value.ownBlock] at hb)
theorem grownBy_ext {w w' : World} {v : Value} (h : w.grownBy w' v.ownBlock) : Ext (fun b => v.ownBlock = some b) w w' :=
  ⟨h.os, h.tape, h.output, h.size, fun k hk hm => h.block k hk (fun e => hm e.symm)⟩
class AP (P : Program) (t : TypeId) (e sz by_ : outParam Nat) : Prop where
  out : P.underlying t = some (.slice e) ∧ ∃ i z, P.info? e = some i ∧ i.zero = some z ∧ i.size = sz ∧ i.bytes = by_ ∧ z.cells.size = sz ∧ 0 < sz
def apB (P : Program) (t e sz by_ : Nat) : Bool := match P.underlying t with
  | some (.slice e') => e' == e && (match P.info? e with
    | some i => (match i.zero with
      | some z => i.size == sz && i.bytes == by_ && z.cells.size == sz && Nat.blt 0 sz
      | none => false)
    | none => false)
  | _ => false
theorem AP.of {P : Program} {t e sz by_ : Nat} (h : apB P t e sz by_ = true) : AP P t e sz by_ := by
  unfold apB at h
  split at h
  · rename_i e' hu
    rw [Bool.and_eq_true] at h
    obtain ⟨h1, h2⟩ := h
    have h1 : e' = e := by simpa using h1
    subst h1
    split at h2
    · rename_i i hi
      split at h2
      · rename_i z hz
        simp only [Bool.and_eq_true, beq_iff_eq, Nat.blt_eq] at h2
        exact ⟨hu, i, z, hi, hz, h2.1.1.1, h2.1.1.2, h2.1.2, h2.2⟩
      · cases h2
    · cases h2
  · cases h
theorem run_append_row {P : Program} (w : World) (t ty : TypeId) {e sz by_ : Nat} (hp : P.underlying t = some (.slice e) ∧ ∃ i z, P.info? e = some i ∧ i.zero = some z ∧ i.size = sz ∧ i.bytes = by_ ∧ z.cells.size = sz ∧ 0 < sz)
    (v : Value) (n : Nat) (xs : List Value) (hown : w.ownsRow 0 e sz v n xs)
    (a : Addr) (m c : Nat) (news : List Value) (hl : news.length = m * sz) (hnews : ∀ j u, news[j]? = some u → w.cell? (a.add j) = some u) (h1 : ∀ u ∈ news, u.oneCell' = true)
    (hbytes : (n + m) * by_ ≤ 140737488355328) (h63 : n + m ≤ 9223372036854775807) :
    ∃ v' w', (Builtin.append_ #[t, t] ty #[v, .slice (some a) m c]).run P w = .ok v' w' ∧ w'.ownsRow 0 e sz v' (n + m) (xs ++ news) ∧ w.grownBy w' v.ownBlock ∧ ∀ b, v'.ownBlock = some b → v.ownBlock = some b ∨ w.heap.size ≤ b := by
  obtain ⟨ht, i, z, hi, hz, hsize, hby, hzs, hsz⟩ := hp
  have h63' : n + m ≤ maxLen := by simp only [maxLen]; omega
  obtain ⟨v', w', hr, ho, hg, _⟩ := run_append_own (P := P) w 0 t ty e i z sz by_ ht hi hz hsize hby hzs hsz v n xs hown a m c news hl hnews h1 h63' hbytes (Nat.zero_le _)
  refine ⟨v', w', hr, ho, hg, ?_⟩
  rcases hown.2 with ⟨rfl, rfl⟩ | ⟨g, cap, cur, rfl, hbg, hgg, hnc, hcm, hcs, htake⟩
  · obtain rfl : xs = [] := List.eq_nil_of_length_eq_zero (by simpa using hown.1)
    obtain ⟨v2, w2, hr2, ho2, _⟩ := run_append_own (P := P) w w.heap.size t ty e i z sz by_ ht hi hz hsize hby hzs hsz _ 0 [] (World.ownsRow_nil w _ e sz) a m c news hl hnews h1 h63' hbytes (Nat.le_refl _)
    rw [hr] at hr2
    obtain ⟨rfl, rfl⟩ : v' = v2 ∧ w' = w2 := by injection hr2 with h1 h2; exact ⟨h1, h2⟩
    intro b hb
    exact .inr (ho2.lt b hb).1
  · by_cases hroom : n + m ≤ cap
    · have hr2 := run_append_room (P := P) w t ty e i ht hi g n cap cur hgg a m c news (by rw [hsize]; exact hl) hnews h1 hroom (by rw [hsize, hl, hcs, ← Nat.add_mul]; exact Nat.mul_le_mul_right _ hroom)
      rw [hr] at hr2
      injection hr2 with h2 h3
      intro b hb
      rw [h2] at hb
      exact .inl hb
    · obtain ⟨v2, w2, hr2, ho2, _⟩ := run_append_arg_grows (P := P) w t ty e i z sz by_ ht hi hz hsize hby hzs hsz ⟨g, 0, none⟩ n cap xs hown.1 (hown.cells (g := g) rfl) a m c news hl hnews (by omega) h63' hbytes
      rw [hr] at hr2
      obtain ⟨rfl, rfl⟩ : v' = v2 ∧ w' = w2 := by injection hr2 with h1 h2; exact ⟨h1, h2⟩
      intro b hb
      exact .inr (ho2.lt b hb).1

section
variable {P : Program} {ops : Array Oper} {Q : Exit → Act → World → Prop} {dr : Bool} {fu k : Nat} {rest : List (Nat × Oper)} {a : Act} {w w0 : World} {M Z0 : Zone} {L : List Res} {φ : Fact}
  {d : Option Tmp} {ty : TypeId} {pos : String} {aft : Array Edge} {gd : Option (Nat × Bool)} {x y : Operand} {t t' : TypeId}
theorem rep_get (zs : List Value) : ∀ n i, i < n * zs.length → (List.replicate n zs).flatten[i]? = zs[i % zs.length]?
  | 0, i, h => by simp at h
  | n + 1, i, h => by
    rw [List.replicate_succ, List.flatten_cons]
    rcases Nat.lt_or_ge i zs.length with hi | hi
    · rw [List.getElem?_append_left hi, Nat.mod_eq_of_lt hi]
    · rw [List.getElem?_append_right hi, rep_get zs n (i - zs.length) (by rw [Nat.add_mul, Nat.one_mul] at h; omega), Nat.mod_eq_sub_mod hi]
theorem made_eq (zs : List Value) (n : Nat) : (madeCells zs.toArray (n * zs.length)).toList = (List.replicate n zs).flatten := by
  apply List.ext_getElem?
  intro i
  have hl : (List.replicate n zs).flatten.length = n * zs.length := by simp
  by_cases hi : i < n * zs.length
  · have hz : 0 < zs.length := by
      rcases Nat.eq_zero_or_pos zs.length with h | h
      · rw [h] at hi; simp at hi
      · exact h
    have hm : i % zs.length < zs.length := Nat.mod_lt _ hz
    rw [rep_get zs n i hi]
    simp [madeCells, hi, hm]
  · rw [List.getElem?_eq_none (by simp [madeCells]; omega), List.getElem?_eq_none (by rw [hl]; omega)]
/-- make. -/
theorem B3 {n sz e by_ : Nat} {zs : List Value} [hp : AP P t e sz by_] [hz : ZR P e zs] (hw : St w0 M Z0 L φ w)
    (hg : Region.wanted ⟨d, .makeSlice t x y, ty, pos, aft, gd⟩ (yielded ops a.tmps) = true)
    (hd : (!dr || soleB ops ((k, ⟨d, .makeSlice t x y, ty, pos, aft, gd⟩) :: rest) k ⟨d, .makeSlice t x y, ty, pos, aft, gd⟩) = true)
    (hx : a.eval x = .int .i64 n) (hy : a.eval y = .int .i64 n) (hn : n * sz ≤ 16777216) (hn2 : by_ * n ≤ 281474976710656)
    (h : ∀ b w', St w0 M Z0 (blk b (List.replicate n zs).flatten e :: L) φ w' → wpT P ops Q dr fu (St w0 M Z0 (blk b (List.replicate n zs).flatten e :: L) φ) rest (a.put d (.slice (some ⟨b, 0, none⟩) n n)) w') :
    wpT P ops Q dr (fu + 1) (St w0 M Z0 L φ) ((k, ⟨d, .makeSlice t x y, ty, pos, aft, gd⟩) :: rest) a w := by
  obtain ⟨ht, i, z, hi, hiz, hsize, hby, hzs, hsz⟩ := hp.out
  have hzz := hz.out
  unfold zeroB at hzz
  simp only [hi, hiz, Option.some.injEq] at hzz
  have hlen : zs.length = sz := by rw [← hzz, Array.length_toList, hzs]
  have hr := run_makeSlice (P := P) w t e i z ht hi hiz .i64 .i64 (n : Int) (n : Int) (by omega) (by omega) (by rw [hsize, Int.toNat_natCast]; exact hn) (by rw [hby, ← Int.natCast_mul]; have h' := hn2; generalize by_ * n = q at h' ⊢; omega) (by
    have : n ≤ n * sz := Nat.le_mul_of_pos_right n hsz
    omega)
  have hcs : madeCells z.cells (n * i.size) = ((List.replicate n zs).flatten).toArray := by
    apply Array.toList_inj.1
    rw [← made_eq, hlen, hsize, ← hzz]
  have hs := hw.alloc ((List.replicate n zs).flatten) e
  refine T_go hd hg (v := .slice (some ⟨w.heap.size, 0, none⟩) n n) (w' := w.alloc (.cells ((List.replicate n zs).flatten).toArray e (0, 0))) ?_ (fun _ _ h => h.tail) hs (h _ _ hs)
  simp only [Int.toNat_natCast, hcs] at hr
  simp only [execOp, hx, hy, Sem.run_bind, hr, Result.andThen_ok, Sem.run_pure]
end
end Go.Dk

/-! Sizes and equality of terms. -/
namespace Go.Dk
open Go
mutual
def T.size : T → Nat
  | .mk _ _ kids => 1 + T.sizeL kids
def T.sizeL : List T → Nat
  | [] => 0
  | t :: ts => T.size t + T.sizeL ts
end
theorem T.size_eq (t : T) : t.size = 1 + T.sizeL t.kids := by cases t; rfl
theorem T.sizeL_len : ∀ ts : List T, ts.length ≤ T.sizeL ts
  | [] => by simp [T.sizeL]
  | t :: ts => by have := T.sizeL_len ts; have := T.size_eq t; simp only [T.sizeL, List.length_cons]; omega
theorem T.sizeL_mem {t : T} : ∀ {ts : List T}, t ∈ ts → T.size t ≤ T.sizeL ts
  | u :: us, h => by
    simp only [T.sizeL]
    rcases List.mem_cons.1 h with rfl | h
    · omega
    · have := T.sizeL_mem h; omega
theorem T.sizeL_drop (i : Nat) : ∀ ts : List T, T.sizeL (ts.drop i) ≤ T.sizeL ts := by
  induction i with
  | zero => intro ts; simp
  | succ i ih =>
    intro ts
    cases ts with
    | nil => simp
    | cons t ts => have := ih ts; simp only [List.drop_succ_cons, T.sizeL]; omega
theorem HT.sizeL_kid {t u : HT} (h : u ∈ t.kids) : 1 + T.sizeL u.er.kids ≤ T.sizeL t.er.kids := by
  rw [← T.size_eq]
  exact T.sizeL_mem (by rw [HT.er_kids]; exact List.mem_map_of_mem h)
theorem HT.er_drop {t u : HT} {i : Nat} (hu : t.kids[i]? = some u) : t.er.kids.drop i = u.er :: t.er.kids.drop (i + 1) := by
  have hlt : i < t.kids.length := by
    rcases Nat.lt_or_ge i t.kids.length with h' | h'
    · exact h'
    · rw [List.getElem?_eq_none h'] at hu; cases hu
  rw [HT.er_kids, List.drop_eq_getElem_cons (by simpa using hlt)]
  congr 1
  rw [List.getElem_map]
  rw [List.getElem?_eq_getElem hlt] at hu
  rw [Option.some.inj hu]
theorem HT.er_eq (t : HT) : t.er = .mk t.k t.n (t.kids.map HT.er) := by cases t; simp [HT.er, HT.k, HT.n, HT.kids, HT.erL_eq]
theorem HT.er_len (t : HT) : t.er.kids.length = t.kids.length := by simp [HT.er_kids]
mutual
def T.beq : T → T → Bool
  | .mk k n ts, .mk l m us => decide (k = l) && (decide (n = m) && T.beqL ts us)
def T.beqL : List T → List T → Bool
  | [], [] => true
  | t :: ts, u :: us => T.beq t u && T.beqL ts us
  | _, _ => false
end
mutual
theorem T.beq_iff : ∀ t u : T, T.beq t u = true ↔ t = u
  | .mk k n ts, .mk l m us => by simp [T.beq, T.beqL_iff ts us]
theorem T.beqL_iff : ∀ ts us : List T, T.beqL ts us = true ↔ ts = us
  | [], [] => by simp [T.beqL]
  | [], u :: us => by simp [T.beqL]
  | t :: ts, [] => by simp [T.beqL]
  | t :: ts, u :: us => by simp [T.beqL, T.beq_iff t u, T.beqL_iff ts us]
end
theorem T.beq_eq (t u : T) : T.beq t u = (decide (t.k = u.k) && (decide (t.n = u.n) && T.beqL t.kids u.kids)) := by cases t; cases u; rfl
theorem T.beq_refl (t : T) : T.beq t t = true := (T.beq_iff t t).2 rfl
theorem T.beqL_refl (t : List T) : T.beqL t t = true := (T.beqL_iff t t).2 rfl
end Go.Dk
