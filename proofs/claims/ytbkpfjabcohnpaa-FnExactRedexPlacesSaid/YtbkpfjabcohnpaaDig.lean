/- A tree of the call's own is taken apart into its row and its operands' trees. No program in sight. -/
import Derived.Test.YtbkpfjabcohnpaaTree
set_option linter.unusedVariables false
set_option linter.unusedSimpArgs false
namespace Go.Dk
open Go
section
variable {w0 w w' : World} {M Z0 : Zone} {L : List Res} {φ : Fact} {r r1 r2 : Res}
/-- One resource is seen as two. -/
theorem St.cut (h : St w0 M Z0 (r :: L) φ w) (hl1 : r1.Local) (hl2 : r2.Local) (hf1 : ∀ b, r1.foot b → r.foot b) (hf2 : ∀ b, r2.foot b → r.foot b) (ho1 : r1.own w) (ho2 : r2.own w) (hd0 : ∀ b, r1.foot b → ¬ r2.foot b) : St w0 M Z0 (r1 :: r2 :: L) φ w := by
  have hd := h.dis
  rw [List.pairwise_cons] at hd
  refine ⟨h.ext, ?_, ?_, ?_, ?_, h.stab, ?_⟩
  · intro x hx; rcases List.mem_cons.1 hx with rfl | hx
    · exact ho1
    · rcases List.mem_cons.1 hx with rfl | hx
      · exact ho2
      · exact h.own x (by simp [hx])
  · intro x hx; rcases List.mem_cons.1 hx with rfl | hx
    · exact hl1
    · rcases List.mem_cons.1 hx with rfl | hx
      · exact hl2
      · exact h.loc x (by simp [hx])
  · intro x hx b hb; rcases List.mem_cons.1 hx with rfl | hx
    · exact h.key r (by simp) b (hf1 b hb)
    · rcases List.mem_cons.1 hx with rfl | hx
      · exact h.key r (by simp) b (hf2 b hb)
      · exact h.key x (by simp [hx]) b hb
  · refine List.Pairwise.cons (fun x hx b hb hb' => ?_) (List.Pairwise.cons (fun x hx b hb hb' => hd.1 x hx b (hf2 b hb) hb') hd.2)
    rcases List.mem_cons.1 hx with rfl | hx
    · exact hd0 b hb hb'
    · exact hd.1 x hx b (hf1 b hb) hb'
  · refine h.stab _ _ w w (fun b hz _ => ⟨⟨hz.1, fun x hx hb => ?_⟩, rfl⟩) h.per
    rcases List.mem_cons.1 hx with rfl | hx
    · exact hz.2 r (by simp) (hf1 b hb)
    · rcases List.mem_cons.1 hx with rfl | hx
      · exact hz.2 r (by simp) (hf2 b hb)
      · exact hz.2 x (by simp [hx]) hb
end
theorem RdL_cells {Z : Zone} {w : World} {b : Nat} : ∀ (ts : List HT) (off : Nat), RdL Z w b off ts → ∀ j u, (flatT ts)[j]? = some u → w.cell? ⟨b, off + j, none⟩ = some u
  | [], off, _, j, u, hj => by simp [flatT_nil] at hj
  | t :: ts, off, h, j, u, hj => by
    simp only [RdL] at h
    rw [flatT_cons] at hj
    match j, hj with
    | 0, hj => simp only [List.getElem?_cons_zero, Option.some.injEq] at hj; subst hj; exact h.1.1
    | 1, hj => simp only [List.getElem?_cons_succ, List.getElem?_cons_zero, Option.some.injEq] at hj; subst hj; exact h.1.2.1
    | 2, hj => simp only [List.getElem?_cons_succ, List.getElem?_cons_zero, Option.some.injEq] at hj; subst hj; exact h.1.2.2
    | j + 3, hj =>
      have := RdL_cells ts (off + 3) h.2.2 j u (by simpa using hj)
      rwa [show off + (j + 3) = off + 3 + j by omega]
theorem RdL_rd {Z : Zone} {w : World} {b : Nat} : ∀ (ts : List HT) (off : Nat), RdL Z w b off ts → ∀ t ∈ ts, Rd Z w t
  | [], _, _, t, ht => by cases ht
  | x :: ts, off, h, t, ht => by
    simp only [RdL] at h
    rcases List.mem_cons.1 ht with rfl | ht
    · exact h.2.1
    · exact RdL_rd ts _ h.2.2 t ht
section
variable {w0 w w' : World} {M Z0 : Zone} {L : List Res} {φ : Fact}
/-- A tree's row, and the trees of its operands. -/
theorem St.dig {t : HT} (h : St w0 M Z0 (treeR t :: L) φ w) (hne : t.kids ≠ []) : ∃ b off cs T, t.a = some ⟨b, off, none⟩ ∧ (∀ j u, (flatT t.kids)[j]? = some u → cs[off + j]? = some u) ∧ St w0 M Z0 (blk b cs T :: kidsR t.kids :: L) φ w := by
  have ho : (treeR t).own w := h.own _ (by simp)
  obtain ⟨h1, h2, h3⟩ := ho
  cases t with
  | mk k n a cap kids =>
    simp only [HT.kids] at hne
    simp only [Rd] at h1
    obtain ⟨b, off, rfl, _, hl⟩ := h1.1.resolve_left hne
    cases kids with
    | nil => exact absurd rfl hne
    | cons x kids =>
      have hb : HT.blocks (.mk k n (some ⟨b, off, none⟩) cap (x :: kids)) = [b] ++ HT.blocksL (x :: kids) := by simp only [HT.blocks, HT.head]
      rw [hb] at h2 h3
      obtain ⟨cs, T, hc⟩ := h3 b (by simp)
      rw [List.nodup_append] at h2
      refine ⟨b, off, cs.toList, T, rfl, fun j u hj => ?_, ?_⟩
      · have := RdL_cells (x :: kids) off hl j u hj
        simpa [World.cell?, hc] using this
      · refine h.cut (blk_local _ _ _) (kidsR_local _) ?_ ?_ ?_ ?_ ?_
        · intro c hc'
          have hc' : c = b := hc'
          subst hc'
          show c ∈ HT.blocks _
          rw [hb]; simp
        · intro c hc'
          show c ∈ HT.blocks _
          rw [hb]; exact List.mem_append_right _ hc'
        · show w.heap[b]? = some (.cells cs.toList.toArray T (0, 0))
          rw [hc]
        · exact ⟨RdL_rd _ _ hl, h2.2.1, fun c hc' => h3 c (List.mem_append_right _ hc')⟩
        · intro c h4 h5
          have h4 : c = b := h4
          subst h4
          exact h2.2.2 c (by simp) c h5 rfl
/-- A block that holds a row of terms from a place on, with the terms' own trees, is the tree. -/
theorem St.plantAt {g off : Nat} {cs : List Value} {T : TypeId} {ts : List HT} (h : St w0 M Z0 (blk g cs T :: kidsR ts :: L) φ w) (k n : Int) (cap : Nat) (hl : ts.length ≤ cap) (hm : ts.length ≤ 9223372036854775807)
    (hc : ∀ (j : Nat) (u : Value), (flatT ts)[j]? = some u → cs[off + j]? = some u) : St w0 M Z0 (treeR (.mk k n (some ⟨g, off, none⟩) cap ts) :: L) φ w := by
  refine h.merge (treeR_local _) ?_ ?_
  · intro b hb
    simp only [treeR, HT.blocks, List.mem_append] at hb
    rcases hb with hb | hb
    · left; cases ts with
      | nil => simp [HT.head] at hb
      | cons t ts => simpa [HT.head, blk] using hb
    · exact .inr hb
  · intro h1 h2 hd
    simp only [blk] at h1 hd
    have hnd : g ∉ HT.blocksL ts := hd g rfl
    refine ⟨?_, ?_, ?_⟩
    · refine Rd_mk hl hm trivial (RdL_of_cells ts off (fun j u hj => ?_) h2.1)
      have hcj := hc j u hj
      simp [World.cell?, h1, hcj]
    · simp only [HT.blocks]
      rw [List.nodup_append]
      refine ⟨?_, h2.2.1, ?_⟩
      · cases ts <;> simp [HT.head]
      · intro a ha b hb hab
        subst hab
        cases ts with
        | nil => simp [HT.head] at ha
        | cons t ts =>
          simp only [HT.head, List.mem_singleton] at ha
          subst ha
          exact hnd hb
    · intro b hb
      simp only [HT.blocks, List.mem_append] at hb
      rcases hb with hb | hb
      · cases ts with
        | nil => simp [HT.head] at hb
        | cons t ts =>
          simp only [HT.head, List.mem_singleton] at hb
          subst hb
          exact ⟨_, _, h1⟩
      · exact h2.2.2 b hb
end
/-- One tree of a row is turned, the others stay. -/
theorem kids_mid {A B : List HT} {u u' : HT} {w w' : World} (h : (kidsR (A ++ u :: B)).own w) (hb : u'.blocks = u.blocks) (ho : (treeR u').own w') (hx : Ext (· ∈ u.blocks) w w') : (kidsR (A ++ u' :: B)).own w' := by
  obtain ⟨h1, h2, h3⟩ := h
  have e : ∀ x : HT, HT.blocksL (A ++ x :: B) = HT.blocksL A ++ (x.blocks ++ HT.blocksL B) := fun x => by rw [HT.blocksL_append]; rfl
  rw [e] at h2 h3
  have hA : ∀ b, b ∈ HT.blocksL A → b ∉ u.blocks := fun b h4 h5 => (List.nodup_append.1 h2).2.2 b h4 b (List.mem_append_left _ h5) rfl
  have hB : ∀ b, b ∈ HT.blocksL B → b ∉ u.blocks := fun b h4 h5 => (List.nodup_append.1 (List.nodup_append.1 h2).2.1).2.2 b h5 b h4 rfl
  have keep : ∀ x ∈ A ++ u :: B, (∀ b ∈ x.blocks, b ∉ u.blocks) → ∀ b ∈ x.blocks, w'.heap[b]? = w.heap[b]? := fun x hx' hn b hb' => hx.block b (Rd.zone x (h1 x hx') b hb').2 (hn b hb')
  refine ⟨?_, by rw [e, hb]; exact h2, ?_⟩
  · intro x hx'
    rcases List.mem_append.1 hx' with h4 | h4
    · exact Rd.frame x (h1 x (List.mem_append_left _ h4)) fun b hb' => ⟨trivial, keep x (List.mem_append_left _ h4) (fun b hb' => hA b (HT.mem_blocksL.2 ⟨x, h4, hb'⟩)) b hb'⟩
    · rcases List.mem_cons.1 h4 with rfl | h4
      · exact ho.1
      · have hm : x ∈ A ++ u :: B := List.mem_append_right _ (List.mem_cons_of_mem _ h4)
        exact Rd.frame x (h1 x hm) fun b hb' => ⟨trivial, keep x hm (fun b hb' => hB b (HT.mem_blocksL.2 ⟨x, h4, hb'⟩)) b hb'⟩
  · intro b hb'
    rw [e, hb] at hb'
    have hb'' := hb'
    simp only [List.mem_append] at hb'
    rcases hb' with h4 | h4 | h4
    · obtain ⟨x, hx1, hx2⟩ := HT.mem_blocksL.1 h4
      obtain ⟨cs, T, hc⟩ := h3 b hb''
      exact ⟨cs, T, (keep x (List.mem_append_left _ hx1) (fun b hb' => hA b (HT.mem_blocksL.2 ⟨x, hx1, hb'⟩)) b hx2).trans hc⟩
    · exact ho.2.2 b (by rw [hb]; exact h4)
    · obtain ⟨x, hx1, hx2⟩ := HT.mem_blocksL.1 h4
      obtain ⟨cs, T, hc⟩ := h3 b hb''
      exact ⟨cs, T, (keep x (List.mem_append_right _ (List.mem_cons_of_mem _ hx1)) (fun b hb' => hB b (HT.mem_blocksL.2 ⟨x, hx1, hb'⟩)) b hx2).trans hc⟩
theorem kids_at {A B : List HT} {u : HT} {w : World} (h : (kidsR (A ++ u :: B)).own w) : (treeR u).own w := by
  obtain ⟨h1, h2, h3⟩ := h
  rw [HT.blocksL_append] at h2 h3
  refine ⟨h1 u (by simp), ?_, fun b hb => h3 b (List.mem_append_right _ (List.mem_append_left _ hb))⟩
  exact (List.nodup_append.1 (List.nodup_append.1 h2).2.1).1
/-- Two cells of a row are written. -/
theorem flat_mark {A B : List HT} {u : HT} {k m : Int} {cs : List Value} {off : Nat} (hc : ∀ j v, (flatT (A ++ u :: B))[j]? = some v → cs[off + j]? = some v) :
    ∀ j v, (flatT (A ++ HT.mk k m u.a u.cap u.kids :: B))[j]? = some v → ((cs.set (off + A.length * 3) (.int .i64 k)).set (off + A.length * 3 + 1) (.int .i64 m))[off + j]? = some v := by
  intro j v hj
  have hlen : ∀ j < A.length * 3 + 3, off + j < cs.length := fun j hlt => by
    have hj : j < (flatT (A ++ u :: B)).length := by rw [flatT_length]; simp; omega
    have := hc j _ (List.getElem?_eq_getElem hj)
    exact (List.getElem?_eq_some_iff.1 this).1
  rw [flatT_append, flatT_cons] at hj
  have hc' := hc j
  rw [flatT_append, flatT_cons] at hc'
  rcases Nat.lt_or_ge j (A.length * 3) with h | h
  · rw [List.getElem?_append_left (by rw [flatT_length]; omega)] at hj hc'
    rw [List.getElem?_set_ne (by omega), List.getElem?_set_ne (by omega)]
    exact hc' v hj
  · obtain ⟨d, rfl⟩ : ∃ d, j = A.length * 3 + d := ⟨j - A.length * 3, by omega⟩
    rw [List.getElem?_append_right (by rw [flatT_length]; omega), flatT_length, show A.length * 3 + d - A.length * 3 = d by omega] at hj hc'
    match d, hj, hc' with
    | 0, hj, _ =>
      simp only [List.getElem?_cons_zero, Option.some.injEq] at hj
      subst hj
      rw [show off + (A.length * 3 + 0) = off + A.length * 3 by omega, List.getElem?_set_ne (by omega), List.getElem?_set_self (by have := hlen (A.length * 3) (by omega); omega)]
      rfl
    | 1, hj, _ =>
      simp only [List.getElem?_cons_succ, List.getElem?_cons_zero, Option.some.injEq] at hj
      subst hj
      rw [show off + (A.length * 3 + 1) = off + A.length * 3 + 1 by omega, List.getElem?_set_self (by rw [List.length_set]; have := hlen (A.length * 3 + 1) (by omega); omega)]
      rfl
    | d + 2, hj, hc' =>
      simp only [List.getElem?_cons_succ] at hj hc'
      rw [List.getElem?_set_ne (by omega), List.getElem?_set_ne (by omega)]
      exact hc' v hj
theorem St.mid {w0 w w' : World} {M Z0 : Zone} {L : List Res} {φ : Fact} (h : St w0 M Z0 L φ w) {n : Nat} {A B : List HT} {u u' : HT} (hn : L[n]? = some (kidsR (A ++ u :: B))) (hb : u'.blocks = u.blocks) (ho : (treeR u').own w') (hx : Ext (· ∈ u.blocks) w w') : St w0 M Z0 (L.set n (kidsR (A ++ u' :: B))) φ w' := by
  have hk := kids_mid (h.own _ (List.mem_of_getElem? hn)) hb ho hx
  have e : HT.blocksL (A ++ u' :: B) = HT.blocksL (A ++ u :: B) := by
    rw [HT.blocksL_append, HT.blocksL_append]
    simp only [HT.blocksL, hb]
  refine h.upd hn (hx.weak fun k _ hk => HT.mem_blocksL.2 ⟨u, by simp, hk⟩) (kidsR_local _) hk fun b hb' => ⟨.inl ?_, ?_⟩
  · have hb' : b ∈ HT.blocksL (A ++ u' :: B) := hb'
    show b ∈ HT.blocksL (A ++ u :: B)
    rwa [← e]
  · obtain ⟨x, h1, h2⟩ := HT.mem_blocksL.1 (show b ∈ HT.blocksL (A ++ u' :: B) from hb')
    exact (Rd.zone x (hk.1 x h1) b h2).2
theorem mark_own {k n k' n' : Int} {a : Option Addr} {cap : Nat} {us : List HT} {w : World} (h : (treeR (HT.mk k n a cap us)).own w) : (treeR (HT.mk k' n' a cap us)).own w := ⟨h.1.node k' n', h.2⟩
theorem mark_blocks (k n k' n' : Int) (a : Option Addr) (cap : Nat) (us : List HT) : HT.blocks (.mk k n a cap us) = HT.blocks (.mk k' n' a cap us) := rfl
/-- A row that has grown, with the terms' own trees, is a tree. -/
theorem St.plantRow {w0 w : World} {M Z0 : Zone} {L : List Res} {φ : Fact} {e n : Nat} {v : Value} {xs : List Value} {ts : List HT} (h : St w0 M Z0 (rowR e 3 v n xs :: kidsR ts :: L) φ w) (hx : xs = flatT ts) (hn : n = ts.length) (k m : Int) :
    ∃ a cap, v = .slice a ts.length cap ∧ St w0 M Z0 (treeR (.mk k m a cap ts) :: L) φ w := by
  subst hx hn
  have ho : w.ownsRow 0 e 3 v ts.length (flatT ts) := h.own _ (List.mem_cons_self ..)
  obtain ⟨h1, ⟨rfl, h0⟩ | ⟨g, cap, cur, rfl, hg, hc, hle, hmax, hsz, htk⟩⟩ := ho
  · obtain rfl : ts = [] := List.length_eq_zero_iff.1 h0
    refine ⟨none, 0, rfl, h.merge (treeR_local _) ?_ ?_⟩
    · intro b hb
      have hb : b ∈ HT.blocks (.mk k m none 0 []) := hb
      simp [HT.blocks, HT.head, HT.blocksL] at hb
    · intro _ _ _
      refine ⟨Rd_none, by simp [HT.blocks, HT.head, HT.blocksL], fun b hb => ?_⟩
      simp [HT.blocks, HT.head, HT.blocksL] at hb
  · have H := h.recast (r' := blk g cur.toList e) (blk_local _ _ _) (fun b hb => by
      have hb : b = g := hb
      subst hb; rfl) (fun _ => by show w.heap[g]? = _; rw [hc])
    refine ⟨_, cap, rfl, H.plant k m cap hle (Nat.le_trans hle (Nat.le_trans hmax (by decide))) fun j u hj => ?_⟩
    rw [← htk] at hj
    rw [List.getElem?_take] at hj
    split at hj
    · exact hj
    · cases hj
end Go.Dk
