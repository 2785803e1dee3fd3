/- The abstract run is sound: a memory of some objects alone, and calls. No program in sight. -/
import Derived.Test.YthjbllfcelkajaaOpD
set_option linter.unusedVariables false
set_option linter.unusedSimpArgs false
namespace Go.Ab
open Go Go.Dk

/-! Numbers of objects. -/
theorem hasN_iff {j : Nat} : ∀ {l : List Nat}, hasN j l = true ↔ j ∈ l
  | [] => by simp [hasN]
  | i :: l => by simp [hasN, hasN_iff (l := l)]
theorem nodupB_iff : ∀ {l : List Nat}, nodupB l = true → l.Nodup
  | [], _ => List.nodup_nil
  | i :: l, h => by
    simp only [nodupB, Bool.and_eq_true, Bool.not_eq_true'] at h
    refine List.nodup_cons.2 ⟨fun hm => ?_, nodupB_iff h.2⟩
    rw [hasN_iff.2 hm] at h; exact absurd h.1 (by simp)
theorem okJs_out {js : List Nat} {n : Nat} (h : okJs js n = true) : js.Nodup ∧ ∀ j ∈ js, j < n := by
  simp only [okJs, Bool.and_eq_true, List.all_eq_true, Nat.blt_eq] at h
  exact ⟨nodupB_iff h.1, h.2⟩
theorem idx_some : ∀ {js : List Nat} {j i : Nat}, idx j js = some i → js[i]? = some j
  | [], j, i, h => by simp [idx] at h
  | a :: js, j, i, h => by
    simp only [idx] at h
    cases hb : Nat.beq j a with
    | true => simp only [hb, cond_true, Option.some.injEq] at h; subst h; simp only [Nat.beq_eq] at hb; subst hb; rfl
    | false =>
      simp only [hb, cond_false, Option.map_eq_some_iff] at h
      obtain ⟨i', hi, rfl⟩ := h
      simpa using idx_some hi
theorem idxs_some : ∀ {js l l' : List Nat}, idxs js l = some l' → All2 (fun j i => js[i]? = some j) l l'
  | js, [], l', h => by simp only [idxs, Option.some.injEq] at h; subst h; exact All2.nil
  | js, j :: l, l', h => by
    simp only [idxs] at h
    cases hi : idx j js with
    | none => simp [hi] at h
    | some i =>
      simp only [hi, Option.bind_some, Option.map_eq_some_iff] at h
      obtain ⟨l'', hl, rfl⟩ := h
      exact All2.cons (idx_some hi) (idxs_some hl)
def sel0 (js : List Nat) (h : List AObj) : List AObj := js.map fun j => h.getD j .dead
def selG (js : List Nat) (G : List GO) : List GO := js.map fun j => G.getD j .gone
def kill : List Nat → List AObj → List AObj
  | [], h => h
  | j :: js, h => kill js (h.set j .dead)
def killG : List Nat → List GO → List GO
  | [], G => G
  | j :: js, G => killG js (G.set j .gone)
theorem resO_ren (js : List Nat) (o : AObj) (g : GO) : resO (renO js o) g = resO o g := by cases o <;> cases g <;> rfl
theorem resL_ren (js : List Nat) : ∀ (h : List AObj) (G : List GO), resL (h.map (renO js)) G = resL h G
  | [], _ => rfl
  | o :: h, [] => rfl
  | o :: h, g :: G => by simp only [List.map_cons, resL, resO_ren, resL_ren js h G]
theorem selH_eq (js : List Nat) (h : List AObj) : selH js h = (sel0 js h).map (renO js) := by simp [selH, sel0]
theorem getD_set_ne {α : Type} {l : List α} {i j : Nat} {a d : α} (h : i ≠ j) : (l.set i a).getD j d = l.getD j d := by simp [List.getD, List.getElem?_set_ne h]
theorem sel0_set {js : List Nat} {h : List AObj} {j : Nat} {o : AObj} (hj : j ∉ js) : sel0 js (h.set j o) = sel0 js h := by
  refine List.map_congr_left fun i hi => getD_set_ne fun e => hj (e ▸ hi)
theorem selG_set {js : List Nat} {G : List GO} {j : Nat} {g : GO} (hj : j ∉ js) : selG js (G.set j g) = selG js G := by
  refine List.map_congr_left fun i hi => getD_set_ne fun e => hj (e ▸ hi)
theorem resL_sel : ∀ (js : List Nat) (h : List AObj) (G : List GO), js.Nodup → (∀ j ∈ js, j < h.length ∧ j < G.length) → (resL h G).Perm (resL (sel0 js h) (selG js G) ++ resL (kill js h) (killG js G))
  | [], h, G, _, _ => List.Perm.refl _
  | j :: js, h, G, hn, hl => by
    rw [List.nodup_cons] at hn
    obtain ⟨h1, h2⟩ := hl j (List.mem_cons_self ..)
    have ho : h[j]? = some (h.getD j .dead) := by simp [List.getD, List.getElem?_eq_getElem h1]
    have hg : G[j]? = some (G.getD j .gone) := by simp [List.getD, List.getElem?_eq_getElem h2]
    refine (resL_out h G j ho hg).trans ?_
    have ih := resL_sel js (h.set j .dead) (G.set j .gone) hn.2 (fun i hi => by simpa using hl i (List.mem_cons_of_mem _ hi))
    rw [sel0_set hn.1, selG_set hn.1] at ih
    have := ih.append_left (resO (h.getD j .dead) (G.getD j .gone))
    rw [← List.append_assoc] at this
    exact this

section
variable {P : Program} {w0 w w' : World} {M Z0 : Zone} {b : Nat} {G : List GO} {s : AS} {tv : List Value} {r : List V1 × List AObj} {Z : Zone}
theorem selG_get {js : List Nat} {i j : Nat} {g : GO} (hi : js[i]? = some j) (hg : G[j]? = some g) : (selG js G)[i]? = some g := by
  simp [selG, hi, List.getD, hg]
theorem RS.ren {js : List Nat} {v : SV} {X : Value} (h : RS G Z w v X) : RS (selG js G) Z w (renS js v) X := by
  cases v with
  | own j v =>
    show RS _ _ _ (match idx j js with | some i => SV.own i v | none => .any) X
    split
    · rename_i i hi
      have hi := idx_some hi
      rcases h with h | ⟨ver, val, sz, xs, hg, hh⟩
      · exact .inl (selG_get hi h)
      · exact .inr ⟨ver, val, sz, xs, selG_get hi hg, hh⟩
    · trivial
  | ptr j o =>
    show RS _ _ _ (match idx j js with | some i => SV.ptr i o | none => .any) X
    split
    · rename_i i hi
      have hi := idx_some hi
      rcases h with h | ⟨bb, T, vs, hg, hh⟩
      · exact .inl (selG_get hi h)
      · exact .inr ⟨bb, T, vs, selG_get hi hg, hh⟩
    · trivial
  | op j v i o =>
    show RS _ _ _ (match idx j js with | some j => SV.op j v i o | none => .any) X
    split
    · rename_i i' hi
      have hi := idx_some hi
      rcases h with h | ⟨ver, val, sz, xs, hg, hh⟩
      · exact .inl (selG_get hi h)
      · exact .inr ⟨ver, val, sz, xs, selG_get hi hg, hh⟩
    · trivial
  | fn f l =>
    show RS _ _ _ (match idxs js l with | some l => SV.fn f l | none => .any) X
    split
    · rename_i l' hl
      have hl := idxs_some hl
      obtain ⟨bs, hX, hh⟩ := h
      refine ⟨bs, hX, by rw [← hl.1, hh.1], fun i j bb hj hb => ?_⟩
      obtain ⟨j0, hj0, hji⟩ := hl.get' hj
      have := hh.2 i j0 bb hj0 hb
      rcases this with h1 | ⟨T, vs, h1⟩
      · exact .inl (selG_get hji h1)
      · exact .inr ⟨T, vs, selG_get hji h1⟩
    · trivial
  | _ => exact h
theorem All2.map_left {α α' β : Type} {R : α → β → Prop} {S : α' → β → Prop} {f : α → α'} {l : List α} {m : List β} (h : All2 R l m) (hf : ∀ a b, R a b → S (f a) b) : All2 S (l.map f) m := by
  refine ⟨by simp [h.1], fun i a b ha hb => ?_⟩
  rw [List.getElem?_map] at ha
  obtain ⟨a', ha', rfl⟩ := Option.map_eq_some_iff.1 ha
  exact hf _ _ (h.2 i a' b ha' hb)
theorem OneR.ren {js : List Nat} {v : SV} {X : Value} (h : OneR G Z w v X) : OneR (selG js G) Z w (renS js v) X := ⟨h.1.ren, h.2⟩
theorem RV1.ren {js : List Nat} {v : V1} {X : Value} (h : RV1 G Z w v X) : RV1 (selG js G) Z w (renV js v) X := by
  cases v with
  | one s => exact ⟨h.1.ren, fun _ => h.2 (by rintro rfl; simp_all [renS])⟩
  | agg l => obtain ⟨xs, hX, hh⟩ := h; exact ⟨xs, hX, hh.map_left fun _ _ q => q.ren⟩
theorem RV.ren {js : List Nat} {v : AV} {X : Value} (h : RV G Z w v X) : RV (selG js G) Z w (renA js v) X := by
  cases v with
  | v v => exact RV1.ren h
  | tup l => obtain ⟨xs, hX, hh⟩ := h; exact ⟨xs, hX, hh.map_left fun _ _ q => q.ren⟩
theorem RO.ren {js : List Nat} {o : AObj} {g : GO} (h : RO G Z w o g) : RO (selG js G) Z w (renO js o) g := by
  cases o with
  | cells l => cases g with
    | cells bb T vs => exact All2.map_left h fun _ _ q => q.ren
    | _ => exact h
  | arr e D ver fz => cases g <;> exact h
  | dead => cases g <;> exact h
theorem sel_RO {js : List Nat} {h : List AObj} (hh : All2 (RO G Z w) h G) (hl : ∀ j ∈ js, j < h.length) : All2 (RO (selG js G) Z w) (selH js h) (selG js G) := by
  refine ⟨by simp [selH, selG], fun i o g ho hg => ?_⟩
  simp only [selH, List.getElem?_map] at ho
  obtain ⟨j, hj, rfl⟩ := Option.map_eq_some_iff.1 ho
  simp only [selG, List.getElem?_map, hj, Option.map_some, Option.some.injEq] at hg
  subst hg
  have hjl := hl j (List.mem_of_getElem? hj)
  have h1 : h[j]? = some (h.getD j .dead) := by simp [List.getD, List.getElem?_eq_getElem hjl]
  obtain ⟨g, hg, hr⟩ := hh.get h1
  have : G.getD j .gone = g := by simp [List.getD, hg]
  rw [this]; exact hr.ren
/-- The memory of the objects js alone. -/
theorem InvG.sel (hI : InvG w0 M Z0 b G s tv w) {js : List Nat} (hjs : okJs js s.heap.length = true) :
    InvG w0 M Z0 js.length (selG js G) ⟨s.tmps.map (renA js), selH js s.heap⟩ tv w := by
  obtain ⟨hn, hl⟩ := okJs_out hjs
  have hlG : ∀ j ∈ js, j < s.heap.length ∧ j < G.length := fun j hj => ⟨hl j hj, by rw [← hI.len]; exact hl j hj⟩
  have hp := resL_sel js s.heap G hn hlG
  have hs := (hI.st.perm hp).sub (List.sublist_append_left _ _)
  have heq : resL (selH js s.heap) (selG js G) = resL (sel0 js s.heap) (selG js G) := by rw [selH_eq, resL_ren]
  rw [← heq] at hs
  refine ⟨hs.weak (relF_stable _ _ _) fun hh => ⟨hh.1.map_left fun _ _ q => q.ren, sel_RO hh.2 hl⟩, fun j hj hl' => ?_, hI.mz⟩
  simp [selG] at hl'; omega

/-- From the objects that were handed in to what has become of them. -/
def UpW (G G' : List GO) : Prop := ∀ (j : Nat),
  (G[j]? = some .gone → G'[j]? = some .gone) ∧
  (∀ b T vs, G[j]? = some (.cells b T vs) → G'[j]? = some .gone ∨ ∃ T' vs', G'[j]? = some (.cells b T' vs')) ∧
  (∀ ver val sz xs, G[j]? = some (.arr ver val sz xs) → G'[j]? = some .gone ∨ ∃ ver' val' xs', G'[j]? = some (.arr ver' val' sz xs'))
theorem Up.weak {G G' : List GO} (h : Up G G') : UpW G G' := fun j => ⟨(h j).1, (h j).2.1, fun ver val sz xs hg => ((h j).2.2 ver val sz xs hg).imp id fun ⟨a, c, d, e, _⟩ => ⟨a, c, d, e⟩⟩
theorem UpW.refl (G : List GO) : UpW G G := (Up.refl G).weak
theorem UpW.trans {G G' G'' : List GO} (h : UpW G G') (k : UpW G' G'') : UpW G G'' := by
  intro j
  refine ⟨fun hh => (k j).1 ((h j).1 hh), fun b T vs hh => ?_, fun ver val sz xs hh => ?_⟩
  · rcases (h j).2.1 b T vs hh with h1 | ⟨T', vs', h1⟩
    · exact .inl ((k j).1 h1)
    · exact (k j).2.1 b T' vs' h1
  · rcases (h j).2.2 ver val sz xs hh with h1 | ⟨ver', val', xs', h1⟩
    · exact .inl ((k j).1 h1)
    · exact (k j).2.2 ver' val' sz xs' h1
/-! Calls: a call is handed some of the objects, and turns nothing else. -/
def CallsOK (P : Program) (F : Callee) : Prop :=
  ∀ f fn args h out, P.funcs[f]? = some fn → fn.body.isSome = true → F f args h = some out →
    ∀ w0 M Z0 G vals w, InvG w0 M Z0 h.length G ⟨args.map .v, h⟩ vals w →
      Calls P f vals.toArray w fun e w' => ∃ xs G', e = .returned (if h : xs.toArray.size = 1 then xs.toArray[0] else .tuple xs.toArray) ∧ InvG w0 M Z0 out.2.length G' ⟨out.1.map .v, out.2⟩ xs w' ∧ UpW G G'
def footL (L : List Res) : Zone := fun k => ∃ q ∈ L, q.foot k
/-- What is handed to the call. -/
theorem InvG.pass (hI : InvG w0 M Z0 b G s tv w) {js : List Nat} (hjs : okJs js s.heap.length = true) {vs : List V1} {xs : List Value} (hv : All2 (RV1 G (zn w0 Z0 s G) w) vs xs) :
    InvG w (footL (resL (sel0 js s.heap) (selG js G))) (fun k => zn w0 Z0 s G k ∨ footL (resL (sel0 js s.heap) (selG js G)) k) js.length (selG js G) ⟨(vs.map (renV js)).map .v, selH js s.heap⟩ xs w := by
  obtain ⟨hn, hl⟩ := okJs_out hjs
  have hlG : ∀ j ∈ js, j < s.heap.length ∧ j < G.length := fun j hj => ⟨hl j hj, by rw [← hI.len]; exact hl j hj⟩
  have hp := resL_sel js s.heap G hn hlG
  have hs := (hI.st.perm hp).sub (List.sublist_append_left _ _)
  have heq : resL (selH js s.heap) (selG js G) = resL (sel0 js s.heap) (selG js G) := by rw [selH_eq, resL_ren]
  have hk : ∀ k, zn w0 Z0 s G k → zone w (fun k => zn w0 Z0 s G k ∨ footL (resL (sel0 js s.heap) (selG js G)) k) (resL (selH js s.heap) (selG js G)) k := fun k hk =>
    ⟨.inl (.inl hk), fun q hq => hk.2 q (hp.mem_iff.2 (List.mem_append.2 (.inl (heq ▸ hq))))⟩
  refine ⟨⟨Ext.refl _ _, ?_, ?_, ?_, ?_, relF_stable _ _ _, ?_⟩, ?_, fun k hk => .inr hk⟩
  · rw [heq]; exact hs.own
  · rw [heq]; exact hs.loc
  · rw [heq]; exact fun q hq k hf => ⟨.inl ⟨q, hq, hf⟩, (hs.key q hq k hf).2⟩
  · rw [heq]; exact hs.dis
  · refine ⟨(hv.map_left fun _ _ q => (RV1.ren q).stable (keeps_le hk)).map_left fun _ _ q => q, ?_⟩
    exact (sel_RO hI.st.per.2 hl).mono fun _ _ _ q => q.stable (keeps_le hk)
  · intro j hj hl'
    simp [selG] at hl'; omega
/-- What comes back, beside what was not handed in. -/
theorem frame {L L1 L2 Lc : List Res} {φ φc : Fact} (hI : St w0 M Z0 L φ w) (hm : ∀ k, M k → Z0 k) (hp : L.Perm (L1 ++ L2)) (hc : St w (footL L1) (fun k => zone w0 Z0 L k ∨ footL L1 k) Lc φc w') :
    St w0 M Z0 (Lc ++ L2) (andF φc φ) w' ∧ Keeps (zone w0 Z0 L) (zone w0 Z0 (Lc ++ L2)) w w' := by
  have hP := hI.perm hp
  have hd := List.pairwise_append.1 hP.dis
  have hx2 : ∀ q ∈ L2, ∀ k, q.foot k → ¬ footL L1 k := fun q hq k hk ⟨p, hp', hf⟩ => hd.2.2 p hp' q hq k hf hk
  have key1 : ∀ q ∈ Lc, ∀ k, q.foot k → (M k ∨ w0.heap.size ≤ k) := by
    intro q hq k hk
    rcases (hc.key q hq k hk).1 with ⟨p, hp', hf⟩ | h
    · exact (hP.key p (List.mem_append.2 (.inl hp')) k hf).1
    · exact .inr (Nat.le_trans hI.ext.size h)
  have hkz : Keeps (zone w0 Z0 L) (zone w0 Z0 (Lc ++ L2)) w w' := by
    intro k hz hl
    have hn1 : ¬ footL L1 k := fun ⟨p, hp', hf⟩ => hz.2 p (hp.mem_iff.2 (List.mem_append.2 (.inl hp'))) hf
    refine ⟨⟨hz.1, fun q hq hf => ?_⟩, hc.ext.block k hl hn1⟩
    rcases List.mem_append.1 hq with hq | hq
    · rcases (hc.key q hq k hf).1 with h | h
      · exact hn1 h
      · omega
    · exact hz.2 q (hp.mem_iff.2 (List.mem_append.2 (.inr hq))) hf
  refine ⟨⟨?_, ?_, ?_, ?_, ?_, hc.stab.and hI.stab, ?_, ?_⟩, hkz⟩
  · refine ⟨hc.ext.os.trans hI.ext.os, hc.ext.tape.trans hI.ext.tape, hc.ext.output.trans hI.ext.output, Nat.le_trans hI.ext.size hc.ext.size, fun k hk hmk => ?_⟩
    rw [hc.ext.block k (Nat.lt_of_lt_of_le hk hI.ext.size) ?_, hI.ext.block k hk hmk]
    rintro ⟨p, hp', hf⟩
    rcases (hP.key p (List.mem_append.2 (.inl hp')) k hf).1 with h | h
    · exact hmk h
    · omega
  · intro q hq
    rcases List.mem_append.1 hq with hq | hq
    · exact hc.own q hq
    · have hq' := List.mem_append.2 (Or.inr (a := q ∈ L1) hq)
      exact hP.loc q hq' w w' (fun k hk => hc.ext.block k (hP.key q hq' k hk).2 (hx2 q hq k hk)) (hP.own q hq')
  · intro q hq
    rcases List.mem_append.1 hq with hq | hq
    · exact hc.loc q hq
    · exact hP.loc q (List.mem_append.2 (.inr hq))
  · intro q hq k hk
    rcases List.mem_append.1 hq with hq | hq
    · exact ⟨key1 q hq k hk, (hc.key q hq k hk).2⟩
    · have := hP.key q (List.mem_append.2 (.inr hq)) k hk
      exact ⟨this.1, Nat.lt_of_lt_of_le this.2 hc.ext.size⟩
  · refine List.pairwise_append.2 ⟨hc.dis, hd.2.1, fun q hq p hp' k hk hk' => ?_⟩
    rcases (hc.key q hq k hk).1 with h | h
    · exact hx2 p hp' k hk' h
    · have := (hP.key p (List.mem_append.2 (.inr hp')) k hk').2; omega
  · refine hc.stab _ _ w' w' (fun k hz _ => ⟨⟨?_, fun q hq hf => ?_⟩, rfl⟩) hc.per
    · rcases hz.1 with (h | ⟨p, hp', hf⟩) | h
      · exact h.1
      · exact (hP.key p (List.mem_append.2 (.inl hp')) k hf).1.imp (hm k) id
      · exact .inr (Nat.le_trans hI.ext.size h)
    · rcases List.mem_append.1 hq with hq | hq
      · exact hz.2 q hq hf
      · rcases hz.1 with (h | h) | h
        · exact h.2 q (hp.mem_iff.2 (List.mem_append.2 (.inr hq))) hf
        · exact hx2 q hq k hf h
        · have := (hP.key q (List.mem_append.2 (.inr hq)) k hf).2; omega
  · exact hI.stab _ _ w w' hkz hI.per
end
end Go.Ab
