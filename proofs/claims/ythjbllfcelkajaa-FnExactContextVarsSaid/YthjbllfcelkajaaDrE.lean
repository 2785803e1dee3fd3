/- Drawn regions are sound; so the abstract run is. No program in sight. -/
import Derived.Test.YthjbllfcelkajaaDrD
set_option linter.unusedVariables false
set_option linter.unusedSimpArgs false
namespace Go.Ab
open Go Go.Dk

section
variable {P : Program} {F : Callee} {D : Dec} {w0 : World} {M Z0 : Zone} {ops : List Oper} {an : List (List Nat)} {s0 : AS} {es : List Eff} {b0 : Nat} {G0 : List GO} {Q : Exit → Act → World → Prop}
theorem all_listed (hd : drawB ops an ops 0 = true) {listed : Array Bool} (hs : listed.size = ops.length) (hr : Region.ready .any ops.toArray listed = []) : ∀ i, i < ops.length → listed.getD i false = true := by
  intro i
  induction i using Nat.strongRecOn with
  | ind i ih =>
    intro hi
    cases hL : listed.getD i false with
    | true => rfl
    | false =>
      exfalso
      have hmem : i ∈ Region.ready .any ops.toArray listed := by
        rw [mem_ready]
        refine ⟨?_, ops[i], by simp [hi], fun e he hb => ?_⟩
        · have hlt : i < listed.size := by omega
          simp only [Array.getD_eq_getD_getElem?, Array.getElem?_eq_getElem hlt, Option.getD_some] at hL ⊢; exact hL
        · have hst := drawB_out hd i ops[i] (List.getElem?_eq_getElem hi)
          have := (edgesB_out hst.2.1).1 e he hb
          rw [Nat.zero_add] at this
          exact ih e.on this (by omega)
      rw [hr] at hmem; cases hmem
theorem draw_any (hF : CallsOK P F) (hib : ∀ f, D.ib f = true → extIB P f) (hd : drawB ops an ops 0 = true) (ht : Trace P F D ops an b0 s0 es) (hroom : b0 + room P D ops ≤ s0.heap.length)
    (hQ : ∀ (L : Nat → Bool) G tv w, (∀ i, i < ops.length → L i = true) → Here P D w0 M Z0 ops an s0 es G0 L G tv w → Q .normal ⟨tv.toArray, []⟩ w) :
    ∀ (fuel : Nat) (listed : Array Bool) G tv w, listed.size = ops.length → listed.toList.count false ≤ fuel → Here P D w0 M Z0 ops an s0 es G0 (fun q => listed.getD q false) G tv w →
      wpAny P .any ops.toArray Q fuel listed ⟨tv.toArray, []⟩ w
  | 0, listed, G, tv, w, hs, hc, hh => by
    have hall : ∀ i, i < ops.length → listed.getD i false = true := by
      intro i hi
      have hlt : i < listed.size := by omega
      have : false ∉ listed.toList := List.count_eq_zero.1 (by omega)
      simp only [Array.getD_eq_getD_getElem?, Array.getElem?_eq_getElem hlt, Option.getD_some]
      cases hb : listed[i] with
      | true => rfl
      | false => exact absurd (by rw [← hb]; simp) this
    refine ⟨?_, hQ _ G tv w hall hh⟩
    cases hr : Region.ready .any ops.toArray listed with
    | nil => rfl
    | cons i l =>
      have hm : i ∈ Region.ready .any ops.toArray listed := by rw [hr]; exact List.mem_cons_self ..
      obtain ⟨h1, o, ho, _⟩ := mem_ready.1 hm
      have hi : i < ops.length := by
        have := (Array.getElem?_eq_some_iff.1 ho).1; simpa using this
      have h2 := hall i hi
      have hlt : i < listed.size := by omega
      simp only [Array.getD_eq_getD_getElem?, Array.getElem?_eq_getElem hlt, Option.getD_some] at h1 h2
      rw [h1] at h2; cases h2
  | fuel + 1, listed, G, tv, w, hs, hc, hh => by
    refine ⟨fun hr => hQ _ G tv w (all_listed hd hs hr) hh, fun i hi => ?_⟩
    obtain ⟨h1, o, ho, h2⟩ := mem_ready.1 hi
    have hil : i < ops.length := by have := (Array.getElem?_eq_some_iff.1 ho).1; simpa using this
    have hlt : i < listed.size := by omega
    have hLi : listed.getD i false = false := by
      simp only [Array.getD_eq_getD_getElem?, Array.getElem?_eq_getElem hlt, Option.getD_some] at h1 ⊢; exact h1
    refine wpOp_mono (fun a' w' hh' => ?_) (hh.step (Q := Q) hF hib hd ht hroom (i := i) (o := o) (by simpa using ho) hLi h2)
    obtain ⟨G', tv', ha, hh'⟩ := hh'
    subst ha
    refine draw_any hF hib hd ht hroom hQ fuel _ G' tv' w' (by simpa using hs) ?_ ?_
    · have hlt' : i < listed.toList.length := by simpa using hlt
      have h3 : listed[i] = false := by
        simp only [Array.getD_eq_getD_getElem?, Array.getElem?_eq_getElem hlt, Option.getD_some] at hLi; exact hLi
      rw [Array.toList_setIfInBounds, List.count_set hlt']
      have h4 : listed.toList[i] = false := by simpa using h3
      rw [h4]
      show List.count false listed.toList - 1 + 0 ≤ fuel
      omega
    · have : (fun q => (listed.setIfInBounds i true).getD q false) = fun q => listed.getD q false || Nat.beq q i := by
        funext q
        by_cases hq : q = i
        · subst hq
          simp [hlt]
        · have hb : Nat.beq q i = false := by cases hb : Nat.beq q i with | false => rfl | true => simp only [Nat.beq_eq] at hb; exact absurd hb hq
          rw [_root_.Go.getD_set_ne false (Ne.symm hq), hb, Bool.or_false]
      rw [this]; exact hh'
end
theorem _root_.Go.Dk.St.drawn {w0 w : World} {M Z0 : Zone} {L : List Res} {φ : Fact} (h : St w0 M Z0 L φ w) (n : Nat) : St w0 M Z0 L φ { w with drawn := n } :=
  ⟨⟨h.ext.os, h.ext.tape, h.ext.output, h.ext.size, h.ext.block⟩, fun q hq => h.loc q hq w _ (fun _ _ => rfl) (h.own q hq), h.loc, h.key, h.dis, h.stab, h.stab _ _ w _ (fun b hz _ => ⟨hz, rfl⟩) h.per⟩
theorem drawOK {P : Program} [hm : DrM P] {F : Callee} {D : Dec} (hib : ∀ f, D.ib f = true → extIB P f) (hF : CallsOK P F) : DrawOK P F D := by
  intro w0 M Z0 G s tv w ops id k r Q hI hd h hQ
  obtain ⟨es, h1, h2, h3, _, h5⟩ := evDr_trace h
  refine wp_region_any hm.out ?_
  have hlen : ops.toArray.size = ops.length := by simp
  have hg := hI.grow (room P D ops)
  have ht : Trace P F D ops (ancL ops []) s.heap.length (grow (room P D ops) s) es := by
    refine ⟨h1, fun p o e hp => ?_, fun p q o e o' e' hpq hp hq a c => ?_⟩
    · have := h3 p o e hp; simp only [Nat.zero_add] at this; exact this
    · have := h5 p q o e o' e' hpq hp hq a c; simp only [Nat.zero_add] at this; exact this
  have hrep : (fun q => (Array.replicate ops.toArray.size false).getD q false) = fun _ => false := by
    funext q
    simp only [Array.getD_eq_getD_getElem?, Array.getElem?_replicate]
    split <;> rfl
  refine draw_any (w0 := w0) (M := M) (Z0 := Z0) (G0 := G ++ List.replicate (room P D ops) .fresh) hF hib hd ht (by simp [grow]) ?_ ops.toArray.size _ (G ++ List.replicate (room P D ops) .fresh) tv _ (by simp) (by simp) ?_
  · intro L G' tv' w' hL hh
    have he : foldE (ops.zip es) 0 L (grow (room P D ops) s) = foldE (ops.zip es) 0 (fun _ => true) (grow (room P D ops) s) :=
      foldE_congr fun q _ hq => by
        refine hL q ?_
        have : (ops.zip es).length ≤ ops.length := by rw [List.length_zip]; omega
        omega
    have hst := hh.st
    rw [he] at hst
    refine hQ _ G' tv' w' h2 ⟨hst, fun j hj hl => ?_, hh.mz⟩ ((Up.append _ _).trans hh.up).weak
    rw [hst.per.2.1] at hj; omega
  · rw [hrep]
    have hs : foldE (ops.zip es) 0 (fun _ => false) (grow (room P D ops) s) = grow (room P D ops) s := foldE_skip fun _ _ => rfl
    refine ⟨by rw [hs]; exact hg.st.drawn _, hg.mz, fun p o e hp _ _ j hj hl => ?_, nofun, Up.refl _⟩
    refine hg.fresh j ?_ ?_
    · have := (ht.step p o e hp).1; omega
    · have a1 := (ht.step p o e hp).1
      have a2 := room_le (P := P) (D := D) (zip_fst hp).1
      have a3 := hI.len
      simp only [List.length_append, List.length_replicate]
      omega
theorem abs_sound {P : Program} [hm : DrM P] {S : Say} (hp : PrimsOK P S) (hib : ∀ f, S.D.ib f = true → extIB P f) (n : Nat) : CallsOK P (evF P S n) :=
  evF_sound hp hib (fun F hF => drawOK hib hF) n
end Go.Ab
