/- Conversion and traces: what the laws need. No program in sight. -/
import Derived.Test.YtmioieikbpemoaaRed
set_option linter.unusedVariables false
set_option linter.unusedSimpArgs false
namespace Go.Proofs.Ytmioieikbpemoaa
open Go Go.Dk
/-- What Convertible answers for valid terms. -/
def convC (a b : T) (f : Nat) : Int :=
  if T.beq a b then 1
  else if (redF false f 0 a).2.2 ≠ 0 ∨ (redF false f 0 b).2.2 ≠ 0 then 3
  else if T.beq (redF false f 0 a).1 (redF false f 0 b).1 then 1 else 2
/-- What Convertible answers. -/
def convR (a b : T) (f : Int) : Int := if validB a = true ∧ validB b = true ∧ 0 ≤ f ∧ f ≤ 200 then convC a b f.toNat else 0
theorem convR_pos {a b : T} {f : Int} (h : validB a = true ∧ validB b = true ∧ 0 ≤ f ∧ f ≤ 200) : convR a b f = convC a b f.toNat := if_pos h
theorem beq_comm (a b : T) : T.beq a b = T.beq b a := by
  cases h : T.beq b a with
  | true => rw [(T.beq_iff b a).1 h]; exact T.beq_refl _
  | false =>
    cases h2 : T.beq a b with
    | false => rfl
    | true => rw [(T.beq_iff a b).1 h2, T.beq_refl] at h; cases h
theorem convR_comm (a b : T) (f : Int) : convR a b f = convR b a f := by
  by_cases h : validB a = true ∧ validB b = true ∧ 0 ≤ f ∧ f ≤ 200
  · rw [convR_pos h, convR_pos ⟨h.2.1, h.1, h.2.2⟩]
    unfold convC
    rw [beq_comm a b, beq_comm (redF false f.toNat 0 a).1]
    simp only [or_comm]
  · unfold convR
    rw [if_neg h, if_neg (fun hh => h ⟨hh.2.1, hh.1, hh.2.2⟩)]
theorem redF_more {inn : Bool} : ∀ (g k s : Nat) (t : T), (redF inn g s t).2.2 = 0 → redF inn (g + k) s t = redF inn g s t
  | 0, k, s, t, h => by
    rw [redF] at h ⊢
    cases hs : stT inn t with
    | none => cases k <;> simp [redF, hs]
    | some u => rw [hs] at h; cases h
  | g + 1, k, s, t, h => by
    rw [Nat.add_right_comm, redF, redF]
    rw [redF] at h
    cases hs : stT inn t with
    | none => rfl
    | some u =>
      rw [hs] at h
      simp only at h ⊢
      cases hu : validB u with
      | false => rfl
      | true =>
        rw [hu] at h
        simp only [if_true] at h ⊢
        exact redF_more g k (s + 1) u h
theorem redF_red {inn : Bool} : ∀ (g s : Nat) (t : T), (redF inn g s t).2.2 = 0 → Red t (redF inn g s t).1 ∧ nfB (redF inn g s t).1 = true
  | 0, s, t, h => by
    rw [redF] at h ⊢
    cases hs : stT inn t with
    | none => exact ⟨.refl, st_none.1 hs⟩
    | some u => rw [hs] at h; cases h
  | g + 1, s, t, h => by
    rw [redF] at h ⊢
    cases hs : stT inn t with
    | none => exact ⟨.refl, st_none.1 hs⟩
    | some u =>
      rw [hs] at h
      simp only at h ⊢
      cases hu : validB u with
      | false => rw [hu] at h; cases h
      | true =>
        rw [hu] at h
        simp only [if_true] at h ⊢
        obtain ⟨h1, h2⟩ := redF_red g (s + 1) u h
        exact ⟨.step (st_par hs) h1, h2⟩
theorem convR_refl {a : T} {f : Int} (h : validB a = true ∧ 0 ≤ f ∧ f ≤ 200) : convR a a f = 1 := by
  rw [convR_pos ⟨h.1, h.1, h.2⟩]
  exact if_pos (T.beq_refl a)
theorem convR_ne {a b : T} {f : Int} (h : convR a b f ≠ 0) : validB a = true ∧ validB b = true ∧ 0 ≤ f ∧ f ≤ 200 := by
  unfold convR at h
  split at h
  · assumption
  · exact absurd rfl h
theorem convR_more {a b : T} {f : Int} (h : convR a b f ≠ 0) (h3 : convR a b f ≠ 3) : convR a b 200 = convR a b f := by
  have hh := convR_ne h
  rw [convR_pos hh] at h3 ⊢
  rw [convR_pos ⟨hh.1, hh.2.1, by omega, by omega⟩]
  unfold convC at h3 ⊢
  by_cases hb : T.beq a b = true
  · simp only [hb, if_true]
  · simp only [hb] at h3 ⊢
    by_cases hc : (redF false f.toNat 0 a).2.2 ≠ 0 ∨ (redF false f.toNat 0 b).2.2 ≠ 0
    · simp [hc] at h3
    · have ha0 : (redF false f.toNat 0 a).2.2 = 0 := Classical.byContradiction fun hh => hc (.inl hh)
      have hb0 : (redF false f.toNat 0 b).2.2 = 0 := Classical.byContradiction fun hh => hc (.inr hh)
      have e : (200 : Int).toNat = f.toNat + (200 - f.toNat) := by omega
      rw [e, redF_more _ _ _ _ ha0, redF_more _ _ _ _ hb0]
theorem convC_two {a b : T} {f : Nat} (h : convC a b f = 2) : (redF false f 0 a).2.2 = 0 ∧ (redF false f 0 b).2.2 = 0 ∧ (redF false f 0 a).1 ≠ (redF false f 0 b).1 := by
  unfold convC at h
  split at h
  · cases h
  · split at h
    · cases h
    · rename_i hh
      split at h
      · cases h
      · rename_i hb
        exact ⟨Classical.byContradiction fun h => hh (.inl h), Classical.byContradiction fun h => hh (.inr h), fun e => hb ((T.beq_iff _ _).2 e)⟩
theorem convR_two {a b : T} {f : Int} (h : convR a b f = 2) : (redF false f.toNat 0 a).2.2 = 0 ∧ (redF false f.toNat 0 b).2.2 = 0 ∧ (redF false f.toNat 0 a).1 ≠ (redF false f.toNat 0 b).1 := by
  have hh := convR_ne (a := a) (b := b) (f := f) (by rw [h]; decide)
  rw [convR_pos hh] at h
  exact convC_two h
/-- Terms with a common reduct that is normal are not told apart. -/
theorem convR_red {a b c : T} {f : Int} (ha : Red a c) (hb : Red b c) (hc : nfB c = true) : convR a b f ≠ 2 := by
  intro h
  obtain ⟨ha0, hb0, hne⟩ := convR_two h
  obtain ⟨r1, n1⟩ := redF_red _ _ _ ha0
  obtain ⟨r2, n2⟩ := redF_red _ _ _ hb0
  exact hne (by rw [nf_uniq r1 ha n1 hc, nf_uniq r2 hb n2 hc])
/-- A term and what it reduces to are not told apart. -/
theorem convR_of_red {a b : T} {f : Int} (h : Red a b) : convR a b f ≠ 2 := by
  intro h2
  obtain ⟨ha0, hb0, hne⟩ := convR_two h2
  obtain ⟨r1, n1⟩ := redF_red _ _ _ ha0
  obtain ⟨r2, n2⟩ := redF_red _ _ _ hb0
  exact hne (nf_uniq r1 (h.trans r2) n1 n2)
theorem convR_yes {a b : T} {f : Int} (h : convR a b f = 1) : a = b ∨ ∃ c, Red a c ∧ Red b c ∧ nfB c = true ∧ (redF false f.toNat 0 a).2.2 = 0 ∧ (redF false f.toNat 0 b).2.2 = 0 ∧ (redF false f.toNat 0 a).1 = c ∧ (redF false f.toNat 0 b).1 = c := by
  have hv := convR_ne (a := a) (b := b) (f := f) (by rw [h]; decide)
  rw [convR_pos hv] at h
  unfold convC at h
  · split at h
    · rename_i hb
      exact .inl ((T.beq_iff a b).1 hb)
    · split at h
      · cases h
      · rename_i hh
        split at h
        · rename_i hb
          have ha0 : (redF false f.toNat 0 a).2.2 = 0 := Classical.byContradiction fun h => hh (.inl h)
          have hb0 : (redF false f.toNat 0 b).2.2 = 0 := Classical.byContradiction fun h => hh (.inr h)
          obtain ⟨r1, n1⟩ := redF_red _ _ _ ha0
          obtain ⟨r2, n2⟩ := redF_red _ _ _ hb0
          have e := (T.beq_iff _ _).1 hb
          exact .inr ⟨_, r1, e ▸ r2, n1, ha0, hb0, rfl, e.symm⟩
        · cases h
theorem convR_trans {a b c : T} {f : Int} (h : convR a b f = 1) (hn : convR b c f ≠ 0) (h3 : convR b c f ≠ 3) (hm : convR a c f ≠ 3) : convR a c f = convR b c f := by
  obtain ⟨va, vb, f0, f1⟩ := convR_ne (a := a) (b := b) (f := f) (by rw [h]; decide)
  obtain ⟨_, vc, _, _⟩ := convR_ne hn
  rcases convR_yes h with rfl | ⟨x, ra, rb, nx, ha0, hb0, ea, eb⟩
  · rfl
  · have ga : ∀ {d : T}, validB d = true → convR d c f = if T.beq d c then 1 else if (redF false f.toNat 0 d).2.2 ≠ 0 ∨ (redF false f.toNat 0 c).2.2 ≠ 0 then 3 else if T.beq (redF false f.toNat 0 d).1 (redF false f.toNat 0 c).1 then 1 else 2 := fun hd => by
      rw [convR_pos ⟨hd, vc, f0, f1⟩]; rfl
    by_cases hc0 : (redF false f.toNat 0 c).2.2 = 0
    · have key : ∀ {d : T}, validB d = true → (redF false f.toNat 0 d).2.2 = 0 → (redF false f.toNat 0 d).1 = x → convR d c f = if T.beq x (redF false f.toNat 0 c).1 then 1 else 2 := by
        intro d hd h0 hx
        rw [ga hd]
        by_cases hdc : T.beq d c = true
        · have e := (T.beq_iff d c).1 hdc
          rw [if_pos hdc, ← e, hx, T.beq_refl, if_pos rfl]
        · rw [if_neg hdc, if_neg (by rw [h0, hc0]; simp), hx]
      rw [key va ha0 ea, key vb hb0 eb]
    · by_cases hac : T.beq a c = true
      · have e := (T.beq_iff a c).1 hac
        rw [e] at ha0
        exact absurd ha0 hc0
      · by_cases hbc : T.beq b c = true
        · have e := (T.beq_iff b c).1 hbc
          rw [e] at hb0
          exact absurd hb0 hc0
        · rw [ga va, if_neg hac, if_pos (.inr hc0)] at hm
          exact absurd rfl hm
/-! Congruence. -/
theorem Red.kids {k n : Int} {pre post : List T} {a b : T} (h : Red a b) : Red (.mk k n (pre ++ a :: post)) (.mk k n (pre ++ b :: post)) := by
  induction h with
  | refl => exact .refl
  | step h _ ih =>
    refine .step (.node ?_) ih
    clear ih
    induction pre with
    | nil => exact .cons h (ParL.refl _)
    | cons x pre ih => exact .cons (Par.refl x) ih
theorem conv_succ {a b : T} {f : Int} (h : convR a b f = 1) : convR (.mk 8 0 [a]) (.mk 8 0 [b]) 200 ≠ 2 := by
  rcases convR_yes h with rfl | ⟨x, ra, rb, nx, _⟩
  · exact convR_of_red .refl
  · refine convR_red (c := .mk 8 0 [x]) (Red.kids (pre := []) ra) (Red.kids (pre := []) rb) ?_
    simp only [nfB, nfL, nx, Bool.and_true, Bool.not_eq_true', decide_eq_false_iff_not]
    intro hr
    have := hr.k
    simp only [T.k] at this
    omega
theorem conv_app {a b : T} {f m : Int} (h : convR a b f = 1) : convR (.mk 5 0 [.mk 1 m [], a]) (.mk 5 0 [.mk 1 m [], b]) 200 ≠ 2 := by
  rcases convR_yes h with rfl | ⟨x, ra, rb, nx, _⟩
  · exact convR_of_red .refl
  · refine convR_red (c := .mk 5 0 [.mk 1 m [], x]) (Red.kids (pre := [.mk 1 m []]) ra) (Red.kids (pre := [.mk 1 m []]) rb) ?_
    simp only [nfB, nfL, nx, Bool.and_true, Bool.not_eq_true', decide_eq_false_iff_not, Bool.and_eq_true]
    refine ⟨fun hr => ?_, fun hr => ?_⟩
    · cases hr with
      | app h h' => simp [kd, T.kids, T.k] at h'
      | zero h _ => simp [T.k] at h
      | succ h _ => simp [T.k] at h
      | move h _ => simp [T.k] at h
      | fst h _ => simp [T.k] at h
      | snd h _ => simp [T.k] at h
    · have := hr.k
      simp only [T.k] at this
      omega
/-! Traces. -/
/-- The terms after a term, at most g of them. -/
def trF : Nat → T → List T
  | 0, _ => []
  | g + 1, t => match stT false t with
    | some u => if validB u then u :: trF g u else []
    | none => []
def traceR (t : T) : List T := if validB t then t :: trF 11 t else []
end Go.Proofs.Ytmioieikbpemoaa
