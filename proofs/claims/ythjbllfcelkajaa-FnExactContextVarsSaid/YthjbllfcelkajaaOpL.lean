/- The abstract run is sound: code and functions. No program in sight. -/
import Derived.Test.YthjbllfcelkajaaOpK
set_option linter.unusedVariables false
set_option linter.unusedSimpArgs false
namespace Go.Ab
open Go Go.Dk

section
variable {P : Program} {w0 w w' : World} {M Z0 Z : Zone} {b : Nat} {G G0 : List GO} {s : AS} {tv : List Value} {r : List V1 × List AObj}
theorem outVs_sound {own : Bool} {m : Nat} {tm : List AV} : ∀ {l : List V1} {h acc : List AObj} {G A : List GO} {b : Nat} {xs : List Value} {k : List V1 → List AObj → List AObj → OR},
    Parked w0 M Z0 m G tm tv w h acc A → All2 (RV1 (G ++ A) (zn w0 Z0 ⟨tm, h ++ acc⟩ (G ++ A)) w) l xs → outVs own l h b k = some r →
    ∃ cs h' os G' N, k cs h' os = some r ∧ OutTo w0 M Z0 m G tm tv w h acc A b h' os G' N (fun Gf => All2 (RV1 Gf (zn w0 Z0 ⟨tm, h' ++ (acc ++ os)⟩ (G' ++ (A ++ N))) w) cs xs)
  | [], h, acc, G, A, b, xs, k, hp, ha, hk => by
    obtain rfl := ha.nil_inv
    exact ⟨[], h, [], G, [], hk, by simpa using hp, rfl, by simp, by simpa using Up.refl (G ++ A), rfl, fun _ _ => All2.nil⟩
  | v :: l, h, acc, G, A, b, xs, k, hp, ha, hk => by
    obtain ⟨X, xs', rfl, h1, h2⟩ := ha.cons_inv
    have comb : ∀ {c : List SV} {ys : List Value} {v' : List SV → V1} {k2 : List SV → List AObj → List AObj → OR}, All2 (OneR (G ++ A) (zn w0 Z0 ⟨tm, h ++ acc⟩ (G ++ A)) w) c ys → outC own c h b k2 = some r →
        (∀ cs h' os, k2 cs h' os = some r → ∃ v', (∀ Gf Z, All2 (OneR Gf Z w) cs ys → RV1 Gf Z w v' X) ∧ outVs own l h' (b + os.length) (fun vs h os' => k (v' :: vs) h (os ++ os')) = some r) →
        ∃ cs h' os G' N, k cs h' os = some r ∧ OutTo w0 M Z0 m G tm tv w h acc A b h' os G' N (fun Gf => All2 (RV1 Gf (zn w0 Z0 ⟨tm, h' ++ (acc ++ os)⟩ (G' ++ (A ++ N))) w) cs (X :: xs')) := by
      intro c ys v' k2 hc hk hnext
      obtain ⟨cs, h1', os1, G1, N1, hk1, o1⟩ := outC_sound hp hc hk
      obtain ⟨v', hv', hk2⟩ := hnext _ _ _ hk1
      obtain ⟨vs, h2', os2, G2, N2, hk3, o2⟩ := outVs_sound o1.park (h2.mono fun _ _ _ q => RV1.up o1.up (q.stable (keeps_le o1.zl))) hk2
      have e1 : acc ++ (os1 ++ os2) = acc ++ os1 ++ os2 := by simp
      have e2 : A ++ (N1 ++ N2) = A ++ N1 ++ N2 := by simp
      refine ⟨_, h2', os1 ++ os2, G2, N1 ++ N2, hk3, ?_, o2.hl.trans o1.hl, ?_, ?_, by simp [o1.nl, o2.nl], fun Gf hA => ?_⟩
      · rw [e1, e2]; exact o2.park
      · rw [e1, e2]; exact fun k hk => o2.zl k (o1.zl k hk)
      · rw [e2]; exact o1.up.trans o2.up
      · rw [e1, e2]
        refine All2.cons ((hv' Gf _ (o1.rel Gf hA.left)).stable (keeps_le o2.zl)) (o2.rel Gf ?_)
        rw [o1.nl]; exact hA.right
    cases v with
    | one x =>
      by_cases hx : x = .any
      · subst hx
        simp only [outVs] at hk
        obtain ⟨cs, h', os, G', N, hk', ho⟩ := outVs_sound hp h2 hk
        exact ⟨_, h', os, G', N, hk', ho.park, ho.hl, ho.zl, ho.up, ho.nl, fun Gf hA => All2.cons ⟨trivial, fun h => absurd rfl h⟩ (ho.rel Gf hA)⟩
      · have hk' : outC own [x] h b (fun c h os => (match c with
            | [x] => outVs own l h (b + os.length) fun vs h os' => k (.one x :: vs) h (os ++ os')
            | _ => none)) = some r := by
          cases x <;> first | exact absurd rfl hx | exact hk
        refine comb (v' := fun _ => .one x) (All2.cons ⟨h1.1, h1.2 hx⟩ All2.nil) hk' fun cs h' os hk2 => ?_
        split at hk2
        · exact ⟨_, fun Gf Z hr => by obtain ⟨y, ys, e, hr, _⟩ := hr.cons_inv; simp only [List.cons.injEq] at e; obtain ⟨rfl, _⟩ := e; exact ⟨hr.1, fun _ => hr.2⟩, hk2⟩
        · cases hk2
    | agg c =>
      obtain ⟨ys, hX, hc⟩ := h1
      simp only [outVs] at hk
      exact comb (v' := fun c => .agg c) hc hk fun cs h' os hk2 => ⟨.agg cs, fun Gf Z hr => ⟨ys, hX, hr⟩, hk2⟩
theorem outO_sound {m : Nat} {tm : List AV} {acc : List AObj} {A : List GO} : ∀ {n : Nat} {h : List AObj} {k : List AObj → OR}, Parked w0 M Z0 m G tm tv w h acc A → n ≤ m → m ≤ h.length → outO m n h k = some r →
    ∃ h' ps, k ps = some r ∧ Parked w0 M Z0 m G tm tv w h' acc A ∧ h'.length = h.length ∧ (∀ k, zn w0 Z0 ⟨tm, h ++ acc⟩ (G ++ A) k → zn w0 Z0 ⟨tm, h' ++ acc⟩ (G ++ A) k) ∧ ps.length = n ∧
      (∀ (i : Nat) c, h[i]? = some (.cells c) → h'[i]? = some (.cells c)) ∧
      (∀ (i : Nat) p, ps[i]? = some p → p = .dead ∨ ∃ bb T vs l', G[m - n + i]? = some (.cells bb T vs) ∧ p = .cells (l'.map clean) ∧ All2 (OneR (G ++ A) (zn w0 Z0 ⟨tm, h' ++ acc⟩ (G ++ A)) w) l' vs)
  | 0, h, k, hp, hn, hm, hk => ⟨h, [], hk, hp, rfl, fun _ h => h, rfl, fun _ _ h => h, fun i p hi => by simp at hi⟩
  | n + 1, h, k, hp, hn, hm, hk => by
    unfold outO at hk
    split at hk
    · rename_i c hj
      obtain ⟨g, hg, hg', hr⟩ := getJ hp hj
      cases g with
      | cells bb T vs =>
        obtain ⟨c', h1, hk1, p1, l1, z1, r1, k1⟩ := sealL_parked hp hr hk
        obtain ⟨h2, ps, hk2, p2, l2, z2, e2, k2, q2⟩ := outO_sound p1 (by omega) (by omega) hk1
        refine ⟨h2, _, hk2, p2, l2.trans l1, fun k hk => z2 k (z1 k hk), by simp [e2], fun i c hi => k2 i c (k1 i c hi), fun i p hi => ?_⟩
        cases i with
        | zero =>
          simp only [List.getElem?_cons_zero, Option.some.injEq] at hi
          subst hi
          exact .inr ⟨bb, T, vs, c', by simpa using hg, rfl, r1.mono fun _ _ _ q => q.mono (keeps_le z2) (Up.refl _)⟩
        | succ i =>
          have := q2 i p (by simpa using hi)
          rw [show m - (n + 1) + (i + 1) = m - n + i by omega]; exact this
      | _ => exact hr.elim
    · obtain ⟨h2, ps, hk2, p2, l2, z2, e2, k2, q2⟩ := outO_sound hp (by omega) hm hk
      refine ⟨h2, _, hk2, p2, l2, z2, by simp [e2], k2, fun i p hi => ?_⟩
      cases i with
      | zero =>
        simp only [List.getElem?_cons_zero, Option.some.injEq] at hi
        exact .inl hi.symm
      | succ i =>
        have := q2 i p (by simpa using hi)
        rw [show m - (n + 1) + (i + 1) = m - n + i by omega]; exact this
theorem resL_keep {h : List AObj} : ∀ {ps hs : List AObj} {gs : List GO}, ps.length = hs.length → hs.length = gs.length → (∀ (i : Nat) p, ps[i]? = some p → p = .dead ∨ ∃ l bb T vs c, p = .cells l ∧ gs[i]? = some (.cells bb T vs) ∧ hs[i]? = some (.cells c)) →
    (resL ps (List.zipWith keepG ps gs)).Sublist (resL hs gs)
  | [], hs, gs, h1, h2, hq => by simp [resL]
  | p :: ps, [], gs, h1, _, _ => by simp at h1
  | p :: ps, o :: hs, [], _, h2, _ => by simp at h2
  | p :: ps, o :: hs, g :: gs, h1, h2, hq => by
    have ih := resL_keep (h := h) (ps := ps) (hs := hs) (gs := gs) (by simpa using h1) (by simpa using h2) fun i p hi => by simpa using hq (i + 1) p (by simpa using hi)
    simp only [List.zipWith_cons_cons, resL]
    rcases hq 0 p rfl with rfl | ⟨l, bb, T, vs, c, rfl, hg, ho⟩
    · rw [resO_dead, List.nil_append]; exact ih.trans (List.sublist_append_right _ _)
    · simp only [List.getElem?_cons_zero, Option.some.injEq] at hg ho
      subst hg ho
      simp only [keepG, resO]
      exact ih.append_left _
theorem finish_sound {own : Bool} {fn : Func} {m : Nat} (hI : InvG w0 M Z0 s.heap.length G s tv w) (hu : UpW G0 G) (hm : G0.length = m) (h : finish P own fn m s = some r) :
    ∃ xs G', (results fn tv.toArray).run P w = .ok (if h : xs.toArray.size = 1 then xs.toArray[0] else .tuple xs.toArray) w ∧ InvG w0 M Z0 r.2.length G' ⟨r.1.map .v, r.2⟩ xs w ∧ UpW G0 G' := by
  unfold finish at h
  replace h := cond_left h; obtain ⟨hml, h⟩ := h
  simp only [Nat.ble_eq] at hml
  replace h := resC_sound hI h; obtain ⟨vs, xs, h, hvs, hrun⟩ := h
  have hp : Parked w0 M Z0 m G s.tmps tv w s.heap [] [] := ⟨by simpa using hI, hI.len, All2.nil⟩
  have hz0 : zn w0 Z0 ⟨s.tmps, s.heap ++ []⟩ (G ++ []) = zn w0 Z0 s G := by simp [zn]
  obtain ⟨cs, h1, os, G1, N, hk1, o1⟩ := outVs_sound hp (by rw [hz0, List.append_nil]; exact hvs) h
  simp only [List.nil_append] at o1
  have hp1 := o1.park
  simp only [List.nil_append] at hp1
  obtain ⟨h2, ps, hk2, p2, l2, z2, e2, k2, q2⟩ := outO_sound hp1 (Nat.le_refl m) (by rw [o1.hl]; exact hml) hk1
  have hr := Option.some.inj hk2
  subst hr
  have hNl : os.length = N.length := o1.nl
  have hl2 : h2.length = s.heap.length := l2.trans o1.hl
  have hG1 : h2.length = G1.length := p2.len
  have hmG : m ≤ G1.length := by omega
  have hgl : (G1.take m).length = m := by simp [hmG]
  let PG := List.zipWith keepG ps (G1.take m)
  have hPl : PG.length = m := by simp [PG, e2, hmG]
  have hAt : At_ m N (PG ++ N) := fun i g hi => by rw [List.getElem?_append_right (by omega), hPl]; simpa using hi
  have hps : ∀ (i : Nat) p, ps[i]? = some p → p = .dead ∨ ∃ bb T vs l', G1[i]? = some (.cells bb T vs) ∧ p = .cells (l'.map clean) ∧ All2 (OneR (G1 ++ N) (zn w0 Z0 ⟨s.tmps, h2 ++ os⟩ (G1 ++ N)) w) l' vs := fun i p hi => by
    have := q2 i p hi
    simpa using this
  have hRO := p2.inv.st.per.2
  have hsub : (resL (ps ++ os) (PG ++ N)).Sublist (resL (h2 ++ os) (G1 ++ N)) := by
    rw [resL_append (by rw [hPl, e2]), resL_append hG1]
    have hk : (resL ps PG).Sublist (resL (h2.take m) (G1.take m)) := by
      refine resL_keep (h := h2) (by simp [e2]; omega) (by simp; omega) fun i p hi => ?_
      have him : i < m := by rw [← e2]; exact lt_of_some hi
      rcases hps i p hi with h | ⟨bb, T, vs, l', hg, rfl, _⟩
      · exact .inl h
      · right
        have hg2 : (G1 ++ N)[i]? = some (.cells bb T vs) := by rw [List.getElem?_append_left (by omega)]; exact hg
        obtain ⟨o, ho, hro⟩ := hRO.get' hg2
        have ho' : h2[i]? = some o := by rw [List.getElem?_append_left (by omega)] at ho; exact ho
        cases o with
        | cells c => exact ⟨_, bb, T, vs, c, rfl, by rw [List.getElem?_take, if_pos him]; exact hg, by rw [List.getElem?_take, if_pos him]; exact ho'⟩
        | _ => exact hro.elim
    have hk2 : (resL (h2.take m) (G1.take m)).Sublist (resL h2 G1) := by
      have := resL_append (h := h2.take m) (h' := h2.drop m) (G := G1.take m) (G' := G1.drop m) (by simp; omega)
      rw [List.take_append_drop, List.take_append_drop] at this
      rw [this]; exact List.sublist_append_left _ _
    exact (hk.trans hk2).append_right _
  have hz3 : ∀ k, zn w0 Z0 ⟨s.tmps, h2 ++ os⟩ (G1 ++ N) k → zone w0 Z0 (resL (ps ++ os) (PG ++ N)) k := fun k hk => ⟨hk.1, fun q hq => hk.2 q (hsub.subset hq)⟩
  refine ⟨xs, PG ++ N, run_results hrun, ⟨?_, fun j hj hl => ?_, hI.mz⟩, ?_⟩
  · refine (p2.inv.st.sub hsub).weak (relF_stable _ _ _) fun _ => ⟨?_, ?_⟩
    · have := o1.rel (PG ++ N) hAt
      exact (this.mono fun _ _ _ q => (q.stable (keeps_le z2)).stable (keeps_le hz3)).map_left fun _ _ q => q
    · refine All2.append ⟨by rw [hPl, e2], fun i p g hi hg => ?_⟩ ?_
      · have him : i < m := by rw [← e2]; exact lt_of_some hi
        simp only [PG, List.getElem?_zipWith, hi, List.getElem?_take, if_pos him] at hg
        rcases hps i p hi with rfl | ⟨bb, T, vs, l', hg', rfl, hr⟩
        · cases hg1 : G1[i]? with
          | none => simp [hg1] at hg
          | some g1 => simp [hg1, keepG] at hg; subst hg; trivial
        · simp only [hg', Option.some.injEq, keepG] at hg
          subst hg
          exact like_one (cleanL_like l') (hr.mono fun _ _ _ q => q.mono (keeps_le hz3) (Up.refl _))
      · refine ⟨hNl, fun i o g hi hg => ?_⟩
        have hro := hRO.2 (h2.length + i) o g (by rw [List.getElem?_append_right (by omega)]; simpa using hi) (by rw [List.getElem?_append_right (by omega), hG1]; simpa using hg)
        have hal := p2.alone.2 i o g hi hg
        exact hal _ _ _ _ (RO.stable (keeps_le hz3) hro)
  · exfalso
    simp at hj hl
    rw [e2] at hj
    have : PG.length = m := hPl
    simp only [PG] at this hl
    simp at this hl
    omega
  · have hup1 : Up G (G1 ++ N) := by simpa using o1.up
    intro j
    have key : ∀ g, j < m → (G1 ++ N)[j]? = some g → (PG ++ N)[j]? = some .gone ∨ (PG ++ N)[j]? = some g := by
      intro g hjm hg
      have hg1 : G1[j]? = some g := by rw [List.getElem?_append_left (by omega)] at hg; exact hg
      obtain ⟨p, hp⟩ : ∃ p, ps[j]? = some p := ⟨_, List.getElem?_eq_getElem (by rw [e2]; exact hjm)⟩
      rw [List.getElem?_append_left (by rw [hPl]; exact hjm)]
      simp only [PG, List.getElem?_zipWith, hp, List.getElem?_take, if_pos hjm, hg1]
      cases p <;> first | exact .inr rfl | exact .inl rfl
    have hup2 := (hu.trans hup1.weak) j
    refine ⟨fun hh => ?_, fun b T vs hh => ?_, fun ver val sz xs0 hh => ?_⟩
    · have hjm : j < m := by rw [← hm]; exact lt_of_some hh
      rcases key _ hjm (hup2.1 hh) with h | h <;> exact h
    · have hjm : j < m := by rw [← hm]; exact lt_of_some hh
      rcases hup2.2.1 b T vs hh with h | ⟨T', vs', h⟩
      · rcases key _ hjm h with h | h <;> exact .inl h
      · rcases key _ hjm h with h | h
        · exact .inl h
        · exact .inr ⟨T', vs', h⟩
    · have hjm : j < m := by rw [← hm]; exact lt_of_some hh
      rcases hup2.2.2 ver val sz xs0 hh with h | ⟨a, c, e, h⟩
      · rcases key _ hjm h with h | h <;> exact .inl h
      · rcases key _ hjm h with h | h
        · exact .inl h
        · exact .inr ⟨a, c, e, h⟩
end
end Go.Ab
