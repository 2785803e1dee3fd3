/- The abstract run is sound: calls, put together. No program in sight. -/
import Derived.Test.YthjbllfcelkajaaOpF
set_option linter.unusedVariables false
set_option linter.unusedSimpArgs false
namespace Go.Ab
open Go Go.Dk

def backG : List Nat → List GO → List GO → List GO
  | j :: js, g :: gs, G => backG js gs (G.set j g)
  | _, _, G => G
theorem backH_length : ∀ (js : List Nat) (os h : List AObj), (backH js os h).length = h.length
  | [], _, _ => rfl
  | _ :: _, [], _ => rfl
  | j :: js, o :: os, h => by rw [backH, backH_length js os]; simp
theorem backG_length : ∀ (js : List Nat) (gs G : List GO), (backG js gs G).length = G.length
  | [], _, _ => rfl
  | _ :: _, [], _ => rfl
  | j :: js, o :: os, h => by rw [backG, backG_length js os]; simp
theorem backG_other : ∀ (js : List Nat) (gs G : List GO) (q : Nat), q ∉ js → (backG js gs G)[q]? = G[q]?
  | [], _, _, _, _ => rfl
  | _ :: _, [], _, _, _ => rfl
  | j :: js, g :: gs, G, q, h => by
    simp only [List.mem_cons, not_or] at h
    rw [backG, backG_other js gs _ q h.2, List.getElem?_set_ne (fun e => h.1 e.symm)]
theorem backG_at : ∀ (js : List Nat) (gs G : List GO) (i j : Nat) (g : GO), js.Nodup → js[i]? = some j → gs[i]? = some g → j < G.length → (backG js gs G)[j]? = some g
  | [], _, _, i, _, _, _, h, _, _ => by simp at h
  | _ :: _, [], _, i, _, _, _, _, h, _ => by simp at h
  | a :: js, x :: gs, G, 0, j, g, hn, hj, hg, hl => by
    simp only [List.getElem?_cons_zero, Option.some.injEq] at hj hg
    subst hj hg
    rw [List.nodup_cons] at hn
    rw [backG, backG_other js gs _ a hn.1]; simp [hl]
  | a :: js, x :: gs, G, i + 1, j, g, hn, hj, hg, hl => by
    rw [List.nodup_cons] at hn
    rw [backG]
    exact backG_at js gs _ i j g hn.2 (by simpa using hj) (by simpa using hg) (by simpa using hl)
theorem backH_append : ∀ (js js' : List Nat) (os os' h : List AObj), js.length = os.length → backH (js ++ js') (os ++ os') h = backH js' os' (backH js os h)
  | [], js', [], os', h, _ => rfl
  | j :: js, js', o :: os, os', h, hl => by simp only [List.cons_append, backH]; exact backH_append js js' os os' _ (by simpa using hl)
  | [], _, _ :: _, _, _, hl => by simp at hl
  | _ :: _, _, [], _, _, hl => by simp at hl
theorem back_all {R : AObj → GO → Prop} : ∀ {js : List Nat} {os h : List AObj} {gs G : List GO}, All2 R h G → All2 R os gs → All2 R (backH js os h) (backG js gs G)
  | [], os, h, gs, G, hh, ho => hh
  | j :: js, os, h, gs, G, hh, ho => by
    cases os with
    | nil => obtain rfl := ho.nil_inv; exact hh
    | cons o os =>
      obtain ⟨g, gs', rfl, h1, h2⟩ := ho.cons_inv
      show All2 R (backH js os (h.set j o)) (backG js gs' (G.set j g))
      exact back_all (hh.set j h1) h2
theorem kill_set : ∀ {js : List Nat} {j : Nat} {o : AObj} {h : List AObj}, j ∉ js → kill js (h.set j o) = (kill js h).set j o
  | [], _, _, _, _ => rfl
  | i :: js, j, o, h, hj => by
    simp only [List.mem_cons, not_or] at hj
    simp only [kill]
    rw [List.set_comm _ _ hj.1, kill_set hj.2]
theorem killG_set : ∀ {js : List Nat} {j : Nat} {g : GO} {G : List GO}, j ∉ js → killG js (G.set j g) = (killG js G).set j g
  | [], _, _, _, _ => rfl
  | i :: js, j, o, h, hj => by
    simp only [List.mem_cons, not_or] at hj
    simp only [killG]
    rw [List.set_comm _ _ hj.1, killG_set hj.2]
theorem kill_length : ∀ (js : List Nat) (h : List AObj), (kill js h).length = h.length
  | [], _ => rfl
  | j :: js, h => by rw [kill, kill_length js]; simp
theorem killG_length : ∀ (js : List Nat) (h : List GO), (killG js h).length = h.length
  | [], _ => rfl
  | j :: js, h => by rw [killG, killG_length js]; simp
theorem resL_back : ∀ {js : List Nat} {os h : List AObj} {gs G : List GO}, js.Nodup → (∀ j ∈ js, j < h.length ∧ j < G.length) → js.length = os.length → os.length = gs.length →
    (resL (backH js os h) (backG js gs G)).Perm (resL os gs ++ resL (kill js h) (killG js G))
  | [], os, h, gs, G, _, _, hl, hl2 => by
    obtain rfl := List.eq_nil_of_length_eq_zero hl.symm
    exact List.Perm.refl _
  | j :: js, [], h, gs, G, _, _, hl, _ => by simp at hl
  | j :: js, o :: os, h, [], G, _, _, _, hl => by simp at hl
  | j :: js, o :: os, h, g :: gs, G, hn, hl, h1, h2 => by
    rw [List.nodup_cons] at hn
    obtain ⟨hj, hjG⟩ := hl j (List.mem_cons_self ..)
    have ih := resL_back (js := js) (os := os) (h := h.set j o) (gs := gs) (G := G.set j g) hn.2 (fun i hi => by simpa using hl i (List.mem_cons_of_mem _ hi)) (by simpa using h1) (by simpa using h2)
    simp only [backH, backG, kill, killG]
    refine ih.trans ?_
    rw [kill_set hn.1, killG_set hn.1, kill_set hn.1, killG_set hn.1]
    have hin := resL_in (h := kill js h) (G := killG js G) o g (by rw [kill_length]; exact hj) (by rw [killG_length]; exact hjG)
    have : (resL os gs ++ resL ((kill js h).set j o) ((killG js G).set j g)).Perm (resL os gs ++ (resO o g ++ resL ((kill js h).set j .dead) ((killG js G).set j .gone))) := hin.symm.append_left _
    refine this.trans ?_
    simp only [resL]
    rw [← List.append_assoc]
    exact List.perm_append_comm.append_right _
theorem kill_append : ∀ (js js' : List Nat) (h : List AObj), kill (js ++ js') h = kill js' (kill js h)
  | [], _, _ => rfl
  | j :: js, js', h => by simp only [List.cons_append, kill]; exact kill_append js js' _
theorem killG_append : ∀ (js js' : List Nat) (h : List GO), killG (js ++ js') h = killG js' (killG js h)
  | [], _, _ => rfl
  | j :: js, js', h => by simp only [List.cons_append, killG]; exact killG_append js js' _
/-- What the caller keeps of an object that was handed in. -/
def keepG : AObj → GO → GO
  | .cells _, g => g
  | _, _ => .gone
theorem resL_append' {h h' : List AObj} {G G' : List GO} (hl : h.length = G.length) : resL (h ++ h') (G ++ G') = resL h G ++ resL h' G' := resL_append hl
section
variable {P : Program} {w0 w w' : World} {M Z0 : Zone} {b : Nat} {G : List GO} {s : AS} {tv : List Value} {r : List V1 × List AObj} {Z : Zone}
theorem back_keep : ∀ {olds os : List AObj} {gs Gc : List GO}, All2 Back olds os → All2 (RO Gc Z w) olds gs → ∀ G'' : List GO,
    All2 (RO G'' Z w) os (List.zipWith keepG os gs) ∧ (resL os (List.zipWith keepG os gs)).Sublist (resL olds gs)
  | [], os, gs, Gc, hb, hr, G'' => by
    obtain rfl := hb.nil_inv
    obtain rfl := hr.nil_inv
    exact ⟨All2.nil, List.Sublist.refl _⟩
  | o :: olds, os, gs, Gc, hb, hr, G'' => by
    obtain ⟨o', os', rfl, h1, h2⟩ := hb.cons_inv
    obtain ⟨g, gs', rfl, h3, h4⟩ := hr.cons_inv
    obtain ⟨a1, a2⟩ := back_keep h2 h4 G''
    simp only [List.zipWith_cons_cons]
    rcases h1 with rfl | ⟨l, y, rfl, rfl, hy⟩
    · refine ⟨All2.cons trivial a1, ?_⟩
      simp only [resL, resO_dead, List.nil_append]
      exact a2.trans (List.sublist_append_right _ _)
    · cases g with
      | cells bb T vs =>
        refine ⟨All2.cons (like_one hy h3) a1, ?_⟩
        simp only [resL, keepG]
        exact a2.append_left _
      | _ => exact h3.elim
theorem list_nodup {js : List Nat} {b n : Nat} (h : js.Nodup) (hb : ∀ j ∈ js, j < b) : (js ++ List.range' b n).Nodup := by
  rw [List.nodup_append]
  refine ⟨h, List.nodup_range', fun a ha c hc => ?_⟩
  rw [List.mem_range'_1] at hc
  have := hb a ha
  omega
/-- A call, and what is known behind it. -/
theorem callGo_sound {F : Callee} (hF : CallsOK P F) {f : FuncId} {fn : Func} (hfn : P.funcs[f]? = some fn) (hbody : fn.body.isSome = true) (hI : InvG w0 M Z0 b G s tv w) {ow : Bool} {tys : List TypeId} {rm : Nat} {k : AV → List AObj → OR} {vs : List V1} {xs : List Value}
    (hv : All2 (RV1 G (zn w0 Z0 s G) w) vs xs) (hb : b + rm ≤ s.heap.length) (h : callGo P F ow f tys b rm k vs s.heap = some r) :
    Calls P f xs.toArray w fun e w' => ∃ X, e = .returned X ∧ ∃ v h' G', k v h' = some r ∧ InvG w0 M Z0 (b + rm) G' ⟨s.tmps, h'⟩ tv w' ∧ RV G' (zn w0 Z0 ⟨s.tmps, h'⟩ G') w' v X ∧ h'.length = s.heap.length ∧ Up G G' := by
  unfold callGo at h
  generalize hjs : reach s.heap 64 (vs.flatMap refsV) [] = js at h
  replace h := cond_left h; obtain ⟨hok, h⟩ := h
  replace h := bind_some h; obtain ⟨out, hout, h⟩ := h
  have hokl : okJs js s.heap.length = true := by
    simp only [okJs, Bool.and_eq_true, List.all_eq_true, Nat.blt_eq] at hok ⊢
    exact ⟨hok.1, fun j hj => by have := hok.2 j hj; omega⟩
  obtain ⟨hnd, hlt⟩ := okJs_out hok
  have hpass := hI.pass hokl hv
  have hlen : (selH js s.heap).length = js.length := by simp [selH]
  have hcall := hF f fn _ _ out hfn hbody hout _ _ _ _ _ _ (by rw [hlen]; exact hpass)
  refine hcall.mono fun e w' ⟨ys, Gc, he, hIc, hupc⟩ => ?_
  refine ⟨_, he, ?_⟩
  obtain ⟨olds, os, rest, ho, h, hol, hback⟩ := backO_sound h
  obtain ⟨vs', ns, h, hns, hvs⟩ := valsT_sound h
  replace h := cond_left h; obtain ⟨hrm, h⟩ := h
  simp only [Nat.ble_eq] at hrm
  have hp := resL_sel js s.heap G hnd (fun j hj => ⟨by have := hlt j hj; omega, by have := hlt j hj; rw [← hI.len]; omega⟩)
  have heq : resL (selH js s.heap) (selG js G) = resL (sel0 js s.heap) (selG js G) := by rw [selH_eq, resL_ren]
  have hfr := frame hI.st hI.mz hp hIc.st
  obtain ⟨hx0, hRO⟩ : All2 (RV Gc (zone w (fun k => zn w0 Z0 s G k ∨ footL (resL (sel0 js s.heap) (selG js G)) k) (resL out.2 Gc)) w') (out.1.map .v) ys ∧ All2 (RO Gc (zone w (fun k => zn w0 Z0 s G k ∨ footL (resL (sel0 js s.heap) (selG js G)) k) (resL out.2 Gc)) w') out.2 Gc := hIc.st.per
  generalize zone w (fun k => zn w0 Z0 s G k ∨ footL (resL (sel0 js s.heap) (selG js G)) k) (resL out.2 Gc) = Zc at hx0 hRO
  rw [ho] at hRO
  obtain ⟨g1, g2, rfl, hr1, hr2⟩ := hRO.append_inv
  have hjo : js.length = olds.length := by rw [hol, hlen]
  have hjos : js.length = os.length := by rw [hjo, hback.1]
  have hg1 : olds.length = g1.length := hr1.1
  let ps := js ++ List.range' b ns.length
  let gs := List.zipWith keepG os g1 ++ g2
  have hzl : (List.zipWith keepG os g1).length = js.length := by rw [List.length_zipWith, ← hjos, ← hg1, ← hjo]; simp
  have hpsn : ps.Nodup := list_nodup hnd hlt
  have hpsl : ∀ j ∈ ps, j < s.heap.length ∧ j < G.length := by
    intro j hj
    rw [← hI.len]
    rcases List.mem_append.1 hj with hj | hj
    · have := hlt j hj; omega
    · rw [List.mem_range'_1] at hj; omega
  have hnl : ns.length = g2.length := by rw [hns]; exact hr2.1
  have hH : putO b ns (backH js os s.heap) = backH ps (os ++ ns) s.heap := by
    rw [backH_append js _ os ns s.heap hjos]; rfl
  have hgat : ∀ (i : Nat) g, g2[i]? = some g → (g1 ++ g2)[js.length + i]? = some g ∧ (backG ps gs G)[b + i]? = some g := by
    intro i g hi
    have hil := lt_of_some hi
    refine ⟨by rw [List.getElem?_append_right (by omega), show js.length + i - g1.length = i by omega]; exact hi, ?_⟩
    refine backG_at ps gs G (js.length + i) (b + i) g hpsn ?_ ?_ ?_
    · show (js ++ List.range' b ns.length)[js.length + i]? = _
      rw [List.getElem?_append_right (by omega)]
      simp [hnl, hil]
    · show (List.zipWith keepG os g1 ++ g2)[js.length + i]? = _
      rw [List.getElem?_append_right (by omega), hzl]; simpa using hi
    · rw [← hI.len]; omega
  -- what is spoken of goes on
  have hup : Up G (backG ps gs G) := by
    intro q
    by_cases hq : q ∈ js
    · obtain ⟨i, hi⟩ := List.getElem?_of_mem hq
      have hil := lt_of_some hi
      have hz : ∃ g, (List.zipWith keepG os g1)[i]? = some g := ⟨_, List.getElem?_eq_getElem (by rw [hzl]; exact hil)⟩
      obtain ⟨g, hz⟩ := hz
      have hat : (backG ps gs G)[q]? = some g := by
        refine backG_at ps gs G i q g hpsn ?_ ?_ (hpsl q (List.mem_append.2 (.inl hq))).2
        · show (js ++ _)[i]? = _; rw [List.getElem?_append_left hil]; exact hi
        · show (_ ++ g2)[i]? = _; rw [List.getElem?_append_left (by rw [hzl]; exact hil)]; exact hz
      rw [List.getElem?_zipWith] at hz
      have ho1 : os[i]? = some (os[i]'(by omega)) := List.getElem?_eq_getElem _
      have hg1' : g1[i]? = some (g1[i]'(by omega)) := List.getElem?_eq_getElem _
      generalize os[i]'(by omega) = o1 at ho1
      generalize g1[i]'(by omega) = gg1 at hg1'
      rw [ho1, hg1'] at hz
      simp only [Option.some.injEq] at hz
      have hgc : (g1 ++ g2)[i]? = some gg1 := by rw [List.getElem?_append_left (by omega)]; exact hg1'
      have hu := hupc i
      rw [hgc] at hu
      rw [hat]
      cases o1 with
      | cells y =>
        simp only [keepG] at hz
        subst hz
        obtain ⟨oo, hoo, hbk⟩ := hback.get' ho1
        have hro := hr1.2 i oo gg1 hoo hg1'
        rcases hbk with hbk | ⟨l, y', rfl, _, _⟩
        · cases hbk
        · cases gg1 with
          | cells bb T vs0 =>
            refine ⟨fun hg => ?_, fun b0 T0 vs1 hg => ?_, fun ver val sz xs0 hg => ?_⟩
            · have := hu.1 (selG_get hi hg); cases this
            · rcases hu.2.1 _ _ _ (selG_get hi hg) with h1 | ⟨T', vs', h1⟩
              · cases h1
              · right; injection h1 with h1; injection h1 with h1 h2 h3; subst h1; exact ⟨T, vs0, rfl⟩
            · rcases hu.2.2 _ _ _ _ (selG_get hi hg) with h1 | ⟨_, _, _, h1⟩ <;> cases h1
          | _ => exact hro.elim
      | _ =>
        simp only [keepG] at hz
        subst hz
        exact ⟨fun _ => rfl, fun _ _ _ _ => .inl rfl, fun _ _ _ _ _ => .inl rfl⟩
    · by_cases hq2 : q ∈ List.range' b ns.length
      · rw [List.mem_range'_1] at hq2
        have hf := hI.fresh q hq2.1 (by rw [← hI.len]; omega)
        rw [hf]
        exact ⟨nofun, nofun, nofun⟩
      · have hqp : q ∉ ps := fun hm => (List.mem_append.1 hm).elim hq hq2
        rw [backG_other ps gs G q hqp]
        exact Up.refl G q
  -- the resources
  have hA : (resL os (List.zipWith keepG os g1) ++ resL ns g2).Sublist (resL out.2 (g1 ++ g2)) := by
    rw [ho, resL_append' hg1]
    have h1 := (back_keep hback hr1 (backG ps gs G)).2
    have h2 : resL ns g2 = resL rest g2 := by
      have hx' : All2 (RV1 (g1 ++ g2) Zc w') out.1 ys := ⟨by have := hx0.1; simpa using this, fun i a c ha hc => hx0.2 i (.v a) c (by simp [ha]) hc⟩
      exact (hvs (Gc := g1 ++ g2) (G'' := backG ps gs G) hx' hr2 hgat).2.2
    rw [h2]
    exact h1.append_right _
  have hperm := resL_back (js := ps) (os := os ++ ns) (h := s.heap) (gs := gs) (G := G) hpsn hpsl (by simp [ps, hjos]) (by simp [gs, hjos, hzl, hnl])
  have hB : (resL (kill js s.heap) (killG js G)).Perm (resL (sel0 (List.range' b ns.length) (kill js s.heap)) (selG (List.range' b ns.length) (killG js G)) ++ resL (kill ps s.heap) (killG ps G)) := by
    have := resL_sel (List.range' b ns.length) (kill js s.heap) (killG js G) List.nodup_range' (fun j hj => by rw [kill_length, killG_length]; exact hpsl j (List.mem_append.2 (.inr hj)))
    rw [show ps = js ++ List.range' b ns.length from rfl, kill_append, killG_append]; exact this
  have hgsl : resL (os ++ ns) gs = resL os (List.zipWith keepG os g1) ++ resL ns g2 := resL_append' (by rw [hzl, hjos])
  rw [hgsl] at hperm
  have hS1 := hfr.1.perm (hB.append_left (resL out.2 (g1 ++ g2)))
  have hsub : (resL os (List.zipWith keepG os g1) ++ resL ns g2 ++ resL (kill ps s.heap) (killG ps G)).Sublist (resL out.2 (g1 ++ g2) ++ (resL (sel0 (List.range' b ns.length) (kill js s.heap)) (selG (List.range' b ns.length) (killG js G)) ++ resL (kill ps s.heap) (killG ps G))) :=
    hA.append (List.sublist_append_right _ _)
  have hS := (hS1.sub hsub).perm hperm.symm
  -- what is known
  refine ⟨tupV vs', backH ps (os ++ ns) s.heap, backG ps gs G, by rw [← hH]; exact h, ?_, ?_, by rw [backH_length], hup⟩
  · refine ⟨hS.weak (relF_stable _ _ _) fun hh => ?_, fun j hj hjl => ?_, hI.mz⟩
    · obtain ⟨hc, hs⟩ := hh
      refine ⟨hs.1.mono fun _ _ _ q => q.up hup, ?_⟩
      have hc2 := hc.2
      rw [ho] at hc2
      have h1 : All2 (RO (g1 ++ g2) (zone w0 Z0 (resL (backH ps (os ++ ns) s.heap) (backG ps gs G))) w') olds g1 := by
        have := hc2.take olds.length
        rw [List.take_left, hg1, List.take_left] at this; exact this
      have h2 : All2 (RO (g1 ++ g2) (zone w0 Z0 (resL (backH ps (os ++ ns) s.heap) (backG ps gs G))) w') rest g2 := by
        have := hc2.drop olds.length
        rw [List.drop_left, hg1, List.drop_left] at this; exact this
      have hx' : All2 (RV1 (g1 ++ g2) (zone w0 Z0 (resL (backH ps (os ++ ns) s.heap) (backG ps gs G))) w') out.1 ys := ⟨by have := hc.1.1; simpa using this, fun i a c ha hc' => hc.1.2 i (.v a) c (by simp [ha]) hc'⟩
      refine back_all (hs.2.mono fun _ _ _ q => q.up hup) (All2.append (back_keep hback h1 _).1 (hvs hx' h2 hgat).2.1)
    · rw [backG_length] at hjl
      rw [backG_other ps gs G j ?_]
      · exact hI.fresh j (by omega) hjl
      · intro hm
        rcases List.mem_append.1 hm with hm | hm
        · have := hlt j hm; omega
        · rw [List.mem_range'_1] at hm; omega
  · obtain ⟨hc, hs⟩ := hS.per
    have hc2 := hc.2
    rw [ho] at hc2
    have h2 : All2 (RO (g1 ++ g2) (zone w0 Z0 (resL (backH ps (os ++ ns) s.heap) (backG ps gs G))) w') rest g2 := by
      have := hc2.drop olds.length
      rw [List.drop_left, hg1, List.drop_left] at this; exact this
    have hx' : All2 (RV1 (g1 ++ g2) (zone w0 Z0 (resL (backH ps (os ++ ns) s.heap) (backG ps gs G))) w') out.1 ys := ⟨by have := hc.1.1; simpa using this, fun i a c ha hc' => hc.1.2 i (.v a) c (by simp [ha]) hc'⟩
    have hfin := (hvs hx' h2 hgat).1
    match vs', hfin with
    | [], hfin => obtain rfl := hfin.nil_inv; exact ⟨[], rfl, All2.nil⟩
    | [x], hfin =>
      obtain ⟨y, ys', rfl, h1, h2⟩ := hfin.cons_inv
      obtain rfl := h2.nil_inv
      exact h1
    | x :: x' :: vs'', hfin =>
      have hl := hfin.1
      refine ⟨ys, ?_, hfin⟩
      rw [dif_neg]
      simp only [List.size_toArray, ← hl, List.length_cons]
      omega
end
end Go.Ab
