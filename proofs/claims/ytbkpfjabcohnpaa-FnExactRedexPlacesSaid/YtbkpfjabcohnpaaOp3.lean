/- The abstract run is sound: calls, put together. No program in sight. -/
import Derived.Test.YtbkpfjabcohnpaaOp2
set_option linter.unusedVariables false
set_option linter.unusedSimpArgs false
namespace Go.Ab
open Go Go.Dk

def backG : List Nat → List GO → List GO → List GO
  | j :: js, g :: gs, G => backG js gs (G.set j g)
  | _, _, G => G
theorem backH_length : ∀ (js : List Nat) (os h : List AObj), (backH js os h).length = h.length
  | [], _, _ => rfl
  | _ :: _, [], _ => rfl
  | j :: js, o :: os, h => by rw [backH, backH_length js os]; simp
theorem backG_length : ∀ (js : List Nat) (gs G : List GO), (backG js gs G).length = G.length
  | [], _, _ => rfl
  | _ :: _, [], _ => rfl
  | j :: js, o :: os, h => by rw [backG, backG_length js os]; simp
theorem backG_other : ∀ (js : List Nat) (gs G : List GO) (q : Nat), q ∉ js → (backG js gs G)[q]? = G[q]?
  | [], _, _, _, _ => rfl
  | _ :: _, [], _, _, _ => rfl
  | j :: js, g :: gs, G, q, h => by
    simp only [List.mem_cons, not_or] at h
    rw [backG, backG_other js gs _ q h.2, List.getElem?_set_ne (fun e => h.1 e.symm)]
theorem backG_at : ∀ (js : List Nat) (gs G : List GO) (i j : Nat) (g : GO), js.Nodup → js[i]? = some j → gs[i]? = some g → j < G.length → (backG js gs G)[j]? = some g
  | [], _, _, i, _, _, _, h, _, _ => by simp at h
  | _ :: _, [], _, i, _, _, _, _, h, _ => by simp at h
  | a :: js, x :: gs, G, 0, j, g, hn, hj, hg, hl => by
    simp only [List.getElem?_cons_zero, Option.some.injEq] at hj hg
    subst hj hg
    rw [List.nodup_cons] at hn
    rw [backG, backG_other js gs _ a hn.1]; simp [hl]
  | a :: js, x :: gs, G, i + 1, j, g, hn, hj, hg, hl => by
    rw [List.nodup_cons] at hn
    rw [backG]
    exact backG_at js gs _ i j g hn.2 (by simpa using hj) (by simpa using hg) (by simpa using hl)
theorem backH_append : ∀ (js js' : List Nat) (os os' h : List AObj), js.length = os.length → backH (js ++ js') (os ++ os') h = backH js' os' (backH js os h)
  | [], js', [], os', h, _ => rfl
  | j :: js, js', o :: os, os', h, hl => by simp only [List.cons_append, backH]; exact backH_append js js' os os' _ (by simpa using hl)
  | [], _, _ :: _, _, _, hl => by simp at hl
  | _ :: _, _, [], _, _, hl => by simp at hl
theorem back_all {R : AObj → GO → Prop} : ∀ {js : List Nat} {os h : List AObj} {gs G : List GO}, All2 R h G → All2 R os gs → All2 R (backH js os h) (backG js gs G)
  | [], os, h, gs, G, hh, ho => hh
  | j :: js, os, h, gs, G, hh, ho => by
    cases os with
    | nil => obtain rfl := ho.nil_inv; exact hh
    | cons o os =>
      obtain ⟨g, gs', rfl, h1, h2⟩ := ho.cons_inv
      show All2 R (backH js os (h.set j o)) (backG js gs' (G.set j g))
      exact back_all (hh.set j h1) h2
theorem kill_set : ∀ {js : List Nat} {j : Nat} {o : AObj} {h : List AObj}, j ∉ js → kill js (h.set j o) = (kill js h).set j o
  | [], _, _, _, _ => rfl
  | i :: js, j, o, h, hj => by
    simp only [List.mem_cons, not_or] at hj
    simp only [kill]
    rw [List.set_comm _ _ hj.1, kill_set hj.2]
theorem killG_set : ∀ {js : List Nat} {j : Nat} {g : GO} {G : List GO}, j ∉ js → killG js (G.set j g) = (killG js G).set j g
  | [], _, _, _, _ => rfl
  | i :: js, j, o, h, hj => by
    simp only [List.mem_cons, not_or] at hj
    simp only [killG]
    rw [List.set_comm _ _ hj.1, killG_set hj.2]
theorem kill_length : ∀ (js : List Nat) (h : List AObj), (kill js h).length = h.length
  | [], _ => rfl
  | j :: js, h => by rw [kill, kill_length js]; simp
theorem killG_length : ∀ (js : List Nat) (h : List GO), (killG js h).length = h.length
  | [], _ => rfl
  | j :: js, h => by rw [killG, killG_length js]; simp
theorem resL_back : ∀ {js : List Nat} {os h : List AObj} {gs G : List GO}, js.Nodup → (∀ j ∈ js, j < h.length ∧ j < G.length) → js.length = os.length → os.length = gs.length →
    (resL (backH js os h) (backG js gs G)).Perm (resL os gs ++ resL (kill js h) (killG js G))
  | [], os, h, gs, G, _, _, hl, hl2 => by
    obtain rfl := List.eq_nil_of_length_eq_zero hl.symm
    exact List.Perm.refl _
  | j :: js, [], h, gs, G, _, _, hl, _ => by simp at hl
  | j :: js, o :: os, h, [], G, _, _, _, hl => by simp at hl
  | j :: js, o :: os, h, g :: gs, G, hn, hl, h1, h2 => by
    rw [List.nodup_cons] at hn
    obtain ⟨hj, hjG⟩ := hl j (List.mem_cons_self ..)
    have ih := resL_back (js := js) (os := os) (h := h.set j o) (gs := gs) (G := G.set j g) hn.2 (fun i hi => by simpa using hl i (List.mem_cons_of_mem _ hi)) (by simpa using h1) (by simpa using h2)
    simp only [backH, backG, kill, killG]
    refine ih.trans ?_
    rw [kill_set hn.1, killG_set hn.1, kill_set hn.1, killG_set hn.1]
    have hin := resL_in (h := kill js h) (G := killG js G) o g (by rw [kill_length]; exact hj) (by rw [killG_length]; exact hjG)
    have : (resL os gs ++ resL ((kill js h).set j o) ((killG js G).set j g)).Perm (resL os gs ++ (resO o g ++ resL ((kill js h).set j .dead) ((killG js G).set j .gone))) := hin.symm.append_left _
    refine this.trans ?_
    simp only [resL]
    rw [← List.append_assoc]
    exact List.perm_append_comm.append_right _
theorem kill_append : ∀ (js js' : List Nat) (h : List AObj), kill (js ++ js') h = kill js' (kill js h)
  | [], _, _ => rfl
  | j :: js, js', h => by simp only [List.cons_append, kill]; exact kill_append js js' _
theorem killG_append : ∀ (js js' : List Nat) (h : List GO), killG (js ++ js') h = killG js' (killG js h)
  | [], _, _ => rfl
  | j :: js, js', h => by simp only [List.cons_append, killG]; exact killG_append js js' _
/-- What the caller keeps of an object that was handed in. -/
def keepG : AObj → GO → GO
  | .cells _, g => g
  | _, _ => .gone
theorem resL_append' {h h' : List AObj} {G G' : List GO} (hl : h.length = G.length) : resL (h ++ h') (G ++ G') = resL h G ++ resL h' G' := resL_append hl
section
variable {P : Program} {w0 w w' : World} {M Z0 : Zone} {b : Nat} {G : List GO} {s : AS} {tv : List Value} {r : List V1 × List AObj} {Z : Zone}
theorem back_keep : ∀ {olds os : List AObj} {gs Gc : List GO}, All2 Back olds os → All2 (RO Gc Z w) olds gs → ∀ G'' : List GO,
    All2 (RO G'' Z w) os (List.zipWith keepG os gs) ∧ (resL os (List.zipWith keepG os gs)).Sublist (resL olds gs)
  | [], os, gs, Gc, hb, hr, G'' => by
    obtain rfl := hb.nil_inv
    obtain rfl := hr.nil_inv
    exact ⟨All2.nil, List.Sublist.refl _⟩
  | o :: olds, os, gs, Gc, hb, hr, G'' => by
    obtain ⟨o', os', rfl, h1, h2⟩ := hb.cons_inv
    obtain ⟨g, gs', rfl, h3, h4⟩ := hr.cons_inv
    obtain ⟨a1, a2⟩ := back_keep h2 h4 G''
    simp only [List.zipWith_cons_cons]
    rcases h1 with rfl | ⟨l, y, rfl, rfl, hy⟩
    · refine ⟨All2.cons trivial a1, ?_⟩
      simp only [resL, resO_dead, List.nil_append]
      exact a2.trans (List.sublist_append_right _ _)
    · cases g with
      | cells bb T vs =>
        refine ⟨All2.cons (like_one hy h3) a1, ?_⟩
        simp only [resL, keepG]
        exact a2.append_left _
      | _ => exact h3.elim
theorem list_nodup {js : List Nat} {b n : Nat} (h : js.Nodup) (hb : ∀ j ∈ js, j < b) : (js ++ List.range' b n).Nodup := by
  rw [List.nodup_append]
  refine ⟨h, List.nodup_range', fun a ha c hc => ?_⟩
  rw [List.mem_range'_1] at hc
  have := hb a ha
  omega
/-- A call, and what is known behind it. -/
theorem callGo_sound {F : Callee} (hF : CallsOK P F) {f : FuncId} {fn : Func} (hfn : P.funcs[f]? = some fn) (hbody : fn.body.isSome = true) (hI : InvG w0 M Z0 b G s tv w) {ow : Bool} {tys : List TypeId} {rm : Nat} {k : AV → List AObj → OR} {vs : List V1} {xs : List Value}
    (hv : All2 (RV1 G (zn w0 Z0 s G) w) vs xs) (hb : b + rm ≤ s.heap.length) (h : callGo P F ow f tys b rm k vs s.heap = some r) :
    Calls P f xs.toArray w fun e w' => ∃ X, e = .returned X ∧ ∃ v h' G', k v h' = some r ∧ InvG w0 M Z0 (b + rm) G' ⟨s.tmps, h'⟩ tv w' ∧ RV G' (zn w0 Z0 ⟨s.tmps, h'⟩ G') w' v X ∧ h'.length = s.heap.length ∧ Up G G' := by
  unfold callGo at h
  generalize hjs : reach s.heap 64 (vs.flatMap refsV) [] = js at h
  replace h := cond_left h; obtain ⟨hok, h⟩ := h
  replace h := bind_some h; obtain ⟨out, hout, h⟩ := h
  have hokl : okJs js s.heap.length = true := by
    simp only [okJs, Bool.and_eq_true, List.all_eq_true, Nat.blt_eq] at hok ⊢
    exact ⟨hok.1, fun j hj => by have := hok.2 j hj; omega⟩
  obtain ⟨hnd, hlt⟩ := okJs_out hok
  have hpass := hI.pass hokl hv
  have hlen : (selH js s.heap).length = js.length := by simp [selH]
  have hcall := hF f fn _ _ out hfn hbody hout _ _ _ _ _ _ (by rw [hlen]; exact hpass)
  refine hcall.mono fun e w' ⟨ys, Gc, he, hIc, hupc⟩ => ?_
  refine ⟨_, he, ?_⟩
  obtain ⟨olds, os, rest, ho, h, hol, hback⟩ := backO_sound h
  obtain ⟨vs', ns, h, hns, hvs⟩ := valsT_sound h
  replace h := cond_left h; obtain ⟨hrm, h⟩ := h
  simp only [Nat.ble_eq] at hrm
  have hp := resL_sel js s.heap G hnd (fun j hj => ⟨by have := hlt j hj; omega, by have := hlt j hj; rw [← hI.len]; omega⟩)
  have heq : resL (selH js s.heap) (selG js G) = resL (sel0 js s.heap) (selG js G) := by rw [selH_eq, resL_ren]
  have hfr := frame hI.st hI.mz.1 hp hIc.st
  obtain ⟨hx0, hRO⟩ : All2 (RV Gc (zone w (fun k => zn w0 Z0 s G k ∨ footL (resL (sel0 js s.heap) (selG js G)) k) (resL out.2 Gc)) w') (out.1.map .v) ys ∧ All2 (RO Gc (zone w (fun k => zn w0 Z0 s G k ∨ footL (resL (sel0 js s.heap) (selG js G)) k) (resL out.2 Gc)) w') out.2 Gc := hIc.st.per
  generalize zone w (fun k => zn w0 Z0 s G k ∨ footL (resL (sel0 js s.heap) (selG js G)) k) (resL out.2 Gc) = Zc at hx0 hRO
  rw [ho] at hRO
  obtain ⟨g1, g2, rfl, hr1, hr2⟩ := hRO.append_inv
  have hjo : js.length = olds.length := by rw [hol, hlen]
  have hjos : js.length = os.length := by rw [hjo, hback.1]
  have hg1 : olds.length = g1.length := hr1.1
  let ps := js ++ List.range' b ns.length
  let gs := List.zipWith keepG os g1 ++ g2
  have hzl : (List.zipWith keepG os g1).length = js.length := by rw [List.length_zipWith, ← hjos, ← hg1, ← hjo]; simp
  have hpsn : ps.Nodup := list_nodup hnd hlt
  have hpsl : ∀ j ∈ ps, j < s.heap.length ∧ j < G.length := by
    intro j hj
    rw [← hI.len]
    rcases List.mem_append.1 hj with hj | hj
    · have := hlt j hj; omega
    · rw [List.mem_range'_1] at hj; omega
  have hnl : ns.length = g2.length := by rw [hns]; exact hr2.1
  have hH : putO b ns (backH js os s.heap) = backH ps (os ++ ns) s.heap := by
    rw [backH_append js _ os ns s.heap hjos]; rfl
  have hgat : ∀ (i : Nat) g, g2[i]? = some g → (g1 ++ g2)[js.length + i]? = some g ∧ (backG ps gs G)[b + i]? = some g := by
    intro i g hi
    have hil := lt_of_some hi
    refine ⟨by rw [List.getElem?_append_right (by omega), show js.length + i - g1.length = i by omega]; exact hi, ?_⟩
    refine backG_at ps gs G (js.length + i) (b + i) g hpsn ?_ ?_ ?_
    · show (js ++ List.range' b ns.length)[js.length + i]? = _
      rw [List.getElem?_append_right (by omega)]
      simp [hnl, hil]
    · show (List.zipWith keepG os g1 ++ g2)[js.length + i]? = _
      rw [List.getElem?_append_right (by omega), hzl]; simpa using hi
    · rw [← hI.len]; omega
  -- what is spoken of goes on
  have hup : Up G (backG ps gs G) := by
    intro q
    by_cases hq : q ∈ js
    · obtain ⟨i, hi⟩ := List.getElem?_of_mem hq
      have hil := lt_of_some hi
      have hz : ∃ g, (List.zipWith keepG os g1)[i]? = some g := ⟨_, List.getElem?_eq_getElem (by rw [hzl]; exact hil)⟩
      obtain ⟨g, hz⟩ := hz
      have hat : (backG ps gs G)[q]? = some g := by
        refine backG_at ps gs G i q g hpsn ?_ ?_ (hpsl q (List.mem_append.2 (.inl hq))).2
        · show (js ++ _)[i]? = _; rw [List.getElem?_append_left hil]; exact hi
        · show (_ ++ g2)[i]? = _; rw [List.getElem?_append_left (by rw [hzl]; exact hil)]; exact hz
      rw [List.getElem?_zipWith] at hz
      have ho1 : os[i]? = some (os[i]'(by omega)) := List.getElem?_eq_getElem _
      have hg1' : g1[i]? = some (g1[i]'(by omega)) := List.getElem?_eq_getElem _
      generalize os[i]'(by omega) = o1 at ho1
      generalize g1[i]'(by omega) = gg1 at hg1'
      rw [ho1, hg1'] at hz
      simp only [Option.some.injEq] at hz
      have hgc : (g1 ++ g2)[i]? = some gg1 := by rw [List.getElem?_append_left (by omega)]; exact hg1'
      have hu := hupc i
      rw [hgc] at hu
      rw [hat]
      cases o1 with
      | cells y =>
        simp only [keepG] at hz
        subst hz
        obtain ⟨oo, hoo, hbk⟩ := hback.get' ho1
        have hro := hr1.2 i oo gg1 hoo hg1'
        rcases hbk with hbk | ⟨l, y', rfl, _, _⟩
        · cases hbk
        · cases gg1 with
          | cells bb T vs0 =>
            refine ⟨fun hg => ?_, fun b0 T0 vs1 hg => ?_, fun ver val sz xs0 hg => ?_⟩
            · have := hu.1 (selG_get hi hg); cases this
            · rcases hu.2.1 _ _ _ (selG_get hi hg) with h1 | ⟨T', vs', h1⟩
              · cases h1
              · right; injection h1 with h1; injection h1 with h1 h2 h3; subst h1; exact ⟨T, vs0, rfl⟩
            · rcases hu.2.2 _ _ _ _ (selG_get hi hg) with h1 | ⟨_, _, _, h1⟩ <;> cases h1
          | _ => exact hro.elim
      | _ =>
        simp only [keepG] at hz
        subst hz
        exact ⟨fun _ => rfl, fun _ _ _ _ => .inl rfl, fun _ _ _ _ _ => .inl rfl⟩
    · by_cases hq2 : q ∈ List.range' b ns.length
      · rw [List.mem_range'_1] at hq2
        have hf := hI.fresh q hq2.1 (by rw [← hI.len]; omega)
        rw [hf]
        exact ⟨nofun, nofun, nofun⟩
      · have hqp : q ∉ ps := fun hm => (List.mem_append.1 hm).elim hq hq2
        rw [backG_other ps gs G q hqp]
        exact Up.refl G q
  -- the resources
  have hA : (resL os (List.zipWith keepG os g1) ++ resL ns g2).Sublist (resL out.2 (g1 ++ g2)) := by
    rw [ho, resL_append' hg1]
    have h1 := (back_keep hback hr1 (backG ps gs G)).2
    have h2 : resL ns g2 = resL rest g2 := by
      have hx' : All2 (RV1 (g1 ++ g2) Zc w') out.1 ys := ⟨by have := hx0.1; simpa using this, fun i a c ha hc => hx0.2 i (.v a) c (by simp [ha]) hc⟩
      exact (hvs (Gc := g1 ++ g2) (G'' := backG ps gs G) hx' hr2 hgat).2.2
    rw [h2]
    exact h1.append_right _
  have hperm := resL_back (js := ps) (os := os ++ ns) (h := s.heap) (gs := gs) (G := G) hpsn hpsl (by simp [ps, hjos]) (by simp [gs, hjos, hzl, hnl])
  have hB : (resL (kill js s.heap) (killG js G)).Perm (resL (sel0 (List.range' b ns.length) (kill js s.heap)) (selG (List.range' b ns.length) (killG js G)) ++ resL (kill ps s.heap) (killG ps G)) := by
    have := resL_sel (List.range' b ns.length) (kill js s.heap) (killG js G) List.nodup_range' (fun j hj => by rw [kill_length, killG_length]; exact hpsl j (List.mem_append.2 (.inr hj)))
    rw [show ps = js ++ List.range' b ns.length from rfl, kill_append, killG_append]; exact this
  have hgsl : resL (os ++ ns) gs = resL os (List.zipWith keepG os g1) ++ resL ns g2 := resL_append' (by rw [hzl, hjos])
  rw [hgsl] at hperm
  have hS1 := hfr.1.perm (hB.append_left (resL out.2 (g1 ++ g2)))
  have hsub : (resL os (List.zipWith keepG os g1) ++ resL ns g2 ++ resL (kill ps s.heap) (killG ps G)).Sublist (resL out.2 (g1 ++ g2) ++ (resL (sel0 (List.range' b ns.length) (kill js s.heap)) (selG (List.range' b ns.length) (killG js G)) ++ resL (kill ps s.heap) (killG ps G))) :=
    hA.append (List.sublist_append_right _ _)
  have hS := (hS1.sub hsub).perm hperm.symm
  -- what is known
  refine ⟨tupV vs', backH ps (os ++ ns) s.heap, backG ps gs G, by rw [← hH]; exact h, ?_, ?_, by rw [backH_length], hup⟩
  · refine ⟨hS.weak (relF_stable _ _ _) fun hh => ?_, fun j hj hjl => ?_, hI.mz⟩
    · obtain ⟨hc, hs⟩ := hh
      refine ⟨hs.1.mono fun _ _ _ q => q.up hup, ?_⟩
      have hc2 := hc.2
      rw [ho] at hc2
      have h1 : All2 (RO (g1 ++ g2) (zone w0 Z0 (resL (backH ps (os ++ ns) s.heap) (backG ps gs G))) w') olds g1 := by
        have := hc2.take olds.length
        rw [List.take_left, hg1, List.take_left] at this; exact this
      have h2 : All2 (RO (g1 ++ g2) (zone w0 Z0 (resL (backH ps (os ++ ns) s.heap) (backG ps gs G))) w') rest g2 := by
        have := hc2.drop olds.length
        rw [List.drop_left, hg1, List.drop_left] at this; exact this
      have hx' : All2 (RV1 (g1 ++ g2) (zone w0 Z0 (resL (backH ps (os ++ ns) s.heap) (backG ps gs G))) w') out.1 ys := ⟨by have := hc.1.1; simpa using this, fun i a c ha hc' => hc.1.2 i (.v a) c (by simp [ha]) hc'⟩
      refine back_all (hs.2.mono fun _ _ _ q => q.up hup) (All2.append (back_keep hback h1 _).1 (hvs hx' h2 hgat).2.1)
    · rw [backG_length] at hjl
      rw [backG_other ps gs G j ?_]
      · exact hI.fresh j (by omega) hjl
      · intro hm
        rcases List.mem_append.1 hm with hm | hm
        · have := hlt j hm; omega
        · rw [List.mem_range'_1] at hm; omega
  · obtain ⟨hc, hs⟩ := hS.per
    have hc2 := hc.2
    rw [ho] at hc2
    have h2 : All2 (RO (g1 ++ g2) (zone w0 Z0 (resL (backH ps (os ++ ns) s.heap) (backG ps gs G))) w') rest g2 := by
      have := hc2.drop olds.length
      rw [List.drop_left, hg1, List.drop_left] at this; exact this
    have hx' : All2 (RV1 (g1 ++ g2) (zone w0 Z0 (resL (backH ps (os ++ ns) s.heap) (backG ps gs G))) w') out.1 ys := ⟨by have := hc.1.1; simpa using this, fun i a c ha hc' => hc.1.2 i (.v a) c (by simp [ha]) hc'⟩
    have hfin := (hvs hx' h2 hgat).1
    match vs', hfin with
    | [], hfin => obtain rfl := hfin.nil_inv; exact ⟨[], rfl, All2.nil⟩
    | [x], hfin =>
      obtain ⟨y, ys', rfl, h1, h2⟩ := hfin.cons_inv
      obtain rfl := h2.nil_inv
      exact h1
    | x :: x' :: vs'', hfin =>
      have hl := hfin.1
      refine ⟨ys, ?_, hfin⟩
      rw [dif_neg]
      simp only [List.size_toArray, ← hl, List.length_cons]
      omega
end
end Go.Ab
namespace Go.Ab
open Go Go.Dk

section
variable {P : Program} {w0 w w' : World} {M Z0 : Zone} {b : Nat} {G : List GO} {s : AS} {tv : List Value} {r : List V1 × List AObj}
/-- Behind an operation. -/
def StepTo (w0 : World) (M Z0 : Zone) (b' : Nat) (G : List GO) (s : AS) (tv : List Value) (d : Option Tmp) (k : AV → List AObj → OR) (r : List V1 × List AObj) (a' : Act) (w' : World) : Prop :=
  ∃ v h' G' tv', k v h' = some r ∧ a' = ⟨tv'.toArray, []⟩ ∧ InvG w0 M Z0 b' G' (AS.put ⟨s.tmps, h'⟩ d v) tv' w' ∧ h'.length = s.heap.length ∧ Up G G' ∧ ∃ X, tv' = (match d with | some d => tv.set d X | none => tv)
theorem put_act (tv : List Value) (d : Option Tmp) (X : Value) : (Act.mk tv.toArray []).put d X = ⟨(match d with | some d => tv.set d X | none => tv).toArray, []⟩ := by
  cases d with
  | none => rfl
  | some d => simp [Act.put]
theorem getD_rel {α β : Type} {R : α → β → Prop} {l : List α} {m : List β} {da : α} {db : β} (h : All2 R l m) (hd : ∀ y, R da y) (i : Nat) : R (l.getD i da) (m.getD i db) := by
  cases hi : l[i]? with
  | none => simp only [List.getD, hi, Option.getD_none]; exact hd _
  | some a => obtain ⟨y, hy, hr⟩ := h.get hi; simp only [List.getD, hi, hy, Option.getD_some]; exact hr
theorem InvG.ev (hI : InvG w0 M Z0 b G s tv w) (x : Operand) : RV G (zn w0 Z0 s G) w (s.ev x) (Act.eval ⟨tv.toArray, []⟩ x) := by
  cases x with
  | tmp t => rw [evalT]; exact getD_rel hI.st.per.1 any_rel t
  | const v => exact ofValue_rel v
  | global g => exact any_rel _
  | func f => exact ⟨⟨[], rfl, All2.nil⟩, fun _ => rfl⟩
theorem value_to {o : Oper} {k : AV → List AObj → OR} {b' : Nat} {G' : List GO} {h' : List AObj} {v : AV} {X : Value} {Q : Exit → Act → World → Prop} (hr : (execOp (Act.eval ⟨tv.toArray, []⟩) o).run P w = .ok (.value X) w') (hk : k v h' = some r)
    (hI : InvG w0 M Z0 b' G' ⟨s.tmps, h'⟩ tv w') (hv : RV G' (zn w0 Z0 ⟨s.tmps, h'⟩ G') w' v X) (hl : h'.length = s.heap.length) (hu : Up G G') : o.wp P ⟨tv.toArray, []⟩ w (StepTo w0 M Z0 b' G s tv o.dst k r) Q := by
  simp only [Oper.wp, hr, Oper.upon]
  exact ⟨v, h', G', _, hk, put_act _ _ _, hI.put o.dst hv, hl, hu, X, by cases o.dst <;> rfl⟩
/-- An operation that leaves all as it is. -/
theorem value_same {o : Oper} {k : AV → List AObj → OR} {b' : Nat} {v : AV} {X : Value} {Q : Exit → Act → World → Prop} (hI : InvG w0 M Z0 b G s tv w) (hb : b ≤ b') (hr : (execOp (Act.eval ⟨tv.toArray, []⟩) o).run P w = .ok (.value X) w) (hk : k v s.heap = some r)
    (hv : RV G (zn w0 Z0 s G) w v X) : o.wp P ⟨tv.toArray, []⟩ w (StepTo w0 M Z0 b' G s tv o.dst k r) Q :=
  value_to hr hk (hI.raise hb) hv rfl (Up.refl G)
theorem call_to {o : Oper} {k : AV → List AObj → OR} {b' : Nat} {f : FuncId} {args : Array Value} {Q : Exit → Act → World → Prop} (hr : (execOp (Act.eval ⟨tv.toArray, []⟩) o).run P w = .ok (.enter f args) w)
    (hc : Calls P f args w fun e w' => ∃ X, e = .returned X ∧ ∃ v h' G', k v h' = some r ∧ InvG w0 M Z0 b' G' ⟨s.tmps, h'⟩ tv w' ∧ RV G' (zn w0 Z0 ⟨s.tmps, h'⟩ G') w' v X ∧ h'.length = s.heap.length ∧ Up G G') :
    o.wp P ⟨tv.toArray, []⟩ w (StepTo w0 M Z0 b' G s tv o.dst k r) Q := by
  simp only [Oper.wp, hr, Oper.upon]
  refine hc.mono fun e w' ⟨X, he, v, h', G', hk, hI, hv, hl, hu⟩ => ?_
  subst he
  exact ⟨v, h', G', _, hk, put_act _ _ _, hI.put o.dst hv, hl, hu, X, by cases o.dst <;> rfl⟩
theorem v1L_sound {Z : Zone} : ∀ {vs : List AV} {Xs : List Value} {l : List V1}, v1L vs = some l → All2 (RV G Z w) vs Xs → All2 (RV1 G Z w) l Xs
  | [], Xs, l, h, ha => by
    obtain rfl := ha.nil_inv
    simp only [v1L, Option.some.injEq] at h; subst h; exact All2.nil
  | .v x :: vs, Xs, l, h, ha => by
    obtain ⟨X, Xs', rfl, h1, h2⟩ := ha.cons_inv
    simp only [v1L, Option.map_eq_some_iff] at h
    obtain ⟨l', hl, rfl⟩ := h
    exact All2.cons h1 (v1L_sound hl h2)
  | .tup _ :: vs, Xs, l, h, ha => by simp [v1L] at h
theorem InvG.evL (hI : InvG w0 M Z0 b G s tv w) (l : List Operand) : All2 (RV G (zn w0 Z0 s G) w) (l.map s.ev) (l.map (Act.eval ⟨tv.toArray, []⟩)) :=
  ⟨by simp, fun i x y hx hy => by
    rw [List.getElem?_map] at hx hy
    obtain ⟨q, hq, rfl⟩ := Option.map_eq_some_iff.1 hx
    rw [hq] at hy
    obtain rfl := Option.some.inj hy
    exact hI.ev q⟩
theorem callB_fn {f : FuncId} (h : callB P f = true) : ∃ fn, P.funcs[f]? = some fn ∧ fn.body.isSome = true := by
  unfold callB at h
  split at h
  · rename_i fn hf
    simp only [Bool.and_eq_true] at h
    exact ⟨fn, hf, h.2⟩
  · cases h
theorem callK_sound {F : Callee} {D : Dec} (hF : CallsOK P F) (hI : InvG w0 M Z0 b G s tv w) {f : FuncId} {rm : Nat} {k : AV → List AObj → OR} {vs : List V1} {xs : List Value}
    (hv : All2 (RV1 G (zn w0 Z0 s G) w) vs xs) (hb : b + rm ≤ s.heap.length) (h : callK P F D f vs s.heap b rm k = some r) :
    callB P f = true ∧ Calls P f xs.toArray w fun e w' => ∃ X, e = .returned X ∧ ∃ v h' G', k v h' = some r ∧ InvG w0 M Z0 (b + rm) G' ⟨s.tmps, h'⟩ tv w' ∧ RV G' (zn w0 Z0 ⟨s.tmps, h'⟩ G') w' v X ∧ h'.length = s.heap.length ∧ Up G G' := by
  unfold callK at h
  split at h
  · cases h
  · rename_i fn hfn
    replace h := cond_left h; obtain ⟨hcb, h⟩ := h
    refine ⟨hcb, ?_⟩
    obtain ⟨fn', hfn', hbody⟩ := callB_fn hcb
    rw [hfn] at hfn'
    obtain rfl := Option.some.inj hfn'
    rcases cond_some h with ⟨_, h⟩ | ⟨_, h⟩
    · exact callGo_sound hF hfn hbody hI hv hb h
    · obtain ⟨vs', h1, h2, hs, hv'⟩ := sealVs_sound hI hv h
      have hl : h1.length = s.heap.length := by have := hs.inv.len; have := hI.len; simp at *; omega
      have := callGo_sound hF hfn hbody hs.inv hv' (by rw [show (AS.mk s.tmps h1).heap.length = h1.length from rfl, hl]; exact hb) h2
      refine this.mono fun e w' ⟨X, he, v, h', G', q1, q2, q3, q4, q5⟩ => ⟨X, he, v, h', G', q1, q2, q3, by rw [q4]; exact hl, q5⟩
theorem two_of {args : Array Operand} {X Y : AV} (h : args.toList.map s.ev = [X, Y]) : ∃ x y, args = #[x, y] ∧ s.ev x = X ∧ s.ev y = Y := by
  obtain ⟨l⟩ := args
  match l, h with
  | [x, y], h => exact ⟨x, y, rfl, by simpa using h⟩
theorem builtin_sound {D : Dec} (hI : InvG w0 M Z0 b G s tv w) {bi : Builtin} {args : Array Operand} {tys : Array TypeId} {dst : Option Tmp} {ty : TypeId} {pos : String} {aft : Array Edge} {gd : Option (Nat × Bool)} {k : AV → List AObj → OR} {Q : Exit → Act → World → Prop}
    (hb : b + nObj P D ⟨dst, .call ⟨.builtin bi, args, tys⟩, ty, pos, aft, gd⟩ ≤ s.heap.length) (h : evBuiltin P bi (args.toList.map s.ev) tys.toList s.heap b k = some r) :
    (Oper.mk dst (.call ⟨.builtin bi, args, tys⟩) ty pos aft gd).wp P ⟨tv.toArray, []⟩ w (StepTo w0 M Z0 (b + nObj P D ⟨dst, .call ⟨.builtin bi, args, tys⟩, ty, pos, aft, gd⟩) G s tv dst k r) Q := by
  have hE := hI.ev
  have hle := Nat.le_add_right b (nObj P D ⟨dst, .call ⟨.builtin bi, args, tys⟩, ty, pos, aft, gd⟩)
  have one : ∀ {X : AV}, args.toList.map s.ev = [X] → ∃ x, args = #[x] ∧ s.ev x = X := by
    intro X h
    obtain ⟨l⟩ := args
    match l, h with
    | [x], h => exact ⟨x, rfl, by simpa using h⟩
  have two : ∀ {X Y : AV}, args.toList.map s.ev = [X, Y] → ∃ x y, args = #[x, y] ∧ s.ev x = X ∧ s.ev y = Y := by
    intro X Y h
    obtain ⟨l⟩ := args
    match l, h with
    | [x, y], h => exact ⟨x, y, rfl, by simpa using h⟩
  unfold evBuiltin at h
  split at h
  · rename_i X t ha ht
    obtain ⟨x, rfl, rfl⟩ := one ha
    have ht : tys = #[t] := by rw [← Array.toList_inj, ht]
    subst ht
    obtain ⟨v, Y, hk, hr, hv⟩ := evLen_sound (d := dst) (ty := ty) (pos := pos) (aft := aft) (gd := gd) hI (hE x) h
    exact value_same hI hle hr hk hv.rv
  · rename_i X Y t t' ha ht
    obtain ⟨x, y, rfl, rfl, rfl⟩ := two ha
    replace h := cond_left h; obtain ⟨htt, h⟩ := h
    simp only [Nat.beq_eq] at htt
    subst htt
    have ht : tys = #[t, t] := by rw [← Array.toList_inj, ht]
    subst ht
    have hb' : b < G.length := by rw [← hI.len]; simp only [nObj] at hb; omega
    obtain ⟨v, h', G', w', X, hk, hr, h1, h2, h3, h4⟩ := evAppend_sound (d := dst) (ty := ty) (pos := pos) (aft := aft) (gd := gd) hI hb' (hE x) (hE y) h
    exact value_to hr hk h1 h2.rv h3 h4
  · rename_i X Y ha
    obtain ⟨x, y, rfl, rfl, rfl⟩ := two ha
    obtain ⟨v, X, hk, hr, hv⟩ := evMax_sound (mx := true) (tys := tys) (d := dst) (ty := ty) (pos := pos) (aft := aft) (gd := gd) (P := P) (w := w) (hE x) (hE y) h
    exact value_same hI hle hr hk hv.rv
  · rename_i X Y ha
    obtain ⟨x, y, rfl, rfl, rfl⟩ := two ha
    obtain ⟨v, X, hk, hr, hv⟩ := evMax_sound (mx := false) (tys := tys) (d := dst) (ty := ty) (pos := pos) (aft := aft) (gd := gd) (P := P) (w := w) (hE x) (hE y) h
    exact value_same hI hle hr hk hv.rv
  · cases h
theorem closure_sound {F : Callee} {D : Dec} (hF : CallsOK P F) (hI : InvG w0 M Z0 b G s tv w) {x : Operand} {args : Array Operand} {tys : Array TypeId} {dst : Option Tmp} {ty : TypeId} {pos : String} {aft : Array Edge} {gd : Option (Nat × Bool)} {k : AV → List AObj → OR} {Q : Exit → Act → World → Prop} {rm : Nat}
    (hb : b + rm ≤ s.heap.length) (h : (match s.ev x with
      | .v (.one (.fn f l)) => (v1L (args.toList.map s.ev)).bind fun vs => callK P F D f (vs ++ l.map fun j => .one (.ptr j 0)) s.heap b rm k
      | _ => none) = some r) :
    (Oper.mk dst (.call ⟨.value x, args, tys⟩) ty pos aft gd).wp P ⟨tv.toArray, []⟩ w (StepTo w0 M Z0 (b + rm) G s tv dst k r) Q := by
  split at h
  · rename_i f l hx
    have hX := hI.ev x
    rw [hx] at hX
    obtain ⟨⟨bs, hX, hh⟩, _⟩ := hX
    replace h := bind_some h; obtain ⟨vs, hvs, h⟩ := h
    have hcaps : All2 (RV1 G (zn w0 Z0 s G) w) (l.map fun j => V1.one (.ptr j 0)) (bs.map fun b => pv b 0) := by
      refine ⟨by simp [hh.1], fun i a c ha hc => ?_⟩
      rw [List.getElem?_map] at ha hc
      obtain ⟨j, hj, rfl⟩ := Option.map_eq_some_iff.1 ha
      obtain ⟨bb, hbb, rfl⟩ := Option.map_eq_some_iff.1 hc
      refine ⟨?_, fun _ => rfl⟩
      rcases hh.2 i j bb hj hbb with h1 | ⟨T, vs, h1⟩
      · exact .inl h1
      · exact .inr ⟨bb, T, vs, h1, rfl⟩
    obtain ⟨hcb, hc⟩ := callK_sound hF hI (All2.append (v1L_sound hvs (hI.evL args.toList)) hcaps) hb h
    refine call_to (f := f) (args := (args.toList.map (Act.eval ⟨tv.toArray, []⟩) ++ bs.map fun b => pv b 0).toArray) ?_ hc
    have := run_call_op (P := P) (ρ := Act.eval ⟨tv.toArray, []⟩) (f := f) (x := x) (first := #[]) (cap := (bs.map fun b => pv b 0).toArray) (xs := args) (ats := tys) (d := dst) (ty := ty) (pos := pos) (aft := aft) (gd := gd) hX hcb w
    rw [this]
    congr 2
    exact Array.toList_inj.1 (by simp)
  · cases h
theorem evOp_sound {F : Callee} {D : Dec} (hF : CallsOK P F) (hib : ∀ f, D.ib f = true → extIB P f) (hI : InvG w0 M Z0 b G s tv w) {o : Oper} {k : AV → List AObj → OR} {Q : Exit → Act → World → Prop}
    (hb : b + nObj P D o ≤ s.heap.length) (h : evOp P F D o s.ev s.heap b k = some r) : o.wp P ⟨tv.toArray, []⟩ w (StepTo w0 M Z0 (b + nObj P D o) G s tv o.dst k r) Q := by
  have hE := hI.ev
  obtain ⟨dst, op, ty, pos, aft, gd⟩ := o
  have hle := Nat.le_add_right b (nObj P D ⟨dst, op, ty, pos, aft, gd⟩)
  cases op <;> simp only [evOp] at h
  case move x => exact value_same hI hle ((Y_move (S := fun _ => True) rfl).out w trivial) h (retype_rel _ (hE x))
  case assign x => exact value_same hI hle ((Y_assign (S := fun _ => True) rfl).out w trivial) h (retype_rel _ (hE x))
  case pick c x y =>
    split at h
    · rename_i t hc
      have hcv := hE c
      rw [hc] at hcv
      rcases cond_some h with ⟨rfl, h⟩ | ⟨rfl, h⟩
      · exact value_same hI hle ((Y_pickT (S := fun _ => True) (bool_inv hcv) rfl).out w trivial) h (hE x)
      · exact value_same hI hle ((Y_pickF (S := fun _ => True) (bool_inv hcv) rfl).out w trivial) h (hE y)
    · cases h
  case alloc e =>
    replace h := bind_some h; obtain ⟨z, hz, h⟩ := h
    obtain ⟨cs, hzb, hzr⟩ := zeroS_out hz
    have hb' : b < G.length := by rw [← hI.len]; simp only [nObj] at hb; omega
    obtain ⟨h1, h2, h3⟩ := newCells hI hb' (hzr G _ w) e
    exact value_to (run_alloc hzb) h h1 h2 (by simp) h3
  case box e x =>
    replace h := bind_some h; obtain ⟨c, hc, h⟩ := h
    obtain ⟨xs, hX, hr⟩ := cs_sound hc (hE x)
    have hb' : b < G.length := by rw [← hI.len]; simp only [nObj] at hb; omega
    obtain ⟨h1, h2, h3⟩ := newCells hI hb' hr e
    exact value_to (run_box hX) h h1 h2 (by simp) h3
  case build t ps =>
    obtain ⟨v, X, hk, hr, hv⟩ := evBuild_sound (ρ := Act.eval ⟨tv.toArray, []⟩) (d := dst) (ty := ty) (pos := pos) (aft := aft) (gd := gd) hE h
    exact value_same hI hle hr hk hv
  case buildSlice t n ps =>
    have hb' : b < G.length := by rw [← hI.len]; simp only [nObj] at hb; omega
    obtain ⟨v, h', G', w', X, hk, hr, h1, h2, h3, h4⟩ := evBuildSlice_sound (ρ := Act.eval ⟨tv.toArray, []⟩) (d := dst) (ty := ty) (pos := pos) (aft := aft) (gd := gd) hI hb' hE h
    exact value_to hr hk h1 h2 h3 h4
  case load t x =>
    obtain ⟨v, X, hk, hr, hv⟩ := evLoad_sound (d := dst) (ty := ty) (pos := pos) (aft := aft) (gd := gd) hI (hE x) h
    exact value_same hI hle hr hk hv
  case store t x y =>
    obtain ⟨h', G', w', hk, hr, h1, h2, h3⟩ := evStore_sound (d := dst) (ty := ty) (pos := pos) (aft := aft) (gd := gd) hI (hE x) (hE y) h
    simp only [Oper.wp, hr, Oper.upon]
    exact ⟨anyV, h', G', _, hk, put_act _ _ _, (h1.raise hle).put dst (any_rel _), h2, h3, undef, by cases dst <;> rfl⟩
  case nilCheck x =>
    obtain ⟨v, X, hk, hr, hv⟩ := evNil_sound (d := dst) (ty := ty) (pos := pos) (aft := aft) (gd := gd) hI (hE x) h
    exact value_same hI hle hr hk hv.rv
  case binOp op t x y t' =>
    obtain ⟨v, X, hk, hr, hv⟩ := evBin_sound (d := dst) (ty := ty) (pos := pos) (aft := aft) (gd := gd) (t' := t') (P := P) (w := w) (hE x) (hE y) h
    exact value_same hI hle hr hk hv.rv
  case unOp op t x =>
    obtain ⟨v, X, hk, hr, hv⟩ := evUn_sound (d := dst) (ty := ty) (t := t) (pos := pos) (aft := aft) (gd := gd) (P := P) (w := w) (hE x) h
    exact value_same hI hle hr hk hv.rv
  case convert t t' x =>
    obtain ⟨v, X, hk, hr, hv⟩ := evConv_sound (d := dst) (ty := ty) (pos := pos) (aft := aft) (gd := gd) hI (hE x) h
    exact value_same hI hle hr hk hv.rv
  case makeFunc fn first caps =>
    split at h
    · rename_i f hfirst
      replace h := bind_some h; obtain ⟨l, hl, h⟩ := h
      obtain ⟨bs, hbs, hh⟩ := capsOf_sound hI (hI.evL caps.toList) hl
      have hf : first = #[] := by cases first; simp_all
      subst hf
      have hr : (execOp (Act.eval ⟨tv.toArray, []⟩) ⟨dst, .makeFunc (.func f) #[] caps, ty, pos, aft, gd⟩).run P w = .ok (.value (.func (.func f) #[] (bs.map fun b => pv b 0).toArray)) w := by
        have := (Y_makeFunc (P := P) (S := fun _ => True) (ρ := Act.eval ⟨tv.toArray, []⟩) (d := dst) (ty := ty) (pos := pos) (aft := aft) (gd := gd) (fn := .func f) (first := []) (cap := caps.toList) (vf := []) (vc := bs.map fun b => pv b 0) rfl hbs).out w trivial
        simpa using this
      exact value_same hI hle hr h ⟨⟨bs, rfl, hh⟩, fun _ => rfl⟩
    · cases h
  case makeSlice t x y =>
    have hb' : b < G.length := by rw [← hI.len]; simp only [nObj] at hb; omega
    obtain ⟨v, h', G', w', X, hk, hr, h1, h2, h3, h4⟩ := evMake_sound (ρ := Act.eval ⟨tv.toArray, []⟩) (d := dst) (ty := ty) (pos := pos) (aft := aft) (gd := gd) hI hb' (hE x) (hE y) h
    exact value_to hr hk h1 h2.rv h3 h4
  case slice t x lo hi mx =>
    obtain ⟨v, h', X, hk, hr, hs, hv⟩ := evSlice_sound (ρ := Act.eval ⟨tv.toArray, []⟩) (d := dst) (ty := ty) (pos := pos) (aft := aft) (gd := gd) hI hE h
    exact value_to hr hk (hs.inv.raise hle) hv.rv (by have := hs.inv.len; have := hI.len; simp at *; omega) (Up.refl G)
  case fieldAddr t x i =>
    replace h := bind_some h; obtain ⟨D, hD, h⟩ := h
    obtain ⟨v, X, hk, hr, hv⟩ := evField_sound (d := dst) (ty := ty) (pos := pos) (aft := aft) (gd := gd) hI (hE x) hD h
    exact value_same hI hle hr hk hv.rv
  case indexAddr t x y =>
    obtain ⟨v, X, hk, hr, hv⟩ := evIndexAddr_sound (d := dst) (ty := ty) (pos := pos) (aft := aft) (gd := gd) hI (hE x) (hE y) h
    exact value_same hI hle hr hk hv.rv
  case index t x y =>
    obtain ⟨v, X, hk, hr, hv⟩ := evIndex_sound (d := dst) (ty := ty) (pos := pos) (aft := aft) (gd := gd) (P := P) (w := w) (hE x) (hE y) h
    exact value_same hI hle hr hk hv.rv
  case extract x i =>
    obtain ⟨v, X, hk, hr, hv⟩ := evExtract_sound (d := dst) (ty := ty) (pos := pos) (aft := aft) (gd := gd) (P := P) (w := w) (hE x) h
    exact value_same hI hle hr hk hv
  case call c =>
    obtain ⟨callee, args, tys⟩ := c
    cases callee with
    | builtin bi =>
      exact builtin_sound hI hb h
    | invoke q m => simp at h
    | value f =>
      cases f with
      | func f =>
        simp only at h
        rcases cond_some h with ⟨hi, h⟩ | ⟨_, h⟩
        · split at h
          · rename_i a n hargs
            obtain ⟨hn, hk⟩ := cond_left h
            simp only [Bool.and_eq_true, decide_eq_true_eq] at hn
            obtain ⟨x, y, rfl, e1, e2⟩ := two_of hargs
            have h1 := hE x
            have h2 := hE y
            rw [e1] at h1
            rw [e2] at h2
            have hy : Act.eval ⟨tv.toArray, []⟩ y = .int .u8 ((UInt8.ofNat n.toNat).toNat : Int) := by rw [u8_back hn.1 hn.2]; exact int_inv h2
            exact value_same hI hle ((Y_indexByte (S := fun _ => True) (hib f hi) (str_inv h1) hy rfl).out w trivial) hk (int_one _ _).rv
          · cases h
        · replace h := bind_some h; obtain ⟨vs, hvs, h⟩ := h
          obtain ⟨hcb, hc⟩ := callK_sound hF hI (v1L_sound hvs (hI.evL args.toList)) hb h
          refine call_to (f := f) (args := (args.toList.map (Act.eval ⟨tv.toArray, []⟩)).toArray) ?_ hc
          have := run_call_op (P := P) (ρ := Act.eval ⟨tv.toArray, []⟩) (f := f) (x := .func f) (first := #[]) (cap := #[]) (xs := args) (ats := tys) (d := dst) (ty := ty) (pos := pos) (aft := aft) (gd := gd) rfl hcb w
          rw [this]
          congr 2
          exact Array.toList_inj.1 (by simp)
      | tmp t => exact closure_sound hF hI hb h
      | const v => exact closure_sound hF hI hb h
      | global g => exact closure_sound (D := D) hF hI hb h
  all_goals cases h
end
end Go.Ab
namespace Go.Ab
open Go Go.Dk

section
variable {P : Program} {w0 w w' : World} {M Z0 : Zone} {b : Nat} {G : List GO} {s : AS} {tv : List Value} {r : List V1 × List AObj}
theorem wantK_sound (hI : InvG w0 M Z0 b G s tv w) {ops : List Oper} {o : Oper} {yes no : AS → OR} (h : wantK ops s o.guard yes no = some r) :
    (Region.wanted o (yielded ops.toArray tv.toArray) = true ∧ ∃ s', yes s' = some r ∧ InvG w0 M Z0 b G s' tv w ∧ s'.heap = s.heap) ∨
    (Region.wanted o (yielded ops.toArray tv.toArray) = false ∧ ∃ s', no s' = some r ∧ InvG w0 M Z0 b G s' tv w ∧ s'.heap = s.heap) := by
  unfold wantK at h
  split at h
  · rename_i hg
    exact .inl ⟨by simp [Region.wanted, hg], s, h, hI, rfl⟩
  · rename_i j want hg
    split at h
    · rename_i d hd
      split at h
      · rename_i bb hb
        have hdl : s.tmps[d]? = some (.v (.one (.bool bb))) := by
          cases hs : s.tmps[d]? with
          | none => simp [List.getD, hs, anyV] at hb
          | some v => simp [List.getD, hs] at hb; rw [hb]
        obtain ⟨X, hX, hr⟩ := hI.st.per.1.get hdl
        have hX' := bool_inv hr
        subst hX'
        have hy : yielded ops.toArray tv.toArray j = some bb := by
          have hd' : (ops.toArray[j]?).bind (·.dst) = some d := by simpa using hd
          simp only [yielded, hd', Option.bind_some]
          have : tv.toArray[d]? = some (.bool bb) := by simpa using hX
          rw [this]
        have hput : ∀ c, c = bb → InvG w0 M Z0 b G (s.put (some d) (boolV c)) tv w := by
          rintro c rfl
          have := hI.put (some d) (v := boolV c) (X := .bool c) ⟨rfl, fun _ => rfl⟩
          simp only at this
          rw [set_same hX] at this
          exact this
        have hw : Region.wanted o (yielded ops.toArray tv.toArray) = (bb == want) := by
          simp only [Region.wanted, hg, hy]; rfl
        cases bb <;> cases want <;> simp only [cond_true, cond_false] at h
        · exact .inl ⟨hw, _, h, hput _ rfl, rfl⟩
        · exact .inr ⟨hw, _, h, hput _ rfl, rfl⟩
        · exact .inr ⟨hw, _, h, hput _ rfl, rfl⟩
        · exact .inl ⟨hw, _, h, hput _ rfl, rfl⟩
      · rename_i hb
        have hdl : s.tmps[d]? = some (.tup []) := by
          cases hs : s.tmps[d]? with
          | none => simp [List.getD, hs, anyV] at hb
          | some v => simp [List.getD, hs] at hb; rw [hb]
        obtain ⟨X, hX, xs, hXe, hr⟩ := hI.st.per.1.get hdl
        obtain rfl := hr.nil_inv
        subst hXe
        have hy : yielded ops.toArray tv.toArray j = none := by
          have hd' : (ops.toArray[j]?).bind (·.dst) = some d := by simpa using hd
          simp only [yielded, hd', Option.bind_some]
          have : tv.toArray[d]? = some (.tuple #[]) := by simpa using hX
          rw [this]
        have hw : Region.wanted o (yielded ops.toArray tv.toArray) = false := by
          simp only [Region.wanted, hg, hy]; rfl
        exact .inr ⟨hw, s, h, hI, rfl⟩
      · cases h
    · cases h
theorem Y_nilEq {o : Oper} {t t' : TypeId} {x : Operand} {a : Option Addr} {n c : Nat} {ρ : Operand → Value} (ho : o.op = .binOp .eql t x (.const (.slice none 0 0)) t') (hk : (kindS P t).isSome = true) (hx : ρ x = .slice a n c) (hy : ρ (.const (.slice none 0 0)) = .slice none 0 0) :
    (execOp ρ o).run P w = .ok (.value (.bool a.isNone)) w := by
  obtain ⟨e, he⟩ : ∃ e, P.underlying t = some (.slice e) := by
    unfold kindS at hk
    split at hk
    · exact ⟨_, ‹_›⟩
    · cases hk
  have hq : (Op.equal t (.slice a n c) (.slice none 0 0)).run P w = .ok a.isNone w := by
    unfold Op.equal
    rw [show Op.maxDepth = 9999 + 1 from rfl, Op.equalIn]
    cases a <;> simp [Sem.run_bind, run_underlying he]
  obtain ⟨dst, op, ty, pos, aft, gd⟩ := o
  simp only at ho
  subst ho
  simp only [execOp, hx, hy, eqGuard, binOp, Sem.run_bind]
  simp [hq, Sem.run_bind]
theorem und_rel {Z : Zone} : RV G Z w undV undef := ⟨[], rfl, All2.nil⟩
theorem nilQ_out {o : Oper} {ρ : Operand → AV} {m : Nat} (h : nilQ P o ρ = some m) : ∃ t x t', o.op = .binOp .eql t x (.const (.slice none 0 0)) t' ∧ (kindS P t).isSome = true ∧ ∃ d, ρ x = .v (.one (.fr d)) ∧ m = d.len := by
  unfold nilQ at h
  split at h
  · rename_i t x t' ho
    split at h
    · rename_i e d hk hx
      exact ⟨t, x, t', ho, by rw [hk]; rfl, d, hx, (Option.some.inj h).symm⟩
    · cases h
  · cases h
theorem evOps_sound {F : Callee} {D : Dec} (hF : CallsOK P F) (hib : ∀ f, D.ib f = true → extIB P f) {ops : List Oper} {k : AS → OR} {Q : Exit → Act → World → Prop} : ∀ {l : List Oper} {b : Nat} {s : AS} {G : List GO} {tv : List Value} {w : World},
    InvG w0 M Z0 b G s tv w → b + room P D l ≤ s.heap.length → evOps P F D ops l b s k = some r →
    (∀ s' G' tv' w', k s' = some r → InvG w0 M Z0 s'.heap.length G' s' tv' w' → Up G G' → Q .normal ⟨tv'.toArray, []⟩ w') → wpList P ops.toArray Q l ⟨tv.toArray, []⟩ w
  | [], b, s, G, tv, w, hI, hb, h, hQ => hQ s G tv w h (hI.raise (by simp only [room] at hb; omega)) (Up.refl G)
  | o :: l, b, s, G, tv, w, hI, hb, h, hQ => by
    simp only [room] at hb
    unfold evOps at h
    unfold wpList
    rcases wantK_sound hI h with ⟨hw, s', h, hI', hh⟩ | ⟨hw, s', h, hI', hh⟩
    · rw [if_pos hw]
      split at h
      · rename_i m hm
        have hput : ∀ (d : Option Tmp) (s : AS) (v : AV), (s.put d v).heap = s.heap := fun d s v => by cases d <;> rfl
        obtain ⟨t, x, t', hop, hk, d, hx, rfl⟩ := nilQ_out hm
        have hxr := hI'.ev x
        rw [hx] at hxr
        obtain ⟨⟨a, c, xs, hX, hc1, hc2, hel, hnz⟩, _⟩ := hxr
        obtain ⟨dst, op, ty, pos, aft, gd⟩ := o
        simp only at hop
        subst hop
        have hrun := Y_nilEq (P := P) (o := ⟨dst, .binOp .eql t x (.const (.slice none 0 0)) t', ty, pos, aft, gd⟩) (w := w) (ρ := Act.eval ⟨tv.toArray, []⟩) rfl hk hX rfl
        have key : ∀ bb, a.isNone = bb → evOps P F D ops l (b + nObj P D ⟨dst, .binOp .eql t x (.const (.slice none 0 0)) t', ty, pos, aft, gd⟩) (s'.put dst (boolV bb)) k = some r →
            Oper.wp P ⟨dst, .binOp .eql t x (.const (.slice none 0 0)) t', ty, pos, aft, gd⟩ ⟨tv.toArray, []⟩ w (fun a' w' => wpList P ops.toArray Q l a' w') Q := by
          intro bb hbb h
          refine Oper.wp_mono (fun a' w' hst => ?_) (value_same (k := fun v h => evOps P F D ops l (b + nObj P D ⟨dst, .binOp .eql t x (.const (.slice none 0 0)) t', ty, pos, aft, gd⟩) (({ s' with heap := h } : AS).put dst v) k) (v := boolV bb) (Q := Q) hI' (Nat.le_add_right b (nObj P D ⟨dst, .binOp .eql t x (.const (.slice none 0 0)) t', ty, pos, aft, gd⟩)) hrun h (by rw [hbb]; exact ⟨rfl, fun _ => rfl⟩))
          obtain ⟨v, h', G', tv', hk, rfl, hI2, hl, hu, _⟩ := hst
          refine evOps_sound hF hib (k := k) hI2 ?_ hk fun s2 G2 tv2 w2 h2 hI3 hu2 => hQ s2 G2 tv2 w2 h2 hI3 (hu.trans hu2)
          rw [hput]; show _ ≤ h'.length; rw [hl, hh]; omega
        refine .inl ?_
        rcases cond_some h with ⟨hm0, h⟩ | ⟨hm0, h⟩
        · obtain ⟨h1, h2⟩ := same_out h
          cases hb : a.isNone with
          | true => exact key true hb h1
          | false => exact key false hb h2
        · refine key false ?_ h
          rcases hnz with hnz | ⟨ab, ao, ha, _⟩
          · have := hel.length
            rw [hnz] at this
            simp only [List.length_nil] at this
            have hd0 : d.len ≠ 0 := fun e => by rw [e] at hm0; cases hm0
            have hkz : 0 < d.kind.size := by cases d <;> simp [SD.kind, SK.size]
            have := Nat.mul_pos (Nat.pos_of_ne_zero hd0) hkz
            omega
          · rw [ha]; rfl
      refine .inl (Oper.wp_mono (fun a' w' hst => ?_) (evOp_sound (Q := Q) hF hib hI' (by rw [hh]; omega) h))
      obtain ⟨v, h', G', tv', hk, rfl, hI2, hl, hu, _⟩ := hst
      have hput : ∀ (d : Option Tmp) (s : AS) (v : AV), (s.put d v).heap = s.heap := fun d s v => by cases d <;> rfl
      refine evOps_sound hF hib (k := k) hI2 ?_ hk fun s2 G2 tv2 w2 h2 hI3 hu2 => hQ s2 G2 tv2 w2 h2 hI3 (hu.trans hu2)
      rw [hput]; show _ ≤ h'.length; rw [hl, hh]; omega
    · rw [if_neg (by simp [hw])]
      rw [put_act]
      have hput : ∀ (d : Option Tmp) (s : AS) (v : AV), (s.put d v).heap = s.heap := fun d s v => by cases d <;> rfl
      exact evOps_sound hF hib (k := k) ((hI'.put o.dst und_rel).raise (Nat.le_add_right _ _)) (by rw [hput, hh]; omega) h hQ
theorem resL_grow (h : List AObj) (G : List GO) (n : Nat) (hl : h.length = G.length) : resL (h ++ List.replicate n .dead) (G ++ List.replicate n .fresh) = resL h G := by
  rw [resL_append hl, resL_dead, List.append_nil]
theorem InvG.grow (hI : InvG w0 M Z0 b G s tv w) (n : Nat) : InvG w0 M Z0 s.heap.length (G ++ List.replicate n .fresh) (grow n s) tv w := by
  have hr := resL_grow s.heap G n hI.len
  refine ⟨?_, fun j hj hl => ?_, hI.mz⟩
  · have := hI.st
    rw [← hr] at this
    refine this.weak (relF_stable _ _ _) fun hh => ⟨hh.1.mono fun _ _ _ q => q.up (Up.append _ _), ?_⟩
    exact All2.append (hh.2.mono fun _ _ _ q => q.up (Up.append _ _)) (All2.replicate trivial n)
  · rw [hI.len] at hj
    rw [List.length_append, List.length_replicate] at hl
    rw [List.getElem?_append_right hj, List.getElem?_replicate, if_pos (by omega)]
end
end Go.Ab
