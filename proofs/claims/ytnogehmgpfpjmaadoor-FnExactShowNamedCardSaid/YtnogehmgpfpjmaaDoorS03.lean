/- Part 3 of the proof. -/
import Derived.Test.YtnogehmgpfpjmaaDoorS01
import Derived.Test.YtnogehmgpfpjmaaDoorS02
import Derived.Lib.ItoaNum
import Derived.Lib.AtoiAll
import Derived.Test.YtnogehmgpfpjmaaDoorRows
import Derived.KernelRfl
set_option linter.unusedVariables false
set_option linter.unusedSimpArgs false
section
namespace Go.Ab
open Go Go.Dk
def backG : List Nat → List GO → List GO → List GO
 | j :: js, g :: gs, G => backG js gs (G.set j g)
 | _, _, G => G
theorem backH_length : ∀ (js : List Nat) (os h : List AObj), (backH js os h).length = h.length
 | [], _, _ => rfl
 | _ :: _, [], _ => rfl
 | j :: js, o :: os, h => by rw [backH, backH_length js os]; simp
theorem backG_length : ∀ (js : List Nat) (gs G : List GO), (backG js gs G).length = G.length
 | [], _, _ => rfl
 | _ :: _, [], _ => rfl
 | j :: js, o :: os, h => by rw [backG, backG_length js os]; simp
theorem backG_other : ∀ (js : List Nat) (gs G : List GO) (q : Nat), q ∉ js → (backG js gs G)[q]? = G[q]?
 | [], _, _, _, _ => rfl
 | _ :: _, [], _, _, _ => rfl
 | j :: js, g :: gs, G, q, h => by
  simp only [List.mem_cons, not_or] at h
  rw [backG, backG_other js gs _ q h.2, List.getElem?_set_ne (fun e => h.1 e.symm)]
theorem backG_at : ∀ (js : List Nat) (gs G : List GO) (i j : Nat) (g : GO), js.Nodup → js[i]? = some j → gs[i]? = some g → j < G.length → (backG js gs G)[j]? = some g
 | [], _, _, i, _, _, _, h, _, _ => by simp at h
 | _ :: _, [], _, i, _, _, _, _, h, _ => by simp at h
 | a :: js, x :: gs, G, 0, j, g, hn, hj, hg, hl => by
  simp only [List.getElem?_cons_zero, Option.some.injEq] at hj hg
  subst hj hg
  rw [List.nodup_cons] at hn
  rw [backG, backG_other js gs _ a hn.1]; simp [hl]
 | a :: js, x :: gs, G, i + 1, j, g, hn, hj, hg, hl => by
  rw [List.nodup_cons] at hn
  rw [backG]
  exact backG_at js gs _ i j g hn.2 (by simpa using hj) (by simpa using hg) (by simpa using hl)
theorem backH_append : ∀ (js js' : List Nat) (os os' h : List AObj), js.length = os.length → backH (js ++ js') (os ++ os') h = backH js' os' (backH js os h)
 | [], js', [], os', h, _ => rfl
 | j :: js, js', o :: os, os', h, hl => by simp only [List.cons_append, backH]; exact backH_append js js' os os' _ (by simpa using hl)
 | [], _, _ :: _, _, _, hl => by simp at hl
 | _ :: _, _, [], _, _, hl => by simp at hl
theorem back_all {R : AObj → GO → Prop} : ∀ {js : List Nat} {os h : List AObj} {gs G : List GO}, All2 R h G → All2 R os gs → All2 R (backH js os h) (backG js gs G)
 | [], os, h, gs, G, hh, ho => hh
 | j :: js, os, h, gs, G, hh, ho => by
  cases os with
  | nil => obtain rfl := ho.nil_inv; exact hh
  | cons o os =>
   obtain ⟨g, gs', rfl, h1, h2⟩ := ho.cons_inv
   show All2 R (backH js os (h.set j o)) (backG js gs' (G.set j g))
   exact back_all (hh.set j h1) h2
theorem kill_set : ∀ {js : List Nat} {j : Nat} {o : AObj} {h : List AObj}, j ∉ js → kill js (h.set j o) = (kill js h).set j o
 | [], _, _, _, _ => rfl
 | i :: js, j, o, h, hj => by
  simp only [List.mem_cons, not_or] at hj
  simp only [kill]
  rw [List.set_comm _ _ hj.1, kill_set hj.2]
theorem killG_set : ∀ {js : List Nat} {j : Nat} {g : GO} {G : List GO}, j ∉ js → killG js (G.set j g) = (killG js G).set j g
 | [], _, _, _, _ => rfl
 | i :: js, j, o, h, hj => by
  simp only [List.mem_cons, not_or] at hj
  simp only [killG]
  rw [List.set_comm _ _ hj.1, killG_set hj.2]
theorem kill_length : ∀ (js : List Nat) (h : List AObj), (kill js h).length = h.length
 | [], _ => rfl
 | j :: js, h => by rw [kill, kill_length js]; simp
theorem killG_length : ∀ (js : List Nat) (h : List GO), (killG js h).length = h.length
 | [], _ => rfl
 | j :: js, h => by rw [killG, killG_length js]; simp
theorem resL_back : ∀ {js : List Nat} {os h : List AObj} {gs G : List GO}, js.Nodup → (∀ j ∈ js, j < h.length ∧ j < G.length) → js.length = os.length → os.length = gs.length →
   (resL (backH js os h) (backG js gs G)).Perm (resL os gs ++ resL (kill js h) (killG js G))
 | [], os, h, gs, G, _, _, hl, hl2 => by
  obtain rfl := List.eq_nil_of_length_eq_zero hl.symm
  exact List.Perm.refl _
 | j :: js, [], h, gs, G, _, _, hl, _ => by simp at hl
 | j :: js, o :: os, h, [], G, _, _, _, hl => by simp at hl
 | j :: js, o :: os, h, g :: gs, G, hn, hl, h1, h2 => by
  rw [List.nodup_cons] at hn
  obtain ⟨hj, hjG⟩ := hl j (List.mem_cons_self ..)
  have ih := resL_back (js := js) (os := os) (h := h.set j o) (gs := gs) (G := G.set j g) hn.2 (fun i hi => by simpa using hl i (List.mem_cons_of_mem _ hi)) (by simpa using h1) (by simpa using h2)
  simp only [backH, backG, kill, killG]
  refine ih.trans ?_
  rw [kill_set hn.1, killG_set hn.1, kill_set hn.1, killG_set hn.1]
  have hin := resL_in (h := kill js h) (G := killG js G) o g (by rw [kill_length]; exact hj) (by rw [killG_length]; exact hjG)
  have : (resL os gs ++ resL ((kill js h).set j o) ((killG js G).set j g)).Perm (resL os gs ++ (resO o g ++ resL ((kill js h).set j .dead) ((killG js G).set j .gone))) := hin.symm.append_left _
  refine this.trans ?_
  simp only [resL]
  rw [← List.append_assoc]
  exact List.perm_append_comm.append_right _
theorem kill_append : ∀ (js js' : List Nat) (h : List AObj), kill (js ++ js') h = kill js' (kill js h)
 | [], _, _ => rfl
 | j :: js, js', h => by simp only [List.cons_append, kill]; exact kill_append js js' _
theorem killG_append : ∀ (js js' : List Nat) (h : List GO), killG (js ++ js') h = killG js' (killG js h)
 | [], _, _ => rfl
 | j :: js, js', h => by simp only [List.cons_append, killG]; exact killG_append js js' _
def keepG : AObj → GO → GO
 | .cells _, g => g
 | _, _ => .gone
theorem resL_append' {h h' : List AObj} {G G' : List GO} (hl : h.length = G.length) : resL (h ++ h') (G ++ G') = resL h G ++ resL h' G' := resL_append hl
section
variable {P : Program} {w0 w w' : World} {M Z0 : Zone} {b : Nat} {G : List GO} {s : AS} {tv : List Value} {r : List V1 × List AObj} {Z : Zone}
theorem back_keep : ∀ {olds os : List AObj} {gs Gc : List GO}, All2 Back olds os → All2 (RO Gc Z w) olds gs → ∀ G'' : List GO,
   All2 (RO G'' Z w) os (List.zipWith keepG os gs) ∧ (resL os (List.zipWith keepG os gs)).Sublist (resL olds gs)
 | [], os, gs, Gc, hb, hr, G'' => by
  obtain rfl := hb.nil_inv
  obtain rfl := hr.nil_inv
  exact ⟨All2.nil, List.Sublist.refl _⟩
 | o :: olds, os, gs, Gc, hb, hr, G'' => by
  obtain ⟨o', os', rfl, h1, h2⟩ := hb.cons_inv
  obtain ⟨g, gs', rfl, h3, h4⟩ := hr.cons_inv
  obtain ⟨a1, a2⟩ := back_keep h2 h4 G''
  simp only [List.zipWith_cons_cons]
  rcases h1 with rfl | ⟨l, y, rfl, rfl, hy⟩
  ·refine ⟨All2.cons trivial a1, ?_⟩
   simp only [resL, resO_dead, List.nil_append]
   exact a2.trans (List.sublist_append_right _ _)
  ·cases g with
   | cells bb T vs =>
    refine ⟨All2.cons (like_one hy h3) a1, ?_⟩
    simp only [resL, keepG]
    exact a2.append_left _
   | _ => exact h3.elim
theorem list_nodup {js : List Nat} {b n : Nat} (h : js.Nodup) (hb : ∀ j ∈ js, j < b) : (js ++ List.range' b n).Nodup := by
 rw [List.nodup_append]
 refine ⟨h, List.nodup_range', fun a ha c hc => ?_⟩
 rw [List.mem_range'_1] at hc
 have := hb a ha
 omega
theorem callGo_sound {F : Callee} (hF : CallsOK P F) {f : FuncId} {fn : Func} (hfn : P.funcs[f]? = some fn) (hbody : fn.body.isSome = true) (hI : InvG w0 M Z0 b G s tv w) {ow : Bool} {tys : List TypeId} {rm : Nat} {k : AV → List AObj → OR} {vs : List V1} {xs : List Value}
   (hv : All2 (RV1 G (zn w0 Z0 s G) w) vs xs) (hb : b + rm ≤ s.heap.length) (h : callGo P F ow f tys b rm k vs s.heap = some r) :
   Calls P f xs.toArray w fun e w' => ∃ X, e = .returned X ∧ ∃ v h' G', k v h' = some r ∧ InvG w0 M Z0 (b + rm) G' ⟨s.tmps, h'⟩ tv w' ∧ RV G' (zn w0 Z0 ⟨s.tmps, h'⟩ G') w' v X ∧ h'.length = s.heap.length ∧ Up G G' := by
 unfold callGo at h
 generalize hjs : reach s.heap 64 (vs.flatMap refsV) [] = js at h
 replace h := cond_left h; obtain ⟨hok, h⟩ := h
 replace h := bind_some h; obtain ⟨out, hout, h⟩ := h
 have hokl : okJs js s.heap.length = true := by
  simp only [okJs, Bool.and_eq_true, List.all_eq_true, Nat.blt_eq] at hok ⊢
  exact ⟨hok.1, fun j hj => by have := hok.2 j hj; omega⟩
 obtain ⟨hnd, hlt⟩ := okJs_out hok
 have hpass := hI.pass hokl hv
 have hlen : (selH js s.heap).length = js.length := by simp [selH]
 have hcall := hF f fn _ _ out hfn hbody hout _ _ _ _ _ _ (by rw [hlen]; exact hpass)
 refine hcall.mono fun e w' ⟨ys, Gc, he, hIc, hupc⟩ => ?_
 refine ⟨_, he, ?_⟩
 obtain ⟨olds, os, rest, ho, h, hol, hback⟩ := backO_sound h
 obtain ⟨vs', ns, h, hns, hvs⟩ := valsT_sound h
 replace h := cond_left h; obtain ⟨hrm, h⟩ := h
 simp only [Nat.ble_eq] at hrm
 have hp := resL_sel js s.heap G hnd (fun j hj => ⟨by have := hlt j hj; omega, by have := hlt j hj; rw [← hI.len]; omega⟩)
 have heq : resL (selH js s.heap) (selG js G) = resL (sel0 js s.heap) (selG js G) := by rw [selH_eq, resL_ren]
 have hfr := frame hI.st hI.mz.1 hp hIc.st
 obtain ⟨hx0, hRO⟩ : All2 (RV Gc (zone w (fun k => zn w0 Z0 s G k ∨ footL (resL (sel0 js s.heap) (selG js G)) k) (resL out.2 Gc)) w') (out.1.map .v) ys ∧ All2 (RO Gc (zone w (fun k => zn w0 Z0 s G k ∨ footL (resL (sel0 js s.heap) (selG js G)) k) (resL out.2 Gc)) w') out.2 Gc := hIc.st.per
 generalize zone w (fun k => zn w0 Z0 s G k ∨ footL (resL (sel0 js s.heap) (selG js G)) k) (resL out.2 Gc) = Zc at hx0 hRO
 rw [ho] at hRO
 obtain ⟨g1, g2, rfl, hr1, hr2⟩ := hRO.append_inv
 have hjo : js.length = olds.length := by rw [hol, hlen]
 have hjos : js.length = os.length := by rw [hjo, hback.1]
 have hg1 : olds.length = g1.length := hr1.1
 let ps := js ++ List.range' b ns.length
 let gs := List.zipWith keepG os g1 ++ g2
 have hzl : (List.zipWith keepG os g1).length = js.length := by rw [List.length_zipWith, ← hjos, ← hg1, ← hjo]; simp
 have hpsn : ps.Nodup := list_nodup hnd hlt
 have hpsl : ∀ j ∈ ps, j < s.heap.length ∧ j < G.length := by
  intro j hj
  rw [← hI.len]
  rcases List.mem_append.1 hj with hj | hj
  ·have := hlt j hj; omega
  ·rw [List.mem_range'_1] at hj; omega
 have hnl : ns.length = g2.length := by rw [hns]; exact hr2.1
 have hH : putO b ns (backH js os s.heap) = backH ps (os ++ ns) s.heap := by
  rw [backH_append js _ os ns s.heap hjos]; rfl
 have hgat : ∀ (i : Nat) g, g2[i]? = some g → (g1 ++ g2)[js.length + i]? = some g ∧ (backG ps gs G)[b + i]? = some g := by
  intro i g hi
  have hil := lt_of_some hi
  refine ⟨by rw [List.getElem?_append_right (by omega), show js.length + i - g1.length = i by omega]; exact hi, ?_⟩
  refine backG_at ps gs G (js.length + i) (b + i) g hpsn ?_ ?_ ?_
  ·show (js ++ List.range' b ns.length)[js.length + i]? = _
   rw [List.getElem?_append_right (by omega)]
   simp [hnl, hil]
  ·show (List.zipWith keepG os g1 ++ g2)[js.length + i]? = _
   rw [List.getElem?_append_right (by omega), hzl]; simpa using hi
  ·rw [← hI.len]; omega
 -- what is spoken of goes on
 have hup : Up G (backG ps gs G) := by
  intro q
  by_cases hq : q ∈ js
  ·obtain ⟨i, hi⟩ := List.getElem?_of_mem hq
   have hil := lt_of_some hi
   have hz : ∃ g, (List.zipWith keepG os g1)[i]? = some g := ⟨_, List.getElem?_eq_getElem (by rw [hzl]; exact hil)⟩
   obtain ⟨g, hz⟩ := hz
   have hat : (backG ps gs G)[q]? = some g := by
    refine backG_at ps gs G i q g hpsn ?_ ?_ (hpsl q (List.mem_append.2 (.inl hq))).2
    ·show (js ++ _)[i]? = _; rw [List.getElem?_append_left hil]; exact hi
    ·show (_ ++ g2)[i]? = _; rw [List.getElem?_append_left (by rw [hzl]; exact hil)]; exact hz
   rw [List.getElem?_zipWith] at hz
   have ho1 : os[i]? = some (os[i]'(by omega)) := List.getElem?_eq_getElem _
   have hg1' : g1[i]? = some (g1[i]'(by omega)) := List.getElem?_eq_getElem _
   generalize os[i]'(by omega) = o1 at ho1
   generalize g1[i]'(by omega) = gg1 at hg1'
   rw [ho1, hg1'] at hz
   simp only [Option.some.injEq] at hz
   have hgc : (g1 ++ g2)[i]? = some gg1 := by rw [List.getElem?_append_left (by omega)]; exact hg1'
   have hu := hupc i
   rw [hgc] at hu
   rw [hat]
   cases o1 with
   | cells y =>
    simp only [keepG] at hz
    subst hz
    obtain ⟨oo, hoo, hbk⟩ := hback.get' ho1
    have hro := hr1.2 i oo gg1 hoo hg1'
    rcases hbk with hbk | ⟨l, y', rfl, _, _⟩
    ·cases hbk
    ·cases gg1 with
     | cells bb T vs0 =>
      refine ⟨fun hg => ?_, fun b0 T0 vs1 hg => ?_, fun ver val sz xs0 hg => ?_⟩
      ·have := hu.1 (selG_get hi hg); cases this
      ·rcases hu.2.1 _ _ _ (selG_get hi hg) with h1 | ⟨T', vs', h1⟩
       ·cases h1
       ·right; injection h1 with h1; injection h1 with h1 h2 h3; subst h1; exact ⟨T, vs0, rfl⟩
      ·rcases hu.2.2 _ _ _ _ (selG_get hi hg) with h1 | ⟨_, _, _, h1⟩ <;> cases h1
     | _ => exact hro.elim
   | _ =>
    simp only [keepG] at hz
    subst hz
    exact ⟨fun _ => rfl, fun _ _ _ _ => .inl rfl, fun _ _ _ _ _ => .inl rfl⟩
  ·by_cases hq2 : q ∈ List.range' b ns.length
   ·rw [List.mem_range'_1] at hq2
    have hf := hI.fresh q hq2.1 (by rw [← hI.len]; omega)
    rw [hf]
    exact ⟨nofun, nofun, nofun⟩
   ·have hqp : q ∉ ps := fun hm => (List.mem_append.1 hm).elim hq hq2
    rw [backG_other ps gs G q hqp]
    exact Up.refl G q
 -- the resources
 have hA : (resL os (List.zipWith keepG os g1) ++ resL ns g2).Sublist (resL out.2 (g1 ++ g2)) := by
  rw [ho, resL_append' hg1]
  have h1 := (back_keep hback hr1 (backG ps gs G)).2
  have h2 : resL ns g2 = resL rest g2 := by
   have hx' : All2 (RV1 (g1 ++ g2) Zc w') out.1 ys := ⟨by have := hx0.1; simpa using this, fun i a c ha hc => hx0.2 i (.v a) c (by simp [ha]) hc⟩
   exact (hvs (Gc := g1 ++ g2) (G'' := backG ps gs G) hx' hr2 hgat).2.2
  rw [h2]
  exact h1.append_right _
 have hperm := resL_back (js := ps) (os := os ++ ns) (h := s.heap) (gs := gs) (G := G) hpsn hpsl (by simp [ps, hjos]) (by simp [gs, hjos, hzl, hnl])
 have hB : (resL (kill js s.heap) (killG js G)).Perm (resL (sel0 (List.range' b ns.length) (kill js s.heap)) (selG (List.range' b ns.length) (killG js G)) ++ resL (kill ps s.heap) (killG ps G)) := by
  have := resL_sel (List.range' b ns.length) (kill js s.heap) (killG js G) List.nodup_range' (fun j hj => by rw [kill_length, killG_length]; exact hpsl j (List.mem_append.2 (.inr hj)))
  rw [show ps = js ++ List.range' b ns.length from rfl, kill_append, killG_append]; exact this
 have hgsl : resL (os ++ ns) gs = resL os (List.zipWith keepG os g1) ++ resL ns g2 := resL_append' (by rw [hzl, hjos])
 rw [hgsl] at hperm
 have hS1 := hfr.1.perm (hB.append_left (resL out.2 (g1 ++ g2)))
 have hsub : (resL os (List.zipWith keepG os g1) ++ resL ns g2 ++ resL (kill ps s.heap) (killG ps G)).Sublist (resL out.2 (g1 ++ g2) ++ (resL (sel0 (List.range' b ns.length) (kill js s.heap)) (selG (List.range' b ns.length) (killG js G)) ++ resL (kill ps s.heap) (killG ps G))) :=
  hA.append (List.sublist_append_right _ _)
 have hS := (hS1.sub hsub).perm hperm.symm
 -- what is known
 refine ⟨tupV vs', backH ps (os ++ ns) s.heap, backG ps gs G, by rw [← hH]; exact h, ?_, ?_, by rw [backH_length], hup⟩
 ·refine ⟨hS.weak (relF_stable _ _ _) fun hh => ?_, fun j hj hjl => ?_, hI.mz⟩
  ·obtain ⟨hc, hs⟩ := hh
   refine ⟨hs.1.mono fun _ _ _ q => q.up hup, ?_⟩
   have hc2 := hc.2
   rw [ho] at hc2
   have h1 : All2 (RO (g1 ++ g2) (zone w0 Z0 (resL (backH ps (os ++ ns) s.heap) (backG ps gs G))) w') olds g1 := by
    have := hc2.take olds.length
    rw [List.take_left, hg1, List.take_left] at this; exact this
   have h2 : All2 (RO (g1 ++ g2) (zone w0 Z0 (resL (backH ps (os ++ ns) s.heap) (backG ps gs G))) w') rest g2 := by
    have := hc2.drop olds.length
    rw [List.drop_left, hg1, List.drop_left] at this; exact this
   have hx' : All2 (RV1 (g1 ++ g2) (zone w0 Z0 (resL (backH ps (os ++ ns) s.heap) (backG ps gs G))) w') out.1 ys := ⟨by have := hc.1.1; simpa using this, fun i a c ha hc' => hc.1.2 i (.v a) c (by simp [ha]) hc'⟩
   refine back_all (hs.2.mono fun _ _ _ q => q.up hup) (All2.append (back_keep hback h1 _).1 (hvs hx' h2 hgat).2.1)
  ·rw [backG_length] at hjl
   rw [backG_other ps gs G j ?_]
   ·exact hI.fresh j (by omega) hjl
   ·intro hm
    rcases List.mem_append.1 hm with hm | hm
    ·have := hlt j hm; omega
    ·rw [List.mem_range'_1] at hm; omega
 ·obtain ⟨hc, hs⟩ := hS.per
  have hc2 := hc.2
  rw [ho] at hc2
  have h2 : All2 (RO (g1 ++ g2) (zone w0 Z0 (resL (backH ps (os ++ ns) s.heap) (backG ps gs G))) w') rest g2 := by
   have := hc2.drop olds.length
   rw [List.drop_left, hg1, List.drop_left] at this; exact this
  have hx' : All2 (RV1 (g1 ++ g2) (zone w0 Z0 (resL (backH ps (os ++ ns) s.heap) (backG ps gs G))) w') out.1 ys := ⟨by have := hc.1.1; simpa using this, fun i a c ha hc' => hc.1.2 i (.v a) c (by simp [ha]) hc'⟩
  have hfin := (hvs hx' h2 hgat).1
  match vs', hfin with
  | [], hfin => obtain rfl := hfin.nil_inv; exact ⟨[], rfl, All2.nil⟩
  | [x], hfin =>
   obtain ⟨y, ys', rfl, h1, h2⟩ := hfin.cons_inv
   obtain rfl := h2.nil_inv
   exact h1
  | x :: x' :: vs'', hfin =>
   have hl := hfin.1
   refine ⟨ys, ?_, hfin⟩
   rw [dif_neg]
   simp only [List.size_toArray, ← hl, List.length_cons]
   omega
end
end Go.Ab
namespace Go.Ab
open Go Go.Dk
section
variable {P : Program} {w0 w w' : World} {M Z0 : Zone} {b : Nat} {G : List GO} {s : AS} {tv : List Value} {r : List V1 × List AObj}
def StepTo (w0 : World) (M Z0 : Zone) (b' : Nat) (G : List GO) (s : AS) (tv : List Value) (d : Option Tmp) (k : AV → List AObj → OR) (r : List V1 × List AObj) (a' : Act) (w' : World) : Prop :=
 ∃ v h' G' tv', k v h' = some r ∧ a' = ⟨tv'.toArray, []⟩ ∧ InvG w0 M Z0 b' G' (AS.put ⟨s.tmps, h'⟩ d v) tv' w' ∧ h'.length = s.heap.length ∧ Up G G' ∧ ∃ X, tv' = (match d with | some d => tv.set d X | none => tv)
theorem put_act (tv : List Value) (d : Option Tmp) (X : Value) : (Act.mk tv.toArray []).put d X = ⟨(match d with | some d => tv.set d X | none => tv).toArray, []⟩ := by
 cases d with
 | none => rfl
 | some d => simp [Act.put]
theorem getD_rel {α β : Type} {R : α → β → Prop} {l : List α} {m : List β} {da : α} {db : β} (h : All2 R l m) (hd : ∀ y, R da y) (i : Nat) : R (l.getD i da) (m.getD i db) := by
 cases hi : l[i]? with
 | none => simp only [List.getD, hi, Option.getD_none]; exact hd _
 | some a => obtain ⟨y, hy, hr⟩ := h.get hi; simp only [List.getD, hi, hy, Option.getD_some]; exact hr
theorem InvG.ev (hI : InvG w0 M Z0 b G s tv w) (x : Operand) : RV G (zn w0 Z0 s G) w (s.ev x) (Act.eval ⟨tv.toArray, []⟩ x) := by
 cases x with
 | tmp t => rw [evalT]; exact getD_rel hI.st.per.1 any_rel t
 | const v => exact ofValue_rel v
 | global g => exact any_rel _
 | func f => exact ⟨⟨[], rfl, All2.nil⟩, fun _ => rfl⟩
theorem value_to {o : Oper} {k : AV → List AObj → OR} {b' : Nat} {G' : List GO} {h' : List AObj} {v : AV} {X : Value} {Q : Exit → Act → World → Prop} (hr : (execOp (Act.eval ⟨tv.toArray, []⟩) o).run P w = .ok (.value X) w') (hk : k v h' = some r)
   (hI : InvG w0 M Z0 b' G' ⟨s.tmps, h'⟩ tv w') (hv : RV G' (zn w0 Z0 ⟨s.tmps, h'⟩ G') w' v X) (hl : h'.length = s.heap.length) (hu : Up G G') : o.wp P ⟨tv.toArray, []⟩ w (StepTo w0 M Z0 b' G s tv o.dst k r) Q := by
 simp only [Oper.wp, hr, Oper.upon]
 exact ⟨v, h', G', _, hk, put_act _ _ _, hI.put o.dst hv, hl, hu, X, by cases o.dst <;> rfl⟩
theorem value_same {o : Oper} {k : AV → List AObj → OR} {b' : Nat} {v : AV} {X : Value} {Q : Exit → Act → World → Prop} (hI : InvG w0 M Z0 b G s tv w) (hb : b ≤ b') (hr : (execOp (Act.eval ⟨tv.toArray, []⟩) o).run P w = .ok (.value X) w) (hk : k v s.heap = some r)
   (hv : RV G (zn w0 Z0 s G) w v X) : o.wp P ⟨tv.toArray, []⟩ w (StepTo w0 M Z0 b' G s tv o.dst k r) Q :=
 value_to hr hk (hI.raise hb) hv rfl (Up.refl G)
theorem call_to {o : Oper} {k : AV → List AObj → OR} {b' : Nat} {f : FuncId} {args : Array Value} {Q : Exit → Act → World → Prop} (hr : (execOp (Act.eval ⟨tv.toArray, []⟩) o).run P w = .ok (.enter f args) w)
   (hc : Calls P f args w fun e w' => ∃ X, e = .returned X ∧ ∃ v h' G', k v h' = some r ∧ InvG w0 M Z0 b' G' ⟨s.tmps, h'⟩ tv w' ∧ RV G' (zn w0 Z0 ⟨s.tmps, h'⟩ G') w' v X ∧ h'.length = s.heap.length ∧ Up G G') :
   o.wp P ⟨tv.toArray, []⟩ w (StepTo w0 M Z0 b' G s tv o.dst k r) Q := by
 simp only [Oper.wp, hr, Oper.upon]
 refine hc.mono fun e w' ⟨X, he, v, h', G', hk, hI, hv, hl, hu⟩ => ?_
 subst he
 exact ⟨v, h', G', _, hk, put_act _ _ _, hI.put o.dst hv, hl, hu, X, by cases o.dst <;> rfl⟩
theorem v1L_sound {Z : Zone} : ∀ {vs : List AV} {Xs : List Value} {l : List V1}, v1L vs = some l → All2 (RV G Z w) vs Xs → All2 (RV1 G Z w) l Xs
 | [], Xs, l, h, ha => by
  obtain rfl := ha.nil_inv
  simp only [v1L, Option.some.injEq] at h; subst h; exact All2.nil
 | .v x :: vs, Xs, l, h, ha => by
  obtain ⟨X, Xs', rfl, h1, h2⟩ := ha.cons_inv
  simp only [v1L, Option.map_eq_some_iff] at h
  obtain ⟨l', hl, rfl⟩ := h
  exact All2.cons h1 (v1L_sound hl h2)
 | .tup _ :: vs, Xs, l, h, ha => by simp [v1L] at h
theorem InvG.evL (hI : InvG w0 M Z0 b G s tv w) (l : List Operand) : All2 (RV G (zn w0 Z0 s G) w) (l.map s.ev) (l.map (Act.eval ⟨tv.toArray, []⟩)) :=
 ⟨by simp, fun i x y hx hy => by
  rw [List.getElem?_map] at hx hy
  obtain ⟨q, hq, rfl⟩ := Option.map_eq_some_iff.1 hx
  rw [hq] at hy
  obtain rfl := Option.some.inj hy
  exact hI.ev q⟩
theorem callB_fn {f : FuncId} (h : callB P f = true) : ∃ fn, P.funcs[f]? = some fn ∧ fn.body.isSome = true := by
 unfold callB at h
 split at h
 ·rename_i fn hf
  simp only [Bool.and_eq_true] at h
  exact ⟨fn, hf, h.2⟩
 ·cases h
theorem callK_sound {F : Callee} {D : Dec} (hF : CallsOK P F) (hI : InvG w0 M Z0 b G s tv w) {f : FuncId} {rm : Nat} {k : AV → List AObj → OR} {vs : List V1} {xs : List Value}
   (hv : All2 (RV1 G (zn w0 Z0 s G) w) vs xs) (hb : b + rm ≤ s.heap.length) (h : callK P F D f vs s.heap b rm k = some r) :
   callB P f = true ∧ Calls P f xs.toArray w fun e w' => ∃ X, e = .returned X ∧ ∃ v h' G', k v h' = some r ∧ InvG w0 M Z0 (b + rm) G' ⟨s.tmps, h'⟩ tv w' ∧ RV G' (zn w0 Z0 ⟨s.tmps, h'⟩ G') w' v X ∧ h'.length = s.heap.length ∧ Up G G' := by
 unfold callK at h
 split at h
 ·cases h
 ·rename_i fn hfn
  replace h := cond_left h; obtain ⟨hcb, h⟩ := h
  refine ⟨hcb, ?_⟩
  obtain ⟨fn', hfn', hbody⟩ := callB_fn hcb
  rw [hfn] at hfn'
  obtain rfl := Option.some.inj hfn'
  rcases cond_some h with ⟨_, h⟩ | ⟨_, h⟩
  ·exact callGo_sound hF hfn hbody hI hv hb h
  ·obtain ⟨vs', h1, h2, hs, hv'⟩ := sealVs_sound hI hv h
   have hl : h1.length = s.heap.length := by have := hs.inv.len; have := hI.len; simp at *; omega
   have := callGo_sound hF hfn hbody hs.inv hv' (by rw [show (AS.mk s.tmps h1).heap.length = h1.length from rfl, hl]; exact hb) h2
   refine this.mono fun e w' ⟨X, he, v, h', G', q1, q2, q3, q4, q5⟩ => ⟨X, he, v, h', G', q1, q2, q3, by rw [q4]; exact hl, q5⟩
theorem two_of {args : Array Operand} {X Y : AV} (h : args.toList.map s.ev = [X, Y]) : ∃ x y, args = #[x, y] ∧ s.ev x = X ∧ s.ev y = Y := by
 obtain ⟨l⟩ := args
 match l, h with
 | [x, y], h => exact ⟨x, y, rfl, by simpa using h⟩
theorem builtin_sound {D : Dec} (hI : InvG w0 M Z0 b G s tv w) {bi : Builtin} {args : Array Operand} {tys : Array TypeId} {dst : Option Tmp} {ty : TypeId} {pos : String} {aft : Array Edge} {gd : Option (Nat × Bool)} {k : AV → List AObj → OR} {Q : Exit → Act → World → Prop}
   (hb : b + nObj P D ⟨dst, .call ⟨.builtin bi, args, tys⟩, ty, pos, aft, gd⟩ ≤ s.heap.length) (h : evBuiltin P bi (args.toList.map s.ev) tys.toList s.heap b k = some r) :
   (Oper.mk dst (.call ⟨.builtin bi, args, tys⟩) ty pos aft gd).wp P ⟨tv.toArray, []⟩ w (StepTo w0 M Z0 (b + nObj P D ⟨dst, .call ⟨.builtin bi, args, tys⟩, ty, pos, aft, gd⟩) G s tv dst k r) Q := by
 have hE := hI.ev
 have hle := Nat.le_add_right b (nObj P D ⟨dst, .call ⟨.builtin bi, args, tys⟩, ty, pos, aft, gd⟩)
 have one : ∀ {X : AV}, args.toList.map s.ev = [X] → ∃ x, args = #[x] ∧ s.ev x = X := by
  intro X h
  obtain ⟨l⟩ := args
  match l, h with
  | [x], h => exact ⟨x, rfl, by simpa using h⟩
 have two : ∀ {X Y : AV}, args.toList.map s.ev = [X, Y] → ∃ x y, args = #[x, y] ∧ s.ev x = X ∧ s.ev y = Y := by
  intro X Y h
  obtain ⟨l⟩ := args
  match l, h with
  | [x, y], h => exact ⟨x, y, rfl, by simpa using h⟩
 unfold evBuiltin at h
 split at h
 ·rename_i X t ha ht
  obtain ⟨x, rfl, rfl⟩ := one ha
  have ht : tys = #[t] := by rw [← Array.toList_inj, ht]
  subst ht
  obtain ⟨v, Y, hk, hr, hv⟩ := evLen_sound (d := dst) (ty := ty) (pos := pos) (aft := aft) (gd := gd) hI (hE x) h
  exact value_same hI hle hr hk hv.rv
 ·rename_i X Y t t' ha ht
  obtain ⟨x, y, rfl, rfl, rfl⟩ := two ha
  replace h := cond_left h; obtain ⟨htt, h⟩ := h
  simp only [Nat.beq_eq] at htt
  subst htt
  have ht : tys = #[t, t] := by rw [← Array.toList_inj, ht]
  subst ht
  have hb' : b < G.length := by rw [← hI.len]; simp only [nObj] at hb; omega
  obtain ⟨v, h', G', w', X, hk, hr, h1, h2, h3, h4⟩ := evAppend_sound (d := dst) (ty := ty) (pos := pos) (aft := aft) (gd := gd) hI hb' (hE x) (hE y) h
  exact value_to hr hk h1 h2.rv h3 h4
 ·rename_i X Y ha
  obtain ⟨x, y, rfl, rfl, rfl⟩ := two ha
  obtain ⟨v, X, hk, hr, hv⟩ := evMax_sound (mx := true) (tys := tys) (d := dst) (ty := ty) (pos := pos) (aft := aft) (gd := gd) (P := P) (w := w) (hE x) (hE y) h
  exact value_same hI hle hr hk hv.rv
 ·rename_i X Y ha
  obtain ⟨x, y, rfl, rfl, rfl⟩ := two ha
  obtain ⟨v, X, hk, hr, hv⟩ := evMax_sound (mx := false) (tys := tys) (d := dst) (ty := ty) (pos := pos) (aft := aft) (gd := gd) (P := P) (w := w) (hE x) (hE y) h
  exact value_same hI hle hr hk hv.rv
 ·cases h
theorem closure_sound {F : Callee} {D : Dec} (hF : CallsOK P F) (hI : InvG w0 M Z0 b G s tv w) {x : Operand} {args : Array Operand} {tys : Array TypeId} {dst : Option Tmp} {ty : TypeId} {pos : String} {aft : Array Edge} {gd : Option (Nat × Bool)} {k : AV → List AObj → OR} {Q : Exit → Act → World → Prop} {rm : Nat}
   (hb : b + rm ≤ s.heap.length) (h : (match s.ev x with
    | .v (.one (.fn f l)) => (v1L (args.toList.map s.ev)).bind fun vs => callK P F D f (vs ++ l.map fun j => .one (.ptr j 0)) s.heap b rm k
    | _ => none) = some r) :
   (Oper.mk dst (.call ⟨.value x, args, tys⟩) ty pos aft gd).wp P ⟨tv.toArray, []⟩ w (StepTo w0 M Z0 (b + rm) G s tv dst k r) Q := by
 split at h
 ·rename_i f l hx
  have hX := hI.ev x
  rw [hx] at hX
  obtain ⟨⟨bs, hX, hh⟩, _⟩ := hX
  replace h := bind_some h; obtain ⟨vs, hvs, h⟩ := h
  have hcaps : All2 (RV1 G (zn w0 Z0 s G) w) (l.map fun j => V1.one (.ptr j 0)) (bs.map fun b => pv b 0) := by
   refine ⟨by simp [hh.1], fun i a c ha hc => ?_⟩
   rw [List.getElem?_map] at ha hc
   obtain ⟨j, hj, rfl⟩ := Option.map_eq_some_iff.1 ha
   obtain ⟨bb, hbb, rfl⟩ := Option.map_eq_some_iff.1 hc
   refine ⟨?_, fun _ => rfl⟩
   rcases hh.2 i j bb hj hbb with h1 | ⟨T, vs, h1⟩
   ·exact .inl h1
   ·exact .inr ⟨bb, T, vs, h1, rfl⟩
  obtain ⟨hcb, hc⟩ := callK_sound hF hI (All2.append (v1L_sound hvs (hI.evL args.toList)) hcaps) hb h
  refine call_to (f := f) (args := (args.toList.map (Act.eval ⟨tv.toArray, []⟩) ++ bs.map fun b => pv b 0).toArray) ?_ hc
  have := run_call_op (P := P) (ρ := Act.eval ⟨tv.toArray, []⟩) (f := f) (x := x) (first := #[]) (cap := (bs.map fun b => pv b 0).toArray) (xs := args) (ats := tys) (d := dst) (ty := ty) (pos := pos) (aft := aft) (gd := gd) hX hcb w
  rw [this]
  congr 2
  exact Array.toList_inj.1 (by simp)
 ·cases h
theorem evOp_sound {F : Callee} {D : Dec} (hF : CallsOK P F) (hib : ∀ f, D.ib f = true → extIB P f) (hI : InvG w0 M Z0 b G s tv w) {o : Oper} {k : AV → List AObj → OR} {Q : Exit → Act → World → Prop}
   (hb : b + nObj P D o ≤ s.heap.length) (h : evOp P F D o s.ev s.heap b k = some r) : o.wp P ⟨tv.toArray, []⟩ w (StepTo w0 M Z0 (b + nObj P D o) G s tv o.dst k r) Q := by
 have hE := hI.ev
 obtain ⟨dst, op, ty, pos, aft, gd⟩ := o
 have hle := Nat.le_add_right b (nObj P D ⟨dst, op, ty, pos, aft, gd⟩)
 cases op <;> simp only [evOp] at h
 case move x => exact value_same hI hle ((Y_move (S := fun _ => True) rfl).out w trivial) h (retype_rel _ (hE x))
 case assign x => exact value_same hI hle ((Y_assign (S := fun _ => True) rfl).out w trivial) h (retype_rel _ (hE x))
 case pick c x y =>
  split at h
  ·rename_i t hc
   have hcv := hE c
   rw [hc] at hcv
   rcases cond_some h with ⟨rfl, h⟩ | ⟨rfl, h⟩
   ·exact value_same hI hle ((Y_pickT (S := fun _ => True) (bool_inv hcv) rfl).out w trivial) h (hE x)
   ·exact value_same hI hle ((Y_pickF (S := fun _ => True) (bool_inv hcv) rfl).out w trivial) h (hE y)
  ·cases h
 case alloc e =>
  replace h := bind_some h; obtain ⟨z, hz, h⟩ := h
  obtain ⟨cs, hzb, hzr⟩ := zeroS_out hz
  have hb' : b < G.length := by rw [← hI.len]; simp only [nObj] at hb; omega
  obtain ⟨h1, h2, h3⟩ := newCells hI hb' (hzr G _ w) e
  exact value_to (run_alloc hzb) h h1 h2 (by simp) h3
 case box e x =>
  replace h := bind_some h; obtain ⟨c, hc, h⟩ := h
  obtain ⟨xs, hX, hr⟩ := cs_sound hc (hE x)
  have hb' : b < G.length := by rw [← hI.len]; simp only [nObj] at hb; omega
  obtain ⟨h1, h2, h3⟩ := newCells hI hb' hr e
  exact value_to (run_box hX) h h1 h2 (by simp) h3
 case build t ps =>
  obtain ⟨v, X, hk, hr, hv⟩ := evBuild_sound (ρ := Act.eval ⟨tv.toArray, []⟩) (d := dst) (ty := ty) (pos := pos) (aft := aft) (gd := gd) hE h
  exact value_same hI hle hr hk hv
 case buildSlice t n ps =>
  have hb' : b < G.length := by rw [← hI.len]; simp only [nObj] at hb; omega
  obtain ⟨v, h', G', w', X, hk, hr, h1, h2, h3, h4⟩ := evBuildSlice_sound (ρ := Act.eval ⟨tv.toArray, []⟩) (d := dst) (ty := ty) (pos := pos) (aft := aft) (gd := gd) hI hb' hE h
  exact value_to hr hk h1 h2 h3 h4
 case load t x =>
  obtain ⟨v, X, hk, hr, hv⟩ := evLoad_sound (d := dst) (ty := ty) (pos := pos) (aft := aft) (gd := gd) hI (hE x) h
  exact value_same hI hle hr hk hv
 case store t x y =>
  obtain ⟨h', G', w', hk, hr, h1, h2, h3⟩ := evStore_sound (d := dst) (ty := ty) (pos := pos) (aft := aft) (gd := gd) hI (hE x) (hE y) h
  simp only [Oper.wp, hr, Oper.upon]
  exact ⟨anyV, h', G', _, hk, put_act _ _ _, (h1.raise hle).put dst (any_rel _), h2, h3, undef, by cases dst <;> rfl⟩
 case nilCheck x =>
  obtain ⟨v, X, hk, hr, hv⟩ := evNil_sound (d := dst) (ty := ty) (pos := pos) (aft := aft) (gd := gd) hI (hE x) h
  exact value_same hI hle hr hk hv.rv
 case binOp op t x y t' =>
  obtain ⟨v, X, hk, hr, hv⟩ := evBin_sound (d := dst) (ty := ty) (pos := pos) (aft := aft) (gd := gd) (t' := t') (P := P) (w := w) (hE x) (hE y) h
  exact value_same hI hle hr hk hv.rv
 case unOp op t x =>
  obtain ⟨v, X, hk, hr, hv⟩ := evUn_sound (d := dst) (ty := ty) (t := t) (pos := pos) (aft := aft) (gd := gd) (P := P) (w := w) (hE x) h
  exact value_same hI hle hr hk hv.rv
 case convert t t' x =>
  obtain ⟨v, X, hk, hr, hv⟩ := evConv_sound (d := dst) (ty := ty) (pos := pos) (aft := aft) (gd := gd) hI (hE x) h
  exact value_same hI hle hr hk hv.rv
 case makeFunc fn first caps =>
  split at h
  ·rename_i f hfirst
   replace h := bind_some h; obtain ⟨l, hl, h⟩ := h
   obtain ⟨bs, hbs, hh⟩ := capsOf_sound hI (hI.evL caps.toList) hl
   have hf : first = #[] := by cases first; simp_all
   subst hf
   have hr : (execOp (Act.eval ⟨tv.toArray, []⟩) ⟨dst, .makeFunc (.func f) #[] caps, ty, pos, aft, gd⟩).run P w = .ok (.value (.func (.func f) #[] (bs.map fun b => pv b 0).toArray)) w := by
    have := (Y_makeFunc (P := P) (S := fun _ => True) (ρ := Act.eval ⟨tv.toArray, []⟩) (d := dst) (ty := ty) (pos := pos) (aft := aft) (gd := gd) (fn := .func f) (first := []) (cap := caps.toList) (vf := []) (vc := bs.map fun b => pv b 0) rfl hbs).out w trivial
    simpa using this
   exact value_same hI hle hr h ⟨⟨bs, rfl, hh⟩, fun _ => rfl⟩
  ·cases h
 case makeSlice t x y =>
  have hb' : b < G.length := by rw [← hI.len]; simp only [nObj] at hb; omega
  obtain ⟨v, h', G', w', X, hk, hr, h1, h2, h3, h4⟩ := evMake_sound (ρ := Act.eval ⟨tv.toArray, []⟩) (d := dst) (ty := ty) (pos := pos) (aft := aft) (gd := gd) hI hb' (hE x) (hE y) h
  exact value_to hr hk h1 h2.rv h3 h4
 case slice t x lo hi mx =>
  obtain ⟨v, h', X, hk, hr, hs, hv⟩ := evSlice_sound (ρ := Act.eval ⟨tv.toArray, []⟩) (d := dst) (ty := ty) (pos := pos) (aft := aft) (gd := gd) hI hE h
  exact value_to hr hk (hs.inv.raise hle) hv.rv (by have := hs.inv.len; have := hI.len; simp at *; omega) (Up.refl G)
 case fieldAddr t x i =>
  replace h := bind_some h; obtain ⟨D, hD, h⟩ := h
  obtain ⟨v, X, hk, hr, hv⟩ := evField_sound (d := dst) (ty := ty) (pos := pos) (aft := aft) (gd := gd) hI (hE x) hD h
  exact value_same hI hle hr hk hv.rv
 case indexAddr t x y =>
  obtain ⟨v, X, hk, hr, hv⟩ := evIndexAddr_sound (d := dst) (ty := ty) (pos := pos) (aft := aft) (gd := gd) hI (hE x) (hE y) h
  exact value_same hI hle hr hk hv.rv
 case index t x y =>
  obtain ⟨v, X, hk, hr, hv⟩ := evIndex_sound (d := dst) (ty := ty) (pos := pos) (aft := aft) (gd := gd) (P := P) (w := w) (hE x) (hE y) h
  exact value_same hI hle hr hk hv.rv
 case extract x i =>
  obtain ⟨v, X, hk, hr, hv⟩ := evExtract_sound (d := dst) (ty := ty) (pos := pos) (aft := aft) (gd := gd) (P := P) (w := w) (hE x) h
  exact value_same hI hle hr hk hv
 case call c =>
  obtain ⟨callee, args, tys⟩ := c
  cases callee with
  | builtin bi =>
   exact builtin_sound hI hb h
  | invoke q m => simp at h
  | value f =>
   cases f with
   | func f =>
    simp only at h
    rcases cond_some h with ⟨hi, h⟩ | ⟨_, h⟩
    ·split at h
     ·rename_i a n hargs
      obtain ⟨hn, hk⟩ := cond_left h
      simp only [Bool.and_eq_true, decide_eq_true_eq] at hn
      obtain ⟨x, y, rfl, e1, e2⟩ := two_of hargs
      have h1 := hE x
      have h2 := hE y
      rw [e1] at h1
      rw [e2] at h2
      have hy : Act.eval ⟨tv.toArray, []⟩ y = .int .u8 ((UInt8.ofNat n.toNat).toNat : Int) := by rw [u8_back hn.1 hn.2]; exact int_inv h2
      exact value_same hI hle ((Y_indexByte (S := fun _ => True) (hib f hi) (str_inv h1) hy rfl).out w trivial) hk (int_one _ _).rv
     ·cases h
    ·replace h := bind_some h; obtain ⟨vs, hvs, h⟩ := h
     obtain ⟨hcb, hc⟩ := callK_sound hF hI (v1L_sound hvs (hI.evL args.toList)) hb h
     refine call_to (f := f) (args := (args.toList.map (Act.eval ⟨tv.toArray, []⟩)).toArray) ?_ hc
     have := run_call_op (P := P) (ρ := Act.eval ⟨tv.toArray, []⟩) (f := f) (x := .func f) (first := #[]) (cap := #[]) (xs := args) (ats := tys) (d := dst) (ty := ty) (pos := pos) (aft := aft) (gd := gd) rfl hcb w
     rw [this]
     congr 2
     exact Array.toList_inj.1 (by simp)
   | tmp t => exact closure_sound hF hI hb h
   | const v => exact closure_sound hF hI hb h
   | global g => exact closure_sound (D := D) hF hI hb h
 all_goals cases h
end
end Go.Ab
namespace Go.Ab
open Go Go.Dk
section
variable {P : Program} {w0 w w' : World} {M Z0 : Zone} {b : Nat} {G : List GO} {s : AS} {tv : List Value} {r : List V1 × List AObj}
theorem wantK_sound (hI : InvG w0 M Z0 b G s tv w) {ops : List Oper} {o : Oper} {yes no : AS → OR} (h : wantK ops s o.guard yes no = some r) :
   (Region.wanted o (yielded ops.toArray tv.toArray) = true ∧ ∃ s', yes s' = some r ∧ InvG w0 M Z0 b G s' tv w ∧ s'.heap = s.heap) ∨
   (Region.wanted o (yielded ops.toArray tv.toArray) = false ∧ ∃ s', no s' = some r ∧ InvG w0 M Z0 b G s' tv w ∧ s'.heap = s.heap) := by
 unfold wantK at h
 split at h
 ·rename_i hg
  exact .inl ⟨by simp [Region.wanted, hg], s, h, hI, rfl⟩
 ·rename_i j want hg
  split at h
  ·rename_i d hd
   split at h
   ·rename_i bb hb
    have hdl : s.tmps[d]? = some (.v (.one (.bool bb))) := by
     cases hs : s.tmps[d]? with
     | none => simp [List.getD, hs, anyV] at hb
     | some v => simp [List.getD, hs] at hb; rw [hb]
    obtain ⟨X, hX, hr⟩ := hI.st.per.1.get hdl
    have hX' := bool_inv hr
    subst hX'
    have hy : yielded ops.toArray tv.toArray j = some bb := by
     have hd' : (ops.toArray[j]?).bind (·.dst) = some d := by simpa using hd
     simp only [yielded, hd', Option.bind_some]
     have : tv.toArray[d]? = some (.bool bb) := by simpa using hX
     rw [this]
    have hput : ∀ c, c = bb → InvG w0 M Z0 b G (s.put (some d) (boolV c)) tv w := by
     rintro c rfl
     have := hI.put (some d) (v := boolV c) (X := .bool c) ⟨rfl, fun _ => rfl⟩
     simp only at this
     rw [set_same hX] at this
     exact this
    have hw : Region.wanted o (yielded ops.toArray tv.toArray) = (bb == want) := by
     simp only [Region.wanted, hg, hy]; rfl
    cases bb <;> cases want <;> simp only [cond_true, cond_false] at h
    ·exact .inl ⟨hw, _, h, hput _ rfl, rfl⟩
    ·exact .inr ⟨hw, _, h, hput _ rfl, rfl⟩
    ·exact .inr ⟨hw, _, h, hput _ rfl, rfl⟩
    ·exact .inl ⟨hw, _, h, hput _ rfl, rfl⟩
   ·rename_i hb
    have hdl : s.tmps[d]? = some (.tup []) := by
     cases hs : s.tmps[d]? with
     | none => simp [List.getD, hs, anyV] at hb
     | some v => simp [List.getD, hs] at hb; rw [hb]
    obtain ⟨X, hX, xs, hXe, hr⟩ := hI.st.per.1.get hdl
    obtain rfl := hr.nil_inv
    subst hXe
    have hy : yielded ops.toArray tv.toArray j = none := by
     have hd' : (ops.toArray[j]?).bind (·.dst) = some d := by simpa using hd
     simp only [yielded, hd', Option.bind_some]
     have : tv.toArray[d]? = some (.tuple #[]) := by simpa using hX
     rw [this]
    have hw : Region.wanted o (yielded ops.toArray tv.toArray) = false := by
     simp only [Region.wanted, hg, hy]; rfl
    exact .inr ⟨hw, s, h, hI, rfl⟩
   ·cases h
  ·cases h
theorem Y_nilEq {o : Oper} {t t' : TypeId} {x : Operand} {a : Option Addr} {n c : Nat} {ρ : Operand → Value} (ho : o.op = .binOp .eql t x (.const (.slice none 0 0)) t') (hk : (kindS P t).isSome = true) (hx : ρ x = .slice a n c) (hy : ρ (.const (.slice none 0 0)) = .slice none 0 0) :
   (execOp ρ o).run P w = .ok (.value (.bool a.isNone)) w := by
 obtain ⟨e, he⟩ : ∃ e, P.underlying t = some (.slice e) := by
  unfold kindS at hk
  split at hk
  ·exact ⟨_, ‹_›⟩
  ·cases hk
 have hq : (Op.equal t (.slice a n c) (.slice none 0 0)).run P w = .ok a.isNone w := by
  unfold Op.equal
  rw [show Op.maxDepth = 9999 + 1 from rfl, Op.equalIn]
  cases a <;> simp [Sem.run_bind, run_underlying he]
 obtain ⟨dst, op, ty, pos, aft, gd⟩ := o
 simp only at ho
 subst ho
 simp only [execOp, hx, hy, eqGuard, binOp, Sem.run_bind]
 simp [hq, Sem.run_bind]
theorem und_rel {Z : Zone} : RV G Z w undV undef := ⟨[], rfl, All2.nil⟩
theorem nilQ_out {o : Oper} {ρ : Operand → AV} {m : Nat} (h : nilQ P o ρ = some m) : ∃ t x t', o.op = .binOp .eql t x (.const (.slice none 0 0)) t' ∧ (kindS P t).isSome = true ∧ ∃ d, ρ x = .v (.one (.fr d)) ∧ m = d.len := by
 unfold nilQ at h
 split at h
 ·rename_i t x t' ho
  split at h
  ·rename_i e d hk hx
   exact ⟨t, x, t', ho, by rw [hk]; rfl, d, hx, (Option.some.inj h).symm⟩
  ·cases h
 ·cases h
theorem evOps_sound {F : Callee} {D : Dec} (hF : CallsOK P F) (hib : ∀ f, D.ib f = true → extIB P f) {ops : List Oper} {k : AS → OR} {Q : Exit → Act → World → Prop} : ∀ {l : List Oper} {b : Nat} {s : AS} {G : List GO} {tv : List Value} {w : World},
   InvG w0 M Z0 b G s tv w → b + room P D l ≤ s.heap.length → evOps P F D ops l b s k = some r →
   (∀ s' G' tv' w', k s' = some r → InvG w0 M Z0 s'.heap.length G' s' tv' w' → Up G G' → Q .normal ⟨tv'.toArray, []⟩ w') → wpList P ops.toArray Q l ⟨tv.toArray, []⟩ w
 | [], b, s, G, tv, w, hI, hb, h, hQ => hQ s G tv w h (hI.raise (by simp only [room] at hb; omega)) (Up.refl G)
 | o :: l, b, s, G, tv, w, hI, hb, h, hQ => by
  simp only [room] at hb
  unfold evOps at h
  unfold wpList
  rcases wantK_sound hI h with ⟨hw, s', h, hI', hh⟩ | ⟨hw, s', h, hI', hh⟩
  ·rw [if_pos hw]
   split at h
   ·rename_i m hm
    have hput : ∀ (d : Option Tmp) (s : AS) (v : AV), (s.put d v).heap = s.heap := fun d s v => by cases d <;> rfl
    obtain ⟨t, x, t', hop, hk, d, hx, rfl⟩ := nilQ_out hm
    have hxr := hI'.ev x
    rw [hx] at hxr
    obtain ⟨⟨a, c, xs, hX, hc1, hc2, hel, hnz⟩, _⟩ := hxr
    obtain ⟨dst, op, ty, pos, aft, gd⟩ := o
    simp only at hop
    subst hop
    have hrun := Y_nilEq (P := P) (o := ⟨dst, .binOp .eql t x (.const (.slice none 0 0)) t', ty, pos, aft, gd⟩) (w := w) (ρ := Act.eval ⟨tv.toArray, []⟩) rfl hk hX rfl
    have key : ∀ bb, a.isNone = bb → evOps P F D ops l (b + nObj P D ⟨dst, .binOp .eql t x (.const (.slice none 0 0)) t', ty, pos, aft, gd⟩) (s'.put dst (boolV bb)) k = some r →
       Oper.wp P ⟨dst, .binOp .eql t x (.const (.slice none 0 0)) t', ty, pos, aft, gd⟩ ⟨tv.toArray, []⟩ w (fun a' w' => wpList P ops.toArray Q l a' w') Q := by
     intro bb hbb h
     refine Oper.wp_mono (fun a' w' hst => ?_) (value_same (k := fun v h => evOps P F D ops l (b + nObj P D ⟨dst, .binOp .eql t x (.const (.slice none 0 0)) t', ty, pos, aft, gd⟩) (({ s' with heap := h } : AS).put dst v) k) (v := boolV bb) (Q := Q) hI' (Nat.le_add_right b (nObj P D ⟨dst, .binOp .eql t x (.const (.slice none 0 0)) t', ty, pos, aft, gd⟩)) hrun h (by rw [hbb]; exact ⟨rfl, fun _ => rfl⟩))
     obtain ⟨v, h', G', tv', hk, rfl, hI2, hl, hu, _⟩ := hst
     refine evOps_sound hF hib (k := k) hI2 ?_ hk fun s2 G2 tv2 w2 h2 hI3 hu2 => hQ s2 G2 tv2 w2 h2 hI3 (hu.trans hu2)
     rw [hput]; show _ ≤ h'.length; rw [hl, hh]; omega
    refine .inl ?_
    rcases cond_some h with ⟨hm0, h⟩ | ⟨hm0, h⟩
    ·obtain ⟨h1, h2⟩ := same_out h
     cases hb : a.isNone with
     | true => exact key true hb h1
     | false => exact key false hb h2
    ·refine key false ?_ h
     rcases hnz with hnz | ⟨ab, ao, ha, _⟩
     ·have := hel.length
      rw [hnz] at this
      simp only [List.length_nil] at this
      have hd0 : d.len ≠ 0 := fun e => by rw [e] at hm0; cases hm0
      have hkz : 0 < d.kind.size := by cases d <;> simp [SD.kind, SK.size]
      have := Nat.mul_pos (Nat.pos_of_ne_zero hd0) hkz
      omega
     ·rw [ha]; rfl
   refine .inl (Oper.wp_mono (fun a' w' hst => ?_) (evOp_sound (Q := Q) hF hib hI' (by rw [hh]; omega) h))
   obtain ⟨v, h', G', tv', hk, rfl, hI2, hl, hu, _⟩ := hst
   have hput : ∀ (d : Option Tmp) (s : AS) (v : AV), (s.put d v).heap = s.heap := fun d s v => by cases d <;> rfl
   refine evOps_sound hF hib (k := k) hI2 ?_ hk fun s2 G2 tv2 w2 h2 hI3 hu2 => hQ s2 G2 tv2 w2 h2 hI3 (hu.trans hu2)
   rw [hput]; show _ ≤ h'.length; rw [hl, hh]; omega
  ·rw [if_neg (by simp [hw])]
   rw [put_act]
   have hput : ∀ (d : Option Tmp) (s : AS) (v : AV), (s.put d v).heap = s.heap := fun d s v => by cases d <;> rfl
   exact evOps_sound hF hib (k := k) ((hI'.put o.dst und_rel).raise (Nat.le_add_right _ _)) (by rw [hput, hh]; omega) h hQ
theorem resL_grow (h : List AObj) (G : List GO) (n : Nat) (hl : h.length = G.length) : resL (h ++ List.replicate n .dead) (G ++ List.replicate n .fresh) = resL h G := by
 rw [resL_append hl, resL_dead, List.append_nil]
theorem InvG.grow (hI : InvG w0 M Z0 b G s tv w) (n : Nat) : InvG w0 M Z0 s.heap.length (G ++ List.replicate n .fresh) (grow n s) tv w := by
 have hr := resL_grow s.heap G n hI.len
 refine ⟨?_, fun j hj hl => ?_, hI.mz⟩
 ·have := hI.st
  rw [← hr] at this
  refine this.weak (relF_stable _ _ _) fun hh => ⟨hh.1.mono fun _ _ _ q => q.up (Up.append _ _), ?_⟩
  exact All2.append (hh.2.mono fun _ _ _ q => q.up (Up.append _ _)) (All2.replicate trivial n)
 ·rw [hI.len] at hj
  rw [List.length_append, List.length_replicate] at hl
  rw [List.getElem?_append_right hj, List.getElem?_replicate, if_pos (by omega)]
end
end Go.Ab
end
section
namespace Go.Ab
open Go Go.Dk
section
variable {P : Program} {w0 w w' : World} {M Z0 Z : Zone} {b : Nat} {G G0 : List GO} {s : AS} {tv : List Value} {r : List V1 × List AObj}
theorem mask_rel (live : List Nat) : ∀ (i : Nat) {l : List AV} {xs : List Value}, All2 (RV G Z w) l xs → All2 (RV G Z w) (maskT live i l) xs
 | i, [], xs, h => h
 | i, v :: l, xs, h => by
  obtain ⟨X, xs', rfl, h1, h2⟩ := h.cons_inv
  refine All2.cons ?_ (mask_rel live (i + 1) h2)
  cases hasN i live
  ·exact any_rel X
  ·exact h1
theorem mask_sound (hI : InvG w0 M Z0 b G s tv w) (live : List Nat) : InvG w0 M Z0 b G ⟨maskT live 0 s.tmps, s.heap⟩ tv w :=
 ⟨hI.st.weak (relF_stable _ _ _) fun hh => ⟨mask_rel live 0 hh.1, hh.2⟩, hI.fresh, hI.mz⟩
theorem sameL_eq : ∀ {l m : List Nat}, sameL l m = true → l = m
 | [], [], _ => rfl
 | a :: l, c :: m, h => by simp only [sameL, Bool.and_eq_true, Nat.beq_eq] at h; rw [h.1, sameL_eq h.2]
 | [], _ :: _, h => by cases h
 | _ :: _, [], h => by cases h
theorem UpW.sel {js : List Nat} {m : Nat} (h : UpW G0 G) (hm : G0.length = m) (hj : js.take m = List.range m) : UpW G0 (selG js G) := by
 have key : ∀ j g, j < m → G[j]? = some g → (selG js G)[j]? = some g := by
  intro j g hjm hg
  have : js[j]? = some j := by
   have := congrArg (fun l => l[j]?) hj
   simp only [List.getElem?_take, if_pos hjm] at this
   rw [this]; simp [hjm]
  exact selG_get this hg
 intro j
 refine ⟨fun hh => ?_, fun b T vs hh => ?_, fun ver val sz xs hh => ?_⟩
 ·exact key j _ (by rw [← hm]; exact lt_of_some hh) ((h j).1 hh)
 ·have hl : j < m := by rw [← hm]; exact lt_of_some hh
  rcases (h j).2.1 b T vs hh with h1 | ⟨T', vs', h1⟩
  ·exact .inl (key j _ hl h1)
  ·exact .inr ⟨T', vs', key j _ hl h1⟩
 ·have hl : j < m := by rw [← hm]; exact lt_of_some hh
  rcases (h j).2.2 _ _ _ _ hh with h1 | ⟨a, c, d, h1⟩
  ·exact .inl (key j _ hl h1)
  ·exact .inr ⟨a, c, d, key j _ hl h1⟩
theorem gc_sound {m : Nat} (hI : InvG w0 M Z0 s.heap.length G s tv w) (hu : UpW G0 G) (hm : G0.length = m) : ∃ G', InvG w0 M Z0 (gc m s).heap.length G' (gc m s) tv w ∧ UpW G0 G' := by
 have hg : gc m s = s ∨ ∃ js, okJs js s.heap.length = true ∧ sameL (js.take m) (List.range m) = true ∧ gc m s = ⟨s.tmps.map (renA js), selH js s.heap⟩ := by
  unfold gc
  generalize reach s.heap 64 _ _ = js
  cases hc : (okJs js s.heap.length && sameL (js.take m) (List.range m)) with
  | false => exact .inl (by simp [hc])
  | true =>
   have hc' := hc
   simp only [Bool.and_eq_true] at hc'
   exact .inr ⟨js, hc'.1, hc'.2, by simp [hc]⟩
 rcases hg with hg | ⟨js, h1, h2, hg⟩
 ·rw [hg]; exact ⟨G, hI, hu⟩
 ·rw [hg]
  exact ⟨selG js G, (hI.sel h1).raise (by simp [selH]), hu.sel hm (sameL_eq h2)⟩
def NewOk (o : AObj) (g : GO) : Prop := ∃ (e : TypeId × SK) (a : Option Addr), o = .arr e.1 e.2.nil 0 false ∧ g = .arr 0 (.slice a 0 0) e.2.size []
def At_ (b : Nat) (N G' : List GO) : Prop := ∀ (i : Nat) g, N[i]? = some g → G'[b + i]? = some g
theorem At_.left {N N' G' : List GO} (h : At_ b (N ++ N') G') : At_ b N G' := fun i g hg => h i g (by rw [List.getElem?_append_left (lt_of_some hg)]; exact hg)
theorem At_.right {N N' G' : List GO} (h : At_ b (N ++ N') G') : At_ (b + N.length) N' G' := fun i g hg => by
 have := h (N.length + i) g (by rw [List.getElem?_append_right (by omega)]; simpa using hg)
 rw [Nat.add_assoc]; exact this
theorem ownS_sound {v : SV} {X : Value} (h : OneR G Z w v X) : ∃ N, All2 NewOk (ownS b v).2 N ∧ ∀ G', At_ b N G' → Up G G' → OneR G' Z w (ownS b v).1 X := by
 unfold ownS
 split
 ·rename_i e
  obtain ⟨⟨a, rfl⟩, h2⟩ := h
  refine ⟨[.arr 0 (.slice a 0 0) e.2.size []], All2.cons ⟨e, a, rfl, rfl⟩ All2.nil, fun G' hA hu => ⟨.inr ⟨0, _, _, _, hA 0 _ rfl, Nat.le_refl _, fun _ => rfl⟩, h2⟩⟩
 ·exact ⟨[], All2.nil, fun G' _ hu => ⟨h.1.up hu, h.2⟩⟩
theorem ownL_sound : ∀ {l : List SV} {xs : List Value} {b : Nat}, All2 (OneR G Z w) l xs → ∃ N, All2 NewOk (ownL b l).2 N ∧ ∀ G', At_ b N G' → Up G G' → All2 (OneR G' Z w) (ownL b l).1 xs
 | [], xs, b, h => ⟨[], All2.nil, fun _ _ _ => by obtain rfl := h.nil_inv; exact All2.nil⟩
 | v :: l, xs, b, h => by
  obtain ⟨X, xs', rfl, h1, h2⟩ := h.cons_inv
  obtain ⟨N1, a1, c1⟩ := ownS_sound (b := b) h1
  obtain ⟨N2, a2, c2⟩ := ownL_sound (b := b + (ownS b v).2.length) h2
  refine ⟨N1 ++ N2, All2.append a1 a2, fun G' hA hu => All2.cons (c1 G' hA.left hu) (c2 G' (by rw [a1.1]; exact hA.right) hu)⟩
theorem ownA_sound {v : AV} {X : Value} {b : Nat} (h : RV G Z w v X) : ∃ N, All2 NewOk (ownA b v).2 N ∧ ∀ G', At_ b N G' → Up G G' → RV G' Z w (ownA b v).1 X := by
 cases v with
 | v x => cases x with
  | one x =>
   by_cases hx : x = .any
   ·subst hx
    exact ⟨[], All2.nil, fun G' _ _ => any_rel X⟩
   ·obtain ⟨N, a, c⟩ := ownS_sound (b := b) ⟨h.1, h.2 hx⟩
    exact ⟨N, a, fun G' hA hu => (c G' hA hu).rv⟩
  | agg l =>
   obtain ⟨xs, hX, hh⟩ := h
   obtain ⟨N, a, c⟩ := ownL_sound (b := b) hh
   exact ⟨N, a, fun G' hA hu => ⟨xs, hX, c G' hA hu⟩⟩
 | tup l => exact ⟨[], All2.nil, fun G' _ hu => RV.up hu h⟩
theorem ownTs_sound : ∀ {l : List AV} {xs : List Value} {b : Nat}, All2 (RV G Z w) l xs → ∃ N, All2 NewOk (ownTs b l).2 N ∧ ∀ G', At_ b N G' → Up G G' → All2 (RV G' Z w) (ownTs b l).1 xs
 | [], xs, b, h => ⟨[], All2.nil, fun _ _ _ => by obtain rfl := h.nil_inv; exact All2.nil⟩
 | v :: l, xs, b, h => by
  obtain ⟨X, xs', rfl, h1, h2⟩ := h.cons_inv
  obtain ⟨N1, a1, c1⟩ := ownA_sound (b := b) h1
  obtain ⟨N2, a2, c2⟩ := ownTs_sound (b := b + (ownA b v).2.length) h2
  refine ⟨N1 ++ N2, All2.append a1 a2, fun G' hA hu => All2.cons (c1 G' hA.left hu) (c2 G' (by rw [a1.1]; exact hA.right) hu)⟩
theorem ownH_sound : ∀ {h : List AObj} {gs : List GO} {b : Nat}, All2 (RO G Z w) h gs → ∃ N, All2 NewOk (ownH b h).2 N ∧ (∀ G', At_ b N G' → Up G G' → All2 (RO G' Z w) (ownH b h).1 gs) ∧ resL (ownH b h).1 gs = resL h gs
 | [], gs, b, h => ⟨[], All2.nil, fun _ _ _ => by obtain rfl := h.nil_inv; exact All2.nil, rfl⟩
 | o :: h, gs, b, hh => by
  obtain ⟨g, gs', rfl, h1, h2⟩ := hh.cons_inv
  cases o with
  | cells c =>
   cases g with
   | cells bb T vs =>
    obtain ⟨N1, a1, c1⟩ := ownL_sound (b := b) h1
    obtain ⟨N2, a2, c2, e2⟩ := ownH_sound (b := b + (ownL b c).2.length) h2
    refine ⟨N1 ++ N2, All2.append a1 a2, fun G' hA hu => All2.cons (c1 G' hA.left hu) (c2 G' (by rw [a1.1]; exact hA.right) hu), ?_⟩
    simp only [ownH, resL, resO, e2]
   | _ => exact h1.elim
  | arr e D v z =>
   obtain ⟨N2, a2, c2, e2⟩ := ownH_sound (b := b) h2
   exact ⟨N2, a2, fun G' hA hu => All2.cons (RO.up hu h1) (c2 G' hA hu), by simp only [ownH, resL, e2]⟩
  | dead =>
   obtain ⟨N2, a2, c2, e2⟩ := ownH_sound (b := b) h2
   exact ⟨N2, a2, fun G' hA hu => All2.cons (RO.up hu h1) (c2 G' hA hu), by simp only [ownH, resL, e2]⟩
theorem new_res : ∀ {o : List AObj} {N : List GO}, All2 NewOk o N → ∀ q ∈ resL o N, (∀ k, ¬ q.foot k) ∧ q.own w ∧ q.Local
 | [], N, h, q, hq => by simp [resL] at hq
 | o :: os, N, h, q, hq => by
  obtain ⟨g, N', rfl, ⟨e, a, rfl, rfl⟩, h2⟩ := h.cons_inv
  simp only [resL, List.mem_append, resO, List.mem_singleton] at hq
  rcases hq with rfl | hq
  ·rw [SK.nil_len]
   exact ⟨fun k h => h, ⟨rfl, rfl, rfl⟩, fun _ _ _ h => h⟩
  ·exact new_res h2 q hq
theorem new_RO {o : List AObj} {N : List GO} (h : All2 NewOk o N) : All2 (RO G Z w) o N :=
 h.mono fun o g _ ⟨e, a, ho, hg⟩ => by
  subst ho hg
  exact ⟨rfl, by rw [SK.nil_kind], ElemsR_nil e.2, a, 0, by rw [SK.nil_len]⟩
theorem _root_.Go.Dk.St.empties {L L' : List Res} {φ : Fact} (h : St w0 M Z0 L φ w) (h' : ∀ q ∈ L', (∀ k, ¬ q.foot k) ∧ q.own w ∧ q.Local) : St w0 M Z0 (L ++ L') φ w := by
 refine ⟨h.ext, ?_, ?_, ?_, ?_, h.stab, ?_⟩
 ·intro q hq; exact (List.mem_append.1 hq).elim (h.own q) (fun hq => (h' q hq).2.1)
 ·intro q hq; exact (List.mem_append.1 hq).elim (h.loc q) (fun hq => (h' q hq).2.2)
 ·intro q hq k hk; exact (List.mem_append.1 hq).elim (fun hq => h.key q hq k hk) (fun hq => ((h' q hq).1 k hk).elim)
 ·refine List.pairwise_append.2 ⟨h.dis, ?_, fun q hq p hp k _ hk => (h' p hp).1 k hk⟩
  exact List.Pairwise.imp_of_mem (fun ha _ _ k hk _ => (h' _ ha).1 k hk) (List.pairwise_of_forall (fun _ _ => trivial) : List.Pairwise (fun _ _ => True) L')
 ·refine h.stab _ _ w w (fun k hz _ => ⟨⟨hz.1, fun q hq hf => ?_⟩, rfl⟩) h.per
  exact (List.mem_append.1 hq).elim (fun hq => hz.2 q hq hf) (fun hq => (h' q hq).1 k hf)
theorem ownAll_sound (hI : InvG w0 M Z0 s.heap.length G s tv w) (hu : UpW G0 G) : ∃ G', InvG w0 M Z0 (ownAll s).heap.length G' (ownAll s) tv w ∧ UpW G0 G' := by
 obtain ⟨N1, a1, c1⟩ := ownTs_sound (b := s.heap.length) hI.st.per.1
 obtain ⟨N2, a2, c2, e2⟩ := ownH_sound (b := s.heap.length + (ownTs s.heap.length s.tmps).2.length) hI.st.per.2
 have hup := Up.append G (N1 ++ N2)
 refine ⟨G ++ (N1 ++ N2), ⟨?_, fun j hj hl => ?_, hI.mz⟩, hu.trans hup.weak⟩
 ·have hnew := All2.append a1 a2
  have hL : resL (ownAll s).heap (G ++ (N1 ++ N2)) = resL s.heap G ++ resL ((ownTs s.heap.length s.tmps).2 ++ (ownH (s.heap.length + (ownTs s.heap.length s.tmps).2.length) s.heap).2) (N1 ++ N2) := by
   show resL ((ownH (s.heap.length + (ownTs s.heap.length s.tmps).2.length) s.heap).1 ++ _) _ = _
   have hlen : (ownH (s.heap.length + (ownTs s.heap.length s.tmps).2.length) s.heap).1.length = G.length := by
    have := c2 (G ++ (N1 ++ N2)) (fun i g hg => by
     have hl := lt_of_some hg
     rw [a1.1, hI.len, List.getElem?_append_right (by omega), List.getElem?_append_right (by omega)]
     rw [show G.length + N1.length + i - G.length - N1.length = i by omega]; exact hg) hup
    exact this.1
   rw [resL_append hlen, e2]
  have hS := hI.st.empties (new_res (w := w) hnew)
  rw [← hL] at hS
  refine hS.weak (relF_stable _ _ _) fun hh => ?_
  obtain ⟨N1', a1', c1'⟩ := ownTs_sound (b := s.heap.length) hh.1
  have hk : ∀ k, zn w0 Z0 s G k → zone w0 Z0 (resL (ownAll s).heap (G ++ (N1 ++ N2))) k := fun k hk => ⟨hk.1, fun q hq hf => by
   rw [hL] at hq
   exact (List.mem_append.1 hq).elim (fun hq => hk.2 q hq hf) (fun hq => (new_res (w := w) hnew q hq).1 k hf)⟩
  have hA1 : At_ s.heap.length N1 (G ++ (N1 ++ N2)) := fun i g hg => by
   have hl := lt_of_some hg
   rw [hI.len, List.getElem?_append_right (by omega), show G.length + i - G.length = i by omega, List.getElem?_append_left hl]; exact hg
  have hA2 : At_ (s.heap.length + (ownTs s.heap.length s.tmps).2.length) N2 (G ++ (N1 ++ N2)) := fun i g hg => by
   rw [a1.1, hI.len, List.getElem?_append_right (by omega), List.getElem?_append_right (by omega)]
   rw [show G.length + N1.length + i - G.length - N1.length = i by omega]; exact hg
  refine ⟨(c1 _ hA1 hup).mono fun _ _ _ q => q.stable (keeps_le hk), ?_⟩
  exact All2.append ((c2 _ hA2 hup).mono fun _ _ _ q => q.stable (keeps_le hk)) (new_RO hnew)
 ·exfalso
  have h1 : (ownAll s).heap.length = s.heap.length + ((ownTs s.heap.length s.tmps).2.length + (ownH (s.heap.length + (ownTs s.heap.length s.tmps).2.length) s.heap).2.length) := by
   show ((ownH (s.heap.length + (ownTs s.heap.length s.tmps).2.length) s.heap).1 ++ _).length = _
   have := c2 (G ++ (N1 ++ N2)) (fun i g hg => by
      have hl := lt_of_some hg
      rw [a1.1, hI.len, List.getElem?_append_right (by omega), List.getElem?_append_right (by omega)]
      rw [show G.length + N1.length + i - G.length - N1.length = i by omega]; exact hg) hup
   rw [List.length_append, List.length_append, this.1, hI.len]
  have e1 := a1.1
  have e2 := a2.1
  have e3 := hI.len
  rw [h1] at hj
  rw [List.length_append, List.length_append] at hl
  omega
def v0 : GO → GO
 | .arr _ v sz xs => .arr 0 v sz xs
 | g => g
theorem ver0S_rel {h : List AObj} (hh : All2 (RO G Z w) h G) {v : SV} {X : Value} (hx : RS G Z w v X) : RS (G.map v0) Z w (ver0S h v) X := by
 cases v with
 | own j v =>
  show RS _ _ _ (match h[j]? with | some (.arr _ _ ver _) => cond (Nat.beq v ver) (.own j 0) .any | _ => .any) X
  split
  ·rename_i hj
   rename_i ver _
   cases hv : Nat.beq v ver with
   | false => trivial
   | true =>
    simp only [Nat.beq_eq] at hv
    obtain ⟨g, hg, hr⟩ := hh.get hj
    cases g with
    | arr ver' val sz xs =>
     obtain ⟨rfl, _⟩ := hr
     exact .inr ⟨0, val, sz, xs, by simp [hg, v0], Nat.le_refl _, fun _ => own_val hx hg hv⟩
    | _ => exact hr.elim
  ·trivial
 | ptr j o =>
  rcases hx with hx | ⟨bb, T, vs, hg, he⟩
  ·exact .inl (by simp [hx, v0])
  ·exact .inr ⟨bb, T, vs, by simp [hg, v0], he⟩
 | op j v i o => trivial
 | fn f l =>
  obtain ⟨bs, hX, hb⟩ := hx
  refine ⟨bs, hX, hb.mono fun j bb _ h => ?_⟩
  rcases h with h | ⟨T, vs, h⟩
  ·exact .inl (by simp [h, v0])
  ·exact .inr ⟨T, vs, by simp [h, v0]⟩
 | _ => exact hx
theorem ver0_sound (hI : InvG w0 M Z0 s.heap.length G s tv w) (hu : UpW G0 G) : ∃ G', InvG w0 M Z0 (ver0 s).heap.length G' (ver0 s) tv w ∧ UpW G0 G' := by
 have hL : ∀ (h : List AObj) (gs : List GO) (h0 : List AObj), resL (h.map (ver0O h0)) (gs.map v0) = resL h gs := by
  intro h
  induction h with
  | nil => intro gs h0; rfl
  | cons o h ih =>
   intro gs h0
   cases gs with
   | nil => rfl
   | cons g gs =>
    simp only [List.map_cons, resL, ih]
    congr 1
    cases o with
    | arr e D v z => cases g <;> cases z <;> rfl
    | _ => cases g <;> rfl
 refine ⟨G.map v0, ⟨?_, fun j hj hl => ?_, hI.mz⟩, ?_⟩
 ·have hS := hI.st
  rw [← hL s.heap G s.heap] at hS
  refine hS.weak (relF_stable _ _ _) fun hh => ⟨?_, ?_⟩
  ·refine hh.1.map_left fun v X hx => ?_
   cases v with
   | v x => cases x with
    | one x =>
     refine ⟨ver0S_rel hh.2 hx.1, fun hne => hx.2 ?_⟩
     rintro rfl; exact hne rfl
    | agg l =>
     obtain ⟨xs, hX, hc⟩ := hx
     exact ⟨xs, hX, hc.map_left fun _ _ q => ⟨ver0S_rel hh.2 q.1, q.2⟩⟩
   | tup l => exact any_rel X
  ·have hh2 := hh.2
   refine ⟨by simp [ver0, hh2.1], fun i o g ho hg => ?_⟩
   simp only [ver0, List.getElem?_map] at ho hg
   obtain ⟨o', ho', rfl⟩ := Option.map_eq_some_iff.1 ho
   obtain ⟨g', hg', rfl⟩ := Option.map_eq_some_iff.1 hg
   have hr := hh2.2 i o' g' ho' hg'
   cases o' with
   | cells l => cases g' with
    | cells bb T vs => exact All2.map_left hr fun _ _ q => ⟨ver0S_rel hh2 q.1, q.2⟩
    | _ => exact hr.elim
   | arr e D v z => cases g' with
    | arr ver val sz xs => obtain ⟨_, h2, h3⟩ := hr; exact ⟨rfl, h2, h3⟩
    | _ => exact hr.elim
   | dead => cases g' <;> first | trivial | exact hr.elim
 ·exfalso
  simp [ver0] at hj hl
  rw [hI.len] at hj; omega
 ·refine hu.trans fun j => ⟨fun hh => by simp [hh, v0], fun bb T vs hh => .inr ⟨T, vs, by simp [hh, v0]⟩, fun ver val sz xs hh => .inr ⟨0, val, xs, by simp [hh, v0]⟩⟩
theorem atHead_sound {m : Nat} {live : Option (List Nat)} (hI : InvG w0 M Z0 s.heap.length G s tv w) (hu : UpW G0 G) (hm : G0.length = m) :
   ∃ G', InvG w0 M Z0 (atHead m live s).heap.length G' (atHead m live s) tv w ∧ UpW G0 G' := by
 cases live with
 | none => exact ⟨G, hI, hu⟩
 | some live =>
  obtain ⟨G1, h1, u1⟩ := gc_sound (s := ⟨maskT live 0 s.tmps, s.heap⟩) (mask_sound hI live) hu hm
  obtain ⟨G2, h2, u2⟩ := ownAll_sound h1 u1
  obtain ⟨G3, h3, u3⟩ := gc_sound h2 u2 hm
  exact ver0_sound h3 u3
end
end Go.Ab
namespace Go.Ab
open Go Go.Dk
section
variable {P : Program} {w0 w w' : World} {M Z0 Z : Zone} {b : Nat} {G G0 : List GO} {s : AS} {tv : List Value} {r : List V1 × List AObj}
theorem resC_sound (hI : InvG w0 M Z0 b G s tv w) : ∀ {l : List ResultVar} {k : List V1 → OR}, resC P s l k = some r →
   ∃ vs xs, k vs = some r ∧ All2 (RV1 G (zn w0 Z0 s G) w) vs xs ∧ (l.mapM (resOne tv.toArray)).run P w = .ok xs w
 | [], k, h => ⟨[], [], h, All2.nil, rfl⟩
 | .tmp t :: l, k, h => by
  unfold resC at h
  split at h
  ·rename_i x hx
   obtain ⟨vs, xs, hk, hr, hrun⟩ := resC_sound hI h
   have hv := getD_rel (da := anyV) (db := undef) hI.st.per.1 any_rel t
   rw [hx] at hv
   refine ⟨_, tv.getD t undef :: xs, hk, All2.cons hv hr, ?_⟩
   have h1 : (resOne tv.toArray (.tmp t)).run P w = .ok (tv.getD t undef) w := R_tmp rfl
   simp only [List.mapM_cons, Sem.run_bind, h1, Result.andThen_ok, hrun, Sem.run_pure]
  ·cases h
 | .cell a t :: l, k, h => by
  unfold resC at h
  obtain ⟨v, X, bb, o, h, hp, hl, hv⟩ := evLoad_addr (VX := tv.getD a undef) hI (getD_rel hI.st.per.1 any_rel a) h
  split at h
  ·rename_i x
   obtain ⟨vs, xs, hk, hr, hrun⟩ := resC_sound hI h
   refine ⟨_, X :: xs, hk, All2.cons hv hr, ?_⟩
   have h1 : (resOne tv.toArray (.cell a t)).run P w = .ok X w := R_cell (ad := ⟨bb, o, none⟩) hp hl
   simp only [List.mapM_cons, Sem.run_bind, h1, Result.andThen_ok, hrun, Sem.run_pure]
  ·cases h
theorem run_results {fn : Func} {xs : List Value} (h : (fn.results.toList.mapM (resOne tv.toArray)).run P w = .ok xs w) :
   (results fn tv.toArray).run P w = .ok (if h : xs.toArray.size = 1 then xs.toArray[0] else .tuple xs.toArray) w := by
 rw [results_eq, Array.mapM_eq_mapM_toList]
 simp [Sem.run_bind, h, Sem.run_pure]
theorem clean_like (v : SV) : LikeS v (clean v) := by
 intro G G' Z w X h
 cases v <;> first | exact h | exact ⟨trivial, h.2⟩
theorem cleanL_like : ∀ l : List SV, All2 LikeS l (l.map clean)
 | [] => All2.nil
 | v :: l => All2.cons (clean_like v) (cleanL_like l)
def Alone (o : AObj) (g : GO) : Prop := ∀ (G G' : List GO) (Z : Zone) (w : World), RO G Z w o g → RO G' Z w o g
theorem alone_arr (e : TypeId) (D : SD) (v : Nat) (z : Bool) (g : GO) : Alone (.arr e D v z) g := fun _ _ _ _ h => RO_arr_any h
theorem alone_cells (l : List SV) (g : GO) : Alone (.cells (l.map clean)) g := by
 intro G G' Z w h
 cases g with
 | cells bb T vs =>
  refine All2.mono h fun v X hv hr => ?_
  obtain ⟨v', _, rfl⟩ := List.mem_map.1 hv
  have hr' : OneR G Z w (clean v') X := hr
  have : ∀ v, clean (clean v) = clean v := by intro v; cases v <;> rfl
  have h2 := clean_like (clean v') G G' Z w X hr'
  rw [this] at h2; exact h2
 | _ => exact h
structure Parked (w0 : World) (M Z0 : Zone) (m : Nat) (G : List GO) (tm : List AV) (tv : List Value) (w : World) (h acc : List AObj) (A : List GO) : Prop where
 inv : InvG w0 M Z0 (h.length + acc.length) (G ++ A) ⟨tm, h ++ acc⟩ tv w
 len : h.length = G.length
 alone : All2 Alone acc A
theorem Parked.lenA {m : Nat} {tm : List AV} {h acc : List AObj} {A : List GO} (hp : Parked w0 M Z0 m G tm tv w h acc A) : acc.length = A.length := hp.alone.1
theorem Parked.park {m : Nat} {tm : List AV} {h acc : List AObj} {A : List GO} (hp : Parked w0 M Z0 m G tm tv w h acc A) {j : Nat} {o o' : AObj} {g g' : GO} (hj : h[j]? = some o) (hg : G[j]? = some g) (hres : resO o' g' = resO o g) (ha : Alone o' g')
   (hro : ∀ Z' : Zone, (∀ k, zn w0 Z0 ⟨tm, h ++ acc⟩ (G ++ A) k → Z' k) → RO (G ++ A) Z' w o' g') :
   Parked w0 M Z0 m (G.set j .gone) tm tv w (h.set j .dead) (acc ++ [o']) (A ++ [g']) ∧ (∀ k, zn w0 Z0 ⟨tm, h ++ acc⟩ (G ++ A) k → zn w0 Z0 ⟨tm, h.set j .dead ++ (acc ++ [o'])⟩ (G.set j .gone ++ (A ++ [g'])) k) ∧ Up (G ++ A) (G.set j .gone ++ (A ++ [g'])) := by
 have hjl := lt_of_some hj
 have hgl := lt_of_some hg
 have hj' : (h ++ acc)[j]? = some o := by rw [List.getElem?_append_left hjl]; exact hj
 have hg' : (G ++ A)[j]? = some g := by rw [List.getElem?_append_left hgl]; exact hg
 have hset : (h ++ acc).set j .dead = h.set j .dead ++ acc := by rw [List.set_append_left _ _ hjl]
 have hsetG : (G ++ A).set j .gone = G.set j .gone ++ A := by rw [List.set_append_left _ _ hgl]
 have hperm : (resL (h ++ acc) (G ++ A)).Perm (resL (h.set j .dead ++ (acc ++ [o'])) (G.set j .gone ++ (A ++ [g']))) := by
  refine (resL_out (h ++ acc) (G ++ A) j hj' hg').trans ?_
  rw [hset, hsetG]
  rw [resL_append (by simp [hp.len]), resL_append (by simp [hp.len]), resL_append hp.lenA]
  have : resL [o'] [g'] = resO o g := by simp [resL, hres]
  rw [this]
  have hc := List.perm_append_comm (l₁ := resO o g) (l₂ := resL (h.set j .dead) (G.set j .gone) ++ resL acc A)
  simpa [List.append_assoc] using hc
 have hz : ∀ k, zn w0 Z0 ⟨tm, h ++ acc⟩ (G ++ A) k → zn w0 Z0 ⟨tm, h.set j .dead ++ (acc ++ [o'])⟩ (G.set j .gone ++ (A ++ [g'])) k := fun k hk => ⟨hk.1, fun q hq => hk.2 q (hperm.mem_iff.2 hq)⟩
 have hup : Up (G ++ A) (G.set j .gone ++ (A ++ [g'])) := by
  have h1 : Up (G ++ A) ((G ++ A).set j .gone) := Up.set fun g0 h0 => by cases g0 <;> trivial
  rw [hsetG] at h1
  have h2 := Up.append (G.set j .gone ++ A) [g']
  rw [List.append_assoc] at h2
  exact h1.trans h2
 refine ⟨⟨⟨?_, fun i hi hl => ?_, hp.inv.mz⟩, by simp [hp.len], All2.append hp.alone (All2.cons ha All2.nil)⟩, hz, hup⟩
 ·refine (hp.inv.st.perm hperm).weak (relF_stable _ _ _) fun hh => ⟨hh.1.mono fun _ _ _ q => q.up hup, ?_⟩
  have hh2 : All2 (RO (G.set j .gone ++ (A ++ [g'])) (zone w0 Z0 (resL (h.set j .dead ++ (acc ++ [o'])) (G.set j .gone ++ (A ++ [g'])))) w) (h ++ acc) (G ++ A) := hh.2.mono fun _ _ _ q => q.up hup
  have hs := hh2.set j (a := .dead) (b := .gone) trivial
  rw [hset, hsetG] at hs
  have hnew : RO (G.set j .gone ++ (A ++ [g'])) (zone w0 Z0 (resL (h.set j .dead ++ (acc ++ [o'])) (G.set j .gone ++ (A ++ [g'])))) w o' g' := ha _ _ _ _ (hro _ hz)
  rw [← List.append_assoc, ← List.append_assoc]
  rw [← List.append_assoc, ← List.append_assoc] at hs hnew
  exact All2.append hs (All2.cons hnew All2.nil)
 ·exfalso
  have := hp.len
  have := hp.lenA
  simp at hi hl; omega
theorem Parked.parkNew {m : Nat} {tm : List AV} {h acc : List AObj} {A : List GO} (hp : Parked w0 M Z0 m G tm tv w h acc A) {o' : AObj} {g' : GO} (hn : NewOk o' g') :
   Parked w0 M Z0 m G tm tv w h (acc ++ [o']) (A ++ [g']) ∧ (∀ k, zn w0 Z0 ⟨tm, h ++ acc⟩ (G ++ A) k → zn w0 Z0 ⟨tm, h ++ (acc ++ [o'])⟩ (G ++ (A ++ [g'])) k) ∧ Up (G ++ A) (G ++ (A ++ [g'])) := by
 have hall : All2 NewOk [o'] [g'] := All2.cons hn All2.nil
 have hnew := new_res (w := w) hall
 have hL : resL (h ++ (acc ++ [o'])) (G ++ (A ++ [g'])) = resL (h ++ acc) (G ++ A) ++ resL [o'] [g'] := by
  rw [← List.append_assoc, ← List.append_assoc, resL_append (by have := hp.len; have := hp.lenA; simp; omega)]
 have hS := hp.inv.st.empties hnew
 rw [← hL] at hS
 have hz : ∀ k, zn w0 Z0 ⟨tm, h ++ acc⟩ (G ++ A) k → zn w0 Z0 ⟨tm, h ++ (acc ++ [o'])⟩ (G ++ (A ++ [g'])) k := fun k hk => ⟨hk.1, fun q hq hf => by
  rw [hL] at hq
  exact (List.mem_append.1 hq).elim (fun hq => hk.2 q hq hf) (fun hq => (hnew q hq).1 k hf)⟩
 have hup : Up (G ++ A) (G ++ (A ++ [g'])) := by rw [← List.append_assoc]; exact Up.append _ _
 refine ⟨⟨⟨?_, fun i hi hl => ?_, hp.inv.mz⟩, hp.len, All2.append hp.alone (All2.cons ?_ All2.nil)⟩, hz, hup⟩
 ·refine hS.weak (relF_stable _ _ _) fun hh => ⟨hh.1.mono fun _ _ _ q => q.up hup, ?_⟩
  have := All2.append (All2.mono hh.2 fun _ _ _ q => RO.up hup q) (new_RO (G := G ++ (A ++ [g'])) (Z := zone w0 Z0 (resL (h ++ (acc ++ [o'])) (G ++ (A ++ [g'])))) (w := w) hall)
  rw [List.append_assoc, List.append_assoc] at this
  exact this
 ·exfalso
  have := hp.len
  have := hp.lenA
  simp at hi hl; omega
 ·obtain ⟨e, a, rfl, rfl⟩ := hn
  exact alone_arr _ _ _ _ _
structure OutTo (w0 : World) (M Z0 : Zone) (m : Nat) (G : List GO) (tm : List AV) (tv : List Value) (w : World) (h acc : List AObj) (A : List GO) (b : Nat) (h' os : List AObj) (G' N : List GO) (Rel : List GO → Prop) : Prop where
 park : Parked w0 M Z0 m G' tm tv w h' (acc ++ os) (A ++ N)
 hl : h'.length = h.length
 zl : ∀ k, zn w0 Z0 ⟨tm, h ++ acc⟩ (G ++ A) k → zn w0 Z0 ⟨tm, h' ++ (acc ++ os)⟩ (G' ++ (A ++ N)) k
 up : Up (G ++ A) (G' ++ (A ++ N))
 nl : os.length = N.length
 rel : ∀ Gf, At_ b N Gf → Rel Gf
theorem Parked.freezeAt {m : Nat} {tm : List AV} {h acc : List AObj} {A : List GO} (hp : Parked w0 M Z0 m G tm tv w h acc A) {j : Nat} {e : TypeId} {D : SD} {ver : Nat} {fz : Bool} (hj : h[j]? = some (.arr e D ver fz)) :
   Parked w0 M Z0 m G tm tv w (h.set j (.arr e D ver true)) acc A ∧ (∀ k, zn w0 Z0 ⟨tm, h ++ acc⟩ (G ++ A) k → zn w0 Z0 ⟨tm, h.set j (.arr e D ver true) ++ acc⟩ (G ++ A) k) := by
 have hjl := lt_of_some hj
 obtain ⟨h1, h2⟩ := hp.inv.freezeAt (j := j) (e := e) (D := D) (ver := ver) (fz := fz) (by show (h ++ acc)[j]? = _; rw [List.getElem?_append_left hjl]; exact hj)
 have hset : (h ++ acc).set j (.arr e D ver true) = h.set j (.arr e D ver true) ++ acc := by rw [List.set_append_left _ _ hjl]
 simp only [hset] at h1 h2
 exact ⟨⟨by simpa using h1, by simp [hp.len], hp.alone⟩, h2⟩
theorem getJ {m : Nat} {tm : List AV} {h acc : List AObj} {A : List GO} (hp : Parked w0 M Z0 m G tm tv w h acc A) {j : Nat} {o : AObj} (hj : h[j]? = some o) : ∃ g, G[j]? = some g ∧ (G ++ A)[j]? = some g ∧ RO (G ++ A) (zn w0 Z0 ⟨tm, h ++ acc⟩ (G ++ A)) w o g := by
 have hjl := lt_of_some hj
 obtain ⟨g, hg, hr⟩ := hp.inv.st.per.2.get (i := j) (a := o) (by show (h ++ acc)[j]? = _; rw [List.getElem?_append_left hjl]; exact hj)
 have hl : j < G.length := by rw [← hp.len]; exact hjl
 exact ⟨g, by rw [List.getElem?_append_left hl] at hg; exact hg, hg, hr⟩
theorem sealS_parked {m : Nat} {tm : List AV} {h acc : List AObj} {A : List GO} (hp : Parked w0 M Z0 m G tm tv w h acc A) {v : SV} {X : Value} {k : SV → List AObj → OR} (hx : OneR (G ++ A) (zn w0 Z0 ⟨tm, h ++ acc⟩ (G ++ A)) w v X) (hk : sealS h v k = some r) :
   ∃ v' h', k v' h' = some r ∧ Parked w0 M Z0 m G tm tv w h' acc A ∧ h'.length = h.length ∧ (∀ k, zn w0 Z0 ⟨tm, h ++ acc⟩ (G ++ A) k → zn w0 Z0 ⟨tm, h' ++ acc⟩ (G ++ A) k) ∧ OneR (G ++ A) (zn w0 Z0 ⟨tm, h' ++ acc⟩ (G ++ A)) w v' X ∧
    ∀ (i : Nat) c, h[i]? = some (.cells c) → h'[i]? = some (.cells c) := by
 unfold sealS at hk
 split at hk
 ·rename_i j v
  split at hk
  ·rename_i e D ver fz hj
   obtain ⟨hv, hk'⟩ := cond_left hk
   simp only [Nat.beq_eq] at hv
   obtain ⟨q1, q2⟩ := hp.freezeAt hj
   have hjl := lt_of_some hj
   refine ⟨_, _, hk', q1, by simp, q2, ⟨?_, hx.2⟩, fun i c hi => ?_⟩
   ·exact q1.inv.frozen_val (j := j) (v := v) (e := e) (D := D) (ver := ver) (X := X) (by show (h.set j _ ++ acc)[j]? = _; rw [List.getElem?_append_left (by simpa using hjl)]; simp [hjl]) hv (hx.1.stable (keeps_le q2))
   ·have : j ≠ i := by rintro rfl; rw [hj] at hi; cases hi
    rw [List.getElem?_set_ne this]; exact hi
  ·cases hk
 ·obtain ⟨⟨a, rfl⟩, h2⟩ := hx
  exact ⟨_, _, hk, hp, rfl, fun _ h => h, ⟨SlR_nil _ _, h2⟩, fun _ _ h => h⟩
 ·exact ⟨_, _, hk, hp, rfl, fun _ h => h, hx, fun _ _ h => h⟩
theorem sealL_parked {m : Nat} {tm : List AV} {acc : List AObj} {A : List GO} : ∀ {l : List SV} {h : List AObj} {xs : List Value} {k : List SV → List AObj → OR}, Parked w0 M Z0 m G tm tv w h acc A → All2 (OneR (G ++ A) (zn w0 Z0 ⟨tm, h ++ acc⟩ (G ++ A)) w) l xs → sealL h l k = some r →
   ∃ l' h', k l' h' = some r ∧ Parked w0 M Z0 m G tm tv w h' acc A ∧ h'.length = h.length ∧ (∀ k, zn w0 Z0 ⟨tm, h ++ acc⟩ (G ++ A) k → zn w0 Z0 ⟨tm, h' ++ acc⟩ (G ++ A) k) ∧ All2 (OneR (G ++ A) (zn w0 Z0 ⟨tm, h' ++ acc⟩ (G ++ A)) w) l' xs ∧
    ∀ (i : Nat) c, h[i]? = some (.cells c) → h'[i]? = some (.cells c)
 | [], h, xs, k, hp, ha, hk => by
  obtain rfl := ha.nil_inv
  exact ⟨_, _, hk, hp, rfl, fun _ h => h, All2.nil, fun _ _ h => h⟩
 | v :: l, h, xs, k, hp, ha, hk => by
  obtain ⟨X, xs', rfl, h1, h2⟩ := ha.cons_inv
  unfold sealL at hk
  obtain ⟨v', h', hk1, q1, q2, q3, q4, q5⟩ := sealS_parked hp h1 hk
  obtain ⟨l', h'', hk2, p1, p2, p3, p4, p5⟩ := sealL_parked q1 (h2.mono fun _ _ _ q => q.mono (keeps_le q3) (Up.refl _)) hk1
  exact ⟨_, _, hk2, p1, p2.trans q2, fun k hk => p3 k (q3 k hk), All2.cons (q4.mono (keeps_le p3) (Up.refl _)) p4, fun i c hi => p5 i c (q5 i c hi)⟩
theorem outC_sound {own : Bool} {m : Nat} {tm : List AV} : ∀ {l : List SV} {h acc : List AObj} {G A : List GO} {b : Nat} {xs : List Value} {k : List SV → List AObj → List AObj → OR},
   Parked w0 M Z0 m G tm tv w h acc A → All2 (OneR (G ++ A) (zn w0 Z0 ⟨tm, h ++ acc⟩ (G ++ A)) w) l xs → outC own l h b k = some r →
   ∃ cs h' os G' N, k cs h' os = some r ∧ OutTo w0 M Z0 m G tm tv w h acc A b h' os G' N (fun Gf => All2 (OneR Gf (zn w0 Z0 ⟨tm, h' ++ (acc ++ os)⟩ (G' ++ (A ++ N))) w) cs xs)
 | [], h, acc, G, A, b, xs, k, hp, ha, hk => by
  obtain rfl := ha.nil_inv
  exact ⟨[], h, [], G, [], hk, by simpa using hp, rfl, by simp, by simpa using Up.refl (G ++ A), rfl, fun _ _ => All2.nil⟩
 | v :: l, h, acc, G, A, b, xs, k, hp, ha, hk => by
  obtain ⟨X, xs', rfl, h1, h2⟩ := ha.cons_inv
  -- a cell that stays what it is, or is forgotten
  have same : ∀ v', LikeS v v' → outC own l h b (fun cs h os => k (v' :: cs) h os) = some r → ∃ cs h' os G' N, k cs h' os = some r ∧ OutTo w0 M Z0 m G tm tv w h acc A b h' os G' N (fun Gf => All2 (OneR Gf (zn w0 Z0 ⟨tm, h' ++ (acc ++ os)⟩ (G' ++ (A ++ N))) w) cs (X :: xs')) := by
   intro v' hv hk
   obtain ⟨cs, h', os, G', N, hk', ho⟩ := outC_sound hp h2 hk
   exact ⟨_, h', os, G', N, hk', ho.park, ho.hl, ho.zl, ho.up, ho.nl, fun Gf hA => All2.cons ((hv _ Gf _ _ _ h1).mono (keeps_le ho.zl) (Up.refl _)) (ho.rel Gf hA)⟩
  -- an object is parked
  have parked : ∀ {h2' : List AObj} {G2 : List GO} {o' : AObj} {g' : GO}, Parked w0 M Z0 m G2 tm tv w h2' (acc ++ [o']) (A ++ [g']) → h2'.length = h.length →
     (∀ k, zn w0 Z0 ⟨tm, h ++ acc⟩ (G ++ A) k → zn w0 Z0 ⟨tm, h2' ++ (acc ++ [o'])⟩ (G2 ++ (A ++ [g'])) k) → Up (G ++ A) (G2 ++ (A ++ [g'])) → ∀ v' : SV, (∀ Gf, Gf[b]? = some g' → OneR Gf (zn w0 Z0 ⟨tm, h ++ acc⟩ (G ++ A)) w v' X) →
     outC own l h2' (b + 1) (fun cs h os => k (v' :: cs) h (o' :: os)) = some r → ∃ cs h' os G' N, k cs h' os = some r ∧ OutTo w0 M Z0 m G tm tv w h acc A b h' os G' N (fun Gf => All2 (OneR Gf (zn w0 Z0 ⟨tm, h' ++ (acc ++ os)⟩ (G' ++ (A ++ N))) w) cs (X :: xs')) := by
   intro h2' G2 o' g' hp2 hl2 hz2 hu2 v' hv hk
   obtain ⟨cs, h', os, G', N, hk', ho⟩ := outC_sound hp2 (h2.mono fun _ _ _ q => q.mono (keeps_le hz2) hu2) hk
   have e1 : acc ++ o' :: os = acc ++ [o'] ++ os := by simp
   have e2 : A ++ g' :: N = A ++ [g'] ++ N := by simp
   refine ⟨_, h', o' :: os, G', g' :: N, hk', ?_, ho.hl.trans hl2, ?_, ?_, by simp [ho.nl], fun Gf hA => ?_⟩
   ·rw [e1, e2]; exact ho.park
   ·rw [e1, e2]; exact fun k hk => ho.zl k (hz2 k hk)
   ·rw [e2]; exact hu2.trans ho.up
   ·rw [e1, e2]
    refine All2.cons ((hv Gf (hA 0 g' rfl)).mono (keeps_le fun k hk => ho.zl k (hz2 k hk)) (Up.refl _)) (ho.rel Gf fun i g hi => ?_)
    have := hA (i + 1) g (by simpa using hi)
    rw [show b + 1 + i = b + (i + 1) by omega]; exact this
  cases v with
  | own j v0 =>
   simp only [outC] at hk
   split at hk
   ·rename_i e D ver fz hj
    replace hk := cond_left hk; obtain ⟨hv, hk⟩ := hk
    simp only [Nat.beq_eq] at hv
    obtain ⟨g, hg, hg', hr⟩ := getJ hp hj
    cases g with
    | arr ver' val sz xs0 =>
     have hverr := hr.1
     subst hverr
     have hX := own_val h1.1 hg' hv
     rcases cond_some hk with ⟨_, hk⟩ | ⟨_, hk⟩
     ·obtain ⟨hfz, hk2⟩ := cond_right hk
      subst hfz
      obtain ⟨q1, q2, q3⟩ := hp.park (o' := .arr e D 0 false) (g' := .arr 0 val sz xs0) hj hg rfl (alone_arr _ _ _ _ _) (fun Z' h => ⟨rfl, (RO.stable (keeps_le h) hr).2⟩)
      exact parked q1 (by simp) q2 q3 (.own b 0) (fun Gf hGf => ⟨.inr ⟨0, val, sz, xs0, hGf, Nat.le_refl _, fun _ => hX⟩, h1.2⟩) hk2
     ·obtain ⟨q1, q2⟩ := hp.freezeAt hj
      obtain ⟨cs, h', os, G', N, hk', ho⟩ := outC_sound q1 (h2.mono fun _ _ _ q => q.mono (keeps_le q2) (Up.refl _)) hk
      refine ⟨_, h', os, G', N, hk', ho.park, by rw [ho.hl]; simp, fun k hk => ho.zl k (q2 k hk), ho.up, ho.nl, fun Gf hA => All2.cons ?_ (ho.rel Gf hA)⟩
      have hjl := lt_of_some hj
      have hsl := q1.inv.frozen_val (j := j) (v := v0) (e := e) (D := D) (ver := ver) (X := X) (by show (h.set j _ ++ acc)[j]? = _; rw [List.getElem?_append_left (by simpa using hjl)]; simp [hjl]) hv (h1.1.stable (keeps_le q2))
      exact ⟨SlR.stable (keeps_le ho.zl) hsl, h1.2⟩
    | _ => exact hr.elim
   ·cases hk
  | emp e => cases e with
   | none => exact same .any (fun _ _ _ _ _ h => ⟨trivial, h.2⟩) (by simpa only [outC] using hk)
   | some e =>
    simp only [outC] at hk
    obtain ⟨⟨a, hXa⟩, hXo⟩ := id h1
    rcases cond_some hk with ⟨_, hk⟩ | ⟨_, hk⟩
    ·obtain ⟨q1, q2, q3⟩ := hp.parkNew (o' := .arr e.1 e.2.nil 0 false) (g' := .arr 0 (.slice a 0 0) e.2.size []) ⟨e, a, rfl, rfl⟩
     exact parked q1 rfl q2 q3 (.own b 0) (fun Gf hGf => ⟨.inr ⟨0, _, _, _, hGf, Nat.le_refl _, fun _ => hXa⟩, hXo⟩) hk
    ·refine same (.fr e.2.nil) (fun G1 G2 Z w X hX => ?_) hk
     obtain ⟨⟨a, rfl⟩, hX2⟩ := hX
     exact ⟨SlR_nil _ _, hX2⟩
  | ptr j o => cases o with
   | zero =>
    simp only [outC] at hk
    split at hk
    ·rename_i c hj
     obtain ⟨g, hg, hg', hr⟩ := getJ hp hj
     cases g with
     | cells bb T vs =>
      have hjl := lt_of_some hj
      obtain ⟨c', h3, hk2, hp3, hl3, hz3, hc3, hj3⟩ := sealL_parked hp hr hk
      obtain ⟨q1, q2, q3⟩ := hp3.park (o' := .cells (c'.map clean)) (g' := .cells bb T vs) (hj3 j _ hj) hg rfl (alone_cells _ _) (fun Z' h => like_one (cleanL_like c') (hc3.mono fun _ _ _ q => q.mono (keeps_le h) (Up.refl _)))
      exact parked q1 (by rw [List.length_set]; exact hl3) (fun k hk => q2 k (hz3 k hk)) q3 (.ptr b 0) (fun Gf hGf => ⟨.inr ⟨bb, T, vs, hGf, ptr_val h1.1 hg'⟩, h1.2⟩) hk2
     | _ => exact hr.elim
    ·cases hk
   | succ o => exact same .any (fun _ _ _ _ _ h => ⟨trivial, h.2⟩) (by simpa only [outC] using hk)
  | int a n => exact same (.int a n) (fun _ _ _ _ _ h => h) (by simpa only [outC] using hk)
  | bool x => exact same (.bool x) (fun _ _ _ _ _ h => h) (by simpa only [outC] using hk)
  | str x => exact same (.str x) (fun _ _ _ _ _ h => h) (by simpa only [outC] using hk)
  | fr x => exact same (.fr x) (fun _ _ _ _ _ h => h) (by simpa only [outC] using hk)
  | ep e o => exact same .any (fun _ _ _ _ _ h => ⟨trivial, h.2⟩) (by simpa only [outC] using hk)
  | op j v i o => exact same .any (fun _ _ _ _ _ h => ⟨trivial, h.2⟩) (by simpa only [outC] using hk)
  | fn f l => exact same .any (fun _ _ _ _ _ h => ⟨trivial, h.2⟩) (by simpa only [outC] using hk)
  | nilp => exact same .any (fun _ _ _ _ _ h => ⟨trivial, h.2⟩) (by simpa only [outC] using hk)
  | any => exact same .any (fun _ _ _ _ _ h => ⟨trivial, h.2⟩) (by simpa only [outC] using hk)
end
end Go.Ab
namespace Go.Ab
open Go Go.Dk
section
variable {P : Program} {w0 w w' : World} {M Z0 Z : Zone} {b : Nat} {G G0 : List GO} {s : AS} {tv : List Value} {r : List V1 × List AObj}
theorem outVs_sound {own : Bool} {m : Nat} {tm : List AV} : ∀ {l : List V1} {h acc : List AObj} {G A : List GO} {b : Nat} {xs : List Value} {k : List V1 → List AObj → List AObj → OR},
   Parked w0 M Z0 m G tm tv w h acc A → All2 (RV1 (G ++ A) (zn w0 Z0 ⟨tm, h ++ acc⟩ (G ++ A)) w) l xs → outVs own l h b k = some r →
   ∃ cs h' os G' N, k cs h' os = some r ∧ OutTo w0 M Z0 m G tm tv w h acc A b h' os G' N (fun Gf => All2 (RV1 Gf (zn w0 Z0 ⟨tm, h' ++ (acc ++ os)⟩ (G' ++ (A ++ N))) w) cs xs)
 | [], h, acc, G, A, b, xs, k, hp, ha, hk => by
  obtain rfl := ha.nil_inv
  exact ⟨[], h, [], G, [], hk, by simpa using hp, rfl, by simp, by simpa using Up.refl (G ++ A), rfl, fun _ _ => All2.nil⟩
 | v :: l, h, acc, G, A, b, xs, k, hp, ha, hk => by
  obtain ⟨X, xs', rfl, h1, h2⟩ := ha.cons_inv
  have comb : ∀ {c : List SV} {ys : List Value} {v' : List SV → V1} {k2 : List SV → List AObj → List AObj → OR}, All2 (OneR (G ++ A) (zn w0 Z0 ⟨tm, h ++ acc⟩ (G ++ A)) w) c ys → outC own c h b k2 = some r →
     (∀ cs h' os, k2 cs h' os = some r → ∃ v', (∀ Gf Z, All2 (OneR Gf Z w) cs ys → RV1 Gf Z w v' X) ∧ outVs own l h' (b + os.length) (fun vs h os' => k (v' :: vs) h (os ++ os')) = some r) →
     ∃ cs h' os G' N, k cs h' os = some r ∧ OutTo w0 M Z0 m G tm tv w h acc A b h' os G' N (fun Gf => All2 (RV1 Gf (zn w0 Z0 ⟨tm, h' ++ (acc ++ os)⟩ (G' ++ (A ++ N))) w) cs (X :: xs')) := by
   intro c ys v' k2 hc hk hnext
   obtain ⟨cs, h1', os1, G1, N1, hk1, o1⟩ := outC_sound hp hc hk
   obtain ⟨v', hv', hk2⟩ := hnext _ _ _ hk1
   obtain ⟨vs, h2', os2, G2, N2, hk3, o2⟩ := outVs_sound o1.park (h2.mono fun _ _ _ q => RV1.up o1.up (q.stable (keeps_le o1.zl))) hk2
   have e1 : acc ++ (os1 ++ os2) = acc ++ os1 ++ os2 := by simp
   have e2 : A ++ (N1 ++ N2) = A ++ N1 ++ N2 := by simp
   refine ⟨_, h2', os1 ++ os2, G2, N1 ++ N2, hk3, ?_, o2.hl.trans o1.hl, ?_, ?_, by simp [o1.nl, o2.nl], fun Gf hA => ?_⟩
   ·rw [e1, e2]; exact o2.park
   ·rw [e1, e2]; exact fun k hk => o2.zl k (o1.zl k hk)
   ·rw [e2]; exact o1.up.trans o2.up
   ·rw [e1, e2]
    refine All2.cons ((hv' Gf _ (o1.rel Gf hA.left)).stable (keeps_le o2.zl)) (o2.rel Gf ?_)
    rw [o1.nl]; exact hA.right
  cases v with
  | one x =>
   by_cases hx : x = .any
   ·subst hx
    simp only [outVs] at hk
    obtain ⟨cs, h', os, G', N, hk', ho⟩ := outVs_sound hp h2 hk
    exact ⟨_, h', os, G', N, hk', ho.park, ho.hl, ho.zl, ho.up, ho.nl, fun Gf hA => All2.cons ⟨trivial, fun h => absurd rfl h⟩ (ho.rel Gf hA)⟩
   ·have hk' : outC own [x] h b (fun c h os => (match c with
        | [x] => outVs own l h (b + os.length) fun vs h os' => k (.one x :: vs) h (os ++ os')
        | _ => none)) = some r := by
      cases x <;> first | exact absurd rfl hx | exact hk
    refine comb (v' := fun _ => .one x) (All2.cons ⟨h1.1, h1.2 hx⟩ All2.nil) hk' fun cs h' os hk2 => ?_
    split at hk2
    ·exact ⟨_, fun Gf Z hr => by obtain ⟨y, ys, e, hr, _⟩ := hr.cons_inv; simp only [List.cons.injEq] at e; obtain ⟨rfl, _⟩ := e; exact ⟨hr.1, fun _ => hr.2⟩, hk2⟩
    ·cases hk2
  | agg c =>
   obtain ⟨ys, hX, hc⟩ := h1
   simp only [outVs] at hk
   exact comb (v' := fun c => .agg c) hc hk fun cs h' os hk2 => ⟨.agg cs, fun Gf Z hr => ⟨ys, hX, hr⟩, hk2⟩
theorem outO_sound {m : Nat} {tm : List AV} {acc : List AObj} {A : List GO} : ∀ {n : Nat} {h : List AObj} {k : List AObj → OR}, Parked w0 M Z0 m G tm tv w h acc A → n ≤ m → m ≤ h.length → outO m n h k = some r →
   ∃ h' ps, k ps = some r ∧ Parked w0 M Z0 m G tm tv w h' acc A ∧ h'.length = h.length ∧ (∀ k, zn w0 Z0 ⟨tm, h ++ acc⟩ (G ++ A) k → zn w0 Z0 ⟨tm, h' ++ acc⟩ (G ++ A) k) ∧ ps.length = n ∧
    (∀ (i : Nat) c, h[i]? = some (.cells c) → h'[i]? = some (.cells c)) ∧
    (∀ (i : Nat) p, ps[i]? = some p → p = .dead ∨ ∃ bb T vs l', G[m - n + i]? = some (.cells bb T vs) ∧ p = .cells (l'.map clean) ∧ All2 (OneR (G ++ A) (zn w0 Z0 ⟨tm, h' ++ acc⟩ (G ++ A)) w) l' vs)
 | 0, h, k, hp, hn, hm, hk => ⟨h, [], hk, hp, rfl, fun _ h => h, rfl, fun _ _ h => h, fun i p hi => by simp at hi⟩
 | n + 1, h, k, hp, hn, hm, hk => by
  unfold outO at hk
  split at hk
  ·rename_i c hj
   obtain ⟨g, hg, hg', hr⟩ := getJ hp hj
   cases g with
   | cells bb T vs =>
    obtain ⟨c', h1, hk1, p1, l1, z1, r1, k1⟩ := sealL_parked hp hr hk
    obtain ⟨h2, ps, hk2, p2, l2, z2, e2, k2, q2⟩ := outO_sound p1 (by omega) (by omega) hk1
    refine ⟨h2, _, hk2, p2, l2.trans l1, fun k hk => z2 k (z1 k hk), by simp [e2], fun i c hi => k2 i c (k1 i c hi), fun i p hi => ?_⟩
    cases i with
    | zero =>
     simp only [List.getElem?_cons_zero, Option.some.injEq] at hi
     subst hi
     exact .inr ⟨bb, T, vs, c', by simpa using hg, rfl, r1.mono fun _ _ _ q => q.mono (keeps_le z2) (Up.refl _)⟩
    | succ i =>
     have := q2 i p (by simpa using hi)
     rw [show m - (n + 1) + (i + 1) = m - n + i by omega]; exact this
   | _ => exact hr.elim
  ·obtain ⟨h2, ps, hk2, p2, l2, z2, e2, k2, q2⟩ := outO_sound hp (by omega) hm hk
   refine ⟨h2, _, hk2, p2, l2, z2, by simp [e2], k2, fun i p hi => ?_⟩
   cases i with
   | zero =>
    simp only [List.getElem?_cons_zero, Option.some.injEq] at hi
    exact .inl hi.symm
   | succ i =>
    have := q2 i p (by simpa using hi)
    rw [show m - (n + 1) + (i + 1) = m - n + i by omega]; exact this
theorem resL_keep {h : List AObj} : ∀ {ps hs : List AObj} {gs : List GO}, ps.length = hs.length → hs.length = gs.length → (∀ (i : Nat) p, ps[i]? = some p → p = .dead ∨ ∃ l bb T vs c, p = .cells l ∧ gs[i]? = some (.cells bb T vs) ∧ hs[i]? = some (.cells c)) →
   (resL ps (List.zipWith keepG ps gs)).Sublist (resL hs gs)
 | [], hs, gs, h1, h2, hq => by simp [resL]
 | p :: ps, [], gs, h1, _, _ => by simp at h1
 | p :: ps, o :: hs, [], _, h2, _ => by simp at h2
 | p :: ps, o :: hs, g :: gs, h1, h2, hq => by
  have ih := resL_keep (h := h) (ps := ps) (hs := hs) (gs := gs) (by simpa using h1) (by simpa using h2) fun i p hi => by simpa using hq (i + 1) p (by simpa using hi)
  simp only [List.zipWith_cons_cons, resL]
  rcases hq 0 p rfl with rfl | ⟨l, bb, T, vs, c, rfl, hg, ho⟩
  ·rw [resO_dead, List.nil_append]; exact ih.trans (List.sublist_append_right _ _)
  ·simp only [List.getElem?_cons_zero, Option.some.injEq] at hg ho
   subst hg ho
   simp only [keepG, resO]
   exact ih.append_left _
theorem finish_sound {own : Bool} {fn : Func} {m : Nat} (hI : InvG w0 M Z0 s.heap.length G s tv w) (hu : UpW G0 G) (hm : G0.length = m) (h : finish P own fn m s = some r) :
   ∃ xs G', (results fn tv.toArray).run P w = .ok (if h : xs.toArray.size = 1 then xs.toArray[0] else .tuple xs.toArray) w ∧ InvG w0 M Z0 r.2.length G' ⟨r.1.map .v, r.2⟩ xs w ∧ UpW G0 G' := by
 unfold finish at h
 replace h := cond_left h; obtain ⟨hml, h⟩ := h
 simp only [Nat.ble_eq] at hml
 replace h := resC_sound hI h; obtain ⟨vs, xs, h, hvs, hrun⟩ := h
 have hp : Parked w0 M Z0 m G s.tmps tv w s.heap [] [] := ⟨by simpa using hI, hI.len, All2.nil⟩
 have hz0 : zn w0 Z0 ⟨s.tmps, s.heap ++ []⟩ (G ++ []) = zn w0 Z0 s G := by simp [zn]
 obtain ⟨cs, h1, os, G1, N, hk1, o1⟩ := outVs_sound hp (by rw [hz0, List.append_nil]; exact hvs) h
 simp only [List.nil_append] at o1
 have hp1 := o1.park
 simp only [List.nil_append] at hp1
 obtain ⟨h2, ps, hk2, p2, l2, z2, e2, k2, q2⟩ := outO_sound hp1 (Nat.le_refl m) (by rw [o1.hl]; exact hml) hk1
 have hr := Option.some.inj hk2
 subst hr
 have hNl : os.length = N.length := o1.nl
 have hl2 : h2.length = s.heap.length := l2.trans o1.hl
 have hG1 : h2.length = G1.length := p2.len
 have hmG : m ≤ G1.length := by omega
 have hgl : (G1.take m).length = m := by simp [hmG]
 let PG := List.zipWith keepG ps (G1.take m)
 have hPl : PG.length = m := by simp [PG, e2, hmG]
 have hAt : At_ m N (PG ++ N) := fun i g hi => by rw [List.getElem?_append_right (by omega), hPl]; simpa using hi
 have hps : ∀ (i : Nat) p, ps[i]? = some p → p = .dead ∨ ∃ bb T vs l', G1[i]? = some (.cells bb T vs) ∧ p = .cells (l'.map clean) ∧ All2 (OneR (G1 ++ N) (zn w0 Z0 ⟨s.tmps, h2 ++ os⟩ (G1 ++ N)) w) l' vs := fun i p hi => by
  have := q2 i p hi
  simpa using this
 have hRO := p2.inv.st.per.2
 have hsub : (resL (ps ++ os) (PG ++ N)).Sublist (resL (h2 ++ os) (G1 ++ N)) := by
  rw [resL_append (by rw [hPl, e2]), resL_append hG1]
  have hk : (resL ps PG).Sublist (resL (h2.take m) (G1.take m)) := by
   refine resL_keep (h := h2) (by simp [e2]; omega) (by simp; omega) fun i p hi => ?_
   have him : i < m := by rw [← e2]; exact lt_of_some hi
   rcases hps i p hi with h | ⟨bb, T, vs, l', hg, rfl, _⟩
   ·exact .inl h
   ·right
    have hg2 : (G1 ++ N)[i]? = some (.cells bb T vs) := by rw [List.getElem?_append_left (by omega)]; exact hg
    obtain ⟨o, ho, hro⟩ := hRO.get' hg2
    have ho' : h2[i]? = some o := by rw [List.getElem?_append_left (by omega)] at ho; exact ho
    cases o with
    | cells c => exact ⟨_, bb, T, vs, c, rfl, by rw [List.getElem?_take, if_pos him]; exact hg, by rw [List.getElem?_take, if_pos him]; exact ho'⟩
    | _ => exact hro.elim
  have hk2 : (resL (h2.take m) (G1.take m)).Sublist (resL h2 G1) := by
   have := resL_append (h := h2.take m) (h' := h2.drop m) (G := G1.take m) (G' := G1.drop m) (by simp; omega)
   rw [List.take_append_drop, List.take_append_drop] at this
   rw [this]; exact List.sublist_append_left _ _
  exact (hk.trans hk2).append_right _
 have hz3 : ∀ k, zn w0 Z0 ⟨s.tmps, h2 ++ os⟩ (G1 ++ N) k → zone w0 Z0 (resL (ps ++ os) (PG ++ N)) k := fun k hk => ⟨hk.1, fun q hq => hk.2 q (hsub.subset hq)⟩
 refine ⟨xs, PG ++ N, run_results hrun, ⟨?_, fun j hj hl => ?_, hI.mz⟩, ?_⟩
 ·refine (p2.inv.st.sub hsub).weak (relF_stable _ _ _) fun _ => ⟨?_, ?_⟩
  ·have := o1.rel (PG ++ N) hAt
   exact (this.mono fun _ _ _ q => (q.stable (keeps_le z2)).stable (keeps_le hz3)).map_left fun _ _ q => q
  ·refine All2.append ⟨by rw [hPl, e2], fun i p g hi hg => ?_⟩ ?_
   ·have him : i < m := by rw [← e2]; exact lt_of_some hi
    simp only [PG, List.getElem?_zipWith, hi, List.getElem?_take, if_pos him] at hg
    rcases hps i p hi with rfl | ⟨bb, T, vs, l', hg', rfl, hr⟩
    ·cases hg1 : G1[i]? with
     | none => simp [hg1] at hg
     | some g1 => simp [hg1, keepG] at hg; subst hg; trivial
    ·simp only [hg', Option.some.injEq, keepG] at hg
     subst hg
     exact like_one (cleanL_like l') (hr.mono fun _ _ _ q => q.mono (keeps_le hz3) (Up.refl _))
   ·refine ⟨hNl, fun i o g hi hg => ?_⟩
    have hro := hRO.2 (h2.length + i) o g (by rw [List.getElem?_append_right (by omega)]; simpa using hi) (by rw [List.getElem?_append_right (by omega), hG1]; simpa using hg)
    have hal := p2.alone.2 i o g hi hg
    exact hal _ _ _ _ (RO.stable (keeps_le hz3) hro)
 ·exfalso
  simp at hj hl
  rw [e2] at hj
  have : PG.length = m := hPl
  simp only [PG] at this hl
  simp at this hl
  omega
 ·have hup1 : Up G (G1 ++ N) := by simpa using o1.up
  intro j
  have key : ∀ g, j < m → (G1 ++ N)[j]? = some g → (PG ++ N)[j]? = some .gone ∨ (PG ++ N)[j]? = some g := by
   intro g hjm hg
   have hg1 : G1[j]? = some g := by rw [List.getElem?_append_left (by omega)] at hg; exact hg
   obtain ⟨p, hp⟩ : ∃ p, ps[j]? = some p := ⟨_, List.getElem?_eq_getElem (by rw [e2]; exact hjm)⟩
   rw [List.getElem?_append_left (by rw [hPl]; exact hjm)]
   simp only [PG, List.getElem?_zipWith, hp, List.getElem?_take, if_pos hjm, hg1]
   cases p <;> first | exact .inr rfl | exact .inl rfl
  have hup2 := (hu.trans hup1.weak) j
  refine ⟨fun hh => ?_, fun b T vs hh => ?_, fun ver val sz xs0 hh => ?_⟩
  ·have hjm : j < m := by rw [← hm]; exact lt_of_some hh
   rcases key _ hjm (hup2.1 hh) with h | h <;> exact h
  ·have hjm : j < m := by rw [← hm]; exact lt_of_some hh
   rcases hup2.2.1 b T vs hh with h | ⟨T', vs', h⟩
   ·rcases key _ hjm h with h | h <;> exact .inl h
   ·rcases key _ hjm h with h | h
    ·exact .inl h
    ·exact .inr ⟨T', vs', h⟩
  ·have hjm : j < m := by rw [← hm]; exact lt_of_some hh
   rcases hup2.2.2 ver val sz xs0 hh with h | ⟨a, c, e, h⟩
   ·rcases key _ hjm h with h | h <;> exact .inl h
   ·rcases key _ hjm h with h | h
    ·exact .inl h
    ·exact .inr ⟨a, c, e, h⟩
end
end Go.Ab
namespace Go.Ab
open Go Go.Dk
section
variable {P : Program} {w0 w w' : World} {M Z0 Z : Zone} {b : Nat} {G G0 : List GO} {s : AS} {tv : List Value} {r : List V1 × List AObj}
def Ex.out : Ex → Exit | .normal => .normal | .exit i => .exit i | .ret => .ret
def DrawOK (P : Program) (F : Callee) (D : Dec) : Prop := ∀ (w0 : World) (M Z0 : Zone) (G : List GO) (s : AS) (tv : List Value) (w : World) (ops : List Oper) (id : Nat) (k : AS → OR) (r : List V1 × List AObj) (Q : Exit → Act → World → Prop),
 InvG w0 M Z0 s.heap.length G s tv w → drawB ops (ancL ops []) ops 0 = true → evDr P F D ops (ancL ops []) ops 0 [] s.heap.length (grow (room P D ops) s) k = some r →
  (∀ s' G' tv' w', k s' = some r → InvG w0 M Z0 s'.heap.length G' s' tv' w' → UpW G G' → Q .normal ⟨tv'.toArray, []⟩ w') → (Code.region id ops.toArray true).wp P Q ⟨tv.toArray, []⟩ w
theorem resL_cells : ∀ (h : List AObj) (G : List GO) (j : Nat) {l l' : List SV}, h[j]? = some (.cells l) → resL (h.set j (.cells l')) G = resL h G
 | [], G, j, l, l', h => by simp at h
 | o :: h, [], j, l, l', _ => by cases j <;> simp [resL]
 | o :: h, g :: G, 0, l, l', hj => by
  simp only [List.getElem?_cons_zero, Option.some.injEq] at hj
  subst hj
  simp only [List.set_cons_zero, resL]
  cases g <;> rfl
 | o :: h, g :: G, j + 1, l, l', hj => by
  simp only [List.getElem?_cons_succ] at hj
  simp only [List.set_cons_succ, resL, resL_cells h G j hj]
theorem sealH_sound : ∀ (n j : Nat) {s : AS} {k : List AObj → OR}, InvG w0 M Z0 b G s tv w → sealH n j s.heap k = some r → ∃ h', k h' = some r ∧ InvG w0 M Z0 b G ⟨s.tmps, h'⟩ tv w
 | 0, j, s, k, hI, h => ⟨_, h, hI⟩
 | n + 1, j, s, k, hI, h => by
  unfold sealH at h
  split at h
  ·rename_i c hj
   obtain ⟨bb, T, vs, hg, hc⟩ := hI.cells hj
   obtain ⟨c', h', hk, hs, hc'⟩ := sealL_sound hI hc.1 h
   have hj' : h'[j]? = some (.cells c) ∨ ∃ c2, h'[j]? = some (.cells c2) := by
    have hl : j < h'.length := by rw [hs.inv.len, ← hI.len]; exact lt_of_some hj
    have hR := hs.inv.st.per.2
    cases ho : h'[j]? with
    | none => rw [List.getElem?_eq_getElem hl] at ho; cases ho
    | some o =>
     obtain ⟨g, hg', hro⟩ := hR.get ho
     rw [hg] at hg'
     obtain rfl := Option.some.inj hg'
     cases o with
     | cells l => exact .inr ⟨l, rfl⟩
     | arr e d ver fz => exact hro.elim
     | dead => exact hro.elim
   have hI2 : InvG w0 M Z0 b G ⟨s.tmps, h'.set j (.cells c')⟩ tv w := by
    obtain ⟨c2, hj2⟩ : ∃ c2, h'[j]? = some (.cells c2) := by rcases hj' with h1 | h1; exact ⟨_, h1⟩; exact h1
    have hr := resL_cells h' G j (l' := c') hj2
    refine ⟨?_, hs.inv.fresh, hs.inv.mz⟩
    have := hs.inv.st
    show St w0 M Z0 (resL (h'.set j (.cells c')) G) _ w
    rw [hr]
    refine this.weak (relF_stable _ _ _) fun hp => ⟨hp.1, ?_⟩
    have h3 := hp.2.set j (a := .cells c') (b := .cells bb T vs) hc'
    rw [set_same hg] at h3
    exact h3
   exact sealH_sound n (j + 1) (s := ⟨s.tmps, h'.set j (.cells c')⟩) hI2 hk
  ·exact sealH_sound n (j + 1) hI h
theorem know_heap (s : AS) (c : Operand) (t : Bool) : (s.know c t).heap = s.heap := by cases c <;> rfl
theorem InvG.know (hI : InvG w0 M Z0 b G s tv w) {c : Operand} {t : Bool} (h : s.ev c = .v (.one (.bool t))) : InvG w0 M Z0 b G (s.know c t) tv w := by
 cases c with
 | tmp d =>
  have hb : s.tmps.getD d anyV = .v (.one (.bool t)) := h
  have hdl : s.tmps[d]? = some (.v (.one (.bool t))) := by
   cases hs : s.tmps[d]? with
   | none => simp [List.getD, hs, anyV] at hb
   | some v => simp [List.getD, hs] at hb; rw [hb]
  obtain ⟨X, hX, hr⟩ := hI.st.per.1.get hdl
  have hX' := bool_inv hr
  subst hX'
  have := hI.put (some d) (v := boolV t) (X := .bool t) ⟨rfl, fun _ => rfl⟩
  simp only at this
  rw [set_same hX] at this
  exact this
 | const _ => exact hI
 | func _ => exact hI
 | global _ => exact hI
def CodeTo (w0 : World) (M Z0 : Zone) (G0 : List GO) (k : Kont) (r : List V1 × List AObj) (e : Exit) (a' : Act) (w' : World) : Prop :=
 ∃ e' s' G' tv', e = e'.out ∧ k e' s' = some r ∧ a' = ⟨tv'.toArray, []⟩ ∧ InvG w0 M Z0 s'.heap.length G' s' tv' w' ∧ UpW G0 G'
theorem evC_sound {E : Env} (hF : CallsOK E.P E.F) (hib : ∀ f, E.D.ib f = true → extIB E.P f) (hdr : DrawOK E.P E.F E.D) (hm : G0.length = E.m) : ∀ (c : Code) (i : Nat) {s : AS} {k : Kont} {G : List GO} {tv : List Value} {w : World},
   InvG w0 M Z0 s.heap.length G s tv w → UpW G0 G → evC E i c s k = some r → c.wp E.P (CodeTo w0 M Z0 G0 k r) ⟨tv.toArray, []⟩ w
 | .skip, i, s, k, G, tv, w, hI, hu, h => wp_skip ⟨.normal, s, G, tv, rfl, h, rfl, hI, hu⟩
 | .region id ops draw, i, s, k, G, tv, w, hI, hu, h => by
  simp only [evC] at h
  rcases cond_some h with ⟨rfl, h⟩ | ⟨rfl, h⟩
  ·have go : ∀ s : AS, InvG w0 M Z0 s.heap.length G s tv w → drawC E ops.toList s k = some r → (Code.region id ops true).wp E.P (CodeTo w0 M Z0 G0 k r) ⟨tv.toArray, []⟩ w := by
     intro s hI h
     obtain ⟨hd, h⟩ := cond_left h
     have := hdr w0 M Z0 G s tv w ops.toList id _ r (CodeTo w0 M Z0 G0 k r) hI hd h (fun s' G' tv' w' hk hI' hu' => ⟨.normal, s', G', tv', rfl, hk, rfl, hI', hu.trans hu'⟩)
     simpa using this
   split at h
   ·obtain ⟨h', hk, hI2⟩ := sealH_sound _ _ hI h
    refine go ⟨s.tmps, h'⟩ ?_ hk
    have e : h'.length = s.heap.length := by have := hI2.len; rw [hI.len]; exact this
    show InvG w0 M Z0 h'.length G _ tv w
    rw [e]; exact hI2
   ·exact go s hI h
  ·have hl := evOps_sound (Q := CodeTo w0 M Z0 G0 k r) hF hib (hI.grow (room E.P E.D ops.toList)) (by simp [grow]) h (fun s' G' tv' w' hk hI' hu' => ⟨.normal, s', G', tv', rfl, hk, rfl, hI', hu.trans ((Up.append _ _).trans hu').weak⟩)
   have := wp_region_lit (id := id) hl
   simpa using this
 | .seq a c, i, s, k, G, tv, w, hI, hu, h => by
  simp only [evC] at h
  refine wp_seq (wp_mono (evC_sound hF hib hdr hm a i hI hu h) fun e a' w' ⟨e', s', G', tv', he, hk, ha, hI', hu'⟩ => ?_)
  subst ha he
  cases e' with
  | normal => exact evC_sound hF hib hdr hm c i hI' hu' hk
  | exit j => exact ⟨.exit j, s', G', tv', rfl, hk, rfl, hI', hu'⟩
  | ret => exact ⟨.ret, s', G', tv', rfl, hk, rfl, hI', hu'⟩
 | .cond x a c, i, s, k, G, tv, w, hI, hu, h => by
  simp only [evC] at h
  split at h
  ·rename_i t hx
   have hv := hI.ev x
   rw [hx] at hv
   rcases cond_some h with ⟨rfl, h⟩ | ⟨rfl, h⟩
   ·exact wp_cond_true (bool_inv hv) (evC_sound hF hib hdr hm a i (s := s.know x true) (by rw [know_heap]; exact hI.know hx) hu h)
   ·exact wp_cond_false (bool_inv hv) (evC_sound hF hib hdr hm c i (s := s.know x false) (by rw [know_heap]; exact hI.know hx) hu h)
  ·cases h
 | .block id c, i, s, k, G, tv, w, hI, hu, h => by
  simp only [evC] at h
  refine wp_block (wp_mono (evC_sound hF hib hdr hm c id hI hu h) fun e a' w' ⟨e', s', G', tv', he, hk, ha, hI', hu'⟩ => ?_)
  subst ha he
  cases e' with
  | normal => exact ⟨.normal, s', G', tv', rfl, hk, rfl, hI', hu'⟩
  | ret => exact ⟨.ret, s', G', tv', rfl, hk, rfl, hI', hu'⟩
  | exit j =>
   simp only [blockK] at hk
   simp only [Ex.out, Exit.inBlock]
   rcases cond_some hk with ⟨hj, hk⟩ | ⟨hj, hk⟩
   ·simp only [Nat.beq_eq] at hj
    rw [if_pos hj]
    exact ⟨.normal, s', G', tv', rfl, hk, rfl, hI', hu'⟩
   ·rw [if_neg (fun e => by rw [e] at hj; simp at hj)]
    exact ⟨.exit j, s', G', tv', rfl, hk, rfl, hI', hu'⟩
 | .loop c, i, s, k, G, tv, w, hI, hu, h => by
  simp only [evC] at h
  obtain ⟨G1, hI1, hu1⟩ := atHead_sound (live := E.live i) hI hu hm
  refine wp_loop_ghost (fun n a w => ∃ s G tv, evL (evC E i c) (atHead E.m (E.live i)) n s k = some r ∧ a = ⟨tv.toArray, []⟩ ∧ InvG w0 M Z0 s.heap.length G s tv w ∧ UpW G0 G) E.n ⟨_, G1, tv, h, rfl, hI1, hu1⟩ ?_
  intro n a w ⟨s, G, tv, h, ha, hI, hu⟩
  subst ha
  cases n with
  | zero => cases h
  | succ n =>
   simp only [evL] at h
   refine wp_mono (evC_sound hF hib hdr hm c i hI hu h) fun e a' w' ⟨e', s', G', tv', he, hk, ha, hI', hu'⟩ => ?_
   subst ha he
   cases e' with
   | normal =>
    obtain ⟨G2, hI2, hu2⟩ := atHead_sound (live := E.live i) hI' hu' hm
    exact ⟨n, Nat.lt_succ_self n, _, G2, tv', hk, rfl, hI2, hu2⟩
   | exit j => exact ⟨.exit j, s', G', tv', rfl, hk, rfl, hI', hu'⟩
   | ret => exact ⟨.ret, s', G', tv', rfl, hk, rfl, hI', hu'⟩
 | .exit id, i, s, k, G, tv, w, hI, hu, h => wp_exit ⟨.exit id, s, G, tv, rfl, h, rfl, hI, hu⟩
 | .ret, i, s, k, G, tv, w, hI, hu, h => wp_ret ⟨.ret, s, G, tv, rfl, h, rfl, hI, hu⟩
 | .rangeFunc _ _ _ _, i, s, k, G, tv, w, hI, hu, h => by simp [evC] at h
 | .scope _, i, s, k, G, tv, w, hI, hu, h => by simp [evC] at h
 | .label _, i, s, k, G, tv, w, hI, hu, h => by simp [evC] at h
 | .goto _, i, s, k, G, tv, w, hI, hu, h => by simp [evC] at h
 | .refuse _, i, s, k, G, tv, w, hI, hu, h => by simp [evC] at h
def PrimsOK (P : Program) (S : Say) : Prop := ∀ f g args out, S.prim f = some g → g args = some out →
 ∀ w0 M Z0 G vals w, InvG w0 M Z0 0 G ⟨args.map .v, []⟩ vals w →
  Calls P f vals.toArray w fun e w' => ∃ xs G', e = .returned (if h : xs.toArray.size = 1 then xs.toArray[0] else .tuple xs.toArray) ∧ InvG w0 M Z0 out.2.length G' ⟨out.1.map .v, out.2⟩ xs w' ∧ UpW G G'
theorem evF_sound {S : Say} (hp : PrimsOK P S) (hib : ∀ f, S.D.ib f = true → extIB P f) (hdr : ∀ F, CallsOK P F → DrawOK P F S.D) : ∀ n, CallsOK P (evF P S n)
 | 0 => fun f fn args h out _ _ ho => by cases ho
 | n + 1 => by
  intro f fn args h out hfn hb ho w0 M Z0 G vals w hI
  have hF := evF_sound hp hib hdr n
  unfold evF at ho
  split at ho
  ·rename_i g hg
   split at ho
   ·exact hp f g args out hg ho w0 M Z0 G vals w hI
   ·cases ho
  ·rw [hfn] at ho
   simp only at ho
   split at ho
   ·rename_i c hc
    have hlen : args.length = vals.length := by have := hI.st.per.1.1; simpa using this
    refine calls_of_wp hfn hc ?_
    have hI2 : InvG w0 M Z0 h.length G ⟨args.map .v ++ List.replicate (fn.ntmps - args.length) anyV, h⟩ (vals ++ List.replicate (fn.ntmps - args.length) undef) w :=
     ⟨hI.st.weak (relF_stable _ _ _) fun hh => ⟨All2.append hh.1 (All2.replicate (any_rel undef) _), hh.2⟩, hI.fresh, hI.mz⟩
    have hwp := evC_sound (E := ⟨P, evF P S n, S.D, n, h.length, S.live f⟩) (G0 := G) hF hib (hdr _ hF) hI.len.symm c 0 hI2 (UpW.refl G) ho
    have harr : vals.toArray ++ Array.replicate (fn.ntmps - vals.toArray.size) undef = (vals ++ List.replicate (fn.ntmps - args.length) undef).toArray := by
     rw [hlen]; simp
    rw [harr]
    refine wp_mono hwp fun e a' w' ⟨e', s', G', tv', he, hk, ha, hI', hu'⟩ => ?_
    subst ha he
    have fin : finish P (S.D.own f) fn h.length s' = some out → ∃ v, (results fn tv'.toArray).run P w' = .ok v w' ∧ ∃ xs G'', (.returned v : Ending) = .returned (if h : xs.toArray.size = 1 then xs.toArray[0] else .tuple xs.toArray) ∧ InvG w0 M Z0 out.2.length G'' ⟨out.1.map .v, out.2⟩ xs w' ∧ UpW G G'' := by
     intro hk
     obtain ⟨xs, G'', h1, h2, h3⟩ := finish_sound hI' hu' hI.len.symm hk
     exact ⟨_, h1, xs, G'', rfl, h2, h3⟩
    cases e' with
    | normal => exact ⟨rfl, fin hk⟩
    | ret => exact ⟨rfl, fin hk⟩
    | exit j => cases hk
   ·cases ho
end
end Go.Ab
end
section
namespace Go.Ab
open Go Go.Dk
def N1 {α : Type} (f : (α → OR) → OR) : Prop := ∀ k r, f k = some r → ∃ a, k a = some r ∧ ∀ k', f k' = k' a
def N2 {α β : Type} (f : (α → β → OR) → OR) : Prop := ∀ k r, f k = some r → ∃ a b, k a b = some r ∧ ∀ k', f k' = k' a b
def N4 {α β γ δ : Type} (f : (α → β → γ → δ → OR) → OR) : Prop := ∀ k r, f k = some r → ∃ a b c d, k a b c d = some r ∧ ∀ k', f k' = k' a b c d
theorem N1.pure {α : Type} (a : α) : N1 fun k => k a := fun k r h => ⟨a, h, fun _ => rfl⟩
theorem N2.pure {α β : Type} (a : α) (b : β) : N2 fun k => k a b := fun k r h => ⟨a, b, h, fun _ => rfl⟩
theorem N4.pure {α β γ δ : Type} (a : α) (b : β) (c : γ) (d : δ) : N4 fun k => k a b c d := fun k r h => ⟨a, b, c, d, h, fun _ => rfl⟩
theorem N1.none {α : Type} : N1 fun (k : α → OR) => none := fun k r h => by cases h
theorem N2.none {α β : Type} : N2 fun (k : α → β → OR) => none := fun k r h => by cases h
theorem N4.none {α β γ δ : Type} : N4 fun (k : α → β → γ → δ → OR) => none := fun k r h => by cases h
theorem N1.cond {α : Type} {b : Bool} {f g : (α → OR) → OR} (hf : N1 f) (hg : N1 g) : N1 fun k => cond b (f k) (g k) := by cases b; exact hg; exact hf
theorem N2.cond {α β : Type} {b : Bool} {f g : (α → β → OR) → OR} (hf : N2 f) (hg : N2 g) : N2 fun k => cond b (f k) (g k) := by cases b; exact hg; exact hf
theorem N4.cond {α β γ δ : Type} {b : Bool} {f g : (α → β → γ → δ → OR) → OR} (hf : N4 f) (hg : N4 g) : N4 fun k => cond b (f k) (g k) := by cases b; exact hg; exact hf
theorem N1.bind {α β : Type} {o : Option β} {f : β → (α → OR) → OR} (hf : ∀ x, N1 (f x)) : N1 fun k => o.bind fun x => f x k := by cases o; exact N1.none; exact hf _
theorem N2.bind {α β γ : Type} {o : Option γ} {f : γ → (α → β → OR) → OR} (hf : ∀ x, N2 (f x)) : N2 fun k => o.bind fun x => f x k := by cases o; exact N2.none; exact hf _
theorem N4.bind {α β γ δ ε : Type} {o : Option ε} {f : ε → (α → β → γ → δ → OR) → OR} (hf : ∀ x, N4 (f x)) : N4 fun k => o.bind fun x => f x k := by cases o; exact N4.none; exact hf _
theorem N1.then1 {α β : Type} {g : (β → OR) → OR} {f : β → (α → OR) → OR} (hg : N1 g) (hf : ∀ x, N1 (f x)) : N1 fun k => g fun x => f x k := by
 intro k r h
 obtain ⟨x, hx, hk⟩ := hg _ _ h
 obtain ⟨a, ha, hk'⟩ := hf x _ _ hx
 exact ⟨a, ha, fun k' => (hk _).trans (hk' k')⟩
theorem N2.then1 {α β γ : Type} {g : (γ → OR) → OR} {f : γ → (α → β → OR) → OR} (hg : N1 g) (hf : ∀ x, N2 (f x)) : N2 fun k => g fun x => f x k := by
 intro k r h
 obtain ⟨x, hx, hk⟩ := hg _ _ h
 obtain ⟨a, b, ha, hk'⟩ := hf x _ _ hx
 exact ⟨a, b, ha, fun k' => (hk _).trans (hk' k')⟩
theorem N4.then1 {α β γ δ ε : Type} {g : (ε → OR) → OR} {f : ε → (α → β → γ → δ → OR) → OR} (hg : N1 g) (hf : ∀ x, N4 (f x)) : N4 fun k => g fun x => f x k := by
 intro k r h
 obtain ⟨x, hx, hk⟩ := hg _ _ h
 obtain ⟨a, b, c, d, ha, hk'⟩ := hf x _ _ hx
 exact ⟨a, b, c, d, ha, fun k' => (hk _).trans (hk' k')⟩
theorem N1.then2 {α β γ : Type} {g : (β → γ → OR) → OR} {f : β → γ → (α → OR) → OR} (hg : N2 g) (hf : ∀ x y, N1 (f x y)) : N1 fun k => g fun x y => f x y k := by
 intro k r h
 obtain ⟨x, y, hx, hk⟩ := hg _ _ h
 obtain ⟨a, ha, hk'⟩ := hf x y _ _ hx
 exact ⟨a, ha, fun k' => (hk _).trans (hk' k')⟩
theorem N2.then2 {α β γ δ : Type} {g : (γ → δ → OR) → OR} {f : γ → δ → (α → β → OR) → OR} (hg : N2 g) (hf : ∀ x y, N2 (f x y)) : N2 fun k => g fun x y => f x y k := by
 intro k r h
 obtain ⟨x, y, hx, hk⟩ := hg _ _ h
 obtain ⟨a, b, ha, hk'⟩ := hf x y _ _ hx
 exact ⟨a, b, ha, fun k' => (hk _).trans (hk' k')⟩
theorem N4.then2 {α β γ δ ε ζ : Type} {g : (ε → ζ → OR) → OR} {f : ε → ζ → (α → β → γ → δ → OR) → OR} (hg : N2 g) (hf : ∀ x y, N4 (f x y)) : N4 fun k => g fun x y => f x y k := by
 intro k r h
 obtain ⟨x, y, hx, hk⟩ := hg _ _ h
 obtain ⟨a, b, c, d, ha, hk'⟩ := hf x y _ _ hx
 exact ⟨a, b, c, d, ha, fun k' => (hk _).trans (hk' k')⟩
theorem N2.then4 {α β γ δ ε ζ : Type} {g : (γ → δ → ε → ζ → OR) → OR} {f : γ → δ → ε → ζ → (α → β → OR) → OR} (hg : N4 g) (hf : ∀ x y z u, N2 (f x y z u)) : N2 fun k => g fun x y z u => f x y z u k := by
 intro k r h
 obtain ⟨x, y, z, u, hx, hk⟩ := hg _ _ h
 obtain ⟨a, b, ha, hk'⟩ := hf x y z u _ _ hx
 exact ⟨a, b, ha, fun k' => (hk _).trans (hk' k')⟩
section
variable (P : Program)
theorem get_N (d : SD) (i : Nat) : N1 (d.get i) := by
 cases d <;> exact N1.bind fun x => N1.pure _
theorem app_N (d e : SD) : N1 (d.app e) := by
 unfold SD.app; split <;> first | exact N1.pure _ | exact N1.none
theorem set_N (d : SD) (i : Nat) (e : SE) : N1 (d.set i e) := by
 unfold SD.set; split <;> first | exact N1.pure _ | exact N1.none
theorem readS_N (h : List AObj) (x : SV) : N1 (readS h x) := by
 unfold readS; split
 ·exact N1.pure _
 ·exact N1.pure _
 ·split
  ·exact N1.cond (N1.pure _) N1.none
  ·exact N1.none
 ·exact N1.none
theorem sealS_N (h : List AObj) (x : SV) : N2 (sealS h x) := by
 unfold sealS; split
 ·split
  ·exact N2.cond (N2.pure _ _) N2.none
  ·exact N2.none
 ·exact N2.pure _ _
 ·exact N2.pure _ _
theorem sealL_N : ∀ (l : List SV) (h : List AObj), N2 (sealL h l)
 | [], h => N2.pure _ _
 | x :: l, h => by
  show N2 fun k => sealS h x fun x' h' => sealL h' l fun l' h'' => k (x' :: l') h''
  exact N2.then2 (sealS_N h x) fun x' h' => N2.then2 (sealL_N l h') fun _ _ => N2.pure _ _
theorem elemOf_N (e : SK) (l : List SV) : N1 (elemOf e l) := by
 unfold elemOf; split <;> first | exact N1.pure _ | exact N1.none | exact N1.cond (N1.pure _) N1.none
theorem elemsOf_N (e : SK) : ∀ (cs : List (List SV)) (h : List AObj) (d : SD), N2 (elemsOf e h cs d)
 | [], h, d => N2.pure _ _
 | c :: cs, h, d => by
  show N2 fun k => sealL h c fun c' h' => elemOf e c' fun x => (d.snoc x).bind fun d' => elemsOf e h' cs d' k
  exact N2.then2 (sealL_N c h) fun c' h' => N2.then1 (elemOf_N e c') fun x => N2.bind fun d' => elemsOf_N e cs h' d'
theorem packK_N (t : TypeId) (l : List SV) : N1 (packK P t l) := by
 unfold packK; split
 ·split
  ·exact N1.pure _
  ·exact N1.none
 ·split
  ·exact N1.cond (N1.pure _) N1.none
  ·exact N1.none
theorem evLoad_N (t : TypeId) (x : AV) (h : List AObj) : N1 (evLoad P t x h) := by
 unfold evLoad; split
 ·split
  ·exact packK_N P _ _
  ·exact N1.none
 ·exact packK_N P _ _
 ·split
  ·exact N1.cond (N1.then1 (get_N _ _) fun e => packK_N P _ _) N1.none
  ·exact N1.none
 ·exact N1.none
theorem evStore_N (t : TypeId) (x y : AV) (h : List AObj) : N1 (evStore P t x y h) := by
 unfold evStore; split
 ·refine N1.bind fun yc => ?_
  split
  ·split
   ·exact N1.cond (N1.pure _) N1.none
   ·exact N1.none
  ·refine N1.then2 (sealL_N _ _) fun c h => ?_
   split
   ·exact N1.cond (N1.then1 (elemOf_N _ _) fun x => N1.then1 (set_N _ _ _) fun d => N1.pure _) N1.none
   ·exact N1.none
  ·exact N1.none
 ·exact N1.none
theorem evInt_N (op : BinOp) (ka : IntKind) (a b : Int) : N1 (evInt op ka a b) := by
 unfold evInt; split <;> first | exact N1.pure _ | exact N1.none | exact N1.cond N1.none (N1.pure _)
theorem evStr_N (op : BinOp) (a b : ByteArray) : N1 (evStr op a b) := by
 unfold evStr; split <;> first | exact N1.pure _ | exact N1.none | exact N1.cond (N1.pure _) N1.none
theorem evBin_N (op : BinOp) (t : TypeId) (x y : AV) : N1 (evBin P op t x y) := by
 unfold evBin; split
 ·exact N1.cond (evInt_N _ _ _ _) N1.none
 ·exact evStr_N _ _ _
 ·split
  ·split <;> first | exact N1.pure _ | exact N1.none
  ·exact N1.none
 ·exact N1.none
theorem evUn_N (op : UnOp) (x : AV) : N1 (evUn op x) := by
 unfold evUn; split <;> first | exact N1.pure _ | exact N1.none
theorem evConv_N (t t' : TypeId) (x : AV) (h : List AObj) : N1 (evConv P t t' x h) := by
 unfold evConv; split
 ·split <;> first | exact N1.pure _ | exact N1.none
 ·split
  ·refine N1.then1 (readS_N _ _) fun d => ?_
   split <;> first | exact N1.pure _ | exact N1.none
  ·exact N1.none
 ·exact N1.none
theorem optInt_N (x : AV) : N1 (optInt x) := by
 unfold optInt; split <;> first | exact N1.pure _ | exact N1.none
theorem bounds_N (lo hi : Option AV) (n : Nat) : N2 (evSlice.bounds lo hi n) := by
 unfold evSlice.bounds; split
 ·exact N2.pure _ _
 ·exact N2.then1 (optInt_N _) fun l => N2.cond (N2.pure _ _) N2.none
 ·exact N2.then1 (optInt_N _) fun l => N2.cond (N2.pure _ _) N2.none
 ·exact N2.then1 (optInt_N _) fun l => N2.then1 (optInt_N _) fun m => N2.cond (N2.pure _ _) N2.none
theorem evSlice_N (t : TypeId) (x : AV) (lo hi mx : Option AV) (h : List AObj) : N2 (evSlice P t x lo hi mx h) := by
 unfold evSlice; split
 ·refine N2.cond (N2.then1 (optInt_N _) fun m => ?_) N2.none
  split
  ·refine N2.then1 (optInt_N _) fun n => N2.cond ?_ N2.none
   split
   ·exact N2.cond (N2.pure _ _) N2.none
   ·split
    ·exact N2.cond (N2.pure _ _) N2.none
    ·exact N2.none
   ·exact N2.pure _ _
   ·exact N2.none
  ·refine N2.then1 (optInt_N _) fun n => N2.then1 (optInt_N _) fun l => N2.cond ?_ N2.none
   split
   ·exact N2.cond (N2.pure _ _) N2.none
   ·split
    ·exact N2.cond (N2.pure _ _) N2.none
    ·exact N2.none
   ·exact N2.pure _ _
   ·exact N2.none
  ·exact N2.none
 ·split
  ·split
   ·exact N2.then2 (bounds_N _ _ _) fun l n => N2.pure _ _
   ·exact N2.none
  ·split
   ·refine N2.then2 (sealS_N _ _) fun x' h' => ?_
    split
    ·exact N2.cond (N2.then2 (bounds_N _ _ _) fun l n => N2.pure _ _) N2.none
    ·exact N2.none
   ·exact N2.none
  ·exact N2.none
theorem evIndexAddr_N (t : TypeId) (x y : AV) (h : List AObj) : N1 (evIndexAddr P t x y h) := by
 unfold evIndexAddr; split
 ·exact N1.none
 ·refine N1.then1 (optInt_N _) fun i => N1.cond ?_ N1.none
  split
  ·exact N1.cond (N1.then1 (get_N _ _) fun x => N1.pure _) N1.none
  ·split
   ·exact N1.cond (N1.cond (N1.pure _) N1.none) N1.none
   ·exact N1.none
  ·exact N1.none
theorem evLen_N (t : TypeId) (x : AV) (h : List AObj) : N1 (evLen P t x h) := by
 unfold evLen; split
 ·split <;> first | exact N1.pure _ | exact N1.none
 ·split <;> first | exact N1.pure _ | exact N1.none
 ·split
  ·exact N1.then1 (readS_N _ _) fun d => N1.pure _
  ·exact N1.none
 ·exact N1.none
theorem evAppend_N (t : TypeId) (x y : AV) (h : List AObj) (sl : Nat) : N2 (evAppend P t x y h sl) := by
 unfold evAppend; split
 ·exact N2.none
 ·split
  ·refine N2.then1 (readS_N _ _) fun d' => N2.cond ?_ N2.none
   split
   ·split
    ·exact N2.cond (N2.then1 (app_N _ _) fun d => N2.cond (N2.pure _ _) N2.none) N2.none
    ·exact N2.none
   ·exact N2.cond (N2.pure _ _) N2.none
   ·exact N2.none
  ·exact N2.none
theorem evMake_N (t : TypeId) (x y : AV) (h : List AObj) (sl : Nat) : N2 (evMake P t x y h sl) := by
 unfold evMake
 refine N2.then1 (optInt_N _) fun n => N2.then1 (optInt_N _) fun m => N2.cond ?_ N2.none
 split
 ·exact N2.cond (N2.bind fun d => N2.pure _ _) N2.none
 ·exact N2.none
theorem evField_N (h : List AObj) (d : Nat) (v : AV) : N1 (evField h d v) := by
 unfold evField; split <;> first | exact N1.pure _ | exact N1.none | exact N1.cond (N1.pure _) N1.none
theorem evNil_N (h : List AObj) (v : AV) : N1 (evNil h v) := by
 unfold evNil; split <;> first | exact N1.pure _ | exact N1.none | exact N1.cond (N1.pure _) N1.none
theorem evIndex_N (t : TypeId) (x y : AV) : N1 (evIndex P t x y) := by
 unfold evIndex; split
 ·refine N1.then1 (optInt_N _) fun n => N1.cond ?_ N1.none
  split <;> first | exact N1.pure _ | exact N1.none
 ·exact N1.none
theorem evExtract_N (x : AV) (i : Nat) : N1 (evExtract x i) := by
 unfold evExtract; split
 ·exact N1.bind fun x => N1.pure _
 ·exact N1.none
theorem evMax_N (mx : Bool) (x y : AV) : N1 (evMax mx x y) := by
 unfold evMax; split <;> first | exact N1.cond (N1.pure _) N1.none | exact N1.none
theorem evBuild_N (t : TypeId) (ps : List (Nat × AV)) : N1 (evBuild P t ps) := N1.bind fun _ => N1.bind fun _ => N1.bind fun _ => N1.pure _
theorem sealVs_N : ∀ (l : List V1) (h : List AObj), N2 (sealVs h l)
 | [], h => N2.pure _ _
 | .agg c :: l, h => by
  show N2 fun k => sealL h c fun c h => sealVs h l fun vs h => k (.agg c :: vs) h
  exact N2.then2 (sealL_N c h) fun c h => N2.then2 (sealVs_N l h) fun _ _ => N2.pure _ _
 | .one x :: l, h => by
  have h1 : N2 fun k => sealVs h l fun vs h => k (.one .any :: vs) h := N2.then2 (sealVs_N l h) fun _ _ => N2.pure _ _
  have h2 : N2 fun k => sealS h x fun x h => sealVs h l fun vs h => k (.one x :: vs) h := N2.then2 (sealS_N h x) fun x h => N2.then2 (sealVs_N l h) fun _ _ => N2.pure _ _
  cases x <;> first | exact h2 | exact h1
theorem intC_N (a : IntKind) (l : List SV) : N2 (intC a l) := by unfold intC; split <;> first | exact N2.cond (N2.pure _ _) N2.none | exact N2.none
theorem boolC_N (l : List SV) : N2 (boolC l) := by unfold boolC; split <;> first | exact N2.pure _ _ | exact N2.none
theorem strC_N (l : List SV) : N2 (strC l) := by unfold strC; split <;> first | exact N2.pure _ _ | exact N2.none
theorem slC_N (e : SK) (l : List SV) : N2 (slC e l) := by
 cases e
 ·show N2 fun k => tsC l fun x l => k (SD.ts x) l; refine N2.then2 (g := tsC l) ?_ fun _ _ => N2.pure _ _; unfold tsC; split <;> first | exact N2.pure _ _ | exact N2.none
 ·show N2 fun k => isC l fun x l => k (SD.is x) l; refine N2.then2 (g := isC l) ?_ fun _ _ => N2.pure _ _; unfold isC; split <;> first | exact N2.pure _ _ | exact N2.none
 ·show N2 fun k => issC l fun x l => k (SD.iss x) l; refine N2.then2 (g := issC l) ?_ fun _ _ => N2.pure _ _; unfold issC; split <;> first | exact N2.pure _ _ | exact N2.none
 ·show N2 fun k => ssC l fun x l => k (SD.ss x) l; refine N2.then2 (g := ssC l) ?_ fun _ _ => N2.pure _ _; unfold ssC; split <;> first | exact N2.pure _ _ | exact N2.none
 ·show N2 fun k => bsC l fun x l => k (SD.bs x) l; refine N2.then2 (g := bsC l) ?_ fun _ _ => N2.pure _ _; unfold bsC; split <;> first | exact N2.pure _ _ | exact N2.none
theorem anyC_N (l : List SV) : N1 (anyC l) := by unfold anyC; split <;> first | exact N1.pure _ | exact N1.none
theorem likeC_N (x : SV) (l : List SV) : N2 (likeC x l) := by
 unfold likeC; split
 ·exact N2.then2 (intC_N _ _) fun _ _ => N2.pure _ _
 ·exact N2.then2 (boolC_N _) fun _ _ => N2.pure _ _
 ·exact N2.then2 (strC_N _) fun _ _ => N2.pure _ _
 ·exact N2.then2 (slC_N _ _) fun _ _ => N2.pure _ _
 ·exact N2.then2 (slC_N _ _) fun _ _ => N2.pure _ _
 ·exact N2.then1 (anyC_N _) fun _ => N2.pure _ _
theorem likeL_N : ∀ (x l : List SV), N1 (likeL x l)
 | [], l => by
  show N1 fun k => nilC l (k [])
  unfold nilC; split <;> first | exact N1.pure _ | exact N1.none
 | x :: xs, l => by
  show N1 fun k => likeC x l fun y l => likeL xs l fun ys => k (y :: ys)
  exact N1.then2 (likeC_N x l) fun y l => N1.then1 (likeL_N xs l) fun _ => N1.pure _
theorem objC_N (o : List AObj) : N2 (objC o) := by unfold objC; split <;> first | exact N2.pure _ _ | exact N2.none
theorem dropC_N (o : List AObj) : N1 (dropC o) := by unfold dropC; split <;> first | exact N1.pure _ | exact N1.none
theorem backO_N : ∀ (x o : List AObj), N2 (backO x o)
 | [], o => N2.pure _ _
 | .cells x :: xs, o => by
  show N2 fun k => objC o fun l o => likeL x l fun y => backO xs o fun ys o => k (.cells y :: ys) o
  exact N2.then2 (objC_N o) fun l o => N2.then1 (likeL_N x l) fun y => N2.then2 (backO_N xs o) fun _ _ => N2.pure _ _
 | .arr _ _ _ _ :: xs, o => by
  show N2 fun k => dropC o fun o => backO xs o fun ys o => k (.dead :: ys) o
  exact N2.then1 (dropC_N o) fun o => N2.then2 (backO_N xs o) fun _ _ => N2.pure _ _
 | .dead :: xs, o => by
  show N2 fun k => dropC o fun o => backO xs o fun ys o => k (.dead :: ys) o
  exact N2.then1 (dropC_N o) fun o => N2.then2 (backO_N xs o) fun _ _ => N2.pure _ _
theorem rInt_N (a : IntKind) (l : List V1) : N2 (rInt a l) := by unfold rInt; split <;> first | exact N2.cond (N2.pure _ _) N2.none | exact N2.none
theorem rBool_N (l : List V1) : N2 (rBool l) := by unfold rBool; split <;> first | exact N2.pure _ _ | exact N2.none
theorem rStr_N (l : List V1) : N2 (rStr l) := by unfold rStr; split <;> first | exact N2.pure _ _ | exact N2.none
theorem rTerm_N (l : List V1) : N2 (rTerm l) := by unfold rTerm; split <;> first | exact N2.pure _ _ | exact N2.none
theorem rOwn_N (j : Nat) (l : List V1) : N1 (rOwn j l) := by unfold rOwn; split <;> first | exact N1.cond (N1.pure _) N1.none | exact N1.none
theorem rPtr_N (j : Nat) (l : List V1) : N1 (rPtr j l) := by unfold rPtr; split <;> first | exact N1.cond (N1.pure _) N1.none | exact N1.none
theorem rSl_N (e : SK) (l : List V1) : N2 (rSl e l) := by
 cases e
 ·show N2 fun k => rTs l fun x l => k (SD.ts x) l; refine N2.then2 (g := rTs l) ?_ fun _ _ => N2.pure _ _; unfold rTs; split <;> first | exact N2.pure _ _ | exact N2.none
 ·show N2 fun k => rIs l fun x l => k (SD.is x) l; refine N2.then2 (g := rIs l) ?_ fun _ _ => N2.pure _ _; unfold rIs; split <;> first | exact N2.pure _ _ | exact N2.none
 ·show N2 fun k => rIss l fun x l => k (SD.iss x) l; refine N2.then2 (g := rIss l) ?_ fun _ _ => N2.pure _ _; unfold rIss; split <;> first | exact N2.pure _ _ | exact N2.none
 ·show N2 fun k => rSs l fun x l => k (SD.ss x) l; refine N2.then2 (g := rSs l) ?_ fun _ _ => N2.pure _ _; unfold rSs; split <;> first | exact N2.pure _ _ | exact N2.none
 ·show N2 fun k => rBs l fun x l => k (SD.bs x) l; refine N2.then2 (g := rBs l) ?_ fun _ _ => N2.pure _ _; unfold rBs; split <;> first | exact N2.pure _ _ | exact N2.none
theorem arrTsC_N (e : TypeId) (o : List AObj) : N2 (arrTsC e o) := by unfold arrTsC; split <;> first | exact N2.cond (N2.pure _ _) N2.none | exact N2.none
theorem arrC_N (e : TypeId × SK) (o : List AObj) : N2 (arrC e o) := by
 unfold arrC; split
 ·exact N2.then2 (arrTsC_N _ _) fun _ _ => N2.pure _ _
 ·refine N2.then2 (g := arrIsC e.1 o) ?_ fun _ _ => N2.pure _ _; unfold arrIsC; split <;> first | exact N2.cond (N2.pure _ _) N2.none | exact N2.none
 ·refine N2.then2 (g := arrIssC e.1 o) ?_ fun _ _ => N2.pure _ _; unfold arrIssC; split <;> first | exact N2.cond (N2.pure _ _) N2.none | exact N2.none
 ·refine N2.then2 (g := arrSsC e.1 o) ?_ fun _ _ => N2.pure _ _; unfold arrSsC; split <;> first | exact N2.cond (N2.pure _ _) N2.none | exact N2.none
 ·refine N2.then2 (g := arrBsC e.1 o) ?_ fun _ _ => N2.pure _ _; unfold arrBsC; split <;> first | exact N2.cond (N2.pure _ _) N2.none | exact N2.none
theorem rOwnT_N {α β γ δ : Type} {j : Nat} {l : List V1} {f : Int → Int → List V1 → (α → β → γ → δ → OR) → OR} (hf : ∀ x y z, N4 (f x y z)) : N4 fun k => rOwnT j l fun x y z => f x y z k := by
 unfold rOwnT; split
 ·exact N4.cond (hf _ _ _) N4.none
 ·exact N4.none
theorem valT_N (own : Bool) (c b : Nat) (t : TypeId) (l : List V1) (o : List AObj) : N4 (valT P own c b t l o) := by
 unfold valT; split
 ·exact N4.then2 (rInt_N _ _) fun _ _ => N4.pure _ _ _ _
 ·exact N4.then2 (rBool_N _) fun _ _ => N4.pure _ _ _ _
 ·exact N4.then2 (rStr_N _) fun _ _ => N4.pure _ _ _ _
 ·split
  ·exact N4.cond (N4.then1 (rOwn_N _ _) fun _ => N4.then2 (arrC_N _ _) fun _ _ => N4.pure _ _ _ _) (N4.then2 (rSl_N _ _) fun _ _ => N4.pure _ _ _ _)
  ·exact N4.none
 ·split
  ·exact N4.cond (rOwnT_N fun _ _ _ => N4.then2 (arrTsC_N _ _) fun _ _ => N4.pure _ _ _ _) (N4.then2 (rTerm_N _) fun _ _ => N4.pure _ _ _ _)
  ·exact N4.none
 ·refine N4.then1 (rPtr_N _ _) fun _ => N4.then2 (objC_N _) fun _ _ => ?_
  split
  ·exact N4.then1 (likeL_N _ _) fun _ => N4.pure _ _ _ _
  ·exact N4.none
 ·exact N4.none
theorem valsT_N (own : Bool) : ∀ (ts : List TypeId) (c b : Nat) (l : List V1) (o : List AObj), N2 (valsT P own ts c b l o)
 | [], c, b, l, o => by
  show N2 fun k => nilV l (nilO o (k [] []))
  unfold nilV; split; (unfold nilO; split <;> first | exact N2.pure _ _ | exact N2.none); exact N2.none
 | t :: ts, c, b, l, o => by
  show N2 fun k => valT P own c b t l o fun v n l o => valsT P own ts (c + n.length) (b + n.length) l o fun vs ns => k (v :: vs) (n ++ ns)
  exact N2.then4 (valT_N P own c b t l o) fun v n l o => N2.then2 (valsT_N own ts _ _ l o) fun _ _ => N2.pure _ _
theorem callGo_N (F : Callee) (ow : Bool) (f : FuncId) (tys : List TypeId) (sl rm : Nat) (args : List V1) (h : List AObj) : N2 fun k => callGo P F ow f tys sl rm k args h := by
 unfold callGo
 exact N2.cond (N2.bind fun r => N2.then2 (backO_N _ _) fun os o => N2.then2 (valsT_N P _ _ _ _ _ _) fun vs ns => N2.cond (N2.pure _ _) N2.none) N2.none
theorem callK_N (F : Callee) (D : Dec) (f : FuncId) (args : List V1) (h : List AObj) (sl rm : Nat) : N2 fun k => callK P F D f args h sl rm k := by
 unfold callK; split
 ·exact N2.none
 ·exact N2.cond (N2.cond (callGo_N P _ _ _ _ _ _ _ _) (N2.then2 (sealVs_N _ _) fun args h => callGo_N P _ _ _ _ _ _ _ _)) N2.none
theorem evBuiltin_N (b : Builtin) (args : List AV) (tys : List TypeId) (h : List AObj) (sl : Nat) : N2 (evBuiltin P b args tys h sl) := by
 unfold evBuiltin; split
 ·exact N2.then1 (evLen_N P _ _ _) fun _ => N2.pure _ _
 ·exact N2.cond (N2.then2 (evAppend_N P _ _ _ _ _) fun _ _ => N2.pure _ _) N2.none
 ·exact N2.then1 (evMax_N _ _ _) fun _ => N2.pure _ _
 ·exact N2.then1 (evMax_N _ _ _) fun _ => N2.pure _ _
 ·exact N2.none
theorem closure_N (F : Callee) (D : Dec) (o : Oper) (ρ : Operand → AV) (x : Operand) (args : Array Operand) (h : List AObj) (sl : Nat) : N2 fun k => (match ρ x with
     | .v (.one (.fn f l)) => (v1L (args.toList.map ρ)).bind fun vs => callK P F D f (vs ++ l.map fun j => .one (.ptr j 0)) h sl (nObj P D o) k
     | _ => none) := by
 split
 ·exact N2.bind fun vs => callK_N P _ _ _ _ _ _ _
 ·exact N2.none
theorem evOp_N (F : Callee) (D : Dec) (o : Oper) (ρ : Operand → AV) (h : List AObj) (sl : Nat) : N2 (evOp P F D o ρ h sl) := by
 obtain ⟨dst, op, ty, pos, aft, gd⟩ := o
 show N2 fun k => evOp P F D ⟨dst, op, ty, pos, aft, gd⟩ ρ h sl k
 cases op <;> simp only [evOp]
 case move => exact N2.pure _ _
 case assign => exact N2.pure _ _
 case pick =>
  split
  ·exact N2.cond (N2.pure _ _) (N2.pure _ _)
  ·exact N2.none
 case alloc => exact N2.bind fun _ => N2.pure _ _
 case box => exact N2.bind fun _ => N2.pure _ _
 case build => exact N2.then1 (evBuild_N P _ _) fun _ => N2.pure _ _
 case buildSlice =>
  split
  ·exact N2.cond (N2.bind fun _ => N2.then2 (elemsOf_N _ _ _ _) fun _ _ => N2.pure _ _) N2.none
  ·exact N2.none
 case load => exact N2.then1 (evLoad_N P _ _ _) fun _ => N2.pure _ _
 case store => exact N2.then1 (evStore_N P _ _ _ _) fun _ => N2.pure _ _
 case nilCheck => exact N2.then1 (evNil_N _ _) fun _ => N2.pure _ _
 case binOp => exact N2.then1 (evBin_N P _ _ _ _) fun _ => N2.pure _ _
 case unOp => exact N2.then1 (evUn_N _ _) fun _ => N2.pure _ _
 case convert => exact N2.then1 (evConv_N P _ _ _ _) fun _ => N2.pure _ _
 case makeFunc =>
  split
  ·exact N2.bind fun _ => N2.pure _ _
  ·exact N2.none
 case makeSlice => exact N2.then2 (evMake_N P _ _ _ _ _) fun _ _ => N2.pure _ _
 case slice => exact N2.then2 (evSlice_N P _ _ _ _ _ _) fun _ _ => N2.pure _ _
 case fieldAddr => exact N2.bind fun _ => N2.then1 (evField_N _ _ _) fun _ => N2.pure _ _
 case indexAddr => exact N2.then1 (evIndexAddr_N P _ _ _ _) fun _ => N2.pure _ _
 case index => exact N2.then1 (evIndex_N P _ _ _) fun _ => N2.pure _ _
 case extract => exact N2.then1 (evExtract_N _ _) fun _ => N2.pure _ _
 case call c =>
  obtain ⟨callee, args, tys⟩ := c
  cases callee with
  | builtin bi => exact evBuiltin_N P _ _ _ _ _
  | invoke q m => exact N2.none
  | value f =>
   cases f with
   | func f =>
    refine N2.cond ?_ (N2.bind fun _ => callK_N P _ _ _ _ _ _ _)
    split
    ·exact N2.cond (N2.pure _ _) N2.none
    ·exact N2.none
   | tmp t => exact closure_N P F D _ ρ _ _ h sl
   | const v => exact closure_N P F D _ ρ _ _ h sl
   | global g => exact closure_N P F D _ ρ _ _ h sl
 all_goals exact N2.none
end
end Go.Ab
end
section
namespace Go.Ab
open Go Go.Dk
section
variable {P : Program} {F : Callee} {D : Dec}
theorem map_congr_ops {α : Type} {ρ ρ' : Operand → α} {a : Array Operand} (h : ∀ x ∈ a, ρ x = ρ' x) : a.toList.map ρ = a.toList.map ρ' :=
 List.map_congr_left fun x hx => h x (by simpa using hx)
theorem evOp_congr {ρ ρ' : Operand → AV} {o : Oper} (h : ∀ x ∈ o.op.operands, ρ x = ρ' x) (hp : List AObj) (sl : Nat) (k : AV → List AObj → OR) :
   evOp P F D o ρ hp sl k = evOp P F D o ρ' hp sl k := by
 obtain ⟨dst, op, ty, pos, aft, gd⟩ := o
 cases op <;> simp only [Op.operands] at h <;> simp only [evOp]
 case build t ps =>
  have : ps.toList.map (fun p => (p.1, ρ p.2)) = ps.toList.map fun p => (p.1, ρ' p.2) :=
   List.map_congr_left fun p hp' => by rw [h p.2 (by simp only [List.mem_toArray]; exact List.mem_map.2 ⟨p, hp', rfl⟩)]
  rw [this]
 case buildSlice t n ps =>
  have : ps.toList.map (fun p => ρ p.2) = ps.toList.map fun p => ρ' p.2 :=
   List.map_congr_left fun p hp' => h p.2 (by simp only [List.mem_toArray]; exact List.mem_map.2 ⟨p, hp', rfl⟩)
  rw [this]
 case makeFunc fn first caps =>
  rw [map_congr_ops fun x hx => h x (by simp [hx])]
 case slice t x lo hi mx =>
  have e1 : ρ x = ρ' x := h x (by simp)
  have e2 : lo.map ρ = lo.map ρ' := by cases lo with | none => rfl | some l => simp [h l (by simp)]
  have e3 : hi.map ρ = hi.map ρ' := by cases hi with | none => rfl | some l => simp [h l (by simp)]
  have e4 : mx.map ρ = mx.map ρ' := by cases mx with | none => rfl | some l => simp [h l (by simp)]
  rw [e1, e2, e3, e4]
 case call c =>
  obtain ⟨callee, args, tys⟩ := c
  have ea : args.toList.map ρ = args.toList.map ρ' := map_congr_ops fun x hx => h x (by simp [Call.operands, hx])
  cases callee with
  | builtin bi => simp only [ea]
  | invoke q m => rfl
  | value f =>
   have ef : ρ f = ρ' f := h f (by simp [Call.operands])
   cases f <;> simp only [ea, ef]
 all_goals (first | rfl | (simp_all; done))
def notH (js : List Nat) : Nat → List AObj → List AObj
 | _, [] => []
 | i, o :: h => cond (hasN i js) .dead o :: notH js (i + 1) h
def maskG (js : List Nat) (b : Nat) : Nat → List GO → List GO
 | _, [] => []
 | i, g :: G => cond (hasN i js) g (cond (Nat.blt i b) .gone .fresh) :: maskG js b (i + 1) G
def mixG (js : List Nat) : Nat → List GO → List GO → List GO
 | i, o :: h, o' :: h' => cond (hasN i js) o' o :: mixG js (i + 1) h h'
 | _, h, _ => h
theorem onlyH_get (js : List Nat) : ∀ (h : List AObj) (i j : Nat), (onlyH js i h)[j]? = h[j]?.map fun o => cond (hasN (i + j) js) o .dead
 | [], i, j => by simp [onlyH]
 | o :: h, i, 0 => by simp [onlyH]
 | o :: h, i, j + 1 => by simp only [onlyH, List.getElem?_cons_succ]; rw [onlyH_get js h (i + 1) j, show i + 1 + j = i + (j + 1) by omega]
theorem maskG_get (js : List Nat) (b : Nat) : ∀ (h : List GO) (i j : Nat), (maskG js b i h)[j]? = h[j]?.map fun o => cond (hasN (i + j) js) o (cond (Nat.blt (i + j) b) .gone .fresh)
 | [], i, j => by simp [maskG]
 | o :: h, i, 0 => by simp [maskG]
 | o :: h, i, j + 1 => by simp only [maskG, List.getElem?_cons_succ]; rw [maskG_get js b h (i + 1) j, show i + 1 + j = i + (j + 1) by omega]
theorem onlyH_length (js : List Nat) : ∀ (h : List AObj) (i : Nat), (onlyH js i h).length = h.length
 | [], _ => rfl
 | o :: h, i => by simp only [onlyH, List.length_cons, onlyH_length js h]
theorem maskG_length (js : List Nat) (b : Nat) : ∀ (h : List GO) (i : Nat), (maskG js b i h).length = h.length
 | [], _ => rfl
 | o :: h, i => by simp only [maskG, List.length_cons, maskG_length js b h]
theorem mixH_length (js : List Nat) : ∀ (h h' : List AObj) (i : Nat), (mixH js i h h').length = h.length
 | [], _, _ => by simp [mixH]
 | o :: h, [], _ => by simp [mixH]
 | o :: h, o' :: h', i => by simp only [mixH, List.length_cons, mixH_length js h]
theorem mixG_length (js : List Nat) : ∀ (h h' : List GO) (i : Nat), (mixG js i h h').length = h.length
 | [], _, _ => by simp [mixG]
 | o :: h, [], _ => by simp [mixG]
 | o :: h, o' :: h', i => by simp only [mixG, List.length_cons, mixG_length js h]
theorem mixH_in {js : List Nat} : ∀ {h h' : List AObj} {i j : Nat}, hasN (i + j) js = true → h'.length = h.length → (mixH js i h h')[j]? = h'[j]?
 | [], [], i, j, _, _ => by simp [mixH]
 | [], _ :: _, i, j, _, hl => by simp at hl
 | _ :: _, [], i, j, _, hl => by simp at hl
 | o :: h, o' :: h', i, 0, hj, _ => by simp only [Nat.add_zero] at hj; simp [mixH, hj]
 | o :: h, o' :: h', i, j + 1, hj, hl => by
  simp only [mixH, List.getElem?_cons_succ]
  exact mixH_in (by rw [show i + 1 + j = i + (j + 1) by omega]; exact hj) (by simpa using hl)
theorem mixH_out {js : List Nat} : ∀ {h h' : List AObj} {i j : Nat}, hasN (i + j) js = false → (mixH js i h h')[j]? = h[j]?
 | [], _, i, j, _ => by simp [mixH]
 | o :: h, [], i, j, _ => by simp [mixH]
 | o :: h, o' :: h', i, 0, hj => by simp only [Nat.add_zero] at hj; simp [mixH, hj]
 | o :: h, o' :: h', i, j + 1, hj => by
  simp only [mixH, List.getElem?_cons_succ]
  exact mixH_out (by rw [show i + 1 + j = i + (j + 1) by omega]; exact hj)
theorem mixG_in {js : List Nat} : ∀ {h h' : List GO} {i j : Nat}, hasN (i + j) js = true → h'.length = h.length → (mixG js i h h')[j]? = h'[j]?
 | [], [], i, j, _, _ => by simp [mixG]
 | [], _ :: _, i, j, _, hl => by simp at hl
 | _ :: _, [], i, j, _, hl => by simp at hl
 | o :: h, o' :: h', i, 0, hj, _ => by simp only [Nat.add_zero] at hj; simp [mixG, hj]
 | o :: h, o' :: h', i, j + 1, hj, hl => by
  simp only [mixG, List.getElem?_cons_succ]
  exact mixG_in (by rw [show i + 1 + j = i + (j + 1) by omega]; exact hj) (by simpa using hl)
theorem mixG_out {js : List Nat} : ∀ {h h' : List GO} {i j : Nat}, hasN (i + j) js = false → (mixG js i h h')[j]? = h[j]?
 | [], _, i, j, _ => by simp [mixG]
 | o :: h, [], i, j, _ => by simp [mixG]
 | o :: h, o' :: h', i, 0, hj => by simp only [Nat.add_zero] at hj; simp [mixG, hj]
 | o :: h, o' :: h', i, j + 1, hj => by
  simp only [mixG, List.getElem?_cons_succ]
  exact mixG_out (by rw [show i + 1 + j = i + (j + 1) by omega]; exact hj)
theorem resL_split (js : List Nat) (b : Nat) : ∀ (h : List AObj) (G : List GO) (i : Nat), (resL h G).Perm (resL (onlyH js i h) (maskG js b i G) ++ resL (notH js i h) G)
 | [], _, _ => List.Perm.refl _
 | o :: h, [], i => List.Perm.refl _
 | o :: h, g :: G, i => by
  have ih := resL_split js b h G (i + 1)
  simp only [onlyH, maskG, notH, resL]
  cases hasN i js with
  | true =>
   simp only [cond_true, resO_dead, List.nil_append, List.append_assoc]
   exact ih.append_left _
  | false =>
   simp only [cond_false, resO_dead, List.nil_append]
   refine (ih.append_left _).trans ?_
   rw [← List.append_assoc, ← List.append_assoc]
   exact List.perm_append_comm.append_right _
theorem resL_mix (js : List Nat) : ∀ (h h' : List AObj) (G G' : List GO) (i : Nat), h'.length = h.length → h.length = G.length → G'.length = G.length →
   (resL (mixH js i h h') (mixG js i G G')).Perm (resL (onlyH js i h') G' ++ resL (notH js i h) G)
 | [], [], G, G', i, _, _, _ => List.Perm.refl _
 | [], _ :: _, _, _, _, hl, _, _ => by simp at hl
 | _ :: _, [], _, _, _, hl, _, _ => by simp at hl
 | _ :: _, _ :: _, [], _, _, _, hl, _ => by simp at hl
 | _ :: _, _ :: _, _ :: _, [], _, _, _, hl => by simp at hl
 | o :: h, o' :: h', g :: G, g' :: G', i, h1, h2, h3 => by
  have ih := resL_mix js h h' G G' (i + 1) (by simpa using h1) (by simpa using h2) (by simpa using h3)
  simp only [onlyH, mixG, mixH, notH, resL]
  cases hasN i js with
  | true =>
   simp only [cond_true, resO_dead, List.nil_append, List.append_assoc]
   exact ih.append_left _
  | false =>
   simp only [cond_false, resO_dead, List.nil_append]
   refine (ih.append_left _).trans ?_
   rw [← List.append_assoc, ← List.append_assoc]
   exact List.perm_append_comm.append_right _
theorem resL_only (js : List Nat) : ∀ (h : List AObj) (G : List GO) (i : Nat), (resL (onlyH js i h) G).Sublist (resL h G)
 | [], _, _ => List.Sublist.refl _
 | o :: h, [], i => List.Sublist.refl _
 | o :: h, g :: G, i => by
  simp only [onlyH, resL]
  cases hasN i js with
  | true => exact (resL_only js h G (i + 1)).append_left _
  | false => simp only [cond_false, resO_dead, List.nil_append]; exact (resL_only js h G (i + 1)).trans (List.sublist_append_right _ _)
theorem RS.on {G G' : List GO} {Z : Zone} {w : World} {v : SV} {X : Value} (h : RS G Z w v X) (hr : ∀ j ∈ refsS v, ∀ g, G[j]? = some g → G'[j]? = some g) : RS G' Z w v X := by
 cases v with
 | own j v =>
  have := hr j (by simp [refsS])
  rcases h with h | ⟨ver, val, sz, xs, hg, hh⟩
  ·exact .inl (this _ h)
  ·exact .inr ⟨ver, val, sz, xs, this _ hg, hh⟩
 | ptr j o =>
  have := hr j (by simp [refsS])
  rcases h with h | ⟨bb, T, vs, hg, hh⟩
  ·exact .inl (this _ h)
  ·exact .inr ⟨bb, T, vs, this _ hg, hh⟩
 | op j v i o =>
  have := hr j (by simp [refsS])
  rcases h with h | ⟨ver, val, sz, xs, hg, hh⟩
  ·exact .inl (this _ h)
  ·exact .inr ⟨ver, val, sz, xs, this _ hg, hh⟩
 | fn f l =>
  obtain ⟨bs, hX, hh⟩ := h
  refine ⟨bs, hX, hh.mono fun j b hj q => ?_⟩
  have := hr j (by simpa [refsS] using hj)
  rcases q with h1 | ⟨T, vs, h1⟩
  ·exact .inl (this _ h1)
  ·exact .inr ⟨T, vs, this _ h1⟩
 | _ => exact h
theorem RV1.on {G G' : List GO} {Z : Zone} {w : World} {v : V1} {X : Value} (h : RV1 G Z w v X) (hr : ∀ j ∈ refsV v, ∀ g, G[j]? = some g → G'[j]? = some g) : RV1 G' Z w v X := by
 cases v with
 | one s => exact ⟨h.1.on hr, h.2⟩
 | agg l =>
  obtain ⟨xs, hX, hh⟩ := h
  exact ⟨xs, hX, hh.mono fun a _ ha q => ⟨q.1.on fun j hj => hr j (List.mem_flatMap.2 ⟨a, ha, hj⟩), q.2⟩⟩
theorem RV.on {G G' : List GO} {Z : Zone} {w : World} {v : AV} {X : Value} (h : RV G Z w v X) (hr : ∀ j ∈ refsA v, ∀ g, G[j]? = some g → G'[j]? = some g) : RV G' Z w v X := by
 cases v with
 | v v => exact RV1.on h hr
 | tup l =>
  obtain ⟨xs, hX, hh⟩ := h
  exact ⟨xs, hX, hh.mono fun a _ ha q => q.on fun j hj => hr j (List.mem_flatMap.2 ⟨a, ha, hj⟩)⟩
theorem RO.on {G G' : List GO} {Z : Zone} {w : World} {o : AObj} {g : GO} (h : RO G Z w o g) (hr : ∀ j ∈ refsO (some o), ∀ g, G[j]? = some g → G'[j]? = some g) : RO G' Z w o g := by
 cases o with
 | cells l => cases g with
  | cells bb T vs => exact All2.mono h fun a _ ha q => ⟨q.1.on fun j hj => hr j (List.mem_flatMap.2 ⟨a, ha, hj⟩), q.2⟩
  | _ => exact h
 | arr e d ver fz => cases g <;> exact h
 | dead => cases g <;> exact h
end
end Go.Ab
namespace Go.Ab
open Go Go.Dk
section
variable {P : Program} {F : Callee} {D : Dec} {w0 w : World} {M Z0 : Zone} {b : Nat} {G : List GO} {s : AS} {tv : List Value}
theorem put_heap (s : AS) (d : Option Tmp) (v : AV) : (s.put d v).heap = s.heap := by cases d <;> rfl
theorem maskT_get (live : List Nat) : ∀ (l : List AV) (i t : Nat), (maskT live i l)[t]? = l[t]?.map fun v => cond (hasN (i + t) live) v anyV
 | [], i, t => by simp [maskT]
 | v :: l, i, 0 => by simp [maskT]
 | v :: l, i, t + 1 => by simp only [maskT, List.getElem?_cons_succ]; rw [maskT_get live l (i + 1) t, show i + 1 + t = i + (t + 1) by omega]
def opT (o : Oper) : List Nat := o.op.operands.toList.flatMap fun x => match x with | .tmp t => [t] | _ => []
theorem mem_opT {o : Oper} {t : Nat} : t ∈ opT o ↔ .tmp t ∈ o.op.operands := by
 unfold opT
 rw [List.mem_flatMap]
 constructor
 ·rintro ⟨x, hx, ht⟩
  cases x <;> simp at ht
  subst ht; simpa using hx
 ·intro h
  exact ⟨.tmp t, by simpa using h, by simp⟩
theorem closB_out {h : List AObj} {fp rf : List Nat} (hc : closB h fp rf = true) : (∀ j ∈ rf, j ∈ fp) ∧ ∀ j ∈ fp, ∀ i ∈ refsO h[j]?, i ∈ fp := by
 simp only [closB, Bool.and_eq_true, List.all_eq_true, hasN_iff] at hc
 exact hc
def putVs (tv : List Value) (d : Option Tmp) (X : Value) : List Value := match d with | some d => tv.set d X | none => tv
theorem rel_put {G : List GO} {Z : Zone} {tm : List AV} (hh : All2 (RV G Z w) tm tv) (d : Option Tmp) {v : AV} {X : Value} (hv : ∀ q, d = some q → q < tm.length → RV G Z w v X) (h : List AObj) :
   All2 (RV G Z w) (AS.put ⟨tm, h⟩ d v).tmps (putVs tv d X) := by
 cases d with
 | none => exact hh
 | some d =>
  by_cases hd : d < tm.length
  ·exact hh.set d (hv d rfl hd)
  ·show All2 _ (tm.set d v) (tv.set d X)
   rw [List.set_eq_of_length_le (Nat.le_of_not_lt hd), List.set_eq_of_length_le (by rw [← hh.1]; exact Nat.le_of_not_lt hd)]; exact hh
theorem evOp_masked (hF : CallsOK P F) (hib : ∀ f, D.ib f = true → extIB P f) (hst : St w0 M Z0 (resL s.heap G) (relF s G tv) w) (hm : MZ M Z0 w0) {o : Oper} {fp : List Nat} {v : AV} {h' : List AObj} {Q : Exit → Act → World → Prop}
   (hfr : ∀ j, b ≤ j → j < b + nObj P D o → G[j]? = some .fresh) (hb : b + nObj P D o ≤ s.heap.length) (hfp : ∀ j ∈ fp, j < b + nObj P D o) (hcl : closB s.heap fp (refsOf s o) = true)
   (hev : ∀ k', evOp P F D o s.ev (onlyH fp 0 s.heap) b k' = k' v h') (hcl' : closB h' fp (refsA v) = true) :
   o.wp P ⟨tv.toArray, []⟩ w (fun a' w' => ∃ G' tv', a' = ⟨tv'.toArray, []⟩ ∧ St w0 M Z0 (resL (mixH fp 0 s.heap h') G') (relF (AS.put ⟨s.tmps, mixH fp 0 s.heap h'⟩ o.dst v) G' tv') w' ∧ (∀ j, hasN j fp = false → G'[j]? = G[j]?) ∧ Up G G') Q := by
 obtain ⟨hc1, hc2⟩ := closB_out hcl
 obtain ⟨hd1, hd2⟩ := closB_out hcl'
 have hlen : s.heap.length = G.length := hst.per.2.1
 have hp := resL_split fp b s.heap G 0
 generalize hL1 : resL (onlyH fp 0 s.heap) (maskG fp b 0 G) = L1 at hp
 have hs := (hst.perm hp).sub (List.sublist_append_left _ _)
 have hk : ∀ k, zone w0 Z0 (resL s.heap G) k → zone w (fun k => zone w0 Z0 (resL s.heap G) k ∨ footL L1 k) L1 k := fun k hk =>
  ⟨.inl (.inl hk), fun q hq => hk.2 q (hp.mem_iff.2 (List.mem_append.2 (.inl hq)))⟩
 have hGM : ∀ j ∈ fp, ∀ g, G[j]? = some g → (maskG fp b 0 G)[j]? = some g := fun j hj g hg => by
  rw [maskG_get, hg, Nat.zero_add, hasN_iff.2 hj]; rfl
 have hIM : InvG w (footL L1) (fun k => zone w0 Z0 (resL s.heap G) k ∨ footL L1 k) b (maskG fp b 0 G) ⟨maskT (opT o) 0 s.tmps, onlyH fp 0 s.heap⟩ tv w := by
  refine ⟨⟨Ext.refl _ _, ?_, ?_, ?_, ?_, relF_stable _ _ _, ?_⟩, ?_, fun k hk => .inr hk, hm.2.sub hst.ext fun k ⟨q, hq, hf⟩ => (hs.key q hq k hf).1⟩
  ·rw [hL1]; exact hs.own
  ·rw [hL1]; exact hs.loc
  ·rw [hL1]; exact fun q hq k hf => ⟨.inl ⟨q, hq, hf⟩, (hs.key q hq k hf).2⟩
  ·rw [hL1]; exact hs.dis
  ·have hper := hst.per
   rw [hL1]
   refine ⟨⟨?_, fun t x y hx hy => ?_⟩, ?_, fun j x y hx hy => ?_⟩
   ·have : (maskT (opT o) 0 s.tmps).length = s.tmps.length := by
      refine Nat.le_antisymm ?_ ?_ <;> refine Nat.le_of_not_lt fun hlt => ?_
      ·have h1 := maskT_get (opT o) s.tmps 0 s.tmps.length
       rw [List.getElem?_eq_getElem hlt, List.getElem?_eq_none (Nat.le_refl _)] at h1
       cases h1
      ·have h1 := maskT_get (opT o) s.tmps 0 (maskT (opT o) 0 s.tmps).length
       rw [List.getElem?_eq_none (Nat.le_refl _), List.getElem?_eq_getElem hlt] at h1
       cases h1
    rw [this]; exact hper.1.1
   ·rw [maskT_get, Nat.zero_add] at hx
    obtain ⟨x', hx', rfl⟩ := Option.map_eq_some_iff.1 hx
    cases ht : hasN t (opT o) with
    | false => exact any_rel y
    | true =>
     have hr := hper.1.2 t x' y hx' hy
     rw [cond_true]
     refine (RV.on (hr.stable (keeps_le hk)) fun j hj g hg => hGM j (hc1 j ?_) g hg)
     refine List.mem_flatMap.2 ⟨.tmp t, by simpa using mem_opT.1 (hasN_iff.1 ht), ?_⟩
     show j ∈ refsA (s.tmps.getD t anyV)
     simp only [List.getD, hx', Option.getD_some]; exact hj
   ·rw [onlyH_length, maskG_length]; exact hlen
   ·rw [onlyH_get, Nat.zero_add] at hx
    rw [maskG_get, Nat.zero_add] at hy
    obtain ⟨x', hx', rfl⟩ := Option.map_eq_some_iff.1 hx
    obtain ⟨y', hy', rfl⟩ := Option.map_eq_some_iff.1 hy
    cases ht : hasN j fp with
    | false => cases Nat.blt j b <;> trivial
    | true =>
     have hr := hper.2.2 j x' y' hx' hy'
     refine RO.on (hr.stable (keeps_le hk)) fun i hi g hg => hGM i (hc2 j (hasN_iff.1 ht) i ?_) g hg
     rw [hx']; exact hi
  ·intro j hj hjl
   rw [maskG_length] at hjl
   rw [maskG_get, Nat.zero_add, List.getElem?_eq_getElem hjl, Option.map_some]
   cases ht : hasN j fp with
   | true =>
    have := hfr j hj (hfp j (hasN_iff.1 ht))
    rw [List.getElem?_eq_getElem hjl] at this
    exact this
   | false =>
    have : Nat.blt j b = false := by
     cases hb' : Nat.blt j b with
     | false => rfl
     | true => rw [Nat.blt_eq] at hb'; omega
    rw [this]; rfl
 have hevM : ∀ x ∈ o.op.operands, (AS.mk (maskT (opT o) 0 s.tmps) (onlyH fp 0 s.heap)).ev x = s.ev x := by
  intro x hx
  cases x with
  | tmp t =>
   show (maskT (opT o) 0 s.tmps).getD t anyV = s.tmps.getD t anyV
   simp only [List.getD, maskT_get, Nat.zero_add, hasN_iff.2 (mem_opT.2 hx), cond_true]
   cases s.tmps[t]? <;> rfl
  | _ => rfl
 classical
 have hrun : evOp P F D o (AS.mk (maskT (opT o) 0 s.tmps) (onlyH fp 0 s.heap)).ev (AS.mk (maskT (opT o) 0 s.tmps) (onlyH fp 0 s.heap)).heap b (fun v2 h2 => if v2 = v ∧ h2 = h' then some ([], []) else none) = some ([], []) := by
  rw [evOp_congr hevM]
  show evOp P F D o s.ev (onlyH fp 0 s.heap) b _ = _
  rw [hev]; simp
 refine Oper.wp_mono (fun a' w' hst' => ?_) (evOp_sound (Q := Q) hF hib hIM (by show _ ≤ (onlyH fp 0 s.heap).length; rw [onlyH_length]; exact hb) hrun)
 obtain ⟨v2, h2, G2, tv2, hk2, ha, hI2, hl2, hu2, X, hX⟩ := hst'
 have hvh : v2 = v ∧ h2 = h' := by
  by_cases hh : v2 = v ∧ h2 = h'
  ·exact hh
  ·simp [hh] at hk2
 obtain ⟨rfl, rfl⟩ := hvh
 replace hX : tv2 = putVs tv o.dst X := by rw [hX]; cases o.dst <;> rfl
 have hst2 := hI2.st
 rw [put_heap] at hst2
 rw [← hL1] at hp
 have hst2' := hst2
 rw [← hL1] at hst2'
 have hfrm := frame hst hm.1 hp hst2'
 have hl : h2.length = s.heap.length := by rw [hl2]; exact onlyH_length _ _ _
 have hG2 : G2.length = G.length := by
  have := hI2.len
  rw [put_heap] at this
  rw [← this]; show h2.length = _; rw [hl, hlen]
 have hperm := resL_mix fp s.heap h2 G G2 0 hl hlen hG2
 have hS := (hfrm.1.sub ((resL_only fp h2 G2 0).append_right _)).perm hperm.symm
 have hin : ∀ j ∈ fp, (mixG fp 0 G G2)[j]? = G2[j]? := fun j hj => mixG_in (by rw [Nat.zero_add]; exact hasN_iff.2 hj) hG2
 have hout : ∀ j, hasN j fp = false → (mixG fp 0 G G2)[j]? = G[j]? := fun j hj => mixG_out (by rw [Nat.zero_add]; exact hj)
 have hup : Up G (mixG fp 0 G G2) := by
  intro j
  cases ht : hasN j fp with
  | false => rw [hout j ht]; exact Up.refl G j
  | true =>
   rw [hin j (hasN_iff.1 ht)]
   have := hu2 j
   rw [maskG_get, Nat.zero_add, ht] at this
   have he : (G[j]?.map fun o => cond true o (cond (Nat.blt j b) .gone .fresh)) = G[j]? := by cases G[j]? <;> rfl
   rw [he] at this
   exact this
 refine ⟨mixG fp 0 G G2, tv2, ha, hS.weak (relF_stable _ _ _) fun hh => ?_, hout, hup⟩
 obtain ⟨hc, hs0⟩ := hh
 refine ⟨?_, ?_⟩
 ·rw [hX]
  refine rel_put (hs0.1.mono fun _ _ _ q => q.up hup) o.dst (fun d hd hdl => ?_) (mixH fp 0 s.heap h2)
  have h1 : (AS.put ⟨maskT (opT o) 0 s.tmps, h2⟩ o.dst v2).tmps[d]? = some v2 := by
   have : d < (maskT (opT o) 0 s.tmps).length := by
    have h3 := hIM.st.per.1.1
    have h4 := hs0.1.1
    exact Nat.lt_of_lt_of_eq hdl (h4.trans h3.symm)
   rw [hd]; show ((maskT (opT o) 0 s.tmps).set d v2)[d]? = _
   simp [this]
  have h2' : tv2[d]? = some X := by
   rw [hX, hd]
   have : d < tv.length := by rw [← hs0.1.1]; exact hdl
   simp [putVs, this]
  exact RV.on (hc.1.2 d v2 X h1 h2') fun j hj g hg => by rw [hin j (hd1 j hj)]; exact hg
 ·rw [put_heap]
  refine ⟨by rw [mixH_length, mixG_length]; exact hlen, fun j x y hx hy => ?_⟩
  cases ht : hasN j fp with
  | false =>
   rw [mixH_out (by rw [Nat.zero_add]; exact ht)] at hx
   rw [hout j ht] at hy
   exact (hs0.2.2 j x y hx hy).up hup
  | true =>
   have hx' : h2[j]? = some x := by rw [← hx]; exact (mixH_in (by rw [Nat.zero_add]; exact ht) hl).symm
   rw [hin j (hasN_iff.1 ht)] at hy
   have hro := hc.2.2 j x y (by rw [put_heap]; exact hx') hy
   refine RO.on hro fun i hi g hg => by rw [hin i (hd2 j (hasN_iff.1 ht) i (by rw [hx']; exact hi))]; exact hg
theorem keep1 {f : (AV → OR) → OR} {h h' : List AObj} (hf : N1 f) (hh : f (fun v => some ([], h)) = some ([], h')) : h' = h := by
 obtain ⟨a, ha, _⟩ := hf _ _ hh
 injection ha with ha; injection ha with _ ha; exact ha.symm
theorem keepS {f : (SV → OR) → OR} {h h' : List AObj} (hf : N1 f) (hh : f (fun v => some ([], h)) = some ([], h')) : h' = h := by
 obtain ⟨a, ha, _⟩ := hf _ _ hh
 injection ha with ha; injection ha with _ ha; exact ha.symm
theorem out_range {j b n : Nat} (h : hasN j (List.range' b n) = false) : ¬ (b ≤ j ∧ j < b + n) := fun hh => by
 have : j ∈ List.range' b n := by rw [List.mem_range'_1]; exact hh
 rw [hasN_iff.2 this] at h; cases h
theorem set_keep {h h' : List AObj} {b j : Nat} {o : AObj} (hn : hasN j (List.range' b 1) = false) (hh : (some ([], h.set b o) : OR) = some ([], h')) : h'[j]? = h[j]? := by
 injection hh with hh; injection hh with _ hh
 rw [← hh, List.getElem?_set_ne]
 have := out_range hn; omega
theorem hasN_append {j : Nat} {l m : List Nat} (h : hasN j (l ++ m) = false) : hasN j l = false ∧ hasN j m = false := by
 have h1 : j ∉ l ++ m := fun hm => by rw [hasN_iff.2 hm] at h; cases h
 rw [List.mem_append, not_or] at h1
 refine ⟨?_, ?_⟩
 ·cases hh : hasN j l with
  | false => rfl
  | true => exact absurd (hasN_iff.1 hh) h1.1
 ·cases hh : hasN j m with
  | false => rfl
  | true => exact absurd (hasN_iff.1 hh) h1.2
theorem evOp_keeps {o : Oper} {ρ : Operand → AV} {h h' : List AObj} {v : AV} {fp : List Nat} {j : Nat} (hev : ∀ k', evOp P F D o ρ h b k' = k' v h') (hj : hasN j fp = true)
   (hn : hasN j (writes o fp b (nObj P D o)) = false) : h'[j]? = h[j]? := by
 have hk := hev fun _ h => some ([], h)
 obtain ⟨dst, op, ty, pos, aft, gd⟩ := o
 unfold writes at hn
 obtain ⟨hn1, hn2⟩ := hasN_append hn
 have same : ∀ {h1 : List AObj}, h1 = h → h1[j]? = h[j]? := fun e => by rw [e]
 have same' : (some ([], h) : OR) = some ([], h') → h'[j]? = h[j]? := fun e => by injection e with e; injection e with _ e; rw [e]
 cases op <;> simp only [evOp] at hk <;> simp only [nObj] at hn2
 case move => exact same' hk
 case assign => exact same' hk
 case pick =>
  split at hk
  ·rcases cond_some hk with ⟨_, hk⟩ | ⟨_, hk⟩ <;> exact same' hk
  ·cases hk
 case alloc => obtain ⟨z, _, hk⟩ := bind_some hk; exact set_keep hn2 hk
 case box => obtain ⟨z, _, hk⟩ := bind_some hk; exact set_keep hn2 hk
 case build => exact same (keep1 (evBuild_N P _ _) hk)
 case buildSlice => rw [hj] at hn1; cases hn1
 case load => exact same (keep1 (evLoad_N P _ _ _) hk)
 case store => rw [hj] at hn1; cases hn1
 case nilCheck => exact same (keepS (evNil_N _ _) hk)
 case binOp => exact same (keepS (evBin_N P _ _ _ _) hk)
 case unOp => exact same (keepS (evUn_N _ _) hk)
 case convert => exact same (keepS (evConv_N P _ _ _ _) hk)
 case makeFunc =>
  split at hk
  ·obtain ⟨z, _, hk⟩ := bind_some hk; exact same' hk
  ·cases hk
 case makeSlice t x y =>
  unfold evMake at hk
  obtain ⟨n, hk, _⟩ := optInt_N _ _ _ hk
  obtain ⟨m, hk, _⟩ := optInt_N _ _ _ hk
  obtain ⟨_, hk⟩ := cond_left hk
  split at hk
  ·obtain ⟨_, hk⟩ := cond_left hk
   obtain ⟨d, _, hk⟩ := bind_some hk
   exact set_keep hn2 hk
  ·cases hk
 case slice => rw [hj] at hn1; cases hn1
 case fieldAddr =>
  obtain ⟨z, _, hk⟩ := bind_some hk
  exact same (keepS (evField_N _ _ _) hk)
 case indexAddr => exact same (keepS (evIndexAddr_N P _ _ _ _) hk)
 case index => exact same (keepS (evIndex_N P _ _ _) hk)
 case extract => exact same (keep1 (evExtract_N _ _) hk)
 case call c =>
  obtain ⟨callee, args, tys⟩ := c
  cases callee with
  | builtin bi =>
   simp only at hk
   unfold evBuiltin at hk
   split at hk
   ·exact same (keepS (evLen_N P _ _ _) hk)
   ·rw [hj] at hn1; cases hn1
   ·exact same (keepS (evMax_N _ _ _) hk)
   ·exact same (keepS (evMax_N _ _ _) hk)
   ·cases hk
  | invoke q m => cases hk
  | value f => simp only at hn1; rw [hj] at hn1; cases hn1
 all_goals cases hk
theorem evOp_light {o : Oper} (hl : lightB o = true) (ρ : Operand → AV) (h : List AObj) (sl : Nat) (k : AV → List AObj → OR) : evOp P F D o ρ h sl k = evOp P F D o ρ [] 0 fun v _ => k v h := by
 obtain ⟨dst, op, ty, pos, aft, gd⟩ := o
 cases op <;> first | rfl | (simp [lightB] at hl; done)
theorem nObj_light {o : Oper} (hl : lightB o = true) : nObj P D o = 0 := by
 obtain ⟨dst, op, ty, pos, aft, gd⟩ := o
 cases op <;> first | rfl | (simp [lightB] at hl; done)
def takenG : GO → Bool | .fresh => false | _ => true
theorem RS.refs {G : List GO} {Z : Zone} {v : SV} {X : Value} (h : RS G Z w v X) : ∀ j ∈ refsS v, ∃ g, G[j]? = some g ∧ takenG g = true := by
 intro j hj
 cases v with
 | own i v =>
  simp only [refsS, List.mem_singleton] at hj; subst hj
  rcases h with h | ⟨ver, val, sz, xs, h, _⟩ <;> exact ⟨_, h, rfl⟩
 | ptr i o =>
  simp only [refsS, List.mem_singleton] at hj; subst hj
  rcases h with h | ⟨bb, T, vs, h, _⟩ <;> exact ⟨_, h, rfl⟩
 | op i v n o =>
  simp only [refsS, List.mem_singleton] at hj; subst hj
  rcases h with h | ⟨ver, val, sz, xs, h, _⟩ <;> exact ⟨_, h, rfl⟩
 | fn f l =>
  obtain ⟨bs, _, hh⟩ := h
  obtain ⟨i, hi⟩ := List.getElem?_of_mem (show j ∈ l from hj)
  obtain ⟨bb, _, hr⟩ := hh.get hi
  rcases hr with h | ⟨T, vs, h⟩ <;> exact ⟨_, h, rfl⟩
 | _ => simp [refsS] at hj
theorem RV.refs {G : List GO} {Z : Zone} {v : AV} {X : Value} (h : RV G Z w v X) : ∀ j ∈ refsA v, ∃ g, G[j]? = some g ∧ takenG g = true := by
 have one : ∀ {v : V1} {X : Value}, RV1 G Z w v X → ∀ j ∈ refsV v, ∃ g, G[j]? = some g ∧ takenG g = true := by
  intro v X h j hj
  cases v with
  | one x => exact h.1.refs j hj
  | agg l =>
   obtain ⟨xs, _, hh⟩ := h
   obtain ⟨x, hx, hj⟩ := List.mem_flatMap.1 hj
   obtain ⟨i, hi⟩ := List.getElem?_of_mem hx
   obtain ⟨y, _, hr⟩ := hh.get hi
   exact hr.1.refs j hj
 intro j hj
 cases v with
 | v x => exact one h j hj
 | tup l =>
  obtain ⟨xs, _, hh⟩ := h
  obtain ⟨x, hx, hj⟩ := List.mem_flatMap.1 hj
  obtain ⟨i, hi⟩ := List.getElem?_of_mem hx
  obtain ⟨y, _, hr⟩ := hh.get hi
  exact one hr j hj
def madeL (G : List GO) : List Nat := (List.range G.length).filter fun j => match G[j]? with | some g => takenG g | none => false
theorem mem_made {G : List GO} {j : Nat} : j ∈ madeL G ↔ ∃ g, G[j]? = some g ∧ takenG g = true := by
 unfold madeL
 rw [List.mem_filter, List.mem_range]
 constructor
 ·rintro ⟨h1, h2⟩
  rw [List.getElem?_eq_getElem h1] at h2 ⊢
  exact ⟨_, rfl, h2⟩
 ·rintro ⟨g, h1, h2⟩
  have hl := lt_of_some h1
  rw [h1]
  exact ⟨hl, h2⟩
theorem evOp_free (hF : CallsOK P F) (hib : ∀ f, D.ib f = true → extIB P f) (hst : St w0 M Z0 (resL s.heap G) (relF s G tv) w) (hm : MZ M Z0 w0) {o : Oper} {v : AV} {h' : List AObj} {Q : Exit → Act → World → Prop}
   (hl : lightB o = true) (hev : ∀ k', evOp P F D o s.ev [] 0 k' = k' v h') (hr : (refsA v).all (hasN · (refsOf s o)) = true) :
   o.wp P ⟨tv.toArray, []⟩ w (fun a' w' => ∃ G' tv', a' = ⟨tv'.toArray, []⟩ ∧ St w0 M Z0 (resL s.heap G') (relF (AS.put s o.dst v) G' tv') w' ∧ (∀ j : Nat, G[j]? = some GO.fresh → G'[j]? = some GO.fresh) ∧ Up G G') Q := by
 have hper := hst.per
 have hop : ∀ j ∈ refsOf s o, j ∈ madeL G := by
  intro j hj
  obtain ⟨x, _, hj⟩ := List.mem_flatMap.1 hj
  have hI : InvG w0 M Z0 s.heap.length G s tv w := ⟨hst, fun j h1 h2 => by rw [hper.2.1] at h1; omega, hm⟩
  exact mem_made.2 ((hI.ev x).refs j hj)
 have hheap : ∀ (h2 : List AObj), (∀ j : Nat, j ∈ madeL G → h2[j]? = s.heap[j]?) → ∀ j ∈ madeL G, ∀ i ∈ refsO h2[j]?, i ∈ madeL G := by
  intro h2 he j hj i hi
  rw [he j hj] at hi
  cases ho : s.heap[j]? with
  | none => rw [ho] at hi; simp [refsO] at hi
  | some ob =>
   rw [ho] at hi
   obtain ⟨g, hg, hro⟩ := hper.2.get ho
   cases ob with
   | cells l =>
    cases g with
    | cells bb T vs =>
     obtain ⟨x, hx, hi⟩ := List.mem_flatMap.1 hi
     obtain ⟨q, hq⟩ := List.getElem?_of_mem hx
     obtain ⟨y, _, hr⟩ := All2.get hro hq
     exact mem_made.2 (hr.1.refs i hi)
    | _ => exact hro.elim
   | arr e d ver fz => simp [refsO] at hi
   | dead => simp [refsO] at hi
 have honly : ∀ j ∈ madeL G, (onlyH (madeL G) 0 s.heap)[j]? = s.heap[j]? := by
  intro j hj
  rw [onlyH_get, Nat.zero_add, hasN_iff.2 hj]
  cases s.heap[j]? <;> rfl
 have hmix : mixH (madeL G) 0 s.heap (onlyH (madeL G) 0 s.heap) = s.heap := by
  refine List.ext_getElem? fun j => ?_
  cases hj : hasN j (madeL G) with
  | false => exact mixH_out (by rw [Nat.zero_add]; exact hj)
  | true => rw [mixH_in (by rw [Nat.zero_add]; exact hj) (onlyH_length _ _ _)]; exact honly j (hasN_iff.1 hj)
 have clos : ∀ (h2 : List AObj) (rf : List Nat), (∀ j ∈ rf, j ∈ madeL G) → (∀ j : Nat, j ∈ madeL G → h2[j]? = s.heap[j]?) → closB h2 (madeL G) rf = true := by
  intro h2 rf h1 he
  simp only [closB, Bool.and_eq_true, List.all_eq_true, hasN_iff]
  exact ⟨h1, hheap h2 he⟩
 have hrf : ∀ j ∈ refsA v, j ∈ madeL G := by
  intro j hj
  rw [List.all_eq_true] at hr
  exact hop j (hasN_iff.1 (hr j hj))
 have := evOp_masked (b := s.heap.length) (fp := madeL G) (h' := onlyH (madeL G) 0 s.heap) (v := v) (Q := Q) (P := P) (F := F) (D := D) (o := o) hF hib hst hm
  (fun j h1 h2 => by rw [nObj_light hl] at h2; omega) (by rw [nObj_light hl]; exact Nat.le_refl _)
  (fun j hj => by
   obtain ⟨g, hg, _⟩ := mem_made.1 hj
   have := lt_of_some hg
   have := hper.2.1
   omega)
  (clos _ _ hop fun _ _ => rfl)
  (fun k' => by rw [evOp_light hl, hev]) (clos _ _ hrf honly)
 rw [hmix] at this
 refine Oper.wp_mono (fun a' w' hh => ?_) this
 obtain ⟨G', tv', h1, h2, h3, h4⟩ := hh
 refine ⟨G', tv', h1, h2, fun j hj => ?_, h4⟩
 rw [h3 j ?_]; exact hj
 cases hh : hasN j (madeL G) with
 | false => rfl
 | true =>
  obtain ⟨g, hg, ht⟩ := mem_made.1 (hasN_iff.1 hh)
  rw [hj] at hg
  obtain rfl := Option.some.inj hg
  cases ht
end
end Go.Ab
namespace Go.Ab
open Go Go.Dk
structure Eff where
 want : Bool
 on : Bool
 fp : List Nat
 wr : List Nat
 b : Nat
 v : AV
 h : List AObj
def Eff.app (d : Option Tmp) (e : Eff) (s : AS) : AS := AS.put { s with heap := mixH e.wr 0 s.heap e.h } d e.v
def foldE : List (Oper × Eff) → Nat → (Nat → Bool) → AS → AS
 | [], _, _, s => s
 | x :: l, i, L, s => foldE l (i + 1) L (cond (L i) (x.2.app x.1.dst s) s)
theorem mixH_get (js : List Nat) : ∀ (h h' : List AObj) (i j : Nat), (mixH js i h h')[j]? = cond (hasN (i + j) js) (h[j]?.map fun o => h'[j]?.getD o) h[j]?
 | [], _, i, j => by simp [mixH]
 | o :: h, [], i, j => by
  have : (fun o : AObj => ([] : List AObj)[j]?.getD o) = id := by funext o; simp
  rw [this, mixH]
  ·cases hasN (i + j) js <;> simp
  ·simp
 | o :: h, o' :: h', i, 0 => by simp only [Nat.add_zero, mixH, List.getElem?_cons_zero, Option.map_some, Option.getD_some]; cases hasN i js <;> rfl
 | o :: h, o' :: h', i, j + 1 => by
  simp only [mixH, List.getElem?_cons_succ]
  rw [mixH_get js h h' (i + 1) j, show i + 1 + j = i + (j + 1) by omega]
theorem AS.ext {s t : AS} (h1 : s.tmps = t.tmps) (h2 : s.heap = t.heap) : s = t := by cases s; cases t; simp_all
theorem app_heap (d : Option Tmp) (e : Eff) (s : AS) : (e.app d s).heap = mixH e.wr 0 s.heap e.h := put_heap _ _ _
theorem app_tmps (d : Option Tmp) (e : Eff) (s : AS) : (e.app d s).tmps = (match d with | some d => s.tmps.set d e.v | none => s.tmps) := by cases d <;> rfl
def Free (d : Option Tmp) (e : Eff) (d' : Option Tmp) (e' : Eff) : Prop := (∀ q, d = some q → d' ≠ some q) ∧ ∀ j, j ∈ e.wr → j ∉ e'.wr
theorem app_comm {d d' : Option Tmp} {e e' : Eff} (h : Free d e d' e') (s : AS) : e.app d (e'.app d' s) = e'.app d' (e.app d s) := by
 refine AS.ext ?_ ?_
 ·simp only [app_tmps]
  cases d with
  | none => cases d' <;> rfl
  | some q => cases d' with
   | none => rfl
   | some q' => exact List.set_comm _ _ fun hq => h.1 q rfl (by rw [← hq])
 ·simp only [app_heap]
  refine List.ext_getElem? fun j => ?_
  simp only [mixH_get, Nat.zero_add]
  cases h1 : hasN j e.wr with
  | false => cases h2 : hasN j e'.wr <;> rfl
  | true => cases h2 : hasN j e'.wr with
   | false => rfl
   | true => exact absurd (hasN_iff.1 h2) (h.2 j (hasN_iff.1 h1))
theorem foldE_skip {L : Nat → Bool} : ∀ {l : List (Oper × Eff)} {i : Nat} {s : AS}, (∀ q, i ≤ q → L q = false) → foldE l i L s = s
 | [], _, _, _ => rfl
 | x :: l, i, s, h => by simp only [foldE, h i (Nat.le_refl i), cond_false]; exact foldE_skip fun q hq => h q (by omega)
theorem foldE_congr {L L' : Nat → Bool} : ∀ {l : List (Oper × Eff)} {i : Nat} {s : AS}, (∀ q, i ≤ q → q < i + l.length → L q = L' q) → foldE l i L s = foldE l i L' s
 | [], _, _, _ => rfl
 | x :: l, i, s, h => by
  simp only [foldE, h i (Nat.le_refl i) (by simp)]
  exact foldE_congr fun q hq hl => h q (by omega) (by simp only [List.length_cons]; omega)
theorem foldE_len {L : Nat → Bool} : ∀ {l : List (Oper × Eff)} {i : Nat} {s : AS}, (foldE l i L s).heap.length = s.heap.length
 | [], _, _ => rfl
 | x :: l, i, s => by
  simp only [foldE]; rw [foldE_len]
  cases L i with
  | false => rfl
  | true => rw [cond_true, app_heap, mixH_length]
theorem foldE_comm {L : Nat → Bool} {d : Option Tmp} {e : Eff} : ∀ {l : List (Oper × Eff)} {i : Nat} {s : AS},
   (∀ q x, l[q]? = some x → L (i + q) = true → Free d e x.1.dst x.2) → foldE l i L (e.app d s) = e.app d (foldE l i L s)
 | [], _, _, _ => rfl
 | x :: l, i, s, h => by
  simp only [foldE]
  have h' : ∀ q y, l[q]? = some y → L (i + 1 + q) = true → Free d e y.1.dst y.2 := fun q y hy hL => h (q + 1) y (by simpa using hy) (by rw [show i + (q + 1) = i + 1 + q by omega]; exact hL)
  cases hL : L i with
  | false => exact foldE_comm h'
  | true =>
   simp only [cond_true]
   rw [← app_comm (h 0 x rfl hL), foldE_comm h']
theorem foldE_add {L : Nat → Bool} {o : Oper} {e : Eff} : ∀ {l : List (Oper × Eff)} {i p : Nat} {s : AS}, l[p]? = some (o, e) → L (i + p) = false →
   (∀ q x, p < q → l[q]? = some x → L (i + q) = true → Free o.dst e x.1.dst x.2) → foldE l i (fun q => L q || Nat.beq q (i + p)) s = e.app o.dst (foldE l i L s)
 | [], _, _, _, h, _, _ => by simp at h
 | x :: l, i, 0, s, h, hL, hf => by
  simp only [List.getElem?_cons_zero, Option.some.injEq] at h
  subst h
  simp only [Nat.add_zero] at hL
  simp only [foldE, Nat.add_zero, hL, Nat.beq_refl, Bool.or_true, cond_true, cond_false]
  rw [← foldE_comm fun q x hx hLq => hf (q + 1) x (by omega) (by simpa using hx) (by rw [show i + (q + 1) = i + 1 + q by omega]; exact hLq)]
  refine foldE_congr fun q hq _ => ?_
  have : Nat.beq q i = false := by cases hb : Nat.beq q i with | false => rfl | true => simp only [Nat.beq_eq] at hb; omega
  simp [this]
 | x :: l, i, p + 1, s, h, hL, hf => by
  have hb : Nat.beq i (i + (p + 1)) = false := by cases hb : Nat.beq i (i + (p + 1)) with | false => rfl | true => simp only [Nat.beq_eq] at hb; omega
  simp only [foldE, hb, Bool.or_false]
  have he : i + (p + 1) = i + 1 + p := by omega
  rw [he]
  exact foldE_add (by simpa using h) (by rw [← he]; exact hL) fun q x hq hx hLq => hf (q + 1) x (by omega) (by simpa using hx) (by rw [show i + (q + 1) = i + 1 + q by omega]; exact hLq)
theorem foldE_heap {L L' : Nat → Bool} {j : Nat} : ∀ {l : List (Oper × Eff)} {i : Nat} {s s' : AS}, s.heap[j]? = s'.heap[j]? →
   (∀ q x, l[q]? = some x → L (i + q) ≠ L' (i + q) → j ∉ x.2.wr) → (foldE l i L s).heap[j]? = (foldE l i L' s').heap[j]?
 | [], _, _, _, hs, _ => hs
 | x :: l, i, s, s', hs, h => by
  simp only [foldE]
  refine foldE_heap ?_ fun q y hy hne => h (q + 1) y (by simpa using hy) (by rw [show i + (q + 1) = i + 1 + q by omega]; exact hne)
  have hap : ∀ t : AS, j ∉ x.2.wr → (x.2.app x.1.dst t).heap[j]? = t.heap[j]? := fun t hj => by
   rw [app_heap]; exact mixH_out (by cases hh : hasN (0 + j) x.2.wr with | false => rfl | true => rw [Nat.zero_add] at hh; exact absurd (hasN_iff.1 hh) hj)
  cases h1 : L i <;> cases h2 : L' i <;> simp only [cond_true, cond_false]
  ·exact hs
  ·rw [hap _ (h 0 x rfl (by simp [h1, h2]))]; exact hs
  ·rw [hap _ (h 0 x rfl (by simp [h1, h2]))]; exact hs
  ·simp only [app_heap, mixH_get, hs]
theorem foldE_tmps {L L' : Nat → Bool} {t : Nat} : ∀ {l : List (Oper × Eff)} {i : Nat} {s s' : AS}, s.tmps[t]? = s'.tmps[t]? →
   (∀ q x, l[q]? = some x → L (i + q) ≠ L' (i + q) → x.1.dst ≠ some t) → (foldE l i L s).tmps[t]? = (foldE l i L' s').tmps[t]?
 | [], _, _, _, hs, _ => hs
 | x :: l, i, s, s', hs, h => by
  simp only [foldE]
  refine foldE_tmps ?_ fun q y hy hne => h (q + 1) y (by simpa using hy) (by rw [show i + (q + 1) = i + 1 + q by omega]; exact hne)
  have hap : ∀ u : AS, x.1.dst ≠ some t → (x.2.app x.1.dst u).tmps[t]? = u.tmps[t]? := fun u hj => by
   rw [app_tmps]
   split
   ·rename_i d hd; rw [List.getElem?_set_ne (fun e => hj (by rw [hd]; exact congrArg some e))]
   ·rfl
  have hap2 : (x.2.app x.1.dst s).tmps[t]? = (x.2.app x.1.dst s').tmps[t]? := by
   rw [app_tmps, app_tmps]
   split
   ·rename_i d hd
    by_cases hdt : d = t
    ·subst hdt
     rw [List.getElem?_set_self', List.getElem?_set_self', hs]
    ·rw [List.getElem?_set_ne hdt, List.getElem?_set_ne hdt]; exact hs
   ·exact hs
  cases h1 : L i <;> cases h2 : L' i <;> simp only [cond_true, cond_false]
  ·exact hs
  ·rw [hap _ (h 0 x rfl (by simp [h1, h2]))]; exact hs
  ·rw [hap _ (h 0 x rfl (by simp [h1, h2]))]; exact hs
  ·exact hap2
def Guard (ops : List Oper) (o : Oper) (s : AS) (on : Bool) : Prop :=
 match o.guard with
 | none => on = true
 | some (j, want) => ∃ d, ops[j]?.bind (·.dst) = some d ∧ ((∃ bb, s.tmps[d]? = some (boolV bb) ∧ on = (bb == want)) ∨ (s.tmps[d]? = some undV ∧ on = false))
theorem wantK_out {ops : List Oper} {o : Oper} {s : AS} {yes no : AS → OR} {r : List V1 × List AObj} (h : wantK ops s o.guard yes no = some r) :
   ∃ on, Guard ops o s on ∧ (on = true → yes s = some r) ∧ (on = false → no s = some r) := by
 unfold wantK at h
 unfold Guard
 split at h
 ·rename_i hg; exact ⟨true, by rw [hg], fun _ => h, nofun⟩
 ·rename_i j want hg
  rw [hg]
  split at h
  ·rename_i d hd
   split at h
   ·rename_i bb hb
    have hdl : s.tmps[d]? = some (.v (.one (.bool bb))) := by
     cases hs : s.tmps[d]? with
     | none => simp [List.getD, hs, anyV] at hb
     | some v => simp [List.getD, hs] at hb; rw [hb]
    have hput : ∀ c, c = bb → s.put (some d) (boolV c) = s := by
     rintro c rfl
     show AS.mk (s.tmps.set d _) s.heap = s
     have : s.tmps.set d (boolV c) = s.tmps := set_same hdl
     rw [this]
    refine ⟨bb == want, ⟨d, hd, .inl ⟨bb, hdl, rfl⟩⟩, ?_, ?_⟩
    ·cases bb <;> cases want <;> simp only [cond_true, cond_false] at h <;> intro he <;> first | (cases he; done) | (rw [hput _ rfl] at h; exact h)
    ·cases bb <;> cases want <;> simp only [cond_true, cond_false] at h <;> intro he <;> first | (cases he; done) | (rw [hput _ rfl] at h; exact h)
   ·rename_i hb
    have hdl : s.tmps[d]? = some undV := by
     cases hs : s.tmps[d]? with
     | none => simp [List.getD, hs, anyV] at hb
     | some v => simp [List.getD, hs] at hb; rw [hb]; rfl
    exact ⟨false, ⟨d, hd, .inr ⟨hdl, rfl⟩⟩, nofun, fun _ => h⟩
   ·cases h
  ·cases h
def StepOk (P : Program) (F : Callee) (D : Dec) (ops : List Oper) (o : Oper) (e : Eff) (s : AS) : Prop :=
 Guard ops o s e.want ∧
 (e.on = true → e.want = true ∧ e.wr = writes o e.fp e.b (nObj P D o) ∧ (∀ j, e.b ≤ j → j < e.b + nObj P D o → j ∈ e.fp) ∧ (∀ j ∈ e.fp, j < e.b + nObj P D o) ∧
  closB s.heap e.fp (refsOf s o) = true ∧ (∀ k', evOp P F D o s.ev (onlyH e.fp 0 s.heap) e.b k' = k' e.v e.h) ∧ closB e.h e.fp (refsA e.v) = true) ∧
 (e.on = false → e.wr = [] ∧ (e.want = false → e.v = undV) ∧ (e.want = true → lightB o = true ∧ (refsA e.v).all (hasN · (refsOf s o)) = true ∧ ∃ h', ∀ k', evOp P F D o s.ev [] 0 k' = k' e.v h'))
theorem mixH_nil : ∀ (i : Nat) (h h' : List AObj), mixH [] i h h' = h
 | _, [], _ => by simp [mixH]
 | _, _ :: _, [] => by simp [mixH]
 | i, o :: h, o' :: h' => by simp only [mixH, hasN, cond_false, mixH_nil (i + 1) h h']
theorem evDr_trace {P : Program} {F : Callee} {D : Dec} {ops : List Oper} {an : List (List Nat)} {k : AS → OR} {r : List V1 × List AObj} : ∀ {l : List Oper} {i : Nat} {ds : List Done} {b : Nat} {s : AS},
   evDr P F D ops an l i ds b s k = some r → ∃ es : List Eff, es.length = l.length ∧ k (foldE (l.zip es) i (fun _ => true) s) = some r ∧
    (∀ p o e, (l.zip es)[p]? = some (o, e) → e.b = b + room P D (l.take p) ∧ StepOk P F D ops o e (foldE (l.zip es) i (fun q => Nat.blt q (i + p)) s)) ∧
    (∀ p o e, (l.zip es)[p]? = some (o, e) → e.on = true → ∀ d ∈ ds, okDone (an.getD (i + p) []) e.fp e.wr d = true) ∧
    (∀ p q o e o' e', p < q → (l.zip es)[p]? = some (o, e) → (l.zip es)[q]? = some (o', e') → e.on = true → e'.on = true → okDone (an.getD (i + q) []) e'.fp e'.wr ⟨i + p, e.fp, e.wr⟩ = true)
 | [], i, ds, b, s, h => ⟨[], rfl, h, fun p o e hp => by simp at hp, fun p o e hp => by simp at hp, fun p q o e o' e' _ hp => by simp at hp⟩
 | o :: l, i, ds, b, s, h => by
  unfold evDr at h
  obtain ⟨on, hg, h1, h2⟩ := wantK_out h
  -- what is left, behind the first
  have rest : ∀ (e : Eff) (ds' : List Done), e.b = b → StepOk P F D ops o e s → (∀ d ∈ ds, d ∈ ds') → (e.on = true → (∀ d ∈ ds, okDone (an.getD i []) e.fp e.wr d = true) ∧ (⟨i, e.fp, e.wr⟩ : Done) ∈ ds') →
     evDr P F D ops an l (i + 1) ds' (b + nObj P D o) (e.app o.dst s) k = some r → ∃ es : List Eff, es.length = (o :: l).length ∧ k (foldE ((o :: l).zip es) i (fun _ => true) s) = some r ∧
   (∀ p o' e, ((o :: l).zip es)[p]? = some (o', e) → e.b = b + room P D ((o :: l).take p) ∧ StepOk P F D ops o' e (foldE ((o :: l).zip es) i (fun q => Nat.blt q (i + p)) s)) ∧
   (∀ p o' e, ((o :: l).zip es)[p]? = some (o', e) → e.on = true → ∀ d ∈ ds, okDone (an.getD (i + p) []) e.fp e.wr d = true) ∧
   (∀ p q o1 e o' e', p < q → ((o :: l).zip es)[p]? = some (o1, e) → ((o :: l).zip es)[q]? = some (o', e') → e.on = true → e'.on = true → okDone (an.getD (i + q) []) e'.fp e'.wr ⟨i + p, e.fp, e.wr⟩ = true) := by
   intro e ds' heb hst hds hok hrun
   obtain ⟨es, a1, a2, a3, a4, a5⟩ := evDr_trace hrun
   refine ⟨e :: es, by simp [a1], ?_, ?_, ?_, ?_⟩
   ·simpa only [List.zip_cons_cons, foldE, cond_true] using a2
   ·intro p o' e' hp
    cases p with
    | zero =>
     simp only [List.zip_cons_cons, List.getElem?_cons_zero, Option.some.injEq, Prod.mk.injEq] at hp
     obtain ⟨rfl, rfl⟩ := hp
     refine ⟨by simp [heb, room], ?_⟩
     rw [foldE_skip]
     ·exact hst
     ·intro q hq
      cases hb : Nat.blt q (i + 0) with
      | false => rfl
      | true => rw [Nat.blt_eq] at hb; omega
    | succ p =>
     simp only [List.zip_cons_cons, List.getElem?_cons_succ] at hp
     obtain ⟨c1, c2⟩ := a3 p o' e' hp
     refine ⟨by rw [c1]; simp only [List.take_succ_cons, room]; omega, ?_⟩
     have hbl : Nat.blt i (i + (p + 1)) = true := by rw [Nat.blt_eq]; omega
     simp only [List.zip_cons_cons, foldE, hbl, cond_true]
     rw [show i + (p + 1) = i + 1 + p by omega]; exact c2
   ·intro p o' e' hp hon' d hd
    cases p with
    | zero =>
     simp only [List.zip_cons_cons, List.getElem?_cons_zero, Option.some.injEq, Prod.mk.injEq] at hp
     obtain ⟨rfl, rfl⟩ := hp
     exact (hok hon').1 d hd
    | succ p =>
     simp only [List.zip_cons_cons, List.getElem?_cons_succ] at hp
     have := a4 p o' e' hp hon' d (hds d hd)
     rw [show i + (p + 1) = i + 1 + p by omega]; exact this
   ·intro p q o1 e1 o' e' hpq hp hq hon1 hon'
    cases q with
    | zero => omega
    | succ q =>
     simp only [List.zip_cons_cons, List.getElem?_cons_succ] at hq
     rw [show i + (q + 1) = i + 1 + q by omega]
     cases p with
     | zero =>
      simp only [List.zip_cons_cons, List.getElem?_cons_zero, Option.some.injEq, Prod.mk.injEq] at hp
      obtain ⟨rfl, rfl⟩ := hp
      exact a4 q o' e' hq hon' _ (hok hon1).2
     | succ p =>
      simp only [List.zip_cons_cons, List.getElem?_cons_succ] at hp
      have := a5 p q o1 e1 o' e' (by omega) hp hq hon1 hon'
      rw [show i + (p + 1) = i + 1 + p by omega]; exact this
  cases on with
  | false =>
   have h := h2 rfl
   refine rest ⟨false, false, [], [], b, undV, []⟩ ds rfl ⟨hg, nofun, fun _ => ⟨rfl, fun _ => rfl, nofun⟩⟩ (fun d hd => hd) nofun ?_
   unfold Eff.app
   simp only [mixH_nil]
   exact h
  | true =>
   have h := h1 rfl
   simp only at h
   rcases cond_some h with ⟨hl, h⟩ | ⟨_, h⟩
   ·obtain ⟨v, h', h, hk⟩ := evOp_N P F D o s.ev _ _ _ _ h
    obtain ⟨hr, h⟩ := cond_left h
    refine rest ⟨true, false, [], [], b, v, []⟩ ds rfl ⟨hg, nofun, fun _ => ⟨rfl, nofun, fun _ => ⟨hl, hr, h', hk⟩⟩⟩ (fun d hd => hd) nofun ?_
    unfold Eff.app
    simp only [mixH_nil]
    exact h
   obtain ⟨hc, h⟩ := cond_left h
   simp only [Bool.and_eq_true, List.all_eq_true, Nat.blt_eq] at hc
   obtain ⟨hc1, hc2, hc3⟩ := hc
   obtain ⟨v, h', h, hk⟩ := evOp_N P F D o s.ev _ b _ _ h
   obtain ⟨hcl, h⟩ := cond_left h
   refine rest ⟨true, true, _, _, b, v, h'⟩ _ rfl ⟨hg, fun _ => ⟨rfl, rfl, fun j hj hl => ?_, fun j hj => ?_, hc1, hk, hcl⟩, nofun⟩ (fun d hd => List.mem_cons_of_mem _ hd) (fun _ => ⟨hc3, List.mem_cons_self ..⟩) h
   ·exact List.mem_append.2 (.inr (by rw [List.mem_range'_1]; exact ⟨hj, hl⟩))
   ·rcases List.mem_append.1 hj with hj | hj
    ·exact Nat.lt_of_lt_of_le (hc2 j hj) (Nat.le_add_right _ _)
    ·rw [List.mem_range'_1] at hj; exact hj.2
end Go.Ab
namespace Go.Ab
open Go Go.Dk
theorem meets_out {a b : List Nat} (h : meets a b = false) {j : Nat} (hj : j ∈ a) : j ∉ b := fun hb => by
 simp only [meets, List.any_eq_false] at h
 exact h j hj (hasN_iff.2 hb)
theorem earlierB_out {ops : List Oper} {anc : List Nat} {i : Nat} {o : Oper} : ∀ {l : List Oper} {k : Nat}, earlierB ops anc i o l k = true → ∀ p x, l[p]? = some x → k + p < i → hasN (k + p) anc = true ∨ apartT ops x o = true
 | [], k, h, p, x, hx, hp => by simp at hx
 | y :: l, k, h, p, x, hx, hp => by
  unfold earlierB at h
  have : Nat.blt k i = true := by rw [Nat.blt_eq]; omega
  rw [this, cond_true, Bool.and_eq_true, Bool.or_eq_true] at h
  cases p with
  | zero => simp only [List.getElem?_cons_zero, Option.some.injEq] at hx; subst hx; exact h.1
  | succ p =>
   have := earlierB_out h.2 p x (by simpa using hx) (by omega)
   rw [show k + (p + 1) = k + 1 + p by omega]; exact this
theorem drawB_out {ops : List Oper} {an : List (List Nat)} : ∀ {l : List Oper} {i : Nat}, drawB ops an l i = true → ∀ p o, l[p]? = some o → plainB o = true ∧ edgesB an (i + p) o = true ∧ earlierB ops (an.getD (i + p) []) (i + p) o ops 0 = true
 | [], i, h, p, o, ho => by simp at ho
 | y :: l, i, h, p, o, ho => by
  unfold drawB at h
  simp only [Bool.and_eq_true] at h
  cases p with
  | zero => simp only [List.getElem?_cons_zero, Option.some.injEq] at ho; subst ho; exact ⟨h.1, h.2.1, h.2.2.1⟩
  | succ p =>
   have := drawB_out h.2.2.2 p o (by simpa using ho)
   rw [show i + (p + 1) = i + 1 + p by omega]; exact this
theorem edgesB_out {an : List (List Nat)} {i : Nat} {o : Oper} (h : edgesB an i o = true) : (∀ e ∈ o.after, Region.binds .any e = true → e.on < i) ∧
   ∀ a ∈ an.getD i [], ∃ e ∈ o.after, Region.binds .any e = true ∧ (a = e.on ∨ a ∈ an.getD e.on []) := by
 simp only [edgesB, Bool.and_eq_true, List.all_eq_true, List.any_eq_true, Bool.or_eq_true, Nat.beq_eq, hasN_iff] at h
 refine ⟨fun e he hb => ?_, fun a ha => ?_⟩
 ·have := h.1 e (by simpa using he)
  rw [hb, cond_true, Nat.blt_eq] at this; exact this
 ·obtain ⟨e, he, hb, hh⟩ := h.2 a ha
  exact ⟨e, by simpa using he, hb, hh⟩
theorem apartT_out {ops : List Oper} {x y : Oper} (h : apartT ops x y = true) : (∀ d, x.dst = some d → d ∉ looksT ops y) ∧ (∀ d, x.dst = some d → y.dst ≠ some d) ∧ (∀ d, y.dst = some d → d ∉ looksT ops x) := by
 simp only [apartT, Bool.and_eq_true, Bool.not_eq_true'] at h
 refine ⟨fun d hd => meets_out h.1 (by simp [dstL, hd]), fun d hd he => ?_, fun d hd => meets_out h.2.2 (by simp [dstL, hd])⟩
 exact meets_out h.2.1 (j := d) (by simp [dstL, hd]) (by simp [dstL, he])
theorem room_take {P : Program} {D : Dec} : ∀ {l : List Oper} {p : Nat} {o : Oper}, l[p]? = some o → ∀ q, p < q → room P D (l.take p) + nObj P D o ≤ room P D (l.take q)
 | [], p, o, h, q, hq => by simp at h
 | x :: l, 0, o, h, q + 1, hq => by
  simp only [List.getElem?_cons_zero, Option.some.injEq] at h; subst h
  simp only [List.take_zero, room, List.take_succ_cons]; omega
 | x :: l, p + 1, o, h, q + 1, hq => by
  have := room_take (P := P) (D := D) (l := l) (p := p) (by simpa using h) q (by omega)
  simp only [List.take_succ_cons, room]; omega
theorem room_le {P : Program} {D : Dec} : ∀ {l : List Oper} {p : Nat} {o : Oper}, l[p]? = some o → room P D (l.take p) + nObj P D o ≤ room P D l
 | l, p, o, h => by
  have hp : p < l.length := by
   rcases Nat.lt_or_ge p l.length with h' | h'
   ·exact h'
   ·rw [List.getElem?_eq_none h'] at h; cases h
  have := room_take (P := P) (D := D) h l.length hp
  rwa [List.take_length] at this
theorem wr_sub {P : Program} {D : Dec} {o : Oper} {fp : List Nat} {b : Nat} (h : ∀ j, b ≤ j → j < b + nObj P D o → j ∈ fp) : ∀ j ∈ writes o fp b (nObj P D o), j ∈ fp := by
 intro j hj
 unfold writes at hj
 rcases List.mem_append.1 hj with hj | hj
 ·split at hj
  ·exact hj
  ·exact hj
  ·exact hj
  ·split at hj
   ·exact hj
   ·cases hj
   ·exact hj
  ·cases hj
 ·rw [List.mem_range'_1] at hj; exact h j hj.1 hj.2
theorem slots_wr {P : Program} {D : Dec} {o : Oper} {fp : List Nat} {b j : Nat} (h1 : b ≤ j) (h2 : j < b + nObj P D o) : j ∈ writes o fp b (nObj P D o) :=
 List.mem_append.2 (.inr (by rw [List.mem_range'_1]; exact ⟨h1, h2⟩))
section
variable {P : Program} {F : Callee} {D : Dec} {w0 : World} {M Z0 : Zone} {ops : List Oper} {an : List (List Nat)} {k : AS → OR} {r : List V1 × List AObj} {s0 : AS} {es : List Eff} {b0 : Nat} {G0 : List GO} {Q : Exit → Act → World → Prop}
structure Trace (P : Program) (F : Callee) (D : Dec) (ops : List Oper) (an : List (List Nat)) (b0 : Nat) (s0 : AS) (es : List Eff) : Prop where
 len : es.length = ops.length
 step : ∀ p o e, (ops.zip es)[p]? = some (o, e) → e.b = b0 + room P D (ops.take p) ∧ StepOk P F D ops o e (foldE (ops.zip es) 0 (fun q => Nat.blt q p) s0)
 ok : ∀ p q o e o' e', p < q → (ops.zip es)[p]? = some (o, e) → (ops.zip es)[q]? = some (o', e') → e.on = true → e'.on = true → okDone (an.getD q []) e'.fp e'.wr ⟨p, e.fp, e.wr⟩ = true
structure Here (P : Program) (D : Dec) (w0 : World) (M Z0 : Zone) (ops : List Oper) (an : List (List Nat)) (s0 : AS) (es : List Eff) (G0 : List GO) (L : Nat → Bool) (G : List GO) (tv : List Value) (w : World) : Prop where
 st : St w0 M Z0 (resL (foldE (ops.zip es) 0 L s0).heap G) (relF (foldE (ops.zip es) 0 L s0) G tv) w
 mz : MZ M Z0 w0
 fresh : ∀ p o e, (ops.zip es)[p]? = some (o, e) → e.on = true → L p = false → ∀ j, e.b ≤ j → j < e.b + nObj P D o → G[j]? = some .fresh
 down : ∀ p, L p = true → ∀ a ∈ an.getD p [], L a = true
 up : Up G0 G
theorem zip_fst {p : Nat} {o : Oper} {e : Eff} (h : (ops.zip es)[p]? = some (o, e)) : ops[p]? = some o ∧ es[p]? = some e := by
 rw [List.getElem?_zip_eq_some] at h; exact h
theorem zip_some (hl : es.length = ops.length) {p : Nat} {o : Oper} (h : ops[p]? = some o) : ∃ e, (ops.zip es)[p]? = some (o, e) := by
 have hp : p < es.length := by
  rw [hl]
  rcases Nat.lt_or_ge p ops.length with h' | h'
  ·exact h'
  ·rw [List.getElem?_eq_none h'] at h; cases h
 exact ⟨es[p], by rw [List.getElem?_zip_eq_some]; exact ⟨h, List.getElem?_eq_getElem hp⟩⟩
theorem Here.step (hF : CallsOK P F) (hib : ∀ f, D.ib f = true → extIB P f) (hd : drawB ops an ops 0 = true) (ht : Trace P F D ops an b0 s0 es) (hroom : b0 + room P D ops ≤ s0.heap.length)
   {L : Nat → Bool} {G : List GO} {tv : List Value} {w : World} (hh : Here P D w0 M Z0 ops an s0 es G0 L G tv w) {i : Nat} {o : Oper} (hi : ops[i]? = some o) (hL : L i = false) (hanc : ∀ e ∈ o.after, Region.binds .any e = true → L e.on = true) :
   wpOp P ops.toArray Q i (fun a' w' => ∃ G' tv', a' = ⟨tv'.toArray, []⟩ ∧ Here P D w0 M Z0 ops an s0 es G0 (fun q => L q || Nat.beq q i) G' tv' w') ⟨tv.toArray, []⟩ w := by
 obtain ⟨e, he⟩ := zip_some ht.len hi
 obtain ⟨heb, hguard, hon, hoff⟩ := ht.step i o e he
 have hstat := fun p x (hp : ops[p]? = some x) => by have := drawB_out hd p x hp; rw [Nat.zero_add] at this; exact this
 have hancL : ∀ a ∈ an.getD i [], L a = true := by
  intro a ha
  obtain ⟨ed, hed, hb, h⟩ := (edgesB_out (hstat i o hi).2.1).2 a ha
  rcases h with rfl | h
  ·exact hanc ed hed hb
  ·exact hh.down _ (hanc ed hed hb) a h
 -- two of them, one ahead of the other in the text
 have hpair : ∀ (p q : Nat) (x y : Oper), p < q → ops[p]? = some x → ops[q]? = some y → p ∈ an.getD q [] ∨ apartT ops x y = true := by
  intro p q x y hpq hp hq
  have := earlierB_out (hstat q y hq).2.2 p x hp (by omega)
  rw [Nat.zero_add] at this
  exact this.imp hasN_iff.1 id
 have hwrOff : ∀ (p : Nat) (x : Oper) (y : Eff), (ops.zip es)[p]? = some (x, y) → y.on = false → y.wr = [] := fun p x y hp hy => ((ht.step p x y hp).2.2.2 hy).1
 have hwrfp : ∀ (p : Nat) (x : Oper) (y : Eff), (ops.zip es)[p]? = some (x, y) → y.on = true → ∀ j ∈ y.wr, j ∈ y.fp := by
  intro p x y hp hy
  obtain ⟨_, c1, c2, _⟩ := (ht.step p x y hp).2.2.1 hy
  rw [c1]; exact wr_sub c2
 -- whom it does not meet
 have hfar : ∀ (p : Nat) (x : Oper) (y : Eff), (ops.zip es)[p]? = some (x, y) → p ≠ i → L p = decide (i < p) →
    (∀ d, x.dst = some d → d ∉ looksT ops o) ∧ (∀ d, o.dst = some d → x.dst ≠ some d) ∧ (y.on = true → e.on = true → (∀ j ∈ y.wr, j ∉ e.fp) ∧ ∀ j ∈ e.wr, j ∉ y.fp) := by
  intro p x y hp hne hLp
  obtain ⟨hpo, _⟩ := zip_fst hp
  rcases Nat.lt_or_gt_of_ne hne with hlt | hgt
  ·have hLf : L p = false := by rw [hLp]; simp; omega
   have hna : p ∉ an.getD i [] := fun ha => by rw [hancL p ha] at hLf; cases hLf
   have hap := apartT_out ((hpair p i x o hlt hpo hi).resolve_left hna)
   refine ⟨hap.1, fun d hd hx => hap.2.1 d hx hd, fun h1 h2 => ?_⟩
   have := ht.ok p i x y o e hlt hp he h1 h2
   simp only [okDone, Bool.or_eq_true, Bool.and_eq_true, Bool.not_eq_true'] at this
   obtain ⟨c1, c2⟩ := this.resolve_left fun hm => hna (hasN_iff.1 hm)
   exact ⟨fun j hj => meets_out c1 hj, fun j hj => meets_out c2 hj⟩
  ·have hLt : L p = true := by rw [hLp]; simp; omega
   have hna : i ∉ an.getD p [] := fun ha => by rw [hh.down p hLt i ha] at hL; cases hL
   have hap := apartT_out ((hpair i p o x hgt hi hpo).resolve_left hna)
   refine ⟨hap.2.2, hap.2.1, fun h1 h2 => ?_⟩
   have := ht.ok i p o e x y hgt he hp h2 h1
   simp only [okDone, Bool.or_eq_true, Bool.and_eq_true, Bool.not_eq_true'] at this
   obtain ⟨c1, c2⟩ := this.resolve_left fun hm => hna (hasN_iff.1 hm)
   exact ⟨fun j hj => meets_out c2 hj, fun j hj => meets_out c1 hj⟩
 have hdiff : ∀ (p : Nat) (x : Oper) (y : Eff), (ops.zip es)[p]? = some (x, y) → Nat.blt p i ≠ L p → p ≠ i ∧ L p = decide (i < p) := by
  intro p x y hp hne
  have hpi : p ≠ i := fun h => by
   subst h
   apply hne; rw [hL]
   cases hb : Nat.blt p p with | false => rfl | true => rw [Nat.blt_eq] at hb; omega
  refine ⟨hpi, ?_⟩
  rcases Nat.lt_or_gt_of_ne hpi with hlt | hgt
  ·have : Nat.blt p i = true := by rw [Nat.blt_eq]; exact hlt
   rw [this] at hne
   have : L p = false := by cases hLp : L p with | false => rfl | true => exact absurd hLp.symm hne
   rw [this]; symm; simp; omega
  ·have : Nat.blt p i = false := by cases hb : Nat.blt p i with | false => rfl | true => rw [Nat.blt_eq] at hb; omega
   rw [this] at hne
   have : L p = true := by cases hLp : L p with | true => rfl | false => exact absurd hLp.symm hne
   rw [this]; symm; simp; omega
 generalize hS : foldE (ops.zip es) 0 L s0 = S
 generalize hT : foldE (ops.zip es) 0 (fun q => Nat.blt q i) s0 = T at hguard hon hoff
 have hst := hh.st
 rw [hS] at hst
 have hlenS : S.heap.length = s0.heap.length := by rw [← hS]; exact foldE_len
 have hlenT : T.heap.length = s0.heap.length := by rw [← hT]; exact foldE_len
 have htm : ∀ t ∈ looksT ops o, T.tmps[t]? = S.tmps[t]? := by
  intro t htl
  rw [← hS, ← hT]
  refine foldE_tmps rfl fun q x hx hne hd => ?_
  rw [Nat.zero_add] at hne
  obtain ⟨h1, h2⟩ := hdiff q x.1 x.2 hx hne
  exact (hfar q x.1 x.2 hx h1 h2).1 t hd htl
 have hheap : e.on = true → ∀ j ∈ e.fp, T.heap[j]? = S.heap[j]? := by
  intro hone j hj
  rw [← hS, ← hT]
  refine foldE_heap rfl fun q x hx hne hw => ?_
  rw [Nat.zero_add] at hne
  obtain ⟨h1, h2⟩ := hdiff q x.1 x.2 hx hne
  cases hxo : x.2.on with
  | false => rw [hwrOff q x.1 x.2 hx hxo] at hw; cases hw
  | true => exact ((hfar q x.1 x.2 hx h1 h2).2.2 hxo hone).1 j hw hj
 have hadd : foldE (ops.zip es) 0 (fun q => L q || Nat.beq q i) s0 = e.app o.dst S := by
  have := foldE_add (L := L) (l := ops.zip es) (i := 0) (p := i) (s := s0) he (by rw [Nat.zero_add]; exact hL) (fun q x hq hx hLq => by
   rw [Nat.zero_add] at hLq
   have h2 := hfar q x.1 x.2 hx (by omega) (by rw [hLq]; symm; simpa using hq)
   refine ⟨h2.2.1, fun j hj hj' => ?_⟩
   cases hxo : x.2.on with
   | false => rw [hwrOff q x.1 x.2 hx hxo] at hj'; cases hj'
   | true => cases heo : e.on with
    | false => rw [hwrOff i o e he heo] at hj; cases hj
    | true => exact (h2.2.2 hxo heo).2 j hj (hwrfp q x.1 x.2 hx hxo j hj'))
  rw [hS] at this
  rw [← this]
  simp only [Nat.zero_add]
 have hdown : ∀ p, (fun q => L q || Nat.beq q i) p = true → ∀ a ∈ an.getD p [], (fun q => L q || Nat.beq q i) a = true := by
  intro p hp a ha
  simp only [Bool.or_eq_true, Nat.beq_eq] at hp ⊢
  rcases hp with hp | rfl
  ·exact .inl (hh.down p hp a ha)
  ·exact .inl (hancL a ha)
 -- is it carried out?
 have hwant : Region.wanted o (yielded ops.toArray tv.toArray) = e.want := by
  unfold Guard at hguard
  split at hguard
  ·rename_i hg; rw [hguard]; simp [Region.wanted, hg]
  ·rename_i j want hg
   obtain ⟨d, hdd, hguard⟩ := hguard
   have hdS : ∀ v, T.tmps[d]? = some v → S.tmps[d]? = some v := fun v hv => by
    rw [← htm d ?_]; exact hv
    unfold looksT
    refine List.mem_append.2 (.inr ?_)
    simp [hg, hdd]
   have hd' : (ops.toArray[j]?).bind (·.dst) = some d := by simpa using hdd
   rcases hguard with ⟨bb, hdt, hon'⟩ | ⟨hdt, hon'⟩
   ·obtain ⟨X, hX, hr⟩ := hst.per.1.get (hdS _ hdt)
    have hX' := bool_inv hr
    subst hX'
    have hy : yielded ops.toArray tv.toArray j = some bb := by
     simp only [yielded, hd', Option.bind_some]
     have : tv.toArray[d]? = some (.bool bb) := by simpa using hX
     rw [this]
    rw [hon']
    simp only [Region.wanted, hg, hy]; rfl
   ·obtain ⟨X, hX, xs, hXe, hr⟩ := hst.per.1.get (hdS _ hdt)
    obtain rfl := hr.nil_inv
    subst hXe
    have hy : yielded ops.toArray tv.toArray j = none := by
     simp only [yielded, hd', Option.bind_some]
     have : tv.toArray[d]? = some (.tuple #[]) := by simpa using hX
     rw [this]
    rw [hon']
    simp only [Region.wanted, hg, hy]; rfl
 unfold wpOp
 have hi' : ops.toArray[i]? = some o := by simpa using hi
 rw [hi']
 simp only [hwant]
 have hevx : ∀ x ∈ o.op.operands, T.ev x = S.ev x := by
  intro x hx
  cases x with
  | tmp t =>
   show T.tmps.getD t anyV = S.tmps.getD t anyV
   have : t ∈ looksT ops o := List.mem_append.2 (.inl (mem_opT.2 hx))
   simp only [List.getD, htm t this]
  | _ => rfl
 have hrefs : refsOf S o = refsOf T o := by
  unfold refsOf
  simp only [List.flatMap_def]
  congr 1
  refine List.map_congr_left fun x hx => ?_
  rw [hevx x (by simpa using hx)]
 cases heo : e.on with
 | false =>
  obtain ⟨c1, c2, c3⟩ := hoff heo
  have happ : e.app o.dst S = S.put o.dst e.v := by unfold Eff.app; rw [c1, mixH_nil]
  have hp : ∀ d : Option Tmp, (S.put d e.v).heap = S.heap := fun d => put_heap _ _ _
  cases hwn : e.want with
  | false =>
   simp only [Bool.false_eq_true, if_false]
   refine ⟨G, putVs tv o.dst undef, by rw [put_act]; cases o.dst <;> rfl, ?_⟩
   refine ⟨?_, hh.mz, ?_, hdown, hh.up⟩
   ·rw [hadd, happ, hp]
    refine hst.weak (relF_stable _ _ _) fun q => ⟨?_, by rw [hp]; exact q.2⟩
    have := rel_put q.1 o.dst (v := e.v) (X := undef) (fun _ _ _ => by rw [c2 hwn]; exact und_rel) S.heap
    exact this
   ·intro p x y hp hy hLp j h1 h2
    simp only [Bool.or_eq_false_iff] at hLp
    exact hh.fresh p x y hp hy hLp.1 j h1 h2
  | true =>
   simp only [if_true]
   obtain ⟨hl, hrf, h', hlev⟩ := c3 hwn
   refine .inl (Oper.wp_mono (fun a' w' hst' => ?_) (evOp_free (Q := Q) (v := e.v) (h' := h') hF hib hst hh.mz hl (fun k' => by rw [← evOp_congr hevx]; exact hlev k') (by rw [hrefs]; exact hrf)))
   obtain ⟨G', tv', ha, hst', hfr, hup⟩ := hst'
   refine ⟨G', tv', ha, ?_, hh.mz, ?_, hdown, hh.up.trans hup⟩
   ·rw [hadd, happ, hp]; exact hst'
   ·intro p x y hp hy hLp j h1 h2
    simp only [Bool.or_eq_false_iff] at hLp
    exact hfr j (hh.fresh p x y hp hy hLp.1 j h1 h2)
 | true =>
  obtain ⟨hwn, c1, c2, c3, c4, c5, c6⟩ := hon heo
  rw [hwn]
  simp only [if_true]
  have hcl : closB S.heap e.fp (refsOf S o) = true := by
   rw [hrefs]
   obtain ⟨d1, d2⟩ := closB_out c4
   simp only [closB, Bool.and_eq_true, List.all_eq_true, hasN_iff]
   exact ⟨d1, fun j hj i hi => d2 j hj i (by rw [hheap heo j hj]; exact hi)⟩
  have honly : onlyH e.fp 0 T.heap = onlyH e.fp 0 S.heap := by
   refine List.ext_getElem? fun j => ?_
   rw [onlyH_get, onlyH_get, Nat.zero_add]
   cases hj : hasN j e.fp with
   | true => rw [hheap heo j (hasN_iff.1 hj)]
   | false =>
    rcases Nat.lt_or_ge j s0.heap.length with hlt | hge
    ·rw [List.getElem?_eq_getElem (by rw [hlenT]; exact hlt), List.getElem?_eq_getElem (by rw [hlenS]; exact hlt)]; rfl
    ·rw [List.getElem?_eq_none (by rw [hlenT]; exact hge), List.getElem?_eq_none (by rw [hlenS]; exact hge)]
  have hev : ∀ k', evOp P F D o S.ev (onlyH e.fp 0 S.heap) e.b k' = k' e.v e.h := by
   intro k'
   rw [← honly, ← evOp_congr hevx]; exact c5 k'
  have hbl : e.b + nObj P D o ≤ S.heap.length := by
   rw [hlenS, heb]
   have := room_le (P := P) (D := D) hi
   omega
  refine .inl (Oper.wp_mono (fun a' w' hst' => ?_) (evOp_masked (Q := Q) hF hib hst hh.mz (hh.fresh i o e he heo hL) hbl c3 hcl hev c6))
  obtain ⟨G', tv', ha, hst', hout, hup⟩ := hst'
  refine ⟨G', tv', ha, ?_, hh.mz, ?_, hdown, hh.up.trans hup⟩
  ·rw [hadd]
   have hmix : mixH e.fp 0 S.heap e.h = mixH e.wr 0 S.heap e.h := by
    refine List.ext_getElem? fun j => ?_
    rw [mixH_get, mixH_get, Nat.zero_add]
    cases h1 : hasN j e.fp with
    | false =>
     have : hasN j e.wr = false := by
      cases h2 : hasN j e.wr with
      | false => rfl
      | true => rw [hasN_iff.2 (hwrfp i o e he heo j (hasN_iff.1 h2))] at h1; cases h1
     rw [this]
    | true =>
     cases h2 : hasN j e.wr with
     | true => rfl
     | false =>
      rw [c1] at h2
      have := evOp_keeps hev h1 h2
      rw [this, onlyH_get, Nat.zero_add, h1]
      cases S.heap[j]? <;> rfl
   rw [hmix] at hst'
   unfold Eff.app
   rw [put_heap]
   exact hst'
  ·intro p x y hp hy hLp j h1 h2
   simp only [Bool.or_eq_false_iff] at hLp
   have hpi : p ≠ i := fun h => by rw [h] at hLp; simp at hLp
   have hjf : hasN j e.fp = false := by
    cases hj : hasN j e.fp with
    | false => rfl
    | true =>
     have hj := hasN_iff.1 hj
     rcases Nat.lt_or_gt_of_ne hpi with hlt | hgt
     ·have hw : j ∈ y.wr := by rw [((ht.step p x y hp).2.2.1 hy).2.1]; exact slots_wr h1 h2
      have hLd : L p = decide (i < p) := by rw [hLp.1]; symm; simp; omega
      exact absurd hj (((hfar p x y hp hpi hLd).2.2 hy heo).1 j hw)
     ·have a1 := c3 j hj
      have a2 := (ht.step p x y hp).1
      have a3 := room_take (P := P) (D := D) hi p hgt
      omega
   rw [hout j hjf]
   exact hh.fresh p x y hp hy hLp.1 j h1 h2
end
end Go.Ab
namespace Go.Ab
open Go Go.Dk
section
variable {P : Program} {F : Callee} {D : Dec} {w0 : World} {M Z0 : Zone} {ops : List Oper} {an : List (List Nat)} {s0 : AS} {es : List Eff} {b0 : Nat} {G0 : List GO} {Q : Exit → Act → World → Prop}
theorem all_listed (hd : drawB ops an ops 0 = true) {listed : Array Bool} (hs : listed.size = ops.length) (hr : Region.ready .any ops.toArray listed = []) : ∀ i, i < ops.length → listed.getD i false = true := by
 intro i
 induction i using Nat.strongRecOn with
 | ind i ih =>
  intro hi
  cases hL : listed.getD i false with
  | true => rfl
  | false =>
   exfalso
   have hmem : i ∈ Region.ready .any ops.toArray listed := by
    rw [mem_ready]
    refine ⟨?_, ops[i], by simp [hi], fun e he hb => ?_⟩
    ·have hlt : i < listed.size := by omega
     simp only [Array.getD_eq_getD_getElem?, Array.getElem?_eq_getElem hlt, Option.getD_some] at hL ⊢; exact hL
    ·have hst := drawB_out hd i ops[i] (List.getElem?_eq_getElem hi)
     have := (edgesB_out hst.2.1).1 e he hb
     rw [Nat.zero_add] at this
     exact ih e.on this (by omega)
   rw [hr] at hmem; cases hmem
theorem draw_any (hF : CallsOK P F) (hib : ∀ f, D.ib f = true → extIB P f) (hd : drawB ops an ops 0 = true) (ht : Trace P F D ops an b0 s0 es) (hroom : b0 + room P D ops ≤ s0.heap.length)
   (hQ : ∀ (L : Nat → Bool) G tv w, (∀ i, i < ops.length → L i = true) → Here P D w0 M Z0 ops an s0 es G0 L G tv w → Q .normal ⟨tv.toArray, []⟩ w) :
   ∀ (fuel : Nat) (listed : Array Bool) G tv w, listed.size = ops.length → listed.toList.count false ≤ fuel → Here P D w0 M Z0 ops an s0 es G0 (fun q => listed.getD q false) G tv w →
    wpAny P .any ops.toArray Q fuel listed ⟨tv.toArray, []⟩ w
 | 0, listed, G, tv, w, hs, hc, hh => by
  have hall : ∀ i, i < ops.length → listed.getD i false = true := by
   intro i hi
   have hlt : i < listed.size := by omega
   have : false ∉ listed.toList := List.count_eq_zero.1 (by omega)
   simp only [Array.getD_eq_getD_getElem?, Array.getElem?_eq_getElem hlt, Option.getD_some]
   cases hb : listed[i] with
   | true => rfl
   | false => exact absurd (by rw [← hb]; simp) this
  refine ⟨?_, hQ _ G tv w hall hh⟩
  cases hr : Region.ready .any ops.toArray listed with
  | nil => rfl
  | cons i l =>
   have hm : i ∈ Region.ready .any ops.toArray listed := by rw [hr]; exact List.mem_cons_self ..
   obtain ⟨h1, o, ho, _⟩ := mem_ready.1 hm
   have hi : i < ops.length := by
    have := (Array.getElem?_eq_some_iff.1 ho).1; simpa using this
   have h2 := hall i hi
   have hlt : i < listed.size := by omega
   simp only [Array.getD_eq_getD_getElem?, Array.getElem?_eq_getElem hlt, Option.getD_some] at h1 h2
   rw [h1] at h2; cases h2
 | fuel + 1, listed, G, tv, w, hs, hc, hh => by
  refine ⟨fun hr => hQ _ G tv w (all_listed hd hs hr) hh, fun i hi => ?_⟩
  obtain ⟨h1, o, ho, h2⟩ := mem_ready.1 hi
  have hil : i < ops.length := by have := (Array.getElem?_eq_some_iff.1 ho).1; simpa using this
  have hlt : i < listed.size := by omega
  have hLi : listed.getD i false = false := by
   simp only [Array.getD_eq_getD_getElem?, Array.getElem?_eq_getElem hlt, Option.getD_some] at h1 ⊢; exact h1
  refine wpOp_mono (fun a' w' hh' => ?_) (hh.step (Q := Q) hF hib hd ht hroom (i := i) (o := o) (by simpa using ho) hLi h2)
  obtain ⟨G', tv', ha, hh'⟩ := hh'
  subst ha
  refine draw_any hF hib hd ht hroom hQ fuel _ G' tv' w' (by simpa using hs) ?_ ?_
  ·have hlt' : i < listed.toList.length := by simpa using hlt
   have h3 : listed[i] = false := by
    simp only [Array.getD_eq_getD_getElem?, Array.getElem?_eq_getElem hlt, Option.getD_some] at hLi; exact hLi
   rw [Array.toList_setIfInBounds, List.count_set hlt']
   have h4 : listed.toList[i] = false := by simpa using h3
   rw [h4]
   show List.count false listed.toList - 1 + 0 ≤ fuel
   omega
  ·have : (fun q => (listed.setIfInBounds i true).getD q false) = fun q => listed.getD q false || Nat.beq q i := by
     funext q
     by_cases hq : q = i
     ·subst hq
      simp [hlt]
     ·have hb : Nat.beq q i = false := by cases hb : Nat.beq q i with | false => rfl | true => simp only [Nat.beq_eq] at hb; exact absurd hb hq
      rw [_root_.Go.getD_set_ne false (Ne.symm hq), hb, Bool.or_false]
   rw [this]; exact hh'
end
theorem _root_.Go.Dk.St.drawn {w0 w : World} {M Z0 : Zone} {L : List Res} {φ : Fact} (h : St w0 M Z0 L φ w) (n : Nat) : St w0 M Z0 L φ { w with drawn := n } :=
 ⟨⟨h.ext.os, h.ext.tape, h.ext.output, h.ext.size, h.ext.block⟩, fun q hq => h.loc q hq w _ (fun _ _ => rfl) (h.own q hq), h.loc, h.key, h.dis, h.stab, h.stab _ _ w _ (fun b hz _ => ⟨hz, rfl⟩) h.per⟩
theorem drawOK {P : Program} [hm : DrM P] {F : Callee} {D : Dec} (hib : ∀ f, D.ib f = true → extIB P f) (hF : CallsOK P F) : DrawOK P F D := by
 intro w0 M Z0 G s tv w ops id k r Q hI hd h hQ
 obtain ⟨es, h1, h2, h3, _, h5⟩ := evDr_trace h
 refine wp_region_any hm.out ?_
 have hlen : ops.toArray.size = ops.length := by simp
 have hg := hI.grow (room P D ops)
 have ht : Trace P F D ops (ancL ops []) s.heap.length (grow (room P D ops) s) es := by
  refine ⟨h1, fun p o e hp => ?_, fun p q o e o' e' hpq hp hq a c => ?_⟩
  ·have := h3 p o e hp; simp only [Nat.zero_add] at this; exact this
  ·have := h5 p q o e o' e' hpq hp hq a c; simp only [Nat.zero_add] at this; exact this
 have hrep : (fun q => (Array.replicate ops.toArray.size false).getD q false) = fun _ => false := by
  funext q
  simp only [Array.getD_eq_getD_getElem?, Array.getElem?_replicate]
  split <;> rfl
 refine draw_any (w0 := w0) (M := M) (Z0 := Z0) (G0 := G ++ List.replicate (room P D ops) .fresh) hF hib hd ht (by simp [grow]) ?_ ops.toArray.size _ (G ++ List.replicate (room P D ops) .fresh) tv _ (by simp) (by simp) ?_
 ·intro L G' tv' w' hL hh
  have he : foldE (ops.zip es) 0 L (grow (room P D ops) s) = foldE (ops.zip es) 0 (fun _ => true) (grow (room P D ops) s) :=
   foldE_congr fun q _ hq => by
    refine hL q ?_
    have : (ops.zip es).length ≤ ops.length := by rw [List.length_zip]; omega
    omega
  have hst := hh.st
  rw [he] at hst
  refine hQ _ G' tv' w' h2 ⟨hst, fun j hj hl => ?_, hh.mz⟩ ((Up.append _ _).trans hh.up).weak
  rw [hst.per.2.1] at hj; omega
 ·rw [hrep]
  have hs : foldE (ops.zip es) 0 (fun _ => false) (grow (room P D ops) s) = grow (room P D ops) s := foldE_skip fun _ _ => rfl
  refine ⟨by rw [hs]; exact hg.st.drawn _, hg.mz, fun p o e hp _ _ j hj hl => ?_, nofun, Up.refl _⟩
  refine hg.fresh j ?_ ?_
  ·have := (ht.step p o e hp).1; omega
  ·have a1 := (ht.step p o e hp).1
   have a2 := room_le (P := P) (D := D) (zip_fst hp).1
   have a3 := hI.len
   simp only [List.length_append, List.length_replicate]
   omega
theorem abs_sound {P : Program} [hm : DrM P] {S : Say} (hp : PrimsOK P S) (hib : ∀ f, S.D.ib f = true → extIB P f) (n : Nat) : CallsOK P (evF P S n) :=
 evF_sound hp hib (fun F hF => drawOK hib hF) n
end Go.Ab
end
section
namespace Go.Ab
open Go Go.Dk
def bytesOf (l : List UInt8) : ByteArray := ⟨l.toArray⟩
noncomputable def spot (E : Env) : List Nat → List Nat → Nat → Code → Kont → Option (Nat × Code × Kont)
 | [], _, i, c, k => some (i, c, k)
 | 0 :: p, cs, i, .seq a b, k => spot E p cs i a (thenK E (evC E i b) k)
 | 1 :: p, cs, i, .seq _ b, k => spot E p cs i b k
 | 0 :: p, cs, i, .cond _ a _, k => spot E p cs i a k
 | 1 :: p, cs, i, .cond _ _ b, k => spot E p cs i b k
 | 0 :: p, cs, _, .block id b, k => spot E p cs id b (blockK id k)
 | 9 :: p, c :: cs, i, .loop b, k => spot E p cs i b fun e s => match e with
    | .normal => evL (evC E i b) (atHead E.m (E.live i)) c (atHead E.m (E.live i) s) k
    | e => k e s
 | _, _, _, _, _ => none
noncomputable def runLoop (P : Program) (S : Say) (n : Nat) (f : FuncId) (m : Nat) (p cs : List Nat) (c : Nat) (s : AS) : OR :=
 match P.funcs[f]? with
 | some fn => (match fn.body with
  | some b => (match spot ⟨P, evF P S n, S.D, n, m, S.live f⟩ p cs 0 b (finK P (S.D.own f) fn m) with
   | some (i, .loop b, k) => evL (evC ⟨P, evF P S n, S.D, n, m, S.live f⟩ i b) (atHead m (S.live f i)) c s k
   | _ => none)
  | none => none)
 | none => none
end Go.Ab
end
section
namespace Go.Proofs.YtnogehmgpfpjmaaDoor
open Go Go.Ab Go.Dk
def shTab : List (List UInt8 × List (List UInt8)) :=
 [([35], [[35]]), ([42], [[42]]), ([40, 46, 62, 46, 41], [[40], [62], [41]]), ([91, 46, 93, 46], [[91], [93], []]), ([40, 46, 32, 46, 41], [[40], [32], [41]]), ([78], [[78]]), ([48], [[48]]), ([43, 46], [[43], []]),
  ([60, 46, 44, 46, 44, 46, 44, 46, 62], [[60], [44], [44], [44], [62]]), ([123, 46, 44, 46, 44, 46, 125], [[123], [44], [44], [125]]), ([33, 46], [[33], []]), ([64, 60, 46, 44, 46, 44, 46, 62], [[64, 60], [44], [44], [62]]),
  ([40, 46, 42, 46, 41], [[40], [42], [41]]), ([124, 46, 44, 46, 44, 46, 124], [[124], [44], [44], [124]]), ([94, 46], [[94], []]), ([95, 46], [[95], []])]
def spP (args : List V1) : OR := match args with
 | [.one (.str s), .one (.str d)] => if d.toList = [46] then (shTab.lookup s.toList).bind fun ps => some ([.one (.fr (.ss (ps.map bytesOf)))], []) else none
 | _ => none
def itP (args : List V1) : OR := match args with
 | [.one (.int .i64 n)] => if 0 ≤ n ∧ n ≤ 9223372036854775807 then some ([.one (.str (bytesOf (Lib.itoa n)))], []) else none
 | _ => none
end Go.Proofs.YtnogehmgpfpjmaaDoor
end
section
namespace Go.Proofs.YtnogehmgpfpjmaaDoor
open Go Go.Ab Go.Dk
def live : FuncId → Nat → Option (List Nat)
 | 14, 0 => some [0, 3]
 | 16, 0 => some [1, 3, 4]
 | 20, 0 => some [0, 5, 6]
 | 22, 0 => some [1, 3, 7, 8, 9]
 | 23, 0 => some [1, 2, 6, 7, 8, 55, 56, 57]
 | 26, 0 => some [2, 3, 5]
 | 29, 0 => some [1, 2, 5]
 | 30, 0 => some [1, 2, 5, 6]
 | 32, 0 => some [0, 1, 5]
 | 33, 0 => some [1, 2, 5, 6]
 | 36, 0 => some [0, 1, 5, 6]
 | 38, 0 => some [1, 2, 41, 42, 43]
 | 41, 0 => some [1, 2, 3, 24, 25, 26]
 | 44, 0 => some [4, 5, 33, 34, 35]
 | 48, 0 => some [0, 3]
 | 50, 0 => some [0, 1, 2, 6, 13, 14, 15, 16, 17, 18, 19]
 | 52, 0 => some [1, 2, 15, 16, 17]
 | 56, 0 => some [0, 3]
 | 57, 0 => some [0, 3]
 | 58, 0 => some [0, 3, 4]
 | 73, 0 => some [0, 7, 8, 9]
 | 83, 0 => some [0, 1, 2, 8]
 | 88, 0 => some [0, 1, 2, 3, 4, 5, 14, 15]
 | 89, 0 => some [0, 1, 5]
 | 98, 0 => some [0, 4, 5, 6]
 | 99, 0 => some [0, 1, 2, 3, 4, 12, 13]
 | _, _ => none
def ownF (f : FuncId) : Bool := hasN f []
def ibF (f : FuncId) : Bool := Nat.beq f 78
def primF (f : FuncId) : Option (List V1 → OR) := (cond (Nat.beq f 45) (some spP) (cond (Nat.beq f 63) (some itP) none))
noncomputable def SS : Say := ⟨⟨ownF, ibF⟩, live, primF⟩
noncomputable def FF := evF Tryd.prog SS
end Go.Proofs.YtnogehmgpfpjmaaDoor
end
