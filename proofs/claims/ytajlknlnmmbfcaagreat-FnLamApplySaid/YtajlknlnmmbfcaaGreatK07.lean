/- Part 7 of the proof. -/
import Derived.Test.YtajlknlnmmbfcaaGreatK01
import Derived.Test.YtajlknlnmmbfcaaGreatK02
import Derived.Test.YtajlknlnmmbfcaaGreatK03
import Derived.Test.YtajlknlnmmbfcaaGreatK04
import Derived.Test.YtajlknlnmmbfcaaGreatK05
import Derived.Test.YtajlknlnmmbfcaaGreatK06
set_option linter.unusedVariables false
set_option linter.unusedSimpArgs false
section
namespace Go.Proofs.YtajlknlnmmbfcaaGreat
open Go Go.Ab Go.Dk
open Tm (Rs sq frm lvl chk fam made inI inS tI tS lvr ckr cc Wf)
def zr : Rs → T
 | .ok t => of t
 | _ => .mk 0 0 []
def sts : Rs → Int
 | .ok _ => 0
 | .bad => 1
 | .opn => 2
def lvn : Rs → Int
 | .ok t => Tm.lv t
 | _ => 0
theorem CY {h : List av} {o : OR} {r : Rs} (k : RSh h o r) : ∃ x, o = some ([tm x, nt (sts r)], h) ∧ ∀ t, r = .ok t → x = of t := by
 obtain ⟨x, c, rfl, h2⟩ := k
 cases r with
 | ok t => obtain ⟨rfl, rfl⟩ := h2; exact ⟨_, rfl, fun t e => by cases e; rfl⟩
 | bad => cases h2; exact ⟨_, rfl, fun t e => by cases e⟩
 | opn => cases h2; exact ⟨_, rfl, fun t e => by cases e⟩
theorem K6 {o : OR} {r : Rs} (k : RS o r) : ∃ x, o = some ([tm x, nt (sts r)], []) ∧ x.size ≤ 1000000 ∧ ∀ t, r = .ok t → x = of t := by
 obtain ⟨x, c, rfl, hz, h2⟩ := k
 cases r with
 | ok t => obtain ⟨rfl, rfl⟩ := h2; exact ⟨_, rfl, hz, fun t e => by cases e; rfl⟩
 | bad => cases h2; exact ⟨_, rfl, hz, fun t e => by cases e⟩
 | opn => cases h2; exact ⟨_, rfl, hz, fun t e => by cases e⟩
theorem zx {h : List av} {o : OR} {r : Rs} (k : RLh h o r) : ∃ i, o = some ([nt i, nt (sts r)], h) ∧ ∀ t, r = .ok t → i = lvn r := by
 obtain ⟨i, c, rfl, h2⟩ := k
 cases r with
 | ok t => obtain ⟨rfl, j, rfl, rfl⟩ := h2; exact ⟨_, rfl, fun t e => by cases e; rfl⟩
 | bad => cases h2; exact ⟨_, rfl, fun t e => by cases e⟩
 | opn => cases h2; exact ⟨_, rfl, fun t e => by cases e⟩
theorem HL {o : OR} {r : Rs} (k : RC o r) : o = some ([nt (sts r)], []) := by
 obtain ⟨c, rfl, h2⟩ := k
 cases r with
 | ok t => cases h2; rfl
 | bad => cases h2; rfl
 | opn => cases h2; rfl
theorem K8 {o : OR} {r : Rs} (k : RL o r) : ∃ i, o = some ([nt i, nt (sts r)], []) ∧ ∀ t, r = .ok t → i = lvn r := by
 obtain ⟨i, c, rfl, h2⟩ := k
 cases r with
 | ok t => obtain ⟨rfl, j, rfl, rfl⟩ := h2; exact ⟨_, rfl, fun t e => by cases e; rfl⟩
 | bad => cases h2; exact ⟨_, rfl, fun t e => by cases e⟩
 | opn => cases h2; exact ⟨_, rfl, fun t e => by cases e⟩
theorem AN {r : Rs} : sts r = 0 ↔ ∃ t, r = .ok t := by cases r <;> simp [sts]
theorem pH {G : List Tm} {t : Tm} (w : Wf G) (hG : ∀ A ∈ G, vdM A = true) (hl : G.length ≤ 20) (hv : vdM t = true) : ∃ B, 7000500 ≤ B ∧ IvI B (cx G) (of t) (some (tI O G t)) := by
 obtain ⟨N, hN⟩ := Tm.wg aH w t
 refine ⟨7000500 + 30 * N, by omega, fun m hm r e => ?_⟩
 cases e
 exact Dh N m G t hm hG hl hv _ (hN N (Nat.le_refl N))
theorem pe {G : List Tm} {t : Tm} (w : Wf G) (hG : ∀ A ∈ G, vdM A = true) (hl : G.length ≤ 20) (hv : vdM t = true) : ∃ B, ∀ n, B ≤ n → RLh [] (FF n 54 [tms (cx G), tm (of t)] []) (lvr O (tI O G t)) := by
 obtain ⟨B, hB, h⟩ := pH w hG hl hv
 exact ⟨B + 2, fun n hn => EH hB hn h (fun s e => Tm.Df aH w hv (Option.some.inj e)) _ (Tm.rS _)⟩
theorem DB {G : List Tm} {t u : Tm} (w : Wf G) (hG : ∀ A ∈ G, vdM A = true) (hl : G.length ≤ 20) (hv : vdM t = true) (hu : vdM u = true) : ∃ B, ∀ n, B ≤ n → FF n 55 [tms (cx G), tm (of t), tm (of u)] [] = some ([nt (sts (ckr O (tI O G t) u))], []) := by
 obtain ⟨B, hB, h⟩ := pH w hG hl hv
 refine ⟨B + 2, fun n hn => ?_⟩
 obtain ⟨n, rfl⟩ := ag (show 0 < n by omega)
 have zu := ae hu
 rw [xw]
 obtain ⟨x, eo, hx⟩ := CY (h n (by omega) _ rfl)
 rw [eo]
 simp only [evt]
 cases hr : tI O G t with
 | ok A =>
  have vA : vdM A = true := Tm.Df aH w hv hr
  have zA := ae vA
  rw [hx A hr]
  simp only [sts, decide_true, Bool.not_true, cond_false]
  have := HL (mW (n := n) (a := A) (b := u) (by omega) (by omega) (by omega))
  rw [this]
  rfl
 | bad => rfl
 | opn => rfl
theorem wu {f : List Tm → Tm → Rs} {H : List Tm} (h : ∀ t, cc O f H ≠ .ok t) : ∀ P : List Tm, cc O f (P ++ H) = cc O f H
 | [] => rfl
 | A :: P => by
  have e := wu h P
  rw [List.cons_append, cc, e]
  cases h2 : cc O f H with
  | ok t => exact absurd h2 (h t)
  | bad => rfl
  | opn => rfl
theorem xT : ∀ (Q H : List Tm), (∀ A ∈ H, vdM A = true) → (∀ A ∈ Q, vdM A = true) → H.length + Q.length ≤ 20 → (∃ t, cc O (tI O) H = .ok t) → ∃ B, ∀ n, B ≤ n → ∀ m, Q.length < m →
   bq n m (cx H ++ Q.map of) (cx H ++ Q.map of) (H.length + Q.length : Nat) (H.length : Nat) = some ([nt (sts (cc O (tI O) (Q.reverse ++ H)))], [])
 | [], H, vH, vQ, hl, ⟨t, ht⟩ => by
  refine ⟨0, fun n hn m hm => ?_⟩
  obtain ⟨m, rfl⟩ := ag (show 0 < m by omega)
  rw [dY, decide_eq_false (show ¬ ((H.length : Nat) : Int) < ((H.length + ([] : List Tm).length : Nat) : Int) by simp)]
  rw [List.reverse_nil, List.nil_append, ht]; rfl
 | A :: Q, H, vH, vQ, hl, ⟨t, ht⟩ => by
  have w := Tm.lX aH ht
  have vA := vQ A List.mem_cons_self
  have eG : (A :: Q).reverse ++ H = Q.reverse ++ (A :: H) := by simp
  have ex : cx H ++ (A :: Q).map of = cx (A :: H) ++ Q.map of := by simp [cx]
  have hcA : cc O (tI O) (A :: H) = lvr O (tI O H A) := by rw [cc, ht]
  simp only [List.length_cons] at hl
  obtain ⟨B1, h1⟩ := pe w vH (by omega) vA
  have hget : (cx H ++ (A :: Q).map of)[H.length]? = some (of A) := by
   rw [List.getElem?_append_right (by rw [bO]; omega), bO, Nat.sub_self]; rfl
  have htk : (cx H ++ (A :: Q).map of).take H.length = cx H := by
   have := List.take_left (l₁ := cx H) (l₂ := (A :: Q).map of)
   rw [bO] at this; exact this
  have hlen : (cx H ++ (A :: Q).map of).length = H.length + (Q.length + 1) := by simp [bO]
  have step : ∀ n, B1 ≤ n → ∀ m, bq n (m + 1) (cx H ++ (A :: Q).map of) (cx H ++ (A :: Q).map of) (H.length + (Q.length + 1) : Nat) (H.length : Nat) =
     cond (!decide (sts (lvr O (tI O H A)) = 0)) (some ([nt (sts (lvr O (tI O H A)))], [])) (bq n m (cx H ++ (A :: Q).map of) (cx H ++ (A :: Q).map of) (H.length + (Q.length + 1) : Nat) ((H.length + 1 : Nat) : Int)) := by
   intro n hn m
   obtain ⟨i, eo, _⟩ := zx (h1 n hn)
   rw [dY, decide_eq_true (show ((H.length : Nat) : Int) < ((H.length + (Q.length + 1) : Nat) : Int) by omega), cond_true, decide_eq_true (show (0 : Int) ≤ ((H.length : Nat) : Int) by omega), cond_true, Int.toNat_natCast, hget]
   simp only [Option.bind_some]
   rw [show Go.Ab.inB 0 ((H.length : Nat) : Int) (cx H ++ (A :: Q).map of).length = true from by rw [hlen]; simp [Go.Ab.inB]; omega, cond_true, htk, show (0 : Int).toNat = 0 from rfl, List.drop_zero]
   have eo : FF n 54 [tms (cx H), .agg [.int .i64 (of A).k, .int .i64 (of A).n, .fr (.ts (of A).kids)]] [] = _ := eo
   rw [eo]
   simp only [evt]
   rw [wrap64 (show -9223372036854775808 ≤ ((H.length : Nat) : Int) + 1 ∧ ((H.length : Nat) : Int) + 1 ≤ 9223372036854775807 by omega)]
   rfl
  cases hr : lvr O (tI O H A) with
  | ok s =>
   obtain ⟨B2, h2⟩ := xT Q (A :: H) (fun C hC => by rcases List.mem_cons.1 hC with rfl | hC; exact vA; exact vH C hC) (fun C hC => vQ C (List.mem_cons_of_mem _ hC)) (by simp only [List.length_cons]; omega) ⟨s, hcA.trans hr⟩
   refine ⟨max B1 B2, fun n hn m hm => ?_⟩
   obtain ⟨m, rfl⟩ := ag (show 0 < m by omega)
   simp only [List.length_cons] at hm
   have := h2 n (by omega) m (by omega)
   rw [List.length_cons, step n (by omega), hr, eG, ex]
   simp only [sts, decide_true, Bool.not_true, cond_false]
   rw [List.length_cons, show H.length + 1 + Q.length = H.length + (Q.length + 1) by omega] at this
   exact this
  | bad =>
   refine ⟨B1, fun n hn m hm => ?_⟩
   obtain ⟨m, rfl⟩ := ag (show 0 < m by omega)
   rw [List.length_cons, step n hn, hr, eG, wu (fun t e => by rw [hcA, hr] at e; cases e), hcA, hr]; rfl
  | opn =>
   refine ⟨B1, fun n hn m hm => ?_⟩
   obtain ⟨m, rfl⟩ := ag (show 0 < m by omega)
   rw [List.length_cons, step n hn, hr, eG, wu (fun t e => by rw [hcA, hr] at e; cases e), hcA, hr]; rfl
theorem jV {l : List T} (h : okA l = true) : ∃ G : List Tm, l = cx G ∧ (∀ A ∈ G, vdM A = true) ∧ G.length ≤ 8 := by
 obtain ⟨hl, hv⟩ := jM h
 have : ∀ l : List T, (∀ t ∈ l, ak t = true) → ∃ G : List Tm, l = G.map of ∧ ∀ A ∈ G, vdM A = true := by
  intro l
  induction l with
  | nil => exact fun _ => ⟨[], rfl, fun A hA => by cases hA⟩
  | cons t l ih =>
   intro h
   obtain ⟨G, e, hG⟩ := ih fun u hu => h u (List.mem_cons_of_mem _ hu)
   obtain ⟨m, em⟩ := ir (h t List.mem_cons_self)
   refine ⟨m :: G, by rw [e, em]; rfl, fun A hA => ?_⟩
   rcases List.mem_cons.1 hA with rfl | hA
   ·have := h t List.mem_cons_self
    rw [em] at this; exact this
   ·exact hG A hA
 obtain ⟨G, e, hG⟩ := this l hv
 refine ⟨G.reverse, by rw [e, cx, List.map_reverse, List.reverse_reverse], fun A hA => hG A (List.mem_reverse.1 hA), ?_⟩
 rw [e, List.length_map] at hl
 rw [List.length_reverse]; exact hl
theorem qR {G : List Tm} (h : ∀ A ∈ G, vdM A = true) (hl : G.length ≤ 8) : okA (cx G) = true := by
 unfold okA
 rw [Bool.and_eq_true, decide_eq_true_eq, bO, List.all_eq_true]
 refine ⟨hl, fun t ht => ?_⟩
 obtain ⟨A, hA, rfl⟩ := List.mem_map.1 (List.mem_reverse.1 (show t ∈ (G.map of).reverse from ht))
 exact h A hA
theorem uT (n : Nat) (l : List T) (hl : l.length ≤ 4000000) (h : ∀ t ∈ l, FF n 59 [tm t] [] = some ([bl (ak t)], [])) :
   ∀ g m (i : Nat), g < m → i + g = l.length → cj n m l l l.length i = cond ((l.drop i).all ak) (bq n n l l l.length 0) (some ([nt 3], []))
 | g, 0, i, hg, _ => by omega
 | 0, m + 1, i, _, hi => by
  rw [dV, List.drop_of_length_le (by omega), decide_eq_false (show ¬ (i : Int) < l.length by omega)]
  rfl
 | g + 1, m + 1, i, hg, hi => by
  have hlt : i < l.length := by omega
  rw [List.drop_eq_getElem_cons hlt, List.all_cons]
  rw [dV]; simp (disch := omega) only [evt, az, Int.toNat_natCast, gx, wrap64, aL, List.length_append, List.length_cons, List.length_nil, if_pos (show (i : Int) < l.length by omega), if_pos (show 0 ≤ (i : Int) by omega), List.getElem?_eq_getElem hlt, h _ (List.getElem_mem hlt)]
  cases hs : ak l[i] with
  | false => simp
  | true =>
   simp only [Bool.not_true, cond_false, Bool.true_and]
   exact uT n l hl h g m (i + 1) (by omega) (by omega)
theorem qe {n : Nat} {l : List T} (hn : 4400000 ≤ n) (hl : l.length ≤ 4000000) (hz : ∀ t ∈ l, t.size ≤ 4000000) (h : okA l = false) : FF n 36 [tms l] [] = some ([nt 3], []) := by
 obtain ⟨n, rfl⟩ := ag (show 0 < n by omega)
 rw [gL]
 by_cases h8 : l.length ≤ 8
 ·rw [decide_eq_false (show ¬ (8 : Int) < l.length by omega), cond_false]
  have := uT n l hl (fun t ht => aX (by have := hz t ht; omega)) l.length n 0 (by omega) (by omega)
  unfold okA at h
  rw [decide_eq_true h8, Bool.true_and] at h
  rw [List.drop_zero, h] at this
  exact this
 ·rw [decide_eq_true (show (8 : Int) < l.length by omega)]; rfl
theorem kG {G : List Tm} (hG : ∀ A ∈ G, vdM A = true) (hl : G.length ≤ 8) : ∃ B, ∀ n, B ≤ n → FF n 36 [tms (cx G)] [] = some ([nt (sts (cc O (tI O) G))], []) := by
 obtain ⟨B, h⟩ := xT G.reverse [] (fun A hA => by cases hA) (fun A hA => hG A (List.mem_reverse.1 hA)) (by simp; omega) ⟨.nat, rfl⟩
 refine ⟨max B 4400000 + 1, fun n hn => ?_⟩
 obtain ⟨n, rfl⟩ := ag (show 0 < n by omega)
 have hz : ∀ t ∈ cx G, t.size ≤ 4000000 := fun t ht => by
  obtain ⟨A, hA, rfl⟩ := List.mem_map.1 (List.mem_reverse.1 (show t ∈ (G.map of).reverse from ht))
  have := ae (hG A hA); omega
 have ho := jM (qR hG hl)
 have hl' : (cx G).length ≤ 4000000 := by rw [bO]; omega
 rw [gL, decide_eq_false (show ¬ (8 : Int) < (cx G).length by rw [bO]; omega), cond_false]
 have e1 := uT n (cx G) hl' (fun t ht => aX (by have := hz t ht; omega)) (cx G).length n 0 (by omega) (by omega)
 rw [List.drop_zero, List.all_eq_true.2 ho.2, cond_true] at e1
 have e2 := h n (by omega) n (by rw [List.length_reverse]; omega)
 rw [List.append_nil, List.reverse_reverse] at e2
 have e3 : cx [] ++ G.reverse.map of = cx G := by rw [show cx [] = [] from rfl, List.nil_append, cx, List.map_reverse]
 rw [e3] at e2
 have e4 : ((([] : List Tm).length + G.reverse.length : Nat) : Int) = ((cx G).length : Int) := by rw [bO, List.length_reverse]; simp
 rw [e4] at e2
 exact e1.trans e2
end Go.Proofs.YtajlknlnmmbfcaaGreat
end
section
namespace Go.Proofs.YtajlknlnmmbfcaaGreat
open Go Go.Ab Go.Dk
open Tm (Rs sq frm lvl chk fam made inI inS tI tS lvr ckr cc pt ps pc Wf)
theorem tE {G : List Tm} (hG : ∀ A ∈ G, vdM A = true) : ∀ t ∈ cx G, t.size ≤ 4000000 := fun t ht => by
 obtain ⟨A, hA, rfl⟩ := List.mem_map.1 (List.mem_reverse.1 (show t ∈ (G.map of).reverse from ht))
 have := ae (hG A hA); omega
theorem yj (n : Nat) (l : List T) (hl : l.length ≤ 4000000) (h : ∀ t ∈ l, FF n 94 [tm t] [] = some ([bl (!ak t)], [])) :
   ∀ g m (i : Nat), g < m → i + g = l.length → ∃ v, aQ n m l l.length i = some ([nt v], []) ∧ (0 ≤ v ↔ (l.drop i).all ak = false)
 | g, 0, i, hg, _ => by omega
 | 0, m + 1, i, _, hi => by
  rw [b6, List.drop_of_length_le (by omega), decide_eq_false (show ¬ (i : Int) < l.length by omega)]
  exact ⟨-1, rfl, by simp⟩
 | g + 1, m + 1, i, hg, hi => by
  have hlt : i < l.length := by omega
  rw [List.drop_eq_getElem_cons hlt, List.all_cons]
  rw [b6]; simp (disch := omega) only [evt, az, Int.toNat_natCast, gx, wrap64, aL, List.length_append, List.length_cons, List.length_nil, if_pos (show (i : Int) < l.length by omega), if_pos (show 0 ≤ (i : Int) by omega), List.getElem?_eq_getElem hlt, h _ (List.getElem_mem hlt)]
  cases hs : ak l[i] with
  | false => exact ⟨i, rfl, by simp⟩
  | true =>
   simp only [Bool.not_true, cond_false, Bool.true_and]
   exact yj n l hl h g m (i + 1) (by omega) (by omega)
theorem E9 {n : Nat} {l ts : List T} {c : Int} (hn : 4400000 ≤ n) (hl : ts.length ≤ 4000000) (hz : ∀ t ∈ ts, t.size ≤ 4000000) (h : FF n 36 [tms l] [] = some ([nt c], [])) : FF (n + 1) 53 [tms l, tms ts] [] = some ([nt (if ts.all ak = true then c else 3)], []) := by
 rw [u6, h]
 simp only [evt]
 obtain ⟨n, rfl⟩ : ∃ m, n = m + 2 := ⟨n - 2, by omega⟩
 have hc : ∀ t ∈ ts, FF n 94 [tm t] [] = some ([bl (!ak t)], []) := by
  intro t ht
  have := hz t ht
  obtain ⟨n, rfl⟩ : ∃ m, n = m + 1 := ⟨n - 1, by omega⟩
  rw [qX, aX (by omega)]
  simp only [evt]
 obtain ⟨v, h1, h2⟩ := yj n ts hl hc ts.length n 0 (by omega) (by omega)
 rw [dZ, fh]
 rw [show (aQ n n ts ts.length 0) = _ from h1]
 simp only [evt]
 rw [List.drop_zero] at h2
 cases ha : ts.all ak with
 | true =>
  rw [ha] at h2
  have : ¬ (0 : Int) ≤ v := fun hh => by have := h2.1 hh; cases this
  rw [decide_eq_false this]; rfl
 | false =>
  rw [ha] at h2
  rw [decide_eq_true (h2.2 rfl)]; rfl
theorem sT {G : List Tm} {ts : List T} (hG : ∀ A ∈ G, vdM A = true) (h8 : G.length ≤ 8) (hl' : ts.length ≤ 4000000) (hz' : ∀ t ∈ ts, t.size ≤ 4000000) (h : ts.all ak = true) : ∃ B, ∀ n, B ≤ n → FF n 53 [tms (cx G), tms ts] [] = some ([nt (sts (cc O (tI O) G))], []) := by
 obtain ⟨B, hB⟩ := kG hG h8
 refine ⟨max B 4400000 + 1, fun n hn => ?_⟩
 obtain ⟨n, rfl⟩ := ag (show 0 < n by omega)
 rw [E9 (by omega) hl' hz' (hB n (by omega)), if_pos h]
theorem zN {G : List Tm} {t : Tm} (hG : ∀ A ∈ G, vdM A = true) (h8 : G.length ≤ 8) (hv : vdM t = true) : ∃ B, ∀ n, B ≤ n → FF n 25 [tms (cx G), tm (of t)] [] = some ([tm (zr (pt O (tI O) G t)), nt (sts (pt O (tI O) G t))], []) := by
 have zt := ae hv
 obtain ⟨B, hB⟩ := sT (ts := [of t]) hG h8 (by simp) (by simp; omega) (by have h1 : ak (of t) = true := hv; simp [h1])
 unfold pt
 cases hc : cc O (tI O) G with
 | ok C =>
  have w := Tm.lX aH hc
  obtain ⟨B', hB', h'⟩ := pH w hG (by omega) hv
  refine ⟨max B B' + 1, fun n hn => ?_⟩
  obtain ⟨n, rfl⟩ := ag (show 0 < n by omega)
  have e1 := hB n (by omega)
  rw [hc] at e1
  rw [dI, show T.mk (of t).k (of t).n (of t).kids = of t from by cases of t; rfl, e1]
  obtain ⟨x, eo, hx⟩ := CY (h' n (by omega) _ rfl)
  simp only [evt, sts]
  have eo : FF n 57 [tms (cx G), .agg [.int .i64 (of t).k, .int .i64 (of t).n, .fr (.ts (of t).kids)]] [] = _ := eo
  rw [eo]
  simp only [evt]
  cases hr : tI O G t with
  | ok A =>
   have vA : vdM A = true := Tm.Df aH w hv hr
   have zA := ae vA
   rw [hx A hr]
   simp only [sts, decide_true, Bool.not_true, cond_false]
   have := CG (of A) (n := n) (by omega) (by omega)
   rw [this]; rfl
  | bad => rfl
  | opn => rfl
 | bad =>
  refine ⟨B + 1, fun n hn => ?_⟩
  obtain ⟨n, rfl⟩ := ag (show 0 < n by omega)
  have e1 := hB n (by omega)
  rw [hc] at e1
  rw [dI, show T.mk (of t).k (of t).n (of t).kids = of t from by cases of t; rfl, e1]; rfl
 | opn =>
  refine ⟨B + 1, fun n hn => ?_⟩
  obtain ⟨n, rfl⟩ := ag (show 0 < n by omega)
  have e1 := hB n (by omega)
  rw [hc] at e1
  rw [dI, show T.mk (of t).k (of t).n (of t).kids = of t from by cases of t; rfl, e1]; rfl
theorem Gn {G : List Tm} {t : Tm} (hG : ∀ A ∈ G, vdM A = true) (h8 : G.length ≤ 8) (hv : vdM t = true) : ∃ B, ∀ n, B ≤ n → FF n 38 [tms (cx G), tm (of t)] [] = some ([nt (lvn (ps O (tI O) G t)), nt (sts (ps O (tI O) G t))], []) := by
 have zt := ae hv
 obtain ⟨B, hB⟩ := sT (ts := [of t]) hG h8 (by simp) (by simp; omega) (by have h1 : ak (of t) = true := hv; simp [h1])
 unfold ps
 cases hc : cc O (tI O) G with
 | ok C =>
  have w := Tm.lX aH hc
  obtain ⟨B', h'⟩ := pe w hG (by omega) hv
  refine ⟨max B B' + 1, fun n hn => ?_⟩
  obtain ⟨n, rfl⟩ := ag (show 0 < n by omega)
  have e1 := hB n (by omega)
  rw [hc] at e1
  rw [gm, show T.mk (of t).k (of t).n (of t).kids = of t from by cases of t; rfl, e1]
  obtain ⟨x, eo, hx⟩ := zx (h' n (by omega))
  simp only [evt, sts]
  have eo : FF n 54 [tms (cx G), .agg [.int .i64 (of t).k, .int .i64 (of t).n, .fr (.ts (of t).kids)]] [] = _ := eo
  rw [eo]
  simp only [evt]
  cases hr : lvr O (tI O G t) with
  | ok A => rw [hx A hr, hr]; rfl
  | bad => rfl
  | opn => rfl
 | bad =>
  refine ⟨B + 1, fun n hn => ?_⟩
  obtain ⟨n, rfl⟩ := ag (show 0 < n by omega)
  have e1 := hB n (by omega)
  rw [hc] at e1
  rw [gm, show T.mk (of t).k (of t).n (of t).kids = of t from by cases of t; rfl, e1]; rfl
 | opn =>
  refine ⟨B + 1, fun n hn => ?_⟩
  obtain ⟨n, rfl⟩ := ag (show 0 < n by omega)
  have e1 := hB n (by omega)
  rw [hc] at e1
  rw [gm, show T.mk (of t).k (of t).n (of t).kids = of t from by cases of t; rfl, e1]; rfl
theorem zK {G : List Tm} {t u : Tm} (hG : ∀ A ∈ G, vdM A = true) (h8 : G.length ≤ 8) (hv : vdM t = true) (hu : vdM u = true) : ∃ B, ∀ n, B ≤ n → FF n 23 [tms (cx G), tm (of t), tm (of u)] [] = some ([nt (sts (pc O (tI O) G t u))], []) := by
 have zt := ae hv
 have zu := ae hu
 have eu : T.mk (of u).k (of u).n (of u).kids = of u := by cases of u; rfl
 have et : T.mk (of t).k (of t).n (of t).kids = of t := by cases of t; rfl
 obtain ⟨B, hB⟩ := sT (ts := [of t, of u]) hG h8 (by simp) (by simp; omega) (by have h1 : ak (of t) = true := hv; have h2 : ak (of u) = true := hu; simp [h1, h2])
 unfold pc ps
 cases hc : cc O (tI O) G with
 | ok C =>
  have w := Tm.lX aH hc
  obtain ⟨B', h'⟩ := pe w hG (by omega) hu
  obtain ⟨B2, h2⟩ := DB w hG (by omega) hv hu
  refine ⟨max B (max B' B2) + 1, fun n hn => ?_⟩
  obtain ⟨n, rfl⟩ := ag (show 0 < n by omega)
  have e1 := hB n (by omega)
  rw [hc] at e1
  rw [dO, et, eu, e1]
  obtain ⟨x, eo, hx⟩ := zx (h' n (by omega))
  simp only [evt, sts]
  have eo : FF n 54 [tms (cx G), .agg [.int .i64 (of u).k, .int .i64 (of u).n, .fr (.ts (of u).kids)]] [] = _ := eo
  rw [eo]
  simp only [evt]
  cases hr : lvr O (tI O G u) with
  | ok A =>
   simp only [sts, decide_true, Bool.not_true, cond_false]
   have := h2 n (by omega)
   simp only [tms, tm] at this
   rw [this]; rfl
  | bad => rfl
  | opn => rfl
 | bad =>
  refine ⟨B + 1, fun n hn => ?_⟩
  obtain ⟨n, rfl⟩ := ag (show 0 < n by omega)
  have e1 := hB n (by omega)
  rw [hc] at e1
  rw [dO, et, eu, e1]; rfl
 | opn =>
  refine ⟨B + 1, fun n hn => ?_⟩
  obtain ⟨n, rfl⟩ := ag (show 0 < n by omega)
  have e1 := hB n (by omega)
  rw [hc] at e1
  rw [dO, et, eu, e1]; rfl
end Go.Proofs.YtajlknlnmmbfcaaGreat
end
section
namespace Go.Proofs.YtajlknlnmmbfcaaGreat
open Go Go.Dk
def pr2 (l : List Tm) (f : Tm → Tm → Tm) : List Tm := l.flatMap fun a => l.map (f a)
def pr3 (l : List Tm) (f : Tm → Tm → Tm → Tm) : List Tm := l.flatMap fun a => pr2 l (f a)
def pr4 (l : List Tm) (f : Tm → Tm → Tm → Tm → Tm) : List Tm := l.flatMap fun a => pr3 l (f a)
theorem Ly {l : List Tm} {f : Tm → Tm → Tm} {a b : Tm} (ha : a ∈ l) (hb : b ∈ l) : f a b ∈ pr2 l f := List.mem_flatMap.2 ⟨a, ha, List.mem_map.2 ⟨b, hb, rfl⟩⟩
theorem LJ {l : List Tm} {f : Tm → Tm → Tm → Tm} {a b c : Tm} (ha : a ∈ l) (hb : b ∈ l) (hc : c ∈ l) : f a b c ∈ pr3 l f := List.mem_flatMap.2 ⟨a, ha, Ly hb hc⟩
theorem MG {l : List Tm} {f : Tm → Tm → Tm → Tm → Tm} {a b c d : Tm} (ha : a ∈ l) (hb : b ∈ l) (hc : c ∈ l) (hd : d ∈ l) : f a b c d ∈ pr4 l f := List.mem_flatMap.2 ⟨a, ha, LJ hb hc hd⟩
def enum : Nat → List Tm
 | 0 => []
 | d + 1 => (List.range ((cw 1).toNat + 1)).map .var ++ ((List.range ((cw 2).toNat + 1)).map .sort ++ ([.nat, .zero] ++ ((enum d).map .succ ++ ((enum d).map .refl ++ ((enum d).map .fst ++ ((enum d).map .snd ++
    (pr2 (enum d) .pi ++ (pr2 (enum d) .sig ++ (pr2 (enum d) .lam ++ (pr2 (enum d) .app ++ (pr3 (enum d) .id ++ (pr3 (enum d) .move ++ (pr3 (enum d) .pair ++ pr4 (enum d) .elim)))))))))))))
theorem A5 : ∀ (d : Nat) (t : Tm), bD (of t) d = true → t ∈ enum d
 | 0, t, h => by
  rw [iK] at h
  simp at h
 | d + 1, t, h => by
  have ih := A5 d
  rw [iK] at h
  simp only [Bool.and_eq_true, decide_eq_true_eq, Nat.add_sub_cancel] at h
  obtain ⟨_, _, hn, hk⟩ := h
  unfold enum
  cases t with
  | var n =>
   simp only [of, Go.Dk.T.n, Go.Dk.T.k] at hn
   exact List.mem_append.2 (.inl (List.mem_map.2 ⟨n, List.mem_range.2 (by omega), rfl⟩))
  | sort n =>
   simp only [of, Go.Dk.T.n, Go.Dk.T.k] at hn
   exact List.mem_append.2 (.inr (List.mem_append.2 (.inl (List.mem_map.2 ⟨n, List.mem_range.2 (by omega), rfl⟩))))
  | _ =>
   simp only [of, Go.Dk.T.kids, bH, Bool.and_true, Bool.and_eq_true] at hk
   simp only [List.mem_append]
   first
    | (simp; done)
    | (have := ih _ hk; simp [this]; done)
    | (have := @Ly _ Tm.pi _ _ (ih _ hk.1) (ih _ hk.2); simp [this]; done)
    | (have := @Ly _ Tm.sig _ _ (ih _ hk.1) (ih _ hk.2); simp [this]; done)
    | (have := @Ly _ Tm.lam _ _ (ih _ hk.1) (ih _ hk.2); simp [this]; done)
    | (have := @Ly _ Tm.app _ _ (ih _ hk.1) (ih _ hk.2); simp [this]; done)
    | (have := @LJ _ Tm.id _ _ _ (ih _ hk.1) (ih _ hk.2.1) (ih _ hk.2.2); simp [this]; done)
    | (have := @LJ _ Tm.move _ _ _ (ih _ hk.1) (ih _ hk.2.1) (ih _ hk.2.2); simp [this]; done)
    | (have := @LJ _ Tm.pair _ _ _ (ih _ hk.1) (ih _ hk.2.1) (ih _ hk.2.2); simp [this]; done)
    | (have := @MG _ Tm.elim _ _ _ _ (ih _ hk.1) (ih _ hk.2.1) (ih _ hk.2.2.1) (ih _ hk.2.2.2); simp [this]; done)
theorem Io : ∃ L : List Tm, ∀ t, vdM t = true → t ∈ L := ⟨enum 30, fun t h => A5 30 t (fj.1 h).1⟩
def C9 (L : List Tm) : Nat → List (List Tm)
 | 0 => [[]]
 | k + 1 => [] :: L.flatMap fun a => (C9 L k).map (a :: ·)
theorem wR (L : List Tm) : ∀ (k : Nat) (G : List Tm), G.length ≤ k → (∀ A ∈ G, A ∈ L) → G ∈ C9 L k
 | 0, [], _, _ => by simp [C9]
 | 0, A :: G, h, _ => by simp at h
 | k + 1, [], _, _ => by simp [C9]
 | k + 1, A :: G, h, hG => List.mem_cons_of_mem _ (List.mem_flatMap.2 ⟨A, hG A List.mem_cons_self, List.mem_map.2 ⟨G, wR L k G (by simpa using h) (fun B hB => hG B (List.mem_cons_of_mem _ hB)), rfl⟩⟩)
theorem L5 {α : Type} (P : α → Nat → Prop) : ∀ (L : List α), (∀ x ∈ L, ∃ B, ∀ n, B ≤ n → P x n) → ∃ B, ∀ x ∈ L, ∀ n, B ≤ n → P x n
 | [], _ => ⟨0, fun x hx => by cases hx⟩
 | a :: L, h => by
  obtain ⟨B, hB⟩ := h a List.mem_cons_self
  obtain ⟨C, hC⟩ := L5 P L fun x hx => h x (List.mem_cons_of_mem _ hx)
  refine ⟨max B C, fun x hx n hn => ?_⟩
  rcases List.mem_cons.1 hx with rfl | hx
  ·exact hB n (by omega)
  ·exact hC x hx n (by omega)
theorem KD (P : List Tm → Nat → Prop) (h : ∀ G : List Tm, (∀ A ∈ G, vdM A = true) → G.length ≤ 8 → ∃ B, ∀ n, B ≤ n → P G n) : ∃ B, ∀ G : List Tm, (∀ A ∈ G, vdM A = true) → G.length ≤ 8 → ∀ n, B ≤ n → P G n := by
 obtain ⟨L, hL⟩ := Io
 obtain ⟨B, hB⟩ := L5 (fun G n => (∀ A ∈ G, vdM A = true) → G.length ≤ 8 → P G n) (C9 L 8) fun G _ => by
  by_cases hg : (∀ A ∈ G, vdM A = true) ∧ G.length ≤ 8
  ·obtain ⟨B, hB⟩ := h G hg.1 hg.2
   exact ⟨B, fun n hn _ _ => hB n hn⟩
  ·exact ⟨0, fun n _ h1 h2 => absurd ⟨h1, h2⟩ hg⟩
 exact ⟨B, fun G hG hl n hn => hB G (wR L 8 G hl fun A hA => hL A (hG A hA)) n hn hG hl⟩
theorem xG (P : Tm → Nat → Prop) (h : ∀ t, vdM t = true → ∃ B, ∀ n, B ≤ n → P t n) : ∃ B, ∀ t, vdM t = true → ∀ n, B ≤ n → P t n := by
 obtain ⟨L, hL⟩ := Io
 obtain ⟨B, hB⟩ := L5 (fun t n => vdM t = true → P t n) L fun t _ => by
  by_cases hv : vdM t = true
  ·obtain ⟨B, hB⟩ := h t hv
   exact ⟨B, fun n hn _ => hB n hn⟩
  ·exact ⟨0, fun n _ h1 => absurd h1 hv⟩
 exact ⟨B, fun t hv n hn => hB t (hL t hv) n hn hv⟩
end Go.Proofs.YtajlknlnmmbfcaaGreat
end
section
namespace Go.Proofs.YtajlknlnmmbfcaaGreat
open Go Go.Ab Go.Dk
open Tm (Rs sq frm lvl chk fam made inI inS tI tS lvr ckr cc pt ps pc Wf)
structure AtG (G : List Tm) (n : Nat) : Prop where
 ctxI : FF n 36 [tms (cx G)] [] = some ([nt (sts (cc O (tI O) G))], [])
 tyI : ∀ t, vdM t = true → FF n 25 [tms (cx G), tm (of t)] [] = some ([tm (zr (pt O (tI O) G t)), nt (sts (pt O (tI O) G t))], [])
 soI : ∀ t, vdM t = true → FF n 38 [tms (cx G), tm (of t)] [] = some ([nt (lvn (ps O (tI O) G t)), nt (sts (ps O (tI O) G t))], [])
 ctI : ∀ t, vdM t = true → ∀ u, vdM u = true → FF n 23 [tms (cx G), tm (of t), tm (of u)] [] = some ([nt (sts (pc O (tI O) G t u))], [])
theorem BJ : ∃ B, ∀ G : List Tm, (∀ A ∈ G, vdM A = true) → G.length ≤ 8 → ∀ n, B ≤ n → AtG G n := by
 refine KD AtG fun G hG h8 => ?_
 obtain ⟨B1, h1⟩ := kG hG h8
 obtain ⟨B3, h3⟩ := xG _ fun t hv => zN hG h8 hv
 obtain ⟨B5, h5⟩ := xG _ fun t hv => Gn hG h8 hv
 obtain ⟨B7, h7⟩ := xG (fun t n => ∀ u, vdM u = true → FF n 23 [tms (cx G), tm (of t), tm (of u)] [] = some ([nt (sts (pc O (tI O) G t u))], [])) fun t hv => by
  obtain ⟨B, h⟩ := xG _ fun u hu => zK hG h8 hv hu
  exact ⟨B, fun n hn u hu => h u hu n hn⟩
 exact ⟨max (max B1 B3) (max B5 B7), fun n hn =>
  ⟨h1 n (by omega), fun t hv => h3 t hv n (by omega), fun t hv => h5 t hv n (by omega), fun t hv u hu => h7 t hv n (by omega) u hu⟩⟩
noncomputable def BB : Nat := max BJ.choose 10000000
theorem iV : 10000000 ≤ BB := by unfold BB; omega
theorem Gz {G : List Tm} (hG : ∀ A ∈ G, vdM A = true) (h8 : G.length ≤ 8) {n : Nat} (hn : BB ≤ n) : AtG G n := BJ.choose_spec G hG h8 n (by unfold BB at hn; omega)
open Classical in
noncomputable def dec (t : T) : Tm := if h : ∃ m, t = of m then h.choose else .nat
theorem jm (m : Tm) : dec (of m) = m := by
 have h : ∃ m', of m = of m' := ⟨m, rfl⟩
 rw [dec, dif_pos h]
 exact (qB h.choose_spec).symm
noncomputable def CN (l : List T) : List Tm := (l.map dec).reverse
theorem cW (G : List Tm) : CN (cx G) = G := by
 rw [CN, cx, List.map_reverse, List.reverse_reverse, List.map_map]
 have : dec ∘ of = id := funext jm
 rw [this, List.map_id]
noncomputable def itI (l : List T) (t : T) : T × Int := if (okA l && ak t) = true then (zr (pt O (tI O) (CN l) (dec t)), sts (pt O (tI O) (CN l) (dec t))) else (.mk 0 0 [], 3)
noncomputable def soI (l : List T) (t : T) : Int × Int := if (okA l && ak t) = true then (lvn (ps O (tI O) (CN l) (dec t)), sts (ps O (tI O) (CN l) (dec t))) else (0, 3)
noncomputable def ctI (l : List T) (t u : T) : Int := if (okA l && (ak t && ak u)) = true then sts (pc O (tI O) (CN l) (dec t) (dec u)) else 3
noncomputable def coI (l : List T) : Int := if okA l = true then sts (cc O (tI O) (CN l)) else 3
section
variable {n : Nat} {l : List T} {t u : T}
theorem fw (hn : BB ≤ n) (hl : l.length ≤ 4000000) (hz : ∀ t ∈ l, t.size ≤ 4000000) : FF n 36 [tms l] [] = some ([nt (coI l)], []) := by
 have := iV
 unfold coI
 cases h : okA l with
 | false => rw [if_neg (by simp)]; exact qe (by omega) hl hz h
 | true =>
  obtain ⟨G, rfl, hG, h8⟩ := jV h
  rw [if_pos rfl, cW]; exact (Gz hG h8 hn).ctxI
theorem I9 (h : okA l = false) : coI l = 3 := by unfold coI; rw [h, if_neg (by simp)]
theorem uw {ts : List T} (hn : BB + 1 ≤ n) (hl : l.length ≤ 4000000) (hz : ∀ t ∈ l, t.size ≤ 4000000) (hl' : ts.length ≤ 4000000) (hz' : ∀ t ∈ ts, t.size ≤ 4000000) (h : (okA l && ts.all ak) = false) : FF n 53 [tms l, tms ts] [] = some ([nt 3], []) := by
 have := iV
 obtain ⟨n, rfl⟩ := ag (show 0 < n by omega)
 rw [E9 (by omega) hl' hz' (fw (by omega) hl hz)]
 cases ha : ts.all ak with
 | true => rw [ha, Bool.and_true] at h; rw [I9 h]; rfl
 | false => rfl
theorem aZ (hn : BB + 2 ≤ n) (hl : l.length ≤ 4000000) (hz : ∀ t ∈ l, t.size ≤ 4000000) (ht : t.size ≤ 4000000) : FF n 25 [tms l, tm t] [] = some ([tm (itI l t).1, nt (itI l t).2], []) := by
 have := iV
 unfold itI
 cases h : okA l && ak t with
 | false =>
  obtain ⟨n, rfl⟩ := ag (show 0 < n by omega)
  rw [if_neg (by simp), dI, show T.mk t.k t.n t.kids = t from by cases t; rfl, uw (by omega) hl hz (by simp) (by simpa using ht) (by simpa using h)]; rfl
 | true =>
  rw [Bool.and_eq_true] at h
  obtain ⟨G, rfl, hG, h8⟩ := jV h.1
  obtain ⟨m, rfl⟩ := ir h.2
  rw [if_pos rfl, cW, jm]; exact (Gz hG h8 (by omega)).tyI m h.2
theorem Ah (hn : BB + 2 ≤ n) (hl : l.length ≤ 4000000) (hz : ∀ t ∈ l, t.size ≤ 4000000) (ht : t.size ≤ 4000000) : FF n 38 [tms l, tm t] [] = some ([nt (soI l t).1, nt (soI l t).2], []) := by
 have := iV
 unfold soI
 cases h : okA l && ak t with
 | false =>
  obtain ⟨n, rfl⟩ := ag (show 0 < n by omega)
  rw [if_neg (by simp), gm, show T.mk t.k t.n t.kids = t from by cases t; rfl, uw (by omega) hl hz (by simp) (by simpa using ht) (by simpa using h)]; rfl
 | true =>
  rw [Bool.and_eq_true] at h
  obtain ⟨G, rfl, hG, h8⟩ := jV h.1
  obtain ⟨m, rfl⟩ := ir h.2
  rw [if_pos rfl, cW, jm]; exact (Gz hG h8 (by omega)).soI m h.2
theorem lC (hn : BB + 2 ≤ n) (hl : l.length ≤ 4000000) (hz : ∀ t ∈ l, t.size ≤ 4000000) (ht : t.size ≤ 4000000) (hu : u.size ≤ 4000000) : FF n 23 [tms l, tm t, tm u] [] = some ([nt (ctI l t u)], []) := by
 have := iV
 unfold ctI
 cases h : okA l && (ak t && ak u) with
 | false =>
  obtain ⟨n, rfl⟩ := ag (show 0 < n by omega)
  rw [if_neg (by simp), dO, show T.mk t.k t.n t.kids = t from by cases t; rfl, show T.mk u.k u.n u.kids = u from by cases u; rfl, uw (by omega) hl hz (by simp) (by simp; omega) (by simpa using h)]; rfl
 | true =>
  rw [Bool.and_eq_true, Bool.and_eq_true] at h
  obtain ⟨G, rfl, hG, h8⟩ := jV h.1
  obtain ⟨m, rfl⟩ := ir h.2.1
  obtain ⟨m', rfl⟩ := ir h.2.2
  rw [if_pos rfl, cW, jm, jm]; exact (Gz hG h8 (by omega)).ctI m h.2.1 m' h.2.2
end
theorem C5 {l : List T} {t : T} (h : (itI l t).2 = 0) : ∃ (G : List Tm) (m A : Tm), l = cx G ∧ t = of m ∧ (∀ A ∈ G, vdM A = true) ∧ G.length ≤ 8 ∧ vdM m = true ∧ Wf G ∧ pt O (tI O) G m = .ok A ∧ tI O G m = .ok A ∧ (itI l t).1 = of A ∧ vdM A = true ∧ Tm.Ty G m A := by
 unfold itI at h ⊢
 cases hv : okA l && ak t with
 | false => rw [hv, if_neg (by simp)] at h; simp at h
 | true =>
  rw [hv, if_pos rfl] at h
  rw [if_pos rfl]
  rw [Bool.and_eq_true] at hv
  obtain ⟨G, rfl, hG, h8⟩ := jV hv.1
  obtain ⟨m, rfl⟩ := ir hv.2
  rw [cW, jm] at h ⊢
  obtain ⟨A, e⟩ := AN.1 h
  obtain ⟨w, e1, _⟩ := Tm.HJ aH e
  refine ⟨G, m, A, rfl, rfl, hG, h8, hv.2, w, e, e1, by rw [e]; rfl, Tm.Df aH w hv.2 e1, (Tm.Fx aH w e1).sound w⟩
theorem gl {l : List T} {t : T} : (itI l t).1.size ≤ 400 := by
 by_cases h : (itI l t).2 = 0
 ·obtain ⟨G, m, A, _, _, _, _, _, _, _, _, e, v, _⟩ := C5 h
  rw [e]; exact ae v
 ·have : (itI l t).1 = .mk 0 0 [] := by
    unfold itI at h ⊢
    split
    ·rename_i hv
     rw [if_pos hv] at h
     cases e : pt O (tI O) (CN l) (dec t) with
     | ok A => rw [e] at h; exact absurd rfl h
     | bad => rfl
     | opn => rfl
    ·rfl
  rw [this]; decide
end Go.Proofs.YtajlknlnmmbfcaaGreat
end
section
namespace Go.Proofs.YtajlknlnmmbfcaaGreat
open Go Go.Ab Go.Dk
open Tm (Rs sq frm lvl chk fam bnd inS kS)
section
variable {M n : Nat} {c : List T} {a b d e' : Tm} {xa xb xd xe : Option Rs}
structure Pt (M : Nat) (c : List T) (t : Tm) (x : Option Rs) : Prop where
 iv : Iv 74 M c (of t) x
 ok : ∀ s, x = some (.ok s) → vdM s = true
theorem p8 (hM : 6000500 ≤ M) (hn : M + 2 ≤ n) (ha : Pt M c a xa) (hb : Pt M (c ++ [of a]) b xb) (hl : c.length ≤ 100) (k m : Int) : ∀ r, (sq (lvl O xa) fun i => sq (lvl O xb) fun j => some (.ok (.sort (max (Tm.lv i) (Tm.lv j))))) = some r →
   RK (FF n 141 [tms c, tm (.mk k m [of a, of b])] []) r := by
 intro r e
 obtain ⟨n, rfl⟩ := ag (show 0 < n by omega)
 rw [rn]
 simp only [evt, qH, rB]
 rcases BP (ic hM (n := n) (by omega) ha.iv ha.ok) e with ⟨i, e1, eo, e2⟩ | ⟨i, c', eo, hc⟩
 ·rw [eo]
  simp only [evt]
  rw [BA (n := n) (by omega) c (of a) (by omega)]
  simp only [evt]
  rcases BP (ic hM (n := n) (by omega) hb.iv hb.ok) e2 with ⟨j, e3, eo, e4⟩ | ⟨j, c', eo, hc⟩
  ·rw [eo]
   simp only [evt]
   rw [Cn (n := n) (by omega)]
   simp only [evt]
   rw [cd (n := n) (by omega)]
   cases e4
   exact ⟨of (.sort (max i j)), 0, rfl, by simp [of, T.size, T.aE], rfl, rfl⟩
  ·rw [eo]
   simp only [evt]
   rw [decide_eq_false hc.ne]
   exact b8 hc _ j1
 ·rw [eo]
  simp only [evt]
  rw [decide_eq_false hc.ne]
  exact b8 hc _ j1
theorem IJ (hM : 6000500 ≤ M) (hn : M + 4 ≤ n) (ha : Pt M c a xa) (hb : Pt M (c ++ [of a]) b xb) (hva : vdM a = true) (hl : c.length ≤ 100) (xB : Tm → Option Rs) (hB : ∀ B, xb = some (.ok B) → Pt M (c ++ [of a]) B (xB B)) : ∀ r,
   (sq (lvl O xa) fun _ => sq xb fun B => sq (sq (lvl O xa) fun i => sq (lvl O (xB B)) fun j => some (.ok (.sort (max (Tm.lv i) (Tm.lv j))))) fun _ => some (.ok (.pi a B))) = some r →
   RK (FF n 142 [tms c, tm (.mk 4 0 [of a, of b])] []) r := by
 intro r e
 obtain ⟨n, rfl⟩ := ag (show 0 < n by omega)
 have za := ae hva
 rw [vJ]
 simp only [evt, qH, rB]
 rcases BP (ic hM (n := n) (by omega) ha.iv ha.ok) e with ⟨i, e1, eo, e2⟩ | ⟨i, c', eo, hc⟩
 ·rw [eo]
  simp only [evt]
  rw [BA (n := n) (by omega) c (of a) (by omega)]
  simp only [evt]
  rcases lG (hb.iv n (by omega)) e2 with ⟨B, e3, eo, e4⟩ | ⟨y, c', eo, hc⟩
  ·rw [eo]
   simp only [evt]
   have vB := hb.ok B e3
   have zB := ae vB
   rw [cr (n := n) (by omega) _ _ (by simp)]
   simp only [evt]
   cases hx : (sq (lvl O xa) fun i => sq (lvl O (xB B)) fun j => some (.ok (.sort (max (Tm.lv i) (Tm.lv j)))) : Option Rs) with
   | none => rw [hx] at e4; cases e4
   | some s =>
    rw [hx] at e4
    obtain ⟨y, c', eo, hy, h2⟩ := p8 hM (n := n) (by omega) ha (hB B e3) hl 3 0 s hx
    simp only [tm, cL, cP, ay] at eo
    rw [eo]
    simp only [y5, evt]
    refine ⟨of (.pi a B), c', rfl, by simp only [of, T.size, T.aE]; omega, ?_⟩
    cases s with
    | ok t => cases e4; exact ⟨h2.1, rfl⟩
    | bad => cases e4; exact h2
    | opn => cases e4; exact h2
  ·rw [eo]
   simp only [evt]
   rw [decide_eq_false hc.ne]
   exact b8 hc _ j1
 ·rw [eo]
  simp only [evt]
  rw [decide_eq_false hc.ne]
  exact b8 hc _ j1
theorem Jz (hM : 6000500 ≤ M) (hn : M + 3 ≤ n) (ha : Pt M c a xa) (hb : Pt M c b xb) (hvb : vdM b = true) : ∀ r,
   (sq (frm O xa) fun F => match F with
   | .pi C B => sq (chk O xb C) fun _ => some (.ok (B.inst b))
   | _ => some .bad) = some r →
   RK (FF n 143 [tms c, tm (.mk 5 0 [of a, of b])] []) r := by
 intro r e
 obtain ⟨n, rfl⟩ := ag (show 0 < n by omega)
 rw [xp]
 simp only [evt, qH, rB]
 rcases jP hM (n := n) (by omega) ha.iv ha.ok 3 e with ⟨f, eo, hk, vf, ef, e2⟩ | ⟨f, eo, hk, e2⟩ | ⟨y, c', eo, hc⟩
 ·rw [eo]
  cases f <;> try (rw [iw] at hk; simp only [Int.reduceEq] at hk; done)
  rename_i C B
  obtain ⟨vC, vB⟩ := aH.v_pi vf
  have zC := ae vC
  simp only [evt, of, qH, rB]
  rcases lO (dk hM (n := n) (by omega) hb.iv hb.ok (w := C) (by omega)) e2 with ⟨t', e3, eo, e4⟩ | ⟨c', eo, hc⟩
  ·rw [eo]
   simp only [evt]
   rw [C2 (n := n) (by omega) vB hvb]
   cases e4
   have := iF vB hvb
   exact ⟨of (B.inst b), 0, rfl, by omega, rfl, rfl⟩
  ·rw [eo]
   simp only [evt]
   rw [decide_eq_false hc.ne]
   exact b8 hc _ j1
 ·rw [eo]
  simp only [evt]
  have : r = .bad := by
   cases f <;> first | (exact absurd (iw _) hk) | (cases e2; rfl)
  subst this
  exact b8 .bad _ j1
 ·rw [eo]
  simp only [evt]
  rw [decide_eq_false hc.ne]
  exact b8 hc _ j1
theorem AW (hM : 6000500 ≤ M) (hn : M + 3 ≤ n) (ha : Pt M c a xa) (hva : vdM (.fst a) = true) :
   (∀ r, (sq (frm O xa) fun Q => match Q with
   | .sig A B => some (.ok A)
   | _ => some .bad) = some r → RK (FF n 171 [tms c, tm (.mk 15 0 [of a])] []) r) ∧
   ∀ r, (sq (frm O xa) fun Q => match Q with
   | .sig A B => some (.ok (B.inst (.fst a)))
   | _ => some .bad) = some r → RK (FF n 171 [tms c, tm (.mk 16 0 [of a])] []) r := by
 obtain ⟨n, rfl⟩ := ag (show 0 < n by omega)
 refine ⟨fun r e => ?_, fun r e => ?_⟩
 ·rw [mi]
  simp only [evt, qH, rB]
  rcases jP hM (n := n) (by omega) ha.iv ha.ok 13 e with ⟨f, eo, hk, vf, ef, e2⟩ | ⟨f, eo, hk, e2⟩ | ⟨y, c', eo, hc⟩
  ·rw [eo]
   cases f <;> try (rw [iw] at hk; simp only [Int.reduceEq] at hk; done)
   rename_i C B
   obtain ⟨vC, vB⟩ := aH.v_sig vf
   have zC := ae vC
   simp only [evt, of, qH, rB]
   cases e2
   exact ⟨of C, 0, rfl, by omega, rfl, rfl⟩
  ·rw [eo]
   simp only [evt]
   have : r = .bad := by
    cases f <;> first | (exact absurd (iw _) hk) | (cases e2; rfl)
   subst this
   exact b8 .bad _ j1
  ·rw [eo]
   simp only [evt]
   rw [decide_eq_false hc.ne]
   exact b8 hc _ j1
 ·rw [mi]
  simp only [evt, qH, rB]
  rcases jP hM (n := n) (by omega) ha.iv ha.ok 13 e with ⟨f, eo, hk, vf, ef, e2⟩ | ⟨f, eo, hk, e2⟩ | ⟨y, c', eo, hc⟩
  ·rw [eo]
   cases f <;> try (rw [iw] at hk; simp only [Int.reduceEq] at hk; done)
   rename_i C B
   obtain ⟨vC, vB⟩ := aH.v_sig vf
   simp only [evt, of, qH, rB, show decide ((16 : Int) = 15) = false from rfl]
   rw [cr (n := n) (by omega) _ _ (by simp)]
   simp only [evt]
   have hi := C2 (n := n) (b := B) (u := .fst a) (by omega) vB hva
   simp only [of, tm, cL, cP, ay] at hi
   rw [hi]
   cases e2
   have := iF vB hva
   exact ⟨of (B.inst (.fst a)), 0, rfl, by omega, rfl, rfl⟩
  ·rw [eo]
   simp only [evt]
   have : r = .bad := by
    cases f <;> first | (exact absurd (iw _) hk) | (cases e2; rfl)
   subst this
   exact b8 .bad _ j1
  ·rw [eo]
   simp only [evt]
   rw [decide_eq_false hc.ne]
   exact b8 hc _ j1
theorem Ky (hM : 6000500 ≤ M) (hn : M + 3 ≤ n) (ha : Pt M c a xa) (hb : Pt M c b xb) (hd : Pt M c d xd) (hva : vdM a = true) : ∀ r,
   (sq (lvl O xa) fun i => sq (chk O xb a) fun _ => sq (chk O xd a) fun _ => some (.ok i)) = some r →
   RK (FF n 145 [tms c, tm (.mk 10 0 [of a, of b, of d])] []) r := by
 intro r e
 obtain ⟨n, rfl⟩ := ag (show 0 < n by omega)
 have za := ae hva
 have sl : ∀ i : Int, (T.mk 2 i []).size ≤ 2000000 := fun i => by simp [T.size, T.aE]
 rw [yR]
 simp only [evt, qH, rB, I5]
 rcases BP (ic hM (n := n) (by omega) ha.iv ha.ok) e with ⟨i, e1, eo, e2⟩ | ⟨i, c', eo, hc⟩
 ·rw [eo]
  simp only [evt]
  rcases lO (dk hM (n := n) (by omega) hb.iv hb.ok (w := a) (by omega)) e2 with ⟨t', e3, eo, e4⟩ | ⟨c', eo, hc⟩
  ·rw [eo]
   simp only [evt]
   rcases lO (dk hM (n := n) (by omega) hd.iv hd.ok (w := a) (by omega)) e4 with ⟨t', e5, eo, e6⟩ | ⟨c', eo, hc⟩
   ·rw [eo]
    simp only [evt]
    rw [cd (n := n) (by omega)]
    cases e6
    exact ⟨of (.sort i), 0, rfl, sl _, rfl, rfl⟩
   ·rw [eo]
    simp only [evt]
    rw [cd (n := n) (by omega)]
    exact b8 hc (.mk 2 i []) (sl _)
  ·rw [eo]
   simp only [evt]
   rw [decide_eq_false hc.ne, cd (n := n) (by omega)]
   exact b8 hc (.mk 2 i []) (sl _)
 ·rw [eo]
  simp only [evt]
  rw [decide_eq_false hc.ne]
  simp only [evt]
  rw [cd (n := n) (by omega)]
  exact b8 hc (.mk 2 i []) (sl _)
theorem GH (hM : 6000500 ≤ M) (hn : M + 4 ≤ n) (ha : Pt M c a xa) (hb : Pt M c b xb) (hd : Pt M c d xd) (he : Pt M c e' xe) (hv : vdM (.elim a b d e') = true) : ∀ r,
   (sq (fam O xa .nat) fun _ => sq (chk O xb (.app a .zero)) fun _ => sq (chk O xd (Tm.bc a)) fun _ => sq (chk O xe .nat) fun _ => some (.ok (.app a e'))) = some r →
   RK (FF n 144 [tms c, tm (.mk 9 0 [of a, of b, of d, of e'])] []) r := by
 intro r e
 obtain ⟨n, rfl⟩ := ag (show 0 < n by omega)
 obtain ⟨va, vb, vd, ve, vz⟩ := aH.v_elim hv
 have za := ae va
 have ze := ae ve
 have zz := ae vz
 have zs := wN va
 have zn : (of .nat).size ≤ 1000000 := by decide
 have sl : (T.mk 5 0 [of a, of e']).size ≤ 2000000 := by simp only [T.size, T.aE]; omega
 have fin : ∀ k, k = n → FF k 81 [nt 5, tms [of a, of e']] [] = some ([tm (.mk 5 0 [of a, of e'])], []) := fun k hk => cr (n := k) (by omega) _ _ (by simp)
 rw [sR]
 simp only [evt, qH, rB, I5, MK, cd (show 1 ≤ n by omega)]
 rcases lO (rP hM (n := n) (by omega) ha.iv ha.ok (w := .nat) zn) e with ⟨t', e1, eo, e2⟩ | ⟨c', eo, hc⟩
 ·simp only [of, tm, cL, cP, ay] at eo
  rw [eo]
  simp only [evt]
  rw [cr (n := n) (by omega) _ _ (by simp)]
  simp only [evt]
  rcases lO (dk hM (n := n) (by omega) hb.iv hb.ok (w := .app a .zero) (by omega)) e2 with ⟨t', e3, eo, e4⟩ | ⟨c', eo, hc⟩
  ·simp only [of, tm, cL, cP, ay] at eo
   rw [eo]
   simp only [evt]
   rw [xu (n := n) (by omega) va]
   simp only [evt]
   rcases lO (dk hM (n := n) (by omega) hd.iv hd.ok (w := Tm.bc a) (by omega)) e4 with ⟨t', e5, eo, e6⟩ | ⟨c', eo, hc⟩
   ·rw [eo]
    simp only [evt]
    rcases lO (dk hM (n := n) (by omega) he.iv he.ok (w := .nat) zn) e6 with ⟨t', e7, eo, e8⟩ | ⟨c', eo, hc⟩
    ·simp only [of, tm, cL, cP, ay] at eo
     rw [eo]
     simp only [evt]
     rw [fin n rfl]
     cases e8
     exact ⟨of (.app a e'), 0, rfl, sl, rfl, rfl⟩
    ·simp only [of, tm, cL, cP, ay] at eo
     rw [eo]
     simp only [evt]
     rw [fin n rfl]
     exact b8 hc _ sl
   ·rw [eo]
    simp only [evt]
    rw [decide_eq_false hc.ne, fin n rfl]
    exact b8 hc _ sl
  ·simp only [of, tm, cL, cP, ay] at eo
   rw [eo]
   simp only [evt]
   rw [decide_eq_false hc.ne]
   simp only [evt]
   rw [fin n rfl]
   exact b8 hc _ sl
 ·simp only [of, tm, cL, cP, ay] at eo
  rw [eo]
  simp only [evt]
  rw [decide_eq_false hc.ne]
  simp only [evt]
  rw [fin n rfl]
  exact b8 hc _ sl
theorem GU (hM : 6000500 ≤ M) (hn : M + 4 ≤ n) (ha : Pt M c a xa) (hb : Pt M c b xb) (hd : Pt M c d xd) (hv : vdM (.move a b d) = true) : ∀ r,
   (sq (frm O xb) fun E => match E with
   | .id t y z => sq (fam O xa t) fun _ => sq (chk O xd (.app a y)) fun _ => some (.ok (.app a z))
   | _ => some .bad) = some r →
   RK (FF n 146 [tms c, tm (.mk 12 0 [of a, of b, of d])] []) r := by
 intro r e
 obtain ⟨n, rfl⟩ := ag (show 0 < n by omega)
 obtain ⟨va, vb, vd⟩ := aH.v_move hv
 have za := ae va
 rw [ui]
 simp only [evt, qH, rB, I5]
 rcases jP hM (n := n) (by omega) hb.iv hb.ok 10 e with ⟨f, eo, hk, vf, ef, e2⟩ | ⟨f, eo, hk, e2⟩ | ⟨y, c', eo, hc⟩
 ·rw [eo]
  cases f <;> try (rw [iw] at hk; simp only [Int.reduceEq] at hk; done)
  rename_i t y z
  obtain ⟨vt, vy, vz⟩ := aH.v_id vf
  have zt := ae vt
  have zy := ae vy
  have zz := ae vz
  have sl : (T.mk 5 0 [of a, of z]).size ≤ 2000000 := by simp only [T.size, T.aE]; omega
  have sy : (of (.app a y)).size ≤ 1000000 := by simp only [of, T.size, T.aE]; omega
  simp only [evt, of, qH, rB, I5]
  rcases lO (rP hM (n := n) (by omega) ha.iv ha.ok (w := t) (by omega)) e2 with ⟨t', e1, eo, e2⟩ | ⟨c', eo, hc⟩
  ·rw [eo]
   simp only [evt]
   rw [cr (n := n) (by omega) _ _ (by simp)]
   simp only [evt]
   rcases lO (dk hM (n := n) (by omega) hd.iv hd.ok (w := .app a y) sy) e2 with ⟨t', e3, eo, e4⟩ | ⟨c', eo, hc⟩
   ·simp only [of, tm, cL, cP, ay] at eo
    rw [eo]
    simp only [evt]
    rw [cr (n := n) (by omega) _ _ (by simp)]
    cases e4
    exact ⟨of (.app a z), 0, rfl, sl, rfl, rfl⟩
   ·simp only [of, tm, cL, cP, ay] at eo
    rw [eo]
    simp only [evt]
    rw [cr (n := n) (by omega) _ _ (by simp)]
    exact b8 hc _ sl
  ·rw [eo]
   simp only [evt]
   rw [decide_eq_false hc.ne]
   simp only [evt]
   rw [cr (n := n) (by omega) _ _ (by simp)]
   exact b8 hc _ sl
 ·rw [eo]
  simp only [evt]
  have : r = .bad := by
   cases f <;> first | (exact absurd (iw _) hk) | (cases e2; rfl)
  subst this
  exact b8 .bad _ j1
 ·rw [eo]
  simp only [evt]
  rw [decide_eq_false hc.ne]
  exact b8 hc _ j1
theorem Gx (hM : 6000500 ≤ M) (hn : M + 4 ≤ n) (ha : Pt M c a xa) (hb : Pt M c b xb) (hd : Pt M c d xd) (hv : vdM (.pair a b d) = true) : ∀ r,
   (sq (lvl O xa) fun _ => sq (some (O.hn a)) fun h => match h with
   | .sig A B => sq (chk O xb A) fun _ => sq (chk O xd (B.inst b)) fun _ => some (.ok a)
   | _ => some .bad) = some r →
   RK (FF n 147 [tms c, tm (.mk 14 0 [of a, of b, of d])] []) r := by
 intro r e
 obtain ⟨n, rfl⟩ := ag (show 0 < n by omega)
 obtain ⟨va, vb, vd⟩ := aH.v_pair hv
 have za := ae va
 rw [uU]
 simp only [evt, qH, rB, I5]
 rcases BP (ic hM (n := n) (by omega) ha.iv ha.ok) e with ⟨i, e1, eo, e2⟩ | ⟨i, c', eo, hc⟩
 ·rw [eo]
  simp only [evt]
  rcases lG (yV (P := RS) (mJ (n := n) (m := a) (by omega) (by omega))) e2 with ⟨f, e3, eo, e4⟩ | ⟨y, c', eo, hc⟩
  ·rw [eo]
   simp only [evt]
   have vf := (aH.hn_ok (Option.some.inj e3)).2.2
   by_cases hk : (of f).k = 13
   ·rw [decide_eq_true hk]
    simp only [evt]
    cases f <;> try (rw [iw] at hk; simp only [Int.reduceEq] at hk; done)
    rename_i C B
    obtain ⟨vC, vB⟩ := aH.v_sig vf
    have zC := ae vC
    have zi := iF vB vb
    simp only [evt, of, qH, rB, I5]
    rcases lO (dk hM (n := n) (by omega) hb.iv hb.ok (w := C) (by omega)) e4 with ⟨t', e5, eo, e6⟩ | ⟨c', eo, hc⟩
    ·rw [eo]
     simp only [evt]
     rw [C2 (n := n) (by omega) vB vb]
     simp only [evt]
     rcases lO (dk hM (n := n) (by omega) hd.iv hd.ok (w := B.inst b) (by omega)) e6 with ⟨t', e7, eo, e8⟩ | ⟨c', eo, hc⟩
     ·rw [eo]
      simp only [evt]
      cases e8
      exact ⟨of a, 0, rfl, by omega, rfl, rfl⟩
     ·rw [eo]
      simp only [evt]
      exact b8 hc _ (by omega)
    ·rw [eo]
     simp only [evt]
     rw [decide_eq_false hc.ne]
     exact b8 hc _ (by omega)
   ·rw [decide_eq_false hk]
    have : r = .bad := by
     cases f <;> first | (exact absurd (iw _) hk) | (cases e4; rfl)
    subst this
    exact b8 .bad _ j1
  ·rw [eo]
   simp only [evt]
   rw [decide_eq_false hc.ne]
   exact b8 hc _ j1
 ·rw [eo]
  simp only [evt]
  rw [decide_eq_false hc.ne]
  exact b8 hc _ j1
end
theorem cV {o : OR} {r : Rs} (h : RK o r) : RK (o.bind fun x0 => ah x0.1 fun x1 x2 => aw .i64 x2 fun x3 x4 => ai x4 (aj x0.2 (some ([.agg [.int .i64 x1.k, .int .i64 x1.n, .fr (.ts x1.kids)], .one (.int .i64 x3)], [])))) r := by
 obtain ⟨x, c, rfl, hz, h2⟩ := h
 simp only [evt]
 exact ⟨x, c, rfl, hz, h2⟩
theorem IN {o : OR} {r : Rs} {u : Tm} {xx : Option Rs} (h : ∀ r, xx = some r → RC o r) (hu : (of u).size ≤ 2000000) (e : (sq xx fun _ => some (.ok u)) = some r) : RK (o.bind fun x7 => aw .i64 x7.1 fun x8 x9 => ai x9 (aj x7.2 (some ([tm (of u), .one (.int .i64 x8)], [])))) r := by
 rcases lO h e with ⟨t, e1, eo, e2⟩ | ⟨c, eo, hc⟩
 ·rw [eo]
  simp only [evt]
  cases e2
  exact ⟨of u, 0, rfl, hu, rfl, rfl⟩
 ·rw [eo]
  simp only [evt]
  exact b8 hc _ hu
def IhS (g B : Nat) : Prop := ∀ (n : Nat) (G : List Tm) (t : Tm), B ≤ n → (∀ A ∈ G, vdM A = true) → G.length ≤ 21 → vdM t = true → ∀ r, inS O g G t = some r → RS (FF n 74 [tms (cx G), tm (of t)] []) r
theorem IhS.pt {g B : Nat} (ih : IhS g B) {G : List Tm} {t : Tm} (hG : ∀ A ∈ G, vdM A = true) (hl : G.length ≤ 21) (hv : vdM t = true) : Pt B (cx G) t (inS O g G t) :=
 ⟨fun m hm r e => ih m G t hm hG hl hv r e, fun s e => (Tm.bF aH e).2⟩
theorem Gb {g B : Nat} (ih : IhS g B) (hB : 6000500 ≤ B) {n : Nat} {G : List Tm} {t : Tm} (hn : B + 10 ≤ n) (hG : ∀ A ∈ G, vdM A = true) (hl : G.length ≤ 20) (hv : vdM t = true) :
   ∀ r, kS O (inS O g) G t = some r → RK (FF n 111 [tms (cx G), tm (of t)] []) r := by
 intro r e
 obtain ⟨n, rfl⟩ := ag (show 0 < n by omega)
 have hcl : (cx G).length ≤ 100 := by rw [bO]; omega
 have pt : ∀ {u}, vdM u = true → Pt B (cx G) u (inS O g G u) := fun h => ih.pt hG (by omega) h
 have pb : ∀ {a u}, vdM a = true → vdM u = true → Pt B (cx G ++ [of a]) u (inS O g (a :: G) u) := fun {a u} ha hu => by
  rw [← qy]
  exact ih.pt (fun A hA => by rcases List.mem_cons.1 hA with rfl | hA; exact ha; exact hG A hA) (by simp only [List.length_cons]; omega) hu
 rw [tO]
 cases t with
 | pi a b =>
  obtain ⟨va, vb⟩ := aH.v_pi hv
  simp only [of, cL, cP, ay, decide_true, cond_true]
  exact cV (p8 hB (n := n) (by omega) (pt va) (pb va vb) hcl 3 0 r e)
 | sig a b =>
  obtain ⟨va, vb⟩ := aH.v_sig hv
  simp only [of, cL, cP, ay, Int.reduceEq, decide_true, decide_false, cond_true, cond_false]
  exact cV (p8 hB (n := n) (by omega) (pt va) (pb va vb) hcl 13 0 r e)
 | lam a b =>
  obtain ⟨va, vb⟩ := aH.v_lam hv
  simp only [of, cL, cP, ay, Int.reduceEq, decide_true, decide_false, cond_true, cond_false]
  exact cV (IJ hB (n := n) (by omega) (pt va) (pb va vb) va hcl (fun X => inS O g (a :: G) X) (fun X eX => pb va (Tm.bF aH eX).2) r e)
 | app a b =>
  obtain ⟨va, vb⟩ := aH.v_app hv
  simp only [of, cL, cP, ay, Int.reduceEq, decide_true, decide_false, cond_true, cond_false]
  exact cV (Jz hB (n := n) (by omega) (pt va) (pt vb) vb r e)
 | elim p z s m =>
  obtain ⟨va, vb, vd, ve, _⟩ := aH.v_elim hv
  simp only [of, cL, cP, ay, Int.reduceEq, decide_true, decide_false, cond_true, cond_false]
  exact cV (GH hB (n := n) (by omega) (pt va) (pt vb) (pt vd) (pt ve) hv r e)
 | id a b d =>
  obtain ⟨va, vb, vd⟩ := aH.v_id hv
  simp only [of, cL, cP, ay, Int.reduceEq, decide_true, decide_false, cond_true, cond_false]
  exact cV (Ky hB (n := n) (by omega) (pt va) (pt vb) (pt vd) va r e)
 | move a b d =>
  obtain ⟨va, vb, vd⟩ := aH.v_move hv
  simp only [of, cL, cP, ay, Int.reduceEq, decide_true, decide_false, cond_true, cond_false]
  exact cV (GU hB (n := n) (by omega) (pt va) (pt vb) (pt vd) hv r e)
 | pair a b d =>
  obtain ⟨va, vb, vd⟩ := aH.v_pair hv
  simp only [of, cL, cP, ay, Int.reduceEq, decide_true, decide_false, cond_true, cond_false]
  exact cV (Gx hB (n := n) (by omega) (pt va) (pt vb) (pt vd) hv r e)
 | var m =>
  simp only [of, cL, cP, ay, Int.reduceEq, decide_true, decide_false, cond_true, cond_false]
  refine cV ?_
  obtain ⟨n, rfl⟩ := ag (show 0 < n by omega)
  rw [bN]
  simp only [decide_true, cond_true, cond_false]
  have e : (match Tm.look G m with | some A => some (Rs.ok A) | none => some Rs.bad) = some r := e
  rw [bO]
  cases hlk : Tm.look G m with
  | none =>
   rw [hlk] at e; cases e
   have := p7 hlk
   rw [decide_eq_true (show (G.length : Int) ≤ m by omega)]
   exact b8 .bad _ j1
  | some A =>
   rw [hlk] at e; cases e
   have hlt := Ei hlk
   obtain ⟨C, hC, rfl⟩ := oI hlk
   have vC := hG C (List.mem_of_getElem? hC)
   have zC := ae vC
   have hg := HQ G hlt
   rw [hC] at hg
   have w : IntKind.i64.wrap (IntKind.i64.wrap ((G.length : Int) - 1) - m) = ((G.length - 1 - m : Nat) : Int) := by
    rw [wrap64 (a := (G.length : Int) - 1) (by omega), wrap64 (by omega)]; omega
   have w1 : IntKind.i64.wrap ((m : Int) + 1) = ((m + 1 : Nat) : Int) := by rw [wrap64 (by omega)]; rfl
   rw [decide_eq_false (show ¬ (G.length : Int) ≤ m by omega), w, decide_eq_true (show (0 : Int) ≤ ((G.length - 1 - m : Nat) : Int) by omega), Int.toNat_natCast, hg, w1]
   simp only [Option.map_some, evt]
   have hs := tg (n := n) (b := C) (a := m + 1) (by omega) vC (by omega)
   rw [hs]
   simp only [evt]
   refine ⟨of (C.ren (· + (m + 1))), 0, rfl, ?_, rfl, rfl⟩
   have := Co (m + 1) C 0
   rw [kq] at this
   rw [← this, m5]; omega
 | sort m =>
  simp only [of, cL, cP, ay, Int.reduceEq, decide_true, decide_false, cond_true, cond_false]
  refine cV ?_
  obtain ⟨n, rfl⟩ := ag (show 0 < n by omega)
  rw [bN]
  simp only [decide_true, cond_true, cond_false, show decide ((2 : Int) = 1) = false from rfl]
  have hm := aH.v_sort.1 hv
  have e : some (if m < 3 then Rs.ok (.sort (m + 1)) else Rs.bad) = some r := e
  by_cases h3 : m < 3
  ·rw [if_pos h3] at e; cases e
   rw [decide_eq_false (show ¬ (3 : Int) ≤ m by omega), wrap64 (show -9223372036854775808 ≤ (m : Int) + 1 ∧ (m : Int) + 1 ≤ 9223372036854775807 by omega)]
   simp only [evt]
   rw [cd (n := n) (by omega)]
   simp only [evt]
   exact ⟨of (.sort (m + 1)), 0, rfl, by simp [of, T.size, T.aE], rfl, rfl⟩
  ·rw [if_neg h3] at e; cases e
   rw [decide_eq_true (show (3 : Int) ≤ m by omega)]
   exact b8 .bad _ j1
 | nat =>
  simp only [of, cL, cP, ay, Int.reduceEq, decide_true, decide_false, cond_true, cond_false]
  refine cV ?_
  obtain ⟨n, rfl⟩ := ag (show 0 < n by omega)
  rw [bN]
  simp only [decide_true, cond_true, cond_false, show decide ((6 : Int) = 1) = false from rfl, show decide ((6 : Int) = 2) = false from rfl]
  rw [cd (n := n) (by omega)]
  simp only [evt]
  cases e
  exact ⟨of (.sort 0), 0, rfl, by decide, rfl, rfl⟩
 | zero =>
  simp only [of, cL, cP, ay, Int.reduceEq, decide_true, decide_false, cond_true, cond_false]
  refine cV ?_
  obtain ⟨n, rfl⟩ := ag (show 0 < n by omega)
  rw [bN]
  simp only [decide_true, cond_true, cond_false, show decide ((7 : Int) = 1) = false from rfl, show decide ((7 : Int) = 2) = false from rfl, show decide ((7 : Int) = 6) = false from rfl]
  rw [cd (n := n) (by omega)]
  simp only [evt]
  cases e
  exact ⟨of .nat, 0, rfl, by decide, rfl, rfl⟩
 | succ a =>
  simp only [of, cL, cP, ay, Int.reduceEq, decide_true, decide_false, cond_true, cond_false]
  refine cV ?_
  obtain ⟨n, rfl⟩ := ag (show 0 < n by omega)
  rw [bN]
  simp only [decide_true, cond_true, cond_false, show decide ((8 : Int) = 1) = false from rfl, show decide ((8 : Int) = 2) = false from rfl, show decide ((8 : Int) = 6) = false from rfl, show decide ((8 : Int) = 7) = false from rfl]
  have va := aH.v_succ hv
  have zn : (of .nat).size ≤ 1000000 := by decide
  rw [cd (n := n) (by omega)]
  simp only [evt, qH]
  exact IN (u := .nat) (dk hB (n := n) (by omega) (pt va).iv (pt va).ok (w := .nat) zn) (by decide) e
 | refl a =>
  simp only [of, cL, cP, ay, Int.reduceEq, decide_true, decide_false, cond_true, cond_false]
  refine cV ?_
  obtain ⟨n, rfl⟩ := ag (show 0 < n by omega)
  rw [bN]
  simp only [decide_true, cond_true, cond_false, show decide ((11 : Int) = 1) = false from rfl, show decide ((11 : Int) = 2) = false from rfl, show decide ((11 : Int) = 6) = false from rfl, show decide ((11 : Int) = 7) = false from rfl, show decide ((11 : Int) = 8) = false from rfl]
  have va := aH.v_refl hv
  have za := ae va
  simp only [evt, qH]
  have e : (sq (inS O g G a) fun A => sq (lvl O (inS O g G A)) fun _ => some (.ok (.id A a a))) = some r := e
  rcases KG ((pt va).iv n (by omega)) e with ⟨A, e1, eo, e2⟩ | ⟨y, c', eo, hy, hc⟩
  ·rw [eo]
   have vA := (pt va).ok A e1
   have zA := ae vA
   have sl : (T.mk 10 0 [of A, of a, of a]).size ≤ 2000000 := by simp only [T.size, T.aE]; omega
   simp only [evt]
   rcases BP (ic hB (n := n) (by omega) (pt vA).iv (pt vA).ok) e2 with ⟨i, e3, eo, e4⟩ | ⟨i, c', eo, hc⟩
   ·rw [eo]
    simp only [evt]
    rw [cr (n := n) (by omega) _ _ (by simp)]
    simp only [evt]
    cases e4
    exact ⟨of (.id A a a), 0, rfl, sl, rfl, rfl⟩
   ·rw [eo]
    simp only [evt]
    rw [cr (n := n) (by omega) _ _ (by simp)]
    simp only [evt]
    exact b8 hc _ sl
  ·have sl : (T.mk 10 0 [y, of a, of a]).size ≤ 2000000 := by simp only [T.size, T.aE]; omega
   rw [eo]
   simp only [evt]
   rw [decide_eq_false hc.ne]
   simp only [evt]
   rw [cr (n := n) (by omega) _ _ (by simp)]
   simp only [evt]
   exact b8 hc _ sl
 | fst q =>
  simp only [of, cL, cP, ay, Int.reduceEq, decide_true, decide_false, cond_true, cond_false]
  refine cV ?_
  obtain ⟨n, rfl⟩ := ag (show 0 < n by omega)
  rw [bN]
  simp only [decide_true, cond_true, cond_false, show decide ((15 : Int) = 1) = false from rfl, show decide ((15 : Int) = 2) = false from rfl, show decide ((15 : Int) = 6) = false from rfl, show decide ((15 : Int) = 7) = false from rfl, show decide ((15 : Int) = 8) = false from rfl, show decide ((15 : Int) = 11) = false from rfl]
  have vq := aH.v_fst hv
  exact cV ((AW hB (n := n) (by omega) (pt vq) hv).1 r e)
 | snd q =>
  simp only [of, cL, cP, ay, Int.reduceEq, decide_true, decide_false, cond_true, cond_false]
  refine cV ?_
  obtain ⟨n, rfl⟩ := ag (show 0 < n by omega)
  rw [bN]
  simp only [decide_true, cond_true, cond_false, show decide ((16 : Int) = 1) = false from rfl, show decide ((16 : Int) = 2) = false from rfl, show decide ((16 : Int) = 6) = false from rfl, show decide ((16 : Int) = 7) = false from rfl, show decide ((16 : Int) = 8) = false from rfl, show decide ((16 : Int) = 11) = false from rfl]
  have vq := aH.v_snd hv
  have vf : vdM (.fst q) = true := by
   have h := fj.1 hv
   rw [fj]
   exact h
  exact cV ((AW hB (n := n) (by omega) (pt vq) vf).2 r e)
theorem vI : ∀ g, IhS g (6000500 + 20 * g)
 | 0 => fun n G t hn hG hl hv r e => by cases e
 | g + 1 => fun n G t hn hG hl hv r e => by
  obtain ⟨n, rfl⟩ := ag (show 0 < n by omega)
  have hz := ae hv
  have ev : ak (of t) = true := hv
  rw [rE, aW (n := n) (by omega) (by omega), ev, bO]
  simp only [evt]
  rw [inS] at e
  by_cases h20 : 20 < G.length
  ·rw [if_pos (.inr h20)] at e; cases e
   rw [decide_eq_true (show (20 : Int) < G.length by omega)]
   exact p6 .opn _ j0
  ·have hn0 : ¬ (O.vd t = false ∨ 20 < G.length) := by
     rintro (h | h)
     ·rw [show O.vd t = vdM t from rfl, hv] at h; cases h
     ·exact h20 h
   rw [if_neg hn0] at e
   rw [decide_eq_false (show ¬ (20 : Int) < G.length by omega)]
   simp only [cond_false]
   cases hk : kS O (inS O g) G t with
   | none => rw [hk] at e; cases e
   | some s =>
    rw [hk] at e
    obtain ⟨x, c, eo, hx, h2⟩ := Gb (vI g) (by omega) (n := n) (by omega) hG (by omega) hv s hk
    rw [eo]
    simp only [evt]
    cases s with
    | ok u =>
     obtain ⟨rfl, rfl⟩ := h2
     have e : Tm.made O u = some r := e
     unfold Tm.made at e
     rw [aW (n := n) (t := of u) (by omega) (by omega)]
     simp only [evt]
     cases hu : vdM u with
     | false =>
      have eu : ak (of u) = false := hu
      rw [if_neg (by rw [show O.vd u = vdM u from rfl, hu]; simp)] at e; cases e
      rw [eu]
      exact p6 .opn _ j0
     | true =>
      have eu : ak (of u) = true := hu
      have zu := ae eu
      rw [if_pos (by rw [show O.vd u = vdM u from rfl, hu])] at e; cases e
      rw [eu]
      exact ⟨of u, 0, rfl, by omega, rfl, rfl⟩
    | bad =>
     cases e
     have h2 : c = 1 := h2
     subst h2
     exact p6 .bad _ j0
    | opn =>
     cases e
     have h2 : c = 2 := h2
     subst h2
     exact p6 .opn _ j0
end Go.Proofs.YtajlknlnmmbfcaaGreat
end
section
namespace Go.Proofs.YtajlknlnmmbfcaaGreat
open Go Go.Ab Go.Dk
open Tm (Rs sq frm lvl chk fam made inI inS tI tS lvr ckr cc pt ps pc Wf)
theorem lW {G : List Tm} {t : Tm} (w : Wf G) (hG : ∀ A ∈ G, vdM A = true) (hl : G.length ≤ 20) (hv : vdM t = true) : ∃ B, 6000500 ≤ B ∧ Iv 74 B (cx G) (of t) (some (tS O G t)) := by
 obtain ⟨N, hN⟩ := Tm.FM aH w t
 refine ⟨6000500 + 20 * N, by omega, fun m hm r e => ?_⟩
 cases e
 exact vI N m G t hm hG (by omega) hv _ (hN N (Nat.le_refl N))
theorem ET {M n : Nat} {c : List T} {t : T} {x : Rs} (hM : 6000500 ≤ M) (hn : M + 1 ≤ n) (h : Iv 74 M c t (some x)) (hv : ∀ s, x = .ok s → vdM s = true) : FF n 72 [tms c, tm t] [] = some ([nt (lvn (lvr O x)), nt (sts (lvr O x))], []) := by
 obtain ⟨n, rfl⟩ := ag (show 0 < n by omega)
 have e := Tm.rS (O := O) x
 obtain ⟨i, c', eo, h2⟩ := ic hM hn h (fun s e => hv s (Option.some.inj e)) _ e
 unfold lvl frm at e
 rw [Tm.a8] at e
 rw [lJ]
 rcases lG (h n (by omega)) e with ⟨s, e1, eo, e2⟩ | ⟨y, c', eo, hc⟩
 ·rw [eo]
  simp only [evt]
  have hs := ae (hv s (Option.some.inj e1))
  rcases lG (yV (P := RS) (mJ (n := n) (m := s) (by omega) (by omega))) e2 with ⟨f, e3, eo, e4⟩ | ⟨y, c', eo, hc⟩
  ·rw [eo]
   simp only [evt]
   cases f with
   | sort i => rw [← Option.some.inj e4]; rfl
   | _ => rw [← Option.some.inj e4]; rfl
  ·rw [eo]
   simp only [evt]
   rw [decide_eq_false hc.ne]
   rcases hc with ⟨rfl, hr⟩ | ⟨rfl, hr⟩ <;> rw [hr] <;> rfl
 ·rw [eo]
  simp only [evt]
  rw [decide_eq_false hc.ne]
  rcases hc with ⟨rfl, hr⟩ | ⟨rfl, hr⟩ <;> rw [hr] <;> rfl
theorem EC {G : List Tm} {t : Tm} (w : Wf G) (hG : ∀ A ∈ G, vdM A = true) (hl : G.length ≤ 20) (hv : vdM t = true) : ∃ B, ∀ n, B ≤ n → RL (FF n 72 [tms (cx G), tm (of t)] []) (lvr O (tS O G t)) := by
 obtain ⟨B, hB, h⟩ := lW w hG hl hv
 exact ⟨B + 2, fun n hn => ic hB (by omega) h (fun s e => Tm.Hb aH w (Option.some.inj e)) _ (Tm.rS _)⟩
theorem Cc {G : List Tm} {t : Tm} (w : Wf G) (hG : ∀ A ∈ G, vdM A = true) (hl : G.length ≤ 20) (hv : vdM t = true) : ∃ B, ∀ n, B ≤ n → FF n 72 [tms (cx G), tm (of t)] [] = some ([nt (lvn (lvr O (tS O G t))), nt (sts (lvr O (tS O G t)))], []) := by
 obtain ⟨B, hB, h⟩ := lW w hG hl hv
 exact ⟨B + 2, fun n hn => ET hB (by omega) h (fun s e => Tm.Hb aH w e)⟩
theorem Fe {G : List Tm} {t u : Tm} (w : Wf G) (hG : ∀ A ∈ G, vdM A = true) (hl : G.length ≤ 20) (hv : vdM t = true) (hu : vdM u = true) : ∃ B, ∀ n, B ≤ n → FF n 85 [tms (cx G), tm (of t), tm (of u)] [] = some ([nt (sts (ckr O (tS O G t) u))], []) := by
 obtain ⟨B, hB, h⟩ := lW w hG hl hv
 have zu := ae hu
 exact ⟨B + 2, fun n hn => HL (dk hB (by omega) h (fun s e => Tm.Hb aH w (Option.some.inj e)) (by omega) _ (Tm.Ar _ _))⟩
theorem xk : ∀ (Q H : List Tm), (∀ A ∈ H, vdM A = true) → (∀ A ∈ Q, vdM A = true) → H.length + Q.length ≤ 20 → (∃ t, cc O (tS O) H = .ok t) → ∃ B, ∀ n, B ≤ n → ∀ m, Q.length < m →
   bC n m (cx H ++ Q.map of) (H.length : Nat) = some ([nt (sts (cc O (tS O) (Q.reverse ++ H)))], [])
 | [], H, vH, vQ, hl, ⟨t, ht⟩ => by
  refine ⟨0, fun n hn m hm => ?_⟩
  obtain ⟨m, rfl⟩ := ag (show 0 < m by omega)
  rw [dX, decide_eq_false (show ¬ ((H.length : Nat) : Int) < ((cx H ++ ([] : List Tm).map of).length : Int) by simp [bO])]
  rw [List.reverse_nil, List.nil_append, ht]; rfl
 | A :: Q, H, vH, vQ, hl, ⟨t, ht⟩ => by
  have w := Tm.wy aH ht
  have vA := vQ A List.mem_cons_self
  have eG : (A :: Q).reverse ++ H = Q.reverse ++ (A :: H) := by simp
  have ex : cx H ++ (A :: Q).map of = cx (A :: H) ++ Q.map of := by simp [cx]
  have hcA : cc O (tS O) (A :: H) = lvr O (tS O H A) := by rw [cc, ht]
  simp only [List.length_cons] at hl
  obtain ⟨B1, h1⟩ := EC w vH (by omega) vA
  have hget : (cx H ++ (A :: Q).map of)[H.length]? = some (of A) := by
   rw [List.getElem?_append_right (by rw [bO]; omega), bO, Nat.sub_self]; rfl
  have htk : (cx H ++ (A :: Q).map of).take H.length = cx H := by
   have := List.take_left (l₁ := cx H) (l₂ := (A :: Q).map of)
   rw [bO] at this; exact this
  have hlen : (cx H ++ (A :: Q).map of).length = H.length + (Q.length + 1) := by simp [bO]
  have step : ∀ n, B1 ≤ n → ∀ m, bC n (m + 1) (cx H ++ (A :: Q).map of) (H.length : Nat) =
     cond (!decide (sts (lvr O (tS O H A)) = 0)) (some ([nt (sts (lvr O (tS O H A)))], [])) (bC n m (cx H ++ (A :: Q).map of) ((H.length + 1 : Nat) : Int)) := by
   intro n hn m
   obtain ⟨i, eo, _⟩ := K8 (h1 n hn)
   rw [dX, decide_eq_true (show ((H.length : Nat) : Int) < ((cx H ++ (A :: Q).map of).length : Int) by rw [hlen]; omega), cond_true, show Go.Ab.inB 0 ((H.length : Nat) : Int) (cx H ++ (A :: Q).map of).length = true from by rw [hlen]; simp [Go.Ab.inB]; omega, cond_true, decide_eq_true (show (0 : Int) ≤ ((H.length : Nat) : Int) by omega), cond_true, Int.toNat_natCast, hget]
   simp only [Option.bind_some]
   rw [htk, show (0 : Int).toNat = 0 from rfl, List.drop_zero]
   have eo : FF n 72 [tms (cx H), .agg [.int .i64 (of A).k, .int .i64 (of A).n, .fr (.ts (of A).kids)]] [] = _ := eo
   rw [eo]
   simp only [evt]
   rw [wrap64 (show -9223372036854775808 ≤ ((H.length : Nat) : Int) + 1 ∧ ((H.length : Nat) : Int) + 1 ≤ 9223372036854775807 by omega)]
   rfl
  cases hr : lvr O (tS O H A) with
  | ok s =>
   obtain ⟨B2, h2⟩ := xk Q (A :: H) (fun C hC => by rcases List.mem_cons.1 hC with rfl | hC; exact vA; exact vH C hC) (fun C hC => vQ C (List.mem_cons_of_mem _ hC)) (by simp only [List.length_cons]; omega) ⟨s, hcA.trans hr⟩
   refine ⟨max B1 B2, fun n hn m hm => ?_⟩
   obtain ⟨m, rfl⟩ := ag (show 0 < m by omega)
   simp only [List.length_cons] at hm
   have := h2 n (by omega) m (by omega)
   rw [step n (by omega), hr, eG, ex]
   simp only [sts, decide_true, Bool.not_true, cond_false]
   rw [List.length_cons] at this
   exact this
  | bad =>
   refine ⟨B1, fun n hn m hm => ?_⟩
   obtain ⟨m, rfl⟩ := ag (show 0 < m by omega)
   rw [step n hn, hr, eG, wu (fun t e => by rw [hcA, hr] at e; cases e), hcA, hr]; rfl
  | opn =>
   refine ⟨B1, fun n hn m hm => ?_⟩
   obtain ⟨m, rfl⟩ := ag (show 0 < m by omega)
   rw [step n hn, hr, eG, wu (fun t e => by rw [hcA, hr] at e; cases e), hcA, hr]; rfl
theorem ox {n : Nat} {l : List T} (hn : 4500000 ≤ n) (hl : l.length ≤ 4000000) (hz : ∀ t ∈ l, t.size ≤ 4000000) (h : okA l = false) : FF n 37 [tms l] [] = some ([nt 3], []) := by
 obtain ⟨n, rfl⟩ := ag (show 0 < n by omega)
 rw [gF, jf (by omega) hl hz, h]
 rfl
theorem gH {G : List Tm} (hG : ∀ A ∈ G, vdM A = true) (hl : G.length ≤ 8) : ∃ B, ∀ n, B ≤ n → FF n 37 [tms (cx G)] [] = some ([nt (sts (cc O (tS O) G))], []) := by
 obtain ⟨B, h⟩ := xk G.reverse [] (fun A hA => by cases hA) (fun A hA => hG A (List.mem_reverse.1 hA)) (by simp; omega) ⟨.nat, rfl⟩
 refine ⟨max B 4400000 + 1, fun n hn => ?_⟩
 obtain ⟨n, rfl⟩ := ag (show 0 < n by omega)
 have hz : ∀ t ∈ cx G, t.size ≤ 4000000 := fun t ht => by
  obtain ⟨A, hA, rfl⟩ := List.mem_map.1 (List.mem_reverse.1 (show t ∈ (G.map of).reverse from ht))
  have := ae (hG A hA); omega
 have hl' : (cx G).length ≤ 4000000 := by rw [bO]; omega
 rw [gF, jf (by omega) hl' hz, qR hG hl]
 simp only [evt]
 have e2 := h n (by omega) n (by rw [List.length_reverse]; omega)
 rw [List.append_nil, List.reverse_reverse] at e2
 have e3 : cx [] ++ G.reverse.map of = cx G := by rw [show cx [] = [] from rfl, List.nil_append, cx, List.map_reverse]
 rw [e3] at e2
 exact e2
theorem uE {n : Nat} {l : List T} {t : T} (hn : 4500000 ≤ n) (hl : l.length ≤ 4000000) (hz : ∀ t ∈ l, t.size ≤ 4000000) (ht : t.size ≤ 4000000) (h : (okA l && ak t) = false) : FF n 40 [tms l, tm t] [] = some ([tm (.mk 0 0 []), nt 3], []) := by
 obtain ⟨n, rfl⟩ := ag (show 0 < n by omega)
 rw [dQ, jf (by omega) hl hz]
 cases h1 : okA l with
 | false => rfl
 | true =>
  rw [h1, Bool.true_and] at h
  simp only [evt]
  rw [aW (by omega) ht, h]; rfl
theorem wL {G : List Tm} {t : Tm} (hG : ∀ A ∈ G, vdM A = true) (h8 : G.length ≤ 8) (hv : vdM t = true) : ∃ B, ∀ n, B ≤ n → FF n 40 [tms (cx G), tm (of t)] [] = some ([tm (zr (pt O (tS O) G t)), nt (sts (pt O (tS O) G t))], []) := by
 have zt := ae hv
 obtain ⟨B, hB⟩ := gH hG h8
 have hz := tE hG
 have hl : (cx G).length ≤ 4000000 := by rw [bO]; omega
 have ht : ak (of t) = true := hv
 have pre : ∀ n, 4500000 ≤ n → FF n 64 [tms (cx G)] [] = some ([bl true], []) ∧ FF n 65 [.agg [.int .i64 (of t).k, .int .i64 (of t).n, .fr (.ts (of t).kids)]] [] = some ([bl true], []) := fun n hn =>
  ⟨by rw [jf (by omega) hl hz, qR hG h8], by have := aW (n := n) (t := of t) (by omega) (by omega); rw [ht] at this; exact this⟩
 unfold pt
 cases hc : cc O (tS O) G with
 | ok C =>
  have w := Tm.wy aH hc
  obtain ⟨B', hB', h'⟩ := lW w hG (by omega) hv
  refine ⟨max (max B 4500000) B' + 1, fun n hn => ?_⟩
  obtain ⟨n, rfl⟩ := ag (show 0 < n by omega)
  have e1 := hB n (by omega)
  rw [hc] at e1
  rw [dQ, (pre n (by omega)).1]
  simp only [evt]
  rw [(pre n (by omega)).2]
  simp only [evt]
  rw [e1]
  obtain ⟨x, eo, hxz, hx⟩ := K6 (h' n (by omega) _ rfl)
  simp only [evt, sts]
  have eo : FF n 74 [tms (cx G), .agg [.int .i64 (of t).k, .int .i64 (of t).n, .fr (.ts (of t).kids)]] [] = _ := eo
  rw [eo]
  simp only [evt]
  obtain ⟨n, rfl⟩ := ag (show 0 < n by omega)
  cases hr : tS O G t with
  | ok A =>
   have vA : vdM A = true := Tm.Hb aH w hr
   have zA := ae vA
   rw [hx A hr, jg]
   have := gh (of A) (n := n) (by omega) (by omega)
   simp only [tm] at this
   simp only [sts, decide_true, Bool.not_true, cond_false]
   rw [this, show zr (Rs.ok A) = of A from rfl]
   cases of A; rfl
  | bad => rw [jg]; rfl
  | opn => rw [jg]; rfl
 | bad =>
  refine ⟨max B 4500000 + 1, fun n hn => ?_⟩
  obtain ⟨n, rfl⟩ := ag (show 0 < n by omega)
  have e1 := hB n (by omega)
  rw [hc] at e1
  rw [dQ, (pre n (by omega)).1]
  simp only [evt]
  rw [(pre n (by omega)).2]
  simp only [evt]
  rw [e1]; rfl
 | opn =>
  refine ⟨max B 4500000 + 1, fun n hn => ?_⟩
  obtain ⟨n, rfl⟩ := ag (show 0 < n by omega)
  have e1 := hB n (by omega)
  rw [hc] at e1
  rw [dQ, (pre n (by omega)).1]
  simp only [evt]
  rw [(pre n (by omega)).2]
  simp only [evt]
  rw [e1]; rfl
theorem wv {G : List Tm} {t : Tm} (hG : ∀ A ∈ G, vdM A = true) (h8 : G.length ≤ 8) (hv : vdM t = true) : ∃ B, ∀ n, B ≤ n → FF n 45 [tms (cx G), tm (of t)] [] = some ([nt (lvn (ps O (tS O) G t)), nt (sts (ps O (tS O) G t))], []) := by
 have zt := ae hv
 obtain ⟨B, hB⟩ := gH hG h8
 have hz := tE hG
 have hl : (cx G).length ≤ 4000000 := by rw [bO]; omega
 have ht : ak (of t) = true := hv
 have pre : ∀ n, 4500000 ≤ n → FF n 64 [tms (cx G)] [] = some ([bl true], []) ∧ FF n 65 [.agg [.int .i64 (of t).k, .int .i64 (of t).n, .fr (.ts (of t).kids)]] [] = some ([bl true], []) := fun n hn =>
  ⟨by rw [jf (by omega) hl hz, qR hG h8], by have := aW (n := n) (t := of t) (by omega) (by omega); rw [ht] at this; exact this⟩
 unfold ps
 cases hc : cc O (tS O) G with
 | ok C =>
  have w := Tm.wy aH hc
  obtain ⟨B', h'⟩ := Cc w hG (by omega) hv
  refine ⟨max (max B 4500000) B' + 1, fun n hn => ?_⟩
  obtain ⟨n, rfl⟩ := ag (show 0 < n by omega)
  have e1 := hB n (by omega)
  rw [hc] at e1
  rw [iQ, (pre n (by omega)).1]
  simp only [evt]
  rw [(pre n (by omega)).2]
  simp only [evt]
  rw [e1]
  simp only [evt, sts]
  have eo : FF n 72 [tms (cx G), .agg [.int .i64 (of t).k, .int .i64 (of t).n, .fr (.ts (of t).kids)]] [] = _ := h' n (by omega)
  rw [eo]
  rfl
 | bad =>
  refine ⟨max B 4500000 + 1, fun n hn => ?_⟩
  obtain ⟨n, rfl⟩ := ag (show 0 < n by omega)
  have e1 := hB n (by omega)
  rw [hc] at e1
  rw [iQ, (pre n (by omega)).1]
  simp only [evt]
  rw [(pre n (by omega)).2]
  simp only [evt]
  rw [e1]; rfl
 | opn =>
  refine ⟨max B 4500000 + 1, fun n hn => ?_⟩
  obtain ⟨n, rfl⟩ := ag (show 0 < n by omega)
  have e1 := hB n (by omega)
  rw [hc] at e1
  rw [iQ, (pre n (by omega)).1]
  simp only [evt]
  rw [(pre n (by omega)).2]
  simp only [evt]
  rw [e1]; rfl
theorem vG {G : List Tm} {t u : Tm} (hG : ∀ A ∈ G, vdM A = true) (h8 : G.length ≤ 8) (hv : vdM t = true) (hu : vdM u = true) : ∃ B, ∀ n, B ≤ n → FF n 47 [tms (cx G), tm (of t), tm (of u)] [] = some ([nt (sts (pc O (tS O) G t u))], []) := by
 have zt := ae hv
 have zu := ae hu
 obtain ⟨B, hB⟩ := wv hG h8 hu
 have hz := tE hG
 have hl : (cx G).length ≤ 4000000 := by rw [bO]; omega
 have ht : ak (of t) = true := hv
 have hu' : ak (of u) = true := hu
 have pre : ∀ n, 4500000 ≤ n → FF n 64 [tms (cx G)] [] = some ([bl true], []) ∧ FF n 65 [.agg [.int .i64 (of t).k, .int .i64 (of t).n, .fr (.ts (of t).kids)]] [] = some ([bl true], []) ∧ FF n 65 [.agg [.int .i64 (of u).k, .int .i64 (of u).n, .fr (.ts (of u).kids)]] [] = some ([bl true], []) := fun n hn =>
  ⟨by rw [jf (by omega) hl hz, qR hG h8], by have := aW (n := n) (t := of t) (by omega) (by omega); rw [ht] at this; exact this, by have := aW (n := n) (t := of u) (by omega) (by omega); rw [hu'] at this; exact this⟩
 unfold pc
 have step : ∀ n, max B 4500000 ≤ n → FF (n + 1) 47 [tms (cx G), tm (of t), tm (of u)] [] = cond (!decide (sts (ps O (tS O) G u) = 0)) (some ([nt (sts (ps O (tS O) G u))], [])) ((FF n 85 [tms (cx G), tm (of t), tm (of u)] []).bind fun x14 => aw .i64 x14.1 fun x15 x16 => ai x16 (aj x14.2 (some ([.one (.int .i64 x15)], [])))) := by
  intro n hn
  have e1 : FF n 45 [tms (cx G), .agg [.int .i64 (of u).k, .int .i64 (of u).n, .fr (.ts (of u).kids)]] [] = _ := hB n (by omega)
  rw [oE, (pre n (by omega)).1]
  simp only [evt]
  rw [(pre n (by omega)).2.1]
  simp only [evt]
  rw [(pre n (by omega)).2.2]
  simp only [evt]
  rw [e1]
  simp only [evt]
 cases hr : ps O (tS O) G u with
 | ok A =>
  have w := (Tm.KT aH hr).1
  obtain ⟨B2, h2⟩ := Fe w hG (by omega) hv hu
  refine ⟨max (max B 4500000) B2 + 1, fun n hn => ?_⟩
  obtain ⟨n, rfl⟩ := ag (show 0 < n by omega)
  rw [step n (by omega), hr, h2 n (by omega)]; rfl
 | bad =>
  refine ⟨max B 4500000 + 1, fun n hn => ?_⟩
  obtain ⟨n, rfl⟩ := ag (show 0 < n by omega)
  rw [step n (by omega), hr]; rfl
 | opn =>
  refine ⟨max B 4500000 + 1, fun n hn => ?_⟩
  obtain ⟨n, rfl⟩ := ag (show 0 < n by omega)
  rw [step n (by omega), hr]; rfl
structure AtS (G : List Tm) (n : Nat) : Prop where
 ctxS : FF n 37 [tms (cx G)] [] = some ([nt (sts (cc O (tS O) G))], [])
 tyS : ∀ t, vdM t = true → FF n 40 [tms (cx G), tm (of t)] [] = some ([tm (zr (pt O (tS O) G t)), nt (sts (pt O (tS O) G t))], [])
 soS : ∀ t, vdM t = true → FF n 45 [tms (cx G), tm (of t)] [] = some ([nt (lvn (ps O (tS O) G t)), nt (sts (ps O (tS O) G t))], [])
 ctS : ∀ t, vdM t = true → ∀ u, vdM u = true → FF n 47 [tms (cx G), tm (of t), tm (of u)] [] = some ([nt (sts (pc O (tS O) G t u))], [])
theorem wG : ∃ B, ∀ G : List Tm, (∀ A ∈ G, vdM A = true) → G.length ≤ 8 → ∀ n, B ≤ n → AtS G n := by
 refine KD AtS fun G hG h8 => ?_
 obtain ⟨B1, h1⟩ := gH hG h8
 obtain ⟨B3, h3⟩ := xG _ fun t hv => wL hG h8 hv
 obtain ⟨B5, h5⟩ := xG _ fun t hv => wv hG h8 hv
 obtain ⟨B7, h7⟩ := xG (fun t n => ∀ u, vdM u = true → FF n 47 [tms (cx G), tm (of t), tm (of u)] [] = some ([nt (sts (pc O (tS O) G t u))], [])) fun t hv => by
  obtain ⟨B, h⟩ := xG _ fun u hu => vG hG h8 hv hu
  exact ⟨B, fun n hn u hu => h u hu n hn⟩
 exact ⟨max (max B1 B3) (max B5 B7), fun n hn =>
  ⟨h1 n (by omega), fun t hv => h3 t hv n (by omega), fun t hv => h5 t hv n (by omega), fun t hv u hu => h7 t hv n (by omega) u hu⟩⟩
noncomputable def BS : Nat := max wG.choose 10000000
theorem lq : 10000000 ≤ BS := by unfold BS; omega
theorem JX {G : List Tm} (hG : ∀ A ∈ G, vdM A = true) (h8 : G.length ≤ 8) {n : Nat} (hn : BS ≤ n) : AtS G n := wG.choose_spec G hG h8 n (by unfold BS at hn; omega)
noncomputable def itS (l : List T) (t : T) : T × Int := if (okA l && ak t) = true then (zr (pt O (tS O) (CN l) (dec t)), sts (pt O (tS O) (CN l) (dec t))) else (.mk 0 0 [], 3)
noncomputable def coS (l : List T) : Int := if okA l = true then sts (cc O (tS O) (CN l)) else 3
section
variable {n : Nat} {l : List T} {t u : T}
theorem jB (hn : BS ≤ n) (hl : l.length ≤ 4000000) (hz : ∀ t ∈ l, t.size ≤ 4000000) : FF n 37 [tms l] [] = some ([nt (coS l)], []) := by
 have := lq
 unfold coS
 cases h : okA l with
 | false => rw [if_neg (by simp)]; exact ox (by omega) hl hz h
 | true =>
  obtain ⟨G, rfl, hG, h8⟩ := jV h
  rw [if_pos rfl, cW]; exact (JX hG h8 hn).ctxS
theorem cQ (hn : BS + 2 ≤ n) (hl : l.length ≤ 4000000) (hz : ∀ t ∈ l, t.size ≤ 4000000) (ht : t.size ≤ 4000000) : FF n 40 [tms l, tm t] [] = some ([tm (itS l t).1, nt (itS l t).2], []) := by
 have := lq
 unfold itS
 cases h : okA l && ak t with
 | false => rw [if_neg (by simp), uE (by omega) hl hz ht h]
 | true =>
  rw [Bool.and_eq_true] at h
  obtain ⟨G, rfl, hG, h8⟩ := jV h.1
  obtain ⟨m, rfl⟩ := ir h.2
  rw [if_pos rfl, cW, jm]; exact (JX hG h8 (by omega)).tyS m h.2
end
end Go.Proofs.YtajlknlnmmbfcaaGreat
end
section
namespace Go.Proofs.YtajlknlnmmbfcaaGreat
open Go Go.Ab Go.Dk
end Go.Proofs.YtajlknlnmmbfcaaGreat
end
section
namespace Go.Proofs.YtajlknlnmmbfcaaGreat
open Go Go.Ab Go.Dk
end Go.Proofs.YtajlknlnmmbfcaaGreat
end
section
namespace Go.Proofs.YtajlknlnmmbfcaaGreat
open Go Go.Ab Go.Dk
def szN : Nat → Nat
 | 0 => 1
 | k + 1 => 8 + 3 * szN k
def rdN : Nat → Int
 | 0 => 2
 | k + 1 => 2 + 3 * rdN k
theorem Ip : ∀ k, 1 ≤ szN k
 | 0 => by simp [szN]
 | k + 1 => by simp only [szN]; omega
theorem EY : ∀ k, 2 ≤ rdN k
 | 0 => by simp [rdN]
 | k + 1 => by have := EY k; simp only [rdN]; omega
theorem Ga {n : Nat} (hn : 1 ≤ n) (k : Int) (l : List T) (hl : l.length ≤ 1099511627776) : Tot (FF n 81 [nt k, tms l] []) (fun r => r = ([tm (.mk k 0 l)], [])) := ⟨_, cr hn k l hl, rfl⟩
end Go.Proofs.YtajlknlnmmbfcaaGreat
end
section
namespace Go.Proofs.YtajlknlnmmbfcaaGreat
open Go Go.Ab Go.Dk
theorem Im : ak (.mk 6 0 []) = true := by decide +kernel
end Go.Proofs.YtajlknlnmmbfcaaGreat
end
section
namespace Go.Proofs.YtajlknlnmmbfcaaGreat
open Go Go.Ab Go.Dk
def bt (s : ByteArray) (a : Nat) : Nat := (aU s a).toNat
def dg (s : ByteArray) (a : Nat) : Bool := decide (a < s.size) && (decide (48 ≤ bt s a) && decide (bt s a ≤ 57))
theorem HE {s : ByteArray} {a : Nat} : dg s a = true ↔ a < s.size ∧ 48 ≤ bt s a ∧ bt s a ≤ 57 := by
 simp only [dg, Bool.and_eq_true, decide_eq_true_eq]
theorem JB (s : ByteArray) (a : Nat) (h : a < s.size) : aU (s.extract a (a + 1)) 0 = aU s a := by
 have h' : a < s.data.toList.length := by simpa using h
 have h'' : a < s.data.size := by simpa using h
 unfold aU
 simp [List.getElem?_drop, h'']
theorem F6 (v : Int) (h : 48 ≤ v ∧ v ≤ 57) : IntKind.i64.wrap (IntKind.i64.wrap (0 * 10) + IntKind.i64.wrap (IntKind.u8.wrap (v - 48))) = v - 48 := by
 have e : IntKind.u8.wrap (v - 48) = v - 48 := by rw [IntKind.wrap]; simp [IntKind.signed, IntKind.bits]; omega
 rw [e, wrap64 (show -9223372036854775808 ≤ (0 : Int) * 10 ∧ (0 : Int) * 10 ≤ 9223372036854775807 by omega), wrap64 (show -9223372036854775808 ≤ v - 48 ∧ v - 48 ≤ 9223372036854775807 by omega), wrap64 (by omega)]
 omega
theorem LW {n : Nat} {s : ByteArray} (hn : 5 ≤ n) (hs : s.size = 1) (h : 48 ≤ bt s 0 ∧ bt s 0 ≤ 57) : Tot (FF n 180 [st s] []) (fun r => r = ([nt ((bt s 0 - 48 : Nat) : Int), bl true], [])) := by
 refine aK (C := 4) hn fun n hn _ => ?_
 unfold bt at h ⊢
 have lp : Tot (bG n n s false 0 0) (fun r => r = ([nt (((aU s 0).toNat - 48 : Nat) : Int), bl true], [])) := by
  obtain ⟨m, rfl⟩ : ∃ m, n = m + 2 := ⟨n - 2, by omega⟩
  rw [ia, Int.toNat_zero, F6 _ (by omega), ia]
  have e : ((aU s 0).toNat : Int) - 48 = (((aU s 0).toNat - 48 : Nat) : Int) := by omega
  rw [e]
  repeat' (first | (simp (disch := omega) only [wrap64]; done) | (simp (disch := omega) only [wrap64]) | (with_reducible refine al (fun hq => ?_) (fun hq => ?_) <;> (try simp (disch := omega) only [wrap64] at hq) <;> (try simp only [decide_eq_true_eq, decide_eq_false_iff_not, Bool.not_eq_true', Bool.not_eq_false', Bool.and_eq_true, Bool.and_eq_false_iff, inB, Bool.not_true, Bool.not_false] at hq) <;> try (exfalso; omega; done)) | ((exact absurd hq Bool.false_ne_true)) | ((with_reducible refine aq ?_); (exact rfl)))
 have e45 : decide (((aU s 0).toNat : Int) = 45) = false := decide_eq_false (by omega)
 rw [sV]
 simp only [Int.toNat_zero]
 repeat' (first | (simp (disch := omega) only [wrap64]; done) | (simp (disch := omega) only [wrap64]) | (with_reducible refine al (fun hq => ?_) (fun hq => ?_) <;> (try simp (disch := omega) only [wrap64] at hq) <;> (try simp only [decide_eq_true_eq, decide_eq_false_iff_not, Bool.not_eq_true', Bool.not_eq_false', Bool.and_eq_true, Bool.and_eq_false_iff, inB, Bool.not_true, Bool.not_false] at hq) <;> try (exfalso; omega; done)) | ((rw [e45]; exact lp)) | (with_reducible exact lp))
theorem yJ {n : Nat} {s : ByteArray} {a : Nat} {z k : Int} (hn : 10 ≤ n) (hs : s.size ≤ 1000) (hz : z = a) (h : dg s a = true) (hk : k = 1 ∨ (k = 2 ∧ dg s (a + 1) = false)) :
   Tot (FF n 173 [st s, nt z, nt k] []) (fun r => r = ([nt ((bt s a - 48 : Nat) : Int), nt ((a + 1 : Nat) : Int)], [])) := by
 subst hz
 obtain ⟨h1, h2, h3⟩ := HE.1 h
 refine aK (C := 9) hn fun n hn _ => ?_
 rw [qg]
 have ex : (s.extract a (a + 1)).size = 1 := by rw [ByteArray.size_extract]; omega
 have eb : bt (s.extract a (a + 1)) 0 = bt s a := by unfold bt; rw [JB s a h1]
 have dd : Tot (FF n 180 [st (s.extract a (a + 1))] []) (fun r => r = ([nt ((bt s a - 48 : Nat) : Int), bl true], [])) := by
  rw [← eb]; exact LW (by omega) ex (by rw [eb]; exact ⟨h2, h3⟩)
 unfold bt at h2 h3
 have nx : ∀ m, Tot (du n (m + 1) s a k ((a + 1 : Nat) : Int)) (fun r => r = ([nt ((bt s a - 48 : Nat) : Int), nt ((a + 1 : Nat) : Int)], [])) := by
  intro m
  have h4 : k = 1 ∨ (k = 2 ∧ (s.size ≤ a + 1 ∨ (aU s (a + 1)).toNat < 48 ∨ 57 < (aU s (a + 1)).toNat)) := by
   rcases hk with h | ⟨h, h'⟩
   ·exact .inl h
   ·refine .inr ⟨h, Classical.byContradiction fun hh => ?_⟩
    rw [HE.2 (by unfold bt; omega)] at h'; cases h'
  rw [fZ]
  simp only [Int.toNat_natCast]
  repeat' (first | (simp (disch := omega) only [wrap64]; done) | (simp (disch := omega) only [wrap64]) | (with_reducible refine al (fun hq => ?_) (fun hq => ?_) <;> (try simp (disch := omega) only [wrap64] at hq) <;> (try simp only [decide_eq_true_eq, decide_eq_false_iff_not, Bool.not_eq_true', Bool.not_eq_false', Bool.and_eq_true, Bool.and_eq_false_iff, inB, Bool.not_true, Bool.not_false] at hq) <;> try (exfalso; omega; done)) | (with_reducible refine af (dd) ?_; rintro _ rfl; simp only [evt]) | ((with_reducible refine aq ?_); (exact rfl)))
 obtain ⟨m, rfl⟩ : ∃ m, n = m + 2 := ⟨n - 2, by omega⟩
 have w : IntKind.i64.wrap ((a : Int) + 1) = ((a + 1 : Nat) : Int) := wrap64 (by omega)
 rw [fZ, w]
 simp only [Int.toNat_natCast]
 repeat' (first | (simp (disch := omega) only [wrap64]; done) | (simp (disch := omega) only [wrap64]) | (with_reducible refine al (fun hq => ?_) (fun hq => ?_) <;> (try simp (disch := omega) only [wrap64] at hq) <;> (try simp only [decide_eq_true_eq, decide_eq_false_iff_not, Bool.not_eq_true', Bool.not_eq_false', Bool.and_eq_true, Bool.and_eq_false_iff, inB, Bool.not_true, Bool.not_false] at hq) <;> try (exfalso; omega; done)) | (with_reducible exact nx _))
abbrev IsX (t : T) (e : Nat) (r : List V1 × List av) : Prop := ∃ z : Int, r = ([tm t, nt z], []) ∧ z = e
def LU (s : ByteArray) (a : Nat) : Option (Nat × Nat) := if dg s a = true ∧ dg s (a + 1) = false then some (bt s a - 48, a + 1) else none
def ser (p : Nat → Option (T × Nat)) (s : ByteArray) (last : Nat) : Nat → Nat → Option (List T × Nat)
 | 0, a => some ([], a)
 | n + 1, a => (p a).bind fun x => if x.2 < s.size ∧ bt s x.2 = (if n = 0 then last else 44) then (ser p s last n (x.2 + 1)).bind fun y => some (x.1 :: y.1, y.2) else none
def one (p : Nat → Option (T × Nat)) (k : Int) (a : Nat) : Option (T × Nat) := (p a).bind fun x => some (.mk k 0 [x.1], x.2)
def blk (p : Nat → Option (T × Nat)) (s : ByteArray) (k : Int) (m last a : Nat) : Option (T × Nat) := (ser p s last m a).bind fun x => some (.mk k 0 x.1, x.2)
def rnd (p : Nat → Option (T × Nat)) (s : ByteArray) (a : Nat) : Option (T × Nat) := (p a).bind fun x => if x.2 < s.size ∧ (bt s x.2 = 62 ∨ bt s x.2 = 42 ∨ bt s x.2 = 32) then
   (p (x.2 + 1)).bind fun y => if y.2 < s.size ∧ bt s y.2 = 41 then some (.mk (if bt s x.2 = 62 then 3 else if bt s x.2 = 42 then 13 else 5) 0 [x.1, y.1], y.2 + 1) else none
 else none
def MO (p : Nat → Option (T × Nat)) (s : ByteArray) (a : Nat) : Option (T × Nat) := (p a).bind fun x => if x.2 < s.size ∧ bt s x.2 = 93 then (p (x.2 + 1)).bind fun y => some (.mk 4 0 [x.1, y.1], y.2) else none
def pb (p : Nat → Option (T × Nat)) (s : ByteArray) (a : Nat) : Option (T × Nat) :=
 if bt s a = 35 then (LU s (a + 1)).bind fun x => some (.mk 1 x.1 [], x.2)
 else if bt s a = 42 then (LU s (a + 1)).bind fun x => some (.mk 2 x.1 [], x.2)
 else if bt s a = 78 then some (.mk 6 0 [], a + 1)
 else if bt s a = 48 then some (.mk 7 0 [], a + 1)
 else if bt s a = 43 then one p 8 (a + 1)
 else if bt s a = 33 then one p 11 (a + 1)
 else if bt s a = 94 then one p 15 (a + 1)
 else if bt s a = 95 then one p 16 (a + 1)
 else if bt s a = 40 then rnd p s (a + 1)
 else if bt s a = 91 then MO p s (a + 1)
 else if bt s a = 60 then blk p s 9 4 62 (a + 1)
 else if bt s a = 123 then blk p s 10 3 125 (a + 1)
 else if bt s a = 124 then blk p s 14 3 124 (a + 1)
 else if bt s a = 64 ∧ a + 2 ≤ s.size ∧ bt s (a + 1) = 60 then blk p s 12 3 62 (a + 2)
 else none
def pa (s : ByteArray) : Nat → Nat → Option (T × Nat)
 | 0, _ => none
 | d + 1, a => if a < s.size then (pb (pa s d) s a).bind fun x => if x.2 ≤ s.size then some x else none else none
section
variable {s : ByteArray} (hs : s.size ≤ 1000) {d N : Nat} (hd : d ≤ 30) {p : Nat → Option (T × Nat)}
 (ih : ∀ n, N ≤ n → ∀ (z : Int) (a : Nat) (t : T) (e : Nat), z = a → p a = some (t, e) → e ≤ s.size ∧ Tot (FF n 154 [st s, nt z, nt (d : Int)] []) (IsX t e))
include hs hd ih
theorem oL {n a e : Nat} {t : T} {k : Int} (hn : N + 2 ≤ n) (ha : a < s.size) (hk : (bt s a = 43 ∧ k = 8) ∨ (bt s a = 33 ∧ k = 11) ∨ (bt s a = 94 ∧ k = 15) ∨ (bt s a = 95 ∧ k = 16)) (h : one p k (a + 1) = some (t, e)) : Tot (FF n 174 [st s, nt (a : Int), nt ((d : Int) + 1)] []) (IsX t e) := by
 have hs' := hs
 obtain ⟨⟨u, e'⟩, h1, h2⟩ := Option.bind_eq_some_iff.1 h
 cases h2
 refine aK (C := N + 1) hn fun n hn _ => ?_
 unfold bt at hk
 have w : IntKind.i64.wrap ((d : Int) + 1 - 1) = (d : Int) := by rw [wrap64 (by omega)]; omega
 have i1 := (ih n (by omega) ((a : Int) + 1) (a + 1) u e' (by omega) h1).2
 rw [qk, w]
 simp only [Int.toNat_natCast]
 rcases hk with ⟨hk, rfl⟩ | ⟨hk, rfl⟩ | ⟨hk, rfl⟩ | ⟨hk, rfl⟩
 all_goals repeat' (first | (simp (disch := omega) only [wrap64]; done) | (simp (disch := omega) only [wrap64]) | (with_reducible refine al (fun hq => ?_) (fun hq => ?_) <;> (try simp (disch := omega) only [wrap64] at hq) <;> (try simp only [decide_eq_true_eq, decide_eq_false_iff_not, Bool.not_eq_true', Bool.not_eq_false', Bool.and_eq_true, Bool.and_eq_false_iff, inB, Bool.not_true, Bool.not_false] at hq) <;> try (exfalso; omega; done)) | (with_reducible refine af (i1) ?_; rintro _ ⟨z, rfl, hz⟩; simp only [evt]) | (with_reducible refine af (pV (by omega) _ _ (by simp)) ?_; rintro _ rfl; simp only [evt]) | ((with_reducible refine aq ?_); (exact ⟨_, rfl, hz⟩)))
theorem IU {n a e : Nat} {t : T} (hn : N + 2 ≤ n) {z : Int} (hz : z = a) (h : rnd p s a = some (t, e)) : Tot (FF n 175 [st s, nt z, nt (d : Int)] []) (IsX t e) := by
 subst hz
 have hs' := hs
 have hd' := hd
 obtain ⟨⟨u, e1⟩, h1, h2⟩ := Option.bind_eq_some_iff.1 h
 simp only at h2
 split at h2
 ·rename_i hc
  obtain ⟨⟨v, e2⟩, h3, h4⟩ := Option.bind_eq_some_iff.1 h2
  simp only at h4
  split at h4
  ·rename_i hc2
   cases h4
   refine aK (C := N + 1) hn fun n hn _ => ?_
   unfold bt at hc hc2 ⊢
   have i1 := (ih n (by omega) (a : Int) a u e1 rfl h1).2
   have i2 := (ih n (by omega) ((e1 : Int) + 1) (e1 + 1) v e2 (by omega) h3).2
   rw [qL]
   refine af i1 ?_
   rintro _ ⟨_, rfl, rfl⟩
   simp only [evt, Int.toNat_natCast]
   rcases hc with ⟨hc, hb | hb | hb⟩
   ·rw [if_pos hb]
    repeat' (first | (simp (disch := omega) only [wrap64]; done) | (simp (disch := omega) only [wrap64]) | (with_reducible refine al (fun hq => ?_) (fun hq => ?_) <;> (try simp (disch := omega) only [wrap64] at hq) <;> (try simp only [decide_eq_true_eq, decide_eq_false_iff_not, Bool.not_eq_true', Bool.not_eq_false', Bool.and_eq_true, Bool.and_eq_false_iff, inB, Bool.not_true, Bool.not_false] at hq) <;> try (exfalso; omega; done)) | (with_reducible refine af (i2) ?_; rintro _ ⟨_, rfl, rfl⟩; simp only [evt]) | ((exfalso; simp only [Int.toNat_natCast] at hq; omega)) | ((simp only [Int.toNat_natCast])) | (with_reducible refine af (pV (by omega) _ _ (by simp)) ?_; rintro _ rfl; simp only [evt]) | ((with_reducible refine aq ?_); (exact ⟨_, rfl, by omega⟩)))
   ·rw [if_neg (by omega), if_pos hb]
    repeat' (first | (simp (disch := omega) only [wrap64]; done) | (simp (disch := omega) only [wrap64]) | (with_reducible refine al (fun hq => ?_) (fun hq => ?_) <;> (try simp (disch := omega) only [wrap64] at hq) <;> (try simp only [decide_eq_true_eq, decide_eq_false_iff_not, Bool.not_eq_true', Bool.not_eq_false', Bool.and_eq_true, Bool.and_eq_false_iff, inB, Bool.not_true, Bool.not_false] at hq) <;> try (exfalso; omega; done)) | (with_reducible refine af (i2) ?_; rintro _ ⟨_, rfl, rfl⟩; simp only [evt]) | ((exfalso; simp only [Int.toNat_natCast] at hq; omega)) | ((simp only [Int.toNat_natCast])) | (with_reducible refine af (pV (by omega) _ _ (by simp)) ?_; rintro _ rfl; simp only [evt]) | ((with_reducible refine aq ?_); (exact ⟨_, rfl, by omega⟩)))
   ·rw [if_neg (by omega), if_neg (by omega)]
    repeat' (first | (simp (disch := omega) only [wrap64]; done) | (simp (disch := omega) only [wrap64]) | (with_reducible refine al (fun hq => ?_) (fun hq => ?_) <;> (try simp (disch := omega) only [wrap64] at hq) <;> (try simp only [decide_eq_true_eq, decide_eq_false_iff_not, Bool.not_eq_true', Bool.not_eq_false', Bool.and_eq_true, Bool.and_eq_false_iff, inB, Bool.not_true, Bool.not_false] at hq) <;> try (exfalso; omega; done)) | (with_reducible refine af (i2) ?_; rintro _ ⟨_, rfl, rfl⟩; simp only [evt]) | ((exfalso; simp only [Int.toNat_natCast] at hq; omega)) | ((simp only [Int.toNat_natCast])) | (with_reducible refine af (pV (by omega) _ _ (by simp)) ?_; rintro _ rfl; simp only [evt]) | ((with_reducible refine aq ?_); (exact ⟨_, rfl, by omega⟩)))
  ·cases h4
 ·cases h2
theorem Hs (n : Nat) (hn : N + 1 ≤ n) (last : Nat) (many : Nat) (hmany : many ≤ 4) : ∀ g m (i a : Nat) (z : Int) (acc l : List T) (e : Nat), g < m → i + g = many → z = a → ser p s last g a = some (l, e) → acc.length = i →
   Tot (bK n m s z d many last i acc) (fun r => ∃ z : Int, r = ([tms (acc ++ l), nt z], []) ∧ z = e)
 | g, 0, i, a, z, acc, l, e, hg, _, _, _, _ => by
  have hs' := hs
  have hd' := hd
  omega
 | 0, m + 1, i, a, z, acc, l, e, _, hi, hz, h, hl => by
  cases h
  rw [fY, decide_eq_false (show ¬ (i : Int) < many by omega), List.append_nil]
  exact aq ⟨_, rfl, hz⟩
 | g + 1, m + 1, i, a, z, acc, l, e, hg, hi, hz, h, hl => by
  have w : IntKind.i64.wrap ((i : Int) + 1) = ((i + 1 : Nat) : Int) := wrap64 (by omega)
  obtain ⟨⟨u, e1⟩, h1, h2⟩ := Option.bind_eq_some_iff.1 h
  simp only at h2
  by_cases hc : e1 < s.size ∧ bt s e1 = (if g = 0 then last else 44)
  ·rw [if_pos hc] at h2
   obtain ⟨⟨v, e2⟩, h3, h4⟩ := Option.bind_eq_some_iff.1 h2
   cases h4
   rw [fY, w]
   rw [decide_eq_true (show (i : Int) < many by omega), cond_true]
   refine af (ih n (by omega) z a u e1 hz h1).2 ?_
   rintro _ ⟨_, rfl, rfl⟩
   simp only [evt, List.length_append, List.length_cons, List.length_nil, hl, Int.toNat_natCast]
   have hroom : cn (i + (0 + 1)) = true := aL (by omega)
   rw [hroom]
   simp only [cond_true]
   have nx := Hs n hn last many hmany g m (i + 1) (e1 + 1) ((e1 : Int) + 1) (acc ++ [u]) v e2 (by omega) (by omega) (by omega) h3 (by simp [hl])
   rw [List.append_assoc, List.singleton_append] at nx
   unfold bt at hc
   by_cases hg0 : g = 0
   ·rw [if_pos hg0] at hc
    repeat' (first | (simp (disch := omega) only [wrap64]; done) | (simp (disch := omega) only [wrap64]) | (with_reducible refine al (fun hq => ?_) (fun hq => ?_) <;> (try simp (disch := omega) only [wrap64] at hq) <;> (try simp only [decide_eq_true_eq, decide_eq_false_iff_not, Bool.not_eq_true', Bool.not_eq_false', Bool.and_eq_true, Bool.and_eq_false_iff, inB, Bool.not_true, Bool.not_false] at hq) <;> try (exfalso; omega; done)) | (with_reducible exact nx))
   ·rw [if_neg hg0] at hc
    repeat' (first | (simp (disch := omega) only [wrap64]; done) | (simp (disch := omega) only [wrap64]) | (with_reducible refine al (fun hq => ?_) (fun hq => ?_) <;> (try simp (disch := omega) only [wrap64] at hq) <;> (try simp only [decide_eq_true_eq, decide_eq_false_iff_not, Bool.not_eq_true', Bool.not_eq_false', Bool.and_eq_true, Bool.and_eq_false_iff, inB, Bool.not_true, Bool.not_false] at hq) <;> try (exfalso; omega; done)) | (with_reducible exact nx))
  ·rw [if_neg hc] at h2; cases h2
theorem oU {n : Nat} (hn : N + 7 ≤ n) {a e : Nat} {l : List T} {z : Int} (hz : z = a) (many : Nat) (hm : many ≤ 4) (last : Nat) (h : ser p s last many a = some (l, e)) : Tot (FF n 181 [st s, nt z, nt (d : Int), nt (many : Int), .one (.int .u8 (last : Int))] []) (fun r => ∃ z : Int, r = ([tms l, nt z], []) ∧ z = e) := by
 refine aK (C := N + 6) hn fun n hn _ => ?_
 rw [pX]
 exact Hs hs hd ih n (by omega) last many hm many n 0 a z [] l e (by omega) (by omega) hz h rfl
theorem Je {n : Nat} (hn : N + 8 ≤ n) {a e : Nat} {t : T} (ha : a < s.size) (h : (bt s a = 60 ∧ blk p s 9 4 62 (a + 1) = some (t, e)) ∨ (bt s a = 123 ∧ blk p s 10 3 125 (a + 1) = some (t, e)) ∨ (bt s a = 124 ∧ blk p s 14 3 124 (a + 1) = some (t, e)) ∨ (bt s a = 64 ∧ a + 2 ≤ s.size ∧ bt s (a + 1) = 60 ∧ blk p s 12 3 62 (a + 2) = some (t, e))) :
   Tot (FF n 176 [st s, nt (a : Int), nt ((d : Int) + 1)] []) (IsX t e) := by
 have hs' := hs
 refine aK (C := N + 7) hn fun n hn _ => ?_
 have w : IntKind.i64.wrap ((d : Int) + 1 - 1) = (d : Int) := by rw [wrap64 (by omega)]; omega
 have w1 : IntKind.i64.wrap ((a : Int) + 1) = ((a + 1 : Nat) : Int) := wrap64 (by omega)
 have w2 : IntKind.i64.wrap ((a : Int) + 2) = ((a + 2 : Nat) : Int) := wrap64 (by omega)
 have k9 : opsOf 9 = ((4 : Nat) : Int) := rfl
 have k10 : opsOf 10 = ((3 : Nat) : Int) := rfl
 have k14 : opsOf 14 = ((3 : Nat) : Int) := rfl
 have k12 : opsOf 12 = ((3 : Nat) : Int) := rfl
 rw [qK]
 simp only [w, w1, w2, Int.toNat_natCast]
 rcases h with ⟨hb, h⟩ | ⟨hb, h⟩ | ⟨hb, h⟩ | ⟨hb, hb2, hb3, h⟩ <;> obtain ⟨⟨l, e'⟩, h1, h2⟩ := Option.bind_eq_some_iff.1 h <;> cases h2 <;> unfold bt at hb
 ·have i1 := oU hs hd ih (n := n) (by omega) (z := ((a + 1 : Nat) : Int)) rfl 4 (by omega) 62 h1
  repeat' (first | (simp (disch := omega) only [wrap64]; done) | (simp (disch := omega) only [wrap64]) | (with_reducible refine al (fun hq => ?_) (fun hq => ?_) <;> (try simp (disch := omega) only [wrap64] at hq) <;> (try simp only [decide_eq_true_eq, decide_eq_false_iff_not, Bool.not_eq_true', Bool.not_eq_false', Bool.and_eq_true, Bool.and_eq_false_iff, inB, Bool.not_true, Bool.not_false] at hq) <;> try (exfalso; omega; done)) | (with_reducible refine af (AT (by omega) _) ?_; rintro _ rfl; simp only [evt]) | ((simp only [k9])) | (with_reducible refine af (i1) ?_; rintro _ ⟨_, rfl, rfl⟩; simp only [evt]) | ((with_reducible refine aq ?_); (exact ⟨_, rfl, rfl⟩)))
 ·have i1 := oU hs hd ih (n := n) (by omega) (z := ((a + 1 : Nat) : Int)) rfl 3 (by omega) 125 h1
  repeat' (first | (simp (disch := omega) only [wrap64]; done) | (simp (disch := omega) only [wrap64]) | (with_reducible refine al (fun hq => ?_) (fun hq => ?_) <;> (try simp (disch := omega) only [wrap64] at hq) <;> (try simp only [decide_eq_true_eq, decide_eq_false_iff_not, Bool.not_eq_true', Bool.not_eq_false', Bool.and_eq_true, Bool.and_eq_false_iff, inB, Bool.not_true, Bool.not_false] at hq) <;> try (exfalso; omega; done)) | (with_reducible refine af (AT (by omega) _) ?_; rintro _ rfl; simp only [evt]) | ((simp only [k10])) | (with_reducible refine af (i1) ?_; rintro _ ⟨_, rfl, rfl⟩; simp only [evt]) | ((with_reducible refine aq ?_); (exact ⟨_, rfl, rfl⟩)))
 ·have i1 := oU hs hd ih (n := n) (by omega) (z := ((a + 1 : Nat) : Int)) rfl 3 (by omega) 124 h1
  repeat' (first | (simp (disch := omega) only [wrap64]; done) | (simp (disch := omega) only [wrap64]) | (with_reducible refine al (fun hq => ?_) (fun hq => ?_) <;> (try simp (disch := omega) only [wrap64] at hq) <;> (try simp only [decide_eq_true_eq, decide_eq_false_iff_not, Bool.not_eq_true', Bool.not_eq_false', Bool.and_eq_true, Bool.and_eq_false_iff, inB, Bool.not_true, Bool.not_false] at hq) <;> try (exfalso; omega; done)) | (with_reducible refine af (AT (by omega) _) ?_; rintro _ rfl; simp only [evt]) | ((simp only [k14])) | (with_reducible refine af (i1) ?_; rintro _ ⟨_, rfl, rfl⟩; simp only [evt]) | ((with_reducible refine aq ?_); (exact ⟨_, rfl, rfl⟩)))
 ·have i1 := oU hs hd ih (n := n) (by omega) (z := ((a + 2 : Nat) : Int)) rfl 3 (by omega) 62 h1
  unfold bt at hb3
  repeat' (first | (simp (disch := omega) only [wrap64]; done) | (simp (disch := omega) only [wrap64]) | (with_reducible refine al (fun hq => ?_) (fun hq => ?_) <;> (try simp (disch := omega) only [wrap64] at hq) <;> (try simp only [decide_eq_true_eq, decide_eq_false_iff_not, Bool.not_eq_true', Bool.not_eq_false', Bool.and_eq_true, Bool.and_eq_false_iff, inB, Bool.not_true, Bool.not_false] at hq) <;> try (exfalso; omega; done)) | (with_reducible refine af (AT (by omega) _) ?_; rintro _ rfl; simp only [evt]) | ((simp only [k12])) | (with_reducible refine af (i1) ?_; rintro _ ⟨_, rfl, rfl⟩; simp only [evt]) | ((with_reducible refine aq ?_); (exact ⟨_, rfl, rfl⟩)))
end
theorem Mn {s : ByteArray} (hs : s.size ≤ 1000) : ∀ (d : Nat), d ≤ 30 → ∀ n, 20 + 12 * d ≤ n → ∀ (z : Int) (a : Nat) (t : T) (e : Nat), z = a → pa s d a = some (t, e) → e ≤ s.size ∧ Tot (FF n 154 [st s, nt z, nt (d : Int)] []) (IsX t e)
 | 0, hd, n, hn, z, a, t, e, hz, h => by cases h
 | d + 1, hd, n, hn, z, a, t, e, hz, h => by
  subst hz
  have ih := fun n hn => Mn hs d (by omega) n hn
  simp only [pa] at h
  split at h
  ·rename_i ha
   obtain ⟨⟨t', e'⟩, h, h2⟩ := Option.bind_eq_some_iff.1 h
   simp only at h2
   split at h2
   ·rename_i he
    cases h2
    refine ⟨he, ?_⟩
    refine aK (C := 19 + 12 * (d + 1)) (by omega) fun n hn _ => ?_
    rw [rj]
    have w : IntKind.i64.wrap (((d + 1 : Nat) : Int) - 1) = (d : Int) := by rw [wrap64 (by omega)]; omega
    have w2 : (((d + 1 : Nat) : Int)) = (d : Int) + 1 := rfl
    have w3 : IntKind.i64.wrap ((a : Int) + 1) = ((a + 1 : Nat) : Int) := wrap64 (by omega)
    rw [w, w2, w3]
    simp only [Int.toNat_natCast]
    unfold pb at h
    have nm : ∀ {v e k}, LU s (a + 1) = some (v, e) → (k = 1 ∨ k = 2) → Tot (FF n 173 [st s, nt ((a + 1 : Nat) : Int), nt k] []) (fun r => r = ([nt (v : Int), nt (e : Int)], [])) := by
     intro v e k h hk
     unfold LU at h
     split at h
     ·rename_i hh
      cases h
      exact yJ (by omega) hs rfl hh.1 (by rcases hk with h | h; exact .inl h; exact .inr ⟨h, hh.2⟩)
     ·cases h
    by_cases c1 : bt s a = 35
    ·rw [if_pos c1] at h
     obtain ⟨⟨v, e'⟩, h1, h2⟩ := Option.bind_eq_some_iff.1 h
     cases h2
     unfold bt at c1
     repeat' (first | (simp (disch := omega) only [wrap64]; done) | (simp (disch := omega) only [wrap64]) | (with_reducible refine al (fun hq => ?_) (fun hq => ?_) <;> (try simp (disch := omega) only [wrap64] at hq) <;> (try simp only [decide_eq_true_eq, decide_eq_false_iff_not, Bool.not_eq_true', Bool.not_eq_false', Bool.and_eq_true, Bool.and_eq_false_iff, inB, Bool.not_true, Bool.not_false] at hq) <;> try (exfalso; omega; done)) | (with_reducible refine af (nm h1 (.inr rfl)) ?_; rintro _ rfl; simp only [evt]) | (with_reducible refine af (Bd (by omega) _ _) ?_; rintro _ rfl; simp only [evt]) | ((with_reducible refine aq ?_); (exact ⟨_, rfl, rfl⟩)))
    rw [if_neg c1] at h
    by_cases c2 : bt s a = 42
    ·rw [if_pos c2] at h
     obtain ⟨⟨v, e'⟩, h1, h2⟩ := Option.bind_eq_some_iff.1 h
     cases h2
     unfold bt at c2
     repeat' (first | (simp (disch := omega) only [wrap64]; done) | (simp (disch := omega) only [wrap64]) | (with_reducible refine al (fun hq => ?_) (fun hq => ?_) <;> (try simp (disch := omega) only [wrap64] at hq) <;> (try simp only [decide_eq_true_eq, decide_eq_false_iff_not, Bool.not_eq_true', Bool.not_eq_false', Bool.and_eq_true, Bool.and_eq_false_iff, inB, Bool.not_true, Bool.not_false] at hq) <;> try (exfalso; omega; done)) | (with_reducible refine af (nm h1 (.inl rfl)) ?_; rintro _ rfl; simp only [evt]) | (with_reducible refine af (Bd (by omega) _ _) ?_; rintro _ rfl; simp only [evt]) | ((with_reducible refine aq ?_); (exact ⟨_, rfl, rfl⟩)))
    rw [if_neg c2] at h
    by_cases c3 : bt s a = 78
    ·rw [if_pos c3] at h
     cases h
     unfold bt at c3
     repeat' (first | (simp (disch := omega) only [wrap64]; done) | (simp (disch := omega) only [wrap64]) | (with_reducible refine al (fun hq => ?_) (fun hq => ?_) <;> (try simp (disch := omega) only [wrap64] at hq) <;> (try simp only [decide_eq_true_eq, decide_eq_false_iff_not, Bool.not_eq_true', Bool.not_eq_false', Bool.and_eq_true, Bool.and_eq_false_iff, inB, Bool.not_true, Bool.not_false] at hq) <;> try (exfalso; omega; done)) | (with_reducible refine af (Bd (by omega) _ _) ?_; rintro _ rfl; simp only [evt]) | ((with_reducible refine aq ?_); (exact ⟨_, rfl, rfl⟩)))
    rw [if_neg c3] at h
    by_cases c4 : bt s a = 48
    ·rw [if_pos c4] at h
     cases h
     unfold bt at c4
     repeat' (first | (simp (disch := omega) only [wrap64]; done) | (simp (disch := omega) only [wrap64]) | (with_reducible refine al (fun hq => ?_) (fun hq => ?_) <;> (try simp (disch := omega) only [wrap64] at hq) <;> (try simp only [decide_eq_true_eq, decide_eq_false_iff_not, Bool.not_eq_true', Bool.not_eq_false', Bool.and_eq_true, Bool.and_eq_false_iff, inB, Bool.not_true, Bool.not_false] at hq) <;> try (exfalso; omega; done)) | (with_reducible refine af (Bd (by omega) _ _) ?_; rintro _ rfl; simp only [evt]) | ((with_reducible refine aq ?_); (exact ⟨_, rfl, rfl⟩)))
    rw [if_neg c4] at h
    by_cases c5 : bt s a = 43
    ·rw [if_pos c5] at h
     have i1 := oL hs (by omega) ih (n := n) (by omega) ha (.inl ⟨c5, rfl⟩) h
     unfold bt at c5
     repeat' (first | (simp (disch := omega) only [wrap64]; done) | (simp (disch := omega) only [wrap64]) | (with_reducible refine al (fun hq => ?_) (fun hq => ?_) <;> (try simp (disch := omega) only [wrap64] at hq) <;> (try simp only [decide_eq_true_eq, decide_eq_false_iff_not, Bool.not_eq_true', Bool.not_eq_false', Bool.and_eq_true, Bool.and_eq_false_iff, inB, Bool.not_true, Bool.not_false] at hq) <;> try (exfalso; omega; done)) | (with_reducible refine af (i1) ?_; rintro _ ⟨_, rfl, rfl⟩; simp only [evt]) | ((with_reducible refine aq ?_); (exact ⟨_, rfl, rfl⟩)))
    rw [if_neg c5] at h
    by_cases c6 : bt s a = 33
    ·rw [if_pos c6] at h
     have i1 := oL hs (by omega) ih (n := n) (by omega) ha (.inr (.inl ⟨c6, rfl⟩)) h
     unfold bt at c6
     repeat' (first | (simp (disch := omega) only [wrap64]; done) | (simp (disch := omega) only [wrap64]) | (with_reducible refine al (fun hq => ?_) (fun hq => ?_) <;> (try simp (disch := omega) only [wrap64] at hq) <;> (try simp only [decide_eq_true_eq, decide_eq_false_iff_not, Bool.not_eq_true', Bool.not_eq_false', Bool.and_eq_true, Bool.and_eq_false_iff, inB, Bool.not_true, Bool.not_false] at hq) <;> try (exfalso; omega; done)) | (with_reducible refine af (i1) ?_; rintro _ ⟨_, rfl, rfl⟩; simp only [evt]) | ((with_reducible refine aq ?_); (exact ⟨_, rfl, rfl⟩)))
    rw [if_neg c6] at h
    by_cases c7 : bt s a = 94
    ·rw [if_pos c7] at h
     have i1 := oL hs (by omega) ih (n := n) (by omega) ha (.inr (.inr (.inl ⟨c7, rfl⟩))) h
     unfold bt at c7
     repeat' (first | (simp (disch := omega) only [wrap64]; done) | (simp (disch := omega) only [wrap64]) | (with_reducible refine al (fun hq => ?_) (fun hq => ?_) <;> (try simp (disch := omega) only [wrap64] at hq) <;> (try simp only [decide_eq_true_eq, decide_eq_false_iff_not, Bool.not_eq_true', Bool.not_eq_false', Bool.and_eq_true, Bool.and_eq_false_iff, inB, Bool.not_true, Bool.not_false] at hq) <;> try (exfalso; omega; done)) | (with_reducible refine af (i1) ?_; rintro _ ⟨_, rfl, rfl⟩; simp only [evt]) | ((with_reducible refine aq ?_); (exact ⟨_, rfl, rfl⟩)))
    rw [if_neg c7] at h
    by_cases c8 : bt s a = 95
    ·rw [if_pos c8] at h
     have i1 := oL hs (by omega) ih (n := n) (by omega) ha (.inr (.inr (.inr ⟨c8, rfl⟩))) h
     unfold bt at c8
     repeat' (first | (simp (disch := omega) only [wrap64]; done) | (simp (disch := omega) only [wrap64]) | (with_reducible refine al (fun hq => ?_) (fun hq => ?_) <;> (try simp (disch := omega) only [wrap64] at hq) <;> (try simp only [decide_eq_true_eq, decide_eq_false_iff_not, Bool.not_eq_true', Bool.not_eq_false', Bool.and_eq_true, Bool.and_eq_false_iff, inB, Bool.not_true, Bool.not_false] at hq) <;> try (exfalso; omega; done)) | (with_reducible refine af (i1) ?_; rintro _ ⟨_, rfl, rfl⟩; simp only [evt]) | ((with_reducible refine aq ?_); (exact ⟨_, rfl, rfl⟩)))
    rw [if_neg c8] at h
    by_cases c9 : bt s a = 40
    ·rw [if_pos c9] at h
     have i1 := IU hs (by omega) ih (n := n) (by omega) (z := ((a + 1 : Nat) : Int)) rfl h
     unfold bt at c9
     repeat' (first | (simp (disch := omega) only [wrap64]; done) | (simp (disch := omega) only [wrap64]) | (with_reducible refine al (fun hq => ?_) (fun hq => ?_) <;> (try simp (disch := omega) only [wrap64] at hq) <;> (try simp only [decide_eq_true_eq, decide_eq_false_iff_not, Bool.not_eq_true', Bool.not_eq_false', Bool.and_eq_true, Bool.and_eq_false_iff, inB, Bool.not_true, Bool.not_false] at hq) <;> try (exfalso; omega; done)) | (with_reducible refine af (i1) ?_; rintro _ ⟨_, rfl, rfl⟩; simp only [evt]) | ((with_reducible refine aq ?_); (exact ⟨_, rfl, rfl⟩)))
    rw [if_neg c9] at h
    by_cases c10 : bt s a = 91
    ·rw [if_pos c10] at h
     obtain ⟨⟨u, e1⟩, h1, h2⟩ := Option.bind_eq_some_iff.1 h
     simp only at h2
     split at h2
     ·rename_i hc
      obtain ⟨⟨v, e2⟩, h3, h4⟩ := Option.bind_eq_some_iff.1 h2
      cases h4
      have i1 := (ih n (by omega) ((a + 1 : Nat) : Int) (a + 1) u e1 rfl h1).2
      have i2 := (ih n (by omega) ((e1 : Int) + 1) (e1 + 1) v e2 (by omega) h3).2
      unfold bt at c10 hc
      repeat' (first | (simp (disch := omega) only [wrap64]; done) | (simp (disch := omega) only [wrap64]) | (with_reducible refine al (fun hq => ?_) (fun hq => ?_) <;> (try simp (disch := omega) only [wrap64] at hq) <;> (try simp only [decide_eq_true_eq, decide_eq_false_iff_not, Bool.not_eq_true', Bool.not_eq_false', Bool.and_eq_true, Bool.and_eq_false_iff, inB, Bool.not_true, Bool.not_false] at hq) <;> try (exfalso; omega; done)) | (with_reducible refine af (i1) ?_; rintro _ ⟨_, rfl, rfl⟩; simp only [evt]) | (with_reducible refine af (i2) ?_; rintro _ ⟨_, rfl, rfl⟩; simp only [evt]) | ((exfalso; simp only [Int.toNat_natCast] at hq; omega)) | ((simp only [Int.toNat_natCast])) | (with_reducible refine af (pV (by omega) _ _ (by simp)) ?_; rintro _ rfl; simp only [evt]) | ((with_reducible refine aq ?_); (exact ⟨_, rfl, rfl⟩)))
     ·cases h2
    rw [if_neg c10] at h
    have hb : Tot (FF n 176 [st s, nt (a : Int), nt ((d : Int) + 1)] []) (IsX t e) := by
     refine Je hs (by omega) ih (by omega) ha ?_
     split at h
     ·exact .inl ⟨‹_›, h⟩
     split at h
     ·exact .inr (.inl ⟨‹_›, h⟩)
     split at h
     ·exact .inr (.inr (.inl ⟨‹_›, h⟩))
     split at h
     ·rename_i hh; exact .inr (.inr (.inr ⟨hh.1, hh.2.1, hh.2.2, h⟩))
     ·cases h
    unfold bt at c1 c2 c3 c4 c5 c6 c7 c8 c9 c10
    repeat' (first | (simp (disch := omega) only [wrap64]; done) | (simp (disch := omega) only [wrap64]) | (with_reducible refine al (fun hq => ?_) (fun hq => ?_) <;> (try simp (disch := omega) only [wrap64] at hq) <;> (try simp only [decide_eq_true_eq, decide_eq_false_iff_not, Bool.not_eq_true', Bool.not_eq_false', Bool.and_eq_true, Bool.and_eq_false_iff, inB, Bool.not_true, Bool.not_false] at hq) <;> try (exfalso; omega; done)) | (with_reducible refine af (hb) ?_; rintro _ ⟨_, rfl, rfl⟩; simp only [evt]) | ((with_reducible refine aq ?_); (exact ⟨_, rfl, rfl⟩)))
   ·cases h2
  ·cases h
theorem GL {n : Nat} {s : ByteArray} {t : T} (hn : 5 * s.size + 5000 ≤ n) (hs : s.size ≤ 1000) (hz : t.size ≤ 500) (h : pa s 30 0 = some (t, s.size)) : Tot (FF n 116 [st s] []) (fun r => ∃ u b, r = ([tm u, bl b], []) ∧ (b = true → u = t)) := by
 refine aK (C := 5 * s.size + 4999) hn fun n hn _ => ?_
 rw [jl]
 refine af (Mn (s := s) (by omega) 30 (by omega) n (by omega) 0 0 t s.size (by omega) h).2 ?_
 rintro _ ⟨z, rfl, hz⟩
 simp only [evt]
 repeat' (first | (simp (disch := omega) only [wrap64]; done) | (simp (disch := omega) only [wrap64]) | (with_reducible refine al (fun hq => ?_) (fun hq => ?_) <;> (try simp (disch := omega) only [wrap64] at hq) <;> (try simp only [decide_eq_true_eq, decide_eq_false_iff_not, Bool.not_eq_true', Bool.not_eq_false', Bool.and_eq_true, Bool.and_eq_false_iff, inB, Bool.not_true, Bool.not_false] at hq) <;> try (exfalso; omega; done)) | (with_reducible refine af (xH (by omega) (by omega)) ?_; rintro _ ⟨x, rfl, hx⟩; simp only [evt]) | ((with_reducible refine aq ?_); (exact ⟨t, true, rfl, fun h => rfl⟩)) | ((with_reducible refine aq ?_); (exact ⟨.mk 0 0 [], false, rfl, fun h => by cases h⟩)))
theorem Bb {n : Nat} {s : ByteArray} {t : T} (hn : 5 * s.size + 5000 ≤ n) (hs : s.size ≤ 1000) (h0 : (s.toList == (bytesOf []).toList) = false) (hf : ∀ k, FF (k + 200) 155 [tm t] [] = some ([st s], [])) (h : pa s 30 0 = some (t, s.size)) : Tot (FF n 116 [st s] []) (fun r => r = ([tm t, bl true], [])) := by
 refine aK (C := 5 * s.size + 4999) hn fun n hn _ => ?_
 rw [jl]
 refine af (Mn (s := s) (by omega) 30 (by omega) n (by omega) 0 0 t s.size (by omega) h).2 ?_
 rintro _ ⟨z, rfl, rfl⟩
 have e := hf (n - 200)
 rw [show n - 200 + 200 = n by omega] at e
 simp only [evt]
 rw [h0, e]
 simp only [evt, beq_self_eq_true]
 repeat' (first | (simp (disch := omega) only [wrap64]; done) | (simp (disch := omega) only [wrap64]) | (with_reducible refine al (fun hq => ?_) (fun hq => ?_) <;> (try simp (disch := omega) only [wrap64] at hq) <;> (try simp only [decide_eq_true_eq, decide_eq_false_iff_not, Bool.not_eq_true', Bool.not_eq_false', Bool.and_eq_true, Bool.and_eq_false_iff, inB, Bool.not_true, Bool.not_false] at hq) <;> try (exfalso; omega; done)) | ((with_reducible refine aq ?_); (exact rfl)))
end Go.Proofs.YtajlknlnmmbfcaaGreat
end
section
namespace Go.Proofs.YtajlknlnmmbfcaaGreat
namespace Tm
variable {O : Orc}
def lo : List Tm → Tm → Tm
 | [], t => t
 | A :: G, t => lo G (lam A t)
def po : List Tm → Tm → Tm
 | [], t => t
 | A :: G, t => po G (pi A t)
def cl : Nat → Tm → Prop
 | d, var n => n < d
 | d, sort _ => True
 | d, nat => True
 | d, zero => True
 | d, succ a => cl d a
 | d, refl a => cl d a
 | d, fst a => cl d a
 | d, snd a => cl d a
 | d, pi a b => cl d a ∧ cl (d + 1) b
 | d, sig a b => cl d a ∧ cl (d + 1) b
 | d, lam a b => cl d a ∧ cl (d + 1) b
 | d, app a b => cl d a ∧ cl d b
 | d, id a b c => cl d a ∧ cl d b ∧ cl d c
 | d, move a b c => cl d a ∧ cl d b ∧ cl d c
 | d, pair a b c => cl d a ∧ cl d b ∧ cl d c
 | d, elim a b c e => cl d a ∧ cl d b ∧ cl d c ∧ cl d e
theorem AD : ∀ {G : List Tm} {n : Nat} {A : Tm}, look G n = some A → n < G.length
 | [], n, A, h => by simp [look] at h
 | B :: G, 0, A, h => by simp
 | B :: G, n + 1, A, h => by
  have : ∃ C, look G n = some C := by
   unfold look at h
   cases e : look G n with
   | none => rw [e] at h; simp at h
   | some C => exact ⟨C, rfl⟩
  obtain ⟨C, e⟩ := this
  have := AD e
  simp only [List.length_cons]; omega
theorem Ty.cl {G : List Tm} {t A : Tm} (h : Ty G t A) : cl G.length t := by
 induction h with
 | var h => exact AD h
 | sort h => trivial
 | pi h k ih ik => exact ⟨ih, ik⟩
 | sig h k ih ik => exact ⟨ih, ik⟩
 | lam h k l ih ik il => exact ⟨ih, ik⟩
 | app h k ih ik => exact ⟨ih, ik⟩
 | nat => trivial
 | zero => trivial
 | succ h ih => exact ih
 | elim h k l m ih ik il im => exact ⟨ih, ik, il, im⟩
 | id h k l ih ik il => exact ⟨ih, ik, il⟩
 | refl h k ih ik => exact ih
 | move h k l m ih ik il im => exact ⟨ik, ih, il⟩
 | pair h r q k l ih iq ik il => exact ⟨ih, ik, il⟩
 | fst h ih => exact ih
 | snd h ih => exact ih
 | conv h c k ih ik => exact ih
theorem KH {t : Tm} : ∀ {d : Nat} {σ : Nat → Tm}, cl d t → (∀ n, n < d → σ n = var n) → t.sub σ = t := by
 have hu : ∀ {d : Nat} {σ : Nat → Tm}, (∀ n, n < d → σ n = var n) → ∀ n, n < d + 1 → ups σ n = var n := by
  intro d σ h n hn
  cases n with
  | zero => rfl
  | succ n => show (σ n).wk = _; rw [h n (by omega)]; rfl
 induction t with
 | var n => intro d σ c h; exact h n c
 | sort n => intros; rfl
 | nat => intros; rfl
 | zero => intros; rfl
 | succ a ha => intro d σ c h; rw [Tm.sub, ha c h]
 | refl a ha => intro d σ c h; rw [Tm.sub, ha c h]
 | fst a ha => intro d σ c h; rw [Tm.sub, ha c h]
 | snd a ha => intro d σ c h; rw [Tm.sub, ha c h]
 | pi a b ha hb => intro d σ c h; rw [Tm.sub, ha c.1 h, hb c.2 (hu h)]
 | sig a b ha hb => intro d σ c h; rw [Tm.sub, ha c.1 h, hb c.2 (hu h)]
 | lam a b ha hb => intro d σ c h; rw [Tm.sub, ha c.1 h, hb c.2 (hu h)]
 | app a b ha hb => intro d σ c h; rw [Tm.sub, ha c.1 h, hb c.2 h]
 | id a b e ha hb he => intro d σ c h; rw [Tm.sub, ha c.1 h, hb c.2.1 h, he c.2.2 h]
 | move a b e ha hb he => intro d σ c h; rw [Tm.sub, ha c.1 h, hb c.2.1 h, he c.2.2 h]
 | pair a b e ha hb he => intro d σ c h; rw [Tm.sub, ha c.1 h, hb c.2.1 h, he c.2.2 h]
 | elim a b e f ha hb he hf => intro d σ c h; rw [Tm.sub, ha c.1 h, hb c.2.1 h, he c.2.2.1 h, hf c.2.2.2 h]
def aps (f : Tm) : List Tm → Tm
 | [] => f
 | u :: us => app (aps f us) u
def sg : List Tm → Nat → Tm
 | [] => var
 | u :: us => sc u (sg us)
theorem H6 : ∀ (G us : List Tm) (t : Tm), us.length = G.length → Red (aps (lo G t) us) (t.sub (sg us))
 | [], [], t, _ => by rw [show sg [] = var from rfl, b4]; exact .nil
 | A :: G, u :: us, t, h => by
  have ih := H6 G us (lam A t) (by simpa using h)
  have h2 : Red (app (aps (lo G (lam A t)) us) u) (app ((lam A t).sub (sg us)) u) := Red.app ih .nil
  refine h2.trans (Par.red ?_)
  have := Par.beta (a := A.sub (sg us)) (Par.a9 (t.sub (ups (sg us)))) (Par.a9 u)
  rw [oK] at this
  exact this
 | [], _ :: _, _, h => by simp at h
 | _ :: _, [], _, h => by simp at h
theorem Ew : ∀ (k i : Nat) (n : Nat), n < k → sg ((List.range' i k).map var) n = var (i + n)
 | 0, i, n, h => by omega
 | k + 1, i, 0, h => by simp [List.range'_succ, sg, sc]
 | k + 1, i, n + 1, h => by
  have := Ew k (i + 1) n (by omega)
  rw [List.range'_succ, List.map_cons]
  show sg _ n = _
  rw [this]; congr 1; omega
theorem Jk {G : List Tm} {t : Tm} (c : cl G.length t) : Red (aps (lo G t) ((List.range' 0 G.length).map var)) t := by
 have h := H6 G ((List.range' 0 G.length).map var) t (by simp)
 rwa [KH c fun n hn => by rw [Ew _ _ _ hn, Nat.zero_add]] at h
end Tm
end Go.Proofs.YtajlknlnmmbfcaaGreat
end
section
namespace Go.Proofs.YtajlknlnmmbfcaaGreat
open Go Go.Dk
namespace Tm
def ht : Tm → Nat
 | succ a => ht a + 1
 | refl a => ht a + 1
 | fst a => ht a + 1
 | snd a => ht a + 1
 | pi a b => max (ht a) (ht b) + 1
 | sig a b => max (ht a) (ht b) + 1
 | lam a b => max (ht a) (ht b) + 1
 | app a b => max (ht a) (ht b) + 1
 | id a b c => max (ht a) (max (ht b) (ht c)) + 1
 | move a b c => max (ht a) (max (ht b) (ht c)) + 1
 | pair a b c => max (ht a) (max (ht b) (ht c)) + 1
 | elim a b c d => max (max (ht a) (ht b)) (max (ht c) (ht d)) + 1
 | _ => 1
theorem eZ (t : Tm) : 1 ≤ ht t := by cases t <;> simp [ht]
theorem KV (t : Tm) : ∀ ξ, ht (t.ren ξ) = ht t := by induction t <;> intro ξ <;> simp_all [ht, ren]
theorem Gs (t : Tm) : ht t.wk = ht t := KV t _
theorem KM (t : Tm) : ∀ (σ : Nat → Tm) (k : Nat), (∀ n, ht (σ n) ≤ k) → ht (t.sub σ) + 1 ≤ ht t + k := by
 have hu : ∀ (σ : Nat → Tm) (k : Nat), (∀ n, ht (σ n) ≤ k) → ∀ n, ht (ups σ n) ≤ k := by
  intro σ k h n
  cases n with
  | zero => exact Nat.le_trans (eZ (σ 0)) (h 0)
  | succ n => show ht ((σ n).wk) ≤ k; rw [Gs]; exact h n
 induction t with
 | var n => intro σ k h; have := h n; simp only [ht, Tm.sub]; omega
 | sort n => intro σ k h; have := Nat.le_trans (eZ (σ 0)) (h 0); simp only [ht, Tm.sub]; omega
 | nat => intro σ k h; have := Nat.le_trans (eZ (σ 0)) (h 0); simp only [ht, Tm.sub]; omega
 | zero => intro σ k h; have := Nat.le_trans (eZ (σ 0)) (h 0); simp only [ht, Tm.sub]; omega
 | succ a ha => intro σ k h; have := ha σ k h; simp only [ht, Tm.sub]; omega
 | refl a ha => intro σ k h; have := ha σ k h; simp only [ht, Tm.sub]; omega
 | fst a ha => intro σ k h; have := ha σ k h; simp only [ht, Tm.sub]; omega
 | snd a ha => intro σ k h; have := ha σ k h; simp only [ht, Tm.sub]; omega
 | pi a b ha hb => intro σ k h; have := ha σ k h; have := hb _ k (hu σ k h); simp only [ht, Tm.sub]; omega
 | sig a b ha hb => intro σ k h; have := ha σ k h; have := hb _ k (hu σ k h); simp only [ht, Tm.sub]; omega
 | lam a b ha hb => intro σ k h; have := ha σ k h; have := hb _ k (hu σ k h); simp only [ht, Tm.sub]; omega
 | app a b ha hb => intro σ k h; have := ha σ k h; have := hb σ k h; simp only [ht, Tm.sub]; omega
 | id a b c ha hb hc => intro σ k h; have := ha σ k h; have := hb σ k h; have := hc σ k h; simp only [ht, Tm.sub]; omega
 | move a b c ha hb hc => intro σ k h; have := ha σ k h; have := hb σ k h; have := hc σ k h; simp only [ht, Tm.sub]; omega
 | pair a b c ha hb hc => intro σ k h; have := ha σ k h; have := hb σ k h; have := hc σ k h; simp only [ht, Tm.sub]; omega
 | elim a b c d ha hb hc hd => intro σ k h; have := ha σ k h; have := hb σ k h; have := hc σ k h; have := hd σ k h; simp only [ht, Tm.sub]; omega
theorem ln (b u : Tm) : ht (b.inst u) + 1 ≤ ht b + ht u := KM b _ _ fun n => by
 cases n with
 | zero => exact Nat.le_refl _
 | succ n => exact eZ u
theorem G7 (t : Tm) : ∀ ξ, (of (t.ren ξ)).size = (of t).size := by induction t <;> intro ξ <;> simp_all [of, ren, T.size, T.aE]
theorem My (t : Tm) : 3 * (of t).size + 1 ≤ 4 ^ ht t := by
 have up : ∀ {a b : Nat}, a ≤ b → 4 ^ a ≤ 4 ^ b := fun h => Nat.pow_le_pow_right (by omega) h
 have one : ∀ a : Nat, 1 ≤ 4 ^ a := fun a => Nat.one_le_pow _ _ (by omega)
 induction t with
 | var n => simp [of, T.size, T.aE, ht]
 | sort n => simp [of, T.size, T.aE, ht]
 | nat => simp [of, T.size, T.aE, ht]
 | zero => simp [of, T.size, T.aE, ht]
 | succ a ha => have := one (ht a); simp only [of, T.size, T.aE, ht, Nat.pow_succ]; omega
 | refl a ha => have := one (ht a); simp only [of, T.size, T.aE, ht, Nat.pow_succ]; omega
 | fst a ha => have := one (ht a); simp only [of, T.size, T.aE, ht, Nat.pow_succ]; omega
 | snd a ha => have := one (ht a); simp only [of, T.size, T.aE, ht, Nat.pow_succ]; omega
 | pi a b ha hb => have := @up (ht a) (max (ht a) (ht b)) (by omega); have := @up (ht b) (max (ht a) (ht b)) (by omega); have := one (max (ht a) (ht b)); simp only [of, T.size, T.aE, ht, Nat.pow_succ]; omega
 | sig a b ha hb => have := @up (ht a) (max (ht a) (ht b)) (by omega); have := @up (ht b) (max (ht a) (ht b)) (by omega); have := one (max (ht a) (ht b)); simp only [of, T.size, T.aE, ht, Nat.pow_succ]; omega
 | lam a b ha hb => have := @up (ht a) (max (ht a) (ht b)) (by omega); have := @up (ht b) (max (ht a) (ht b)) (by omega); have := one (max (ht a) (ht b)); simp only [of, T.size, T.aE, ht, Nat.pow_succ]; omega
 | app a b ha hb => have := @up (ht a) (max (ht a) (ht b)) (by omega); have := @up (ht b) (max (ht a) (ht b)) (by omega); have := one (max (ht a) (ht b)); simp only [of, T.size, T.aE, ht, Nat.pow_succ]; omega
 | id a b c ha hb hc => have := @up (ht a) (max (ht a) (max (ht b) (ht c))) (by omega); have := @up (ht b) (max (ht a) (max (ht b) (ht c))) (by omega); have := @up (ht c) (max (ht a) (max (ht b) (ht c))) (by omega); have := one (max (ht a) (max (ht b) (ht c))); simp only [of, T.size, T.aE, ht, Nat.pow_succ]; omega
 | move a b c ha hb hc => have := @up (ht a) (max (ht a) (max (ht b) (ht c))) (by omega); have := @up (ht b) (max (ht a) (max (ht b) (ht c))) (by omega); have := @up (ht c) (max (ht a) (max (ht b) (ht c))) (by omega); have := one (max (ht a) (max (ht b) (ht c))); simp only [of, T.size, T.aE, ht, Nat.pow_succ]; omega
 | pair a b c ha hb hc => have := @up (ht a) (max (ht a) (max (ht b) (ht c))) (by omega); have := @up (ht b) (max (ht a) (max (ht b) (ht c))) (by omega); have := @up (ht c) (max (ht a) (max (ht b) (ht c))) (by omega); have := one (max (ht a) (max (ht b) (ht c))); simp only [of, T.size, T.aE, ht, Nat.pow_succ]; omega
 | elim a b c d ha hb hc hd => have := @up (ht a) (max (max (ht a) (ht b)) (max (ht c) (ht d))) (by omega); have := @up (ht b) (max (max (ht a) (ht b)) (max (ht c) (ht d))) (by omega); have := @up (ht c) (max (max (ht a) (ht b)) (max (ht c) (ht d))) (by omega); have := @up (ht d) (max (max (ht a) (ht b)) (max (ht c) (ht d))) (by omega); have := one (max (max (ht a) (ht b)) (max (ht c) (ht d))); simp only [of, T.size, T.aE, ht, Nat.pow_succ]; omega
theorem sz4 {t : Tm} (h : ht t ≤ 4) : (of t).size ≤ 85 := by
 have h1 := My t
 have h2 : 4 ^ ht t ≤ 4 ^ 4 := Nat.pow_le_pow_right (by omega) h
 have e : (4 : Nat) ^ 4 = 256 := by decide
 omega
def srt : Tm → Prop
 | sort n => n ≤ 3
 | succ a => srt a
 | refl a => srt a
 | fst a => srt a
 | snd a => srt a
 | pi a b => srt a ∧ srt b
 | sig a b => srt a ∧ srt b
 | lam a b => srt a ∧ srt b
 | app a b => srt a ∧ srt b
 | id a b c => srt a ∧ srt b ∧ srt c
 | move a b c => srt a ∧ srt b ∧ srt c
 | pair a b c => srt a ∧ srt b ∧ srt c
 | elim a b c d => srt a ∧ srt b ∧ srt c ∧ srt d
 | _ => True
def lw : Tm → Prop
 | var n => n ≤ 3
 | sort n => n ≤ 3
 | succ a => lw a
 | refl a => lw a
 | fst a => lw a
 | snd a => lw a
 | pi a b => lw a ∧ lw b
 | sig a b => lw a ∧ lw b
 | lam a b => lw a ∧ lw b
 | app a b => lw a ∧ lw b
 | id a b c => lw a ∧ lw b ∧ lw c
 | move a b c => lw a ∧ lw b ∧ lw c
 | pair a b c => lw a ∧ lw b ∧ lw c
 | elim a b c d => lw a ∧ lw b ∧ lw c ∧ lw d
 | _ => True
theorem HH {t : Tm} (h : lw t) : srt t := by
 induction t <;> simp_all [lw, srt]
theorem Kg {t : Tm} : ∀ {d}, lw t → 4 ≤ d → cl d t := by
 induction t with
 | var n => intro d h hd; exact Nat.lt_of_lt_of_le (show n < 4 from Nat.lt_succ_of_le h) hd
 | sort n => intros; trivial
 | nat => intros; trivial
 | zero => intros; trivial
 | succ a ha => exact fun h hd => ha h hd
 | refl a ha => exact fun h hd => ha h hd
 | fst a ha => exact fun h hd => ha h hd
 | snd a ha => exact fun h hd => ha h hd
 | pi a b ha hb => exact fun h hd => ⟨ha h.1 hd, hb h.2 (by omega)⟩
 | sig a b ha hb => exact fun h hd => ⟨ha h.1 hd, hb h.2 (by omega)⟩
 | lam a b ha hb => exact fun h hd => ⟨ha h.1 hd, hb h.2 (by omega)⟩
 | app a b ha hb => exact fun h hd => ⟨ha h.1 hd, hb h.2 hd⟩
 | id a b c ha hb hc => exact fun h hd => ⟨ha h.1 hd, hb h.2.1 hd, hc h.2.2 hd⟩
 | move a b c ha hb hc => exact fun h hd => ⟨ha h.1 hd, hb h.2.1 hd, hc h.2.2 hd⟩
 | pair a b c ha hb hc => exact fun h hd => ⟨ha h.1 hd, hb h.2.1 hd, hc h.2.2 hd⟩
 | elim a b c e ha hb hc he => exact fun h hd => ⟨ha h.1 hd, hb h.2.1 hd, hc h.2.2.1 hd, he h.2.2.2 hd⟩
theorem D9 {t : Tm} : ∀ {d e : Nat} {ξ : Nat → Nat}, cl d t → (∀ n, n < d → ξ n < e) → cl e (t.ren ξ) := by
 have up : ∀ {d e : Nat} {ξ : Nat → Nat}, (∀ n, n < d → ξ n < e) → ∀ n, n < d + 1 → Tm.up ξ n < e + 1 := by
  intro d e ξ h n hn
  cases n with
  | zero => exact Nat.succ_pos _
  | succ n => exact Nat.succ_lt_succ (h n (by omega))
 induction t with
 | var n => exact fun h k => k n h
 | sort n => intros; trivial
 | nat => intros; trivial
 | zero => intros; trivial
 | succ a ha => exact fun h k => ha h k
 | refl a ha => exact fun h k => ha h k
 | fst a ha => exact fun h k => ha h k
 | snd a ha => exact fun h k => ha h k
 | pi a b ha hb => exact fun h k => ⟨ha h.1 k, hb h.2 (up k)⟩
 | sig a b ha hb => exact fun h k => ⟨ha h.1 k, hb h.2 (up k)⟩
 | lam a b ha hb => exact fun h k => ⟨ha h.1 k, hb h.2 (up k)⟩
 | app a b ha hb => exact fun h k => ⟨ha h.1 k, hb h.2 k⟩
 | id a b c ha hb hc => exact fun h k => ⟨ha h.1 k, hb h.2.1 k, hc h.2.2 k⟩
 | move a b c ha hb hc => exact fun h k => ⟨ha h.1 k, hb h.2.1 k, hc h.2.2 k⟩
 | pair a b c ha hb hc => exact fun h k => ⟨ha h.1 k, hb h.2.1 k, hc h.2.2 k⟩
 | elim a b c e ha hb hc he => exact fun h k => ⟨ha h.1 k, hb h.2.1 k, hc h.2.2.1 k, he h.2.2.2 k⟩
theorem Fp {t : Tm} {d e : Nat} (h : cl d t) (k : d ≤ e) : cl e t := by
 have := D9 (ξ := fun n => n) (e := e) h fun n hn => by omega
 rwa [qp] at this
theorem DH {t : Tm} : ∀ {ξ : Nat → Nat}, srt t → srt (t.ren ξ) := by
 induction t <;> intro ξ h <;> simp_all [srt, ren]
theorem Ty.srt {G : List Tm} {t A : Tm} (h : Ty G t A) : srt t := by
 induction h with
 | var h => trivial
 | sort h => exact Nat.le_of_lt h
 | pi h k ih ik => exact ⟨ih, ik⟩
 | sig h k ih ik => exact ⟨ih, ik⟩
 | lam h k l ih ik il => exact ⟨ih, ik⟩
 | app h k ih ik => exact ⟨ih, ik⟩
 | nat => trivial
 | zero => trivial
 | succ h ih => exact ih
 | elim h k l m ih ik il im => exact ⟨ih, ik, il, im⟩
 | id h k l ih ik il => exact ⟨ih, ik, il⟩
 | refl h k ih ik => exact ih
 | move h k l m ih ik il im => exact ⟨ik, ih, il⟩
 | pair h r q k l ih iq ik il => exact ⟨ih, ik, il⟩
 | fst h ih => exact ih
 | snd h ih => exact ih
 | conv h c k ih ik => exact ih
theorem G9 {t : Tm} : ∀ {d k : Nat}, cl d t → srt t → ht t ≤ k → d + ht t ≤ 21 → bD (of t) k = true := by
 have e1 : cw 1 = 20 := rfl
 have e2 : cw 2 = 3 := rfl
 induction t with
 | var n =>
  intro d k c s h hd
  have c : n < d := c
  simp only [ht] at h hd
  simp only [of, bD, bH, Bool.and_eq_true, decide_eq_true_eq, Bool.and_true, e1]
  exact ⟨by omega, rfl, by omega⟩
 | sort n =>
  intro d k c s h hd
  have s : n ≤ 3 := s
  simp only [ht] at h hd
  simp only [of, bD, bH, Bool.and_eq_true, decide_eq_true_eq, Bool.and_true, e2]
  exact ⟨by omega, rfl, by omega⟩
 | nat =>
  intro d k c s h hd
  simp only [ht] at h hd
  simp only [of, bD, bH, Bool.and_eq_true, decide_eq_true_eq, Bool.and_true]
  exact ⟨by omega, rfl, by decide⟩
 | zero =>
  intro d k c s h hd
  simp only [ht] at h hd
  simp only [of, bD, bH, Bool.and_eq_true, decide_eq_true_eq, Bool.and_true]
  exact ⟨by omega, rfl, by decide⟩
 | succ a ha =>
  intro d k c s h hd
  simp only [ht] at h hd
  simp only [of, bD, bH, Bool.and_eq_true, decide_eq_true_eq, Bool.and_true]
  exact ⟨by omega, rfl, by decide, ha c s (by omega) (by omega)⟩
 | refl a ha =>
  intro d k c s h hd
  simp only [ht] at h hd
  simp only [of, bD, bH, Bool.and_eq_true, decide_eq_true_eq, Bool.and_true]
  exact ⟨by omega, rfl, by decide, ha c s (by omega) (by omega)⟩
 | fst a ha =>
  intro d k c s h hd
  simp only [ht] at h hd
  simp only [of, bD, bH, Bool.and_eq_true, decide_eq_true_eq, Bool.and_true]
  exact ⟨by omega, rfl, by decide, ha c s (by omega) (by omega)⟩
 | snd a ha =>
  intro d k c s h hd
  simp only [ht] at h hd
  simp only [of, bD, bH, Bool.and_eq_true, decide_eq_true_eq, Bool.and_true]
  exact ⟨by omega, rfl, by decide, ha c s (by omega) (by omega)⟩
 | pi a b ha hb =>
  intro d k c s h hd
  simp only [ht] at h hd
  simp only [of, bD, bH, Bool.and_eq_true, decide_eq_true_eq, Bool.and_true]
  exact ⟨by omega, rfl, by decide, ha c.1 s.1 (by omega) (by omega), hb c.2 s.2 (by omega) (by omega)⟩
 | sig a b ha hb =>
  intro d k c s h hd
  simp only [ht] at h hd
  simp only [of, bD, bH, Bool.and_eq_true, decide_eq_true_eq, Bool.and_true]
  exact ⟨by omega, rfl, by decide, ha c.1 s.1 (by omega) (by omega), hb c.2 s.2 (by omega) (by omega)⟩
 | lam a b ha hb =>
  intro d k c s h hd
  simp only [ht] at h hd
  simp only [of, bD, bH, Bool.and_eq_true, decide_eq_true_eq, Bool.and_true]
  exact ⟨by omega, rfl, by decide, ha c.1 s.1 (by omega) (by omega), hb c.2 s.2 (by omega) (by omega)⟩
 | app a b ha hb =>
  intro d k c s h hd
  simp only [ht] at h hd
  simp only [of, bD, bH, Bool.and_eq_true, decide_eq_true_eq, Bool.and_true]
  exact ⟨by omega, rfl, by decide, ha c.1 s.1 (by omega) (by omega), hb c.2 s.2 (by omega) (by omega)⟩
 | id a b e ha hb he =>
  intro d k c s h hd
  simp only [ht] at h hd
  simp only [of, bD, bH, Bool.and_eq_true, decide_eq_true_eq, Bool.and_true]
  exact ⟨by omega, rfl, by decide, ha c.1 s.1 (by omega) (by omega), hb c.2.1 s.2.1 (by omega) (by omega), he c.2.2 s.2.2 (by omega) (by omega)⟩
 | move a b e ha hb he =>
  intro d k c s h hd
  simp only [ht] at h hd
  simp only [of, bD, bH, Bool.and_eq_true, decide_eq_true_eq, Bool.and_true]
  exact ⟨by omega, rfl, by decide, ha c.1 s.1 (by omega) (by omega), hb c.2.1 s.2.1 (by omega) (by omega), he c.2.2 s.2.2 (by omega) (by omega)⟩
 | pair a b e ha hb he =>
  intro d k c s h hd
  simp only [ht] at h hd
  simp only [of, bD, bH, Bool.and_eq_true, decide_eq_true_eq, Bool.and_true]
  exact ⟨by omega, rfl, by decide, ha c.1 s.1 (by omega) (by omega), hb c.2.1 s.2.1 (by omega) (by omega), he c.2.2 s.2.2 (by omega) (by omega)⟩
 | elim a b e f ha hb he hf =>
  intro d k c s h hd
  simp only [ht] at h hd
  simp only [of, bD, bH, Bool.and_eq_true, decide_eq_true_eq, Bool.and_true]
  exact ⟨by omega, rfl, by decide, ha c.1 s.1 (by omega) (by omega), hb c.2.1 s.2.1 (by omega) (by omega), he c.2.2.1 s.2.2.1 (by omega) (by omega), hf c.2.2.2 s.2.2.2 (by omega) (by omega)⟩
theorem Kf {t : Tm} {d : Nat} (c : cl d t) (s : srt t) (h : ht t ≤ 9) (hd : d ≤ 12) (z : (of t).size ≤ 400) : vdM t = true := fj.2 ⟨G9 c s (by omega) (by omega), z⟩
theorem Gm {t : Tm} {d : Nat} (c : cl d t) (s : srt t) (h : ht t ≤ 4) (hd : d ≤ 12) : vdM t = true := Kf c s (by omega) hd (by have := sz4 h; omega)
theorem CZ {p : Tm} (h : ht p ≤ 4) (l : lw p) : vdM (bc p) = true := by
 have h1 := sz4 h
 have c1 : cl 4 p := Kg l (by omega)
 have c2 : cl 5 p.wk := D9 c1 fun n hn => by omega
 have c3 : cl 6 p.wk.wk := D9 c2 fun n hn => by omega
 have s1 := HH l
 have s2 : Tm.srt p.wk := DH s1
 have s3 : Tm.srt p.wk.wk := DH s2
 refine Kf (d := 4) ⟨trivial, ⟨c2, show 0 < 5 by omega⟩, c3, show 1 < 6 by omega⟩ ⟨trivial, ⟨s2, trivial⟩, s3, trivial⟩ ?_ (by omega) ?_
 ·simp only [bc, ht, Gs]; omega
 ·simp only [bc, of, T.size, T.aE, wk, G7]; omega
theorem Bc {t : Tm} (h : ht t ≤ 1) : (∃ n, t = var n) ∨ (∃ n, t = sort n) ∨ t = nat ∨ t = zero := by
 cases t <;> first | simp; done | (exfalso; simp only [ht] at h; have := eZ ‹Tm›; omega)
theorem Hd.leaf {t u : Tm} (h : Hd t u) (k : ht t ≤ 1) : False := by
 rcases Bc k with ⟨n, rfl⟩ | ⟨n, rfl⟩ | rfl | rfl <;> cases h
theorem hd2 {t u : Tm} (h : Hd t u) (k : ht t ≤ 2) : ht u ≤ 1 := by
 cases h with
 | @beta a b v => have := eZ a; simp only [ht] at k; omega
 | @ezero p z s => simp only [ht] at k; omega
 | @esucc p z s n => have := eZ n; simp only [ht] at k; omega
 | @mrefl p a x => have := eZ a; simp only [ht] at k; omega
 | @fpair t a b => have := eZ t; simp only [ht] at k; omega
 | @spair t a b => have := eZ t; simp only [ht] at k; omega
 | @app f f' v h => exact (h.leaf (by simp only [ht] at k; omega)).elim
 | @elim p z s n n' h => exact (h.leaf (by simp only [ht] at k; omega)).elim
 | @move p e e' x h => exact (h.leaf (by simp only [ht] at k; omega)).elim
 | @fst q q' h => exact (h.leaf (by simp only [ht] at k; omega)).elim
 | @snd q q' h => exact (h.leaf (by simp only [ht] at k; omega)).elim
def EX (X : Tm) : Prop := ht X ≤ 1 ∨ ∃ s m, X = app s m ∧ ht s ≤ 2 ∧ ht m ≤ 1
def D3 (t : Tm) : Prop := ht t ≤ 3 ∨ ∃ X Y, t = app X Y ∧ EX X
theorem hdE {X X' : Tm} (h : Hd X X') (k : EX X) : EX X' := by
 rcases k with k | ⟨s, m, rfl, hs, hm⟩
 ·exact (h.leaf k).elim
 ·cases h with
  | @beta a b _ => left; have := ln b m; simp only [ht] at hs; omega
  | @app _ s' _ h => exact .inr ⟨s', m, rfl, by have := hd2 h hs; omega, hm⟩
theorem hd3 {t u : Tm} (h : Hd t u) (k : ht t ≤ 3) : D3 u := by
 cases h with
 | @beta a b v => left; have := ln b v; have := eZ a; simp only [ht] at k; omega
 | @ezero p z s => left; simp only [ht] at k; omega
 | @esucc p z s n => exact .inr ⟨.app s n, _, rfl, .inr ⟨s, n, rfl, by simp only [ht] at k; omega, by simp only [ht] at k; omega⟩⟩
 | @mrefl p a x => left; simp only [ht] at k; omega
 | @fpair t a b => left; simp only [ht] at k; omega
 | @spair t a b => left; simp only [ht] at k; omega
 | @app f f' v h => left; simp only [ht] at k; have := hd2 h (by omega); simp only [ht]; omega
 | @elim p z s n n' h => left; simp only [ht] at k; have := hd2 h (by omega); simp only [ht]; omega
 | @move p e e' x h => left; simp only [ht] at k; have := hd2 h (by omega); simp only [ht]; omega
 | @fst q q' h => left; simp only [ht] at k; have := hd2 h (by omega); simp only [ht]; omega
 | @snd q q' h => left; simp only [ht] at k; have := hd2 h (by omega); simp only [ht]; omega
theorem hdD {t u : Tm} (h : Hd t u) (k : D3 t) : D3 u := by
 rcases k with k | ⟨X, Y, rfl, e⟩
 ·exact hd3 h k
 ·cases h with
  | @beta a b _ =>
   exfalso
   rcases e with e | ⟨s, m, e, _⟩
   ·have := eZ a; simp only [ht] at e; omega
   ·cases e
  | @app _ X' _ h => exact .inr ⟨X', Y, rfl, hdE h e⟩
theorem whD {t u : Tm} (h : Wh t u) (k : D3 t) : D3 u := by
 induction h with
 | nil => exact k
 | cons h _ ih => exact ih (hdD h k)
theorem wh3 {t u : Tm} (h : Wh t u) (k : ht t ≤ 3) (hu : ∀ X Y, u ≠ app X Y) : ht u ≤ 3 := by
 rcases whD h (.inl k) with h | ⟨X, Y, e, _⟩
 ·exact h
 ·exact absurd e (hu X Y)
def NX (X : Tm) : Prop := ht X ≤ 1 ∨ ∃ q, X = fst q ∧ ht q ≤ 2
theorem hdN {X X' : Tm} (h : Hd X X') (k : NX X) : NX X' := by
 rcases k with k | ⟨q, rfl, hq⟩
 ·exact (h.leaf k).elim
 ·cases h with
  | @fpair t a b => left; simp only [ht] at hq; omega
  | @fst _ q' h => exact .inr ⟨q', rfl, by have := hd2 h hq; omega⟩
def P4 : Tm → Prop
 | app X _ => NX X
 | elim _ z _ n => NX n ∧ ht z ≤ 3
 | move _ e _ => NX e
 | fst q => NX q
 | snd q => NX q
 | id _ y _ => ht y ≤ 3
 | _ => True
def D4 (t : Tm) : Prop := D3 t ∨ P4 t
theorem MN {t u : Tm} (h : Hd t u) (k : D4 t) : D4 u := by
 rcases k with k | k
 ·exact .inl (hdD h k)
 ·cases h with
  | @beta a b v =>
   rcases k with k | ⟨q, e, _⟩
   ·have := eZ a; simp only [ht] at k; omega
   ·cases e
  | @ezero p z s => exact .inl (.inl k.2)
  | @esucc p z s n =>
   rcases k.1 with k | ⟨q, e, _⟩
   ·have := eZ n; simp only [ht] at k; omega
   ·cases e
  | @mrefl p a x =>
   rcases k with k | ⟨q, e, _⟩
   ·have := eZ a; simp only [ht] at k; omega
   ·cases e
  | @fpair t a b =>
   rcases k with k | ⟨q, e, _⟩
   ·have := eZ t; simp only [ht] at k; omega
   ·cases e
  | @spair t a b =>
   rcases k with k | ⟨q, e, _⟩
   ·have := eZ t; simp only [ht] at k; omega
   ·cases e
  | @app f f' v h => exact .inr (hdN h k)
  | @elim p z s n n' h => exact .inr ⟨hdN h k.1, k.2⟩
  | @move p e e' x h => exact .inr (hdN h k)
  | @fst q q' h => exact .inr (hdN h k)
  | @snd q q' h => exact .inr (hdN h k)
theorem MJ {t u : Tm} (h : Wh t u) (k : D4 t) : D4 u := by
 induction h with
 | nil => exact k
 | cons h _ ih => exact ih (MN h k)
theorem Mj {t y z : Tm} (k : D4 (id t y z)) : ht y ≤ 3 := by
 rcases k with (k | ⟨X, Y, e, _⟩) | k
 ·simp only [ht] at k; omega
 ·cases e
 ·exact k
theorem Jq {B q : Tm} (hB : ht B ≤ 2) (hq : ht q ≤ 2) : D4 (B.inst (fst q)) := by
 have hN : ∀ {f : Tm}, ht f ≤ 1 → NX (f.inst (fst q)) := by
  intro f hf
  rcases Bc hf with ⟨n, rfl⟩ | ⟨n, rfl⟩ | rfl | rfl
  ·cases n with
   | zero => exact .inr ⟨q, rfl, hq⟩
   | succ n => exact .inl (Nat.le_refl 1)
  ·exact .inl (Nat.le_refl 1)
  ·exact .inl (Nat.le_refl 1)
  ·exact .inl (Nat.le_refl 1)
 have hz : ∀ {z : Tm}, ht z ≤ 1 → ht (z.inst (fst q)) ≤ 3 := by
  intro z hz
  have := ln z (fst q)
  simp only [ht] at this; omega
 cases B with
 | var n => exact .inl (.inl (hz (Nat.le_refl 1)))
 | sort n => exact .inl (.inl (hz (Nat.le_refl 1)))
 | nat => exact .inl (.inl (hz (Nat.le_refl 1)))
 | zero => exact .inl (.inl (hz (Nat.le_refl 1)))
 | app f x => exact .inr (show NX (f.inst (.fst q)) from hN (by simp only [ht] at hB; omega))
 | elim p z s n => exact .inr (show NX (n.inst (.fst q)) ∧ ht (z.inst (.fst q)) ≤ 3 from ⟨hN (by simp only [ht] at hB; omega), hz (by simp only [ht] at hB; omega)⟩)
 | move p e x => exact .inr (show NX (e.inst (.fst q)) from hN (by simp only [ht] at hB; omega))
 | fst e => exact .inr (show NX (e.inst (.fst q)) from hN (by simp only [ht] at hB; omega))
 | snd e => exact .inr (show NX (e.inst (.fst q)) from hN (by simp only [ht] at hB; omega))
 | id t y z => exact .inr (show ht (y.inst (.fst q)) ≤ 3 from hz (by simp only [ht] at hB; omega))
 | pi a b => exact .inr trivial
 | sig a b => exact .inr trivial
 | lam a b => exact .inr trivial
 | pair a b c => exact .inr trivial
 | refl a => exact .inr trivial
 | succ a => exact .inr trivial
theorem mm {t y z X : Tm} (h : Wh (id t y z) X) : X = id t y z := by cases h with | nil => rfl | cons h _ => cases h
theorem yf {a b X : Tm} (h : Wh (pi a b) X) : X = pi a b := by cases h with | nil => rfl | cons h _ => cases h
theorem nZ {a b X : Tm} (h : Wh (sig a b) X) : X = sig a b := by cases h with | nil => rfl | cons h _ => cases h
def hts (k : Nat) (G : List Tm) : Prop := ∀ A ∈ G, ht A ≤ k
theorem hts.cons {k : Nat} {G : List Tm} {A : Tm} (h : hts k G) (hA : ht A ≤ k) : hts k (A :: G) := fun B hB => by
 rcases List.mem_cons.1 hB with rfl | hB
 ·exact hA
 ·exact h B hB
theorem Az {k : Nat} : ∀ {G : List Tm}, hts k G → ∀ {n A}, look G n = some A → ∃ C, A = C.wk ∧ ht C ≤ k
 | [], _, n, A, h => by simp [look] at h
 | B :: G, hg, 0, A, h => by
  simp only [look, Option.some.injEq] at h
  exact ⟨B, h.symm, hg B List.mem_cons_self⟩
 | B :: G, hg, n + 1, A, h => by
  simp only [look] at h
  obtain ⟨X, hX, rfl⟩ := Option.map_eq_some_iff.1 h
  obtain ⟨C, rfl, hc⟩ := Az (fun D hD => hg D (List.mem_cons_of_mem _ hD)) hX
  exact ⟨C.wk, rfl, by rw [Gs]; exact hc⟩
theorem al1 {G : List Tm} {e Q : Tm} (hg : hts 3 G) (h : Al G e Q) (he : ht e ≤ 1) : ∃ C, Q = C.wk ∧ ht C ≤ 3 := by
 rcases Bc he with ⟨n, rfl⟩ | ⟨n, rfl⟩ | rfl | rfl
 ·cases h with | var h => exact Az hg h
 ·cases h with | sort h => exact ⟨.sort (n + 1), rfl, by simp [ht]⟩
 ·cases h with | nat => exact ⟨.sort 0, rfl, by simp [ht]⟩
 ·cases h with | zero => exact ⟨.nat, rfl, by simp [ht]⟩
theorem JS {G : List Tm} {e Q : Tm} (hg : hts 3 G) (h : Al G e Q) (he : ht e ≤ 1) : ht Q ≤ 3 := by
 obtain ⟨C, rfl, hc⟩ := al1 hg h he
 rw [Gs]; exact hc
def T2 (Q : Tm) : Prop := ht Q ≤ 3 ∨ (∃ a C, Q = pi a (wk C) ∧ ht C ≤ 3) ∨ ∃ A a, Q = id A a a ∧ ht a ≤ 1
theorem al2 {G : List Tm} {e Q : Tm} (hg : hts 3 G) (h : Al G e Q) (he : ht e ≤ 2) : T2 Q := by
 cases h with
 | var h => exact .inl (JS hg (.var h) (Nat.le_refl 1))
 | sort h => exact .inl (by simp [ht])
 | nat => exact .inl (by simp [ht])
 | zero => exact .inl (by simp [ht])
 | succ h c => exact .inl (by simp [ht])
 | pi h w k v => exact .inl (by simp [ht])
 | sig h w k v => exact .inl (by simp [ht])
 | @lam _ A b B S R i j h w k l v =>
  simp only [ht] at he
  obtain ⟨C, rfl, hc⟩ := al1 (hg.cons (by omega)) k (by omega)
  exact .inr (.inl ⟨A, C, rfl, hc⟩)
 | @app _ f u F U C B h w k c =>
  simp only [ht] at he
  have h1 := wh3 w (JS hg h (by omega)) (by simp)
  have h2 := ln B u
  simp only [ht] at h1
  exact .inl (by omega)
 | elim h w c v k d l e m f => exact .inl (by simp only [ht] at he ⊢; omega)
 | id h w k c l d => exact .inl (by simp [ht])
 | @refl _ a A S i h k w => exact .inr (.inr ⟨A, a, rfl, by simp only [ht] at he; omega⟩)
 | @move _ p e x Q t y z P C D i X h w k v c u l d =>
  simp only [ht] at he
  have h1 := wh3 w (JS hg h (by omega)) (by simp)
  simp only [ht] at h1
  exact .inl (by simp only [ht]; omega)
 | pair h w v k c l d => exact .inl (by simp only [ht] at he; omega)
 | @fst _ q Q A B h w =>
  simp only [ht] at he
  have h1 := wh3 w (JS hg h (by omega)) (by simp)
  simp only [ht] at h1
  exact .inl (by omega)
 | @snd _ q Q A B h w =>
  simp only [ht] at he
  have h1 := wh3 w (JS hg h (by omega)) (by simp)
  have h2 := ln B (.fst q)
  simp only [ht] at h1 h2
  exact .inl (by omega)
theorem al3 {G : List Tm} {e Q t y z : Tm} (hg : hts 3 G) (h : Al G e Q) (he : ht e ≤ 3) (w : Wh Q (id t y z)) : ht y ≤ 3 := by
 have fin : ht Q ≤ 3 → ht y ≤ 3 := fun h => by have h1 := wh3 w h (by simp); simp only [ht] at h1; omega
 cases h with
 | var h => exact fin (JS hg (.var h) (Nat.le_refl 1))
 | sort h => exact fin (by simp [ht])
 | nat => exact fin (by simp [ht])
 | zero => exact fin (by simp [ht])
 | succ h c => exact fin (by simp [ht])
 | pi h w k v => exact fin (by simp [ht])
 | sig h w k v => exact fin (by simp [ht])
 | lam h v k l u => cases yf w
 | @app _ f u F U C B h v k c =>
  simp only [ht] at he
  rcases al2 hg h (by omega) with hF | ⟨a, C', rfl, hc⟩ | ⟨A, a, rfl, ha⟩
  ·have h1 := wh3 v hF (by simp)
   have h2 := ln B u
   simp only [ht] at h1
   exact fin (by omega)
  ·cases yf v
   exact fin (by rw [I4]; exact hc)
  ·cases mm v
 | elim h v c r k d l e m f => exact fin (by simp only [ht] at he ⊢; omega)
 | id h v k c l d => exact fin (by simp [ht])
 | @refl _ a A S i h k v => cases mm w; simp only [ht] at he; omega
 | @move _ p e x Q t' y' z' P C D i X h v k r c u l d =>
  simp only [ht] at he
  rcases al2 hg h (by omega) with hF | ⟨a, C', rfl, hc⟩ | ⟨A, a, rfl, ha⟩
  ·have h1 := wh3 v hF (by simp)
   simp only [ht] at h1
   exact fin (by simp only [ht]; omega)
  ·cases yf v
  ·cases mm v
   exact fin (by simp only [ht]; omega)
 | pair h v r k c l d => exact fin (by simp only [ht] at he; omega)
 | @fst _ q Q A B h v =>
  simp only [ht] at he
  rcases al2 hg h (by omega) with hF | ⟨a, C', rfl, hc⟩ | ⟨A, a, rfl, ha⟩
  ·have h1 := wh3 v hF (by simp)
   simp only [ht] at h1
   exact fin (by omega)
  ·cases yf v
  ·cases mm v
 | @snd _ q Q A B h v =>
  simp only [ht] at he
  rcases al2 hg h (by omega) with hF | ⟨a, C', rfl, hc⟩ | ⟨A, a, rfl, ha⟩
  ·have h1 := wh3 v hF (by simp)
   simp only [ht] at h1
   exact Mj (MJ w (Jq (by omega) (by omega)))
  ·cases yf v
  ·cases mm v
theorem Lv.wf {G : List Tm} {a : Tm} (h : Lv G a) (w : Wf G) : Wf (a :: G) := by
 obtain ⟨S, i, h1, h2⟩ := h
 exact .cons w ((h1.sound w).lvl w h2)
theorem mu {t : Tm} : ∀ {G : List Tm}, ht t ≤ 4 → lw t → Wf G → hts 3 G → G.length + ht t ≤ 12 → eS O G t := by
 induction t with
 | var n => intros; trivial
 | sort n => intros; trivial
 | nat => intros; trivial
 | zero => intros; trivial
 | succ a ha => intro G h l w hg hl; simp only [ht] at h hl; exact ha (by omega) l w hg (by omega)
 | refl a ha => intro G h l w hg hl; simp only [ht] at h hl; exact ha (by omega) l w hg (by omega)
 | fst a ha => intro G h l w hg hl; simp only [ht] at h hl; exact ha (by omega) l w hg (by omega)
 | snd a ha => intro G h l w hg hl; simp only [ht] at h hl; exact ha (by omega) l w hg (by omega)
 | pi a b ha hb => intro G h l w hg hl; simp only [ht] at h hl; exact ⟨ha (by omega) l.1 w hg (by omega), fun v => hb (by omega) l.2 (v.wf w) (hg.cons (by omega)) (by simp only [List.length_cons]; omega)⟩
 | sig a b ha hb => intro G h l w hg hl; simp only [ht] at h hl; exact ⟨ha (by omega) l.1 w hg (by omega), fun v => hb (by omega) l.2 (v.wf w) (hg.cons (by omega)) (by simp only [List.length_cons]; omega)⟩
 | lam a b ha hb => intro G h l w hg hl; simp only [ht] at h hl; exact ⟨ha (by omega) l.1 w hg (by omega), fun v => hb (by omega) l.2 (v.wf w) (hg.cons (by omega)) (by simp only [List.length_cons]; omega)⟩
 | app a b ha hb => intro G h l w hg hl; simp only [ht] at h hl; exact ⟨ha (by omega) l.1 w hg (by omega), fun _ => hb (by omega) l.2 w hg (by omega)⟩
 | id a b c ha hb hc => intro G h l w hg hl; simp only [ht] at h hl; exact ⟨ha (by omega) l.1 w hg (by omega), hb (by omega) l.2.1 w hg (by omega), hc (by omega) l.2.2 w hg (by omega)⟩
 | elim a b c d ha hb hc hd =>
  intro G h l w hg hl
  simp only [ht] at h hl
  exact ⟨ha (by omega) l.1 w hg (by omega), hb (by omega) l.2.1 w hg (by omega), hc (by omega) l.2.2.1 w hg (by omega), hd (by omega) l.2.2.2 w hg (by omega), .inl (CZ (by omega) l.1)⟩
 | move p e x hp he hx =>
  intro G h l w hg hl
  simp only [ht] at h hl
  refine ⟨he (by omega) l.2.1 w hg (by omega), hp (by omega) l.1 w hg (by omega), hx (by omega) l.2.2 w hg (by omega), fun Q t y z q r _ => .inl ?_⟩
  have hy := al3 hg q (by omega) r
  obtain ⟨i, _, ty, _⟩ := ((q.sound w).frm w r).Be w
  exact Gm (d := 12) ⟨Kg l.1 (by omega), Fp ty.cl (by omega)⟩ ⟨HH l.1, ty.srt⟩ (by simp only [ht]; omega) (by omega)
 | pair s a b hs ha hb =>
  intro G h l w hg hl
  simp only [ht] at h hl
  refine ⟨hs (by omega) l.1 w hg (by omega), ha (by omega) l.2.1 w hg (by omega), hb (by omega) l.2.2 w hg (by omega), fun v A B r q => .inl ?_⟩
  have h1 := wh3 r (by omega) (by simp)
  have h2 := ln B a
  simp only [ht] at h1
  obtain ⟨S, i, v1, v2⟩ := v
  have ts := (v1.sound w).lvl w v2
  have tq := ts.red w r.red
  obtain ⟨i', j', g1, g2, _⟩ := tq.gen
  obtain ⟨U, u1, u2⟩ := q
  have ta := (u1.sound w).chk u2 g1
  have tb := g2.inst ta
  exact Gm (d := 12) (Fp tb.cl (by omega)) tb.srt (by omega) (by omega)
def bI : Nat → List Tm → Tm → Bool
 | m, D, pi a b => bI m D a && bI (m + 1) (a :: D) b
 | m, D, sig a b => bI m D a && bI (m + 1) (a :: D) b
 | m, D, lam a b => bI m D a && bI (m + 1) (a :: D) b
 | m, D, app f u => bI m D f && bI m D u
 | m, D, succ a => bI m D a
 | m, D, refl a => bI m D a
 | m, D, fst a => bI m D a
 | m, D, snd a => bI m D a
 | m, D, id a b c => bI m D a && (bI m D b && bI m D c)
 | m, D, elim p z s n => bI m D p && (bI m D z && (bI m D s && (bI m D n && vdM (bc p))))
 | m, D, pair s a b => bI m D s && (bI m D a && (bI m D b && (match s with
  | sig _ B => vdM (B.inst a)
  | _ => false)))
 | m, D, move p e x => bI m D e && (bI m D p && (bI m D x && ((match e with
  | refl a => vdM (app p a)
  | var n => (match look D n with
   | some (id _ y _) => vdM (app p y)
   | _ => false)
  | _ => false) || (match x with
  | var n => decide (n < m)
  | _ => false))))
 | _, _, _ => true
theorem BM : ∀ {D G : List Tm} {n : Nat} {A : Tm}, look D n = some A → look (D ++ G) n = some A
 | [], G, n, A, h => by simp [look] at h
 | B :: D, G, 0, A, h => h
 | B :: D, G, n + 1, A, h => by
  simp only [look] at h
  obtain ⟨X, hX, rfl⟩ := Option.map_eq_some_iff.1 h
  show (look (D ++ G) n).map wk = _
  rw [BM hX]; rfl
theorem wI : ∀ {G : List Tm} {n : Nat}, n < G.length → ∃ A, look G n = some A
 | [], n, h => by simp at h
 | B :: G, 0, h => ⟨_, rfl⟩
 | B :: G, n + 1, h => by
  obtain ⟨A, e⟩ := wI (G := G) (n := n) (by simp only [List.length_cons] at h; omega)
  exact ⟨A.wk, by show (look G n).map wk = _; rw [e]; rfl⟩
theorem Ay {G : List Tm} {n : Nat} (h : n < G.length) : IY O G (var n) := fun g => by
 obtain ⟨A, e⟩ := wI h
 cases g with
 | zero => exact fun h => by cases h
 | succ g =>
  rw [inS]
  split
  ·exact fun h => by cases h
  ·refine Nb.sq ?_ fun _ _ => EL _
   show Nb (match look G n with | some A => some (Rs.ok A) | none => some Rs.bad)
   rw [e]; exact jb _
theorem uq : ∀ {t : Tm} {m : Nat} {D G : List Tm}, bI m D t = true → m ≤ (D ++ G).length → eS O (D ++ G) t := by
 intro t
 induction t with
 | var n => intros; trivial
 | sort n => intros; trivial
 | nat => intros; trivial
 | zero => intros; trivial
 | succ a ha => exact fun h l => ha h l
 | refl a ha => exact fun h l => ha h l
 | fst a ha => exact fun h l => ha h l
 | snd a ha => exact fun h l => ha h l
 | pi a b ha hb => intro m D G h l; simp only [bI, Bool.and_eq_true] at h; exact ⟨ha h.1 l, fun _ => hb (D := a :: D) h.2 (by simp only [List.cons_append, List.length_cons]; omega)⟩
 | sig a b ha hb => intro m D G h l; simp only [bI, Bool.and_eq_true] at h; exact ⟨ha h.1 l, fun _ => hb (D := a :: D) h.2 (by simp only [List.cons_append, List.length_cons]; omega)⟩
 | lam a b ha hb => intro m D G h l; simp only [bI, Bool.and_eq_true] at h; exact ⟨ha h.1 l, fun _ => hb (D := a :: D) h.2 (by simp only [List.cons_append, List.length_cons]; omega)⟩
 | app a b ha hb => intro m D G h l; simp only [bI, Bool.and_eq_true] at h; exact ⟨ha h.1 l, fun _ => hb h.2 l⟩
 | id a b c ha hb hc => intro m D G h l; simp only [bI, Bool.and_eq_true] at h; exact ⟨ha h.1 l, hb h.2.1 l, hc h.2.2 l⟩
 | elim a b c d ha hb hc hd => intro m D G h l; simp only [bI, Bool.and_eq_true] at h; exact ⟨ha h.1 l, hb h.2.1 l, hc h.2.2.1 l, hd h.2.2.2.1 l, .inl h.2.2.2.2⟩
 | pair s a b hs ha hb =>
  intro m D G h l
  simp only [bI, Bool.and_eq_true] at h
  obtain ⟨h1, h2, h3, h4⟩ := h
  refine ⟨hs h1 l, ha h2 l, hb h3 l, fun _ A B r _ => .inl ?_⟩
  split at h4
  ·cases nZ r; exact h4
  ·cases h4
 | move p e x hp he hx =>
  intro m D G h l
  simp only [bI, Bool.and_eq_true, Bool.or_eq_true] at h
  obtain ⟨h1, h2, h3, h4⟩ := h
  refine ⟨he h1 l, hp h2 l, hx h3 l, fun Q t y z q r _ => ?_⟩
  rcases h4 with h4 | h4
  ·left
   split at h4
   ·cases q with | refl q1 q2 q3 => cases mm r; exact h4
   ·split at h4
    ·rename_i e1
     cases q with
     | var q1 => rw [BM e1] at q1; cases q1; cases mm r; exact h4
    ·cases h4
   ·cases h4
  ·right
   split at h4
   ·exact Ay (by have := of_decide_eq_true h4; omega)
   ·cases h4
theorem gQ {t : Tm} {m : Nat} {G : List Tm} (h : bI m [] t = true) (l : m ≤ G.length) : eS O G t := uq (D := []) h l
end Tm
end Go.Proofs.YtajlknlnmmbfcaaGreat
end
section
namespace Go.Proofs.YtajlknlnmmbfcaaGreat
open Go Go.Dk
namespace Tm
def CR (n : Nat) : List Tm := List.replicate n nat
inductive NT : Nat → Tm → Prop
 | zero {n} : NT n zero
 | var {n i} (h : i < n) : NT n (var i)
 | app {n x y} (h : NT (n + 1) x) (k : NT n y) : NT n (app (lam nat x) y)
 | elim {n x y z} (h : NT n x) (k : NT (n + 2) y) (l : NT n z) : NT n (elim (lam nat nat) x (lam nat (lam nat y)) z)
 | fst {n x y} (h : NT n x) (k : NT n y) : NT n (fst (pair (sig nat nat) x y))
 | snd {n x y} (h : NT n x) (k : NT n y) : NT n (snd (pair (sig nat nat) x y))
 | move {n x y} (h : NT n x) (k : NT n y) : NT n (move (lam nat nat) (refl x) y)
 | succ {n x} (h : NT n x) : NT n (succ x)
theorem vM : ∀ {n i : Nat}, i < n → look (CR n) i = some nat
 | 0, i, h => by omega
 | n + 1, 0, h => rfl
 | n + 1, i + 1, h => by
  show (look (CR n) i).map wk = some nat
  rw [vM (by omega)]; rfl
theorem NT.ty {n : Nat} {t : Tm} (h : NT n t) : Ty (CR n) t nat := by
 have fam : ∀ G, Ty G (.lam .nat .nat) (.pi .nat (.sort 0)) := fun G => .lam .nat .nat (.sort (by omega))
 have bt : ∀ x, Conv (.app (.lam .nat .nat) x) nat := fun x => Par.conv (show Par (.app (.lam .nat .nat) x) (nat.inst x) from .beta .nat (Par.a9 _))
 induction h with
 | zero => exact .zero
 | var h => exact .var (vM h)
 | app h k ih ik => exact Ty.app (B := nat) (.lam .nat ih .nat) ik
 | @elim n x y z h k l ih ik il =>
  have z' : Ty (CR n) x (.app (.lam .nat .nat) .zero) := .conv ih (bt .zero).symm (Ty.Ce (fam _) .zero)
  have s1 : Ty (CR n) (.lam .nat (.lam .nat y)) (.pi .nat (.pi .nat .nat)) := .lam .nat (.lam .nat ik .nat) (.pi .nat .nat)
  have s2 : Conv (.pi .nat (.pi .nat .nat)) (bc (.lam .nat .nat)) := .pi .a9 (.pi (bt (.var 0)).symm (bt (.succ (.var 1))).symm)
  exact .conv (.elim (fam _) z' (.conv s1 s2 (fam _).bc) il) (bt z) .nat
 | fst h k ih ik => exact Ty.fst (B := nat) (.pair (.sig .nat .nat) .nil (.sig .nat .nat) ih ik)
 | snd h k ih ik => exact Ty.snd (A := nat) (B := nat) (.pair (.sig .nat .nat) .nil (.sig .nat .nat) ih ik)
 | @move n x y h k ih ik => exact .conv (.move (.refl ih .nat) (fam _) (.conv ik (bt x).symm (Ty.Ce (fam _) ih)) ih) (bt x) .nat
 | succ h ih => exact .succ ih
theorem En {x y : Tm} (h : vdM (move (lam nat nat) (refl x) y) = true) : vdM (app (lam nat nat) x) = true := by
 have h := fj.1 h
 rw [fj]
 have := size_pos (of y)
 simp only [of, bD, bH, T.size, T.aE, Bool.and_eq_true, decide_eq_true_eq, Bool.and_true] at h ⊢
 have up := pM (of x) 28 h.1.2.2.2.2.1.2.2.2
 exact ⟨⟨by omega, rfl, by decide, ⟨by omega, rfl, by decide, ⟨by omega, rfl, by decide⟩, by omega, rfl, by decide⟩, up⟩, by omega⟩
theorem NT.An {n : Nat} {t : Tm} (h : NT n t) : vdM t = true → ∀ G, eS O G t := by
 induction h with
 | zero => intros; trivial
 | var h => intros; trivial
 | app h k ih ik => exact fun v G => ⟨⟨trivial, fun _ => ih (aH.v_lam (aH.v_app v).1).2 _⟩, fun _ => ik (aH.v_app v).2 _⟩
 | elim h k l ih ik il =>
  intro v G
  obtain ⟨v1, v2, v3, v4, _⟩ := aH.v_elim v
  exact ⟨⟨trivial, fun _ => trivial⟩, ih v2 _, ⟨trivial, fun _ => ⟨trivial, fun _ => ik (aH.v_lam (aH.v_lam v3).2).2 _⟩⟩, il v4 _, .inl (by decide +kernel)⟩
 | fst h k ih ik =>
  intro v G
  obtain ⟨v1, v2, v3⟩ := aH.v_pair (aH.v_fst v)
  exact ⟨⟨trivial, fun _ => trivial⟩, ih v2 _, ik v3 _, fun _ A B r _ => .inl (by cases nZ r; exact aH.v_nat)⟩
 | snd h k ih ik =>
  intro v G
  obtain ⟨v1, v2, v3⟩ := aH.v_pair (aH.v_snd v)
  exact ⟨⟨trivial, fun _ => trivial⟩, ih v2 _, ik v3 _, fun _ A B r _ => .inl (by cases nZ r; exact aH.v_nat)⟩
 | move h k ih ik =>
  intro v G
  obtain ⟨v1, v2, v3⟩ := aH.v_move v
  refine ⟨ih (aH.v_refl v2) _, ⟨trivial, fun _ => trivial⟩, ik v3 _, fun Q t y z q r _ => .inl ?_⟩
  cases q with | refl q1 q2 q3 => cases mm r; exact En v
 | succ h ih => exact fun v G => ih (aH.v_succ v) G
def S1 : Tm := move (lam nat (id nat (succ (var 2)) (succ (var 0)))) (var 0) (refl (succ (var 1)))
def ku : List (List Tm × List Tm) := [
 ([], [lam (sort 0) (lam (var 0) (var 0)), lam nat (refl (var 0)),
   lam nat (lam nat (elim (lam nat nat) (var 1) (lam nat (lam nat (succ (var 0)))) (var 0))), pi nat (sort 0),
   app (lam (sort 0) (lam (var 0) (var 0))) nat, lam (sig nat nat) (pair (sig nat nat) (snd (var 0)) (fst (var 0))),
   lam nat (pair (sig nat (id nat (var 0) (var 1))) (var 0) (refl (var 0))),
   lam nat (lam nat (lam (id nat (var 1) (var 0)) (move (lam nat (id nat (var 0) (var 3))) (var 0) (refl (var 2))))),
   elim (lam nat (sort 0)) nat (lam nat (lam (sort 0) (pi nat (var 1)))) (succ (succ zero)),
   pi (sort 0) (pi (var 0) (var 1)), lam (sort 0) (lam (pi (var 0) (var 1)) (var 0)), sort 2]),
 ([pi (var 1) (var 2), var 0, sort 0], [app (var 0) (var 1), refl (var 1), id (var 2) (var 1) (app (var 0) (var 1)), lam (var 2) (var 1),
   pair (sig (var 2) (var 3)) (var 1) (app (var 0) (var 1)),
   lam (id (var 2) (var 1) (app (var 0) (var 1))) (move (lam (var 3) (var 4)) (var 0) (var 2))]),
 ([id nat (var 0) (succ zero), nat], [var 0, S1, succ (var 1), move (lam nat nat) (var 0) (var 1), elim (lam nat nat) zero (lam nat (lam nat (var 1))) (var 1)]),
 ([pi nat (app (var 1) (var 0)), pi nat (sort 0)], [app (var 0) zero, lam nat (app (var 1) (var 0)), app (var 1) (succ (succ zero)),
   lam nat (lam (id nat (var 0) zero) (move (var 3) (var 0) (app (var 2) (var 1))))])]
def LL : Tm → Bool
 | move (lam nat (id nat (succ (var 2)) (succ (var 0)))) (var 0) (refl (succ (var 1))) => true
 | _ => false
theorem Ir {t : Tm} (h : LL t = true) : t = S1 := by
 unfold LL at h
 split at h
 ·rfl
 ·cases h
def JL : Tm → Bool
 | nat => true
 | sort _ => true
 | id _ _ _ => true
 | pi _ _ => true
 | sig _ _ => true
 | _ => false
def FG : Tm → Bool
 | pi a b => bI 0 [] a && (JL a || bI 0 [] b)
 | sig a b => bI 0 [] a && (JL a || bI 0 [] b)
 | lam a b => bI 0 [] a && (JL a || bI 0 [] b)
 | _ => true
def rkB (m : Nat) (D : List Tm) : Tm → Bool
 | pi a b => decide (ht a ≤ 3) && bI (m + 1) [] b
 | sig a b => decide (ht a ≤ 3) && bI (m + 1) [] b
 | lam a b => decide (ht a ≤ 3) && bI (m + 1) [] b
 | app _ u => bI m D u
 | elim p _ _ _ => vdM (bc p)
 | pair s a _ => (match s with
  | sig _ B => vdM (B.inst a)
  | _ => false)
 | move p e _ => (match e with
  | refl a => vdM (app p a)
  | var n => (match look D n with
   | some (id _ y _) => vdM (app p y)
   | _ => false)
  | _ => false)
 | _ => true
def okP (p : List Tm × List Tm) : Bool := (p.1.all fun A => decide (ht A ≤ 3) && (bI 0 [] A && vdM A)) && (decide (p.1.length ≤ 3) && (p.2.all fun t => bI p.1.length p.1 t && ((LL t || bI p.1.length [] t) && (FG t && rkB p.1.length p.1 t))))
theorem Gu : (ku.all okP) = true := by decide +kernel
structure OkP (p : List Tm × List Tm) : Prop where
 hg : hts 3 p.1
 fc : ∀ A ∈ p.1, bI 0 [] A = true
 vd : ∀ A ∈ p.1, vdM A = true
 hl : p.1.length ≤ 3
 f1 : ∀ t ∈ p.2, bI p.1.length p.1 t = true
 f2 : ∀ t ∈ p.2, LL t = true ∨ bI p.1.length [] t = true
 f3 : ∀ t ∈ p.2, FG t = true
 f4 : ∀ t ∈ p.2, rkB p.1.length p.1 t = true
theorem wA {p : List Tm × List Tm} (h : p ∈ ku) : OkP p := by
 have k := List.all_eq_true.1 Gu p h
 simp only [okP, Bool.and_eq_true, Bool.or_eq_true, List.all_eq_true, decide_eq_true_eq] at k
 obtain ⟨k1, k2, k3⟩ := k
 exact ⟨fun A hA => (k1 A hA).1, fun A hA => (k1 A hA).2.1, fun A hA => (k1 A hA).2.2, k2, fun t ht => (k3 t ht).1, fun t ht => (k3 t ht).2.1, fun t ht => (k3 t ht).2.2.1, fun t ht => (k3 t ht).2.2.2⟩
theorem Lj {p : List Tm × List Tm} (h : p ∈ ku) (hne : p.1 ≠ []) : ¬ Wf p.1.dropLast := by
 have no : ∀ {n C}, Ty [] (var n) C → False := fun h => by obtain ⟨A, e, _⟩ := h.gen; cases e
 simp only [ku, List.mem_cons, List.not_mem_nil, or_false] at h
 rcases h with rfl | rfl | rfl | rfl
 ·exact absurd rfl hne
 ·intro w
  cases w with | cons w h => cases w with | cons w h => exact no h
 ·intro w
  cases w with | cons w h => obtain ⟨i, _, h2, _⟩ := h.gen; exact no h2
 ·intro w
  cases w with | cons w h =>
   obtain ⟨i, j, _, h2, _⟩ := h.gen
   obtain ⟨X, Y, h3, _⟩ := h2.gen
   obtain ⟨A, e, _⟩ := h3.gen
   cases e
def Mg : Tm → Option Tm
 | pair _ _ b => some b
 | move _ _ x => some x
 | _ => none
theorem K0 {p : List Tm × List Tm} (h : p ∈ ku) (w : Wf p.1) {t x : Tm} (ht : t ∈ p.2) (e : Mg t = some x) : IY O p.1 x := by
 simp only [ku, List.mem_cons, List.not_mem_nil, or_false] at h
 rcases h with rfl | rfl | rfl | rfl <;> simp only [List.mem_cons, List.not_mem_nil, or_false] at ht
 ·rcases ht with rfl | rfl | rfl | rfl | rfl | rfl | rfl | rfl | rfl | rfl | rfl | rfl <;> cases e
 ·rcases ht with rfl | rfl | rfl | rfl | rfl | rfl <;> cases e
  exact fun g => mB aH w (Ty.app (A := .var 2) (B := .var 3) (.var rfl) (.var rfl))
 ·rcases ht with rfl | rfl | rfl | rfl | rfl <;> cases e
  ·exact fun g => mB aH w (Ty.refl (A := .nat) (.succ (.var rfl)) .nat)
  ·exact Ay (by simp)
 ·rcases ht with rfl | rfl | rfl | rfl <;> cases e
theorem L4 {p : List Tm × List Tm} (h : p ∈ ku) (ht : S1 ∈ p.2) : p.1 = [id nat (var 0) (succ zero), nat] := by
 simp only [ku, List.mem_cons, List.not_mem_nil, or_false] at h
 rcases h with rfl | rfl | rfl | rfl <;> simp [S1] at ht ⊢
theorem Jt (A : Tm) : eS O [A, id nat (var 0) (succ zero), nat] S1 := by
 refine ⟨trivial, ⟨trivial, fun _ => ⟨trivial, trivial, trivial⟩⟩, trivial, fun Q t y z q r fm => ?_⟩
 obtain ⟨P, C, D, i, h1, _⟩ := fm
 cases h1 with | lam h1 h2 h3 h4 h5 => cases h3 with | id k1 k2 k3 k4 k5 k6 => cases k3 with | succ k c => cases k with | var k =>
  simp only [look, Option.map_some, Option.some.injEq] at k
  subst k
  obtain ⟨x, r1, r2⟩ := c
  obtain ⟨_, _, _, e, _⟩ := r1.jQ
  rw [r2.FD] at e; cases e
def Mt (t t' : Tm) : Prop := t' = t ∨ t' = succ t ∨ ht t' ≤ 1 ∨ ∃ a b, (t = pi a b ∨ t = sig a b ∨ t = lam a b) ∧ t' = app a b
theorem LH {G : List Tm} {a F C B : Tm} (h : JL a = true) (q : Al G a F) (r : Wh F (pi C B)) : False := by
 have so : ∀ {n}, Wh (sort n) (pi C B) → False := fun r => by cases r with | cons h _ => cases h
 cases a <;> simp only [JL, Bool.false_eq_true] at h <;> cases q <;> exact so r
theorem zX {G : List Tm} {t t' : Tm} (h : eS O G t) (hb : FG t = true) (m : Mt t t') : eS O G t' := by
 have go : ∀ {a b}, (bI 0 [] a && (JL a || bI 0 [] b)) = true → eS O G (app a b) := fun hb => by
  simp only [Bool.and_eq_true, Bool.or_eq_true] at hb
  exact ⟨gQ hb.1 (Nat.zero_le _), fun ⟨F, C, B, q, r⟩ => hb.2.elim (fun v => (LH v q r).elim) (fun f => gQ f (Nat.zero_le _))⟩
 rcases m with rfl | rfl | h1 | ⟨a, b, rfl | rfl | rfl, rfl⟩
 ·exact h
 ·exact h
 ·rcases Bc h1 with ⟨n, rfl⟩ | ⟨n, rfl⟩ | rfl | rfl <;> trivial
 ·exact go hb
 ·exact go hb
 ·exact go hb
def rep : Tm → Nat → Tm → Tm
 | succ _, _, v => succ v
 | refl _, _, v => refl v
 | fst _, _, v => fst v
 | snd _, _, v => snd v
 | pi _ b, 0, v => pi v b
 | pi a _, _ + 1, v => pi a v
 | sig _ b, 0, v => sig v b
 | sig a _, _ + 1, v => sig a v
 | lam _ b, 0, v => lam v b
 | lam a _, _ + 1, v => lam a v
 | app _ b, 0, v => app v b
 | app a _, _ + 1, v => app a v
 | id _ b c, 0, v => id v b c
 | id a _ c, 1, v => id a v c
 | id a b _, _ + 2, v => id a b v
 | move _ b c, 0, v => move v b c
 | move a _ c, 1, v => move a v c
 | move a b _, _ + 2, v => move a b v
 | pair _ b c, 0, v => pair v b c
 | pair a _ c, 1, v => pair a v c
 | pair a b _, _ + 2, v => pair a b v
 | elim _ b c d, 0, v => elim v b c d
 | elim a _ c d, 1, v => elim a v c d
 | elim a b _ d, 2, v => elim a b v d
 | elim a b c _, _ + 3, v => elim a b c v
 | t, _, _ => t
theorem Kv (m v : Tm) {j : Nat} (h : j < (of m).kids.length) : T.mk (of m).k (of m).n ((of m).kids.set j (of v)) = of (rep m j v) := by
 cases m <;> simp only [of, T.kids, List.length_cons, List.length_nil] at h <;> rcases j with _ | _ | _ | _ | j <;> first | rfl | omega
def Rk (G : List Tm) : Tm → Prop
 | pi a b => ht a ≤ 3 ∧ ∀ v, eS O (v :: G) b
 | sig a b => ht a ≤ 3 ∧ ∀ v, eS O (v :: G) b
 | lam a b => ht a ≤ 3 ∧ ∀ v, eS O (v :: G) b
 | app _ u => eS O G u
 | elim p _ _ _ => vdM (bc p) = true
 | pair s a b => IY O G b ∧ ∀ A B, Wh s (sig A B) → vdM (B.inst a) = true
 | move p e x => IY O G x ∧ ∀ Q t y z, Al G e Q → Wh Q (id t y z) → vdM (app p y) = true
 | _ => True
theorem GW {G : List Tm} {t v : Tm} (w : Wf G) (hg : hts 3 G) (hl : G.length ≤ 4) (hF : eS O G t) (hK : Rk G t) (hv : ht v ≤ 4) (lv : lw v) (j : Nat) : eS O G (rep t j v) := by
 have fv : eS O G v := mu hv lv w hg (by omega)
 have fb : ∀ {a}, ht a ≤ 3 → Lv G a → eS O (a :: G) v := fun h l => mu hv lv (l.wf w) (hg.cons h) (by simp only [List.length_cons]; omega)
 cases t with
 | var n => exact hF
 | sort n => exact hF
 | nat => exact hF
 | zero => exact hF
 | succ a => exact fv
 | refl a => exact fv
 | fst a => exact fv
 | snd a => exact fv
 | pi a b => cases j with | zero => exact ⟨fv, fun _ => hK.2 v⟩ | succ j => exact ⟨hF.1, fb hK.1⟩
 | sig a b => cases j with | zero => exact ⟨fv, fun _ => hK.2 v⟩ | succ j => exact ⟨hF.1, fb hK.1⟩
 | lam a b => cases j with | zero => exact ⟨fv, fun _ => hK.2 v⟩ | succ j => exact ⟨hF.1, fb hK.1⟩
 | app a b => cases j with | zero => exact ⟨fv, fun _ => hK⟩ | succ j => exact ⟨hF.1, fun _ => fv⟩
 | id a b c => rcases j with _ | _ | j; exact ⟨fv, hF.2.1, hF.2.2⟩; exact ⟨hF.1, fv, hF.2.2⟩; exact ⟨hF.1, hF.2.1, fv⟩
 | elim p z s n =>
  rcases j with _ | _ | _ | j
  ·exact ⟨fv, hF.2.1, hF.2.2.1, hF.2.2.2.1, .inl (CZ hv lv)⟩
  ·exact ⟨hF.1, fv, hF.2.2.1, hF.2.2.2.1, .inl hK⟩
  ·exact ⟨hF.1, hF.2.1, fv, hF.2.2.2.1, .inl hK⟩
  ·exact ⟨hF.1, hF.2.1, hF.2.2.1, fv, .inl hK⟩
 | pair s a b =>
  rcases j with _ | _ | j
  ·exact ⟨fv, hF.2.1, hF.2.2.1, fun _ _ _ _ _ => .inr hK.1⟩
  ·exact ⟨hF.1, fv, hF.2.2.1, fun _ _ _ _ _ => .inr hK.1⟩
  ·exact ⟨hF.1, hF.2.1, fv, fun _ A B r _ => .inl (hK.2 A B r)⟩
 | move p e x =>
  rcases j with _ | _ | j
  ·exact ⟨hF.1, fv, hF.2.2.1, fun _ _ _ _ _ _ _ => .inr hK.1⟩
  ·exact ⟨fv, hF.2.1, hF.2.2.1, fun _ _ _ _ _ _ _ => .inr hK.1⟩
  ·exact ⟨hF.1, hF.2.1, fv, fun Q t y z q r _ => .inl (hK.2 Q t y z q r)⟩
def Bse (G : List Tm) (m : Tm) : Prop := (∃ n, n ≤ 2 ∧ G = CR n ∧ NT n m ∧ vdM m = true) ∨ ∃ p ∈ ku, G = p.1 ∧ m ∈ p.2
theorem NT.FG {n : Nat} {t : Tm} (h : NT n t) : FG t = true := by cases h <;> rfl
theorem Bse.FG {G : List Tm} {m : Tm} (h : Bse G m) : Tm.FG m = true := by
 rcases h with ⟨n, _, _, h, _⟩ | ⟨p, hp, _, h⟩
 ·exact h.FG
 ·exact (wA hp).f3 m h
theorem s7 {n : Nat} {A : Tm} (h : A ∈ CR n) : A = nat := (List.mem_replicate.1 h).2
theorem Bse.hts {G : List Tm} {m : Tm} (h : Bse G m) : Tm.hts 3 G := by
 rcases h with ⟨n, _, rfl, _, _⟩ | ⟨p, hp, rfl, _⟩
 ·intro A hA; rw [s7 hA]; simp [ht]
 ·exact (wA hp).hg
theorem Bse.fc {G : List Tm} {m : Tm} (h : Bse G m) : ∀ A ∈ G, bI 0 [] A = true := by
 rcases h with ⟨n, _, rfl, _, _⟩ | ⟨p, hp, rfl, _⟩
 ·intro A hA; rw [s7 hA]; rfl
 ·exact (wA hp).fc
theorem Bse.len {G : List Tm} {m : Tm} (h : Bse G m) : G.length ≤ 3 := by
 rcases h with ⟨n, hn, rfl, _, _⟩ | ⟨p, hp, rfl, _⟩
 ·simp only [CR, List.length_replicate]; omega
 ·exact (wA hp).hl
theorem ew : ∀ {G : List Tm}, (∀ A ∈ G, bI 0 [] A = true) → zQ O G
 | [], _ => trivial
 | A :: G, h => ⟨ew fun B hB => h B (List.mem_cons_of_mem _ hB), fun _ => gQ (h A List.mem_cons_self) (Nat.zero_le _)⟩
theorem Bse.An {G : List Tm} {m : Tm} (h : Bse G m) : eS O G m := by
 rcases h with ⟨n, hn, rfl, h, v⟩ | ⟨p, hp, rfl, h⟩
 ·exact h.An v _
 ·have := uq (G := []) ((wA hp).f1 m h) (by simp)
  rwa [List.append_nil] at this
theorem Bse.rk {G : List Tm} {m : Tm} (h : Bse G m) (w : Wf G) : Rk G m := by
 have fF := h.An
 rcases h with ⟨n, hn, rfl, h, v⟩ | ⟨p, hp, rfl, h⟩
 ·cases h with
  | zero => trivial
  | var h => trivial
  | app h k => exact k.An (aH.v_app v).2 _
  | elim h k l => show vdM _ = true; decide +kernel
  | fst h k => trivial
  | snd h k => trivial
  | move h k => exact ⟨fun g => mB aH w k.ty, fun Q t y z q r => by cases q with | refl q1 q2 q3 => cases mm r; exact En v⟩
  | succ h => trivial
 ·have hr := (wA hp).f4 m h
  have hb := fun x => K0 hp w (x := x) h
  cases m with
  | pi a b => simp only [rkB, Bool.and_eq_true, decide_eq_true_eq] at hr; exact ⟨hr.1, fun v => gQ hr.2 (by simp)⟩
  | sig a b => simp only [rkB, Bool.and_eq_true, decide_eq_true_eq] at hr; exact ⟨hr.1, fun v => gQ hr.2 (by simp)⟩
  | lam a b => simp only [rkB, Bool.and_eq_true, decide_eq_true_eq] at hr; exact ⟨hr.1, fun v => gQ hr.2 (by simp)⟩
  | app a b =>
   have := uq (G := []) (show bI p.1.length p.1 b = true from hr) (by simp)
   rwa [List.append_nil] at this
  | elim a b c d => exact hr
  | pair s a b =>
   refine ⟨hb b rfl, fun A B r => ?_⟩
   simp only [rkB] at hr
   split at hr
   ·cases nZ r; exact hr
   ·cases hr
  | move p' e x =>
   refine ⟨hb x rfl, fun Q t y z q r => ?_⟩
   simp only [rkB] at hr
   split at hr
   ·cases q with | refl q1 q2 q3 => cases mm r; exact hr
   ·split at hr
    ·rename_i e1
     cases q with
     | var q1 => rw [e1] at q1; cases q1; cases mm r; exact hr
    ·cases hr
   ·cases hr
  | _ => trivial
inductive Dn : List Tm → Tm → Prop
 | base {G m m'} (h : Bse G m) (k : Mt m m') : Dn G m'
 | drop {G m m'} (h : Bse G m) (k : Mt m m') (hne : G ≠ []) : Dn G.dropLast m'
 | app {G m m' A} (h : Bse G m) (k : Mt m m') (hA : ht A ≤ 4) (lA : lw A) : Dn (A :: G) m'
 | any {G m v} (h : Bse G m) (hv : ht v ≤ 4) (lv : lw v) : Dn G v
 | rep {G m v} (j : Nat) (h : Bse G m) (hv : ht v ≤ 4) (lv : lw v) : Dn G (rep m j v)
theorem Dn.An {G : List Tm} {m : Tm} (h : Dn G m) : zQ O G ∧ (Wf G → eS O G m) := by
 cases h with
 | base h k => exact ⟨ew h.fc, fun _ => zX h.An h.FG k⟩
 | @drop G m m' h k hne =>
  refine ⟨ew fun A hA => h.fc A (List.dropLast_subset _ hA), fun w => ?_⟩
  have hb := h.FG
  rcases h with ⟨n, hn, rfl, h, v⟩ | ⟨p, hp, rfl, h⟩
  ·exact zX (h.An v _) hb k
  ·exact absurd w (Lj hp hne)
 | @app G m m' A h k hA lA =>
  have hl := h.len
  have hb := h.FG
  have hg := h.hts
  have hc := h.fc
  refine ⟨⟨ew hc, fun w => mu hA lA w hg (by omega)⟩, fun w => zX ?_ hb k⟩
  rcases h with ⟨n, hn, rfl, h, v⟩ | ⟨p, hp, rfl, h⟩
  ·exact h.An v _
  ·rcases (wA hp).f2 m h with e | e
   ·have := Ir e
    subst this
    rw [L4 hp h]
    exact Jt A
   ·exact gQ e (by simp)
 | any h hv lv => exact ⟨ew h.fc, fun w => mu hv lv w h.hts (by have := h.len; omega)⟩
 | rep j h hv lv => exact ⟨ew h.fc, fun w => GW w h.hts (by have := h.len; omega) h.An (h.rk w) hv lv j⟩
end Tm
end Go.Proofs.YtajlknlnmmbfcaaGreat
end
section
namespace Go.Proofs.YtajlknlnmmbfcaaGreat
open Go Go.Ab Go.Dk
def LwT (k : Nat) (t : T) : Prop := ∃ m : Tm, t = of m ∧ Tm.ht m ≤ k ∧ Tm.lw m
theorem LwT.size {t : T} (h : LwT 4 t) : t.size ≤ 85 := by obtain ⟨m, rfl, h, _⟩ := h; exact Tm.sz4 h
theorem LwT.mono {k j : Nat} {t : T} (h : LwT k t) (hk : k ≤ j) : LwT j t := by obtain ⟨m, e, h, l⟩ := h; exact ⟨m, e, by omega, l⟩
theorem LwT.zero {k : Nat} (hk : 1 ≤ k) : LwT k (.mk 7 0 []) := ⟨.zero, rfl, hk, trivial⟩
theorem J6 {k : Nat} {kind n1 : Int} {acc : List T} (hr : 1 ≤ kind ∧ kind ≤ 16) (hk : opsOf kind = acc.length) (hn : 0 ≤ n1 ∧ n1 ≤ 3) (h0 : cw kind ≤ 0 → n1 = 0) (ha : ∀ t ∈ acc, LwT k t) : LwT (k + 1) (.mk kind n1 acc) := by
 have l0 : acc.length = 0 → acc = [] := List.length_eq_zero_iff.1
 have l1 : acc.length = 1 → ∃ a, acc = [of a] ∧ Tm.ht a ≤ k ∧ Tm.lw a := fun h => by
  match acc, h with
  | [a], _ => obtain ⟨m, rfl, h1, h2⟩ := ha a (by simp); exact ⟨m, rfl, h1, h2⟩
 have l2 : acc.length = 2 → ∃ a b, acc = [of a, of b] ∧ (Tm.ht a ≤ k ∧ Tm.ht b ≤ k) ∧ Tm.lw a ∧ Tm.lw b := fun h => by
  match acc, h with
  | [a, b], _ => obtain ⟨m, rfl, h1, h2⟩ := ha a (by simp); obtain ⟨m', rfl, h1', h2'⟩ := ha b (by simp); exact ⟨m, m', rfl, ⟨h1, h1'⟩, h2, h2'⟩
 have l3 : acc.length = 3 → ∃ a b c, acc = [of a, of b, of c] ∧ (Tm.ht a ≤ k ∧ Tm.ht b ≤ k ∧ Tm.ht c ≤ k) ∧ Tm.lw a ∧ Tm.lw b ∧ Tm.lw c := fun h => by
  match acc, h with
  | [a, b, c], _ => obtain ⟨m, rfl, h1, h2⟩ := ha a (by simp); obtain ⟨m', rfl, h1', h2'⟩ := ha b (by simp); obtain ⟨m'', rfl, h1'', h2''⟩ := ha c (by simp); exact ⟨m, m', m'', rfl, ⟨h1, h1', h1''⟩, h2, h2', h2''⟩
 have l4 : acc.length = 4 → ∃ a b c d, acc = [of a, of b, of c, of d] ∧ (Tm.ht a ≤ k ∧ Tm.ht b ≤ k ∧ Tm.ht c ≤ k ∧ Tm.ht d ≤ k) ∧ Tm.lw a ∧ Tm.lw b ∧ Tm.lw c ∧ Tm.lw d := fun h => by
  match acc, h with
  | [a, b, c, d], _ => obtain ⟨m, rfl, h1, h2⟩ := ha a (by simp); obtain ⟨m', rfl, h1', h2'⟩ := ha b (by simp); obtain ⟨m'', rfl, h1'', h2''⟩ := ha c (by simp); obtain ⟨m3, rfl, h3, h4⟩ := ha d (by simp); exact ⟨m, m', m'', m3, rfl, ⟨h1, h1', h1'', h3⟩, h2, h2', h2'', h4⟩
 have o0 : ∀ {x : Int}, opsOf x = acc.length → opsOf x = 0 → acc.length = 0 := fun h h' => by omega
 have o1 : ∀ {x : Int}, opsOf x = acc.length → opsOf x = 1 → acc.length = 1 := fun h h' => by omega
 have o2 : ∀ {x : Int}, opsOf x = acc.length → opsOf x = 2 → acc.length = 2 := fun h h' => by omega
 have o3 : ∀ {x : Int}, opsOf x = acc.length → opsOf x = 3 → acc.length = 3 := fun h h' => by omega
 have o4 : ∀ {x : Int}, opsOf x = acc.length → opsOf x = 4 → acc.length = 4 := fun h h' => by omega
 have en : ((n1.toNat : Nat) : Int) = n1 := by omega
 have hc : kind = 1 ∨ kind = 2 ∨ kind = 3 ∨ kind = 4 ∨ kind = 5 ∨ kind = 6 ∨ kind = 7 ∨ kind = 8 ∨ kind = 9 ∨ kind = 10 ∨ kind = 11 ∨ kind = 12 ∨ kind = 13 ∨ kind = 14 ∨ kind = 15 ∨ kind = 16 := by omega
 rcases hc with rfl | rfl | rfl | rfl | rfl | rfl | rfl | rfl | rfl | rfl | rfl | rfl | rfl | rfl | rfl | rfl
 ·rw [l0 (o0 hk rfl), ← en]; exact ⟨.var n1.toNat, rfl, by simp [Tm.ht], show n1.toNat ≤ 3 by omega⟩
 ·rw [l0 (o0 hk rfl), ← en]; exact ⟨.sort n1.toNat, rfl, by simp [Tm.ht], show n1.toNat ≤ 3 by omega⟩
 ·obtain ⟨a, b, rfl, h, l⟩ := l2 (o2 hk rfl); rw [h0 (by decide)]; exact ⟨.pi a b, rfl, by simp only [Tm.ht]; omega, l⟩
 ·obtain ⟨a, b, rfl, h, l⟩ := l2 (o2 hk rfl); rw [h0 (by decide)]; exact ⟨.lam a b, rfl, by simp only [Tm.ht]; omega, l⟩
 ·obtain ⟨a, b, rfl, h, l⟩ := l2 (o2 hk rfl); rw [h0 (by decide)]; exact ⟨.app a b, rfl, by simp only [Tm.ht]; omega, l⟩
 ·rw [l0 (o0 hk rfl), h0 (by decide)]; exact ⟨.nat, rfl, by simp [Tm.ht], trivial⟩
 ·rw [l0 (o0 hk rfl), h0 (by decide)]; exact ⟨.zero, rfl, by simp [Tm.ht], trivial⟩
 ·obtain ⟨a, rfl, h, l⟩ := l1 (o1 hk rfl); rw [h0 (by decide)]; exact ⟨.succ a, rfl, by simp only [Tm.ht]; omega, l⟩
 ·obtain ⟨a, b, c, d, rfl, h, l⟩ := l4 (o4 hk rfl); rw [h0 (by decide)]; exact ⟨.elim a b c d, rfl, by simp only [Tm.ht]; omega, l⟩
 ·obtain ⟨a, b, c, rfl, h, l⟩ := l3 (o3 hk rfl); rw [h0 (by decide)]; exact ⟨.id a b c, rfl, by simp only [Tm.ht]; omega, l⟩
 ·obtain ⟨a, rfl, h, l⟩ := l1 (o1 hk rfl); rw [h0 (by decide)]; exact ⟨.refl a, rfl, by simp only [Tm.ht]; omega, l⟩
 ·obtain ⟨a, b, c, rfl, h, l⟩ := l3 (o3 hk rfl); rw [h0 (by decide)]; exact ⟨.move a b c, rfl, by simp only [Tm.ht]; omega, l⟩
 ·obtain ⟨a, b, rfl, h, l⟩ := l2 (o2 hk rfl); rw [h0 (by decide)]; exact ⟨.sig a b, rfl, by simp only [Tm.ht]; omega, l⟩
 ·obtain ⟨a, b, c, rfl, h, l⟩ := l3 (o3 hk rfl); rw [h0 (by decide)]; exact ⟨.pair a b c, rfl, by simp only [Tm.ht]; omega, l⟩
 ·obtain ⟨a, rfl, h, l⟩ := l1 (o1 hk rfl); rw [h0 (by decide)]; exact ⟨.fst a, rfl, by simp only [Tm.ht]; omega, l⟩
 ·obtain ⟨a, rfl, h, l⟩ := l1 (o1 hk rfl); rw [h0 (by decide)]; exact ⟨.snd a, rfl, by simp only [Tm.ht]; omega, l⟩
abbrev CS (k : Nat) (l : List UInt8) (m : Int) (r : List V1 × List av) : Prop := ∃ (t : T) (p : Int), r = ([tm t], [rdr l p]) ∧ LwT k t ∧ jk l p m
theorem FC (Q : Int) (hQ : Q ≤ 900000000000) (n : Nat) (hn : 1 ≤ n) (l : List UInt8) (d kind : Int) (k : Nat) (M : Int)
   (ih : ∀ p m, jk l p m → m ≤ Q → Tot (FF n 113 [.one (.ptr 0 0), nt (d - 1)] [rdr l p]) (CS k l (m + M))) (hM : 0 ≤ M ∧ M ≤ 1000000000) (hd : -100 ≤ d ∧ d ≤ 100) (z1 z2 : Int) (l0 : List T) (n1 : Int)
   (hr : 1 ≤ kind ∧ kind ≤ 16) (hn1 : 0 ≤ n1 ∧ n1 ≤ 3) (h0 : cw kind ≤ 0 → n1 = 0) :
   ∀ (g c i : Nat) (p m : Int) (acc : List T), g < c → opsOf kind = i + g → i ≤ 4 → g ≤ 4 → jk l p m → m + g * M ≤ Q → acc.length = i → (∀ t ∈ acc, LwT k t) →
    Tot (bp n c d kind i l p z1 z2 l0 kind n1 acc) (CS (k + 1) l (m + g * M))
 | g, 0, i, p, m, acc, hg, _, _, _, _, _, _, _ => by omega
 | 0, c + 1, i, p, m, acc, _, hi, _, _, hr', _, hl, ha => by
  rw [cX, lQ hn]
  simp only [evt]
  rw [decide_eq_false (show ¬ (i : Int) < opsOf kind by omega)]
  refine aq ?_
  exact ⟨.mk kind n1 acc, p, rfl, J6 hr (by omega) hn1 h0 ha, by simpa using hr'⟩
 | g + 1, c + 1, i, p, m, acc, hg, hi, hi4, hg4, hr', hm, hl, ha => by
  rw [cX, lQ hn]
  simp only [evt]
  have hgM : (((g + 1 : Nat)) : Int) * M = g * M + M := by rw [Int.natCast_add, Int.add_mul]; simp
  have ho := z8 kind
  have hg0 : 0 ≤ (g : Int) * M := Int.mul_nonneg (by omega) hM.1
  rw [decide_eq_true (show (i : Int) < opsOf kind by omega), cond_true, wrap64 (show -9223372036854775808 ≤ d - 1 ∧ d - 1 ≤ 9223372036854775807 by omega)]
  refine af (ih p m hr' (by rw [hgM] at hm; omega)) ?_
  rintro _ ⟨t, p', rfl, ht, hr2⟩
  have w : IntKind.i64.wrap ((i : Int) + 1) = ((i + 1 : Nat) : Int) := wrap64 (by omega)
  simp only [evt, w, List.length_append, List.length_cons, List.length_nil, hl]
  rw [aL (by omega), cond_true]
  have := FC Q hQ n hn l d kind k M ih hM hd z1 z2 l0 n1 hr hn1 h0 g c (i + 1) p' (m + M) (acc ++ [t]) (by omega) (by omega) (by omega) (by omega) hr2 (by rw [hgM] at hm; omega) (by simp [hl]) (fun u hu => by
   rcases List.mem_append.1 hu with h | h
   ·exact ha u h
   ·rw [List.mem_singleton.1 h]; exact ht)
  refine jj this ?_
  rintro _ ⟨u, q, rfl, hu, hq⟩
  exact ⟨u, q, rfl, hu, hq.mono (by rw [hgM]; omega)⟩
theorem gv (Q : Int) (hQ : Q ≤ 900000000000) {n : Nat} (hn : 10 ≤ n) (l : List UInt8) (d : Int) (k : Nat) (M : Int) (hM : 0 ≤ M ∧ M ≤ 1000000000) (hd : -100 ≤ d ∧ d ≤ 100) (leaf : d < 2 → ∀ kind : Int, opsOf kind = 0 → True)
   (ih : 2 ≤ d → ∀ m, n ≤ m + 1 → ∀ p q, jk l p q → q ≤ Q → Tot (FF m 113 [.one (.ptr 0 0), nt (d - 1)] [rdr l p]) (CS k l (q + M))) {p m : Int} (hr : jk l p m) (hm : m + 3 + 4 * M ≤ Q) :
   Tot (FF n 113 [.one (.ptr 0 0), nt d] [rdr l p]) (CS (k + 1) l (m + 3 + 4 * M)) := by
 refine aK (C := 9) (by omega) fun n hn e => ?_
 have fin : ∀ (kind n1 q m' : Int), (2 ≤ d ∨ opsOf kind = 0) → (1 ≤ kind ∧ kind ≤ 16) → (0 ≤ n1 ∧ n1 ≤ 3) → (cw kind ≤ 0 → n1 = 0) → jk l q m' → m' ≤ m + 3 → Tot (bp n n d kind 0 l q 0 0 [] kind n1 []) (CS (k + 1) l (m + 3 + 4 * M)) := by
  intro kind n1 q m' hk h16 hn1 h0 hq hm'
  have h4 := z8 kind
  have hp : 0 ≤ opsOf kind := by
   have hk1 : ∀ v : Int, v ∈ ([1, 2, 3, 4, 5, 6, 7, 8, 9, 10, 11, 12, 13, 14, 15, 16] : List Int) → 0 ≤ opsOf v := fun v hv => by simpa using List.all_eq_true.1 (show (([1, 2, 3, 4, 5, 6, 7, 8, 9, 10, 11, 12, 13, 14, 15, 16] : List Int).all fun v => decide (0 ≤ opsOf v)) = true by decide +kernel) v hv
   exact hk1 kind (by simp only [List.mem_cons, List.not_mem_nil, or_false]; omega)
  obtain ⟨g, hg⟩ : ∃ g : Nat, opsOf kind = g := ⟨(opsOf kind).toNat, by omega⟩
  rcases hk with hd2 | hk
  ·have hgM : (g : Int) * M ≤ 4 * M := Int.mul_le_mul_of_nonneg_right (by omega) hM.1
   have := FC Q hQ n (by omega) l d kind k M (fun p q => ih hd2 n (by omega) p q) hM hd 0 0 [] n1 h16 hn1 h0 g n 0 q m' [] (by omega) (by omega) (by omega) (by omega) hq (by omega) rfl (by simp)
   refine jj this ?_
   rintro _ ⟨u, q, rfl, hu, hq⟩
   exact ⟨u, q, rfl, hu, hq.mono (by omega)⟩
  ·obtain ⟨c, rfl⟩ : ∃ c, n = c + 1 := ⟨n - 1, by omega⟩
   rw [cX, lQ (by omega), hk]
   simp only [evt]
   refine al (fun h => by simp at h) (fun _ => aq ?_)
   exact ⟨.mk kind n1 [], q, rfl, J6 h16 (by rw [hk]; rfl) hn1 h0 (by simp), hq.mono (by omega)⟩
 have hk1 : ∀ v : Int, v ∈ ([1, 5, 4, 8, 9, 3, 6, 7, 11, 15, 14, 10, 12, 13, 16, 2] : List Int) → 1 ≤ v ∧ v ≤ 16 := fun v hv => by simp only [List.mem_cons, List.not_mem_nil, or_false] at hv; omega
 have hk2 : ∀ v : Int, v ∈ ([1, 7, 6, 2, 1] : List Int) → 1 ≤ v ∧ v ≤ 16 := fun v hv => by simp only [List.mem_cons, List.not_mem_nil, or_false] at hv; omega
 have hk3 : ∀ v : Int, v ∈ ([1, 7, 6, 2, 1] : List Int) → opsOf v = 0 := fun v hv => by simpa using List.all_eq_true.1 (show (([1, 7, 6, 2, 1] : List Int).all fun v => decide (opsOf v = 0)) = true by decide +kernel) v hv
 have hv3 : ∀ v : Int, v ∈ ([0, 1, 0, 2, 1, 3] : List Int) → 0 ≤ v ∧ v ≤ 3 := fun v hv => by simp only [List.mem_cons, List.not_mem_nil, or_false] at hv; omega
 rw [tN]
 refine af (s9 (by omega) hr (by omega) (by simp) (by simp)) ?_
 rintro _ ⟨v, p1, rfl, hv, hr1⟩
 simp only [evt]
 refine al (fun _ => ?_) (fun hd2 => ?_)
 ·refine af (s9 (by omega) hr1 (by omega) (by simp) (by simp)) ?_
  rintro _ ⟨v2, p2, rfl, hv2, hr2⟩
  simp only [evt, th (show 1 ≤ n by omega)]
  refine al (fun hq => ?_) (fun hq => ?_)
  ·refine af (s9 (by omega) hr2 (by omega) (by simp) (by simp)) ?_
   rintro _ ⟨v3, p3, rfl, hv3', hr3⟩
   simp only [evt]
   exact fin _ _ _ _ (.inr (hk3 _ hv2)) (hk2 _ hv2) (hv3 _ hv3') (fun h => by have := of_decide_eq_true hq; omega) hr3 (by omega)
  ·exact fin _ _ _ _ (.inr (hk3 _ hv2)) (hk2 _ hv2) (by omega) (fun _ => rfl) hr2 (by omega)
 ·have hd2 : 2 ≤ d := by have := of_decide_eq_false hd2; omega
  simp only [th (show 1 ≤ n by omega), evt]
  refine al (fun hq => ?_) (fun hq => ?_)
  ·refine af (s9 (by omega) hr1 (by omega) (by simp) (by simp)) ?_
   rintro _ ⟨v3, p3, rfl, hv3', hr3⟩
   simp only [evt]
   exact fin _ _ _ _ (.inl hd2) (hk1 _ hv) (hv3 _ hv3') (fun h => by have := of_decide_eq_true hq; omega) hr3 (by omega)
  ·exact fin _ _ _ _ (.inl hd2) (hk1 _ hv) (by omega) (fun _ => rfl) hr1 (by omega)
theorem eh {o : OR} {k j : Nat} {l : List UInt8} {m m' : Int} (h : Tot o (CS k l m)) (hk : k ≤ j) (hm : m ≤ m') : Tot o (CS j l m') :=
 jj h fun r ⟨t, p, e, h1, h2⟩ => ⟨t, p, e, h1.mono hk, h2.mono hm⟩
theorem xO {n : Nat} (hn : 20 ≤ n) {l : List UInt8} {p m : Int} (hr : jk l p m) (hm : m ≤ 800000000000) : Tot (FF n 113 [.one (.ptr 0 0), nt 1] [rdr l p]) (CS 1 l (m + 3)) :=
 eh (gv 900000000000 (by omega) (by omega) l 1 0 0 (by omega) (by omega) (fun _ _ _ => trivial) (fun h => absurd h (by omega)) hr (by omega)) (by omega) (by omega)
theorem xv {n : Nat} (hn : 40 ≤ n) {l : List UInt8} {p m : Int} (hr : jk l p m) (hm : m ≤ 700000000000) : Tot (FF n 113 [.one (.ptr 0 0), nt 2] [rdr l p]) (CS 2 l (m + 15)) :=
 eh (gv 800000000000 (by omega) (by omega) l 2 1 3 (by omega) (by omega) (fun _ _ _ => trivial) (fun _ k hk p q hr hq => xO (by omega) hr hq) hr (by omega)) (by omega) (by omega)
theorem pF {n : Nat} (hn : 60 ≤ n) {l : List UInt8} {p m : Int} (hr : jk l p m) (hm : m ≤ 600000000000) : Tot (FF n 113 [.one (.ptr 0 0), nt 3] [rdr l p]) (CS 3 l (m + 63)) :=
 eh (gv 700000000000 (by omega) (by omega) l 3 2 15 (by omega) (by omega) (fun _ _ _ => trivial) (fun _ k hk p q hr hq => xv (by omega) hr hq) hr (by omega)) (by omega) (by omega)
theorem E3 {n : Nat} (hn : 80 ≤ n) {l : List UInt8} {p m : Int} (hr : jk l p m) (hm : m ≤ 500000000000) : Tot (FF n 113 [.one (.ptr 0 0), nt 4] [rdr l p]) (CS 4 l (m + 255)) :=
 eh (gv 600000000000 (by omega) (by omega) l 4 3 63 (by omega) (by omega) (fun _ _ _ => trivial) (fun _ k hk p q hr hq => pF (by omega) hr hq) hr (by omega)) (by omega) (by omega)
theorem z7 {n : Nat} (hn : 500 ≤ n) {l : List UInt8} {p m : Int} (hr : jk l p m) (hm : m ≤ 400000000000) : Tot (FF n 80 [.one (.ptr 0 0)] [rdr l p]) (fun r => ∃ (t : T) (p : Int), r = ([tm t], [rdr l p]) ∧ ak t = true ∧ LwT 4 t ∧ jk l p (m + 256)) := by
 refine aK (C := 499) (by omega) fun n hn e => ?_
 rw [vV]
 refine af (s9 (by omega) hr (by omega) (by simp) (by simp)) ?_
 rintro _ ⟨v, p1, rfl, hv, hr1⟩
 simp only [evt]
 have hd : Tot (FF n 113 [.one (.ptr 0 0), nt v] [rdr l p1]) (CS 4 l (m + 256)) := by
  simp only [List.mem_cons, List.not_mem_nil, or_false] at hv
  rcases hv with rfl | rfl | rfl | rfl | rfl
  ·exact eh (pF (by omega) hr1 (by omega)) (by omega) (by omega)
  ·exact eh (E3 (by omega) hr1 (by omega)) (by omega) (by omega)
  ·exact eh (xv (by omega) hr1 (by omega)) (by omega) (by omega)
  ·exact eh (pF (by omega) hr1 (by omega)) (by omega) (by omega)
  ·exact eh (xO (by omega) hr1 (by omega)) (by omega) (by omega)
 refine af hd ?_
 rintro _ ⟨t, p2, rfl, hz, hr2⟩
 have hz' := hz.size
 simp only [evt, aW (show t.size + 6 ≤ n by omega) (show t.size ≤ 4000000 by omega)]
 refine al (fun h => aq ?_) (fun _ => ?_)
 ·exact ⟨t, p2, rfl, h, hz, hr2⟩
 ·simp only [cd (show 1 ≤ n by omega), evt]
  refine aq ?_
  exact ⟨.mk 7 0 [], p2, rfl, CF, .zero (by omega), hr2⟩
def Lu (t y : T) : Prop := y = t ∨ y = .mk 8 0 [t] ∨ (∃ w, w ∈ ([0, 17, 1, 5, 6] : List Int) ∧ y = .mk w t.n t.kids) ∨ (∃ w, w ∈ ([21, -1, 1, 9223372036854775807] : List Int) ∧ y = .mk t.k w t.kids) ∨ y = .mk t.k t.n (t.kids ++ [.mk 7 0 []]) ∨ (0 < t.kids.length ∧ y = .mk t.k t.n (t.kids.set 0 (.mk 1 25 [])))
theorem Lu.size {t y : T} (h : Lu t y) : y.size ≤ t.size + 2 := by
 have e := T.size_eq t
 rcases h with rfl | rfl | ⟨w, _, rfl⟩ | ⟨w, _, rfl⟩ | rfl | ⟨h, rfl⟩
 ·omega
 ·simp only [T.size, T.aE]; omega
 ·simp only [T.size]; omega
 ·simp only [T.size]; omega
 ·have := C0 t.kids (.mk 7 0 []); have h7 : (T.mk 7 0 []).size = 1 := rfl; simp only [T.size] at this ⊢; simp only [T.aE] at this; omega
 ·have := GI t.kids (.mk 1 25 []) h; have h7 : (T.mk 1 25 []).size = 1 := rfl; simp only [T.size] at this ⊢; simp only [T.aE] at this; omega
theorem HA (m : Tm) : opsOf (of m).k = ((of m).kids.length : Int) := by cases m <;> rfl
theorem L0 {m : Tm} (h : (of m).n ≠ 0) : Tm.ht m ≤ 1 := by cases m <;> first | exact Nat.le_refl 1 | exact absurd rfl h
theorem DL {m : Tm} {y : T} (h : Lu (of m) y) (hv : ak y = true) : ∃ m', y = of m' ∧ Tm.Mt m m' := by
 obtain ⟨m', rfl⟩ := ir hv
 rcases h with h | h | ⟨w, hw, h⟩ | ⟨w, hw, h⟩ | h | ⟨h0, h⟩
 ·exact ⟨m', rfl, .inl (qB h)⟩
 ·exact ⟨m', rfl, .inr (.inl (qB (a := m') (b := .succ m) h))⟩
 ·refine ⟨m', rfl, ?_⟩
  have hk : (of m').k = w := by rw [h]; rfl
  have hkk : (of m').kids = (of m).kids := by rw [h]; rfl
  simp only [List.mem_cons, List.not_mem_nil, or_false] at hw
  rw [iw] at hk
  cases m' <;> simp only at hk <;> first
   | (exfalso; omega)
   | exact .inr (.inr (.inl (Nat.le_refl 1)))
   | (rename_i a b
      cases m <;> simp only [of, T.kids, List.cons.injEq, reduceCtorEq, and_true, and_false, false_and] at hkk <;>
       (obtain ⟨e1, e2⟩ := hkk; have e1 := qB e1; have e2 := qB e2; subst e1; subst e2)
      ·exact .inr (.inr (.inr ⟨_, _, .inl rfl, rfl⟩))
      ·exact .inr (.inr (.inr ⟨_, _, .inr (.inr rfl), rfl⟩))
      ·exact .inl rfl
      ·exact .inr (.inr (.inr ⟨_, _, .inr (.inl rfl), rfl⟩)))
 ·refine ⟨m', rfl, .inr (.inr (.inl (L0 ?_)))⟩
  have hk : (of m').n = w := by rw [h]; rfl
  simp only [List.mem_cons, List.not_mem_nil, or_false] at hw
  omega
 ·exfalso
  have hk : (of m').k = (of m).k := by rw [h]; rfl
  have hkk : (of m').kids = (of m).kids ++ [.mk 7 0 []] := by rw [h]; rfl
  have h1 := HA m'
  rw [hk, HA m, hkk, List.length_append] at h1
  simp at h1; omega
 ·exfalso
  have hkk : (of m').kids = (of m).kids.set 0 (.mk 1 25 []) := by rw [h]; rfl
  have : ak (.mk 1 25 []) = true := bB hv (by rw [hkk]; exact List.mem_iff_getElem.2 ⟨0, by simpa using h0, by simp⟩)
  revert this; decide +kernel
theorem rW {n : Nat} {t : T} (hz : t.size ≤ 500000) (hn : t.size + 500 ≤ n) {l : List UInt8} {p m : Int} (hr : jk l p m) (hm : m ≤ 500000000000) : Tot (FF n 84 [.one (.ptr 0 0), tm t] [rdr l p]) (fun r => ∃ (y : T) (p : Int), r = ([tm y], [rdr l p]) ∧ Lu t y ∧ jk l p (m + 2)) := by
 refine aK (C := t.size + 499) (by omega) fun n hn e => ?_
 have hsz := T.size_eq t
 have hl := T.br t.kids
 rw [o7, gh t (by omega) (by omega)]
 simp only [evt]
 refine af (kD (by omega) hr (by omega) (by omega)) ?_
 rintro _ ⟨v, p1, rfl, hv0, hv1, hr1⟩
 have hap : cn (t.kids ++ [T.mk 7 0 []]).length = true := aL (by simp; omega)
 simp (disch := simp) only [evt, cd (show 1 ≤ n by omega), cr (show 1 ≤ n by omega), hap]
 repeat' (first | (simp (disch := omega) only [wrap64]; done) | (simp (disch := omega) only [wrap64]) | (with_reducible refine al (fun hq => ?_) (fun hq => ?_) <;> (try simp (disch := omega) only [wrap64] at hq) <;> (try simp only [decide_eq_true_eq, decide_eq_false_iff_not, Bool.not_eq_true', Bool.not_eq_false', Bool.and_eq_true, Bool.and_eq_false_iff, inB, Bool.not_true, Bool.not_false] at hq) <;> try (exfalso; omega; done)) | (with_reducible refine af (s9 (by omega) hr1 (by omega) (by simp) (by simp)) ?_; rintro _ ⟨w, p2, rfl, hw, hr2⟩; simp only [evt]) | ((with_reducible refine aq ?_); (exact ⟨.mk w t.n t.kids, _, rfl, .inr (.inr (.inl ⟨w, hw, rfl⟩)), hr2.mono (by omega)⟩)) | ((with_reducible refine aq ?_); (exact ⟨.mk t.k w t.kids, _, rfl, .inr (.inr (.inr (.inl ⟨w, hw, rfl⟩))), hr2.mono (by omega)⟩)) | ((with_reducible refine aq ?_); (exact ⟨t, _, rfl, .inl rfl, hr1.mono (by omega)⟩)) | ((with_reducible refine aq ?_); (exact ⟨.mk t.k t.n (t.kids ++ [.mk 7 0 []]), _, rfl, .inr (.inr (.inr (.inr (.inl rfl)))), hr1.mono (by omega)⟩)) | ((with_reducible refine aq ?_); (exact ⟨.mk 8 0 [t], _, rfl, .inr (.inl rfl), hr1.mono (by omega)⟩)) | ((with_reducible refine aq ?_); (exact ⟨.mk t.k t.n (t.kids.set 0 (.mk 1 25 [])), _, rfl, .inr (.inr (.inr (.inr (.inr ⟨by omega, rfl⟩)))), hr1.mono (by omega)⟩)))
def NTI (v : Int) (t : T) : Prop := ∃ m : Tm, t = of m ∧ Tm.NT v.toNat m
theorem De {v : Int} : NTI v (.mk 7 0 []) := ⟨.zero, rfl, .zero⟩
theorem Ht {v w : Int} (h : 0 ≤ w) (h2 : w < v) : NTI v (.mk 1 w []) := ⟨.var w.toNat, by rw [of, Int.toNat_of_nonneg h], .var (by omega)⟩
theorem K5 {v : Int} {x y : T} (hv : 0 ≤ v) (h : NTI (v + 1) x) (k : NTI v y) : NTI v (.mk 5 0 [.mk 4 0 [.mk 6 0 [], x], y]) := by
 obtain ⟨a, rfl, h⟩ := h; obtain ⟨b, rfl, k⟩ := k
 rw [show (v + 1).toNat = v.toNat + 1 by omega] at h
 exact ⟨_, rfl, .app h k⟩
theorem IV {v : Int} {x y z : T} (hv : 0 ≤ v) (h : NTI v x) (k : NTI (v + 2) y) (j : NTI v z) : NTI v (.mk 9 0 [.mk 4 0 [.mk 6 0 [], .mk 6 0 []], x, .mk 4 0 [.mk 6 0 [], .mk 4 0 [.mk 6 0 [], y]], z]) := by
 obtain ⟨a, rfl, h⟩ := h; obtain ⟨b, rfl, k⟩ := k; obtain ⟨c, rfl, j⟩ := j
 rw [show (v + 2).toNat = v.toNat + 2 by omega] at k
 exact ⟨_, rfl, .elim h k j⟩
theorem Jy {v w : Int} {x y : T} (hw : w ∈ ([15, 16] : List Int)) (h : NTI v x) (k : NTI v y) : NTI v (.mk w 0 [.mk 14 0 [.mk 13 0 [.mk 6 0 [], .mk 6 0 []], x, y]]) := by
 obtain ⟨a, rfl, h⟩ := h; obtain ⟨b, rfl, k⟩ := k
 simp only [List.mem_cons, List.not_mem_nil, or_false] at hw
 rcases hw with rfl | rfl
 ·exact ⟨_, rfl, .fst h k⟩
 ·exact ⟨_, rfl, .snd h k⟩
theorem JC {v : Int} {x y : T} (h : NTI v x) (k : NTI v y) : NTI v (.mk 12 0 [.mk 4 0 [.mk 6 0 [], .mk 6 0 []], .mk 11 0 [x], y]) := by
 obtain ⟨a, rfl, h⟩ := h; obtain ⟨b, rfl, k⟩ := k
 exact ⟨_, rfl, .move h k⟩
theorem IG {v : Int} {x : T} (h : NTI v x) : NTI v (.mk 8 0 [x]) := by
 obtain ⟨a, rfl, h⟩ := h
 exact ⟨_, rfl, .succ h⟩
abbrev MH (v : Int) (z : Nat) (l : List UInt8) (m : Int) (r : List V1 × List av) : Prop := ∃ (t : T) (p : Int), r = ([tm t], [rdr l p]) ∧ (t.size ≤ z ∧ NTI v t) ∧ jk l p m
theorem Di : ∀ (k : Nat) {n : Nat} {l : List UInt8} {p m v d : Int}, 20 * k + 20 ≤ n → (0 ≤ v ∧ v + 2 * k ≤ 1000) → (-10 ≤ d ∧ d ≤ k) → jk l p m → m + rdN k ≤ 1000000000 → Tot (FF n 87 [.one (.ptr 0 0), nt v, nt d] [rdr l p]) (MH v (szN k) l (m + rdN k))
 | 0, n, l, p, m, v, d, hn, hv, hd, hr, hm => by
  refine aK (C := 19) (by omega) fun n hn e => ?_
  rw [nX]
  simp only [cd (show 1 ≤ n by omega), evt]
  rw [decide_eq_true (show d < 1 by omega), cond_true]
  simp only [szN, rdN] at hm ⊢
  repeat' (first | (simp (disch := omega) only [wrap64]; done) | (simp (disch := omega) only [wrap64]) | (with_reducible refine al (fun hq => ?_) (fun hq => ?_) <;> (try simp (disch := omega) only [wrap64] at hq) <;> (try simp only [decide_eq_true_eq, decide_eq_false_iff_not, Bool.not_eq_true', Bool.not_eq_false', Bool.and_eq_true, Bool.and_eq_false_iff, inB, Bool.not_true, Bool.not_false] at hq) <;> try (exfalso; omega; done)) | (with_reducible refine af (kD (by omega) hr (by omega) (by omega)) ?_; rintro _ ⟨w, p, rfl, hw, hw2, hr⟩; simp only [evt]) | (with_reducible refine af (t_l1Leaf (by omega) _ _) ?_; rintro _ rfl; simp only [evt]) | ((with_reducible refine aq ?_); (exact ⟨.mk 7 0 [], _, rfl, ⟨by simp [T.size, T.aE], De⟩, hr.mono (by omega)⟩)) | ((with_reducible refine aq ?_); (exact ⟨.mk 1 _ [], _, rfl, ⟨by simp [T.size, T.aE], Ht (by omega) (by omega)⟩, hr.mono (by omega)⟩)))
 | k + 1, n, l, p, m, v, d, hn, hv, hd, hr, hm => by
  refine aK (C := 20 * k + 39) (by omega) fun n hn e => ?_
  have ih := @Di k n l
  have s1 := Ip k
  have s2 := EY k
  rw [nX]
  simp only [cd (show 1 ≤ n by omega), evt]
  simp only [szN, rdN] at hm ⊢
  repeat' (first | (simp (disch := omega) only [wrap64]; done) | (simp (disch := omega) only [wrap64]) | (with_reducible refine al (fun hq => ?_) (fun hq => ?_) <;> (try simp (disch := omega) only [wrap64] at hq) <;> (try simp only [decide_eq_true_eq, decide_eq_false_iff_not, Bool.not_eq_true', Bool.not_eq_false', Bool.and_eq_true, Bool.and_eq_false_iff, inB, Bool.not_true, Bool.not_false] at hq) <;> try (exfalso; omega; done)) | (with_reducible refine af (kD (by omega) hr (by omega) (by omega)) ?_; rintro _ ⟨w, p, rfl, hw, hw2, hr⟩; simp only [evt]) | (with_reducible refine af (s9 (by omega) hr (by omega) (by simp) (by simp)) ?_; rintro _ ⟨w, p, rfl, hw, hr⟩; simp only [evt]) | (with_reducible refine af (t_l1Leaf (by omega) _ _) ?_; rintro _ rfl; simp only [evt]) | (with_reducible refine af (Ga (by omega) _ _ (by simp)) ?_; rintro _ rfl; simp only [evt]) | (with_reducible refine af (ih (by omega) (by omega) (by omega) hr (by omega)) ?_; rintro _ ⟨t, p, rfl, ⟨hz, ht⟩, hr⟩; simp only [evt]) | ((with_reducible refine aq ?_); (exact ⟨.mk 7 0 [], _, rfl, ⟨by simp only [T.size, T.aE]; omega, De⟩, hr.mono (by omega)⟩)) | ((with_reducible refine aq ?_); (exact ⟨.mk 1 _ [], _, rfl, ⟨by simp only [T.size, T.aE]; omega, Ht (by omega) (by omega)⟩, hr.mono (by omega)⟩)) | ((with_reducible refine aq ?_); (exact ⟨.mk 5 0 [.mk 4 0 [.mk 6 0 [], _], _], _, rfl, ⟨by simp only [T.size, T.aE]; omega, K5 (by omega) (by assumption) (by assumption)⟩, hr.mono (by omega)⟩)) | ((with_reducible refine aq ?_); (exact ⟨.mk 9 0 [.mk 4 0 [.mk 6 0 [], .mk 6 0 []], _, .mk 4 0 [.mk 6 0 [], .mk 4 0 [.mk 6 0 [], _]], _], _, rfl, ⟨by simp only [T.size, T.aE]; omega, IV (by omega) (by assumption) (by assumption) (by assumption)⟩, hr.mono (by omega)⟩)) | ((with_reducible refine aq ?_); (exact ⟨.mk _ 0 [.mk 14 0 [.mk 13 0 [.mk 6 0 [], .mk 6 0 []], _, _]], _, rfl, ⟨by simp only [T.size, T.aE]; omega, Jy hw (by assumption) (by assumption)⟩, hr.mono (by omega)⟩)) | ((with_reducible refine aq ?_); (exact ⟨.mk 12 0 [.mk 4 0 [.mk 6 0 [], .mk 6 0 []], .mk 11 0 [_], _], _, rfl, ⟨by simp only [T.size, T.aE]; omega, JC (by assumption) (by assumption)⟩, hr.mono (by omega)⟩)) | ((with_reducible refine aq ?_); (exact ⟨.mk 8 0 [_], _, rfl, ⟨by simp only [T.size, T.aE]; omega, IG (by assumption)⟩, hr.mono (by omega)⟩)) | ((with_reducible refine aq ?_); (exact ⟨_, _, rfl, ⟨by omega, by assumption⟩, hr.mono (by omega)⟩)))
end Go.Proofs.YtajlknlnmmbfcaaGreat
end
