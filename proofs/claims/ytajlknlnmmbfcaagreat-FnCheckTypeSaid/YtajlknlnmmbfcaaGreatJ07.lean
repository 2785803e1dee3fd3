/- Part 7 of the proof. -/
import Derived.Test.YtajlknlnmmbfcaaGreatJ01
import Derived.Test.YtajlknlnmmbfcaaGreatJ02
import Derived.Test.YtajlknlnmmbfcaaGreatJ03
import Derived.Test.YtajlknlnmmbfcaaGreatJ04
import Derived.Test.YtajlknlnmmbfcaaGreatJ05
import Derived.Test.YtajlknlnmmbfcaaGreatJ06
set_option linter.unusedVariables false
set_option linter.unusedSimpArgs false
section
namespace Go.Proofs.YtajlknlnmmbfcaaGreat
open Go Go.Ab Go.Dk
open Tm (Rs sq frm lvl chk fam made inI inS tI tS lvr ckr cc pt ps pc Wf)
structure AtG (G : List Tm) (n : Nat) : Prop where
 ctxI : FF n 36 [tms (cx G)] [] = some ([nt (sts (cc O (tI O) G))], [])
 tyI : ∀ t, vdM t = true → FF n 25 [tms (cx G), tm (of t)] [] = some ([tm (zr (pt O (tI O) G t)), nt (sts (pt O (tI O) G t))], [])
 soI : ∀ t, vdM t = true → FF n 38 [tms (cx G), tm (of t)] [] = some ([nt (lvn (ps O (tI O) G t)), nt (sts (ps O (tI O) G t))], [])
 ctI : ∀ t, vdM t = true → ∀ u, vdM u = true → FF n 23 [tms (cx G), tm (of t), tm (of u)] [] = some ([nt (sts (pc O (tI O) G t u))], [])
theorem yU : ∃ B, ∀ G : List Tm, (∀ A ∈ G, vdM A = true) → G.length ≤ 8 → ∀ n, B ≤ n → AtG G n := by
 refine Ie AtG fun G hG h8 => ?_
 obtain ⟨B1, h1⟩ := jE hG h8
 obtain ⟨B3, h3⟩ := s6 _ fun t hv => wO hG h8 hv
 obtain ⟨B5, h5⟩ := s6 _ fun t hv => DY hG h8 hv
 obtain ⟨B7, h7⟩ := s6 (fun t n => ∀ u, vdM u = true → FF n 23 [tms (cx G), tm (of t), tm (of u)] [] = some ([nt (sts (pc O (tI O) G t u))], [])) fun t hv => by
  obtain ⟨B, h⟩ := s6 _ fun u hu => xo hG h8 hv hu
  exact ⟨B, fun n hn u hu => h u hu n hn⟩
 exact ⟨max (max B1 B3) (max B5 B7), fun n hn =>
  ⟨h1 n (by omega), fun t hv => h3 t hv n (by omega), fun t hv => h5 t hv n (by omega), fun t hv u hu => h7 t hv n (by omega) u hu⟩⟩
noncomputable def BB : Nat := max yU.choose 10000000
theorem sW : 10000000 ≤ BB := by unfold BB; omega
theorem En {G : List Tm} (hG : ∀ A ∈ G, vdM A = true) (h8 : G.length ≤ 8) {n : Nat} (hn : BB ≤ n) : AtG G n := yU.choose_spec G hG h8 n (by unfold BB at hn; omega)
open Classical in
noncomputable def dec (t : T) : Tm := if h : ∃ m, t = of m then h.choose else .nat
theorem dm (m : Tm) : dec (of m) = m := by
 have h : ∃ m', of m = of m' := ⟨m, rfl⟩
 rw [dec, dif_pos h]
 exact (mo h.choose_spec).symm
noncomputable def xf (l : List T) : List Tm := (l.map dec).reverse
theorem bK (G : List Tm) : xf (cx G) = G := by
 rw [xf, cx, List.map_reverse, List.reverse_reverse, List.map_map]
 have : dec ∘ of = id := funext dm
 rw [this, List.map_id]
noncomputable def itI (l : List T) (t : T) : T × Int := if (okA l && ah t) = true then (zr (pt O (tI O) (xf l) (dec t)), sts (pt O (tI O) (xf l) (dec t))) else (.mk 0 0 [], 3)
noncomputable def soI (l : List T) (t : T) : Int × Int := if (okA l && ah t) = true then (lvn (ps O (tI O) (xf l) (dec t)), sts (ps O (tI O) (xf l) (dec t))) else (0, 3)
noncomputable def ctI (l : List T) (t u : T) : Int := if (okA l && (ah t && ah u)) = true then sts (pc O (tI O) (xf l) (dec t) (dec u)) else 3
noncomputable def coI (l : List T) : Int := if okA l = true then sts (cc O (tI O) (xf l)) else 3
section
variable {n : Nat} {l : List T} {t u : T}
theorem pk (hn : BB ≤ n) (hl : l.length ≤ 4000000) (hz : ∀ t ∈ l, t.size ≤ 4000000) : FF n 36 [tms l] [] = some ([nt (coI l)], []) := by
 have := sW
 unfold coI
 cases h : okA l with
 | false => rw [if_neg (by simp)]; exact m9 (by omega) hl hz h
 | true =>
  obtain ⟨G, rfl, hG, h8⟩ := gp h
  rw [if_pos rfl, bK]; exact (En hG h8 hn).ctxI
theorem GZ (h : okA l = false) : coI l = 3 := by unfold coI; rw [h, if_neg (by simp)]
theorem sd {ts : List T} (hn : BB + 1 ≤ n) (hl : l.length ≤ 4000000) (hz : ∀ t ∈ l, t.size ≤ 4000000) (hl' : ts.length ≤ 4000000) (hz' : ∀ t ∈ ts, t.size ≤ 4000000) (h : (okA l && ts.all ah) = false) : FF n 53 [tms l, tms ts] [] = some ([nt 3], []) := by
 have := sW
 obtain ⟨n, rfl⟩ := af (show 0 < n by omega)
 rw [CF (by omega) hl' hz' (pk (by omega) hl hz)]
 cases ha : ts.all ah with
 | true => rw [ha, Bool.and_true] at h; rw [GZ h]; rfl
 | false => rfl
theorem oJ (hn : BB + 2 ≤ n) (hl : l.length ≤ 4000000) (hz : ∀ t ∈ l, t.size ≤ 4000000) (ht : t.size ≤ 4000000) : FF n 25 [tms l, tm t] [] = some ([tm (itI l t).1, nt (itI l t).2], []) := by
 have := sW
 unfold itI
 cases h : okA l && ah t with
 | false =>
  obtain ⟨n, rfl⟩ := af (show 0 < n by omega)
  rw [if_neg (by simp), dC, show T.mk t.k t.n t.kids = t from by cases t; rfl, sd (by omega) hl hz (by simp) (by simpa using ht) (by simpa using h)]; rfl
 | true =>
  rw [Bool.and_eq_true] at h
  obtain ⟨G, rfl, hG, h8⟩ := gp h.1
  obtain ⟨m, rfl⟩ := cJ h.2
  rw [if_pos rfl, bK, dm]; exact (En hG h8 (by omega)).tyI m h.2
theorem sj (hn : BB + 2 ≤ n) (hl : l.length ≤ 4000000) (hz : ∀ t ∈ l, t.size ≤ 4000000) (ht : t.size ≤ 4000000) : FF n 38 [tms l, tm t] [] = some ([nt (soI l t).1, nt (soI l t).2], []) := by
 have := sW
 unfold soI
 cases h : okA l && ah t with
 | false =>
  obtain ⟨n, rfl⟩ := af (show 0 < n by omega)
  rw [if_neg (by simp), fG, show T.mk t.k t.n t.kids = t from by cases t; rfl, sd (by omega) hl hz (by simp) (by simpa using ht) (by simpa using h)]; rfl
 | true =>
  rw [Bool.and_eq_true] at h
  obtain ⟨G, rfl, hG, h8⟩ := gp h.1
  obtain ⟨m, rfl⟩ := cJ h.2
  rw [if_pos rfl, bK, dm]; exact (En hG h8 (by omega)).soI m h.2
theorem oT (hn : BB + 2 ≤ n) (hl : l.length ≤ 4000000) (hz : ∀ t ∈ l, t.size ≤ 4000000) (ht : t.size ≤ 4000000) (hu : u.size ≤ 4000000) : FF n 23 [tms l, tm t, tm u] [] = some ([nt (ctI l t u)], []) := by
 have := sW
 unfold ctI
 cases h : okA l && (ah t && ah u) with
 | false =>
  obtain ⟨n, rfl⟩ := af (show 0 < n by omega)
  rw [if_neg (by simp), dq, show T.mk t.k t.n t.kids = t from by cases t; rfl, show T.mk u.k u.n u.kids = u from by cases u; rfl, sd (by omega) hl hz (by simp) (by simp; omega) (by simpa using h)]; rfl
 | true =>
  rw [Bool.and_eq_true, Bool.and_eq_true] at h
  obtain ⟨G, rfl, hG, h8⟩ := gp h.1
  obtain ⟨m, rfl⟩ := cJ h.2.1
  obtain ⟨m', rfl⟩ := cJ h.2.2
  rw [if_pos rfl, bK, dm, dm]; exact (En hG h8 (by omega)).ctI m h.2.1 m' h.2.2
end
theorem FC {l : List T} {t : T} (h : (itI l t).2 = 0) : ∃ (G : List Tm) (m A : Tm), l = cx G ∧ t = of m ∧ (∀ A ∈ G, vdM A = true) ∧ G.length ≤ 8 ∧ vdM m = true ∧ Wf G ∧ pt O (tI O) G m = .ok A ∧ tI O G m = .ok A ∧ (itI l t).1 = of A ∧ vdM A = true ∧ Tm.Ty G m A := by
 unfold itI at h ⊢
 cases hv : okA l && ah t with
 | false => rw [hv, if_neg (by simp)] at h; simp at h
 | true =>
  rw [hv, if_pos rfl] at h
  rw [if_pos rfl]
  rw [Bool.and_eq_true] at hv
  obtain ⟨G, rfl, hG, h8⟩ := gp hv.1
  obtain ⟨m, rfl⟩ := cJ hv.2
  rw [bK, dm] at h ⊢
  obtain ⟨A, e⟩ := rn.1 h
  obtain ⟨w, e1, _⟩ := Tm.Jt aF e
  refine ⟨G, m, A, rfl, rfl, hG, h8, hv.2, w, e, e1, by rw [e]; rfl, Tm.As aF w hv.2 e1, (Tm.An aF w e1).sound w⟩
theorem Ez {l : List T} {t : T} : (itI l t).1.size ≤ 400 := by
 by_cases h : (itI l t).2 = 0
 ·obtain ⟨G, m, A, _, _, _, _, _, _, _, _, e, v, _⟩ := FC h
  rw [e]; exact ae v
 ·have : (itI l t).1 = .mk 0 0 [] := by
    unfold itI at h ⊢
    split
    ·rename_i hv
     rw [if_pos hv] at h
     cases e : pt O (tI O) (xf l) (dec t) with
     | ok A => rw [e] at h; exact absurd rfl h
     | bad => rfl
     | opn => rfl
    ·rfl
  rw [this]; decide
end Go.Proofs.YtajlknlnmmbfcaaGreat
end
section
namespace Go.Proofs.YtajlknlnmmbfcaaGreat
open Go Go.Ab Go.Dk
open Tm (Rs sq frm lvl chk fam bnd inS kS)
section
variable {M n : Nat} {c : List T} {a b d e' : Tm} {xa xb xd xe : Option Rs}
structure Pt (M : Nat) (c : List T) (t : Tm) (x : Option Rs) : Prop where
 iv : Iv 74 M c (of t) x
 ok : ∀ s, x = some (.ok s) → vdM s = true
theorem oE (hM : 6000500 ≤ M) (hn : M + 2 ≤ n) (ha : Pt M c a xa) (hb : Pt M (c ++ [of a]) b xb) (hl : c.length ≤ 100) (k m : Int) : ∀ r, (sq (lvl O xa) fun i => sq (lvl O xb) fun j => some (.ok (.sort (max (Tm.lv i) (Tm.lv j))))) = some r →
   RK (FF n 141 [tms c, tm (.mk k m [of a, of b])] []) r := by
 intro r e
 obtain ⟨n, rfl⟩ := af (show 0 < n by omega)
 rw [pD]
 simp only [evt, oY, pC]
 rcases AF (gy hM (n := n) (by omega) ha.iv ha.ok) e with ⟨i, e1, eo, e2⟩ | ⟨i, c', eo, hc⟩
 ·rw [eo]
  simp only [evt]
  rw [xM (n := n) (by omega) c (of a) (by omega)]
  simp only [evt]
  rcases AF (gy hM (n := n) (by omega) hb.iv hb.ok) e2 with ⟨j, e3, eo, e4⟩ | ⟨j, c', eo, hc⟩
  ·rw [eo]
   simp only [evt]
   rw [zQ (n := n) (by omega)]
   simp only [evt]
   rw [bx (n := n) (by omega)]
   cases e4
   exact ⟨of (.sort (max i j)), 0, rfl, by simp [of, T.size, T.aE], rfl, rfl⟩
  ·rw [eo]
   simp only [evt]
   rw [decide_eq_false hc.ne]
   exact bU hc _ j1
 ·rw [eo]
  simp only [evt]
  rw [decide_eq_false hc.ne]
  exact bU hc _ j1
theorem Hk (hM : 6000500 ≤ M) (hn : M + 4 ≤ n) (ha : Pt M c a xa) (hb : Pt M (c ++ [of a]) b xb) (hva : vdM a = true) (hl : c.length ≤ 100) (xB : Tm → Option Rs) (hB : ∀ B, xb = some (.ok B) → Pt M (c ++ [of a]) B (xB B)) : ∀ r,
   (sq (lvl O xa) fun _ => sq xb fun B => sq (sq (lvl O xa) fun i => sq (lvl O (xB B)) fun j => some (.ok (.sort (max (Tm.lv i) (Tm.lv j))))) fun _ => some (.ok (.pi a B))) = some r →
   RK (FF n 142 [tms c, tm (.mk 4 0 [of a, of b])] []) r := by
 intro r e
 obtain ⟨n, rfl⟩ := af (show 0 < n by omega)
 have za := ae hva
 rw [uy]
 simp only [evt, oY, pC]
 rcases AF (gy hM (n := n) (by omega) ha.iv ha.ok) e with ⟨i, e1, eo, e2⟩ | ⟨i, c', eo, hc⟩
 ·rw [eo]
  simp only [evt]
  rw [xM (n := n) (by omega) c (of a) (by omega)]
  simp only [evt]
  rcases jR (hb.iv n (by omega)) e2 with ⟨B, e3, eo, e4⟩ | ⟨y, c', eo, hc⟩
  ·rw [eo]
   simp only [evt]
   have vB := hb.ok B e3
   have zB := ae vB
   rw [bE (n := n) (by omega) _ _ (by simp)]
   simp only [evt]
   cases hx : (sq (lvl O xa) fun i => sq (lvl O (xB B)) fun j => some (.ok (.sort (max (Tm.lv i) (Tm.lv j)))) : Option Rs) with
   | none => rw [hx] at e4; cases e4
   | some s =>
    rw [hx] at e4
    obtain ⟨y, c', eo, hy, h2⟩ := oE hM (n := n) (by omega) ha (hB B e3) hl 3 0 s hx
    simp only [tm, cP, cQ, az] at eo
    rw [eo]
    simp only [vV, evt]
    refine ⟨of (.pi a B), c', rfl, by simp only [of, T.size, T.aE]; omega, ?_⟩
    cases s with
    | ok t => cases e4; exact ⟨h2.1, rfl⟩
    | bad => cases e4; exact h2
    | opn => cases e4; exact h2
  ·rw [eo]
   simp only [evt]
   rw [decide_eq_false hc.ne]
   exact bU hc _ j1
 ·rw [eo]
  simp only [evt]
  rw [decide_eq_false hc.ne]
  exact bU hc _ j1
theorem Gm (hM : 6000500 ≤ M) (hn : M + 3 ≤ n) (ha : Pt M c a xa) (hb : Pt M c b xb) (hvb : vdM b = true) : ∀ r,
   (sq (frm O xa) fun F => match F with
   | .pi C B => sq (chk O xb C) fun _ => some (.ok (B.inst b))
   | _ => some .bad) = some r →
   RK (FF n 143 [tms c, tm (.mk 5 0 [of a, of b])] []) r := by
 intro r e
 obtain ⟨n, rfl⟩ := af (show 0 < n by omega)
 rw [u0]
 simp only [evt, oY, pC]
 rcases iX hM (n := n) (by omega) ha.iv ha.ok 3 e with ⟨f, eo, hk, vf, ef, e2⟩ | ⟨f, eo, hk, e2⟩ | ⟨y, c', eo, hc⟩
 ·rw [eo]
  cases f <;> try (rw [gE] at hk; simp only [Int.reduceEq] at hk; done)
  rename_i C B
  obtain ⟨vC, vB⟩ := aF.v_pi vf
  have zC := ae vC
  simp only [evt, of, oY, pC]
  rcases kH (cT hM (n := n) (by omega) hb.iv hb.ok (w := C) (by omega)) e2 with ⟨t', e3, eo, e4⟩ | ⟨c', eo, hc⟩
  ·rw [eo]
   simp only [evt]
   rw [Bc (n := n) (by omega) vB hvb]
   cases e4
   have := gG vB hvb
   exact ⟨of (B.inst b), 0, rfl, by omega, rfl, rfl⟩
  ·rw [eo]
   simp only [evt]
   rw [decide_eq_false hc.ne]
   exact bU hc _ j1
 ·rw [eo]
  simp only [evt]
  have : r = .bad := by
   cases f <;> first | (exact absurd (gE _) hk) | (cases e2; rfl)
  subst this
  exact bU .bad _ j1
 ·rw [eo]
  simp only [evt]
  rw [decide_eq_false hc.ne]
  exact bU hc _ j1
theorem y5 (hM : 6000500 ≤ M) (hn : M + 3 ≤ n) (ha : Pt M c a xa) (hva : vdM (.fst a) = true) :
   (∀ r, (sq (frm O xa) fun Q => match Q with
   | .sig A B => some (.ok A)
   | _ => some .bad) = some r → RK (FF n 171 [tms c, tm (.mk 15 0 [of a])] []) r) ∧
   ∀ r, (sq (frm O xa) fun Q => match Q with
   | .sig A B => some (.ok (B.inst (.fst a)))
   | _ => some .bad) = some r → RK (FF n 171 [tms c, tm (.mk 16 0 [of a])] []) r := by
 obtain ⟨n, rfl⟩ := af (show 0 < n by omega)
 refine ⟨fun r e => ?_, fun r e => ?_⟩
 ·rw [kT]
  simp only [evt, oY, pC]
  rcases iX hM (n := n) (by omega) ha.iv ha.ok 13 e with ⟨f, eo, hk, vf, ef, e2⟩ | ⟨f, eo, hk, e2⟩ | ⟨y, c', eo, hc⟩
  ·rw [eo]
   cases f <;> try (rw [gE] at hk; simp only [Int.reduceEq] at hk; done)
   rename_i C B
   obtain ⟨vC, vB⟩ := aF.v_sig vf
   have zC := ae vC
   simp only [evt, of, oY, pC]
   cases e2
   exact ⟨of C, 0, rfl, by omega, rfl, rfl⟩
  ·rw [eo]
   simp only [evt]
   have : r = .bad := by
    cases f <;> first | (exact absurd (gE _) hk) | (cases e2; rfl)
   subst this
   exact bU .bad _ j1
  ·rw [eo]
   simp only [evt]
   rw [decide_eq_false hc.ne]
   exact bU hc _ j1
 ·rw [kT]
  simp only [evt, oY, pC]
  rcases iX hM (n := n) (by omega) ha.iv ha.ok 13 e with ⟨f, eo, hk, vf, ef, e2⟩ | ⟨f, eo, hk, e2⟩ | ⟨y, c', eo, hc⟩
  ·rw [eo]
   cases f <;> try (rw [gE] at hk; simp only [Int.reduceEq] at hk; done)
   rename_i C B
   obtain ⟨vC, vB⟩ := aF.v_sig vf
   simp only [evt, of, oY, pC, show decide ((16 : Int) = 15) = false from rfl]
   rw [bE (n := n) (by omega) _ _ (by simp)]
   simp only [evt]
   have hi := Bc (n := n) (b := B) (u := .fst a) (by omega) vB hva
   simp only [of, tm, cP, cQ, az] at hi
   rw [hi]
   cases e2
   have := gG vB hva
   exact ⟨of (B.inst (.fst a)), 0, rfl, by omega, rfl, rfl⟩
  ·rw [eo]
   simp only [evt]
   have : r = .bad := by
    cases f <;> first | (exact absurd (gE _) hk) | (cases e2; rfl)
   subst this
   exact bU .bad _ j1
  ·rw [eo]
   simp only [evt]
   rw [decide_eq_false hc.ne]
   exact bU hc _ j1
theorem I0 (hM : 6000500 ≤ M) (hn : M + 3 ≤ n) (ha : Pt M c a xa) (hb : Pt M c b xb) (hd : Pt M c d xd) (hva : vdM a = true) : ∀ r,
   (sq (lvl O xa) fun i => sq (chk O xb a) fun _ => sq (chk O xd a) fun _ => some (.ok i)) = some r →
   RK (FF n 145 [tms c, tm (.mk 10 0 [of a, of b, of d])] []) r := by
 intro r e
 obtain ⟨n, rfl⟩ := af (show 0 < n by omega)
 have za := ae hva
 have sl : ∀ i : Int, (T.mk 2 i []).size ≤ 2000000 := fun i => by simp [T.size, T.aE]
 rw [wj]
 simp only [evt, oY, pC, GS]
 rcases AF (gy hM (n := n) (by omega) ha.iv ha.ok) e with ⟨i, e1, eo, e2⟩ | ⟨i, c', eo, hc⟩
 ·rw [eo]
  simp only [evt]
  rcases kH (cT hM (n := n) (by omega) hb.iv hb.ok (w := a) (by omega)) e2 with ⟨t', e3, eo, e4⟩ | ⟨c', eo, hc⟩
  ·rw [eo]
   simp only [evt]
   rcases kH (cT hM (n := n) (by omega) hd.iv hd.ok (w := a) (by omega)) e4 with ⟨t', e5, eo, e6⟩ | ⟨c', eo, hc⟩
   ·rw [eo]
    simp only [evt]
    rw [bx (n := n) (by omega)]
    cases e6
    exact ⟨of (.sort i), 0, rfl, sl _, rfl, rfl⟩
   ·rw [eo]
    simp only [evt]
    rw [bx (n := n) (by omega)]
    exact bU hc (.mk 2 i []) (sl _)
  ·rw [eo]
   simp only [evt]
   rw [decide_eq_false hc.ne, bx (n := n) (by omega)]
   exact bU hc (.mk 2 i []) (sl _)
 ·rw [eo]
  simp only [evt]
  rw [decide_eq_false hc.ne]
  simp only [evt]
  rw [bx (n := n) (by omega)]
  exact bU hc (.mk 2 i []) (sl _)
theorem DJ (hM : 6000500 ≤ M) (hn : M + 4 ≤ n) (ha : Pt M c a xa) (hb : Pt M c b xb) (hd : Pt M c d xd) (he : Pt M c e' xe) (hv : vdM (.elim a b d e') = true) : ∀ r,
   (sq (fam O xa .nat) fun _ => sq (chk O xb (.app a .zero)) fun _ => sq (chk O xd (Tm.aW a)) fun _ => sq (chk O xe .nat) fun _ => some (.ok (.app a e'))) = some r →
   RK (FF n 144 [tms c, tm (.mk 9 0 [of a, of b, of d, of e'])] []) r := by
 intro r e
 obtain ⟨n, rfl⟩ := af (show 0 < n by omega)
 obtain ⟨va, vb, vd, ve, vz⟩ := aF.v_elim hv
 have za := ae va
 have ze := ae ve
 have zz := ae vz
 have zs := vp va
 have zn : (of .nat).size ≤ 1000000 := by decide
 have sl : (T.mk 5 0 [of a, of e']).size ≤ 2000000 := by simp only [T.size, T.aE]; omega
 have fin : ∀ k, k = n → FF k 81 [nt 5, tms [of a, of e']] [] = some ([tm (.mk 5 0 [of a, of e'])], []) := fun k hk => bE (n := k) (by omega) _ _ (by simp)
 rw [rV]
 simp only [evt, oY, pC, GS, KG, bx (show 1 ≤ n by omega)]
 rcases kH (pU hM (n := n) (by omega) ha.iv ha.ok (w := .nat) zn) e with ⟨t', e1, eo, e2⟩ | ⟨c', eo, hc⟩
 ·simp only [of, tm, cP, cQ, az] at eo
  rw [eo]
  simp only [evt]
  rw [bE (n := n) (by omega) _ _ (by simp)]
  simp only [evt]
  rcases kH (cT hM (n := n) (by omega) hb.iv hb.ok (w := .app a .zero) (by omega)) e2 with ⟨t', e3, eo, e4⟩ | ⟨c', eo, hc⟩
  ·simp only [of, tm, cP, cQ, az] at eo
   rw [eo]
   simp only [evt]
   rw [tz (n := n) (by omega) va]
   simp only [evt]
   rcases kH (cT hM (n := n) (by omega) hd.iv hd.ok (w := Tm.aW a) (by omega)) e4 with ⟨t', e5, eo, e6⟩ | ⟨c', eo, hc⟩
   ·rw [eo]
    simp only [evt]
    rcases kH (cT hM (n := n) (by omega) he.iv he.ok (w := .nat) zn) e6 with ⟨t', e7, eo, e8⟩ | ⟨c', eo, hc⟩
    ·simp only [of, tm, cP, cQ, az] at eo
     rw [eo]
     simp only [evt]
     rw [fin n rfl]
     cases e8
     exact ⟨of (.app a e'), 0, rfl, sl, rfl, rfl⟩
    ·simp only [of, tm, cP, cQ, az] at eo
     rw [eo]
     simp only [evt]
     rw [fin n rfl]
     exact bU hc _ sl
   ·rw [eo]
    simp only [evt]
    rw [decide_eq_false hc.ne, fin n rfl]
    exact bU hc _ sl
  ·simp only [of, tm, cP, cQ, az] at eo
   rw [eo]
   simp only [evt]
   rw [decide_eq_false hc.ne]
   simp only [evt]
   rw [fin n rfl]
   exact bU hc _ sl
 ·simp only [of, tm, cP, cQ, az] at eo
  rw [eo]
  simp only [evt]
  rw [decide_eq_false hc.ne]
  simp only [evt]
  rw [fin n rfl]
  exact bU hc _ sl
theorem DG (hM : 6000500 ≤ M) (hn : M + 4 ≤ n) (ha : Pt M c a xa) (hb : Pt M c b xb) (hd : Pt M c d xd) (hv : vdM (.move a b d) = true) : ∀ r,
   (sq (frm O xb) fun E => match E with
   | .id t y z => sq (fam O xa t) fun _ => sq (chk O xd (.app a y)) fun _ => some (.ok (.app a z))
   | _ => some .bad) = some r →
   RK (FF n 146 [tms c, tm (.mk 12 0 [of a, of b, of d])] []) r := by
 intro r e
 obtain ⟨n, rfl⟩ := af (show 0 < n by omega)
 obtain ⟨va, vb, vd⟩ := aF.v_move hv
 have za := ae va
 rw [r8]
 simp only [evt, oY, pC, GS]
 rcases iX hM (n := n) (by omega) hb.iv hb.ok 10 e with ⟨f, eo, hk, vf, ef, e2⟩ | ⟨f, eo, hk, e2⟩ | ⟨y, c', eo, hc⟩
 ·rw [eo]
  cases f <;> try (rw [gE] at hk; simp only [Int.reduceEq] at hk; done)
  rename_i t y z
  obtain ⟨vt, vy, vz⟩ := aF.v_id vf
  have zt := ae vt
  have zy := ae vy
  have zz := ae vz
  have sl : (T.mk 5 0 [of a, of z]).size ≤ 2000000 := by simp only [T.size, T.aE]; omega
  have sy : (of (.app a y)).size ≤ 1000000 := by simp only [of, T.size, T.aE]; omega
  simp only [evt, of, oY, pC, GS]
  rcases kH (pU hM (n := n) (by omega) ha.iv ha.ok (w := t) (by omega)) e2 with ⟨t', e1, eo, e2⟩ | ⟨c', eo, hc⟩
  ·rw [eo]
   simp only [evt]
   rw [bE (n := n) (by omega) _ _ (by simp)]
   simp only [evt]
   rcases kH (cT hM (n := n) (by omega) hd.iv hd.ok (w := .app a y) sy) e2 with ⟨t', e3, eo, e4⟩ | ⟨c', eo, hc⟩
   ·simp only [of, tm, cP, cQ, az] at eo
    rw [eo]
    simp only [evt]
    rw [bE (n := n) (by omega) _ _ (by simp)]
    cases e4
    exact ⟨of (.app a z), 0, rfl, sl, rfl, rfl⟩
   ·simp only [of, tm, cP, cQ, az] at eo
    rw [eo]
    simp only [evt]
    rw [bE (n := n) (by omega) _ _ (by simp)]
    exact bU hc _ sl
  ·rw [eo]
   simp only [evt]
   rw [decide_eq_false hc.ne]
   simp only [evt]
   rw [bE (n := n) (by omega) _ _ (by simp)]
   exact bU hc _ sl
 ·rw [eo]
  simp only [evt]
  have : r = .bad := by
   cases f <;> first | (exact absurd (gE _) hk) | (cases e2; rfl)
  subst this
  exact bU .bad _ j1
 ·rw [eo]
  simp only [evt]
  rw [decide_eq_false hc.ne]
  exact bU hc _ j1
theorem Ed (hM : 6000500 ≤ M) (hn : M + 4 ≤ n) (ha : Pt M c a xa) (hb : Pt M c b xb) (hd : Pt M c d xd) (hv : vdM (.pair a b d) = true) : ∀ r,
   (sq (lvl O xa) fun _ => sq (some (O.hn a)) fun h => match h with
   | .sig A B => sq (chk O xb A) fun _ => sq (chk O xd (B.inst b)) fun _ => some (.ok a)
   | _ => some .bad) = some r →
   RK (FF n 147 [tms c, tm (.mk 14 0 [of a, of b, of d])] []) r := by
 intro r e
 obtain ⟨n, rfl⟩ := af (show 0 < n by omega)
 obtain ⟨va, vb, vd⟩ := aF.v_pair hv
 have za := ae va
 rw [sa]
 simp only [evt, oY, pC, GS]
 rcases AF (gy hM (n := n) (by omega) ha.iv ha.ok) e with ⟨i, e1, eo, e2⟩ | ⟨i, c', eo, hc⟩
 ·rw [eo]
  simp only [evt]
  rcases jR (wo (P := RS) (kE (n := n) (m := a) (by omega) (by omega))) e2 with ⟨f, e3, eo, e4⟩ | ⟨y, c', eo, hc⟩
  ·rw [eo]
   simp only [evt]
   have vf := (aF.hn_ok (Option.some.inj e3)).2.2
   by_cases hk : (of f).k = 13
   ·rw [decide_eq_true hk]
    simp only [evt]
    cases f <;> try (rw [gE] at hk; simp only [Int.reduceEq] at hk; done)
    rename_i C B
    obtain ⟨vC, vB⟩ := aF.v_sig vf
    have zC := ae vC
    have zi := gG vB vb
    simp only [evt, of, oY, pC, GS]
    rcases kH (cT hM (n := n) (by omega) hb.iv hb.ok (w := C) (by omega)) e4 with ⟨t', e5, eo, e6⟩ | ⟨c', eo, hc⟩
    ·rw [eo]
     simp only [evt]
     rw [Bc (n := n) (by omega) vB vb]
     simp only [evt]
     rcases kH (cT hM (n := n) (by omega) hd.iv hd.ok (w := B.inst b) (by omega)) e6 with ⟨t', e7, eo, e8⟩ | ⟨c', eo, hc⟩
     ·rw [eo]
      simp only [evt]
      cases e8
      exact ⟨of a, 0, rfl, by omega, rfl, rfl⟩
     ·rw [eo]
      simp only [evt]
      exact bU hc _ (by omega)
    ·rw [eo]
     simp only [evt]
     rw [decide_eq_false hc.ne]
     exact bU hc _ (by omega)
   ·rw [decide_eq_false hk]
    have : r = .bad := by
     cases f <;> first | (exact absurd (gE _) hk) | (cases e4; rfl)
    subst this
    exact bU .bad _ j1
  ·rw [eo]
   simp only [evt]
   rw [decide_eq_false hc.ne]
   exact bU hc _ j1
 ·rw [eo]
  simp only [evt]
  rw [decide_eq_false hc.ne]
  exact bU hc _ j1
end
theorem cF {o : OR} {r : Rs} (h : RK o r) : RK (o.bind fun x0 => ag x0.1 fun x1 x2 => aC .i64 x2 fun x3 x4 => ai x4 (aj x0.2 (some ([.agg [.int .i64 x1.k, .int .i64 x1.n, .fr (.ts x1.kids)], .one (.int .i64 x3)], [])))) r := by
 obtain ⟨x, c, rfl, hz, h2⟩ := h
 simp only [evt]
 exact ⟨x, c, rfl, hz, h2⟩
theorem Hs {o : OR} {r : Rs} {u : Tm} {xx : Option Rs} (h : ∀ r, xx = some r → RC o r) (hu : (of u).size ≤ 2000000) (e : (sq xx fun _ => some (.ok u)) = some r) : RK (o.bind fun x7 => aC .i64 x7.1 fun x8 x9 => ai x9 (aj x7.2 (some ([tm (of u), .one (.int .i64 x8)], [])))) r := by
 rcases kH h e with ⟨t, e1, eo, e2⟩ | ⟨c, eo, hc⟩
 ·rw [eo]
  simp only [evt]
  cases e2
  exact ⟨of u, 0, rfl, hu, rfl, rfl⟩
 ·rw [eo]
  simp only [evt]
  exact bU hc _ hu
def IhS (g B : Nat) : Prop := ∀ (n : Nat) (G : List Tm) (t : Tm), B ≤ n → (∀ A ∈ G, vdM A = true) → G.length ≤ 21 → vdM t = true → ∀ r, inS O g G t = some r → RS (FF n 74 [tms (cx G), tm (of t)] []) r
theorem IhS.pt {g B : Nat} (ih : IhS g B) {G : List Tm} {t : Tm} (hG : ∀ A ∈ G, vdM A = true) (hl : G.length ≤ 21) (hv : vdM t = true) : Pt B (cx G) t (inS O g G t) :=
 ⟨fun m hm r e => ih m G t hm hG hl hv r e, fun s e => (Tm.bB aF e).2⟩
theorem Ep {g B : Nat} (ih : IhS g B) (hB : 6000500 ≤ B) {n : Nat} {G : List Tm} {t : Tm} (hn : B + 10 ≤ n) (hG : ∀ A ∈ G, vdM A = true) (hl : G.length ≤ 20) (hv : vdM t = true) :
   ∀ r, kS O (inS O g) G t = some r → RK (FF n 111 [tms (cx G), tm (of t)] []) r := by
 intro r e
 obtain ⟨n, rfl⟩ := af (show 0 < n by omega)
 have hcl : (cx G).length ≤ 100 := by rw [cA]; omega
 have pt : ∀ {u}, vdM u = true → Pt B (cx G) u (inS O g G u) := fun h => ih.pt hG (by omega) h
 have pb : ∀ {a u}, vdM a = true → vdM u = true → Pt B (cx G ++ [of a]) u (inS O g (a :: G) u) := fun {a u} ha hu => by
  rw [← BR]
  exact ih.pt (fun A hA => by rcases List.mem_cons.1 hA with rfl | hA; exact ha; exact hG A hA) (by simp only [List.length_cons]; omega) hu
 rw [sE]
 cases t with
 | pi a b =>
  obtain ⟨va, vb⟩ := aF.v_pi hv
  simp only [of, cP, cQ, az, decide_true, cond_true]
  exact cF (oE hB (n := n) (by omega) (pt va) (pb va vb) hcl 3 0 r e)
 | sig a b =>
  obtain ⟨va, vb⟩ := aF.v_sig hv
  simp only [of, cP, cQ, az, Int.reduceEq, decide_true, decide_false, cond_true, cond_false]
  exact cF (oE hB (n := n) (by omega) (pt va) (pb va vb) hcl 13 0 r e)
 | lam a b =>
  obtain ⟨va, vb⟩ := aF.v_lam hv
  simp only [of, cP, cQ, az, Int.reduceEq, decide_true, decide_false, cond_true, cond_false]
  exact cF (Hk hB (n := n) (by omega) (pt va) (pb va vb) va hcl (fun X => inS O g (a :: G) X) (fun X eX => pb va (Tm.bB aF eX).2) r e)
 | app a b =>
  obtain ⟨va, vb⟩ := aF.v_app hv
  simp only [of, cP, cQ, az, Int.reduceEq, decide_true, decide_false, cond_true, cond_false]
  exact cF (Gm hB (n := n) (by omega) (pt va) (pt vb) vb r e)
 | elim p z s m =>
  obtain ⟨va, vb, vd, ve, _⟩ := aF.v_elim hv
  simp only [of, cP, cQ, az, Int.reduceEq, decide_true, decide_false, cond_true, cond_false]
  exact cF (DJ hB (n := n) (by omega) (pt va) (pt vb) (pt vd) (pt ve) hv r e)
 | id a b d =>
  obtain ⟨va, vb, vd⟩ := aF.v_id hv
  simp only [of, cP, cQ, az, Int.reduceEq, decide_true, decide_false, cond_true, cond_false]
  exact cF (I0 hB (n := n) (by omega) (pt va) (pt vb) (pt vd) va r e)
 | move a b d =>
  obtain ⟨va, vb, vd⟩ := aF.v_move hv
  simp only [of, cP, cQ, az, Int.reduceEq, decide_true, decide_false, cond_true, cond_false]
  exact cF (DG hB (n := n) (by omega) (pt va) (pt vb) (pt vd) hv r e)
 | pair a b d =>
  obtain ⟨va, vb, vd⟩ := aF.v_pair hv
  simp only [of, cP, cQ, az, Int.reduceEq, decide_true, decide_false, cond_true, cond_false]
  exact cF (Ed hB (n := n) (by omega) (pt va) (pt vb) (pt vd) hv r e)
 | var m =>
  simp only [of, cP, cQ, az, Int.reduceEq, decide_true, decide_false, cond_true, cond_false]
  refine cF ?_
  obtain ⟨n, rfl⟩ := af (show 0 < n by omega)
  rw [bJ]
  simp only [decide_true, cond_true, cond_false]
  have e : (match Tm.look G m with | some A => some (Rs.ok A) | none => some Rs.bad) = some r := e
  rw [cA]
  cases hlk : Tm.look G m with
  | none =>
   rw [hlk] at e; cases e
   have := nz hlk
   rw [decide_eq_true (show (G.length : Int) ≤ m by omega)]
   exact bU .bad _ j1
  | some A =>
   rw [hlk] at e; cases e
   have hlt := Cw hlk
   obtain ⟨C, hC, rfl⟩ := mM hlk
   have vC := hG C (List.mem_of_getElem? hC)
   have zC := ae vC
   have hg := Fx G hlt
   rw [hC] at hg
   have w : IntKind.i64.wrap (IntKind.i64.wrap ((G.length : Int) - 1) - m) = ((G.length - 1 - m : Nat) : Int) := by
    rw [wrap64 (a := (G.length : Int) - 1) (by omega), wrap64 (by omega)]; omega
   have w1 : IntKind.i64.wrap ((m : Int) + 1) = ((m + 1 : Nat) : Int) := by rw [wrap64 (by omega)]; rfl
   rw [decide_eq_false (show ¬ (G.length : Int) ≤ m by omega), w, decide_eq_true (show (0 : Int) ≤ ((G.length - 1 - m : Nat) : Int) by omega), Int.toNat_natCast, hg, w1]
   simp only [Option.map_some, evt]
   have hs := mU (n := n) (b := C) (a := m + 1) (by omega) vC (by omega)
   rw [hs]
   simp only [evt]
   refine ⟨of (C.ren (· + (m + 1))), 0, rfl, ?_, rfl, rfl⟩
   have := Ah (m + 1) C 0
   rw [jn] at this
   rw [← this, lj]; omega
 | sort m =>
  simp only [of, cP, cQ, az, Int.reduceEq, decide_true, decide_false, cond_true, cond_false]
  refine cF ?_
  obtain ⟨n, rfl⟩ := af (show 0 < n by omega)
  rw [bJ]
  simp only [decide_true, cond_true, cond_false, show decide ((2 : Int) = 1) = false from rfl]
  have hm := aF.v_sort.1 hv
  have e : some (if m < 3 then Rs.ok (.sort (m + 1)) else Rs.bad) = some r := e
  by_cases h3 : m < 3
  ·rw [if_pos h3] at e; cases e
   rw [decide_eq_false (show ¬ (3 : Int) ≤ m by omega), wrap64 (show -9223372036854775808 ≤ (m : Int) + 1 ∧ (m : Int) + 1 ≤ 9223372036854775807 by omega)]
   simp only [evt]
   rw [bx (n := n) (by omega)]
   simp only [evt]
   exact ⟨of (.sort (m + 1)), 0, rfl, by simp [of, T.size, T.aE], rfl, rfl⟩
  ·rw [if_neg h3] at e; cases e
   rw [decide_eq_true (show (3 : Int) ≤ m by omega)]
   exact bU .bad _ j1
 | nat =>
  simp only [of, cP, cQ, az, Int.reduceEq, decide_true, decide_false, cond_true, cond_false]
  refine cF ?_
  obtain ⟨n, rfl⟩ := af (show 0 < n by omega)
  rw [bJ]
  simp only [decide_true, cond_true, cond_false, show decide ((6 : Int) = 1) = false from rfl, show decide ((6 : Int) = 2) = false from rfl]
  rw [bx (n := n) (by omega)]
  simp only [evt]
  cases e
  exact ⟨of (.sort 0), 0, rfl, by decide, rfl, rfl⟩
 | zero =>
  simp only [of, cP, cQ, az, Int.reduceEq, decide_true, decide_false, cond_true, cond_false]
  refine cF ?_
  obtain ⟨n, rfl⟩ := af (show 0 < n by omega)
  rw [bJ]
  simp only [decide_true, cond_true, cond_false, show decide ((7 : Int) = 1) = false from rfl, show decide ((7 : Int) = 2) = false from rfl, show decide ((7 : Int) = 6) = false from rfl]
  rw [bx (n := n) (by omega)]
  simp only [evt]
  cases e
  exact ⟨of .nat, 0, rfl, by decide, rfl, rfl⟩
 | succ a =>
  simp only [of, cP, cQ, az, Int.reduceEq, decide_true, decide_false, cond_true, cond_false]
  refine cF ?_
  obtain ⟨n, rfl⟩ := af (show 0 < n by omega)
  rw [bJ]
  simp only [decide_true, cond_true, cond_false, show decide ((8 : Int) = 1) = false from rfl, show decide ((8 : Int) = 2) = false from rfl, show decide ((8 : Int) = 6) = false from rfl, show decide ((8 : Int) = 7) = false from rfl]
  have va := aF.v_succ hv
  have zn : (of .nat).size ≤ 1000000 := by decide
  rw [bx (n := n) (by omega)]
  simp only [evt, oY]
  exact Hs (u := .nat) (cT hB (n := n) (by omega) (pt va).iv (pt va).ok (w := .nat) zn) (by decide) e
 | refl a =>
  simp only [of, cP, cQ, az, Int.reduceEq, decide_true, decide_false, cond_true, cond_false]
  refine cF ?_
  obtain ⟨n, rfl⟩ := af (show 0 < n by omega)
  rw [bJ]
  simp only [decide_true, cond_true, cond_false, show decide ((11 : Int) = 1) = false from rfl, show decide ((11 : Int) = 2) = false from rfl, show decide ((11 : Int) = 6) = false from rfl, show decide ((11 : Int) = 7) = false from rfl, show decide ((11 : Int) = 8) = false from rfl]
  have va := aF.v_refl hv
  have za := ae va
  simp only [evt, oY]
  have e : (sq (inS O g G a) fun A => sq (lvl O (inS O g G A)) fun _ => some (.ok (.id A a a))) = some r := e
  rcases HO ((pt va).iv n (by omega)) e with ⟨A, e1, eo, e2⟩ | ⟨y, c', eo, hy, hc⟩
  ·rw [eo]
   have vA := (pt va).ok A e1
   have zA := ae vA
   have sl : (T.mk 10 0 [of A, of a, of a]).size ≤ 2000000 := by simp only [T.size, T.aE]; omega
   simp only [evt]
   rcases AF (gy hB (n := n) (by omega) (pt vA).iv (pt vA).ok) e2 with ⟨i, e3, eo, e4⟩ | ⟨i, c', eo, hc⟩
   ·rw [eo]
    simp only [evt]
    rw [bE (n := n) (by omega) _ _ (by simp)]
    simp only [evt]
    cases e4
    exact ⟨of (.id A a a), 0, rfl, sl, rfl, rfl⟩
   ·rw [eo]
    simp only [evt]
    rw [bE (n := n) (by omega) _ _ (by simp)]
    simp only [evt]
    exact bU hc _ sl
  ·have sl : (T.mk 10 0 [y, of a, of a]).size ≤ 2000000 := by simp only [T.size, T.aE]; omega
   rw [eo]
   simp only [evt]
   rw [decide_eq_false hc.ne]
   simp only [evt]
   rw [bE (n := n) (by omega) _ _ (by simp)]
   simp only [evt]
   exact bU hc _ sl
 | fst q =>
  simp only [of, cP, cQ, az, Int.reduceEq, decide_true, decide_false, cond_true, cond_false]
  refine cF ?_
  obtain ⟨n, rfl⟩ := af (show 0 < n by omega)
  rw [bJ]
  simp only [decide_true, cond_true, cond_false, show decide ((15 : Int) = 1) = false from rfl, show decide ((15 : Int) = 2) = false from rfl, show decide ((15 : Int) = 6) = false from rfl, show decide ((15 : Int) = 7) = false from rfl, show decide ((15 : Int) = 8) = false from rfl, show decide ((15 : Int) = 11) = false from rfl]
  have vq := aF.v_fst hv
  exact cF ((y5 hB (n := n) (by omega) (pt vq) hv).1 r e)
 | snd q =>
  simp only [of, cP, cQ, az, Int.reduceEq, decide_true, decide_false, cond_true, cond_false]
  refine cF ?_
  obtain ⟨n, rfl⟩ := af (show 0 < n by omega)
  rw [bJ]
  simp only [decide_true, cond_true, cond_false, show decide ((16 : Int) = 1) = false from rfl, show decide ((16 : Int) = 2) = false from rfl, show decide ((16 : Int) = 6) = false from rfl, show decide ((16 : Int) = 7) = false from rfl, show decide ((16 : Int) = 8) = false from rfl, show decide ((16 : Int) = 11) = false from rfl]
  have vq := aF.v_snd hv
  have vf : vdM (.fst q) = true := by
   have h := eK.1 hv
   rw [eK]
   exact h
  exact cF ((y5 hB (n := n) (by omega) (pt vq) vf).2 r e)
theorem tL : ∀ g, IhS g (6000500 + 20 * g)
 | 0 => fun n G t hn hG hl hv r e => by cases e
 | g + 1 => fun n G t hn hG hl hv r e => by
  obtain ⟨n, rfl⟩ := af (show 0 < n by omega)
  have hz := ae hv
  have ev : ah (of t) = true := hv
  rw [o9, aL (n := n) (by omega) (by omega), ev, cA]
  simp only [evt]
  rw [inS] at e
  by_cases h20 : 20 < G.length
  ·rw [if_pos (.inr h20)] at e; cases e
   rw [decide_eq_true (show (20 : Int) < G.length by omega)]
   exact oB .opn _ j0
  ·have hn0 : ¬ (O.vd t = false ∨ 20 < G.length) := by
     rintro (h | h)
     ·rw [show O.vd t = vdM t from rfl, hv] at h; cases h
     ·exact h20 h
   rw [if_neg hn0] at e
   rw [decide_eq_false (show ¬ (20 : Int) < G.length by omega)]
   simp only [cond_false]
   cases hk : kS O (inS O g) G t with
   | none => rw [hk] at e; cases e
   | some s =>
    rw [hk] at e
    obtain ⟨x, c, eo, hx, h2⟩ := Ep (tL g) (by omega) (n := n) (by omega) hG (by omega) hv s hk
    rw [eo]
    simp only [evt]
    cases s with
    | ok u =>
     obtain ⟨rfl, rfl⟩ := h2
     have e : Tm.made O u = some r := e
     unfold Tm.made at e
     rw [aL (n := n) (t := of u) (by omega) (by omega)]
     simp only [evt]
     cases hu : vdM u with
     | false =>
      have eu : ah (of u) = false := hu
      rw [if_neg (by rw [show O.vd u = vdM u from rfl, hu]; simp)] at e; cases e
      rw [eu]
      exact oB .opn _ j0
     | true =>
      have eu : ah (of u) = true := hu
      have zu := ae eu
      rw [if_pos (by rw [show O.vd u = vdM u from rfl, hu])] at e; cases e
      rw [eu]
      exact ⟨of u, 0, rfl, by omega, rfl, rfl⟩
    | bad =>
     cases e
     have h2 : c = 1 := h2
     subst h2
     exact oB .bad _ j0
    | opn =>
     cases e
     have h2 : c = 2 := h2
     subst h2
     exact oB .opn _ j0
end Go.Proofs.YtajlknlnmmbfcaaGreat
end
section
namespace Go.Proofs.YtajlknlnmmbfcaaGreat
open Go Go.Ab Go.Dk
open Tm (Rs sq frm lvl chk fam made inI inS tI tS lvr ckr cc pt ps pc Wf)
theorem kO {G : List Tm} {t : Tm} (w : Wf G) (hG : ∀ A ∈ G, vdM A = true) (hl : G.length ≤ 20) (hv : vdM t = true) : ∃ B, 6000500 ≤ B ∧ Iv 74 B (cx G) (of t) (some (tS O G t)) := by
 obtain ⟨N, hN⟩ := Tm.A8 aF w t
 refine ⟨6000500 + 20 * N, by omega, fun m hm r e => ?_⟩
 cases e
 exact tL N m G t hm hG (by omega) hv _ (hN N (Nat.le_refl N))
theorem Dl {M n : Nat} {c : List T} {t : T} {x : Rs} (hM : 6000500 ≤ M) (hn : M + 1 ≤ n) (h : Iv 74 M c t (some x)) (hv : ∀ s, x = .ok s → vdM s = true) : FF n 72 [tms c, tm t] [] = some ([nt (lvn (lvr O x)), nt (sts (lvr O x))], []) := by
 obtain ⟨n, rfl⟩ := af (show 0 < n by omega)
 have e := Tm.qj (O := O) x
 obtain ⟨i, c', eo, h2⟩ := gy hM hn h (fun s e => hv s (Option.some.inj e)) _ e
 unfold lvl frm at e
 rw [Tm.aZ] at e
 rw [kK]
 rcases jR (h n (by omega)) e with ⟨s, e1, eo, e2⟩ | ⟨y, c', eo, hc⟩
 ·rw [eo]
  simp only [evt]
  have hs := ae (hv s (Option.some.inj e1))
  rcases jR (wo (P := RS) (kE (n := n) (m := s) (by omega) (by omega))) e2 with ⟨f, e3, eo, e4⟩ | ⟨y, c', eo, hc⟩
  ·rw [eo]
   simp only [evt]
   cases f with
   | sort i => rw [← Option.some.inj e4]; rfl
   | _ => rw [← Option.some.inj e4]; rfl
  ·rw [eo]
   simp only [evt]
   rw [decide_eq_false hc.ne]
   rcases hc with ⟨rfl, hr⟩ | ⟨rfl, hr⟩ <;> rw [hr] <;> rfl
 ·rw [eo]
  simp only [evt]
  rw [decide_eq_false hc.ne]
  rcases hc with ⟨rfl, hr⟩ | ⟨rfl, hr⟩ <;> rw [hr] <;> rfl
theorem Cr {G : List Tm} {t : Tm} (w : Wf G) (hG : ∀ A ∈ G, vdM A = true) (hl : G.length ≤ 20) (hv : vdM t = true) : ∃ B, ∀ n, B ≤ n → RL (FF n 72 [tms (cx G), tm (of t)] []) (lvr O (tS O G t)) := by
 obtain ⟨B, hB, h⟩ := kO w hG hl hv
 exact ⟨B + 2, fun n hn => gy hB (by omega) h (fun s e => Tm.EF aF w (Option.some.inj e)) _ (Tm.qj _)⟩
theorem AB {G : List Tm} {t : Tm} (w : Wf G) (hG : ∀ A ∈ G, vdM A = true) (hl : G.length ≤ 20) (hv : vdM t = true) : ∃ B, ∀ n, B ≤ n → FF n 72 [tms (cx G), tm (of t)] [] = some ([nt (lvn (lvr O (tS O G t))), nt (sts (lvr O (tS O G t)))], []) := by
 obtain ⟨B, hB, h⟩ := kO w hG hl hv
 exact ⟨B + 2, fun n hn => Dl hB (by omega) h (fun s e => Tm.EF aF w e)⟩
theorem CD {G : List Tm} {t u : Tm} (w : Wf G) (hG : ∀ A ∈ G, vdM A = true) (hl : G.length ≤ 20) (hv : vdM t = true) (hu : vdM u = true) : ∃ B, ∀ n, B ≤ n → FF n 85 [tms (cx G), tm (of t), tm (of u)] [] = some ([nt (sts (ckr O (tS O G t) u))], []) := by
 obtain ⟨B, hB, h⟩ := kO w hG hl hv
 have zu := ae hu
 exact ⟨B + 2, fun n hn => Fl (cT hB (by omega) h (fun s e => Tm.EF aF w (Option.some.inj e)) (by omega) _ (Tm.Bn _ _))⟩
theorem vN : ∀ (Q H : List Tm), (∀ A ∈ H, vdM A = true) → (∀ A ∈ Q, vdM A = true) → H.length + Q.length ≤ 20 → (∃ t, cc O (tS O) H = .ok t) → ∃ B, ∀ n, B ≤ n → ∀ m, Q.length < m →
   bw n m (cx H ++ Q.map of) (H.length : Nat) = some ([nt (sts (cc O (tS O) (Q.reverse ++ H)))], [])
 | [], H, vH, vQ, hl, ⟨t, ht⟩ => by
  refine ⟨0, fun n hn m hm => ?_⟩
  obtain ⟨m, rfl⟩ := af (show 0 < m by omega)
  rw [dH, decide_eq_false (show ¬ ((H.length : Nat) : Int) < ((cx H ++ ([] : List Tm).map of).length : Int) by simp [cA])]
  rw [List.reverse_nil, List.nil_append, ht]; rfl
 | A :: Q, H, vH, vQ, hl, ⟨t, ht⟩ => by
  have w := Tm.uF aF ht
  have vA := vQ A List.mem_cons_self
  have eG : (A :: Q).reverse ++ H = Q.reverse ++ (A :: H) := by simp
  have ex : cx H ++ (A :: Q).map of = cx (A :: H) ++ Q.map of := by simp [cx]
  have hcA : cc O (tS O) (A :: H) = lvr O (tS O H A) := by rw [cc, ht]
  simp only [List.length_cons] at hl
  obtain ⟨B1, h1⟩ := Cr w vH (by omega) vA
  have hget : (cx H ++ (A :: Q).map of)[H.length]? = some (of A) := by
   rw [List.getElem?_append_right (by rw [cA]; omega), cA, Nat.sub_self]; rfl
  have htk : (cx H ++ (A :: Q).map of).take H.length = cx H := by
   have := List.take_left (l₁ := cx H) (l₂ := (A :: Q).map of)
   rw [cA] at this; exact this
  have hlen : (cx H ++ (A :: Q).map of).length = H.length + (Q.length + 1) := by simp [cA]
  have step : ∀ n, B1 ≤ n → ∀ m, bw n (m + 1) (cx H ++ (A :: Q).map of) (H.length : Nat) =
     cond (!decide (sts (lvr O (tS O H A)) = 0)) (some ([nt (sts (lvr O (tS O H A)))], [])) (bw n m (cx H ++ (A :: Q).map of) ((H.length + 1 : Nat) : Int)) := by
   intro n hn m
   obtain ⟨i, eo, _⟩ := IY (h1 n hn)
   rw [dH, decide_eq_true (show ((H.length : Nat) : Int) < ((cx H ++ (A :: Q).map of).length : Int) by rw [hlen]; omega), cond_true, show Go.Ab.inB 0 ((H.length : Nat) : Int) (cx H ++ (A :: Q).map of).length = true from by rw [hlen]; simp [Go.Ab.inB]; omega, cond_true, decide_eq_true (show (0 : Int) ≤ ((H.length : Nat) : Int) by omega), cond_true, Int.toNat_natCast, hget]
   simp only [Option.bind_some]
   rw [htk, show (0 : Int).toNat = 0 from rfl, List.drop_zero]
   have eo : FF n 72 [tms (cx H), .agg [.int .i64 (of A).k, .int .i64 (of A).n, .fr (.ts (of A).kids)]] [] = _ := eo
   rw [eo]
   simp only [evt]
   rw [wrap64 (show -9223372036854775808 ≤ ((H.length : Nat) : Int) + 1 ∧ ((H.length : Nat) : Int) + 1 ≤ 9223372036854775807 by omega)]
   rfl
  cases hr : lvr O (tS O H A) with
  | ok s =>
   obtain ⟨B2, h2⟩ := vN Q (A :: H) (fun C hC => by rcases List.mem_cons.1 hC with rfl | hC; exact vA; exact vH C hC) (fun C hC => vQ C (List.mem_cons_of_mem _ hC)) (by simp only [List.length_cons]; omega) ⟨s, hcA.trans hr⟩
   refine ⟨max B1 B2, fun n hn m hm => ?_⟩
   obtain ⟨m, rfl⟩ := af (show 0 < m by omega)
   simp only [List.length_cons] at hm
   have := h2 n (by omega) m (by omega)
   rw [step n (by omega), hr, eG, ex]
   simp only [sts, decide_true, Bool.not_true, cond_false]
   rw [List.length_cons] at this
   exact this
  | bad =>
   refine ⟨B1, fun n hn m hm => ?_⟩
   obtain ⟨m, rfl⟩ := af (show 0 < m by omega)
   rw [step n hn, hr, eG, tg (fun t e => by rw [hcA, hr] at e; cases e), hcA, hr]; rfl
  | opn =>
   refine ⟨B1, fun n hn m hm => ?_⟩
   obtain ⟨m, rfl⟩ := af (show 0 < m by omega)
   rw [step n hn, hr, eG, tg (fun t e => by rw [hcA, hr] at e; cases e), hcA, hr]; rfl
theorem fP {G : List Tm} (hG : ∀ A ∈ G, vdM A = true) (hl : G.length ≤ 8) : ∃ B, ∀ n, B ≤ n → FF n 37 [tms (cx G)] [] = some ([nt (sts (cc O (tS O) G))], []) := by
 obtain ⟨B, h⟩ := vN G.reverse [] (fun A hA => by cases hA) (fun A hA => hG A (List.mem_reverse.1 hA)) (by simp; omega) ⟨.nat, rfl⟩
 refine ⟨max B 4400000 + 1, fun n hn => ?_⟩
 obtain ⟨n, rfl⟩ := af (show 0 < n by omega)
 have hz : ∀ t ∈ cx G, t.size ≤ 4000000 := fun t ht => by
  obtain ⟨A, hA, rfl⟩ := List.mem_map.1 (List.mem_reverse.1 (show t ∈ (G.map of).reverse from ht))
  have := ae (hG A hA); omega
 have hl' : (cx G).length ≤ 4000000 := by rw [cA]; omega
 rw [j5, gZ (by omega) hl' hz, uq hG hl]
 simp only [evt]
 have e2 := h n (by omega) n (by rw [List.length_reverse]; omega)
 rw [List.append_nil, List.reverse_reverse] at e2
 have e3 : cx [] ++ G.reverse.map of = cx G := by rw [show cx [] = [] from rfl, List.nil_append, cx, List.map_reverse]
 rw [e3] at e2
 exact e2
theorem q8 {n : Nat} {l : List T} {t : T} (hn : 4500000 ≤ n) (hl : l.length ≤ 4000000) (hz : ∀ t ∈ l, t.size ≤ 4000000) (ht : t.size ≤ 4000000) (h : (okA l && ah t) = false) : FF n 40 [tms l, tm t] [] = some ([tm (.mk 0 0 []), nt 3], []) := by
 obtain ⟨n, rfl⟩ := af (show 0 < n by omega)
 rw [du, gZ (by omega) hl hz]
 cases h1 : okA l with
 | false => rfl
 | true =>
  rw [h1, Bool.true_and] at h
  simp only [evt]
  rw [aL (by omega) ht, h]; rfl
theorem uB {G : List Tm} {t : Tm} (hG : ∀ A ∈ G, vdM A = true) (h8 : G.length ≤ 8) (hv : vdM t = true) : ∃ B, ∀ n, B ≤ n → FF n 40 [tms (cx G), tm (of t)] [] = some ([tm (zr (pt O (tS O) G t)), nt (sts (pt O (tS O) G t))], []) := by
 have zt := ae hv
 obtain ⟨B, hB⟩ := fP hG h8
 have hz := qS hG
 have hl : (cx G).length ≤ 4000000 := by rw [cA]; omega
 have ht : ah (of t) = true := hv
 have pre : ∀ n, 4500000 ≤ n → FF n 64 [tms (cx G)] [] = some ([bl true], []) ∧ FF n 65 [.agg [.int .i64 (of t).k, .int .i64 (of t).n, .fr (.ts (of t).kids)]] [] = some ([bl true], []) := fun n hn =>
  ⟨by rw [gZ (by omega) hl hz, uq hG h8], by have := aL (n := n) (t := of t) (by omega) (by omega); rw [ht] at this; exact this⟩
 unfold pt
 cases hc : cc O (tS O) G with
 | ok C =>
  have w := Tm.uF aF hc
  obtain ⟨B', hB', h'⟩ := kO w hG (by omega) hv
  refine ⟨max (max B 4500000) B' + 1, fun n hn => ?_⟩
  obtain ⟨n, rfl⟩ := af (show 0 < n by omega)
  have e1 := hB n (by omega)
  rw [hc] at e1
  rw [du, (pre n (by omega)).1]
  simp only [evt]
  rw [(pre n (by omega)).2]
  simp only [evt]
  rw [e1]
  obtain ⟨x, eo, hxz, hx⟩ := IB (h' n (by omega) _ rfl)
  simp only [evt, sts]
  have eo : FF n 74 [tms (cx G), .agg [.int .i64 (of t).k, .int .i64 (of t).n, .fr (.ts (of t).kids)]] [] = _ := eo
  rw [eo]
  simp only [evt]
  obtain ⟨n, rfl⟩ := af (show 0 < n by omega)
  cases hr : tS O G t with
  | ok A =>
   have vA : vdM A = true := Tm.EF aF w hr
   have zA := ae vA
   rw [hx A hr, ir]
   have := hJ (of A) (n := n) (by omega) (by omega)
   simp only [tm] at this
   simp only [sts, decide_true, Bool.not_true, cond_false]
   rw [this, show zr (Rs.ok A) = of A from rfl]
   cases of A; rfl
  | bad => rw [ir]; rfl
  | opn => rw [ir]; rfl
 | bad =>
  refine ⟨max B 4500000 + 1, fun n hn => ?_⟩
  obtain ⟨n, rfl⟩ := af (show 0 < n by omega)
  have e1 := hB n (by omega)
  rw [hc] at e1
  rw [du, (pre n (by omega)).1]
  simp only [evt]
  rw [(pre n (by omega)).2]
  simp only [evt]
  rw [e1]; rfl
 | opn =>
  refine ⟨max B 4500000 + 1, fun n hn => ?_⟩
  obtain ⟨n, rfl⟩ := af (show 0 < n by omega)
  have e1 := hB n (by omega)
  rw [hc] at e1
  rw [du, (pre n (by omega)).1]
  simp only [evt]
  rw [(pre n (by omega)).2]
  simp only [evt]
  rw [e1]; rfl
theorem Aq {n : Nat} {l : List T} {t : T} (hn : 4500000 ≤ n) (hl : l.length ≤ 4000000) (hz : ∀ t ∈ l, t.size ≤ 4000000) (ht : t.size ≤ 4000000) (h : (okA l && ah t) = false) : FF n 45 [tms l, tm t] [] = some ([nt 0, nt 3], []) := by
 obtain ⟨n, rfl⟩ := af (show 0 < n by omega)
 rw [fD, gZ (by omega) hl hz]
 cases h1 : okA l with
 | false => rfl
 | true =>
  rw [h1, Bool.true_and] at h
  simp only [evt]
  rw [aL (by omega) ht, h]; rfl
theorem uu {G : List Tm} {t : Tm} (hG : ∀ A ∈ G, vdM A = true) (h8 : G.length ≤ 8) (hv : vdM t = true) : ∃ B, ∀ n, B ≤ n → FF n 45 [tms (cx G), tm (of t)] [] = some ([nt (lvn (ps O (tS O) G t)), nt (sts (ps O (tS O) G t))], []) := by
 have zt := ae hv
 obtain ⟨B, hB⟩ := fP hG h8
 have hz := qS hG
 have hl : (cx G).length ≤ 4000000 := by rw [cA]; omega
 have ht : ah (of t) = true := hv
 have pre : ∀ n, 4500000 ≤ n → FF n 64 [tms (cx G)] [] = some ([bl true], []) ∧ FF n 65 [.agg [.int .i64 (of t).k, .int .i64 (of t).n, .fr (.ts (of t).kids)]] [] = some ([bl true], []) := fun n hn =>
  ⟨by rw [gZ (by omega) hl hz, uq hG h8], by have := aL (n := n) (t := of t) (by omega) (by omega); rw [ht] at this; exact this⟩
 unfold ps
 cases hc : cc O (tS O) G with
 | ok C =>
  have w := Tm.uF aF hc
  obtain ⟨B', h'⟩ := AB w hG (by omega) hv
  refine ⟨max (max B 4500000) B' + 1, fun n hn => ?_⟩
  obtain ⟨n, rfl⟩ := af (show 0 < n by omega)
  have e1 := hB n (by omega)
  rw [hc] at e1
  rw [fD, (pre n (by omega)).1]
  simp only [evt]
  rw [(pre n (by omega)).2]
  simp only [evt]
  rw [e1]
  simp only [evt, sts]
  have eo : FF n 72 [tms (cx G), .agg [.int .i64 (of t).k, .int .i64 (of t).n, .fr (.ts (of t).kids)]] [] = _ := h' n (by omega)
  rw [eo]
  rfl
 | bad =>
  refine ⟨max B 4500000 + 1, fun n hn => ?_⟩
  obtain ⟨n, rfl⟩ := af (show 0 < n by omega)
  have e1 := hB n (by omega)
  rw [hc] at e1
  rw [fD, (pre n (by omega)).1]
  simp only [evt]
  rw [(pre n (by omega)).2]
  simp only [evt]
  rw [e1]; rfl
 | opn =>
  refine ⟨max B 4500000 + 1, fun n hn => ?_⟩
  obtain ⟨n, rfl⟩ := af (show 0 < n by omega)
  have e1 := hB n (by omega)
  rw [hc] at e1
  rw [fD, (pre n (by omega)).1]
  simp only [evt]
  rw [(pre n (by omega)).2]
  simp only [evt]
  rw [e1]; rfl
theorem qW {n : Nat} {l : List T} {t u : T} (hn : 4500000 ≤ n) (hl : l.length ≤ 4000000) (hz : ∀ t ∈ l, t.size ≤ 4000000) (ht : t.size ≤ 4000000) (hu : u.size ≤ 4000000) (h : (okA l && (ah t && ah u)) = false) : FF n 47 [tms l, tm t, tm u] [] = some ([nt 3], []) := by
 obtain ⟨n, rfl⟩ := af (show 0 < n by omega)
 rw [iA, gZ (by omega) hl hz]
 cases h1 : okA l with
 | false => rfl
 | true =>
  rw [h1, Bool.true_and] at h
  simp only [evt]
  rw [aL (by omega) ht]
  cases h2 : ah t with
  | false => rfl
  | true =>
   rw [h2, Bool.true_and] at h
   simp only [evt]
   rw [aL (by omega) hu, h]; rfl
theorem ug {G : List Tm} {t u : Tm} (hG : ∀ A ∈ G, vdM A = true) (h8 : G.length ≤ 8) (hv : vdM t = true) (hu : vdM u = true) : ∃ B, ∀ n, B ≤ n → FF n 47 [tms (cx G), tm (of t), tm (of u)] [] = some ([nt (sts (pc O (tS O) G t u))], []) := by
 have zt := ae hv
 have zu := ae hu
 obtain ⟨B, hB⟩ := uu hG h8 hu
 have hz := qS hG
 have hl : (cx G).length ≤ 4000000 := by rw [cA]; omega
 have ht : ah (of t) = true := hv
 have hu' : ah (of u) = true := hu
 have pre : ∀ n, 4500000 ≤ n → FF n 64 [tms (cx G)] [] = some ([bl true], []) ∧ FF n 65 [.agg [.int .i64 (of t).k, .int .i64 (of t).n, .fr (.ts (of t).kids)]] [] = some ([bl true], []) ∧ FF n 65 [.agg [.int .i64 (of u).k, .int .i64 (of u).n, .fr (.ts (of u).kids)]] [] = some ([bl true], []) := fun n hn =>
  ⟨by rw [gZ (by omega) hl hz, uq hG h8], by have := aL (n := n) (t := of t) (by omega) (by omega); rw [ht] at this; exact this, by have := aL (n := n) (t := of u) (by omega) (by omega); rw [hu'] at this; exact this⟩
 unfold pc
 have step : ∀ n, max B 4500000 ≤ n → FF (n + 1) 47 [tms (cx G), tm (of t), tm (of u)] [] = cond (!decide (sts (ps O (tS O) G u) = 0)) (some ([nt (sts (ps O (tS O) G u))], [])) ((FF n 85 [tms (cx G), tm (of t), tm (of u)] []).bind fun x14 => aC .i64 x14.1 fun x15 x16 => ai x16 (aj x14.2 (some ([.one (.int .i64 x15)], [])))) := by
  intro n hn
  have e1 : FF n 45 [tms (cx G), .agg [.int .i64 (of u).k, .int .i64 (of u).n, .fr (.ts (of u).kids)]] [] = _ := hB n (by omega)
  rw [iA, (pre n (by omega)).1]
  simp only [evt]
  rw [(pre n (by omega)).2.1]
  simp only [evt]
  rw [(pre n (by omega)).2.2]
  simp only [evt]
  rw [e1]
  simp only [evt]
 cases hr : ps O (tS O) G u with
 | ok A =>
  have w := (Tm.Ja aF hr).1
  obtain ⟨B2, h2⟩ := CD w hG (by omega) hv hu
  refine ⟨max (max B 4500000) B2 + 1, fun n hn => ?_⟩
  obtain ⟨n, rfl⟩ := af (show 0 < n by omega)
  rw [step n (by omega), hr, h2 n (by omega)]; rfl
 | bad =>
  refine ⟨max B 4500000 + 1, fun n hn => ?_⟩
  obtain ⟨n, rfl⟩ := af (show 0 < n by omega)
  rw [step n (by omega), hr]; rfl
 | opn =>
  refine ⟨max B 4500000 + 1, fun n hn => ?_⟩
  obtain ⟨n, rfl⟩ := af (show 0 < n by omega)
  rw [step n (by omega), hr]; rfl
structure AtS (G : List Tm) (n : Nat) : Prop where
 ctxS : FF n 37 [tms (cx G)] [] = some ([nt (sts (cc O (tS O) G))], [])
 tyS : ∀ t, vdM t = true → FF n 40 [tms (cx G), tm (of t)] [] = some ([tm (zr (pt O (tS O) G t)), nt (sts (pt O (tS O) G t))], [])
 soS : ∀ t, vdM t = true → FF n 45 [tms (cx G), tm (of t)] [] = some ([nt (lvn (ps O (tS O) G t)), nt (sts (ps O (tS O) G t))], [])
 ctS : ∀ t, vdM t = true → ∀ u, vdM u = true → FF n 47 [tms (cx G), tm (of t), tm (of u)] [] = some ([nt (sts (pc O (tS O) G t u))], [])
theorem tC : ∃ B, ∀ G : List Tm, (∀ A ∈ G, vdM A = true) → G.length ≤ 8 → ∀ n, B ≤ n → AtS G n := by
 refine Ie AtS fun G hG h8 => ?_
 obtain ⟨B1, h1⟩ := fP hG h8
 obtain ⟨B3, h3⟩ := s6 _ fun t hv => uB hG h8 hv
 obtain ⟨B5, h5⟩ := s6 _ fun t hv => uu hG h8 hv
 obtain ⟨B7, h7⟩ := s6 (fun t n => ∀ u, vdM u = true → FF n 47 [tms (cx G), tm (of t), tm (of u)] [] = some ([nt (sts (pc O (tS O) G t u))], [])) fun t hv => by
  obtain ⟨B, h⟩ := s6 _ fun u hu => ug hG h8 hv hu
  exact ⟨B, fun n hn u hu => h u hu n hn⟩
 exact ⟨max (max B1 B3) (max B5 B7), fun n hn =>
  ⟨h1 n (by omega), fun t hv => h3 t hv n (by omega), fun t hv => h5 t hv n (by omega), fun t hv u hu => h7 t hv n (by omega) u hu⟩⟩
noncomputable def BS : Nat := max tC.choose 10000000
theorem wL : 10000000 ≤ BS := by unfold BS; omega
theorem Gu {G : List Tm} (hG : ∀ A ∈ G, vdM A = true) (h8 : G.length ≤ 8) {n : Nat} (hn : BS ≤ n) : AtS G n := tC.choose_spec G hG h8 n (by unfold BS at hn; omega)
noncomputable def itS (l : List T) (t : T) : T × Int := if (okA l && ah t) = true then (zr (pt O (tS O) (xf l) (dec t)), sts (pt O (tS O) (xf l) (dec t))) else (.mk 0 0 [], 3)
noncomputable def soS (l : List T) (t : T) : Int × Int := if (okA l && ah t) = true then (lvn (ps O (tS O) (xf l) (dec t)), sts (ps O (tS O) (xf l) (dec t))) else (0, 3)
noncomputable def ctS (l : List T) (t u : T) : Int := if (okA l && (ah t && ah u)) = true then sts (pc O (tS O) (xf l) (dec t) (dec u)) else 3
section
variable {n : Nat} {l : List T} {t u : T}
theorem tY (hn : BS + 2 ≤ n) (hl : l.length ≤ 4000000) (hz : ∀ t ∈ l, t.size ≤ 4000000) (ht : t.size ≤ 4000000) : FF n 40 [tms l, tm t] [] = some ([tm (itS l t).1, nt (itS l t).2], []) := by
 have := wL
 unfold itS
 cases h : okA l && ah t with
 | false => rw [if_neg (by simp), q8 (by omega) hl hz ht h]
 | true =>
  rw [Bool.and_eq_true] at h
  obtain ⟨G, rfl, hG, h8⟩ := gp h.1
  obtain ⟨m, rfl⟩ := cJ h.2
  rw [if_pos rfl, bK, dm]; exact (Gu hG h8 (by omega)).tyS m h.2
theorem vK (hn : BS + 2 ≤ n) (hl : l.length ≤ 4000000) (hz : ∀ t ∈ l, t.size ≤ 4000000) (ht : t.size ≤ 4000000) : FF n 45 [tms l, tm t] [] = some ([nt (soS l t).1, nt (soS l t).2], []) := by
 have := wL
 unfold soS
 cases h : okA l && ah t with
 | false => rw [if_neg (by simp), Aq (by omega) hl hz ht h]
 | true =>
  rw [Bool.and_eq_true] at h
  obtain ⟨G, rfl, hG, h8⟩ := gp h.1
  obtain ⟨m, rfl⟩ := cJ h.2
  rw [if_pos rfl, bK, dm]; exact (Gu hG h8 (by omega)).soS m h.2
theorem td (hn : BS + 2 ≤ n) (hl : l.length ≤ 4000000) (hz : ∀ t ∈ l, t.size ≤ 4000000) (ht : t.size ≤ 4000000) (hu : u.size ≤ 4000000) : FF n 47 [tms l, tm t, tm u] [] = some ([nt (ctS l t u)], []) := by
 have := wL
 unfold ctS
 cases h : okA l && (ah t && ah u) with
 | false => rw [if_neg (by simp), qW (by omega) hl hz ht hu h]
 | true =>
  rw [Bool.and_eq_true, Bool.and_eq_true] at h
  obtain ⟨G, rfl, hG, h8⟩ := gp h.1
  obtain ⟨m, rfl⟩ := cJ h.2.1
  obtain ⟨m', rfl⟩ := cJ h.2.2
  rw [if_pos rfl, bK, dm, dm]; exact (Gu hG h8 (by omega)).ctS m h.2.1 m' h.2.2
end
end Go.Proofs.YtajlknlnmmbfcaaGreat
end
section
namespace Go.Proofs.YtajlknlnmmbfcaaGreat
open Go Go.Ab Go.Dk
end Go.Proofs.YtajlknlnmmbfcaaGreat
end
section
namespace Go.Proofs.YtajlknlnmmbfcaaGreat
open Go Go.Ab Go.Dk
end Go.Proofs.YtajlknlnmmbfcaaGreat
end
section
namespace Go.Proofs.YtajlknlnmmbfcaaGreat
open Go Go.Ab Go.Dk
def szN : Nat → Nat
 | 0 => 1
 | k + 1 => 8 + 3 * szN k
def rdN : Nat → Int
 | 0 => 2
 | k + 1 => 2 + 3 * rdN k
theorem Hg : ∀ k, 1 ≤ szN k
 | 0 => by simp [szN]
 | k + 1 => by simp only [szN]; omega
theorem A5 : ∀ k, 2 ≤ rdN k
 | 0 => by simp [rdN]
 | k + 1 => by have := A5 k; simp only [rdN]; omega
theorem DU {n : Nat} (hn : 1 ≤ n) (k : Int) (l : List T) (hl : l.length ≤ 1099511627776) : Tot (FF n 81 [nt k, tms l] []) (fun r => r = ([tm (.mk k 0 l)], [])) := ⟨_, bE hn k l hl, rfl⟩
end Go.Proofs.YtajlknlnmmbfcaaGreat
end
section
namespace Go.Proofs.YtajlknlnmmbfcaaGreat
open Go Go.Ab Go.Dk
theorem Ff : ah (.mk 6 0 []) = true := by decide +kernel
end Go.Proofs.YtajlknlnmmbfcaaGreat
end
section
namespace Go.Proofs.YtajlknlnmmbfcaaGreat
open Go Go.Ab Go.Dk
def bt (s : ByteArray) (a : Nat) : Nat := (aQ s a).toNat
def dg (s : ByteArray) (a : Nat) : Bool := decide (a < s.size) && (decide (48 ≤ bt s a) && decide (bt s a ≤ 57))
theorem EV {s : ByteArray} {a : Nat} : dg s a = true ↔ a < s.size ∧ 48 ≤ bt s a ∧ bt s a ≤ 57 := by
 simp only [dg, Bool.and_eq_true, decide_eq_true_eq]
theorem Gj (s : ByteArray) (a : Nat) (h : a < s.size) : aQ (s.extract a (a + 1)) 0 = aQ s a := by
 have h' : a < s.data.toList.length := by simpa using h
 have h'' : a < s.data.size := by simpa using h
 unfold aQ
 simp [List.getElem?_drop, h'']
theorem ED (v : Int) (h : 48 ≤ v ∧ v ≤ 57) : IntKind.i64.wrap (IntKind.i64.wrap (0 * 10) + IntKind.i64.wrap (IntKind.u8.wrap (v - 48))) = v - 48 := by
 have e : IntKind.u8.wrap (v - 48) = v - 48 := by rw [IntKind.wrap]; simp [IntKind.signed, IntKind.bits]; omega
 rw [e, wrap64 (show -9223372036854775808 ≤ (0 : Int) * 10 ∧ (0 : Int) * 10 ≤ 9223372036854775807 by omega), wrap64 (show -9223372036854775808 ≤ v - 48 ∧ v - 48 ≤ 9223372036854775807 by omega), wrap64 (by omega)]
 omega
theorem Ka {n : Nat} {s : ByteArray} (hn : 5 ≤ n) (hs : s.size = 1) (h : 48 ≤ bt s 0 ∧ bt s 0 ≤ 57) : Tot (FF n 180 [st s] []) (fun r => r = ([nt ((bt s 0 - 48 : Nat) : Int), bl true], [])) := by
 refine bf (C := 4) hn fun n hn _ => ?_
 unfold bt at h ⊢
 have lp : Tot (bA n n s false 0 0) (fun r => r = ([nt (((aQ s 0).toNat - 48 : Nat) : Int), bl true], [])) := by
  obtain ⟨m, rfl⟩ : ∃ m, n = m + 2 := ⟨n - 2, by omega⟩
  rw [gx, Int.toNat_zero, ED _ (by omega), gx]
  have e : ((aQ s 0).toNat : Int) - 48 = (((aQ s 0).toNat - 48 : Nat) : Int) := by omega
  rw [e]
  repeat' (first | (simp (disch := omega) only [wrap64]; done) | (simp (disch := omega) only [wrap64]) | (with_reducible refine al (fun hq => ?_) (fun hq => ?_) <;> (try simp (disch := omega) only [wrap64] at hq) <;> (try simp only [decide_eq_true_eq, decide_eq_false_iff_not, Bool.not_eq_true', Bool.not_eq_false', Bool.and_eq_true, Bool.and_eq_false_iff, inB, Bool.not_true, Bool.not_false] at hq) <;> try (exfalso; omega; done)) | ((exact absurd hq Bool.false_ne_true)) | ((with_reducible refine aq ?_); (exact rfl)))
 have e45 : decide (((aQ s 0).toNat : Int) = 45) = false := decide_eq_false (by omega)
 rw [r7]
 simp only [Int.toNat_zero]
 repeat' (first | (simp (disch := omega) only [wrap64]; done) | (simp (disch := omega) only [wrap64]) | (with_reducible refine al (fun hq => ?_) (fun hq => ?_) <;> (try simp (disch := omega) only [wrap64] at hq) <;> (try simp only [decide_eq_true_eq, decide_eq_false_iff_not, Bool.not_eq_true', Bool.not_eq_false', Bool.and_eq_true, Bool.and_eq_false_iff, inB, Bool.not_true, Bool.not_false] at hq) <;> try (exfalso; omega; done)) | ((rw [e45]; exact lp)) | (with_reducible exact lp))
theorem wK {n : Nat} {s : ByteArray} {a : Nat} {z k : Int} (hn : 10 ≤ n) (hs : s.size ≤ 1000) (hz : z = a) (h : dg s a = true) (hk : k = 1 ∨ (k = 2 ∧ dg s (a + 1) = false)) :
   Tot (FF n 173 [st s, nt z, nt k] []) (fun r => r = ([nt ((bt s a - 48 : Nat) : Int), nt ((a + 1 : Nat) : Int)], [])) := by
 subst hz
 obtain ⟨h1, h2, h3⟩ := EV.1 h
 refine bf (C := 9) hn fun n hn _ => ?_
 rw [nX]
 have ex : (s.extract a (a + 1)).size = 1 := by rw [ByteArray.size_extract]; omega
 have eb : bt (s.extract a (a + 1)) 0 = bt s a := by unfold bt; rw [Gj s a h1]
 have dd : Tot (FF n 180 [st (s.extract a (a + 1))] []) (fun r => r = ([nt ((bt s a - 48 : Nat) : Int), bl true], [])) := by
  rw [← eb]; exact Ka (by omega) ex (by rw [eb]; exact ⟨h2, h3⟩)
 unfold bt at h2 h3
 have nx : ∀ m, Tot (c0 n (m + 1) s a k ((a + 1 : Nat) : Int)) (fun r => r = ([nt ((bt s a - 48 : Nat) : Int), nt ((a + 1 : Nat) : Int)], [])) := by
  intro m
  have h4 : k = 1 ∨ (k = 2 ∧ (s.size ≤ a + 1 ∨ (aQ s (a + 1)).toNat < 48 ∨ 57 < (aQ s (a + 1)).toNat)) := by
   rcases hk with h | ⟨h, h'⟩
   ·exact .inl h
   ·refine .inr ⟨h, Classical.byContradiction fun hh => ?_⟩
    rw [EV.2 (by unfold bt; omega)] at h'; cases h'
  rw [fk]
  simp only [Int.toNat_natCast]
  repeat' (first | (simp (disch := omega) only [wrap64]; done) | (simp (disch := omega) only [wrap64]) | (with_reducible refine al (fun hq => ?_) (fun hq => ?_) <;> (try simp (disch := omega) only [wrap64] at hq) <;> (try simp only [decide_eq_true_eq, decide_eq_false_iff_not, Bool.not_eq_true', Bool.not_eq_false', Bool.and_eq_true, Bool.and_eq_false_iff, inB, Bool.not_true, Bool.not_false] at hq) <;> try (exfalso; omega; done)) | (with_reducible refine ak (dd) ?_; rintro _ rfl; simp only [evt]) | ((with_reducible refine aq ?_); (exact rfl)))
 obtain ⟨m, rfl⟩ : ∃ m, n = m + 2 := ⟨n - 2, by omega⟩
 have w : IntKind.i64.wrap ((a : Int) + 1) = ((a + 1 : Nat) : Int) := wrap64 (by omega)
 rw [fk, w]
 simp only [Int.toNat_natCast]
 repeat' (first | (simp (disch := omega) only [wrap64]; done) | (simp (disch := omega) only [wrap64]) | (with_reducible refine al (fun hq => ?_) (fun hq => ?_) <;> (try simp (disch := omega) only [wrap64] at hq) <;> (try simp only [decide_eq_true_eq, decide_eq_false_iff_not, Bool.not_eq_true', Bool.not_eq_false', Bool.and_eq_true, Bool.and_eq_false_iff, inB, Bool.not_true, Bool.not_false] at hq) <;> try (exfalso; omega; done)) | (with_reducible exact nx _))
abbrev IsX (t : T) (e : Nat) (r : List V1 × List au) : Prop := ∃ z : Int, r = ([tm t, nt z], []) ∧ z = e
def JE (s : ByteArray) (a : Nat) : Option (Nat × Nat) := if dg s a = true ∧ dg s (a + 1) = false then some (bt s a - 48, a + 1) else none
def ser (p : Nat → Option (T × Nat)) (s : ByteArray) (last : Nat) : Nat → Nat → Option (List T × Nat)
 | 0, a => some ([], a)
 | n + 1, a => (p a).bind fun x => if x.2 < s.size ∧ bt s x.2 = (if n = 0 then last else 44) then (ser p s last n (x.2 + 1)).bind fun y => some (x.1 :: y.1, y.2) else none
def one (p : Nat → Option (T × Nat)) (k : Int) (a : Nat) : Option (T × Nat) := (p a).bind fun x => some (.mk k 0 [x.1], x.2)
def blk (p : Nat → Option (T × Nat)) (s : ByteArray) (k : Int) (m last a : Nat) : Option (T × Nat) := (ser p s last m a).bind fun x => some (.mk k 0 x.1, x.2)
def rnd (p : Nat → Option (T × Nat)) (s : ByteArray) (a : Nat) : Option (T × Nat) := (p a).bind fun x => if x.2 < s.size ∧ (bt s x.2 = 62 ∨ bt s x.2 = 42 ∨ bt s x.2 = 32) then
   (p (x.2 + 1)).bind fun y => if y.2 < s.size ∧ bt s y.2 = 41 then some (.mk (if bt s x.2 = 62 then 3 else if bt s x.2 = 42 then 13 else 5) 0 [x.1, y.1], y.2 + 1) else none
 else none
def KD (p : Nat → Option (T × Nat)) (s : ByteArray) (a : Nat) : Option (T × Nat) := (p a).bind fun x => if x.2 < s.size ∧ bt s x.2 = 93 then (p (x.2 + 1)).bind fun y => some (.mk 4 0 [x.1, y.1], y.2) else none
def pb (p : Nat → Option (T × Nat)) (s : ByteArray) (a : Nat) : Option (T × Nat) :=
 if bt s a = 35 then (JE s (a + 1)).bind fun x => some (.mk 1 x.1 [], x.2)
 else if bt s a = 42 then (JE s (a + 1)).bind fun x => some (.mk 2 x.1 [], x.2)
 else if bt s a = 78 then some (.mk 6 0 [], a + 1)
 else if bt s a = 48 then some (.mk 7 0 [], a + 1)
 else if bt s a = 43 then one p 8 (a + 1)
 else if bt s a = 33 then one p 11 (a + 1)
 else if bt s a = 94 then one p 15 (a + 1)
 else if bt s a = 95 then one p 16 (a + 1)
 else if bt s a = 40 then rnd p s (a + 1)
 else if bt s a = 91 then KD p s (a + 1)
 else if bt s a = 60 then blk p s 9 4 62 (a + 1)
 else if bt s a = 123 then blk p s 10 3 125 (a + 1)
 else if bt s a = 124 then blk p s 14 3 124 (a + 1)
 else if bt s a = 64 ∧ a + 2 ≤ s.size ∧ bt s (a + 1) = 60 then blk p s 12 3 62 (a + 2)
 else none
def pa (s : ByteArray) : Nat → Nat → Option (T × Nat)
 | 0, _ => none
 | d + 1, a => if a < s.size then (pb (pa s d) s a).bind fun x => if x.2 ≤ s.size then some x else none else none
section
variable {s : ByteArray} (hs : s.size ≤ 1000) {d N : Nat} (hd : d ≤ 30) {p : Nat → Option (T × Nat)}
 (ih : ∀ n, N ≤ n → ∀ (z : Int) (a : Nat) (t : T) (e : Nat), z = a → p a = some (t, e) → e ≤ s.size ∧ Tot (FF n 154 [st s, nt z, nt (d : Int)] []) (IsX t e))
include hs hd ih
theorem mW {n a e : Nat} {t : T} {k : Int} (hn : N + 2 ≤ n) (ha : a < s.size) (hk : (bt s a = 43 ∧ k = 8) ∨ (bt s a = 33 ∧ k = 11) ∨ (bt s a = 94 ∧ k = 15) ∨ (bt s a = 95 ∧ k = 16)) (h : one p k (a + 1) = some (t, e)) : Tot (FF n 174 [st s, nt (a : Int), nt ((d : Int) + 1)] []) (IsX t e) := by
 have hs' := hs
 obtain ⟨⟨u, e'⟩, h1, h2⟩ := Option.bind_eq_some_iff.1 h
 cases h2
 refine bf (C := N + 1) hn fun n hn _ => ?_
 unfold bt at hk
 have w : IntKind.i64.wrap ((d : Int) + 1 - 1) = (d : Int) := by rw [wrap64 (by omega)]; omega
 have i1 := (ih n (by omega) ((a : Int) + 1) (a + 1) u e' (by omega) h1).2
 rw [oh, w]
 simp only [Int.toNat_natCast]
 rcases hk with ⟨hk, rfl⟩ | ⟨hk, rfl⟩ | ⟨hk, rfl⟩ | ⟨hk, rfl⟩
 all_goals repeat' (first | (simp (disch := omega) only [wrap64]; done) | (simp (disch := omega) only [wrap64]) | (with_reducible refine al (fun hq => ?_) (fun hq => ?_) <;> (try simp (disch := omega) only [wrap64] at hq) <;> (try simp only [decide_eq_true_eq, decide_eq_false_iff_not, Bool.not_eq_true', Bool.not_eq_false', Bool.and_eq_true, Bool.and_eq_false_iff, inB, Bool.not_true, Bool.not_false] at hq) <;> try (exfalso; omega; done)) | (with_reducible refine ak (i1) ?_; rintro _ ⟨z, rfl, hz⟩; simp only [evt]) | (with_reducible refine ak (nk (by omega) _ _ (by simp)) ?_; rintro _ rfl; simp only [evt]) | ((with_reducible refine aq ?_); (exact ⟨_, rfl, hz⟩)))
theorem F2 {n a e : Nat} {t : T} (hn : N + 2 ≤ n) {z : Int} (hz : z = a) (h : rnd p s a = some (t, e)) : Tot (FF n 175 [st s, nt z, nt (d : Int)] []) (IsX t e) := by
 subst hz
 have hs' := hs
 have hd' := hd
 obtain ⟨⟨u, e1⟩, h1, h2⟩ := Option.bind_eq_some_iff.1 h
 simp only at h2
 split at h2
 ·rename_i hc
  obtain ⟨⟨v, e2⟩, h3, h4⟩ := Option.bind_eq_some_iff.1 h2
  simp only at h4
  split at h4
  ·rename_i hc2
   cases h4
   refine bf (C := N + 1) hn fun n hn _ => ?_
   unfold bt at hc hc2 ⊢
   have i1 := (ih n (by omega) (a : Int) a u e1 rfl h1).2
   have i2 := (ih n (by omega) ((e1 : Int) + 1) (e1 + 1) v e2 (by omega) h3).2
   rw [po]
   refine ak i1 ?_
   rintro _ ⟨_, rfl, rfl⟩
   simp only [evt, Int.toNat_natCast]
   rcases hc with ⟨hc, hb | hb | hb⟩
   ·rw [if_pos hb]
    repeat' (first | (simp (disch := omega) only [wrap64]; done) | (simp (disch := omega) only [wrap64]) | (with_reducible refine al (fun hq => ?_) (fun hq => ?_) <;> (try simp (disch := omega) only [wrap64] at hq) <;> (try simp only [decide_eq_true_eq, decide_eq_false_iff_not, Bool.not_eq_true', Bool.not_eq_false', Bool.and_eq_true, Bool.and_eq_false_iff, inB, Bool.not_true, Bool.not_false] at hq) <;> try (exfalso; omega; done)) | (with_reducible refine ak (i2) ?_; rintro _ ⟨_, rfl, rfl⟩; simp only [evt]) | ((exfalso; simp only [Int.toNat_natCast] at hq; omega)) | ((simp only [Int.toNat_natCast])) | (with_reducible refine ak (nk (by omega) _ _ (by simp)) ?_; rintro _ rfl; simp only [evt]) | ((with_reducible refine aq ?_); (exact ⟨_, rfl, by omega⟩)))
   ·rw [if_neg (by omega), if_pos hb]
    repeat' (first | (simp (disch := omega) only [wrap64]; done) | (simp (disch := omega) only [wrap64]) | (with_reducible refine al (fun hq => ?_) (fun hq => ?_) <;> (try simp (disch := omega) only [wrap64] at hq) <;> (try simp only [decide_eq_true_eq, decide_eq_false_iff_not, Bool.not_eq_true', Bool.not_eq_false', Bool.and_eq_true, Bool.and_eq_false_iff, inB, Bool.not_true, Bool.not_false] at hq) <;> try (exfalso; omega; done)) | (with_reducible refine ak (i2) ?_; rintro _ ⟨_, rfl, rfl⟩; simp only [evt]) | ((exfalso; simp only [Int.toNat_natCast] at hq; omega)) | ((simp only [Int.toNat_natCast])) | (with_reducible refine ak (nk (by omega) _ _ (by simp)) ?_; rintro _ rfl; simp only [evt]) | ((with_reducible refine aq ?_); (exact ⟨_, rfl, by omega⟩)))
   ·rw [if_neg (by omega), if_neg (by omega)]
    repeat' (first | (simp (disch := omega) only [wrap64]; done) | (simp (disch := omega) only [wrap64]) | (with_reducible refine al (fun hq => ?_) (fun hq => ?_) <;> (try simp (disch := omega) only [wrap64] at hq) <;> (try simp only [decide_eq_true_eq, decide_eq_false_iff_not, Bool.not_eq_true', Bool.not_eq_false', Bool.and_eq_true, Bool.and_eq_false_iff, inB, Bool.not_true, Bool.not_false] at hq) <;> try (exfalso; omega; done)) | (with_reducible refine ak (i2) ?_; rintro _ ⟨_, rfl, rfl⟩; simp only [evt]) | ((exfalso; simp only [Int.toNat_natCast] at hq; omega)) | ((simp only [Int.toNat_natCast])) | (with_reducible refine ak (nk (by omega) _ _ (by simp)) ?_; rintro _ rfl; simp only [evt]) | ((with_reducible refine aq ?_); (exact ⟨_, rfl, by omega⟩)))
  ·cases h4
 ·cases h2
theorem Fa (n : Nat) (hn : N + 1 ≤ n) (last : Nat) (many : Nat) (hmany : many ≤ 4) : ∀ g m (i a : Nat) (z : Int) (acc l : List T) (e : Nat), g < m → i + g = many → z = a → ser p s last g a = some (l, e) → acc.length = i →
   Tot (bG n m s z d many last i acc) (fun r => ∃ z : Int, r = ([tms (acc ++ l), nt z], []) ∧ z = e)
 | g, 0, i, a, z, acc, l, e, hg, _, _, _, _ => by
  have hs' := hs
  have hd' := hd
  omega
 | 0, m + 1, i, a, z, acc, l, e, _, hi, hz, h, hl => by
  cases h
  rw [fo, decide_eq_false (show ¬ (i : Int) < many by omega), List.append_nil]
  exact aq ⟨_, rfl, hz⟩
 | g + 1, m + 1, i, a, z, acc, l, e, hg, hi, hz, h, hl => by
  have w : IntKind.i64.wrap ((i : Int) + 1) = ((i + 1 : Nat) : Int) := wrap64 (by omega)
  obtain ⟨⟨u, e1⟩, h1, h2⟩ := Option.bind_eq_some_iff.1 h
  simp only at h2
  by_cases hc : e1 < s.size ∧ bt s e1 = (if g = 0 then last else 44)
  ·rw [if_pos hc] at h2
   obtain ⟨⟨v, e2⟩, h3, h4⟩ := Option.bind_eq_some_iff.1 h2
   cases h4
   rw [fo, w]
   rw [decide_eq_true (show (i : Int) < many by omega), cond_true]
   refine ak (ih n (by omega) z a u e1 hz h1).2 ?_
   rintro _ ⟨_, rfl, rfl⟩
   simp only [evt, List.length_append, List.length_cons, List.length_nil, hl, Int.toNat_natCast]
   have hroom : cr (i + (0 + 1)) = true := aU (by omega)
   rw [hroom]
   simp only [cond_true]
   have nx := Fa n hn last many hmany g m (i + 1) (e1 + 1) ((e1 : Int) + 1) (acc ++ [u]) v e2 (by omega) (by omega) (by omega) h3 (by simp [hl])
   rw [List.append_assoc, List.singleton_append] at nx
   unfold bt at hc
   by_cases hg0 : g = 0
   ·rw [if_pos hg0] at hc
    repeat' (first | (simp (disch := omega) only [wrap64]; done) | (simp (disch := omega) only [wrap64]) | (with_reducible refine al (fun hq => ?_) (fun hq => ?_) <;> (try simp (disch := omega) only [wrap64] at hq) <;> (try simp only [decide_eq_true_eq, decide_eq_false_iff_not, Bool.not_eq_true', Bool.not_eq_false', Bool.and_eq_true, Bool.and_eq_false_iff, inB, Bool.not_true, Bool.not_false] at hq) <;> try (exfalso; omega; done)) | (with_reducible exact nx))
   ·rw [if_neg hg0] at hc
    repeat' (first | (simp (disch := omega) only [wrap64]; done) | (simp (disch := omega) only [wrap64]) | (with_reducible refine al (fun hq => ?_) (fun hq => ?_) <;> (try simp (disch := omega) only [wrap64] at hq) <;> (try simp only [decide_eq_true_eq, decide_eq_false_iff_not, Bool.not_eq_true', Bool.not_eq_false', Bool.and_eq_true, Bool.and_eq_false_iff, inB, Bool.not_true, Bool.not_false] at hq) <;> try (exfalso; omega; done)) | (with_reducible exact nx))
  ·rw [if_neg hc] at h2; cases h2
theorem mS {n : Nat} (hn : N + 7 ≤ n) {a e : Nat} {l : List T} {z : Int} (hz : z = a) (many : Nat) (hm : many ≤ 4) (last : Nat) (h : ser p s last many a = some (l, e)) : Tot (FF n 181 [st s, nt z, nt (d : Int), nt (many : Int), .one (.int .u8 (last : Int))] []) (fun r => ∃ z : Int, r = ([tms l, nt z], []) ∧ z = e) := by
 refine bf (C := N + 6) hn fun n hn _ => ?_
 rw [oW]
 exact Fa hs hd ih n (by omega) last many hm many n 0 a z [] l e (by omega) (by omega) hz h rfl
theorem GI {n : Nat} (hn : N + 8 ≤ n) {a e : Nat} {t : T} (ha : a < s.size) (h : (bt s a = 60 ∧ blk p s 9 4 62 (a + 1) = some (t, e)) ∨ (bt s a = 123 ∧ blk p s 10 3 125 (a + 1) = some (t, e)) ∨ (bt s a = 124 ∧ blk p s 14 3 124 (a + 1) = some (t, e)) ∨ (bt s a = 64 ∧ a + 2 ≤ s.size ∧ bt s (a + 1) = 60 ∧ blk p s 12 3 62 (a + 2) = some (t, e))) :
   Tot (FF n 176 [st s, nt (a : Int), nt ((d : Int) + 1)] []) (IsX t e) := by
 have hs' := hs
 refine bf (C := N + 7) hn fun n hn _ => ?_
 have w : IntKind.i64.wrap ((d : Int) + 1 - 1) = (d : Int) := by rw [wrap64 (by omega)]; omega
 have w1 : IntKind.i64.wrap ((a : Int) + 1) = ((a + 1 : Nat) : Int) := wrap64 (by omega)
 have w2 : IntKind.i64.wrap ((a : Int) + 2) = ((a + 2 : Nat) : Int) := wrap64 (by omega)
 have k9 : opsOf 9 = ((4 : Nat) : Int) := rfl
 have k10 : opsOf 10 = ((3 : Nat) : Int) := rfl
 have k14 : opsOf 14 = ((3 : Nat) : Int) := rfl
 have k12 : opsOf 12 = ((3 : Nat) : Int) := rfl
 rw [o7]
 simp only [w, w1, w2, Int.toNat_natCast]
 rcases h with ⟨hb, h⟩ | ⟨hb, h⟩ | ⟨hb, h⟩ | ⟨hb, hb2, hb3, h⟩ <;> obtain ⟨⟨l, e'⟩, h1, h2⟩ := Option.bind_eq_some_iff.1 h <;> cases h2 <;> unfold bt at hb
 ·have i1 := mS hs hd ih (n := n) (by omega) (z := ((a + 1 : Nat) : Int)) rfl 4 (by omega) 62 h1
  repeat' (first | (simp (disch := omega) only [wrap64]; done) | (simp (disch := omega) only [wrap64]) | (with_reducible refine al (fun hq => ?_) (fun hq => ?_) <;> (try simp (disch := omega) only [wrap64] at hq) <;> (try simp only [decide_eq_true_eq, decide_eq_false_iff_not, Bool.not_eq_true', Bool.not_eq_false', Bool.and_eq_true, Bool.and_eq_false_iff, inB, Bool.not_true, Bool.not_false] at hq) <;> try (exfalso; omega; done)) | (with_reducible refine ak (xX (by omega) _) ?_; rintro _ rfl; simp only [evt]) | ((simp only [k9])) | (with_reducible refine ak (i1) ?_; rintro _ ⟨_, rfl, rfl⟩; simp only [evt]) | ((with_reducible refine aq ?_); (exact ⟨_, rfl, rfl⟩)))
 ·have i1 := mS hs hd ih (n := n) (by omega) (z := ((a + 1 : Nat) : Int)) rfl 3 (by omega) 125 h1
  repeat' (first | (simp (disch := omega) only [wrap64]; done) | (simp (disch := omega) only [wrap64]) | (with_reducible refine al (fun hq => ?_) (fun hq => ?_) <;> (try simp (disch := omega) only [wrap64] at hq) <;> (try simp only [decide_eq_true_eq, decide_eq_false_iff_not, Bool.not_eq_true', Bool.not_eq_false', Bool.and_eq_true, Bool.and_eq_false_iff, inB, Bool.not_true, Bool.not_false] at hq) <;> try (exfalso; omega; done)) | (with_reducible refine ak (xX (by omega) _) ?_; rintro _ rfl; simp only [evt]) | ((simp only [k10])) | (with_reducible refine ak (i1) ?_; rintro _ ⟨_, rfl, rfl⟩; simp only [evt]) | ((with_reducible refine aq ?_); (exact ⟨_, rfl, rfl⟩)))
 ·have i1 := mS hs hd ih (n := n) (by omega) (z := ((a + 1 : Nat) : Int)) rfl 3 (by omega) 124 h1
  repeat' (first | (simp (disch := omega) only [wrap64]; done) | (simp (disch := omega) only [wrap64]) | (with_reducible refine al (fun hq => ?_) (fun hq => ?_) <;> (try simp (disch := omega) only [wrap64] at hq) <;> (try simp only [decide_eq_true_eq, decide_eq_false_iff_not, Bool.not_eq_true', Bool.not_eq_false', Bool.and_eq_true, Bool.and_eq_false_iff, inB, Bool.not_true, Bool.not_false] at hq) <;> try (exfalso; omega; done)) | (with_reducible refine ak (xX (by omega) _) ?_; rintro _ rfl; simp only [evt]) | ((simp only [k14])) | (with_reducible refine ak (i1) ?_; rintro _ ⟨_, rfl, rfl⟩; simp only [evt]) | ((with_reducible refine aq ?_); (exact ⟨_, rfl, rfl⟩)))
 ·have i1 := mS hs hd ih (n := n) (by omega) (z := ((a + 2 : Nat) : Int)) rfl 3 (by omega) 62 h1
  unfold bt at hb3
  repeat' (first | (simp (disch := omega) only [wrap64]; done) | (simp (disch := omega) only [wrap64]) | (with_reducible refine al (fun hq => ?_) (fun hq => ?_) <;> (try simp (disch := omega) only [wrap64] at hq) <;> (try simp only [decide_eq_true_eq, decide_eq_false_iff_not, Bool.not_eq_true', Bool.not_eq_false', Bool.and_eq_true, Bool.and_eq_false_iff, inB, Bool.not_true, Bool.not_false] at hq) <;> try (exfalso; omega; done)) | (with_reducible refine ak (xX (by omega) _) ?_; rintro _ rfl; simp only [evt]) | ((simp only [k12])) | (with_reducible refine ak (i1) ?_; rintro _ ⟨_, rfl, rfl⟩; simp only [evt]) | ((with_reducible refine aq ?_); (exact ⟨_, rfl, rfl⟩)))
end
theorem Kf {s : ByteArray} (hs : s.size ≤ 1000) : ∀ (d : Nat), d ≤ 30 → ∀ n, 20 + 12 * d ≤ n → ∀ (z : Int) (a : Nat) (t : T) (e : Nat), z = a → pa s d a = some (t, e) → e ≤ s.size ∧ Tot (FF n 154 [st s, nt z, nt (d : Int)] []) (IsX t e)
 | 0, hd, n, hn, z, a, t, e, hz, h => by cases h
 | d + 1, hd, n, hn, z, a, t, e, hz, h => by
  subst hz
  have ih := fun n hn => Kf hs d (by omega) n hn
  simp only [pa] at h
  split at h
  ·rename_i ha
   obtain ⟨⟨t', e'⟩, h, h2⟩ := Option.bind_eq_some_iff.1 h
   simp only at h2
   split at h2
   ·rename_i he
    cases h2
    refine ⟨he, ?_⟩
    refine bf (C := 19 + 12 * (d + 1)) (by omega) fun n hn _ => ?_
    rw [pf]
    have w : IntKind.i64.wrap (((d + 1 : Nat) : Int) - 1) = (d : Int) := by rw [wrap64 (by omega)]; omega
    have w2 : (((d + 1 : Nat) : Int)) = (d : Int) + 1 := rfl
    have w3 : IntKind.i64.wrap ((a : Int) + 1) = ((a + 1 : Nat) : Int) := wrap64 (by omega)
    rw [w, w2, w3]
    simp only [Int.toNat_natCast]
    unfold pb at h
    have nm : ∀ {v e k}, JE s (a + 1) = some (v, e) → (k = 1 ∨ k = 2) → Tot (FF n 173 [st s, nt ((a + 1 : Nat) : Int), nt k] []) (fun r => r = ([nt (v : Int), nt (e : Int)], [])) := by
     intro v e k h hk
     unfold JE at h
     split at h
     ·rename_i hh
      cases h
      exact wK (by omega) hs rfl hh.1 (by rcases hk with h | h; exact .inl h; exact .inr ⟨h, hh.2⟩)
     ·cases h
    by_cases c1 : bt s a = 35
    ·rw [if_pos c1] at h
     obtain ⟨⟨v, e'⟩, h1, h2⟩ := Option.bind_eq_some_iff.1 h
     cases h2
     unfold bt at c1
     repeat' (first | (simp (disch := omega) only [wrap64]; done) | (simp (disch := omega) only [wrap64]) | (with_reducible refine al (fun hq => ?_) (fun hq => ?_) <;> (try simp (disch := omega) only [wrap64] at hq) <;> (try simp only [decide_eq_true_eq, decide_eq_false_iff_not, Bool.not_eq_true', Bool.not_eq_false', Bool.and_eq_true, Bool.and_eq_false_iff, inB, Bool.not_true, Bool.not_false] at hq) <;> try (exfalso; omega; done)) | (with_reducible refine ak (nm h1 (.inr rfl)) ?_; rintro _ rfl; simp only [evt]) | (with_reducible refine ak (yw (by omega) _ _) ?_; rintro _ rfl; simp only [evt]) | ((with_reducible refine aq ?_); (exact ⟨_, rfl, rfl⟩)))
    rw [if_neg c1] at h
    by_cases c2 : bt s a = 42
    ·rw [if_pos c2] at h
     obtain ⟨⟨v, e'⟩, h1, h2⟩ := Option.bind_eq_some_iff.1 h
     cases h2
     unfold bt at c2
     repeat' (first | (simp (disch := omega) only [wrap64]; done) | (simp (disch := omega) only [wrap64]) | (with_reducible refine al (fun hq => ?_) (fun hq => ?_) <;> (try simp (disch := omega) only [wrap64] at hq) <;> (try simp only [decide_eq_true_eq, decide_eq_false_iff_not, Bool.not_eq_true', Bool.not_eq_false', Bool.and_eq_true, Bool.and_eq_false_iff, inB, Bool.not_true, Bool.not_false] at hq) <;> try (exfalso; omega; done)) | (with_reducible refine ak (nm h1 (.inl rfl)) ?_; rintro _ rfl; simp only [evt]) | (with_reducible refine ak (yw (by omega) _ _) ?_; rintro _ rfl; simp only [evt]) | ((with_reducible refine aq ?_); (exact ⟨_, rfl, rfl⟩)))
    rw [if_neg c2] at h
    by_cases c3 : bt s a = 78
    ·rw [if_pos c3] at h
     cases h
     unfold bt at c3
     repeat' (first | (simp (disch := omega) only [wrap64]; done) | (simp (disch := omega) only [wrap64]) | (with_reducible refine al (fun hq => ?_) (fun hq => ?_) <;> (try simp (disch := omega) only [wrap64] at hq) <;> (try simp only [decide_eq_true_eq, decide_eq_false_iff_not, Bool.not_eq_true', Bool.not_eq_false', Bool.and_eq_true, Bool.and_eq_false_iff, inB, Bool.not_true, Bool.not_false] at hq) <;> try (exfalso; omega; done)) | (with_reducible refine ak (yw (by omega) _ _) ?_; rintro _ rfl; simp only [evt]) | ((with_reducible refine aq ?_); (exact ⟨_, rfl, rfl⟩)))
    rw [if_neg c3] at h
    by_cases c4 : bt s a = 48
    ·rw [if_pos c4] at h
     cases h
     unfold bt at c4
     repeat' (first | (simp (disch := omega) only [wrap64]; done) | (simp (disch := omega) only [wrap64]) | (with_reducible refine al (fun hq => ?_) (fun hq => ?_) <;> (try simp (disch := omega) only [wrap64] at hq) <;> (try simp only [decide_eq_true_eq, decide_eq_false_iff_not, Bool.not_eq_true', Bool.not_eq_false', Bool.and_eq_true, Bool.and_eq_false_iff, inB, Bool.not_true, Bool.not_false] at hq) <;> try (exfalso; omega; done)) | (with_reducible refine ak (yw (by omega) _ _) ?_; rintro _ rfl; simp only [evt]) | ((with_reducible refine aq ?_); (exact ⟨_, rfl, rfl⟩)))
    rw [if_neg c4] at h
    by_cases c5 : bt s a = 43
    ·rw [if_pos c5] at h
     have i1 := mW hs (by omega) ih (n := n) (by omega) ha (.inl ⟨c5, rfl⟩) h
     unfold bt at c5
     repeat' (first | (simp (disch := omega) only [wrap64]; done) | (simp (disch := omega) only [wrap64]) | (with_reducible refine al (fun hq => ?_) (fun hq => ?_) <;> (try simp (disch := omega) only [wrap64] at hq) <;> (try simp only [decide_eq_true_eq, decide_eq_false_iff_not, Bool.not_eq_true', Bool.not_eq_false', Bool.and_eq_true, Bool.and_eq_false_iff, inB, Bool.not_true, Bool.not_false] at hq) <;> try (exfalso; omega; done)) | (with_reducible refine ak (i1) ?_; rintro _ ⟨_, rfl, rfl⟩; simp only [evt]) | ((with_reducible refine aq ?_); (exact ⟨_, rfl, rfl⟩)))
    rw [if_neg c5] at h
    by_cases c6 : bt s a = 33
    ·rw [if_pos c6] at h
     have i1 := mW hs (by omega) ih (n := n) (by omega) ha (.inr (.inl ⟨c6, rfl⟩)) h
     unfold bt at c6
     repeat' (first | (simp (disch := omega) only [wrap64]; done) | (simp (disch := omega) only [wrap64]) | (with_reducible refine al (fun hq => ?_) (fun hq => ?_) <;> (try simp (disch := omega) only [wrap64] at hq) <;> (try simp only [decide_eq_true_eq, decide_eq_false_iff_not, Bool.not_eq_true', Bool.not_eq_false', Bool.and_eq_true, Bool.and_eq_false_iff, inB, Bool.not_true, Bool.not_false] at hq) <;> try (exfalso; omega; done)) | (with_reducible refine ak (i1) ?_; rintro _ ⟨_, rfl, rfl⟩; simp only [evt]) | ((with_reducible refine aq ?_); (exact ⟨_, rfl, rfl⟩)))
    rw [if_neg c6] at h
    by_cases c7 : bt s a = 94
    ·rw [if_pos c7] at h
     have i1 := mW hs (by omega) ih (n := n) (by omega) ha (.inr (.inr (.inl ⟨c7, rfl⟩))) h
     unfold bt at c7
     repeat' (first | (simp (disch := omega) only [wrap64]; done) | (simp (disch := omega) only [wrap64]) | (with_reducible refine al (fun hq => ?_) (fun hq => ?_) <;> (try simp (disch := omega) only [wrap64] at hq) <;> (try simp only [decide_eq_true_eq, decide_eq_false_iff_not, Bool.not_eq_true', Bool.not_eq_false', Bool.and_eq_true, Bool.and_eq_false_iff, inB, Bool.not_true, Bool.not_false] at hq) <;> try (exfalso; omega; done)) | (with_reducible refine ak (i1) ?_; rintro _ ⟨_, rfl, rfl⟩; simp only [evt]) | ((with_reducible refine aq ?_); (exact ⟨_, rfl, rfl⟩)))
    rw [if_neg c7] at h
    by_cases c8 : bt s a = 95
    ·rw [if_pos c8] at h
     have i1 := mW hs (by omega) ih (n := n) (by omega) ha (.inr (.inr (.inr ⟨c8, rfl⟩))) h
     unfold bt at c8
     repeat' (first | (simp (disch := omega) only [wrap64]; done) | (simp (disch := omega) only [wrap64]) | (with_reducible refine al (fun hq => ?_) (fun hq => ?_) <;> (try simp (disch := omega) only [wrap64] at hq) <;> (try simp only [decide_eq_true_eq, decide_eq_false_iff_not, Bool.not_eq_true', Bool.not_eq_false', Bool.and_eq_true, Bool.and_eq_false_iff, inB, Bool.not_true, Bool.not_false] at hq) <;> try (exfalso; omega; done)) | (with_reducible refine ak (i1) ?_; rintro _ ⟨_, rfl, rfl⟩; simp only [evt]) | ((with_reducible refine aq ?_); (exact ⟨_, rfl, rfl⟩)))
    rw [if_neg c8] at h
    by_cases c9 : bt s a = 40
    ·rw [if_pos c9] at h
     have i1 := F2 hs (by omega) ih (n := n) (by omega) (z := ((a + 1 : Nat) : Int)) rfl h
     unfold bt at c9
     repeat' (first | (simp (disch := omega) only [wrap64]; done) | (simp (disch := omega) only [wrap64]) | (with_reducible refine al (fun hq => ?_) (fun hq => ?_) <;> (try simp (disch := omega) only [wrap64] at hq) <;> (try simp only [decide_eq_true_eq, decide_eq_false_iff_not, Bool.not_eq_true', Bool.not_eq_false', Bool.and_eq_true, Bool.and_eq_false_iff, inB, Bool.not_true, Bool.not_false] at hq) <;> try (exfalso; omega; done)) | (with_reducible refine ak (i1) ?_; rintro _ ⟨_, rfl, rfl⟩; simp only [evt]) | ((with_reducible refine aq ?_); (exact ⟨_, rfl, rfl⟩)))
    rw [if_neg c9] at h
    by_cases c10 : bt s a = 91
    ·rw [if_pos c10] at h
     obtain ⟨⟨u, e1⟩, h1, h2⟩ := Option.bind_eq_some_iff.1 h
     simp only at h2
     split at h2
     ·rename_i hc
      obtain ⟨⟨v, e2⟩, h3, h4⟩ := Option.bind_eq_some_iff.1 h2
      cases h4
      have i1 := (ih n (by omega) ((a + 1 : Nat) : Int) (a + 1) u e1 rfl h1).2
      have i2 := (ih n (by omega) ((e1 : Int) + 1) (e1 + 1) v e2 (by omega) h3).2
      unfold bt at c10 hc
      repeat' (first | (simp (disch := omega) only [wrap64]; done) | (simp (disch := omega) only [wrap64]) | (with_reducible refine al (fun hq => ?_) (fun hq => ?_) <;> (try simp (disch := omega) only [wrap64] at hq) <;> (try simp only [decide_eq_true_eq, decide_eq_false_iff_not, Bool.not_eq_true', Bool.not_eq_false', Bool.and_eq_true, Bool.and_eq_false_iff, inB, Bool.not_true, Bool.not_false] at hq) <;> try (exfalso; omega; done)) | (with_reducible refine ak (i1) ?_; rintro _ ⟨_, rfl, rfl⟩; simp only [evt]) | (with_reducible refine ak (i2) ?_; rintro _ ⟨_, rfl, rfl⟩; simp only [evt]) | ((exfalso; simp only [Int.toNat_natCast] at hq; omega)) | ((simp only [Int.toNat_natCast])) | (with_reducible refine ak (nk (by omega) _ _ (by simp)) ?_; rintro _ rfl; simp only [evt]) | ((with_reducible refine aq ?_); (exact ⟨_, rfl, rfl⟩)))
     ·cases h2
    rw [if_neg c10] at h
    have hb : Tot (FF n 176 [st s, nt (a : Int), nt ((d : Int) + 1)] []) (IsX t e) := by
     refine GI hs (by omega) ih (by omega) ha ?_
     split at h
     ·exact .inl ⟨‹_›, h⟩
     split at h
     ·exact .inr (.inl ⟨‹_›, h⟩)
     split at h
     ·exact .inr (.inr (.inl ⟨‹_›, h⟩))
     split at h
     ·rename_i hh; exact .inr (.inr (.inr ⟨hh.1, hh.2.1, hh.2.2, h⟩))
     ·cases h
    unfold bt at c1 c2 c3 c4 c5 c6 c7 c8 c9 c10
    repeat' (first | (simp (disch := omega) only [wrap64]; done) | (simp (disch := omega) only [wrap64]) | (with_reducible refine al (fun hq => ?_) (fun hq => ?_) <;> (try simp (disch := omega) only [wrap64] at hq) <;> (try simp only [decide_eq_true_eq, decide_eq_false_iff_not, Bool.not_eq_true', Bool.not_eq_false', Bool.and_eq_true, Bool.and_eq_false_iff, inB, Bool.not_true, Bool.not_false] at hq) <;> try (exfalso; omega; done)) | (with_reducible refine ak (hb) ?_; rintro _ ⟨_, rfl, rfl⟩; simp only [evt]) | ((with_reducible refine aq ?_); (exact ⟨_, rfl, rfl⟩)))
   ·cases h2
  ·cases h
theorem EK {n : Nat} {s : ByteArray} {t : T} (hn : 5 * s.size + 5000 ≤ n) (hs : s.size ≤ 1000) (hz : t.size ≤ 500) (h : pa s 30 0 = some (t, s.size)) : Tot (FF n 116 [st s] []) (fun r => ∃ u b, r = ([tm u, bl b], []) ∧ (b = true → u = t)) := by
 refine bf (C := 5 * s.size + 4999) hn fun n hn _ => ?_
 rw [iw]
 refine ak (Kf (s := s) (by omega) 30 (by omega) n (by omega) 0 0 t s.size (by omega) h).2 ?_
 rintro _ ⟨z, rfl, hz⟩
 simp only [evt]
 repeat' (first | (simp (disch := omega) only [wrap64]; done) | (simp (disch := omega) only [wrap64]) | (with_reducible refine al (fun hq => ?_) (fun hq => ?_) <;> (try simp (disch := omega) only [wrap64] at hq) <;> (try simp only [decide_eq_true_eq, decide_eq_false_iff_not, Bool.not_eq_true', Bool.not_eq_false', Bool.and_eq_true, Bool.and_eq_false_iff, inB, Bool.not_true, Bool.not_false] at hq) <;> try (exfalso; omega; done)) | (with_reducible refine ak (uj (by omega) (by omega)) ?_; rintro _ ⟨x, rfl, hx⟩; simp only [evt]) | ((with_reducible refine aq ?_); (exact ⟨t, true, rfl, fun h => rfl⟩)) | ((with_reducible refine aq ?_); (exact ⟨.mk 0 0 [], false, rfl, fun h => by cases h⟩)))
theorem yD {n : Nat} {s : ByteArray} {t : T} (hn : 5 * s.size + 5000 ≤ n) (hs : s.size ≤ 1000) (h0 : (s.toList == (bytesOf []).toList) = false) (hf : ∀ k, FF (k + 200) 155 [tm t] [] = some ([st s], [])) (h : pa s 30 0 = some (t, s.size)) : Tot (FF n 116 [st s] []) (fun r => r = ([tm t, bl true], [])) := by
 refine bf (C := 5 * s.size + 4999) hn fun n hn _ => ?_
 rw [iw]
 refine ak (Kf (s := s) (by omega) 30 (by omega) n (by omega) 0 0 t s.size (by omega) h).2 ?_
 rintro _ ⟨z, rfl, rfl⟩
 have e := hf (n - 200)
 rw [show n - 200 + 200 = n by omega] at e
 simp only [evt]
 rw [h0, e]
 simp only [evt, beq_self_eq_true]
 repeat' (first | (simp (disch := omega) only [wrap64]; done) | (simp (disch := omega) only [wrap64]) | (with_reducible refine al (fun hq => ?_) (fun hq => ?_) <;> (try simp (disch := omega) only [wrap64] at hq) <;> (try simp only [decide_eq_true_eq, decide_eq_false_iff_not, Bool.not_eq_true', Bool.not_eq_false', Bool.and_eq_true, Bool.and_eq_false_iff, inB, Bool.not_true, Bool.not_false] at hq) <;> try (exfalso; omega; done)) | ((with_reducible refine aq ?_); (exact rfl)))
end Go.Proofs.YtajlknlnmmbfcaaGreat
end
section
namespace Go.Proofs.YtajlknlnmmbfcaaGreat
namespace Tm
variable {O : Orc}
def lo : List Tm → Tm → Tm
 | [], t => t
 | A :: G, t => lo G (lam A t)
def cl : Nat → Tm → Prop
 | d, var n => n < d
 | d, sort _ => True
 | d, nat => True
 | d, zero => True
 | d, succ a => cl d a
 | d, refl a => cl d a
 | d, fst a => cl d a
 | d, snd a => cl d a
 | d, pi a b => cl d a ∧ cl (d + 1) b
 | d, sig a b => cl d a ∧ cl (d + 1) b
 | d, lam a b => cl d a ∧ cl (d + 1) b
 | d, app a b => cl d a ∧ cl d b
 | d, id a b c => cl d a ∧ cl d b ∧ cl d c
 | d, move a b c => cl d a ∧ cl d b ∧ cl d c
 | d, pair a b c => cl d a ∧ cl d b ∧ cl d c
 | d, elim a b c e => cl d a ∧ cl d b ∧ cl d c ∧ cl d e
theorem xK : ∀ {G : List Tm} {n : Nat} {A : Tm}, look G n = some A → n < G.length
 | [], n, A, h => by simp [look] at h
 | B :: G, 0, A, h => by simp
 | B :: G, n + 1, A, h => by
  have : ∃ C, look G n = some C := by
   unfold look at h
   cases e : look G n with
   | none => rw [e] at h; simp at h
   | some C => exact ⟨C, rfl⟩
  obtain ⟨C, e⟩ := this
  have := xK e
  simp only [List.length_cons]; omega
theorem Ty.cl {G : List Tm} {t A : Tm} (h : Ty G t A) : cl G.length t := by
 induction h with
 | var h => exact xK h
 | sort h => trivial
 | pi h k ih ik => exact ⟨ih, ik⟩
 | sig h k ih ik => exact ⟨ih, ik⟩
 | lam h k l ih ik il => exact ⟨ih, ik⟩
 | app h k ih ik => exact ⟨ih, ik⟩
 | nat => trivial
 | zero => trivial
 | succ h ih => exact ih
 | elim h k l m ih ik il im => exact ⟨ih, ik, il, im⟩
 | id h k l ih ik il => exact ⟨ih, ik, il⟩
 | refl h k ih ik => exact ih
 | move h k l m ih ik il im => exact ⟨ik, ih, il⟩
 | pair h r q k l ih iq ik il => exact ⟨ih, ik, il⟩
 | fst h ih => exact ih
 | snd h ih => exact ih
 | conv h c k ih ik => exact ih
end Tm
end Go.Proofs.YtajlknlnmmbfcaaGreat
end
section
namespace Go.Proofs.YtajlknlnmmbfcaaGreat
open Go Go.Dk
namespace Tm
def ht : Tm → Nat
 | succ a => ht a + 1
 | refl a => ht a + 1
 | fst a => ht a + 1
 | snd a => ht a + 1
 | pi a b => max (ht a) (ht b) + 1
 | sig a b => max (ht a) (ht b) + 1
 | lam a b => max (ht a) (ht b) + 1
 | app a b => max (ht a) (ht b) + 1
 | id a b c => max (ht a) (max (ht b) (ht c)) + 1
 | move a b c => max (ht a) (max (ht b) (ht c)) + 1
 | pair a b c => max (ht a) (max (ht b) (ht c)) + 1
 | elim a b c d => max (max (ht a) (ht b)) (max (ht c) (ht d)) + 1
 | _ => 1
theorem cM (t : Tm) : 1 ≤ ht t := by cases t <;> simp [ht]
theorem Iz (t : Tm) : ∀ ξ, ht (t.ren ξ) = ht t := by induction t <;> intro ξ <;> simp_all [ht, ren]
theorem tZ (t : Tm) : ht t.wk = ht t := Iz t _
theorem EU (t : Tm) : ∀ (σ : Nat → Tm) (k : Nat), (∀ n, ht (σ n) ≤ k) → ht (t.sub σ) + 1 ≤ ht t + k := by
 have hu : ∀ (σ : Nat → Tm) (k : Nat), (∀ n, ht (σ n) ≤ k) → ∀ n, ht (ups σ n) ≤ k := by
  intro σ k h n
  cases n with
  | zero => exact Nat.le_trans (cM (σ 0)) (h 0)
  | succ n => show ht ((σ n).wk) ≤ k; rw [tZ]; exact h n
 induction t with
 | var n => intro σ k h; have := h n; simp only [ht, Tm.sub]; omega
 | sort n => intro σ k h; have := Nat.le_trans (cM (σ 0)) (h 0); simp only [ht, Tm.sub]; omega
 | nat => intro σ k h; have := Nat.le_trans (cM (σ 0)) (h 0); simp only [ht, Tm.sub]; omega
 | zero => intro σ k h; have := Nat.le_trans (cM (σ 0)) (h 0); simp only [ht, Tm.sub]; omega
 | succ a ha => intro σ k h; have := ha σ k h; simp only [ht, Tm.sub]; omega
 | refl a ha => intro σ k h; have := ha σ k h; simp only [ht, Tm.sub]; omega
 | fst a ha => intro σ k h; have := ha σ k h; simp only [ht, Tm.sub]; omega
 | snd a ha => intro σ k h; have := ha σ k h; simp only [ht, Tm.sub]; omega
 | pi a b ha hb => intro σ k h; have := ha σ k h; have := hb _ k (hu σ k h); simp only [ht, Tm.sub]; omega
 | sig a b ha hb => intro σ k h; have := ha σ k h; have := hb _ k (hu σ k h); simp only [ht, Tm.sub]; omega
 | lam a b ha hb => intro σ k h; have := ha σ k h; have := hb _ k (hu σ k h); simp only [ht, Tm.sub]; omega
 | app a b ha hb => intro σ k h; have := ha σ k h; have := hb σ k h; simp only [ht, Tm.sub]; omega
 | id a b c ha hb hc => intro σ k h; have := ha σ k h; have := hb σ k h; have := hc σ k h; simp only [ht, Tm.sub]; omega
 | move a b c ha hb hc => intro σ k h; have := ha σ k h; have := hb σ k h; have := hc σ k h; simp only [ht, Tm.sub]; omega
 | pair a b c ha hb hc => intro σ k h; have := ha σ k h; have := hb σ k h; have := hc σ k h; simp only [ht, Tm.sub]; omega
 | elim a b c d ha hb hc hd => intro σ k h; have := ha σ k h; have := hb σ k h; have := hc σ k h; have := hd σ k h; simp only [ht, Tm.sub]; omega
theorem cV (b u : Tm) : ht (b.inst u) + 1 ≤ ht b + ht u := EU b _ _ fun n => by
 cases n with
 | zero => exact Nat.le_refl _
 | succ n => exact cM u
theorem sA (t : Tm) : ∀ ξ, (of (t.ren ξ)).size = (of t).size := by induction t <;> intro ξ <;> simp_all [of, ren, T.size, T.aE]
theorem Ju (t : Tm) : 3 * (of t).size + 1 ≤ 4 ^ ht t := by
 have up : ∀ {a b : Nat}, a ≤ b → 4 ^ a ≤ 4 ^ b := fun h => Nat.pow_le_pow_right (by omega) h
 have one : ∀ a : Nat, 1 ≤ 4 ^ a := fun a => Nat.one_le_pow _ _ (by omega)
 induction t with
 | var n => simp [of, T.size, T.aE, ht]
 | sort n => simp [of, T.size, T.aE, ht]
 | nat => simp [of, T.size, T.aE, ht]
 | zero => simp [of, T.size, T.aE, ht]
 | succ a ha => have := one (ht a); simp only [of, T.size, T.aE, ht, Nat.pow_succ]; omega
 | refl a ha => have := one (ht a); simp only [of, T.size, T.aE, ht, Nat.pow_succ]; omega
 | fst a ha => have := one (ht a); simp only [of, T.size, T.aE, ht, Nat.pow_succ]; omega
 | snd a ha => have := one (ht a); simp only [of, T.size, T.aE, ht, Nat.pow_succ]; omega
 | pi a b ha hb => have := @up (ht a) (max (ht a) (ht b)) (by omega); have := @up (ht b) (max (ht a) (ht b)) (by omega); have := one (max (ht a) (ht b)); simp only [of, T.size, T.aE, ht, Nat.pow_succ]; omega
 | sig a b ha hb => have := @up (ht a) (max (ht a) (ht b)) (by omega); have := @up (ht b) (max (ht a) (ht b)) (by omega); have := one (max (ht a) (ht b)); simp only [of, T.size, T.aE, ht, Nat.pow_succ]; omega
 | lam a b ha hb => have := @up (ht a) (max (ht a) (ht b)) (by omega); have := @up (ht b) (max (ht a) (ht b)) (by omega); have := one (max (ht a) (ht b)); simp only [of, T.size, T.aE, ht, Nat.pow_succ]; omega
 | app a b ha hb => have := @up (ht a) (max (ht a) (ht b)) (by omega); have := @up (ht b) (max (ht a) (ht b)) (by omega); have := one (max (ht a) (ht b)); simp only [of, T.size, T.aE, ht, Nat.pow_succ]; omega
 | id a b c ha hb hc => have := @up (ht a) (max (ht a) (max (ht b) (ht c))) (by omega); have := @up (ht b) (max (ht a) (max (ht b) (ht c))) (by omega); have := @up (ht c) (max (ht a) (max (ht b) (ht c))) (by omega); have := one (max (ht a) (max (ht b) (ht c))); simp only [of, T.size, T.aE, ht, Nat.pow_succ]; omega
 | move a b c ha hb hc => have := @up (ht a) (max (ht a) (max (ht b) (ht c))) (by omega); have := @up (ht b) (max (ht a) (max (ht b) (ht c))) (by omega); have := @up (ht c) (max (ht a) (max (ht b) (ht c))) (by omega); have := one (max (ht a) (max (ht b) (ht c))); simp only [of, T.size, T.aE, ht, Nat.pow_succ]; omega
 | pair a b c ha hb hc => have := @up (ht a) (max (ht a) (max (ht b) (ht c))) (by omega); have := @up (ht b) (max (ht a) (max (ht b) (ht c))) (by omega); have := @up (ht c) (max (ht a) (max (ht b) (ht c))) (by omega); have := one (max (ht a) (max (ht b) (ht c))); simp only [of, T.size, T.aE, ht, Nat.pow_succ]; omega
 | elim a b c d ha hb hc hd => have := @up (ht a) (max (max (ht a) (ht b)) (max (ht c) (ht d))) (by omega); have := @up (ht b) (max (max (ht a) (ht b)) (max (ht c) (ht d))) (by omega); have := @up (ht c) (max (max (ht a) (ht b)) (max (ht c) (ht d))) (by omega); have := @up (ht d) (max (max (ht a) (ht b)) (max (ht c) (ht d))) (by omega); have := one (max (max (ht a) (ht b)) (max (ht c) (ht d))); simp only [of, T.size, T.aE, ht, Nat.pow_succ]; omega
theorem sz4 {t : Tm} (h : ht t ≤ 4) : (of t).size ≤ 85 := by
 have h1 := Ju t
 have h2 : 4 ^ ht t ≤ 4 ^ 4 := Nat.pow_le_pow_right (by omega) h
 have e : (4 : Nat) ^ 4 = 256 := by decide
 omega
def srt : Tm → Prop
 | sort n => n ≤ 3
 | succ a => srt a
 | refl a => srt a
 | fst a => srt a
 | snd a => srt a
 | pi a b => srt a ∧ srt b
 | sig a b => srt a ∧ srt b
 | lam a b => srt a ∧ srt b
 | app a b => srt a ∧ srt b
 | id a b c => srt a ∧ srt b ∧ srt c
 | move a b c => srt a ∧ srt b ∧ srt c
 | pair a b c => srt a ∧ srt b ∧ srt c
 | elim a b c d => srt a ∧ srt b ∧ srt c ∧ srt d
 | _ => True
def lw : Tm → Prop
 | var n => n ≤ 3
 | sort n => n ≤ 3
 | succ a => lw a
 | refl a => lw a
 | fst a => lw a
 | snd a => lw a
 | pi a b => lw a ∧ lw b
 | sig a b => lw a ∧ lw b
 | lam a b => lw a ∧ lw b
 | app a b => lw a ∧ lw b
 | id a b c => lw a ∧ lw b ∧ lw c
 | move a b c => lw a ∧ lw b ∧ lw c
 | pair a b c => lw a ∧ lw b ∧ lw c
 | elim a b c d => lw a ∧ lw b ∧ lw c ∧ lw d
 | _ => True
theorem Fp {t : Tm} (h : lw t) : srt t := by
 induction t <;> simp_all [lw, srt]
theorem It {t : Tm} : ∀ {d}, lw t → 4 ≤ d → cl d t := by
 induction t with
 | var n => intro d h hd; exact Nat.lt_of_lt_of_le (show n < 4 from Nat.lt_succ_of_le h) hd
 | sort n => intros; trivial
 | nat => intros; trivial
 | zero => intros; trivial
 | succ a ha => exact fun h hd => ha h hd
 | refl a ha => exact fun h hd => ha h hd
 | fst a ha => exact fun h hd => ha h hd
 | snd a ha => exact fun h hd => ha h hd
 | pi a b ha hb => exact fun h hd => ⟨ha h.1 hd, hb h.2 (by omega)⟩
 | sig a b ha hb => exact fun h hd => ⟨ha h.1 hd, hb h.2 (by omega)⟩
 | lam a b ha hb => exact fun h hd => ⟨ha h.1 hd, hb h.2 (by omega)⟩
 | app a b ha hb => exact fun h hd => ⟨ha h.1 hd, hb h.2 hd⟩
 | id a b c ha hb hc => exact fun h hd => ⟨ha h.1 hd, hb h.2.1 hd, hc h.2.2 hd⟩
 | move a b c ha hb hc => exact fun h hd => ⟨ha h.1 hd, hb h.2.1 hd, hc h.2.2 hd⟩
 | pair a b c ha hb hc => exact fun h hd => ⟨ha h.1 hd, hb h.2.1 hd, hc h.2.2 hd⟩
 | elim a b c e ha hb hc he => exact fun h hd => ⟨ha h.1 hd, hb h.2.1 hd, hc h.2.2.1 hd, he h.2.2.2 hd⟩
theorem vr {t : Tm} : ∀ {d e : Nat} {ξ : Nat → Nat}, cl d t → (∀ n, n < d → ξ n < e) → cl e (t.ren ξ) := by
 have up : ∀ {d e : Nat} {ξ : Nat → Nat}, (∀ n, n < d → ξ n < e) → ∀ n, n < d + 1 → Tm.up ξ n < e + 1 := by
  intro d e ξ h n hn
  cases n with
  | zero => exact Nat.succ_pos _
  | succ n => exact Nat.succ_lt_succ (h n (by omega))
 induction t with
 | var n => exact fun h k => k n h
 | sort n => intros; trivial
 | nat => intros; trivial
 | zero => intros; trivial
 | succ a ha => exact fun h k => ha h k
 | refl a ha => exact fun h k => ha h k
 | fst a ha => exact fun h k => ha h k
 | snd a ha => exact fun h k => ha h k
 | pi a b ha hb => exact fun h k => ⟨ha h.1 k, hb h.2 (up k)⟩
 | sig a b ha hb => exact fun h k => ⟨ha h.1 k, hb h.2 (up k)⟩
 | lam a b ha hb => exact fun h k => ⟨ha h.1 k, hb h.2 (up k)⟩
 | app a b ha hb => exact fun h k => ⟨ha h.1 k, hb h.2 k⟩
 | id a b c ha hb hc => exact fun h k => ⟨ha h.1 k, hb h.2.1 k, hc h.2.2 k⟩
 | move a b c ha hb hc => exact fun h k => ⟨ha h.1 k, hb h.2.1 k, hc h.2.2 k⟩
 | pair a b c ha hb hc => exact fun h k => ⟨ha h.1 k, hb h.2.1 k, hc h.2.2 k⟩
 | elim a b c e ha hb hc he => exact fun h k => ⟨ha h.1 k, hb h.2.1 k, hc h.2.2.1 k, he h.2.2.2 k⟩
theorem rS {t : Tm} {d e : Nat} (h : cl d t) (k : d ≤ e) : cl e t := by
 have := vr (ξ := fun n => n) (e := e) h fun n hn => by omega
 rwa [me] at this
theorem sL {t : Tm} : ∀ {ξ : Nat → Nat}, srt t → srt (t.ren ξ) := by
 induction t <;> intro ξ h <;> simp_all [srt, ren]
theorem Ty.srt {G : List Tm} {t A : Tm} (h : Ty G t A) : srt t := by
 induction h with
 | var h => trivial
 | sort h => exact Nat.le_of_lt h
 | pi h k ih ik => exact ⟨ih, ik⟩
 | sig h k ih ik => exact ⟨ih, ik⟩
 | lam h k l ih ik il => exact ⟨ih, ik⟩
 | app h k ih ik => exact ⟨ih, ik⟩
 | nat => trivial
 | zero => trivial
 | succ h ih => exact ih
 | elim h k l m ih ik il im => exact ⟨ih, ik, il, im⟩
 | id h k l ih ik il => exact ⟨ih, ik, il⟩
 | refl h k ih ik => exact ih
 | move h k l m ih ik il im => exact ⟨ik, ih, il⟩
 | pair h r q k l ih iq ik il => exact ⟨ih, ik, il⟩
 | fst h ih => exact ih
 | snd h ih => exact ih
 | conv h c k ih ik => exact ih
theorem DH {t : Tm} : ∀ {d k : Nat}, cl d t → srt t → ht t ≤ k → d + ht t ≤ 21 → bu (of t) k = true := by
 have e1 : cd 1 = 20 := rfl
 have e2 : cd 2 = 3 := rfl
 induction t with
 | var n =>
  intro d k c s h hd
  have c : n < d := c
  simp only [ht] at h hd
  simp only [of, bu, bD, Bool.and_eq_true, decide_eq_true_eq, Bool.and_true, e1]
  exact ⟨by omega, rfl, by omega⟩
 | sort n =>
  intro d k c s h hd
  have s : n ≤ 3 := s
  simp only [ht] at h hd
  simp only [of, bu, bD, Bool.and_eq_true, decide_eq_true_eq, Bool.and_true, e2]
  exact ⟨by omega, rfl, by omega⟩
 | nat =>
  intro d k c s h hd
  simp only [ht] at h hd
  simp only [of, bu, bD, Bool.and_eq_true, decide_eq_true_eq, Bool.and_true]
  exact ⟨by omega, rfl, by decide⟩
 | zero =>
  intro d k c s h hd
  simp only [ht] at h hd
  simp only [of, bu, bD, Bool.and_eq_true, decide_eq_true_eq, Bool.and_true]
  exact ⟨by omega, rfl, by decide⟩
 | succ a ha =>
  intro d k c s h hd
  simp only [ht] at h hd
  simp only [of, bu, bD, Bool.and_eq_true, decide_eq_true_eq, Bool.and_true]
  exact ⟨by omega, rfl, by decide, ha c s (by omega) (by omega)⟩
 | refl a ha =>
  intro d k c s h hd
  simp only [ht] at h hd
  simp only [of, bu, bD, Bool.and_eq_true, decide_eq_true_eq, Bool.and_true]
  exact ⟨by omega, rfl, by decide, ha c s (by omega) (by omega)⟩
 | fst a ha =>
  intro d k c s h hd
  simp only [ht] at h hd
  simp only [of, bu, bD, Bool.and_eq_true, decide_eq_true_eq, Bool.and_true]
  exact ⟨by omega, rfl, by decide, ha c s (by omega) (by omega)⟩
 | snd a ha =>
  intro d k c s h hd
  simp only [ht] at h hd
  simp only [of, bu, bD, Bool.and_eq_true, decide_eq_true_eq, Bool.and_true]
  exact ⟨by omega, rfl, by decide, ha c s (by omega) (by omega)⟩
 | pi a b ha hb =>
  intro d k c s h hd
  simp only [ht] at h hd
  simp only [of, bu, bD, Bool.and_eq_true, decide_eq_true_eq, Bool.and_true]
  exact ⟨by omega, rfl, by decide, ha c.1 s.1 (by omega) (by omega), hb c.2 s.2 (by omega) (by omega)⟩
 | sig a b ha hb =>
  intro d k c s h hd
  simp only [ht] at h hd
  simp only [of, bu, bD, Bool.and_eq_true, decide_eq_true_eq, Bool.and_true]
  exact ⟨by omega, rfl, by decide, ha c.1 s.1 (by omega) (by omega), hb c.2 s.2 (by omega) (by omega)⟩
 | lam a b ha hb =>
  intro d k c s h hd
  simp only [ht] at h hd
  simp only [of, bu, bD, Bool.and_eq_true, decide_eq_true_eq, Bool.and_true]
  exact ⟨by omega, rfl, by decide, ha c.1 s.1 (by omega) (by omega), hb c.2 s.2 (by omega) (by omega)⟩
 | app a b ha hb =>
  intro d k c s h hd
  simp only [ht] at h hd
  simp only [of, bu, bD, Bool.and_eq_true, decide_eq_true_eq, Bool.and_true]
  exact ⟨by omega, rfl, by decide, ha c.1 s.1 (by omega) (by omega), hb c.2 s.2 (by omega) (by omega)⟩
 | id a b e ha hb he =>
  intro d k c s h hd
  simp only [ht] at h hd
  simp only [of, bu, bD, Bool.and_eq_true, decide_eq_true_eq, Bool.and_true]
  exact ⟨by omega, rfl, by decide, ha c.1 s.1 (by omega) (by omega), hb c.2.1 s.2.1 (by omega) (by omega), he c.2.2 s.2.2 (by omega) (by omega)⟩
 | move a b e ha hb he =>
  intro d k c s h hd
  simp only [ht] at h hd
  simp only [of, bu, bD, Bool.and_eq_true, decide_eq_true_eq, Bool.and_true]
  exact ⟨by omega, rfl, by decide, ha c.1 s.1 (by omega) (by omega), hb c.2.1 s.2.1 (by omega) (by omega), he c.2.2 s.2.2 (by omega) (by omega)⟩
 | pair a b e ha hb he =>
  intro d k c s h hd
  simp only [ht] at h hd
  simp only [of, bu, bD, Bool.and_eq_true, decide_eq_true_eq, Bool.and_true]
  exact ⟨by omega, rfl, by decide, ha c.1 s.1 (by omega) (by omega), hb c.2.1 s.2.1 (by omega) (by omega), he c.2.2 s.2.2 (by omega) (by omega)⟩
 | elim a b e f ha hb he hf =>
  intro d k c s h hd
  simp only [ht] at h hd
  simp only [of, bu, bD, Bool.and_eq_true, decide_eq_true_eq, Bool.and_true]
  exact ⟨by omega, rfl, by decide, ha c.1 s.1 (by omega) (by omega), hb c.2.1 s.2.1 (by omega) (by omega), he c.2.2.1 s.2.2.1 (by omega) (by omega), hf c.2.2.2 s.2.2.2 (by omega) (by omega)⟩
theorem DT {t : Tm} {d : Nat} (c : cl d t) (s : srt t) (h : ht t ≤ 9) (hd : d ≤ 12) (z : (of t).size ≤ 400) : vdM t = true := eK.2 ⟨DH c s (by omega) (by omega), z⟩
theorem F5 {t : Tm} {d : Nat} (c : cl d t) (s : srt t) (h : ht t ≤ 4) (hd : d ≤ 12) : vdM t = true := DT c s (by omega) hd (by have := sz4 h; omega)
theorem BN {p : Tm} (h : ht p ≤ 4) (l : lw p) : vdM (aW p) = true := by
 have h1 := sz4 h
 have c1 : cl 4 p := It l (by omega)
 have c2 : cl 5 p.wk := vr c1 fun n hn => by omega
 have c3 : cl 6 p.wk.wk := vr c2 fun n hn => by omega
 have s1 := Fp l
 have s2 : Tm.srt p.wk := sL s1
 have s3 : Tm.srt p.wk.wk := sL s2
 refine DT (d := 4) ⟨trivial, ⟨c2, show 0 < 5 by omega⟩, c3, show 1 < 6 by omega⟩ ⟨trivial, ⟨s2, trivial⟩, s3, trivial⟩ ?_ (by omega) ?_
 ·simp only [aW, ht, tZ]; omega
 ·simp only [aW, of, T.size, T.aE, wk, sA]; omega
theorem mh {t : Tm} (h : ht t ≤ 1) : (∃ n, t = var n) ∨ (∃ n, t = sort n) ∨ t = nat ∨ t = zero := by
 cases t <;> first | simp; done | (exfalso; simp only [ht] at h; have := cM ‹Tm›; omega)
theorem Hd.leaf {t u : Tm} (h : Hd t u) (k : ht t ≤ 1) : False := by
 rcases mh k with ⟨n, rfl⟩ | ⟨n, rfl⟩ | rfl | rfl <;> cases h
theorem hd2 {t u : Tm} (h : Hd t u) (k : ht t ≤ 2) : ht u ≤ 1 := by
 cases h with
 | @beta a b v => have := cM a; simp only [ht] at k; omega
 | @ezero p z s => simp only [ht] at k; omega
 | @esucc p z s n => have := cM n; simp only [ht] at k; omega
 | @mrefl p a x => have := cM a; simp only [ht] at k; omega
 | @fpair t a b => have := cM t; simp only [ht] at k; omega
 | @spair t a b => have := cM t; simp only [ht] at k; omega
 | @app f f' v h => exact (h.leaf (by simp only [ht] at k; omega)).elim
 | @elim p z s n n' h => exact (h.leaf (by simp only [ht] at k; omega)).elim
 | @move p e e' x h => exact (h.leaf (by simp only [ht] at k; omega)).elim
 | @fst q q' h => exact (h.leaf (by simp only [ht] at k; omega)).elim
 | @snd q q' h => exact (h.leaf (by simp only [ht] at k; omega)).elim
def EX (X : Tm) : Prop := ht X ≤ 1 ∨ ∃ s m, X = app s m ∧ ht s ≤ 2 ∧ ht m ≤ 1
def D3 (t : Tm) : Prop := ht t ≤ 3 ∨ ∃ X Y, t = app X Y ∧ EX X
theorem hdE {X X' : Tm} (h : Hd X X') (k : EX X) : EX X' := by
 rcases k with k | ⟨s, m, rfl, hs, hm⟩
 ·exact (h.leaf k).elim
 ·cases h with
  | @beta a b _ => left; have := cV b m; simp only [ht] at hs; omega
  | @app _ s' _ h => exact .inr ⟨s', m, rfl, by have := hd2 h hs; omega, hm⟩
theorem hd3 {t u : Tm} (h : Hd t u) (k : ht t ≤ 3) : D3 u := by
 cases h with
 | @beta a b v => left; have := cV b v; have := cM a; simp only [ht] at k; omega
 | @ezero p z s => left; simp only [ht] at k; omega
 | @esucc p z s n => exact .inr ⟨.app s n, _, rfl, .inr ⟨s, n, rfl, by simp only [ht] at k; omega, by simp only [ht] at k; omega⟩⟩
 | @mrefl p a x => left; simp only [ht] at k; omega
 | @fpair t a b => left; simp only [ht] at k; omega
 | @spair t a b => left; simp only [ht] at k; omega
 | @app f f' v h => left; simp only [ht] at k; have := hd2 h (by omega); simp only [ht]; omega
 | @elim p z s n n' h => left; simp only [ht] at k; have := hd2 h (by omega); simp only [ht]; omega
 | @move p e e' x h => left; simp only [ht] at k; have := hd2 h (by omega); simp only [ht]; omega
 | @fst q q' h => left; simp only [ht] at k; have := hd2 h (by omega); simp only [ht]; omega
 | @snd q q' h => left; simp only [ht] at k; have := hd2 h (by omega); simp only [ht]; omega
theorem hdD {t u : Tm} (h : Hd t u) (k : D3 t) : D3 u := by
 rcases k with k | ⟨X, Y, rfl, e⟩
 ·exact hd3 h k
 ·cases h with
  | @beta a b _ =>
   exfalso
   rcases e with e | ⟨s, m, e, _⟩
   ·have := cM a; simp only [ht] at e; omega
   ·cases e
  | @app _ X' _ h => exact .inr ⟨X', Y, rfl, hdE h e⟩
theorem whD {t u : Tm} (h : Wh t u) (k : D3 t) : D3 u := by
 induction h with
 | nil => exact k
 | cons h _ ih => exact ih (hdD h k)
theorem wh3 {t u : Tm} (h : Wh t u) (k : ht t ≤ 3) (hu : ∀ X Y, u ≠ app X Y) : ht u ≤ 3 := by
 rcases whD h (.inl k) with h | ⟨X, Y, e, _⟩
 ·exact h
 ·exact absurd e (hu X Y)
def NX (X : Tm) : Prop := ht X ≤ 1 ∨ ∃ q, X = fst q ∧ ht q ≤ 2
theorem hdN {X X' : Tm} (h : Hd X X') (k : NX X) : NX X' := by
 rcases k with k | ⟨q, rfl, hq⟩
 ·exact (h.leaf k).elim
 ·cases h with
  | @fpair t a b => left; simp only [ht] at hq; omega
  | @fst _ q' h => exact .inr ⟨q', rfl, by have := hd2 h hq; omega⟩
def P4 : Tm → Prop
 | app X _ => NX X
 | elim _ z _ n => NX n ∧ ht z ≤ 3
 | move _ e _ => NX e
 | fst q => NX q
 | snd q => NX q
 | id _ y _ => ht y ≤ 3
 | _ => True
def D4 (t : Tm) : Prop := D3 t ∨ P4 t
theorem Kx {t u : Tm} (h : Hd t u) (k : D4 t) : D4 u := by
 rcases k with k | k
 ·exact .inl (hdD h k)
 ·cases h with
  | @beta a b v =>
   rcases k with k | ⟨q, e, _⟩
   ·have := cM a; simp only [ht] at k; omega
   ·cases e
  | @ezero p z s => exact .inl (.inl k.2)
  | @esucc p z s n =>
   rcases k.1 with k | ⟨q, e, _⟩
   ·have := cM n; simp only [ht] at k; omega
   ·cases e
  | @mrefl p a x =>
   rcases k with k | ⟨q, e, _⟩
   ·have := cM a; simp only [ht] at k; omega
   ·cases e
  | @fpair t a b =>
   rcases k with k | ⟨q, e, _⟩
   ·have := cM t; simp only [ht] at k; omega
   ·cases e
  | @spair t a b =>
   rcases k with k | ⟨q, e, _⟩
   ·have := cM t; simp only [ht] at k; omega
   ·cases e
  | @app f f' v h => exact .inr (hdN h k)
  | @elim p z s n n' h => exact .inr ⟨hdN h k.1, k.2⟩
  | @move p e e' x h => exact .inr (hdN h k)
  | @fst q q' h => exact .inr (hdN h k)
  | @snd q q' h => exact .inr (hdN h k)
theorem KH {t u : Tm} (h : Wh t u) (k : D4 t) : D4 u := by
 induction h with
 | nil => exact k
 | cons h _ ih => exact ih (Kx h k)
theorem Je {t y z : Tm} (k : D4 (id t y z)) : ht y ≤ 3 := by
 rcases k with (k | ⟨X, Y, e, _⟩) | k
 ·simp only [ht] at k; omega
 ·cases e
 ·exact k
theorem qU {B q : Tm} (hB : ht B ≤ 2) (hq : ht q ≤ 2) : D4 (B.inst (fst q)) := by
 have hN : ∀ {f : Tm}, ht f ≤ 1 → NX (f.inst (fst q)) := by
  intro f hf
  rcases mh hf with ⟨n, rfl⟩ | ⟨n, rfl⟩ | rfl | rfl
  ·cases n with
   | zero => exact .inr ⟨q, rfl, hq⟩
   | succ n => exact .inl (Nat.le_refl 1)
  ·exact .inl (Nat.le_refl 1)
  ·exact .inl (Nat.le_refl 1)
  ·exact .inl (Nat.le_refl 1)
 have hz : ∀ {z : Tm}, ht z ≤ 1 → ht (z.inst (fst q)) ≤ 3 := by
  intro z hz
  have := cV z (fst q)
  simp only [ht] at this; omega
 cases B with
 | var n => exact .inl (.inl (hz (Nat.le_refl 1)))
 | sort n => exact .inl (.inl (hz (Nat.le_refl 1)))
 | nat => exact .inl (.inl (hz (Nat.le_refl 1)))
 | zero => exact .inl (.inl (hz (Nat.le_refl 1)))
 | app f x => exact .inr (show NX (f.inst (.fst q)) from hN (by simp only [ht] at hB; omega))
 | elim p z s n => exact .inr (show NX (n.inst (.fst q)) ∧ ht (z.inst (.fst q)) ≤ 3 from ⟨hN (by simp only [ht] at hB; omega), hz (by simp only [ht] at hB; omega)⟩)
 | move p e x => exact .inr (show NX (e.inst (.fst q)) from hN (by simp only [ht] at hB; omega))
 | fst e => exact .inr (show NX (e.inst (.fst q)) from hN (by simp only [ht] at hB; omega))
 | snd e => exact .inr (show NX (e.inst (.fst q)) from hN (by simp only [ht] at hB; omega))
 | id t y z => exact .inr (show ht (y.inst (.fst q)) ≤ 3 from hz (by simp only [ht] at hB; omega))
 | pi a b => exact .inr trivial
 | sig a b => exact .inr trivial
 | lam a b => exact .inr trivial
 | pair a b c => exact .inr trivial
 | refl a => exact .inr trivial
 | succ a => exact .inr trivial
theorem gf {t y z X : Tm} (h : Wh (id t y z) X) : X = id t y z := by cases h with | nil => rfl | cons h _ => cases h
theorem jL {a b X : Tm} (h : Wh (pi a b) X) : X = pi a b := by cases h with | nil => rfl | cons h _ => cases h
theorem iy {a b X : Tm} (h : Wh (sig a b) X) : X = sig a b := by cases h with | nil => rfl | cons h _ => cases h
def hts (k : Nat) (G : List Tm) : Prop := ∀ A ∈ G, ht A ≤ k
theorem hts.cons {k : Nat} {G : List Tm} {A : Tm} (h : hts k G) (hA : ht A ≤ k) : hts k (A :: G) := fun B hB => by
 rcases List.mem_cons.1 hB with rfl | hB
 ·exact hA
 ·exact h B hB
theorem rK {k : Nat} : ∀ {G : List Tm}, hts k G → ∀ {n A}, look G n = some A → ∃ C, A = C.wk ∧ ht C ≤ k
 | [], _, n, A, h => by simp [look] at h
 | B :: G, hg, 0, A, h => by
  simp only [look, Option.some.injEq] at h
  exact ⟨B, h.symm, hg B List.mem_cons_self⟩
 | B :: G, hg, n + 1, A, h => by
  simp only [look] at h
  obtain ⟨X, hX, rfl⟩ := Option.map_eq_some_iff.1 h
  obtain ⟨C, rfl, hc⟩ := rK (fun D hD => hg D (List.mem_cons_of_mem _ hD)) hX
  exact ⟨C.wk, rfl, by rw [tZ]; exact hc⟩
theorem al1 {G : List Tm} {e Q : Tm} (hg : hts 3 G) (h : Al G e Q) (he : ht e ≤ 1) : ∃ C, Q = C.wk ∧ ht C ≤ 3 := by
 rcases mh he with ⟨n, rfl⟩ | ⟨n, rfl⟩ | rfl | rfl
 ·cases h with | var h => exact rK hg h
 ·cases h with | sort h => exact ⟨.sort (n + 1), rfl, by simp [ht]⟩
 ·cases h with | nat => exact ⟨.sort 0, rfl, by simp [ht]⟩
 ·cases h with | zero => exact ⟨.nat, rfl, by simp [ht]⟩
theorem Hw {G : List Tm} {e Q : Tm} (hg : hts 3 G) (h : Al G e Q) (he : ht e ≤ 1) : ht Q ≤ 3 := by
 obtain ⟨C, rfl, hc⟩ := al1 hg h he
 rw [tZ]; exact hc
def T2 (Q : Tm) : Prop := ht Q ≤ 3 ∨ (∃ a C, Q = pi a (wk C) ∧ ht C ≤ 3) ∨ ∃ A a, Q = id A a a ∧ ht a ≤ 1
theorem al2 {G : List Tm} {e Q : Tm} (hg : hts 3 G) (h : Al G e Q) (he : ht e ≤ 2) : T2 Q := by
 cases h with
 | var h => exact .inl (Hw hg (.var h) (Nat.le_refl 1))
 | sort h => exact .inl (by simp [ht])
 | nat => exact .inl (by simp [ht])
 | zero => exact .inl (by simp [ht])
 | succ h c => exact .inl (by simp [ht])
 | pi h w k v => exact .inl (by simp [ht])
 | sig h w k v => exact .inl (by simp [ht])
 | @lam _ A b B S R i j h w k l v =>
  simp only [ht] at he
  obtain ⟨C, rfl, hc⟩ := al1 (hg.cons (by omega)) k (by omega)
  exact .inr (.inl ⟨A, C, rfl, hc⟩)
 | @app _ f u F U C B h w k c =>
  simp only [ht] at he
  have h1 := wh3 w (Hw hg h (by omega)) (by simp)
  have h2 := cV B u
  simp only [ht] at h1
  exact .inl (by omega)
 | elim h w c v k d l e m f => exact .inl (by simp only [ht] at he ⊢; omega)
 | id h w k c l d => exact .inl (by simp [ht])
 | @refl _ a A S i h k w => exact .inr (.inr ⟨A, a, rfl, by simp only [ht] at he; omega⟩)
 | @move _ p e x Q t y z P C D i X h w k v c u l d =>
  simp only [ht] at he
  have h1 := wh3 w (Hw hg h (by omega)) (by simp)
  simp only [ht] at h1
  exact .inl (by simp only [ht]; omega)
 | pair h w v k c l d => exact .inl (by simp only [ht] at he; omega)
 | @fst _ q Q A B h w =>
  simp only [ht] at he
  have h1 := wh3 w (Hw hg h (by omega)) (by simp)
  simp only [ht] at h1
  exact .inl (by omega)
 | @snd _ q Q A B h w =>
  simp only [ht] at he
  have h1 := wh3 w (Hw hg h (by omega)) (by simp)
  have h2 := cV B (.fst q)
  simp only [ht] at h1 h2
  exact .inl (by omega)
theorem al3 {G : List Tm} {e Q t y z : Tm} (hg : hts 3 G) (h : Al G e Q) (he : ht e ≤ 3) (w : Wh Q (id t y z)) : ht y ≤ 3 := by
 have fin : ht Q ≤ 3 → ht y ≤ 3 := fun h => by have h1 := wh3 w h (by simp); simp only [ht] at h1; omega
 cases h with
 | var h => exact fin (Hw hg (.var h) (Nat.le_refl 1))
 | sort h => exact fin (by simp [ht])
 | nat => exact fin (by simp [ht])
 | zero => exact fin (by simp [ht])
 | succ h c => exact fin (by simp [ht])
 | pi h w k v => exact fin (by simp [ht])
 | sig h w k v => exact fin (by simp [ht])
 | lam h v k l u => cases jL w
 | @app _ f u F U C B h v k c =>
  simp only [ht] at he
  rcases al2 hg h (by omega) with hF | ⟨a, C', rfl, hc⟩ | ⟨A, a, rfl, ha⟩
  ·have h1 := wh3 v hF (by simp)
   have h2 := cV B u
   simp only [ht] at h1
   exact fin (by omega)
  ·cases jL v
   exact fin (by rw [C9]; exact hc)
  ·cases gf v
 | elim h v c r k d l e m f => exact fin (by simp only [ht] at he ⊢; omega)
 | id h v k c l d => exact fin (by simp [ht])
 | @refl _ a A S i h k v => cases gf w; simp only [ht] at he; omega
 | @move _ p e x Q t' y' z' P C D i X h v k r c u l d =>
  simp only [ht] at he
  rcases al2 hg h (by omega) with hF | ⟨a, C', rfl, hc⟩ | ⟨A, a, rfl, ha⟩
  ·have h1 := wh3 v hF (by simp)
   simp only [ht] at h1
   exact fin (by simp only [ht]; omega)
  ·cases jL v
  ·cases gf v
   exact fin (by simp only [ht]; omega)
 | pair h v r k c l d => exact fin (by simp only [ht] at he; omega)
 | @fst _ q Q A B h v =>
  simp only [ht] at he
  rcases al2 hg h (by omega) with hF | ⟨a, C', rfl, hc⟩ | ⟨A, a, rfl, ha⟩
  ·have h1 := wh3 v hF (by simp)
   simp only [ht] at h1
   exact fin (by omega)
  ·cases jL v
  ·cases gf v
 | @snd _ q Q A B h v =>
  simp only [ht] at he
  rcases al2 hg h (by omega) with hF | ⟨a, C', rfl, hc⟩ | ⟨A, a, rfl, ha⟩
  ·have h1 := wh3 v hF (by simp)
   simp only [ht] at h1
   exact Je (KH w (qU (by omega) (by omega)))
  ·cases jL v
  ·cases gf v
theorem Lv.wf {G : List Tm} {a : Tm} (h : Lv G a) (w : Wf G) : Wf (a :: G) := by
 obtain ⟨S, i, h1, h2⟩ := h
 exact .cons w ((h1.sound w).lvl w h2)
theorem ki {t : Tm} : ∀ {G : List Tm}, ht t ≤ 4 → lw t → Wf G → hts 3 G → G.length + ht t ≤ 12 → di O G t := by
 induction t with
 | var n => intros; trivial
 | sort n => intros; trivial
 | nat => intros; trivial
 | zero => intros; trivial
 | succ a ha => intro G h l w hg hl; simp only [ht] at h hl; exact ha (by omega) l w hg (by omega)
 | refl a ha => intro G h l w hg hl; simp only [ht] at h hl; exact ha (by omega) l w hg (by omega)
 | fst a ha => intro G h l w hg hl; simp only [ht] at h hl; exact ha (by omega) l w hg (by omega)
 | snd a ha => intro G h l w hg hl; simp only [ht] at h hl; exact ha (by omega) l w hg (by omega)
 | pi a b ha hb => intro G h l w hg hl; simp only [ht] at h hl; exact ⟨ha (by omega) l.1 w hg (by omega), fun v => hb (by omega) l.2 (v.wf w) (hg.cons (by omega)) (by simp only [List.length_cons]; omega)⟩
 | sig a b ha hb => intro G h l w hg hl; simp only [ht] at h hl; exact ⟨ha (by omega) l.1 w hg (by omega), fun v => hb (by omega) l.2 (v.wf w) (hg.cons (by omega)) (by simp only [List.length_cons]; omega)⟩
 | lam a b ha hb => intro G h l w hg hl; simp only [ht] at h hl; exact ⟨ha (by omega) l.1 w hg (by omega), fun v => hb (by omega) l.2 (v.wf w) (hg.cons (by omega)) (by simp only [List.length_cons]; omega)⟩
 | app a b ha hb => intro G h l w hg hl; simp only [ht] at h hl; exact ⟨ha (by omega) l.1 w hg (by omega), fun _ => hb (by omega) l.2 w hg (by omega)⟩
 | id a b c ha hb hc => intro G h l w hg hl; simp only [ht] at h hl; exact ⟨ha (by omega) l.1 w hg (by omega), hb (by omega) l.2.1 w hg (by omega), hc (by omega) l.2.2 w hg (by omega)⟩
 | elim a b c d ha hb hc hd =>
  intro G h l w hg hl
  simp only [ht] at h hl
  exact ⟨ha (by omega) l.1 w hg (by omega), hb (by omega) l.2.1 w hg (by omega), hc (by omega) l.2.2.1 w hg (by omega), hd (by omega) l.2.2.2 w hg (by omega), .inl (BN (by omega) l.1)⟩
 | move p e x hp he hx =>
  intro G h l w hg hl
  simp only [ht] at h hl
  refine ⟨he (by omega) l.2.1 w hg (by omega), hp (by omega) l.1 w hg (by omega), hx (by omega) l.2.2 w hg (by omega), fun Q t y z q r _ => .inl ?_⟩
  have hy := al3 hg q (by omega) r
  obtain ⟨i, _, ty, _⟩ := ((q.sound w).frm w r).rI w
  exact F5 (d := 12) ⟨It l.1 (by omega), rS ty.cl (by omega)⟩ ⟨Fp l.1, ty.srt⟩ (by simp only [ht]; omega) (by omega)
 | pair s a b hs ha hb =>
  intro G h l w hg hl
  simp only [ht] at h hl
  refine ⟨hs (by omega) l.1 w hg (by omega), ha (by omega) l.2.1 w hg (by omega), hb (by omega) l.2.2 w hg (by omega), fun v A B r q => .inl ?_⟩
  have h1 := wh3 r (by omega) (by simp)
  have h2 := cV B a
  simp only [ht] at h1
  obtain ⟨S, i, v1, v2⟩ := v
  have ts := (v1.sound w).lvl w v2
  have tq := ts.red w r.red
  obtain ⟨i', j', g1, g2, _⟩ := tq.gen
  obtain ⟨U, u1, u2⟩ := q
  have ta := (u1.sound w).chk u2 g1
  have tb := g2.inst ta
  exact F5 (d := 12) (rS tb.cl (by omega)) tb.srt (by omega) (by omega)
def bC : Nat → List Tm → Tm → Bool
 | m, D, pi a b => bC m D a && bC (m + 1) (a :: D) b
 | m, D, sig a b => bC m D a && bC (m + 1) (a :: D) b
 | m, D, lam a b => bC m D a && bC (m + 1) (a :: D) b
 | m, D, app f u => bC m D f && bC m D u
 | m, D, succ a => bC m D a
 | m, D, refl a => bC m D a
 | m, D, fst a => bC m D a
 | m, D, snd a => bC m D a
 | m, D, id a b c => bC m D a && (bC m D b && bC m D c)
 | m, D, elim p z s n => bC m D p && (bC m D z && (bC m D s && (bC m D n && vdM (aW p))))
 | m, D, pair s a b => bC m D s && (bC m D a && (bC m D b && (match s with
  | sig _ B => vdM (B.inst a)
  | _ => false)))
 | m, D, move p e x => bC m D e && (bC m D p && (bC m D x && ((match e with
  | refl a => vdM (app p a)
  | var n => (match look D n with
   | some (id _ y _) => vdM (app p y)
   | _ => false)
  | _ => false) || (match x with
  | var n => decide (n < m)
  | _ => false))))
 | _, _, _ => true
theorem yz : ∀ {D G : List Tm} {n : Nat} {A : Tm}, look D n = some A → look (D ++ G) n = some A
 | [], G, n, A, h => by simp [look] at h
 | B :: D, G, 0, A, h => h
 | B :: D, G, n + 1, A, h => by
  simp only [look] at h
  obtain ⟨X, hX, rfl⟩ := Option.map_eq_some_iff.1 h
  show (look (D ++ G) n).map wk = _
  rw [yz hX]; rfl
theorem uQ : ∀ {G : List Tm} {n : Nat}, n < G.length → ∃ A, look G n = some A
 | [], n, h => by simp at h
 | B :: G, 0, h => ⟨_, rfl⟩
 | B :: G, n + 1, h => by
  obtain ⟨A, e⟩ := uQ (G := G) (n := n) (by simp only [List.length_cons] at h; omega)
  exact ⟨A.wk, by show (look G n).map wk = _; rw [e]; rfl⟩
theorem xZ {G : List Tm} {n : Nat} (h : n < G.length) : Gr O G (var n) := fun g => by
 obtain ⟨A, e⟩ := uQ h
 cases g with
 | zero => exact fun h => by cases h
 | succ g =>
  rw [inS]
  split
  ·exact fun h => by cases h
  ·refine Nb.sq ?_ fun _ _ => Df _
   show Nb (match look G n with | some A => some (Rs.ok A) | none => some Rs.bad)
   rw [e]; exact ij _
theorem rG : ∀ {t : Tm} {m : Nat} {D G : List Tm}, bC m D t = true → m ≤ (D ++ G).length → di O (D ++ G) t := by
 intro t
 induction t with
 | var n => intros; trivial
 | sort n => intros; trivial
 | nat => intros; trivial
 | zero => intros; trivial
 | succ a ha => exact fun h l => ha h l
 | refl a ha => exact fun h l => ha h l
 | fst a ha => exact fun h l => ha h l
 | snd a ha => exact fun h l => ha h l
 | pi a b ha hb => intro m D G h l; simp only [bC, Bool.and_eq_true] at h; exact ⟨ha h.1 l, fun _ => hb (D := a :: D) h.2 (by simp only [List.cons_append, List.length_cons]; omega)⟩
 | sig a b ha hb => intro m D G h l; simp only [bC, Bool.and_eq_true] at h; exact ⟨ha h.1 l, fun _ => hb (D := a :: D) h.2 (by simp only [List.cons_append, List.length_cons]; omega)⟩
 | lam a b ha hb => intro m D G h l; simp only [bC, Bool.and_eq_true] at h; exact ⟨ha h.1 l, fun _ => hb (D := a :: D) h.2 (by simp only [List.cons_append, List.length_cons]; omega)⟩
 | app a b ha hb => intro m D G h l; simp only [bC, Bool.and_eq_true] at h; exact ⟨ha h.1 l, fun _ => hb h.2 l⟩
 | id a b c ha hb hc => intro m D G h l; simp only [bC, Bool.and_eq_true] at h; exact ⟨ha h.1 l, hb h.2.1 l, hc h.2.2 l⟩
 | elim a b c d ha hb hc hd => intro m D G h l; simp only [bC, Bool.and_eq_true] at h; exact ⟨ha h.1 l, hb h.2.1 l, hc h.2.2.1 l, hd h.2.2.2.1 l, .inl h.2.2.2.2⟩
 | pair s a b hs ha hb =>
  intro m D G h l
  simp only [bC, Bool.and_eq_true] at h
  obtain ⟨h1, h2, h3, h4⟩ := h
  refine ⟨hs h1 l, ha h2 l, hb h3 l, fun _ A B r _ => .inl ?_⟩
  split at h4
  ·cases iy r; exact h4
  ·cases h4
 | move p e x hp he hx =>
  intro m D G h l
  simp only [bC, Bool.and_eq_true, Bool.or_eq_true] at h
  obtain ⟨h1, h2, h3, h4⟩ := h
  refine ⟨he h1 l, hp h2 l, hx h3 l, fun Q t y z q r _ => ?_⟩
  rcases h4 with h4 | h4
  ·left
   split at h4
   ·cases q with | refl q1 q2 q3 => cases gf r; exact h4
   ·split at h4
    ·rename_i e1
     cases q with
     | var q1 => rw [yz e1] at q1; cases q1; cases gf r; exact h4
    ·cases h4
   ·cases h4
  ·right
   split at h4
   ·exact xZ (by have := of_decide_eq_true h4; omega)
   ·cases h4
theorem dk {t : Tm} {m : Nat} {G : List Tm} (h : bC m [] t = true) (l : m ≤ G.length) : di O G t := rG (D := []) h l
end Tm
end Go.Proofs.YtajlknlnmmbfcaaGreat
end
section
namespace Go.Proofs.YtajlknlnmmbfcaaGreat
open Go Go.Dk
namespace Tm
def Ao (n : Nat) : List Tm := List.replicate n nat
inductive NT : Nat → Tm → Prop
 | zero {n} : NT n zero
 | var {n i} (h : i < n) : NT n (var i)
 | app {n x y} (h : NT (n + 1) x) (k : NT n y) : NT n (app (lam nat x) y)
 | elim {n x y z} (h : NT n x) (k : NT (n + 2) y) (l : NT n z) : NT n (elim (lam nat nat) x (lam nat (lam nat y)) z)
 | fst {n x y} (h : NT n x) (k : NT n y) : NT n (fst (pair (sig nat nat) x y))
 | snd {n x y} (h : NT n x) (k : NT n y) : NT n (snd (pair (sig nat nat) x y))
 | move {n x y} (h : NT n x) (k : NT n y) : NT n (move (lam nat nat) (refl x) y)
 | succ {n x} (h : NT n x) : NT n (succ x)
theorem n8 : ∀ {n i : Nat}, i < n → look (Ao n) i = some nat
 | 0, i, h => by omega
 | n + 1, 0, h => rfl
 | n + 1, i + 1, h => by
  show (look (Ao n) i).map wk = some nat
  rw [n8 (by omega)]; rfl
theorem NT.ty {n : Nat} {t : Tm} (h : NT n t) : Ty (Ao n) t nat := by
 have fam : ∀ G, Ty G (.lam .nat .nat) (.pi .nat (.sort 0)) := fun G => .lam .nat .nat (.sort (by omega))
 have bt : ∀ x, Conv (.app (.lam .nat .nat) x) nat := fun x => Par.conv (show Par (.app (.lam .nat .nat) x) (nat.inst x) from .beta .nat (Par.bq _))
 induction h with
 | zero => exact .zero
 | var h => exact .var (n8 h)
 | app h k ih ik => exact Ty.app (B := nat) (.lam .nat ih .nat) ik
 | @elim n x y z h k l ih ik il =>
  have z' : Ty (Ao n) x (.app (.lam .nat .nat) .zero) := .conv ih (bt .zero).symm (Ty.zh (fam _) .zero)
  have s1 : Ty (Ao n) (.lam .nat (.lam .nat y)) (.pi .nat (.pi .nat .nat)) := .lam .nat (.lam .nat ik .nat) (.pi .nat .nat)
  have s2 : Conv (.pi .nat (.pi .nat .nat)) (aW (.lam .nat .nat)) := .pi .bq (.pi (bt (.var 0)).symm (bt (.succ (.var 1))).symm)
  exact .conv (.elim (fam _) z' (.conv s1 s2 (fam _).aW) il) (bt z) .nat
 | fst h k ih ik => exact Ty.fst (B := nat) (.pair (.sig .nat .nat) .nil (.sig .nat .nat) ih ik)
 | snd h k ih ik => exact Ty.snd (A := nat) (B := nat) (.pair (.sig .nat .nat) .nil (.sig .nat .nat) ih ik)
 | @move n x y h k ih ik => exact .conv (.move (.refl ih .nat) (fam _) (.conv ik (bt x).symm (Ty.zh (fam _) ih)) ih) (bt x) .nat
 | succ h ih => exact .succ ih
theorem AJ {x y : Tm} (h : vdM (move (lam nat nat) (refl x) y) = true) : vdM (app (lam nat nat) x) = true := by
 have h := eK.1 h
 rw [eK]
 have := size_pos (of y)
 simp only [of, bu, bD, T.size, T.aE, Bool.and_eq_true, decide_eq_true_eq, Bool.and_true] at h ⊢
 have up := oN (of x) 28 h.1.2.2.2.2.1.2.2.2
 exact ⟨⟨by omega, rfl, by decide, ⟨by omega, rfl, by decide, ⟨by omega, rfl, by decide⟩, by omega, rfl, by decide⟩, up⟩, by omega⟩
theorem NT.oZ {n : Nat} {t : Tm} (h : NT n t) : vdM t = true → ∀ G, di O G t := by
 induction h with
 | zero => intros; trivial
 | var h => intros; trivial
 | app h k ih ik => exact fun v G => ⟨⟨trivial, fun _ => ih (aF.v_lam (aF.v_app v).1).2 _⟩, fun _ => ik (aF.v_app v).2 _⟩
 | elim h k l ih ik il =>
  intro v G
  obtain ⟨v1, v2, v3, v4, _⟩ := aF.v_elim v
  exact ⟨⟨trivial, fun _ => trivial⟩, ih v2 _, ⟨trivial, fun _ => ⟨trivial, fun _ => ik (aF.v_lam (aF.v_lam v3).2).2 _⟩⟩, il v4 _, .inl (by decide +kernel)⟩
 | fst h k ih ik =>
  intro v G
  obtain ⟨v1, v2, v3⟩ := aF.v_pair (aF.v_fst v)
  exact ⟨⟨trivial, fun _ => trivial⟩, ih v2 _, ik v3 _, fun _ A B r _ => .inl (by cases iy r; exact aF.v_nat)⟩
 | snd h k ih ik =>
  intro v G
  obtain ⟨v1, v2, v3⟩ := aF.v_pair (aF.v_snd v)
  exact ⟨⟨trivial, fun _ => trivial⟩, ih v2 _, ik v3 _, fun _ A B r _ => .inl (by cases iy r; exact aF.v_nat)⟩
 | move h k ih ik =>
  intro v G
  obtain ⟨v1, v2, v3⟩ := aF.v_move v
  refine ⟨ih (aF.v_refl v2) _, ⟨trivial, fun _ => trivial⟩, ik v3 _, fun Q t y z q r _ => .inl ?_⟩
  cases q with | refl q1 q2 q3 => cases gf r; exact AJ v
 | succ h ih => exact fun v G => ih (aF.v_succ v) G
def S1 : Tm := move (lam nat (id nat (succ (var 2)) (succ (var 0)))) (var 0) (refl (succ (var 1)))
def iP : List (List Tm × List Tm) := [
 ([], [lam (sort 0) (lam (var 0) (var 0)), lam nat (refl (var 0)),
   lam nat (lam nat (elim (lam nat nat) (var 1) (lam nat (lam nat (succ (var 0)))) (var 0))), pi nat (sort 0),
   app (lam (sort 0) (lam (var 0) (var 0))) nat, lam (sig nat nat) (pair (sig nat nat) (snd (var 0)) (fst (var 0))),
   lam nat (pair (sig nat (id nat (var 0) (var 1))) (var 0) (refl (var 0))),
   lam nat (lam nat (lam (id nat (var 1) (var 0)) (move (lam nat (id nat (var 0) (var 3))) (var 0) (refl (var 2))))),
   elim (lam nat (sort 0)) nat (lam nat (lam (sort 0) (pi nat (var 1)))) (succ (succ zero)),
   pi (sort 0) (pi (var 0) (var 1)), lam (sort 0) (lam (pi (var 0) (var 1)) (var 0)), sort 2]),
 ([pi (var 1) (var 2), var 0, sort 0], [app (var 0) (var 1), refl (var 1), id (var 2) (var 1) (app (var 0) (var 1)), lam (var 2) (var 1),
   pair (sig (var 2) (var 3)) (var 1) (app (var 0) (var 1)),
   lam (id (var 2) (var 1) (app (var 0) (var 1))) (move (lam (var 3) (var 4)) (var 0) (var 2))]),
 ([id nat (var 0) (succ zero), nat], [var 0, S1, succ (var 1), move (lam nat nat) (var 0) (var 1), elim (lam nat nat) zero (lam nat (lam nat (var 1))) (var 1)]),
 ([pi nat (app (var 1) (var 0)), pi nat (sort 0)], [app (var 0) zero, lam nat (app (var 1) (var 0)), app (var 1) (succ (succ zero)),
   lam nat (lam (id nat (var 0) zero) (move (var 3) (var 0) (app (var 2) (var 1))))])]
def JJ : Tm → Bool
 | move (lam nat (id nat (succ (var 2)) (succ (var 0)))) (var 0) (refl (succ (var 1))) => true
 | _ => false
theorem He {t : Tm} (h : JJ t = true) : t = S1 := by
 unfold JJ at h
 split at h
 ·rfl
 ·cases h
def HK : Tm → Bool
 | nat => true
 | sort _ => true
 | id _ _ _ => true
 | pi _ _ => true
 | sig _ _ => true
 | _ => false
def AG : Tm → Bool
 | pi a b => bC 0 [] a && (HK a || bC 0 [] b)
 | sig a b => bC 0 [] a && (HK a || bC 0 [] b)
 | lam a b => bC 0 [] a && (HK a || bC 0 [] b)
 | _ => true
def rkB (m : Nat) (D : List Tm) : Tm → Bool
 | pi a b => decide (ht a ≤ 3) && bC (m + 1) [] b
 | sig a b => decide (ht a ≤ 3) && bC (m + 1) [] b
 | lam a b => decide (ht a ≤ 3) && bC (m + 1) [] b
 | app _ u => bC m D u
 | elim p _ _ _ => vdM (aW p)
 | pair s a _ => (match s with
  | sig _ B => vdM (B.inst a)
  | _ => false)
 | move p e _ => (match e with
  | refl a => vdM (app p a)
  | var n => (match look D n with
   | some (id _ y _) => vdM (app p y)
   | _ => false)
  | _ => false)
 | _ => true
def okP (p : List Tm × List Tm) : Bool := (p.1.all fun A => decide (ht A ≤ 3) && (bC 0 [] A && vdM A)) && (decide (p.1.length ≤ 3) && (p.2.all fun t => bC p.1.length p.1 t && ((JJ t || bC p.1.length [] t) && (AG t && rkB p.1.length p.1 t))))
theorem Eb : (iP.all okP) = true := by decide +kernel
structure OkP (p : List Tm × List Tm) : Prop where
 hg : hts 3 p.1
 fc : ∀ A ∈ p.1, bC 0 [] A = true
 vd : ∀ A ∈ p.1, vdM A = true
 hl : p.1.length ≤ 3
 f1 : ∀ t ∈ p.2, bC p.1.length p.1 t = true
 f2 : ∀ t ∈ p.2, JJ t = true ∨ bC p.1.length [] t = true
 f3 : ∀ t ∈ p.2, AG t = true
 f4 : ∀ t ∈ p.2, rkB p.1.length p.1 t = true
theorem vn {p : List Tm × List Tm} (h : p ∈ iP) : OkP p := by
 have k := List.all_eq_true.1 Eb p h
 simp only [okP, Bool.and_eq_true, Bool.or_eq_true, List.all_eq_true, decide_eq_true_eq] at k
 obtain ⟨k1, k2, k3⟩ := k
 exact ⟨fun A hA => (k1 A hA).1, fun A hA => (k1 A hA).2.1, fun A hA => (k1 A hA).2.2, k2, fun t ht => (k3 t ht).1, fun t ht => (k3 t ht).2.1, fun t ht => (k3 t ht).2.2.1, fun t ht => (k3 t ht).2.2.2⟩
theorem IC {p : List Tm × List Tm} (h : p ∈ iP) (hne : p.1 ≠ []) : ¬ Wf p.1.dropLast := by
 have no : ∀ {n C}, Ty [] (var n) C → False := fun h => by obtain ⟨A, e, _⟩ := h.gen; cases e
 simp only [iP, List.mem_cons, List.not_mem_nil, or_false] at h
 rcases h with rfl | rfl | rfl | rfl
 ·exact absurd rfl hne
 ·intro w
  cases w with | cons w h => cases w with | cons w h => exact no h
 ·intro w
  cases w with | cons w h => obtain ⟨i, _, h2, _⟩ := h.gen; exact no h2
 ·intro w
  cases w with | cons w h =>
   obtain ⟨i, j, _, h2, _⟩ := h.gen
   obtain ⟨X, Y, h3, _⟩ := h2.gen
   obtain ⟨A, e, _⟩ := h3.gen
   cases e
def Kl : Tm → Option Tm
 | pair _ _ b => some b
 | move _ _ x => some x
 | _ => none
theorem Ji {p : List Tm × List Tm} (h : p ∈ iP) (w : Wf p.1) {t x : Tm} (ht : t ∈ p.2) (e : Kl t = some x) : Gr O p.1 x := by
 simp only [iP, List.mem_cons, List.not_mem_nil, or_false] at h
 rcases h with rfl | rfl | rfl | rfl <;> simp only [List.mem_cons, List.not_mem_nil, or_false] at ht
 ·rcases ht with rfl | rfl | rfl | rfl | rfl | rfl | rfl | rfl | rfl | rfl | rfl | rfl <;> cases e
 ·rcases ht with rfl | rfl | rfl | rfl | rfl | rfl <;> cases e
  exact fun g => kR aF w (Ty.app (A := .var 2) (B := .var 3) (.var rfl) (.var rfl))
 ·rcases ht with rfl | rfl | rfl | rfl | rfl <;> cases e
  ·exact fun g => kR aF w (Ty.refl (A := .nat) (.succ (.var rfl)) .nat)
  ·exact xZ (by simp)
 ·rcases ht with rfl | rfl | rfl | rfl <;> cases e
theorem Kj {p : List Tm × List Tm} (h : p ∈ iP) (ht : S1 ∈ p.2) : p.1 = [id nat (var 0) (succ zero), nat] := by
 simp only [iP, List.mem_cons, List.not_mem_nil, or_false] at h
 rcases h with rfl | rfl | rfl | rfl <;> simp [S1] at ht ⊢
theorem Gy (A : Tm) : di O [A, id nat (var 0) (succ zero), nat] S1 := by
 refine ⟨trivial, ⟨trivial, fun _ => ⟨trivial, trivial, trivial⟩⟩, trivial, fun Q t y z q r fm => ?_⟩
 obtain ⟨P, C, D, i, h1, _⟩ := fm
 cases h1 with | lam h1 h2 h3 h4 h5 => cases h3 with | id k1 k2 k3 k4 k5 k6 => cases k3 with | succ k c => cases k with | var k =>
  simp only [look, Option.map_some, Option.some.injEq] at k
  subst k
  obtain ⟨x, r1, r2⟩ := c
  obtain ⟨_, _, _, e, _⟩ := r1.iZ
  rw [r2.Db] at e; cases e
def Mt (t t' : Tm) : Prop := t' = t ∨ t' = succ t ∨ ht t' ≤ 1 ∨ ∃ a b, (t = pi a b ∨ t = sig a b ∨ t = lam a b) ∧ t' = app a b
theorem JC {G : List Tm} {a F C B : Tm} (h : HK a = true) (q : Al G a F) (r : Wh F (pi C B)) : False := by
 have so : ∀ {n}, Wh (sort n) (pi C B) → False := fun r => by cases r with | cons h _ => cases h
 cases a <;> simp only [HK, Bool.false_eq_true] at h <;> cases q <;> exact so r
theorem si {G : List Tm} {t t' : Tm} (h : di O G t) (hb : AG t = true) (m : Mt t t') : di O G t' := by
 have go : ∀ {a b}, (bC 0 [] a && (HK a || bC 0 [] b)) = true → di O G (app a b) := fun hb => by
  simp only [Bool.and_eq_true, Bool.or_eq_true] at hb
  exact ⟨dk hb.1 (Nat.zero_le _), fun ⟨F, C, B, q, r⟩ => hb.2.elim (fun v => (JC v q r).elim) (fun f => dk f (Nat.zero_le _))⟩
 rcases m with rfl | rfl | h1 | ⟨a, b, rfl | rfl | rfl, rfl⟩
 ·exact h
 ·exact h
 ·rcases mh h1 with ⟨n, rfl⟩ | ⟨n, rfl⟩ | rfl | rfl <;> trivial
 ·exact go hb
 ·exact go hb
 ·exact go hb
def rep : Tm → Nat → Tm → Tm
 | succ _, _, v => succ v
 | refl _, _, v => refl v
 | fst _, _, v => fst v
 | snd _, _, v => snd v
 | pi _ b, 0, v => pi v b
 | pi a _, _ + 1, v => pi a v
 | sig _ b, 0, v => sig v b
 | sig a _, _ + 1, v => sig a v
 | lam _ b, 0, v => lam v b
 | lam a _, _ + 1, v => lam a v
 | app _ b, 0, v => app v b
 | app a _, _ + 1, v => app a v
 | id _ b c, 0, v => id v b c
 | id a _ c, 1, v => id a v c
 | id a b _, _ + 2, v => id a b v
 | move _ b c, 0, v => move v b c
 | move a _ c, 1, v => move a v c
 | move a b _, _ + 2, v => move a b v
 | pair _ b c, 0, v => pair v b c
 | pair a _ c, 1, v => pair a v c
 | pair a b _, _ + 2, v => pair a b v
 | elim _ b c d, 0, v => elim v b c d
 | elim a _ c d, 1, v => elim a v c d
 | elim a b _ d, 2, v => elim a b v d
 | elim a b c _, _ + 3, v => elim a b c v
 | t, _, _ => t
theorem IX (m v : Tm) {j : Nat} (h : j < (of m).kids.length) : T.mk (of m).k (of m).n ((of m).kids.set j (of v)) = of (rep m j v) := by
 cases m <;> simp only [of, T.kids, List.length_cons, List.length_nil] at h <;> rcases j with _ | _ | _ | _ | j <;> first | rfl | omega
def Rk (G : List Tm) : Tm → Prop
 | pi a b => ht a ≤ 3 ∧ ∀ v, di O (v :: G) b
 | sig a b => ht a ≤ 3 ∧ ∀ v, di O (v :: G) b
 | lam a b => ht a ≤ 3 ∧ ∀ v, di O (v :: G) b
 | app _ u => di O G u
 | elim p _ _ _ => vdM (aW p) = true
 | pair s a b => Gr O G b ∧ ∀ A B, Wh s (sig A B) → vdM (B.inst a) = true
 | move p e x => Gr O G x ∧ ∀ Q t y z, Al G e Q → Wh Q (id t y z) → vdM (app p y) = true
 | _ => True
theorem Ey {G : List Tm} {t v : Tm} (w : Wf G) (hg : hts 3 G) (hl : G.length ≤ 4) (hF : di O G t) (hK : Rk G t) (hv : ht v ≤ 4) (lv : lw v) (j : Nat) : di O G (rep t j v) := by
 have fv : di O G v := ki hv lv w hg (by omega)
 have fb : ∀ {a}, ht a ≤ 3 → Lv G a → di O (a :: G) v := fun h l => ki hv lv (l.wf w) (hg.cons h) (by simp only [List.length_cons]; omega)
 cases t with
 | var n => exact hF
 | sort n => exact hF
 | nat => exact hF
 | zero => exact hF
 | succ a => exact fv
 | refl a => exact fv
 | fst a => exact fv
 | snd a => exact fv
 | pi a b => cases j with | zero => exact ⟨fv, fun _ => hK.2 v⟩ | succ j => exact ⟨hF.1, fb hK.1⟩
 | sig a b => cases j with | zero => exact ⟨fv, fun _ => hK.2 v⟩ | succ j => exact ⟨hF.1, fb hK.1⟩
 | lam a b => cases j with | zero => exact ⟨fv, fun _ => hK.2 v⟩ | succ j => exact ⟨hF.1, fb hK.1⟩
 | app a b => cases j with | zero => exact ⟨fv, fun _ => hK⟩ | succ j => exact ⟨hF.1, fun _ => fv⟩
 | id a b c => rcases j with _ | _ | j; exact ⟨fv, hF.2.1, hF.2.2⟩; exact ⟨hF.1, fv, hF.2.2⟩; exact ⟨hF.1, hF.2.1, fv⟩
 | elim p z s n =>
  rcases j with _ | _ | _ | j
  ·exact ⟨fv, hF.2.1, hF.2.2.1, hF.2.2.2.1, .inl (BN hv lv)⟩
  ·exact ⟨hF.1, fv, hF.2.2.1, hF.2.2.2.1, .inl hK⟩
  ·exact ⟨hF.1, hF.2.1, fv, hF.2.2.2.1, .inl hK⟩
  ·exact ⟨hF.1, hF.2.1, hF.2.2.1, fv, .inl hK⟩
 | pair s a b =>
  rcases j with _ | _ | j
  ·exact ⟨fv, hF.2.1, hF.2.2.1, fun _ _ _ _ _ => .inr hK.1⟩
  ·exact ⟨hF.1, fv, hF.2.2.1, fun _ _ _ _ _ => .inr hK.1⟩
  ·exact ⟨hF.1, hF.2.1, fv, fun _ A B r _ => .inl (hK.2 A B r)⟩
 | move p e x =>
  rcases j with _ | _ | j
  ·exact ⟨hF.1, fv, hF.2.2.1, fun _ _ _ _ _ _ _ => .inr hK.1⟩
  ·exact ⟨fv, hF.2.1, hF.2.2.1, fun _ _ _ _ _ _ _ => .inr hK.1⟩
  ·exact ⟨hF.1, hF.2.1, fv, fun Q t y z q r _ => .inl (hK.2 Q t y z q r)⟩
def Bse (G : List Tm) (m : Tm) : Prop := (∃ n, n ≤ 2 ∧ G = Ao n ∧ NT n m ∧ vdM m = true) ∨ ∃ p ∈ iP, G = p.1 ∧ m ∈ p.2
theorem NT.AG {n : Nat} {t : Tm} (h : NT n t) : AG t = true := by cases h <;> rfl
theorem Bse.AG {G : List Tm} {m : Tm} (h : Bse G m) : Tm.AG m = true := by
 rcases h with ⟨n, _, _, h, _⟩ | ⟨p, hp, _, h⟩
 ·exact h.AG
 ·exact (vn hp).f3 m h
theorem qH {n : Nat} {A : Tm} (h : A ∈ Ao n) : A = nat := (List.mem_replicate.1 h).2
theorem Bse.hts {G : List Tm} {m : Tm} (h : Bse G m) : Tm.hts 3 G := by
 rcases h with ⟨n, _, rfl, _, _⟩ | ⟨p, hp, rfl, _⟩
 ·intro A hA; rw [qH hA]; simp [ht]
 ·exact (vn hp).hg
theorem Bse.fc {G : List Tm} {m : Tm} (h : Bse G m) : ∀ A ∈ G, bC 0 [] A = true := by
 rcases h with ⟨n, _, rfl, _, _⟩ | ⟨p, hp, rfl, _⟩
 ·intro A hA; rw [qH hA]; rfl
 ·exact (vn hp).fc
theorem Bse.len {G : List Tm} {m : Tm} (h : Bse G m) : G.length ≤ 3 := by
 rcases h with ⟨n, hn, rfl, _, _⟩ | ⟨p, hp, rfl, _⟩
 ·simp only [Ao, List.length_replicate]; omega
 ·exact (vn hp).hl
theorem dQ : ∀ {G : List Tm}, (∀ A ∈ G, bC 0 [] A = true) → qN O G
 | [], _ => trivial
 | A :: G, h => ⟨dQ fun B hB => h B (List.mem_cons_of_mem _ hB), fun _ => dk (h A List.mem_cons_self) (Nat.zero_le _)⟩
theorem Bse.oZ {G : List Tm} {m : Tm} (h : Bse G m) : di O G m := by
 rcases h with ⟨n, hn, rfl, h, v⟩ | ⟨p, hp, rfl, h⟩
 ·exact h.oZ v _
 ·have := rG (G := []) ((vn hp).f1 m h) (by simp)
  rwa [List.append_nil] at this
theorem Bse.rk {G : List Tm} {m : Tm} (h : Bse G m) (w : Wf G) : Rk G m := by
 have fF := h.oZ
 rcases h with ⟨n, hn, rfl, h, v⟩ | ⟨p, hp, rfl, h⟩
 ·cases h with
  | zero => trivial
  | var h => trivial
  | app h k => exact k.oZ (aF.v_app v).2 _
  | elim h k l => show vdM _ = true; decide +kernel
  | fst h k => trivial
  | snd h k => trivial
  | move h k => exact ⟨fun g => kR aF w k.ty, fun Q t y z q r => by cases q with | refl q1 q2 q3 => cases gf r; exact AJ v⟩
  | succ h => trivial
 ·have hr := (vn hp).f4 m h
  have hb := fun x => Ji hp w (x := x) h
  cases m with
  | pi a b => simp only [rkB, Bool.and_eq_true, decide_eq_true_eq] at hr; exact ⟨hr.1, fun v => dk hr.2 (by simp)⟩
  | sig a b => simp only [rkB, Bool.and_eq_true, decide_eq_true_eq] at hr; exact ⟨hr.1, fun v => dk hr.2 (by simp)⟩
  | lam a b => simp only [rkB, Bool.and_eq_true, decide_eq_true_eq] at hr; exact ⟨hr.1, fun v => dk hr.2 (by simp)⟩
  | app a b =>
   have := rG (G := []) (show bC p.1.length p.1 b = true from hr) (by simp)
   rwa [List.append_nil] at this
  | elim a b c d => exact hr
  | pair s a b =>
   refine ⟨hb b rfl, fun A B r => ?_⟩
   simp only [rkB] at hr
   split at hr
   ·cases iy r; exact hr
   ·cases hr
  | move p' e x =>
   refine ⟨hb x rfl, fun Q t y z q r => ?_⟩
   simp only [rkB] at hr
   split at hr
   ·cases q with | refl q1 q2 q3 => cases gf r; exact hr
   ·split at hr
    ·rename_i e1
     cases q with
     | var q1 => rw [e1] at q1; cases q1; cases gf r; exact hr
    ·cases hr
   ·cases hr
  | _ => trivial
inductive Dn : List Tm → Tm → Prop
 | base {G m m'} (h : Bse G m) (k : Mt m m') : Dn G m'
 | drop {G m m'} (h : Bse G m) (k : Mt m m') (hne : G ≠ []) : Dn G.dropLast m'
 | app {G m m' A} (h : Bse G m) (k : Mt m m') (hA : ht A ≤ 4) (lA : lw A) : Dn (A :: G) m'
 | any {G m v} (h : Bse G m) (hv : ht v ≤ 4) (lv : lw v) : Dn G v
 | rep {G m v} (j : Nat) (h : Bse G m) (hv : ht v ≤ 4) (lv : lw v) : Dn G (rep m j v)
theorem Dn.oZ {G : List Tm} {m : Tm} (h : Dn G m) : qN O G ∧ (Wf G → di O G m) := by
 cases h with
 | base h k => exact ⟨dQ h.fc, fun _ => si h.oZ h.AG k⟩
 | @drop G m m' h k hne =>
  refine ⟨dQ fun A hA => h.fc A (List.dropLast_subset _ hA), fun w => ?_⟩
  have hb := h.AG
  rcases h with ⟨n, hn, rfl, h, v⟩ | ⟨p, hp, rfl, h⟩
  ·exact si (h.oZ v _) hb k
  ·exact absurd w (IC hp hne)
 | @app G m m' A h k hA lA =>
  have hl := h.len
  have hb := h.AG
  have hg := h.hts
  have hc := h.fc
  refine ⟨⟨dQ hc, fun w => ki hA lA w hg (by omega)⟩, fun w => si ?_ hb k⟩
  rcases h with ⟨n, hn, rfl, h, v⟩ | ⟨p, hp, rfl, h⟩
  ·exact h.oZ v _
  ·rcases (vn hp).f2 m h with e | e
   ·have := He e
    subst this
    rw [Kj hp h]
    exact Gy A
   ·exact dk e (by simp)
 | any h hv lv => exact ⟨dQ h.fc, fun w => ki hv lv w h.hts (by have := h.len; omega)⟩
 | rep j h hv lv => exact ⟨dQ h.fc, fun w => Ey w h.hts (by have := h.len; omega) h.oZ (h.rk w) hv lv j⟩
end Tm
end Go.Proofs.YtajlknlnmmbfcaaGreat
end
section
namespace Go.Proofs.YtajlknlnmmbfcaaGreat
open Go Go.Ab Go.Dk
def LwT (k : Nat) (t : T) : Prop := ∃ m : Tm, t = of m ∧ Tm.ht m ≤ k ∧ Tm.lw m
theorem LwT.size {t : T} (h : LwT 4 t) : t.size ≤ 85 := by obtain ⟨m, rfl, h, _⟩ := h; exact Tm.sz4 h
theorem LwT.mono {k j : Nat} {t : T} (h : LwT k t) (hk : k ≤ j) : LwT j t := by obtain ⟨m, e, h, l⟩ := h; exact ⟨m, e, by omega, l⟩
theorem LwT.zero {k : Nat} (hk : 1 ≤ k) : LwT k (.mk 7 0 []) := ⟨.zero, rfl, hk, trivial⟩
theorem HV {k : Nat} {kind n1 : Int} {acc : List T} (hr : 1 ≤ kind ∧ kind ≤ 16) (hk : opsOf kind = acc.length) (hn : 0 ≤ n1 ∧ n1 ≤ 3) (h0 : cd kind ≤ 0 → n1 = 0) (ha : ∀ t ∈ acc, LwT k t) : LwT (k + 1) (.mk kind n1 acc) := by
 have l0 : acc.length = 0 → acc = [] := List.length_eq_zero_iff.1
 have l1 : acc.length = 1 → ∃ a, acc = [of a] ∧ Tm.ht a ≤ k ∧ Tm.lw a := fun h => by
  match acc, h with
  | [a], _ => obtain ⟨m, rfl, h1, h2⟩ := ha a (by simp); exact ⟨m, rfl, h1, h2⟩
 have l2 : acc.length = 2 → ∃ a b, acc = [of a, of b] ∧ (Tm.ht a ≤ k ∧ Tm.ht b ≤ k) ∧ Tm.lw a ∧ Tm.lw b := fun h => by
  match acc, h with
  | [a, b], _ => obtain ⟨m, rfl, h1, h2⟩ := ha a (by simp); obtain ⟨m', rfl, h1', h2'⟩ := ha b (by simp); exact ⟨m, m', rfl, ⟨h1, h1'⟩, h2, h2'⟩
 have l3 : acc.length = 3 → ∃ a b c, acc = [of a, of b, of c] ∧ (Tm.ht a ≤ k ∧ Tm.ht b ≤ k ∧ Tm.ht c ≤ k) ∧ Tm.lw a ∧ Tm.lw b ∧ Tm.lw c := fun h => by
  match acc, h with
  | [a, b, c], _ => obtain ⟨m, rfl, h1, h2⟩ := ha a (by simp); obtain ⟨m', rfl, h1', h2'⟩ := ha b (by simp); obtain ⟨m'', rfl, h1'', h2''⟩ := ha c (by simp); exact ⟨m, m', m'', rfl, ⟨h1, h1', h1''⟩, h2, h2', h2''⟩
 have l4 : acc.length = 4 → ∃ a b c d, acc = [of a, of b, of c, of d] ∧ (Tm.ht a ≤ k ∧ Tm.ht b ≤ k ∧ Tm.ht c ≤ k ∧ Tm.ht d ≤ k) ∧ Tm.lw a ∧ Tm.lw b ∧ Tm.lw c ∧ Tm.lw d := fun h => by
  match acc, h with
  | [a, b, c, d], _ => obtain ⟨m, rfl, h1, h2⟩ := ha a (by simp); obtain ⟨m', rfl, h1', h2'⟩ := ha b (by simp); obtain ⟨m'', rfl, h1'', h2''⟩ := ha c (by simp); obtain ⟨m3, rfl, h3, h4⟩ := ha d (by simp); exact ⟨m, m', m'', m3, rfl, ⟨h1, h1', h1'', h3⟩, h2, h2', h2'', h4⟩
 have o0 : ∀ {x : Int}, opsOf x = acc.length → opsOf x = 0 → acc.length = 0 := fun h h' => by omega
 have o1 : ∀ {x : Int}, opsOf x = acc.length → opsOf x = 1 → acc.length = 1 := fun h h' => by omega
 have o2 : ∀ {x : Int}, opsOf x = acc.length → opsOf x = 2 → acc.length = 2 := fun h h' => by omega
 have o3 : ∀ {x : Int}, opsOf x = acc.length → opsOf x = 3 → acc.length = 3 := fun h h' => by omega
 have o4 : ∀ {x : Int}, opsOf x = acc.length → opsOf x = 4 → acc.length = 4 := fun h h' => by omega
 have en : ((n1.toNat : Nat) : Int) = n1 := by omega
 have hc : kind = 1 ∨ kind = 2 ∨ kind = 3 ∨ kind = 4 ∨ kind = 5 ∨ kind = 6 ∨ kind = 7 ∨ kind = 8 ∨ kind = 9 ∨ kind = 10 ∨ kind = 11 ∨ kind = 12 ∨ kind = 13 ∨ kind = 14 ∨ kind = 15 ∨ kind = 16 := by omega
 rcases hc with rfl | rfl | rfl | rfl | rfl | rfl | rfl | rfl | rfl | rfl | rfl | rfl | rfl | rfl | rfl | rfl
 ·rw [l0 (o0 hk rfl), ← en]; exact ⟨.var n1.toNat, rfl, by simp [Tm.ht], show n1.toNat ≤ 3 by omega⟩
 ·rw [l0 (o0 hk rfl), ← en]; exact ⟨.sort n1.toNat, rfl, by simp [Tm.ht], show n1.toNat ≤ 3 by omega⟩
 ·obtain ⟨a, b, rfl, h, l⟩ := l2 (o2 hk rfl); rw [h0 (by decide)]; exact ⟨.pi a b, rfl, by simp only [Tm.ht]; omega, l⟩
 ·obtain ⟨a, b, rfl, h, l⟩ := l2 (o2 hk rfl); rw [h0 (by decide)]; exact ⟨.lam a b, rfl, by simp only [Tm.ht]; omega, l⟩
 ·obtain ⟨a, b, rfl, h, l⟩ := l2 (o2 hk rfl); rw [h0 (by decide)]; exact ⟨.app a b, rfl, by simp only [Tm.ht]; omega, l⟩
 ·rw [l0 (o0 hk rfl), h0 (by decide)]; exact ⟨.nat, rfl, by simp [Tm.ht], trivial⟩
 ·rw [l0 (o0 hk rfl), h0 (by decide)]; exact ⟨.zero, rfl, by simp [Tm.ht], trivial⟩
 ·obtain ⟨a, rfl, h, l⟩ := l1 (o1 hk rfl); rw [h0 (by decide)]; exact ⟨.succ a, rfl, by simp only [Tm.ht]; omega, l⟩
 ·obtain ⟨a, b, c, d, rfl, h, l⟩ := l4 (o4 hk rfl); rw [h0 (by decide)]; exact ⟨.elim a b c d, rfl, by simp only [Tm.ht]; omega, l⟩
 ·obtain ⟨a, b, c, rfl, h, l⟩ := l3 (o3 hk rfl); rw [h0 (by decide)]; exact ⟨.id a b c, rfl, by simp only [Tm.ht]; omega, l⟩
 ·obtain ⟨a, rfl, h, l⟩ := l1 (o1 hk rfl); rw [h0 (by decide)]; exact ⟨.refl a, rfl, by simp only [Tm.ht]; omega, l⟩
 ·obtain ⟨a, b, c, rfl, h, l⟩ := l3 (o3 hk rfl); rw [h0 (by decide)]; exact ⟨.move a b c, rfl, by simp only [Tm.ht]; omega, l⟩
 ·obtain ⟨a, b, rfl, h, l⟩ := l2 (o2 hk rfl); rw [h0 (by decide)]; exact ⟨.sig a b, rfl, by simp only [Tm.ht]; omega, l⟩
 ·obtain ⟨a, b, c, rfl, h, l⟩ := l3 (o3 hk rfl); rw [h0 (by decide)]; exact ⟨.pair a b c, rfl, by simp only [Tm.ht]; omega, l⟩
 ·obtain ⟨a, rfl, h, l⟩ := l1 (o1 hk rfl); rw [h0 (by decide)]; exact ⟨.fst a, rfl, by simp only [Tm.ht]; omega, l⟩
 ·obtain ⟨a, rfl, h, l⟩ := l1 (o1 hk rfl); rw [h0 (by decide)]; exact ⟨.snd a, rfl, by simp only [Tm.ht]; omega, l⟩
abbrev AH (k : Nat) (l : List UInt8) (m : Int) (r : List V1 × List au) : Prop := ∃ (t : T) (p : Int), r = ([tm t], [rdr l p]) ∧ LwT k t ∧ g6 l p m
theorem Be (Q : Int) (hQ : Q ≤ 900000000000) (n : Nat) (hn : 1 ≤ n) (l : List UInt8) (d kind : Int) (k : Nat) (M : Int)
   (ih : ∀ p m, g6 l p m → m ≤ Q → Tot (FF n 113 [.one (.ptr 0 0), nt (d - 1)] [rdr l p]) (AH k l (m + M))) (hM : 0 ≤ M ∧ M ≤ 1000000000) (hd : -100 ≤ d ∧ d ≤ 100) (z1 z2 : Int) (l0 : List T) (n1 : Int)
   (hr : 1 ≤ kind ∧ kind ≤ 16) (hn1 : 0 ≤ n1 ∧ n1 ≤ 3) (h0 : cd kind ≤ 0 → n1 = 0) :
   ∀ (g c i : Nat) (p m : Int) (acc : List T), g < c → opsOf kind = i + g → i ≤ 4 → g ≤ 4 → g6 l p m → m + g * M ≤ Q → acc.length = i → (∀ t ∈ acc, LwT k t) →
    Tot (bh n c d kind i l p z1 z2 l0 kind n1 acc) (AH (k + 1) l (m + g * M))
 | g, 0, i, p, m, acc, hg, _, _, _, _, _, _, _ => by omega
 | 0, c + 1, i, p, m, acc, _, hi, _, _, hr', _, hl, ha => by
  rw [cG, kU hn]
  simp only [evt]
  rw [decide_eq_false (show ¬ (i : Int) < opsOf kind by omega)]
  refine aq ?_
  exact ⟨.mk kind n1 acc, p, rfl, HV hr (by omega) hn1 h0 ha, by simpa using hr'⟩
 | g + 1, c + 1, i, p, m, acc, hg, hi, hi4, hg4, hr', hm, hl, ha => by
  rw [cG, kU hn]
  simp only [evt]
  have hgM : (((g + 1 : Nat)) : Int) * M = g * M + M := by rw [Int.natCast_add, Int.add_mul]; simp
  have ho := yV kind
  have hg0 : 0 ≤ (g : Int) * M := Int.mul_nonneg (by omega) hM.1
  rw [decide_eq_true (show (i : Int) < opsOf kind by omega), cond_true, wrap64 (show -9223372036854775808 ≤ d - 1 ∧ d - 1 ≤ 9223372036854775807 by omega)]
  refine ak (ih p m hr' (by rw [hgM] at hm; omega)) ?_
  rintro _ ⟨t, p', rfl, ht, hr2⟩
  have w : IntKind.i64.wrap ((i : Int) + 1) = ((i + 1 : Nat) : Int) := wrap64 (by omega)
  simp only [evt, w, List.length_append, List.length_cons, List.length_nil, hl]
  rw [aU (by omega), cond_true]
  have := Be Q hQ n hn l d kind k M ih hM hd z1 z2 l0 n1 hr hn1 h0 g c (i + 1) p' (m + M) (acc ++ [t]) (by omega) (by omega) (by omega) (by omega) hr2 (by rw [hgM] at hm; omega) (by simp [hl]) (fun u hu => by
   rcases List.mem_append.1 hu with h | h
   ·exact ha u h
   ·rw [List.mem_singleton.1 h]; exact ht)
  refine hO this ?_
  rintro _ ⟨u, q, rfl, hu, hq⟩
  exact ⟨u, q, rfl, hu, hq.mono (by rw [hgM]; omega)⟩
theorem fH (Q : Int) (hQ : Q ≤ 900000000000) {n : Nat} (hn : 10 ≤ n) (l : List UInt8) (d : Int) (k : Nat) (M : Int) (hM : 0 ≤ M ∧ M ≤ 1000000000) (hd : -100 ≤ d ∧ d ≤ 100) (leaf : d < 2 → ∀ kind : Int, opsOf kind = 0 → True)
   (ih : 2 ≤ d → ∀ m, n ≤ m + 1 → ∀ p q, g6 l p q → q ≤ Q → Tot (FF m 113 [.one (.ptr 0 0), nt (d - 1)] [rdr l p]) (AH k l (q + M))) {p m : Int} (hr : g6 l p m) (hm : m + 3 + 4 * M ≤ Q) :
   Tot (FF n 113 [.one (.ptr 0 0), nt d] [rdr l p]) (AH (k + 1) l (m + 3 + 4 * M)) := by
 refine bf (C := 9) (by omega) fun n hn e => ?_
 have fin : ∀ (kind n1 q m' : Int), (2 ≤ d ∨ opsOf kind = 0) → (1 ≤ kind ∧ kind ≤ 16) → (0 ≤ n1 ∧ n1 ≤ 3) → (cd kind ≤ 0 → n1 = 0) → g6 l q m' → m' ≤ m + 3 → Tot (bh n n d kind 0 l q 0 0 [] kind n1 []) (AH (k + 1) l (m + 3 + 4 * M)) := by
  intro kind n1 q m' hk h16 hn1 h0 hq hm'
  have h4 := yV kind
  have hp : 0 ≤ opsOf kind := by
   have hk1 : ∀ v : Int, v ∈ ([1, 2, 3, 4, 5, 6, 7, 8, 9, 10, 11, 12, 13, 14, 15, 16] : List Int) → 0 ≤ opsOf v := fun v hv => by simpa using List.all_eq_true.1 (show (([1, 2, 3, 4, 5, 6, 7, 8, 9, 10, 11, 12, 13, 14, 15, 16] : List Int).all fun v => decide (0 ≤ opsOf v)) = true by decide +kernel) v hv
   exact hk1 kind (by simp only [List.mem_cons, List.not_mem_nil, or_false]; omega)
  obtain ⟨g, hg⟩ : ∃ g : Nat, opsOf kind = g := ⟨(opsOf kind).toNat, by omega⟩
  rcases hk with hd2 | hk
  ·have hgM : (g : Int) * M ≤ 4 * M := Int.mul_le_mul_of_nonneg_right (by omega) hM.1
   have := Be Q hQ n (by omega) l d kind k M (fun p q => ih hd2 n (by omega) p q) hM hd 0 0 [] n1 h16 hn1 h0 g n 0 q m' [] (by omega) (by omega) (by omega) (by omega) hq (by omega) rfl (by simp)
   refine hO this ?_
   rintro _ ⟨u, q, rfl, hu, hq⟩
   exact ⟨u, q, rfl, hu, hq.mono (by omega)⟩
  ·obtain ⟨c, rfl⟩ : ∃ c, n = c + 1 := ⟨n - 1, by omega⟩
   rw [cG, kU (by omega), hk]
   simp only [evt]
   refine al (fun h => by simp at h) (fun _ => aq ?_)
   exact ⟨.mk kind n1 [], q, rfl, HV h16 (by rw [hk]; rfl) hn1 h0 (by simp), hq.mono (by omega)⟩
 have hk1 : ∀ v : Int, v ∈ ([1, 5, 4, 8, 9, 3, 6, 7, 11, 15, 14, 10, 12, 13, 16, 2] : List Int) → 1 ≤ v ∧ v ≤ 16 := fun v hv => by simp only [List.mem_cons, List.not_mem_nil, or_false] at hv; omega
 have hk2 : ∀ v : Int, v ∈ ([1, 7, 6, 2, 1] : List Int) → 1 ≤ v ∧ v ≤ 16 := fun v hv => by simp only [List.mem_cons, List.not_mem_nil, or_false] at hv; omega
 have hk3 : ∀ v : Int, v ∈ ([1, 7, 6, 2, 1] : List Int) → opsOf v = 0 := fun v hv => by simpa using List.all_eq_true.1 (show (([1, 7, 6, 2, 1] : List Int).all fun v => decide (opsOf v = 0)) = true by decide +kernel) v hv
 have hv3 : ∀ v : Int, v ∈ ([0, 1, 0, 2, 1, 3] : List Int) → 0 ≤ v ∧ v ≤ 3 := fun v hv => by simp only [List.mem_cons, List.not_mem_nil, or_false] at hv; omega
 rw [rB]
 refine ak (rZ (by omega) hr (by omega) (by simp) (by simp)) ?_
 rintro _ ⟨v, p1, rfl, hv, hr1⟩
 simp only [evt]
 refine al (fun _ => ?_) (fun hd2 => ?_)
 ·refine ak (rZ (by omega) hr1 (by omega) (by simp) (by simp)) ?_
  rintro _ ⟨v2, p2, rfl, hv2, hr2⟩
  simp only [evt, sg (show 1 ≤ n by omega)]
  refine al (fun hq => ?_) (fun hq => ?_)
  ·refine ak (rZ (by omega) hr2 (by omega) (by simp) (by simp)) ?_
   rintro _ ⟨v3, p3, rfl, hv3', hr3⟩
   simp only [evt]
   exact fin _ _ _ _ (.inr (hk3 _ hv2)) (hk2 _ hv2) (hv3 _ hv3') (fun h => by have := of_decide_eq_true hq; omega) hr3 (by omega)
  ·exact fin _ _ _ _ (.inr (hk3 _ hv2)) (hk2 _ hv2) (by omega) (fun _ => rfl) hr2 (by omega)
 ·have hd2 : 2 ≤ d := by have := of_decide_eq_false hd2; omega
  simp only [sg (show 1 ≤ n by omega), evt]
  refine al (fun hq => ?_) (fun hq => ?_)
  ·refine ak (rZ (by omega) hr1 (by omega) (by simp) (by simp)) ?_
   rintro _ ⟨v3, p3, rfl, hv3', hr3⟩
   simp only [evt]
   exact fin _ _ _ _ (.inl hd2) (hk1 _ hv) (hv3 _ hv3') (fun h => by have := of_decide_eq_true hq; omega) hr3 (by omega)
  ·exact fin _ _ _ _ (.inl hd2) (hk1 _ hv) (by omega) (fun _ => rfl) hr1 (by omega)
theorem ee {o : OR} {k j : Nat} {l : List UInt8} {m m' : Int} (h : Tot o (AH k l m)) (hk : k ≤ j) (hm : m ≤ m') : Tot o (AH j l m') :=
 hO h fun r ⟨t, p, e, h1, h2⟩ => ⟨t, p, e, h1.mono hk, h2.mono hm⟩
theorem uh {n : Nat} (hn : 20 ≤ n) {l : List UInt8} {p m : Int} (hr : g6 l p m) (hm : m ≤ 800000000000) : Tot (FF n 113 [.one (.ptr 0 0), nt 1] [rdr l p]) (AH 1 l (m + 3)) :=
 ee (fH 900000000000 (by omega) (by omega) l 1 0 0 (by omega) (by omega) (fun _ _ _ => trivial) (fun h => absurd h (by omega)) hr (by omega)) (by omega) (by omega)
theorem uH {n : Nat} (hn : 40 ≤ n) {l : List UInt8} {p m : Int} (hr : g6 l p m) (hm : m ≤ 700000000000) : Tot (FF n 113 [.one (.ptr 0 0), nt 2] [rdr l p]) (AH 2 l (m + 15)) :=
 ee (fH 800000000000 (by omega) (by omega) l 2 1 3 (by omega) (by omega) (fun _ _ _ => trivial) (fun _ k hk p q hr hq => uh (by omega) hr hq) hr (by omega)) (by omega) (by omega)
theorem nO {n : Nat} (hn : 60 ≤ n) {l : List UInt8} {p m : Int} (hr : g6 l p m) (hm : m ≤ 600000000000) : Tot (FF n 113 [.one (.ptr 0 0), nt 3] [rdr l p]) (AH 3 l (m + 63)) :=
 ee (fH 700000000000 (by omega) (by omega) l 3 2 15 (by omega) (by omega) (fun _ _ _ => trivial) (fun _ k hk p q hr hq => uH (by omega) hr hq) hr (by omega)) (by omega) (by omega)
theorem Di {n : Nat} (hn : 80 ≤ n) {l : List UInt8} {p m : Int} (hr : g6 l p m) (hm : m ≤ 500000000000) : Tot (FF n 113 [.one (.ptr 0 0), nt 4] [rdr l p]) (AH 4 l (m + 255)) :=
 ee (fH 600000000000 (by omega) (by omega) l 4 3 63 (by omega) (by omega) (fun _ _ _ => trivial) (fun _ k hk p q hr hq => nO (by omega) hr hq) hr (by omega)) (by omega) (by omega)
theorem nB {n : Nat} (hn : 500 ≤ n) {l : List UInt8} {p m : Int} (hr : g6 l p m) (hm : m ≤ 400000000000) : Tot (FF n 80 [.one (.ptr 0 0)] [rdr l p]) (fun r => ∃ (t : T) (p : Int), r = ([tm t], [rdr l p]) ∧ ah t = true ∧ LwT 4 t ∧ g6 l p (m + 256)) := by
 refine bf (C := 499) (by omega) fun n hn e => ?_
 rw [s5]
 refine ak (rZ (by omega) hr (by omega) (by simp) (by simp)) ?_
 rintro _ ⟨v, p1, rfl, hv, hr1⟩
 simp only [evt]
 have hd : Tot (FF n 113 [.one (.ptr 0 0), nt v] [rdr l p1]) (AH 4 l (m + 256)) := by
  simp only [List.mem_cons, List.not_mem_nil, or_false] at hv
  rcases hv with rfl | rfl | rfl | rfl | rfl
  ·exact ee (nO (by omega) hr1 (by omega)) (by omega) (by omega)
  ·exact ee (Di (by omega) hr1 (by omega)) (by omega) (by omega)
  ·exact ee (uH (by omega) hr1 (by omega)) (by omega) (by omega)
  ·exact ee (nO (by omega) hr1 (by omega)) (by omega) (by omega)
  ·exact ee (uh (by omega) hr1 (by omega)) (by omega) (by omega)
 refine ak hd ?_
 rintro _ ⟨t, p2, rfl, hz, hr2⟩
 have hz' := hz.size
 simp only [evt, aL (show t.size + 6 ≤ n by omega) (show t.size ≤ 4000000 by omega)]
 refine al (fun h => aq ?_) (fun _ => ?_)
 ·exact ⟨t, p2, rfl, h, hz, hr2⟩
 ·simp only [bx (show 1 ≤ n by omega), evt]
  refine aq ?_
  exact ⟨.mk 7 0 [], p2, rfl, zK, .zero (by omega), hr2⟩
def Hy (t y : T) : Prop := y = t ∨ y = .mk 8 0 [t] ∨ (∃ w, w ∈ ([0, 17, 1, 5, 6] : List Int) ∧ y = .mk w t.n t.kids) ∨ (∃ w, w ∈ ([21, -1, 1, 9223372036854775807] : List Int) ∧ y = .mk t.k w t.kids) ∨ y = .mk t.k t.n (t.kids ++ [.mk 7 0 []]) ∨ (0 < t.kids.length ∧ y = .mk t.k t.n (t.kids.set 0 (.mk 1 25 [])))
theorem Hy.size {t y : T} (h : Hy t y) : y.size ≤ t.size + 2 := by
 have e := T.size_eq t
 rcases h with rfl | rfl | ⟨w, _, rfl⟩ | ⟨w, _, rfl⟩ | rfl | ⟨h, rfl⟩
 ·omega
 ·simp only [T.size, T.aE]; omega
 ·simp only [T.size]; omega
 ·simp only [T.size]; omega
 ·have := BG t.kids (.mk 7 0 []); have h7 : (T.mk 7 0 []).size = 1 := rfl; simp only [T.size] at this ⊢; simp only [T.aE] at this; omega
 ·have := Ea t.kids (.mk 1 25 []) h; have h7 : (T.mk 1 25 []).size = 1 := rfl; simp only [T.size] at this ⊢; simp only [T.aE] at this; omega
theorem Fo (m : Tm) : opsOf (of m).k = ((of m).kids.length : Int) := by cases m <;> rfl
theorem J1 {m : Tm} (h : (of m).n ≠ 0) : Tm.ht m ≤ 1 := by cases m <;> first | exact Nat.le_refl 1 | exact absurd rfl h
theorem xR {m : Tm} {y : T} (h : Hy (of m) y) (hv : ah y = true) : ∃ m', y = of m' ∧ Tm.Mt m m' := by
 obtain ⟨m', rfl⟩ := cJ hv
 rcases h with h | h | ⟨w, hw, h⟩ | ⟨w, hw, h⟩ | h | ⟨h0, h⟩
 ·exact ⟨m', rfl, .inl (mo h)⟩
 ·exact ⟨m', rfl, .inr (.inl (mo (a := m') (b := .succ m) h))⟩
 ·refine ⟨m', rfl, ?_⟩
  have hk : (of m').k = w := by rw [h]; rfl
  have hkk : (of m').kids = (of m).kids := by rw [h]; rfl
  simp only [List.mem_cons, List.not_mem_nil, or_false] at hw
  rw [gE] at hk
  cases m' <;> simp only at hk <;> first
   | (exfalso; omega)
   | exact .inr (.inr (.inl (Nat.le_refl 1)))
   | (rename_i a b
      cases m <;> simp only [of, T.kids, List.cons.injEq, reduceCtorEq, and_true, and_false, false_and] at hkk <;>
       (obtain ⟨e1, e2⟩ := hkk; have e1 := mo e1; have e2 := mo e2; subst e1; subst e2)
      ·exact .inr (.inr (.inr ⟨_, _, .inl rfl, rfl⟩))
      ·exact .inr (.inr (.inr ⟨_, _, .inr (.inr rfl), rfl⟩))
      ·exact .inl rfl
      ·exact .inr (.inr (.inr ⟨_, _, .inr (.inl rfl), rfl⟩)))
 ·refine ⟨m', rfl, .inr (.inr (.inl (J1 ?_)))⟩
  have hk : (of m').n = w := by rw [h]; rfl
  simp only [List.mem_cons, List.not_mem_nil, or_false] at hw
  omega
 ·exfalso
  have hk : (of m').k = (of m).k := by rw [h]; rfl
  have hkk : (of m').kids = (of m).kids ++ [.mk 7 0 []] := by rw [h]; rfl
  have h1 := Fo m'
  rw [hk, Fo m, hkk, List.length_append] at h1
  simp at h1; omega
 ·exfalso
  have hkk : (of m').kids = (of m).kids.set 0 (.mk 1 25 []) := by rw [h]; rfl
  have : ah (.mk 1 25 []) = true := bF hv (by rw [hkk]; exact List.mem_iff_getElem.2 ⟨0, by simpa using h0, by simp⟩)
  revert this; decide +kernel
theorem lz {n : Nat} {t : T} (hz : t.size ≤ 500000) (hn : t.size + 500 ≤ n) {l : List UInt8} {p m : Int} (hr : g6 l p m) (hm : m ≤ 500000000000) : Tot (FF n 84 [.one (.ptr 0 0), tm t] [rdr l p]) (fun r => ∃ (y : T) (p : Int), r = ([tm y], [rdr l p]) ∧ Hy t y ∧ g6 l p (m + 2)) := by
 refine bf (C := t.size + 499) (by omega) fun n hn e => ?_
 have hsz := T.size_eq t
 have hl := T.br t.kids
 rw [oI, hJ t (by omega) (by omega)]
 simp only [evt]
 refine ak (gu (by omega) hr (by omega) (by omega)) ?_
 rintro _ ⟨v, p1, rfl, hv0, hv1, hr1⟩
 have hap : cr (t.kids ++ [T.mk 7 0 []]).length = true := aU (by simp; omega)
 simp (disch := simp) only [evt, bx (show 1 ≤ n by omega), bE (show 1 ≤ n by omega), hap]
 repeat' (first | (simp (disch := omega) only [wrap64]; done) | (simp (disch := omega) only [wrap64]) | (with_reducible refine al (fun hq => ?_) (fun hq => ?_) <;> (try simp (disch := omega) only [wrap64] at hq) <;> (try simp only [decide_eq_true_eq, decide_eq_false_iff_not, Bool.not_eq_true', Bool.not_eq_false', Bool.and_eq_true, Bool.and_eq_false_iff, inB, Bool.not_true, Bool.not_false] at hq) <;> try (exfalso; omega; done)) | (with_reducible refine ak (rZ (by omega) hr1 (by omega) (by simp) (by simp)) ?_; rintro _ ⟨w, p2, rfl, hw, hr2⟩; simp only [evt]) | ((with_reducible refine aq ?_); (exact ⟨.mk w t.n t.kids, _, rfl, .inr (.inr (.inl ⟨w, hw, rfl⟩)), hr2.mono (by omega)⟩)) | ((with_reducible refine aq ?_); (exact ⟨.mk t.k w t.kids, _, rfl, .inr (.inr (.inr (.inl ⟨w, hw, rfl⟩))), hr2.mono (by omega)⟩)) | ((with_reducible refine aq ?_); (exact ⟨t, _, rfl, .inl rfl, hr1.mono (by omega)⟩)) | ((with_reducible refine aq ?_); (exact ⟨.mk t.k t.n (t.kids ++ [.mk 7 0 []]), _, rfl, .inr (.inr (.inr (.inr (.inl rfl)))), hr1.mono (by omega)⟩)) | ((with_reducible refine aq ?_); (exact ⟨.mk 8 0 [t], _, rfl, .inr (.inl rfl), hr1.mono (by omega)⟩)) | ((with_reducible refine aq ?_); (exact ⟨.mk t.k t.n (t.kids.set 0 (.mk 1 25 [])), _, rfl, .inr (.inr (.inr (.inr (.inr ⟨by omega, rfl⟩)))), hr1.mono (by omega)⟩)))
def NTI (v : Int) (t : T) : Prop := ∃ m : Tm, t = of m ∧ Tm.NT v.toNat m
theorem Bq {v : Int} : NTI v (.mk 7 0 []) := ⟨.zero, rfl, .zero⟩
theorem Fv {v w : Int} (h : 0 ≤ w) (h2 : w < v) : NTI v (.mk 1 w []) := ⟨.var w.toNat, by rw [of, Int.toNat_of_nonneg h], .var (by omega)⟩
theorem IL {v : Int} {x y : T} (hv : 0 ≤ v) (h : NTI (v + 1) x) (k : NTI v y) : NTI v (.mk 5 0 [.mk 4 0 [.mk 6 0 [], x], y]) := by
 obtain ⟨a, rfl, h⟩ := h; obtain ⟨b, rfl, k⟩ := k
 rw [show (v + 1).toNat = v.toNat + 1 by omega] at h
 exact ⟨_, rfl, .app h k⟩
theorem F6 {v : Int} {x y z : T} (hv : 0 ≤ v) (h : NTI v x) (k : NTI (v + 2) y) (j : NTI v z) : NTI v (.mk 9 0 [.mk 4 0 [.mk 6 0 [], .mk 6 0 []], x, .mk 4 0 [.mk 6 0 [], .mk 4 0 [.mk 6 0 [], y]], z]) := by
 obtain ⟨a, rfl, h⟩ := h; obtain ⟨b, rfl, k⟩ := k; obtain ⟨c, rfl, j⟩ := j
 rw [show (v + 2).toNat = v.toNat + 2 by omega] at k
 exact ⟨_, rfl, .elim h k j⟩
theorem Gw {v w : Int} {x y : T} (hw : w ∈ ([15, 16] : List Int)) (h : NTI v x) (k : NTI v y) : NTI v (.mk w 0 [.mk 14 0 [.mk 13 0 [.mk 6 0 [], .mk 6 0 []], x, y]]) := by
 obtain ⟨a, rfl, h⟩ := h; obtain ⟨b, rfl, k⟩ := k
 simp only [List.mem_cons, List.not_mem_nil, or_false] at hw
 rcases hw with rfl | rfl
 ·exact ⟨_, rfl, .fst h k⟩
 ·exact ⟨_, rfl, .snd h k⟩
theorem F0 {v : Int} {x y : T} (h : NTI v x) (k : NTI v y) : NTI v (.mk 12 0 [.mk 4 0 [.mk 6 0 [], .mk 6 0 []], .mk 11 0 [x], y]) := by
 obtain ⟨a, rfl, h⟩ := h; obtain ⟨b, rfl, k⟩ := k
 exact ⟨_, rfl, .move h k⟩
theorem GJ {v : Int} {x : T} (h : NTI v x) : NTI v (.mk 8 0 [x]) := by
 obtain ⟨a, rfl, h⟩ := h
 exact ⟨_, rfl, .succ h⟩
abbrev KI (v : Int) (z : Nat) (l : List UInt8) (m : Int) (r : List V1 × List au) : Prop := ∃ (t : T) (p : Int), r = ([tm t], [rdr l p]) ∧ (t.size ≤ z ∧ NTI v t) ∧ g6 l p m
theorem Cy : ∀ (k : Nat) {n : Nat} {l : List UInt8} {p m v d : Int}, 20 * k + 20 ≤ n → (0 ≤ v ∧ v + 2 * k ≤ 1000) → (-10 ≤ d ∧ d ≤ k) → g6 l p m → m + rdN k ≤ 1000000000 → Tot (FF n 87 [.one (.ptr 0 0), nt v, nt d] [rdr l p]) (KI v (szN k) l (m + rdN k))
 | 0, n, l, p, m, v, d, hn, hv, hd, hr, hm => by
  refine bf (C := 19) (by omega) fun n hn e => ?_
  rw [lV]
  simp only [bx (show 1 ≤ n by omega), evt]
  rw [decide_eq_true (show d < 1 by omega), cond_true]
  simp only [szN, rdN] at hm ⊢
  repeat' (first | (simp (disch := omega) only [wrap64]; done) | (simp (disch := omega) only [wrap64]) | (with_reducible refine al (fun hq => ?_) (fun hq => ?_) <;> (try simp (disch := omega) only [wrap64] at hq) <;> (try simp only [decide_eq_true_eq, decide_eq_false_iff_not, Bool.not_eq_true', Bool.not_eq_false', Bool.and_eq_true, Bool.and_eq_false_iff, inB, Bool.not_true, Bool.not_false] at hq) <;> try (exfalso; omega; done)) | (with_reducible refine ak (gu (by omega) hr (by omega) (by omega)) ?_; rintro _ ⟨w, p, rfl, hw, hw2, hr⟩; simp only [evt]) | (with_reducible refine ak (t_l1Leaf (by omega) _ _) ?_; rintro _ rfl; simp only [evt]) | ((with_reducible refine aq ?_); (exact ⟨.mk 7 0 [], _, rfl, ⟨by simp [T.size, T.aE], Bq⟩, hr.mono (by omega)⟩)) | ((with_reducible refine aq ?_); (exact ⟨.mk 1 _ [], _, rfl, ⟨by simp [T.size, T.aE], Fv (by omega) (by omega)⟩, hr.mono (by omega)⟩)))
 | k + 1, n, l, p, m, v, d, hn, hv, hd, hr, hm => by
  refine bf (C := 20 * k + 39) (by omega) fun n hn e => ?_
  have ih := @Cy k n l
  have s1 := Hg k
  have s2 := A5 k
  rw [lV]
  simp only [bx (show 1 ≤ n by omega), evt]
  simp only [szN, rdN] at hm ⊢
  repeat' (first | (simp (disch := omega) only [wrap64]; done) | (simp (disch := omega) only [wrap64]) | (with_reducible refine al (fun hq => ?_) (fun hq => ?_) <;> (try simp (disch := omega) only [wrap64] at hq) <;> (try simp only [decide_eq_true_eq, decide_eq_false_iff_not, Bool.not_eq_true', Bool.not_eq_false', Bool.and_eq_true, Bool.and_eq_false_iff, inB, Bool.not_true, Bool.not_false] at hq) <;> try (exfalso; omega; done)) | (with_reducible refine ak (gu (by omega) hr (by omega) (by omega)) ?_; rintro _ ⟨w, p, rfl, hw, hw2, hr⟩; simp only [evt]) | (with_reducible refine ak (rZ (by omega) hr (by omega) (by simp) (by simp)) ?_; rintro _ ⟨w, p, rfl, hw, hr⟩; simp only [evt]) | (with_reducible refine ak (t_l1Leaf (by omega) _ _) ?_; rintro _ rfl; simp only [evt]) | (with_reducible refine ak (DU (by omega) _ _ (by simp)) ?_; rintro _ rfl; simp only [evt]) | (with_reducible refine ak (ih (by omega) (by omega) (by omega) hr (by omega)) ?_; rintro _ ⟨t, p, rfl, ⟨hz, ht⟩, hr⟩; simp only [evt]) | ((with_reducible refine aq ?_); (exact ⟨.mk 7 0 [], _, rfl, ⟨by simp only [T.size, T.aE]; omega, Bq⟩, hr.mono (by omega)⟩)) | ((with_reducible refine aq ?_); (exact ⟨.mk 1 _ [], _, rfl, ⟨by simp only [T.size, T.aE]; omega, Fv (by omega) (by omega)⟩, hr.mono (by omega)⟩)) | ((with_reducible refine aq ?_); (exact ⟨.mk 5 0 [.mk 4 0 [.mk 6 0 [], _], _], _, rfl, ⟨by simp only [T.size, T.aE]; omega, IL (by omega) (by assumption) (by assumption)⟩, hr.mono (by omega)⟩)) | ((with_reducible refine aq ?_); (exact ⟨.mk 9 0 [.mk 4 0 [.mk 6 0 [], .mk 6 0 []], _, .mk 4 0 [.mk 6 0 [], .mk 4 0 [.mk 6 0 [], _]], _], _, rfl, ⟨by simp only [T.size, T.aE]; omega, F6 (by omega) (by assumption) (by assumption) (by assumption)⟩, hr.mono (by omega)⟩)) | ((with_reducible refine aq ?_); (exact ⟨.mk _ 0 [.mk 14 0 [.mk 13 0 [.mk 6 0 [], .mk 6 0 []], _, _]], _, rfl, ⟨by simp only [T.size, T.aE]; omega, Gw hw (by assumption) (by assumption)⟩, hr.mono (by omega)⟩)) | ((with_reducible refine aq ?_); (exact ⟨.mk 12 0 [.mk 4 0 [.mk 6 0 [], .mk 6 0 []], .mk 11 0 [_], _], _, rfl, ⟨by simp only [T.size, T.aE]; omega, F0 (by assumption) (by assumption)⟩, hr.mono (by omega)⟩)) | ((with_reducible refine aq ?_); (exact ⟨.mk 8 0 [_], _, rfl, ⟨by simp only [T.size, T.aE]; omega, GJ (by assumption)⟩, hr.mono (by omega)⟩)) | ((with_reducible refine aq ?_); (exact ⟨_, _, rfl, ⟨by omega, by assumption⟩, hr.mono (by omega)⟩)))
end Go.Proofs.YtajlknlnmmbfcaaGreat
end
section
namespace Go.Proofs.YtajlknlnmmbfcaaGreat
open Go Go.Ab Go.Dk
open Tm (iP Bse Dn NT Ao)
def ER (s : ByteArray) (m : Tm) : Prop := s.size ≤ 300 ∧ (s.toList == (bytesOf []).toList) = false ∧ (∀ k, FF (k + 200) 155 [tm (of m)] [] = some ([st s], [])) ∧ pa s 30 0 = some (of m, s.size)
def paB (s : ByteArray) (m : Tm) : Bool := decide (s.size ≤ 300) && (decide ((of m).size ≤ 500) && (match pa s 30 0 with
 | some x => T.beq x.1 (of m) && decide (x.2 = s.size)
 | none => false))
theorem FY {s : ByteArray} {m : Tm} (h : paB s m = true) : s.size ≤ 300 ∧ (of m).size ≤ 500 ∧ pa s 30 0 = some (of m, s.size) := by
 simp only [paB, Bool.and_eq_true, decide_eq_true_eq] at h
 obtain ⟨h1, h2, h3⟩ := h
 refine ⟨h1, h2, ?_⟩
 split at h3
 ·rename_i x e
  simp only [Bool.and_eq_true, decide_eq_true_eq] at h3
  rw [e, ← (T.beq_iff _ _).1 h3.1, ← h3.2]
 ·cases h3
theorem rM {s : ByteArray} {m : Tm} (h : (!(s.toList == (bytesOf []).toList) && paB s m) = true) (hf : ∀ k, FF (k + 200) 155 [tm (of m)] [] = some ([st s], [])) : ER s m := by
 rw [Bool.and_eq_true, Bool.not_eq_true'] at h
 obtain ⟨h1, _, h3⟩ := FY h.2
 exact ⟨h1, h.1, hf, h3⟩
set_option maxRecDepth 100000 in
theorem er0 : ER (bytesOf [42, 48]) (.sort 0) := rM (by decide +kernel) fun n => by kernel_rfl
set_option maxRecDepth 100000 in
theorem er1 : ER (bytesOf [35, 48]) (.var 0) := rM (by decide +kernel) fun n => by kernel_rfl
set_option maxRecDepth 100000 in
theorem er2 : ER (bytesOf [40, 35, 49, 62, 35, 50, 41]) (.pi (.var 1) (.var 2)) := rM (by decide +kernel) fun n => by kernel_rfl
set_option maxRecDepth 100000 in
theorem er3 : ER (bytesOf [78]) .nat := rM (by decide +kernel) fun n => by kernel_rfl
set_option maxRecDepth 100000 in
theorem er4 : ER (bytesOf [123, 78, 44, 35, 48, 44, 43, 48, 125]) (.id .nat (.var 0) (.succ .zero)) := rM (by decide +kernel) fun n => by kernel_rfl
set_option maxRecDepth 100000 in
theorem er5 : ER (bytesOf [40, 78, 62, 42, 48, 41]) (.pi .nat (.sort 0)) := rM (by decide +kernel) fun n => by kernel_rfl
set_option maxRecDepth 100000 in
theorem er6 : ER (bytesOf [40, 78, 62, 40, 35, 49, 32, 35, 48, 41, 41]) (.pi .nat (.app (.var 1) (.var 0))) := rM (by decide +kernel) fun n => by kernel_rfl
set_option maxRecDepth 100000 in
theorem er7 : ER (bytesOf [33, 35, 49]) (.refl (.var 1)) := rM (by decide +kernel) fun n => by kernel_rfl
set_option maxRecDepth 100000 in
theorem er8 : ER (bytesOf [40, 35, 48, 32, 48, 41]) (.app (.var 0) .zero) := rM (by decide +kernel) fun n => by kernel_rfl
def E2 : List ByteArray → List Tm → Prop
 | [], [] => True
 | s :: ss, m :: ms => ER s m ∧ E2 ss ms
 | _, _ => False
theorem yY (n : Nat) (hn : 7000 ≤ n) (ss : List ByteArray) (hl : ss.length ≤ 100) : ∀ (rest : List ByteArray) (ms : List Tm) (c i : Nat) (acc : List T), rest.length < c → ss.drop i = rest → i ≤ ss.length → E2 rest ms → acc.length ≤ i →
   Tot (cq n c ss i acc) (fun r => r = ([tms (acc ++ ms.map of)], []))
 | rest, ms, 0, i, acc, hg, _, _, _, _ => by omega
 | [], [], c + 1, i, acc, _, hd, hi, _, ha => by
  have h0 := congrArg List.length hd
  rw [List.length_drop, List.length_nil] at h0
  rw [cH, decide_eq_false (show ¬ (i : Int) < ss.length by omega), List.map_nil, List.append_nil]
  exact ⟨_, rfl, rfl⟩
 | s :: rest, m :: ms, c + 1, i, acc, hg, hd, hi, hr, ha => by
  have h0 := congrArg List.length hd
  rw [List.length_drop, List.length_cons] at h0
  have hlt : i < ss.length := by omega
  rw [List.drop_eq_getElem_cons hlt] at hd
  injection hd with hd1 hd2
  obtain ⟨⟨r1, r2, r3, r4⟩, hr⟩ := hr
  rw [cH, decide_eq_true (show (i : Int) < ss.length by omega), decide_eq_true (show 0 ≤ (i : Int) by omega), Int.toNat_natCast, List.getElem?_eq_getElem hlt]
  simp only [cond_true, Option.bind_some]
  rw [hd1]
  refine ak (yD (n := n) (s := s) (t := of m) (by omega) (by omega) r2 r3 r4) ?_
  rintro _ rfl
  have w : IntKind.i64.wrap ((i : Int) + 1) = ((i + 1 : Nat) : Int) := wrap64 (by omega)
  rw [w]
  simp only [evt, cond_true]
  rw [aU (by simp; omega), cond_true]
  have nx := yY n hn ss hl rest ms c (i + 1) (acc ++ [of m]) (by simp only [List.length_cons] at hg; omega) hd2 (by omega) hr (by simp; omega)
  rw [List.append_assoc, List.singleton_append] at nx
  exact nx
 | [], m :: ms, c + 1, i, acc, _, _, _, hr, _ => hr.elim
 | s :: ss', [], c + 1, i, acc, _, _, _, hr, _ => hr.elim
theorem ry (n : Nat) (hn : 7000 ≤ n) (ss : List ByteArray) (ms : List Tm) (hs : ∀ s ∈ ss, ∃ m ∈ ms, paB s m = true) (hl : ss.length ≤ 1000) : ∀ (g c i : Nat) (acc : List T), g < c → i + g = ss.length → acc.length ≤ i → (∀ t ∈ acc, ∃ m ∈ ms, t = of m) →
   Tot (cq n c ss i acc) (fun r => ∃ ts, r = ([tms ts], []) ∧ (∀ t ∈ ts, ∃ m ∈ ms, t = of m) ∧ ts.length ≤ ss.length ∧ acc.length ≤ ts.length ∧ ((∃ s ∈ ss.drop i, ∃ m, ER s m) → ts ≠ []))
 | g, 0, i, acc, hg, _, _, _ => by omega
 | 0, c + 1, i, acc, _, hi, ha, hz => by
  rw [cH, decide_eq_false (show ¬ (i : Int) < ss.length by omega), List.drop_of_length_le (by omega)]
  exact ⟨_, rfl, acc, rfl, hz, by omega, Nat.le_refl _, fun ⟨s, h, _⟩ => by cases h⟩
 | g + 1, c + 1, i, acc, hg, hi, ha, hz => by
  have hlt : i < ss.length := by omega
  obtain ⟨m, hm, hp⟩ := hs _ (List.getElem_mem hlt)
  obtain ⟨p1, p2, p3⟩ := FY hp
  rw [cH, decide_eq_true (show (i : Int) < ss.length by omega), decide_eq_true (show 0 ≤ (i : Int) by omega), Int.toNat_natCast, List.getElem?_eq_getElem hlt]
  simp only [cond_true, Option.bind_some]
  obtain ⟨r, e, t, b, rfl, hb⟩ := EK (n := n) (s := ss[i]) (by omega) (by omega) p2 p3
  have w : IntKind.i64.wrap ((i : Int) + 1) = ((i + 1 : Nat) : Int) := wrap64 (by omega)
  rw [e, w]
  simp only [evt]
  rw [List.drop_eq_getElem_cons hlt]
  cases b with
  | true =>
   simp only [cond_true]
   rw [aU (by simp; omega), cond_true]
   refine hO (ry n hn ss ms hs hl g c (i + 1) (acc ++ [t]) (by omega) (by omega) (by simp; omega) (fun u hu => ?_)) ?_
   ·rcases List.mem_append.1 hu with h | h
    ·exact hz u h
    ·rw [List.mem_singleton.1 h]; exact ⟨m, hm, hb rfl⟩
   ·rintro _ ⟨ts, rfl, h1, h2, h3, h4⟩
    simp only [List.length_append, List.length_cons, List.length_nil] at h3
    exact ⟨ts, rfl, h1, h2, by omega, fun _ h => by rw [h] at h3; simp at h3⟩
  | false =>
   simp only [cond_false]
   refine hO (ry n hn ss ms hs hl g c (i + 1) acc (by omega) (by omega) (by omega) hz) ?_
   rintro _ ⟨ts, rfl, h1, h2, h3, h4⟩
   refine ⟨ts, rfl, h1, h2, h3, fun ⟨s, hs', m', hr⟩ => ?_⟩
   rcases List.mem_cons.1 hs' with rfl | h
   ·obtain ⟨r1, r2, r3, r4⟩ := hr
    obtain ⟨r, e', hr⟩ := yD (n := n) (by omega) (by omega) r2 r3 r4
    rw [e, hr] at e'
    simp only [Option.some.injEq, Prod.mk.injEq, List.cons.injEq, bl, V1.one.injEq, SV.bool.injEq, Bool.false_eq_true, false_and, and_false] at e'
   ·exact h4 ⟨s, h, m', hr⟩
theorem tw {n : Nat} (hn : 7100 ≤ n) (ss : List ByteArray) (ms : List Tm) (hl : ss.length ≤ 100) (h : E2 ss ms) : Tot (FF n 89 [.one (.fr (.ss ss))] []) (fun r => r = ([tms (ms.map of)], [])) := by
 refine bf (C := 7099) (by omega) fun n hn e => ?_
 rw [kv]
 exact yY n (by omega) ss hl ss ms n 0 [] (by omega) rfl (by omega) h (by simp)
theorem uT {n : Nat} (hn : 7100 ≤ n) (ss : List ByteArray) (ms : List Tm) (hs : ∀ s ∈ ss, ∃ m ∈ ms, paB s m = true) (hl : ss.length ≤ 1000) :
   Tot (FF n 89 [.one (.fr (.ss ss))] []) (fun r => ∃ ts, r = ([tms ts], []) ∧ (∀ t ∈ ts, ∃ m ∈ ms, t = of m) ∧ ts.length ≤ ss.length ∧ ((∃ s ∈ ss, ∃ m, ER s m) → ts ≠ [])) := by
 refine bf (C := 7099) (by omega) fun n hn e => ?_
 rw [kv]
 refine hO (ry n (by omega) ss ms hs hl ss.length n 0 [] (by omega) (by omega) (by simp) (by simp)) ?_
 rintro _ ⟨ts, rfl, h1, h2, h3, h4⟩
 exact ⟨ts, rfl, h1, h2, by simpa using h4⟩
theorem D7 {b : List ByteArray} {ms : List Tm} (h : (b.all fun s => ms.any fun m => paB s m) = true) : ∀ s ∈ b, ∃ m ∈ ms, paB s m = true := fun s hs => by
 simpa using List.all_eq_true.1 h s hs
theorem vv {n : Nat} (hn : 1 ≤ n) (v : Int) : Tot (FF n 88 [nt v] []) (fun r => ∃ a b p, p ∈ iP ∧ r = ([.one (.fr (.ss a)), .one (.fr (.ss b))], []) ∧ E2 a p.1.reverse ∧ (∀ s ∈ b, ∃ m ∈ p.2, paB s m = true) ∧ a.length ≤ 6 ∧ b.length ≤ 100 ∧ ∃ s ∈ b, ∃ m, ER s m) := by
 refine bf (C := 0) (by omega) fun n hn e => ?_
 rw [py]
 have g : ∀ k (h : k < iP.length), iP[k] ∈ iP := fun k h => List.getElem_mem h
 refine al (fun _ => ⟨_, rfl, _, _, _, g 0 (by decide), rfl, (show E2 [] [] from trivial), D7 (by decide +kernel), by simp, by simp, _, ?_, _, er5⟩) (fun _ => ?_)
 ·simp
 refine al (fun _ => ⟨_, rfl, _, _, _, g 1 (by decide), rfl, (show E2 _ [.sort 0, .var 0, .pi (.var 1) (.var 2)] from ⟨er0, er1, er2, trivial⟩), D7 (by decide +kernel), by simp, by simp, _, ?_, _, er7⟩) (fun _ => ?_)
 ·simp
 refine al (fun _ => ⟨_, rfl, _, _, _, g 2 (by decide), rfl, (show E2 _ [.nat, .id .nat (.var 0) (.succ .zero)] from ⟨er3, er4, trivial⟩), D7 (by decide +kernel), by simp, by simp, _, ?_, _, er1⟩) (fun _ => ⟨_, rfl, _, _, _, g 3 (by decide), rfl, (show E2 _ [.pi .nat (.sort 0), .pi .nat (.app (.var 1) (.var 0))] from ⟨er5, er6, trivial⟩), D7 (by decide +kernel), by simp, by simp, _, ?_, _, er8⟩)
 ·simp
 ·simp
abbrev E3 (l : List UInt8) (m : Int) (r : List V1 × List au) : Prop := ∃ (G : List Tm) (a : Tm) (p : Int), r = ([tms (cx G), tm (of a)], [rdr l p]) ∧ Bse G a ∧ vdM a = true ∧ g6 l p m
theorem DE : (iP.all fun p => p.2.all vdM) = true := by decide +kernel
theorem uX {ts : List T} {p : List Tm × List Tm} {w : Nat} (hp : p ∈ iP) (h : ∀ t ∈ ts, ∃ m ∈ p.2, t = of m) (hw : w < ts.length) : ∃ a, ts[w] = of a ∧ Bse p.1 a ∧ vdM a = true := by
 obtain ⟨m, hm, e⟩ := h _ (List.getElem_mem hw)
 exact ⟨m, e, .inr ⟨p, hp, rfl, hm⟩, List.all_eq_true.1 (List.all_eq_true.1 DE p hp) m hm⟩
theorem E0 (G : List Tm) : G.reverse.map of = cx G := by rw [cx, List.map_reverse]
theorem GU (v : Nat) : cx (Ao v) = List.replicate v (.mk 6 0 []) := by simp [cx, Ao, of]
theorem pT (n : Nat) (hn : 20000 ≤ n) (l : List UInt8) (z1 z2 : Int) (l0 : List T) (v : Nat) (hv : v ≤ 2) : ∀ (g c i : Nat) (p m : Int), g < c → i + g = v → g6 l p m → m ≤ 1000 →
   Tot (cK n c v i l p z1 z2 l0 (List.replicate i (.mk 6 0 []))) (E3 l 1000000)
 | g, 0, i, p, m, hg, _, _, _ => by omega
 | 0, c + 1, i, p, m, _, hi, hr, hm => by
  rw [eT, decide_eq_false (show ¬ (i : Int) < v by omega), cond_false]
  refine ak (rZ (by omega) hr (by omega) (by simp) (by simp)) ?_
  rintro _ ⟨w, p, rfl, hw, hr⟩
  simp only [evt]
  have hw4 : 0 ≤ w ∧ w ≤ 4 := by
   simp only [List.mem_cons, List.not_mem_nil, or_false] at hw
   omega
  have e0 : szN 4 = 401 := by decide
  have e1 : rdN 4 = 242 := by decide
  refine ak (Cy 4 (by omega) (by omega) (by omega) hr (by omega)) ?_
  rintro _ ⟨t, p, rfl, ⟨hz2, ht⟩, hr⟩
  simp only [evt]
  rw [aL (show t.size + 6 ≤ n by omega) (by omega)]
  simp only [evt]
  refine al (fun hq => ?_) (fun _ => ?_)
  ·obtain ⟨a, rfl, hnt⟩ := ht
   have : i = v := by omega
   subst this
   exact aq ⟨Ao i, a, p, by rw [GU], .inl ⟨i, hv, rfl, hnt, hq⟩, hq, hr.mono (by omega)⟩
  refine ak (gu (by omega) hr (by omega) (by omega)) ?_
  rintro _ ⟨w, p, rfl, hw, hw2, hr⟩
  simp only [evt]
  refine ak (vv (by omega) w) ?_
  rintro _ ⟨a, b, q, hq, rfl, ha1, hb1, ha2, hb2, hx⟩
  simp only [evt]
  refine ak (uT (by omega) b q.2 hb1 (by omega)) ?_
  rintro _ ⟨ts, rfl, ht1, ht2, ht3⟩
  simp only [evt]
  refine ak (tw (by omega) a q.1.reverse (by omega) ha1) ?_
  rintro _ rfl
  simp only [evt]
  have hpos := List.length_pos_iff.2 (ht3 hx)
  refine ak (gu (by omega) hr (by omega) (by omega)) ?_
  rintro _ ⟨w, p, rfl, hw, hw2, hr⟩
  have hw2 := hw2 (by omega)
  have hlt : w.toNat < ts.length := by omega
  simp only [evt]
  rw [decide_eq_true hw, cond_true, List.getElem?_eq_getElem hlt, E0]
  obtain ⟨m0, em, k1, k2⟩ := uX hq ht1 hlt
  rw [em]
  exact aq ⟨q.1, m0, p, rfl, k1, k2, hr.mono (by omega)⟩
 | g + 1, c + 1, i, p, m, hg, hi, hr, hm => by
  rw [eT, decide_eq_true (show (i : Int) < v by omega), cond_true, bx (show 1 ≤ n by omega)]
  simp only [evt]
  have w : IntKind.i64.wrap ((i : Int) + 1) = ((i + 1 : Nat) : Int) := wrap64 (by omega)
  rw [aU (by simp; omega), cond_true, w]
  have nx := pT n hn l z1 z2 l0 v hv g c (i + 1) p m (by omega) (by omega) hr hm
  rw [List.replicate_succ'] at nx
  with_reducible exact nx
theorem Et {n : Nat} (hn : 20001 ≤ n) {l : List UInt8} {p m : Int} (hr : g6 l p m) (hm : m ≤ 100) : Tot (FF n 49 [.one (.ptr 0 0)] [rdr l p]) (E3 l 1000000) := by
 refine bf (C := 20000) (by omega) fun n hn e => ?_
 rw [rQ]
 refine ak (gu (by omega) hr (by omega) (by omega)) ?_
 rintro _ ⟨w, p, rfl, hw, hw2, hr⟩
 simp only [evt]
 refine al (fun _ => ?_) (fun _ => ?_)
 ·refine ak (rZ (by omega) hr (by omega) (by simp) (by simp)) ?_
  rintro _ ⟨w, p, rfl, hw, hr⟩
  simp only [evt]
  obtain ⟨v, rfl, hv⟩ : ∃ v : Nat, w = v ∧ v ≤ 2 := by
   simp only [List.mem_cons, List.not_mem_nil, or_false] at hw
   exact ⟨w.toNat, by omega, by omega⟩
  exact pT n hn l 0 0 [] v hv v n 0 p _ (by omega) (by omega) hr (by omega)
 ·refine ak (gu (by omega) hr (by omega) (by omega)) ?_
  rintro _ ⟨w, p, rfl, hw, hw2, hr⟩
  simp only [evt]
  refine ak (vv (by omega) w) ?_
  rintro _ ⟨a, b, q, hq, rfl, ha1, hb1, ha2, hb2, hx⟩
  simp only [evt]
  refine ak (uT (by omega) b q.2 hb1 (by omega)) ?_
  rintro _ ⟨ts, rfl, ht1, ht2, ht3⟩
  simp only [evt]
  refine ak (tw (by omega) a q.1.reverse (by omega) ha1) ?_
  rintro _ rfl
  simp only [evt]
  have hpos := List.length_pos_iff.2 (ht3 hx)
  refine ak (gu (by omega) hr (by omega) (by omega)) ?_
  rintro _ ⟨w, p, rfl, hw, hw2, hr⟩
  have hw2 := hw2 (by omega)
  have hlt : w.toNat < ts.length := by omega
  simp only [evt]
  rw [decide_eq_true hw, cond_true, List.getElem?_eq_getElem hlt, E0]
  obtain ⟨m0, em, k1, k2⟩ := uX hq ht1 hlt
  rw [em]
  exact aq ⟨q.1, m0, p, rfl, k1, k2, hr.mono (by omega)⟩
def DwT (v0 : List T) (t : T) (g : List T) (y : T) : Prop := 8 < g.length ∨ (Hy t y ∧ (g = v0 ∨ (0 < v0.length ∧ g = v0.drop 1) ∨ ∃ A, LwT 4 A ∧ g = v0 ++ [A])) ∨ (g = v0 ∧ LwT 4 y) ∨ (g = v0 ∧ ∃ (j : Nat) (v : T), j < t.kids.length ∧ LwT 4 v ∧ y = .mk t.k t.n (t.kids.set j v))
abbrev xW (v0 : List T) (t : T) (l : List UInt8) (m : Int) (r : List V1 × List au) : Prop := ∃ (g : List T) (y : T) (p : Int), r = ([tms g, tm y], [rdr l p]) ∧ (y.size ≤ 1000 ∧ DwT v0 t g y) ∧ (∀ u ∈ g, ah u = true) ∧ g.length ≤ 10 ∧ g6 l p m
theorem uG (n : Nat) (hn : 20000 ≤ n) (l : List UInt8) (t : T) (ht : t.size ≤ 400) (z1 z2 : Int) (l0 v0 : List T) : ∀ (g c : Nat) (p m : Int) (acc : List T), g < c → acc.length + g = 9 → g6 l p m → m ≤ 300000000000 → (∀ u ∈ acc, ah u = true) →
   Tot (b6 n c l p t.k t.n t.kids z1 z2 l0 acc) (xW v0 t l (m + 1000))
 | g, 0, p, m, acc, hg, _, _, _, _ => by omega
 | 0, c + 1, p, m, acc, _, ha, hr, hm, hz => by
  rw [dJ, decide_eq_false (show ¬ ((acc.length : Nat) : Int) ≤ 8 by omega), cond_false]
  refine ak (lz (t := t) (by omega) (by omega) hr (by omega)) ?_
  rintro _ ⟨y, p, rfl, hy, hr⟩
  have hys := hy.size
  simp only [evt]
  exact aq ⟨acc, y, p, rfl, ⟨by omega, .inl (by omega)⟩, hz, by omega, hr.mono (by omega)⟩
 | g + 1, c + 1, p, m, acc, hg, ha, hr, hm, hz => by
  rw [dJ, decide_eq_true (show ((acc.length : Nat) : Int) ≤ 8 by omega), cond_true, bx (show 1 ≤ n by omega)]
  simp only [evt]
  rw [aU (by simp; omega), cond_true]
  have nx := uG n hn l t ht z1 z2 l0 v0 g c p m (acc ++ [.mk 6 0 []]) (by omega) (by simp; omega) hr hm (by
   intro u hu
   rcases List.mem_append.1 hu with h | h
   ·exact hz u h
   ·rw [List.mem_singleton.1 h]; exact Ff)
  with_reducible exact nx
theorem tc (n : Nat) (hn : 20000 ≤ n) (l : List UInt8) (t : T) (ht : t.size ≤ 400) (z1 z2 : Int) (l0 : List T) (v0 : List T) (hv : ∀ u ∈ v0, ah u = true) (hl : v0.length ≤ 9) : ∀ (g c i : Nat) (p m : Int), g < c → i + g = v0.length → g6 l p m → m ≤ 200000000000 →
   Tot (b7 n c v0 i l p t.k t.n t.kids z1 z2 l0 (v0.take i)) (xW v0 t l (m + 3000))
 | g, 0, i, p, m, hg, _, _, _ => by omega
 | 0, c + 1, i, p, m, _, hi, hr, hm => by
  rw [dM, decide_eq_false (show ¬ (i : Int) < v0.length by omega), cond_false, List.take_of_length_le (show v0.length ≤ i by omega)]
  refine ak (gu (by omega) hr (by omega) (by omega)) ?_
  rintro _ ⟨w, p, rfl, hw, hw2, hr⟩
  simp only [evt]
  have hsz := T.size_eq t
  have hmut : ∀ {p m m' : Int} {g : List T}, g6 l p m → m ≤ 300000000000 → m + 2 ≤ m' → g.length ≤ 10 → (∀ u ∈ g, ah u = true) → (g = v0 ∨ (0 < v0.length ∧ g = v0.drop 1) ∨ ∃ A, LwT 4 A ∧ g = v0 ++ [A]) → Tot ((FF n 84 [.one (.ptr 0 0), tm t] [rdr l p]).bind fun x9 => aR x9.2 fun x10 x11 => bsC x10 fun x12 x13 => aV .i64 x13 fun x14 x15 => aT x15 (ag x9.1 fun x16 x17 => ai x17 (aj x11 (some ([.one (.fr (.ts g)), .agg [.int .i64 x16.k, .int .i64 x16.n, .fr (.ts x16.kids)]], [.cells [.fr (.bs x12), .int .i64 x14]]))))) (xW v0 t l m') := by
   intro p m m' g hr hm hm' hg hgv hd
   refine ak (lz (t := t) (by omega) (by omega) hr (by omega)) ?_
   rintro _ ⟨y, p, rfl, hy, hr⟩
   have hys := hy.size
   simp only [evt]
   exact aq ⟨g, y, p, rfl, ⟨by omega, .inr (.inl ⟨hy, hd⟩)⟩, hgv, hg, hr.mono (by omega)⟩
  refine al (fun _ => ?_) (fun _ => ?_)
  ·refine al (fun h0 => ?_) (fun _ => ?_)
   ·have h0 : (0 : Int) < v0.length := by simpa using h0
    rw [show Go.Ab.inB 1 (v0.length : Int) v0.length = true from by simp [Go.Ab.inB]; omega, cond_true, Int.toNat_natCast, List.take_length, show (1 : Int).toNat = 1 from rfl]
    exact hmut hr (by omega) (by omega) (by simp; omega) (fun u hu => hv u (List.mem_of_mem_drop hu)) (.inr (.inl ⟨by omega, rfl⟩))
   ·exact hmut hr (by omega) (by omega) (by omega) hv (.inl rfl)
  refine al (fun _ => ?_) (fun _ => ?_)
  ·refine ak (nB (by omega) hr (by omega)) ?_
   rintro _ ⟨x, p, rfl, hxv, hxl, hr⟩
   simp only [evt]
   rw [aU (by simp; omega), cond_true]
   refine hmut hr (by omega) (by omega) (g := v0 ++ [x]) (by simp; omega) (fun u hu => ?_) (.inr (.inr ⟨x, hxl, rfl⟩))
   rcases List.mem_append.1 hu with h | h
   ·exact hv u h
   ·rw [List.mem_singleton.1 h]; exact hxv
  refine al (fun _ => ?_) (fun _ => ?_)
  ·have := uG n hn l t ht z1 z2 l0 v0 (9 - v0.length) n _ _ v0 (by omega) (by omega) hr (by omega) hv
   refine hO this ?_
   rintro _ ⟨g, y, p, rfl, h1, h2, h3, h4⟩
   exact ⟨g, y, p, rfl, h1, h2, h3, h4.mono (by omega)⟩
  refine al (fun _ => ?_) (fun _ => ?_)
  ·refine ak (nB (by omega) hr (by omega)) ?_
   rintro _ ⟨x, p, rfl, hxv, hxl, hr⟩
   simp only [evt]
   have := ae hxv
   exact aq ⟨v0, x, p, rfl, ⟨by omega, .inr (.inr (.inl ⟨rfl, hxl⟩))⟩, hv, by omega, hr.mono (by omega)⟩
  refine al (fun _ => ?_) (fun _ => ?_)
  ·refine al (fun h0 => ?_) (fun _ => ?_)
   ·have h0 : (0 : Int) < t.kids.length := by simpa using h0
    refine ak (gu (by omega) hr (by omega) (by have := T.br t.kids; omega)) ?_
    rintro _ ⟨w, p, rfl, hw, hw2, hr⟩
    simp only [evt]
    refine ak (nB (by omega) hr (by omega)) ?_
    rintro _ ⟨x, p, rfl, hxv, hxl, hr⟩
    simp only [evt]
    have hx := ae hxv
    have hw2 := hw2 (by omega)
    obtain ⟨j, rfl⟩ : ∃ j : Nat, w = j := ⟨w.toNat, by omega⟩
    have hs := sr (n := n) (t := t) (u := x) (j := j) (by omega) (by omega)
    simp only [tm] at hs
    rw [hs]
    simp only [evt]
    have hsz2 : T.aE (t.kids.set j x) ≤ T.aE t.kids + x.size := by
     have : ∀ (ks : List T) (j : Nat), T.aE (ks.set j x) ≤ T.aE ks + x.size := by
      intro ks
      induction ks with
      | nil => intro j; simp [T.aE]
      | cons y ks ih =>
       intro j
       cases j with
       | zero => simp only [List.set_cons_zero, T.aE]; omega
       | succ j => have := ih j; simp only [List.set_cons_succ, T.aE]; omega
     exact this _ _
    exact aq ⟨v0, .mk t.k t.n (t.kids.set j x), p, rfl, ⟨by simp only [T.size]; omega, .inr (.inr (.inr ⟨rfl, j, x, by omega, hxl, rfl⟩))⟩, hv, by omega, hr.mono (by omega)⟩
   ·exact hmut hr (by omega) (by omega) (by omega) hv (.inl rfl)
  ·exact hmut hr (by omega) (by omega) (by omega) hv (.inl rfl)
 | g + 1, c + 1, i, p, m, hg, hi, hr, hm => by
  have hlt : i < v0.length := by omega
  have hsz := ae (hv _ (List.getElem_mem hlt))
  have w : IntKind.i64.wrap ((i : Int) + 1) = ((i + 1 : Nat) : Int) := wrap64 (by omega)
  rw [dM, decide_eq_true (show (i : Int) < v0.length by omega), cond_true, decide_eq_true (show 0 ≤ (i : Int) by omega), cond_true, Int.toNat_natCast, List.getElem?_eq_getElem hlt, w]
  simp only [Option.bind_some]
  rw [hJ v0[i] (by omega) (by omega)]
  simp only [evt]
  rw [aU (by simp; omega), cond_true]
  have nx := tc n hn l t ht z1 z2 l0 v0 hv hl g c (i + 1) p m (by omega) (by omega) hr hm
  rw [← List.take_append_getElem hlt] at nx
  exact nx
theorem z8 {n : Nat} (hn : 20001 ≤ n) {g : List T} {t : T} (ht : ah t = true) (hg : ∀ u ∈ g, ah u = true) (hl : g.length ≤ 9) {l : List UInt8} {p m : Int} (hr : g6 l p m) (hm : m ≤ 200000000000) : Tot (FF n 50 [.one (.ptr 0 0), tms g, tm t] [rdr l p]) (xW g t l (m + 3000)) := by
 refine bf (C := 20000) (by omega) fun n hn e => ?_
 rw [om]
 have := tc n hn l t (ae ht) 0 0 [] g hg hl g.length n 0 p m (by omega) (by omega) hr hm
 rw [List.take_zero] at this
 exact this
def Dw (g : List T) (y : T) : Prop := g.length ≤ 8 → ah y = true → ∃ (G : List Tm) (m : Tm), g = cx G ∧ y = of m ∧ Dn G m
theorem A6 (A : Tm) (G : List Tm) : cx G ++ [of A] = cx (A :: G) := by simp [cx]
theorem Cl (G : List Tm) : (cx G).drop 1 = cx G.dropLast := by
 rw [cx, cx, List.drop_one, List.tail_reverse, List.map_dropLast]
theorem JW {G : List Tm} {a : Tm} {g : List T} {y : T} (hb : Bse G a) (h : DwT (cx G) (of a) g y) : Dw g y := by
 intro h8 hv
 rcases h with h | ⟨h, rfl | ⟨h0, rfl⟩ | ⟨A, ⟨A', rfl, hA, lA⟩, rfl⟩⟩ | ⟨rfl, v, rfl, hv, lv⟩ | ⟨rfl, j, _, hj, ⟨v, rfl, hv', lv⟩, rfl⟩
 ·omega
 ·obtain ⟨m', rfl, hm⟩ := xR h hv; exact ⟨G, m', rfl, rfl, .base hb hm⟩
 ·obtain ⟨m', rfl, hm⟩ := xR h hv
  exact ⟨_, m', Cl G, rfl, .drop hb hm (fun e => by subst e; simp [cx] at h0)⟩
 ·obtain ⟨m', rfl, hm⟩ := xR h hv; exact ⟨_, m', A6 A' G, rfl, .app hb hm hA lA⟩
 ·exact ⟨G, v, rfl, rfl, .any hb hv lv⟩
 ·exact ⟨G, _, rfl, Tm.IX a v hj, .rep j hb hv' lv⟩
theorem sO {G : List Tm} {a : Tm} (h : Bse G a) : (∀ u ∈ cx G, ah u = true) ∧ (cx G).length ≤ 9 := by
 have hl := h.len
 refine ⟨fun u hu => ?_, by rw [cA]; omega⟩
 rw [cx, List.mem_reverse] at hu
 obtain ⟨A, hA, rfl⟩ := List.mem_map.1 hu
 rcases h with ⟨n, hn, rfl, _, _⟩ | ⟨p, hp, rfl, _⟩
 ·rw [Tm.qH hA]; exact Ff
 ·exact (Tm.vn hp).vd A hA
end Go.Proofs.YtajlknlnmmbfcaaGreat
end
section
namespace Go.Proofs.YtajlknlnmmbfcaaGreat
open Go Go.Ab Go.Dk
open Tm (Rs sq frm lvl chk fam made inI inS tI tS lvr ckr cc pt ps pc Wf Dn)
theorem yM {g : List T} (h : okA g = true) : g.length ≤ 8 := by obtain ⟨G, rfl, _, h8⟩ := gp h; rw [cA]; exact h8
theorem GF {g : List T} {y : T} (h : Dw g y) : itS g y = itI g y := by
 unfold itS itI
 cases hv : okA g && ah y with
 | false => rfl
 | true =>
  have hv' := hv
  rw [Bool.and_eq_true] at hv
  obtain ⟨G, m, rfl, rfl, hd⟩ := h (yM hv.1) hv.2
  obtain ⟨G', e, hG, h8⟩ := gp hv.1
  have e' : G = G' := by rw [← bK G, e, bK]
  subst e'
  obtain ⟨f1, f2⟩ := hd.oZ
  simp only [if_true]
  rw [bK, dm, Tm.GQ aF (by omega) hG f1 hv.2 f2]
structure Ok (G : List Tm) (m A : Tm) : Prop where
 hG : ∀ A ∈ G, vdM A = true
 h8 : G.length ≤ 8
 v : vdM m = true
 w : Wf G
 c : ∃ B, cc O (tI O) G = .ok B
 e : tI O G m = .ok A
 vA : vdM A = true
 ty : Tm.Ty G m A
section
variable {G : List Tm} (hG : ∀ A ∈ G, vdM A = true) (h8 : G.length ≤ 8) (c : ∃ B, cc O (tI O) G = .ok B)
include hG h8 c
theorem I9 {m : Tm} (v : vdM m = true) : itI (cx G) (of m) = (zr (tI O G m), sts (tI O G m)) := by
 obtain ⟨B, c⟩ := c
 unfold itI
 rw [if_pos (by rw [uq hG h8]; exact v), bK, dm]
 unfold pt
 rw [c]
theorem Jf {m : Tm} (v : vdM m = true) : soI (cx G) (of m) = (lvn (lvr O (tI O G m)), sts (lvr O (tI O G m))) := by
 obtain ⟨B, c⟩ := c
 unfold soI
 rw [if_pos (by rw [uq hG h8]; exact v), bK, dm]
 unfold ps
 rw [c]
theorem ID {m u : Tm} (v : vdM m = true) (vu : vdM u = true) : ctI (cx G) (of m) (of u) = sts (match lvr O (tI O G u) with | .ok _ => ckr O (tI O G m) u | r => r) := by
 obtain ⟨B, c⟩ := c
 unfold ctI
 rw [if_pos (by rw [uq hG h8]; show (true && (vdM m && vdM u)) = true; rw [v, vu]; rfl), bK, dm, dm]
 unfold pc ps
 rw [c]
 cases lvr O (tI O G u) <;> rfl
end
theorem GV {a b : Tm} (h : Tm.Conv a b) : qO (of a) (of b) 200 ≠ 2 := by
 unfold qO
 split
 ·exact fun e => qu e h
 ·decide
theorem Gh {f : FuncId} {args : List V1} {n : Nat} {x : List V1 × List au} (h : FF n f args [] = some x) : Tot (FF n f args []) (fun r => r = x) := ⟨_, h, rfl⟩
end Go.Proofs.YtajlknlnmmbfcaaGreat
end
section
namespace Go.Proofs.YtajlknlnmmbfcaaGreat
namespace Tm
variable {O : Orc}
theorem D6 {s : Tm} {i : Nat} (hn : O.hn s = .ok (sort i)) : lvr O (.ok s) = .ok (sort i) := by
 unfold lvr lvl frm sq
 simp only [hn]; rfl
end Tm
end Go.Proofs.YtajlknlnmmbfcaaGreat
end
section
namespace Go.Proofs.YtajlknlnmmbfcaaGreat
open Go Go.Ab Go.Dk
open Tm (Rs sq frm lvl chk fam made inI inS tI tS lvr ckr cc pt ps pc Wf)
theorem xA {n : Nat} {m : Tm} {a : Nat} (hn : 5000000 ≤ n) (v : vdM m = true) (ha : a ≤ 20) : FF n 39 [tm (of m), nt (a : Int), nt 0] [] = some ([tm (okT (of (m.ren (· + a)))), bl (vdM (m.ren (· + a)))], []) := by
 have z := ae v
 obtain ⟨n, rfl⟩ := af (show 0 < n by omega)
 have hs := nd (n := n) (t := of m) (a := (a : Int)) (c := 0) (by omega) (gw v) (by omega) (by omega) (by omega)
 have e : shT (a : Int) (of m) 0 = of (m.ren (· + a)) := by have := Ah a m 0; rw [jn] at this; exact this
 rw [shR, e] at hs
 have hv := bX (n := n) (t := of m) (by omega)
 rw [show ah (of m) = true from v] at hv
 simp only [tm] at hv hs
 rw [mG]
 simp only [evt, tm, hv]
 rw [ia (by omega), decide_eq_true (show (-20 : Int) ≤ a by omega), decide_eq_true (show (a : Int) ≤ 20 by omega)]
 simp only [evt]
 rw [ia (by omega), decide_eq_true (show (0 : Int) ≤ 0 by omega), decide_eq_true (show (0 : Int) ≤ 20 by omega)]
 simp only [evt, hs]
 rfl
section
variable {n : Nat} {l : List T} {t u : T}
end
theorem xY {G : List Tm} (h8 : G.length ≤ 8) {m : Tm} {i : Nat} (w : Wf G) (v : vdM m = true) (h : Tm.Ty G m (.sort i)) : lvr O (tI O G m) = .opn ∨ lvr O (tI O G m) = .ok (.sort i) := by
 obtain ⟨_, nb, ok⟩ := Tm.EH aF w (by omega) v h
 cases e : tI O G m with
 | ok B =>
  obtain ⟨_, c⟩ := ok B e
  cases e2 : O.hn B with
  | ok h =>
   have := Tm.xk aF e2 c
   subst this
   exact .inr (Tm.D6 e2)
  | bad => exact absurd e2 (aF.hn_nb B)
  | opn => left; unfold lvr lvl frm sq; simp only [e2]; rfl
 | bad => exact absurd e nb
 | opn => exact .inl rfl
section
variable {G : List Tm} (hG : ∀ A ∈ G, vdM A = true) (h8 : G.length ≤ 8) (c : ∃ B, cc O (tI O) G = .ok B)
include hG h8 c
theorem Gg {m : Tm} {i : Nat} (w : Wf G) (h : Tm.Ty G m (.sort i)) : (soI (cx G) (of m)).2 = 3 ∨ (soI (cx G) (of m)).2 = 2 ∨ soI (cx G) (of m) = ((i : Int), 0) := by
 cases v : vdM m with
 | false => left; unfold soI; rw [if_neg (by rw [show ah (of m) = false from v]; simp)]
 | true =>
  right
  rw [Jf hG h8 c v]
  rcases xY h8 w v h with e | e <;> rw [e]
  ·exact .inl rfl
  ·exact .inr rfl
theorem GP {m u : Tm} (w : Wf G) (v : vdM m = true) (vu : vdM u = true) (h : ctI (cx G) (of m) (of u) = 0) : ∃ A i y, tI O G m = .ok A ∧ Tm.Ty G u (.sort i) ∧ Tm.Ty G m u ∧ Tm.Conv A u ∧ O.sm A u = .ok y ∧ lvr O (tI O G u) = .ok (.sort i) := by
 rw [ID hG h8 c v vu] at h
 cases e : lvr O (tI O G u) with
 | ok x =>
  rw [e] at h
  obtain ⟨s, i, e1, rfl, r⟩ := Tm.Fh aF e
  have tu : Tm.Ty G u (.sort i) := ((Tm.An aF w e1).sound w).lvl w r
  cases e2 : ckr O (tI O G m) u with
  | ok y =>
   obtain ⟨A, e3, cv⟩ := Tm.IZ aF e2
   refine ⟨A, i, y, e3, tu, .conv ((Tm.An aF w e3).sound w) cv tu, cv, ?_, rfl⟩
   have e4 := Tm.Bn (O := O) (tI O G m) u
   rw [e2, e3] at e4
   exact Option.some.inj e4
  | bad => rw [e2] at h; cases h
  | opn => rw [e2] at h; cases h
 | bad => rw [e] at h; cases h
 | opn => rw [e] at h; cases h
end
theorem HL {a b x : Tm} (h : O.sm a b = .ok x) : qO (of a) (of b) 200 = 1 := by
 simp only [O] at h
 split at h
 ·rename_i hv
  rw [oQ ⟨hv.1, hv.2, by decide, by decide⟩]
  split at h
  ·assumption
  ·split at h <;> cases h
 ·cases h
theorem G8 {a : Tm} (v : vdM a = true) : O.sm a a = .ok .nat := by
 have : g7 (of a) (of a) 200 = 1 := if_pos (T.beq_refl _)
 simp only [O, v, and_self, if_true, this]
end Go.Proofs.YtajlknlnmmbfcaaGreat
end
section
namespace Go.Proofs.YtajlknlnmmbfcaaGreat
open Go Go.Ab Go.Dk
open Tm (tI tS cc Bse)
theorem H0 {G : List Tm} {a : Tm} {g : List T} {y : T} (hb : Bse G a) (h : DwT (cx G) (of a) g y) (h8 : g.length ≤ 8) : ∃ G' : List Tm, g = cx G' ∧ Tm.qN O G' ∧ Tm.hts 4 G' ∧ G'.length ≤ 4 := by
 have hl := hb.len
 have hg : Tm.hts 4 G := fun A hA => Nat.le_trans (hb.hts A hA) (by omega)
 rcases h with h | ⟨_, rfl | ⟨h0, rfl⟩ | ⟨A, ⟨A', rfl, hA, lA⟩, rfl⟩⟩ | ⟨rfl, _⟩ | ⟨rfl, _⟩
 ·omega
 ·exact ⟨G, rfl, Tm.dQ hb.fc, hg, by omega⟩
 ·exact ⟨_, Cl G, Tm.dQ fun A hA => hb.fc A (List.dropLast_subset _ hA), fun A hA => hg A (List.dropLast_subset _ hA), by rw [List.length_dropLast]; omega⟩
 ·exact ⟨_, A6 A' G, ⟨Tm.dQ hb.fc, fun w => Tm.ki hA lA w hb.hts (by omega)⟩, hg.cons hA, by simp only [List.length_cons]; omega⟩
 ·exact ⟨G, rfl, Tm.dQ hb.fc, hg, by omega⟩
 ·exact ⟨G, rfl, Tm.dQ hb.fc, hg, by omega⟩
structure OkC (G : List Tm) : Prop where
 hG : ∀ A ∈ G, vdM A = true
 h8 : G.length ≤ 8
 w : Tm.Wf G
 c : ∃ B, cc O (tI O) G = .ok B
end Go.Proofs.YtajlknlnmmbfcaaGreat
end
