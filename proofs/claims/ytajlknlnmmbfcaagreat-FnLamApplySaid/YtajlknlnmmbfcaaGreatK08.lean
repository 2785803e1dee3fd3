/- Part 8 of the proof. -/
import Derived.Test.YtajlknlnmmbfcaaGreatK01
import Derived.Test.YtajlknlnmmbfcaaGreatK02
import Derived.Test.YtajlknlnmmbfcaaGreatK03
import Derived.Test.YtajlknlnmmbfcaaGreatK04
import Derived.Test.YtajlknlnmmbfcaaGreatK05
import Derived.Test.YtajlknlnmmbfcaaGreatK06
import Derived.Test.YtajlknlnmmbfcaaGreatK07
import Derived.ChangeArms
import Derived.Deep.Slices
import Derived.Deep.Strs
import Derived.WalkKit
import Derived.ProofKit
import Derived.OpenShut
import Derived.ShutString
import Derived.ChangeOld
import Derived.Below
set_option linter.unusedVariables false
set_option linter.unusedSimpArgs false
section
namespace Go.Proofs.YtajlknlnmmbfcaaGreat
open Go Go.Ab Go.Dk
open Tm (ku Bse Dn NT CR)
def ER (s : ByteArray) (m : Tm) : Prop := s.size ≤ 300 ∧ (s.toList == (bytesOf []).toList) = false ∧ (∀ k, FF (k + 200) 155 [tm (of m)] [] = some ([st s], [])) ∧ pa s 30 0 = some (of m, s.size)
def paB (s : ByteArray) (m : Tm) : Bool := decide (s.size ≤ 300) && (decide ((of m).size ≤ 500) && (match pa s 30 0 with
 | some x => T.beq x.1 (of m) && decide (x.2 = s.size)
 | none => false))
theorem HK {s : ByteArray} {m : Tm} (h : paB s m = true) : s.size ≤ 300 ∧ (of m).size ≤ 500 ∧ pa s 30 0 = some (of m, s.size) := by
 simp only [paB, Bool.and_eq_true, decide_eq_true_eq] at h
 obtain ⟨h1, h2, h3⟩ := h
 refine ⟨h1, h2, ?_⟩
 split at h3
 ·rename_i x e
  simp only [Bool.and_eq_true, decide_eq_true_eq] at h3
  rw [e, ← (T.beq_iff _ _).1 h3.1, ← h3.2]
 ·cases h3
theorem tl {s : ByteArray} {m : Tm} (h : (!(s.toList == (bytesOf []).toList) && paB s m) = true) (hf : ∀ k, FF (k + 200) 155 [tm (of m)] [] = some ([st s], [])) : ER s m := by
 rw [Bool.and_eq_true, Bool.not_eq_true'] at h
 obtain ⟨h1, _, h3⟩ := HK h.2
 exact ⟨h1, h.1, hf, h3⟩
set_option maxRecDepth 100000 in
theorem er0 : ER (bytesOf [42, 48]) (.sort 0) := tl (by decide +kernel) fun n => by kernel_rfl
set_option maxRecDepth 100000 in
theorem er1 : ER (bytesOf [35, 48]) (.var 0) := tl (by decide +kernel) fun n => by kernel_rfl
set_option maxRecDepth 100000 in
theorem er2 : ER (bytesOf [40, 35, 49, 62, 35, 50, 41]) (.pi (.var 1) (.var 2)) := tl (by decide +kernel) fun n => by kernel_rfl
set_option maxRecDepth 100000 in
theorem er3 : ER (bytesOf [78]) .nat := tl (by decide +kernel) fun n => by kernel_rfl
set_option maxRecDepth 100000 in
theorem er4 : ER (bytesOf [123, 78, 44, 35, 48, 44, 43, 48, 125]) (.id .nat (.var 0) (.succ .zero)) := tl (by decide +kernel) fun n => by kernel_rfl
set_option maxRecDepth 100000 in
theorem er5 : ER (bytesOf [40, 78, 62, 42, 48, 41]) (.pi .nat (.sort 0)) := tl (by decide +kernel) fun n => by kernel_rfl
set_option maxRecDepth 100000 in
theorem er6 : ER (bytesOf [40, 78, 62, 40, 35, 49, 32, 35, 48, 41, 41]) (.pi .nat (.app (.var 1) (.var 0))) := tl (by decide +kernel) fun n => by kernel_rfl
set_option maxRecDepth 100000 in
theorem er7 : ER (bytesOf [33, 35, 49]) (.refl (.var 1)) := tl (by decide +kernel) fun n => by kernel_rfl
set_option maxRecDepth 100000 in
theorem er8 : ER (bytesOf [40, 35, 48, 32, 48, 41]) (.app (.var 0) .zero) := tl (by decide +kernel) fun n => by kernel_rfl
def Hk : List ByteArray → List Tm → Prop
 | [], [] => True
 | s :: ss, m :: ms => ER s m ∧ Hk ss ms
 | _, _ => False
theorem Bj (n : Nat) (hn : 7000 ≤ n) (ss : List ByteArray) (hl : ss.length ≤ 100) : ∀ (rest : List ByteArray) (ms : List Tm) (c i : Nat) (acc : List T), rest.length < c → ss.drop i = rest → i ≤ ss.length → Hk rest ms → acc.length ≤ i →
   Tot (cI n c ss i acc) (fun r => r = ([tms (acc ++ ms.map of)], []))
 | rest, ms, 0, i, acc, hg, _, _, _, _ => by omega
 | [], [], c + 1, i, acc, _, hd, hi, _, ha => by
  have h0 := congrArg List.length hd
  rw [List.length_drop, List.length_nil] at h0
  rw [cZ, decide_eq_false (show ¬ (i : Int) < ss.length by omega), List.map_nil, List.append_nil]
  exact ⟨_, rfl, rfl⟩
 | s :: rest, m :: ms, c + 1, i, acc, hg, hd, hi, hr, ha => by
  have h0 := congrArg List.length hd
  rw [List.length_drop, List.length_cons] at h0
  have hlt : i < ss.length := by omega
  rw [List.drop_eq_getElem_cons hlt] at hd
  injection hd with hd1 hd2
  obtain ⟨⟨r1, r2, r3, r4⟩, hr⟩ := hr
  rw [cZ, decide_eq_true (show (i : Int) < ss.length by omega), decide_eq_true (show 0 ≤ (i : Int) by omega), Int.toNat_natCast, List.getElem?_eq_getElem hlt]
  simp only [cond_true, Option.bind_some]
  rw [hd1]
  refine af (Bb (n := n) (s := s) (t := of m) (by omega) (by omega) r2 r3 r4) ?_
  rintro _ rfl
  have w : IntKind.i64.wrap ((i : Int) + 1) = ((i + 1 : Nat) : Int) := wrap64 (by omega)
  rw [w]
  simp only [evt, cond_true]
  rw [aL (by simp; omega), cond_true]
  have nx := Bj n hn ss hl rest ms c (i + 1) (acc ++ [of m]) (by simp only [List.length_cons] at hg; omega) hd2 (by omega) hr (by simp; omega)
  rw [List.append_assoc, List.singleton_append] at nx
  exact nx
 | [], m :: ms, c + 1, i, acc, _, _, _, hr, _ => hr.elim
 | s :: ss', [], c + 1, i, acc, _, _, _, hr, _ => hr.elim
theorem sY (n : Nat) (hn : 7000 ≤ n) (ss : List ByteArray) (ms : List Tm) (hs : ∀ s ∈ ss, ∃ m ∈ ms, paB s m = true) (hl : ss.length ≤ 1000) : ∀ (g c i : Nat) (acc : List T), g < c → i + g = ss.length → acc.length ≤ i → (∀ t ∈ acc, ∃ m ∈ ms, t = of m) →
   Tot (cI n c ss i acc) (fun r => ∃ ts, r = ([tms ts], []) ∧ (∀ t ∈ ts, ∃ m ∈ ms, t = of m) ∧ ts.length ≤ ss.length ∧ acc.length ≤ ts.length ∧ ((∃ s ∈ ss.drop i, ∃ m, ER s m) → ts ≠ []))
 | g, 0, i, acc, hg, _, _, _ => by omega
 | 0, c + 1, i, acc, _, hi, ha, hz => by
  rw [cZ, decide_eq_false (show ¬ (i : Int) < ss.length by omega), List.drop_of_length_le (by omega)]
  exact ⟨_, rfl, acc, rfl, hz, by omega, Nat.le_refl _, fun ⟨s, h, _⟩ => by cases h⟩
 | g + 1, c + 1, i, acc, hg, hi, ha, hz => by
  have hlt : i < ss.length := by omega
  obtain ⟨m, hm, hp⟩ := hs _ (List.getElem_mem hlt)
  obtain ⟨p1, p2, p3⟩ := HK hp
  rw [cZ, decide_eq_true (show (i : Int) < ss.length by omega), decide_eq_true (show 0 ≤ (i : Int) by omega), Int.toNat_natCast, List.getElem?_eq_getElem hlt]
  simp only [cond_true, Option.bind_some]
  obtain ⟨r, e, t, b, rfl, hb⟩ := GL (n := n) (s := ss[i]) (by omega) (by omega) p2 p3
  have w : IntKind.i64.wrap ((i : Int) + 1) = ((i + 1 : Nat) : Int) := wrap64 (by omega)
  rw [e, w]
  simp only [evt]
  rw [List.drop_eq_getElem_cons hlt]
  cases b with
  | true =>
   simp only [cond_true]
   rw [aL (by simp; omega), cond_true]
   refine jj (sY n hn ss ms hs hl g c (i + 1) (acc ++ [t]) (by omega) (by omega) (by simp; omega) (fun u hu => ?_)) ?_
   ·rcases List.mem_append.1 hu with h | h
    ·exact hz u h
    ·rw [List.mem_singleton.1 h]; exact ⟨m, hm, hb rfl⟩
   ·rintro _ ⟨ts, rfl, h1, h2, h3, h4⟩
    simp only [List.length_append, List.length_cons, List.length_nil] at h3
    exact ⟨ts, rfl, h1, h2, by omega, fun _ h => by rw [h] at h3; simp at h3⟩
  | false =>
   simp only [cond_false]
   refine jj (sY n hn ss ms hs hl g c (i + 1) acc (by omega) (by omega) (by omega) hz) ?_
   rintro _ ⟨ts, rfl, h1, h2, h3, h4⟩
   refine ⟨ts, rfl, h1, h2, h3, fun ⟨s, hs', m', hr⟩ => ?_⟩
   rcases List.mem_cons.1 hs' with rfl | h
   ·obtain ⟨r1, r2, r3, r4⟩ := hr
    obtain ⟨r, e', hr⟩ := Bb (n := n) (by omega) (by omega) r2 r3 r4
    rw [e, hr] at e'
    simp only [Option.some.injEq, Prod.mk.injEq, List.cons.injEq, bl, V1.one.injEq, SV.bool.injEq, Bool.false_eq_true, false_and, and_false] at e'
   ·exact h4 ⟨s, h, m', hr⟩
theorem xh {n : Nat} (hn : 7100 ≤ n) (ss : List ByteArray) (ms : List Tm) (hl : ss.length ≤ 100) (h : Hk ss ms) : Tot (FF n 89 [.one (.fr (.ss ss))] []) (fun r => r = ([tms (ms.map of)], [])) := by
 refine aK (C := 7099) (by omega) fun n hn e => ?_
 rw [mf]
 exact Bj n (by omega) ss hl ss ms n 0 [] (by omega) rfl (by omega) h (by simp)
theorem xA {n : Nat} (hn : 7100 ≤ n) (ss : List ByteArray) (ms : List Tm) (hs : ∀ s ∈ ss, ∃ m ∈ ms, paB s m = true) (hl : ss.length ≤ 1000) :
   Tot (FF n 89 [.one (.fr (.ss ss))] []) (fun r => ∃ ts, r = ([tms ts], []) ∧ (∀ t ∈ ts, ∃ m ∈ ms, t = of m) ∧ ts.length ≤ ss.length ∧ ((∃ s ∈ ss, ∃ m, ER s m) → ts ≠ [])) := by
 refine aK (C := 7099) (by omega) fun n hn e => ?_
 rw [mf]
 refine jj (sY n (by omega) ss ms hs hl ss.length n 0 [] (by omega) (by omega) (by simp) (by simp)) ?_
 rintro _ ⟨ts, rfl, h1, h2, h3, h4⟩
 exact ⟨ts, rfl, h1, h2, by simpa using h4⟩
theorem F9 {b : List ByteArray} {ms : List Tm} (h : (b.all fun s => ms.any fun m => paB s m) = true) : ∀ s ∈ b, ∃ m ∈ ms, paB s m = true := fun s hs => by
 simpa using List.all_eq_true.1 h s hs
theorem wK {n : Nat} (hn : 1 ≤ n) (v : Int) : Tot (FF n 88 [nt v] []) (fun r => ∃ a b p, p ∈ ku ∧ r = ([.one (.fr (.ss a)), .one (.fr (.ss b))], []) ∧ Hk a p.1.reverse ∧ (∀ s ∈ b, ∃ m ∈ p.2, paB s m = true) ∧ a.length ≤ 6 ∧ b.length ≤ 100 ∧ ∃ s ∈ b, ∃ m, ER s m) := by
 refine aK (C := 0) (by omega) fun n hn e => ?_
 rw [qN]
 have g : ∀ k (h : k < ku.length), ku[k] ∈ ku := fun k h => List.getElem_mem h
 refine al (fun _ => ⟨_, rfl, _, _, _, g 0 (by decide), rfl, (show Hk [] [] from trivial), F9 (by decide +kernel), by simp, by simp, _, ?_, _, er5⟩) (fun _ => ?_)
 ·simp
 refine al (fun _ => ⟨_, rfl, _, _, _, g 1 (by decide), rfl, (show Hk _ [.sort 0, .var 0, .pi (.var 1) (.var 2)] from ⟨er0, er1, er2, trivial⟩), F9 (by decide +kernel), by simp, by simp, _, ?_, _, er7⟩) (fun _ => ?_)
 ·simp
 refine al (fun _ => ⟨_, rfl, _, _, _, g 2 (by decide), rfl, (show Hk _ [.nat, .id .nat (.var 0) (.succ .zero)] from ⟨er3, er4, trivial⟩), F9 (by decide +kernel), by simp, by simp, _, ?_, _, er1⟩) (fun _ => ⟨_, rfl, _, _, _, g 3 (by decide), rfl, (show Hk _ [.pi .nat (.sort 0), .pi .nat (.app (.var 1) (.var 0))] from ⟨er5, er6, trivial⟩), F9 (by decide +kernel), by simp, by simp, _, ?_, _, er8⟩)
 ·simp
 ·simp
abbrev Ij (l : List UInt8) (m : Int) (r : List V1 × List av) : Prop := ∃ (G : List Tm) (a : Tm) (p : Int), r = ([tms (cx G), tm (of a)], [rdr l p]) ∧ Bse G a ∧ vdM a = true ∧ jk l p m
theorem Hc : (ku.all fun p => p.2.all vdM) = true := by decide +kernel
theorem vT {ts : List T} {p : List Tm × List Tm} {w : Nat} (hp : p ∈ ku) (h : ∀ t ∈ ts, ∃ m ∈ p.2, t = of m) (hw : w < ts.length) : ∃ a, ts[w] = of a ∧ Bse p.1 a ∧ vdM a = true := by
 obtain ⟨m, hm, e⟩ := h _ (List.getElem_mem hw)
 exact ⟨m, e, .inr ⟨p, hp, rfl, hm⟩, List.all_eq_true.1 (List.all_eq_true.1 Hc p hp) m hm⟩
theorem Hl (G : List Tm) : G.reverse.map of = cx G := by rw [cx, List.map_reverse]
theorem Jb (v : Nat) : cx (CR v) = List.replicate v (.mk 6 0 []) := by simp [cx, CR, of]
theorem se (n : Nat) (hn : 20000 ≤ n) (l : List UInt8) (z1 z2 : Int) (l0 : List T) (v : Nat) (hv : v ≤ 2) : ∀ (g c i : Nat) (p m : Int), g < c → i + g = v → jk l p m → m ≤ 1000 →
   Tot (df n c v i l p z1 z2 l0 (List.replicate i (.mk 6 0 []))) (Ij l 1000000)
 | g, 0, i, p, m, hg, _, _, _ => by omega
 | 0, c + 1, i, p, m, _, hi, hr, hm => by
  rw [fO, decide_eq_false (show ¬ (i : Int) < v by omega), cond_false]
  refine af (s9 (by omega) hr (by omega) (by simp) (by simp)) ?_
  rintro _ ⟨w, p, rfl, hw, hr⟩
  simp only [evt]
  have hw4 : 0 ≤ w ∧ w ≤ 4 := by
   simp only [List.mem_cons, List.not_mem_nil, or_false] at hw
   omega
  have e0 : szN 4 = 401 := by decide
  have e1 : rdN 4 = 242 := by decide
  refine af (Di 4 (by omega) (by omega) (by omega) hr (by omega)) ?_
  rintro _ ⟨t, p, rfl, ⟨hz2, ht⟩, hr⟩
  simp only [evt]
  rw [aW (show t.size + 6 ≤ n by omega) (by omega)]
  simp only [evt]
  refine al (fun hq => ?_) (fun _ => ?_)
  ·obtain ⟨a, rfl, hnt⟩ := ht
   have : i = v := by omega
   subst this
   exact aq ⟨CR i, a, p, by rw [Jb], .inl ⟨i, hv, rfl, hnt, hq⟩, hq, hr.mono (by omega)⟩
  refine af (kD (by omega) hr (by omega) (by omega)) ?_
  rintro _ ⟨w, p, rfl, hw, hw2, hr⟩
  simp only [evt]
  refine af (wK (by omega) w) ?_
  rintro _ ⟨a, b, q, hq, rfl, ha1, hb1, ha2, hb2, hx⟩
  simp only [evt]
  refine af (xA (by omega) b q.2 hb1 (by omega)) ?_
  rintro _ ⟨ts, rfl, ht1, ht2, ht3⟩
  simp only [evt]
  refine af (xh (by omega) a q.1.reverse (by omega) ha1) ?_
  rintro _ rfl
  simp only [evt]
  have hpos := List.length_pos_iff.2 (ht3 hx)
  refine af (kD (by omega) hr (by omega) (by omega)) ?_
  rintro _ ⟨w, p, rfl, hw, hw2, hr⟩
  have hw2 := hw2 (by omega)
  have hlt : w.toNat < ts.length := by omega
  simp only [evt]
  rw [decide_eq_true hw, cond_true, List.getElem?_eq_getElem hlt, Hl]
  obtain ⟨m0, em, k1, k2⟩ := vT hq ht1 hlt
  rw [em]
  exact aq ⟨q.1, m0, p, rfl, k1, k2, hr.mono (by omega)⟩
 | g + 1, c + 1, i, p, m, hg, hi, hr, hm => by
  rw [fO, decide_eq_true (show (i : Int) < v by omega), cond_true, cd (show 1 ≤ n by omega)]
  simp only [evt]
  have w : IntKind.i64.wrap ((i : Int) + 1) = ((i + 1 : Nat) : Int) := wrap64 (by omega)
  rw [aL (by simp; omega), cond_true, w]
  have nx := se n hn l z1 z2 l0 v hv g c (i + 1) p m (by omega) (by omega) hr hm
  rw [List.replicate_succ'] at nx
  with_reducible exact nx
theorem Af {n : Nat} (hn : 20001 ≤ n) {l : List UInt8} {p m : Int} (hr : jk l p m) (hm : m ≤ 100) : Tot (FF n 49 [.one (.ptr 0 0)] [rdr l p]) (Ij l 1000000) := by
 refine aK (C := 20000) (by omega) fun n hn e => ?_
 rw [uv]
 refine af (kD (by omega) hr (by omega) (by omega)) ?_
 rintro _ ⟨w, p, rfl, hw, hw2, hr⟩
 simp only [evt]
 refine al (fun _ => ?_) (fun _ => ?_)
 ·refine af (s9 (by omega) hr (by omega) (by simp) (by simp)) ?_
  rintro _ ⟨w, p, rfl, hw, hr⟩
  simp only [evt]
  obtain ⟨v, rfl, hv⟩ : ∃ v : Nat, w = v ∧ v ≤ 2 := by
   simp only [List.mem_cons, List.not_mem_nil, or_false] at hw
   exact ⟨w.toNat, by omega, by omega⟩
  exact se n hn l 0 0 [] v hv v n 0 p _ (by omega) (by omega) hr (by omega)
 ·refine af (kD (by omega) hr (by omega) (by omega)) ?_
  rintro _ ⟨w, p, rfl, hw, hw2, hr⟩
  simp only [evt]
  refine af (wK (by omega) w) ?_
  rintro _ ⟨a, b, q, hq, rfl, ha1, hb1, ha2, hb2, hx⟩
  simp only [evt]
  refine af (xA (by omega) b q.2 hb1 (by omega)) ?_
  rintro _ ⟨ts, rfl, ht1, ht2, ht3⟩
  simp only [evt]
  refine af (xh (by omega) a q.1.reverse (by omega) ha1) ?_
  rintro _ rfl
  simp only [evt]
  have hpos := List.length_pos_iff.2 (ht3 hx)
  refine af (kD (by omega) hr (by omega) (by omega)) ?_
  rintro _ ⟨w, p, rfl, hw, hw2, hr⟩
  have hw2 := hw2 (by omega)
  have hlt : w.toNat < ts.length := by omega
  simp only [evt]
  rw [decide_eq_true hw, cond_true, List.getElem?_eq_getElem hlt, Hl]
  obtain ⟨m0, em, k1, k2⟩ := vT hq ht1 hlt
  rw [em]
  exact aq ⟨q.1, m0, p, rfl, k1, k2, hr.mono (by omega)⟩
def DwT (v0 : List T) (t : T) (g : List T) (y : T) : Prop := 8 < g.length ∨ (Lu t y ∧ (g = v0 ∨ (0 < v0.length ∧ g = v0.drop 1) ∨ ∃ A, LwT 4 A ∧ g = v0 ++ [A])) ∨ (g = v0 ∧ LwT 4 y) ∨ (g = v0 ∧ ∃ (j : Nat) (v : T), j < t.kids.length ∧ LwT 4 v ∧ y = .mk t.k t.n (t.kids.set j v))
abbrev AK (v0 : List T) (t : T) (l : List UInt8) (m : Int) (r : List V1 × List av) : Prop := ∃ (g : List T) (y : T) (p : Int), r = ([tms g, tm y], [rdr l p]) ∧ (y.size ≤ 1000 ∧ DwT v0 t g y) ∧ (∀ u ∈ g, ak u = true) ∧ g.length ≤ 10 ∧ jk l p m
theorem xn (n : Nat) (hn : 20000 ≤ n) (l : List UInt8) (t : T) (ht : t.size ≤ 400) (z1 z2 : Int) (l0 v0 : List T) : ∀ (g c : Nat) (p m : Int) (acc : List T), g < c → acc.length + g = 9 → jk l p m → m ≤ 300000000000 → (∀ u ∈ acc, ak u = true) →
   Tot (cq n c l p t.k t.n t.kids z1 z2 l0 acc) (AK v0 t l (m + 1000))
 | g, 0, p, m, acc, hg, _, _, _, _ => by omega
 | 0, c + 1, p, m, acc, _, ha, hr, hm, hz => by
  rw [dU, decide_eq_false (show ¬ ((acc.length : Nat) : Int) ≤ 8 by omega), cond_false]
  refine af (rW (t := t) (by omega) (by omega) hr (by omega)) ?_
  rintro _ ⟨y, p, rfl, hy, hr⟩
  have hys := hy.size
  simp only [evt]
  exact aq ⟨acc, y, p, rfl, ⟨by omega, .inl (by omega)⟩, hz, by omega, hr.mono (by omega)⟩
 | g + 1, c + 1, p, m, acc, hg, ha, hr, hm, hz => by
  rw [dU, decide_eq_true (show ((acc.length : Nat) : Int) ≤ 8 by omega), cond_true, cd (show 1 ≤ n by omega)]
  simp only [evt]
  rw [aL (by simp; omega), cond_true]
  have nx := xn n hn l t ht z1 z2 l0 v0 g c p m (acc ++ [.mk 6 0 []]) (by omega) (by simp; omega) hr hm (by
   intro u hu
   rcases List.mem_append.1 hu with h | h
   ·exact hz u h
   ·rw [List.mem_singleton.1 h]; exact Im)
  with_reducible exact nx
theorem yn (n : Nat) (hn : 20000 ≤ n) (l : List UInt8) (t : T) (ht : t.size ≤ 400) (z1 z2 : Int) (l0 : List T) (v0 : List T) (hv : ∀ u ∈ v0, ak u = true) (hl : v0.length ≤ 9) : ∀ (g c i : Nat) (p m : Int), g < c → i + g = v0.length → jk l p m → m ≤ 200000000000 →
   Tot (ck n c v0 i l p t.k t.n t.kids z1 z2 l0 (v0.take i)) (AK v0 t l (m + 3000))
 | g, 0, i, p, m, hg, _, _, _ => by omega
 | 0, c + 1, i, p, m, _, hi, hr, hm => by
  rw [dT, decide_eq_false (show ¬ (i : Int) < v0.length by omega), cond_false, List.take_of_length_le (show v0.length ≤ i by omega)]
  refine af (kD (by omega) hr (by omega) (by omega)) ?_
  rintro _ ⟨w, p, rfl, hw, hw2, hr⟩
  simp only [evt]
  have hsz := T.size_eq t
  have hmut : ∀ {p m m' : Int} {g : List T}, jk l p m → m ≤ 300000000000 → m + 2 ≤ m' → g.length ≤ 10 → (∀ u ∈ g, ak u = true) → (g = v0 ∨ (0 < v0.length ∧ g = v0.drop 1) ∨ ∃ A, LwT 4 A ∧ g = v0 ++ [A]) → Tot ((FF n 84 [.one (.ptr 0 0), tm t] [rdr l p]).bind fun x9 => ba x9.2 fun x10 x11 => bsC x10 fun x12 x13 => bj .i64 x13 fun x14 x15 => bh x15 (ah x9.1 fun x16 x17 => ai x17 (aj x11 (some ([.one (.fr (.ts g)), .agg [.int .i64 x16.k, .int .i64 x16.n, .fr (.ts x16.kids)]], [.cells [.fr (.bs x12), .int .i64 x14]]))))) (AK v0 t l m') := by
   intro p m m' g hr hm hm' hg hgv hd
   refine af (rW (t := t) (by omega) (by omega) hr (by omega)) ?_
   rintro _ ⟨y, p, rfl, hy, hr⟩
   have hys := hy.size
   simp only [evt]
   exact aq ⟨g, y, p, rfl, ⟨by omega, .inr (.inl ⟨hy, hd⟩)⟩, hgv, hg, hr.mono (by omega)⟩
  refine al (fun _ => ?_) (fun _ => ?_)
  ·refine al (fun h0 => ?_) (fun _ => ?_)
   ·have h0 : (0 : Int) < v0.length := by simpa using h0
    rw [show Go.Ab.inB 1 (v0.length : Int) v0.length = true from by simp [Go.Ab.inB]; omega, cond_true, Int.toNat_natCast, List.take_length, show (1 : Int).toNat = 1 from rfl]
    exact hmut hr (by omega) (by omega) (by simp; omega) (fun u hu => hv u (List.mem_of_mem_drop hu)) (.inr (.inl ⟨by omega, rfl⟩))
   ·exact hmut hr (by omega) (by omega) (by omega) hv (.inl rfl)
  refine al (fun _ => ?_) (fun _ => ?_)
  ·refine af (z7 (by omega) hr (by omega)) ?_
   rintro _ ⟨x, p, rfl, hxv, hxl, hr⟩
   simp only [evt]
   rw [aL (by simp; omega), cond_true]
   refine hmut hr (by omega) (by omega) (g := v0 ++ [x]) (by simp; omega) (fun u hu => ?_) (.inr (.inr ⟨x, hxl, rfl⟩))
   rcases List.mem_append.1 hu with h | h
   ·exact hv u h
   ·rw [List.mem_singleton.1 h]; exact hxv
  refine al (fun _ => ?_) (fun _ => ?_)
  ·have := xn n hn l t ht z1 z2 l0 v0 (9 - v0.length) n _ _ v0 (by omega) (by omega) hr (by omega) hv
   refine jj this ?_
   rintro _ ⟨g, y, p, rfl, h1, h2, h3, h4⟩
   exact ⟨g, y, p, rfl, h1, h2, h3, h4.mono (by omega)⟩
  refine al (fun _ => ?_) (fun _ => ?_)
  ·refine af (z7 (by omega) hr (by omega)) ?_
   rintro _ ⟨x, p, rfl, hxv, hxl, hr⟩
   simp only [evt]
   have := ae hxv
   exact aq ⟨v0, x, p, rfl, ⟨by omega, .inr (.inr (.inl ⟨rfl, hxl⟩))⟩, hv, by omega, hr.mono (by omega)⟩
  refine al (fun _ => ?_) (fun _ => ?_)
  ·refine al (fun h0 => ?_) (fun _ => ?_)
   ·have h0 : (0 : Int) < t.kids.length := by simpa using h0
    refine af (kD (by omega) hr (by omega) (by have := T.br t.kids; omega)) ?_
    rintro _ ⟨w, p, rfl, hw, hw2, hr⟩
    simp only [evt]
    refine af (z7 (by omega) hr (by omega)) ?_
    rintro _ ⟨x, p, rfl, hxv, hxl, hr⟩
    simp only [evt]
    have hx := ae hxv
    have hw2 := hw2 (by omega)
    obtain ⟨j, rfl⟩ : ∃ j : Nat, w = j := ⟨w.toNat, by omega⟩
    have hs := s6 (n := n) (t := t) (u := x) (j := j) (by omega) (by omega)
    simp only [tm] at hs
    rw [hs]
    simp only [evt]
    have hsz2 : T.aE (t.kids.set j x) ≤ T.aE t.kids + x.size := by
     have : ∀ (ks : List T) (j : Nat), T.aE (ks.set j x) ≤ T.aE ks + x.size := by
      intro ks
      induction ks with
      | nil => intro j; simp [T.aE]
      | cons y ks ih =>
       intro j
       cases j with
       | zero => simp only [List.set_cons_zero, T.aE]; omega
       | succ j => have := ih j; simp only [List.set_cons_succ, T.aE]; omega
     exact this _ _
    exact aq ⟨v0, .mk t.k t.n (t.kids.set j x), p, rfl, ⟨by simp only [T.size]; omega, .inr (.inr (.inr ⟨rfl, j, x, by omega, hxl, rfl⟩))⟩, hv, by omega, hr.mono (by omega)⟩
   ·exact hmut hr (by omega) (by omega) (by omega) hv (.inl rfl)
  ·exact hmut hr (by omega) (by omega) (by omega) hv (.inl rfl)
 | g + 1, c + 1, i, p, m, hg, hi, hr, hm => by
  have hlt : i < v0.length := by omega
  have hsz := ae (hv _ (List.getElem_mem hlt))
  have w : IntKind.i64.wrap ((i : Int) + 1) = ((i + 1 : Nat) : Int) := wrap64 (by omega)
  rw [dT, decide_eq_true (show (i : Int) < v0.length by omega), cond_true, decide_eq_true (show 0 ≤ (i : Int) by omega), cond_true, Int.toNat_natCast, List.getElem?_eq_getElem hlt, w]
  simp only [Option.bind_some]
  rw [gh v0[i] (by omega) (by omega)]
  simp only [evt]
  rw [aL (by simp; omega), cond_true]
  have nx := yn n hn l t ht z1 z2 l0 v0 hv hl g c (i + 1) p m (by omega) (by omega) hr hm
  rw [← List.take_append_getElem hlt] at nx
  exact nx
theorem rJ {n : Nat} (hn : 20001 ≤ n) {g : List T} {t : T} (ht : ak t = true) (hg : ∀ u ∈ g, ak u = true) (hl : g.length ≤ 9) {l : List UInt8} {p m : Int} (hr : jk l p m) (hm : m ≤ 200000000000) : Tot (FF n 50 [.one (.ptr 0 0), tms g, tm t] [rdr l p]) (AK g t l (m + 3000)) := by
 refine aK (C := 20000) (by omega) fun n hn e => ?_
 rw [qD]
 have := yn n hn l t (ae ht) 0 0 [] g hg hl g.length n 0 p m (by omega) (by omega) hr hm
 rw [List.take_zero] at this
 exact this
def Dw (g : List T) (y : T) : Prop := g.length ≤ 8 → ak y = true → ∃ (G : List Tm) (m : Tm), g = cx G ∧ y = of m ∧ Dn G m
theorem Em (A : Tm) (G : List Tm) : cx G ++ [of A] = cx (A :: G) := by simp [cx]
theorem DJ (G : List Tm) : (cx G).drop 1 = cx G.dropLast := by
 rw [cx, cx, List.drop_one, List.tail_reverse, List.map_dropLast]
theorem Mm {G : List Tm} {a : Tm} {g : List T} {y : T} (hb : Bse G a) (h : DwT (cx G) (of a) g y) : Dw g y := by
 intro h8 hv
 rcases h with h | ⟨h, rfl | ⟨h0, rfl⟩ | ⟨A, ⟨A', rfl, hA, lA⟩, rfl⟩⟩ | ⟨rfl, v, rfl, hv, lv⟩ | ⟨rfl, j, _, hj, ⟨v, rfl, hv', lv⟩, rfl⟩
 ·omega
 ·obtain ⟨m', rfl, hm⟩ := DL h hv; exact ⟨G, m', rfl, rfl, .base hb hm⟩
 ·obtain ⟨m', rfl, hm⟩ := DL h hv
  exact ⟨_, m', DJ G, rfl, .drop hb hm (fun e => by subst e; simp [cx] at h0)⟩
 ·obtain ⟨m', rfl, hm⟩ := DL h hv; exact ⟨_, m', Em A' G, rfl, .app hb hm hA lA⟩
 ·exact ⟨G, v, rfl, rfl, .any hb hv lv⟩
 ·exact ⟨G, _, rfl, Tm.Kv a v hj, .rep j hb hv' lv⟩
abbrev tW (r : List V1 × List av) : Prop := ∃ (g : List T) (t : T), r = ([tms g, tm t], []) ∧ (t.size ≤ 1000 ∧ Dw g t) ∧ (∀ u ∈ g, ak u = true) ∧ g.length ≤ 10
theorem te {G : List Tm} {a : Tm} (h : Bse G a) : (∀ u ∈ cx G, ak u = true) ∧ (cx G).length ≤ 9 := by
 have hl := h.len
 refine ⟨fun u hu => ?_, by rw [bO]; omega⟩
 rw [cx, List.mem_reverse] at hu
 obtain ⟨A, hA, rfl⟩ := List.mem_map.1 hu
 rcases h with ⟨n, hn, rfl, _, _⟩ | ⟨p, hp, rfl, _⟩
 ·rw [Tm.s7 hA]; exact Im
 ·exact (Tm.wA hp).vd A hA
theorem bo {n : Nat} (hn : 3000000 ≤ n) (l : List UInt8) : Tot (FF n 19 [.one (.fr (.bs l))] []) tW := by
 refine aK (C := 2999999) (by omega) fun n hn e => ?_
 rw [kv]
 refine af (Hi (by omega) l) ?_
 rintro _ ⟨l', rfl, hr⟩
 simp only [evt]
 refine af (Af (by omega) hr (by omega)) ?_
 rintro _ ⟨G, a, p, rfl, hb, hv, hr⟩
 simp only [evt]
 refine af (rJ (by omega) hv (te hb).1 (te hb).2 hr (by omega)) ?_
 rintro _ ⟨g, y, p, rfl, ⟨h1, hd⟩, h2, h3, h4⟩
 simp only [evt]
 exact aq ⟨g, y, rfl, ⟨h1, Mm hb hd⟩, h2, h3⟩
end Go.Proofs.YtajlknlnmmbfcaaGreat
end
section
namespace Go.Proofs.YtajlknlnmmbfcaaGreat
open Go Go.Ab Go.Dk
open Tm (Rs sq frm lvl chk fam made inI inS tI tS lvr ckr cc pt ps pc Wf Dn)
theorem HD {g : List T} (h : okA g = true) : g.length ≤ 8 := by obtain ⟨G, rfl, _, h8⟩ := jV h; rw [bO]; exact h8
theorem iy {g : List T} {y : T} (h : Dw g y) : itS g y = itI g y := by
 unfold itS itI
 cases hv : okA g && ak y with
 | false => rfl
 | true =>
  have hv' := hv
  rw [Bool.and_eq_true] at hv
  obtain ⟨G, m, rfl, rfl, hd⟩ := h (HD hv.1) hv.2
  obtain ⟨G', e, hG, h8⟩ := jV hv.1
  have e' : G = G' := by rw [← cW G, e, cW]
  subst e'
  obtain ⟨f1, f2⟩ := hd.An
  simp only [if_true]
  rw [cW, jm, Tm.Iw aH (by omega) hG f1 hv.2 f2]
theorem ID {g : List T} {y : T} (h : (itI g y).2 ≠ 0) : (itI g y).1 = .mk 0 0 [] := by
 unfold itI at h ⊢
 split
 ·rename_i hv
  rw [if_pos hv] at h
  cases e : pt O (tI O) (CN g) (dec y) with
  | ok A => rw [e] at h; exact absurd rfl h
  | bad => rfl
  | opn => rfl
 ·rfl
structure Ok (G : List Tm) (m A : Tm) : Prop where
 hG : ∀ A ∈ G, vdM A = true
 h8 : G.length ≤ 8
 v : vdM m = true
 w : Wf G
 c : ∃ B, cc O (tI O) G = .ok B
 e : tI O G m = .ok A
 vA : vdM A = true
 ty : Tm.Ty G m A
theorem gp {g : List T} {t : T} (h : (itI g t).2 = 0) : ∃ G m A, g = cx G ∧ t = of m ∧ itI g t = (of A, 0) ∧ Ok G m A := by
 obtain ⟨G, m, A, rfl, rfl, hG, h8, v, w, e, e1, e2, vA, ty⟩ := C5 h
 obtain ⟨_, _, c⟩ := Tm.HJ aH e
 exact ⟨G, m, A, rfl, rfl, Prod.ext e2 h, hG, h8, v, w, c, e1, vA, ty⟩
section
variable {G : List Tm} (hG : ∀ A ∈ G, vdM A = true) (h8 : G.length ≤ 8) (c : ∃ B, cc O (tI O) G = .ok B)
include hG h8 c
theorem Iy {m : Tm} (v : vdM m = true) : itI (cx G) (of m) = (zr (tI O G m), sts (tI O G m)) := by
 obtain ⟨B, c⟩ := c
 unfold itI
 rw [if_pos (by rw [qR hG h8]; exact v), cW, jm]
 unfold pt
 rw [c]
theorem KL {m : Tm} (v : vdM m = true) : soI (cx G) (of m) = (lvn (lvr O (tI O G m)), sts (lvr O (tI O G m))) := by
 obtain ⟨B, c⟩ := c
 unfold soI
 rw [if_pos (by rw [qR hG h8]; exact v), cW, jm]
 unfold ps
 rw [c]
theorem J7 {m u : Tm} (v : vdM m = true) (vu : vdM u = true) : ctI (cx G) (of m) (of u) = sts (match lvr O (tI O G u) with | .ok _ => ckr O (tI O G m) u | r => r) := by
 obtain ⟨B, c⟩ := c
 unfold ctI
 rw [if_pos (by rw [qR hG h8]; show (true && (vdM m && vdM u)) = true; rw [v, vu]; rfl), cW, jm, jm]
 unfold pc ps
 rw [c]
 cases lvr O (tI O G u) <;> rfl
theorem kh {m A : Tm} (w : Wf G) (v : vdM m = true) (h : Tm.Ty G m A) : (itI (cx G) (of m)).2 = 2 ∨ ∃ B, itI (cx G) (of m) = (of B, 0) ∧ tI O G m = .ok B ∧ vdM B = true ∧ Tm.Ty G m B ∧ Tm.Conv B A := by
 rw [Iy hG h8 c v]
 obtain ⟨_, nb, ok⟩ := Tm.Ba aH w (by omega) v h
 cases e : tI O G m with
 | ok B => obtain ⟨h1, h2⟩ := ok B e; exact .inr ⟨B, rfl, rfl, Tm.Df aH w v e, h1, h2⟩
 | bad => exact absurd e nb
 | opn => exact .inl rfl
end
theorem A3 {g : List T} {t : T} (h : ak t = false) : itI g t = (.mk 0 0 [], 3) := by
 unfold itI; rw [if_neg (by rw [h]; simp)]
theorem lz {a b : Tm} (h : Tm.Conv a b) : sU (of a) (of b) 200 ≠ 2 := by
 unfold sU
 split
 ·exact fun e => rG e h
 ·decide
theorem EO {inn : Bool} {m : Tm} (v : vdM m = true) (h : (lg inn (of m)).2 = 1) : ∃ u, (lg inn (of m)).1 = of u ∧ Tm.Par m u ∧ vdM u = true := by
 unfold lg at h ⊢
 rw [if_pos (show ak (of m) = true from v)] at h ⊢
 unfold HN at h ⊢
 cases hs : stT inn (of m) with
 | none => rw [hs] at h; cases h
 | some x =>
  rw [hs] at h
  simp only at h ⊢
  obtain ⟨u, rfl, hp⟩ := HI (EJ hs)
  cases hv : ak (of u) with
  | true => exact ⟨u, rfl, hp, hv⟩
  | false => rw [hv] at h; cases h
theorem DO {m : Tm} (v : vdM m = true) (h : (oy false (of m) 200).2.2 = 0) : ∃ u, (oy false (of m) 200).1 = of u ∧ Tm.Red m u ∧ vdM u = true ∧ nfB (of u) = true := by
 unfold oy at h ⊢
 rw [if_pos ⟨show ak (of m) = true from v, by decide, by decide⟩] at h ⊢
 obtain ⟨h1, h2⟩ := ke _ _ _ h
 have h3 := sO _ _ _ v h
 obtain ⟨u, e, r⟩ := DT h1
 rw [e] at h2 h3 ⊢
 exact ⟨u, rfl, r, h3, h2⟩
theorem D5 {G : List Tm} {m A : Tm} (k : Ok G m A) : (of A).k = 2 ∨ sts (lvr O (tI O G A)) = 0 ∨ sts (lvr O (tI O G A)) = 2 := by
 rcases k.ty.valid k.w with rfl | ⟨i, hi⟩
 ·exact .inl rfl
 ·right
  have h8 := k.h8
  obtain ⟨_, nb, ok⟩ := Tm.Ba aH k.w (by omega) k.vA hi
  cases e : tI O G A with
  | ok B =>
   obtain ⟨_, c⟩ := ok B e
   cases e2 : O.hn B with
   | ok h =>
    have := Tm.zZ aH e2 c
    subst this
    left
    unfold lvr lvl frm sq
    simp only [e2]; rfl
   | bad => exact absurd e2 (aH.hn_nb B)
   | opn =>
    right
    unfold lvr lvl frm sq
    simp only [e2]; rfl
  | bad => exact absurd e nb
  | opn => exact .inr rfl
theorem eW {n : Nat} {a : T} (hn : 100000 ≤ n) (hz : a.size ≤ 10000) : Tot (FF n 22 [tm a, tm a] []) (fun r => r = ([bl true], [])) := by
 have := km a (n := n) (by omega) (by omega) a
 rw [T.beq_refl] at this
 exact ⟨_, this, rfl⟩
theorem nH {f : FuncId} {args : List V1} {n : Nat} {x : List V1 × List av} (h : FF n f args [] = some x) : Tot (FF n f args []) (fun r => r = x) := ⟨_, h, rfl⟩
end Go.Proofs.YtajlknlnmmbfcaaGreat
end
section
namespace Go.Proofs.YtajlknlnmmbfcaaGreat
open Go.ChangeShapes Go.WideShapes Go.ChangeAt Go.RowKit
open Go.ChangeMaps (open_string shut_string)
open Go.Dk
theorem own : ownKnob Tryz.prog.godebug = none := by kernel_rfl
theorem laidOut : laidOutB Tryz.prog = true := by kernel_rfl
section
variable {H : Type} {enc : TypeId × Value → H} {P : Program} {W : World} {sp : Nat → Bool} {hd : Bool}
end
end Go.Proofs.YtajlknlnmmbfcaaGreat
end
section
namespace Go.Proofs.YtajlknlnmmbfcaaGreat
open Go
def Ma : List Char := ([104, 97, 114, 110, 101, 115, 115] : List Nat).map Char.ofNat
def L6 : List Char := ([49, 56, 48, 49, 56, 97, 56, 56, 102, 50, 97, 51, 55, 52, 56, 51, 101, 48, 99, 48, 102, 98, 52, 51, 52, 52, 55, 51, 98, 57, 50, 52, 102, 57, 55, 51, 53, 50, 57, 51, 99, 53, 54, 54, 57, 52, 48, 102, 49, 54, 56, 48, 50, 102, 54, 57, 54, 97, 101, 98, 98, 99, 100, 100] : List Nat).map Char.ofNat
def m8 : List Char := ([99, 117, 116] : List Nat).map Char.ofNat
def Jl : List Char := ([97, 116, 32, 108, 111, 111, 112, 46, 101, 120, 97, 109, 112, 108, 101, 47, 100, 101, 112, 107, 101, 114, 110, 101, 108, 47, 108, 97, 119, 115, 46, 70, 110, 84, 121, 112, 101, 65, 112, 112, 108, 121, 32, 108, 111, 111, 112, 46, 101, 120, 97, 109, 112, 108, 101, 47, 100, 101, 112, 107, 101, 114, 110, 101, 108, 47, 108, 97, 119, 115, 46, 70, 110, 84, 121, 112, 101, 67, 108, 111, 115, 101, 100, 32, 108, 111, 111, 112, 46, 101, 120, 97, 109, 112, 108, 101, 47, 100, 101, 112, 107, 101, 114, 110, 101, 108, 47, 108, 97, 119, 115, 46, 70, 110, 76, 97, 109, 65, 112, 112, 108, 121, 32, 108, 111, 111, 112, 46, 101, 120, 97, 109, 112, 108, 101, 47, 100, 101, 112, 107, 101, 114, 110, 101, 108, 47, 108, 97, 119, 115, 46, 70, 110, 67, 104, 101, 99, 107, 67, 111, 110, 116, 101, 120, 116, 32, 108, 111, 111, 112, 46, 101, 120, 97, 109, 112, 108, 101, 47, 100, 101, 112, 107, 101, 114, 110, 101, 108, 47, 108, 97, 119, 115, 46, 70, 110, 84, 121, 112, 101, 86, 97, 114, 32, 108, 111, 111, 112, 46, 101, 120, 97, 109, 112, 108, 101, 47, 100, 101, 112, 107, 101, 114, 110, 101, 108, 47, 108, 97, 119, 115, 46, 70, 110, 84, 121, 112, 101, 78, 111, 114, 109, 97, 108, 32, 108, 111, 111, 112, 46, 101, 120, 97, 109, 112, 108, 101, 47, 100, 101, 112, 107, 101, 114, 110, 101, 108, 47, 108, 97, 119, 115, 46, 70, 110, 84, 121, 112, 101, 87, 101, 97, 107, 101, 110, 32, 108, 111, 111, 112, 46, 101, 120, 97, 109, 112, 108, 101, 47, 100, 101, 112, 107, 101, 114, 110, 101, 108, 47, 108, 97, 119, 115, 46, 70, 110, 84, 121, 112, 101, 79, 102, 84, 121, 112, 101, 32, 108, 111, 111, 112, 46, 101, 120, 97, 109, 112, 108, 101, 47, 100, 101, 112, 107, 101, 114, 110, 101, 108, 47, 108, 97, 119, 115, 46, 70, 110, 84, 121, 112, 101, 83, 116, 101, 112, 32, 108, 111, 111, 112, 46, 101, 120, 97, 109, 112, 108, 101, 47, 100, 101, 112, 107, 101, 114, 110, 101, 108, 47, 108, 97, 119, 115, 46, 70, 110, 84, 121, 112, 101, 83, 117, 99, 99, 32, 108, 111, 111, 112, 46, 101, 120, 97, 109, 112, 108, 101, 47, 100, 101, 112, 107, 101, 114, 110, 101, 108, 47, 108, 97, 119, 115, 46, 70, 110, 84, 121, 112, 101, 80, 97, 114, 116, 115, 32, 108, 111, 111, 112, 46, 101, 120, 97, 109, 112, 108, 101, 47, 100, 101, 112, 107, 101, 114, 110, 101, 108, 47, 108, 97, 119, 115, 46, 70, 110, 84, 121, 112, 101, 73, 110, 110, 101, 114, 32, 108, 111, 111, 112, 46, 101, 120, 97, 109, 112, 108, 101, 47, 100, 101, 112, 107, 101, 114, 110, 101, 108, 47, 108, 97, 119, 115, 46, 70, 110, 84, 121, 112, 101, 83, 117, 98, 115, 116, 32, 108, 111, 111, 112, 46, 101, 120, 97, 109, 112, 108, 101, 47, 100, 101, 112, 107, 101, 114, 110, 101, 108, 47, 108, 97, 119, 115, 46, 70, 110, 84, 121, 112, 101, 80, 105, 32, 108, 111, 111, 112, 46, 101, 120, 97, 109, 112, 108, 101, 47, 100, 101, 112, 107, 101, 114, 110, 101, 108, 47, 108, 97, 119, 115, 46, 70, 110, 83, 111, 114, 116, 79, 102, 32, 108, 111, 111, 112, 46, 101, 120, 97, 109, 112, 108, 101, 47, 100, 101, 112, 107, 101, 114, 110, 101, 108, 47, 108, 97, 119, 115, 46, 70, 110, 67, 104, 101, 99, 107, 84, 121, 112, 101] : List Nat).map Char.ofNat
theorem Ja : Tryz.pinned.checked.prog.initOrder = String.ofList (Ma ++ Char.ofNat 32 :: (L6 ++ Char.ofNat 32 :: (m8 ++ Char.ofNat 32 :: Jl))) := by kernel_rfl
theorem tx : ∀ (w r : List Char), w.all (fun c => c != Char.ofNat 32) = true → wordsSigns (w ++ Char.ofNat 32 :: r) = w :: wordsSigns r
 | [], r, _ => by rw [List.nil_append, wordsSigns]
 | c :: w, r, h => by
  rw [List.all_cons, Bool.and_eq_true] at h
  have hc : c = Char.ofNat 32 → False := fun e => by rw [e] at h; simp at h
  rw [List.cons_append, wordsSigns, tx w r h.2]
  exact hc
theorem DG : ∃ R, behindMainWord (wordsSigns Tryz.pinned.checked.prog.initOrder.toList) = m8 :: R :=
 ⟨wordsSigns Jl, by rw [Ja, String.toList_ofList, tx _ _ (by decide +kernel), tx _ _ (by decide +kernel), tx _ _ (by decide +kernel)]; generalize wordsSigns Jl = R; kernel_rfl⟩
theorem i1 : (m8 == "gc".toList || m8 == "spec".toList) = false := by kernel_rfl
theorem i2 : (m8 == "cut".toList) = true := by kernel_rfl
theorem i3 : (m8 == "carried".toList) = false := by kernel_rfl
theorem i4 (R : List (List Char)) : stripLifts liftWords (m8 :: R) = ([], m8 :: R) := by kernel_rfl
theorem i5 : (some m8 == some "cut".toList) = true := by kernel_rfl
theorem i6 : (some m8 == some "carried".toList) = false := by kernel_rfl
theorem GQ (P : Program) (h : ∃ R, behindMainWord (wordsSigns P.initOrder.toList) = m8 :: R) : P.make = some .cut := by
 obtain ⟨R, h⟩ := h
 unfold Program.make
 rw [h]
 simp only [i1, i2, Bool.true_or, if_true, Bool.false_eq_true, if_false]
theorem JA (P : Program) (h : ∃ R, behindMainWord (wordsSigns P.initOrder.toList) = m8 :: R) (h1 : (!P.laysLater) = true) (h2 : (!P.bearsReflect) = true) (h3 : P.doorFits [] = true) : P.mayEnter = true := by
 obtain ⟨R, h⟩ := h
 unfold Program.mayEnter
 rw [h]
 simp only [i1, i3, i4, List.head?_cons, i5, h1, h2, h3, Bool.false_and, Bool.false_or, Bool.or_true, Bool.true_and, Bool.and_true]
 decide
theorem II (P : Program) (h : ∃ R, behindMainWord (wordsSigns P.initOrder.toList) = m8 :: R) : P.liftsFinal = false := by
 obtain ⟨R, h⟩ := h
 unfold Program.liftsFinal Program.headLifts
 rw [h]
 simp only [i4, List.head?_cons, i5, i6, Bool.false_and, Bool.false_or, if_true]
 decide
theorem iJ : Tryz.pinned.checked.prog.mayEnter = true := JA _ DG (by kernel_rfl) (by kernel_rfl) (by kernel_rfl)
theorem iI : Tryz.pinned.checked.prog.liftsFinal = false := II _ DG
theorem fe : Tryz.pinned.checked.prog.make = some .cut := GQ _ DG
end Go.Proofs.YtajlknlnmmbfcaaGreat
end
section
namespace Go.Proofs.YtajlknlnmmbfcaaGreat
namespace Tm
variable {O : Orc}
theorem Wh.ends {t a b : Tm} (h : Wh t a) (k : Wh t b) (na : ∀ u, ¬ Hd a u) (nb : ∀ u, ¬ Hd b u) : a = b := by
 rcases h.two k with h | h
 ·cases h with
  | nil => rfl
  | cons h _ => exact absurd h (na _)
 ·cases h with
  | nil => rfl
  | cons h _ => exact absurd h (nb _)
theorem Wh.Lq {t a b a' b' : Tm} (h : Wh t (Tm.pi a b)) (k : Wh t (Tm.pi a' b')) : a = a' ∧ b = b' := by
 have := h.ends k (fun _ h => by cases h) (fun _ h => by cases h)
 cases this; exact ⟨rfl, rfl⟩
theorem Wh.EG {t a b a' b' : Tm} (h : Wh t (Tm.sig a b)) (k : Wh t (Tm.sig a' b')) : a = a' ∧ b = b' := by
 have := h.ends k (fun _ h => by cases h) (fun _ h => by cases h)
 cases this; exact ⟨rfl, rfl⟩
theorem Wh.K3 {t a b c a' b' c' : Tm} (h : Wh t (Tm.id a b c)) (k : Wh t (Tm.id a' b' c')) : a = a' ∧ b = b' ∧ c = c' := by
 have := h.ends k (fun _ h => by cases h) (fun _ h => by cases h)
 cases this; exact ⟨rfl, rfl, rfl⟩
theorem Wh.ma {t : Tm} {i j : Nat} (h : Wh t (Tm.sort i)) (k : Wh t (Tm.sort j)) : i = j := by
 have := h.ends k (fun _ h => by cases h) (fun _ h => by cases h)
 cases this; rfl
theorem Al.det {G : List Tm} {t A : Tm} (h : Al G t A) : ∀ {B}, Al G t B → A = B := by
 induction h with
 | var h => intro B g; cases g with | var h' => rw [h] at h'; exact Option.some.inj h'
 | sort h => intro B g; cases g; rfl
 | nat => intro B g; cases g; rfl
 | zero => intro B g; cases g; rfl
 | succ h c ih => intro B g; cases g; rfl
 | pi h w k v ih ik =>
  intro B g
  cases g with
  | pi h' w' k' v' => have e1 := ih h'; have e2 := ik k'; subst e1 e2; rw [w.ma w', v.ma v']
 | sig h w k v ih ik =>
  intro B g
  cases g with
  | sig h' w' k' v' => have e1 := ih h'; have e2 := ik k'; subst e1 e2; rw [w.ma w', v.ma v']
 | lam h w k l v ih ik il => intro B g; cases g with | lam h' w' k' l' v' => rw [ik k']
 | app h w k c ih ik => intro B g; cases g with | app h' w' k' c' => have e := ih h'; subst e; rw [(w.Lq w').2]
 | elim h w c v k d l e m f ih ik il im => intro B g; cases g; rfl
 | id h w k c l d ih ik il => intro B g; cases g with | id h' w' k' c' l' d' => have e := ih h'; subst e; rw [w.ma w']
 | refl h k w ih ik => intro B g; cases g with | refl h' k' w' => rw [ih h']
 | move h w k v c u l d ih ik il => intro B g; cases g with | move h' w' k' v' c' u' l' d' => have e := ih h'; subst e; rw [(w.K3 w').2.2]
 | pair h w v k c l d ih ik il => intro B g; cases g; rfl
 | fst h w ih => intro B g; cases g with | fst h' w' => have e := ih h'; subst e; rw [(w.EG w').1]
 | snd h w ih => intro B g; cases g with | snd h' w' => have e := ih h'; subst e; rw [(w.EG w').2]
theorem H8 {G : List Tm} : tI O G nat = .ok (sort 0) := Cg (H5 (g := 1) rfl)
theorem LG {G : List Tm} {n : Nat} {A : Tm} (h : look G n = some A) : tI O G (var n) = if O.vd A = true then .ok A else .opn :=
 Cg (H5 (g := 1) (by show kI O _ G (var n) = _; simp only [kI, h, made]))
theorem IW (k : bX O) {G : List Tm} (w : Wf G) (t : Tm) : tI O G (succ t) = match ckr O (tI O G t) nat with | .ok _ => .ok nat | r => r := by
 obtain ⟨N, hN⟩ := wg k w t
 refine Cg ⟨N + 1, fun n hn => ?_⟩
 obtain ⟨m, rfl⟩ : ∃ m, n = m + 1 := ⟨n - 1, by omega⟩
 show sq (chk O (inI O m G t) nat) (fun _ => some (.ok nat)) = _
 rw [show inI O m G t = some (tI O G t) from hN m (by omega), Ar]
 cases ckr O (tI O G t) nat <;> rfl
theorem BI {s : Tm} {i : Nat} (hn : O.hn s = .ok (sort i)) : lvr O (.ok s) = .ok (sort i) := by
 unfold lvr lvl frm sq
 simp only [hn]; rfl
theorem EK {f : List Tm → Tm → Rs} {A B : Tm} {G : List Tm} (h : cc O f (A :: G) = .ok B) : (∃ C, cc O f G = .ok C) ∧ lvr O (f G A) = .ok B := by
 unfold cc at h
 split at h
 ·rename_i C e; exact ⟨⟨C, e⟩, h⟩
 ·rename_i e; exact absurd h (e B)
theorem IP {f : List Tm → Tm → Rs} {A B C : Tm} {G : List Tm} (h : cc O f G = .ok C) (h' : lvr O (f G A) = .ok B) : cc O f (A :: G) = .ok B := by
 unfold cc; rw [h]; exact h'
theorem I6 (k : bX O) {G : List Tm} {t A B V : Tm} (w : Wf G) (h : tI O G t = .ok A) (w' : Wf (B :: G)) (h' : tI O (B :: G) t.wk = .ok V) : V = A.wk := by
 obtain ⟨T', rfl, h2⟩ := (Fx k w' h').Hx
 rw [(Fx k w h).det h2]
end Tm
end Go.Proofs.YtajlknlnmmbfcaaGreat
end
section
namespace Go.Proofs.YtajlknlnmmbfcaaGreat
open Go Go.Ab Go.Dk
open Tm (Rs sq frm lvl chk fam made inI inS tI tS lvr ckr cc pt ps pc Wf)
theorem ly {n : Nat} {m : Tm} {a : Nat} (hn : 5000000 ≤ n) (v : vdM m = true) (ha : a ≤ 20) : FF n 39 [tm (of m), nt (a : Int), nt 0] [] = some ([tm (okT (of (m.ren (· + a)))), bl (vdM (m.ren (· + a)))], []) := by
 have z := ae v
 obtain ⟨n, rfl⟩ := ag (show 0 < n by omega)
 have hs := pd (n := n) (t := of m) (a := (a : Int)) (c := 0) (by omega) (fE v) (by omega) (by omega) (by omega)
 have e : shT (a : Int) (of m) 0 = of (m.ren (· + a)) := by have := Co a m 0; rw [kq] at this; exact this
 rw [shR, e] at hs
 have hv := aX (n := n) (t := of m) (by omega)
 rw [show ak (of m) = true from v] at hv
 simp only [tm] at hv hs
 rw [ov]
 simp only [evt, tm, hv]
 rw [gu (by omega), decide_eq_true (show (-20 : Int) ≤ a by omega), decide_eq_true (show (a : Int) ≤ 20 by omega)]
 simp only [evt]
 rw [gu (by omega), decide_eq_true (show (0 : Int) ≤ 0 by omega), decide_eq_true (show (0 : Int) ≤ 20 by omega)]
 simp only [evt, hs]
 rfl
theorem iS {n : Nat} {b u : Tm} (hn : 5000000 ≤ n) (vb : vdM b = true) (vu : vdM u = true) : FF n 24 [tm (of b), tm (of u)] [] = some ([tm (okT (of (b.inst u))), bl (vdM (b.inst u))], []) := by
 have zb := ae vb
 have zu := ae vu
 obtain ⟨n, rfl⟩ := ag (show 0 < n by omega)
 rw [lZ]
 obtain ⟨n, rfl⟩ := ag (show 0 < n by omega)
 have hs := yN (n := n) (t := of b) (u := of u) (x := 0) (by omega) (fE vb) (by omega) (fE vu) (by omega) (by omega)
 rw [sbR, ld] at hs
 have hb := aX (n := n) (t := of b) (by omega)
 have hu := aX (n := n) (t := of u) (by omega)
 rw [show ak (of b) = true from vb] at hb
 rw [show ak (of u) = true from vu] at hu
 simp only [tm] at hb hu hs
 rw [oc]
 simp only [evt, tm, hb, hu]
 rw [gu (by omega), decide_eq_true (show (0 : Int) ≤ 0 by omega), decide_eq_true (show (0 : Int) ≤ 20 by omega)]
 simp only [evt, hs]
 rfl
noncomputable def nmR (r : T × Int) : T × Int := if r.2 = 0 then (if (oy false r.1 200).2.2 = 0 then ((oy false r.1 200).1, 0) else (.mk 0 0 [], 2)) else (.mk 0 0 [], r.2)
section
variable {n : Nat} {l : List T} {t u : T}
theorem iT (hn : BB + 10 ≤ n) (hl : l.length ≤ 4000000) (hz : ∀ t ∈ l, t.size ≤ 4000000) (ht : t.size ≤ 4000000) : FF n 20 [tms l, tm t] [] = some ([tm (nmR (itI l t)).1, nt (nmR (itI l t)).2], []) := by
 have := iV
 have zi := gl (l := l) (t := t)
 obtain ⟨n, rfl⟩ := ag (show 0 < n by omega)
 rw [mh]
 have e := aZ (n := n) (by omega) hl hz ht
 simp only [tm] at e
 simp only [evt, tm, e]
 unfold nmR
 by_cases h : (itI l t).2 = 0
 ·rw [if_pos h, h]
  have r := iW (n := n) (t := (itI l t).1) (fuel := 200) (by omega)
  simp only [tm] at r
  simp only [evt, r]
  by_cases h2 : (oy false (itI l t).1 200).2.2 = 0
  ·rw [if_pos h2, h2]; rfl
  ·rw [if_neg h2, decide_eq_false h2]; rfl
 ·rw [if_neg h, decide_eq_false h]; rfl
theorem iz (hn : BS + 10 ≤ n) (hl : l.length ≤ 4000000) (hz : ∀ t ∈ l, t.size ≤ 4000000) (ht : t.size ≤ 4000000) (hs : itS l t = itI l t) : FF n 21 [tms l, tm t] [] = some ([tm (nmR (itI l t)).1, nt (nmR (itI l t)).2], []) := by
 have := lq
 have zi := gl (l := l) (t := t)
 obtain ⟨n, rfl⟩ := ag (show 0 < n by omega)
 rw [mn]
 have e := cQ (n := n) (by omega) hl hz ht
 rw [hs] at e
 simp only [tm] at e
 simp only [evt, tm, e]
 unfold nmR
 by_cases h : (itI l t).2 = 0
 ·rw [if_pos h, h]
  obtain ⟨G, m, A, _, _, _, _, _, _, _, _, eA, vA, _⟩ := C5 h
  have hv : ak (itI l t).1 = true := by rw [eA]; exact vA
  have r := uR (n := n) (t := (itI l t).1) (inn := false) (g := 200) (by omega) (by omega) hv
  have er : oy false (itI l t).1 200 = fx false 200 0 (itI l t).1 := by unfold oy; rw [if_pos ⟨hv, by decide, by decide⟩]; rfl
  rw [← er] at r
  have r : FF n 51 [tm (itI l t).1, nt 200, bl false] [] = _ := r
  simp only [tm] at r
  simp only [evt, r]
  by_cases h2 : (oy false (itI l t).1 200).2.2 = 0
  ·rw [if_pos h2, h2]; rfl
  ·rw [if_neg h2, decide_eq_false h2]; rfl
 ·rw [if_neg h, decide_eq_false h]; rfl
end
theorem zF {r : T × Int} (h : (nmR r).2 ≠ 0) : (nmR r).1 = .mk 0 0 [] := by
 unfold nmR at h ⊢
 split
 ·rename_i h1
  rw [if_pos h1] at h
  split
  ·rename_i h2; rw [if_pos h2] at h; exact absurd rfl h
  ·rfl
 ·rfl
theorem td {g : List T} {t : T} (h : (nmR (itI g t)).2 = 0) : ∃ G m A u, g = cx G ∧ t = of m ∧ itI g t = (of A, 0) ∧ nmR (itI g t) = (of u, 0) ∧ Ok G m A ∧ Tm.Red A u ∧ vdM u = true ∧ nfB (of u) = true ∧ oy false (of A) 200 = (of u, (oy false (of A) 200).2.1, 0) := by
 have h0 : (itI g t).2 = 0 := by
  unfold nmR at h
  split at h
  ·assumption
  ·exact h
 obtain ⟨G, m, A, e1, e2, e3, k⟩ := gp h0
 unfold nmR at h ⊢
 rw [e3] at h ⊢
 simp only [if_true] at h ⊢
 split at h
 ·rename_i h2
  obtain ⟨u, eu, r, vu, nu⟩ := DO k.vA h2
  refine ⟨G, m, A, u, e1, e2, rfl, ?_, k, r, vu, nu, ?_⟩
  ·rw [if_pos h2, eu]
  ·exact Prod.ext eu (Prod.ext rfl h2)
 ·cases h
theorem IQ {inn : Bool} {t : T} (h : nfB t = true) : ∀ g s, fx inn g s t = (t, s, 0)
 | 0, s => by rw [fx, nw.2 h]
 | g + 1, s => by rw [fx, nw.2 h]
theorem Ff {a u : T} (va : ak a = true) (vu : ak u = true) (nu : nfB u = true) (h : oy false a 200 = (u, (oy false a 200).2.1, 0)) : sU u a 200 = 1 := by
 rw [pw ⟨vu, va, by decide, by decide⟩]
 have ha : oy false a 200 = fx false 200 0 a := by unfold oy; rw [if_pos ⟨va, by decide, by decide⟩]; rfl
 rw [ha] at h
 show iE u a 200 = 1
 unfold iE
 split
 ·rfl
 ·rw [IQ nu, h, if_neg (by simp), T.beq_refl]; rfl
section
variable {G : List Tm} (hG : ∀ A ∈ G, vdM A = true) (h8 : G.length ≤ 8) (c : ∃ B, cc O (tI O) G = .ok B)
include hG h8 c
theorem y6 {m A : Tm} (w : Wf G) (h : Tm.Ty G m A) : (itI (cx G) (of m)).2 = 3 ∨ (itI (cx G) (of m)).2 = 2 ∨ ∃ B, itI (cx G) (of m) = (of B, 0) ∧ tI O G m = .ok B ∧ vdM B = true ∧ Tm.Ty G m B ∧ Tm.Conv B A := by
 cases v : vdM m with
 | false => left; rw [A3 (show ak (of m) = false from v)]
 | true => exact .inr (kh hG h8 c w v h)
theorem DK {m u : Tm} (w : Wf G) (v : vdM m = true) (vu : vdM u = true) (h : ctI (cx G) (of m) (of u) = 0) : ∃ A i y, tI O G m = .ok A ∧ Tm.Ty G u (.sort i) ∧ Tm.Ty G m u ∧ Tm.Conv A u ∧ O.sm A u = .ok y ∧ lvr O (tI O G u) = .ok (.sort i) := by
 rw [J7 hG h8 c v vu] at h
 cases e : lvr O (tI O G u) with
 | ok x =>
  rw [e] at h
  obtain ⟨s, i, e1, rfl, r⟩ := Tm.Ld aH e
  have tu : Tm.Ty G u (.sort i) := ((Tm.Fx aH w e1).sound w).lvl w r
  cases e2 : ckr O (tI O G m) u with
  | ok y =>
   obtain ⟨A, e3, cv⟩ := Tm.KY aH e2
   refine ⟨A, i, y, e3, tu, .conv ((Tm.Fx aH w e3).sound w) cv tu, cv, ?_, rfl⟩
   have e4 := Tm.Ar (O := O) (tI O G m) u
   rw [e2, e3] at e4
   exact Option.some.inj e4
  | bad => rw [e2] at h; cases h
  | opn => rw [e2] at h; cases h
 | bad => rw [e] at h; cases h
 | opn => rw [e] at h; cases h
end
theorem AJ : O.hn (.sort 0) = .ok (.sort 0) := by
 have : vdM (.sort 0) = true := FL.2 (by omega)
 simp only [O, this, if_true]; rfl
theorem FJ {G : List Tm} {t A B : Tm} (h : Tm.Ty G t A) (w : Wf G) (r : Tm.Red A B) : Tm.Ty G t B := by
 rcases h.valid w with rfl | ⟨i, hi⟩
 ·rw [r.dG]; exact h
 ·exact .conv h r.conv (hi.red w r)
end Go.Proofs.YtajlknlnmmbfcaaGreat
end
section
namespace Go.Proofs.YtajlknlnmmbfcaaGreat
open Go Go.Ab Go.Dk
open Tm (Rs inI inS tI tS lvr ckr cc pt ps pc Wf lo po)
def ovF (k : Int) (ps : List T) (t : T) : T := ps.foldr (fun a u => .mk k 0 [a, u]) t
theorem Ea (k : Int) : ∀ (ps : List T) (t : T), (ovF k ps t).size = t.size + ps.length + T.aE ps
 | [], t => by simp [ovF, T.aE]
 | a :: ps, t => by
  have := Ea k ps t
  unfold ovF at this ⊢
  rw [List.foldr_cons, T.size]
  simp only [T.aE, List.length_cons, this]; omega
theorem tp {k : Int} {ps : List T} {t : T} (ht : ak t = true) (hl : okA ps = true) : (ovF k ps t).size ≤ 5000 := by
 obtain ⟨h1, h2⟩ := jM hl
 have h3 := A9 (k := 400) fun t ht => ae (h2 t ht)
 have h4 : ps.length * 400 ≤ 8 * 400 := Nat.mul_le_mul_right 400 h1
 rw [Ea]
 have := ae ht
 omega
def ovR (k : Int) (ps : List T) (t : T) : T × Bool := if (okA ps && ak t) = true then (okT (ovF k ps t), ak (ovF k ps t)) else (.mk 0 0 [], false)
theorem DV (k : Int) (n : Nat) (hn : 20000 ≤ n) (ps : List T) (hl : ps.length ≤ 8) (z1 z2 : Int) (l0 : List T) (w : T) (hw : w.size ≤ 10000) : ∀ (i m : Nat) (u : T), i < m → i ≤ ps.length → ovF k (ps.take i) u = w →
   dE n m k ps ((i : Int) - 1) z1 z2 l0 u.k u.n u.kids = some ([tm (okT w), bl (ak w)], [])
 | i, 0, u, hm, _, _ => by omega
 | 0, m + 1, u, hm, hi, he => by
  have he : u = w := he
  subst he
  have ho := dt (n := n) (t := u) (by omega) (by omega)
  rw [gR, decide_eq_false (show ¬ (0 : Int) ≤ ((0 : Nat) : Int) - 1 by omega)]
  simp only [cond_false]
  rw [ho.1]
  simp only [evt]
  rw [ho.2]
  simp only [evt]
 | i + 1, m + 1, u, hm, hi, he => by
  have hlt : i < ps.length := by omega
  have hx : ps.take (i + 1) = ps.take i ++ [ps[i]] := by rw [List.take_append_getElem hlt]
  have nx := DV k n hn ps hl z1 z2 l0 w hw i m (.mk k 0 [ps[i], u]) (by omega) (by omega) (by rw [← he, hx]; unfold ovF; rw [List.foldr_append]; rfl)
  have w : IntKind.i64.wrap ((i : Int) - 1) = (i : Int) - 1 := wrap64 (by omega)
  rw [show (((i + 1 : Nat) : Int) - 1) = (i : Int) by omega, gR, decide_eq_true (show 0 ≤ (i : Int) by omega), Int.toNat_natCast, List.getElem?_eq_getElem hlt, w]
  simp only [cond_true, Option.bind_some, T.eta]
  rw [j6 (show 1 ≤ n by omega)]
  simp only [evt]
  exact nx
theorem Ll {k : Int} {n : Nat} {ps : List T} {t : T} (hn : 4800000 ≤ n) (ht : t.size ≤ 4000000) (hl : ps.length ≤ 4000000) (hz : ∀ u ∈ ps, u.size ≤ 4000000) : FF n 63 [nt k, tms ps, tm t] [] = some ([tm (ovR k ps t).1, bl (ovR k ps t).2], []) := by
 obtain ⟨n, rfl⟩ := ag (show 0 < n by omega)
 rw [zV, sL (by omega) hl hz]
 simp only [evt]
 unfold ovR
 cases ho : okA ps with
 | false => rfl
 | true =>
  simp only [Bool.not_true, cond_false]
  rw [aX (by omega)]
  simp only [evt]
  cases hv : ak t with
  | false => rfl
  | true =>
   simp only [Bool.not_true, cond_false, Bool.and_self, if_true]
   have h8 := (jM ho).1
   have := DV k n (by omega) ps h8 0 0 [] (ovF k ps t) (by have := tp (k := k) hv ho; omega) ps.length n t (by omega) (by omega) (by rw [List.take_length])
   rw [wrap64 (show -9223372036854775808 ≤ (ps.length : Int) - 1 ∧ (ps.length : Int) - 1 ≤ 9223372036854775807 by omega), this]
theorem Eb {n : Nat} {ps : List T} {t : T} (hn : 4800001 ≤ n) (ht : t.size ≤ 4000000) (hl : ps.length ≤ 4000000) (hz : ∀ u ∈ ps, u.size ≤ 4000000) : FF n 31 [tms ps, tm t] [] = some ([tm (ovR 4 ps t).1, bl (ovR 4 ps t).2], []) := by
 obtain ⟨n, rfl⟩ := ag (show 0 < n by omega)
 rw [re, Ll (by omega) ht hl hz]
 simp only [evt]
theorem A7 (k : Int) (n : Nat) (hn : 20000 ≤ n) (ps : List T) (hl : ps.length ≤ 8) (hz : ∀ t ∈ ps, t.size ≤ 400) (z1 z2 : Int) (l0 : List T) (w : T) : ∀ (i m : Nat) (u : T), i < m → i ≤ ps.length → ovF k (ps.take i) u = w →
   dc n m k ps ((i : Int) - 1) z1 z2 l0 u.k u.n u.kids = some ([tm w], []) ∧ eC n m k ps ((i : Int) - 1) z1 z2 l0 u.k u.n u.kids = some ([tm w], [])
 | i, 0, u, hm, _, _ => by omega
 | 0, m + 1, u, hm, hi, he => by
  have he : u = w := he
  subst he
  rw [fI, fJ, decide_eq_false (show ¬ (0 : Int) ≤ ((0 : Nat) : Int) - 1 by omega)]
  exact ⟨rfl, rfl⟩
 | i + 1, m + 1, u, hm, hi, he => by
  have hlt : i < ps.length := by omega
  have hx : ps.take (i + 1) = ps.take i ++ [ps[i]] := by rw [List.take_append_getElem hlt]
  have nx := (A7 k n hn ps hl hz z1 z2 l0 w i m (.mk k 0 [ps[i], u]) (by omega) (by omega) (by rw [← he, hx]; unfold ovF; rw [List.foldr_append]; rfl)).1
  have w : IntKind.i64.wrap ((i : Int) - 1) = (i : Int) - 1 := wrap64 (by omega)
  have hsz := hz _ (List.getElem_mem hlt)
  rw [show (((i + 1 : Nat) : Int) - 1) = (i : Int) by omega, fI, fJ, decide_eq_true (show 0 ≤ (i : Int) by omega), Int.toNat_natCast, List.getElem?_eq_getElem hlt, w]
  simp only [cond_true, Option.bind_some]
  rw [gh ps[i] (by omega) (by omega)]
  simp only [evt]
  rw [cr (show 1 ≤ n by omega) _ _ (by simp)]
  simp only [evt]
  exact ⟨nx, nx⟩
theorem Cj {n : Nat} {ps : List T} {t : T} (hn : 4800000 ≤ n) (ht : t.size ≤ 4000000) (hl : ps.length ≤ 4000000) (hz : ∀ u ∈ ps, u.size ≤ 4000000) : FF n 32 [tms ps, tm t] [] = some ([tm (ovR 4 ps t).1, bl (ovR 4 ps t).2], []) := by
 obtain ⟨n, rfl⟩ : ∃ m, n = m + 2 := ⟨n - 2, by omega⟩
 rw [qY, jf (by omega) hl hz]
 simp only [evt]
 unfold ovR
 cases ho : okA ps with
 | false => rfl
 | true =>
  simp only [Bool.not_true, cond_false]
  rw [aW (by omega) (by omega)]
  simp only [evt]
  cases hv : ak t with
  | false => rfl
  | true =>
   simp only [Bool.not_true, cond_false, Bool.and_self, if_true]
   obtain ⟨h8, h9⟩ := jM ho
   have hb := tp (k := 4) hv ho
   have := (A7 4 n (by omega) ps h8 (fun u hu => ae (h9 u hu)) 0 0 [] (ovF 4 ps t) ps.length n t (by omega) (by omega) (by rw [List.take_length])).2
   have hl7 : FF (n + 1) 67 [nt 4, tms ps, tm t] [] = some ([tm (ovF 4 ps t)], []) := by
    rw [s8, gh t (by omega) (by omega)]
    simp only [evt]
    rw [wrap64 (show -9223372036854775808 ≤ (ps.length : Int) - 1 ∧ (ps.length : Int) - 1 ≤ 9223372036854775807 by omega)]
    exact this
   rw [hl7]
   simp only [evt]
   rw [GJ (by omega) (by omega)]
   simp only [evt]
   rfl
theorem Kr : ∀ (G : List Tm) (t : Tm), ovF 4 (cx G) (of t) = of (lo G t)
 | [], t => rfl
 | A :: G, t => by
  have := Kr G (.lam A t)
  rw [qy, ovF, List.foldr_append]; exact this
mutual
def clF : T → Int → Bool
 | .mk k n ks, d => (!(decide (k = 1) && decide (d ≤ n))) && clL ks k 0 d
def clL : List T → Int → Nat → Int → Bool
 | [], _, _, _ => true
 | t :: ts, k, i, d => clF t (d + under k i) && clL ts k (i + 1) d
end
theorem J0 (t : T) (d : Int) : clF t d = ((!(decide (t.k = 1) && decide (d ≤ t.n))) && clL t.kids t.k 0 d) := by cases t; simp only [clF]; rfl
theorem fq : ∀ (t : Tm) (d : Nat), Tm.cl d t → clF (of t) d = true
 | .var n, d, h => by
  have h : n < d := h
  simp only [of, clF, clL, Bool.and_true, decide_true, Bool.true_and, Bool.not_eq_true', decide_eq_false_iff_not]; omega
 | .sort n, d, h => rfl
 | .nat, d, h => rfl
 | .zero, d, h => rfl
 | .succ a, d, h => by have := fq a d h; simp only [of, clF, clL, show under 8 0 = 0 from rfl, Int.add_zero, this]; rfl
 | .refl a, d, h => by have := fq a d h; simp only [of, clF, clL, show under 11 0 = 0 from rfl, Int.add_zero, this]; rfl
 | .fst a, d, h => by have := fq a d h; simp only [of, clF, clL, show under 15 0 = 0 from rfl, Int.add_zero, this]; rfl
 | .snd a, d, h => by have := fq a d h; simp only [of, clF, clL, show under 16 0 = 0 from rfl, Int.add_zero, this]; rfl
 | .pi a b, d, h => by have h1 := fq a d h.1; have h2 : clF (of b) ((d : Int) + 1) = true := fq b (d + 1) h.2; simp only [of, clF, clL, show under 3 0 = 0 from rfl, show under 3 (0 + 1) = 1 from rfl, Int.add_zero, h1, h2]; rfl
 | .sig a b, d, h => by have h1 := fq a d h.1; have h2 : clF (of b) ((d : Int) + 1) = true := fq b (d + 1) h.2; simp only [of, clF, clL, show under 13 0 = 0 from rfl, show under 13 (0 + 1) = 1 from rfl, Int.add_zero, h1, h2]; rfl
 | .lam a b, d, h => by have h1 := fq a d h.1; have h2 : clF (of b) ((d : Int) + 1) = true := fq b (d + 1) h.2; simp only [of, clF, clL, show under 4 0 = 0 from rfl, show under 4 (0 + 1) = 1 from rfl, Int.add_zero, h1, h2]; rfl
 | .app a b, d, h => by have h1 := fq a d h.1; have h2 := fq b d h.2; simp only [of, clF, clL, show under 5 0 = 0 from rfl, show under 5 (0 + 1) = 0 from rfl, Int.add_zero, h1, h2]; rfl
 | .id a b c, d, h => by have h1 := fq a d h.1; have h2 := fq b d h.2.1; have h3 := fq c d h.2.2; simp only [of, clF, clL, show under 10 0 = 0 from rfl, show under 10 (0 + 1) = 0 from rfl, show under 10 (0 + 1 + 1) = 0 from rfl, Int.add_zero, h1, h2, h3]; rfl
 | .move a b c, d, h => by have h1 := fq a d h.1; have h2 := fq b d h.2.1; have h3 := fq c d h.2.2; simp only [of, clF, clL, show under 12 0 = 0 from rfl, show under 12 (0 + 1) = 0 from rfl, show under 12 (0 + 1 + 1) = 0 from rfl, Int.add_zero, h1, h2, h3]; rfl
 | .pair a b c, d, h => by have h1 := fq a d h.1; have h2 := fq b d h.2.1; have h3 := fq c d h.2.2; simp only [of, clF, clL, show under 14 0 = 0 from rfl, show under 14 (0 + 1) = 0 from rfl, show under 14 (0 + 1 + 1) = 0 from rfl, Int.add_zero, h1, h2, h3]; rfl
 | .elim a b c e, d, h => by have h1 := fq a d h.1; have h2 := fq b d h.2.1; have h3 := fq c d h.2.2.1; have h4 := fq e d h.2.2.2; simp only [of, clF, clL, show under 9 0 = 0 from rfl, show under 9 (0 + 1) = 0 from rfl, show under 9 (0 + 1 + 1) = 0 from rfl, show under 9 (0 + 1 + 1 + 1) = 0 from rfl, Int.add_zero, h1, h2, h3, h4]; rfl
theorem Km (k : Int) (i : Nat) : 0 ≤ under k i ∧ under k i ≤ 1 := by unfold under; split <;> omega
abbrev AL (h L : Int) (o : OR) : Prop := ∃ h', o = some ([], [.cells [.int .i64 h']]) ∧ h ≤ h' ∧ (h ≤ L → h' ≤ L)
theorem vY (n : Nat) (hn : 10 ≤ n) (L d k k1 n1 : Int) (ks0 : List T) (ts : List T) (hl : ts.length ≤ 1000000) (hd : 0 ≤ d ∧ d ≤ 1000000) (hh : ∀ u ∈ ts, ∀ d' h : Int, d ≤ d' → d' ≤ d + 1 → 0 ≤ h → h ≤ L → clF u (d' + L) = true → AL h L (FF n 102 [tm u, nt d', .one (.fn 103 [0])] [.cells [.int .i64 h]])) (hL : 0 ≤ L ∧ L ≤ 1000000) :
   ∀ g m (i : Nat) (h : Int), g < m → i + g = ts.length → 0 ≤ h → h ≤ L → clL (ts.drop i) k i (d + L) = true → AL h L (aM n m d ts ts.length i h k n1 ks0)
 | g, 0, i, h, hg, _, _, _, _ => by omega
 | 0, m + 1, i, h, _, hi, h0, h1, hc => by
  rw [cF, decide_eq_false (show ¬ (i : Int) < ts.length by omega)]
  exact ⟨h, rfl, Int.le_refl _, fun h => h⟩
 | g + 1, m + 1, i, h, hg, hi, h0, h1, hc => by
  have hlt : i < ts.length := by omega
  have hu := Km k i
  rw [List.drop_eq_getElem_cons hlt, clL, Bool.and_eq_true] at hc
  obtain ⟨h', e1, e2, e3⟩ := hh _ (List.getElem_mem hlt) (d + under k i) h (by omega) (by omega) h0 h1 (by rw [show d + under k i + L = d + L + under k i by omega]; exact hc.1)
  have h3 := e3 h1
  rw [cF, decide_eq_true (show (i : Int) < ts.length by omega), cond_true, decide_eq_true (show (0 : Int) ≤ i by omega), cond_true, Int.toNat_natCast, List.getElem?_eq_getElem hlt, pJ (n := n) (by omega), wrap64 (show -9223372036854775808 ≤ (i : Int) + 1 ∧ (i : Int) + 1 ≤ 9223372036854775807 by omega)]
  simp only [evt]
  rw [wrap64 (show -9223372036854775808 ≤ d + under k i ∧ d + under k i ≤ 9223372036854775807 by omega)]
  simp only [tm] at e1
  rw [e1]
  simp only [evt]
  obtain ⟨h2, e4, e5, e6⟩ := vY n hn L d k k1 n1 ks0 ts hl hd hh hL g m (i + 1) h' (by omega) (by omega) (by omega) h3 hc.2
  exact ⟨h2, e4, by omega, fun _ => e6 h3⟩
theorem Lt (t : T) : ∀ {n : Nat} {L d h : Int}, 3 * t.size + 20 ≤ n → t.size ≤ 100000 → 0 ≤ L ∧ L ≤ 1000000 → 0 ≤ d ∧ d + t.size ≤ 1000000 → 0 ≤ h → h ≤ L → clF t (d + L) = true → AL h L (FF n 102 [tm t, nt d, .one (.fn 103 [0])] [.cells [.int .i64 h]]) := by
 induction t using T.ind with | h t ih =>
 intro n L d h hn hz hL hd h0 h1 hc
 have hsz := T.size_eq t
 have hl := T.br t.kids
 rw [J0, Bool.and_eq_true] at hc
 obtain ⟨n, rfl⟩ := ag (show 0 < n by omega)
 have lp : ∀ h, 0 ≤ h → h ≤ L → AL h L (aM n n d t.kids t.kids.length 0 h t.k t.n t.kids) := fun h h0 h1 =>
  vY n (by omega) L d t.k t.k t.n t.kids t.kids (by omega) (by omega) (fun u hu d' h' q1 q2 q3 q4 q5 => by
   have := T.aV hu
   exact ih u hu (by omega) (by omega) hL (by omega) q3 q4 q5) hL t.kids.length n 0 h (by omega) (by omega) h0 h1 (by simpa using hc.2)
 rw [gW]
 by_cases hk : t.k = 1
 ·rw [decide_eq_true hk, cond_true]
  by_cases hdn : d ≤ t.n
  ·rw [decide_eq_true hdn, cond_true]
   have hb : t.n < d + L := by
    have := hc.1
    rw [hk] at this
    simp only [decide_true, Bool.true_and, Bool.not_eq_true', decide_eq_false_iff_not] at this
    omega
   obtain ⟨n', rfl⟩ := ag (show 0 < n by omega)
   rw [oi, wrap64 (show -9223372036854775808 ≤ t.n - d ∧ t.n - d ≤ 9223372036854775807 by omega), wrap64 (show -9223372036854775808 ≤ t.n - d + 1 ∧ t.n - d + 1 ≤ 9223372036854775807 by omega)]
   simp only [evt]
   obtain ⟨h', e1, e2, e3⟩ := lp (max h (t.n - d + 1)) (by omega) (by omega)
   exact ⟨h', e1, by omega, fun _ => e3 (by omega)⟩
  ·rw [decide_eq_false hdn, cond_false]
   exact lp h h0 h1
 ·rw [decide_eq_false hk, cond_false]
  exact lp h h0 h1
theorem wU {n : Nat} {t : T} {L : Int} (hn : 5000 ≤ n) (hv : ak t = true) (hL : 0 ≤ L ∧ L ≤ 1000000) (hc : clF t L = true) : ∃ v, FF n 28 [tm t] [] = some ([nt v], []) ∧ 0 ≤ v ∧ v ≤ L := by
 obtain ⟨n, rfl⟩ := ag (show 0 < n by omega)
 obtain ⟨n, rfl⟩ := ag (show 0 < n by omega)
 have hz := ae hv
 rw [rr, aX (by omega), hv]
 simp only [evt]
 rw [qI]
 obtain ⟨v, e1, e2, e3⟩ := Lt t (n := n) (L := L) (d := 0) (h := 0) (by omega) (by omega) hL (by omega) (by omega) hL.1 (by simpa using hc)
 simp only [tm] at e1
 rw [e1]
 simp only [evt]
 exact ⟨v, rfl, e2, e3 hL.1⟩
end Go.Proofs.YtajlknlnmmbfcaaGreat
end
section
namespace Go.Proofs.YtajlknlnmmbfcaaGreat
open Go Go.Ab Go.Dk
open Tm (tI tS cc Bse)
def Dc (g : List T) : Prop := g.length ≤ 8 → ∃ G : List Tm, g = cx G ∧ Tm.zQ O G
theorem Kx {G : List Tm} {a : Tm} {g : List T} {y : T} (hb : Bse G a) (h : DwT (cx G) (of a) g y) (h8 : g.length ≤ 8) : ∃ G' : List Tm, g = cx G' ∧ Tm.zQ O G' ∧ Tm.hts 4 G' ∧ G'.length ≤ 4 := by
 have hl := hb.len
 have hg : Tm.hts 4 G := fun A hA => Nat.le_trans (hb.hts A hA) (by omega)
 rcases h with h | ⟨_, rfl | ⟨h0, rfl⟩ | ⟨A, ⟨A', rfl, hA, lA⟩, rfl⟩⟩ | ⟨rfl, _⟩ | ⟨rfl, _⟩
 ·omega
 ·exact ⟨G, rfl, Tm.ew hb.fc, hg, by omega⟩
 ·exact ⟨_, DJ G, Tm.ew fun A hA => hb.fc A (List.dropLast_subset _ hA), fun A hA => hg A (List.dropLast_subset _ hA), by rw [List.length_dropLast]; omega⟩
 ·exact ⟨_, Em A' G, ⟨Tm.ew hb.fc, fun w => Tm.mu hA lA w hb.hts (by omega)⟩, hg.cons hA, by simp only [List.length_cons]; omega⟩
 ·exact ⟨G, rfl, Tm.ew hb.fc, hg, by omega⟩
 ·exact ⟨G, rfl, Tm.ew hb.fc, hg, by omega⟩
theorem L9 {G : List Tm} {a : Tm} {g : List T} {y : T} (hb : Bse G a) (h : DwT (cx G) (of a) g y) : Dc g := fun h8 => by
 obtain ⟨G', e, f, _⟩ := Kx hb h h8
 exact ⟨G', e, f⟩
abbrev Kw (r : List V1 × List av) : Prop := ∃ (g : List T), r = ([tms g], []) ∧ Dc g ∧ (∀ u ∈ g, ak u = true) ∧ g.length ≤ 10
theorem hO {n : Nat} (hn : 3000000 ≤ n) (l : List UInt8) : Tot (FF n 35 [.one (.fr (.bs l))] []) Kw := by
 refine aK (C := 2999999) (by omega) fun n hn e => ?_
 rw [iY]
 refine af (Hi (by omega) l) ?_
 rintro _ ⟨l', rfl, hr⟩
 simp only [evt]
 refine af (Af (by omega) hr (by omega)) ?_
 rintro _ ⟨G, a, p, rfl, hb, hv, hr⟩
 simp only [evt]
 refine af (rJ (by omega) hv (te hb).1 (te hb).2 hr (by omega)) ?_
 rintro _ ⟨g, y, p, rfl, ⟨h1, hd⟩, h2, h3, h4⟩
 simp only [evt]
 exact aq ⟨g, rfl, L9 hb hd, h2, h3⟩
theorem Fh {g : List T} (h : Dc g) : coS g = coI g := by
 unfold coS coI
 cases hv : okA g with
 | false => rfl
 | true =>
  obtain ⟨G, rfl, f⟩ := h (HD hv)
  obtain ⟨G', e, hG, h8⟩ := jV hv
  have e' : G = G' := by rw [← cW G, e, cW]
  subst e'
  simp only [if_true]
  rw [cW, Tm.yY aH (by omega) hG f]
structure OkC (G : List Tm) : Prop where
 hG : ∀ A ∈ G, vdM A = true
 h8 : G.length ≤ 8
 w : Tm.Wf G
 c : ∃ B, cc O (tI O) G = .ok B
theorem AR {g : List T} (h : coI g = 0) : ∃ G, g = cx G ∧ OkC G := by
 unfold coI at h
 split at h
 ·rename_i hv
  obtain ⟨G, rfl, hG, h8⟩ := jV hv
  rw [cW] at h
  obtain ⟨B, c⟩ := AN.1 h
  exact ⟨G, rfl, hG, h8, Tm.lX aH c, B, c⟩
 ·cases h
theorem A2 : ∀ {G : List Tm} {i : Nat} (h : i < G.length), Tm.look G i = some (G[i].ren (· + (i + 1)))
 | [], i, h => by simp at h
 | B :: G, 0, h => rfl
 | B :: G, i + 1, h => by
  have hl : i < G.length := by simp only [List.length_cons] at h; omega
  show (Tm.look G i).map Tm.wk = _
  rw [A2 hl, Option.map_some, Tm.wk, Tm.fP, List.getElem_cons_succ]
  rfl
theorem Mw {G : List Tm} {i : Nat} (h : i < G.length) : (cx G)[(cx G).length - 1 - i]'(by rw [bO]; omega) = of G[i] := by
 simp only [cx, List.getElem_reverse, List.getElem_map]
 congr 2
 simp only [List.length_reverse, List.length_map]
 omega
theorem KU {G : List Tm} {i : Nat} (k : OkC G) (h : i < G.length) (v : vdM (G[i].ren (· + (i + 1))) = true) : itI (cx G) (.mk 1 (i : Int) []) = (of (G[i].ren (· + (i + 1))), 0) := by
 have hv : vdM (.var i) = true := Tm.Gm (d := 12) (show i < 12 by have := k.h8; omega) trivial (by simp [Tm.ht]) (by omega)
 have := Iy k.hG k.h8 k.c hv
 rw [Tm.LG (A2 h), if_pos (show O.vd _ = true from v)] at this
 exact this
theorem BE : ∀ {G : List Tm}, OkC G → ∀ {i : Nat} (h : i < (cx G).length), ∃ (A : Tm) (H : List Tm), (cx G).take i = cx H ∧ (cx G)[i] = of A ∧ OkC H ∧ vdM A = true ∧ ∃ B, Tm.lvr O (tI O H A) = .ok B
 | [], k, i, h => by simp [cx] at h
 | A :: G, k, i, h => by
  have hx := qy G A
  obtain ⟨B, c⟩ := k.c
  obtain ⟨c1, c2⟩ := Tm.EK c
  have h8 := k.h8
  simp only [List.length_cons] at h8
  have kt : OkC G := ⟨fun B hB => k.hG B (List.mem_cons_of_mem _ hB), by omega, by cases k.w with | cons w _ => exact w, c1⟩
  by_cases hi : i < (cx G).length
  ·obtain ⟨A', H, e1, e2, e3⟩ := BE kt hi
   refine ⟨A', H, ?_, ?_, e3⟩
   ·rw [hx, List.take_append_of_le_length (by omega)]; exact e1
   ·simp only [hx]; rw [List.getElem_append_left hi]; exact e2
  ·have hl : i = (cx G).length := by rw [hx, List.length_append, List.length_singleton] at h; omega
   subst hl
   refine ⟨A, G, ?_, ?_, kt, k.hG A List.mem_cons_self, B, c2⟩
   ·rw [hx, List.take_left]
   ·simp only [hx]; rw [List.getElem_append_right (Nat.le_refl _)]; simp
theorem L8 {G : List Tm} (k : OkC G) : coI (cx G) = 0 := by
 obtain ⟨B, c⟩ := k.c
 unfold coI
 rw [if_pos (qR k.hG k.h8), cW, c]; rfl
end Go.Proofs.YtajlknlnmmbfcaaGreat
end
