/- Part 5 of the proof. -/
import Derived.Test.YtajlknlnmmbfcaaGreatJ01
import Derived.Test.YtajlknlnmmbfcaaGreatJ02
import Derived.Test.YtajlknlnmmbfcaaGreatJ03
import Derived.Test.YtajlknlnmmbfcaaGreatJ04
set_option linter.unusedVariables false
set_option linter.unusedSimpArgs false
section
namespace Go.Proofs.YtajlknlnmmbfcaaGreat
open Go Go.Ab Go.Dk
abbrev tm (t : T) : V1 := .agg [.int .i64 t.k, .int .i64 t.n, .fr (.ts t.kids)]
abbrev tms (l : List T) : V1 := .one (.fr (.ts l))
abbrev nt (n : Int) : V1 := .one (.int .i64 n)
abbrev bl (b : Bool) : V1 := .one (.bool b)
abbrev HN : TypeId := 25
abbrev ow (t : T) : List V1 × List au := ([.agg [.int .i64 t.k, .int .i64 t.n, .own 0 0]], [.arr HN (.ts t.kids) 0 false])
theorem T.eta (t : T) : T.mk t.k t.n t.kids = t := by cases t; rfl
theorem cP (k n : Int) (l : List T) : (T.mk k n l).k = k := rfl
theorem cQ (k n : Int) (l : List T) : (T.mk k n l).n = n := rfl
theorem az (k n : Int) (l : List T) : (T.mk k n l).kids = l := rfl
theorem yq (t : T) (l : List V1) (k : T → List V1 → OR) : ag (.agg [.int .i64 t.k, .int .i64 t.n, .fr (.ts t.kids)] :: l) k = k t l := by cases t; rfl
theorem evt : type_of% (And.intro @evs <| And.intro @yq <| And.intro @T.eta <| And.intro @cP <| And.intro @cQ <| And.intro @az <| And.intro @Option.bind_none.{0,0} <| And.intro @Bool.not_true <| And.intro @Bool.not_false <| And.intro @Bool.true_and <| And.intro @Bool.and_true <| And.intro @Bool.and_false <| And.intro @Bool.false_and <| And.intro @Bool.and_self <| And.intro @decide_true @decide_false) := And.intro @evs <| And.intro @yq <| And.intro @T.eta <| And.intro @cP <| And.intro @cQ <| And.intro @az <| And.intro @Option.bind_none.{0,0} <| And.intro @Bool.not_true <| And.intro @Bool.not_false <| And.intro @Bool.true_and <| And.intro @Bool.and_true <| And.intro @Bool.and_false <| And.intro @Bool.false_and <| And.intro @Bool.and_self <| And.intro @decide_true @decide_false
theorem af {n : Nat} (h : 0 < n) : ∃ m, n = m + 1 := ⟨n - 1, by omega⟩
theorem gD (i : Nat) : (i : Int) + 1 = ((i + 1 : Nat) : Int) := rfl
theorem aU {n : Nat} (h : n ≤ 1099511627776) : cr n = true := decide_eq_true h
theorem eV {α : Type} {l : List α} {i : Nat} (h : i < l.length) : l.take i ++ [l[i]] = l.take (i + 1) := by rw [List.take_add_one, List.getElem?_eq_getElem h]; rfl
theorem ia {n : Nat} (hn : 1 ≤ n) (a b c : Int) : FF n 60 [nt a, nt b, nt c] [] = some ([bl (decide (b ≤ a) && decide (a ≤ c))], []) := by
 obtain ⟨n, rfl⟩ := af (show 0 < n by omega)
 rw [rz]
 by_cases h : b ≤ a <;> simp [h]
theorem Jy {n : Nat} (hn : 1 ≤ n) (k : Int) : FF n 137 [nt k] [] = some ([nt (cd k)], []) := by
 obtain ⟨n, rfl⟩ := af (show 0 < n by omega)
 rw [xl]
 unfold cd
 by_cases h : k = 1 <;> by_cases h2 : k = 2 <;> simp [h, h2]
theorem sg {n : Nat} (hn : 1 ≤ n) (k : Int) : FF n 139 [nt k] [] = some ([nt (cd k)], []) := by
 obtain ⟨n, rfl⟩ := af (show 0 < n by omega)
 rw [sF]
 unfold cd
 by_cases h : k = 1 <;> by_cases h2 : k = 2 <;> simp [h, h2]
theorem DF (k : Int) (h : 1 ≤ k ∧ k ≤ 16) : ([0, 0, 2, 2, 2, 0, 0, 1, 4, 3, 1, 3, 2, 3, 1, 1] : List Int)[(k - 1).toNat]? = some (opsOf k) := by
 have : k = 1 ∨ k = 2 ∨ k = 3 ∨ k = 4 ∨ k = 5 ∨ k = 6 ∨ k = 7 ∨ k = 8 ∨ k = 9 ∨ k = 10 ∨ k = 11 ∨ k = 12 ∨ k = 13 ∨ k = 14 ∨ k = 15 ∨ k = 16 := by omega
 rcases this with rfl | rfl | rfl | rfl | rfl | rfl | rfl | rfl | rfl | rfl | rfl | rfl | rfl | rfl | rfl | rfl <;> rfl
theorem zk {n : Nat} (hn : 2 ≤ n) (k : Int) : FF n 136 [nt k] [] = some ([nt (opsOf k)], []) := by
 obtain ⟨n, rfl⟩ := af (show 0 < n by omega)
 rw [oC, ia (by omega)]
 by_cases h : 1 ≤ k ∧ k ≤ 16
 ·simp only [evs, decide_eq_true h.1, decide_eq_true h.2, Bool.and_self, Bool.not_true, wrap64 (show -9223372036854775808 ≤ k - 1 ∧ k - 1 ≤ 9223372036854775807 by omega), decide_eq_true (show 0 ≤ k - 1 by omega),
    show (([0, 0, 2, 2, 2, 0, 0, 1, 4, 3, 1, 3, 2, 3, 1, 1] : List Nat).length : Int) = 16 from rfl, decide_eq_true (show k - 1 < 16 by omega), DF k h]
 ·have : (decide (1 ≤ k) && decide (k ≤ 16)) = false := by
    rw [Bool.and_eq_false_iff, decide_eq_false_iff_not, decide_eq_false_iff_not]; omega
  simp only [evs, this, Bool.not_false]
  unfold opsOf
  rw [if_neg (by omega), if_neg (by omega), if_neg (by omega), if_neg (by omega), if_neg (by omega)]
theorem kU {n : Nat} (hn : 1 ≤ n) (k : Int) : FF n 138 [nt k] [] = some ([nt (opsOf k)], []) := by
 obtain ⟨n, rfl⟩ := af (show 0 < n by omega)
 rw [rW]
 by_cases h : k = 1 ∨ k = 2 ∨ k = 3 ∨ k = 4 ∨ k = 5 ∨ k = 6 ∨ k = 7 ∨ k = 8 ∨ k = 9 ∨ k = 10 ∨ k = 11 ∨ k = 12 ∨ k = 13 ∨ k = 14 ∨ k = 15 ∨ k = 16
 ·rcases h with rfl | rfl | rfl | rfl | rfl | rfl | rfl | rfl | rfl | rfl | rfl | rfl | rfl | rfl | rfl | rfl <;> rfl
 ·unfold opsOf
  rw [if_neg (by omega), if_neg (by omega), if_neg (by omega), if_neg (by omega), if_neg (by omega)]
  simp (disch := omega) only [ax, if_neg]
theorem Ad {n : Nat} (hn : 1 ≤ n) (k : Int) : FF n 159 [nt k] [] = some ([bl (decide (k = 3 ∨ k = 4 ∨ k = 13))], []) := by
 obtain ⟨n, rfl⟩ := af (show 0 < n by omega)
 rw [oc]
 by_cases h : k = 3 <;> by_cases h2 : k = 4 <;> simp [h, h2]
theorem yt (k : Int) (i : Nat) : under k i = if (i : Int) = 1 ∧ (k = 3 ∨ k = 4 ∨ k = 13) then 1 else 0 := by
 unfold under
 by_cases h : i = 1
 ·subst h; simp
 ·rw [if_neg (fun hh => h hh.1), if_neg (fun hh => h (by have := hh.1; omega))]
theorem se {n : Nat} (hn : 2 ≤ n) (k : Int) (i : Nat) : FF n 121 [nt k, nt i] [] = some ([nt (under k i)], []) := by
 obtain ⟨n, rfl⟩ := af (show 0 < n by omega)
 rw [uZ, Ad (by omega), yt]
 by_cases h : (i : Int) = 1
 ·simp only [evs, h, decide_true]
  by_cases h2 : k = 3 ∨ k = 4 ∨ k = 13 <;> simp [h2]
 ·simp [h]
theorem Dc {n : Nat} (hn : 1 ≤ n) (k : Int) (i : Nat) : FF n 152 [nt k, nt i] [] = some ([bl (decide ((i : Int) = 1 ∧ (k = 3 ∨ k = 4 ∨ k = 13)))], []) := by
 obtain ⟨n, rfl⟩ := af (show 0 < n by omega)
 rw [pw]
 by_cases h : (i : Int) = 1 <;> by_cases h1 : k = 3 <;> by_cases h2 : k = 4 <;> simp [h, h1, h2]
theorem tk {n : Nat} (hn : 2 ≤ n) (k : Int) (i : Nat) : FF n 114 [nt k, nt i] [] = some ([nt (under k i)], []) := by
 obtain ⟨n, rfl⟩ := af (show 0 < n by omega)
 rw [pn, Dc (by omega), yt]
 by_cases h : (i : Int) = 1 ∧ (k = 3 ∨ k = 4 ∨ k = 13) <;> simp [evs, h]
theorem bx {n : Nat} (hn : 1 ≤ n) (k m : Int) : FF n 82 [nt k, nt m] [] = some ([tm (.mk k m [])], []) := by
 obtain ⟨n, rfl⟩ := af (show 0 < n by omega)
 exact rD n k m
theorem lP {n : Nat} (hn : 1 ≤ n) (m : Int) : FF n 68 [nt m] [] = some ([tm (.mk 1 m [])], []) := by
 obtain ⟨n, rfl⟩ := af (show 0 < n by omega)
 exact nq n m
theorem kx {n : Nat} (hn : 1 ≤ n) (k : Int) (l : List T) : FF n 70 [nt k, tms l] [] = some ([tm (.mk k 0 l)], []) := by
 obtain ⟨n, rfl⟩ := af (show 0 < n by omega)
 exact xi n k l
theorem bE {n : Nat} (hn : 1 ≤ n) (k : Int) (l : List T) (hl : l.length ≤ 1099511627776) : FF n 81 [nt k, tms l] [] = some ([tm (.mk k 0 l)], []) := by
 obtain ⟨n, rfl⟩ := af (show 0 < n by omega)
 rw [sn, List.nil_append, aU hl]; rfl
theorem yV (k : Int) : opsOf k ≤ 4 := by
 unfold opsOf
 repeat' split
 all_goals omega
theorem uR (n : Nat) (d : Int) (ts : List T) (hd : 0 ≤ d ∧ d ≤ 31) (hl : ts.length ≤ 1099511627776)
   (h : ∀ u ∈ ts, ∀ c : Int, 0 ≤ c → c ≤ 400 → FF n 101 [tm u, nt (d + 1), .one (.ptr 0 0)] [.cells [.int .i64 c]] = some ([bl (gQ u (d + 1) c).1], [.cells [.int .i64 (gQ u (d + 1) c).2]])) :
   ∀ g m (i : Nat) (c : Int), g < m → i + g = ts.length → 0 ≤ c → c ≤ 400 → fy n m d ts ts.length i c = some ([bl (iC (ts.drop i) (d + 1) c).1], [.cells [.int .i64 (iC (ts.drop i) (d + 1) c).2]])
 | g, 0, i, c, hg, _, _, _ => by omega
 | 0, m + 1, i, c, _, hi, _, _ => by
  rw [ff, List.drop_of_length_le (by omega)]
  simp only [ax, if_neg (show ¬ (i : Int) < ts.length by omega), iC]
 | g + 1, m + 1, i, c, hg, hi, h0, h1 => by
  have hlt : i < ts.length := by omega
  have hb := y8 ts[i] (d + 1) c
  rw [List.drop_eq_getElem_cons hlt, iC]
  rw [ff]; simp (disch := omega) only [evt, ax, Int.toNat_natCast, gD, wrap64, aU, List.length_append, List.length_cons, List.length_nil, if_pos (show (i : Int) < ts.length by omega), if_pos (show 0 ≤ (i : Int) by omega), List.getElem?_eq_getElem hlt, h _ (List.getElem_mem hlt) c h0 h1]
  cases hs : (gQ ts[i] (d + 1) c).1 with
  | false => simp
  | true =>
   have := hb hs
   simp only [Bool.not_true, cond_false, if_true]
   exact uR n d ts hd hl h g m (i + 1) _ (by omega) (by omega) (by omega) (by omega)
theorem Js (t : T) : ∀ {n : Nat}, t.size + 5 ≤ n → ∀ d c : Int, 0 ≤ d → d ≤ 31 → 0 ≤ c → c ≤ 400 →
   FF n 101 [tm t, nt d, .one (.ptr 0 0)] [.cells [.int .i64 c]] = some ([bl (gQ t d c).1], [.cells [.int .i64 (gQ t d c).2]]) := by
 induction t using T.ind with | h t ih =>
 intro n hn d c h0 h1 h2 h3
 have hsz := T.size_eq t
 have hl := T.br t.kids
 obtain ⟨n, rfl⟩ := af (show 0 < n by omega)
 rw [wm, EE]
 simp (disch := omega) only [evt, zk, Jy, ia, wrap64]
 by_cases c1 : 400 < c + 1
 ·simp [c1]
 by_cases c2 : 30 < d
 ·simp [c1, c2]
 by_cases c3 : opsOf t.k = t.kids.length
 ·by_cases c4 : 0 ≤ t.n ∧ t.n ≤ cd t.k
  ·have e : (decide (0 ≤ t.n) && decide (t.n ≤ cd t.k)) = true := by simp [c4]
   rw [if_neg (by intro hh; rcases hh with hh | hh | hh | hh <;> first | omega | exact hh c3 | exact hh c4), e]
   simp only [decide_eq_false c1, decide_eq_false c2, cond_false, decide_eq_true c3, Bool.not_true]
   by_cases hk : t.kids = []
   ·rw [hk]
    obtain ⟨n, rfl⟩ := af (show 0 < n by omega)
    rw [ff]; simp [iC]
   ·have := uR n d t.kids ⟨h0, h1⟩ (by have := yV t.k; omega) (fun u hu c' hc hc' => ih u hu (by have := T.aX hu; omega) (d + 1) c' (by omega) (by omega) hc hc') t.kids.length n 0 (c + 1) (by omega) (by omega) (by omega) (by omega)
    simpa using this
  ·have e : (decide (0 ≤ t.n) && decide (t.n ≤ cd t.k)) = false := by
     rw [← Bool.not_eq_true, Bool.and_eq_true, decide_eq_true_eq, decide_eq_true_eq]; exact c4
   rw [if_pos (.inr (.inr (.inr c4))), e]
   simp [c1, c2, c3]
 ·rw [if_pos (.inr (.inr (.inl c3)))]
  simp [c1, c2, c3]
theorem bX {n : Nat} {t : T} (hn : t.size + 6 ≤ n) : FF n 59 [tm t] [] = some ([bl (ah t)], []) := by
 obtain ⟨n, rfl⟩ := af (show 0 < n by omega)
 rw [mA, ← Ay]
 simp (disch := omega) only [evt, Js]
theorem qs (n : Nat) (d : Nat) (k0 n0 : Int) (ts : List T) (hd : d ≤ 30) (h1d : 1 ≤ d) (hl : ts.length ≤ 1099511627776)
   (h : ∀ u ∈ ts, FF n 105 [tm u, nt ((d - 1 : Nat) : Int)] [] = some ([bl (bu u (d - 1))], [])) :
   ∀ g m (i : Nat), g < m → i + g = ts.length → dt n m (d : Int) i k0 n0 ts = some ([bl (bD (ts.drop i) (d - 1))], [])
 | g, 0, i, hg, _ => by omega
 | 0, m + 1, i, _, hi => by
  rw [fN, List.drop_of_length_le (by omega)]
  simp only [ax, if_neg (show ¬ (i : Int) < ts.length by omega), bD]
 | g + 1, m + 1, i, hg, hi => by
  have hlt : i < ts.length := by omega
  rw [List.drop_eq_getElem_cons hlt, bD]
  have w : IntKind.i64.wrap ((d : Int) - 1) = ((d - 1 : Nat) : Int) := by rw [wrap64 (by omega)]; omega
  rw [fN]; simp (disch := omega) only [evt, ax, Int.toNat_natCast, gD, wrap64, aU, List.length_append, List.length_cons, List.length_nil, if_pos (show (i : Int) < ts.length by omega), if_pos (show 0 ≤ (i : Int) by omega), List.getElem?_eq_getElem hlt, w, h _ (List.getElem_mem hlt)]
  cases hs : bu ts[i] (d - 1) with
  | false => simp
  | true =>
   simp only [Bool.not_true, cond_false, Bool.true_and]
   exact qs n d k0 n0 ts hd h1d hl h g m (i + 1) (by omega) (by omega)
theorem Ch (t : T) : ∀ {n : Nat}, t.size + 5 ≤ n → ∀ d : Nat, d ≤ 30 → FF n 105 [tm t, nt (d : Int)] [] = some ([bl (bu t d)], []) := by
 induction t using T.ind with | h t ih =>
 intro n hn d hd
 have hsz := T.size_eq t
 have hl := T.br t.kids
 obtain ⟨n, rfl⟩ := af (show 0 < n by omega)
 rw [pA, gM]
 simp (disch := omega) only [evt, kU, sg]
 by_cases c1 : (d : Int) < 1
 ·simp [c1, show ¬ 1 ≤ d by omega]
 by_cases c3 : opsOf t.k = t.kids.length
 ·by_cases c4 : 0 ≤ t.n ∧ t.n ≤ cd t.k
  ·simp only [decide_eq_false c1, cond_false, decide_eq_true c3, Bool.not_true, decide_eq_false (show ¬ t.n < 0 by omega), decide_eq_false (show ¬ cd t.k < t.n by omega), decide_eq_true (show 1 ≤ d by omega), decide_eq_true c4, Bool.true_and]
   exact qs n d t.k t.n t.kids hd (by omega) (by have := yV t.k; omega) (fun u hu => ih u hu (by have := T.aX hu; omega) (d - 1) (by omega)) t.kids.length n 0 (by omega) (by omega)
  ·simp only [decide_eq_false c1, cond_false, decide_eq_true c3, Bool.not_true, decide_eq_true (show 1 ≤ d by omega), decide_eq_false c4, Bool.true_and, Bool.false_and]
   by_cases c5 : t.n < 0
   ·simp [c5]
   ·simp [c5, show cd t.k < t.n by omega]
 ·simp [c1, c3]
theorem pK (n : Nat) (most : Nat) (k0 n0 : Int) (ts : List T) (hm : most ≤ 400) (hl : ts.length ≤ 1099511627776)
   (h : ∀ u ∈ ts, ∀ m : Nat, m ≤ 400 → FF n 106 [tm u, nt (m : Int)] [] = some ([nt (yB u m : Int)], [])) :
   ∀ g m (i c : Nat), g < m → i + g = ts.length → dB n m (most : Int) c i k0 n0 ts = some ([nt ((if c ≤ most then min (c + T.aE (ts.drop i)) (most + 1) else c : Nat) : Int)], [])
 | g, 0, i, c, hg, _ => by omega
 | 0, m + 1, i, c, _, hi => by
  rw [dG, List.drop_of_length_le (by omega)]
  simp only [ax, if_neg (show ¬ (i : Int) < ts.length by omega), T.aE]
  split
  ·rw [Nat.min_eq_left (by omega)]; rfl
  ·rfl
 | g + 1, m + 1, i, c, hg, hi => by
  have hlt : i < ts.length := by omega
  rw [List.drop_eq_getElem_cons hlt, T.aE]
  by_cases hc : c ≤ most
  ·have w : IntKind.i64.wrap ((most : Int) - c) = ((most - c : Nat) : Int) := by rw [wrap64 (by omega)]; omega
   have hcn : yB ts[i] (most - c) ≤ most - c + 1 := by unfold yB; omega
   have w2 : IntKind.i64.wrap ((c : Int) + (yB ts[i] (most - c) : Int)) = ((c + yB ts[i] (most - c) : Nat) : Int) := by rw [wrap64 (by omega)]; rfl
   rw [dG]; simp (disch := omega) only [evt, ax, Int.toNat_natCast, gD, wrap64, aU, List.length_append, List.length_cons, List.length_nil, if_pos (show (i : Int) < ts.length by omega), if_pos (show 0 ≤ (i : Int) by omega), if_pos (show (c : Int) ≤ most by omega), List.getElem?_eq_getElem hlt, w, w2, h _ (List.getElem_mem hlt) (most - c) (by omega)]
   rw [pK n most k0 n0 ts hm hl h g m (i + 1) _ (by omega) (by omega)]
   have e : (if c + yB ts[i] (most - c) ≤ most then min (c + yB ts[i] (most - c) + T.aE (ts.drop (i + 1))) (most + 1) else c + yB ts[i] (most - c)) = min (c + (ts[i].size + T.aE (ts.drop (i + 1)))) (most + 1) := by
    unfold yB
    split <;> omega
   rw [e, if_pos hc]
  ·rw [dG]
   simp only [ax, if_pos (show (i : Int) < ts.length by omega), if_neg (show ¬ (c : Int) ≤ most by omega), if_neg hc]
theorem CN (t : T) : ∀ {n : Nat}, t.size + 5 ≤ n → t.size ≤ 4000000 → ∀ m : Nat, m ≤ 400 → FF n 106 [tm t, nt (m : Int)] [] = some ([nt (yB t m : Int)], []) := by
 induction t using T.ind with | h t ih =>
 intro n hn hz m hm
 have hsz := T.size_eq t
 have hl := T.br t.kids
 obtain ⟨n, rfl⟩ := af (show 0 < n by omega)
 rw [pB]
 have := pK n m t.k t.n t.kids hm (by omega) (fun u hu m hm => ih u hu (by have := T.aX hu; omega) (by have := T.aX hu; omega) m hm) t.kids.length n 0 1 (by omega) (by omega)
 have e : (if 1 ≤ m then min (1 + T.aE t.kids) (m + 1) else 1) = yB t m := by unfold yB; split <;> omega
 rw [List.drop_zero, e] at this
 exact this
theorem aL {n : Nat} {t : T} (hn : t.size + 6 ≤ n) (hz : t.size ≤ 4000000) : FF n 65 [tm t] [] = some ([bl (ah t)], []) := by
 obtain ⟨n, rfl⟩ := af (show 0 < n by omega)
 rw [my, ah]
 have h1 := Ch t (n := n) (by omega) 30 (by omega)
 have h2 := CN t (n := n) (by omega) hz 400 (by omega)
 rw [show (30 : Int) = ((30 : Nat) : Int) from rfl, show (400 : Int) = ((400 : Nat) : Int) from rfl, h1, h2]
 simp only [evt]
 cases bu t 30
 ·rfl
 ·simp only [cond_true, Bool.true_and]
  have e : decide ((yB t 400 : Int) ≤ ((400 : Nat) : Int)) = decide (t.size ≤ 400) := by
   unfold yB
   exact decide_eq_decide.2 (by omega)
  rw [e]
theorem xE {n : Nat} {t : T} (hn : t.size + 7 ≤ n) : FF n 71 [tm t] [] = some ([tm (if ah t then t else .mk 0 0 []), bl (ah t)], []) := by
 obtain ⟨n, rfl⟩ := af (show 0 < n by omega)
 rw [vj]
 simp (disch := omega) only [evt, bX]
 cases ah t <;> rfl
theorem yh (n : Nat) (ts : List T) (k0 n0 : Int) (l0 : List T) (k1 n1 : Int) (hl : ts.length ≤ 4000000) (h : ∀ u ∈ ts, FF n 58 [tm u] [] = some ([tm u], [])) :
   ∀ g m (i : Nat), g < m → i + g = ts.length → dT n m ts ts.length i k0 n0 l0 k1 n1 (ts.take i) = some ([tm (.mk k1 n1 ts)], [])
 | g, 0, i, hg, _ => by omega
 | 0, m + 1, i, _, hi => by
  rw [gr]
  simp only [ax, if_neg (show ¬ (i : Int) < ts.length by omega), List.take_of_length_le (show ts.length ≤ i by omega)]; rfl
 | g + 1, m + 1, i, hg, hi => by
  have hlt : i < ts.length := by omega
  have ht : (ts.take i).length = i := by simp; omega
  rw [gr]; simp (disch := omega) only [evt, ax, Int.toNat_natCast, gD, wrap64, aU, List.length_append, List.length_cons, List.length_nil, if_pos (show (i : Int) < ts.length by omega), if_pos (show 0 ≤ (i : Int) by omega), List.getElem?_eq_getElem hlt, h _ (List.getElem_mem hlt), ht]
  rw [eV hlt]
  exact yh n ts k0 n0 l0 k1 n1 hl h g m (i + 1) (by omega) (by omega)
theorem EL (t : T) : ∀ {n : Nat}, t.size + 5 ≤ n → t.size ≤ 4000000 → FF n 58 [tm t] [] = some ([tm t], []) := by
 induction t using T.ind with | h t ih =>
 intro n hn hz
 have hsz := T.size_eq t
 have hl := T.br t.kids
 obtain ⟨n, rfl⟩ := af (show 0 < n by omega)
 rw [Aw]
 have := yh n t.kids 0 0 [] t.k t.n (by omega) (fun u hu => ih u hu (by have := T.aX hu; omega) (by have := T.aX hu; omega)) t.kids.length n 0 (by omega) (by omega)
 simpa [T.eta] using this
theorem ur (n : Nat) (ts : List T) (k2 n2 : Int) (k0 n0 : Int) (l0 : List T) (k1 n1 : Int) (hl : ts.length ≤ 4000000) (h : ∀ u ∈ ts, FF n 90 [tm u] [] = some (ow u)) :
   ∀ g m (i : Nat), g < m → i + g = ts.length → cC n m i k2 n2 ts k0 n0 l0 k1 n1 (ts.take i) = some (ow (.mk k1 n1 ts))
 | g, 0, i, hg, _ => by omega
 | 0, m + 1, i, _, hi => by
  rw [eC]
  simp only [ax, if_neg (show ¬ (i : Int) < ts.length by omega), List.take_of_length_le (show ts.length ≤ i by omega)]; rfl
 | g + 1, m + 1, i, hg, hi => by
  have hlt : i < ts.length := by omega
  have ht : (ts.take i).length = i := by simp; omega
  rw [eC]; simp (disch := omega) only [evt, ax, Int.toNat_natCast, gD, wrap64, aU, List.length_append, List.length_cons, List.length_nil, if_pos (show (i : Int) < ts.length by omega), if_pos (show 0 ≤ (i : Int) by omega), List.getElem?_eq_getElem hlt, h _ (List.getElem_mem hlt), ht]
  rw [eV hlt]
  exact ur n ts k2 n2 k0 n0 l0 k1 n1 hl h g m (i + 1) (by omega) (by omega)
theorem hJ (t : T) : ∀ {n : Nat}, t.size + 5 ≤ n → t.size ≤ 4000000 → FF n 90 [tm t] [] = some (ow t) := by
 induction t using T.ind with | h t ih =>
 intro n hn hz
 have hsz := T.size_eq t
 have hl := T.br t.kids
 obtain ⟨n, rfl⟩ := af (show 0 < n by omega)
 rw [qX]
 have := ur n t.kids t.k t.n 0 0 [] t.k t.n (by omega) (fun u hu => ih u hu (by have := T.aX hu; omega) (by have := T.aX hu; omega)) t.kids.length n 0 (by omega) (by omega)
 simpa [T.eta] using this
theorem uf (n : Nat) (ts us : List T) (k0 n0 k1 n1 : Int) (hl : ts.length ≤ 4000000) (he : ts.length = us.length) (h : ∀ t ∈ ts, ∀ u, FF n 172 [tm t, tm u] [] = some ([bl (T.beq t u)], [])) :
   ∀ g m (i : Nat), g < m → i + g = ts.length → cZ n m i k0 n0 ts k1 n1 us = some ([bl (T.vT (ts.drop i) (us.drop i))], [])
 | g, 0, i, hg, _ => by omega
 | 0, m + 1, i, _, hi => by
  rw [fl, List.drop_of_length_le (by omega), List.drop_of_length_le (by omega)]
  simp only [ax, if_neg (show ¬ (i : Int) < ts.length by omega), T.vT]
 | g + 1, m + 1, i, hg, hi => by
  have hlt : i < ts.length := by omega
  have hlt2 : i < us.length := by omega
  rw [List.drop_eq_getElem_cons hlt, List.drop_eq_getElem_cons hlt2, T.vT]
  rw [fl]; simp (disch := omega) only [evt, ax, Int.toNat_natCast, gD, wrap64, aU, List.length_append, List.length_cons, List.length_nil, if_pos (show (i : Int) < ts.length by omega), if_pos (show 0 ≤ (i : Int) by omega), List.getElem?_eq_getElem hlt, List.getElem?_eq_getElem hlt2, h _ (List.getElem_mem hlt)]
  cases hs : T.beq ts[i] us[i] with
  | false => simp
  | true =>
   simp only [Bool.not_true, cond_false, Bool.true_and]
   exact uf n ts us k0 n0 k1 n1 hl he h g m (i + 1) (by omega) (by omega)
theorem qJ : ∀ {ts us : List T}, ts.length ≠ us.length → T.vT ts us = false
 | [], [], h => absurd rfl h
 | [], _ :: _, _ => rfl
 | _ :: _, [], _ => rfl
 | t :: ts, u :: us, h => by rw [T.vT, qJ (fun e => h (by simp [e])), Bool.and_false]
theorem ni (t : T) : ∀ {n : Nat}, t.size + 5 ≤ n → t.size ≤ 4000000 → ∀ u : T, FF n 172 [tm t, tm u] [] = some ([bl (T.beq t u)], []) := by
 induction t using T.ind with | h t ih =>
 intro n hn hz u
 have hsz := T.size_eq t
 have hl := T.br t.kids
 obtain ⟨n, rfl⟩ := af (show 0 < n by omega)
 rw [ot, T.beq_eq]
 by_cases c1 : t.k = u.k
 ·by_cases c2 : t.n = u.n
  ·by_cases c3 : t.kids.length = u.kids.length
   ·have := uf n t.kids u.kids t.k t.n u.k u.n (by omega) c3 (fun v hv w => ih v hv (by have := T.aX hv; omega) (by have := T.aX hv; omega) w) t.kids.length n 0 (by omega) (by omega)
    simp only [decide_eq_true c1, decide_eq_true c2, decide_eq_true (show (t.kids.length : Int) = u.kids.length by omega), Bool.not_true, cond_false, Bool.true_and]
    simpa using this
   ·simp only [decide_eq_true c1, decide_eq_true c2, decide_eq_false (show ¬ (t.kids.length : Int) = u.kids.length by omega), Bool.not_true, Bool.not_false, cond_false, cond_true, Bool.true_and, qJ c3]
  ·simp [c1, c2]
 ·simp [c1]
end Go.Proofs.YtajlknlnmmbfcaaGreat
end
section
namespace Go.Proofs.YtajlknlnmmbfcaaGreat
open Go Go.Ab Go.Dk
theorem AM {a k : Int} {ts : List T} {c : Int} {i : Nat} (h : i < ts.length) : (shL a k 0 ts c).take i ++ [shT a ts[i] (c + under k i)] = (shL a k 0 ts c).take (i + 1) := by
 rw [← eV (l := shL a k 0 ts c) (i := i) (by rw [oe]; exact h), AT a k ts 0 i c h, Nat.zero_add]
theorem GD {u : T} {k : Int} {ts : List T} {x d : Int} {i : Nat} (h : i < ts.length) : (sbL u k 0 ts x d).take i ++ [sbT u ts[i] (x + under k i) (d + under k i)] = (sbL u k 0 ts x d).take (i + 1) := by
 rw [← eV (l := sbL u k 0 ts x d) (i := i) (by rw [vM]; exact h), CM u k ts 0 i x d h, Nat.zero_add]
theorem mf (n : Nat) (a c : Int) (k n0 : Int) (ts : List T) (z1 z2 : Int) (l : List T) (k1 n1 : Int) (hl : ts.length ≤ 1000000) (hc : 0 ≤ c ∧ c ≤ 1000000)
   (h : ∀ (j : Nat) (hj : j < ts.length), FF n 83 [tm ts[j], nt a, nt (c + under k j)] [] = some ([tm (shT a ts[j] (c + under k j))], [])) (hn : 2 ≤ n) :
   ∀ g m (i : Nat), g < m → i + g = ts.length → bm n m a c i k n0 ts z1 z2 l k1 n1 ((shL a k 0 ts c).take i) = some ([tm (.mk k1 n1 (shL a k 0 ts c))], [])
 | g, 0, i, hg, _ => by omega
 | 0, m + 1, i, _, hi => by
  rw [dX]
  simp only [ax, if_neg (show ¬ (i : Int) < ts.length by omega), List.take_of_length_le (show (shL a k 0 ts c).length ≤ i by rw [oe]; omega)]; rfl
 | g + 1, m + 1, i, hg, hi => by
  have hlt : i < ts.length := by omega
  have ub := cY k i
  have ht : ((shL a k 0 ts c).take i).length = i := by rw [List.length_take, oe]; omega
  rw [dX]; simp (disch := omega) only [evt, ax, Int.toNat_natCast, gD, wrap64, aU, List.length_append, List.length_cons, List.length_nil, if_pos (show (i : Int) < ts.length by omega), if_pos (show 0 ≤ (i : Int) by omega), List.getElem?_eq_getElem hlt, tk, h i hlt, ht, AM hlt]
  exact mf n a c k n0 ts z1 z2 l k1 n1 hl hc h hn g m (i + 1) (by omega) (by omega)
theorem uw (a : Int) (ha : -1000 ≤ a ∧ a ≤ 1000) (t : T) : ∀ {n : Nat}, t.size + 5 ≤ n → gdB t = true → ∀ c : Int, 0 ≤ c → c + t.size ≤ 1000000 → FF n 83 [tm t, nt a, nt c] [] = some ([tm (shT a t c)], []) := by
 induction t using T.ind with | h t ih =>
 intro n hn hg c h0 h1
 have hsz := T.size_eq t
 have hl := T.br t.kids
 obtain ⟨n, rfl⟩ := af (show 0 < n by omega)
 obtain ⟨g0, g1, g2, g3⟩ := nT hg
 rw [ph]
 have key : ∀ k1 n1, bm n n a c 0 t.k t.n t.kids 0 0 [] k1 n1 [] = some ([tm (.mk k1 n1 (shL a t.k 0 t.kids c))], []) := by
  intro k1 n1
  have := mf n a c t.k t.n t.kids 0 0 [] k1 n1 (by omega) ⟨h0, by omega⟩ (fun j hj => by
   have hm := List.getElem_mem hj
   have := T.aX hm
   have ub := cY t.k j
   exact ih _ hm (by omega) (g3 _ hm) _ (by omega) (by omega)) (by omega) t.kids.length n 0 (by omega) (by omega)
  simpa using this
 have e : shT a t c = .mk t.k (if t.k = 1 ∧ c ≤ t.n then t.n + a else t.n) (shL a t.k 0 t.kids c) := by cases t; rfl
 simp (disch := omega) only [wrap64, key, ax, e]
 by_cases hk : t.k = 1 <;> by_cases hc : c ≤ t.n <;> simp [hk, hc]
theorem mr (n : Nat) (u : T) (x d : Int) (k n0 : Int) (ts : List T) (z1 z2 : Int) (l : List T) (k1 n1 : Int) (hl : ts.length ≤ 1000000) (hx : 0 ≤ x ∧ x ≤ 1000000) (hd : 0 ≤ d ∧ d ≤ 1000000)
   (h : ∀ (j : Nat) (hj : j < ts.length), FF n 168 [tm ts[j], nt (x + under k j), tm u, nt (d + under k j)] [] = some ([tm (sbT u ts[j] (x + under k j) (d + under k j))], [])) (hn : 2 ≤ n) :
   ∀ g m (i : Nat), g < m → i + g = ts.length → aJ n m x d i k n0 ts u.k u.n u.kids z1 z2 l k1 n1 ((sbL u k 0 ts x d).take i) = some ([tm (.mk k1 n1 (sbL u k 0 ts x d))], [])
 | g, 0, i, hg, _ => by omega
 | 0, m + 1, i, _, hi => by
  rw [dK]
  simp only [ax, if_neg (show ¬ (i : Int) < ts.length by omega), List.take_of_length_le (show (sbL u k 0 ts x d).length ≤ i by rw [vM]; omega)]; rfl
 | g + 1, m + 1, i, hg, hi => by
  have hlt : i < ts.length := by omega
  have ub := cY k i
  have ht : ((sbL u k 0 ts x d).take i).length = i := by rw [List.length_take, vM]; omega
  rw [dK]; simp (disch := omega) only [evt, ax, Int.toNat_natCast, gD, wrap64, aU, List.length_append, List.length_cons, List.length_nil, if_pos (show (i : Int) < ts.length by omega), if_pos (show 0 ≤ (i : Int) by omega), List.getElem?_eq_getElem hlt, tk, h i hlt, ht, GD hlt]
  exact mr n u x d k n0 ts z1 z2 l k1 n1 hl hx hd h hn g m (i + 1) (by omega) (by omega)
theorem uL (u : T) (hu : gdB u = true) (hus : u.size ≤ 1000) (t : T) : ∀ {n : Nat}, t.size + u.size + 10 ≤ n → gdB t = true → ∀ x d : Int, 0 ≤ x → x + t.size ≤ 100000 → 0 ≤ d → d + t.size ≤ 1000 → FF n 168 [tm t, nt x, tm u, nt d] [] = some ([tm (sbT u t x d)], []) := by
 induction t using T.ind with | h t ih =>
 intro n hn hg x d h0 h1 h2 h3
 have hsz := T.size_eq t
 have hl := T.br t.kids
 obtain ⟨n, rfl⟩ := af (show 0 < n by omega)
 obtain ⟨g0, g1, g2, g3⟩ := nT hg
 rw [pF]
 have key : ∀ k1 n1, aJ n n x d 0 t.k t.n t.kids u.k u.n u.kids 0 0 [] k1 n1 [] = some ([tm (.mk k1 n1 (sbL u t.k 0 t.kids x d))], []) := by
  intro k1 n1
  have := mr n u x d t.k t.n t.kids 0 0 [] k1 n1 (by omega) ⟨h0, by omega⟩ ⟨h2, by omega⟩ (fun j hj => by
   have hm := List.getElem_mem hj
   have := T.aX hm
   have ub := cY t.k j
   exact ih _ hm (by omega) (g3 _ hm) _ _ (by omega) (by omega) (by omega) (by omega)) (by omega) t.kids.length n 0 (by omega) (by omega)
  simpa using this
 have e : sbT u t x d = if t.k = 1 ∧ t.n = x then shT d u 0 else .mk t.k (if t.k = 1 ∧ x < t.n then t.n - 1 else t.n) (sbL u t.k 0 t.kids x d) := by cases t; rfl
 have hs := uw d (by omega) u (n := n) (by omega) hu 0 (by omega) (by omega)
 have w := wrap64 (a := t.n - 1) (by omega)
 simp (disch := omega) only [w, key, ax, e, hs, evt]
 by_cases hk : t.k = 1
 ·by_cases hc : t.n = x
  ·simp [hk, hc]
  ·by_cases hc2 : x < t.n <;> simp [hk, hc, hc2]
 ·simp [hk]
theorem EJ {n : Nat} (hn : 2 ≤ n) (v b c a : Int) (ok : Bool) (hv : 0 ≤ v ∧ v ≤ 20) (hb : 0 ≤ b ∧ b ≤ 1000000) (hc : 0 ≤ c ∧ c ≤ 1000000) (ha : -1000 ≤ a ∧ a ≤ 1000) :
   FF n 110 [nt v, nt b, .one (.ptr 0 0), .one (.ptr 1 0), .one (.ptr 2 0)] [.cells [.int .i64 c], .cells [.int .i64 a], .cells [.bool ok]] =
    some ([tm (.mk 1 (if c + b ≤ v then v + a else v) [])], [.cells [.int .i64 c], .cells [.int .i64 a], .cells [.bool (ok && (if c + b ≤ v then decide (c + b ≤ v + a) && decide (v + a ≤ 20) else true))]]) := by
 obtain ⟨n, rfl⟩ := af (show 0 < n by omega)
 rw [pE]
 simp (disch := omega) only [wrap64, lP, evt, ax]
 have e1 : (c ≤ v - b) = (c + b ≤ v) := by apply propext; omega
 have e2 : (c ≤ v + a - b) = (c + b ≤ v + a) := by apply propext; omega
 simp only [e1, e2]
 by_cases h1 : c + b ≤ v
 ·cases ok
  ·simp [h1, cP, cQ, az]
  ·by_cases h2 : c + b ≤ v + a <;> simp [h1, h2, cP, cQ, az]
 ·simp [h1, cP, cQ, az]
theorem iN (n : Nat) (b c a : Int) (k n0 : Int) (ts : List T) (l0 : List T) (z1 z2 : Int) (l : List T) (k1 n1 : Int) (hl : ts.length ≤ 1000000) (hb : 0 ≤ b ∧ b ≤ 1000000)
   (h : ∀ (j : Nat) (hj : j < ts.length) (ok : Bool), FF n 109 [tm ts[j], nt (b + under k j), .one (.fn 110 [0, 1, 2])] [.cells [.int .i64 c], .cells [.int .i64 a], .cells [.bool ok]] =
    some ([tm (shT a ts[j] (c + b + under k j))], [.cells [.int .i64 c], .cells [.int .i64 a], .cells [.bool (ok && okS a ts[j] (c + b + under k j))]])) (hn : 2 ≤ n) :
   ∀ g m (i : Nat) (ok : Bool), g < m → i + g = ts.length → ba n m b ts ts.length i c a ok k n0 l0 z1 z2 l k1 n1 ((shL a k 0 ts (c + b)).take i) =
    some ([tm (.mk k1 n1 (shL a k 0 ts (c + b)))], [.cells [.int .i64 c], .cells [.int .i64 a], .cells [.bool (ok && FR a k i (ts.drop i) (c + b))]])
 | g, 0, i, ok, hg, _ => by omega
 | 0, m + 1, i, ok, _, hi => by
  rw [bV, List.drop_of_length_le (by omega)]
  simp only [ax, if_neg (show ¬ (i : Int) < ts.length by omega), List.take_of_length_le (show (shL a k 0 ts (c + b)).length ≤ i by rw [oe]; omega), FR, Bool.and_true]; rfl
 | g + 1, m + 1, i, ok, hg, hi => by
  have hlt : i < ts.length := by omega
  have ub := cY k i
  have ht : ((shL a k 0 ts (c + b)).take i).length = i := by rw [List.length_take, oe]; omega
  rw [List.drop_eq_getElem_cons hlt, FR]
  rw [bV]; simp (disch := omega) only [evt, ax, Int.toNat_natCast, gD, wrap64, aU, List.length_append, List.length_cons, List.length_nil, if_pos (show (i : Int) < ts.length by omega), if_pos (show 0 ≤ (i : Int) by omega), List.getElem?_eq_getElem hlt, se, h i hlt, ht, AM hlt]
  rw [iN n b c a k n0 ts l0 z1 z2 l k1 n1 hl hb h hn g m (i + 1) _ (by omega) (by omega), Bool.and_assoc]
theorem vJ (c a : Int) (hc : 0 ≤ c ∧ c ≤ 1000) (ha : -1000 ≤ a ∧ a ≤ 1000) (t : T) : ∀ {n : Nat}, t.size + 5 ≤ n → gdB t = true → ∀ b : Int, 0 ≤ b → b + t.size ≤ 100000 → ∀ ok : Bool,
   FF n 109 [tm t, nt b, .one (.fn 110 [0, 1, 2])] [.cells [.int .i64 c], .cells [.int .i64 a], .cells [.bool ok]] =
    some ([tm (shT a t (c + b))], [.cells [.int .i64 c], .cells [.int .i64 a], .cells [.bool (ok && okS a t (c + b))]]) := by
 induction t using T.ind with | h t ih =>
 intro n hn hg b h0 h1 ok
 have hsz := T.size_eq t
 have hl := T.br t.kids
 obtain ⟨n, rfl⟩ := af (show 0 < n by omega)
 obtain ⟨g0, g1, g2, g3⟩ := nT hg
 rw [fJ]
 have e : shT a t (c + b) = .mk t.k (if t.k = 1 ∧ c + b ≤ t.n then t.n + a else t.n) (shL a t.k 0 t.kids (c + b)) := by cases t; rfl
 have e2 : okS a t (c + b) = if t.k = 1 then (if c + b ≤ t.n then decide (c + b ≤ t.n + a) && decide (t.n + a ≤ 20) else true) else FR a t.k 0 t.kids (c + b) := by cases t; rfl
 by_cases hk : t.k = 1
 ·simp (disch := omega) only [EJ, evt, ax, if_pos hk, e, e2]
  rw [g2 hk, hk]; simp [shL, cP, cQ, az]
 ·have := iN n b c a t.k t.n t.kids t.kids 0 0 [] t.k t.n (by omega) ⟨h0, by omega⟩ (fun j hj ok => by
    have hm := List.getElem_mem hj
    have := T.aX hm
    have ub := cY t.k j
    have := ih _ hm (n := n) (by omega) (g3 _ hm) (b + under t.k j) (by omega) (by omega) ok
    rwa [← Int.add_assoc] at this) (by omega) t.kids.length n 0 ok (by omega) (by omega)
  simp only [ax, if_neg hk, e, e2, hk, false_and, if_false]
  simpa using this
def shR (a : Int) (t : T) (c : Int) : T := if ah (shT a t c) then shT a t c else .mk 0 0 []
theorem nd {n : Nat} {t : T} {a c : Int} (hn : t.size + 10 ≤ n) (hg : gdB t = true) (hs : t.size ≤ 1000) (ha : 0 ≤ a ∧ a ≤ 1000) (hc : 0 ≤ c ∧ c ≤ 1000) :
   FF n 73 [tm t, nt a, nt c] [] = some ([tm (shR a t c), bl (ah (shT a t c))], []) := by
 obtain ⟨n, rfl⟩ := af (show 0 < n by omega)
 have h1 := vJ c a hc (by omega) t (n := n) (by omega) hg 0 (by omega) (by omega) true
 rw [Int.add_zero, Bool.true_and] at h1
 have h2 := xE (n := n) (t := shT a t c) (by rw [lj]; omega)
 rw [um, h1]
 simp only [evt]
 have hv := sV ha.1 t c
 cases hk : okS a t c with
 | false =>
  have : ah (shT a t c) = false := by
   cases hvv : ah (shT a t c) with
   | false => rfl
   | true => rw [hv hvv] at hk; cases hk
  simp [shR, this, cP, cQ, az]
 | true =>
  simp only [Bool.not_true, cond_false, h2, evt, shR]
theorem Eo {n : Nat} {u : T} (hn : u.size + 12 ≤ n) (hg : gdB u = true) (hs : u.size ≤ 1000) (v b x : Int) (ok : Bool) (hv : 0 ≤ v ∧ v ≤ 20) (hb : 0 ≤ b ∧ b ≤ 1000) (hx : 0 ≤ x ∧ x ≤ 1000) :
   FF n 120 [nt v, nt b, .one (.ptr 0 0), .one (.ptr 1 0), .one (.ptr 2 0)] [.cells [.int .i64 x], .cells [.int .i64 u.k, .int .i64 u.n, .fr (.ts u.kids)], .cells [.bool ok]] =
    some ([tm (if v = x + b then shR b u 0 else .mk 1 (if x + b < v then v - 1 else v) [])], [.cells [.int .i64 x], .cells [.int .i64 u.k, .int .i64 u.n, .fr (.ts u.kids)], .cells [.bool (ok && (if v = x + b then ah (shT b u 0) else true))]]) := by
 obtain ⟨n, rfl⟩ := af (show 0 < n by omega)
 rw [o8]
 have h1 := nd (n := n) (t := u) (a := b) (c := 0) (by omega) hg hs hb (by omega)
 simp (disch := omega) only [wrap64, lP, h1, evt, ax]
 have e1 : (v - b = x) = (v = x + b) := by apply propext; omega
 have e2 : (x < v - b) = (x + b < v) := by apply propext; omega
 simp only [e1, e2]
 by_cases h1 : v = x + b
 ·cases ok <;> simp [h1]
 ·by_cases h2 : x + b < v <;> simp [h1, h2, cP, cQ, az]
mutual
def sbX (u : T) : T → Int → Int → T
 | .mk k n ts, x, d => if k = 1 then (if n = x then shR d u 0 else .mk 1 (if x < n then n - 1 else n) []) else .mk k n (vR u k 0 ts x d)
def vR (u : T) (k : Int) : Nat → List T → Int → Int → List T
 | _, [], _, _ => []
 | i, t :: ts, x, d => sbX u t (x + under k i) (d + under k i) :: vR u k (i + 1) ts x d
end
mutual
theorem FL (u : T) : ∀ (t : T) (x d : Int), gdB t = true → okB u t x d = true → sbX u t x d = sbT u t x d
 | .mk k n ts, x, d, hg, h => by
  rw [okB] at h
  rw [sbX, sbT]
  obtain ⟨_, _, g2, g3⟩ := nT hg
  by_cases hk : k = 1
  ·subst hk
   rw [if_pos rfl] at h
   rw [if_pos rfl]
   by_cases hn : n = x
   ·rw [if_pos hn] at h
    rw [if_pos hn, if_pos ⟨rfl, hn⟩, shR, if_pos h]
   ·have : ts = [] := g2 rfl
    subst this
    simp [hn, sbL]
  ·rw [if_neg hk] at h
   rw [if_neg hk, if_neg (fun hh => hk hh.1), if_neg (fun hh => hk hh.1), B4 u k ts 0 x d g3 h]
theorem B4 (u : T) (k : Int) : ∀ (ts : List T) (i : Nat) (x d : Int), (∀ t ∈ ts, gdB t = true) → Dy u k i ts x d = true → vR u k i ts x d = sbL u k i ts x d
 | [], i, x, d, _, _ => rfl
 | t :: ts, i, x, d, hg, h => by
  rw [Dy, Bool.and_eq_true] at h
  rw [vR, sbL, FL u t _ _ (hg t (List.mem_cons_self ..)) h.1, B4 u k ts (i + 1) x d (fun v hv => hg v (List.mem_cons_of_mem _ hv)) h.2]
end
theorem np (u : T) (k : Int) : ∀ (ts : List T) (i : Nat) (x d : Int), (vR u k i ts x d).length = ts.length
 | [], i, x, d => rfl
 | t :: ts, i, x, d => by rw [vR, List.length_cons, List.length_cons, np u k ts]
theorem yR (u : T) (k : Int) : ∀ (ts : List T) (i j : Nat) (x d : Int) (h : j < ts.length), (vR u k i ts x d)[j]'(by rw [np]; exact h) = sbX u ts[j] (x + under k (i + j)) (d + under k (i + j))
 | t :: ts, i, 0, x, d, h => rfl
 | t :: ts, i, j + 1, x, d, h => by
  have := yR u k ts (i + 1) j x d (by simpa using h)
  simp only [vR, List.getElem_cons_succ]
  rw [this, show i + 1 + j = i + (j + 1) by omega]
theorem DL {u : T} {k : Int} {ts : List T} {x d : Int} {i : Nat} (h : i < ts.length) : (vR u k 0 ts x d).take i ++ [sbX u ts[i] (x + under k i) (d + under k i)] = (vR u k 0 ts x d).take (i + 1) := by
 rw [← eV (l := vR u k 0 ts x d) (i := i) (by rw [np]; exact h), yR u k ts 0 i x d h, Nat.zero_add]
theorem iL (n : Nat) (u : T) (b x : Int) (k n0 : Int) (ts : List T) (l0 : List T) (z1 z2 : Int) (l : List T) (k1 n1 : Int) (hl : ts.length ≤ 1000000) (hb : 0 ≤ b ∧ b ≤ 1000000)
   (h : ∀ (j : Nat) (hj : j < ts.length) (ok : Bool), FF n 109 [tm ts[j], nt (b + under k j), .one (.fn 120 [0, 1, 2])] [.cells [.int .i64 x], .cells [.int .i64 u.k, .int .i64 u.n, .fr (.ts u.kids)], .cells [.bool ok]] =
    some ([tm (sbX u ts[j] (x + b + under k j) (b + under k j))], [.cells [.int .i64 x], .cells [.int .i64 u.k, .int .i64 u.n, .fr (.ts u.kids)], .cells [.bool (ok && okB u ts[j] (x + b + under k j) (b + under k j))]])) (hn : 2 ≤ n) :
   ∀ g m (i : Nat) (ok : Bool), g < m → i + g = ts.length → a7 n m b ts ts.length i x u.k u.n u.kids ok k n0 l0 z1 z2 l k1 n1 ((vR u k 0 ts (x + b) b).take i) =
    some ([tm (.mk k1 n1 (vR u k 0 ts (x + b) b))], [.cells [.int .i64 x], .cells [.int .i64 u.k, .int .i64 u.n, .fr (.ts u.kids)], .cells [.bool (ok && Dy u k i (ts.drop i) (x + b) b)]])
 | g, 0, i, ok, hg, _ => by omega
 | 0, m + 1, i, ok, _, hi => by
  rw [bQ, List.drop_of_length_le (by omega)]
  simp only [ax, if_neg (show ¬ (i : Int) < ts.length by omega), List.take_of_length_le (show (vR u k 0 ts (x + b) b).length ≤ i by rw [np]; omega), Dy, Bool.and_true]; rfl
 | g + 1, m + 1, i, ok, hg, hi => by
  have hlt : i < ts.length := by omega
  have ub := cY k i
  have ht : ((vR u k 0 ts (x + b) b).take i).length = i := by rw [List.length_take, np]; omega
  rw [List.drop_eq_getElem_cons hlt, Dy]
  rw [bQ]; simp (disch := omega) only [evt, ax, Int.toNat_natCast, gD, wrap64, aU, List.length_append, List.length_cons, List.length_nil, if_pos (show (i : Int) < ts.length by omega), if_pos (show 0 ≤ (i : Int) by omega), List.getElem?_eq_getElem hlt, se, h i hlt, ht, DL hlt]
  rw [iL n u b x k n0 ts l0 z1 z2 l k1 n1 hl hb h hn g m (i + 1) _ (by omega) (by omega), Bool.and_assoc]
theorem sT (u : T) (hu : gdB u = true) (hus : u.size ≤ 1000) (x : Int) (hx : 0 ≤ x ∧ x ≤ 1000) (t : T) : ∀ {n : Nat}, t.size + u.size + 15 ≤ n → gdB t = true → ∀ b : Int, 0 ≤ b → b + t.size ≤ 1000 → ∀ ok : Bool,
   FF n 109 [tm t, nt b, .one (.fn 120 [0, 1, 2])] [.cells [.int .i64 x], .cells [.int .i64 u.k, .int .i64 u.n, .fr (.ts u.kids)], .cells [.bool ok]] =
    some ([tm (sbX u t (x + b) b)], [.cells [.int .i64 x], .cells [.int .i64 u.k, .int .i64 u.n, .fr (.ts u.kids)], .cells [.bool (ok && okB u t (x + b) b)]]) := by
 induction t using T.ind with | h t ih =>
 intro n hn hg b h0 h1 ok
 have hsz := T.size_eq t
 have hl := T.br t.kids
 obtain ⟨n, rfl⟩ := af (show 0 < n by omega)
 obtain ⟨g0, g1, g2, g3⟩ := nT hg
 rw [fX]
 have e : sbX u t (x + b) b = if t.k = 1 then (if t.n = x + b then shR b u 0 else .mk 1 (if x + b < t.n then t.n - 1 else t.n) []) else .mk t.k t.n (vR u t.k 0 t.kids (x + b) b) := by cases t; rfl
 have e2 : okB u t (x + b) b = if t.k = 1 then (if t.n = x + b then ah (shT b u 0) else true) else Dy u t.k 0 t.kids (x + b) b := by cases t; rfl
 by_cases hk : t.k = 1
 ·simp (disch := first | omega | assumption) only [Eo, evt, ax, if_pos hk, e, e2]
 ·have := iL n u b x t.k t.n t.kids t.kids 0 0 [] t.k t.n (by omega) ⟨h0, by omega⟩ (fun j hj ok => by
    have hm := List.getElem_mem hj
    have := T.aX hm
    have ub := cY t.k j
    have := ih _ hm (n := n) (by omega) (g3 _ hm) (b + under t.k j) (by omega) (by omega) ok
    rwa [← Int.add_assoc] at this) (by omega) t.kids.length n 0 ok (by omega) (by omega)
  simp only [ax, if_neg hk, e, e2]
  simpa using this
def sbR (u t : T) (x : Int) : T := if ah (sbT u t x 0) then sbT u t x 0 else .mk 0 0 []
theorem CQ {n : Nat} {t u : T} {x : Int} (hn : 2000000 ≤ n) (hg : gdB t = true) (hs : t.size ≤ 1000) (hu : gdB u = true) (hus : u.size ≤ 1000) (hx : 0 ≤ x ∧ x ≤ 1000) :
   FF n 97 [tm t, nt x, tm u] [] = some ([tm (sbR u t x), bl (ah (sbT u t x 0))], []) := by
 obtain ⟨n, rfl⟩ := af (show 0 < n by omega)
 have h1 := sT u hu hus x hx t (n := n) (by omega) hg 0 (by omega) (by omega) true
 rw [Int.add_zero, Bool.true_and] at h1
 have hz := qV u t x 0
 have hz2 : t.size * u.size ≤ 1000 * 1000 := Nat.mul_le_mul hs hus
 rw [uv, h1]
 simp only [evt]
 have hv := ti u t x 0
 cases hk : okB u t x 0 with
 | false =>
  have : ah (sbT u t x 0) = false := by
   cases hvv : ah (sbT u t x 0) with
   | false => rfl
   | true => rw [hv hvv] at hk; cases hk
  simp [sbR, this, cP, cQ, az]
 | true =>
  rw [FL u t x 0 hg hk]
  have h2 := xE (n := n) (t := sbT u t x 0) (by omega)
  simp only [Bool.not_true, cond_false, h2, evt, sbR]
end Go.Proofs.YtajlknlnmmbfcaaGreat
end
section
namespace Go.Proofs.YtajlknlnmmbfcaaGreat
open Go Go.Ab Go.Dk
theorem yN (n : Nat) (ts us : List T) (hl : ts.length ≤ 4000000) (he : ts.length = us.length) (h : ∀ t ∈ ts, ∀ u, FF n 22 [tm t, tm u] [] = some ([bl (T.beq t u)], [])) :
   ∀ g m (i : Nat), g < m → i + g = ts.length → a8 n m us ts ts.length i = some ([bl (T.vT (ts.drop i) (us.drop i))], [])
 | g, 0, i, hg, _ => by omega
 | 0, m + 1, i, _, hi => by
  rw [bS, List.drop_of_length_le (by omega), List.drop_of_length_le (by omega)]
  simp only [ax, if_neg (show ¬ (i : Int) < ts.length by omega), T.vT]
 | g + 1, m + 1, i, hg, hi => by
  have hlt : i < ts.length := by omega
  have hlt2 : i < us.length := by omega
  rw [List.drop_eq_getElem_cons hlt, List.drop_eq_getElem_cons hlt2, T.vT]
  rw [bS]; simp (disch := omega) only [evt, ax, Int.toNat_natCast, gD, wrap64, aU, List.length_append, List.length_cons, List.length_nil, if_pos (show (i : Int) < ts.length by omega), if_pos (show 0 ≤ (i : Int) by omega), List.getElem?_eq_getElem hlt, List.getElem?_eq_getElem hlt2, h _ (List.getElem_mem hlt)]
  cases hs : T.beq ts[i] us[i] with
  | false => simp
  | true =>
   simp only [Bool.not_true, cond_false, Bool.true_and]
   exact yN n ts us hl he h g m (i + 1) (by omega) (by omega)
theorem pY (t : T) : ∀ {n : Nat}, 2 * t.size + 5 ≤ n → t.size ≤ 4000000 → ∀ u : T, FF n 22 [tm t, tm u] [] = some ([bl (T.beq t u)], []) := by
 induction t using T.ind with | h t ih =>
 intro n hn hz u
 have hsz := T.size_eq t
 have hl := T.br t.kids
 obtain ⟨n, rfl⟩ := af (show 0 < n by omega)
 rw [oj, T.beq_eq]
 by_cases c1 : t.k = u.k
 ·by_cases c2 : t.n = u.n
  ·obtain ⟨n, rfl⟩ := af (show 0 < n by omega)
   rw [ew]
   by_cases c3 : t.kids.length = u.kids.length
   ·have := yN n t.kids u.kids (by omega) c3 (fun v hv w => ih v hv (by have := T.aX hv; omega) (by have := T.aX hv; omega) w) t.kids.length n 0 (by omega) (by omega)
    rw [List.drop_zero, List.drop_zero] at this
    simp only [decide_eq_true c1, decide_eq_true c2, decide_eq_true (show (t.kids.length : Int) = u.kids.length by omega), Bool.not_true, cond_false, cond_true, Bool.true_and]
    rw [show (0 : Int) = ((0 : Nat) : Int) from rfl, this]
    simp only [evs]
   ·simp only [decide_eq_true c1, decide_eq_true c2, decide_eq_false (show ¬ (t.kids.length : Int) = u.kids.length by omega), Bool.not_true, Bool.not_false, cond_false, cond_true, Bool.true_and, qJ c3, evs]
  ·simp [c1, c2]
 ·simp [c1]
theorem cj {t : T} {i : Nat} (h : i < t.kids.length) : t.kids[i]? = some (kd t i) := by
 unfold kd; simp [List.getD, h]
theorem bT {t : T} (hv : ah t = true) {c : Nat} (h : opsOf t.k = c) : t.kids.length = c := by
 have := (lC hv).1
 omega
theorem tQ {n : Nat} (hn : 1 ≤ n) {t : T} (hv : ah t = true) : FF n 104 [tm t] [] = some ([nt (bz t)], []) ∧ FF n 156 [tm t] [] = some ([nt (bz t)], []) := by
 obtain ⟨n, rfl⟩ := af (show 0 < n by omega)
 rw [uC, pG]
 simp only [ax, Int.toNat_zero, Int.reduceToNat]
 unfold bz
 by_cases k5 : t.k = 5
 ·have hl := bT hv (c := 2) (by rw [k5]; rfl)
  simp only [k5, if_true, cj (show 0 < t.kids.length by omega), Option.bind_some]
  constructor <;> split <;> rfl
 by_cases k9 : t.k = 9
 ·have hl := bT hv (c := 4) (by rw [k9]; rfl)
  simp only [k9, if_true, cj (show 3 < t.kids.length by omega), Option.bind_some, show ¬ (9 : Int) = 5 by decide, if_false]
  constructor <;> (split; rfl; split <;> rfl)
 by_cases k12 : t.k = 12
 ·have hl := bT hv (c := 3) (by rw [k12]; rfl)
  simp only [k12, if_true, cj (show 1 < t.kids.length by omega), Option.bind_some, show ¬ (12 : Int) = 5 by decide, show ¬ (12 : Int) = 9 by decide, if_false]
  constructor <;> split <;> rfl
 by_cases k15 : t.k = 15
 ·have hl := bT hv (c := 1) (by rw [k15]; rfl)
  simp only [k15, if_true, cj (show 0 < t.kids.length by omega), Option.bind_some, show ¬ (15 : Int) = 5 by decide, show ¬ (15 : Int) = 9 by decide, show ¬ (15 : Int) = 12 by decide, if_false]
  constructor <;> split <;> rfl
 by_cases k16 : t.k = 16
 ·have hl := bT hv (c := 1) (by rw [k16]; rfl)
  simp only [k16, if_true, cj (show 0 < t.kids.length by omega), Option.bind_some, show ¬ (16 : Int) = 5 by decide, show ¬ (16 : Int) = 9 by decide, show ¬ (16 : Int) = 12 by decide, show ¬ (16 : Int) = 15 by decide, if_false]
  constructor <;> split <;> rfl
 simp [k5, k9, k12, k15, k16]
theorem xy {n : Nat} (hn : 1 ≤ n) {t : T} (hv : ah t = true) : FF n 104 [tm t] [] = some ([nt (bz t)], []) := (tQ hn hv).1
theorem kr {n : Nat} (hn : 1 ≤ n) {t : T} (hv : ah t = true) : FF n 156 [tm t] [] = some ([nt (bz t)], []) := (tQ hn hv).2
theorem cf {t : T} (hv : ah t = true) {i c : Nat} (h : opsOf t.k = c) (hi : i < c) : ah (kd t i) = true := bF hv (jG (by rw [bT hv h]; exact hi))
theorem jq {t : T} (hv : ah t = true) (hr : Rx t) : (ay t).size ≤ 160000 := by
 have hz := ae hv
 have kz : ∀ {i c : Nat}, opsOf t.k = c → i < c → (kd t i).size ≤ 400 := fun h hi => ae (cf hv h hi)
 cases hr with
 | app h h' =>
  rw [fe h]
  have h0 := cf hv (i := 0) (c := 2) (by rw [h]; rfl) (by omega)
  have h1 := ae (cf h0 (i := 1) (c := 2) (by rw [h']; rfl) (by omega))
  have h2 := kz (i := 1) (c := 2) (by rw [h]; rfl) (by omega)
  exact Nat.le_trans (qV _ _ _ _) (Nat.mul_le_mul h1 h2)
 | zero h h' => rw [dE h h']; have := kz (i := 1) (c := 4) (by rw [h]; rfl) (by omega); omega
 | succ h h' =>
  rw [dD h h']
  have h0 := kz (i := 0) (c := 4) (by rw [h]; rfl) (by omega)
  have h1 := kz (i := 1) (c := 4) (by rw [h]; rfl) (by omega)
  have h2 := kz (i := 2) (c := 4) (by rw [h]; rfl) (by omega)
  have h3 := ae (cf (cf hv (i := 3) (c := 4) (by rw [h]; rfl) (by omega)) (i := 0) (c := 1) (by rw [h']; rfl) (by omega))
  simp only [T.size, T.aE]; omega
 | move h h' => rw [dp h]; have := kz (i := 2) (c := 3) (by rw [h]; rfl) (by omega); omega
 | fst h h' => rw [fg h]; have := ae (cf (cf hv (i := 0) (c := 1) (by rw [h]; rfl) (by omega)) (i := 1) (c := 3) (by rw [h']; rfl) (by omega)); omega
 | snd h h' => rw [fj h]; have := ae (cf (cf hv (i := 0) (c := 1) (by rw [h]; rfl) (by omega)) (i := 2) (c := 3) (by rw [h']; rfl) (by omega)); omega
def okT (t : T) : T := if ah t then t else .mk 0 0 []
theorem eM {n : Nat} {t : T} (hn : t.size + 10 ≤ n) (hz : t.size ≤ 4000000) : FF n 58 [tm t] [] = some ([tm t], []) ∧ FF n 71 [tm t] [] = some ([tm (okT t), bl (ah t)], []) :=
 ⟨EL t (by omega) hz, xE (by omega)⟩
theorem qm {n : Nat} (hn : 3000000 ≤ n) {t : T} (hv : ah t = true) (hr : Rx t) : FF n 149 [tm t] [] = some ([tm (okT (ay t)), bl (ah (ay t))], []) := by
 have hcz := jq hv hr
 obtain ⟨n, rfl⟩ := af (show 0 < n by omega)
 rw [nP, xy (by omega) hv]
 have hrx := (nG t).2 hr
 have gk : ∀ {i c : Nat}, opsOf t.k = c → i < c → t.kids[i]? = some (kd t i) := fun h hi => cj (by rw [bT hv h]; exact hi)
 have vk : ∀ {i c : Nat}, opsOf t.k = c → i < c → ah (kd t i) = true := fun h hi => cf hv h hi
 simp only [evt, ax, Int.toNat_zero, Int.reduceToNat, Int.toNat_one]
 cases hr with
 | app h h' =>
  have e : bz t = 1 := by simp [bz, h, h']
  have h2 : opsOf t.k = (2 : Nat) := by rw [h]; rfl
  have v0 := vk (i := 0) h2 (by omega)
  have h3 : opsOf (kd t 0).k = (2 : Nat) := by rw [h']; rfl
  have v01 := cf v0 (i := 1) h3 (by omega)
  have v1 := vk (i := 1) h2 (by omega)
  have hs := CQ (n := n) (t := kd (kd t 0) 1) (u := kd t 1) (x := 0) (by omega) (gw v01) (by have := ae v01; omega) (gw v1) (by have := ae v1; omega) (by omega)
  simp only [e, if_true, gk (i := 0) h2 (by omega), gk (i := 1) h2 (by omega), cj (t := kd t 0) (i := 1) (by rw [bT v0 h3]; omega), hs, evt, fe h, sbR, okT]
 | zero h h' =>
  have e : bz t = 2 := by simp [bz, h, h']
  have h2 : opsOf t.k = (4 : Nat) := by rw [h]; rfl
  rw [dE h h'] at hcz ⊢
  have ho := eM (n := n) (t := kd t 1) (by omega) (by omega)
  simp only [e, if_true, gk (i := 1) h2 (by omega), ho, evt, show ¬ (2 : Int) = 1 by decide, if_false]
 | succ h h' =>
  have e : bz t = 3 := by simp [bz, h, h']
  have h2 : opsOf t.k = (4 : Nat) := by rw [h]; rfl
  have v3 := vk (i := 3) h2 (by omega)
  have h3 : opsOf (kd t 3).k = (1 : Nat) := by rw [h']; rfl
  rw [dD h h'] at hcz ⊢
  have ho := eM (n := n) (t := T.mk 5 0 [.mk 5 0 [kd t 2, kd (kd t 3) 0], .mk 9 0 [kd t 0, kd t 1, kd t 2, kd (kd t 3) 0]]) (by omega) (by omega)
  simp (disch := omega) only [e, if_true, gk (i := 0) h2 (by omega), gk (i := 1) h2 (by omega), gk (i := 2) h2 (by omega), gk (i := 3) h2 (by omega), cj (t := kd t 3) (i := 0) (by rw [bT v3 h3]; omega), kx, evt, show ¬ (3 : Int) = 1 by decide, show ¬ (3 : Int) = 2 by decide, if_false]
  have h1 := ho.1
  have h2 := ho.2
  simp only [tm, cP, cQ, az] at h1 h2
  simp only [h1, h2, evt]
 | move h h' =>
  have e : bz t = 4 := by simp [bz, h, h']
  have h2 : opsOf t.k = (3 : Nat) := by rw [h]; rfl
  rw [dp h] at hcz ⊢
  have ho := eM (n := n) (t := kd t 2) (by omega) (by omega)
  simp only [e, if_true, gk (i := 2) h2 (by omega), ho, evt, show ¬ (4 : Int) = 1 by decide, show ¬ (4 : Int) = 2 by decide, show ¬ (4 : Int) = 3 by decide, if_false]
 | fst h h' =>
  have e : bz t = 5 := by simp [bz, h, h']
  have h2 : opsOf t.k = (1 : Nat) := by rw [h]; rfl
  have v0 := vk (i := 0) h2 (by omega)
  have h3 : opsOf (kd t 0).k = (3 : Nat) := by rw [h']; rfl
  rw [fg h] at hcz ⊢
  have ho := eM (n := n) (t := kd (kd t 0) 1) (by omega) (by omega)
  simp only [e, if_true, gk (i := 0) h2 (by omega), cj (t := kd t 0) (i := 1) (by rw [bT v0 h3]; omega), ho, evt, show ¬ (5 : Int) = 1 by decide, show ¬ (5 : Int) = 2 by decide, show ¬ (5 : Int) = 3 by decide, show ¬ (5 : Int) = 4 by decide, if_false]
 | snd h h' =>
  have e : bz t = 6 := by simp [bz, h, h']
  have h2 : opsOf t.k = (1 : Nat) := by rw [h]; rfl
  have v0 := vk (i := 0) h2 (by omega)
  have h3 : opsOf (kd t 0).k = (3 : Nat) := by rw [h']; rfl
  rw [fj h] at hcz ⊢
  have ho := eM (n := n) (t := kd (kd t 0) 2) (by omega) (by omega)
  simp only [e, if_true, gk (i := 0) h2 (by omega), cj (t := kd t 0) (i := 2) (by rw [bT v0 h3]; omega), ho, evt, show ¬ (6 : Int) = 1 by decide, show ¬ (6 : Int) = 2 by decide, show ¬ (6 : Int) = 3 by decide, show ¬ (6 : Int) = 4 by decide, show ¬ (6 : Int) = 5 by decide, if_false]
theorem iM {n : Nat} (hn : 3000000 ≤ n) {t : T} (hv : ah t = true) (hr : Rx t) : FF n 157 [tm t] [] = some ([tm (ay t)], []) := by
 obtain ⟨n, rfl⟩ := af (show 0 < n by omega)
 rw [lG, kr (by omega) hv]
 have gk : ∀ {i c : Nat}, opsOf t.k = c → i < c → t.kids[i]? = some (kd t i) := fun h hi => cj (by rw [bT hv h]; exact hi)
 have vk : ∀ {i c : Nat}, opsOf t.k = c → i < c → ah (kd t i) = true := fun h hi => cf hv h hi
 have cp : ∀ {u : T}, ah u = true → FF n 90 [tm u] [] = some (ow u) := fun h => hJ _ (by have := ae h; omega) (by have := ae h; omega)
 simp only [evt, ax, Int.toNat_zero, Int.reduceToNat, Int.toNat_one]
 cases hr with
 | app h h' =>
  have e : bz t = 1 := by simp [bz, h, h']
  have h2 : opsOf t.k = (2 : Nat) := by rw [h]; rfl
  have v0 := vk (i := 0) h2 (by omega)
  have h3 : opsOf (kd t 0).k = (2 : Nat) := by rw [h']; rfl
  have v01 := cf v0 (i := 1) h3 (by omega)
  have v1 := vk (i := 1) h2 (by omega)
  have z1 := ae v01
  have z2 := ae v1
  have hs := uL (kd t 1) (gw v1) (by omega) (kd (kd t 0) 1) (n := n) (by omega) (gw v01) 0 0 (by omega) (by omega) (by omega) (by omega)
  simp only [e, if_true, gk (i := 0) h2 (by omega), gk (i := 1) h2 (by omega), cj (t := kd t 0) (i := 1) (by rw [bT v0 h3]; omega), hs, evt, fe h]
 | zero h h' =>
  have e : bz t = 2 := by simp [bz, h, h']
  have h2 : opsOf t.k = (4 : Nat) := by rw [h]; rfl
  rw [dE h h']
  simp only [e, if_true, gk (i := 1) h2 (by omega), cp (vk (i := 1) h2 (by omega)), evt, show ¬ (2 : Int) = 1 by decide, if_false]
 | succ h h' =>
  have e : bz t = 3 := by simp [bz, h, h']
  have h2 : opsOf t.k = (4 : Nat) := by rw [h]; rfl
  have v3 := vk (i := 3) h2 (by omega)
  have h3 : opsOf (kd t 3).k = (1 : Nat) := by rw [h']; rfl
  rw [dD h h']
  simp (disch := simp) only [e, if_true, gk (i := 0) h2 (by omega), gk (i := 1) h2 (by omega), gk (i := 2) h2 (by omega), gk (i := 3) h2 (by omega), cj (t := kd t 3) (i := 0) (by rw [bT v3 h3]; omega),
   cp (vk (i := 0) h2 (by omega)), cp (vk (i := 1) h2 (by omega)), cp (vk (i := 2) h2 (by omega)), cp (cf v3 (i := 0) h3 (by omega)), bE (show 1 ≤ n by omega), evt, show ¬ (3 : Int) = 1 by decide, show ¬ (3 : Int) = 2 by decide, if_false]
  rfl
 | move h h' =>
  have e : bz t = 4 := by simp [bz, h, h']
  have h2 : opsOf t.k = (3 : Nat) := by rw [h]; rfl
  rw [dp h]
  simp only [e, if_true, gk (i := 2) h2 (by omega), cp (vk (i := 2) h2 (by omega)), evt, show ¬ (4 : Int) = 1 by decide, show ¬ (4 : Int) = 2 by decide, show ¬ (4 : Int) = 3 by decide, if_false]
 | fst h h' =>
  have e : bz t = 5 := by simp [bz, h, h']
  have h2 : opsOf t.k = (1 : Nat) := by rw [h]; rfl
  have v0 := vk (i := 0) h2 (by omega)
  have h3 : opsOf (kd t 0).k = (3 : Nat) := by rw [h']; rfl
  rw [fg h]
  simp only [e, if_true, gk (i := 0) h2 (by omega), cj (t := kd t 0) (i := 1) (by rw [bT v0 h3]; omega), cp (cf v0 (i := 1) h3 (by omega)), evt, show ¬ (5 : Int) = 1 by decide, show ¬ (5 : Int) = 2 by decide, show ¬ (5 : Int) = 3 by decide, show ¬ (5 : Int) = 4 by decide, if_false]
 | snd h h' =>
  have e : bz t = 6 := by simp [bz, h, h']
  have h2 : opsOf t.k = (1 : Nat) := by rw [h]; rfl
  have v0 := vk (i := 0) h2 (by omega)
  have h3 : opsOf (kd t 0).k = (3 : Nat) := by rw [h']; rfl
  rw [fj h]
  simp only [e, if_true, gk (i := 0) h2 (by omega), cj (t := kd t 0) (i := 2) (by rw [bT v0 h3]; omega), cp (cf v0 (i := 2) h3 (by omega)), evt, show ¬ (6 : Int) = 1 by decide, show ¬ (6 : Int) = 2 by decide, show ¬ (6 : Int) = 3 by decide, show ¬ (6 : Int) = 4 by decide, show ¬ (6 : Int) = 5 by decide, if_false]
abbrev ins (w : List Nat) : List Int := w.map fun i : Nat => (i : Int)
theorem Bi {t : T} : (bz t = 0) ↔ ¬ Rx t := by rw [← nG]; simp
theorem xT (n : Nat) (ts : List T) (hl : ts.length ≤ 4000000) (h : ∀ t ∈ ts, FF n 62 [tm t] [] = some ([.one (.fr (.is (ins ((wyT false t).getD [])))), bl (wyT false t).isSome], []))
   (hz : ∀ t ∈ ts, ∀ w, wyT false t = some w → w.length ≤ 4000000) :
   ∀ g m (i : Nat), g < m → i + g = ts.length → eN n m ts ts.length i = some ([.one (.fr (.is (ins ((wyL false i (ts.drop i)).getD [])))), bl (wyL false i (ts.drop i)).isSome], [])
 | g, 0, i, hg, _ => by omega
 | 0, m + 1, i, _, hi => by
  rw [gL, List.drop_of_length_le (by omega)]
  simp only [ax, if_neg (show ¬ (i : Int) < ts.length by omega), wyL]; rfl
 | g + 1, m + 1, i, hg, hi => by
  have hlt : i < ts.length := by omega
  have hm := List.getElem_mem hlt
  rw [List.drop_eq_getElem_cons hlt, wyL]
  rw [gL]
  simp (disch := omega) only [ax, Int.toNat_natCast, gD, wrap64, if_pos (show (i : Int) < ts.length by omega), if_pos (show 0 ≤ (i : Int) by omega), List.getElem?_eq_getElem hlt, Option.bind_some]
  rw [h _ hm]
  simp only [evs]
  cases hs : wyT false ts[i] with
  | none =>
   simp only [Option.isSome_none, cond_false]
   exact xT n ts hl h hz g m (i + 1) (by omega) (by omega)
  | some w =>
   have := hz _ hm w hs
   simp only [Option.isSome_some, cond_true, Option.getD_some, aU (show ([(i : Int)] ++ ins w).length ≤ 1099511627776 by simp [ins]; omega)]
   rfl
mutual
theorem AW {inn : Bool} : ∀ {t : T} {w : List Nat}, wyT inn t = some w → w.length ≤ t.size
 | .mk k n ts, w, h => by
  rw [wyT] at h
  rw [T.size]
  split at h
  ·obtain rfl := Option.some.inj h; simp
  ·split at h
   ·rename_i w' hw
    obtain rfl := Option.some.inj h
    have := Bx hw; omega
   ·split at h
    ·obtain rfl := Option.some.inj h; simp
    ·cases h
theorem Bx {inn : Bool} : ∀ {ts : List T} {j : Nat} {w : List Nat}, wyL inn j ts = some w → w.length ≤ 1 + T.aE ts
 | [], j, w, h => by cases h
 | t :: ts, j, w, h => by
  rw [wyL] at h
  rw [T.aE]
  split at h
  ·rename_i v hv
   obtain rfl := Option.some.inj h
   have := AW hv
   simp only [List.length_cons]; omega
  ·have := Bx h; omega
end
theorem F8 (t : T) : ∀ {n : Nat}, t.size + 5 ≤ n → ah t = true → FF n 62 [tm t] [] = some ([.one (.fr (.is (ins ((wyT false t).getD [])))), bl (wyT false t).isSome], []) := by
 induction t using T.ind with | h t ih =>
 intro n hn hv
 have hsz := T.size_eq t
 have hz := ae hv
 have hl := T.br t.kids
 obtain ⟨n, rfl⟩ := af (show 0 < n by omega)
 have e : wyT false t = if Rx t then some [] else wyL false 0 t.kids := by
  cases t with | mk k n ts =>
  rw [wyT]
  simp only [true_and, T.kids]
  split
  ·rfl
  ·cases wyL false 0 ts <;> simp
 rw [uA, xy (by omega) hv, e]
 simp only [evs, iO, Bi]
 by_cases hr : Rx t
 ·simp [hr]
 ·simp only [hr, not_false_eq_true, if_true, if_false]
  have := xT n t.kids (by omega) (fun u hu => ih u hu (by have := T.aX hu; omega) (bF hv hu)) (fun u hu w hw => by have := AW hw; have := ae (bF hv hu); omega) t.kids.length n 0 (by omega) (by omega)
  simpa using this
end Go.Proofs.YtajlknlnmmbfcaaGreat
end
section
namespace Go.Proofs.YtajlknlnmmbfcaaGreat
open Go Go.Ab Go.Dk
theorem Ba {n : Nat} (hn : 1 ≤ n) (l : List T) (hl : l.length ≤ 4000000) : FF n 160 [tms l] [] = some ([.one (.own 0 0)], [.arr HN (.ts l) 0 false]) := by
 obtain ⟨n, rfl⟩ := af (show 0 < n by omega)
 rw [pj]
 simp (disch := omega) only [List.nil_append, aU, cond_true]
 cases l with
 | nil => exact Bk _
 | cons a l => rfl
theorem Dp (n : Nat) (w : List Nat) (l0 : List T) (hw : w.length ≤ 4000000) : ∀ g m (i : Nat) (t : T), g < m → i + g = w.length → AI t (w.drop i) → eO n m (ins w) (w.length : Int) i t.k t.n t.kids 0 0 l0 = some ([tm (atT t (w.drop i))], [])
 | g, 0, i, t, hg, _, _ => by omega
 | 0, m + 1, i, t, _, hi, _ => by
  rw [gN, List.drop_of_length_le (by omega)]
  simp only [ax, if_neg (show ¬ (i : Int) < w.length by omega), atT]
 | g + 1, m + 1, i, t, hg, hi, ho => by
  have hlt : i < w.length := by omega
  rw [List.drop_eq_getElem_cons hlt] at ho ⊢
  have hget : (ins w)[i]? = some ((w[i] : Nat) : Int) := by simp [ins, hlt]
  rw [gN]
  simp (disch := omega) only [ax, Int.toNat_natCast, gD, wrap64, if_pos (show (i : Int) < w.length by omega), if_pos (show 0 ≤ (i : Int) by omega), hget, Option.bind_some, if_pos (show 0 ≤ ((w[i] : Nat) : Int) by omega), cj ho.1]
  exact Dp n w l0 hw g m (i + 1) (kd t w[i]) (by omega) (by omega) ho.2
theorem Kw {n : Nat} {t : T} {w : List Nat} (hn : w.length + 2 ≤ n) (hw : w.length ≤ 4000000) (ho : AI t w) : FF n 150 [tm t, .one (.fr (.is (ins w)))] [] = some ([tm (atT t w)], []) := by
 obtain ⟨n, rfl⟩ := af (show 0 < n by omega)
 rw [C3]
 have := Dp n w [] hw w.length n 0 t (by omega) (by omega) ho
 simpa [ins] using this
theorem GH (u : T) : ∀ (w : List Nat) {n : Nat} {t : T}, w.length + 3 ≤ n → t.size ≤ 4000000 → w.length ≤ 4000000 → AI t w → FF n 151 [tm t, .one (.fr (.is (ins w))), tm u] [] = some ([tm (puT t w u)], [])
 | [], n, t, hn, hz, hw, _ => by
  obtain ⟨n, rfl⟩ := af (show 0 < n by omega)
  rw [qx]; rfl
 | i :: w, n, t, hn, hz, hw, ho => by
  obtain ⟨n, rfl⟩ := af (show 0 < n by omega)
  simp only [List.length_cons] at hn hw
  have hsz := T.size_eq t
  have hl := T.br t.kids
  have hk := T.aX (jG ho.1)
  have h1 := GH u w (n := n) (t := kd t i) (by omega) (by omega) (by omega) ho.2
  rw [qx, Ba (by omega) _ (by omega)]
  have hlen : ((ins (i :: w)).length : Int) = ((w.length + 1 : Nat) : Int) := by simp [ins]
  have hsl : ((ins (i :: w)).take (w.length + 1)).drop (1 : Int).toNat = ins w := by
   show (ins w).take w.length = ins w
   exact List.take_of_length_le (by simp [ins])
  have h0 : (ins (i :: w))[(0 : Int).toNat]? = some (i : Int) := rfl
  simp only [evt, ax, hsl, h0, hlen, if_neg (show ¬ ((w.length + 1 : Nat) : Int) = 0 by omega), if_pos (show 0 ≤ (i : Int) by omega), Int.toNat_natCast, cj ho.1, inB, decide_eq_true (show (0 : Int) ≤ 1 by omega), decide_eq_true (show (1 : Int) ≤ ((w.length + 1 : Nat) : Int) by omega), Int.le_refl, h1, if_pos (show (i : Int) < (t.kids.length : Int) by have := ho.1; omega)]
  rfl
theorem jb {t : T} (h : ah t = true) : okT t = t := if_pos h
theorem Cx {t : T} (h : ah t = false) : okT t = .mk 0 0 [] := if_neg (by simp [h])
theorem tH {n : Nat} (hn : 4000000 ≤ n) {t : T} (hv : ah t = true) {inn : Bool} {w : List Nat} (hw : wyT inn t = some w) {u : T} (hu : stT inn t = some u) :
   FF n 112 [tm t, .one (.fr (.is (ins w)))] [] = some ([tm (okT u), bl (ah u)], []) := by
 obtain ⟨ho, hr, hs⟩ := n6 hw
 rw [hs] at hu
 obtain rfl := Option.some.inj hu
 have hz := ae hv
 have hwl := AW hw
 have va := mR ho hv
 have hcz := jq va hr
 obtain ⟨n, rfl⟩ := af (show 0 < n by omega)
 rw [gJ]
 simp only [evt, Kw (n := n) (by omega) (by omega) ho, qm (n := n) (by omega) va hr]
 cases hc : ah (ay (atT t w)) with
 | false =>
  have : ah (puT t w (ay (atT t w))) = false := by
   cases hp : ah (puT t w (ay (atT t w))) with
   | false => rfl
   | true => rw [oL ho hp] at hc; cases hc
  simp only [Bool.not_false, cond_true, this, Cx this]; rfl
 | true =>
  have hp := mY (u := ay (atT t w)) ho
  have hov := eM (n := n) (t := puT t w (ay (atT t w))) (by omega) (by omega)
  simp only [Bool.not_true, cond_false, jb hc, GH (ay (atT t w)) w (n := n) (by omega) (by omega) (by omega) ho, evt, hov]
theorem xt {inn : Bool} {t : T} : wyT inn t = none ↔ stT inn t = none := by
 constructor
 ·exact sv
 ·intro h
  cases hw : wyT inn t with
  | none => rfl
  | some w => rw [(n6 hw).2.2] at h; cases h
theorem yH (n : Nat) (hn : 5000000 ≤ n) (fuel : Nat) (hf : fuel ≤ 200) (l0 : List T) : ∀ g m (s : Nat) (t : T), g < m → s + g = fuel → ah t = true →
   bo n m (fuel : Int) s t.k t.n t.kids 0 0 l0 = some ([tm (gg false g s t).1, nt ((gg false g s t).2.1 : Int), nt (gg false g s t).2.2], [])
 | g, 0, s, t, hg, _, _ => by omega
 | g, m + 1, s, t, hg, hs, hv => by
  have hz := ae hv
  rw [ez, F8 t (n := n) (by omega) hv]
  simp only [evs]
  cases hw : wyT false t with
  | none =>
   have h0 := xt.1 hw
   have : gg false g s t = (t, s, 0) := by cases g <;> rw [gg, h0]
   rw [this]
   simp only [Option.isSome_none, Bool.not_false, cond_true, EL t (n := n) (by omega) (by omega), evt]
  | some w =>
   have hst := (n6 hw).2.2
   simp only [Option.isSome_some, Option.getD_some, Bool.not_true, cond_false, ax]
   cases g with
   | zero =>
    rw [if_pos (by omega), gg, hst]; rfl
   | succ g =>
    rw [if_neg (by omega), tH (n := n) (by omega) hv hw hst, gg, hst]
    simp only [evt]
    cases hc : ah (puT t w (ay (atT t w))) with
    | false => rfl
    | true =>
     simp (disch := omega) only [jb hc, Bool.not_true, cond_false, if_true, wrap64, gD]
     exact yH n hn fuel hf l0 g m (s + 1) _ (by omega) (by omega) hc
def D9 (inn : Bool) (t : T) (fuel : Int) : T × Nat × Int := if ah t = true ∧ 0 ≤ fuel ∧ fuel ≤ 200 then gg inn fuel.toNat 0 t else (.mk 0 0 [], 0, 3)
theorem pq {n : Nat} {t : T} {fuel : Int} (hn : 6000000 + t.size ≤ n) : FF n 76 [tm t, nt fuel, .one (.fn 62 [])] [] = some ([tm (D9 false t fuel).1, nt ((D9 false t fuel).2.1 : Int), nt (D9 false t fuel).2.2], []) := by
 obtain ⟨n, rfl⟩ := af (show 0 < n by omega)
 rw [gO, bX (by omega)]
 simp only [evs]
 unfold D9
 cases hv : ah t with
 | false => simp [cP, cQ, az]
 | true =>
  simp (disch := omega) only [Bool.not_true, cond_false, ia, evs, true_and]
  by_cases hf : 0 ≤ fuel ∧ fuel ≤ 200
  ·obtain ⟨f, rfl⟩ : ∃ f : Nat, fuel = f := ⟨fuel.toNat, by omega⟩
   rw [if_pos hf, decide_eq_true hf.1, decide_eq_true hf.2, Int.toNat_natCast]
   simp only [Bool.and_self, Bool.not_true, cond_false]
   exact yH n (by omega) f (by omega) [] f n 0 t (by omega) (by omega) hv
  ·rw [if_neg hf]
   have : (decide (0 ≤ fuel) && decide (fuel ≤ 200)) = false := by
    rw [← Bool.not_eq_true, Bool.and_eq_true, decide_eq_true_eq, decide_eq_true_eq]; exact hf
   rw [this]; rfl
theorem nw {n : Nat} {t : T} {fuel : Int} (hn : 6000001 + t.size ≤ n) : FF n 41 [tm t, nt fuel] [] = some ([tm (D9 false t fuel).1, nt (D9 false t fuel).2.2], []) := by
 obtain ⟨n, rfl⟩ := af (show 0 < n by omega)
 rw [mK, pq (by omega)]
 simp only [evt]
theorem ou (n : Nat) (ts : List T) (j : Nat) (u : T) (k0 n0 : Int) (z1 z2 : Int) (l : List T) (k1 n1 : Int) (hl : ts.length ≤ 4000000) (h : ∀ t ∈ ts, FF n 90 [tm t] [] = some (ow t)) :
   ∀ g m (i : Nat), g < m → i + g = ts.length → bP n m (j : Int) i k0 n0 ts u.k u.n u.kids z1 z2 l k1 n1 ((ts.set j u).take i) = some ([tm (.mk k1 n1 (ts.set j u))], [])
 | g, 0, i, hg, _ => by omega
 | 0, m + 1, i, _, hi => by
  rw [dU]
  simp only [ax, if_neg (show ¬ (i : Int) < ts.length by omega), List.take_of_length_le (show (ts.set j u).length ≤ i by rw [List.length_set]; omega)]; rfl
 | g + 1, m + 1, i, hg, hi => by
  have hlt : i < ts.length := by omega
  have hlt2 : i < (ts.set j u).length := by rw [List.length_set]; exact hlt
  have ht : ((ts.set j u).take i).length = i := by rw [List.length_take]; omega
  have ht1 : ((ts.set j u).take (i + 1)).length = i + 1 := by rw [List.length_take]; omega
  rw [dU]
  by_cases hj : i = j
  ·have he : (ts.set j u)[i]'hlt2 = u := by subst hj; simp
   have := eV hlt2
   rw [he] at this
   simp (disch := omega) only [ax, if_pos (show (i : Int) < ts.length by omega), if_pos (show (i : Int) = j by omega), List.length_append, List.length_cons, List.length_nil, ht, ht1, aU, cond_true, T.eta, this, wrap64, gD]
   exact ou n ts j u k0 n0 z1 z2 l k1 n1 hl h g m (i + 1) (by omega) (by omega)
  ·have he : (ts.set j u)[i]'hlt2 = ts[i] := by rw [List.getElem_set_ne (fun e => hj e.symm)]
   have := eV hlt2
   rw [he] at this
   simp (disch := omega) only [ax, if_pos (show (i : Int) < ts.length by omega), if_neg (show ¬ (i : Int) = j by omega), if_pos (show 0 ≤ (i : Int) by omega), Int.toNat_natCast, List.getElem?_eq_getElem hlt, h _ (List.getElem_mem hlt), evt, List.length_append, List.length_cons, List.length_nil, ht, ht1, aU, this, wrap64, gD]
   exact ou n ts j u k0 n0 z1 z2 l k1 n1 hl h g m (i + 1) (by omega) (by omega)
theorem sr {n : Nat} {t u : T} {j : Nat} (hn : t.size + 6 ≤ n) (hz : t.size ≤ 4000000) : FF n 91 [tm t, nt (j : Int), tm u] [] = some ([tm (.mk t.k t.n (t.kids.set j u))], []) := by
 obtain ⟨n, rfl⟩ := af (show 0 < n by omega)
 have hsz := T.size_eq t
 have hl := T.br t.kids
 rw [sM]
 have := ou n t.kids j u t.k t.n 0 0 [] t.k t.n (by omega) (fun v hv => hJ v (by have := T.aX hv; omega) (by have := T.aX hv; omega)) t.kids.length n 0 (by omega) (by omega)
 simpa using this
theorem Ew {inn : Bool} {t u : T} (hv : ah t = true) (h : stT inn t = some u) : u.size ≤ 400 + 160000 := by
 cases hw : wyT inn t with
 | none => rw [sv hw] at h; cases h
 | some w =>
  obtain ⟨ho, hr, hs⟩ := n6 hw
  rw [hs] at h
  obtain rfl := Option.some.inj h
  have h1 := mY (u := ay (atT t w)) ho
  have h2 := jq (mR ho hv) hr
  have h3 := ae hv
  omega
def stR (inn : Bool) (t : T) : T × Bool := match stT inn t with | some u => (u, true) | none => (t, false)
theorem xV (n : Nat) (hn : 3000000 ≤ n) (inn : Bool) (t : T) (hv : ah t = true) (ts : List T) (hts : t.kids = ts) (hr0 : inn = true ∨ ¬ Rx t) (l0 : List T)
   (h : ∀ u ∈ ts, FF n 117 [tm u, bl inn] [] = some ([tm (stR inn u).1, bl (stR inn u).2], [])) :
   ∀ g m (i : Nat), g < m → i + g = ts.length → stL inn (ts.take i) = none → bL n m inn i t.k t.n ts 0 0 l0 = some ([tm (stR inn t).1, bl (stR inn t).2], [])
 | g, 0, i, hg, _, _ => by omega
 | 0, m + 1, i, _, hi, hno => by
  rw [List.take_of_length_le (by omega)] at hno
  have e : stT inn t = if inn = true ∧ Rx t then some (ay t) else none := by
   cases t with | mk k n ts' =>
   have : ts' = ts := hts
   subst this
   rw [stT, hno]
   rcases hr0 with h1 | h1
   ·rw [if_neg (by simp [h1])]
   ·rw [if_neg (fun hh => h1 hh.2)]
  rw [eU]
  simp only [ax, if_neg (show ¬ (i : Int) < ts.length by omega)]
  unfold stR
  rw [e, ← hts]
  cases inn with
  | false => simp
  | true =>
   simp only [cond_true, true_and, kr (show 1 ≤ n by omega) hv, evs, iO, Bi]
   by_cases hr : Rx t
   ·simp only [hr, not_true_eq_false, if_false, if_true, iM hn hv hr, evt]
   ·simp only [hr, not_false_eq_true, if_true, if_false]
 | g + 1, m + 1, i, hg, hi, hno => by
  have hlt : i < ts.length := by omega
  have hm := List.getElem_mem hlt
  have hz := ae hv
  have hsz := T.size_eq t
  have hl := T.br t.kids
  rw [hts] at hsz hl
  have hap : ∀ (l : List T) (x : T) (r : List T), stL inn l = none → stL inn (l ++ x :: r) = (stL inn (x :: r)).map (l ++ ·) := by
   intro l x r
   induction l with
   | nil => intro _; simp
   | cons a l ih =>
    intro h
    rw [stL] at h
    rw [List.cons_append, stL]
    cases ha : stT inn a with
    | some v => rw [ha] at h; cases h
    | none =>
     rw [ha] at h
     simp only [Option.map_eq_none_iff] at h
     simp only
     rw [ih h, Option.map_map]; rfl
  rw [eU]
  simp (disch := omega) only [ax, Int.toNat_natCast, gD, wrap64, if_pos (show (i : Int) < ts.length by omega), if_pos (show 0 ≤ (i : Int) by omega), List.getElem?_eq_getElem hlt, Option.bind_some]
  rw [h _ hm]
  simp only [evt]
  cases hs : stT inn ts[i] with
  | none =>
   simp only [stR, hs, cond_false]
   refine xV n hn inn t hv ts hts hr0 l0 h g m (i + 1) (by omega) (by omega) ?_
   rw [← eV hlt, hap _ _ _ hno, stL, hs]; rfl
  | some v =>
   have hst : stT inn t = some (.mk t.k t.n (ts.set i v)) := by
    have hsl : stL inn ts = some (ts.set i v) := by
     conv => lhs; rw [← List.take_append_drop i ts, List.drop_eq_getElem_cons hlt]
     rw [hap _ _ _ hno, stL, hs]
     simp only [Option.map_some, Option.some.injEq]
     rw [List.set_eq_take_append_cons_drop, if_pos hlt]
    cases t with | mk k n ts' =>
    have : ts' = ts := hts
    subst this
    rw [stT, hsl]
    rcases hr0 with h1 | h1
    ·rw [if_neg (by simp [h1])]; rfl
    ·rw [if_neg (fun hh => h1 hh.2)]; rfl
   have hw := sr (n := n) (t := t) (u := v) (j := i) (by omega) (by omega)
   simp only [tm, cP, cQ, az, hts] at hw
   simp only [stR, hs, hst, cond_true]
   rw [hw]
   simp only [evt]
   rfl
theorem DK (inn : Bool) (t : T) : ∀ {n : Nat}, 4000000 + t.size ≤ n → ah t = true → FF n 117 [tm t, bl inn] [] = some ([tm (stR inn t).1, bl (stR inn t).2], []) := by
 induction t using T.ind with | h t ih =>
 intro n hn hv
 have hsz := T.size_eq t
 have hl := T.br t.kids
 obtain ⟨n, rfl⟩ := af (show 0 < n by omega)
 have key : (inn = true ∨ ¬ Rx t) → bL n n inn 0 t.k t.n t.kids 0 0 [] = some ([tm (stR inn t).1, bl (stR inn t).2], []) := fun h0 =>
  xV n (by omega) inn t hv t.kids rfl h0 [] (fun u hu => ih u hu (by have := T.aX hu; omega) (bF hv hu)) t.kids.length n 0 (by omega) (by omega) (by simp [stL])
 rw [qL]
 cases inn with
 | true => simp only [Bool.not_true, cond_false, key (.inl rfl)]
 | false =>
  simp only [Bool.not_false, cond_true, kr (show 1 ≤ n by omega) hv, evs, iO, Bi]
  by_cases hr : Rx t
  ·have e : stT false t = some (ay t) := by
     cases t with | mk k n ts =>
     rw [stT, if_pos ⟨rfl, hr⟩]
   simp only [hr, not_true_eq_false, if_false, iM (show 3000000 ≤ n by omega) hv hr, evt, stR, e]
  ·simp only [hr, not_false_eq_true, if_true, key (.inr hr)]
theorem Ge {n : Nat} {t : T} {inn : Bool} (hn : 4000500 + t.size ≤ n) (hv : ah t = true) : FF n 92 [tm t, bl inn] [] = some ([tm (JD inn t).1, nt (JD inn t).2], []) := by
 obtain ⟨n, rfl⟩ := af (show 0 < n by omega)
 have hz := ae hv
 rw [s9, DK inn t (by omega) hv]
 simp only [evt]
 unfold JD stR
 cases hs : stT inn t with
 | none =>
  have hc := hJ t (n := n) (by omega) (by omega)
  simp only [Bool.not_false, cond_true, hc, evt]
 | some u =>
  have hu := Ew hv hs
  simp only [Bool.not_true, cond_false, aL (n := n) (t := u) (by omega) (by omega), evt]
  cases ah u <;> rfl
theorem tJ (n : Nat) (hn : 5000000 ≤ n) (inn : Bool) (l0 : List T) : ∀ g m (t : T) (s : Nat), g < m → g ≤ 200 → ah t = true →
   cL n m (g : Int) inn t.k t.n t.kids 0 0 l0 = some ([tm (gg inn g s t).1, nt (gg inn g s t).2.2], [])
 | g, 0, t, s, hg, _, _ => by omega
 | g, m + 1, t, s, hg, hf, hv => by
  have hz := ae hv
  rw [iT, Ge (n := n) (by omega) hv]
  simp only [evt, ax]
  unfold JD
  cases hs : stT inn t with
  | none => cases g <;> simp [gg, hs]
  | some u =>
   cases g with
   | zero =>
    rw [gg, hs]
    cases hu : ah u <;> simp [hu, mQ, cP, cQ, az]
   | succ g =>
    rw [gg, hs]
    cases hu : ah u with
    | false => simp [hu, mQ, cP, cQ, az, show ¬ ((g : Int) + 1 < 1) by omega]
    | true =>
     have w : IntKind.i64.wrap (((g + 1 : Nat) : Int) - 1) = (g : Int) := by rw [wrap64 (by omega)]; omega
     simp only [hu, if_true, show ¬ (1 : Int) = 0 by decide, show ¬ (1 : Int) = 2 by decide, if_false, if_neg (show ¬ ((g + 1 : Nat) : Int) < 1 by omega), w]
     exact tJ n hn inn l0 g m u (s + 1) (by omega) (by omega) hu
theorem yi {n : Nat} {t : T} {inn : Bool} {g : Nat} (hn : 5000001 ≤ n) (hg : g ≤ 200) (hv : ah t = true) : FF n 51 [tm t, nt (g : Int), bl inn] [] = some ([tm (gg inn g 0 t).1, nt (gg inn g 0 t).2.2], []) := by
 obtain ⟨n, rfl⟩ := af (show 0 < n by omega)
 rw [rL]
 exact tJ n (by omega) inn [] g n t 0 (by omega) hg hv
end Go.Proofs.YtajlknlnmmbfcaaGreat
end
section
namespace Go.Proofs.YtajlknlnmmbfcaaGreat
open Go Go.Dk
def g7 (a b : T) (f : Nat) : Int :=
 if T.beq a b then 1
 else if (gg false f 0 a).2.2 ≠ 0 ∨ (gg false f 0 b).2.2 ≠ 0 then 3
 else if T.beq (gg false f 0 a).1 (gg false f 0 b).1 then 1 else 2
def qO (a b : T) (f : Int) : Int := if ah a = true ∧ ah b = true ∧ 0 ≤ f ∧ f ≤ 200 then g7 a b f.toNat else 0
theorem oQ {a b : T} {f : Int} (h : ah a = true ∧ ah b = true ∧ 0 ≤ f ∧ f ≤ 200) : qO a b f = g7 a b f.toNat := if_pos h
theorem kC {inn : Bool} : ∀ (g s : Nat) (t : T), (gg inn g s t).2.2 = 0 → Red t (gg inn g s t).1 ∧ nfB (gg inn g s t).1 = true
 | 0, s, t, h => by
  rw [gg] at h ⊢
  cases hs : stT inn t with
  | none => exact ⟨.refl, wN.1 hs⟩
  | some u => rw [hs] at h; cases h
 | g + 1, s, t, h => by
  rw [gg] at h ⊢
  cases hs : stT inn t with
  | none => exact ⟨.refl, wN.1 hs⟩
  | some u =>
   rw [hs] at h
   simp only at h ⊢
   cases hu : ah u with
   | false => rw [hu] at h; cases h
   | true =>
    rw [hu] at h
    simp only [if_true] at h ⊢
    obtain ⟨h1, h2⟩ := kC g (s + 1) u h
    exact ⟨.step (FQ hs) h1, h2⟩
theorem BP {a b : T} {f : Nat} (h : g7 a b f = 2) : (gg false f 0 a).2.2 = 0 ∧ (gg false f 0 b).2.2 = 0 ∧ (gg false f 0 a).1 ≠ (gg false f 0 b).1 := by
 unfold g7 at h
 split at h
 ·cases h
 ·split at h
  ·cases h
  ·rename_i hh
   split at h
   ·cases h
   ·rename_i hb
    exact ⟨Classical.byContradiction fun h => hh (.inl h), Classical.byContradiction fun h => hh (.inr h), fun e => hb ((T.beq_iff _ _).2 e)⟩
end Go.Proofs.YtajlknlnmmbfcaaGreat
end
section
namespace Go.Proofs.YtajlknlnmmbfcaaGreat
open Go Go.Ab Go.Dk
theorem uM {inn : Bool} {g s : Nat} {t : T} (hv : ah t = true) : (gg inn g s t).1.size ≤ 400 := by
 induction g generalizing s t with
 | zero =>
  rw [gg]
  cases stT inn t with
  | none => exact ae hv
  | some u => simp [mQ, T.size, T.aE]
 | succ g ih =>
  rw [gg]
  cases stT inn t with
  | none => exact ae hv
  | some u =>
   simp only
   cases hu : ah u with
   | false => simp [mQ, T.size, T.aE]
   | true => exact ih hu
theorem AK {inn : Bool} {t : T} {f : Int} (h : ah t = true ∧ 0 ≤ f ∧ f ≤ 200) : D9 inn t f = gg inn f.toNat 0 t := if_pos h
theorem iu {n : Nat} {a b : T} {f : Int} (hn : 7000000 ≤ n) (ha : a.size ≤ 100000) (hb : b.size ≤ 100000) : FF n 26 [tm a, tm b, nt f] [] = some ([nt (qO a b f)], []) := by
 obtain ⟨n, rfl⟩ := af (show 0 < n by omega)
 rw [kq, bX (by omega), bX (by omega), ia (by omega), pY a (by omega) (by omega), nw (by omega), nw (by omega)]
 simp only [evt]
 by_cases h : ah a = true ∧ ah b = true ∧ 0 ≤ f ∧ f ≤ 200
 ·have e : (decide (0 ≤ f) && decide (f ≤ 200)) = true := by simp [h.2.2]
  have ra : D9 false a f = gg false f.toNat 0 a := AK ⟨h.1, h.2.2⟩
  have rb : D9 false b f = gg false f.toNat 0 b := AK ⟨h.2.1, h.2.2⟩
  have hz := uM (inn := false) (g := f.toNat) (s := 0) h.1
  rw [oQ h]
  simp only [h.1, h.2.1, e, Bool.not_true, cond_false, ra, rb, iO]
  unfold g7
  cases hs : T.beq a b with
  | true => rfl
  | false =>
   simp only [cond_false]
   rw [pY _ (by omega) (by omega)]
   simp only [evt]
   by_cases c1 : (gg false f.toNat 0 a).2.2 = 0
   ·by_cases c2 : (gg false f.toNat 0 b).2.2 = 0
    ·cases hb2 : T.beq (gg false f.toNat 0 a).1 (gg false f.toNat 0 b).1 <;> simp [c1, c2]
    ·simp [c1, c2]
   ·simp [c1]
 ·rw [show qO a b f = 0 from if_neg h]
  cases h1 : ah a with
  | false => simp
  | true =>
   cases h2 : ah b with
   | false => simp
   | true =>
    have e : (decide (0 ≤ f) && decide (f ≤ 200)) = false := by
     rw [← Bool.not_eq_true, Bool.and_eq_true, decide_eq_true_eq, decide_eq_true_eq]; exact fun hh => h ⟨h1, h2, hh⟩
    simp [e]
theorem Eg {n : Nat} {a b : T} {g : Nat} (hn : 6000000 ≤ n) (ha : ah a = true) (hb : ah b = true) (hg : g ≤ 200) : FF n 153 [tm a, tm b, nt (g : Int)] [] = some ([nt (g7 a b g)], []) := by
 obtain ⟨n, rfl⟩ := af (show 0 < n by omega)
 have za := ae ha
 have zb := ae hb
 have hz := uM (inn := false) (g := g) (s := 0) ha
 rw [su, ni a (by omega) (by omega), yi (by omega) hg ha, yi (by omega) hg hb]
 simp only [evt, iO]
 unfold g7
 cases hs : T.beq a b with
 | true => rfl
 | false =>
  simp only [cond_false]
  rw [ni _ (by omega) (by omega)]
  simp only [evt]
  by_cases c1 : (gg false g 0 a).2.2 = 0
  ·by_cases c2 : (gg false g 0 b).2.2 = 0
   ·cases hb2 : T.beq (gg false g 0 a).1 (gg false g 0 b).1 <;> simp [c1, c2]
   ·simp [c1, c2]
  ·simp [c1]
theorem sD {f : FuncId} {args : List V1} {C : Nat} (h : ∀ n, C ≤ n → Tot (FF n f args []) (fun r => r = ([bl true], []))) : Ev f args [] ([bl true], []) :=
 ⟨C, fun n hn => by obtain ⟨r, h1, rfl⟩ := h n hn; exact h1⟩
end Go.Proofs.YtajlknlnmmbfcaaGreat
end
section
namespace Go.Proofs.YtajlknlnmmbfcaaGreat
inductive Tm where
 | var (n : Nat) | sort (n : Nat) | pi (a b : Tm) | lam (a b : Tm) | app (f a : Tm)
 | nat | zero | succ (n : Tm) | elim (p z s n : Tm) | id (t a b : Tm) | refl (a : Tm)
 | move (p e x : Tm) | sig (a b : Tm) | pair (s a b : Tm) | fst (q : Tm) | snd (q : Tm)
namespace Tm
def up (ξ : Nat → Nat) : Nat → Nat
 | 0 => 0
 | n + 1 => ξ n + 1
def ren : Tm → (Nat → Nat) → Tm
 | var n, ξ => var (ξ n)
 | sort n, _ => sort n
 | pi a b, ξ => pi (a.ren ξ) (b.ren (up ξ))
 | lam a b, ξ => lam (a.ren ξ) (b.ren (up ξ))
 | app f a, ξ => app (f.ren ξ) (a.ren ξ)
 | nat, _ => nat
 | zero, _ => zero
 | succ n, ξ => succ (n.ren ξ)
 | elim p z s n, ξ => elim (p.ren ξ) (z.ren ξ) (s.ren ξ) (n.ren ξ)
 | id t a b, ξ => id (t.ren ξ) (a.ren ξ) (b.ren ξ)
 | refl a, ξ => refl (a.ren ξ)
 | move p e x, ξ => move (p.ren ξ) (e.ren ξ) (x.ren ξ)
 | sig a b, ξ => sig (a.ren ξ) (b.ren (up ξ))
 | pair s a b, ξ => pair (s.ren ξ) (a.ren ξ) (b.ren ξ)
 | fst q, ξ => fst (q.ren ξ)
 | snd q, ξ => snd (q.ren ξ)
def wk (t : Tm) : Tm := t.ren (· + 1)
def ups (σ : Nat → Tm) : Nat → Tm
 | 0 => var 0
 | n + 1 => (σ n).wk
def sub : Tm → (Nat → Tm) → Tm
 | var n, σ => σ n
 | sort n, _ => sort n
 | pi a b, σ => pi (a.sub σ) (b.sub (ups σ))
 | lam a b, σ => lam (a.sub σ) (b.sub (ups σ))
 | app f a, σ => app (f.sub σ) (a.sub σ)
 | nat, _ => nat
 | zero, _ => zero
 | succ n, σ => succ (n.sub σ)
 | elim p z s n, σ => elim (p.sub σ) (z.sub σ) (s.sub σ) (n.sub σ)
 | id t a b, σ => id (t.sub σ) (a.sub σ) (b.sub σ)
 | refl a, σ => refl (a.sub σ)
 | move p e x, σ => move (p.sub σ) (e.sub σ) (x.sub σ)
 | sig a b, σ => sig (a.sub σ) (b.sub (ups σ))
 | pair s a b, σ => pair (s.sub σ) (a.sub σ) (b.sub σ)
 | fst q, σ => fst (q.sub σ)
 | snd q, σ => snd (q.sub σ)
def sc (u : Tm) (σ : Nat → Tm) : Nat → Tm
 | 0 => u
 | n + 1 => σ n
def inst (b u : Tm) : Tm := b.sub (sc u var)
theorem Kk : up (fun n => n) = fun n => n := by funext n; cases n <;> rfl
theorem Hb (ξ ζ : Nat → Nat) : (fun n => up ζ (up ξ n)) = up (fun n => ζ (ξ n)) := by funext n; cases n <;> rfl
theorem ga (t : Tm) : ∀ ξ ζ, (t.ren ξ).ren ζ = t.ren (fun n => ζ (ξ n)) := by
 induction t <;> intro ξ ζ <;> simp_all [ren, Hb]
theorem me (t : Tm) : t.ren (fun n => n) = t := by
 induction t <;> simp_all [ren, Kk]
theorem CG : ups var = var := by funext n; cases n <;> rfl
theorem bY (t : Tm) : t.sub var = t := by
 induction t <;> simp_all [sub, CG]
theorem Jd (ξ : Nat → Nat) (σ : Nat → Tm) : (fun n => ups σ (up ξ n)) = ups (fun n => σ (ξ n)) := by funext n; cases n <;> rfl
theorem n7 (t : Tm) : ∀ ξ σ, (t.ren ξ).sub σ = t.sub (fun n => σ (ξ n)) := by
 induction t <;> intro ξ σ <;> simp_all [ren, sub, Jd]
theorem G4 (σ : Nat → Tm) (ξ : Nat → Nat) : (fun n => (ups σ n).ren (up ξ)) = ups (fun n => (σ n).ren ξ) := by
 funext n; cases n with
 | zero => rfl
 | succ n => simp only [ups, wk, ga]; rfl
theorem wG (t : Tm) : ∀ σ ξ, (t.sub σ).ren ξ = t.sub (fun n => (σ n).ren ξ) := by
 induction t <;> intro σ ξ <;> simp_all [ren, sub, G4]
theorem wX (σ τ : Nat → Tm) : (fun n => (ups σ n).sub (ups τ)) = ups (fun n => (σ n).sub τ) := by
 funext n; cases n with
 | zero => rfl
 | succ n => simp only [ups, wk, n7, wG]
theorem sub_sub (t : Tm) : ∀ σ τ, (t.sub σ).sub τ = t.sub (fun n => (σ n).sub τ) := by
 induction t <;> intro σ τ <;> simp_all [sub, wX]
theorem zU (ξ : Nat → Nat) : ups (fun n => var (ξ n)) = fun n => var (up ξ n) := by funext n; cases n <;> rfl
theorem IM (t : Tm) : ∀ ξ, t.ren ξ = t.sub (fun n => var (ξ n)) := by
 induction t <;> intro ξ <;> simp_all [ren, sub, zU]
theorem gh (t u : Tm) (σ : Nat → Tm) : t.wk.sub (sc u σ) = t.sub σ := by rw [wk, n7]; rfl
theorem C9 (t u : Tm) : t.wk.inst u = t := by rw [inst, gh, bY]
theorem tN (t : Tm) (σ : Nat → Tm) : t.wk.sub (ups σ) = (t.sub σ).wk := by rw [wk, n7, wk, wG]; rfl
theorem Cs (t : Tm) (ξ : Nat → Nat) : t.wk.ren (up ξ) = (t.ren ξ).wk := by rw [wk, wk, ga, ga]; rfl
theorem cB (b u : Tm) (σ : Nat → Tm) : (b.inst u).sub σ = (b.sub (ups σ)).inst (u.sub σ) := by
 rw [inst, inst, sub_sub, sub_sub]; congr 1; funext n; cases n with
 | zero => rfl
 | succ n => simp only [ups, gh, bY]; rfl
theorem fC (b u : Tm) (ξ : Nat → Nat) : (b.inst u).ren ξ = (b.ren (up ξ)).inst (u.ren ξ) := by
 rw [inst, inst, wG, n7]; congr 1; funext n; cases n <;> rfl
theorem mT (b u : Tm) (σ : Nat → Tm) : (b.sub (ups σ)).inst u = b.sub (sc u σ) := by
 rw [inst, sub_sub]; congr 1; funext n; cases n with
 | zero => rfl
 | succ n => simp only [ups, gh, bY]; rfl
inductive Par : Tm → Tm → Prop
 | var {n} : Par (var n) (var n)
 | sort {n} : Par (sort n) (sort n)
 | pi {a a' b b'} (h : Par a a') (k : Par b b') : Par (pi a b) (pi a' b')
 | lam {a a' b b'} (h : Par a a') (k : Par b b') : Par (lam a b) (lam a' b')
 | app {a a' b b'} (h : Par a a') (k : Par b b') : Par (app a b) (app a' b')
 | nat : Par nat nat
 | zero : Par zero zero
 | succ {a a'} (h : Par a a') : Par (succ a) (succ a')
 | elim {p p' z z' s s' n n'} (h : Par p p') (k : Par z z') (l : Par s s') (m : Par n n') : Par (elim p z s n) (elim p' z' s' n')
 | id {t t' a a' b b'} (h : Par t t') (k : Par a a') (l : Par b b') : Par (id t a b) (id t' a' b')
 | refl {a a'} (h : Par a a') : Par (refl a) (refl a')
 | move {t t' a a' b b'} (h : Par t t') (k : Par a a') (l : Par b b') : Par (move t a b) (move t' a' b')
 | sig {a a' b b'} (h : Par a a') (k : Par b b') : Par (sig a b) (sig a' b')
 | pair {t t' a a' b b'} (h : Par t t') (k : Par a a') (l : Par b b') : Par (pair t a b) (pair t' a' b')
 | fst {a a'} (h : Par a a') : Par (fst a) (fst a')
 | snd {a a'} (h : Par a a') : Par (snd a) (snd a')
 | beta {a b b' u u'} (h : Par b b') (k : Par u u') : Par (app (lam a b) u) (b'.inst u')
 | ezero {p z z' s} (h : Par z z') : Par (elim p z s zero) z'
 | esucc {p p' z z' s s' n n'} (h : Par p p') (k : Par z z') (l : Par s s') (m : Par n n') : Par (elim p z s (succ n)) (app (app s' n') (elim p' z' s' n'))
 | mrefl {p a x x'} (h : Par x x') : Par (move p (refl a) x) x'
 | fpair {t a a' b} (h : Par a a') : Par (fst (pair t a b)) a'
 | spair {t a b b'} (h : Par b b') : Par (snd (pair t a b)) b'
theorem Par.bq (t : Tm) : Par t t := by induction t <;> constructor <;> assumption
theorem Par.ren {t u : Tm} (h : Par t u) : ∀ ξ, Par (t.ren ξ) (u.ren ξ) := by
 induction h <;> intro ξ <;> simp only [Tm.ren, fC] <;> constructor <;> first | assumption | (rename_i a b; first | exact a _ | exact b _) | (rename_i a b c; first | exact a _ | exact b _ | exact c _) | (rename_i a b c d; first | exact a _ | exact b _ | exact c _ | exact d _)
theorem Par.sub {t u : Tm} (h : Par t u) : ∀ σ τ : Nat → Tm, (∀ n, Par (σ n) (τ n)) → Par (t.sub σ) (u.sub τ) := by
 have hu : ∀ σ τ : Nat → Tm, (∀ n, Par (σ n) (τ n)) → ∀ n, Par (ups σ n) (ups τ n) := by
  intro σ τ h n; cases n with
  | zero => exact .var
  | succ n => exact (h n).ren _
 induction h <;> intro σ τ hs <;> simp only [Tm.sub, cB] <;> first
  | exact hs _
  | (constructor <;> first | exact hs _ | (rename_i a b; first | exact a _ _ hs | exact a _ _ (hu _ _ hs) | exact b _ _ hs | exact b _ _ (hu _ _ hs)) | (rename_i a b c d; first | exact a _ _ hs | exact b _ _ hs | exact c _ _ hs | exact d _ _ hs))
def dev : Tm → Tm
 | var n => var n
 | sort n => sort n
 | pi a b => pi a.dev b.dev
 | lam a b => lam a.dev b.dev
 | app f u => match f with
  | lam _ b => b.dev.inst u.dev
  | f => app f.dev u.dev
 | nat => nat
 | zero => zero
 | succ n => succ n.dev
 | elim p z s n => match n with
  | zero => z.dev
  | succ m => app (app s.dev m.dev) (elim p.dev z.dev s.dev m.dev)
  | n => elim p.dev z.dev s.dev n.dev
 | id t a b => id t.dev a.dev b.dev
 | refl a => refl a.dev
 | move p e x => match e with
  | refl _ => x.dev
  | e => move p.dev e.dev x.dev
 | sig a b => sig a.dev b.dev
 | pair s a b => pair s.dev a.dev b.dev
 | fst q => match q with
  | pair _ a _ => a.dev
  | q => fst q.dev
 | snd q => match q with
  | pair _ _ b => b.dev
  | q => snd q.dev
theorem Par.inst {b b' u u' : Tm} (h : Par b b') (k : Par u u') : Par (b.inst u) (b'.inst u') :=
 h.sub _ _ fun n => by cases n with
  | zero => exact k
  | succ n => exact .var
theorem Par.tri {t u : Tm} (h : Par t u) : Par u t.dev := by
 induction h with
 | var => exact .var
 | sort => exact .sort
 | pi h k ih ik => exact .pi ih ik
 | lam h k ih ik => exact .lam ih ik
 | app h k ih ik =>
  rename_i a a' b b'
  cases a with
  | lam c d =>
   cases h with
   | lam h1 h2 => cases ih with
    | lam i1 i2 => exact .beta i2 ik
  | _ => exact .app ih ik
 | nat => exact .nat
 | zero => exact .zero
 | succ h ih => exact .succ ih
 | elim h k l m ih ik il im =>
  rename_i p p' z z' s s' n n'
  cases n with
  | zero => cases m; exact .ezero ik
  | succ m' => cases m with
   | succ m => cases im with
    | succ im => exact .esucc ih ik il im
  | _ => exact .elim ih ik il im
 | id h k l ih ik il => exact .id ih ik il
 | refl h ih => exact .refl ih
 | move h k l ih ik il =>
  rename_i p p' e e' x x'
  cases e with
  | refl a => cases k with
   | refl k => exact .mrefl il
  | _ => exact .move ih ik il
 | sig h k ih ik => exact .sig ih ik
 | pair h k l ih ik il => exact .pair ih ik il
 | fst h ih =>
  rename_i q q'
  cases q with
  | pair t a b => cases h with
   | pair h k l => cases ih with
    | pair ih ik il => exact .fpair ik
  | _ => exact .fst ih
 | snd h ih =>
  rename_i q q'
  cases q with
  | pair t a b => cases h with
   | pair h k l => cases ih with
    | pair ih ik il => exact .spair il
  | _ => exact .snd ih
 | beta h k ih ik => exact ih.inst ik
 | ezero h ih => exact ih
 | esucc h k l m ih ik il im => exact .app (.app il im) (.elim ih ik il im)
 | mrefl h ih => exact ih
 | fpair h ih => exact ih
 | spair h ih => exact ih
inductive Red : Tm → Tm → Prop
 | nil {t} : Red t t
 | cons {t u v} (h : Par t u) (hs : Red u v) : Red t v
theorem Par.red {t u : Tm} (h : Par t u) : Red t u := .cons h .nil
theorem Red.trans {t u v : Tm} (h : Red t u) (k : Red u v) : Red t v := by
 induction h with
 | nil => exact k
 | cons h _ ih => exact .cons h (ih k)
theorem Red.strip {t u v : Tm} (h : Par t u) (k : Red t v) : ∃ w, Red u w ∧ Par v w := by
 induction k generalizing u with
 | nil => exact ⟨u, .nil, h⟩
 | cons h1 _ ih =>
  obtain ⟨w, hw, hv⟩ := ih h1.tri
  exact ⟨w, .cons h.tri hw, hv⟩
theorem Red.A7 {t u v : Tm} (h : Red t u) (k : Red t v) : ∃ w, Red u w ∧ Red v w := by
 induction h generalizing v with
 | nil => exact ⟨v, k, .nil⟩
 | cons h1 _ ih =>
  obtain ⟨w, hw, hv⟩ := Red.strip h1 k
  obtain ⟨z, hz, hz'⟩ := ih hw
  exact ⟨z, hz, .cons hv hz'⟩
theorem Red.ren {t u : Tm} (h : Red t u) (ξ) : Red (t.ren ξ) (u.ren ξ) := by
 induction h with
 | nil => exact .nil
 | cons h _ ih => exact .cons (h.ren ξ) ih
theorem Red.sub {t u : Tm} (h : Red t u) (σ) : Red (t.sub σ) (u.sub σ) := by
 induction h with
 | nil => exact .nil
 | cons h _ ih => exact .cons (h.sub _ _ fun n => Par.bq _) ih
theorem Red.ctx {f : Tm → Tm} (hf : ∀ a b, Par a b → Par (f a) (f b)) {t u : Tm} (h : Red t u) : Red (f t) (f u) := by
 induction h with
 | nil => exact .nil
 | cons h _ ih => exact .cons (hf _ _ h) ih
theorem Red.Dx {f : Tm → Tm → Tm} (hf : ∀ a b c d, Par a b → Par c d → Par (f a c) (f b d)) {t u v w : Tm} (h : Red t u) (k : Red v w) : Red (f t v) (f u w) :=
 (Red.ctx (f := fun x => f x v) (fun a b h => hf _ _ _ _ h (Par.bq _)) h).trans (Red.ctx (f := fun x => f u x) (fun a b h => hf _ _ _ _ (Par.bq _) h) k)
theorem Red.pi {a a' b b' : Tm} (h : Red a a') (k : Red b b') : Red (Tm.pi a b) (Tm.pi a' b') := Red.Dx (fun _ _ _ _ h k => .pi h k) h k
theorem Red.lam {a a' b b' : Tm} (h : Red a a') (k : Red b b') : Red (Tm.lam a b) (Tm.lam a' b') := Red.Dx (fun _ _ _ _ h k => .lam h k) h k
theorem Red.sig {a a' b b' : Tm} (h : Red a a') (k : Red b b') : Red (Tm.sig a b) (Tm.sig a' b') := Red.Dx (fun _ _ _ _ h k => .sig h k) h k
theorem Red.app {a a' b b' : Tm} (h : Red a a') (k : Red b b') : Red (Tm.app a b) (Tm.app a' b') := Red.Dx (fun _ _ _ _ h k => .app h k) h k
theorem Red.succ {a a' : Tm} (h : Red a a') : Red (Tm.succ a) (Tm.succ a') := Red.ctx (fun _ _ h => .succ h) h
theorem Red.refl {a a' : Tm} (h : Red a a') : Red (Tm.refl a) (Tm.refl a') := Red.ctx (fun _ _ h => .refl h) h
theorem Red.fst {a a' : Tm} (h : Red a a') : Red (Tm.fst a) (Tm.fst a') := Red.ctx (fun _ _ h => .fst h) h
theorem Red.snd {a a' : Tm} (h : Red a a') : Red (Tm.snd a) (Tm.snd a') := Red.ctx (fun _ _ h => .snd h) h
theorem Red.id {t t' a a' b b' : Tm} (h : Red t t') (k : Red a a') (l : Red b b') : Red (Tm.id t a b) (Tm.id t' a' b') :=
 (Red.ctx (f := fun x => Tm.id x a b) (fun _ _ h => .id h (Par.bq _) (Par.bq _)) h).trans (Red.Dx (f := fun x y => Tm.id t' x y) (fun _ _ _ _ h k => .id (Par.bq _) h k) k l)
theorem Red.move {t t' a a' b b' : Tm} (h : Red t t') (k : Red a a') (l : Red b b') : Red (Tm.move t a b) (Tm.move t' a' b') :=
 (Red.ctx (f := fun x => Tm.move x a b) (fun _ _ h => .move h (Par.bq _) (Par.bq _)) h).trans (Red.Dx (f := fun x y => Tm.move t' x y) (fun _ _ _ _ h k => .move (Par.bq _) h k) k l)
theorem Red.pair {t t' a a' b b' : Tm} (h : Red t t') (k : Red a a') (l : Red b b') : Red (Tm.pair t a b) (Tm.pair t' a' b') :=
 (Red.ctx (f := fun x => Tm.pair x a b) (fun _ _ h => .pair h (Par.bq _) (Par.bq _)) h).trans (Red.Dx (f := fun x y => Tm.pair t' x y) (fun _ _ _ _ h k => .pair (Par.bq _) h k) k l)
theorem Red.elim {t t' a a' b b' n n' : Tm} (h : Red t t') (k : Red a a') (l : Red b b') (m : Red n n') : Red (Tm.elim t a b n) (Tm.elim t' a' b' n') :=
 (Red.Dx (f := fun x y => Tm.elim x y b n) (fun _ _ _ _ h k => .elim h k (Par.bq _) (Par.bq _)) h k).trans (Red.Dx (f := fun x y => Tm.elim t' a' x y) (fun _ _ _ _ h k => .elim (Par.bq _) (Par.bq _) h k) l m)
theorem Red.inst {b b' u u' : Tm} (h : Red b b') (k : Red u u') : Red (b.inst u) (b'.inst u') := Red.Dx (fun _ _ _ _ h k => h.inst k) h k
theorem Red.iz {a b t : Tm} (h : Red (Tm.pi a b) t) : ∃ a' b', t = Tm.pi a' b' ∧ Red a a' ∧ Red b b' := by
 generalize e : Tm.pi a b = x at h
 induction h generalizing a b with
 | nil => exact ⟨a, b, e.symm, .nil, .nil⟩
 | cons h _ ih => subst e; cases h with
  | pi h k => obtain ⟨a', b', rfl, h1, h2⟩ := ih rfl; exact ⟨a', b', rfl, .cons h h1, .cons k h2⟩
theorem Red.eY {a b t : Tm} (h : Red (Tm.sig a b) t) : ∃ a' b', t = Tm.sig a' b' ∧ Red a a' ∧ Red b b' := by
 generalize e : Tm.sig a b = x at h
 induction h generalizing a b with
 | nil => exact ⟨a, b, e.symm, .nil, .nil⟩
 | cons h _ ih => subst e; cases h with
  | sig h k => obtain ⟨a', b', rfl, h1, h2⟩ := ih rfl; exact ⟨a', b', rfl, .cons h h1, .cons k h2⟩
theorem Red.iZ {a b c t : Tm} (h : Red (Tm.id a b c) t) : ∃ a' b' c', t = Tm.id a' b' c' ∧ Red a a' ∧ Red b b' ∧ Red c c' := by
 generalize e : Tm.id a b c = x at h
 induction h generalizing a b c with
 | nil => exact ⟨a, b, c, e.symm, .nil, .nil, .nil⟩
 | cons h _ ih => subst e; cases h with
  | id h k l => obtain ⟨a', b', c', rfl, h1, h2, h3⟩ := ih rfl; exact ⟨a', b', c', rfl, .cons h h1, .cons k h2, .cons l h3⟩
theorem Red.dR {n : Nat} {t : Tm} (h : Red (Tm.sort n) t) : t = Tm.sort n := by
 generalize e : Tm.sort n = x at h
 induction h with
 | nil => rfl
 | cons h _ ih => subst e; cases h with
  | sort => exact ih rfl
theorem Red.Db {t : Tm} (h : Red Tm.nat t) : t = Tm.nat := by
 generalize e : Tm.nat = x at h
 induction h with
 | nil => rfl
 | cons h _ ih => subst e; cases h with
  | nat => exact ih rfl
def Conv (a b : Tm) : Prop := ∃ c, Red a c ∧ Red b c
theorem Conv.bq {a : Tm} : Conv a a := ⟨a, .nil, .nil⟩
theorem Red.conv {a b : Tm} (h : Red a b) : Conv a b := ⟨b, h, .nil⟩
theorem Par.conv {a b : Tm} (h : Par a b) : Conv a b := h.red.conv
theorem Conv.symm {a b : Tm} (h : Conv a b) : Conv b a := let ⟨c, h, k⟩ := h; ⟨c, k, h⟩
theorem Conv.trans {a b c : Tm} (h : Conv a b) (k : Conv b c) : Conv a c := by
 obtain ⟨x, h1, h2⟩ := h
 obtain ⟨y, k1, k2⟩ := k
 obtain ⟨z, z1, z2⟩ := Red.A7 h2 k1
 exact ⟨z, h1.trans z1, k2.trans z2⟩
theorem Conv.sub {a b : Tm} (h : Conv a b) (σ) : Conv (a.sub σ) (b.sub σ) := let ⟨c, h, k⟩ := h; ⟨_, h.sub σ, k.sub σ⟩
theorem Conv.ren {a b : Tm} (h : Conv a b) (σ) : Conv (a.ren σ) (b.ren σ) := let ⟨c, h, k⟩ := h; ⟨_, h.ren σ, k.ren σ⟩
theorem Conv.inst {b b' u u' : Tm} (h : Conv b b') (k : Conv u u') : Conv (b.inst u) (b'.inst u') := by
 obtain ⟨x, h1, h2⟩ := h
 obtain ⟨y, k1, k2⟩ := k
 exact ⟨_, h1.inst k1, h2.inst k2⟩
theorem Conv.pi {a a' b b' : Tm} (h : Conv a a') (k : Conv b b') : Conv (Tm.pi a b) (Tm.pi a' b') := by
 obtain ⟨x, h1, h2⟩ := h
 obtain ⟨y, k1, k2⟩ := k
 exact ⟨_, h1.pi k1, h2.pi k2⟩
theorem Conv.app {a a' b b' : Tm} (h : Conv a a') (k : Conv b b') : Conv (Tm.app a b) (Tm.app a' b') := by
 obtain ⟨x, h1, h2⟩ := h
 obtain ⟨y, k1, k2⟩ := k
 exact ⟨_, h1.app k1, h2.app k2⟩
theorem Conv.id {t t' a a' b b' : Tm} (h : Conv t t') (k : Conv a a') (l : Conv b b') : Conv (Tm.id t a b) (Tm.id t' a' b') := by
 obtain ⟨x, h1, h2⟩ := h
 obtain ⟨y, k1, k2⟩ := k
 obtain ⟨z, l1, l2⟩ := l
 exact ⟨_, h1.id k1 l1, h2.id k2 l2⟩
theorem Conv.fst {a a' : Tm} (h : Conv a a') : Conv (Tm.fst a) (Tm.fst a') := let ⟨x, h1, h2⟩ := h; ⟨_, h1.fst, h2.fst⟩
theorem Conv.succ {a a' : Tm} (h : Conv a a') : Conv (Tm.succ a) (Tm.succ a') := let ⟨x, h1, h2⟩ := h; ⟨_, h1.succ, h2.succ⟩
theorem Conv.iz {a a' b b' : Tm} (h : Conv (Tm.pi a b) (Tm.pi a' b')) : Conv a a' ∧ Conv b b' := by
 obtain ⟨c, h1, h2⟩ := h
 obtain ⟨x, y, rfl, i1, i2⟩ := h1.iz
 obtain ⟨x', y', e, j1, j2⟩ := h2.iz
 cases e
 exact ⟨⟨x, i1, j1⟩, ⟨y, i2, j2⟩⟩
theorem Conv.eY {a a' b b' : Tm} (h : Conv (Tm.sig a b) (Tm.sig a' b')) : Conv a a' ∧ Conv b b' := by
 obtain ⟨c, h1, h2⟩ := h
 obtain ⟨x, y, rfl, i1, i2⟩ := h1.eY
 obtain ⟨x', y', e, j1, j2⟩ := h2.eY
 cases e
 exact ⟨⟨x, i1, j1⟩, ⟨y, i2, j2⟩⟩
theorem Conv.iZ {t t' a a' b b' : Tm} (h : Conv (Tm.id t a b) (Tm.id t' a' b')) : Conv t t' ∧ Conv a a' ∧ Conv b b' := by
 obtain ⟨c, h1, h2⟩ := h
 obtain ⟨x, y, z, rfl, i1, i2, i3⟩ := h1.iZ
 obtain ⟨x', y', z', e, j1, j2, j3⟩ := h2.iZ
 cases e
 exact ⟨⟨x, i1, j1⟩, ⟨y, i2, j2⟩, ⟨z, i3, j3⟩⟩
theorem Conv.dR {m n : Nat} (h : Conv (Tm.sort m) (Tm.sort n)) : m = n := by
 obtain ⟨c, h1, h2⟩ := h
 have := h1.dR; subst this
 have := h2.dR; injection this
inductive Hd : Tm → Tm → Prop
 | beta {a b u} : Hd (app (lam a b) u) (b.inst u)
 | ezero {p z s} : Hd (elim p z s zero) z
 | esucc {p z s n} : Hd (elim p z s (succ n)) (app (app s n) (elim p z s n))
 | mrefl {p a x} : Hd (move p (refl a) x) x
 | fpair {t a b} : Hd (fst (pair t a b)) a
 | spair {t a b} : Hd (snd (pair t a b)) b
 | app {f f' u} (h : Hd f f') : Hd (app f u) (app f' u)
 | elim {p z s n n'} (h : Hd n n') : Hd (elim p z s n) (elim p z s n')
 | move {p e e' x} (h : Hd e e') : Hd (move p e x) (move p e' x)
 | fst {q q'} (h : Hd q q') : Hd (fst q) (fst q')
 | snd {q q'} (h : Hd q q') : Hd (snd q) (snd q')
theorem Hd.par {t u : Tm} (h : Hd t u) : Par t u := by
 induction h with
 | beta => exact .beta (Par.bq _) (Par.bq _)
 | ezero => exact .ezero (Par.bq _)
 | esucc => exact .esucc (Par.bq _) (Par.bq _) (Par.bq _) (Par.bq _)
 | mrefl => exact .mrefl (Par.bq _)
 | fpair => exact .fpair (Par.bq _)
 | spair => exact .spair (Par.bq _)
 | app _ ih => exact .app ih (Par.bq _)
 | elim _ ih => exact .elim (Par.bq _) (Par.bq _) (Par.bq _) ih
 | move _ ih => exact .move (Par.bq _) ih (Par.bq _)
 | fst _ ih => exact .fst ih
 | snd _ ih => exact .snd ih
theorem Hd.det {t u v : Tm} (h : Hd t u) (k : Hd t v) : u = v := by
 induction h generalizing v with
 | beta => cases k with | beta => rfl | app k => cases k
 | ezero => cases k with | ezero => rfl | elim k => cases k
 | esucc => cases k with | esucc => rfl | elim k => cases k
 | mrefl => cases k with | mrefl => rfl | move k => cases k
 | fpair => cases k with | fpair => rfl | fst k => cases k
 | spair => cases k with | spair => rfl | snd k => cases k
 | app h ih => cases k with | beta => cases h | app k => rw [ih k]
 | elim h ih => cases k with | ezero => cases h | esucc => cases h | elim k => rw [ih k]
 | move h ih => cases k with | mrefl => cases h | move k => rw [ih k]
 | fst h ih => cases k with | fpair => cases h | fst k => rw [ih k]
 | snd h ih => cases k with | spair => cases h | snd k => rw [ih k]
theorem Hd.sub {t u : Tm} (h : Hd t u) (σ) : Hd (t.sub σ) (u.sub σ) := by
 induction h <;> simp only [Tm.sub, cB] <;> constructor <;> assumption
theorem Hd.ren {t u : Tm} (h : Hd t u) (σ) : Hd (t.ren σ) (u.ren σ) := by
 induction h <;> simp only [Tm.ren, fC] <;> constructor <;> assumption
inductive Wh : Tm → Tm → Prop
 | nil {t} : Wh t t
 | cons {t u v} (h : Hd t u) (hs : Wh u v) : Wh t v
theorem Wh.trans {t u v : Tm} (h : Wh t u) (k : Wh u v) : Wh t v := by
 induction h with
 | nil => exact k
 | cons h _ ih => exact .cons h (ih k)
theorem Wh.red {t u : Tm} (h : Wh t u) : Red t u := by
 induction h with
 | nil => exact .nil
 | cons h _ ih => exact .cons h.par ih
theorem Wh.conv {t u : Tm} (h : Wh t u) : Conv t u := h.red.conv
theorem Wh.sub {t u : Tm} (h : Wh t u) (σ) : Wh (t.sub σ) (u.sub σ) := by
 induction h with
 | nil => exact .nil
 | cons h _ ih => exact .cons (h.sub σ) ih
theorem Wh.ren {t u : Tm} (h : Wh t u) (σ) : Wh (t.ren σ) (u.ren σ) := by
 induction h with
 | nil => exact .nil
 | cons h _ ih => exact .cons (h.ren σ) ih
theorem Wh.ctx {f : Tm → Tm} (hf : ∀ a b, Hd a b → Hd (f a) (f b)) {t u : Tm} (h : Wh t u) : Wh (f t) (f u) := by
 induction h with
 | nil => exact .nil
 | cons h _ ih => exact .cons (hf _ _ h) ih
theorem Wh.app {f f' : Tm} (h : Wh f f') (u : Tm) : Wh (Tm.app f u) (Tm.app f' u) := Wh.ctx (f := fun f => Tm.app f u) (fun _ _ h => .app h) h
theorem Wh.elim {n n' : Tm} (h : Wh n n') (p z s : Tm) : Wh (Tm.elim p z s n) (Tm.elim p z s n') := Wh.ctx (f := fun n => Tm.elim p z s n) (fun _ _ h => .elim h) h
theorem Wh.move {e e' : Tm} (h : Wh e e') (p x : Tm) : Wh (Tm.move p e x) (Tm.move p e' x) := Wh.ctx (f := fun n => Tm.move p n x) (fun _ _ h => .move h) h
theorem Wh.fst {e e' : Tm} (h : Wh e e') : Wh (Tm.fst e) (Tm.fst e') := Wh.ctx (fun _ _ h => .fst h) h
theorem Wh.snd {e e' : Tm} (h : Wh e e') : Wh (Tm.snd e) (Tm.snd e') := Wh.ctx (fun _ _ h => .snd h) h
theorem Wh.two {t u v : Tm} (h : Wh t u) (k : Wh t v) : Wh u v ∨ Wh v u := by
 induction h generalizing v with
 | nil => exact .inl k
 | cons h hs ih => cases k with
  | nil => exact .inr (.cons h hs)
  | cons k ks => have := h.det k; subst this; exact ih ks
inductive ST : Tm → Tm → Prop
 | var {m n} (w : Wh m (var n)) : ST m (var n)
 | sort {m n} (w : Wh m (sort n)) : ST m (sort n)
 | pi {m a a' b b'} (w : Wh m (pi a b)) (h : ST a a') (k : ST b b') : ST m (pi a' b')
 | lam {m a a' b b'} (w : Wh m (lam a b)) (h : ST a a') (k : ST b b') : ST m (lam a' b')
 | app {m a a' b b'} (w : Wh m (app a b)) (h : ST a a') (k : ST b b') : ST m (app a' b')
 | nat {m} (w : Wh m nat) : ST m nat
 | zero {m} (w : Wh m zero) : ST m zero
 | succ {m a a'} (w : Wh m (succ a)) (h : ST a a') : ST m (succ a')
 | elim {m p p' z z' s s' n n'} (w : Wh m (elim p z s n)) (h : ST p p') (k : ST z z') (l : ST s s') (i : ST n n') : ST m (elim p' z' s' n')
 | id {m t t' a a' b b'} (w : Wh m (id t a b)) (h : ST t t') (k : ST a a') (l : ST b b') : ST m (id t' a' b')
 | refl {m a a'} (w : Wh m (refl a)) (h : ST a a') : ST m (refl a')
 | move {m t t' a a' b b'} (w : Wh m (move t a b)) (h : ST t t') (k : ST a a') (l : ST b b') : ST m (move t' a' b')
 | sig {m a a' b b'} (w : Wh m (sig a b)) (h : ST a a') (k : ST b b') : ST m (sig a' b')
 | pair {m t t' a a' b b'} (w : Wh m (pair t a b)) (h : ST t t') (k : ST a a') (l : ST b b') : ST m (pair t' a' b')
 | fst {m a a'} (w : Wh m (fst a)) (h : ST a a') : ST m (fst a')
 | snd {m a a'} (w : Wh m (snd a)) (h : ST a a') : ST m (snd a')
theorem ST.bq (t : Tm) : ST t t := by induction t <;> constructor <;> first | exact .nil | assumption
theorem ST.exp {m m' n : Tm} (w : Wh m m') (h : ST m' n) : ST m n := by
 cases h with
 | var w' => exact .var (w.trans w')
 | sort w' => exact .sort (w.trans w')
 | pi w' h k => exact .pi (w.trans w') h k
 | lam w' h k => exact .lam (w.trans w') h k
 | app w' h k => exact .app (w.trans w') h k
 | nat w' => exact .nat (w.trans w')
 | zero w' => exact .zero (w.trans w')
 | succ w' h => exact .succ (w.trans w') h
 | elim w' h k l i => exact .elim (w.trans w') h k l i
 | id w' h k l => exact .id (w.trans w') h k l
 | refl w' h => exact .refl (w.trans w') h
 | move w' h k l => exact .move (w.trans w') h k l
 | sig w' h k => exact .sig (w.trans w') h k
 | pair w' h k l => exact .pair (w.trans w') h k l
 | fst w' h => exact .fst (w.trans w') h
 | snd w' h => exact .snd (w.trans w') h
theorem ST.ren {m n : Tm} (h : ST m n) : ∀ ξ, ST (m.ren ξ) (n.ren ξ) := by
 induction h <;> intro ξ <;> (first
  | exact .var (Wh.ren ‹_› ξ) | exact .sort (Wh.ren ‹_› ξ) | exact .nat (Wh.ren ‹_› ξ) | exact .zero (Wh.ren ‹_› ξ)
  | (rename_i w _ _ a b; exact .pi (w.ren ξ) (a _) (b _)) | (rename_i w _ _ a b; exact .lam (w.ren ξ) (a _) (b _)) | (rename_i w _ _ a b; exact .app (w.ren ξ) (a _) (b _)) | (rename_i w _ _ a b; exact .sig (w.ren ξ) (a _) (b _))
  | (rename_i w _ a; exact .succ (w.ren ξ) (a _)) | (rename_i w _ a; exact .refl (w.ren ξ) (a _)) | (rename_i w _ a; exact .fst (w.ren ξ) (a _)) | (rename_i w _ a; exact .snd (w.ren ξ) (a _))
  | (rename_i w _ _ _ a b c; exact .id (w.ren ξ) (a _) (b _) (c _)) | (rename_i w _ _ _ a b c; exact .move (w.ren ξ) (a _) (b _) (c _)) | (rename_i w _ _ _ a b c; exact .pair (w.ren ξ) (a _) (b _) (c _))
  | (rename_i w _ _ _ _ a b c d; exact .elim (w.ren ξ) (a _) (b _) (c _) (d _)))
theorem ST.sub {m n : Tm} (h : ST m n) : ∀ σ τ : Nat → Tm, (∀ i, ST (σ i) (τ i)) → ST (m.sub σ) (n.sub τ) := by
 have hu : ∀ σ τ : Nat → Tm, (∀ n, ST (σ n) (τ n)) → ∀ n, ST (ups σ n) (ups τ n) := by
  intro σ τ h n; cases n with
  | zero => exact .var .nil
  | succ n => exact (h n).ren _
 induction h <;> intro σ τ hs <;> (first
  | (rename_i w; exact ST.exp (w.sub σ) (hs _)) | exact .sort (Wh.sub ‹_› σ) | exact .nat (Wh.sub ‹_› σ) | exact .zero (Wh.sub ‹_› σ)
  | (rename_i w _ _ a b; exact .pi (w.sub σ) (a _ _ hs) (b _ _ (hu _ _ hs))) | (rename_i w _ _ a b; exact .lam (w.sub σ) (a _ _ hs) (b _ _ (hu _ _ hs))) | (rename_i w _ _ a b; exact .app (w.sub σ) (a _ _ hs) (b _ _ hs)) | (rename_i w _ _ a b; exact .sig (w.sub σ) (a _ _ hs) (b _ _ (hu _ _ hs)))
  | (rename_i w _ a; exact .succ (w.sub σ) (a _ _ hs)) | (rename_i w _ a; exact .refl (w.sub σ) (a _ _ hs)) | (rename_i w _ a; exact .fst (w.sub σ) (a _ _ hs)) | (rename_i w _ a; exact .snd (w.sub σ) (a _ _ hs))
  | (rename_i w _ _ _ a b c; exact .id (w.sub σ) (a _ _ hs) (b _ _ hs) (c _ _ hs)) | (rename_i w _ _ _ a b c; exact .move (w.sub σ) (a _ _ hs) (b _ _ hs) (c _ _ hs)) | (rename_i w _ _ _ a b c; exact .pair (w.sub σ) (a _ _ hs) (b _ _ hs) (c _ _ hs))
  | (rename_i w _ _ _ _ a b c d; exact .elim (w.sub σ) (a _ _ hs) (b _ _ hs) (c _ _ hs) (d _ _ hs)))
theorem ST.inst {b b' u u' : Tm} (h : ST b b') (k : ST u u') : ST (b.inst u) (b'.inst u') :=
 h.sub _ _ fun n => by cases n with
  | zero => exact k
  | succ n => exact .var .nil
theorem ST.par {n p : Tm} (h : Par n p) : ∀ {m : Tm}, ST m n → ST m p := by
 induction h with
 | var => intro m s; exact s
 | sort => intro m s; exact s
 | pi h k ih ik => intro m s; cases s with | pi w a b => exact .pi w (ih a) (ik b)
 | lam h k ih ik => intro m s; cases s with | lam w a b => exact .lam w (ih a) (ik b)
 | app h k ih ik => intro m s; cases s with | app w a b => exact .app w (ih a) (ik b)
 | nat => intro m s; exact s
 | zero => intro m s; exact s
 | succ h ih => intro m s; cases s with | succ w a => exact .succ w (ih a)
 | elim h k l i ih ik il ii => intro m s; cases s with | elim w a b c d => exact .elim w (ih a) (ik b) (il c) (ii d)
 | id h k l ih ik il => intro m s; cases s with | id w a b c => exact .id w (ih a) (ik b) (il c)
 | refl h ih => intro m s; cases s with | refl w a => exact .refl w (ih a)
 | move h k l ih ik il => intro m s; cases s with | move w a b c => exact .move w (ih a) (ik b) (il c)
 | sig h k ih ik => intro m s; cases s with | sig w a b => exact .sig w (ih a) (ik b)
 | pair h k l ih ik il => intro m s; cases s with | pair w a b c => exact .pair w (ih a) (ik b) (il c)
 | fst h ih => intro m s; cases s with | fst w a => exact .fst w (ih a)
 | snd h ih => intro m s; cases s with | snd w a => exact .snd w (ih a)
 | beta h k ih ik => intro m s; cases s with
  | app w a b => cases a with
   | lam w' c d => exact .exp (w.trans ((w'.app _).trans (.cons .beta .nil))) ((ih d).inst (ik b))
 | ezero h ih => intro m s; cases s with
  | elim w a b c d => cases d with
   | zero w' => exact .exp (w.trans ((w'.elim _ _ _).trans (.cons .ezero .nil))) (ih b)
 | esucc h k l i ih ik il ii => intro m s; cases s with
  | elim w a b c d => cases d with
   | succ w' e => exact .exp (w.trans ((w'.elim _ _ _).trans (.cons .esucc .nil))) (.app .nil (.app .nil (il c) (ii e)) (.elim .nil (ih a) (ik b) (il c) (ii e)))
 | mrefl h ih => intro m s; cases s with
  | move w a b c => cases b with
   | refl w' e => exact .exp (w.trans ((w'.move _ _).trans (.cons .mrefl .nil))) (ih c)
 | fpair h ih => intro m s; cases s with
  | fst w a => cases a with
   | pair w' a b c => exact .exp (w.trans (w'.fst.trans (.cons .fpair .nil))) (ih b)
 | spair h ih => intro m s; cases s with
  | snd w a => cases a with
   | pair w' a b c => exact .exp (w.trans (w'.snd.trans (.cons .spair .nil))) (ih c)
theorem Red.st {m n : Tm} (h : Red m n) : ST m n := by
 have : ∀ {m n p : Tm}, ST m n → Red n p → ST m p := by
  intro m n p s r
  induction r with
  | nil => exact s
  | cons h _ ih => exact ih (ST.par h s)
 exact this (.bq m) h
theorem ST.red {m n : Tm} (h : ST m n) : Red m n := by
 induction h with
 | var w => exact w.red
 | sort w => exact w.red
 | pi w _ _ a b => exact w.red.trans (a.pi b)
 | lam w _ _ a b => exact w.red.trans (a.lam b)
 | app w _ _ a b => exact w.red.trans (a.app b)
 | nat w => exact w.red
 | zero w => exact w.red
 | succ w _ a => exact w.red.trans a.succ
 | elim w _ _ _ _ a b c d => exact w.red.trans (a.elim b c d)
 | id w _ _ _ a b c => exact w.red.trans (a.id b c)
 | refl w _ a => exact w.red.trans a.refl
 | move w _ _ _ a b c => exact w.red.trans (a.move b c)
 | sig w _ _ a b => exact w.red.trans (a.sig b)
 | pair w _ _ _ a b c => exact w.red.trans (a.pair b c)
 | fst w _ a => exact w.red.trans a.fst
 | snd w _ a => exact w.red.trans a.snd
end Tm
end Go.Proofs.YtajlknlnmmbfcaaGreat
end
section
namespace Go.Proofs.YtajlknlnmmbfcaaGreat
namespace Tm
def look : List Tm → Nat → Option Tm
 | [], _ => none
 | A :: _, 0 => some A.wk
 | _ :: G, n + 1 => (look G n).map wk
def aW (p : Tm) : Tm := pi nat (pi (app p.wk (var 0)) (app p.wk.wk (succ (var 1))))
inductive Ty : List Tm → Tm → Tm → Prop
 | var {G n A} (h : look G n = some A) : Ty G (var n) A
 | sort {G n} (h : n < 3) : Ty G (sort n) (sort (n + 1))
 | pi {G A B i j} (h : Ty G A (sort i)) (k : Ty (A :: G) B (sort j)) : Ty G (pi A B) (sort (max i j))
 | sig {G A B i j} (h : Ty G A (sort i)) (k : Ty (A :: G) B (sort j)) : Ty G (sig A B) (sort (max i j))
 | lam {G A B b i j} (h : Ty G A (sort i)) (k : Ty (A :: G) b B) (l : Ty (A :: G) B (sort j)) : Ty G (lam A b) (pi A B)
 | app {G f u A B} (h : Ty G f (pi A B)) (k : Ty G u A) : Ty G (app f u) (B.inst u)
 | nat {G} : Ty G nat (sort 0)
 | zero {G} : Ty G zero nat
 | succ {G n} (h : Ty G n nat) : Ty G (succ n) nat
 | elim {G p z s n i} (h : Ty G p (pi nat (sort i))) (k : Ty G z (app p zero)) (l : Ty G s (aW p)) (m : Ty G n nat) : Ty G (elim p z s n) (app p n)
 | id {G t a b i} (h : Ty G t (sort i)) (k : Ty G a t) (l : Ty G b t) : Ty G (id t a b) (sort i)
 | refl {G a A i} (h : Ty G a A) (k : Ty G A (sort i)) : Ty G (refl a) (id A a a)
 | move {G p e x t y z i} (h : Ty G e (id t y z)) (k : Ty G p (pi t (sort i))) (l : Ty G x (app p y)) (m : Ty G z t) : Ty G (move p e x) (app p z)
 | pair {G s a b A B i j} (h : Ty G s (sort i)) (r : Red s (Tm.sig A B)) (q : Ty G (Tm.sig A B) (Tm.sort j)) (k : Ty G a A) (l : Ty G b (B.inst a)) : Ty G (pair s a b) s
 | fst {G q A B} (h : Ty G q (sig A B)) : Ty G (fst q) A
 | snd {G q A B} (h : Ty G q (sig A B)) : Ty G (snd q) (B.inst (fst q))
 | conv {G t A B i} (h : Ty G t A) (c : Conv A B) (k : Ty G B (sort i)) : Ty G t B
theorem pP (p : Tm) (ξ) : (aW p).ren ξ = aW (p.ren ξ) := by
 simp only [aW, ren, Cs]; rfl
theorem k8 (p : Tm) (σ) : (aW p).sub σ = aW (p.sub σ) := by
 simp only [aW, sub, tN]; rfl
def wq (ξ : Nat → Nat) (G D : List Tm) : Prop := ∀ n A, look G n = some A → look D (ξ n) = some (A.ren ξ)
theorem wq.up {ξ : Nat → Nat} {G D : List Tm} (h : wq ξ G D) (A : Tm) : wq (up ξ) (A :: G) (A.ren ξ :: D) := by
 intro n B hB
 cases n with
 | zero =>
  simp only [look, Option.some.injEq] at hB; subst hB
  show some (A.ren ξ).wk = _
  rw [Cs]
 | succ n =>
  obtain ⟨C, hC, rfl⟩ := Option.map_eq_some_iff.1 hB
  show (look D (ξ n)).map wk = _
  rw [h n C hC, Option.map_some, Cs]
theorem wq.wk (G : List Tm) (A : Tm) : wq (· + 1) G (A :: G) := by
 intro n B hB
 show (look G n).map Tm.wk = _
 rw [hB]; rfl
theorem Ty.ren {G : List Tm} {t A : Tm} (h : Ty G t A) : ∀ {ξ D}, wq ξ G D → Ty D (t.ren ξ) (A.ren ξ) := by
 induction h with
 | var h => intro ξ D hr; exact .var (hr _ _ h)
 | sort h => intro ξ D hr; exact .sort h
 | pi h k ih ik => intro ξ D hr; exact .pi (ih hr) (ik (hr.up _))
 | sig h k ih ik => intro ξ D hr; exact .sig (ih hr) (ik (hr.up _))
 | lam h k l ih ik il => intro ξ D hr; exact .lam (ih hr) (ik (hr.up _)) (il (hr.up _))
 | app h k ih ik => intro ξ D hr; rw [fC]; exact .app (ih hr) (ik hr)
 | nat => intro ξ D hr; exact .nat
 | zero => intro ξ D hr; exact .zero
 | succ h ih => intro ξ D hr; exact .succ (ih hr)
 | elim h k l m ih ik il im => intro ξ D hr; exact .elim (ih hr) (ik hr) (by have := il hr; rwa [pP] at this) (im hr)
 | id h k l ih ik il => intro ξ D hr; exact .id (ih hr) (ik hr) (il hr)
 | refl h k ih ik => intro ξ D hr; exact .refl (ih hr) (ik hr)
 | move h k l m ih ik il im => intro ξ D hr; exact .move (ih hr) (ik hr) (il hr) (im hr)
 | pair h r q k l ih iq ik il => intro ξ D hr; exact .pair (ih hr) (r.ren ξ) (iq hr) (ik hr) (by have := il hr; rwa [fC] at this)
 | fst h ih => intro ξ D hr; exact .fst (ih hr)
 | snd h ih => intro ξ D hr; rw [fC]; exact .snd (ih hr)
 | conv h c k ih ik => intro ξ D hr; exact .conv (ih hr) (c.ren ξ) (ik hr)
theorem Ty.wk {G : List Tm} {t A : Tm} (h : Ty G t A) (B : Tm) : Ty (B :: G) t.wk A.wk := h.ren (wq.wk G B)
def sY (σ : Nat → Tm) (G D : List Tm) : Prop := ∀ n A, look G n = some A → Ty D (σ n) (A.sub σ)
theorem sY.ups {σ : Nat → Tm} {G D : List Tm} (h : sY σ G D) (A : Tm) : sY (ups σ) (A :: G) (A.sub σ :: D) := by
 intro n B hB
 cases n with
 | zero =>
  simp only [look, Option.some.injEq] at hB; subst hB
  rw [tN]
  exact .var rfl
 | succ n =>
  obtain ⟨C, hC, rfl⟩ := Option.map_eq_some_iff.1 hB
  rw [tN]
  exact (h n C hC).wk _
theorem Ty.sub {G : List Tm} {t A : Tm} (h : Ty G t A) : ∀ {σ D}, sY σ G D → Ty D (t.sub σ) (A.sub σ) := by
 induction h with
 | var h => intro σ D hr; exact hr _ _ h
 | sort h => intro σ D hr; exact .sort h
 | pi h k ih ik => intro σ D hr; exact .pi (ih hr) (ik (hr.ups _))
 | sig h k ih ik => intro σ D hr; exact .sig (ih hr) (ik (hr.ups _))
 | lam h k l ih ik il => intro σ D hr; exact .lam (ih hr) (ik (hr.ups _)) (il (hr.ups _))
 | app h k ih ik => intro σ D hr; rw [cB]; exact .app (ih hr) (ik hr)
 | nat => intro σ D hr; exact .nat
 | zero => intro σ D hr; exact .zero
 | succ h ih => intro σ D hr; exact .succ (ih hr)
 | elim h k l m ih ik il im => intro σ D hr; exact .elim (ih hr) (ik hr) (by have := il hr; rwa [k8] at this) (im hr)
 | id h k l ih ik il => intro σ D hr; exact .id (ih hr) (ik hr) (il hr)
 | refl h k ih ik => intro σ D hr; exact .refl (ih hr) (ik hr)
 | move h k l m ih ik il im => intro σ D hr; exact .move (ih hr) (ik hr) (il hr) (im hr)
 | pair h r q k l ih iq ik il => intro σ D hr; exact .pair (ih hr) (r.sub σ) (iq hr) (ik hr) (by have := il hr; rwa [cB] at this)
 | fst h ih => intro σ D hr; exact .fst (ih hr)
 | snd h ih => intro σ D hr; rw [cB]; exact .snd (ih hr)
 | conv h c k ih ik => intro σ D hr; exact .conv (ih hr) (c.sub σ) (ik hr)
theorem sY.one {G : List Tm} {u A : Tm} (h : Ty G u A) : sY (sc u var) (A :: G) G := by
 intro n B hB
 cases n with
 | zero =>
  simp only [look, Option.some.injEq] at hB; subst hB
  rw [gh, bY]; exact h
 | succ n =>
  obtain ⟨C, hC, rfl⟩ := Option.map_eq_some_iff.1 hB
  rw [gh, bY]; exact .var hC
theorem Ty.inst {G : List Tm} {t u A B : Tm} (h : Ty (A :: G) t B) (k : Ty G u A) : Ty G (t.inst u) (B.inst u) := h.sub (sY.one k)
theorem Ty.ctx {G : List Tm} {t A A' B : Tm} {i : Nat} (h : Ty (A :: G) t B) (c : Conv A' A) (k : Ty G A (Tm.sort i)) : Ty (A' :: G) t B := by
 have : sY Tm.var (A :: G) (A' :: G) := by
  intro n C hC
  rw [bY]
  cases n with
  | zero =>
   simp only [look, Option.some.injEq] at hC; subst hC
   exact .conv (.var rfl) (c.ren _) (k.wk _)
  | succ n => exact .var hC
 have h2 := h.sub this
 rwa [bY, bY] at h2
def Gen (G : List Tm) : Tm → Tm → Prop
 | var n, C => ∃ A, look G n = some A ∧ Conv A C
 | sort n, C => n < 3 ∧ Conv (sort (n + 1)) C
 | pi A B, C => ∃ i j, Ty G A (sort i) ∧ Ty (A :: G) B (sort j) ∧ Conv (sort (max i j)) C
 | sig A B, C => ∃ i j, Ty G A (sort i) ∧ Ty (A :: G) B (sort j) ∧ Conv (sort (max i j)) C
 | lam A b, C => ∃ B i j, Ty G A (sort i) ∧ Ty (A :: G) b B ∧ Ty (A :: G) B (sort j) ∧ Conv (pi A B) C
 | app f u, C => ∃ A B, Ty G f (pi A B) ∧ Ty G u A ∧ Conv (B.inst u) C
 | nat, C => Conv (sort 0) C
 | zero, C => Conv nat C
 | succ n, C => Ty G n nat ∧ Conv nat C
 | elim p z s n, C => ∃ i, Ty G p (pi nat (sort i)) ∧ Ty G z (app p zero) ∧ Ty G s (aW p) ∧ Ty G n nat ∧ Conv (app p n) C
 | id t a b, C => ∃ i, Ty G t (sort i) ∧ Ty G a t ∧ Ty G b t ∧ Conv (sort i) C
 | refl a, C => ∃ A i, Ty G a A ∧ Ty G A (sort i) ∧ Conv (id A a a) C
 | move p e x, C => ∃ t y z i, Ty G e (id t y z) ∧ Ty G p (pi t (sort i)) ∧ Ty G x (app p y) ∧ Conv (app p z) C
 | pair s a b, C => ∃ A B i j, Ty G s (sort i) ∧ Red s (sig A B) ∧ Ty G (sig A B) (sort j) ∧ Ty G a A ∧ Ty G b (B.inst a) ∧ Conv s C
 | fst q, C => ∃ A B, Ty G q (sig A B) ∧ Conv A C
 | snd q, C => ∃ A B, Ty G q (sig A B) ∧ Conv (B.inst (fst q)) C
theorem Gen.conv {G : List Tm} {t A B : Tm} (h : Gen G t A) (c : Conv A B) : Gen G t B := by
 cases t with
 | var n => obtain ⟨X, h1, h2⟩ := h; exact ⟨X, h1, h2.trans c⟩
 | sort n => exact ⟨h.1, h.2.trans c⟩
 | pi a b => obtain ⟨i, j, h1, h2, h3⟩ := h; exact ⟨i, j, h1, h2, h3.trans c⟩
 | sig a b => obtain ⟨i, j, h1, h2, h3⟩ := h; exact ⟨i, j, h1, h2, h3.trans c⟩
 | lam a b => obtain ⟨X, i, j, h1, h2, h3, h4⟩ := h; exact ⟨X, i, j, h1, h2, h3, h4.trans c⟩
 | app f u => obtain ⟨X, Y, h1, h2, h3⟩ := h; exact ⟨X, Y, h1, h2, h3.trans c⟩
 | nat => exact Conv.trans h c
 | zero => exact Conv.trans h c
 | succ n => exact ⟨h.1, h.2.trans c⟩
 | elim p z s n => obtain ⟨i, h1, h2, h3, h4, h5⟩ := h; exact ⟨i, h1, h2, h3, h4, h5.trans c⟩
 | id t a b => obtain ⟨i, h1, h2, h3, h4⟩ := h; exact ⟨i, h1, h2, h3, h4.trans c⟩
 | refl a => obtain ⟨X, i, h1, h2, h3⟩ := h; exact ⟨X, i, h1, h2, h3.trans c⟩
 | move p e x => obtain ⟨t, y, z, i, h1, h2, h3, h4⟩ := h; exact ⟨t, y, z, i, h1, h2, h3, h4.trans c⟩
 | pair s a b => obtain ⟨X, Y, i, j, h1, h2, h3, h4, h5, h6⟩ := h; exact ⟨X, Y, i, j, h1, h2, h3, h4, h5, h6.trans c⟩
 | fst q => obtain ⟨X, Y, h1, h2⟩ := h; exact ⟨X, Y, h1, h2.trans c⟩
 | snd q => obtain ⟨X, Y, h1, h2⟩ := h; exact ⟨X, Y, h1, h2.trans c⟩
theorem Ty.gen {G : List Tm} {t A : Tm} (h : Ty G t A) : Gen G t A := by
 induction h with
 | var h => exact ⟨_, h, .bq⟩
 | sort h => exact ⟨h, .bq⟩
 | pi h k => exact ⟨_, _, h, k, .bq⟩
 | sig h k => exact ⟨_, _, h, k, .bq⟩
 | lam h k l => exact ⟨_, _, _, h, k, l, .bq⟩
 | app h k => exact ⟨_, _, h, k, .bq⟩
 | nat => exact .bq
 | zero => exact .bq
 | succ h => exact ⟨h, .bq⟩
 | elim h k l m => exact ⟨_, h, k, l, m, .bq⟩
 | id h k l => exact ⟨_, h, k, l, .bq⟩
 | refl h k => exact ⟨_, _, h, k, .bq⟩
 | move h k l m => exact ⟨_, _, _, _, h, k, l, .bq⟩
 | pair h r q k l => exact ⟨_, _, _, _, h, r, q, k, l, .bq⟩
 | fst h => exact ⟨_, _, h, .bq⟩
 | snd h => exact ⟨_, _, h, .bq⟩
 | conv h c k ih _ => exact ih.conv c
inductive Wf : List Tm → Prop
 | nil : Wf []
 | cons {A G i} (w : Wf G) (h : Ty G A (sort i)) : Wf (A :: G)
theorem Wf.look {G : List Tm} (w : Wf G) : ∀ {n A}, look G n = some A → ∃ i, Ty G A (Tm.sort i) := by
 induction w with
 | nil => intro n A h; cases h
 | cons w h ih =>
  intro n A hA
  cases n with
  | zero => simp only [Tm.look, Option.some.injEq] at hA; subst hA; exact ⟨_, h.wk _⟩
  | succ n =>
   obtain ⟨C, hC, rfl⟩ := Option.map_eq_some_iff.1 hA
   obtain ⟨i, hi⟩ := ih hC
   exact ⟨i, hi.wk _⟩
def HU (G : List Tm) (A : Tm) : Prop := A = sort 3 ∨ ∃ i, Ty G A (sort i)
theorem Ty.nC {G : List Tm} {n : Nat} {C : Tm} (h : Ty G (Tm.sort n) C) : n < 3 := h.gen.1
theorem HU.le {G : List Tm} {i : Nat} (h : HU G (sort i)) : i ≤ 3 := by
 rcases h with h | ⟨j, h⟩
 ·cases h; omega
 ·have := h.nC; omega
theorem HU.of_le {G : List Tm} {i : Nat} (h : i ≤ 3) : HU G (sort i) := by
 by_cases h3 : i = 3
 ·subst h3; exact .inl rfl
 ·exact .inr ⟨_, .sort (by omega)⟩
theorem Ty.valid {G : List Tm} {t A : Tm} (h : Ty G t A) : Wf G → HU G A := by
 induction h with
 | var h => intro w; exact .inr (w.look h)
 | sort h => intro w; exact .of_le (by omega)
 | pi h k ih ik => intro w; have := (ih w).le; have := (ik (.cons w h)).le; exact .of_le (by omega)
 | sig h k ih ik => intro w; have := (ih w).le; have := (ik (.cons w h)).le; exact .of_le (by omega)
 | lam h k l ih ik il => intro w; exact .inr ⟨_, .pi h l⟩
 | app h k ih ik =>
  intro w
  rcases ih w with e | ⟨i, hi⟩
  ·cases e
  ·obtain ⟨i, j, h1, h2, h3⟩ := hi.gen
   exact .inr ⟨j, h2.inst k⟩
 | nat => intro w; exact .of_le (by omega)
 | zero => intro w; exact .inr ⟨_, .nat⟩
 | succ h ih => intro w; exact .inr ⟨_, .nat⟩
 | elim h k l m ih ik il im => intro w; exact .inr ⟨_, .app h m⟩
 | id h k l ih ik il => intro w; exact ih w
 | refl h k ih ik => intro w; exact .inr ⟨_, .id k h h⟩
 | move h k l m ih ik il im => intro w; exact .inr ⟨_, .app k m⟩
 | pair h r q k l ih iq ik il => intro w; exact .inr ⟨_, h⟩
 | fst h ih =>
  intro w
  rcases ih w with e | ⟨i, hi⟩
  ·cases e
  ·obtain ⟨i, j, h1, h2, h3⟩ := hi.gen
   exact .inr ⟨_, h1⟩
 | snd h ih =>
  intro w
  rcases ih w with e | ⟨i, hi⟩
  ·cases e
  ·obtain ⟨i, j, h1, h2, h3⟩ := hi.gen
   exact .inr ⟨_, h2.inst (.fst h)⟩
 | conv h c k ih ik => intro w; exact .inr ⟨_, k⟩
theorem Ty.sorted {G : List Tm} {t A : Tm} (h : Ty G t A) (w : Wf G) (hn : A ≠ Tm.sort 3) : ∃ i, Ty G A (Tm.sort i) := (h.valid w).resolve_left hn
theorem Ty.uniq {G : List Tm} {t A : Tm} (h : Ty G t A) : ∀ {B}, Ty G t B → Conv A B := by
 induction h with
 | var h => intro B k; obtain ⟨X, h1, h2⟩ := k.gen; rw [h] at h1; cases h1; exact h2
 | sort h => intro B k; exact k.gen.2
 | pi h k ih ik =>
  intro B g
  obtain ⟨i, j, h1, h2, h3⟩ := g.gen
  have e1 := (ih h1).dR
  have e2 := (ik h2).dR
  subst e1 e2; exact h3
 | sig h k ih ik =>
  intro B g
  obtain ⟨i, j, h1, h2, h3⟩ := g.gen
  have e1 := (ih h1).dR
  have e2 := (ik h2).dR
  subst e1 e2; exact h3
 | lam h k l ih ik il =>
  intro B g
  obtain ⟨X, i, j, h1, h2, h3, h4⟩ := g.gen
  exact (Conv.pi .bq (ik h2)).trans h4
 | app h k ih ik =>
  intro B g
  obtain ⟨X, Y, h1, h2, h3⟩ := g.gen
  exact (Conv.inst (ih h1).iz.2 .bq).trans h3
 | nat => intro B g; exact g.gen
 | zero => intro B g; exact g.gen
 | succ h ih => intro B g; exact g.gen.2
 | elim h k l m ih ik il im => intro B g; obtain ⟨i, h1, h2, h3, h4, h5⟩ := g.gen; exact h5
 | id h k l ih ik il =>
  intro B g
  obtain ⟨i, h1, h2, h3, h4⟩ := g.gen
  have e1 := (ih h1).dR
  subst e1; exact h4
 | refl h k ih ik =>
  intro B g
  obtain ⟨X, i, h1, h2, h3⟩ := g.gen
  exact (Conv.id (ih h1) .bq .bq).trans h3
 | move h k l m ih ik il im =>
  intro B g
  obtain ⟨t, y, z, i, h1, h2, h3, h4⟩ := g.gen
  exact (Conv.app .bq (ih h1).iZ.2.2).trans h4
 | pair h r q k l ih iq ik il => intro B g; obtain ⟨X, Y, i, j, h1, h2, h3, h4, h5, h6⟩ := g.gen; exact h6
 | fst h ih =>
  intro B g
  obtain ⟨X, Y, h1, h2⟩ := g.gen
  exact (ih h1).eY.1.trans h2
 | snd h ih =>
  intro B g
  obtain ⟨X, Y, h1, h2⟩ := g.gen
  exact (Conv.inst (ih h1).eY.2 .bq).trans h2
 | conv h c k ih ik => intro B g; exact c.symm.trans (ih g)
theorem Ty.zh {G : List Tm} {p u t : Tm} {i : Nat} (h : Ty G p (Tm.pi t (Tm.sort i))) (k : Ty G u t) : Ty G (Tm.app p u) (Tm.sort i) := .app h k
theorem Ty.aW {G : List Tm} {p : Tm} {i : Nat} (h : Ty G p (Tm.pi Tm.nat (Tm.sort i))) : Ty G (Tm.aW p) (Tm.sort (max 0 (max i i))) := by
 refine .pi .nat (.pi ?_ ?_)
 ·exact Ty.zh (t := Tm.nat) (h.wk _) (.var rfl)
 ·exact Ty.zh (t := Tm.nat) ((h.wk _).wk _) (.succ (.var rfl))
theorem Conv.aW {p q : Tm} (h : Conv p q) : Conv (aW p) (Tm.aW q) :=
 Conv.pi .bq (Conv.pi (Conv.app (h.ren _) .bq) (Conv.app ((h.ren _).ren _) .bq))
theorem nM (p n x : Tm) : ((app p.wk.wk (succ (var 1))).sub (ups (sc n var))).inst x = app p (succ n) := by
 rw [mT]
 show app (p.wk.wk.sub _) (succ _) = _
 rw [gh, gh, bY]; rfl
theorem Ak {G : List Tm} {p n s x : Tm} (h : Ty G s (aW p)) (k : Ty G n nat) (l : Ty G x (app p n)) : Ty G (app (app s n) x) (app p (succ n)) := by
 have h1 : Ty G (app s n) (pi ((app p.wk (var 0)).sub (sc n var)) ((app p.wk.wk (succ (var 1))).sub (ups (sc n var)))) := Ty.app h k
 have e1 : ((app p.wk (var 0)).sub (sc n var)) = app p n := by
  show app (p.wk.sub _) _ = _
  rw [gh, bY]; rfl
 rw [e1] at h1
 have h2 := Ty.app h1 l
 rwa [nM] at h2
theorem Ty.par {G : List Tm} {t A : Tm} (h : Ty G t A) : Wf G → ∀ {t'}, Par t t' → Ty G t' A := by
 induction h with
 | var h => intro w t' r; cases r; exact .var h
 | sort h => intro w t' r; cases r; exact .sort h
 | pi h k ih ik =>
  intro w t' r
  cases r with
  | pi r q => exact .pi (ih w r) ((ik (.cons w h) q).ctx r.conv.symm h)
 | sig h k ih ik =>
  intro w t' r
  cases r with
  | sig r q => exact .sig (ih w r) ((ik (.cons w h) q).ctx r.conv.symm h)
 | lam h k l ih ik il =>
  intro w t' r
  cases r with
  | lam r q =>
   refine .conv (.lam (ih w r) ((ik (.cons w h) q).ctx r.conv.symm h) (l.ctx r.conv.symm h)) (Conv.pi r.conv.symm .bq) (.pi h l)
 | app h k ih ik =>
  intro w t' r
  have v := (Ty.app h k).valid w
  have back : ∀ {X}, Ty _ t' X → Conv X _ → Ty _ t' _ := fun {X} g c => by
   rcases v with e | ⟨i, hi⟩
   ·exact absurd e (by
      intro e
      rcases h.valid w with e' | ⟨i, hi⟩
      ·cases e'
      ·obtain ⟨i, j, h1, h2, h3⟩ := hi.gen
       have := (h2.inst k)
       rw [e] at this
       exact absurd this.nC (by omega))
   ·exact .conv g c hi
  cases r with
  | app r q => exact back (.app (ih w r) (ik w q)) (Conv.inst .bq q.conv.symm)
  | beta r q =>
   rename_i A0 b b' u'
   obtain ⟨X, i, j, h1, h2, h3, h4⟩ := (ih w (.lam (Par.bq _) r)).gen
   obtain ⟨c1, c2⟩ := h4.iz
   have hu := Ty.conv (ik w q) c1.symm h1
   exact back (h2.inst hu) (Conv.inst c2 q.conv.symm)
 | nat => intro w t' r; cases r; exact .nat
 | zero => intro w t' r; cases r; exact .zero
 | succ h ih => intro w t' r; cases r with | succ r => exact .succ (ih w r)
 | elim h k l m ih ik il im =>
  intro w t' r
  have kz : ∀ {p'}, Par _ p' → Ty _ (Tm.app p' Tm.zero) (Tm.sort _) := fun r => Ty.zh (ih w r) .zero
  cases r with
  | elim r q o v =>
   exact .conv (.elim (ih w r) (.conv (ik w q) (Conv.app r.conv .bq) (kz r)) (.conv (il w o) (Conv.aW r.conv) (Ty.aW (ih w r))) (im w v)) (Conv.app r.conv.symm v.conv.symm) (Ty.zh h m)
  | ezero q => exact ik w q
  | esucc r q o v =>
   have hm := (im w (.succ v)).gen.1
   have he := Ty.elim (ih w r) (.conv (ik w q) (Conv.app r.conv .bq) (kz r)) (.conv (il w o) (Conv.aW r.conv) (Ty.aW (ih w r))) hm
   have he' := Ty.conv he (Conv.app r.conv.symm .bq) (Ty.zh h hm)
   have h3 := Ak (il w o) hm he'
   exact .conv h3 (Conv.app .bq (Conv.succ v.conv.symm)) (Ty.zh h m)
 | id h k l ih ik il =>
  intro w t' r
  cases r with
  | id r q o => exact .id (ih w r) (.conv (ik w q) r.conv (ih w r)) (.conv (il w o) r.conv (ih w r))
 | refl h k ih ik =>
  intro w t' r
  cases r with
  | refl r => exact .conv (.refl (ih w r) k) (Conv.id .bq r.conv.symm r.conv.symm) (.id k h h)
 | move h k l m ih ik il im =>
  intro w t' r
  obtain ⟨i, g2, g3, g4⟩ : ∃ i, Ty _ _ (Tm.sort i) ∧ Ty _ _ _ ∧ Ty _ _ _ := by
   rcases h.valid w with e | ⟨i, hi⟩
   ·cases e
   ·obtain ⟨i, h1, h2, h3, h4⟩ := hi.gen
    exact ⟨i, h1, h2, h3⟩
  cases r with
  | move r q o =>
   have hp := ik w r
   exact .conv (.move (ih w q) hp (.conv (il w o) (Conv.app r.conv .bq) (Ty.zh hp g3)) m) (Conv.app r.conv.symm .bq) (Ty.zh k g4)
  | mrefl o =>
   obtain ⟨X, i, h1, h2, h3⟩ := h.gen
   obtain ⟨_, c1, c2⟩ := h3.iZ
   exact .conv (il w o) (Conv.app .bq (c1.symm.trans c2)) (Ty.zh k g4)
 | pair h r q k l ih iq ik il =>
  intro w t' z
  cases z with
  | pair z o v =>
   obtain ⟨x, h1, h2⟩ := Red.strip z r
   cases h2 with
   | sig r1 r2 =>
    have hs := ih w z
    have hq := iq w (.sig r1 r2)
    obtain ⟨i', j', g1, g2, g3⟩ := hq.gen
    have ha := Ty.conv (ik w o) r1.conv g1
    have hb := Ty.conv (il w v) (Conv.inst r2.conv o.conv) (g2.inst ha)
    exact .conv (.pair hs h1 hq ha hb) z.conv.symm h
 | fst h ih =>
  intro w t' r
  obtain ⟨i, j, g1, g2, g3⟩ : ∃ i j, Ty _ _ (Tm.sort i) ∧ Ty _ _ (Tm.sort j) ∧ True := by
   rcases h.valid w with e | ⟨i, hi⟩
   ·cases e
   ·obtain ⟨i, j, h1, h2, h3⟩ := hi.gen
    exact ⟨i, j, h1, h2, trivial⟩
  cases r with
  | fst r => exact .fst (ih w r)
  | fpair r =>
   obtain ⟨X, Y, i, j, h1, h2, h3, h4, h5, h6⟩ := (ih w (.pair (Par.bq _) r (Par.bq _))).gen
   have c := (h2.conv.symm.trans h6).eY
   exact .conv h4 c.1 g1
 | snd h ih =>
  intro w t' r
  obtain ⟨i, j, g1, g2, g3⟩ : ∃ i j, Ty _ _ (Tm.sort i) ∧ Ty _ _ (Tm.sort j) ∧ True := by
   rcases h.valid w with e | ⟨i, hi⟩
   ·cases e
   ·obtain ⟨i, j, h1, h2, h3⟩ := hi.gen
    exact ⟨i, j, h1, h2, trivial⟩
  have g4 := g2.inst (.fst h)
  cases r with
  | snd r => exact .conv (.snd (ih w r)) (Conv.inst .bq (Conv.fst r.conv.symm)) g4
  | spair r =>
   obtain ⟨X, Y, i, j, h1, h2, h3, h4, h5, h6⟩ := (ih w (.pair (Par.bq _) (Par.bq _) r)).gen
   have c := (h2.conv.symm.trans h6).eY
   exact .conv h5 (Conv.inst c.2 (Conv.symm (Par.conv (.fpair (Par.bq _))))) g4
 | conv h c k ih ik => intro w t' r; exact .conv (ih w r) c k
theorem Ty.red {G : List Tm} {t t' A : Tm} (h : Ty G t A) (w : Wf G) (r : Red t t') : Ty G t' A := by
 induction r with
 | nil => exact h
 | cons r _ ih => exact ih (h.par w r)
end Tm
end Go.Proofs.YtajlknlnmmbfcaaGreat
end
section
namespace Go.Proofs.YtajlknlnmmbfcaaGreat
namespace Tm
inductive Al : List Tm → Tm → Tm → Prop
 | var {G n A} (h : look G n = some A) : Al G (var n) A
 | sort {G n} (h : n < 3) : Al G (sort n) (sort (n + 1))
 | nat {G} : Al G nat (sort 0)
 | zero {G} : Al G zero nat
 | succ {G n T} (h : Al G n T) (c : Conv T nat) : Al G (succ n) nat
 | pi {G A B S R i j} (h : Al G A S) (w : Wh S (sort i)) (k : Al (A :: G) B R) (v : Wh R (sort j)) : Al G (pi A B) (sort (max i j))
 | sig {G A B S R i j} (h : Al G A S) (w : Wh S (sort i)) (k : Al (A :: G) B R) (v : Wh R (sort j)) : Al G (sig A B) (sort (max i j))
 | lam {G A b B S R i j} (h : Al G A S) (w : Wh S (sort i)) (k : Al (A :: G) b B) (l : Al (A :: G) B R) (v : Wh R (sort j)) : Al G (lam A b) (pi A B)
 | app {G f u F U C B} (h : Al G f F) (w : Wh F (pi C B)) (k : Al G u U) (c : Conv U C) : Al G (app f u) (B.inst u)
 | elim {G p z s n P C D i Z S N} (h : Al G p P) (w : Wh P (pi C D)) (c : Conv C nat) (v : Wh D (sort i)) (k : Al G z Z) (d : Conv Z (app p zero)) (l : Al G s S) (e : Conv S (aW p)) (m : Al G n N) (f : Conv N nat) : Al G (elim p z s n) (app p n)
 | id {G t a b S A B i} (h : Al G t S) (w : Wh S (sort i)) (k : Al G a A) (c : Conv A t) (l : Al G b B) (d : Conv B t) : Al G (id t a b) (sort i)
 | refl {G a A S i} (h : Al G a A) (k : Al G A S) (w : Wh S (sort i)) : Al G (refl a) (id A a a)
 | move {G p e x Q t y z P C D i X} (h : Al G e Q) (w : Wh Q (id t y z)) (k : Al G p P) (v : Wh P (pi C D)) (c : Conv C t) (u : Wh D (sort i)) (l : Al G x X) (d : Conv X (app p y)) : Al G (move p e x) (app p z)
 | pair {G s a b S i A B A' B'} (h : Al G s S) (w : Wh S (sort i)) (v : Wh s (Tm.sig A B)) (k : Al G a A') (c : Conv A' A) (l : Al G b B') (d : Conv B' (B.inst a)) : Al G (pair s a b) s
 | fst {G q Q A B} (h : Al G q Q) (w : Wh Q (sig A B)) : Al G (fst q) A
 | snd {G q Q A B} (h : Al G q Q) (w : Wh Q (sig A B)) : Al G (snd q) (B.inst (fst q))
theorem Ty.lvl {G : List Tm} {A S : Tm} {i : Nat} (h : Ty G A S) (w : Wf G) (r : Wh S (Tm.sort i)) : Ty G A (Tm.sort i) := by
 rcases h.valid w with e | ⟨j, hj⟩
 ·subst e
  cases r with
  | nil => exact h
  | cons r _ => cases r
 ·exact .conv h r.conv (hj.red w r.red)
theorem Ty.frm {G : List Tm} {t S F : Tm} (h : Ty G t S) (w : Wf G) (r : Wh S F) : Ty G t F := by
 rcases h.valid w with e | ⟨j, hj⟩
 ·subst e
  cases r with
  | nil => exact h
  | cons r _ => cases r
 ·exact .conv h r.conv (hj.red w r.red)
theorem Ty.chk {G : List Tm} {t A B : Tm} {i : Nat} (h : Ty G t A) (c : Conv A B) (k : Ty G B (Tm.sort i)) : Ty G t B := .conv h c k
theorem Ty.xU {G : List Tm} {t C B : Tm} (h : Ty G t (Tm.pi C B)) (w : Wf G) : ∃ i j, Ty G C (Tm.sort i) ∧ Ty (C :: G) B (Tm.sort j) := by
 rcases h.valid w with e | ⟨i, hi⟩
 ·cases e
 ·obtain ⟨i, j, h1, h2, h3⟩ := hi.gen; exact ⟨i, j, h1, h2⟩
theorem Ty.rI {G : List Tm} {e t y z : Tm} (h : Ty G e (Tm.id t y z)) (w : Wf G) : ∃ i, Ty G t (Tm.sort i) ∧ Ty G y t ∧ Ty G z t := by
 rcases h.valid w with e | ⟨i, hi⟩
 ·cases e
 ·obtain ⟨i, h1, h2, h3, h4⟩ := hi.gen; exact ⟨i, h1, h2, h3⟩
theorem Ty.fam {G : List Tm} {p C D t : Tm} {i j : Nat} (h : Ty G p (Tm.pi C D)) (w : Wf G) (c : Conv C t) (r : Wh D (Tm.sort i)) (k : Ty G t (Tm.sort j)) : Ty G p (Tm.pi t (Tm.sort i)) := by
 obtain ⟨i1, j1, h1, h2⟩ := h.xU w
 have h3 := h2.red (.cons w h1) r.red
 have h4 : Ty (t :: G) (Tm.sort i) (Tm.sort (i + 1)) := .sort h3.nC
 exact .conv h (Conv.pi c r.conv) (.pi k h4)
theorem Al.sound {G : List Tm} {t A : Tm} (h : Al G t A) : Wf G → Ty G t A := by
 induction h with
 | var h => intro w; exact .var h
 | sort h => intro w; exact .sort h
 | nat => intro w; exact .nat
 | zero => intro w; exact .zero
 | succ h c ih => intro w; exact .succ (.conv (ih w) c .nat)
 | pi h r k v ih ik => intro w; have a := (ih w).lvl w r; exact .pi a ((ik (.cons w a)).lvl (.cons w a) v)
 | sig h r k v ih ik => intro w; have a := (ih w).lvl w r; exact .sig a ((ik (.cons w a)).lvl (.cons w a) v)
 | lam h r k l v ih ik il => intro w; have a := (ih w).lvl w r; exact .lam a (ik (.cons w a)) ((il (.cons w a)).lvl (.cons w a) v)
 | app h r k c ih ik =>
  intro w
  have hf := (ih w).frm w r
  obtain ⟨i, j, h1, h2⟩ := hf.xU w
  exact .app hf (.conv (ik w) c h1)
 | elim h r c v k d l e m f ih ik il im =>
  intro w
  have hp := ((ih w).frm w r).fam w c v .nat
  exact .elim hp (.conv (ik w) d (Ty.zh hp .zero)) (.conv (il w) e (Ty.aW hp)) (.conv (im w) f .nat)
 | id h r k c l d ih ik il =>
  intro w
  have a := (ih w).lvl w r
  exact .id a (.conv (ik w) c a) (.conv (il w) d a)
 | refl h k r ih ik => intro w; exact .refl (ih w) ((ik w).lvl w r)
 | move h r k v c u l d ih ik il =>
  intro w
  have he := (ih w).frm w r
  obtain ⟨i, h1, h2, h3⟩ := he.rI w
  have hp := ((ik w).frm w v).fam w c u h1
  exact .move he hp (.conv (il w) d (Ty.zh hp h2)) h3
 | pair h r v k c l d ih ik il =>
  intro w
  have hs := (ih w).lvl w r
  have hq := hs.red w v.red
  obtain ⟨i, j, h1, h2, h3⟩ := hq.gen
  have ha := Ty.conv (ik w) c h1
  exact .pair hs v.red hq ha (.conv (il w) d (h2.inst ha))
 | fst h r ih => intro w; exact .fst ((ih w).frm w r)
 | snd h r ih => intro w; exact .snd ((ih w).frm w r)
theorem Hd.ca {t u : Tm} {ξ : Nat → Nat} (h : Hd (t.ren ξ) u) : ∃ v, u = v.ren ξ ∧ Hd t v := by
 generalize e : t.ren ξ = x at h
 induction h generalizing t with
 | beta =>
  cases t <;> simp only [Tm.ren, reduceCtorEq, Tm.app.injEq] at e
  rename_i f a
  obtain ⟨e1, e2⟩ := e
  cases f <;> simp only [Tm.ren, reduceCtorEq, Tm.lam.injEq] at e1
  obtain ⟨_, e1⟩ := e1; subst e1 e2
  exact ⟨_, (fC _ _ _).symm, .beta⟩
 | ezero =>
  cases t <;> simp only [Tm.ren, reduceCtorEq, Tm.elim.injEq] at e
  rename_i p z s n
  obtain ⟨e1, e2, e3, e4⟩ := e
  cases n <;> simp only [Tm.ren, reduceCtorEq] at e4
  subst e2
  exact ⟨_, rfl, .ezero⟩
 | esucc =>
  cases t <;> simp only [Tm.ren, reduceCtorEq, Tm.elim.injEq] at e
  rename_i p z s n
  obtain ⟨e1, e2, e3, e4⟩ := e
  cases n <;> simp only [Tm.ren, reduceCtorEq, Tm.succ.injEq] at e4
  subst e1 e2 e3 e4
  exact ⟨Tm.app (Tm.app s _) (Tm.elim p z s _), rfl, .esucc⟩
 | mrefl =>
  cases t <;> simp only [Tm.ren, reduceCtorEq, Tm.move.injEq] at e
  rename_i p q x
  obtain ⟨e1, e2, e3⟩ := e
  cases q <;> simp only [Tm.ren, reduceCtorEq, Tm.refl.injEq] at e2
  subst e3
  exact ⟨_, rfl, .mrefl⟩
 | fpair =>
  cases t <;> simp only [Tm.ren, reduceCtorEq, Tm.fst.injEq] at e
  rename_i q
  cases q <;> simp only [Tm.ren, reduceCtorEq, Tm.pair.injEq] at e
  obtain ⟨e1, e2, e3⟩ := e
  subst e2
  exact ⟨_, rfl, .fpair⟩
 | spair =>
  cases t <;> simp only [Tm.ren, reduceCtorEq, Tm.snd.injEq] at e
  rename_i q
  cases q <;> simp only [Tm.ren, reduceCtorEq, Tm.pair.injEq] at e
  obtain ⟨e1, e2, e3⟩ := e
  subst e3
  exact ⟨_, rfl, .spair⟩
 | app h ih =>
  cases t <;> simp only [Tm.ren, reduceCtorEq, Tm.app.injEq] at e
  obtain ⟨e1, e2⟩ := e; subst e2
  obtain ⟨v, rfl, hv⟩ := ih e1
  exact ⟨_, rfl, .app hv⟩
 | elim h ih =>
  cases t <;> simp only [Tm.ren, reduceCtorEq, Tm.elim.injEq] at e
  obtain ⟨e1, e2, e3, e4⟩ := e; subst e1 e2 e3
  obtain ⟨v, rfl, hv⟩ := ih e4
  exact ⟨_, rfl, .elim hv⟩
 | move h ih =>
  cases t <;> simp only [Tm.ren, reduceCtorEq, Tm.move.injEq] at e
  obtain ⟨e1, e2, e3⟩ := e; subst e1 e3
  obtain ⟨v, rfl, hv⟩ := ih e2
  exact ⟨_, rfl, .move hv⟩
 | fst h ih =>
  cases t <;> simp only [Tm.ren, reduceCtorEq, Tm.fst.injEq] at e
  obtain ⟨v, rfl, hv⟩ := ih e
  exact ⟨_, rfl, .fst hv⟩
 | snd h ih =>
  cases t <;> simp only [Tm.ren, reduceCtorEq, Tm.snd.injEq] at e
  obtain ⟨v, rfl, hv⟩ := ih e
  exact ⟨_, rfl, .snd hv⟩
theorem Wh.ca {t u : Tm} {ξ : Nat → Nat} (h : Wh (t.ren ξ) u) : ∃ v, u = v.ren ξ ∧ Wh t v := by
 generalize e : t.ren ξ = x at h
 induction h generalizing t with
 | nil => exact ⟨t, e.symm, .nil⟩
 | cons h _ ih =>
  subst e
  obtain ⟨v, rfl, hv⟩ := h.ca
  obtain ⟨v', rfl, hv'⟩ := ih rfl
  exact ⟨v', rfl, .cons hv hv'⟩
theorem Wh.Dg {t a b : Tm} {ξ : Nat → Nat} (h : Wh (t.ren ξ) (Tm.pi a b)) : ∃ a' b', a = a'.ren ξ ∧ b = b'.ren (up ξ) ∧ Wh t (Tm.pi a' b') := by
 obtain ⟨v, e, hv⟩ := h.ca
 cases v <;> simp only [Tm.ren, reduceCtorEq, Tm.pi.injEq] at e
 obtain ⟨rfl, rfl⟩ := e; exact ⟨_, _, rfl, rfl, hv⟩
theorem Wh.xn {t a b : Tm} {ξ : Nat → Nat} (h : Wh (t.ren ξ) (Tm.sig a b)) : ∃ a' b', a = a'.ren ξ ∧ b = b'.ren (up ξ) ∧ Wh t (Tm.sig a' b') := by
 obtain ⟨v, e, hv⟩ := h.ca
 cases v <;> simp only [Tm.ren, reduceCtorEq, Tm.sig.injEq] at e
 obtain ⟨rfl, rfl⟩ := e; exact ⟨_, _, rfl, rfl, hv⟩
theorem Wh.me {t a b c : Tm} {ξ : Nat → Nat} (h : Wh (t.ren ξ) (Tm.id a b c)) : ∃ a' b' c', a = a'.ren ξ ∧ b = b'.ren ξ ∧ c = c'.ren ξ ∧ Wh t (Tm.id a' b' c') := by
 obtain ⟨v, e, hv⟩ := h.ca
 cases v <;> simp only [Tm.ren, reduceCtorEq, Tm.id.injEq] at e
 obtain ⟨rfl, rfl, rfl⟩ := e; exact ⟨_, _, _, rfl, rfl, rfl, hv⟩
theorem Wh.dS {t : Tm} {i : Nat} {ξ : Nat → Nat} (h : Wh (t.ren ξ) (Tm.sort i)) : Wh t (Tm.sort i) := by
 obtain ⟨v, e, hv⟩ := h.ca
 cases v <;> simp only [Tm.ren, reduceCtorEq, Tm.sort.injEq] at e
 subst e; exact hv
theorem Conv.ca {a b : Tm} {ξ η : Nat → Nat} (he : ∀ n, η (ξ n) = n) (h : Conv (a.ren ξ) (b.ren ξ)) : Conv a b := by
 have := h.ren η
 rw [ga, ga, show (fun n => η (ξ n)) = fun n => n from funext he, Tm.me, Tm.me] at this
 exact this
def wM (ξ : Nat → Nat) (G D : List Tm) : Prop := ∀ n, look D (ξ n) = (look G n).map (·.ren ξ)
theorem wM.up {ξ : Nat → Nat} {G D : List Tm} (h : wM ξ G D) (A : Tm) : wM (up ξ) (A :: G) (A.ren ξ :: D) := by
 intro n
 cases n with
 | zero => show some (A.ren ξ).wk = some (A.wk.ren (Tm.up ξ)); rw [Cs]
 | succ n =>
  show (look D (ξ n)).map wk = ((look G n).map wk).map _
  rw [h n]
  cases look G n with
  | none => rfl
  | some C => simp only [Option.map_some, Cs]
theorem wM.wk (G : List Tm) (A : Tm) : wM (· + 1) G (A :: G) := fun n => rfl
theorem yg {ξ η : Nat → Nat} (he : ∀ n, η (ξ n) = n) : ∀ n, up η (up ξ n) = n := by
 intro n; cases n with
 | zero => rfl
 | succ n => show η (ξ n) + 1 = _; rw [he]
theorem Al.ca {D : List Tm} {x T : Tm} (h : Al D x T) : ∀ {t : Tm} {ξ η : Nat → Nat} {G : List Tm}, x = t.ren ξ → wM ξ G D → (∀ n, η (ξ n) = n) → ∃ T', T = T'.ren ξ ∧ Al G t T' := by
 induction h with
 | var h =>
  intro t ξ η G e hr he
  cases t <;> simp only [Tm.ren, reduceCtorEq, Tm.var.injEq] at e
  rename_i n
  subst e
  rw [hr n] at h
  obtain ⟨C, hC, rfl⟩ := Option.map_eq_some_iff.1 h
  exact ⟨C, rfl, .var hC⟩
 | sort h =>
  intro t ξ η G e hr he
  cases t <;> simp only [Tm.ren, reduceCtorEq, Tm.sort.injEq] at e
  subst e
  exact ⟨Tm.sort _, rfl, .sort h⟩
 | nat =>
  intro t ξ η G e hr he
  cases t <;> simp only [Tm.ren, reduceCtorEq] at e
  exact ⟨Tm.sort 0, rfl, .nat⟩
 | zero =>
  intro t ξ η G e hr he
  cases t <;> simp only [Tm.ren, reduceCtorEq] at e
  exact ⟨Tm.nat, rfl, .zero⟩
 | succ h c ih =>
  intro t ξ η G e hr he
  cases t <;> simp only [Tm.ren, reduceCtorEq, Tm.succ.injEq] at e
  obtain ⟨T', rfl, hT⟩ := ih e hr he
  exact ⟨Tm.nat, rfl, .succ hT (Conv.ca (b := Tm.nat) he c)⟩
 | pi h w k v ih ik =>
  intro t ξ η G e hr he
  cases t <;> simp only [Tm.ren, reduceCtorEq, Tm.pi.injEq] at e
  obtain ⟨rfl, e2⟩ := e
  obtain ⟨S, rfl, hS⟩ := ih rfl hr he
  obtain ⟨R, rfl, hR⟩ := ik e2 (hr.up _) (yg he)
  exact ⟨Tm.sort _, rfl, .pi hS w.dS hR v.dS⟩
 | sig h w k v ih ik =>
  intro t ξ η G e hr he
  cases t <;> simp only [Tm.ren, reduceCtorEq, Tm.sig.injEq] at e
  obtain ⟨rfl, e2⟩ := e
  obtain ⟨S, rfl, hS⟩ := ih rfl hr he
  obtain ⟨R, rfl, hR⟩ := ik e2 (hr.up _) (yg he)
  exact ⟨Tm.sort _, rfl, .sig hS w.dS hR v.dS⟩
 | lam h w k l v ih ik il =>
  intro t ξ η G e hr he
  cases t <;> simp only [Tm.ren, reduceCtorEq, Tm.lam.injEq] at e
  obtain ⟨rfl, e2⟩ := e
  obtain ⟨S, rfl, hS⟩ := ih rfl hr he
  obtain ⟨B, rfl, hB⟩ := ik e2 (hr.up _) (yg he)
  obtain ⟨R, rfl, hR⟩ := il rfl (hr.up _) (yg he)
  exact ⟨Tm.pi _ _, rfl, .lam hS w.dS hB hR v.dS⟩
 | app h w k c ih ik =>
  intro t ξ η G e hr he
  cases t <;> simp only [Tm.ren, reduceCtorEq, Tm.app.injEq] at e
  obtain ⟨e1, rfl⟩ := e
  obtain ⟨F, rfl, hF⟩ := ih e1 hr he
  obtain ⟨U, rfl, hU⟩ := ik rfl hr he
  obtain ⟨a', b', rfl, rfl, w'⟩ := w.Dg
  exact ⟨_, (fC _ _ _).symm, .app hF w' hU (Conv.ca he c)⟩
 | elim h w c v k d l e m f ih ik il im =>
  intro t ξ η G e' hr he
  cases t <;> simp only [Tm.ren, reduceCtorEq, Tm.elim.injEq] at e'
  obtain ⟨rfl, e2, e3, rfl⟩ := e'
  obtain ⟨P, rfl, hP⟩ := ih rfl hr he
  obtain ⟨a', b', rfl, rfl, w'⟩ := w.Dg
  obtain ⟨Z, rfl, hZ⟩ := ik e2 hr he
  obtain ⟨S, rfl, hS⟩ := il e3 hr he
  obtain ⟨N, rfl, hN⟩ := im rfl hr he
  rw [← pP] at e
  exact ⟨Tm.app _ _, rfl, .elim hP w' (Conv.ca (b := Tm.nat) he c) v.dS hZ (Conv.ca (b := Tm.app _ Tm.zero) he d) hS (Conv.ca he e) hN (Conv.ca (b := Tm.nat) he f)⟩
 | id h w k c l d ih ik il =>
  intro t ξ η G e hr he
  cases t <;> simp only [Tm.ren, reduceCtorEq, Tm.id.injEq] at e
  obtain ⟨rfl, e2, e3⟩ := e
  obtain ⟨S, rfl, hS⟩ := ih rfl hr he
  obtain ⟨A, rfl, hA⟩ := ik e2 hr he
  obtain ⟨B, rfl, hB⟩ := il e3 hr he
  exact ⟨Tm.sort _, rfl, .id hS w.dS hA (Conv.ca he c) hB (Conv.ca he d)⟩
 | refl h k w ih ik =>
  intro t ξ η G e hr he
  cases t <;> simp only [Tm.ren, reduceCtorEq, Tm.refl.injEq] at e
  subst e
  obtain ⟨A, rfl, hA⟩ := ih rfl hr he
  obtain ⟨S, rfl, hS⟩ := ik rfl hr he
  exact ⟨Tm.id _ _ _, rfl, .refl hA hS w.dS⟩
 | move h w k v c u l d ih ik il =>
  intro t ξ η G e hr he
  cases t <;> simp only [Tm.ren, reduceCtorEq, Tm.move.injEq] at e
  obtain ⟨rfl, e2, e3⟩ := e
  obtain ⟨Q, rfl, hQ⟩ := ih e2 hr he
  obtain ⟨a', b', c', rfl, rfl, rfl, w'⟩ := w.me
  obtain ⟨P, rfl, hP⟩ := ik rfl hr he
  obtain ⟨a2, b2, rfl, rfl, v'⟩ := v.Dg
  obtain ⟨X, rfl, hX⟩ := il e3 hr he
  exact ⟨Tm.app _ _, rfl, .move hQ w' hP v' (Conv.ca he c) u.dS hX (Conv.ca (b := Tm.app _ _) he d)⟩
 | pair h w v k c l d ih ik il =>
  intro t ξ η G e hr he
  cases t <;> simp only [Tm.ren, reduceCtorEq, Tm.pair.injEq] at e
  obtain ⟨rfl, rfl, e3⟩ := e
  obtain ⟨S, rfl, hS⟩ := ih rfl hr he
  obtain ⟨a', b', rfl, rfl, v'⟩ := v.xn
  obtain ⟨A, rfl, hA⟩ := ik rfl hr he
  obtain ⟨B, rfl, hB⟩ := il e3 hr he
  rw [← fC] at d
  exact ⟨_, rfl, .pair hS w.dS v' hA (Conv.ca he c) hB (Conv.ca he d)⟩
 | fst h w ih =>
  intro t ξ η G e hr he
  cases t <;> simp only [Tm.ren, reduceCtorEq, Tm.fst.injEq] at e
  obtain ⟨Q, rfl, hQ⟩ := ih e hr he
  obtain ⟨a', b', rfl, rfl, w'⟩ := w.xn
  exact ⟨_, rfl, .fst hQ w'⟩
 | snd h w ih =>
  intro t ξ η G e hr he
  cases t <;> simp only [Tm.ren, reduceCtorEq, Tm.snd.injEq] at e
  subst e
  obtain ⟨Q, rfl, hQ⟩ := ih rfl hr he
  obtain ⟨a', b', rfl, rfl, w'⟩ := w.xn
  exact ⟨_, (fC _ (Tm.fst _) _).symm, .snd hQ w'⟩
theorem Al.IU {G : List Tm} {A t T : Tm} (h : Al (A :: G) t.wk T) : ∃ T', T = T'.wk ∧ Al G t T' :=
 h.ca (η := Nat.pred) rfl (wM.wk G A) (fun n => rfl)
end Tm
end Go.Proofs.YtajlknlnmmbfcaaGreat
end
section
namespace Go.Proofs.YtajlknlnmmbfcaaGreat
namespace Tm
def Canon : Tm → Prop
 | var _ | app _ _ | elim _ _ _ _ | move _ _ _ | fst _ | snd _ => False
 | _ => True
def cn (t : Tm) : Prop := ∀ u, Wh t u → ¬ Canon u
theorem Canon.no {t u : Tm} (h : Canon t) (k : Hd t u) : False := by cases k <;> exact h
theorem Canon.wh {t u : Tm} (h : Canon t) (k : Wh t u) : u = t := by
 cases k with
 | nil => rfl
 | cons k _ => exact (h.no k).elim
theorem Wh.same {t u v : Tm} (h : Wh t u) (k : Wh t v) (cu : Canon u) (cv : Canon v) : u = v := by
 rcases h.two k with r | r
 ·exact (cu.wh r).symm
 ·exact cv.wh r
theorem Canon.par {t u : Tm} (h : Canon t) (k : Par t u) : Canon u := by cases k <;> first | exact h | trivial
theorem Canon.red {t u : Tm} (h : Canon t) (k : Red t u) : Canon u := by
 induction k with
 | nil => exact h
 | cons k _ ih => exact ih (h.par k)
theorem ST.canon {t u : Tm} (h : ST t u) (c : Canon u) : ∃ v, Wh t v ∧ Canon v := by
 cases h with
 | var w => exact (c : False).elim
 | sort w => exact ⟨_, w, trivial⟩
 | pi w => exact ⟨_, w, trivial⟩
 | lam w => exact ⟨_, w, trivial⟩
 | app w => exact (c : False).elim
 | nat w => exact ⟨_, w, trivial⟩
 | zero w => exact ⟨_, w, trivial⟩
 | succ w => exact ⟨_, w, trivial⟩
 | elim w => exact (c : False).elim
 | id w => exact ⟨_, w, trivial⟩
 | refl w => exact ⟨_, w, trivial⟩
 | move w => exact (c : False).elim
 | sig w => exact ⟨_, w, trivial⟩
 | pair w => exact ⟨_, w, trivial⟩
 | fst w => exact (c : False).elim
 | snd w => exact (c : False).elim
theorem cn.conv {t u : Tm} (h : cn t) (c : Conv t u) : cn u := by
 intro v w k
 obtain ⟨x, h1, h2⟩ := c.trans w.conv
 obtain ⟨y, hy, cy⟩ := (h1.st).canon (k.red h2)
 exact h y hy cy
theorem cn.exp {t u : Tm} (w : Wh t u) (h : cn u) : cn t := h.conv w.conv.symm
theorem cn.red {t u : Tm} (w : Wh t u) (h : cn t) : cn u := fun v k c => h v (w.trans k) c
theorem cn.var (n : Nat) : cn (Tm.var n) := by
 intro u w c
 cases w with
 | nil => exact c
 | cons h _ => cases h
theorem cn.no {t u : Tm} (h : cn t) (k : Hd t u) : cn u := h.red (.cons k .nil)
theorem cn.app {f : Tm} (h : cn f) (u : Tm) : cn (Tm.app f u) := by
 have : ∀ {x y}, Wh x y → ∀ f, x = Tm.app f u → cn f → ¬ Canon y := by
  intro x y w
  induction w with
  | nil => intro f e hf; subst e; exact fun h => h
  | cons k _ ih => intro f e hf; subst e; cases k with
   | beta => exact (hf _ .nil trivial).elim
   | app k => exact ih _ rfl (hf.no k)
 exact fun y w => this w f rfl h
theorem cn.elim {n : Tm} (h : cn n) (p z s : Tm) : cn (Tm.elim p z s n) := by
 have : ∀ {x y}, Wh x y → ∀ n, x = Tm.elim p z s n → cn n → ¬ Canon y := by
  intro x y w
  induction w with
  | nil => intro f e hf; subst e; exact fun h => h
  | cons k _ ih => intro f e hf; subst e; cases k with
   | ezero => exact (hf _ .nil trivial).elim
   | esucc => exact (hf _ .nil trivial).elim
   | elim k => exact ih _ rfl (hf.no k)
 exact fun y w => this w n rfl h
theorem cn.move {e : Tm} (h : cn e) (p a : Tm) : cn (Tm.move p e a) := by
 have : ∀ {x y}, Wh x y → ∀ e, x = Tm.move p e a → cn e → ¬ Canon y := by
  intro x y w
  induction w with
  | nil => intro f e hf; subst e; exact fun h => h
  | cons k _ ih => intro f e hf; subst e; cases k with
   | mrefl => exact (hf _ .nil trivial).elim
   | move k => exact ih _ rfl (hf.no k)
 exact fun y w => this w e rfl h
theorem cn.fst {e : Tm} (h : cn e) : cn (Tm.fst e) := by
 have : ∀ {x y}, Wh x y → ∀ e, x = Tm.fst e → cn e → ¬ Canon y := by
  intro x y w
  induction w with
  | nil => intro f e hf; subst e; exact fun h => h
  | cons k _ ih => intro f e hf; subst e; cases k with
   | fpair => exact (hf _ .nil trivial).elim
   | fst k => exact ih _ rfl (hf.no k)
 exact fun y w => this w e rfl h
theorem cn.snd {e : Tm} (h : cn e) : cn (Tm.snd e) := by
 have : ∀ {x y}, Wh x y → ∀ e, x = Tm.snd e → cn e → ¬ Canon y := by
  intro x y w
  induction w with
  | nil => intro f e hf; subst e; exact fun h => h
  | cons k _ ih => intro f e hf; subst e; cases k with
   | spair => exact (hf _ .nil trivial).elim
   | snd k => exact ih _ rfl (hf.no k)
 exact fun y w => this w e rfl h
theorem Conv.jL {A C B : Tm} (c : Conv A (Tm.pi C B)) : ∃ C' B', Wh A (Tm.pi C' B') ∧ Conv C' C ∧ Conv B' B := by
 obtain ⟨x, h1, h2⟩ := c
 obtain ⟨a, b, rfl, r1, r2⟩ := h2.iz
 cases h1.st with
 | pi w h k => exact ⟨_, _, w, ⟨a, h.red, r1⟩, ⟨b, k.red, r2⟩⟩
theorem Conv.iy {A C B : Tm} (c : Conv A (Tm.sig C B)) : ∃ C' B', Wh A (Tm.sig C' B') ∧ Conv C' C ∧ Conv B' B := by
 obtain ⟨x, h1, h2⟩ := c
 obtain ⟨a, b, rfl, r1, r2⟩ := h2.eY
 cases h1.st with
 | sig w h k => exact ⟨_, _, w, ⟨a, h.red, r1⟩, ⟨b, k.red, r2⟩⟩
theorem Conv.gf {A t y z : Tm} (c : Conv A (Tm.id t y z)) : ∃ t' y' z', Wh A (Tm.id t' y' z') ∧ Conv t' t ∧ Conv y' y ∧ Conv z' z := by
 obtain ⟨x, h1, h2⟩ := c
 obtain ⟨a, b, d, rfl, r1, r2, r3⟩ := h2.iZ
 cases h1.st with
 | id w h k l => exact ⟨_, _, _, w, ⟨a, h.red, r1⟩, ⟨b, k.red, r2⟩, ⟨d, l.red, r3⟩⟩
theorem Conv.xp {A : Tm} {i : Nat} (c : Conv A (Tm.sort i)) : Wh A (Tm.sort i) := by
 obtain ⟨x, h1, h2⟩ := c
 have := h2.dR; subst this
 cases h1.st with
 | sort w => exact w
theorem Conv.HW {A : Tm} (c : Conv A Tm.nat) : Wh A Tm.nat := by
 obtain ⟨x, h1, h2⟩ := c
 have := h2.Db; subst this
 cases h1.st with
 | nat w => exact w
section LR
structure Clo (E : Tm → Prop) (G : List Tm) : Prop where
 var : ∀ n, E (Tm.var n)
 sort : ∀ n, E (Tm.sort n)
 nat : E Tm.nat
 zero : E Tm.zero
 succ : ∀ {n}, E n → E (Tm.succ n)
 pi : ∀ {a b}, E a → E (Tm.pi a b)
 sig : ∀ {a b}, E a → E (Tm.sig a b)
 lam : ∀ {a b}, E a → E (Tm.lam a b)
 app : ∀ {f u}, E f → E u → E (Tm.app f u)
 elim : ∀ {p z s n}, E p → E z → E s → E n → E (Tm.elim p z s n)
 id : ∀ {t a b}, E t → E a → E b → E (Tm.id t a b)
 refl : ∀ {a}, E a → (∀ A, Al G a A → E A) → E (Tm.refl a)
 move : ∀ {p e x}, E p → E e → E x → E (Tm.move p e x)
 pair : ∀ {s a b}, E s → E a → E b → E (Tm.pair s a b)
 fst : ∀ {q}, E q → E (Tm.fst q)
 snd : ∀ {q}, E q → E (Tm.snd q)
variable (E : Tm → Prop) (G : List Tm)
abbrev Pr := Tm → Prop
def Bs (X : Pr) (t : Tm) : Prop := E t ∧ ∀ T, Al G t T → X T
inductive HI : Tm → Prop
 | zero {t} (b : Bs E G E t) (w : Wh t zero) : HI t
 | succ {t m} (b : Bs E G E t) (w : Wh t (succ m)) (h : HI m) : HI t
 | stuck {t} (b : Bs E G E t) (s : cn t) : HI t
def PiG (SC GC : Pr) (GB : Tm → Pr) (X : Tm) : Prop := E X ∧ ∀ C B, Wh X (pi C B) → GC C ∧ ∀ u, SC u → GB u (B.inst u)
def JL (SC GC : Pr) (GB : Tm → Pr) (X : Tm) : Prop := E X ∧ ∀ C B, Wh X (sig C B) → GC C ∧ ∀ u, SC u → GB u (B.inst u)
def IdG (ST GT : Pr) (y z : Tm) (X : Tm) : Prop := E X ∧ ∀ t' y' z', Wh X (id t' y' z') → GT t' ∧ ST y' ∧ ST z' ∧ Conv y' y ∧ Conv z' z
def IdF (y z e : Tm) : Prop := (∃ a, Wh e (refl a) ∧ Conv a y ∧ Conv a z) ∨ cn e
inductive Sem (l : Nat) (U : Nat → Pr) : Tm → Pr → Pr → Prop
 | nat {A} (w : Wh A nat) : Sem l U A (HI E G) E
 | sort {A i} (h : i < l) (w : Wh A (sort i)) : Sem l U A (fun t => Bs E G E t ∧ U i t) E
 | stuck {A} (h : cn A) : Sem l U A (Bs E G E) E
 | pi {A C B SC GC} {SB GB : Tm → Pr} (w : Wh A (pi C B)) (hC : Sem l U C SC GC) (hB : ∀ u, SC u → Sem l U (B.inst u) (SB u) (GB u)) :
    Sem l U A (fun f => Bs E G (PiG E SC GC GB) f ∧ ∀ u, SC u → SB u (app f u)) (PiG E SC GC GB)
 | sig {A C B SC GC} {SB GB : Tm → Pr} (w : Wh A (sig C B)) (hC : Sem l U C SC GC) (hB : ∀ u, SC u → Sem l U (B.inst u) (SB u) (GB u)) :
    Sem l U A (fun q => Bs E G (JL E SC GC GB) q ∧ SC (fst q) ∧ SB (fst q) (snd q)) (JL E SC GC GB)
 | id {A t y z ST GT} (w : Wh A (id t y z)) (hT : Sem l U t ST GT) :
    Sem l U A (fun e => Bs E G (IdG E ST GT y z) e ∧ IdF y z e) (IdG E ST GT y z)
variable {E G}
theorem dw {X Y : Pr} (h : ∀ t, X t ↔ Y t) (t : Tm) : Bs E G X t ↔ Bs E G Y t :=
 ⟨fun b => ⟨b.1, fun T k => (h T).1 (b.2 T k)⟩, fun b => ⟨b.1, fun T k => (h T).2 (b.2 T k)⟩⟩
theorem Sem.det {l : Nat} {U : Nat → Pr} {A : Tm} {S X : Pr} (h : Sem E G l U A S X) : ∀ {S' X'}, Sem E G l U A S' X' → (∀ t, S t ↔ S' t) ∧ ∀ t, X t ↔ X' t := by
 induction h with
 | nat w =>
  intro S' X' k
  cases k with
  | nat w' => exact ⟨fun _ => .rfl, fun _ => .rfl⟩
  | sort h w' => cases w.same w' trivial trivial
  | stuck h => exact (h _ w trivial).elim
  | pi w' => cases w.same w' trivial trivial
  | sig w' => cases w.same w' trivial trivial
  | id w' => cases w.same w' trivial trivial
 | sort h w =>
  intro S' X' k
  cases k with
  | nat w' => cases w.same w' trivial trivial
  | sort h w' => cases w.same w' trivial trivial; exact ⟨fun _ => .rfl, fun _ => .rfl⟩
  | stuck h => exact (h _ w trivial).elim
  | pi w' => cases w.same w' trivial trivial
  | sig w' => cases w.same w' trivial trivial
  | id w' => cases w.same w' trivial trivial
 | stuck h =>
  intro S' X' k
  cases k with
  | nat w' => exact (h _ w' trivial).elim
  | sort h' w' => exact (h _ w' trivial).elim
  | stuck h => exact ⟨fun _ => .rfl, fun _ => .rfl⟩
  | pi w' => exact (h _ w' trivial).elim
  | sig w' => exact (h _ w' trivial).elim
  | id w' => exact (h _ w' trivial).elim
 | pi w hC hB ih ik =>
  intro S' X' k
  cases k with
  | nat w' => cases w.same w' trivial trivial
  | sort h w' => cases w.same w' trivial trivial
  | stuck h => exact (h _ w trivial).elim
  | sig w' => cases w.same w' trivial trivial
  | id w' => cases w.same w' trivial trivial
  | pi w' hC' hB' =>
   cases w.same w' trivial trivial
   obtain ⟨e1, e2⟩ := ih hC'
   have e3 : ∀ t, PiG E _ _ _ t ↔ PiG E _ _ _ t := fun t =>
    ⟨fun b => ⟨b.1, fun C B k => ⟨(e2 C).1 (b.2 C B k).1, fun u hu => ((ik u ((e1 u).2 hu) (hB' u hu)).2 _).1 ((b.2 C B k).2 u ((e1 u).2 hu))⟩⟩,
     fun b => ⟨b.1, fun C B k => ⟨(e2 C).2 (b.2 C B k).1, fun u hu => ((ik u hu (hB' u ((e1 u).1 hu))).2 _).2 ((b.2 C B k).2 u ((e1 u).1 hu))⟩⟩⟩
   exact ⟨fun t => ⟨fun b => ⟨(dw e3 t).1 b.1, fun u hu => ((ik u ((e1 u).2 hu) (hB' u hu)).1 _).1 (b.2 u ((e1 u).2 hu))⟩,
    fun b => ⟨(dw e3 t).2 b.1, fun u hu => ((ik u hu (hB' u ((e1 u).1 hu))).1 _).2 (b.2 u ((e1 u).1 hu))⟩⟩, e3⟩
 | sig w hC hB ih ik =>
  intro S' X' k
  cases k with
  | nat w' => cases w.same w' trivial trivial
  | sort h w' => cases w.same w' trivial trivial
  | stuck h => exact (h _ w trivial).elim
  | pi w' => cases w.same w' trivial trivial
  | id w' => cases w.same w' trivial trivial
  | sig w' hC' hB' =>
   cases w.same w' trivial trivial
   obtain ⟨e1, e2⟩ := ih hC'
   have e3 : ∀ t, JL E _ _ _ t ↔ JL E _ _ _ t := fun t =>
    ⟨fun b => ⟨b.1, fun C B k => ⟨(e2 C).1 (b.2 C B k).1, fun u hu => ((ik u ((e1 u).2 hu) (hB' u hu)).2 _).1 ((b.2 C B k).2 u ((e1 u).2 hu))⟩⟩,
     fun b => ⟨b.1, fun C B k => ⟨(e2 C).2 (b.2 C B k).1, fun u hu => ((ik u hu (hB' u ((e1 u).1 hu))).2 _).2 ((b.2 C B k).2 u ((e1 u).1 hu))⟩⟩⟩
   exact ⟨fun t => ⟨fun b => ⟨(dw e3 t).1 b.1, (e1 _).1 b.2.1, ((ik _ b.2.1 (hB' _ ((e1 _).1 b.2.1))).1 _).1 b.2.2⟩,
    fun b => ⟨(dw e3 t).2 b.1, (e1 _).2 b.2.1, ((ik _ ((e1 _).2 b.2.1) (hB' _ b.2.1)).1 _).2 b.2.2⟩⟩, e3⟩
 | @id A t y z ST GT w hT ih =>
  intro S' X' k
  cases k with
  | nat w' => cases w.same w' trivial trivial
  | sort h w' => cases w.same w' trivial trivial
  | stuck h => exact (h _ w trivial).elim
  | pi w' => cases w.same w' trivial trivial
  | sig w' => cases w.same w' trivial trivial
  | @id _ _ _ _ ST' GT' w' hT' =>
   cases w.same w' trivial trivial
   obtain ⟨e1, e2⟩ := ih hT'
   have e3 : ∀ t, IdG E ST GT y z t ↔ IdG E ST' GT' y z t := fun t =>
    ⟨fun b => ⟨b.1, fun x y z k => let g := b.2 x y z k; ⟨(e2 _).1 g.1, (e1 _).1 g.2.1, (e1 _).1 g.2.2.1, g.2.2.2⟩⟩,
     fun b => ⟨b.1, fun x y z k => let g := b.2 x y z k; ⟨(e2 _).2 g.1, (e1 _).2 g.2.1, (e1 _).2 g.2.2.1, g.2.2.2⟩⟩⟩
   exact ⟨fun t => ⟨fun b => ⟨(dw e3 t).1 b.1, b.2⟩, fun b => ⟨(dw e3 t).2 b.1, b.2⟩⟩, e3⟩
theorem Sem.conv {l : Nat} {U : Nat → Pr} {A : Tm} {S X : Pr} (h : Sem E G l U A S X) : ∀ {A'}, Conv A A' → Sem E G l U A' S X := by
 induction h with
 | nat w => intro A' c; exact .nat (c.symm.trans w.conv).HW
 | sort h w => intro A' c; exact .sort h (c.symm.trans w.conv).xp
 | stuck h => intro A' c; exact .stuck (h.conv c)
 | pi w hC hB ih ik =>
  intro A' c
  obtain ⟨C', B', w', c1, c2⟩ := (c.symm.trans w.conv).jL
  exact .pi w' (ih c1.symm) (fun u hu => ik u hu (Conv.inst c2.symm .bq))
 | sig w hC hB ih ik =>
  intro A' c
  obtain ⟨C', B', w', c1, c2⟩ := (c.symm.trans w.conv).iy
  exact .sig w' (ih c1.symm) (fun u hu => ik u hu (Conv.inst c2.symm .bq))
 | @id A t y z ST GT w hT ih =>
  intro A' c
  obtain ⟨t', y', z', w', c1, c2, c3⟩ := (c.symm.trans w.conv).gf
  have k := Sem.id (E := E) (G := G) (l := l) (U := U) w' (ih c1.symm)
  have e3 : IdG E ST GT y' z' = IdG E ST GT y z := by
   funext t
   exact propext ⟨fun b => ⟨b.1, fun x y z k => let g := b.2 x y z k; ⟨g.1, g.2.1, g.2.2.1, g.2.2.2.1.trans c2, g.2.2.2.2.trans c3⟩⟩,
     fun b => ⟨b.1, fun x y z k => let g := b.2 x y z k; ⟨g.1, g.2.1, g.2.2.1, g.2.2.2.1.trans c2.symm, g.2.2.2.2.trans c3.symm⟩⟩⟩
  rw [e3] at k
  have e4 : (fun e => Bs E G (IdG E ST GT y z) e ∧ IdF y' z' e) = fun e => Bs E G (IdG E ST GT y z) e ∧ IdF y z e := by
   funext e
   exact propext ⟨fun b => ⟨b.1, b.2.imp (fun ⟨a, k⟩ => ⟨a, k.1, k.2.1.trans c2, k.2.2.trans c3⟩) (fun h => h)⟩, fun b => ⟨b.1, b.2.imp (fun ⟨a, k⟩ => ⟨a, k.1, k.2.1.trans c2.symm, k.2.2.trans c3.symm⟩) (fun h => h)⟩⟩
  rw [e4] at k
  exact k
theorem Sem.bs {l : Nat} {U : Nat → Pr} {A : Tm} {S X : Pr} (h : Sem E G l U A S X) {t : Tm} (k : S t) : Bs E G X t := by
 cases h with
 | nat w => cases k <;> assumption
 | sort h w => exact k.1
 | stuck h => exact k
 | pi w hC hB => exact k.1
 | sig w hC hB => exact k.1
 | id w hT => exact k.1
theorem Sem.ends {l : Nat} {U : Nat → Pr} {A : Tm} {S X : Pr} (h : Sem E G l U A S X) {t : Tm} (k : X t) : E t := by
 cases h with
 | nat w => exact k
 | sort h w => exact k
 | stuck h => exact k
 | pi w hC hB => exact k.1
 | sig w hC hB => exact k.1
 | id w hT => exact k.1
variable (E G) in
def Vs : Nat → Nat → Pr
 | 0, _, _ => False
 | l + 1, i, t => (i = l ∧ ∃ S X, Sem E G l (Vs l) t S X ∧ X t) ∨ (i < l ∧ Vs l i t)
theorem kn : ∀ {l i : Nat} {t : Tm}, i < l → (Vs E G l i t ↔ ∃ S X, Sem E G i (Vs E G i) t S X ∧ X t)
 | l + 1, i, t, h => by
  by_cases e : i = l
  ·subst e
   exact ⟨fun k => by
    rcases k with k | k
    ·exact k.2
    ·omega, fun k => .inl ⟨rfl, k⟩⟩
  ·have h' : i < l := by omega
   rw [← kn h']
   exact ⟨fun k => by
    rcases k with k | k
    ·exact absurd k.1 e
    ·exact k.2, fun k => .inr ⟨h', k⟩⟩
theorem Sem.up {l m : Nat} (hm : l ≤ m) {A : Tm} {S X : Pr} (h : Sem E G l (Vs E G l) A S X) : Sem E G m (Vs E G m) A S X := by
 induction h with
 | nat w => exact .nat w
 | @sort A i h w =>
  have e : (fun t => Bs E G E t ∧ Vs E G l i t) = fun t => Bs E G E t ∧ Vs E G m i t := by
   funext t; rw [propext (kn (E := E) (G := G) (t := t) h), propext (kn (E := E) (G := G) (t := t) (show i < m by omega))]
  rw [e]
  exact .sort (by omega) w
 | stuck h => exact .stuck h
 | pi w hC hB ih ik => exact .pi w ih ik
 | sig w hC hB ih ik => exact .sig w ih ik
 | id w hT ih => exact .id w ih
end LR
end Tm
end Go.Proofs.YtajlknlnmmbfcaaGreat
end
section
namespace Go.Proofs.YtajlknlnmmbfcaaGreat
namespace Tm
variable {E : Tm → Prop} {G : List Tm}
theorem Sem.stk (cl : Clo E G) {l : Nat} {U : Nat → Pr} (hU : ∀ i, i < l → ∀ t, E t → cn t → U i t) {A : Tm} {S X : Pr} (h : Sem E G l U A S X) : ∀ {t}, cn t → Bs E G X t → S t := by
 induction h with
 | nat w => intro t s b; exact .stuck b s
 | sort h w => intro t s b; exact ⟨b, hU _ h t b.1 s⟩
 | stuck h => intro t s b; exact b
 | pi w hC hB ih ik =>
  intro t s b
  refine ⟨b, fun u hu => ik u hu (s.app u) ⟨cl.app b.1 (hC.bs hu).1, fun T a => ?_⟩⟩
  cases a with
  | app h w k c => exact ((b.2 _ h).2 _ _ w).2 u hu
 | sig w hC hB ih ik =>
  intro t s b
  have h1 := ih s.fst ⟨cl.fst b.1, fun T a => by
   cases a with
   | fst h w => exact ((b.2 _ h).2 _ _ w).1⟩
  refine ⟨b, h1, ik _ h1 s.snd ⟨cl.snd b.1, fun T a => ?_⟩⟩
  cases a with
  | snd h w => exact ((b.2 _ h).2 _ _ w).2 _ h1
 | id w hT ih => intro t s b; exact ⟨b, .inr s⟩
theorem Sem.exp (cl : Clo E G) {l : Nat} {U : Nat → Pr} (hU : ∀ i, i < l → ∀ t t', E t → Wh t t' → U i t' → U i t) {A : Tm} {S X : Pr} (h : Sem E G l U A S X) : ∀ {t t'}, Wh t t' → S t' → Bs E G X t → S t := by
 induction h with
 | nat w =>
  intro t t' r s b
  cases s with
  | zero _ w => exact .zero b (r.trans w)
  | succ _ w h => exact .succ b (r.trans w) h
  | stuck _ s => exact .stuck b (s.exp r)
 | sort h w => intro t t' r s b; exact ⟨b, hU _ h t t' b.1 r s.2⟩
 | stuck h => intro t t' r s b; exact b
 | pi w hC hB ih ik =>
  intro t t' r s b
  refine ⟨b, fun u hu => ik u hu (r.app u) (s.2 u hu) ⟨cl.app b.1 (hC.bs hu).1, fun T a => ?_⟩⟩
  cases a with
  | app h w k c => exact ((b.2 _ h).2 _ _ w).2 u hu
 | @sig A C B SC GC SB GB w hC hB ih ik =>
  intro t t' r s b
  have h1 := ih r.fst s.2.1 ⟨cl.fst b.1, fun T a => by
   cases a with
   | fst h w => exact ((b.2 _ h).2 _ _ w).1⟩
  have e := (hB _ h1).det ((hB _ s.2.1).conv (Conv.inst .bq r.fst.conv.symm))
  refine ⟨b, h1, ik _ h1 r.snd ((e.1 _).2 s.2.2) ⟨cl.snd b.1, fun T a => ?_⟩⟩
  cases a with
  | snd h w => exact ((b.2 _ h).2 _ _ w).2 _ h1
 | id w hT ih => intro t t' r s b; exact ⟨b, s.2.imp (fun ⟨a, k⟩ => ⟨a, r.trans k.1, k.2⟩) (fun h => h.exp r)⟩
variable (E G) in
abbrev M (A : Tm) (S X : Pr) : Prop := Sem E G 4 (Vs E G 4) A S X
variable (E G) in
def Ok (A : Tm) : Prop := ∃ S X, M E G A S X
variable (E G) in
def el (A t : Tm) : Prop := ∃ S X, M E G A S X ∧ S t
variable (E G) in
def gd (A t : Tm) : Prop := ∃ S X, M E G A S X ∧ X t
theorem M.el {A : Tm} {S X : Pr} (h : M E G A S X) (t : Tm) : S t ↔ el E G A t :=
 ⟨fun k => ⟨S, X, h, k⟩, fun ⟨S', X', h', k⟩ => ((h.det h').1 t).2 k⟩
theorem M.gd {A : Tm} {S X : Pr} (h : M E G A S X) (t : Tm) : X t ↔ gd E G A t :=
 ⟨fun k => ⟨S, X, h, k⟩, fun ⟨S', X', h', k⟩ => ((h.det h').2 t).2 k⟩
theorem Ok.m {A : Tm} (h : Ok E G A) : M E G A (el E G A) (gd E G A) := by
 obtain ⟨S, X, h⟩ := h
 have e1 : S = Tm.el E G A := funext fun t => propext (M.el h t)
 have e2 : X = Tm.gd E G A := funext fun t => propext (M.gd h t)
 rw [← e1, ← e2]; exact h
theorem el.ok {A t : Tm} (h : el E G A t) : Ok E G A := let ⟨S, X, h, _⟩ := h; ⟨S, X, h⟩
theorem gd.ok {A t : Tm} (h : gd E G A t) : Ok E G A := let ⟨S, X, h, _⟩ := h; ⟨S, X, h⟩
theorem el.bs {A t : Tm} (h : el E G A t) : Bs E G (gd E G A) t := (h.ok.m).bs h
theorem gd.ends {A t : Tm} (h : gd E G A t) : E t := (h.ok.m).ends h
theorem Ok.conv {A B : Tm} (h : Ok E G A) (c : Conv A B) : Ok E G B := ⟨_, _, h.m.conv c⟩
theorem el.conv {A B t : Tm} (h : el E G A t) (c : Conv A B) : el E G B t := ⟨_, _, h.ok.m.conv c, h⟩
theorem gd.conv {A B t : Tm} (h : gd E G A t) (c : Conv A B) : gd E G B t := ⟨_, _, h.ok.m.conv c, h⟩
theorem vs4 {i : Nat} {t : Tm} (h : i < 4) (k : Vs E G 4 i t) : Ok E G t ∧ gd E G t t := by
 obtain ⟨S, X, h1, h2⟩ := (kn h).1 k
 have := h1.up (show i ≤ 4 by omega)
 exact ⟨⟨S, X, this⟩, ⟨S, X, this, h2⟩⟩
theorem Ek {l i : Nat} (h : i < l) {t : Tm} (e : E t) (s : cn t) : Vs E G l i t := (kn h).2 ⟨_, _, .stuck s, e⟩
theorem Sem.El {l : Nat} {U : Nat → Pr} {A : Tm} {S X : Pr} (h : Sem E G l U A S X) {t t' : Tm} (e : E t) (w : Wh t t') (k : X t') : X t := by
 cases h with
 | nat _ => exact e
 | sort _ _ => exact e
 | stuck _ => exact e
 | pi _ hC hB =>
  refine ⟨e, fun C B r => ?_⟩
  rcases w.two r with q | q
  ·exact k.2 C B q
  ·have := (show Canon (Tm.pi C B) from trivial).wh q; subst this
   exact k.2 C B .nil
 | sig _ hC hB =>
  refine ⟨e, fun C B r => ?_⟩
  rcases w.two r with q | q
  ·exact k.2 C B q
  ·have := (show Canon (Tm.sig C B) from trivial).wh q; subst this
   exact k.2 C B .nil
 | id _ hT =>
  refine ⟨e, fun x y z r => ?_⟩
  rcases w.two r with q | q
  ·exact k.2 x y z q
  ·have := (show Canon (Tm.id x y z) from trivial).wh q; subst this
   exact k.2 x y z .nil
theorem IV {l i : Nat} (h : i < l) {t t' : Tm} (e : E t) (w : Wh t t') (k : Vs E G l i t') : Vs E G l i t := by
 obtain ⟨S, X, h1, h2⟩ := (kn h).1 k
 exact (kn h).2 ⟨S, X, h1.conv w.conv.symm, h1.El e w h2⟩
theorem rp (cl : Clo E G) {A t : Tm} (h : Ok E G A) (s : cn t) (b : Bs E G (gd E G A) t) : el E G A t :=
 h.m.stk cl (fun i hi t e s => Ek hi e s) s b
theorem p9 (cl : Clo E G) {A t t' : Tm} (w : Wh t t') (k : el E G A t') (b : Bs E G (gd E G A) t) : el E G A t :=
 k.ok.m.exp cl (fun i hi t t' e w k => IV hi e w k) w k b
theorem Fs {t : Tm} : gd E G nat t ↔ E t := (M.gd (.nat .nil) t).symm
theorem nI {i : Nat} (h : i ≤ 3) {t : Tm} : gd E G (sort i) t ↔ E t := (M.gd (.sort (by omega) .nil) t).symm
theorem kQ {t : Tm} : el E G nat t ↔ HI E G t := (M.el (.nat .nil) t).symm
theorem wT {i : Nat} (h : i ≤ 3) {t : Tm} : el E G (sort i) t ↔ Bs E G E t ∧ Vs E G 4 i t := (M.el (.sort (by omega) .nil) t).symm
theorem ch {i : Nat} {t : Tm} (k : el E G (sort i) t) : i ≤ 3 := by
 obtain ⟨S, X, h, _⟩ := k
 cases h with
 | nat w => cases w with | cons h _ => cases h
 | sort h w => cases (show Canon (sort i) from trivial).wh w; omega
 | stuck h => exact (h _ .nil trivial).elim
 | pi w => cases w with | cons h _ => cases h
 | sig w => cases w with | cons h _ => cases h
 | id w => cases w with | cons h _ => cases h
theorem bk {i : Nat} {t : Tm} (k : el E G (sort i) t) : Ok E G t ∧ gd E G t t :=
 vs4 (by have := ch k; omega) ((wT (ch k)).1 k).2
theorem iz {C B : Tm} (h : Ok E G (pi C B)) : Ok E G C ∧ (∀ u, el E G C u → Ok E G (B.inst u)) ∧
   (∀ f, el E G (pi C B) f ↔ Bs E G (gd E G (pi C B)) f ∧ ∀ u, el E G C u → el E G (B.inst u) (app f u)) ∧
   (∀ X, gd E G (pi C B) X ↔ E X ∧ ∀ C' B', Wh X (pi C' B') → gd E G C C' ∧ ∀ u, el E G C u → gd E G (B.inst u) (B'.inst u)) := by
 obtain ⟨S, X, h⟩ := h
 have h0 := h
 cases h with
 | nat w => cases w with | cons h _ => cases h
 | sort _ w => cases w with | cons h _ => cases h
 | stuck h => exact (h _ .nil trivial).elim
 | sig w => cases w with | cons h _ => cases h
 | id w => cases w with | cons h _ => cases h
 | pi w hC hB =>
  cases (show Canon (pi C B) from trivial).wh w
  have g : ∀ X, gd E G (pi C B) X ↔ E X ∧ ∀ C' B', Wh X (pi C' B') → gd E G C C' ∧ ∀ u, el E G C u → gd E G (B.inst u) (B'.inst u) := fun X => by
   rw [← M.gd h0 X]
   exact ⟨fun k => ⟨k.1, fun C' B' r => ⟨(M.gd hC _).1 (k.2 C' B' r).1, fun u hu => (M.gd (hB u ((M.el hC u).2 hu)) _).1 ((k.2 C' B' r).2 u ((M.el hC u).2 hu))⟩⟩,
    fun k => ⟨k.1, fun C' B' r => ⟨(M.gd hC _).2 (k.2 C' B' r).1, fun u hu => (M.gd (hB u hu) _).2 ((k.2 C' B' r).2 u ((M.el hC u).1 hu))⟩⟩⟩
  refine ⟨⟨_, _, hC⟩, fun u hu => ⟨_, _, hB u ((M.el hC u).2 hu)⟩, fun f => ?_, g⟩
  rw [← M.el h0 f]
  exact ⟨fun k => ⟨(dw (M.gd h0) f).1 k.1, fun u hu => (M.el (hB u ((M.el hC u).2 hu)) _).1 (k.2 u ((M.el hC u).2 hu))⟩,
   fun k => ⟨(dw (M.gd h0) f).2 k.1, fun u hu => (M.el (hB u hu) _).2 (k.2 u ((M.el hC u).1 hu))⟩⟩
theorem eY {C B : Tm} (h : Ok E G (sig C B)) : Ok E G C ∧ (∀ u, el E G C u → Ok E G (B.inst u)) ∧
   (∀ f, el E G (sig C B) f ↔ Bs E G (gd E G (sig C B)) f ∧ el E G C (fst f) ∧ el E G (B.inst (fst f)) (snd f)) ∧
   (∀ X, gd E G (sig C B) X ↔ E X ∧ ∀ C' B', Wh X (sig C' B') → gd E G C C' ∧ ∀ u, el E G C u → gd E G (B.inst u) (B'.inst u)) := by
 obtain ⟨S, X, h⟩ := h
 have h0 := h
 cases h with
 | nat w => cases w with | cons h _ => cases h
 | sort _ w => cases w with | cons h _ => cases h
 | stuck h => exact (h _ .nil trivial).elim
 | pi w => cases w with | cons h _ => cases h
 | id w => cases w with | cons h _ => cases h
 | sig w hC hB =>
  cases (show Canon (sig C B) from trivial).wh w
  have g : ∀ X, gd E G (sig C B) X ↔ E X ∧ ∀ C' B', Wh X (sig C' B') → gd E G C C' ∧ ∀ u, el E G C u → gd E G (B.inst u) (B'.inst u) := fun X => by
   rw [← M.gd h0 X]
   exact ⟨fun k => ⟨k.1, fun C' B' r => ⟨(M.gd hC _).1 (k.2 C' B' r).1, fun u hu => (M.gd (hB u ((M.el hC u).2 hu)) _).1 ((k.2 C' B' r).2 u ((M.el hC u).2 hu))⟩⟩,
    fun k => ⟨k.1, fun C' B' r => ⟨(M.gd hC _).2 (k.2 C' B' r).1, fun u hu => (M.gd (hB u hu) _).2 ((k.2 C' B' r).2 u ((M.el hC u).1 hu))⟩⟩⟩
  refine ⟨⟨_, _, hC⟩, fun u hu => ⟨_, _, hB u ((M.el hC u).2 hu)⟩, fun f => ?_, g⟩
  rw [← M.el h0 f]
  exact ⟨fun k => ⟨(dw (M.gd h0) f).1 k.1, (M.el hC _).1 k.2.1, (M.el (hB _ k.2.1) _).1 k.2.2⟩,
   fun k => ⟨(dw (M.gd h0) f).2 k.1, (M.el hC _).2 k.2.1, (M.el (hB _ ((M.el hC _).2 k.2.1)) _).2 k.2.2⟩⟩
theorem iZ {t y z : Tm} (h : Ok E G (id t y z)) : Ok E G t ∧
   (∀ e, el E G (id t y z) e ↔ Bs E G (gd E G (id t y z)) e ∧ IdF y z e) ∧
   (∀ X, gd E G (id t y z) X ↔ E X ∧ ∀ t' y' z', Wh X (id t' y' z') → gd E G t t' ∧ el E G t y' ∧ el E G t z' ∧ Conv y' y ∧ Conv z' z) := by
 obtain ⟨S, X, h⟩ := h
 have h0 := h
 cases h with
 | nat w => cases w with | cons h _ => cases h
 | sort _ w => cases w with | cons h _ => cases h
 | stuck h => exact (h _ .nil trivial).elim
 | pi w => cases w with | cons h _ => cases h
 | sig w => cases w with | cons h _ => cases h
 | id w hT =>
  cases (show Canon (id t y z) from trivial).wh w
  have g : ∀ X, gd E G (id t y z) X ↔ E X ∧ ∀ t' y' z', Wh X (id t' y' z') → gd E G t t' ∧ el E G t y' ∧ el E G t z' ∧ Conv y' y ∧ Conv z' z := fun X => by
   rw [← M.gd h0 X]
   exact ⟨fun k => ⟨k.1, fun a b c r => let q := k.2 a b c r; ⟨(M.gd hT _).1 q.1, (M.el hT _).1 q.2.1, (M.el hT _).1 q.2.2.1, q.2.2.2⟩⟩,
    fun k => ⟨k.1, fun a b c r => let q := k.2 a b c r; ⟨(M.gd hT _).2 q.1, (M.el hT _).2 q.2.1, (M.el hT _).2 q.2.2.1, q.2.2.2⟩⟩⟩
  refine ⟨⟨_, _, hT⟩, fun f => ?_, g⟩
  rw [← M.el h0 f]
  exact ⟨fun k => ⟨(dw (M.gd h0) f).1 k.1, k.2⟩, fun k => ⟨(dw (M.gd h0) f).2 k.1, k.2⟩⟩
theorem J3 {C B : Tm} (h : Ok E G C) (k : ∀ u, el E G C u → Ok E G (B.inst u)) : Ok E G (pi C B) :=
 ⟨_, _, .pi (SB := fun u => el E G (B.inst u)) (GB := fun u => gd E G (B.inst u)) .nil h.m (fun u hu => (k u hu).m)⟩
theorem J9 {t y z : Tm} (h : Ok E G t) : Ok E G (id t y z) := ⟨_, _, .id .nil h.m⟩
theorem lev {i m : Nat} {t : Tm} (k : el E G (sort i) t) (hm : i ≤ m) : Sem E G m (Vs E G m) t (el E G t) (gd E G t) := by
 obtain ⟨S, X, h1, h2⟩ := (kn (by have := ch k; omega)).1 ((wT (ch k)).1 k).2
 have h4 : M E G t S X := h1.up (by have := ch k; omega)
 have e1 : S = Tm.el E G t := funext fun t => propext (M.el h4 t)
 have e2 : X = Tm.gd E G t := funext fun t => propext (M.gd h4 t)
 rw [← e1, ← e2]; exact h1.up hm
theorem tR {m : Nat} (hm : m ≤ 3) {t : Tm} {S X : Pr} (h : Sem E G m (Vs E G m) t S X) (b : Bs E G E t) (g : X t) : el E G (sort m) t :=
 (wT hm).2 ⟨b, (kn (by omega)).2 ⟨S, X, h, g⟩⟩
theorem Ar {C B : Tm} {i j : Nat} (h : el E G (sort i) C) (hj : j ≤ 3) (k : ∀ u, el E G C u → el E G (sort j) (B.inst u)) (b : Bs E G E (pi C B)) : el E G (sort (max i j)) (pi C B) := by
 refine tR (by have := ch h; omega) (.pi (SB := fun u => el E G (B.inst u)) (GB := fun u => gd E G (B.inst u)) .nil (lev h (by omega)) (fun u hu => lev (k u hu) (by omega))) b ⟨b.1, fun C' B' r => ?_⟩
 cases (show Canon (pi C B) from trivial).wh r
 exact ⟨(bk h).2, fun u hu => (bk (k u hu)).2⟩
theorem wy {C B : Tm} {i j : Nat} (h : el E G (sort i) C) (hj : j ≤ 3) (k : ∀ u, el E G C u → el E G (sort j) (B.inst u)) (b : Bs E G E (sig C B)) : el E G (sort (max i j)) (sig C B) := by
 refine tR (by have := ch h; omega) (.sig (SB := fun u => el E G (B.inst u)) (GB := fun u => gd E G (B.inst u)) .nil (lev h (by omega)) (fun u hu => lev (k u hu) (by omega))) b ⟨b.1, fun C' B' r => ?_⟩
 cases (show Canon (sig C B) from trivial).wh r
 exact ⟨(bk h).2, fun u hu => (bk (k u hu)).2⟩
theorem zF {t y z : Tm} {i : Nat} (h : el E G (sort i) t) (hy : el E G t y) (hz : el E G t z) (b : Bs E G E (id t y z)) : el E G (sort i) (id t y z) := by
 refine tR (ch h) (.id .nil (lev h (Nat.le_refl _))) b ⟨b.1, fun x y' z' r => ?_⟩
 cases (show Canon (id t y z) from trivial).wh r
 exact ⟨(bk h).2, hy, hz, .bq, .bq⟩
theorem p7 {f u C B : Tm} (h : el E G (pi C B) f) (k : el E G C u) : el E G (B.inst u) (app f u) := (((iz h.ok).2.2.1 f).1 h).2 u k
theorem AO {p n : Tm} {i : Nat} (hp : el E G (pi nat (sort i)) p) (hn : el E G nat n) : el E G (sort i) (app p n) := p7 (B := sort i) hp hn
theorem F3 (cl : Clo E G) {p z s : Tm} {i : Nat} (hp : el E G (pi nat (sort i)) p) (hz : el E G (app p zero) z) (hs : el E G (aW p) s) {n : Tm} (hn : el E G nat n) : el E G (app p n) (elim p z s n) := by
 have hn' := kQ.1 hn
 have bs : ∀ {n}, el E G nat n → Bs E G (gd E G (app p n)) (elim p z s n) := fun {n} hn => ⟨cl.elim hp.bs.1 hz.bs.1 hs.bs.1 hn.bs.1, fun T a => by
  cases a with
  | elim => exact (bk (AO hp hn)).2⟩
 clear hn
 induction hn' with
 | @zero n b w => exact p9 cl ((w.elim _ _ _).trans (.cons .ezero .nil)) (hz.conv (Conv.app .bq w.conv.symm)) (bs (kQ.2 (.zero b w)))
 | @succ n m b w h ih =>
  have hm := kQ.2 h
  have h1 : el E G (pi ((app p.wk (var 0)).sub (sc m var)) ((app p.wk.wk (succ (var 1))).sub (ups (sc m var)))) (app s m) := p7 hs hm
  have e1 : ((app p.wk (var 0)).sub (sc m var)) = app p m := by
   show app (p.wk.sub _) _ = _
   rw [gh, bY]; rfl
  rw [e1] at h1
  have h2 := p7 h1 ih
  rw [nM] at h2
  exact p9 cl ((w.elim _ _ _).trans (.cons .esucc .nil)) (h2.conv (Conv.app .bq w.conv.symm)) (bs (kQ.2 (.succ b w h)))
 | @stuck n b st => exact rp cl (bk (AO hp (kQ.2 (.stuck b st)))).1 (st.elim _ _ _) (bs (kQ.2 (.stuck b st)))
theorem lE (b u : Tm) (σ τ : Nat → Tm) : (b.sub (ups σ)).sub (sc u τ) = ((b.sub (ups σ)).sub (ups τ)).inst u := (mT _ _ _).symm
variable (E G) in
def Good (D H : List Tm) (σ τ : Nat → Tm) : Prop := ∀ n A, look D n = some A → el E G ((A.sub σ).sub τ) ((σ n).sub τ) ∧ ∀ T, Al H (σ n) T → gd E G ((A.sub σ).sub τ) (T.sub τ)
theorem Good.cons {D H : List Tm} {σ τ : Nat → Tm} (g : Good E G D H σ τ) {A u : Tm} (hu : el E G ((A.sub σ).sub τ) u) (hA : gd E G ((A.sub σ).sub τ) ((A.sub σ).sub τ)) : Good E G (A :: D) (A.sub σ :: H) (ups σ) (sc u τ) := by
 intro n B hB
 cases n with
 | zero =>
  simp only [look, Option.some.injEq] at hB; subst hB
  rw [tN, gh]
  refine ⟨hu, fun T a => ?_⟩
  cases a with
  | var h =>
   simp only [look, Option.some.injEq] at h; subst h
   rw [gh]; exact hA
 | succ n =>
  obtain ⟨C, hC, rfl⟩ := Option.map_eq_some_iff.1 hB
  rw [tN, gh]
  obtain ⟨g1, g2⟩ := g n C hC
  refine ⟨by show el E G _ ((σ n).wk.sub (sc u τ)); rw [gh]; exact g1, fun T a => ?_⟩
  obtain ⟨T', rfl, a'⟩ := Al.IU (A := A.sub σ) a
  rw [gh]; exact g2 _ a'
theorem Ty.sem (cl : Clo E G) {D : List Tm} {t A : Tm} (h : Ty D t A) : Wf D → ∀ {H σ τ}, Good E G D H σ τ →
   el E G ((A.sub σ).sub τ) ((t.sub σ).sub τ) ∧ ∀ T, Al H (t.sub σ) T → gd E G ((A.sub σ).sub τ) (T.sub τ) := by
 induction h with
 | var h => intro w H σ τ g; exact g _ _ h
 | @sort D n h =>
  intro w H σ τ g
  have b : Bs E G E (Tm.sort n) := ⟨cl.sort n, fun T a => by cases a; exact cl.sort _⟩
  refine ⟨tR (m := n + 1) (by omega) (.sort (i := n) (by omega) .nil) b b.1, fun T a => ?_⟩
  cases a with
  | sort h => exact (nI (by omega)).2 (cl.sort _)
 | @pi D A B i j h k ih ik =>
  intro w H σ τ g
  obtain ⟨a1, a2⟩ := ih w g
  have a1 : el E G (Tm.sort i) ((A.sub σ).sub τ) := a1
  have hi := ch a1
  have hj : j ≤ 3 := (k.valid (.cons w h)).le
  have b : Bs E G E (Tm.pi ((A.sub σ).sub τ) ((B.sub (ups σ)).sub (ups τ))) := ⟨cl.pi a1.bs.1, fun T a => by cases a; exact cl.sort _⟩
  refine ⟨Ar a1 hj (fun u hu => ?_) b, fun T a => ?_⟩
  ·rw [← lE]
   exact (ik (.cons w h) (g.cons hu (bk a1).2)).1
  ·cases a with
   | pi h' w' k' v => exact (nI (i := max i j) (by omega)).2 (cl.sort _)
 | @sig D A B i j h k ih ik =>
  intro w H σ τ g
  obtain ⟨a1, a2⟩ := ih w g
  have a1 : el E G (Tm.sort i) ((A.sub σ).sub τ) := a1
  have hi := ch a1
  have hj : j ≤ 3 := (k.valid (.cons w h)).le
  have b : Bs E G E (Tm.sig ((A.sub σ).sub τ) ((B.sub (ups σ)).sub (ups τ))) := ⟨cl.sig a1.bs.1, fun T a => by cases a; exact cl.sort _⟩
  refine ⟨wy a1 hj (fun u hu => ?_) b, fun T a => ?_⟩
  ·rw [← lE]
   exact (ik (.cons w h) (g.cons hu (bk a1).2)).1
  ·cases a with
   | sig h' w' k' v => exact (nI (i := max i j) (by omega)).2 (cl.sort _)
 | @lam D A B b i j h k l ih ik il =>
  intro w H σ τ g
  obtain ⟨a1, a2⟩ := ih w g
  have a1 : el E G (Tm.sort i) ((A.sub σ).sub τ) := a1
  have oA := bk a1
  have ww := Wf.cons w h
  have oP : Ok E G (Tm.pi ((A.sub σ).sub τ) ((B.sub (ups σ)).sub (ups τ))) := J3 oA.1 fun u hu => by
   rw [← lE]; exact (ik ww (g.cons hu oA.2)).1.ok
  have gP : ∀ {H σ τ}, Good E G D H σ τ → ∀ T, Al H ((Tm.lam A b).sub σ) T → gd E G ((A.sub σ).sub τ) ((A.sub σ).sub τ) → Ok E G (Tm.pi ((A.sub σ).sub τ) ((B.sub (ups σ)).sub (ups τ))) → gd E G (Tm.pi ((A.sub σ).sub τ) ((B.sub (ups σ)).sub (ups τ))) (T.sub τ) := by
   intro H σ τ g T a oA oP
   cases a with
   | @lam _ _ _ B' S R i j h' w' k' l' v =>
    refine ((iz oP).2.2.2 _).2 ⟨cl.pi oA.ends, fun X Y r => ?_⟩
    cases (show Canon (Tm.sub (Tm.pi (A.sub σ) B') τ) from trivial).wh r
    refine ⟨oA, fun u hu => ?_⟩
    rw [← lE, mT]
    exact (ik ww (g.cons hu oA)).2 _ k'
  have bs : Bs E G (gd E G (Tm.pi ((A.sub σ).sub τ) ((B.sub (ups σ)).sub (ups τ)))) (Tm.lam ((A.sub σ).sub τ) ((b.sub (ups σ)).sub (ups τ))) :=
   ⟨cl.lam a1.bs.1, fun T a => by
    have g' : Good E G D G (fun n => (σ n).sub τ) Tm.var := fun n C hC => by
     obtain ⟨g1, g2⟩ := g n C hC
     rw [sub_sub] at g1 g2
     rw [bY, bY]
     exact ⟨g1, fun T a => by rw [bY]; exact g1.bs.2 T a⟩
    have eA : ∀ C : Tm, (C.sub fun n => (σ n).sub τ).sub Tm.var = (C.sub σ).sub τ := fun C => by rw [bY, sub_sub]
    have eB : ∀ C : Tm, (C.sub (ups fun n => (σ n).sub τ)).sub (ups Tm.var) = (C.sub (ups σ)).sub (ups τ) := fun C => by rw [CG, bY, sub_sub, wX]
    have := gP g' T (by
     show Al G (Tm.lam (A.sub fun n => (σ n).sub τ) (b.sub (ups fun n => (σ n).sub τ))) T
     rw [sub_sub, sub_sub, wX] at a; exact a)
    rw [eA, eB, bY] at this
    exact this oA.2 oP⟩
  refine ⟨((iz oP).2.2.1 _).2 ⟨bs, fun u hu => ?_⟩, fun T a => gP g T a oA.2 oP⟩
  have hb := (ik ww (g.cons hu oA.2)).1
  rw [lE, lE] at hb
  refine p9 cl (.cons .beta .nil) hb ⟨cl.app bs.1 hu.bs.1, fun T a => ?_⟩
  cases a with
  | app h' w' k' c => exact ((((iz oP).2.2.2 _).1 (bs.2 _ h')).2 _ _ w').2 u hu
 | @app D f u A B h k ih ik =>
  intro w H σ τ g
  obtain ⟨f1, f2⟩ := ih w g
  obtain ⟨u1, u2⟩ := ik w g
  have f1 : el E G (Tm.pi ((A.sub σ).sub τ) ((B.sub (ups σ)).sub (ups τ))) _ := f1
  rw [cB, cB]
  refine ⟨p7 f1 u1, fun T a => ?_⟩
  cases a with
  | app h' w' k' c =>
   have := ((((iz f1.ok).2.2.2 _).1 (f2 _ h')).2 _ _ (w'.sub τ)).2 _ u1
   rw [cB]; exact this
 | nat =>
  intro w H σ τ g
  have b : Bs E G E Tm.nat := ⟨cl.nat, fun T a => by cases a; exact cl.sort _⟩
  refine ⟨tR (by omega) (.nat .nil) b b.1, fun T a => ?_⟩
  cases a with
  | nat => exact (nI (by omega)).2 (cl.sort _)
 | zero =>
  intro w H σ τ g
  have b : Bs E G E Tm.zero := ⟨cl.zero, fun T a => by cases a; exact cl.nat⟩
  refine ⟨kQ.2 (.zero b .nil), fun T a => ?_⟩
  cases a with
  | zero => exact Fs.2 cl.nat
 | @succ D n h ih =>
  intro w H σ τ g
  obtain ⟨a1, a2⟩ := ih w g
  have a1 : el E G Tm.nat _ := a1
  have b : Bs E G E (Tm.succ ((n.sub σ).sub τ)) := ⟨cl.succ a1.bs.1, fun T a => by cases a; exact cl.nat⟩
  refine ⟨kQ.2 (.succ b .nil (kQ.1 a1)), fun T a => ?_⟩
  cases a with
  | succ => exact Fs.2 cl.nat
 | @elim D p z s n i h k l m ih ik il im =>
  intro w H σ τ g
  have p1 : el E G (Tm.pi Tm.nat (Tm.sort i)) ((p.sub σ).sub τ) := (ih w g).1
  have z1 : el E G (Tm.app ((p.sub σ).sub τ) Tm.zero) ((z.sub σ).sub τ) := (ik w g).1
  have s1 := (il w g).1
  rw [k8, k8] at s1
  have n1 : el E G Tm.nat ((n.sub σ).sub τ) := (im w g).1
  refine ⟨F3 cl p1 z1 s1 n1, fun T a => ?_⟩
  cases a with
  | elim => exact (bk (AO p1 n1)).2
 | @id D t a b i h k l ih ik il =>
  intro w H σ τ g
  have t1 : el E G (Tm.sort i) ((t.sub σ).sub τ) := (ih w g).1
  have a1 := (ik w g).1
  have b1 := (il w g).1
  have b : Bs E G E (Tm.id ((t.sub σ).sub τ) ((a.sub σ).sub τ) ((b.sub σ).sub τ)) := ⟨cl.id t1.bs.1 a1.bs.1 b1.bs.1, fun T a => by cases a; exact cl.sort _⟩
  refine ⟨zF t1 a1 b1 b, fun T a => ?_⟩
  cases a with
  | id => exact (nI (i := i) (ch t1)).2 (cl.sort _)
 | @refl D a A i h k ih ik =>
  intro w H σ τ g
  obtain ⟨a1, a2⟩ := ih w g
  have A1 : el E G (Tm.sort i) ((A.sub σ).sub τ) := (ik w g).1
  have o : Ok E G (Tm.id ((A.sub σ).sub τ) ((a.sub σ).sub τ) ((a.sub σ).sub τ)) := J9 (bk A1).1
  have gI : ∀ X, gd E G ((A.sub σ).sub τ) X → gd E G (Tm.id ((A.sub σ).sub τ) ((a.sub σ).sub τ) ((a.sub σ).sub τ)) (Tm.id X ((a.sub σ).sub τ) ((a.sub σ).sub τ)) := fun X hX =>
   ((iZ o).2.2 _).2 ⟨cl.id hX.ends a1.bs.1 a1.bs.1, fun t' y' z' r => by
     cases (show Canon (Tm.id X ((a.sub σ).sub τ) ((a.sub σ).sub τ)) from trivial).wh r
     exact ⟨hX, a1, a1, .bq, .bq⟩⟩
  refine ⟨((iZ o).2.1 _).2 ⟨⟨cl.refl a1.bs.1 fun X hX => (a1.bs.2 X hX).ends, fun T q => ?_⟩, .inl ⟨_, .nil, .bq, .bq⟩⟩, fun T q => ?_⟩
  ·cases q with
   | refl h' k' w' => exact gI _ (a1.bs.2 _ h')
  ·cases q with
   | refl h' k' w' => exact gI _ (a2 _ h')
 | @move D p e x t y z i h k l m ih ik il im =>
  intro w H σ τ g
  obtain ⟨e1, e2⟩ := ih w g
  have e1 : el E G (Tm.id ((t.sub σ).sub τ) ((y.sub σ).sub τ) ((z.sub σ).sub τ)) _ := e1
  have p1 : el E G (Tm.pi ((t.sub σ).sub τ) (Tm.sort i)) ((p.sub σ).sub τ) := (ik w g).1
  have x1 : el E G (Tm.app ((p.sub σ).sub τ) ((y.sub σ).sub τ)) ((x.sub σ).sub τ) := (il w g).1
  have z1 := (im w g).1
  obtain ⟨io, ie, ig⟩ := iZ e1.ok
  have zT : ∀ q, gd E G (Tm.id ((t.sub σ).sub τ) ((y.sub σ).sub τ) ((z.sub σ).sub τ)) q → ∀ t' y' z', Wh q (Tm.id t' y' z') → el E G ((t.sub σ).sub τ) z' ∧ Conv z' ((z.sub σ).sub τ) := fun q hq t' y' z' r => let k := ((ig q).1 hq).2 t' y' z' r; ⟨k.2.2.1, k.2.2.2.2⟩
  have oz : Ok E G (Tm.app ((p.sub σ).sub τ) ((z.sub σ).sub τ)) := (bk (p7 (B := Tm.sort i) p1 z1)).1
  have gz : ∀ z', el E G ((t.sub σ).sub τ) z' → Conv z' ((z.sub σ).sub τ) → gd E G (Tm.app ((p.sub σ).sub τ) ((z.sub σ).sub τ)) (Tm.app ((p.sub σ).sub τ) z') := fun z' hz c =>
   (bk (p7 (B := Tm.sort i) p1 hz)).2.conv (Conv.app .bq c)
  have bs : Bs E G (gd E G (Tm.app ((p.sub σ).sub τ) ((z.sub σ).sub τ))) (Tm.move ((p.sub σ).sub τ) ((e.sub σ).sub τ) ((x.sub σ).sub τ)) :=
   ⟨cl.move p1.bs.1 e1.bs.1 x1.bs.1, fun T a => by
    cases a with
    | move h' w' k' v c u l' d => let q := zT _ (e1.bs.2 _ h') _ _ _ w'; exact gz _ q.1 q.2⟩
  refine ⟨?_, fun T a => ?_⟩
  ·rcases ((ie _).1 e1).2 with ⟨a, r, c1, c2⟩ | hs
   ·exact p9 cl ((r.move _ _).trans (.cons .mrefl .nil)) (x1.conv (Conv.app .bq (c1.symm.trans c2))) bs
   ·exact rp cl oz (hs.move _ _) bs
  ·cases a with
   | move h' w' k' v c u l' d => let q := zT _ (e2 _ h') _ _ _ (w'.sub τ); exact gz _ q.1 q.2
 | @pair D s a b A B i j h r q k l ih iq ik il =>
  intro w H σ τ g
  obtain ⟨s1, s2⟩ := ih w g
  have s1 : el E G (Tm.sort i) ((s.sub σ).sub τ) := s1
  have so := bk s1
  have a1 := (ik w g).1
  have b1 := (il w g).1
  rw [cB, cB] at b1
  have cS : Conv ((s.sub σ).sub τ) (Tm.sig ((A.sub σ).sub τ) ((B.sub (ups σ)).sub (ups τ))) := (r.conv.sub σ).sub τ
  have oS := so.1.conv cS
  obtain ⟨o1, o2, o3, o4⟩ := eY oS
  have gS := ((o4 _).1 (so.2.conv cS)).2
  obtain ⟨X, Y, wS, c1, c2⟩ := cS.iy
  obtain ⟨gX, gY⟩ := gS X Y wS
  have bs : Bs E G (gd E G ((s.sub σ).sub τ)) (Tm.pair ((s.sub σ).sub τ) ((a.sub σ).sub τ) ((b.sub σ).sub τ)) :=
   ⟨cl.pair s1.bs.1 a1.bs.1 b1.bs.1, fun T a => by
    cases a with
    | pair => exact so.2⟩
  refine ⟨el.conv ?_ cS.symm, fun T a => ?_⟩
  ·have f1 : el E G ((A.sub σ).sub τ) (Tm.fst (Tm.pair ((s.sub σ).sub τ) ((a.sub σ).sub τ) ((b.sub σ).sub τ))) :=
     p9 cl (.cons .fpair .nil) a1 ⟨cl.fst bs.1, fun T q => by
      cases q with
      | fst h' w' => cases h' with
       | pair => cases wS.same w' trivial trivial; exact gX⟩
   refine (o3 _).2 ⟨⟨bs.1, fun T q => (bs.2 T q).conv cS⟩, f1, ?_⟩
   refine p9 cl (.cons .spair .nil) (b1.conv (Conv.inst .bq (Par.conv (.fpair (Par.bq _))).symm)) ⟨cl.snd bs.1, fun T q => ?_⟩
   cases q with
   | snd h' w' => cases h' with
    | pair => cases wS.same w' trivial trivial; exact gY _ f1
  ·cases a with
   | pair => exact so.2
 | @fst D q A B h ih =>
  intro w H σ τ g
  obtain ⟨q1, q2⟩ := ih w g
  have q1 : el E G (Tm.sig ((A.sub σ).sub τ) ((B.sub (ups σ)).sub (ups τ))) _ := q1
  obtain ⟨o1, o2, o3, o4⟩ := eY q1.ok
  refine ⟨((o3 _).1 q1).2.1, fun T a => ?_⟩
  cases a with
  | fst h' w' => exact (((o4 _).1 (q2 _ h')).2 _ _ (w'.sub τ)).1
 | @snd D q A B h ih =>
  intro w H σ τ g
  obtain ⟨q1, q2⟩ := ih w g
  have q1 : el E G (Tm.sig ((A.sub σ).sub τ) ((B.sub (ups σ)).sub (ups τ))) _ := q1
  obtain ⟨o1, o2, o3, o4⟩ := eY q1.ok
  have f1 := ((o3 _).1 q1).2
  rw [cB, cB]
  refine ⟨f1.2, fun T a => ?_⟩
  cases a with
  | snd h' w' => rw [cB]; exact (((o4 _).1 (q2 _ h')).2 _ _ (w'.sub τ)).2 _ f1.1
 | conv h c k ih ik =>
  intro w H σ τ g
  obtain ⟨a1, a2⟩ := ih w g
  have c' := (c.sub σ).sub τ
  exact ⟨a1.conv c', fun T a => (a2 T a).conv c'⟩
theorem yp : ∀ (X D : List Tm) (n : Nat), look (X ++ D) (n + X.length) = (look D n).map (·.ren (· + X.length))
 | [], D, n => by
  show look D n = _
  cases look D n with
  | none => rfl
  | some A => show some A = some (A.ren fun n => n); rw [me]
 | A :: X, D, n => by
  show look (A :: (X ++ D)) (n + X.length + 1) = _
  show (look (X ++ D) (n + X.length)).map wk = _
  rw [yp X D n]
  cases look D n with
  | none => rfl
  | some B => simp only [Option.map_some, wk, ga, List.length_cons]; rfl
theorem A9 (cl : Clo E G) : ∀ (D X : List Tm), G = X ++ D → Wf D → Good E G D G (fun n => Tm.var (n + X.length)) Tm.var
 | [], X, e, w => fun n A h => by cases h
 | A :: D, X, e, w => by
  cases w with
  | cons w h =>
   have g := A9 cl D (X ++ [A]) (by rw [e]; simp) w
   have len : (X ++ [A]).length = X.length + 1 := by simp
   rw [len] at g
   have s1 := (h.sem cl w g).1
   have so := bk (i := _) s1
   have eA : (A.sub fun n => Tm.var (n + (X.length + 1))).sub Tm.var = A.ren (· + (X.length + 1)) := by rw [bY, ← IM]
   rw [eA] at so
   have shift : ∀ C : Tm, (C.wk.sub fun n => Tm.var (n + X.length)).sub Tm.var = (C.sub fun n => Tm.var (n + (X.length + 1))).sub Tm.var := fun C => by
    rw [bY, bY, wk, n7]
    congr 1; funext n; simp only [Nat.add_assoc, Nat.add_comm 1]
   have lk := yp X (A :: D) 0
   rw [← e] at lk
   intro n B hB
   cases n with
   | zero =>
    simp only [look, Option.some.injEq] at hB; subst hB
    rw [shift, eA]
    show el E G _ (Tm.var (0 + X.length)) ∧ _
    have lk' : look G (0 + X.length) = some (A.ren (· + (X.length + 1))) := by
     rw [lk]
     show some (A.wk.ren _) = _
     rw [wk, ga]
     congr 2; funext n; simp only [Nat.add_assoc, Nat.add_comm 1]
    have bs : Bs E G (gd E G (A.ren (· + (X.length + 1)))) (Tm.var (0 + X.length)) := ⟨cl.var _, fun T a => by
     cases a with
     | var h => rw [lk'] at h; cases h; exact so.2⟩
    exact ⟨rp cl so.1 (.var _) bs, fun T a => by rw [bY]; exact bs.2 T a⟩
   | succ n =>
    obtain ⟨C, hC, rfl⟩ := Option.map_eq_some_iff.1 hB
    obtain ⟨g1, g2⟩ := g n C hC
    rw [shift]
    have ev : Tm.var (n + 1 + X.length) = Tm.var (n + (X.length + 1)) := by rw [Nat.add_assoc, Nat.add_comm 1]
    exact ⟨by show el E G _ (Tm.var (n + 1 + X.length)); rw [ev]; exact g1, fun T a => g2 T (by show Al G (Tm.var (n + (X.length + 1))) T; rw [← ev]; exact a)⟩
theorem Clo.typ (cl : Clo E G) (w : Wf G) {t A : Tm} (a : Al G t A) : E A := by
 have g := A9 cl G [] rfl w
 have := ((a.sound w).sem cl w g).2 A (by
  have e : t.sub (fun n => Tm.var (n + ([] : List Tm).length)) = t := bY t
  rw [e]; exact a)
 have e2 := this.ends
 rwa [bY] at e2
theorem Clo.all (cl : Clo E G) (w : Wf G) (t : Tm) : E t := by
 induction t with
 | var n => exact cl.var n
 | sort n => exact cl.sort n
 | pi a b ha hb => exact cl.pi ha
 | lam a b ha hb => exact cl.lam ha
 | app f a hf ha => exact cl.app hf ha
 | nat => exact cl.nat
 | zero => exact cl.zero
 | succ n h => exact cl.succ h
 | elim p z s n h k l m => exact cl.elim h k l m
 | id t a b h k l => exact cl.id h k l
 | refl a h => exact cl.refl h fun A q => cl.typ w q
 | move p e x h k l => exact cl.move h k l
 | sig a b ha hb => exact cl.sig ha
 | pair s a b h k l => exact cl.pair h k l
 | fst q h => exact cl.fst h
 | snd q h => exact cl.snd h
end Tm
end Go.Proofs.YtajlknlnmmbfcaaGreat
end
section
namespace Go.Proofs.YtajlknlnmmbfcaaGreat
namespace Tm
inductive Rs where
 | ok (t : Tm) | bad | opn
structure Orc where
 vd : Tm → Bool
 hn : Tm → Rs
 sm : Tm → Tm → Rs
structure bR (O : Orc) : Prop where
 hn_ok : ∀ {t h}, O.hn t = .ok h → Wh t h ∧ (∀ u, ¬ Hd h u) ∧ O.vd h = true
 hn_nb : ∀ t, O.hn t ≠ .bad
 sm_ok : ∀ {a b x}, O.sm a b = .ok x → Conv a b
 sm_nb : ∀ {a b}, O.sm a b = .bad → ¬ Conv a b
 sm_inv : ∀ {a b}, O.vd b = false → O.sm a b = .opn
 v_pi : ∀ {a b}, O.vd (pi a b) = true → O.vd a = true ∧ O.vd b = true
 v_sig : ∀ {a b}, O.vd (sig a b) = true → O.vd a = true ∧ O.vd b = true
 v_lam : ∀ {a b}, O.vd (lam a b) = true → O.vd a = true ∧ O.vd b = true
 v_app : ∀ {a b}, O.vd (app a b) = true → O.vd a = true ∧ O.vd b = true
 v_succ : ∀ {a}, O.vd (succ a) = true → O.vd a = true
 v_elim : ∀ {p z s n}, O.vd (elim p z s n) = true → O.vd p = true ∧ O.vd z = true ∧ O.vd s = true ∧ O.vd n = true ∧ O.vd (app p zero) = true
 v_id : ∀ {t a b}, O.vd (id t a b) = true → O.vd t = true ∧ O.vd a = true ∧ O.vd b = true
 v_refl : ∀ {a}, O.vd (refl a) = true → O.vd a = true
 v_move : ∀ {t a b}, O.vd (move t a b) = true → O.vd t = true ∧ O.vd a = true ∧ O.vd b = true
 v_pair : ∀ {t a b}, O.vd (pair t a b) = true → O.vd t = true ∧ O.vd a = true ∧ O.vd b = true
 v_fst : ∀ {a}, O.vd (fst a) = true → O.vd a = true
 v_snd : ∀ {a}, O.vd (snd a) = true → O.vd a = true
 v_lam3 : ∀ {a b}, O.vd (lam a b) = true → O.vd (pi a (sort 3)) = true
 v_sort : ∀ {n}, O.vd (sort n) = true ↔ n ≤ 3
 v_nat : O.vd nat = true
def sq (x : Option Rs) (k : Tm → Option Rs) : Option Rs := match x with
 | some (.ok t) => k t
 | x => x
def lv : Tm → Nat
 | sort n => n
 | _ => 0
section
variable (O : Orc)
def frm (x : Option Rs) : Option Rs := sq x fun s => some (O.hn s)
def lvl (x : Option Rs) : Option Rs := sq (frm O x) fun h => match h with
 | sort n => some (.ok (sort n))
 | _ => some .bad
def chk (x : Option Rs) (want : Tm) : Option Rs := sq x fun s => some (O.sm s want)
def made (t : Tm) : Option Rs := some (if O.vd t = true then .ok t else .opn)
def fam (x : Option Rs) (t : Tm) : Option Rs := sq (frm O x) fun f => match f with
 | pi C D => sq (some (O.sm C t)) fun _ => sq (some (O.hn D)) fun h => match h with
  | sort _ => some (.ok h)
  | _ => some .bad
 | _ => some .bad
variable (I : List Tm → Tm → Option Rs)
def bnd (G : List Tm) (a b : Tm) : Option Rs := sq (lvl O (I G a)) fun i => sq (lvl O (I (a :: G) b)) fun j => some (.ok (sort (max (lv i) (lv j))))
def kS (G : List Tm) : Tm → Option Rs
 | var n => match look G n with
  | some A => some (.ok A)
  | none => some .bad
 | sort n => some (if n < 3 then .ok (sort (n + 1)) else .bad)
 | pi a b => bnd O I G a b
 | sig a b => bnd O I G a b
 | lam a b => sq (lvl O (I G a)) fun _ => sq (I (a :: G) b) fun B => sq (bnd O I G a B) fun _ => some (.ok (pi a B))
 | app f u => sq (frm O (I G f)) fun F => match F with
  | pi C B => sq (chk O (I G u) C) fun _ => some (.ok (B.inst u))
  | _ => some .bad
 | nat => some (.ok (sort 0))
 | zero => some (.ok nat)
 | succ n => sq (chk O (I G n) nat) fun _ => some (.ok nat)
 | elim p z s n => sq (fam O (I G p) nat) fun _ => sq (chk O (I G z) (app p zero)) fun _ => sq (chk O (I G s) (aW p)) fun _ => sq (chk O (I G n) nat) fun _ => some (.ok (app p n))
 | id t a b => sq (lvl O (I G t)) fun i => sq (chk O (I G a) t) fun _ => sq (chk O (I G b) t) fun _ => some (.ok i)
 | refl a => sq (I G a) fun A => sq (lvl O (I G A)) fun _ => some (.ok (id A a a))
 | move p e x => sq (frm O (I G e)) fun E => match E with
  | id t y z => sq (fam O (I G p) t) fun _ => sq (chk O (I G x) (app p y)) fun _ => some (.ok (app p z))
  | _ => some .bad
 | pair s a b => sq (lvl O (I G s)) fun _ => sq (some (O.hn s)) fun h => match h with
  | sig A B => sq (chk O (I G a) A) fun _ => sq (chk O (I G b) (B.inst a)) fun _ => some (.ok s)
  | _ => some .bad
 | fst q => sq (frm O (I G q)) fun Q => match Q with
  | sig A B => some (.ok A)
  | _ => some .bad
 | snd q => sq (frm O (I G q)) fun Q => match Q with
  | sig A B => some (.ok (B.inst (fst q)))
  | _ => some .bad
def inS : Nat → List Tm → Tm → Option Rs
 | 0, _, _ => none
 | g + 1, G, t => if O.vd t = false ∨ 20 < G.length then some .opn else sq (kS O (inS g) G t) (made O)
def ext (G : List Tm) (a b : Tm) : Option Rs := if 20 ≤ G.length then some .opn else I (a :: G) b
def kI (G : List Tm) : Tm → Option Rs
 | var n => match look G n with
  | some A => made O A
  | none => some .bad
 | sort n => some (if n < 3 then .ok (sort (n + 1)) else .bad)
 | pi a b => sq (lvl O (I G a)) fun i => sq (lvl O (ext I G a b)) fun j => some (.ok (sort (max (lv i) (lv j))))
 | sig a b => sq (lvl O (I G a)) fun i => sq (lvl O (ext I G a b)) fun j => some (.ok (sort (max (lv i) (lv j))))
 | lam a b => sq (lvl O (I G a)) fun _ => sq (ext I G a b) fun B => sq (made O (pi a B)) fun P => sq (I G P) fun _ => some (.ok P)
 | app f u => sq (frm O (I G f)) fun F => match F with
  | pi C B => sq (chk O (I G u) C) fun _ => made O (B.inst u)
  | _ => some .bad
 | nat => some (.ok (sort 0))
 | zero => some (.ok nat)
 | succ n => sq (chk O (I G n) nat) fun _ => some (.ok nat)
 | elim p z s n => sq (fam O (I G p) nat) fun _ => sq (made O (app p zero)) fun w => sq (chk O (I G z) w) fun _ => sq (made O (aW p)) fun w => sq (chk O (I G s) w) fun _ => sq (chk O (I G n) nat) fun _ => made O (app p n)
 | id t a b => sq (lvl O (I G t)) fun i => sq (chk O (I G a) t) fun _ => sq (chk O (I G b) t) fun _ => some (.ok i)
 | refl a => sq (I G a) fun A => sq (lvl O (I G A)) fun _ => made O (id A a a)
 | move p e x => sq (frm O (I G e)) fun E => match E with
  | id t y z => sq (fam O (I G p) t) fun _ => sq (made O (app p y)) fun w => sq (chk O (I G x) w) fun _ => made O (app p z)
  | _ => some .bad
 | pair s a b => sq (lvl O (I G s)) fun _ => sq (some (O.hn s)) fun h => match h with
  | sig A B => sq (chk O (I G a) A) fun _ => sq (made O (B.inst a)) fun w => sq (chk O (I G b) w) fun _ => some (.ok s)
  | _ => some .bad
 | fst q => sq (frm O (I G q)) fun Q => match Q with
  | sig A B => some (.ok A)
  | _ => some .bad
 | snd q => sq (frm O (I G q)) fun Q => match Q with
  | sig A B => made O (B.inst (fst q))
  | _ => some .bad
def inI : Nat → List Tm → Tm → Option Rs
 | 0, _, _ => none
 | g + 1, G, t => kI O (inI g) G t
end
variable {O : Orc}
theorem aG {x : Option Rs} {k : Tm → Option Rs} {A : Tm} (h : sq x k = some (.ok A)) : ∃ t, x = some (.ok t) ∧ k t = some (.ok A) := by
 unfold sq at h
 split at h
 ·exact ⟨_, rfl, h⟩
 ·rename_i h2; exact absurd h (h2 A)
theorem ix (k : bR O) {x : Option Rs} {h : Tm} (e : frm O x = some (.ok h)) : ∃ s, x = some (.ok s) ∧ Wh s h := by
 obtain ⟨s, e1, e2⟩ := aG e
 exact ⟨s, e1, (k.hn_ok (Option.some.inj e2)).1⟩
theorem gm (k : bR O) {x : Option Rs} {h : Tm} (e : lvl O x = some (.ok h)) : ∃ s i, x = some (.ok s) ∧ h = sort i ∧ Wh s (sort i) := by
 obtain ⟨s, e1, e2⟩ := aG e
 obtain ⟨u, e3, w⟩ := ix k e1
 split at e2
 ·cases e2; exact ⟨u, _, e3, rfl, w⟩
 ·cases e2
theorem df (k : bR O) {x : Option Rs} {t h : Tm} (e : chk O x t = some (.ok h)) : ∃ s, x = some (.ok s) ∧ Conv s t := by
 obtain ⟨s, e1, e2⟩ := aG e
 exact ⟨s, e1, k.sm_ok (Option.some.inj e2)⟩
theorem bO {t h : Tm} (e : made O t = some (.ok h)) : h = t ∧ O.vd t = true := by
 unfold made at e
 split at e
 ·cases e; exact ⟨rfl, ‹_›⟩
 ·cases e
theorem uz (k : bR O) {x : Option Rs} {t h : Tm} (e : fam O x t = some (.ok h)) : ∃ P C D i, x = some (.ok P) ∧ Wh P (pi C D) ∧ Conv C t ∧ Wh D (sort i) := by
 obtain ⟨s, e1, e2⟩ := aG e
 obtain ⟨u, e3, w⟩ := ix k e1
 split at e2
 ·obtain ⟨s1, e4, e5⟩ := aG e2
  obtain ⟨s2, e6, e7⟩ := aG e5
  split at e7
  ·exact ⟨u, _, _, _, e3, w, k.sm_ok (Option.some.inj e4), (k.hn_ok (Option.some.inj e6)).1⟩
  ·cases e7
 ·cases e2
theorem bB (k : bR O) : ∀ {g : Nat} {G : List Tm} {t A : Tm}, inS O g G t = some (.ok A) → Al G t A ∧ O.vd A = true
 | 0, _, _, _, h => by cases h
 | g + 1, G, t, A, h => by
  rw [inS] at h
  split at h
  ·cases h
  ·obtain ⟨X, h, e⟩ := aG h
   obtain ⟨rfl, hv⟩ := bO e
   refine ⟨?_, hv⟩
   have bd : ∀ {a b h}, bnd O (inS O g) G a b = some (.ok h) → ∃ S R i j, Al G a S ∧ Wh S (sort i) ∧ Al (a :: G) b R ∧ Wh R (sort j) ∧ h = sort (max i j) := by
    intro a b h e
    obtain ⟨x, e1, e2⟩ := aG e
    obtain ⟨y, e3, e4⟩ := aG e2
    obtain ⟨S, i, f1, rfl, w1⟩ := gm k e1
    obtain ⟨R, j, f2, rfl, w2⟩ := gm k e3
    cases e4
    exact ⟨S, R, i, j, (bB k f1).1, w1, (bB k f2).1, w2, rfl⟩
   cases t with
   | var n =>
    simp only [kS] at h
    split at h
    ·cases h; exact .var ‹_›
    ·cases h
   | sort n =>
    simp only [kS, Option.some.injEq] at h
    split at h
    ·cases h; exact .sort ‹_›
    ·cases h
   | pi a b => obtain ⟨S, R, i, j, h1, w1, h2, w2, rfl⟩ := bd h; exact .pi h1 w1 h2 w2
   | sig a b => obtain ⟨S, R, i, j, h1, w1, h2, w2, rfl⟩ := bd h; exact .sig h1 w1 h2 w2
   | lam a b =>
    obtain ⟨x, e1, e2⟩ := aG h
    obtain ⟨B, e3, e4⟩ := aG e2
    obtain ⟨y, e5, e6⟩ := aG e4
    obtain ⟨S, R, i, j, h1, w1, h2, w2, rfl⟩ := bd e5
    cases e6
    exact .lam h1 w1 (bB k e3).1 h2 w2
   | app f u =>
    obtain ⟨F, e1, e2⟩ := aG h
    obtain ⟨S, e3, w⟩ := ix k e1
    split at e2
    ·obtain ⟨x, e4, e5⟩ := aG e2
     obtain ⟨U, e6, c⟩ := df k e4
     cases e5
     exact .app (bB k e3).1 w (bB k e6).1 c
    ·cases e2
   | nat => cases h; exact .nat
   | zero => cases h; exact .zero
   | succ n =>
    obtain ⟨x, e1, e2⟩ := aG h
    obtain ⟨U, e6, c⟩ := df k e1
    cases e2
    exact .succ (bB k e6).1 c
   | elim p z s n =>
    obtain ⟨x, e1, e2⟩ := aG h
    obtain ⟨P, C, D, i, f1, w, c, v⟩ := uz k e1
    obtain ⟨x, e3, e4⟩ := aG e2
    obtain ⟨Z, f2, c2⟩ := df k e3
    obtain ⟨x, e5, e6⟩ := aG e4
    obtain ⟨S, f3, c3⟩ := df k e5
    obtain ⟨x, e7, e8⟩ := aG e6
    obtain ⟨N, f4, c4⟩ := df k e7
    cases e8
    exact .elim (bB k f1).1 w c v (bB k f2).1 c2 (bB k f3).1 c3 (bB k f4).1 c4
   | id t a b =>
    obtain ⟨x, e1, e2⟩ := aG h
    obtain ⟨S, i, f1, rfl, w⟩ := gm k e1
    obtain ⟨x, e3, e4⟩ := aG e2
    obtain ⟨Z, f2, c2⟩ := df k e3
    obtain ⟨x, e5, e6⟩ := aG e4
    obtain ⟨S, f3, c3⟩ := df k e5
    cases e6
    exact .id (bB k f1).1 w (bB k f2).1 c2 (bB k f3).1 c3
   | refl a =>
    obtain ⟨B, e1, e2⟩ := aG h
    obtain ⟨x, e3, e4⟩ := aG e2
    obtain ⟨S, i, f1, rfl, w⟩ := gm k e3
    cases e4
    exact .refl (bB k e1).1 (bB k f1).1 w
   | move p e x =>
    obtain ⟨F, e1, e2⟩ := aG h
    obtain ⟨S, e3, w⟩ := ix k e1
    split at e2
    ·obtain ⟨x, e4, e5⟩ := aG e2
     obtain ⟨P, C, D, i, f1, w2, c, v⟩ := uz k e4
     obtain ⟨x, e6, e7⟩ := aG e5
     obtain ⟨U, e8, c2⟩ := df k e6
     cases e7
     exact .move (bB k e3).1 w (bB k f1).1 w2 c v (bB k e8).1 c2
    ·cases e2
   | pair s a b =>
    obtain ⟨x, e1, e2⟩ := aG h
    obtain ⟨S, i, f1, rfl, w⟩ := gm k e1
    obtain ⟨H, e3, e4⟩ := aG e2
    have w2 := (k.hn_ok (Option.some.inj e3)).1
    split at e4
    ·obtain ⟨x, e5, e6⟩ := aG e4
     obtain ⟨Z, f2, c2⟩ := df k e5
     obtain ⟨x, e7, e8⟩ := aG e6
     obtain ⟨S, f3, c3⟩ := df k e7
     cases e8
     exact .pair (bB k f1).1 w w2 (bB k f2).1 c2 (bB k f3).1 c3
    ·cases e4
   | fst q =>
    obtain ⟨F, e1, e2⟩ := aG h
    obtain ⟨S, e3, w⟩ := ix k e1
    split at e2
    ·cases e2; exact .fst (bB k e3).1 w
    ·cases e2
   | snd q =>
    obtain ⟨F, e1, e2⟩ := aG h
    obtain ⟨S, e3, w⟩ := ix k e1
    split at e2
    ·cases e2; exact .snd (bB k e3).1 w
    ·cases e2
end Tm
end Go.Proofs.YtajlknlnmmbfcaaGreat
end
