/- Part 5 of the proof. -/
import Derived.Test.YtnogehmgpfpjmaaGreatDoorP01
import Derived.Test.YtnogehmgpfpjmaaGreatDoorP02
import Derived.Test.YtnogehmgpfpjmaaGreatDoorP03
import Derived.Test.YtnogehmgpfpjmaaGreatDoorP04
set_option linter.unusedVariables false
set_option linter.unusedSimpArgs false
section
namespace Go.Proofs.YtnogehmgpfpjmaaGreatDoor
open Go Go.Ab Go.Dk
theorem by_hd (y : UInt8) (p : List UInt8) : byteAt (bytesOf (y :: p)) (0 : Int).toNat = y := rfl
def shps : List (List UInt8) := [[35], [42], [40, 46, 62, 46, 41], [91, 46, 93, 46], [40, 46, 32, 46, 41], [78], [48], [43, 46], [60, 46, 44, 46, 44, 46, 44, 46, 62], [123, 46, 44, 46, 44, 46, 125], [33, 46], [64, 60, 46, 44, 46, 44, 46, 62], [40, 46, 42, 46, 41], [124, 46, 44, 46, 44, 46, 124], [94, 46], [95, 46]]
theorem f_shapes {n : Nat} (hn : 1 ≤ n) : FF n 70 [] [] = some ([.one (.fr (.ss (shps.map bytesOf)))], []) := by
 obtain ⟨n, rfl⟩ := pos_succ (show 0 < n by omega)
 rw [E_impl_shapes]; rfl
def kdL (x : UInt8) : List (List UInt8) → Nat → Int
 | [], _ => -1
 | p :: ps, i => if p.headD 0 = x then 1 + (i : Int) else kdL x ps (i + 1)
theorem kind_loop (x : UInt8) (s : List UInt8) (ps : List (List UInt8)) (hp : ∀ p ∈ ps, p ≠ []) (hl : ps.length ≤ 100) (n : Nat) : ∀ g m i, g < m → i + g = ps.length →
   L_impl_kindAt_0 n m (bytesOf (x :: s)) (ps.map bytesOf) (ps.length : Int) (i : Int) = some ([nt (kdL x (ps.drop i) i)], [])
 | g, 0, i, h, _ => by omega
 | 0, m + 1, i, _, hi => by
  rw [L_impl_kindAt_0_eq, decide_eq_false (show ¬ (i : Int) < ps.length by omega), cond_false, List.drop_of_length_le (by omega)]; rfl
 | g + 1, m + 1, i, hg, hi => by
  have hlt : i < ps.length := by omega
  have hne := hp _ (List.getElem_mem hlt)
  rw [L_impl_kindAt_0_eq, decide_eq_true (show (i : Int) < ps.length by omega), cond_true, decide_eq_true (show (0 : Int) ≤ i by omega), cond_true, Int.toNat_natCast, List.getElem?_map, List.getElem?_eq_getElem hlt, List.drop_eq_getElem_cons hlt, kdL]
  generalize ps[i] = p at hne
  cases p with
  | nil => exact absurd rfl hne
  | cons y p =>
   simp only [Option.map_some, Option.bind_some, by_size, List.length_cons]
   rw [by_hd, by_hd, decide_eq_true (show (0 : Int) < ((p.length + 1 : Nat) : Int) by omega), decide_eq_true (show (0 : Int) < ((s.length + 1 : Nat) : Int) by omega), show decide (0 ≤ 0) = true from rfl, Bool.and_self, cond_true, cond_true]
   by_cases h : y = x
   ·subst h
    rw [decide_eq_true rfl, cond_true, if_pos (show (y :: p).headD 0 = y from rfl), wrap64 (show -9223372036854775808 ≤ 1 + (i : Int) ∧ 1 + (i : Int) ≤ 9223372036854775807 by omega)]
   ·rw [decide_eq_false (fun e => h (byte_eq.1 e)), cond_false, if_neg (show ¬ (y :: p).headD 0 = x from h), wrap64 (show -9223372036854775808 ≤ (i : Int) + 1 ∧ (i : Int) + 1 ≤ 9223372036854775807 by omega)]
    exact kind_loop x s ps hp hl n g m (i + 1) (by omega) (by omega)
def kdF (x : UInt8) : Int := kdL x shps 0
theorem f_kindAt {n : Nat} (hn : 30 ≤ n) (x : UInt8) (s : List UInt8) : FF n 64 [sr (x :: s)] [] = some ([nt (kdF x)], []) := by
 obtain ⟨n, rfl⟩ := pos_succ (show 0 < n by omega)
 rw [E_impl_kindAt, f_shapes (by omega)]
 simp only [by_toList, ne_nil, List.cons_ne_nil, decide_false, cond_false]
 simp only [evt]
 have := kind_loop x s shps (by decide) (by decide) n 16 n 0 (by omega) (by decide)
 simp only [List.length_map]
 exact this
theorem f_isBd {n : Nat} (hn : 1 ≤ n) (k : Int) : FF n 72 [nt k] [] = some ([bl (isBd k)], []) := by
 rw [f_isBinder hn]
 congr 5
 unfold isBd
 rw [Bool.eq_iff_iff]; simp
def RD (B : Nat) (o : Option (T × List UInt8)) (res : OR) : Prop := ∃ t r b, res = some ([tm t, sr r, bl b], []) ∧ (∀ x, o = some x → t = x.1 ∧ r = x.2 ∧ b = true) ∧ (o = none → b = false) ∧ (b = true → r.length ≤ B)
theorem RD.fail {B : Nat} {res : OR} {t : T} {r : List UInt8} (h : res = some ([tm t, sr r, bl false], [])) : RD B none res := ⟨t, r, false, h, fun _ h => (by cases h), fun _ => rfl, fun h => (by cases h)⟩
theorem RD.ok {B : Nat} {res : OR} {t : T} {r : List UInt8} (h : res = some ([tm t, sr r, bl true], [])) (hb : r.length ≤ B) : RD B (some (t, r)) res := ⟨t, r, true, h, fun x e => (by cases e; exact ⟨rfl, rfl, rfl⟩), fun h => (by cases h), fun _ => hb⟩
noncomputable abbrev LN := @L_impl_readNamed_0_oo
section
variable {n c : Nat} {x : UInt8} {s e ins : List UInt8} {deep : Int} {ps : List (List UInt8)} {rest : List UInt8} {binds : Bool} {i : Nat} {z1 z2 : Int} {z3 : List T} {k N : Int} {ks : List T}
theorem ln_false : LN n (c + 1) (bytesOf (x :: s)) (bytesOf e) deep (ps.map bytesOf) (bytesOf rest) false (bytesOf ins) binds (i : Int) z1 z2 z3 k N ks = some ([tm (.mk k N ks), sr rest, bl false], []) := by
 unfold LN
 rw [L_impl_readNamed_0_oo_eq]
 simp only [cond_false, Bool.cond_self]; rfl
theorem ln_end (hn : 1 ≤ n) (hi : i = ps.length) : LN n (c + 1) (bytesOf (x :: s)) (bytesOf e) deep (ps.map bytesOf) (bytesOf rest) true (bytesOf ins) binds (i : Int) z1 z2 z3 k N ks = some ([tm (.mk k N ks), sr rest, bl (decide (isBd k = binds))], []) := by
 unfold LN
 rw [L_impl_readNamed_0_oo_eq, List.length_map, decide_eq_false (show ¬ (i : Int) < ps.length by omega), cond_false, cond_true, f_isBd hn]
 simp only [evt]; rfl
theorem ln_step (hn : 10 ≤ n) (hx : x ≠ 40 ∨ i ≠ 1) (hi : i < ps.length) (hps : ps.length ≤ 10) (hk : ks.length ≤ 10) (hd : 0 ≤ deep ∧ deep ≤ 100) {t : T} {r : List UInt8} {b : Bool}
   (hr : FF n 28 [sr rest, sr (if i = 2 ∧ isBd k = true then ins else e), nt (deep + 1)] [] = some ([tm t, sr r, bl b], [])) :
   LN n (c + 1) (bytesOf (x :: s)) (bytesOf e) deep (ps.map bytesOf) (bytesOf rest) true (bytesOf ins) binds (i : Int) z1 z2 z3 k N ks =
    if b = true then LN n c (bytesOf (x :: s)) (bytesOf e) deep (ps.map bytesOf) (bytesOf ((cutP (ps[i]'hi) r).getD r)) (cutP (ps[i]'hi) r).isSome (bytesOf ins) binds ((i + 1 : Nat) : Int) z1 z2 z3 k N (ks ++ [t]) else some ([tm (.mk 0 0 []), sr [], bl false], []) := by
 unfold LN
 rw [L_impl_readNamed_0_oo_eq, List.length_map, decide_eq_true (show (i : Int) < ps.length by omega), cond_true, cond_true, f_isBd (by omega), wrap64 (show -9223372036854775808 ≤ deep + 1 ∧ deep + 1 ≤ 9223372036854775807 by omega), wrap64 (show -9223372036854775808 ≤ (i : Int) + 1 ∧ (i : Int) + 1 ≤ 9223372036854775807 by omega)]
 have hlen : (ks ++ [t]).length ≤ 11 := by simp; omega
 have hroom : roomB (ks ++ [t]).length = true := roomB_ok (by omega)
 have h0 : decide (0 < (((bytesOf (x :: s)).size : Nat) : Int)) = true := by rw [by_size]; simp
 have hg : (ps.map bytesOf)[((i : Int)).toNat]? = some (bytesOf (ps[i]'hi)) := by rw [Int.toNat_natCast, List.getElem?_map, List.getElem?_eq_getElem hi]; rfl
 have h00 : decide (0 ≤ 0) = true := rfl
 have hi0 : decide ((0 : Int) ≤ (i : Int)) = true := decide_eq_true (by omega)
 have hx1 : ∀ (A B : OR), (x ≠ 40 ∨ i ≠ 1) → cond (decide (((byteAt (bytesOf (x :: s)) (0 : Int).toNat).toNat : Int) = 40)) (cond (decide ((i : Int) = 1)) A B) B = B := fun A B h => by
  rcases h with h | h
  ·rw [by_hd, decide_eq_false (show ¬ (x.toNat : Int) = 40 from fun e => h (byte_eq.1 (show (x.toNat : Int) = ((40 : UInt8).toNat : Int) from e))), cond_false]
  ·rw [decide_eq_false (show ¬ (i : Int) = 1 by omega), cond_false, Bool.cond_self]
 have fin : ∀ (nm : ByteArray), nm = bytesOf (if i = 2 ∧ isBd k = true then ins else e) → FF n 28 [.one (.str (bytesOf rest)), .one (.str nm), .one (.int .i64 (deep + 1))] [] = some ([tm t, sr r, bl b], []) := fun nm h => by rw [h]; exact hr
 by_cases h2 : i = 2 ∧ isBd k = true
 ·rw [decide_eq_true (show (i : Int) = 2 by omega), cond_true, h2.2]
  simp only [evt]
  rw [fin (bytesOf ins) (by rw [if_pos h2])]
  simp only [evt]
  cases b with
  | false => simp only [Bool.not_false, cond_true, Bool.false_eq_true, if_false]; rfl
  | true =>
   simp only [Bool.not_true, cond_false, hroom, h0, h00, Bool.and_self, cond_true, if_true]
   rw [hx1 _ _ hx, hi0, cond_true, hg]
   simp only [Option.bind_some]
   rw [f_CutPrefix _ _ (by omega)]
   simp only [evt]
   rw [show ((i + 1 : Nat) : Int) = (i : Int) + 1 by omega]
 ·have he : FF n 28 [.one (.str (bytesOf rest)), .one (.str (bytesOf e)), .one (.int .i64 (deep + 1))] [] = some ([tm t, sr r, bl b], []) := fin _ (by rw [if_neg h2])
  have two : i = 2 → isBd k = false := fun h => by
   cases hb : isBd k with
   | false => rfl
   | true => exact absurd ⟨h, hb⟩ h2
  by_cases h3 : i = 2
  ·rw [decide_eq_true (show (i : Int) = 2 by omega), cond_true, two h3]
   simp only [evt]
   rw [he]
   simp only [evt]
   cases b with
   | false => simp only [Bool.not_false, cond_true, Bool.false_eq_true, if_false]; rfl
   | true =>
    simp only [Bool.not_true, cond_false, hroom, h0, h00, Bool.and_self, cond_true, if_true]
    rw [hx1 _ _ hx, hi0, cond_true, hg]
    simp only [Option.bind_some]
    rw [f_CutPrefix _ _ (by omega)]
    simp only [evt]
    rw [show ((i + 1 : Nat) : Int) = (i : Int) + 1 by omega]
  ·rw [decide_eq_false (show ¬ (i : Int) = 2 by omega), cond_false, he]
   simp only [evt]
   cases b with
   | false => simp only [Bool.not_false, cond_true, Bool.false_eq_true, if_false]; rfl
   | true =>
    simp only [Bool.not_true, cond_false, hroom, h0, h00, Bool.and_self, cond_true, if_true]
    rw [hx1 _ _ hx, hi0, cond_true, hg]
    simp only [Option.bind_some]
    rw [f_CutPrefix _ _ (by omega)]
    simp only [evt]
    rw [show ((i + 1 : Nat) : Int) = (i : Int) + 1 by omega]
def rkK : List UInt8 → Int
 | y :: _ => if y = 32 then 5 else if y = 42 then 13 else 3
 | [] => 3
def rkC : List UInt8 → UInt8
 | y :: _ => if y = 32 then 32 else if y = 42 then 42 else 62
 | [] => 62
abbrev rps (q : UInt8) : List (List UInt8) := [[40], [q], [41]]
theorem ln_round (hn : 10 ≤ n) (hk : ks.length ≤ 10) (hd : 0 ≤ deep ∧ deep ≤ 100) {t : T} {r : List UInt8} {b : Bool}
   (hr : FF n 28 [sr rest, sr e, nt (deep + 1)] [] = some ([tm t, sr r, bl b], [])) :
   LN n (c + 1) (bytesOf (40 :: s)) (bytesOf e) deep ((rps 62).map bytesOf) (bytesOf rest) true (bytesOf ins) binds 1 z1 z2 z3 3 N ks =
    if b = true then LN n c (bytesOf (40 :: s)) (bytesOf e) deep ((rps (rkC r)).map bytesOf) (bytesOf ((cutP [rkC r] r).getD r)) (cutP [rkC r] r).isSome (bytesOf ins) binds 2 z1 z2 z3 (rkK r) N (ks ++ [t]) else some ([tm (.mk 0 0 []), sr [], bl false], []) := by
 unfold LN
 rw [L_impl_readNamed_0_oo_eq, show decide ((1 : Int) < (((rps 62).map bytesOf).length : Int)) = true from rfl, cond_true, cond_true, show decide ((1 : Int) = 2) = false from rfl, cond_false, wrap64 (show -9223372036854775808 ≤ deep + 1 ∧ deep + 1 ≤ 9223372036854775807 by omega), show IntKind.i64.wrap ((1 : Int) + 1) = 2 from rfl]
 have hroom : roomB (ks ++ [t]).length = true := roomB_ok (by simp; omega)
 have h0 : decide (0 < (((bytesOf (40 :: s)).size : Nat) : Int)) = true := by rw [by_size]; simp
 have h00 : decide (0 ≤ 0) = true := rfl
 have h40 : decide (((byteAt (bytesOf (40 :: s)) (0 : Int).toNat).toNat : Int) = 40) = true := rfl
 simp only [sr, nt] at hr
 rw [hr]
 simp only [evt]
 cases b with
 | false => simp only [Bool.not_false, cond_true, Bool.false_eq_true, if_false]; rfl
 | true =>
  simp only [Bool.not_true, cond_false, hroom, h0, h00, Bool.and_self, cond_true, if_true]
  rw [h40, cond_true, by_toList]
  cases r with
  | nil =>
   simp only [show ((([] : List UInt8) == (bytesOf []).toList)) = true from (by rw [by_toList]; rfl), Bool.not_true, cond_false, show decide ((0 : Int) ≤ 1) = true from rfl, cond_true, show ((rps 62).map bytesOf)[(1 : Int).toNat]? = some (bytesOf [62]) from rfl, Option.bind_some]
   rw [f_CutPrefix _ _ (by omega)]
   simp only [evt]
   simp only [rkK, rkC]
  | cons y r =>
   have hb : ((y :: r) == (bytesOf []).toList) = false := by rw [by_toList]; rfl
   have h1 : decide (0 < (((bytesOf (y :: r)).size : Nat) : Int)) = true := by rw [by_size]; simp
   have dec : ∀ q : UInt8, decide (((byteAt (bytesOf (y :: r)) (0 : Int).toNat).toNat : Int) = (q.toNat : Int)) = decide (y = q) := fun q => by
    rw [by_hd]
    by_cases h : y = q
    ·subst h; simp
    ·rw [decide_eq_false (fun e => h (byte_eq.1 e)), decide_eq_false h]
   have d32 := dec 32
   have d42 := dec 42
   simp only [show ((32 : UInt8).toNat : Int) = 32 from rfl] at d32
   simp only [show ((42 : UInt8).toNat : Int) = 42 from rfl] at d42
   simp only [hb, Bool.not_false, cond_true, h1, h00, Bool.and_self, d32, d42, show decide ((0 : Int) ≤ 1) = true from rfl]
   simp only [f_shapes (n := n) (by omega)]
   simp only [evt]
   obtain ⟨n, rfl⟩ := pos_succ (show 0 < n by omega)
   by_cases hy : y = 32
   ·subst hy
    simp only [decide_true, cond_true, show (shps.map bytesOf)[(4 : Int).toNat]? = some (bytesOf [40, 46, 32, 46, 41]) from rfl, Option.bind_some]
    rw [f_Split (n := n) [40, 46, 32, 46, 41] (ps := rps 32) rfl]
    simp only [evt]
    simp only [show ((rps 32).map bytesOf)[(1 : Int).toNat]? = some (bytesOf [32]) from rfl, Option.bind_some]
    rw [f_CutPrefix _ _ (by omega)]
    simp only [evt]
    simp only [rkK, rkC, if_true]
   ·rw [decide_eq_false hy, cond_false]
    by_cases hz : y = 42
    ·subst hz
     simp only [decide_true, cond_true, show (shps.map bytesOf)[(12 : Int).toNat]? = some (bytesOf [40, 46, 42, 46, 41]) from rfl, Option.bind_some]
     rw [f_Split (n := n) [40, 46, 42, 46, 41] (ps := rps 42) rfl]
     simp only [evt]
     simp only [show ((rps 42).map bytesOf)[(1 : Int).toNat]? = some (bytesOf [42]) from rfl, Option.bind_some]
     rw [f_CutPrefix _ _ (by omega)]
     simp only [evt]
     simp only [rkK, rkC, if_true, show ¬ ((42 : UInt8) = 32) from by decide, if_false]
    ·rw [decide_eq_false hz, cond_false]
     simp only [show (shps.map bytesOf)[(2 : Int).toNat]? = some (bytesOf [40, 46, 62, 46, 41]) from rfl, Option.bind_some]
     rw [f_Split (n := n) [40, 46, 62, 46, 41] (ps := rps 62) rfl]
     simp only [evt]
     simp only [show ((rps 62).map bytesOf)[(1 : Int).toNat]? = some (bytesOf [62]) from rfl, Option.bind_some]
     rw [f_CutPrefix _ _ (by omega)]
     simp only [evt]
     simp only [rkK, rkC, if_neg hy, if_neg hz]
end
def rdP (p : List UInt8 → Option (T × List UInt8)) (k : Int) : List (List UInt8) → List UInt8 → List T → Option (T × List UInt8)
 | [], rest, ks => some (.mk k 0 ks, rest)
 | q :: qs, rest, ks => (p rest).bind fun x => (cutP q x.2).bind fun r => rdP p k qs r (ks ++ [x.1])
def prt (last : UInt8) : Nat → List (List UInt8)
 | 0 => []
 | n + 1 => [if n = 0 then last else 44] :: prt last n
theorem rdP_S (p : List UInt8 → Option (T × List UInt8)) (k : Int) (last : UInt8) : ∀ n s ks, rdP p k (prt last n) s ks = (rdS p last n s).map fun y => (.mk k 0 (ks ++ y.1), y.2)
 | 0, s, ks => by simp [rdP, prt, rdS]
 | n + 1, s, ks => by
  rw [prt, rdP, rdS]
  cases p s with
  | none => rfl
  | some x =>
   simp only [Option.bind_some, cut_one]
   cases eat (if n = 0 then last else 44) x.2 with
   | none => rfl
   | some r =>
    simp only [Option.bind_some]
    rw [rdP_S p k last n r]
    cases rdS p last n r with
    | none => rfl
    | some y => simp
theorem cutP_len {q l r : List UInt8} (h : cutP q l = some r) : r.length ≤ l.length := by
 unfold cutP at h
 split at h
 ·cases h; simp
 ·cases h
theorem plain_loop {B n : Nat} {x : UInt8} {s e ins : List UInt8} {deep k : Int} {ps : List (List UInt8)} (p : List UInt8 → Option (T × List UInt8)) (hn : 10 ≤ n) (hx : x ≠ 40) (hkb : isBd k = false) (hps : ps.length ≤ 10) (hd : 0 ≤ deep ∧ deep ≤ 100)
   (hp : ∀ s : List UInt8, s.length ≤ B → RD B (p s) (FF n 28 [sr s, sr e, nt (deep + 1)] [])) :
   ∀ j m i rest ks, j < m → i + j = ps.length → ks.length ≤ i → rest.length ≤ B → RD B (rdP p k (ps.drop i) rest ks) (LN n m (bytesOf (x :: s)) (bytesOf e) deep (ps.map bytesOf) (bytesOf rest) true (bytesOf ins) false (i : Int) 0 0 [] k 0 ks)
 | j, 0, i, rest, ks, h, _, _, _ => by omega
 | 0, m + 1, i, rest, ks, _, hi, _, hr => by
  rw [List.drop_of_length_le (by omega), rdP]
  refine RD.ok (B := B) ?_ hr
  rw [ln_end (by omega) (by omega), hkb]; rfl
 | j + 1, m + 1, i, rest, ks, hj, hi, hks, hr => by
  have hlt : i < ps.length := by omega
  obtain ⟨t, r, b, h1, h2, h3, h4⟩ := hp rest hr
  rw [List.drop_eq_getElem_cons hlt, rdP]
  rw [ln_step (x := x) (i := i) hn (.inl hx) hlt hps (by omega) hd (by rw [if_neg (by rw [hkb]; simp)]; exact h1)]
  cases b with
  | false =>
   have : p rest = none := by
    cases hq : p rest with
    | none => rfl
    | some y => have := (h2 y hq).2.2; cases this
   rw [this]
   exact RD.fail (t := .mk 0 0 []) (r := []) (by rw [if_neg (by simp)])
  | true =>
   obtain ⟨y, hq⟩ : ∃ y, p rest = some y := by
    cases hq : p rest with
    | none => have := h3 hq; cases this
    | some y => exact ⟨y, rfl⟩
   obtain ⟨rfl, rfl, _⟩ := h2 y hq
   rw [hq, if_pos rfl, Option.bind_some]
   cases hc : cutP ps[i] y.2 with
   | none =>
    simp only [Option.getD_none, Option.isSome_none, Option.bind_none]
    cases m with
    | zero => omega
    | succ m => exact RD.fail ln_false
   | some r2 =>
    simp only [Option.getD_some, Option.isSome_some, Option.bind_some]
    have := cutP_len hc
    have := h4 rfl
    exact plain_loop p hn hx hkb hps hd hp j m (i + 1) r2 (ks ++ [y.1]) (by omega) (by omega) (by simp; omega) (by omega)
theorem letB_eq (c : UInt8) : letterB c = letB c := by unfold letterB letB; rw [Bool.eq_iff_iff]; simp; omega
theorem f_isLetter {n : Nat} (hn : 1 ≤ n) (c : UInt8) : FF n 60 [.one (.int .u8 (c.toNat : Int))] [] = some ([bl (letB c)], []) := by
 obtain ⟨n, rfl⟩ := pos_succ (show 0 < n by omega)
 rw [E_impl_isLetter, ← letB_eq]
 unfold letterB
 by_cases h : (97 : Int) ≤ c.toNat <;> simp only [h, decide_true, decide_false, cond_true, cond_false, Bool.true_and, Bool.false_and]
theorem kd_other {x : UInt8} (h : x ≠ 42 ∧ x ≠ 78 ∧ x ≠ 48 ∧ x ≠ 43 ∧ x ≠ 33 ∧ x ≠ 94 ∧ x ≠ 95 ∧ x ≠ 40 ∧ x ≠ 91 ∧ x ≠ 60 ∧ x ≠ 123 ∧ x ≠ 124 ∧ x ≠ 64) : kdF x = -1 ∨ kdF x = 1 := by
 obtain ⟨h1, h2, h3, h4, h5, h6, h7, h8, h9, h10, h11, h12, h13⟩ := h
 by_cases h0 : x = 35
 ·subst h0; exact .inr rfl
 ·left
  unfold kdF shps
  rw [kdL, if_neg (show ¬ ([35] : List UInt8).headD 0 = x from Ne.symm h0), kdL, if_neg (show ¬ ([42] : List UInt8).headD 0 = x from Ne.symm h1), kdL, if_neg (show ¬ ([40, 46, 62, 46, 41] : List UInt8).headD 0 = x from Ne.symm h8), kdL, if_neg (show ¬ ([91, 46, 93, 46] : List UInt8).headD 0 = x from Ne.symm h9), kdL, if_neg (show ¬ ([40, 46, 32, 46, 41] : List UInt8).headD 0 = x from Ne.symm h8), kdL, if_neg (show ¬ ([78] : List UInt8).headD 0 = x from Ne.symm h2), kdL, if_neg (show ¬ ([48] : List UInt8).headD 0 = x from Ne.symm h3), kdL, if_neg (show ¬ ([43, 46] : List UInt8).headD 0 = x from Ne.symm h4), kdL, if_neg (show ¬ ([60, 46, 44, 46, 44, 46, 44, 46, 62] : List UInt8).headD 0 = x from Ne.symm h10), kdL, if_neg (show ¬ ([123, 46, 44, 46, 44, 46, 125] : List UInt8).headD 0 = x from Ne.symm h11), kdL, if_neg (show ¬ ([33, 46] : List UInt8).headD 0 = x from Ne.symm h5), kdL, if_neg (show ¬ ([64, 60, 46, 44, 46, 44, 46, 62] : List UInt8).headD 0 = x from Ne.symm h13), kdL, if_neg (show ¬ ([40, 46, 42, 46, 41] : List UInt8).headD 0 = x from Ne.symm h8), kdL, if_neg (show ¬ ([124, 46, 44, 46, 44, 46, 124] : List UInt8).headD 0 = x from Ne.symm h12), kdL, if_neg (show ¬ ([94, 46] : List UInt8).headD 0 = x from Ne.symm h6), kdL, if_neg (show ¬ ([95, 46] : List UInt8).headD 0 = x from Ne.symm h7), kdL]
theorem rnN_le (l : List UInt8) : rnN l ≤ 9223372036854775807 := by
 unfold rnN
 split
 ·rename_i v h; exact (Lib.atoiAll_bounds h).2
 ·decide
theorem rnR_len (l : List UInt8) : (rnR l).length ≤ l.length := by
 unfold rnR
 split
 ·exact dw_len digB l
 ·simp
theorem in_1 (x : UInt8) (s : List UInt8) : Go.Ab.inB 1 (((bytesOf (x :: s)).size : Nat) : Int) ((bytesOf (x :: s)).size) = true := by
 rw [by_size]; simp only [List.length_cons, inB, Bool.and_eq_true, decide_eq_true_eq]; omega
theorem tl_1 (x : UInt8) (s : List UInt8) : (bytesOf (x :: s)).extract (1 : Int).toNat ((((bytesOf (x :: s)).size : Nat) : Int)).toNat = bytesOf s := by
 rw [by_size, Int.toNat_natCast, by_ext, List.take_length]; rfl
section
variable {n B : Nat} {x : UInt8} {s e : List UInt8} {deep : Int}
theorem z_hd (x : UInt8) (s : List UInt8) : decide (0 < (((bytesOf (x :: s)).size : Nat) : Int)) = true := by rw [by_size]; simp
theorem rn_start (hn : 100 ≤ n) (hl : letB x = false) (hd : 0 ≤ deep ∧ deep ≤ 30) (h40 : x ≠ 40) (h91 : x ≠ 91) {k : Nat} (hk : kdF x = ((k + 1 : Nat) : Int)) (hk2 : 2 ≤ k) {sh p0 : List UInt8} {ps : List (List UInt8)} (hsh : shps[k]? = some sh) (hsp : shTab.lookup sh = some (p0 :: ps)) :
   FF (n + 1) 28 [sr (x :: s), sr e, nt deep] [] = LN n n (bytesOf (x :: s)) (bytesOf e) deep ((p0 :: ps).map bytesOf) (bytesOf ((cutP p0 (x :: s)).getD (x :: s))) (cutP p0 (x :: s)).isSome (bytesOf e) false 1 0 0 [] ((k + 1 : Nat) : Int) 0 [] := by
 rw [E_impl_readNamed, by_toList]
 simp only [show ((x :: s) == (bytesOf []).toList) = false from (by rw [by_toList]; rfl), cond_false, decide_eq_false (show ¬ (30 : Int) < deep by omega), z_hd, show decide (0 ≤ 0) = true from rfl, Bool.and_self, cond_true]
 rw [by_hd, f_isLetter (by omega), hl]
 simp only [evt]
 rw [f_kindAt (by omega), hk]
 simp only [evt]
 have e1 : decide (((k + 1 : Nat) : Int) < 0) = false := decide_eq_false (by omega)
 have e2 : decide (((k + 1 : Nat) : Int) = 1) = false := decide_eq_false (by omega)
 have e3 : decide (((k + 1 : Nat) : Int) = 2) = false := decide_eq_false (by omega)
 rw [e1, e2, e3]
 simp only [cond_false]
 rw [f_shapes (by omega), wrap64 (show -9223372036854775808 ≤ ((k + 1 : Nat) : Int) - 1 ∧ ((k + 1 : Nat) : Int) - 1 ≤ 9223372036854775807 by have := (List.getElem?_eq_some_iff.1 hsh).1; simp [shps] at this; omega), show ((k + 1 : Nat) : Int) - 1 = (k : Int) by omega]
 simp only [evt]
 rw [decide_eq_true (show (0 : Int) ≤ (k : Int) by omega), cond_true, Int.toNat_natCast, List.getElem?_map, hsh]
 simp only [Option.map_some, Option.bind_some]
 obtain ⟨n, rfl⟩ := pos_succ (show 0 < n by omega)
 rw [f_Split sh hsp]
 simp only [evt]
 simp only [List.map_cons, Int.toNat_zero, List.getElem?_cons_zero, Option.bind_some]
 rw [f_CutPrefix _ _ (by omega)]
 simp only [evt]
 have c40 : decide ((x.toNat : Int) = 40) = false := decide_eq_false fun e => h40 (byte_eq.1 (show (x.toNat : Int) = ((40 : UInt8).toNat : Int) from e))
 have c91 : decide ((x.toNat : Int) = 91) = false := decide_eq_false fun e => h91 (byte_eq.1 (show (x.toNat : Int) = ((91 : UInt8).toNat : Int) from e))
 simp only [z_hd, show decide (0 ≤ 0) = true from rfl, Bool.and_self, cond_true, c40, c91, cond_false]
end
end Go.Proofs.YtnogehmgpfpjmaaGreatDoor
end
section
namespace Go.Proofs.YtnogehmgpfpjmaaGreatDoor
open Go Go.Ab Go.Dk
section
variable {n B : Nat} {x : UInt8} {s e : List UInt8} {deep : Int}
theorem bnd_cons (y z : UInt8) (s : List UInt8) : bnd (y :: z :: s) = if letB y = true ∧ z = 58 then some (y, s) else none := rfl
theorem rn_start40 (hn : 100 ≤ n) (hd : 0 ≤ deep ∧ deep ≤ 30) (he : e.length ≤ 1000) : FF (n + 1) 28 [sr (40 :: s), sr e, nt deep] [] =
   (match bnd s with
   | some (y, s2) => LN n n (bytesOf (40 :: s)) (bytesOf e) deep ((rps 62).map bytesOf) (bytesOf s2) true (bytesOf (e ++ [y])) true 1 0 0 [] 3 0 []
   | none => LN n n (bytesOf (40 :: s)) (bytesOf e) deep ((rps 62).map bytesOf) (bytesOf s) true (bytesOf e) false 1 0 0 [] 3 0 []) := by
 rw [E_impl_readNamed, by_toList]
 simp only [show (((40 : UInt8) :: s) == (bytesOf []).toList) = false from (by rw [by_toList]; rfl), cond_false, decide_eq_false (show ¬ (30 : Int) < deep by omega), z_hd, show decide (0 ≤ 0) = true from rfl, Bool.and_self, cond_true]
 rw [by_hd, f_isLetter (by omega), show letB 40 = false from rfl]
 simp only [evt]
 rw [f_kindAt (by omega), show kdF 40 = 3 from rfl]
 simp only [evt]
 simp only [show decide ((3 : Int) < 0) = false from rfl, show decide ((3 : Int) = 1) = false from rfl, show decide ((3 : Int) = 2) = false from rfl, cond_false]
 rw [f_shapes (by omega), show IntKind.i64.wrap ((3 : Int) - 1) = 2 from rfl]
 simp only [evt]
 simp only [show decide ((0 : Int) ≤ 2) = true from rfl, cond_true, show (shps.map bytesOf)[(2 : Int).toNat]? = some (bytesOf [40, 46, 62, 46, 41]) from rfl, Option.bind_some]
 obtain ⟨n, rfl⟩ := pos_succ (show 0 < n by omega)
 rw [f_Split [40, 46, 62, 46, 41] (ps := (rps 62)) rfl]
 simp only [evt]
 simp only [show ((rps 62).map bytesOf)[(0 : Int).toNat]? = some (bytesOf [40]) from rfl, Option.bind_some]
 rw [f_CutPrefix _ _ (by omega), show cutP [40] (40 :: s) = some s from by rw [cut_one]; rfl]
 simp only [evt, Option.getD_some, Option.isSome_some]
 have d40 : decide ((((40 : UInt8).toNat : Nat) : Int) = 40) = true := by decide
 rw [d40, cond_true]
 match s with
 | [] =>
  rw [show decide ((1 : Int) < (((bytesOf []).size : Nat) : Int)) = false from (by rw [by_size]; rfl), cond_false]; rfl
 | [y] =>
  rw [show decide ((1 : Int) < (((bytesOf [y]).size : Nat) : Int)) = false from (by rw [by_size]; rfl), cond_false]; rfl
 | y :: z :: s2 =>
  have h1 : decide ((1 : Int) < (((bytesOf (y :: z :: s2)).size : Nat) : Int)) = true := by rw [by_size]; simp only [List.length_cons, decide_eq_true_eq]; omega
  have h2 : decide (1 < (((bytesOf (y :: z :: s2)).size : Nat) : Int)) = true := h1
  have h3 : byteAt (bytesOf (y :: z :: s2)) (1 : Int).toNat = z := rfl
  have i1 : Go.Ab.inB 0 1 (bytesOf (y :: z :: s2)).size = true := by rw [by_size]; simp only [List.length_cons, inB, Bool.and_eq_true, decide_eq_true_eq]; omega
  have i2 : Go.Ab.inB 2 (((bytesOf (y :: z :: s2)).size : Nat) : Int) (bytesOf (y :: z :: s2)).size = true := by rw [by_size]; simp only [List.length_cons, inB, Bool.and_eq_true, decide_eq_true_eq]; omega
  have e1 : (bytesOf (y :: z :: s2)).extract (0 : Int).toNat (1 : Int).toNat = bytesOf [y] := by rw [by_ext]; rfl
  have e2 : (bytesOf (y :: z :: s2)).extract (2 : Int).toNat ((((bytesOf (y :: z :: s2)).size : Nat) : Int)).toNat = bytesOf s2 := by rw [by_size, Int.toNat_natCast, by_ext, List.take_length]; rfl
  have e3 : decide ((bytesOf e).size + (bytesOf [y]).size ≤ 9223372036854775807) = true := by rw [by_size, by_size]; simp only [List.length_cons, List.length_nil, decide_eq_true_eq]; omega
  have d01 : decide (0 ≤ 1) = true := rfl
  rw [h1, cond_true, z_hd, cond_true, by_hd, f_isLetter (by omega)]
  simp only [evt]
  rw [bnd_cons]
  cases hy : letB y with
  | false => rw [cond_false, if_neg (fun h => by cases h.1)]
  | true =>
   rw [cond_true, d01, cond_true, h3]
   by_cases hz : z = 58
   ·subst hz
    have d58 : decide ((((58 : UInt8).toNat : Nat) : Int) = 58) = true := by decide
    rw [d58, cond_true, i1, cond_true, e1, e3, cond_true, i2, cond_true, e2, by_app, if_pos ⟨rfl, rfl⟩]
   ·rw [decide_eq_false (show ¬ (z.toNat : Int) = 58 from fun e => hz (byte_eq.1 (show (z.toNat : Int) = ((58 : UInt8).toNat : Int) from e)))]
    rw [cond_false, if_neg (fun h => hz h.2)]
theorem rn_start91 (hn : 100 ≤ n) (hd : 0 ≤ deep ∧ deep ≤ 30) (he : e.length ≤ 1000) : FF (n + 1) 28 [sr (91 :: s), sr e, nt deep] [] =
   (match bnd s with
   | some (y, s2) => LN n n (bytesOf (91 :: s)) (bytesOf e) deep (([[91], [93], []] : List (List UInt8)).map bytesOf) (bytesOf s2) true (bytesOf (e ++ [y])) true 1 0 0 [] 4 0 []
   | none => LN n n (bytesOf (91 :: s)) (bytesOf e) deep (([[91], [93], []] : List (List UInt8)).map bytesOf) (bytesOf s) true (bytesOf e) false 1 0 0 [] 4 0 []) := by
 rw [E_impl_readNamed, by_toList]
 simp only [show (((91 : UInt8) :: s) == (bytesOf []).toList) = false from (by rw [by_toList]; rfl), cond_false, decide_eq_false (show ¬ (30 : Int) < deep by omega), z_hd, show decide (0 ≤ 0) = true from rfl, Bool.and_self, cond_true]
 rw [by_hd, f_isLetter (by omega), show letB 91 = false from rfl]
 simp only [evt]
 rw [f_kindAt (by omega), show kdF 91 = 4 from rfl]
 simp only [evt]
 simp only [show decide ((4 : Int) < 0) = false from rfl, show decide ((4 : Int) = 1) = false from rfl, show decide ((4 : Int) = 2) = false from rfl, cond_false]
 rw [f_shapes (by omega), show IntKind.i64.wrap ((4 : Int) - 1) = 3 from rfl]
 simp only [evt]
 simp only [show decide ((0 : Int) ≤ 3) = true from rfl, cond_true, show (shps.map bytesOf)[(3 : Int).toNat]? = some (bytesOf [91, 46, 93, 46]) from rfl, Option.bind_some]
 obtain ⟨n, rfl⟩ := pos_succ (show 0 < n by omega)
 rw [f_Split [91, 46, 93, 46] (ps := ([[91], [93], []] : List (List UInt8))) rfl]
 simp only [evt]
 simp only [show (([[91], [93], []] : List (List UInt8)).map bytesOf)[(0 : Int).toNat]? = some (bytesOf [91]) from rfl, Option.bind_some]
 rw [f_CutPrefix _ _ (by omega), show cutP [91] (91 :: s) = some s from by rw [cut_one]; rfl]
 simp only [evt, Option.getD_some, Option.isSome_some]
 have d40 : decide ((((91 : UInt8).toNat : Nat) : Int) = 40) = false := by decide
 have d91 : decide ((((91 : UInt8).toNat : Nat) : Int) = 91) = true := by decide
 rw [d40, cond_false, d91, cond_true]
 match s with
 | [] =>
  rw [show decide ((1 : Int) < (((bytesOf []).size : Nat) : Int)) = false from (by rw [by_size]; rfl), cond_false]; rfl
 | [y] =>
  rw [show decide ((1 : Int) < (((bytesOf [y]).size : Nat) : Int)) = false from (by rw [by_size]; rfl), cond_false]; rfl
 | y :: z :: s2 =>
  have h1 : decide ((1 : Int) < (((bytesOf (y :: z :: s2)).size : Nat) : Int)) = true := by rw [by_size]; simp only [List.length_cons, decide_eq_true_eq]; omega
  have h2 : decide (1 < (((bytesOf (y :: z :: s2)).size : Nat) : Int)) = true := h1
  have h3 : byteAt (bytesOf (y :: z :: s2)) (1 : Int).toNat = z := rfl
  have i1 : Go.Ab.inB 0 1 (bytesOf (y :: z :: s2)).size = true := by rw [by_size]; simp only [List.length_cons, inB, Bool.and_eq_true, decide_eq_true_eq]; omega
  have i2 : Go.Ab.inB 2 (((bytesOf (y :: z :: s2)).size : Nat) : Int) (bytesOf (y :: z :: s2)).size = true := by rw [by_size]; simp only [List.length_cons, inB, Bool.and_eq_true, decide_eq_true_eq]; omega
  have e1 : (bytesOf (y :: z :: s2)).extract (0 : Int).toNat (1 : Int).toNat = bytesOf [y] := by rw [by_ext]; rfl
  have e2 : (bytesOf (y :: z :: s2)).extract (2 : Int).toNat ((((bytesOf (y :: z :: s2)).size : Nat) : Int)).toNat = bytesOf s2 := by rw [by_size, Int.toNat_natCast, by_ext, List.take_length]; rfl
  have e3 : decide ((bytesOf e).size + (bytesOf [y]).size ≤ 9223372036854775807) = true := by rw [by_size, by_size]; simp only [List.length_cons, List.length_nil, decide_eq_true_eq]; omega
  have d01 : decide (0 ≤ 1) = true := rfl
  rw [h1, cond_true, z_hd, cond_true, by_hd, f_isLetter (by omega)]
  simp only [evt]
  rw [bnd_cons]
  cases hy : letB y with
  | false => rw [cond_false, if_neg (fun h => by cases h.1)]
  | true =>
   rw [cond_true, d01, cond_true, h3]
   by_cases hz : z = 58
   ·subst hz
    have d58 : decide ((((58 : UInt8).toNat : Nat) : Int) = 58) = true := by decide
    rw [d58, cond_true, i1, cond_true, e1, e3, cond_true, i2, cond_true, e2, by_app, if_pos ⟨rfl, rfl⟩]
   ·rw [decide_eq_false (show ¬ (z.toNat : Int) = 58 from fun e => hz (byte_eq.1 (show (z.toNat : Int) = ((58 : UInt8).toNat : Int) from e)))]
    rw [cond_false, if_neg (fun h => hz h.2)]
end
end Go.Proofs.YtnogehmgpfpjmaaGreatDoor
end
section
namespace Go.Proofs.YtnogehmgpfpjmaaGreatDoor
open Go Go.Ab Go.Dk
section
variable {n B m : Nat} {x : UInt8} {s e ins : List UInt8} {deep : Int} {rest : List UInt8} {binds : Bool} {z1 z2 : Int} {z3 : List T} {k : Int}
theorem f_sort {n : Nat} (hn : 1 ≤ n) (i : Int) : FF n 66 [nt i] [] = some ([tm (.mk 2 i [])], []) := by
 obtain ⟨n, rfl⟩ := pos_succ (show 0 < n by omega)
 exact E_impl_sort n i
theorem RD.both {o : Option (T × List UInt8)} {res : OR} (h : RD B o res) : (∃ t r, o = none ∧ res = some ([tm t, sr r, bl false], [])) ∨ (∃ t r, o = some (t, r) ∧ res = some ([tm t, sr r, bl true], []) ∧ r.length ≤ B) := by
 obtain ⟨t, r, b, h1, h2, h3, h4⟩ := h
 cases o with
 | none => have := h3 rfl; subst this; exact .inl ⟨t, r, rfl, h1⟩
 | some y =>
  obtain ⟨rfl, rfl, rfl⟩ := h2 y rfl
  exact .inr ⟨y.1, y.2, rfl, h1, h4 rfl⟩
theorem ln_two (hn : 10 ≤ n) (hd : 0 ≤ deep ∧ deep ≤ 100) {a q c : List UInt8} {t1 : T} {o : Option (T × List UInt8)}
   (hp : RD B o (FF n 28 [sr rest, sr (if isBd k = true then ins else e), nt (deep + 1)] [])) :
   RD B (o.bind fun b => (cutP c b.2).bind fun r2 => if isBd k = binds then some (.mk k 0 [t1, b.1], r2) else none)
    (LN n (m + 2) (bytesOf (x :: s)) (bytesOf e) deep ([a, q, c].map bytesOf) (bytesOf rest) true (bytesOf ins) binds 2 z1 z2 z3 k 0 [t1]) := by
 have key : ∀ {t : T} {r : List UInt8} {b : Bool}, FF n 28 [sr rest, sr (if isBd k = true then ins else e), nt (deep + 1)] [] = some ([tm t, sr r, bl b], []) →
    LN n (m + 2) (bytesOf (x :: s)) (bytesOf e) deep ([a, q, c].map bytesOf) (bytesOf rest) true (bytesOf ins) binds 2 z1 z2 z3 k 0 [t1] =
    if b = true then LN n (m + 1) (bytesOf (x :: s)) (bytesOf e) deep ([a, q, c].map bytesOf) (bytesOf ((cutP c r).getD r)) (cutP c r).isSome (bytesOf ins) binds ((3 : Nat) : Int) z1 z2 z3 k 0 ([t1] ++ [t]) else some ([tm (.mk 0 0 []), sr [], bl false], []) := by
  intro t r b h
  exact ln_step (x := x) (i := 2) (ps := [a, q, c]) (ks := [t1]) hn (.inr (by decide)) (by simp) (by simp) (by simp) hd (by simp only [true_and]; exact h)
 rcases hp.both with ⟨t, r, rfl, hr⟩ | ⟨t, r, rfl, hr, hl⟩
 ·rw [key hr]; exact RD.fail (by rw [if_neg (by simp)])
 ·rw [key hr, if_pos rfl, Option.bind_some]
  cases hc : cutP c r with
  | none => exact RD.fail (by simp only [Option.getD_none, Option.isSome_none]; exact ln_false)
  | some r2 =>
   simp only [Option.getD_some, Option.isSome_some, Option.bind_some]
   have e := ln_end (n := n) (c := m) (x := x) (s := s) (e := e) (deep := deep) (ps := [a, q, c]) (rest := r2) (ins := ins) (binds := binds) (i := 3) (z1 := z1) (z2 := z2) (z3 := z3) (k := k) (N := 0) (ks := [t1] ++ [t]) (by omega) rfl
   have := cutP_len hc
   by_cases hk : isBd k = binds
   ·rw [if_pos hk]
    refine RD.ok ?_ (by omega)
    rw [e, decide_eq_true hk]; rfl
   ·rw [if_neg hk]
    exact RD.fail (t := .mk k 0 ([t1] ++ [t])) (r := r2) (by rw [e, decide_eq_false hk])
theorem rn_round (hn : 10 ≤ n) (hd : 0 ≤ deep ∧ deep ≤ 100) (hm : 3 ≤ m) {p p2 : List UInt8 → Option (T × List UInt8)} (hrest : rest.length ≤ B)
   (hp : ∀ r : List UInt8, r.length ≤ B → RD B (p r) (FF n 28 [sr r, sr e, nt (deep + 1)] [])) (hp2 : ∀ r : List UInt8, r.length ≤ B → RD B (p2 r) (FF n 28 [sr r, sr ins, nt (deep + 1)] [])) :
   RD B ((p rest).bind fun a => (cutP [rkC a.2] a.2).bind fun r => ((if isBd (rkK a.2) = true then p2 else p) r).bind fun b => (cutP [41] b.2).bind fun r2 => if isBd (rkK a.2) = binds then some (.mk (rkK a.2) 0 [a.1, b.1], r2) else none)
    (LN n m (bytesOf (40 :: s)) (bytesOf e) deep ((rps 62).map bytesOf) (bytesOf rest) true (bytesOf ins) binds 1 z1 z2 z3 3 0 []) := by
 obtain ⟨m, rfl⟩ : ∃ j, m = j + 3 := ⟨m - 3, by omega⟩
 rcases (hp rest hrest).both with ⟨t, r, ho, hr⟩ | ⟨t, r, ho, hr, hl⟩
 ·rw [ho, ln_round hn (by simp) hd hr]; exact RD.fail (by rw [if_neg (by simp)])
 ·rw [ho, ln_round hn (by simp) hd hr, if_pos rfl]
  simp only [Option.bind_some]
  cases hc : cutP [rkC r] r with
  | none => exact RD.fail (by simp only [Option.getD_none, Option.isSome_none]; exact ln_false (i := 2))
  | some r2 =>
   simp only [Option.getD_some, Option.isSome_some, Option.bind_some]
   have := cutP_len hc
   refine ln_two (m := m) (a := [40]) (q := [rkC r]) (c := [41]) hn hd ?_
   by_cases hk : isBd (rkK r) = true
   ·rw [if_pos hk, if_pos hk]; exact hp2 r2 (by omega)
   ·rw [if_neg hk, if_neg hk]; exact hp r2 (by omega)
theorem rn_square (hn : 10 ≤ n) (hd : 0 ≤ deep ∧ deep ≤ 100) (hm : 3 ≤ m) {p p2 : List UInt8 → Option (T × List UInt8)} (hrest : rest.length ≤ B)
   (hp : ∀ r : List UInt8, r.length ≤ B → RD B (p r) (FF n 28 [sr r, sr e, nt (deep + 1)] [])) (hp2 : ∀ r : List UInt8, r.length ≤ B → RD B (p2 r) (FF n 28 [sr r, sr ins, nt (deep + 1)] [])) :
   RD B ((p rest).bind fun a => (cutP [93] a.2).bind fun r => (p2 r).bind fun b => (cutP [] b.2).bind fun r2 => if isBd 4 = binds then some (.mk 4 0 [a.1, b.1], r2) else none)
    (LN n m (bytesOf (91 :: s)) (bytesOf e) deep (([[91], [93], []] : List (List UInt8)).map bytesOf) (bytesOf rest) true (bytesOf ins) binds 1 z1 z2 z3 4 0 []) := by
 obtain ⟨m, rfl⟩ : ∃ j, m = j + 3 := ⟨m - 3, by omega⟩
 have key : ∀ {t : T} {r : List UInt8} {b : Bool}, FF n 28 [sr rest, sr e, nt (deep + 1)] [] = some ([tm t, sr r, bl b], []) →
    LN n (m + 3) (bytesOf (91 :: s)) (bytesOf e) deep (([[91], [93], []] : List (List UInt8)).map bytesOf) (bytesOf rest) true (bytesOf ins) binds 1 z1 z2 z3 4 0 [] =
    if b = true then LN n (m + 2) (bytesOf (91 :: s)) (bytesOf e) deep (([[91], [93], []] : List (List UInt8)).map bytesOf) (bytesOf ((cutP [93] r).getD r)) (cutP [93] r).isSome (bytesOf ins) binds ((2 : Nat) : Int) z1 z2 z3 4 0 [t] else some ([tm (.mk 0 0 []), sr [], bl false], []) := by
  intro t r b h
  exact ln_step (x := 91) (i := 1) (ps := [[91], [93], []]) (ks := []) hn (.inl (by decide)) (by decide) (by decide) (by decide) hd (by rw [if_neg (fun h => by cases h.1)]; exact h)
 rcases (hp rest hrest).both with ⟨t, r, ho, hr⟩ | ⟨t, r, ho, hr, hl⟩
 ·rw [ho, key hr]; exact RD.fail (by rw [if_neg (by simp)])
 ·rw [ho, key hr, if_pos rfl]
  simp only [Option.bind_some]
  cases hc : cutP [93] r with
  | none => exact RD.fail (by simp only [Option.getD_none, Option.isSome_none]; exact ln_false (i := 2))
  | some r2 =>
   simp only [Option.getD_some, Option.isSome_some, Option.bind_some]
   have := cutP_len hc
   refine ln_two (m := m) (a := [91]) (q := [93]) (c := []) hn hd ?_
   rw [if_pos (show isBd 4 = true from rfl)]; exact hp2 r2 (by omega)
theorem rn_plain (hn : 100 ≤ n) (hl : letB x = false) (hd : 0 ≤ deep ∧ deep ≤ 30) (h40 : x ≠ 40) (h91 : x ≠ 91) {k : Nat} (hk : kdF x = ((k + 1 : Nat) : Int)) (hk2 : 2 ≤ k) (hkb : isBd ((k + 1 : Nat) : Int) = false) {sh p0 : List UInt8} {ps : List (List UInt8)} (hsh : shps[k]? = some sh) (hsp : shTab.lookup sh = some (p0 :: ps)) (hps : ps.length ≤ 8)
   {p : List UInt8 → Option (T × List UInt8)} (hs : (x :: s).length ≤ B)
   (hp : ∀ r : List UInt8, r.length ≤ B → RD B (p r) (FF n 28 [sr r, sr e, nt (deep + 1)] [])) :
   RD B ((cutP p0 (x :: s)).bind fun r => rdP p ((k + 1 : Nat) : Int) ps r []) (FF (n + 1) 28 [sr (x :: s), sr e, nt deep] []) := by
 rw [rn_start hn hl hd h40 h91 hk hk2 hsh hsp]
 cases hc : cutP p0 (x :: s) with
 | none =>
  obtain ⟨n, rfl⟩ := pos_succ (show 0 < n by omega)
  exact RD.fail (by simp only [Option.getD_none, Option.isSome_none]; exact ln_false (i := 1))
 | some r =>
  simp only [Option.getD_some, Option.isSome_some, Option.bind_some]
  have := cutP_len hc
  exact plain_loop (ps := p0 :: ps) p (by omega) h40 hkb (by simp; omega) (by omega) hp ps.length n 1 r [] (by omega) (by simp; omega) (by simp) (by omega)
theorem rn_letter (hn : 100 ≤ n) (he : e.length ≤ 70) (hl : letB x = true) (hd : deep ≤ 30) (hs : (x :: s).length ≤ B) : RD B ((fnd e x).map fun k => (.mk 1 k [], s)) (FF (n + 1) 28 [sr (x :: s), sr e.reverse, nt deep] []) := by
 rw [E_impl_readNamed, by_toList]
 simp only [show ((x :: s) == (bytesOf []).toList) = false from (by rw [by_toList]; rfl), cond_false, decide_eq_false (show ¬ (30 : Int) < deep by omega), z_hd, show decide (0 ≤ 0) = true from rfl, Bool.and_self, cond_true]
 rw [by_hd, f_isLetter (by omega), hl]
 simp only [evt]
 rw [f_LastIndexByte e x (by omega) (by omega), by_size, List.length_reverse]
 simp only [evt]
 cases hf : fnd e x with
 | none =>
  simp only [f_variable (n := n) (by omega)]
  simp only [evt]
  rw [in_1, cond_true]
  exact RD.fail (t := .mk 1 (IntKind.i64.wrap (IntKind.i64.wrap (↑e.length - 1) - -1)) []) (r := s) (by rw [tl_1]; rfl)
 | some k =>
  have := fnd_lt _ _ hf
  rw [wrap64 (show -9223372036854775808 ≤ (e.length : Int) - 1 ∧ (e.length : Int) - 1 ≤ 9223372036854775807 by omega)]
  rw [show (e.length : Int) - 1 - ((e.length : Int) - 1 - k) = k by omega, wrap64 (show -9223372036854775808 ≤ (k : Int) ∧ (k : Int) ≤ 9223372036854775807 by omega)]
  simp only [f_variable (n := n) (by omega)]
  simp only [evt]
  rw [in_1, cond_true, tl_1, decide_eq_true (show (0 : Int) ≤ (e.length : Int) - 1 - k by omega)]
  exact RD.ok rfl (by simp only [List.length_cons] at hs; omega)
theorem rn_num (hn : 100 ≤ n) (hd : deep ≤ 30) (hB : B ≤ 1073741824) (hs : (42 :: s).length ≤ B) : RD B (numI s) (FF (n + 1) 28 [sr (42 :: s), sr e, nt deep] []) := by
 rw [E_impl_readNamed, by_toList]
 simp only [show (((42 : UInt8) :: s) == (bytesOf []).toList) = false from (by rw [by_toList]; rfl), cond_false, decide_eq_false (show ¬ (30 : Int) < deep by omega), z_hd, show decide (0 ≤ 0) = true from rfl, Bool.and_self, cond_true]
 rw [by_hd, f_isLetter (by omega), show letB 42 = false from rfl]
 simp only [evt]
 rw [f_kindAt (by omega), show kdF 42 = 2 from rfl]
 simp only [evt]
 have e1 : decide ((2 : Int) < 0) = false := rfl
 have e2 : decide ((2 : Int) = 1) = false := rfl
 rw [e1, cond_false, e2, cond_false, in_1, cond_true, tl_1]
 simp only [List.length_cons] at hs
 obtain ⟨n, rfl⟩ := pos_succ (show 0 < n by omega)
 rw [f_readNumber (by omega)]
 simp only [evt]
 rw [f_sort (by omega)]
 simp only [evt]
 have := rnR_len s
 unfold numI
 by_cases h0 : 0 ≤ rnN s
 ·rw [decide_eq_true h0, cond_true, f_Itoa h0 (rnN_le s)]
  simp only [evt]
  rw [f_TrimPrefix _ _ (by omega)]
  simp only [evt, by_toList]
  by_cases h : rnR s = (cutP (Lib.itoa (rnN s)) s).getD s
  ·rw [if_pos ⟨h0, h⟩]
   refine RD.ok ?_ (by omega)
   rw [show (rnR s == (cutP (Lib.itoa (rnN s)) s).getD s) = true from by rw [beq_iff_eq]; exact h]; rfl
  ·rw [if_neg (fun hh => h hh.2)]
   refine RD.fail (t := .mk 2 (rnN s) []) (r := rnR s) ?_
   rw [show (rnR s == (cutP (Lib.itoa (rnN s)) s).getD s) = false from by rw [Bool.eq_false_iff, ne_eq, beq_iff_eq]; exact h]; rfl
 ·rw [decide_eq_false h0, cond_false, if_neg (fun h => h0 h.1)]
  exact RD.fail (t := .mk 2 (rnN s) []) (r := rnR s) rfl
theorem rn_other (hn : 100 ≤ n) (hd : deep ≤ 30) (hl : letB x = false) (hk : kdF x = -1 ∨ kdF x = 1) : RD B none (FF (n + 1) 28 [sr (x :: s), sr e, nt deep] []) := by
 rw [E_impl_readNamed, by_toList]
 simp only [show ((x :: s) == (bytesOf []).toList) = false from (by rw [by_toList]; rfl), cond_false, decide_eq_false (show ¬ (30 : Int) < deep by omega), z_hd, show decide (0 ≤ 0) = true from rfl, Bool.and_self, cond_true]
 rw [by_hd, f_isLetter (by omega), hl]
 simp only [evt]
 rw [f_kindAt (by omega)]
 simp only [evt]
 rcases hk with h | h
 ·rw [h, show decide ((-1 : Int) < 0) = true from rfl, cond_true]; exact RD.fail (t := .mk 0 0 []) (r := []) rfl
 ·rw [h, show decide ((1 : Int) < 0) = false from rfl, cond_false, show decide ((1 : Int) = 1) = true from rfl, cond_true]; exact RD.fail (t := .mk 0 0 []) (r := []) rfl
theorem rn_nil (hn : 1 ≤ n) : RD B none (FF n 28 [sr [], sr e, nt deep] []) := by
 obtain ⟨n, rfl⟩ := pos_succ (show 0 < n by omega)
 rw [E_impl_readNamed, by_toList, show (([] : List UInt8) == []) = true from rfl, cond_true]
 exact RD.fail (t := .mk 0 0 []) (r := []) rfl
theorem rn_deep (hn : 1 ≤ n) : RD B none (FF n 28 [sr s, sr e, nt 31] []) := by
 obtain ⟨n, rfl⟩ := pos_succ (show 0 < n by omega)
 rw [E_impl_readNamed, show decide ((30 : Int) < 31) = true from rfl, cond_true, Bool.cond_self]
 exact RD.fail (t := .mk 0 0 []) (r := []) rfl
theorem cut_self (x : UInt8) (s : List UInt8) : cutP [x] (x :: s) = some s := by rw [cut_one]; simp [eat]
theorem rdP_one {p : List UInt8 → Option (T × List UInt8)} {s : List UInt8} : rdP p k [[]] s [] = (p s).map fun x => (.mk k 0 [x.1], x.2) := by
 rw [rdP]
 cases p s with
 | none => rfl
 | some x => simp [cut_nil, rdP]
theorem rd_round {p p2 : List UInt8 → Option (T × List UInt8)} {s : List UInt8} :
   ((p s).bind fun a => (cutP [rkC a.2] a.2).bind fun r => ((if isBd (rkK a.2) = true then p2 else p) r).bind fun b => (cutP [41] b.2).bind fun r2 => if isBd (rkK a.2) = true then some (T.mk (rkK a.2) 0 [a.1, b.1], r2) else none) =
   (p s).bind fun a => (match a.2 with
      | y :: r => if y = 62 then (p2 r).bind fun b => (eat 41 b.2).map fun r => (T.mk 3 0 [a.1, b.1], r)
       else if y = 42 then (p2 r).bind fun b => (eat 41 b.2).map fun r => (T.mk 13 0 [a.1, b.1], r) else none
      | [] => none) := by
 refine congrArg _ (funext fun a => ?_)
 obtain ⟨t, r⟩ := a
 cases r with
 | nil => rfl
 | cons y r =>
  simp only [cut_one, rkK, rkC]
  by_cases h1 : y = 62
  ·subst h1; simp [eat, isBd, Option.map_eq_bind, Function.comp_def]
  ·by_cases h2 : y = 42
   ·subst h2; simp [eat, isBd, Option.map_eq_bind, Function.comp_def]
   ·by_cases h3 : y = 32
    ·subst h3
     simp only [eat, isBd, if_true, Option.bind_some]
     cases (p r) with
     | none => simp
     | some b => cases (eat 41 b.2) <;> simp
    ·simp [h1, h2, h3, eat]
theorem rd_app {p p2 : List UInt8 → Option (T × List UInt8)} {s : List UInt8} :
   ((p s).bind fun a => (cutP [rkC a.2] a.2).bind fun r => ((if isBd (rkK a.2) = true then p2 else p) r).bind fun b => (cutP [41] b.2).bind fun r2 => if isBd (rkK a.2) = false then some (T.mk (rkK a.2) 0 [a.1, b.1], r2) else none) =
   (p s).bind fun a => (eat 32 a.2).bind fun r => (p r).bind fun b => (eat 41 b.2).map fun r => (T.mk 5 0 [a.1, b.1], r) := by
 refine congrArg _ (funext fun a => ?_)
 obtain ⟨t, r⟩ := a
 cases r with
 | nil => rfl
 | cons y r =>
  simp only [cut_one, rkK, rkC]
  by_cases h3 : y = 32
  ·subst h3; simp [eat, isBd, Option.map_eq_bind, Function.comp_def]
  ·by_cases h2 : y = 42
   ·subst h2
    simp only [eat, isBd, if_true, Option.bind_some]
    cases (p2 r) with
    | none => simp
    | some b => cases (eat 41 b.2) <;> simp
   ·by_cases h1 : y = 62
    ·subst h1
     simp only [eat, isBd, if_true, Option.bind_some]
     cases (p2 r) with
     | none => simp
     | some b => cases (eat 41 b.2) <;> simp
    ·simp [h1, h2, h3, eat]
theorem rd_square {p p2 : List UInt8 → Option (T × List UInt8)} {s : List UInt8} :
   ((p s).bind fun a => (cutP [93] a.2).bind fun r => (p2 r).bind fun b => (cutP [] b.2).bind fun r2 => if isBd 4 = binds then some (T.mk 4 0 [a.1, b.1], r2) else none) =
   if binds = true then (p s).bind fun a => (eat 93 a.2).bind fun r => (p2 r).map fun b => (T.mk 4 0 [a.1, b.1], b.2) else none := by
 simp only [cut_one, cut_nil, Option.bind_some, show isBd 4 = true from rfl]
 cases binds with
 | true => simp [Option.map_eq_bind, Function.comp_def]
 | false =>
  simp only [Bool.true_eq_false, Bool.false_eq_true, if_false]
  cases p s with
  | none => rfl
  | some a =>
   simp only [Option.bind_some]
   cases eat 93 a.2 with
   | none => rfl
   | some r =>
    simp only [Option.bind_some]
    cases p2 r <;> rfl
end
theorem bnd_len {s r : List UInt8} {y : UInt8} (h : bnd s = some (y, r)) : r.length + 2 = s.length := by
 unfold bnd at h
 split at h
 ·split at h
  ·cases h; simp
  ·cases h
 ·cases h
theorem f_readNamed {B : Nat} (hB : B ≤ 1073741824) : ∀ (d : Nat), d ≤ 30 → ∀ {n : Nat} (e s : List UInt8), 200 + 10 * d ≤ n → e.length + d ≤ 60 → s.length ≤ B → RD B (rdI d e s) (FF n 28 [sr s, sr e.reverse, nt (31 - (d : Int))] []) := by
 intro d
 induction d with
 | zero => intro _ n e s hn _ _; exact rn_deep (by omega)
 | succ d ih =>
  intro hd n e s hn he hs
  cases s with
  | nil => exact rn_nil (by omega)
  | cons c s =>
   obtain ⟨n, rfl⟩ := pos_succ (show 0 < n by omega)
   have hdp : (31 : Int) - ((d + 1 : Nat) : Int) = 30 - d := by omega
   rw [hdp, rdI]
   have ih1 : ∀ r : List UInt8, r.length ≤ B → RD B (rdI d e r) (FF n 28 [sr r, sr e.reverse, nt (30 - (d : Int) + 1)] []) := fun r hr => by
    rw [show (30 : Int) - d + 1 = 31 - d by omega]; exact ih (by omega) e r (by omega) (by omega) hr
   have ih2 : ∀ (y : UInt8) (r : List UInt8), r.length ≤ B → RD B (rdI d (y :: e) r) (FF n 28 [sr r, sr (e.reverse ++ [y]), nt (30 - (d : Int) + 1)] []) := fun y r hr => by
    rw [show (30 : Int) - d + 1 = 31 - d by omega, show e.reverse ++ [y] = (y :: e).reverse by simp]; exact ih (by omega) (y :: e) r (by omega) (by simp; omega) hr
   have hrs : s.length ≤ B := by simp only [List.length_cons] at hs; omega
   by_cases h0 : letB c = true
   ·rw [if_pos h0]; exact rn_letter (by omega) (by omega) h0 (by omega) hs
   have h0' : letB c = false := by simpa using h0
   rw [if_neg h0]
   by_cases h1 : c = 42
   ·rw [if_pos h1]; subst h1; exact rn_num (by omega) (by omega) hB hs
   rw [if_neg h1]
   by_cases h2 : c = 78
   ·rw [if_pos h2]; subst h2
    have := rn_plain (n := n) (s := s) (by omega) h0' (deep := 30 - d) (by omega) (by decide) (by decide) (k := 5) rfl (by decide) rfl rfl (p0 := [78]) (ps := []) rfl (by decide) hs ih1
    rw [cut_self] at this; exact this
   rw [if_neg h2]
   by_cases h3 : c = 48
   ·rw [if_pos h3]; subst h3
    have := rn_plain (n := n) (s := s) (by omega) h0' (deep := 30 - d) (by omega) (by decide) (by decide) (k := 6) rfl (by decide) rfl rfl (p0 := [48]) (ps := []) rfl (by decide) hs ih1
    rw [cut_self] at this; exact this
   rw [if_neg h3]
   by_cases h4 : c = 43
   ·rw [if_pos h4]; subst h4
    have := rn_plain (n := n) (s := s) (by omega) h0' (deep := 30 - d) (by omega) (by decide) (by decide) (k := 7) rfl (by decide) rfl rfl (p0 := [43]) (ps := [[]]) rfl (by decide) hs ih1
    rw [cut_self, Option.bind_some, rdP_one] at this; exact this
   rw [if_neg h4]
   by_cases h5 : c = 33
   ·rw [if_pos h5]; subst h5
    have := rn_plain (n := n) (s := s) (by omega) h0' (deep := 30 - d) (by omega) (by decide) (by decide) (k := 10) rfl (by decide) rfl rfl (p0 := [33]) (ps := [[]]) rfl (by decide) hs ih1
    rw [cut_self, Option.bind_some, rdP_one] at this; exact this
   rw [if_neg h5]
   by_cases h6 : c = 94
   ·rw [if_pos h6]; subst h6
    have := rn_plain (n := n) (s := s) (by omega) h0' (deep := 30 - d) (by omega) (by decide) (by decide) (k := 14) rfl (by decide) rfl rfl (p0 := [94]) (ps := [[]]) rfl (by decide) hs ih1
    rw [cut_self, Option.bind_some, rdP_one] at this; exact this
   rw [if_neg h6]
   by_cases h7 : c = 95
   ·rw [if_pos h7]; subst h7
    have := rn_plain (n := n) (s := s) (by omega) h0' (deep := 30 - d) (by omega) (by decide) (by decide) (k := 15) rfl (by decide) rfl rfl (p0 := [95]) (ps := [[]]) rfl (by decide) hs ih1
    rw [cut_self, Option.bind_some, rdP_one] at this; exact this
   rw [if_neg h7]
   by_cases h8 : c = 40
   ·rw [if_pos h8]; subst h8
    rw [rn_start40 (by omega) (by omega) (by simp; omega)]
    cases hb : bnd s with
    | none =>
     have := rn_round (m := n) (s := s) (binds := false) (z1 := 0) (z2 := 0) (z3 := []) (ins := e.reverse) (by omega) (deep := 30 - d) (by omega) (by omega) hrs ih1 ih1
     rw [rd_app] at this; exact this
    | some x =>
     obtain ⟨y, s2⟩ := x
     have := bnd_len hb
     have := rn_round (m := n) (s := s) (binds := true) (z1 := 0) (z2 := 0) (z3 := []) (rest := s2) (by omega) (deep := 30 - d) (by omega) (by omega) (by omega) ih1 (ih2 y)
     rw [rd_round] at this; exact this
   rw [if_neg h8]
   by_cases h9 : c = 91
   ·rw [if_pos h9]; subst h9
    rw [rn_start91 (by omega) (by omega) (by simp; omega)]
    cases hb : bnd s with
    | none =>
     have := rn_square (m := n) (s := s) (binds := false) (z1 := 0) (z2 := 0) (z3 := []) (ins := e.reverse) (by omega) (deep := 30 - d) (by omega) (by omega) hrs ih1 ih1
     rw [rd_square] at this; exact this
    | some x =>
     obtain ⟨y, s2⟩ := x
     have := bnd_len hb
     have := rn_square (m := n) (s := s) (binds := true) (z1 := 0) (z2 := 0) (z3 := []) (rest := s2) (by omega) (deep := 30 - d) (by omega) (by omega) (by omega) ih1 (ih2 y)
     rw [rd_square, if_pos rfl] at this; exact this
   rw [if_neg h9]
   by_cases h10 : c = 60
   ·rw [if_pos h10]; subst h10
    have := rn_plain (n := n) (s := s) (by omega) h0' (deep := 30 - d) (by omega) (by decide) (by decide) (k := 8) rfl (by decide) rfl rfl (p0 := [60]) (ps := prt 62 4) rfl (by decide) hs ih1
    rw [cut_self, Option.bind_some, rdP_S] at this; simpa using this
   rw [if_neg h10]
   by_cases h11 : c = 123
   ·rw [if_pos h11]; subst h11
    have := rn_plain (n := n) (s := s) (by omega) h0' (deep := 30 - d) (by omega) (by decide) (by decide) (k := 9) rfl (by decide) rfl rfl (p0 := [123]) (ps := prt 125 3) rfl (by decide) hs ih1
    rw [cut_self, Option.bind_some, rdP_S] at this; simpa using this
   rw [if_neg h11]
   by_cases h12 : c = 124
   ·rw [if_pos h12]; subst h12
    have := rn_plain (n := n) (s := s) (by omega) h0' (deep := 30 - d) (by omega) (by decide) (by decide) (k := 13) rfl (by decide) rfl rfl (p0 := [124]) (ps := prt 124 3) rfl (by decide) hs ih1
    rw [cut_self, Option.bind_some, rdP_S] at this; simpa using this
   rw [if_neg h12]
   by_cases h13 : c = 64
   ·rw [if_pos h13]; subst h13
    have := rn_plain (n := n) (s := s) (by omega) h0' (deep := 30 - d) (by omega) (by decide) (by decide) (k := 11) rfl (by decide) rfl rfl (p0 := [64, 60]) (ps := prt 62 3) rfl (by decide) hs ih1
    have hc : cutP [64, 60] (64 :: s) = eat 60 s := by
     cases s with
     | nil => rfl
     | cons y s =>
      unfold cutP eat
      by_cases h : y = 60
      ·subst h; simp
      ·have h2 : ¬ 60 = y := fun e => h e.symm
       simp [h, h2]
    rw [hc] at this
    simpa [rdP_S] using this
   rw [if_neg h13]
   exact rn_other (by omega) (by omega) h0' (kd_other ⟨h1, h2, h3, h4, h5, h6, h7, h8, h9, h10, h11, h12, h13⟩)
end Go.Proofs.YtnogehmgpfpjmaaGreatDoor
end
section
namespace Go.Proofs.YtnogehmgpfpjmaaGreatDoor
open Go Go.Ab
open Go.Dk (Rd HT Grow T noneZ)
abbrev newZ (Z : Go.Dk.Zone) (w : World) : Go.Dk.Zone := fun b => Z b ∨ w.heap.size ≤ b
section
variable {f : FuncId} {fn : Func} {n : Nat} {args : List V1} {vals : List Value} {w : World} {Z : Go.Dk.Zone}
theorem ab_call {outs : List V1} (hfn : Tryz.prog.funcs[f]? = some fn) (hb : fn.body.isSome = true) (hr : All2 (RV1 [] Z w) args vals) (hgl : GL noneZ w) (h : FF n f args [] = some (outs, [])) :
   Calls Tryz.prog f vals.toArray w fun e w' => ∃ xs : List Value, e = .returned (if h : xs.toArray.size = 1 then xs.toArray[0] else .tuple xs.toArray) ∧ Grow w w' ∧ All2 (RV1 [] (newZ Z w) w') outs xs :=
 abs_call hprim hib hfn hb hr hgl h
theorem ab_bool {b : Bool} (hfn : Tryz.prog.funcs[f]? = some fn) (hb : fn.body.isSome = true) (hr : All2 (RV1 [] Z w) args vals) (hgl : GL noneZ w) (h : FF n f args [] = some ([bl b], [])) :
   Calls Tryz.prog f vals.toArray w fun e w' => e = .returned (.bool b) ∧ Grow w w' :=
 (ab_call hfn hb hr hgl h).mono fun e w' ⟨xs, he, hg, hx⟩ => by
  obtain ⟨x, xs, rfl, h1, hx⟩ := hx.cons_inv
  obtain rfl := hx.nil_inv
  obtain rfl := bool_res h1
  exact ⟨he, hg⟩
theorem ab_int {b : Int} (hfn : Tryz.prog.funcs[f]? = some fn) (hb : fn.body.isSome = true) (hr : All2 (RV1 [] Z w) args vals) (hgl : GL noneZ w) (h : FF n f args [] = some ([nt b], [])) :
   Calls Tryz.prog f vals.toArray w fun e w' => e = .returned (.int .i64 b) ∧ Grow w w' :=
 (ab_call hfn hb hr hgl h).mono fun e w' ⟨xs, he, hg, hx⟩ => by
  obtain ⟨x, xs, rfl, h1, hx⟩ := hx.cons_inv
  obtain rfl := hx.nil_inv
  obtain rfl := int_res h1
  exact ⟨he, hg⟩
theorem ab_term {t : T} (hfn : Tryz.prog.funcs[f]? = some fn) (hb : fn.body.isSome = true) (hr : All2 (RV1 [] Z w) args vals) (hgl : GL noneZ w) (h : FF n f args [] = some ([tm t], [])) :
   Calls Tryz.prog f vals.toArray w fun e w' => ∃ u : HT, e = .returned u.val ∧ Grow w w' ∧ Rd (newZ Z w) w' u ∧ u.er = t :=
 (ab_call hfn hb hr hgl h).mono fun e w' ⟨xs, he, hg, hx⟩ => by
  obtain ⟨x, xs, rfl, h1, hx⟩ := hx.cons_inv
  obtain rfl := hx.nil_inv
  obtain ⟨u, rfl, hu, e1⟩ := term_res h1
  exact ⟨u, he, hg, hu, e1⟩
theorem ab_term_bool {t : T} {b : Bool} (hfn : Tryz.prog.funcs[f]? = some fn) (hb : fn.body.isSome = true) (hr : All2 (RV1 [] Z w) args vals) (hgl : GL noneZ w) (h : FF n f args [] = some ([tm t, bl b], [])) :
   Calls Tryz.prog f vals.toArray w fun e w' => ∃ u : HT, e = .returned (.tuple #[u.val, .bool b]) ∧ Grow w w' ∧ Rd (newZ Z w) w' u ∧ u.er = t :=
 (ab_call hfn hb hr hgl h).mono fun e w' ⟨xs, he, hg, hx⟩ => by
  obtain ⟨x, xs, rfl, h1, hx⟩ := hx.cons_inv
  obtain ⟨y, xs, rfl, h2, hx⟩ := hx.cons_inv
  obtain rfl := hx.nil_inv
  obtain ⟨u, rfl, hu, e1⟩ := term_res h1
  obtain rfl := bool_res h2
  exact ⟨u, he, hg, hu, e1⟩
end
theorem i_TermValid (t : HT) (Z : Go.Dk.Zone) (w : World) (hr : Rd Z w t) (hgl : GL noneZ w) : Calls Tryz.prog 17 #[t.val] w fun e w' => e = .returned (.bool (validB t.er)) ∧ Grow w w' :=
 ab_bool Tryz.func17 (by kernel_rfl) (All2.cons (term_arg' hr) All2.nil) hgl (f_TermValid (n := t.er.size + 6) (by omega))
end Go.Proofs.YtnogehmgpfpjmaaGreatDoor
end
section
namespace Go.Ab
open Go Go.Dk
section
variable {z : List V1 × List AObj}
theorem v_bind {α : Type} {o : Option α} {k : α → OR} (h : o.bind k = some z) : ∃ r, o = some r ∧ k r = some z := Option.bind_eq_some_iff.1 h
theorem v_cond {b : Bool} {x : OR} (h : cond b x none = some z) : b = true ∧ x = some z := by
 cases b
 ·cases h
 ·exact ⟨rfl, h⟩
theorem v_rInt {a : IntKind} {l : List V1} {k : Int → List V1 → OR} (h : rInt a l k = some z) : ∃ n l', l = .one (.int a n) :: l' ∧ k n l' = some z := by
 unfold rInt at h
 split at h
 ·rename_i b n l'
  obtain ⟨h1, h2⟩ := v_cond h
  have : a = b := by cases a <;> cases b <;> first | rfl | (revert h1; decide)
  subst this
  exact ⟨n, l', rfl, h2⟩
 ·cases h
theorem v_rBool {l : List V1} {k : Bool → List V1 → OR} (h : rBool l k = some z) : ∃ b l', l = .one (.bool b) :: l' ∧ k b l' = some z := by
 unfold rBool at h
 split at h
 ·exact ⟨_, _, rfl, h⟩
 ·cases h
theorem v_rStr {l : List V1} {k : ByteArray → List V1 → OR} (h : rStr l k = some z) : ∃ b l', l = .one (.str b) :: l' ∧ k b l' = some z := by
 unfold rStr at h
 split at h
 ·exact ⟨_, _, rfl, h⟩
 ·cases h
theorem v_rSs {l : List V1} {k : List ByteArray → List V1 → OR} (h : rSs l k = some z) : ∃ b l', l = .one (.fr (.ss b)) :: l' ∧ k b l' = some z := by
 unfold rSs at h
 split at h
 ·exact ⟨_, _, rfl, h⟩
 ·cases h
theorem v_rTerm {l : List V1} {k : T → List V1 → OR} (h : rTerm l k = some z) : ∃ (t : T) (l' : List V1), l = .agg [.int .i64 t.k, .int .i64 t.n, .fr (.ts t.kids)] :: l' ∧ k t l' = some z := by
 unfold rTerm at h
 split at h
 ·rename_i a b x l'
  exact ⟨.mk a b x, l', rfl, h⟩
 ·cases h
theorem v_nilV {l : List V1} {k : OR} (h : nilV l k = some z) : l = [] ∧ k = some z := by
 unfold nilV at h
 split at h
 ·exact ⟨rfl, h⟩
 ·cases h
theorem v_nilO {l : List AObj} {k : OR} (h : nilO l k = some z) : l = [] ∧ k = some z := by
 unfold nilO at h
 split at h
 ·exact ⟨rfl, h⟩
 ·cases h
end
end Go.Ab
namespace Go.Dk
open Go
def sF (a : Option Addr) (l : List ByteArray) : Fact := fun Z w => ∀ i v, l[i]? = some v → ∃ b off, a = some ⟨b, off, none⟩ ∧ Z b ∧ w.cell? ⟨b, off + i, none⟩ = some (.string v)
theorem sF_stable (a : Option Addr) (l : List ByteArray) : Stable (sF a l) := fun Z Z' w w' hz h i v hi => by
 obtain ⟨b, off, ha, hb, hc⟩ := h i v hi
 have hk := hz b hb (cell_lt hc)
 exact ⟨b, off, ha, hk.1, (cell_keep hk.2).trans hc⟩
theorem sF.cell {Z : Zone} {w : World} {b off i : Nat} {l : List ByteArray} {v : ByteArray} (h : sF (some ⟨b, off, none⟩) l Z w) (hv : l[i]? = some v) : w.cell? ⟨b, off + i, none⟩ = some (.string v) := by
 obtain ⟨b', off', ha, _, hc⟩ := h i v hv
 injection ha with ha
 injection ha with h1 h2
 subst h1 h2
 exact hc
theorem own_leaf (w w' : World) (k n : Int) (a : Option Addr) (c : Nat) : Own w w' (.mk k n a c []) :=
 ⟨⟨Rd_none, by simp [HT.blocks, HT.head, HT.blocksL], fun b hb => by cases a <;> simp [HT.blocks, HT.head, HT.blocksL] at hb⟩, fun b hb => by cases a <;> simp [HT.blocks, HT.head, HT.blocksL] at hb⟩
end Go.Dk
namespace Go.Ab
open Go Go.Dk
theorem strs_of {Z : Zone} {w : World} {l : List ByteArray} {x : Value} (h : SlR Z w (.ss l) x) : ∃ a cap, x = .slice a l.length cap ∧ l.length ≤ cap ∧ l.length ≤ maxLen ∧ sF a l Z w := by
 obtain ⟨a, cap, xs, rfl, hc, hm, rfl, h4⟩ := h
 refine ⟨a, cap, rfl, hc, hm, fun i v hi => ?_⟩
 rcases h4 with h4 | ⟨b, off, rfl, hz, hat⟩
 ·have : l = [] := List.map_eq_nil_iff.1 h4
  subst this; simp at hi
 ·exact ⟨b, off, rfl, hz, hat i _ (by rw [List.getElem?_map, hi]; rfl)⟩
theorem str_res {n : ByteArray} {x : Value} {w : World} {Z : Zone} (h : RV1 [] Z w (.one (.str n)) x) : x = .string n := h.1
end Go.Ab
end
section
namespace Go.Proofs.YtnogehmgpfpjmaaGreatDoor
open Go Go.Ab
open Go.Dk (Rd HT Grow T Own sF noneZ)
section
variable {f : FuncId} {fn : Func} {n : Nat} {args : List V1} {vals : List Value} {w : World} {Z : Go.Dk.Zone}
theorem ab_str {b : ByteArray} (hfn : Tryz.prog.funcs[f]? = some fn) (hb : fn.body.isSome = true) (hr : All2 (RV1 [] Z w) args vals) (hgl : GL noneZ w) (h : FF n f args [] = some ([.one (.str b)], [])) :
   Calls Tryz.prog f vals.toArray w fun e w' => e = .returned (.string b) ∧ Grow w w' :=
 (ab_call hfn hb hr hgl h).mono fun e w' ⟨xs, he, hg, hx⟩ => by
  obtain ⟨x, xs, rfl, h1, hx⟩ := hx.cons_inv
  obtain rfl := hx.nil_inv
  obtain rfl := str_res h1
  exact ⟨he, hg⟩
theorem ab_int_str {v : Int} {b : ByteArray} (hfn : Tryz.prog.funcs[f]? = some fn) (hb : fn.body.isSome = true) (hr : All2 (RV1 [] Z w) args vals) (hgl : GL noneZ w) (h : FF n f args [] = some ([.one (.int .i64 v), .one (.str b)], [])) :
   Calls Tryz.prog f vals.toArray w fun e w' => e = .returned (.tuple #[.int .i64 v, .string b]) ∧ Grow w w' :=
 (ab_call hfn hb hr hgl h).mono fun e w' ⟨xs, he, hg, hx⟩ => by
  obtain ⟨x, xs, rfl, h1, hx⟩ := hx.cons_inv
  obtain ⟨y, xs, rfl, h2, hx⟩ := hx.cons_inv
  obtain rfl := hx.nil_inv
  obtain rfl := int_res h1
  obtain rfl := str_res h2
  exact ⟨he, hg⟩
theorem ab_str_bool {v : Bool} {b : ByteArray} (hfn : Tryz.prog.funcs[f]? = some fn) (hb : fn.body.isSome = true) (hr : All2 (RV1 [] Z w) args vals) (hgl : GL noneZ w) (h : FF n f args [] = some ([.one (.str b), .one (.bool v)], [])) :
   Calls Tryz.prog f vals.toArray w fun e w' => e = .returned (.tuple #[.string b, .bool v]) ∧ Grow w w' :=
 (ab_call hfn hb hr hgl h).mono fun e w' ⟨xs, he, hg, hx⟩ => by
  obtain ⟨x, xs, rfl, h1, hx⟩ := hx.cons_inv
  obtain ⟨y, xs, rfl, h2, hx⟩ := hx.cons_inv
  obtain rfl := hx.nil_inv
  obtain rfl := str_res h1
  obtain rfl := bool_res h2
  exact ⟨he, hg⟩
theorem ab_strs {l : List ByteArray} (hfn : Tryz.prog.funcs[f]? = some fn) (hb : fn.body.isSome = true) (hr : All2 (RV1 [] Z w) args vals) (hgl : GL noneZ w) (h : FF n f args [] = some ([.one (.fr (.ss l))], [])) :
   Calls Tryz.prog f vals.toArray w fun e w' => ∃ a cap, e = .returned (.slice a l.length cap) ∧ Grow w w' ∧ l.length ≤ cap ∧ l.length ≤ maxLen ∧ sF a l (newZ Z w) w' :=
 (ab_call hfn hb hr hgl h).mono fun e w' ⟨xs, he, hg, hx⟩ => by
  obtain ⟨x, xs, rfl, h1, hx⟩ := hx.cons_inv
  obtain rfl := hx.nil_inv
  obtain ⟨a, cap, rfl, hc, hm, hf⟩ := strs_of h1.1
  exact ⟨a, cap, he, hg, hc, hm, hf⟩
theorem ab_leaf {t : T} (hk : t.kids = []) (hfn : Tryz.prog.funcs[f]? = some fn) (hb : fn.body.isSome = true) (hr : All2 (RV1 [] Z w) args vals) (hgl : GL noneZ w) (h : FF n f args [] = some ([tm t], [])) :
   Calls Tryz.prog f vals.toArray w fun e w' => ∃ u : HT, e = .returned u.val ∧ Grow w w' ∧ Own w w' u ∧ u.er = t :=
 (ab_term hfn hb hr hgl h).mono fun e w' ⟨u, he, hg, hr, hu⟩ => by
  refine ⟨u, he, hg, ?_, hu⟩
  obtain ⟨k, n, a, c, ts⟩ := u
  cases ts with
  | nil => exact Go.Dk.own_leaf w w' k n a c
  | cons x xs => rw [← hu] at hk; simp [HT.er_eq, T.kids, HT.kids] at hk
end
end Go.Proofs.YtnogehmgpfpjmaaGreatDoor
end
section
namespace Go.Proofs.YtnogehmgpfpjmaaGreatDoor
open Go Go.Ab Go.Dk
theorem by_id (b : ByteArray) : bytesOf b.toList = b := by unfold bytesOf; apply ByteArray.ext; simp [ByteArray.toList_eq]
section
variable {n : Nat} {w : World}
theorem q_isLetter {c : Int} {b : Bool} (hgl : GL noneZ w) (h : FF n 60 [.one (.int .u8 c)] [] = some ([bl b], [])) : Calls Tryz.prog 60 #[.int .u8 c] w fun e w' => e = .returned (.bool b) ∧ Grow w w' :=
 ab_bool (Z := noneZ) Tryz.func60 (by kernel_rfl) (All2.cons int_arg' All2.nil) hgl h
theorem q_last {x : ByteArray} {c v : Int} (hgl : GL noneZ w) (h : FF n 62 [.one (.str x), .one (.int .u8 c)] [] = some ([nt v], [])) : Calls Tryz.prog 62 #[.string x, .int .u8 c] w fun e w' => e = .returned (.int .i64 v) ∧ Grow w w' :=
 ab_int (Z := noneZ) Tryz.func62 (by kernel_rfl) (All2.cons str_arg' (All2.cons int_arg' All2.nil)) hgl h
theorem q_variable (m : Int) (hgl : GL noneZ w) : Calls Tryz.prog 63 #[.int .i64 m] w fun e w' => ∃ u : HT, e = .returned u.val ∧ Grow w w' ∧ Own w w' u ∧ u.er = .mk 1 m [] :=
 ab_leaf (Z := noneZ) (t := .mk 1 m []) rfl Tryz.func63 (by kernel_rfl) (All2.cons int_arg' All2.nil) hgl (f_variable (n := 1) (by omega) m)
theorem q_sort (m : Int) (hgl : GL noneZ w) : Calls Tryz.prog 66 #[.int .i64 m] w fun e w' => ∃ u : HT, e = .returned u.val ∧ Grow w w' ∧ Own w w' u ∧ u.er = .mk 2 m [] :=
 ab_leaf (Z := noneZ) (t := .mk 2 m []) rfl Tryz.func66 (by kernel_rfl) (All2.cons int_arg' All2.nil) hgl (f_sort (n := 1) (by omega) m)
theorem q_kindAt {x : ByteArray} {v : Int} (hgl : GL noneZ w) (h : FF n 64 [.one (.str x)] [] = some ([nt v], [])) : Calls Tryz.prog 64 #[.string x] w fun e w' => e = .returned (.int .i64 v) ∧ Grow w w' :=
 ab_int (Z := noneZ) Tryz.func64 (by kernel_rfl) (All2.cons str_arg' All2.nil) hgl h
theorem q_readNumber {x r : ByteArray} {v : Int} (hgl : GL noneZ w) (h : FF n 65 [.one (.str x)] [] = some ([nt v, .one (.str r)], [])) : Calls Tryz.prog 65 #[.string x] w fun e w' => e = .returned (.tuple #[.int .i64 v, .string r]) ∧ Grow w w' :=
 ab_int_str (Z := noneZ) Tryz.func65 (by kernel_rfl) (All2.cons str_arg' All2.nil) hgl h
theorem q_Itoa {x : ByteArray} {v : Int} (hgl : GL noneZ w) (h : FF n 68 [nt v] [] = some ([.one (.str x)], [])) : Calls Tryz.prog 68 #[.int .i64 v] w fun e w' => e = .returned (.string x) ∧ Grow w w' :=
 ab_str (Z := noneZ) Tryz.func68 (by kernel_rfl) (All2.cons int_arg' All2.nil) hgl h
theorem q_TrimPrefix {x y z : ByteArray} (hgl : GL noneZ w) (h : FF n 67 [.one (.str x), .one (.str y)] [] = some ([.one (.str z)], [])) : Calls Tryz.prog 67 #[.string x, .string y] w fun e w' => e = .returned (.string z) ∧ Grow w w' :=
 ab_str (Z := noneZ) Tryz.func67 (by kernel_rfl) (All2.cons str_arg' (All2.cons str_arg' All2.nil)) hgl h
theorem q_CutPrefix {x y z : ByteArray} {b : Bool} (hgl : GL noneZ w) (h : FF n 71 [.one (.str x), .one (.str y)] [] = some ([.one (.str z), bl b], [])) : Calls Tryz.prog 71 #[.string x, .string y] w fun e w' => e = .returned (.tuple #[.string z, .bool b]) ∧ Grow w w' :=
 ab_str_bool (Z := noneZ) Tryz.func71 (by kernel_rfl) (All2.cons str_arg' (All2.cons str_arg' All2.nil)) hgl h
theorem strs_at {Z : Zone} {f : FuncId} {vals : List Value} {l : List ByteArray} {i : Nat} {v : ByteArray} (hi : l[i]? = some v) (h : Calls Tryz.prog f vals.toArray w fun e w' => ∃ a cap, e = .returned (.slice a l.length cap) ∧ Grow w w' ∧ l.length ≤ cap ∧ l.length ≤ maxLen ∧ sF a l (newZ Z w) w') :
   Calls Tryz.prog f vals.toArray w fun e w' => ∃ b off cap, e = .returned (.slice (some ⟨b, off, none⟩) l.length cap) ∧ Grow w w' ∧ l.length ≤ cap ∧ l.length ≤ maxLen ∧ sF (some ⟨b, off, none⟩) l (newZ Z w) w' :=
 h.mono fun e w' ⟨a, cap, he, hg, hc, hm, hf⟩ => by
  obtain ⟨b, off, rfl, _, _⟩ := hf i v hi
  exact ⟨b, off, cap, he, hg, hc, hm, hf⟩
theorem q_shapes (Z : Zone) {l : List ByteArray} {i : Nat} {v : ByteArray} (hgl : GL noneZ w) (h : FF n 70 [] [] = some ([.one (.fr (.ss l))], [])) (hi : l[i]? = some v) : Calls Tryz.prog 70 #[] w fun e w' => ∃ b off cap, e = .returned (.slice (some ⟨b, off, none⟩) l.length cap) ∧ Grow w w' ∧ l.length ≤ cap ∧ l.length ≤ maxLen ∧ sF (some ⟨b, off, none⟩) l (newZ Z w) w' :=
 strs_at (vals := []) hi (ab_strs (Z := Z) Tryz.func70 (by kernel_rfl) All2.nil hgl h)
theorem q_Split (Z : Zone) {x y : ByteArray} {l : List ByteArray} {i : Nat} {v : ByteArray} (hgl : GL noneZ w) (h : FF n 69 [.one (.str x), .one (.str y)] [] = some ([.one (.fr (.ss l))], [])) (hi : l[i]? = some v) : Calls Tryz.prog 69 #[.string x, .string y] w fun e w' => ∃ b off cap, e = .returned (.slice (some ⟨b, off, none⟩) l.length cap) ∧ Grow w w' ∧ l.length ≤ cap ∧ l.length ≤ maxLen ∧ sF (some ⟨b, off, none⟩) l (newZ Z w) w' :=
 strs_at (vals := [.string x, .string y]) hi (ab_strs (Z := Z) Tryz.func69 (by kernel_rfl) (All2.cons str_arg' (All2.cons str_arg' All2.nil)) hgl h)
theorem q_isBinder {v : Int} {b : Bool} (hgl : GL noneZ w) (h : FF n 72 [nt v] [] = some ([bl b], [])) : Calls Tryz.prog 72 #[.int .i64 v] w fun e w' => e = .returned (.bool b) ∧ Grow w w' :=
 ab_bool (Z := noneZ) Tryz.func72 (by kernel_rfl) (All2.cons int_arg' All2.nil) hgl h
end
theorem kd_bd {n : Nat} {s : ByteArray} {k : Int} (hn : 30 ≤ n) (hs : 0 < s.size) (h : FF n 64 [.one (.str s)] [] = some ([nt k], [])) : -1 ≤ k ∧ k ≤ 16 := by
 have hl : s.toList.length = s.size := by rw [ByteArray.toList_eq, Array.length_toList]; rfl
 cases hx : s.toList with
 | nil => rw [hx] at hl; simp at hl; omega
 | cons x l =>
  have := f_kindAt hn x l
  rw [show sr (x :: l) = .one (.str s) from by unfold sr; rw [← hx, by_id], h] at this
  simp only [nt, Option.some.injEq, Prod.mk.injEq, List.cons.injEq, V1.one.injEq, SV.int.injEq, true_and, and_true] at this
  rw [this]
  have key : ∀ x : UInt8, -1 ≤ kdF x ∧ kdF x ≤ 16 := fun x => by
   unfold kdF shps
   simp only [kdL]
   repeat' split
   all_goals omega
  exact key x
theorem tm_inj {a b : T} (h : (some ([tm a], []) : OR) = some ([tm b], [])) : a = b := by
 cases a; cases b
 simp only [tm, Option.some.injEq, Prod.mk.injEq, List.cons.injEq, V1.agg.injEq, SV.int.injEq, SV.fr.injEq, SD.ts.injEq, true_and, and_true] at h
 obtain ⟨h1, h2, h3⟩ := h
 have h1 : _ = _ := h1
 have h2 : _ = _ := h2
 have h3 : _ = _ := h3
 simp only [mk_k, mk_n, mk_kids] at h1 h2 h3
 rw [h1, h2, h3]
theorem last_bd {n : Nat} {env : ByteArray} {c : UInt8} {v : Int} (he : env.size ≤ 1000) (hn : env.size + 3 ≤ n) (h : FF n 62 [.one (.str env), .one (.int .u8 (c.toNat : Int))] [] = some ([nt v], [])) : -1 ≤ v ∧ v < env.size := by
 have hl : env.toList.length = env.size := by rw [ByteArray.toList_eq, Array.length_toList]; rfl
 have := f_LastIndexByte (n := n) env.toList.reverse c (by rw [List.length_reverse]; omega) (by rw [List.length_reverse]; omega)
 rw [List.reverse_reverse, show sr env.toList = .one (.str env) from by unfold sr; rw [by_id], h] at this
 simp only [nt, Option.some.injEq, Prod.mk.injEq, List.cons.injEq, V1.one.injEq, SV.int.injEq, true_and, and_true] at this
 rw [this, List.length_reverse, hl]
 cases hf : fnd env.toList.reverse c with
 | none => show (-1 : Int) ≤ -1 ∧ (-1 : Int) < _; omega
 | some k =>
  have := fnd_lt _ _ hf
  rw [List.length_reverse, hl] at this
  show (-1 : Int) ≤ (env.size : Int) - 1 - k ∧ (env.size : Int) - 1 - k < _
  omega
end Go.Proofs.YtnogehmgpfpjmaaGreatDoor
end
section
namespace Go.Dk
open Go
section
variable {w0 w w' : World} {M Z0 : Zone} {L : List Res} {φ : Fact} {r r1 r2 : Res}
theorem St.cut (h : St w0 M Z0 (r :: L) φ w) (hl1 : r1.Local) (hl2 : r2.Local) (hf1 : ∀ b, r1.foot b → r.foot b) (hf2 : ∀ b, r2.foot b → r.foot b) (ho1 : r1.own w) (ho2 : r2.own w) (hd0 : ∀ b, r1.foot b → ¬ r2.foot b) : St w0 M Z0 (r1 :: r2 :: L) φ w := by
 have hd := h.dis
 rw [List.pairwise_cons] at hd
 refine ⟨h.ext, ?_, ?_, ?_, ?_, h.stab, ?_⟩
 ·intro x hx; rcases List.mem_cons.1 hx with rfl | hx
  ·exact ho1
  ·rcases List.mem_cons.1 hx with rfl | hx
   ·exact ho2
   ·exact h.own x (by simp [hx])
 ·intro x hx; rcases List.mem_cons.1 hx with rfl | hx
  ·exact hl1
  ·rcases List.mem_cons.1 hx with rfl | hx
   ·exact hl2
   ·exact h.loc x (by simp [hx])
 ·intro x hx b hb; rcases List.mem_cons.1 hx with rfl | hx
  ·exact h.key r (by simp) b (hf1 b hb)
  ·rcases List.mem_cons.1 hx with rfl | hx
   ·exact h.key r (by simp) b (hf2 b hb)
   ·exact h.key x (by simp [hx]) b hb
 ·refine List.Pairwise.cons (fun x hx b hb hb' => ?_) (List.Pairwise.cons (fun x hx b hb hb' => hd.1 x hx b (hf2 b hb) hb') hd.2)
  rcases List.mem_cons.1 hx with rfl | hx
  ·exact hd0 b hb hb'
  ·exact hd.1 x hx b (hf1 b hb) hb'
 ·refine h.stab _ _ w w (fun b hz _ => ⟨⟨hz.1, fun x hx hb => ?_⟩, rfl⟩) h.per
  rcases List.mem_cons.1 hx with rfl | hx
  ·exact hz.2 r (by simp) (hf1 b hb)
  ·rcases List.mem_cons.1 hx with rfl | hx
   ·exact hz.2 r (by simp) (hf2 b hb)
   ·exact hz.2 x (by simp [hx]) hb
end
theorem RdL_cells {Z : Zone} {w : World} {b : Nat} : ∀ (ts : List HT) (off : Nat), RdL Z w b off ts → ∀ j u, (flatT ts)[j]? = some u → w.cell? ⟨b, off + j, none⟩ = some u
 | [], off, _, j, u, hj => by simp [flatT_nil] at hj
 | t :: ts, off, h, j, u, hj => by
  simp only [RdL] at h
  rw [flatT_cons] at hj
  match j, hj with
  | 0, hj => simp only [List.getElem?_cons_zero, Option.some.injEq] at hj; subst hj; exact h.1.1
  | 1, hj => simp only [List.getElem?_cons_succ, List.getElem?_cons_zero, Option.some.injEq] at hj; subst hj; exact h.1.2.1
  | 2, hj => simp only [List.getElem?_cons_succ, List.getElem?_cons_zero, Option.some.injEq] at hj; subst hj; exact h.1.2.2
  | j + 3, hj =>
   have := RdL_cells ts (off + 3) h.2.2 j u (by simpa using hj)
   rwa [show off + (j + 3) = off + 3 + j by omega]
theorem RdL_rd {Z : Zone} {w : World} {b : Nat} : ∀ (ts : List HT) (off : Nat), RdL Z w b off ts → ∀ t ∈ ts, Rd Z w t
 | [], _, _, t, ht => by cases ht
 | x :: ts, off, h, t, ht => by
  simp only [RdL] at h
  rcases List.mem_cons.1 ht with rfl | ht
  ·exact h.2.1
  ·exact RdL_rd ts _ h.2.2 t ht
section
variable {w0 w w' : World} {M Z0 : Zone} {L : List Res} {φ : Fact}
theorem St.dig {t : HT} (h : St w0 M Z0 (treeR t :: L) φ w) (hne : t.kids ≠ []) : ∃ b off cs T, t.a = some ⟨b, off, none⟩ ∧ (∀ j u, (flatT t.kids)[j]? = some u → cs[off + j]? = some u) ∧ St w0 M Z0 (blk b cs T :: kidsR t.kids :: L) φ w := by
 have ho : (treeR t).own w := h.own _ (by simp)
 obtain ⟨h1, h2, h3⟩ := ho
 cases t with
 | mk k n a cap kids =>
  simp only [HT.kids] at hne
  simp only [Rd] at h1
  obtain ⟨b, off, rfl, _, hl⟩ := h1.1.resolve_left hne
  cases kids with
  | nil => exact absurd rfl hne
  | cons x kids =>
   have hb : HT.blocks (.mk k n (some ⟨b, off, none⟩) cap (x :: kids)) = [b] ++ HT.blocksL (x :: kids) := by simp only [HT.blocks, HT.head]
   rw [hb] at h2 h3
   obtain ⟨cs, T, hc⟩ := h3 b (by simp)
   rw [List.nodup_append] at h2
   refine ⟨b, off, cs.toList, T, rfl, fun j u hj => ?_, ?_⟩
   ·have := RdL_cells (x :: kids) off hl j u hj
    simpa [World.cell?, hc] using this
   ·refine h.cut (blk_local _ _ _) (kidsR_local _) ?_ ?_ ?_ ?_ ?_
    ·intro c hc'
     have hc' : c = b := hc'
     subst hc'
     show c ∈ HT.blocks _
     rw [hb]; simp
    ·intro c hc'
     show c ∈ HT.blocks _
     rw [hb]; exact List.mem_append_right _ hc'
    ·show w.heap[b]? = some (.cells cs.toList.toArray T (0, 0))
     rw [hc]
    ·exact ⟨RdL_rd _ _ hl, h2.2.1, fun c hc' => h3 c (List.mem_append_right _ hc')⟩
    ·intro c h4 h5
     have h4 : c = b := h4
     subst h4
     exact h2.2.2 c (by simp) c h5 rfl
theorem St.plantAt {g off : Nat} {cs : List Value} {T : TypeId} {ts : List HT} (h : St w0 M Z0 (blk g cs T :: kidsR ts :: L) φ w) (k n : Int) (cap : Nat) (hl : ts.length ≤ cap) (hm : ts.length ≤ 9223372036854775807)
   (hc : ∀ (j : Nat) (u : Value), (flatT ts)[j]? = some u → cs[off + j]? = some u) : St w0 M Z0 (treeR (.mk k n (some ⟨g, off, none⟩) cap ts) :: L) φ w := by
 refine h.merge (treeR_local _) ?_ ?_
 ·intro b hb
  simp only [treeR, HT.blocks, List.mem_append] at hb
  rcases hb with hb | hb
  ·left; cases ts with
   | nil => simp [HT.head] at hb
   | cons t ts => simpa [HT.head, blk] using hb
  ·exact .inr hb
 ·intro h1 h2 hd
  simp only [blk] at h1 hd
  have hnd : g ∉ HT.blocksL ts := hd g rfl
  refine ⟨?_, ?_, ?_⟩
  ·refine Rd_mk hl hm trivial (RdL_of_cells ts off (fun j u hj => ?_) h2.1)
   have hcj := hc j u hj
   simp [World.cell?, h1, hcj]
  ·simp only [HT.blocks]
   rw [List.nodup_append]
   refine ⟨?_, h2.2.1, ?_⟩
   ·cases ts <;> simp [HT.head]
   ·intro a ha b hb hab
    subst hab
    cases ts with
    | nil => simp [HT.head] at ha
    | cons t ts =>
     simp only [HT.head, List.mem_singleton] at ha
     subst ha
     exact hnd hb
  ·intro b hb
   simp only [HT.blocks, List.mem_append] at hb
   rcases hb with hb | hb
   ·cases ts with
    | nil => simp [HT.head] at hb
    | cons t ts =>
     simp only [HT.head, List.mem_singleton] at hb
     subst hb
     exact ⟨_, _, h1⟩
   ·exact h2.2.2 b hb
end
theorem kids_mid {A B : List HT} {u u' : HT} {w w' : World} (h : (kidsR (A ++ u :: B)).own w) (hb : u'.blocks = u.blocks) (ho : (treeR u').own w') (hx : Ext (· ∈ u.blocks) w w') : (kidsR (A ++ u' :: B)).own w' := by
 obtain ⟨h1, h2, h3⟩ := h
 have e : ∀ x : HT, HT.blocksL (A ++ x :: B) = HT.blocksL A ++ (x.blocks ++ HT.blocksL B) := fun x => by rw [HT.blocksL_append]; rfl
 rw [e] at h2 h3
 have hA : ∀ b, b ∈ HT.blocksL A → b ∉ u.blocks := fun b h4 h5 => (List.nodup_append.1 h2).2.2 b h4 b (List.mem_append_left _ h5) rfl
 have hB : ∀ b, b ∈ HT.blocksL B → b ∉ u.blocks := fun b h4 h5 => (List.nodup_append.1 (List.nodup_append.1 h2).2.1).2.2 b h5 b h4 rfl
 have keep : ∀ x ∈ A ++ u :: B, (∀ b ∈ x.blocks, b ∉ u.blocks) → ∀ b ∈ x.blocks, w'.heap[b]? = w.heap[b]? := fun x hx' hn b hb' => hx.block b (Rd.zone x (h1 x hx') b hb').2 (hn b hb')
 refine ⟨?_, by rw [e, hb]; exact h2, ?_⟩
 ·intro x hx'
  rcases List.mem_append.1 hx' with h4 | h4
  ·exact Rd.frame x (h1 x (List.mem_append_left _ h4)) fun b hb' => ⟨trivial, keep x (List.mem_append_left _ h4) (fun b hb' => hA b (HT.mem_blocksL.2 ⟨x, h4, hb'⟩)) b hb'⟩
  ·rcases List.mem_cons.1 h4 with rfl | h4
   ·exact ho.1
   ·have hm : x ∈ A ++ u :: B := List.mem_append_right _ (List.mem_cons_of_mem _ h4)
    exact Rd.frame x (h1 x hm) fun b hb' => ⟨trivial, keep x hm (fun b hb' => hB b (HT.mem_blocksL.2 ⟨x, h4, hb'⟩)) b hb'⟩
 ·intro b hb'
  rw [e, hb] at hb'
  have hb'' := hb'
  simp only [List.mem_append] at hb'
  rcases hb' with h4 | h4 | h4
  ·obtain ⟨x, hx1, hx2⟩ := HT.mem_blocksL.1 h4
   obtain ⟨cs, T, hc⟩ := h3 b hb''
   exact ⟨cs, T, (keep x (List.mem_append_left _ hx1) (fun b hb' => hA b (HT.mem_blocksL.2 ⟨x, hx1, hb'⟩)) b hx2).trans hc⟩
  ·exact ho.2.2 b (by rw [hb]; exact h4)
  ·obtain ⟨x, hx1, hx2⟩ := HT.mem_blocksL.1 h4
   obtain ⟨cs, T, hc⟩ := h3 b hb''
   exact ⟨cs, T, (keep x (List.mem_append_right _ (List.mem_cons_of_mem _ hx1)) (fun b hb' => hB b (HT.mem_blocksL.2 ⟨x, hx1, hb'⟩)) b hx2).trans hc⟩
theorem kids_at {A B : List HT} {u : HT} {w : World} (h : (kidsR (A ++ u :: B)).own w) : (treeR u).own w := by
 obtain ⟨h1, h2, h3⟩ := h
 rw [HT.blocksL_append] at h2 h3
 refine ⟨h1 u (by simp), ?_, fun b hb => h3 b (List.mem_append_right _ (List.mem_append_left _ hb))⟩
 exact (List.nodup_append.1 (List.nodup_append.1 h2).2.1).1
theorem flat_mark {A B : List HT} {u : HT} {k m : Int} {cs : List Value} {off : Nat} (hc : ∀ j v, (flatT (A ++ u :: B))[j]? = some v → cs[off + j]? = some v) :
   ∀ j v, (flatT (A ++ HT.mk k m u.a u.cap u.kids :: B))[j]? = some v → ((cs.set (off + A.length * 3) (.int .i64 k)).set (off + A.length * 3 + 1) (.int .i64 m))[off + j]? = some v := by
 intro j v hj
 have hlen : ∀ j < A.length * 3 + 3, off + j < cs.length := fun j hlt => by
  have hj : j < (flatT (A ++ u :: B)).length := by rw [flatT_length]; simp; omega
  have := hc j _ (List.getElem?_eq_getElem hj)
  exact (List.getElem?_eq_some_iff.1 this).1
 rw [flatT_append, flatT_cons] at hj
 have hc' := hc j
 rw [flatT_append, flatT_cons] at hc'
 rcases Nat.lt_or_ge j (A.length * 3) with h | h
 ·rw [List.getElem?_append_left (by rw [flatT_length]; omega)] at hj hc'
  rw [List.getElem?_set_ne (by omega), List.getElem?_set_ne (by omega)]
  exact hc' v hj
 ·obtain ⟨d, rfl⟩ : ∃ d, j = A.length * 3 + d := ⟨j - A.length * 3, by omega⟩
  rw [List.getElem?_append_right (by rw [flatT_length]; omega), flatT_length, show A.length * 3 + d - A.length * 3 = d by omega] at hj hc'
  match d, hj, hc' with
  | 0, hj, _ =>
   simp only [List.getElem?_cons_zero, Option.some.injEq] at hj
   subst hj
   rw [show off + (A.length * 3 + 0) = off + A.length * 3 by omega, List.getElem?_set_ne (by omega), List.getElem?_set_self (by have := hlen (A.length * 3) (by omega); omega)]
   rfl
  | 1, hj, _ =>
   simp only [List.getElem?_cons_succ, List.getElem?_cons_zero, Option.some.injEq] at hj
   subst hj
   rw [show off + (A.length * 3 + 1) = off + A.length * 3 + 1 by omega, List.getElem?_set_self (by rw [List.length_set]; have := hlen (A.length * 3 + 1) (by omega); omega)]
   rfl
  | d + 2, hj, hc' =>
   simp only [List.getElem?_cons_succ] at hj hc'
   rw [List.getElem?_set_ne (by omega), List.getElem?_set_ne (by omega)]
   exact hc' v hj
theorem St.mid {w0 w w' : World} {M Z0 : Zone} {L : List Res} {φ : Fact} (h : St w0 M Z0 L φ w) {n : Nat} {A B : List HT} {u u' : HT} (hn : L[n]? = some (kidsR (A ++ u :: B))) (hb : u'.blocks = u.blocks) (ho : (treeR u').own w') (hx : Ext (· ∈ u.blocks) w w') : St w0 M Z0 (L.set n (kidsR (A ++ u' :: B))) φ w' := by
 have hk := kids_mid (h.own _ (List.mem_of_getElem? hn)) hb ho hx
 have e : HT.blocksL (A ++ u' :: B) = HT.blocksL (A ++ u :: B) := by
  rw [HT.blocksL_append, HT.blocksL_append]
  simp only [HT.blocksL, hb]
 refine h.upd hn (hx.weak fun k _ hk => HT.mem_blocksL.2 ⟨u, by simp, hk⟩) (kidsR_local _) hk fun b hb' => ⟨.inl ?_, ?_⟩
 ·have hb' : b ∈ HT.blocksL (A ++ u' :: B) := hb'
  show b ∈ HT.blocksL (A ++ u :: B)
  rwa [← e]
 ·obtain ⟨x, h1, h2⟩ := HT.mem_blocksL.1 (show b ∈ HT.blocksL (A ++ u' :: B) from hb')
  exact (Rd.zone x (hk.1 x h1) b h2).2
theorem mark_own {k n k' n' : Int} {a : Option Addr} {cap : Nat} {us : List HT} {w : World} (h : (treeR (HT.mk k n a cap us)).own w) : (treeR (HT.mk k' n' a cap us)).own w := ⟨h.1.node k' n', h.2⟩
theorem St.plantRow {w0 w : World} {M Z0 : Zone} {L : List Res} {φ : Fact} {e n : Nat} {v : Value} {xs : List Value} {ts : List HT} (h : St w0 M Z0 (rowR e 3 v n xs :: kidsR ts :: L) φ w) (hx : xs = flatT ts) (hn : n = ts.length) (k m : Int) :
   ∃ a cap, v = .slice a ts.length cap ∧ St w0 M Z0 (treeR (.mk k m a cap ts) :: L) φ w := by
 subst hx hn
 have ho : w.ownsRow 0 e 3 v ts.length (flatT ts) := h.own _ (List.mem_cons_self ..)
 obtain ⟨h1, ⟨rfl, h0⟩ | ⟨g, cap, cur, rfl, hg, hc, hle, hmax, hsz, htk⟩⟩ := ho
 ·obtain rfl : ts = [] := List.length_eq_zero_iff.1 h0
  refine ⟨none, 0, rfl, h.merge (treeR_local _) ?_ ?_⟩
  ·intro b hb
   have hb : b ∈ HT.blocks (.mk k m none 0 []) := hb
   simp [HT.blocks, HT.head, HT.blocksL] at hb
  ·intro _ _ _
   refine ⟨Rd_none, by simp [HT.blocks, HT.head, HT.blocksL], fun b hb => ?_⟩
   simp [HT.blocks, HT.head, HT.blocksL] at hb
 ·have H := h.recast (r' := blk g cur.toList e) (blk_local _ _ _) (fun b hb => by
    have hb : b = g := hb
    subst hb; rfl) (fun _ => by show w.heap[g]? = _; rw [hc])
  refine ⟨_, cap, rfl, H.plant k m cap hle (Nat.le_trans hle (Nat.le_trans hmax (by decide))) fun j u hj => ?_⟩
  rw [← htk] at hj
  rw [List.getElem?_take] at hj
  split at hj
  ·exact hj
  ·cases hj
end Go.Dk
end
section
namespace Go.Dk
open Go
theorem reg_draw2 {P : Program} {Q : Exit → Act → World → Prop} {id : Nat} {l : List Oper} {a : Act} {w : World} {S F : World → Prop} (hm : P.follows .mixedOrders = true) (hsel : Region.noSelect l.toArray = true)
   (hQ : ∀ c (a : Act) t w, Q (.panic c) ⟨t, a.defers⟩ w → Q (.panic c) a w) (hd : ∀ w, F w → F w.drew) (hF : F w) (hS : ∀ w, F w → S w)
   (h : ∀ w, F w → wpT P l.toArray Q true l.length S (enum 0 l) a w) :
   (Code.region id l.toArray true).wp P Q a w := by
 refine wp_region_any hm ?_
 have hdc : DC l.toArray (lst l.toArray.size (enum 0 l)) := by
  rw [lst_enum]
  intro p op _ hl
  exfalso
  simp [Array.getD] at hl
 have := wpAny_of_E _ _ _ _ _ (wpAnyE_of_wpT (ops := l.toArray) hsel hQ l.length (enum 0 l) S a w.drew (left_enum l) hdc (enum_length 0 l) (hS _ (hd w hF)) (h _ (hd w hF)))
 rw [lst_enum] at this
 simpa using this
section
variable {P : Program} {ops : Array Oper} {Q : Exit → Act → World → Prop} {dr : Bool} {fu k : Nat} {rest : List (Nat × Oper)} {a : Act} {w w0 : World} {M Z0 : Zone} {L : List Res} {φ : Fact} {S : World → Prop}
 {d : Option Tmp} {ty : TypeId} {pos : String} {aft : Array Edge} {gd : Option (Nat × Bool)} {x y : Operand} {t t' : TypeId}
theorem G2 {id : Nat} {l : List Oper} [hm : DrM P] (S : World → Prop) (hw : St w0 M Z0 L φ w) (hS : ∀ w, St w0 M Z0 L φ w → S w) (hQ : ∀ c (a : Act) t w, Q (.panic c) ⟨t, a.defers⟩ w → Q (.panic c) a w) (hsel : Region.noSelect l.toArray = true)
   (h : ∀ w, St w0 M Z0 L φ w → wpT P l.toArray Q true l.length S (enum 0 l) a w) :
   (Code.region id l.toArray true).wp P Q a w := reg_draw2 hm.out hsel hQ (fun _ h => h.drew) hw hS h
theorem C0g {f : FuncId} {xs : List Operand} {ats : Array TypeId} {vs : List Value} {v : Value} [hf : CB P f] (hw : St w0 M Z0 L φ w) (hS : ∀ w, St w0 M Z0 L φ w → S w)
   (hg : Region.wanted ⟨d, .call ⟨.value (.func f), xs.toArray, ats⟩, ty, pos, aft, gd⟩ (yielded ops a.tmps) = true) (hd : (!dr || soleB ops ((k, ⟨d, .call ⟨.value (.func f), xs.toArray, ats⟩, ty, pos, aft, gd⟩) :: rest) k ⟨d, .call ⟨.value (.func f), xs.toArray, ats⟩, ty, pos, aft, gd⟩) = true)
   (hxs : xs.map a.eval = vs) (hc : Calls P f vs.toArray w fun e w' => e = .returned v ∧ Grow w w')
   (h : ∀ w', St w0 M Z0 L φ w' → wpT P ops Q dr fu S rest (a.put d v) w') :
   wpT P ops Q dr (fu + 1) S ((k, ⟨d, .call ⟨.value (.func f), xs.toArray, ats⟩, ty, pos, aft, gd⟩) :: rest) a w :=
 T_call hf.out hd hg hxs hc (fun e w' ⟨he, hgr⟩ => ⟨v, he, S, fun _ _ h => h, hS _ (hw.grow hgr), h w' (hw.grow hgr)⟩)
theorem W0g {b off m : Nat} {cs vs : List Value} {L' : List Res} {u : Value} [hsz : SZ P t m] (hw : St w0 M Z0 L φ w) (hS : ∀ w, St w0 M Z0 L' φ w → S w) (hg : Region.wanted ⟨d, .store t x y, ty, pos, aft, gd⟩ (yielded ops a.tmps) = true)
   (hd : (!dr || soleB ops ((k, ⟨d, .store t x y, ty, pos, aft, gd⟩) :: rest) k ⟨d, .store t x y, ty, pos, aft, gd⟩) = true)
   (hx : a.eval x = .pointer (some ⟨b, off, none⟩)) (hy : a.eval y = u) (hc : u.cells = vs.toArray) (hn : Upd b (fun cs => putL cs off vs) L L' cs) (h1 : (vs.all oneB && Nat.beq m vs.length && Nat.ble (off + vs.length) cs.length) = true)
   (h : ∀ w', St w0 M Z0 L' φ w' → wpT P ops Q dr fu S rest (a.put d undef) w') :
   wpT P ops Q dr (fu + 1) S ((k, ⟨d, .store t x y, ty, pos, aft, gd⟩) :: rest) a w := by
 obtain ⟨n, T, h2, rfl⟩ := hn.get
 simp only [Bool.and_eq_true, Nat.beq_eq, Nat.ble_eq, List.all_eq_true] at h1
 obtain ⟨w', hr, hs⟩ := run_storeCells (P := P) (n := n) (off := off) vs 0 cs L w h2 hw h1.1.1 (by simpa using h1.2)
 simp only [Nat.add_zero] at hs
 refine T_goSkip (S' := S) (w' := w') hd hg ?_ (fun _ _ h => h) (hS _ hs) (h _ hs)
 have hm := h1.1.2
 cases hi : P.info? t with
 | none => have := hsz.out; simp [hi] at this
 | some i =>
  have hsz := hsz.out
  simp only [hi, Option.map_some, Option.some.injEq] at hsz
  have hne : ¬ (vs.toArray.size ≠ i.size) := by rw [hsz, hm]; simp
  simp only [execOp, Instr.storeAt, hx, hy, Instr.sureAddr, storeVar, Sem.run_bind, Sem.run_pure, Result.andThen_ok, run_sizeOf hi, if_neg hne, hc, hr]
end
def TT : World → Prop := fun _ => True
end Go.Dk
end
section
namespace Go.Dk
open Go
theorem St.remark {w0 w w' : World} {M Z0 : Zone} {L : List Res} {φ : Fact} {t : HT} {us : List HT} (h : St w0 M Z0 L φ w) {n : Nat} (hn : L[n]? = some (treeR t)) (ho : (treeR (HT.mk t.k t.n t.a t.cap us)).own w')
   (hb : HT.blocks (HT.mk t.k t.n t.a t.cap us) = t.blocks) (hx : Ext (· ∈ t.blocks) w w') : St w0 M Z0 (L.set n (treeR (HT.mk t.k t.n t.a t.cap us))) φ w' :=
 h.upd hn hx (treeR_local _) ho fun b hb' => ⟨.inl (by show b ∈ t.blocks; rw [← hb]; exact hb'), (Rd.zone _ ho.1 b hb').2⟩
abbrev zoneOf {w0 w : World} {M Z0 : Zone} {L : List Res} {φ : Fact} (_ : St w0 M Z0 L φ w) : Zone := zone w0 Z0 L
def pairR (u v : HT) : Res := ⟨fun b => b ∈ u.blocks ∨ b ∈ v.blocks, fun w => (treeR u).own w ∧ (treeR v).own w ∧ ∀ b ∈ u.blocks, b ∉ v.blocks⟩
structure Own2 (w w' : World) (u v : HT) : Prop where
 own : (pairR u v).own w'
 new : ∀ b, (b ∈ u.blocks ∨ b ∈ v.blocks) → w.heap.size ≤ b
end Go.Dk
end
