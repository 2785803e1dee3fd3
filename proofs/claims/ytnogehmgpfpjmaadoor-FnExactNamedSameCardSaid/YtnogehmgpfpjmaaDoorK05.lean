/- Part 5 of the proof. -/
import Derived.Test.YtnogehmgpfpjmaaDoorK01
import Derived.Test.YtnogehmgpfpjmaaDoorK02
import Derived.Test.YtnogehmgpfpjmaaDoorK03
import Derived.Test.YtnogehmgpfpjmaaDoorK04
import Derived.ChangeArms
import Derived.Deep.Slices
import Derived.Deep.Strs
import Derived.WalkKit
import Derived.ProofKit
import Derived.OpenShut
import Derived.ShutString
import Derived.ChangeOld
import Derived.Below
import Derived.Test.YtnogehmgpfpjmaaDoorCards
import Derived.Test.YtnogehmgpfpjmaaDoorTie
import Derived.HandedShaped
import Derived.LaidMore
import Derived.Lay
import Derived.Stop.Joined
import Derived.Shelf.Vars
import Derived.Lib.LaidU8
import Derived.SevenTiedAt
set_option linter.unusedVariables false
set_option linter.unusedSimpArgs false
section
namespace Go.Proofs.YtnogehmgpfpjmaaDoor
open Go Go.Ab Go.Dk
theorem by_hd (y : UInt8) (p : List UInt8) : byteAt (bytesOf (y :: p)) (0 : Int).toNat = y := rfl
def shps : List (List UInt8) := [[35], [42], [40, 46, 62, 46, 41], [91, 46, 93, 46], [40, 46, 32, 46, 41], [78], [48], [43, 46], [60, 46, 44, 46, 44, 46, 44, 46, 62], [123, 46, 44, 46, 44, 46, 125], [33, 46], [64, 60, 46, 44, 46, 44, 46, 62], [40, 46, 42, 46, 41], [124, 46, 44, 46, 44, 46, 124], [94, 46], [95, 46]]
theorem f_shapes {n : Nat} (hn : 1 ≤ n) : FF n 46 [] [] = some ([.one (.fr (.ss (shps.map bytesOf)))], []) := by
 obtain ⟨n, rfl⟩ := pos_succ (show 0 < n by omega)
 rw [E_impl_shapes]; rfl
def kdL (x : UInt8) : List (List UInt8) → Nat → Int
 | [], _ => -1
 | p :: ps, i => if p.headD 0 = x then 1 + (i : Int) else kdL x ps (i + 1)
theorem kind_loop (x : UInt8) (s : List UInt8) (ps : List (List UInt8)) (hp : ∀ p ∈ ps, p ≠ []) (hl : ps.length ≤ 100) (n : Nat) : ∀ g m i, g < m → i + g = ps.length →
   L_impl_kindAt_0 n m (bytesOf (x :: s)) (ps.map bytesOf) (ps.length : Int) (i : Int) = some ([nt (kdL x (ps.drop i) i)], [])
 | g, 0, i, h, _ => by omega
 | 0, m + 1, i, _, hi => by
  rw [L_impl_kindAt_0_eq, decide_eq_false (show ¬ (i : Int) < ps.length by omega), cond_false, List.drop_of_length_le (by omega)]; rfl
 | g + 1, m + 1, i, hg, hi => by
  have hlt : i < ps.length := by omega
  have hne := hp _ (List.getElem_mem hlt)
  rw [L_impl_kindAt_0_eq, decide_eq_true (show (i : Int) < ps.length by omega), cond_true, decide_eq_true (show (0 : Int) ≤ i by omega), cond_true, Int.toNat_natCast, List.getElem?_map, List.getElem?_eq_getElem hlt, List.drop_eq_getElem_cons hlt, kdL]
  generalize ps[i] = p at hne
  cases p with
  | nil => exact absurd rfl hne
  | cons y p =>
   simp only [Option.map_some, Option.bind_some, by_size, List.length_cons]
   rw [by_hd, by_hd, decide_eq_true (show (0 : Int) < ((p.length + 1 : Nat) : Int) by omega), decide_eq_true (show (0 : Int) < ((s.length + 1 : Nat) : Int) by omega), show decide (0 ≤ 0) = true from rfl, Bool.and_self, cond_true, cond_true]
   by_cases h : y = x
   ·subst h
    rw [decide_eq_true rfl, cond_true, if_pos (show (y :: p).headD 0 = y from rfl), wrap64 (show -9223372036854775808 ≤ 1 + (i : Int) ∧ 1 + (i : Int) ≤ 9223372036854775807 by omega)]
   ·rw [decide_eq_false (fun e => h (byte_eq.1 e)), cond_false, if_neg (show ¬ (y :: p).headD 0 = x from h), wrap64 (show -9223372036854775808 ≤ (i : Int) + 1 ∧ (i : Int) + 1 ≤ 9223372036854775807 by omega)]
    exact kind_loop x s ps hp hl n g m (i + 1) (by omega) (by omega)
def kdF (x : UInt8) : Int := kdL x shps 0
theorem f_kindAt {n : Nat} (hn : 30 ≤ n) (x : UInt8) (s : List UInt8) : FF n 73 [sr (x :: s)] [] = some ([nt (kdF x)], []) := by
 obtain ⟨n, rfl⟩ := pos_succ (show 0 < n by omega)
 rw [E_impl_kindAt, f_shapes (by omega)]
 simp only [by_toList, ne_nil, List.cons_ne_nil, decide_false, cond_false]
 simp only [evt]
 have := kind_loop x s shps (by decide) (by decide) n 16 n 0 (by omega) (by decide)
 simp only [List.length_map]
 exact this
theorem f_isBd {n : Nat} (hn : 1 ≤ n) (k : Int) : FF n 47 [nt k] [] = some ([bl (isBd k)], []) := by
 rw [f_isBinder hn]
 congr 5
 unfold isBd
 rw [Bool.eq_iff_iff]; simp
def RD (B : Nat) (o : Option (T × List UInt8)) (res : OR) : Prop := ∃ t r b, res = some ([tm t, sr r, bl b], []) ∧ (∀ x, o = some x → t = x.1 ∧ r = x.2 ∧ b = true) ∧ (o = none → b = false) ∧ (b = true → r.length ≤ B)
theorem RD.fail {B : Nat} {res : OR} {t : T} {r : List UInt8} (h : res = some ([tm t, sr r, bl false], [])) : RD B none res := ⟨t, r, false, h, fun _ h => (by cases h), fun _ => rfl, fun h => (by cases h)⟩
theorem RD.ok {B : Nat} {res : OR} {t : T} {r : List UInt8} (h : res = some ([tm t, sr r, bl true], [])) (hb : r.length ≤ B) : RD B (some (t, r)) res := ⟨t, r, true, h, fun x e => (by cases e; exact ⟨rfl, rfl, rfl⟩), fun h => (by cases h), fun _ => hb⟩
noncomputable abbrev LN := @L_impl_readNamed_0_oo
section
variable {n c : Nat} {x : UInt8} {s e ins : List UInt8} {deep : Int} {ps : List (List UInt8)} {rest : List UInt8} {binds : Bool} {i : Nat} {z1 z2 : Int} {z3 : List T} {k N : Int} {ks : List T}
theorem ln_false : LN n (c + 1) (bytesOf (x :: s)) (bytesOf e) deep (ps.map bytesOf) (bytesOf rest) false (bytesOf ins) binds (i : Int) z1 z2 z3 k N ks = some ([tm (.mk k N ks), sr rest, bl false], []) := by
 unfold LN
 rw [L_impl_readNamed_0_oo_eq]
 simp only [cond_false, Bool.cond_self]; rfl
theorem ln_end (hn : 1 ≤ n) (hi : i = ps.length) : LN n (c + 1) (bytesOf (x :: s)) (bytesOf e) deep (ps.map bytesOf) (bytesOf rest) true (bytesOf ins) binds (i : Int) z1 z2 z3 k N ks = some ([tm (.mk k N ks), sr rest, bl (decide (isBd k = binds))], []) := by
 unfold LN
 rw [L_impl_readNamed_0_oo_eq, List.length_map, decide_eq_false (show ¬ (i : Int) < ps.length by omega), cond_false, cond_true, f_isBd hn]
 simp only [evt]; rfl
theorem ln_step (hn : 10 ≤ n) (hx : x ≠ 40 ∨ i ≠ 1) (hi : i < ps.length) (hps : ps.length ≤ 10) (hk : ks.length ≤ 10) (hd : 0 ≤ deep ∧ deep ≤ 100) {t : T} {r : List UInt8} {b : Bool}
   (hr : FF n 50 [sr rest, sr (if i = 2 ∧ isBd k = true then ins else e), nt (deep + 1)] [] = some ([tm t, sr r, bl b], [])) :
   LN n (c + 1) (bytesOf (x :: s)) (bytesOf e) deep (ps.map bytesOf) (bytesOf rest) true (bytesOf ins) binds (i : Int) z1 z2 z3 k N ks =
    if b = true then LN n c (bytesOf (x :: s)) (bytesOf e) deep (ps.map bytesOf) (bytesOf ((cutP (ps[i]'hi) r).getD r)) (cutP (ps[i]'hi) r).isSome (bytesOf ins) binds ((i + 1 : Nat) : Int) z1 z2 z3 k N (ks ++ [t]) else some ([tm (.mk 0 0 []), sr [], bl false], []) := by
 unfold LN
 rw [L_impl_readNamed_0_oo_eq, List.length_map, decide_eq_true (show (i : Int) < ps.length by omega), cond_true, cond_true, f_isBd (by omega), wrap64 (show -9223372036854775808 ≤ deep + 1 ∧ deep + 1 ≤ 9223372036854775807 by omega), wrap64 (show -9223372036854775808 ≤ (i : Int) + 1 ∧ (i : Int) + 1 ≤ 9223372036854775807 by omega)]
 have hlen : (ks ++ [t]).length ≤ 11 := by simp; omega
 have hroom : roomB (ks ++ [t]).length = true := roomB_ok (by omega)
 have h0 : decide (0 < (((bytesOf (x :: s)).size : Nat) : Int)) = true := by rw [by_size]; simp
 have hg : (ps.map bytesOf)[((i : Int)).toNat]? = some (bytesOf (ps[i]'hi)) := by rw [Int.toNat_natCast, List.getElem?_map, List.getElem?_eq_getElem hi]; rfl
 have h00 : decide (0 ≤ 0) = true := rfl
 have hi0 : decide ((0 : Int) ≤ (i : Int)) = true := decide_eq_true (by omega)
 have hx1 : ∀ (A B : OR), (x ≠ 40 ∨ i ≠ 1) → cond (decide (((byteAt (bytesOf (x :: s)) (0 : Int).toNat).toNat : Int) = 40)) (cond (decide ((i : Int) = 1)) A B) B = B := fun A B h => by
  rcases h with h | h
  ·rw [by_hd, decide_eq_false (show ¬ (x.toNat : Int) = 40 from fun e => h (byte_eq.1 (show (x.toNat : Int) = ((40 : UInt8).toNat : Int) from e))), cond_false]
  ·rw [decide_eq_false (show ¬ (i : Int) = 1 by omega), cond_false, Bool.cond_self]
 have fin : ∀ (nm : ByteArray), nm = bytesOf (if i = 2 ∧ isBd k = true then ins else e) → FF n 50 [.one (.str (bytesOf rest)), .one (.str nm), .one (.int .i64 (deep + 1))] [] = some ([tm t, sr r, bl b], []) := fun nm h => by rw [h]; exact hr
 by_cases h2 : i = 2 ∧ isBd k = true
 ·rw [decide_eq_true (show (i : Int) = 2 by omega), cond_true, h2.2]
  simp only [evt]
  rw [fin (bytesOf ins) (by rw [if_pos h2])]
  simp only [evt]
  cases b with
  | false => simp only [Bool.not_false, cond_true, Bool.false_eq_true, if_false]; rfl
  | true =>
   simp only [Bool.not_true, cond_false, hroom, h0, h00, Bool.and_self, cond_true, if_true]
   rw [hx1 _ _ hx, hi0, cond_true, hg]
   simp only [Option.bind_some]
   rw [f_CutPrefix _ _ (by omega)]
   simp only [evt]
   rw [show ((i + 1 : Nat) : Int) = (i : Int) + 1 by omega]
 ·have he : FF n 50 [.one (.str (bytesOf rest)), .one (.str (bytesOf e)), .one (.int .i64 (deep + 1))] [] = some ([tm t, sr r, bl b], []) := fin _ (by rw [if_neg h2])
  have two : i = 2 → isBd k = false := fun h => by
   cases hb : isBd k with
   | false => rfl
   | true => exact absurd ⟨h, hb⟩ h2
  by_cases h3 : i = 2
  ·rw [decide_eq_true (show (i : Int) = 2 by omega), cond_true, two h3]
   simp only [evt]
   rw [he]
   simp only [evt]
   cases b with
   | false => simp only [Bool.not_false, cond_true, Bool.false_eq_true, if_false]; rfl
   | true =>
    simp only [Bool.not_true, cond_false, hroom, h0, h00, Bool.and_self, cond_true, if_true]
    rw [hx1 _ _ hx, hi0, cond_true, hg]
    simp only [Option.bind_some]
    rw [f_CutPrefix _ _ (by omega)]
    simp only [evt]
    rw [show ((i + 1 : Nat) : Int) = (i : Int) + 1 by omega]
  ·rw [decide_eq_false (show ¬ (i : Int) = 2 by omega), cond_false, he]
   simp only [evt]
   cases b with
   | false => simp only [Bool.not_false, cond_true, Bool.false_eq_true, if_false]; rfl
   | true =>
    simp only [Bool.not_true, cond_false, hroom, h0, h00, Bool.and_self, cond_true, if_true]
    rw [hx1 _ _ hx, hi0, cond_true, hg]
    simp only [Option.bind_some]
    rw [f_CutPrefix _ _ (by omega)]
    simp only [evt]
    rw [show ((i + 1 : Nat) : Int) = (i : Int) + 1 by omega]
def rkK : List UInt8 → Int
 | y :: _ => if y = 32 then 5 else if y = 42 then 13 else 3
 | [] => 3
def rkC : List UInt8 → UInt8
 | y :: _ => if y = 32 then 32 else if y = 42 then 42 else 62
 | [] => 62
abbrev rps (q : UInt8) : List (List UInt8) := [[40], [q], [41]]
theorem ln_round (hn : 10 ≤ n) (hk : ks.length ≤ 10) (hd : 0 ≤ deep ∧ deep ≤ 100) {t : T} {r : List UInt8} {b : Bool}
   (hr : FF n 50 [sr rest, sr e, nt (deep + 1)] [] = some ([tm t, sr r, bl b], [])) :
   LN n (c + 1) (bytesOf (40 :: s)) (bytesOf e) deep ((rps 62).map bytesOf) (bytesOf rest) true (bytesOf ins) binds 1 z1 z2 z3 3 N ks =
    if b = true then LN n c (bytesOf (40 :: s)) (bytesOf e) deep ((rps (rkC r)).map bytesOf) (bytesOf ((cutP [rkC r] r).getD r)) (cutP [rkC r] r).isSome (bytesOf ins) binds 2 z1 z2 z3 (rkK r) N (ks ++ [t]) else some ([tm (.mk 0 0 []), sr [], bl false], []) := by
 unfold LN
 rw [L_impl_readNamed_0_oo_eq, show decide ((1 : Int) < (((rps 62).map bytesOf).length : Int)) = true from rfl, cond_true, cond_true, show decide ((1 : Int) = 2) = false from rfl, cond_false, wrap64 (show -9223372036854775808 ≤ deep + 1 ∧ deep + 1 ≤ 9223372036854775807 by omega), show IntKind.i64.wrap ((1 : Int) + 1) = 2 from rfl]
 have hroom : roomB (ks ++ [t]).length = true := roomB_ok (by simp; omega)
 have h0 : decide (0 < (((bytesOf (40 :: s)).size : Nat) : Int)) = true := by rw [by_size]; simp
 have h00 : decide (0 ≤ 0) = true := rfl
 have h40 : decide (((byteAt (bytesOf (40 :: s)) (0 : Int).toNat).toNat : Int) = 40) = true := rfl
 simp only [sr, nt] at hr
 rw [hr]
 simp only [evt]
 cases b with
 | false => simp only [Bool.not_false, cond_true, Bool.false_eq_true, if_false]; rfl
 | true =>
  simp only [Bool.not_true, cond_false, hroom, h0, h00, Bool.and_self, cond_true, if_true]
  rw [h40, cond_true, by_toList]
  cases r with
  | nil =>
   simp only [show ((([] : List UInt8) == (bytesOf []).toList)) = true from (by rw [by_toList]; rfl), Bool.not_true, cond_false, show decide ((0 : Int) ≤ 1) = true from rfl, cond_true, show ((rps 62).map bytesOf)[(1 : Int).toNat]? = some (bytesOf [62]) from rfl, Option.bind_some]
   rw [f_CutPrefix _ _ (by omega)]
   simp only [evt]
   simp only [rkK, rkC]
  | cons y r =>
   have hb : ((y :: r) == (bytesOf []).toList) = false := by rw [by_toList]; rfl
   have h1 : decide (0 < (((bytesOf (y :: r)).size : Nat) : Int)) = true := by rw [by_size]; simp
   have dec : ∀ q : UInt8, decide (((byteAt (bytesOf (y :: r)) (0 : Int).toNat).toNat : Int) = (q.toNat : Int)) = decide (y = q) := fun q => by
    rw [by_hd]
    by_cases h : y = q
    ·subst h; simp
    ·rw [decide_eq_false (fun e => h (byte_eq.1 e)), decide_eq_false h]
   have d32 := dec 32
   have d42 := dec 42
   simp only [show ((32 : UInt8).toNat : Int) = 32 from rfl] at d32
   simp only [show ((42 : UInt8).toNat : Int) = 42 from rfl] at d42
   simp only [hb, Bool.not_false, cond_true, h1, h00, Bool.and_self, d32, d42, show decide ((0 : Int) ≤ 1) = true from rfl]
   simp only [f_shapes (n := n) (by omega)]
   simp only [evt]
   obtain ⟨n, rfl⟩ := pos_succ (show 0 < n by omega)
   by_cases hy : y = 32
   ·subst hy
    simp only [decide_true, cond_true, show (shps.map bytesOf)[(4 : Int).toNat]? = some (bytesOf [40, 46, 32, 46, 41]) from rfl, Option.bind_some]
    rw [f_Split (n := n) [40, 46, 32, 46, 41] (ps := rps 32) rfl]
    simp only [evt]
    simp only [show ((rps 32).map bytesOf)[(1 : Int).toNat]? = some (bytesOf [32]) from rfl, Option.bind_some]
    rw [f_CutPrefix _ _ (by omega)]
    simp only [evt]
    simp only [rkK, rkC, if_true]
   ·rw [decide_eq_false hy, cond_false]
    by_cases hz : y = 42
    ·subst hz
     simp only [decide_true, cond_true, show (shps.map bytesOf)[(12 : Int).toNat]? = some (bytesOf [40, 46, 42, 46, 41]) from rfl, Option.bind_some]
     rw [f_Split (n := n) [40, 46, 42, 46, 41] (ps := rps 42) rfl]
     simp only [evt]
     simp only [show ((rps 42).map bytesOf)[(1 : Int).toNat]? = some (bytesOf [42]) from rfl, Option.bind_some]
     rw [f_CutPrefix _ _ (by omega)]
     simp only [evt]
     simp only [rkK, rkC, if_true, show ¬ ((42 : UInt8) = 32) from by decide, if_false]
    ·rw [decide_eq_false hz, cond_false]
     simp only [show (shps.map bytesOf)[(2 : Int).toNat]? = some (bytesOf [40, 46, 62, 46, 41]) from rfl, Option.bind_some]
     rw [f_Split (n := n) [40, 46, 62, 46, 41] (ps := rps 62) rfl]
     simp only [evt]
     simp only [show ((rps 62).map bytesOf)[(1 : Int).toNat]? = some (bytesOf [62]) from rfl, Option.bind_some]
     rw [f_CutPrefix _ _ (by omega)]
     simp only [evt]
     simp only [rkK, rkC, if_neg hy, if_neg hz]
end
def rdP (p : List UInt8 → Option (T × List UInt8)) (k : Int) : List (List UInt8) → List UInt8 → List T → Option (T × List UInt8)
 | [], rest, ks => some (.mk k 0 ks, rest)
 | q :: qs, rest, ks => (p rest).bind fun x => (cutP q x.2).bind fun r => rdP p k qs r (ks ++ [x.1])
def prt (last : UInt8) : Nat → List (List UInt8)
 | 0 => []
 | n + 1 => [if n = 0 then last else 44] :: prt last n
theorem rdP_S (p : List UInt8 → Option (T × List UInt8)) (k : Int) (last : UInt8) : ∀ n s ks, rdP p k (prt last n) s ks = (rdS p last n s).map fun y => (.mk k 0 (ks ++ y.1), y.2)
 | 0, s, ks => by simp [rdP, prt, rdS]
 | n + 1, s, ks => by
  rw [prt, rdP, rdS]
  cases p s with
  | none => rfl
  | some x =>
   simp only [Option.bind_some, cut_one]
   cases eat (if n = 0 then last else 44) x.2 with
   | none => rfl
   | some r =>
    simp only [Option.bind_some]
    rw [rdP_S p k last n r]
    cases rdS p last n r with
    | none => rfl
    | some y => simp
theorem cutP_len {q l r : List UInt8} (h : cutP q l = some r) : r.length ≤ l.length := by
 unfold cutP at h
 split at h
 ·cases h; simp
 ·cases h
theorem plain_loop {B n : Nat} {x : UInt8} {s e ins : List UInt8} {deep k : Int} {ps : List (List UInt8)} (p : List UInt8 → Option (T × List UInt8)) (hn : 10 ≤ n) (hx : x ≠ 40) (hkb : isBd k = false) (hps : ps.length ≤ 10) (hd : 0 ≤ deep ∧ deep ≤ 100)
   (hp : ∀ s : List UInt8, s.length ≤ B → RD B (p s) (FF n 50 [sr s, sr e, nt (deep + 1)] [])) :
   ∀ j m i rest ks, j < m → i + j = ps.length → ks.length ≤ i → rest.length ≤ B → RD B (rdP p k (ps.drop i) rest ks) (LN n m (bytesOf (x :: s)) (bytesOf e) deep (ps.map bytesOf) (bytesOf rest) true (bytesOf ins) false (i : Int) 0 0 [] k 0 ks)
 | j, 0, i, rest, ks, h, _, _, _ => by omega
 | 0, m + 1, i, rest, ks, _, hi, _, hr => by
  rw [List.drop_of_length_le (by omega), rdP]
  refine RD.ok (B := B) ?_ hr
  rw [ln_end (by omega) (by omega), hkb]; rfl
 | j + 1, m + 1, i, rest, ks, hj, hi, hks, hr => by
  have hlt : i < ps.length := by omega
  obtain ⟨t, r, b, h1, h2, h3, h4⟩ := hp rest hr
  rw [List.drop_eq_getElem_cons hlt, rdP]
  rw [ln_step (x := x) (i := i) hn (.inl hx) hlt hps (by omega) hd (by rw [if_neg (by rw [hkb]; simp)]; exact h1)]
  cases b with
  | false =>
   have : p rest = none := by
    cases hq : p rest with
    | none => rfl
    | some y => have := (h2 y hq).2.2; cases this
   rw [this]
   exact RD.fail (t := .mk 0 0 []) (r := []) (by rw [if_neg (by simp)])
  | true =>
   obtain ⟨y, hq⟩ : ∃ y, p rest = some y := by
    cases hq : p rest with
    | none => have := h3 hq; cases this
    | some y => exact ⟨y, rfl⟩
   obtain ⟨rfl, rfl, _⟩ := h2 y hq
   rw [hq, if_pos rfl, Option.bind_some]
   cases hc : cutP ps[i] y.2 with
   | none =>
    simp only [Option.getD_none, Option.isSome_none, Option.bind_none]
    cases m with
    | zero => omega
    | succ m => exact RD.fail ln_false
   | some r2 =>
    simp only [Option.getD_some, Option.isSome_some, Option.bind_some]
    have := cutP_len hc
    have := h4 rfl
    exact plain_loop p hn hx hkb hps hd hp j m (i + 1) r2 (ks ++ [y.1]) (by omega) (by omega) (by simp; omega) (by omega)
theorem letB_eq (c : UInt8) : letterB c = letB c := by unfold letterB letB; rw [Bool.eq_iff_iff]; simp; omega
theorem f_isLetter {n : Nat} (hn : 1 ≤ n) (c : UInt8) : FF n 39 [.one (.int .u8 (c.toNat : Int))] [] = some ([bl (letB c)], []) := by
 obtain ⟨n, rfl⟩ := pos_succ (show 0 < n by omega)
 rw [E_impl_isLetter, ← letB_eq]
 unfold letterB
 by_cases h : (97 : Int) ≤ c.toNat <;> simp only [h, decide_true, decide_false, cond_true, cond_false, Bool.true_and, Bool.false_and]
theorem kd_other {x : UInt8} (h : x ≠ 42 ∧ x ≠ 78 ∧ x ≠ 48 ∧ x ≠ 43 ∧ x ≠ 33 ∧ x ≠ 94 ∧ x ≠ 95 ∧ x ≠ 40 ∧ x ≠ 91 ∧ x ≠ 60 ∧ x ≠ 123 ∧ x ≠ 124 ∧ x ≠ 64) : kdF x = -1 ∨ kdF x = 1 := by
 obtain ⟨h1, h2, h3, h4, h5, h6, h7, h8, h9, h10, h11, h12, h13⟩ := h
 by_cases h0 : x = 35
 ·subst h0; exact .inr rfl
 ·left
  unfold kdF shps
  rw [kdL, if_neg (show ¬ ([35] : List UInt8).headD 0 = x from Ne.symm h0), kdL, if_neg (show ¬ ([42] : List UInt8).headD 0 = x from Ne.symm h1), kdL, if_neg (show ¬ ([40, 46, 62, 46, 41] : List UInt8).headD 0 = x from Ne.symm h8), kdL, if_neg (show ¬ ([91, 46, 93, 46] : List UInt8).headD 0 = x from Ne.symm h9), kdL, if_neg (show ¬ ([40, 46, 32, 46, 41] : List UInt8).headD 0 = x from Ne.symm h8), kdL, if_neg (show ¬ ([78] : List UInt8).headD 0 = x from Ne.symm h2), kdL, if_neg (show ¬ ([48] : List UInt8).headD 0 = x from Ne.symm h3), kdL, if_neg (show ¬ ([43, 46] : List UInt8).headD 0 = x from Ne.symm h4), kdL, if_neg (show ¬ ([60, 46, 44, 46, 44, 46, 44, 46, 62] : List UInt8).headD 0 = x from Ne.symm h10), kdL, if_neg (show ¬ ([123, 46, 44, 46, 44, 46, 125] : List UInt8).headD 0 = x from Ne.symm h11), kdL, if_neg (show ¬ ([33, 46] : List UInt8).headD 0 = x from Ne.symm h5), kdL, if_neg (show ¬ ([64, 60, 46, 44, 46, 44, 46, 62] : List UInt8).headD 0 = x from Ne.symm h13), kdL, if_neg (show ¬ ([40, 46, 42, 46, 41] : List UInt8).headD 0 = x from Ne.symm h8), kdL, if_neg (show ¬ ([124, 46, 44, 46, 44, 46, 124] : List UInt8).headD 0 = x from Ne.symm h12), kdL, if_neg (show ¬ ([94, 46] : List UInt8).headD 0 = x from Ne.symm h6), kdL, if_neg (show ¬ ([95, 46] : List UInt8).headD 0 = x from Ne.symm h7), kdL]
theorem rnN_le (l : List UInt8) : rnN l ≤ 9223372036854775807 := by
 unfold rnN
 split
 ·rename_i v h; exact (Lib.atoiAll_bounds h).2
 ·decide
theorem rnR_len (l : List UInt8) : (rnR l).length ≤ l.length := by
 unfold rnR
 split
 ·exact dw_len digB l
 ·simp
theorem in_1 (x : UInt8) (s : List UInt8) : Go.Ab.inB 1 (((bytesOf (x :: s)).size : Nat) : Int) ((bytesOf (x :: s)).size) = true := by
 rw [by_size]; simp only [List.length_cons, inB, Bool.and_eq_true, decide_eq_true_eq]; omega
theorem tl_1 (x : UInt8) (s : List UInt8) : (bytesOf (x :: s)).extract (1 : Int).toNat ((((bytesOf (x :: s)).size : Nat) : Int)).toNat = bytesOf s := by
 rw [by_size, Int.toNat_natCast, by_ext, List.take_length]; rfl
section
variable {n B : Nat} {x : UInt8} {s e : List UInt8} {deep : Int}
theorem z_hd (x : UInt8) (s : List UInt8) : decide (0 < (((bytesOf (x :: s)).size : Nat) : Int)) = true := by rw [by_size]; simp
theorem rn_start (hn : 100 ≤ n) (hl : letB x = false) (hd : 0 ≤ deep ∧ deep ≤ 30) (h40 : x ≠ 40) (h91 : x ≠ 91) {k : Nat} (hk : kdF x = ((k + 1 : Nat) : Int)) (hk2 : 2 ≤ k) {sh p0 : List UInt8} {ps : List (List UInt8)} (hsh : shps[k]? = some sh) (hsp : shTab.lookup sh = some (p0 :: ps)) :
   FF (n + 1) 50 [sr (x :: s), sr e, nt deep] [] = LN n n (bytesOf (x :: s)) (bytesOf e) deep ((p0 :: ps).map bytesOf) (bytesOf ((cutP p0 (x :: s)).getD (x :: s))) (cutP p0 (x :: s)).isSome (bytesOf e) false 1 0 0 [] ((k + 1 : Nat) : Int) 0 [] := by
 rw [E_impl_readNamed, by_toList]
 simp only [show ((x :: s) == (bytesOf []).toList) = false from (by rw [by_toList]; rfl), cond_false, decide_eq_false (show ¬ (30 : Int) < deep by omega), z_hd, show decide (0 ≤ 0) = true from rfl, Bool.and_self, cond_true]
 rw [by_hd, f_isLetter (by omega), hl]
 simp only [evt]
 rw [f_kindAt (by omega), hk]
 simp only [evt]
 have e1 : decide (((k + 1 : Nat) : Int) < 0) = false := decide_eq_false (by omega)
 have e2 : decide (((k + 1 : Nat) : Int) = 1) = false := decide_eq_false (by omega)
 have e3 : decide (((k + 1 : Nat) : Int) = 2) = false := decide_eq_false (by omega)
 rw [e1, e2, e3]
 simp only [cond_false]
 rw [f_shapes (by omega), wrap64 (show -9223372036854775808 ≤ ((k + 1 : Nat) : Int) - 1 ∧ ((k + 1 : Nat) : Int) - 1 ≤ 9223372036854775807 by have := (List.getElem?_eq_some_iff.1 hsh).1; simp [shps] at this; omega), show ((k + 1 : Nat) : Int) - 1 = (k : Int) by omega]
 simp only [evt]
 rw [decide_eq_true (show (0 : Int) ≤ (k : Int) by omega), cond_true, Int.toNat_natCast, List.getElem?_map, hsh]
 simp only [Option.map_some, Option.bind_some]
 obtain ⟨n, rfl⟩ := pos_succ (show 0 < n by omega)
 rw [f_Split sh hsp]
 simp only [evt]
 simp only [List.map_cons, Int.toNat_zero, List.getElem?_cons_zero, Option.bind_some]
 rw [f_CutPrefix _ _ (by omega)]
 simp only [evt]
 have c40 : decide ((x.toNat : Int) = 40) = false := decide_eq_false fun e => h40 (byte_eq.1 (show (x.toNat : Int) = ((40 : UInt8).toNat : Int) from e))
 have c91 : decide ((x.toNat : Int) = 91) = false := decide_eq_false fun e => h91 (byte_eq.1 (show (x.toNat : Int) = ((91 : UInt8).toNat : Int) from e))
 simp only [z_hd, show decide (0 ≤ 0) = true from rfl, Bool.and_self, cond_true, c40, c91, cond_false]
end
end Go.Proofs.YtnogehmgpfpjmaaDoor
end
section
namespace Go.Proofs.YtnogehmgpfpjmaaDoor
open Go Go.Ab Go.Dk
section
variable {n B : Nat} {x : UInt8} {s e : List UInt8} {deep : Int}
theorem bnd_cons (y z : UInt8) (s : List UInt8) : bnd (y :: z :: s) = if letB y = true ∧ z = 58 then some (y, s) else none := rfl
theorem rn_start40 (hn : 100 ≤ n) (hd : 0 ≤ deep ∧ deep ≤ 30) (he : e.length ≤ 1000) : FF (n + 1) 50 [sr (40 :: s), sr e, nt deep] [] =
   (match bnd s with
   | some (y, s2) => LN n n (bytesOf (40 :: s)) (bytesOf e) deep ((rps 62).map bytesOf) (bytesOf s2) true (bytesOf (e ++ [y])) true 1 0 0 [] 3 0 []
   | none => LN n n (bytesOf (40 :: s)) (bytesOf e) deep ((rps 62).map bytesOf) (bytesOf s) true (bytesOf e) false 1 0 0 [] 3 0 []) := by
 rw [E_impl_readNamed, by_toList]
 simp only [show (((40 : UInt8) :: s) == (bytesOf []).toList) = false from (by rw [by_toList]; rfl), cond_false, decide_eq_false (show ¬ (30 : Int) < deep by omega), z_hd, show decide (0 ≤ 0) = true from rfl, Bool.and_self, cond_true]
 rw [by_hd, f_isLetter (by omega), show letB 40 = false from rfl]
 simp only [evt]
 rw [f_kindAt (by omega), show kdF 40 = 3 from rfl]
 simp only [evt]
 simp only [show decide ((3 : Int) < 0) = false from rfl, show decide ((3 : Int) = 1) = false from rfl, show decide ((3 : Int) = 2) = false from rfl, cond_false]
 rw [f_shapes (by omega), show IntKind.i64.wrap ((3 : Int) - 1) = 2 from rfl]
 simp only [evt]
 simp only [show decide ((0 : Int) ≤ 2) = true from rfl, cond_true, show (shps.map bytesOf)[(2 : Int).toNat]? = some (bytesOf [40, 46, 62, 46, 41]) from rfl, Option.bind_some]
 obtain ⟨n, rfl⟩ := pos_succ (show 0 < n by omega)
 rw [f_Split [40, 46, 62, 46, 41] (ps := (rps 62)) rfl]
 simp only [evt]
 simp only [show ((rps 62).map bytesOf)[(0 : Int).toNat]? = some (bytesOf [40]) from rfl, Option.bind_some]
 rw [f_CutPrefix _ _ (by omega), show cutP [40] (40 :: s) = some s from by rw [cut_one]; rfl]
 simp only [evt, Option.getD_some, Option.isSome_some]
 have d40 : decide ((((40 : UInt8).toNat : Nat) : Int) = 40) = true := by decide
 rw [d40, cond_true]
 match s with
 | [] =>
  rw [show decide ((1 : Int) < (((bytesOf []).size : Nat) : Int)) = false from (by rw [by_size]; rfl), cond_false]; rfl
 | [y] =>
  rw [show decide ((1 : Int) < (((bytesOf [y]).size : Nat) : Int)) = false from (by rw [by_size]; rfl), cond_false]; rfl
 | y :: z :: s2 =>
  have h1 : decide ((1 : Int) < (((bytesOf (y :: z :: s2)).size : Nat) : Int)) = true := by rw [by_size]; simp only [List.length_cons, decide_eq_true_eq]; omega
  have h2 : decide (1 < (((bytesOf (y :: z :: s2)).size : Nat) : Int)) = true := h1
  have h3 : byteAt (bytesOf (y :: z :: s2)) (1 : Int).toNat = z := rfl
  have i1 : Go.Ab.inB 0 1 (bytesOf (y :: z :: s2)).size = true := by rw [by_size]; simp only [List.length_cons, inB, Bool.and_eq_true, decide_eq_true_eq]; omega
  have i2 : Go.Ab.inB 2 (((bytesOf (y :: z :: s2)).size : Nat) : Int) (bytesOf (y :: z :: s2)).size = true := by rw [by_size]; simp only [List.length_cons, inB, Bool.and_eq_true, decide_eq_true_eq]; omega
  have e1 : (bytesOf (y :: z :: s2)).extract (0 : Int).toNat (1 : Int).toNat = bytesOf [y] := by rw [by_ext]; rfl
  have e2 : (bytesOf (y :: z :: s2)).extract (2 : Int).toNat ((((bytesOf (y :: z :: s2)).size : Nat) : Int)).toNat = bytesOf s2 := by rw [by_size, Int.toNat_natCast, by_ext, List.take_length]; rfl
  have e3 : decide ((bytesOf e).size + (bytesOf [y]).size ≤ 9223372036854775807) = true := by rw [by_size, by_size]; simp only [List.length_cons, List.length_nil, decide_eq_true_eq]; omega
  have d01 : decide (0 ≤ 1) = true := rfl
  rw [h1, cond_true, z_hd, cond_true, by_hd, f_isLetter (by omega)]
  simp only [evt]
  rw [bnd_cons]
  cases hy : letB y with
  | false => rw [cond_false, if_neg (fun h => by cases h.1)]
  | true =>
   rw [cond_true, d01, cond_true, h3]
   by_cases hz : z = 58
   ·subst hz
    have d58 : decide ((((58 : UInt8).toNat : Nat) : Int) = 58) = true := by decide
    rw [d58, cond_true, i1, cond_true, e1, e3, cond_true, i2, cond_true, e2, by_app, if_pos ⟨rfl, rfl⟩]
   ·rw [decide_eq_false (show ¬ (z.toNat : Int) = 58 from fun e => hz (byte_eq.1 (show (z.toNat : Int) = ((58 : UInt8).toNat : Int) from e)))]
    rw [cond_false, if_neg (fun h => hz h.2)]
theorem rn_start91 (hn : 100 ≤ n) (hd : 0 ≤ deep ∧ deep ≤ 30) (he : e.length ≤ 1000) : FF (n + 1) 50 [sr (91 :: s), sr e, nt deep] [] =
   (match bnd s with
   | some (y, s2) => LN n n (bytesOf (91 :: s)) (bytesOf e) deep (([[91], [93], []] : List (List UInt8)).map bytesOf) (bytesOf s2) true (bytesOf (e ++ [y])) true 1 0 0 [] 4 0 []
   | none => LN n n (bytesOf (91 :: s)) (bytesOf e) deep (([[91], [93], []] : List (List UInt8)).map bytesOf) (bytesOf s) true (bytesOf e) false 1 0 0 [] 4 0 []) := by
 rw [E_impl_readNamed, by_toList]
 simp only [show (((91 : UInt8) :: s) == (bytesOf []).toList) = false from (by rw [by_toList]; rfl), cond_false, decide_eq_false (show ¬ (30 : Int) < deep by omega), z_hd, show decide (0 ≤ 0) = true from rfl, Bool.and_self, cond_true]
 rw [by_hd, f_isLetter (by omega), show letB 91 = false from rfl]
 simp only [evt]
 rw [f_kindAt (by omega), show kdF 91 = 4 from rfl]
 simp only [evt]
 simp only [show decide ((4 : Int) < 0) = false from rfl, show decide ((4 : Int) = 1) = false from rfl, show decide ((4 : Int) = 2) = false from rfl, cond_false]
 rw [f_shapes (by omega), show IntKind.i64.wrap ((4 : Int) - 1) = 3 from rfl]
 simp only [evt]
 simp only [show decide ((0 : Int) ≤ 3) = true from rfl, cond_true, show (shps.map bytesOf)[(3 : Int).toNat]? = some (bytesOf [91, 46, 93, 46]) from rfl, Option.bind_some]
 obtain ⟨n, rfl⟩ := pos_succ (show 0 < n by omega)
 rw [f_Split [91, 46, 93, 46] (ps := ([[91], [93], []] : List (List UInt8))) rfl]
 simp only [evt]
 simp only [show (([[91], [93], []] : List (List UInt8)).map bytesOf)[(0 : Int).toNat]? = some (bytesOf [91]) from rfl, Option.bind_some]
 rw [f_CutPrefix _ _ (by omega), show cutP [91] (91 :: s) = some s from by rw [cut_one]; rfl]
 simp only [evt, Option.getD_some, Option.isSome_some]
 have d40 : decide ((((91 : UInt8).toNat : Nat) : Int) = 40) = false := by decide
 have d91 : decide ((((91 : UInt8).toNat : Nat) : Int) = 91) = true := by decide
 rw [d40, cond_false, d91, cond_true]
 match s with
 | [] =>
  rw [show decide ((1 : Int) < (((bytesOf []).size : Nat) : Int)) = false from (by rw [by_size]; rfl), cond_false]; rfl
 | [y] =>
  rw [show decide ((1 : Int) < (((bytesOf [y]).size : Nat) : Int)) = false from (by rw [by_size]; rfl), cond_false]; rfl
 | y :: z :: s2 =>
  have h1 : decide ((1 : Int) < (((bytesOf (y :: z :: s2)).size : Nat) : Int)) = true := by rw [by_size]; simp only [List.length_cons, decide_eq_true_eq]; omega
  have h2 : decide (1 < (((bytesOf (y :: z :: s2)).size : Nat) : Int)) = true := h1
  have h3 : byteAt (bytesOf (y :: z :: s2)) (1 : Int).toNat = z := rfl
  have i1 : Go.Ab.inB 0 1 (bytesOf (y :: z :: s2)).size = true := by rw [by_size]; simp only [List.length_cons, inB, Bool.and_eq_true, decide_eq_true_eq]; omega
  have i2 : Go.Ab.inB 2 (((bytesOf (y :: z :: s2)).size : Nat) : Int) (bytesOf (y :: z :: s2)).size = true := by rw [by_size]; simp only [List.length_cons, inB, Bool.and_eq_true, decide_eq_true_eq]; omega
  have e1 : (bytesOf (y :: z :: s2)).extract (0 : Int).toNat (1 : Int).toNat = bytesOf [y] := by rw [by_ext]; rfl
  have e2 : (bytesOf (y :: z :: s2)).extract (2 : Int).toNat ((((bytesOf (y :: z :: s2)).size : Nat) : Int)).toNat = bytesOf s2 := by rw [by_size, Int.toNat_natCast, by_ext, List.take_length]; rfl
  have e3 : decide ((bytesOf e).size + (bytesOf [y]).size ≤ 9223372036854775807) = true := by rw [by_size, by_size]; simp only [List.length_cons, List.length_nil, decide_eq_true_eq]; omega
  have d01 : decide (0 ≤ 1) = true := rfl
  rw [h1, cond_true, z_hd, cond_true, by_hd, f_isLetter (by omega)]
  simp only [evt]
  rw [bnd_cons]
  cases hy : letB y with
  | false => rw [cond_false, if_neg (fun h => by cases h.1)]
  | true =>
   rw [cond_true, d01, cond_true, h3]
   by_cases hz : z = 58
   ·subst hz
    have d58 : decide ((((58 : UInt8).toNat : Nat) : Int) = 58) = true := by decide
    rw [d58, cond_true, i1, cond_true, e1, e3, cond_true, i2, cond_true, e2, by_app, if_pos ⟨rfl, rfl⟩]
   ·rw [decide_eq_false (show ¬ (z.toNat : Int) = 58 from fun e => hz (byte_eq.1 (show (z.toNat : Int) = ((58 : UInt8).toNat : Int) from e)))]
    rw [cond_false, if_neg (fun h => hz h.2)]
end
end Go.Proofs.YtnogehmgpfpjmaaDoor
end
section
namespace Go.Proofs.YtnogehmgpfpjmaaDoor
open Go Go.Ab Go.Dk
section
variable {n B m : Nat} {x : UInt8} {s e ins : List UInt8} {deep : Int} {rest : List UInt8} {binds : Bool} {z1 z2 : Int} {z3 : List T} {k : Int}
theorem f_sort {n : Nat} (hn : 1 ≤ n) (i : Int) : FF n 75 [nt i] [] = some ([tm (.mk 2 i [])], []) := by
 obtain ⟨n, rfl⟩ := pos_succ (show 0 < n by omega)
 exact E_impl_sort n i
theorem RD.both {o : Option (T × List UInt8)} {res : OR} (h : RD B o res) : (∃ t r, o = none ∧ res = some ([tm t, sr r, bl false], [])) ∨ (∃ t r, o = some (t, r) ∧ res = some ([tm t, sr r, bl true], []) ∧ r.length ≤ B) := by
 obtain ⟨t, r, b, h1, h2, h3, h4⟩ := h
 cases o with
 | none => have := h3 rfl; subst this; exact .inl ⟨t, r, rfl, h1⟩
 | some y =>
  obtain ⟨rfl, rfl, rfl⟩ := h2 y rfl
  exact .inr ⟨y.1, y.2, rfl, h1, h4 rfl⟩
theorem ln_two (hn : 10 ≤ n) (hd : 0 ≤ deep ∧ deep ≤ 100) {a q c : List UInt8} {t1 : T} {o : Option (T × List UInt8)}
   (hp : RD B o (FF n 50 [sr rest, sr (if isBd k = true then ins else e), nt (deep + 1)] [])) :
   RD B (o.bind fun b => (cutP c b.2).bind fun r2 => if isBd k = binds then some (.mk k 0 [t1, b.1], r2) else none)
    (LN n (m + 2) (bytesOf (x :: s)) (bytesOf e) deep ([a, q, c].map bytesOf) (bytesOf rest) true (bytesOf ins) binds 2 z1 z2 z3 k 0 [t1]) := by
 have key : ∀ {t : T} {r : List UInt8} {b : Bool}, FF n 50 [sr rest, sr (if isBd k = true then ins else e), nt (deep + 1)] [] = some ([tm t, sr r, bl b], []) →
    LN n (m + 2) (bytesOf (x :: s)) (bytesOf e) deep ([a, q, c].map bytesOf) (bytesOf rest) true (bytesOf ins) binds 2 z1 z2 z3 k 0 [t1] =
    if b = true then LN n (m + 1) (bytesOf (x :: s)) (bytesOf e) deep ([a, q, c].map bytesOf) (bytesOf ((cutP c r).getD r)) (cutP c r).isSome (bytesOf ins) binds ((3 : Nat) : Int) z1 z2 z3 k 0 ([t1] ++ [t]) else some ([tm (.mk 0 0 []), sr [], bl false], []) := by
  intro t r b h
  exact ln_step (x := x) (i := 2) (ps := [a, q, c]) (ks := [t1]) hn (.inr (by decide)) (by simp) (by simp) (by simp) hd (by simp only [true_and]; exact h)
 rcases hp.both with ⟨t, r, rfl, hr⟩ | ⟨t, r, rfl, hr, hl⟩
 ·rw [key hr]; exact RD.fail (by rw [if_neg (by simp)])
 ·rw [key hr, if_pos rfl, Option.bind_some]
  cases hc : cutP c r with
  | none => exact RD.fail (by simp only [Option.getD_none, Option.isSome_none]; exact ln_false)
  | some r2 =>
   simp only [Option.getD_some, Option.isSome_some, Option.bind_some]
   have e := ln_end (n := n) (c := m) (x := x) (s := s) (e := e) (deep := deep) (ps := [a, q, c]) (rest := r2) (ins := ins) (binds := binds) (i := 3) (z1 := z1) (z2 := z2) (z3 := z3) (k := k) (N := 0) (ks := [t1] ++ [t]) (by omega) rfl
   have := cutP_len hc
   by_cases hk : isBd k = binds
   ·rw [if_pos hk]
    refine RD.ok ?_ (by omega)
    rw [e, decide_eq_true hk]; rfl
   ·rw [if_neg hk]
    exact RD.fail (t := .mk k 0 ([t1] ++ [t])) (r := r2) (by rw [e, decide_eq_false hk])
theorem rn_round (hn : 10 ≤ n) (hd : 0 ≤ deep ∧ deep ≤ 100) (hm : 3 ≤ m) {p p2 : List UInt8 → Option (T × List UInt8)} (hrest : rest.length ≤ B)
   (hp : ∀ r : List UInt8, r.length ≤ B → RD B (p r) (FF n 50 [sr r, sr e, nt (deep + 1)] [])) (hp2 : ∀ r : List UInt8, r.length ≤ B → RD B (p2 r) (FF n 50 [sr r, sr ins, nt (deep + 1)] [])) :
   RD B ((p rest).bind fun a => (cutP [rkC a.2] a.2).bind fun r => ((if isBd (rkK a.2) = true then p2 else p) r).bind fun b => (cutP [41] b.2).bind fun r2 => if isBd (rkK a.2) = binds then some (.mk (rkK a.2) 0 [a.1, b.1], r2) else none)
    (LN n m (bytesOf (40 :: s)) (bytesOf e) deep ((rps 62).map bytesOf) (bytesOf rest) true (bytesOf ins) binds 1 z1 z2 z3 3 0 []) := by
 obtain ⟨m, rfl⟩ : ∃ j, m = j + 3 := ⟨m - 3, by omega⟩
 rcases (hp rest hrest).both with ⟨t, r, ho, hr⟩ | ⟨t, r, ho, hr, hl⟩
 ·rw [ho, ln_round hn (by simp) hd hr]; exact RD.fail (by rw [if_neg (by simp)])
 ·rw [ho, ln_round hn (by simp) hd hr, if_pos rfl]
  simp only [Option.bind_some]
  cases hc : cutP [rkC r] r with
  | none => exact RD.fail (by simp only [Option.getD_none, Option.isSome_none]; exact ln_false (i := 2))
  | some r2 =>
   simp only [Option.getD_some, Option.isSome_some, Option.bind_some]
   have := cutP_len hc
   refine ln_two (m := m) (a := [40]) (q := [rkC r]) (c := [41]) hn hd ?_
   by_cases hk : isBd (rkK r) = true
   ·rw [if_pos hk, if_pos hk]; exact hp2 r2 (by omega)
   ·rw [if_neg hk, if_neg hk]; exact hp r2 (by omega)
theorem rn_square (hn : 10 ≤ n) (hd : 0 ≤ deep ∧ deep ≤ 100) (hm : 3 ≤ m) {p p2 : List UInt8 → Option (T × List UInt8)} (hrest : rest.length ≤ B)
   (hp : ∀ r : List UInt8, r.length ≤ B → RD B (p r) (FF n 50 [sr r, sr e, nt (deep + 1)] [])) (hp2 : ∀ r : List UInt8, r.length ≤ B → RD B (p2 r) (FF n 50 [sr r, sr ins, nt (deep + 1)] [])) :
   RD B ((p rest).bind fun a => (cutP [93] a.2).bind fun r => (p2 r).bind fun b => (cutP [] b.2).bind fun r2 => if isBd 4 = binds then some (.mk 4 0 [a.1, b.1], r2) else none)
    (LN n m (bytesOf (91 :: s)) (bytesOf e) deep (([[91], [93], []] : List (List UInt8)).map bytesOf) (bytesOf rest) true (bytesOf ins) binds 1 z1 z2 z3 4 0 []) := by
 obtain ⟨m, rfl⟩ : ∃ j, m = j + 3 := ⟨m - 3, by omega⟩
 have key : ∀ {t : T} {r : List UInt8} {b : Bool}, FF n 50 [sr rest, sr e, nt (deep + 1)] [] = some ([tm t, sr r, bl b], []) →
    LN n (m + 3) (bytesOf (91 :: s)) (bytesOf e) deep (([[91], [93], []] : List (List UInt8)).map bytesOf) (bytesOf rest) true (bytesOf ins) binds 1 z1 z2 z3 4 0 [] =
    if b = true then LN n (m + 2) (bytesOf (91 :: s)) (bytesOf e) deep (([[91], [93], []] : List (List UInt8)).map bytesOf) (bytesOf ((cutP [93] r).getD r)) (cutP [93] r).isSome (bytesOf ins) binds ((2 : Nat) : Int) z1 z2 z3 4 0 [t] else some ([tm (.mk 0 0 []), sr [], bl false], []) := by
  intro t r b h
  exact ln_step (x := 91) (i := 1) (ps := [[91], [93], []]) (ks := []) hn (.inl (by decide)) (by decide) (by decide) (by decide) hd (by rw [if_neg (fun h => by cases h.1)]; exact h)
 rcases (hp rest hrest).both with ⟨t, r, ho, hr⟩ | ⟨t, r, ho, hr, hl⟩
 ·rw [ho, key hr]; exact RD.fail (by rw [if_neg (by simp)])
 ·rw [ho, key hr, if_pos rfl]
  simp only [Option.bind_some]
  cases hc : cutP [93] r with
  | none => exact RD.fail (by simp only [Option.getD_none, Option.isSome_none]; exact ln_false (i := 2))
  | some r2 =>
   simp only [Option.getD_some, Option.isSome_some, Option.bind_some]
   have := cutP_len hc
   refine ln_two (m := m) (a := [91]) (q := [93]) (c := []) hn hd ?_
   rw [if_pos (show isBd 4 = true from rfl)]; exact hp2 r2 (by omega)
theorem rn_plain (hn : 100 ≤ n) (hl : letB x = false) (hd : 0 ≤ deep ∧ deep ≤ 30) (h40 : x ≠ 40) (h91 : x ≠ 91) {k : Nat} (hk : kdF x = ((k + 1 : Nat) : Int)) (hk2 : 2 ≤ k) (hkb : isBd ((k + 1 : Nat) : Int) = false) {sh p0 : List UInt8} {ps : List (List UInt8)} (hsh : shps[k]? = some sh) (hsp : shTab.lookup sh = some (p0 :: ps)) (hps : ps.length ≤ 8)
   {p : List UInt8 → Option (T × List UInt8)} (hs : (x :: s).length ≤ B)
   (hp : ∀ r : List UInt8, r.length ≤ B → RD B (p r) (FF n 50 [sr r, sr e, nt (deep + 1)] [])) :
   RD B ((cutP p0 (x :: s)).bind fun r => rdP p ((k + 1 : Nat) : Int) ps r []) (FF (n + 1) 50 [sr (x :: s), sr e, nt deep] []) := by
 rw [rn_start hn hl hd h40 h91 hk hk2 hsh hsp]
 cases hc : cutP p0 (x :: s) with
 | none =>
  obtain ⟨n, rfl⟩ := pos_succ (show 0 < n by omega)
  exact RD.fail (by simp only [Option.getD_none, Option.isSome_none]; exact ln_false (i := 1))
 | some r =>
  simp only [Option.getD_some, Option.isSome_some, Option.bind_some]
  have := cutP_len hc
  exact plain_loop (ps := p0 :: ps) p (by omega) h40 hkb (by simp; omega) (by omega) hp ps.length n 1 r [] (by omega) (by simp; omega) (by simp) (by omega)
theorem rn_letter (hn : 100 ≤ n) (he : e.length ≤ 70) (hl : letB x = true) (hd : deep ≤ 30) (hs : (x :: s).length ≤ B) : RD B ((fnd e x).map fun k => (.mk 1 k [], s)) (FF (n + 1) 50 [sr (x :: s), sr e.reverse, nt deep] []) := by
 rw [E_impl_readNamed, by_toList]
 simp only [show ((x :: s) == (bytesOf []).toList) = false from (by rw [by_toList]; rfl), cond_false, decide_eq_false (show ¬ (30 : Int) < deep by omega), z_hd, show decide (0 ≤ 0) = true from rfl, Bool.and_self, cond_true]
 rw [by_hd, f_isLetter (by omega), hl]
 simp only [evt]
 rw [f_LastIndexByte e x (by omega) (by omega), by_size, List.length_reverse]
 simp only [evt]
 cases hf : fnd e x with
 | none =>
  simp only [f_variable (n := n) (by omega)]
  simp only [evt]
  rw [in_1, cond_true]
  exact RD.fail (t := .mk 1 (IntKind.i64.wrap (IntKind.i64.wrap (↑e.length - 1) - -1)) []) (r := s) (by rw [tl_1]; rfl)
 | some k =>
  have := fnd_lt _ _ hf
  rw [wrap64 (show -9223372036854775808 ≤ (e.length : Int) - 1 ∧ (e.length : Int) - 1 ≤ 9223372036854775807 by omega)]
  rw [show (e.length : Int) - 1 - ((e.length : Int) - 1 - k) = k by omega, wrap64 (show -9223372036854775808 ≤ (k : Int) ∧ (k : Int) ≤ 9223372036854775807 by omega)]
  simp only [f_variable (n := n) (by omega)]
  simp only [evt]
  rw [in_1, cond_true, tl_1, decide_eq_true (show (0 : Int) ≤ (e.length : Int) - 1 - k by omega)]
  exact RD.ok rfl (by simp only [List.length_cons] at hs; omega)
theorem rn_num (hn : 100 ≤ n) (hd : deep ≤ 30) (hB : B ≤ 1073741824) (hs : (42 :: s).length ≤ B) : RD B (numI s) (FF (n + 1) 50 [sr (42 :: s), sr e, nt deep] []) := by
 rw [E_impl_readNamed, by_toList]
 simp only [show (((42 : UInt8) :: s) == (bytesOf []).toList) = false from (by rw [by_toList]; rfl), cond_false, decide_eq_false (show ¬ (30 : Int) < deep by omega), z_hd, show decide (0 ≤ 0) = true from rfl, Bool.and_self, cond_true]
 rw [by_hd, f_isLetter (by omega), show letB 42 = false from rfl]
 simp only [evt]
 rw [f_kindAt (by omega), show kdF 42 = 2 from rfl]
 simp only [evt]
 have e1 : decide ((2 : Int) < 0) = false := rfl
 have e2 : decide ((2 : Int) = 1) = false := rfl
 rw [e1, cond_false, e2, cond_false, in_1, cond_true, tl_1]
 simp only [List.length_cons] at hs
 obtain ⟨n, rfl⟩ := pos_succ (show 0 < n by omega)
 rw [f_readNumber (by omega)]
 simp only [evt]
 rw [f_sort (by omega)]
 simp only [evt]
 have := rnR_len s
 unfold numI
 by_cases h0 : 0 ≤ rnN s
 ·rw [decide_eq_true h0, cond_true, f_Itoa h0 (rnN_le s)]
  simp only [evt]
  rw [f_TrimPrefix _ _ (by omega)]
  simp only [evt, by_toList]
  by_cases h : rnR s = (cutP (Lib.itoa (rnN s)) s).getD s
  ·rw [if_pos ⟨h0, h⟩]
   refine RD.ok ?_ (by omega)
   rw [show (rnR s == (cutP (Lib.itoa (rnN s)) s).getD s) = true from by rw [beq_iff_eq]; exact h]; rfl
  ·rw [if_neg (fun hh => h hh.2)]
   refine RD.fail (t := .mk 2 (rnN s) []) (r := rnR s) ?_
   rw [show (rnR s == (cutP (Lib.itoa (rnN s)) s).getD s) = false from by rw [Bool.eq_false_iff, ne_eq, beq_iff_eq]; exact h]; rfl
 ·rw [decide_eq_false h0, cond_false, if_neg (fun h => h0 h.1)]
  exact RD.fail (t := .mk 2 (rnN s) []) (r := rnR s) rfl
theorem rn_other (hn : 100 ≤ n) (hd : deep ≤ 30) (hl : letB x = false) (hk : kdF x = -1 ∨ kdF x = 1) : RD B none (FF (n + 1) 50 [sr (x :: s), sr e, nt deep] []) := by
 rw [E_impl_readNamed, by_toList]
 simp only [show ((x :: s) == (bytesOf []).toList) = false from (by rw [by_toList]; rfl), cond_false, decide_eq_false (show ¬ (30 : Int) < deep by omega), z_hd, show decide (0 ≤ 0) = true from rfl, Bool.and_self, cond_true]
 rw [by_hd, f_isLetter (by omega), hl]
 simp only [evt]
 rw [f_kindAt (by omega)]
 simp only [evt]
 rcases hk with h | h
 ·rw [h, show decide ((-1 : Int) < 0) = true from rfl, cond_true]; exact RD.fail (t := .mk 0 0 []) (r := []) rfl
 ·rw [h, show decide ((1 : Int) < 0) = false from rfl, cond_false, show decide ((1 : Int) = 1) = true from rfl, cond_true]; exact RD.fail (t := .mk 0 0 []) (r := []) rfl
theorem rn_nil (hn : 1 ≤ n) : RD B none (FF n 50 [sr [], sr e, nt deep] []) := by
 obtain ⟨n, rfl⟩ := pos_succ (show 0 < n by omega)
 rw [E_impl_readNamed, by_toList, show (([] : List UInt8) == []) = true from rfl, cond_true]
 exact RD.fail (t := .mk 0 0 []) (r := []) rfl
theorem rn_deep (hn : 1 ≤ n) : RD B none (FF n 50 [sr s, sr e, nt 31] []) := by
 obtain ⟨n, rfl⟩ := pos_succ (show 0 < n by omega)
 rw [E_impl_readNamed, show decide ((30 : Int) < 31) = true from rfl, cond_true, Bool.cond_self]
 exact RD.fail (t := .mk 0 0 []) (r := []) rfl
theorem cut_self (x : UInt8) (s : List UInt8) : cutP [x] (x :: s) = some s := by rw [cut_one]; simp [eat]
theorem rdP_one {p : List UInt8 → Option (T × List UInt8)} {s : List UInt8} : rdP p k [[]] s [] = (p s).map fun x => (.mk k 0 [x.1], x.2) := by
 rw [rdP]
 cases p s with
 | none => rfl
 | some x => simp [cut_nil, rdP]
theorem rd_round {p p2 : List UInt8 → Option (T × List UInt8)} {s : List UInt8} :
   ((p s).bind fun a => (cutP [rkC a.2] a.2).bind fun r => ((if isBd (rkK a.2) = true then p2 else p) r).bind fun b => (cutP [41] b.2).bind fun r2 => if isBd (rkK a.2) = true then some (T.mk (rkK a.2) 0 [a.1, b.1], r2) else none) =
   (p s).bind fun a => (match a.2 with
      | y :: r => if y = 62 then (p2 r).bind fun b => (eat 41 b.2).map fun r => (T.mk 3 0 [a.1, b.1], r)
       else if y = 42 then (p2 r).bind fun b => (eat 41 b.2).map fun r => (T.mk 13 0 [a.1, b.1], r) else none
      | [] => none) := by
 refine congrArg _ (funext fun a => ?_)
 obtain ⟨t, r⟩ := a
 cases r with
 | nil => rfl
 | cons y r =>
  simp only [cut_one, rkK, rkC]
  by_cases h1 : y = 62
  ·subst h1; simp [eat, isBd, Option.map_eq_bind, Function.comp_def]
  ·by_cases h2 : y = 42
   ·subst h2; simp [eat, isBd, Option.map_eq_bind, Function.comp_def]
   ·by_cases h3 : y = 32
    ·subst h3
     simp only [eat, isBd, if_true, Option.bind_some]
     cases (p r) with
     | none => simp
     | some b => cases (eat 41 b.2) <;> simp
    ·simp [h1, h2, h3, eat]
theorem rd_app {p p2 : List UInt8 → Option (T × List UInt8)} {s : List UInt8} :
   ((p s).bind fun a => (cutP [rkC a.2] a.2).bind fun r => ((if isBd (rkK a.2) = true then p2 else p) r).bind fun b => (cutP [41] b.2).bind fun r2 => if isBd (rkK a.2) = false then some (T.mk (rkK a.2) 0 [a.1, b.1], r2) else none) =
   (p s).bind fun a => (eat 32 a.2).bind fun r => (p r).bind fun b => (eat 41 b.2).map fun r => (T.mk 5 0 [a.1, b.1], r) := by
 refine congrArg _ (funext fun a => ?_)
 obtain ⟨t, r⟩ := a
 cases r with
 | nil => rfl
 | cons y r =>
  simp only [cut_one, rkK, rkC]
  by_cases h3 : y = 32
  ·subst h3; simp [eat, isBd, Option.map_eq_bind, Function.comp_def]
  ·by_cases h2 : y = 42
   ·subst h2
    simp only [eat, isBd, if_true, Option.bind_some]
    cases (p2 r) with
    | none => simp
    | some b => cases (eat 41 b.2) <;> simp
   ·by_cases h1 : y = 62
    ·subst h1
     simp only [eat, isBd, if_true, Option.bind_some]
     cases (p2 r) with
     | none => simp
     | some b => cases (eat 41 b.2) <;> simp
    ·simp [h1, h2, h3, eat]
theorem rd_square {p p2 : List UInt8 → Option (T × List UInt8)} {s : List UInt8} :
   ((p s).bind fun a => (cutP [93] a.2).bind fun r => (p2 r).bind fun b => (cutP [] b.2).bind fun r2 => if isBd 4 = binds then some (T.mk 4 0 [a.1, b.1], r2) else none) =
   if binds = true then (p s).bind fun a => (eat 93 a.2).bind fun r => (p2 r).map fun b => (T.mk 4 0 [a.1, b.1], b.2) else none := by
 simp only [cut_one, cut_nil, Option.bind_some, show isBd 4 = true from rfl]
 cases binds with
 | true => simp [Option.map_eq_bind, Function.comp_def]
 | false =>
  simp only [Bool.true_eq_false, Bool.false_eq_true, if_false]
  cases p s with
  | none => rfl
  | some a =>
   simp only [Option.bind_some]
   cases eat 93 a.2 with
   | none => rfl
   | some r =>
    simp only [Option.bind_some]
    cases p2 r <;> rfl
end
theorem bnd_len {s r : List UInt8} {y : UInt8} (h : bnd s = some (y, r)) : r.length + 2 = s.length := by
 unfold bnd at h
 split at h
 ·split at h
  ·cases h; simp
  ·cases h
 ·cases h
theorem f_readNamed {B : Nat} (hB : B ≤ 1073741824) : ∀ (d : Nat), d ≤ 30 → ∀ {n : Nat} (e s : List UInt8), 200 + 10 * d ≤ n → e.length + d ≤ 60 → s.length ≤ B → RD B (rdI d e s) (FF n 50 [sr s, sr e.reverse, nt (31 - (d : Int))] []) := by
 intro d
 induction d with
 | zero => intro _ n e s hn _ _; exact rn_deep (by omega)
 | succ d ih =>
  intro hd n e s hn he hs
  cases s with
  | nil => exact rn_nil (by omega)
  | cons c s =>
   obtain ⟨n, rfl⟩ := pos_succ (show 0 < n by omega)
   have hdp : (31 : Int) - ((d + 1 : Nat) : Int) = 30 - d := by omega
   rw [hdp, rdI]
   have ih1 : ∀ r : List UInt8, r.length ≤ B → RD B (rdI d e r) (FF n 50 [sr r, sr e.reverse, nt (30 - (d : Int) + 1)] []) := fun r hr => by
    rw [show (30 : Int) - d + 1 = 31 - d by omega]; exact ih (by omega) e r (by omega) (by omega) hr
   have ih2 : ∀ (y : UInt8) (r : List UInt8), r.length ≤ B → RD B (rdI d (y :: e) r) (FF n 50 [sr r, sr (e.reverse ++ [y]), nt (30 - (d : Int) + 1)] []) := fun y r hr => by
    rw [show (30 : Int) - d + 1 = 31 - d by omega, show e.reverse ++ [y] = (y :: e).reverse by simp]; exact ih (by omega) (y :: e) r (by omega) (by simp; omega) hr
   have hrs : s.length ≤ B := by simp only [List.length_cons] at hs; omega
   by_cases h0 : letB c = true
   ·rw [if_pos h0]; exact rn_letter (by omega) (by omega) h0 (by omega) hs
   have h0' : letB c = false := by simpa using h0
   rw [if_neg h0]
   by_cases h1 : c = 42
   ·rw [if_pos h1]; subst h1; exact rn_num (by omega) (by omega) hB hs
   rw [if_neg h1]
   by_cases h2 : c = 78
   ·rw [if_pos h2]; subst h2
    have := rn_plain (n := n) (s := s) (by omega) h0' (deep := 30 - d) (by omega) (by decide) (by decide) (k := 5) rfl (by decide) rfl rfl (p0 := [78]) (ps := []) rfl (by decide) hs ih1
    rw [cut_self] at this; exact this
   rw [if_neg h2]
   by_cases h3 : c = 48
   ·rw [if_pos h3]; subst h3
    have := rn_plain (n := n) (s := s) (by omega) h0' (deep := 30 - d) (by omega) (by decide) (by decide) (k := 6) rfl (by decide) rfl rfl (p0 := [48]) (ps := []) rfl (by decide) hs ih1
    rw [cut_self] at this; exact this
   rw [if_neg h3]
   by_cases h4 : c = 43
   ·rw [if_pos h4]; subst h4
    have := rn_plain (n := n) (s := s) (by omega) h0' (deep := 30 - d) (by omega) (by decide) (by decide) (k := 7) rfl (by decide) rfl rfl (p0 := [43]) (ps := [[]]) rfl (by decide) hs ih1
    rw [cut_self, Option.bind_some, rdP_one] at this; exact this
   rw [if_neg h4]
   by_cases h5 : c = 33
   ·rw [if_pos h5]; subst h5
    have := rn_plain (n := n) (s := s) (by omega) h0' (deep := 30 - d) (by omega) (by decide) (by decide) (k := 10) rfl (by decide) rfl rfl (p0 := [33]) (ps := [[]]) rfl (by decide) hs ih1
    rw [cut_self, Option.bind_some, rdP_one] at this; exact this
   rw [if_neg h5]
   by_cases h6 : c = 94
   ·rw [if_pos h6]; subst h6
    have := rn_plain (n := n) (s := s) (by omega) h0' (deep := 30 - d) (by omega) (by decide) (by decide) (k := 14) rfl (by decide) rfl rfl (p0 := [94]) (ps := [[]]) rfl (by decide) hs ih1
    rw [cut_self, Option.bind_some, rdP_one] at this; exact this
   rw [if_neg h6]
   by_cases h7 : c = 95
   ·rw [if_pos h7]; subst h7
    have := rn_plain (n := n) (s := s) (by omega) h0' (deep := 30 - d) (by omega) (by decide) (by decide) (k := 15) rfl (by decide) rfl rfl (p0 := [95]) (ps := [[]]) rfl (by decide) hs ih1
    rw [cut_self, Option.bind_some, rdP_one] at this; exact this
   rw [if_neg h7]
   by_cases h8 : c = 40
   ·rw [if_pos h8]; subst h8
    rw [rn_start40 (by omega) (by omega) (by simp; omega)]
    cases hb : bnd s with
    | none =>
     have := rn_round (m := n) (s := s) (binds := false) (z1 := 0) (z2 := 0) (z3 := []) (ins := e.reverse) (by omega) (deep := 30 - d) (by omega) (by omega) hrs ih1 ih1
     rw [rd_app] at this; exact this
    | some x =>
     obtain ⟨y, s2⟩ := x
     have := bnd_len hb
     have := rn_round (m := n) (s := s) (binds := true) (z1 := 0) (z2 := 0) (z3 := []) (rest := s2) (by omega) (deep := 30 - d) (by omega) (by omega) (by omega) ih1 (ih2 y)
     rw [rd_round] at this; exact this
   rw [if_neg h8]
   by_cases h9 : c = 91
   ·rw [if_pos h9]; subst h9
    rw [rn_start91 (by omega) (by omega) (by simp; omega)]
    cases hb : bnd s with
    | none =>
     have := rn_square (m := n) (s := s) (binds := false) (z1 := 0) (z2 := 0) (z3 := []) (ins := e.reverse) (by omega) (deep := 30 - d) (by omega) (by omega) hrs ih1 ih1
     rw [rd_square] at this; exact this
    | some x =>
     obtain ⟨y, s2⟩ := x
     have := bnd_len hb
     have := rn_square (m := n) (s := s) (binds := true) (z1 := 0) (z2 := 0) (z3 := []) (rest := s2) (by omega) (deep := 30 - d) (by omega) (by omega) (by omega) ih1 (ih2 y)
     rw [rd_square, if_pos rfl] at this; exact this
   rw [if_neg h9]
   by_cases h10 : c = 60
   ·rw [if_pos h10]; subst h10
    have := rn_plain (n := n) (s := s) (by omega) h0' (deep := 30 - d) (by omega) (by decide) (by decide) (k := 8) rfl (by decide) rfl rfl (p0 := [60]) (ps := prt 62 4) rfl (by decide) hs ih1
    rw [cut_self, Option.bind_some, rdP_S] at this; simpa using this
   rw [if_neg h10]
   by_cases h11 : c = 123
   ·rw [if_pos h11]; subst h11
    have := rn_plain (n := n) (s := s) (by omega) h0' (deep := 30 - d) (by omega) (by decide) (by decide) (k := 9) rfl (by decide) rfl rfl (p0 := [123]) (ps := prt 125 3) rfl (by decide) hs ih1
    rw [cut_self, Option.bind_some, rdP_S] at this; simpa using this
   rw [if_neg h11]
   by_cases h12 : c = 124
   ·rw [if_pos h12]; subst h12
    have := rn_plain (n := n) (s := s) (by omega) h0' (deep := 30 - d) (by omega) (by decide) (by decide) (k := 13) rfl (by decide) rfl rfl (p0 := [124]) (ps := prt 124 3) rfl (by decide) hs ih1
    rw [cut_self, Option.bind_some, rdP_S] at this; simpa using this
   rw [if_neg h12]
   by_cases h13 : c = 64
   ·rw [if_pos h13]; subst h13
    have := rn_plain (n := n) (s := s) (by omega) h0' (deep := 30 - d) (by omega) (by decide) (by decide) (k := 11) rfl (by decide) rfl rfl (p0 := [64, 60]) (ps := prt 62 3) rfl (by decide) hs ih1
    have hc : cutP [64, 60] (64 :: s) = eat 60 s := by
     cases s with
     | nil => rfl
     | cons y s =>
      unfold cutP eat
      by_cases h : y = 60
      ·subst h; simp
      ·have h2 : ¬ 60 = y := fun e => h e.symm
       simp [h, h2]
    rw [hc] at this
    simpa [rdP_S] using this
   rw [if_neg h13]
   exact rn_other (by omega) (by omega) h0' (kd_other ⟨h1, h2, h3, h4, h5, h6, h7, h8, h9, h10, h11, h12, h13⟩)
end Go.Proofs.YtnogehmgpfpjmaaDoor
end
section
namespace Go.Proofs.YtnogehmgpfpjmaaDoor
open Go Go.Ab Go.Dk
def RQ (S : List UInt8) (o : Option (T × List UInt8)) (t : T) (k : Int) : Prop :=
 (∃ j, o = some (t, S.drop j) ∧ j ≤ S.length ∧ k = (j : Int)) ∨ (o = none ∧ k = -1) ∨ (o = none ∧ ∃ (j : Nat) (y : UInt8) (r : List UInt8), k = (j : Int) ∧ S.drop j = y :: r ∧ digB y = true)
def RP (S : List UInt8) (o : Option (T × List UInt8)) (res : OR) : Prop := ∃ t k, res = some ([tm t, nt k], []) ∧ RQ S o t k
theorem RP.fail {S : List UInt8} {res : OR} {t : T} (h : res = some ([tm t, nt (-1)], [])) : RP S none res := ⟨t, -1, h, .inr (.inl ⟨rfl, rfl⟩)⟩
theorem RP.ok {S : List UInt8} {res : OR} {t : T} {j : Nat} {r : List UInt8} (h : res = some ([tm t, nt (j : Int)], [])) (hj : j ≤ S.length) (hr : r = S.drop j) : RP S (some (t, r)) res := ⟨t, j, h, .inl ⟨j, by rw [hr], hj, rfl⟩⟩
section
variable {S : List UInt8} {j : Nat} {y : UInt8} {r : List UInt8}
theorem dp_lt (h : S.drop j = y :: r) : j < S.length := by
 have := congrArg List.length h
 simp only [List.length_drop, List.length_cons] at this; omega
theorem dp_at (h : S.drop j = y :: r) : byteAt (bytesOf S) ((j : Int)).toNat = y := by
 rw [Int.toNat_natCast, by_at]
 have : S[j]? = some y := by
  have := congrArg List.head? h
  simpa [List.head?_drop] using this
 rw [this]; rfl
theorem dp_tl (h : S.drop j = y :: r) : S.drop (j + 1) = r := by
 rw [← List.drop_drop, h]; rfl
theorem dp_nil (h : S.drop j = []) : S.length ≤ j := by simpa using h
theorem dp_in (h : S.drop j = y :: r) : (decide (0 ≤ (j : Int)) && decide ((j : Int) < (((bytesOf S).size : Nat) : Int))) = true := by
 have := dp_lt h
 rw [by_size]; simp only [Bool.and_eq_true, decide_eq_true_eq]; omega
end
theorem f_l19Num0 {n : Nat} : FF (n + 1) 98 [sr []] [] = some ([nt 0, bl false], []) := by
 rw [E_spec_l19Num]
 simp only [by_size, List.length_nil]
 rfl
theorem f_l19Num1 {n : Nat} {x : UInt8} (h : digB x = true) : FF (n + 3) 98 [sr [x]] [] = some ([nt ((x.toNat : Int) - 48), bl true], []) := by
 have hx := h
 simp only [digB, Bool.and_eq_true, decide_eq_true_eq] at hx
 have e1 : L_spec_l19Num_0 (n + 2) (n + 2) (bytesOf [x]) false 0 0 = some ([nt ((x.toNat : Int) - 48), bl true], []) := by
  rw [L_spec_l19Num_0_eq]
  simp only [by_size, List.length_cons, List.length_nil]
  rw [show decide ((0 : Int) < ((0 + 1 : Nat) : Int)) = true from rfl, cond_true, by_hd, show decide ((0 : Int) ≤ 0) = true from rfl, Bool.and_self, cond_true, decide_eq_false (show ¬ (x.toNat : Int) < 48 by omega), cond_false, cond_true, decide_eq_false (show ¬ (57 : Int) < x.toNat by omega), cond_false, cond_true]
  rw [L_spec_l19Num_0_eq]
  simp only [by_size, List.length_cons, List.length_nil]
  rw [show decide (IntKind.i64.wrap ((0 : Int) + 1) < ((0 + 1 : Nat) : Int)) = false from rfl, cond_false, cond_false]
  rw [wrap_u8 (by omega), show IntKind.i64.wrap ((0 : Int) * 10) = 0 from rfl, wrap64 (show -9223372036854775808 ≤ (x.toNat : Int) - 48 ∧ (x.toNat : Int) - 48 ≤ 9223372036854775807 by omega), Int.zero_add, wrap64 (show -9223372036854775808 ≤ (x.toNat : Int) - 48 ∧ (x.toNat : Int) - 48 ≤ 9223372036854775807 by omega)]
 rw [E_spec_l19Num]
 simp only [by_size, List.length_cons, List.length_nil]
 rw [show decide ((0 : Int) < ((0 + 1 : Nat) : Int)) = true from rfl, cond_true, by_hd, show decide (0 ≤ 0) = true from rfl, Bool.and_self, cond_true, decide_eq_false (show ¬ (x.toNat : Int) = 45 by omega), cond_false, show decide (((0 + 1 : Nat) : Int) = 0) = false from rfl, cond_false, show decide ((17 : Int) < ((0 + 1 : Nat) : Int)) = false from rfl, cond_false, cond_true]
 rw [show decide ((1 : Int) < ((0 + 1 : Nat) : Int)) = false from rfl, cond_false, cond_false, Bool.cond_self]
 exact e1
theorem f_l1Number {n : Nat} {S : List UInt8} {at_ : Nat} (hn : 10 ≤ n) (hS : S.length ≤ 1099511627776) (ha : at_ ≤ S.length) :
   FF n 83 [sr S, nt at_, nt 1] [] = match S.drop at_ with
    | [] => some ([nt 0, nt (-1)], [])
    | y :: r => if digB y = true then some ([nt ((y.toNat : Int) - 48), nt ((at_ + 1 : Nat) : Int)], []) else some ([nt 0, nt (-1)], []) := by
 obtain ⟨n, rfl⟩ : ∃ k, n = k + 4 := ⟨n - 4, by omega⟩
 rw [E_spec_l1Number, L_spec_l1Number_0_eq]
 have hw : IntKind.i64.wrap ((at_ : Int) + 1) = (at_ : Int) + 1 := wrap64 (by omega)
 rw [hw]
 have he : (bytesOf S).extract ((at_ : Int)).toNat ((at_ : Int)).toNat = bytesOf [] := by rw [by_ext, Int.toNat_natCast]; simp [List.drop_take]
 have hin : Go.Ab.inB at_ at_ (bytesOf S).size = true := by rw [by_size]; simp only [inB, Bool.and_eq_true, decide_eq_true_eq]; omega
 have fin : (bif Go.Ab.inB at_ at_ (bytesOf S).size then
    (FF (n + 3) 98 [.one (.str ((bytesOf S).extract ((at_ : Int)).toNat ((at_ : Int)).toNat))] []).bind fun x0 =>
     rInt .i64 x0.1 fun x1 x2 => rBool x2 fun x3 x4 => nilV x4 (nilO x0.2 (cond (!x3) (some ([.one (.int .i64 0), .one (.int .i64 (-1))], [])) (some ([.one (.int .i64 x1), .one (.int .i64 (at_ : Int))], []))))
    else none) = some ([nt 0, nt (-1)], []) := by
  rw [hin, cond_true, he, f_l19Num0]
  simp only [evt]
 cases hd : S.drop at_ with
 | nil =>
  have := dp_nil hd
  rw [decide_eq_false (show ¬ (at_ : Int) < (((bytesOf S).size : Nat) : Int) by rw [by_size]; omega), cond_false]
  exact fin
 | cons y r =>
  have := dp_lt hd
  rw [decide_eq_true (show (at_ : Int) < (((bytesOf S).size : Nat) : Int) by rw [by_size]; omega), cond_true, decide_eq_true (show (at_ : Int) < (at_ : Int) + 1 by omega), cond_true, decide_eq_true (show (0 : Int) ≤ (at_ : Int) by omega), Bool.and_self, cond_true, dp_at hd]
  by_cases h1 : (48 : Int) ≤ y.toNat
  ·rw [decide_eq_true h1, cond_true, cond_true]
   by_cases h2 : (y.toNat : Int) ≤ 57
   ·have hy : digB y = true := by simp only [digB, Bool.and_eq_true, decide_eq_true_eq]; omega
    rw [decide_eq_true h2, cond_true]
    simp only [if_pos hy]
    rw [L_spec_l1Number_0_eq, hw]
    have hin2 : Go.Ab.inB at_ ((at_ : Int) + 1) (bytesOf S).size = true := by rw [by_size]; simp only [inB, Bool.and_eq_true, decide_eq_true_eq]; omega
    have he2 : (bytesOf S).extract ((at_ : Int)).toNat ((at_ : Int) + 1).toNat = bytesOf [y] := by
     rw [by_ext, Int.toNat_natCast, show ((at_ : Int) + 1).toNat = at_ + 1 by omega, List.drop_take, hd]
     simp
    have fin2 : (bif Go.Ab.inB at_ ((at_ : Int) + 1) (bytesOf S).size then
       (FF (n + 3) 98 [.one (.str ((bytesOf S).extract ((at_ : Int)).toNat ((at_ : Int) + 1).toNat))] []).bind fun x0 =>
        rInt .i64 x0.1 fun x1 x2 => rBool x2 fun x3 x4 => nilV x4 (nilO x0.2 (cond (!x3) (some ([.one (.int .i64 0), .one (.int .i64 (-1))], [])) (some ([.one (.int .i64 x1), .one (.int .i64 ((at_ : Int) + 1))], []))))
       else none) = some ([nt ((y.toNat : Int) - 48), nt ((at_ + 1 : Nat) : Int)], []) := by
     rw [hin2, cond_true, he2, f_l19Num1 hy]
     simp only [evt]
     rfl
    by_cases h3 : (at_ : Int) + 1 < (((bytesOf S).size : Nat) : Int)
    ·rw [decide_eq_true h3, cond_true, decide_eq_false (show ¬ (at_ : Int) + 1 < (at_ : Int) + 1 by omega), cond_false]; exact fin2
    ·rw [decide_eq_false h3, cond_false]; exact fin2
   ·have hy : digB y = false := by simp only [digB, Bool.and_eq_false_iff, decide_eq_false_iff_not]; omega
    rw [decide_eq_false h2, cond_false]
    simp only [hy, Bool.false_eq_true, if_false]; exact fin
  ·have hy : digB y = false := by simp only [digB, Bool.and_eq_false_iff, decide_eq_false_iff_not]; omega
   rw [decide_eq_false h1, cond_false]
   simp only [hy, Bool.false_eq_true, if_false]; exact fin
theorem f_l6Find {n : Nat} (e : List UInt8) (c : UInt8) (he : e.length ≤ 1000) (hn : e.length + 3 ≤ n) : FF n 32 [sr e.reverse, .one (.int .u8 (c.toNat : Int))] [] = some ([nt (match fnd e c with | some k => (k : Int) | none => -1)], []) := by
 obtain ⟨n, rfl⟩ := pos_succ (show 0 < n by omega)
 have hs : (bytesOf e.reverse).size = e.length := by rw [by_size, List.length_reverse]
 rw [E_spec_l6Find, wrap64 (by omega), find_loop _ c (by omega) n (bytesOf e.reverse).size n (by omega) (Nat.le_refl _)]
 show some ([nt (findB (bytesOf e.reverse) c)], []) = _
 rw [findB_fnd]
 all_goals (cases fnd e c <;> rfl)
theorem f_l6Letter {n : Nat} (hn : 1 ≤ n) (c : UInt8) : FF n 31 [.one (.int .u8 (c.toNat : Int))] [] = some ([bl (letB c)], []) := by
 obtain ⟨n, rfl⟩ := pos_succ (show 0 < n by omega)
 rw [E_spec_l6Letter, ← letB_eq]
 unfold letterB
 by_cases h : (97 : Int) ≤ c.toNat <;> simp only [h, decide_true, decide_false, cond_true, cond_false, Bool.true_and, Bool.false_and]
theorem f_l6Colon {n : Nat} {S : List UInt8} {at_ : Nat} (hn : 10 ≤ n) (hS : S.length ≤ 1099511627776) (ha : at_ ≤ S.length) : FF n 87 [sr S, nt at_] [] = some ([bl (bnd (S.drop at_)).isSome], []) := by
 obtain ⟨n, rfl⟩ := pos_succ (show 0 < n by omega)
 have hw : IntKind.i64.wrap ((at_ : Int) + 1) = (at_ : Int) + 1 := wrap64 (by omega)
 rw [E_spec_l6Colon, hw]
 cases hd : S.drop at_ with
 | nil =>
  have := dp_nil hd
  rw [decide_eq_false (show ¬ (at_ : Int) + 1 < (((bytesOf S).size : Nat) : Int) by rw [by_size]; omega), cond_false]; rfl
 | cons y r =>
  have := dp_lt hd
  cases r with
  | nil =>
   have := dp_nil (dp_tl hd)
   rw [decide_eq_false (show ¬ (at_ : Int) + 1 < (((bytesOf S).size : Nat) : Int) by rw [by_size]; omega), cond_false]; rfl
  | cons z r =>
   have h2 := dp_tl hd
   have := dp_lt h2
   have hi := dp_in h2
   have hb := dp_at h2
   rw [show ((at_ + 1 : Nat) : Int) = (at_ : Int) + 1 by omega] at hi hb
   rw [decide_eq_true (show (at_ : Int) + 1 < (((bytesOf S).size : Nat) : Int) by rw [by_size]; omega), cond_true, dp_in hd, cond_true, dp_at hd, f_l6Letter (by omega)]
   simp only [evt]
   rw [decide_eq_true (show 0 ≤ (at_ : Int) + 1 by omega), hb, cond_true, bnd_cons]
   cases letB y with
   | false => rw [cond_false, if_neg (fun h => by cases h.1)]; rfl
   | true =>
    rw [cond_true]
    by_cases hz : z = 58
    ·subst hz; rw [if_pos ⟨rfl, rfl⟩]; rfl
    ·rw [if_neg (fun h => hz h.2), decide_eq_false (show ¬ (z.toNat : Int) = 58 from fun e => hz (byte_eq.1 (show (z.toNat : Int) = ((58 : UInt8).toNat : Int) from e)))]; rfl
theorem f_l1ParseL {n : Nat} {S r : List UInt8} {at_ : Nat} {y : UInt8} {d : Nat} (hn : 20 ≤ n) (hS : S.length ≤ 1099511627776) (hd : S.drop at_ = y :: r) (hd1 : 1 ≤ d) :
   (y = 42 → RP S (rdNum r) (FF n 65 [sr S, nt at_, nt d] [])) ∧ (y = 78 → RP S (some (.mk 6 0 [], r)) (FF n 65 [sr S, nt at_, nt d] [])) ∧ (y = 48 → RP S (some (.mk 7 0 [], r)) (FF n 65 [sr S, nt at_, nt d] [])) := by
 obtain ⟨n, rfl⟩ := pos_succ (show 0 < n by omega)
 have hlt := dp_lt hd
 have hw : IntKind.i64.wrap ((at_ : Int) + 1) = ((at_ + 1 : Nat) : Int) := by rw [wrap64 (by omega)]; omega
 have start : decide ((d : Int) < 1) = false ∧ decide ((at_ : Int) < 0) = false ∧ decide ((((bytesOf S).size : Nat) : Int) ≤ (at_ : Int)) = false := by
  rw [by_size]; simp only [decide_eq_false_iff_not]; omega
 refine ⟨fun h => ?_, fun h => ?_, fun h => ?_⟩ <;> subst h
 ·rw [E_spec_l1Parse, start.1, start.2.1, start.2.2, cond_false, cond_false, cond_false, dp_in hd, cond_true, dp_at hd, show decide ((((42 : UInt8).toNat : Nat) : Int) = 35) = false from rfl, cond_false, show decide ((((42 : UInt8).toNat : Nat) : Int) = 42) = true from rfl, cond_true, hw, f_l1Number (by omega) hS (by omega), dp_tl hd]
  cases r with
  | nil =>
   simp only [evt]
   rw [f_l1Leaf (by omega)]
   simp only [evt]
   exact RP.fail (t := .mk 2 0 []) rfl
  | cons x r =>
   have hd2 := dp_tl hd
   cases hx : digB x with
   | false =>
    simp only [hx, Bool.false_eq_true, if_false]
    simp only [evt]
    rw [f_l1Leaf (by omega)]
    simp only [evt]
    simp only [rdNum, hx, Bool.false_eq_true, false_and, if_false]
    exact RP.fail (t := .mk 2 0 []) rfl
   | true =>
    simp only [hx, if_true]
    simp only [evt]
    rw [f_l1Leaf (by omega)]
    simp only [evt]
    simp only [rdNum, hx, true_and]
    have := dp_lt hd2
    have h3 := dp_tl hd2
    by_cases hr : dhead r = false
    ·rw [if_pos hr]
     exact RP.ok (j := at_ + 1 + 1) rfl (by omega) h3.symm
    ·rw [if_neg hr]
     cases r with
     | nil => exact absurd rfl hr
     | cons z r => exact ⟨.mk 2 ((x.toNat : Int) - 48) [], _, rfl, .inr (.inr ⟨rfl, at_ + 1 + 1, z, r, rfl, h3, by simpa [dhead] using hr⟩)⟩
 ·rw [E_spec_l1Parse, start.1, start.2.1, start.2.2, cond_false, cond_false, cond_false, dp_in hd, cond_true, dp_at hd, show decide ((((78 : UInt8).toNat : Nat) : Int) = 35) = false from rfl, cond_false, show decide ((((78 : UInt8).toNat : Nat) : Int) = 42) = false from rfl, cond_false, show decide ((((78 : UInt8).toNat : Nat) : Int) = 78) = true from rfl, cond_true, hw, f_l1Leaf (by omega)]
  simp only [evt]
  exact RP.ok (j := at_ + 1) rfl (by omega) (dp_tl hd).symm
 ·rw [E_spec_l1Parse, start.1, start.2.1, start.2.2, cond_false, cond_false, cond_false, dp_in hd, cond_true, dp_at hd, show decide ((((48 : UInt8).toNat : Nat) : Int) = 35) = false from rfl, cond_false, show decide ((((48 : UInt8).toNat : Nat) : Int) = 42) = false from rfl, cond_false, show decide ((((48 : UInt8).toNat : Nat) : Int) = 78) = false from rfl, cond_false, show decide ((((48 : UInt8).toNat : Nat) : Int) = 48) = true from rfl, cond_true, hw, f_l1Leaf (by omega)]
  simp only [evt]
  exact RP.ok (j := at_ + 1) rfl (by omega) (dp_tl hd).symm
end Go.Proofs.YtnogehmgpfpjmaaDoor
end
section
namespace Go.Proofs.YtnogehmgpfpjmaaDoor
open Go Go.Ab Go.Dk
section
variable {S : List UInt8} {o : Option (T × List UInt8)} {t : T} {k : Int}
theorem RQ.cases (h : RQ S o t k) : (k = -1 ∧ o = none) ∨ (∃ j : Nat, k = j ∧ S.length ≤ j ∧ o = some (t, [])) ∨ (∃ (j : Nat) (z : UInt8) (r : List UInt8), k = j ∧ S.drop j = z :: r ∧ (o = some (t, z :: r) ∨ (o = none ∧ digB z = true))) := by
 rcases h with ⟨j, h1, h2, h3⟩ | ⟨h1, h2⟩ | ⟨h1, j, y, r, h2, h3, h4⟩
 ·cases hd : S.drop j with
  | nil => rw [hd] at h1; exact .inr (.inl ⟨j, h3, dp_nil hd, h1⟩)
  | cons z r => rw [hd] at h1; exact .inr (.inr ⟨j, z, r, h3, hd, .inl h1⟩)
 ·exact .inl ⟨h2, h1⟩
 ·exact .inr (.inr ⟨j, y, r, h2, h3, .inr ⟨h1, h4⟩⟩)
theorem RQ.map (h : RQ S o t k) (f : T → T) : RQ S (o.map fun b => (f b.1, b.2)) (f t) k := by
 rcases h with ⟨j, h1, h2, h3⟩ | ⟨h1, h2⟩ | ⟨h1, j, y, r, h2, h3, h4⟩
 ·subst h1; exact .inl ⟨j, rfl, h2, h3⟩
 ·subst h1; exact .inr (.inl ⟨rfl, h2⟩)
 ·subst h1; exact .inr (.inr ⟨rfl, j, y, r, h2, h3, h4⟩)
theorem by_int {y : UInt8} {c : UInt8} {v : Int} (hv : (c.toNat : Int) = v) : decide ((y.toNat : Int) = v) = decide (y = c) := by
 subst hv
 by_cases h : y = c
 ·subst h; simp
 ·rw [decide_eq_false h, decide_eq_false (fun e => h (byte_eq.1 e))]
theorem eat_not {z c : UInt8} {r : List UInt8} {α : Type} {f : T → List UInt8 → Option α} (h : o = some (t, z :: r) ∨ (o = none ∧ digB z = true)) (hz : z ≠ c) : (o.bind fun a => (eat c a.2).bind fun r => f a.1 r) = none := by
 rcases h with rfl | ⟨rfl, _⟩
 ·simp [eat, hz]
 ·rfl
theorem eat_yes {z c : UInt8} {r : List UInt8} (h : o = some (t, z :: r) ∨ (o = none ∧ digB z = true)) (hz : z = c) (hc : digB c = false) : o = some (t, c :: r) := by
 rcases h with rfl | ⟨_, h2⟩
 ·rw [hz]
 ·rw [hz, hc] at h2; cases h2
theorem ext_one {j : Nat} {z : UInt8} {r : List UInt8} (h : S.drop j = z :: r) : (bytesOf S).extract ((j : Int)).toNat ((j : Int) + 1).toNat = bytesOf [z] := by
 rw [by_ext, Int.toNat_natCast, show ((j : Int) + 1).toNat = j + 1 by omega, List.drop_take, h]; simp
theorem bnd_some {s s2 : List UInt8} {y : UInt8} (h : bnd s = some (y, s2)) : s = y :: 58 :: s2 := by
 unfold bnd at h
 split at h
 ·split at h
  ·rename_i h1; cases h; rw [h1.2]
  ·cases h
 ·cases h
end
theorem kids_loop {S e : List UInt8} {d : Nat} {last : UInt8} {n many : Nat} (hS : S.length ≤ 1099511627776) (hl : digB last = false) (hm : many ≤ 10)
   (ip : ∀ at_ : Nat, at_ ≤ S.length → RP S (rdN d e (S.drop at_)) (FF n 49 [sr S, nt at_, sr e.reverse, nt d] [])) :
   ∀ g m (i at_ : Nat) (out : List T), g < m → i + g = many → at_ ≤ S.length → out.length ≤ i →
   ∃ ts k, L_spec_l6Kids_0 n m (bytesOf S) at_ (bytesOf e.reverse) d many (last.toNat : Int) i out = some ([tms ts, nt k], []) ∧
    ((∃ ys j, rdS (rdN d e) last g (S.drop at_) = some (ys, S.drop j) ∧ j ≤ S.length ∧ ts = out ++ ys ∧ k = (j : Int)) ∨ (rdS (rdN d e) last g (S.drop at_) = none ∧ k = -1)) := by
 intro g
 induction g with
 | zero =>
  intro m i at_ out hm' hi ha ho
  obtain ⟨m, rfl⟩ := pos_succ (show 0 < m by omega)
  rw [L_spec_l6Kids_0_eq, decide_eq_false (show ¬ (i : Int) < (many : Int) by omega), cond_false]
  exact ⟨out, at_, rfl, .inl ⟨[], at_, rfl, ha, by simp, rfl⟩⟩
 | succ g ih =>
  intro m i at_ out hm' hi ha ho
  obtain ⟨m, rfl⟩ := pos_succ (show 0 < m by omega)
  obtain ⟨t, k, hr, hq⟩ := ip at_ ha
  have hw : IntKind.i64.wrap ((i : Int) + 1) = ((i + 1 : Nat) : Int) := by rw [wrap64 (by omega)]; omega
  rw [L_spec_l6Kids_0_eq, decide_eq_true (show (i : Int) < (many : Int) by omega), cond_true, hw]
  simp only [sr, nt] at hr
  rw [hr]
  simp only [evt]
  have room : roomB (out ++ [t]).length = true := roomB_ok (by simp; omega)
  rw [rdS]
  rcases hq.cases with ⟨rfl, ho'⟩ | ⟨j, rfl, hj, ho'⟩ | ⟨j, z, r, rfl, hd, ho'⟩
  ·rw [ho', show decide ((-1 : Int) < 0) = true from rfl, cond_true]
   exact ⟨[], -1, rfl, .inr ⟨rfl, rfl⟩⟩
  ·rw [ho', decide_eq_false (show ¬ (j : Int) < 0 by omega), cond_false, by_size, decide_eq_true (show ((S.length : Nat) : Int) ≤ (j : Int) by omega), cond_true]
   exact ⟨[], -1, rfl, .inr ⟨by simp [eat], rfl⟩⟩
  ·have hlt := dp_lt hd
   have hwj : IntKind.i64.wrap ((j : Int) + 1) = ((j + 1 : Nat) : Int) := by rw [wrap64 (by omega)]; omega
   rw [decide_eq_false (show ¬ (j : Int) < 0 by omega), cond_false, show decide ((((bytesOf S).size : Nat) : Int) ≤ (j : Int)) = false from by rw [by_size]; exact decide_eq_false (by omega), cond_false]
   rw [dp_in hd, dp_at hd, by_int (c := 44) (v := 44) rfl, by_int (c := last) (v := (last.toNat : Int)) rfl, hwj, room, cond_true]
   simp only [cond_true]
   cases g with
   | zero =>
    rw [decide_eq_false (show ¬ ((i + 1 : Nat) : Int) < (many : Int) by omega), cond_false, decide_eq_true (show ((i + 1 : Nat) : Int) = (many : Int) by omega), cond_true]
    simp only [if_true]
    by_cases hz : z = last
    ·have := eat_yes ho' hz hl
     rw [decide_eq_true hz, Bool.not_true, cond_false, this]
     obtain ⟨ts, k, h1, h2⟩ := ih m (i + 1) (j + 1) (out ++ [t]) (by omega) (by omega) (by omega) (by simp; omega)
     refine ⟨ts, k, h1, ?_⟩
     rw [dp_tl hd] at h2
     simp only [eat, if_true, Option.bind_some]
     rcases h2 with ⟨ys, j2, h2, h3, h4, h5⟩ | ⟨h2, h3⟩
     ·exact .inl ⟨t :: ys, j2, by rw [h2]; rfl, h3, by rw [h4]; simp, h5⟩
     ·exact .inr ⟨by rw [h2]; rfl, h3⟩
    ·rw [decide_eq_false hz, Bool.not_false, cond_true]
     exact ⟨[], -1, rfl, .inr ⟨eat_not (f := fun a r => (rdS (rdN d e) last 0 r).map fun y => (a :: y.1, y.2)) ho' hz, rfl⟩⟩
   | succ g =>
    rw [decide_eq_true (show ((i + 1 : Nat) : Int) < (many : Int) by omega), cond_true, decide_eq_false (show ¬ ((i + 1 : Nat) : Int) = (many : Int) by omega), cond_false]
    simp only [if_neg (show ¬ g + 1 = 0 by omega)]
    by_cases hz : z = 44
    ·have := eat_yes ho' hz rfl
     rw [decide_eq_true hz, Bool.not_true, cond_false, this]
     obtain ⟨ts, k, h1, h2⟩ := ih m (i + 1) (j + 1) (out ++ [t]) (by omega) (by omega) (by omega) (by simp; omega)
     refine ⟨ts, k, h1, ?_⟩
     rw [dp_tl hd] at h2
     simp only [eat, if_true, Option.bind_some]
     rcases h2 with ⟨ys, j2, h2, h3, h4, h5⟩ | ⟨h2, h3⟩
     ·exact .inl ⟨t :: ys, j2, by rw [h2]; rfl, h3, by rw [h4]; simp, h5⟩
     ·exact .inr ⟨by rw [h2]; rfl, h3⟩
    ·rw [decide_eq_false hz, Bool.not_false, cond_true]
     exact ⟨[], -1, rfl, .inr ⟨eat_not (f := fun a r => (rdS (rdN d e) last (g + 1) r).map fun y => (a :: y.1, y.2)) ho' hz, rfl⟩⟩
theorem f_l6Kids {S e : List UInt8} {d : Nat} {last : UInt8} {n many at_ : Nat} (hn : 20 ≤ n) (hS : S.length ≤ 1099511627776) (hl : digB last = false) (hm : many ≤ 10) (ha : at_ ≤ S.length)
   (ip : ∀ at_ : Nat, at_ ≤ S.length → RP S (rdN d e (S.drop at_)) (FF n 49 [sr S, nt at_, sr e.reverse, nt d] [])) :
   ∃ ts k, FF (n + 1) 88 [sr S, nt at_, sr e.reverse, nt d, nt many, .one (.int .u8 (last.toNat : Int))] [] = some ([tms ts, nt k], []) ∧
    ((∃ j, rdS (rdN d e) last many (S.drop at_) = some (ts, S.drop j) ∧ j ≤ S.length ∧ k = (j : Int)) ∨ (rdS (rdN d e) last many (S.drop at_) = none ∧ k = -1)) := by
 obtain ⟨ts, k, h1, h2⟩ := kids_loop hS hl hm ip many n 0 at_ [] (by omega) (by omega) ha (by simp)
 refine ⟨ts, k, ?_, ?_⟩
 ·rw [E_spec_l6Kids]; exact h1
 ·rcases h2 with ⟨ys, j, h2, h3, h4, h5⟩ | h
  ·rw [List.nil_append] at h4; subst h4; exact .inl ⟨j, h2, h3, h5⟩
  ·exact .inr h
section
variable {S e : List UInt8} {d n : Nat} (hn : 20 ≤ n) (hS : S.length ≤ 1099511627776)
include hn hS
theorem closing {o : Option (T × List UInt8)} {res : OR} {kk : Int} {t1 : T} (h : RP S o res) :
   RP S (o.bind fun b => (eat 41 b.2).map fun r => (T.mk kk 0 [t1, b.1], r)) (res.bind fun x8 => rTerm x8.1 fun x9 x10 => rInt .i64 x10 fun x11 x12 => nilV x12 (nilO x8.2
    (cond (decide (x11 < 0)) (some ([.agg [.int .i64 0, .int .i64 0, .fr (.ts [])], .one (.int .i64 (-1))], []))
    (cond (decide ((((bytesOf S).size : Nat) : Int) ≤ x11)) (some ([.agg [.int .i64 0, .int .i64 0, .fr (.ts [])], .one (.int .i64 (-1))], []))
    (cond (decide (0 ≤ x11) && decide (x11 < (((bytesOf S).size : Nat) : Int)))
    (cond (!decide (((byteAt (bytesOf S) x11.toNat).toNat : Int) = 41)) (some ([.agg [.int .i64 0, .int .i64 0, .fr (.ts [])], .one (.int .i64 (-1))], []))
    ((FF n 66 [.one (.int .i64 kk), .one (.fr (.ts [t1, T.mk x9.k x9.n x9.kids]))] []).bind fun x13 => rTerm x13.1 fun x14 x15 => nilV x15 (nilO x13.2
      (some ([.agg [.int .i64 x14.k, .int .i64 x14.n, .fr (.ts x14.kids)], .one (.int .i64 (IntKind.i64.wrap (x11 + 1)))], [])))))
    none))))) := by
 obtain ⟨t, k, hr, hq⟩ := h
 rw [hr]
 simp only [evt]
 rcases hq.cases with ⟨rfl, ho'⟩ | ⟨j, rfl, hj, ho'⟩ | ⟨j, z, r, rfl, hd, ho'⟩
 ·rw [ho', show decide ((-1 : Int) < 0) = true from rfl, cond_true]
  exact RP.fail (t := .mk 0 0 []) rfl
 ·rw [ho', decide_eq_false (show ¬ (j : Int) < 0 by omega), cond_false, by_size, decide_eq_true (show ((S.length : Nat) : Int) ≤ (j : Int) by omega), cond_true]
  exact RP.fail (t := .mk 0 0 []) rfl
 ·have hlt := dp_lt hd
  have hwj : IntKind.i64.wrap ((j : Int) + 1) = ((j + 1 : Nat) : Int) := by rw [wrap64 (by omega)]; omega
  rw [decide_eq_false (show ¬ (j : Int) < 0 by omega), cond_false, show decide ((((bytesOf S).size : Nat) : Int) ≤ (j : Int)) = false from by rw [by_size]; exact decide_eq_false (by omega), cond_false]
  rw [dp_in hd, cond_true, dp_at hd, by_int (c := 41) (v := 41) rfl, hwj, f_l1Node (by omega) _ _ (by simp)]
  simp only [evt]
  by_cases hz : z = 41
  ·have := eat_yes ho' hz rfl
   rw [decide_eq_true hz, Bool.not_true, cond_false, this]
   simp only [eat, if_true, Option.bind_some, Option.map_some]
   exact RP.ok (j := j + 1) rfl (by omega) (dp_tl hd).symm
  ·rw [decide_eq_false hz, Bool.not_false, cond_true]
   have := eat_not (f := fun a r => some (T.mk kk 0 [t1, a], r)) ho' hz
   simp only [Option.map_eq_bind, Function.comp_def]
   rw [this]
   exact RP.fail (t := .mk 0 0 []) rfl
theorem f_l6Square {at_ : Nat} (he : e.length ≤ 1000) (ha : at_ ≤ S.length)
   (ip : ∀ (e2 : List UInt8) (at_ : Nat), e2.length ≤ e.length + 1 → at_ ≤ S.length → RP S (rdN d e2 (S.drop at_)) (FF n 49 [sr S, nt at_, sr e2.reverse, nt d] [])) :
   RP S ((bnd (S.drop at_)).bind fun x => (rdN d e x.2).bind fun a => (eat 93 a.2).bind fun r => (rdN d (x.1 :: e) r).map fun b => (.mk 4 0 [a.1, b.1], b.2)) (FF (n + 1) 68 [sr S, nt at_, sr e.reverse, nt d] []) := by
 rw [E_spec_l6Square, f_l6Colon (by omega) hS ha]
 simp only [evt]
 cases hb : bnd (S.drop at_) with
 | none =>
  rw [show (Option.isSome (none : Option (UInt8 × List UInt8))) = false from rfl, Bool.not_false, cond_true]
  exact RP.fail (t := .mk 0 0 []) rfl
 | some x =>
  obtain ⟨y, s2⟩ := x
  have hs := bnd_some hb
  have h2 := dp_tl (dp_tl hs)
  have hlt := dp_lt hs
  have hlt2 := dp_lt (dp_tl hs)
  have hw2 : IntKind.i64.wrap ((at_ : Int) + 2) = ((at_ + 1 + 1 : Nat) : Int) := by rw [wrap64 (by omega)]; omega
  have hw1 : IntKind.i64.wrap ((at_ : Int) + 1) = (at_ : Int) + 1 := wrap64 (by omega)
  obtain ⟨t, k, hr, hq⟩ := ip e (at_ + 1 + 1) (by omega) (by omega)
  rw [h2] at hq
  simp only [sr, nt] at hr
  rw [show (Option.isSome (some (y, s2) : Option (UInt8 × List UInt8))) = true from rfl, Bool.not_true, cond_false, hw2, hr]
  simp only [evt]
  rcases hq.cases with ⟨rfl, ho'⟩ | ⟨j, rfl, hj, ho'⟩ | ⟨j, z, r, rfl, hd, ho'⟩
  ·rw [ho', show decide ((-1 : Int) < 0) = true from rfl, cond_true]
   exact RP.fail (t := .mk 0 0 []) rfl
  ·rw [ho', decide_eq_false (show ¬ (j : Int) < 0 by omega), cond_false, by_size, decide_eq_true (show ((S.length : Nat) : Int) ≤ (j : Int) by omega), cond_true]
   exact RP.fail (t := .mk 0 0 []) rfl
  ·have hlt := dp_lt hd
   have hwj : IntKind.i64.wrap ((j : Int) + 1) = ((j + 1 : Nat) : Int) := by rw [wrap64 (by omega)]; omega
   rw [decide_eq_false (show ¬ (j : Int) < 0 by omega), cond_false, show decide ((((bytesOf S).size : Nat) : Int) ≤ (j : Int)) = false from by rw [by_size]; exact decide_eq_false (by omega), cond_false]
   rw [dp_in hd, cond_true, dp_at hd, by_int (c := 93) (v := 93) rfl, hwj, hw1, ext_one hs, by_app]
   by_cases hz : z = 93
   ·have := eat_yes ho' hz rfl
    obtain ⟨t2, k2, hr2, hq2⟩ := ip (y :: e) (j + 1) (by simp) (by omega)
    simp only [sr, nt, List.reverse_cons] at hr2
    rw [dp_tl hd] at hq2
    have hin : Go.Ab.inB at_ ((at_ : Int) + 1) (bytesOf S).size = true := by rw [by_size]; simp only [inB, Bool.and_eq_true, decide_eq_true_eq]; omega
    have hsz : decide ((bytesOf e.reverse).size + (bytesOf [y]).size ≤ 9223372036854775807) = true := by rw [by_size, by_size]; simp; omega
    rw [decide_eq_true hz, Bool.not_true, cond_false, this, hin, cond_true, hsz, cond_true, hr2]
    simp only [evt]
    rw [f_l1Node (by omega) _ _ (by simp)]
    simp only [evt]
    simp only [eat, if_true, Option.bind_some]
    exact ⟨_, _, rfl, hq2.map fun b => .mk 4 0 [t, b]⟩
   ·rw [decide_eq_false hz, Bool.not_false, cond_true]
    have := eat_not (f := fun a r => (rdN d (y :: e) r).map fun b => (T.mk 4 0 [a, b.1], b.2)) ho' hz
    show RP S ((rdN d e s2).bind fun a => (eat 93 a.2).bind fun r => (rdN d (y :: e) r).map fun b => (T.mk 4 0 [a.1, b.1], b.2)) _
    rw [this]
    exact RP.fail (t := .mk 0 0 []) rfl
end
end Go.Proofs.YtnogehmgpfpjmaaDoor
end
section
namespace Go.Proofs.YtnogehmgpfpjmaaDoor
open Go Go.Ab Go.Dk
section
variable {S e : List UInt8} {d n : Nat} (hn : 20 ≤ n) (hS : S.length ≤ 1099511627776)
include hn hS
theorem f_l6Round {at_ : Nat} (he : e.length ≤ 1000) (ha : at_ ≤ S.length)
   (ip : ∀ (e2 : List UInt8) (at_ : Nat), e2.length ≤ e.length + 1 → at_ ≤ S.length → RP S (rdN d e2 (S.drop at_)) (FF n 49 [sr S, nt at_, sr e2.reverse, nt d] [])) :
   RP S (match bnd (S.drop at_) with
    | some (x, s) => (rdN d e s).bind fun a => (match a.2 with
     | y :: r => if y = 62 then (rdN d (x :: e) r).bind fun b => (eat 41 b.2).map fun r => (.mk 3 0 [a.1, b.1], r)
      else if y = 42 then (rdN d (x :: e) r).bind fun b => (eat 41 b.2).map fun r => (.mk 13 0 [a.1, b.1], r) else none
     | [] => none)
    | none => (rdN d e (S.drop at_)).bind fun a => (eat 32 a.2).bind fun r => (rdN d e r).bind fun b => (eat 41 b.2).map fun r => (.mk 5 0 [a.1, b.1], r)) (FF (n + 1) 67 [sr S, nt at_, sr e.reverse, nt d] []) := by
 rw [E_spec_l6Round, f_l6Colon (by omega) hS ha]
 simp only [evt]
 cases hb : bnd (S.drop at_) with
 | none =>
  rw [show (Option.isSome (none : Option (UInt8 × List UInt8))) = false from rfl, cond_false]
  obtain ⟨t, k, hr, hq⟩ := ip e at_ (by omega) ha
  simp only [sr, nt] at hr
  rw [hr]
  simp only [evt]
  rcases hq.cases with ⟨rfl, ho'⟩ | ⟨j, rfl, hj, ho'⟩ | ⟨j, z, r, rfl, hd, ho'⟩
  ·rw [ho', show decide ((-1 : Int) < 0) = true from rfl, cond_true]
   exact RP.fail (t := .mk 0 0 []) rfl
  ·rw [ho', decide_eq_false (show ¬ (j : Int) < 0 by omega), cond_false, by_size, decide_eq_true (show ((S.length : Nat) : Int) ≤ (j : Int) by omega), cond_true]
   exact RP.fail (t := .mk 0 0 []) rfl
  ·have hlt := dp_lt hd
   have hwj : IntKind.i64.wrap ((j : Int) + 1) = ((j + 1 : Nat) : Int) := by rw [wrap64 (by omega)]; omega
   have hp2 := ip e (j + 1) (by omega) (by omega)
   rw [dp_tl hd] at hp2
   rw [decide_eq_false (show ¬ (j : Int) < 0 by omega), cond_false, show decide ((((bytesOf S).size : Nat) : Int) ≤ (j : Int)) = false from by rw [by_size]; exact decide_eq_false (by omega), cond_false]
   rw [dp_in hd, cond_true, dp_at hd, by_int (c := 32) (v := 32) rfl, hwj]
   by_cases hz : z = 32
   ·have := eat_yes ho' hz rfl
    rw [decide_eq_true hz, cond_true, this]
    simp only [eat, if_true, Option.bind_some]
    have hc := closing (kk := 5) (t1 := t) hn hS hp2
    simp only [evt] at hc ⊢
    exact hc
   ·rw [decide_eq_false hz, cond_false]
    obtain ⟨t2, k2, hr2, _⟩ := hp2
    simp only [sr, nt] at hr2
    rw [hr2]
    simp only [evt]
    have := eat_not (f := fun a r => (rdN d e r).bind fun b => (eat 41 b.2).map fun r => (T.mk 5 0 [a, b.1], r)) ho' hz
    rw [this]
    exact RP.fail (t := .mk 0 0 []) rfl
 | some x =>
  obtain ⟨y, s2⟩ := x
  have hs := bnd_some hb
  have h2 := dp_tl (dp_tl hs)
  have hlt := dp_lt hs
  have hlt2 := dp_lt (dp_tl hs)
  have hw2 : IntKind.i64.wrap ((at_ : Int) + 2) = ((at_ + 1 + 1 : Nat) : Int) := by rw [wrap64 (by omega)]; omega
  have hw1 : IntKind.i64.wrap ((at_ : Int) + 1) = (at_ : Int) + 1 := wrap64 (by omega)
  obtain ⟨t, k, hr, hq⟩ := ip e (at_ + 1 + 1) (by omega) (by omega)
  rw [h2] at hq
  simp only [sr, nt] at hr
  have hin : Go.Ab.inB at_ ((at_ : Int) + 1) (bytesOf S).size = true := by rw [by_size]; simp only [inB, Bool.and_eq_true, decide_eq_true_eq]; omega
  have hsz : decide ((bytesOf e.reverse).size + (bytesOf [y]).size ≤ 9223372036854775807) = true := by rw [by_size, by_size]; simp; omega
  rw [show (Option.isSome (some (y, s2) : Option (UInt8 × List UInt8))) = true from rfl, cond_true, hw2, hw1, hin, cond_true, ext_one hs, hsz, cond_true, hr, by_app]
  simp only [evt]
  rcases hq.cases with ⟨rfl, ho'⟩ | ⟨j, rfl, hj, ho'⟩ | ⟨j, z, r, rfl, hd, ho'⟩
  ·rw [ho', show decide ((-1 : Int) < 0) = true from rfl, cond_true]
   exact RP.fail (t := .mk 0 0 []) rfl
  ·rw [ho', decide_eq_false (show ¬ (j : Int) < 0 by omega), cond_false, by_size, decide_eq_true (show ((S.length : Nat) : Int) ≤ (j : Int) by omega), cond_true]
   exact RP.fail (t := .mk 0 0 []) rfl
  ·have hlt := dp_lt hd
   have hwj : IntKind.i64.wrap ((j : Int) + 1) = ((j + 1 : Nat) : Int) := by rw [wrap64 (by omega)]; omega
   have hp2 := ip (y :: e) (j + 1) (by simp) (by omega)
   rw [dp_tl hd, List.reverse_cons] at hp2
   rw [decide_eq_false (show ¬ (j : Int) < 0 by omega), cond_false, show decide ((((bytesOf S).size : Nat) : Int) ≤ (j : Int)) = false from by rw [by_size]; exact decide_eq_false (by omega), cond_false]
   rw [dp_in hd, cond_true, dp_at hd, by_int (c := 62) (v := 62) rfl, by_int (c := 42) (v := 42) rfl, hwj]
   by_cases hz : z = 62
   ·have := eat_yes ho' hz rfl
    rw [decide_eq_true hz, cond_true, this]
    simp only [if_true, Option.bind_some]
    have hc := closing (kk := 3) (t1 := t) hn hS hp2
    simp only [evt] at hc ⊢
    exact hc
   ·rw [decide_eq_false hz, cond_false, cond_true]
    by_cases hz2 : z = 42
    ·have := eat_yes ho' hz2 rfl
     rw [decide_eq_true hz2, cond_true, this]
     simp only [if_neg (show ¬ ((42 : UInt8) = 62) by decide), if_true, Option.bind_some]
     have hc := closing (kk := 13) (t1 := t) hn hS hp2
     simp only [evt] at hc ⊢
     exact hc
    ·rw [decide_eq_false hz2, cond_false]
     obtain ⟨t2, k2, hr2, _⟩ := hp2
     simp only [sr, nt] at hr2
     rw [hr2]
     simp only [evt]
     have : ((rdN d e s2).bind fun a => (match a.2 with
      | q :: r => if q = 62 then (rdN d (y :: e) r).bind fun b => (eat 41 b.2).map fun r => (T.mk 3 0 [a.1, b.1], r)
       else if q = 42 then (rdN d (y :: e) r).bind fun b => (eat 41 b.2).map fun r => (T.mk 13 0 [a.1, b.1], r) else none
      | [] => none)) = none := by
      rcases ho' with h | ⟨h, _⟩
      ·rw [h]; simp [hz, hz2]
      ·rw [h]; rfl
     show RP S ((rdN d e s2).bind fun a => (match a.2 with
      | q :: r => if q = 62 then (rdN d (y :: e) r).bind fun b => (eat 41 b.2).map fun r => (T.mk 3 0 [a.1, b.1], r)
       else if q = 42 then (rdN d (y :: e) r).bind fun b => (eat 41 b.2).map fun r => (T.mk 13 0 [a.1, b.1], r) else none
      | [] => none)) _
     rw [this]
     exact RP.fail (t := .mk 0 0 []) rfl
theorem f_l6Block {at_ : Nat} {c : UInt8} {s : List UInt8} (hd : S.drop at_ = c :: s) (he : e.length ≤ 1000) (hdm : d ≤ 1000)
   (ip : ∀ (at_ : Nat), at_ ≤ S.length → RP S (rdN d e (S.drop at_)) (FF n 49 [sr S, nt at_, sr e.reverse, nt d] [])) :
   RP S (if c = 60 then (rdS (rdN d e) 62 4 s).map fun y => (.mk 9 0 y.1, y.2)
   else if c = 123 then (rdS (rdN d e) 125 3 s).map fun y => (.mk 10 0 y.1, y.2)
   else if c = 124 then (rdS (rdN d e) 124 3 s).map fun y => (.mk 14 0 y.1, y.2)
   else if c = 64 then (eat 60 s).bind fun s => (rdS (rdN d e) 62 3 s).map fun y => (.mk 12 0 y.1, y.2)
   else none) (FF (n + 2) 70 [sr S, nt at_, sr e.reverse, nt ((d + 1 : Nat) : Int)] []) := by
 have hlt := dp_lt hd
 have ht := dp_tl hd
 have hw1 : IntKind.i64.wrap ((at_ : Int) + 1) = ((at_ + 1 : Nat) : Int) := by rw [wrap64 (by omega)]; omega
 have hw2 : IntKind.i64.wrap ((at_ : Int) + 2) = ((at_ + 1 + 1 : Nat) : Int) := by rw [wrap64 (by omega)]; omega
 have key : ∀ (kk : Int) (many a : Nat) (last : UInt8) (res : OR), digB last = false → many ≤ 10 → a ≤ S.length → res = (FF (n + 1) 88 [sr S, nt a, sr e.reverse, nt d, nt many, .one (.int .u8 (last.toNat : Int))] []).bind (fun x0 => rTs x0.1 fun x1 x2 => rInt .i64 x2 fun x3 x4 => nilV x4 (nilO x0.2 (some ([.agg [.int .i64 kk, .int .i64 0, .fr (.ts x1)], .one (.int .i64 x3)], [])))) →
    RP S ((rdS (rdN d e) last many (S.drop a)).map fun y => (.mk kk 0 y.1, y.2)) res := by
  intro kk many a last res h1 h2 h3 hres
  obtain ⟨ts, k, h4, h5⟩ := f_l6Kids hn hS h1 h2 h3 ip
  rw [hres, h4]
  simp only [evt]
  rcases h5 with ⟨j, h5, h6, h7⟩ | ⟨h5, h6⟩
  ·rw [h5, h7]; exact RP.ok (j := j) rfl h6 rfl
  ·rw [h5, h6]; exact RP.fail (t := .mk kk 0 ts) rfl
 have ht2 : ∀ z r, s = z :: r → S.drop (at_ + 1 + 1) = r := fun z r h => dp_tl (by rw [ht, h])
 have hwd : IntKind.i64.wrap (((d + 1 : Nat) : Int) - 1) = (d : Int) := by rw [wrap64 (by omega)]; omega
 rw [E_spec_l6Block, dp_in hd, cond_true, dp_at hd, by_int (c := 60) (v := 60) rfl, by_int (c := 123) (v := 123) rfl, by_int (c := 124) (v := 124) rfl, by_int (c := 64) (v := 64) rfl, hw1, hw2, hwd]
 by_cases h1 : c = 60
 ·rw [if_pos h1, decide_eq_true h1, cond_true]
  have := key 9 4 (at_ + 1) 62 _ rfl (by decide) (by omega) rfl
  rw [ht] at this; exact this
 rw [if_neg h1, decide_eq_false h1, cond_false]
 by_cases h2 : c = 123
 ·rw [if_pos h2, decide_eq_true h2, cond_true]
  have := key 10 3 (at_ + 1) 125 _ rfl (by decide) (by omega) rfl
  rw [ht] at this; exact this
 rw [if_neg h2, decide_eq_false h2, cond_false]
 by_cases h3 : c = 124
 ·rw [if_pos h3, decide_eq_true h3, cond_true]
  have := key 14 3 (at_ + 1) 124 _ rfl (by decide) (by omega) rfl
  rw [ht] at this; exact this
 rw [if_neg h3, decide_eq_false h3, cond_false]
 by_cases h4 : c = 64
 ·rw [if_pos h4, decide_eq_true h4, cond_true]
  cases s with
  | nil =>
   have := dp_nil ht
   rw [show decide (((at_ + 1 : Nat) : Int) < (((bytesOf S).size : Nat) : Int)) = false from by rw [by_size]; exact decide_eq_false (by omega), cond_false]
   exact RP.fail (t := .mk 0 0 []) rfl
  | cons z r =>
   have hlt2 := dp_lt ht
   rw [show decide (((at_ + 1 : Nat) : Int) < (((bytesOf S).size : Nat) : Int)) = true from by rw [by_size]; exact decide_eq_true (by omega), cond_true, Bool.and_true, decide_eq_true (show (0 : Int) ≤ ((at_ + 1 : Nat) : Int) by omega), cond_true, dp_at ht, by_int (c := 60) (v := 60) rfl]
   by_cases h5 : z = 60
   ·rw [decide_eq_true h5, cond_true]
    have := key 12 3 (at_ + 1 + 1) 62 _ rfl (by decide) (by omega) rfl
    rw [ht2 z r rfl] at this
    simp only [eat, if_pos h5, Option.bind_some]; exact this
   ·rw [decide_eq_false h5, cond_false]
    simp only [eat, if_neg h5, Option.bind_none]
    exact RP.fail (t := .mk 0 0 []) rfl
 rw [if_neg h4, decide_eq_false h4, cond_false]
 exact RP.fail (t := .mk 0 0 []) rfl
end
theorem RP.pass {S : List UInt8} {o : Option (T × List UInt8)} {res : OR} (h : RP S o res) : RP S o (res.bind fun x0 => rTerm x0.1 fun x1 x2 => rInt .i64 x2 fun x3 x4 => nilV x4 (nilO x0.2 (some ([.agg [.int .i64 x1.k, .int .i64 x1.n, .fr (.ts x1.kids)], .one (.int .i64 x3)], [])))) := by
 obtain ⟨t, k, hr, hq⟩ := h
 rw [hr]
 simp only [evt]
 exact ⟨t, k, rfl, hq⟩
theorem f_l6Parse {S : List UInt8} (hS : S.length ≤ 1099511627776) : ∀ (d : Nat), d ≤ 100 → ∀ {n : Nat} (e : List UInt8) (at_ : Nat), 1100 + 10 * d ≤ n → e.length + d ≤ 1000 → at_ ≤ S.length → RP S (rdN d e (S.drop at_)) (FF n 49 [sr S, nt at_, sr e.reverse, nt d] []) := by
 intro d
 induction d with
 | zero =>
  intro _ n e at_ hn he ha
  obtain ⟨n, rfl⟩ := pos_succ (show 0 < n by omega)
  rw [E_spec_l6Parse, show decide (((0 : Nat) : Int) < 1) = true from rfl, cond_true]
  exact RP.fail (t := .mk 0 0 []) rfl
 | succ d ih =>
  intro hdm n e at_ hn he ha
  obtain ⟨n, rfl⟩ := pos_succ (show 0 < n by omega)
  have start : decide (((d + 1 : Nat) : Int) < 1) = false ∧ decide ((at_ : Int) < 0) = false := by simp only [decide_eq_false_iff_not]; omega
  rw [E_spec_l6Parse, start.1, start.2, cond_false, cond_false]
  cases hd : S.drop at_ with
  | nil =>
   have := dp_nil hd
   rw [show decide ((((bytesOf S).size : Nat) : Int) ≤ (at_ : Int)) = true from by rw [by_size]; exact decide_eq_true (by omega), cond_true]
   exact RP.fail (t := .mk 0 0 []) rfl
  | cons c s =>
   have hlt := dp_lt hd
   have ht := dp_tl hd
   have hw1 : IntKind.i64.wrap ((at_ : Int) + 1) = ((at_ + 1 : Nat) : Int) := by rw [wrap64 (by omega)]; omega
   have hwd : IntKind.i64.wrap (((d + 1 : Nat) : Int) - 1) = (d : Int) := by rw [wrap64 (by omega)]; omega
   rw [show decide ((((bytesOf S).size : Nat) : Int) ≤ (at_ : Int)) = false from by rw [by_size]; exact decide_eq_false (by omega), cond_false, dp_in hd, cond_true, dp_at hd, hw1, hwd, rdN]
   have ih1 : ∀ a : Nat, a ≤ S.length → RP S (rdN d e (S.drop a)) (FF n 49 [sr S, nt a, sr e.reverse, nt d] []) := fun a h => ih (by omega) e a (by omega) (by omega) h
   have ih2 : ∀ m, 1100 + 10 * d ≤ m → ∀ (e2 : List UInt8) (at_ : Nat), e2.length ≤ e.length + 1 → at_ ≤ S.length → RP S (rdN d e2 (S.drop at_)) (FF m 49 [sr S, nt at_, sr e2.reverse, nt d] []) := fun m hm e2 a h1 h2 => ih (by omega) e2 a hm (by omega) h2
   have lit := f_l1ParseL (n := n) (d := d + 1) (by omega) hS hd (by omega)
   have prefx := ih1 (at_ + 1) (by omega)
   rw [ht] at prefx
   by_cases h0 : letB c = true
   ·rw [if_pos h0]
    have hc : 97 ≤ c.toNat := by simp only [letB, Bool.and_eq_true, decide_eq_true_eq] at h0; omega
    rw [decide_eq_false (show ¬ (c.toNat : Int) = 42 by omega), decide_eq_false (show ¬ (c.toNat : Int) = 78 by omega), decide_eq_false (show ¬ (c.toNat : Int) = 48 by omega), decide_eq_false (show ¬ (c.toNat : Int) = 43 by omega), decide_eq_false (show ¬ (c.toNat : Int) = 33 by omega), decide_eq_false (show ¬ (c.toNat : Int) = 94 by omega), decide_eq_false (show ¬ (c.toNat : Int) = 95 by omega), decide_eq_false (show ¬ (c.toNat : Int) = 40 by omega), decide_eq_false (show ¬ (c.toNat : Int) = 91 by omega)]
    simp only [cond_false]
    rw [f_l6Letter (by omega), h0]
    simp only [evt]
    rw [f_l6Find e c (by omega) (by omega)]
    simp only [evt]
    cases hf : fnd e c with
    | none =>
     simp only [show decide ((-1 : Int) < 0) = true from rfl, cond_true]
     exact RP.fail (t := .mk 0 0 []) rfl
    | some k =>
     have := fnd_lt _ _ hf
     simp only [Option.bind_some]
     rw [decide_eq_false (show ¬ (k : Int) < 0 by omega), cond_false]
     by_cases hk : k ≤ 20
     ·rw [if_pos hk, decide_eq_false (show ¬ (20 : Int) < k by omega), cond_false, f_l1Leaf (by omega)]
      simp only [evt]
      exact RP.ok (j := at_ + 1) rfl (by omega) ht.symm
     ·rw [if_neg hk, decide_eq_true (show (20 : Int) < k by omega), cond_true]
      exact RP.fail (t := .mk 0 0 []) rfl
   have h0' : letB c = false := by simpa using h0
   rw [if_neg h0]
   by_cases h1 : c = 42
   ·rw [if_pos h1]; subst h1
    simp only [show decide (((((42 : UInt8).toNat : Nat) : Int)) = 42) = true from rfl, show decide (((((42 : UInt8).toNat : Nat) : Int)) = 78) = false from rfl, show decide (((((42 : UInt8).toNat : Nat) : Int)) = 48) = false from rfl, show decide (((((42 : UInt8).toNat : Nat) : Int)) = 43) = false from rfl, show decide (((((42 : UInt8).toNat : Nat) : Int)) = 33) = false from rfl, show decide (((((42 : UInt8).toNat : Nat) : Int)) = 94) = false from rfl, show decide (((((42 : UInt8).toNat : Nat) : Int)) = 95) = false from rfl, show decide (((((42 : UInt8).toNat : Nat) : Int)) = 40) = false from rfl, show decide (((((42 : UInt8).toNat : Nat) : Int)) = 91) = false from rfl, cond_true, cond_false]
    exact (lit.1 rfl).pass
   rw [if_neg h1]
   by_cases h2 : c = 78
   ·rw [if_pos h2]; subst h2
    simp only [show decide (((((78 : UInt8).toNat : Nat) : Int)) = 42) = false from rfl, show decide (((((78 : UInt8).toNat : Nat) : Int)) = 78) = true from rfl, show decide (((((78 : UInt8).toNat : Nat) : Int)) = 48) = false from rfl, show decide (((((78 : UInt8).toNat : Nat) : Int)) = 43) = false from rfl, show decide (((((78 : UInt8).toNat : Nat) : Int)) = 33) = false from rfl, show decide (((((78 : UInt8).toNat : Nat) : Int)) = 94) = false from rfl, show decide (((((78 : UInt8).toNat : Nat) : Int)) = 95) = false from rfl, show decide (((((78 : UInt8).toNat : Nat) : Int)) = 40) = false from rfl, show decide (((((78 : UInt8).toNat : Nat) : Int)) = 91) = false from rfl, cond_true, cond_false]
    exact (lit.2.1 rfl).pass
   rw [if_neg h2]
   by_cases h3 : c = 48
   ·rw [if_pos h3]; subst h3
    simp only [show decide (((((48 : UInt8).toNat : Nat) : Int)) = 42) = false from rfl, show decide (((((48 : UInt8).toNat : Nat) : Int)) = 78) = false from rfl, show decide (((((48 : UInt8).toNat : Nat) : Int)) = 48) = true from rfl, show decide (((((48 : UInt8).toNat : Nat) : Int)) = 43) = false from rfl, show decide (((((48 : UInt8).toNat : Nat) : Int)) = 33) = false from rfl, show decide (((((48 : UInt8).toNat : Nat) : Int)) = 94) = false from rfl, show decide (((((48 : UInt8).toNat : Nat) : Int)) = 95) = false from rfl, show decide (((((48 : UInt8).toNat : Nat) : Int)) = 40) = false from rfl, show decide (((((48 : UInt8).toNat : Nat) : Int)) = 91) = false from rfl, cond_true, cond_false]
    exact (lit.2.2 rfl).pass
   rw [if_neg h3]
   by_cases h4 : c = 43
   ·rw [if_pos h4]; subst h4
    simp only [show decide (((((43 : UInt8).toNat : Nat) : Int)) = 42) = false from rfl, show decide (((((43 : UInt8).toNat : Nat) : Int)) = 78) = false from rfl, show decide (((((43 : UInt8).toNat : Nat) : Int)) = 48) = false from rfl, show decide (((((43 : UInt8).toNat : Nat) : Int)) = 43) = true from rfl, show decide (((((43 : UInt8).toNat : Nat) : Int)) = 33) = false from rfl, show decide (((((43 : UInt8).toNat : Nat) : Int)) = 94) = false from rfl, show decide (((((43 : UInt8).toNat : Nat) : Int)) = 95) = false from rfl, show decide (((((43 : UInt8).toNat : Nat) : Int)) = 40) = false from rfl, show decide (((((43 : UInt8).toNat : Nat) : Int)) = 91) = false from rfl, cond_true, cond_false]
    obtain ⟨t, k, hr, hq⟩ := prefx
    simp only [sr, nt] at hr
    rw [hr]
    simp only [evt]
    rw [f_l1Node (by omega) _ _ (by simp)]
    simp only [evt]
    exact ⟨.mk 8 0 [t], k, rfl, hq.map fun b => .mk 8 0 [b]⟩
   rw [if_neg h4]
   by_cases h5 : c = 33
   ·rw [if_pos h5]; subst h5
    simp only [show decide (((((33 : UInt8).toNat : Nat) : Int)) = 42) = false from rfl, show decide (((((33 : UInt8).toNat : Nat) : Int)) = 78) = false from rfl, show decide (((((33 : UInt8).toNat : Nat) : Int)) = 48) = false from rfl, show decide (((((33 : UInt8).toNat : Nat) : Int)) = 43) = false from rfl, show decide (((((33 : UInt8).toNat : Nat) : Int)) = 33) = true from rfl, show decide (((((33 : UInt8).toNat : Nat) : Int)) = 94) = false from rfl, show decide (((((33 : UInt8).toNat : Nat) : Int)) = 95) = false from rfl, show decide (((((33 : UInt8).toNat : Nat) : Int)) = 40) = false from rfl, show decide (((((33 : UInt8).toNat : Nat) : Int)) = 91) = false from rfl, cond_true, cond_false]
    obtain ⟨t, k, hr, hq⟩ := prefx
    simp only [sr, nt] at hr
    rw [hr]
    simp only [evt]
    rw [f_l1Node (by omega) _ _ (by simp)]
    simp only [evt]
    exact ⟨.mk 11 0 [t], k, rfl, hq.map fun b => .mk 11 0 [b]⟩
   rw [if_neg h5]
   by_cases h6 : c = 94
   ·rw [if_pos h6]; subst h6
    simp only [show decide (((((94 : UInt8).toNat : Nat) : Int)) = 42) = false from rfl, show decide (((((94 : UInt8).toNat : Nat) : Int)) = 78) = false from rfl, show decide (((((94 : UInt8).toNat : Nat) : Int)) = 48) = false from rfl, show decide (((((94 : UInt8).toNat : Nat) : Int)) = 43) = false from rfl, show decide (((((94 : UInt8).toNat : Nat) : Int)) = 33) = false from rfl, show decide (((((94 : UInt8).toNat : Nat) : Int)) = 94) = true from rfl, show decide (((((94 : UInt8).toNat : Nat) : Int)) = 95) = false from rfl, show decide (((((94 : UInt8).toNat : Nat) : Int)) = 40) = false from rfl, show decide (((((94 : UInt8).toNat : Nat) : Int)) = 91) = false from rfl, cond_true, cond_false]
    obtain ⟨t, k, hr, hq⟩ := prefx
    simp only [sr, nt] at hr
    rw [hr]
    simp only [evt]
    rw [f_l1Node (by omega) _ _ (by simp)]
    simp only [evt]
    exact ⟨.mk 15 0 [t], k, rfl, hq.map fun b => .mk 15 0 [b]⟩
   rw [if_neg h6]
   by_cases h7 : c = 95
   ·rw [if_pos h7]; subst h7
    simp only [show decide (((((95 : UInt8).toNat : Nat) : Int)) = 42) = false from rfl, show decide (((((95 : UInt8).toNat : Nat) : Int)) = 78) = false from rfl, show decide (((((95 : UInt8).toNat : Nat) : Int)) = 48) = false from rfl, show decide (((((95 : UInt8).toNat : Nat) : Int)) = 43) = false from rfl, show decide (((((95 : UInt8).toNat : Nat) : Int)) = 33) = false from rfl, show decide (((((95 : UInt8).toNat : Nat) : Int)) = 94) = false from rfl, show decide (((((95 : UInt8).toNat : Nat) : Int)) = 95) = true from rfl, show decide (((((95 : UInt8).toNat : Nat) : Int)) = 40) = false from rfl, show decide (((((95 : UInt8).toNat : Nat) : Int)) = 91) = false from rfl, cond_true, cond_false]
    obtain ⟨t, k, hr, hq⟩ := prefx
    simp only [sr, nt] at hr
    rw [hr]
    simp only [evt]
    rw [f_l1Node (by omega) _ _ (by simp)]
    simp only [evt]
    exact ⟨.mk 16 0 [t], k, rfl, hq.map fun b => .mk 16 0 [b]⟩
   rw [if_neg h7]
   obtain ⟨n, rfl⟩ := pos_succ (show 0 < n by omega)
   by_cases h8 : c = 40
   ·rw [if_pos h8]; subst h8
    simp only [show decide (((((40 : UInt8).toNat : Nat) : Int)) = 42) = false from rfl, show decide (((((40 : UInt8).toNat : Nat) : Int)) = 78) = false from rfl, show decide (((((40 : UInt8).toNat : Nat) : Int)) = 48) = false from rfl, show decide (((((40 : UInt8).toNat : Nat) : Int)) = 43) = false from rfl, show decide (((((40 : UInt8).toNat : Nat) : Int)) = 33) = false from rfl, show decide (((((40 : UInt8).toNat : Nat) : Int)) = 94) = false from rfl, show decide (((((40 : UInt8).toNat : Nat) : Int)) = 95) = false from rfl, show decide (((((40 : UInt8).toNat : Nat) : Int)) = 40) = true from rfl, show decide (((((40 : UInt8).toNat : Nat) : Int)) = 91) = false from rfl, cond_true, cond_false]
    have := f_l6Round (n := n) (e := e) (at_ := at_ + 1) (by omega) hS (by omega) (by omega) (ih2 n (by omega))
    rw [ht] at this
    exact this.pass
   rw [if_neg h8]
   by_cases h9 : c = 91
   ·rw [if_pos h9]; subst h9
    simp only [show decide (((((91 : UInt8).toNat : Nat) : Int)) = 42) = false from rfl, show decide (((((91 : UInt8).toNat : Nat) : Int)) = 78) = false from rfl, show decide (((((91 : UInt8).toNat : Nat) : Int)) = 48) = false from rfl, show decide (((((91 : UInt8).toNat : Nat) : Int)) = 43) = false from rfl, show decide (((((91 : UInt8).toNat : Nat) : Int)) = 33) = false from rfl, show decide (((((91 : UInt8).toNat : Nat) : Int)) = 94) = false from rfl, show decide (((((91 : UInt8).toNat : Nat) : Int)) = 95) = false from rfl, show decide (((((91 : UInt8).toNat : Nat) : Int)) = 40) = false from rfl, show decide (((((91 : UInt8).toNat : Nat) : Int)) = 91) = true from rfl, cond_true, cond_false]
    have := f_l6Square (n := n) (e := e) (at_ := at_ + 1) (by omega) hS (by omega) (by omega) (ih2 n (by omega))
    rw [ht] at this
    exact this.pass
   rw [if_neg h9]
   rw [by_int (c := 42) (v := 42) rfl, by_int (c := 78) (v := 78) rfl, by_int (c := 48) (v := 48) rfl, by_int (c := 43) (v := 43) rfl, by_int (c := 33) (v := 33) rfl, by_int (c := 94) (v := 94) rfl, by_int (c := 95) (v := 95) rfl, by_int (c := 40) (v := 40) rfl, by_int (c := 91) (v := 91) rfl, decide_eq_false h1, decide_eq_false h2, decide_eq_false h3, decide_eq_false h4, decide_eq_false h5, decide_eq_false h6, decide_eq_false h7, decide_eq_false h8, decide_eq_false h9]
   simp only [cond_false]
   rw [f_l6Letter (by omega), h0']
   simp only [evt]
   obtain ⟨n, rfl⟩ := pos_succ (show 0 < n by omega)
   have := f_l6Block (n := n) (d := d) (e := e) (by omega) hS hd (by omega) (by omega) (fun a h => ih (by omega) e a (by omega) (by omega) h)
   exact this.pass
end Go.Proofs.YtnogehmgpfpjmaaDoor
end
section
namespace Go.Proofs.YtnogehmgpfpjmaaDoor
open Go Go.Ab Go.Dk
theorem eat_len {c : UInt8} {s r : List UInt8} (h : eat c s = some r) : r.length + 1 = s.length := by
 cases s with
 | nil => cases h
 | cons x s =>
  simp only [eat] at h
  split at h
  ·cases h; rfl
  ·cases h
def Dec (p : List UInt8 → Option (T × List UInt8)) : Prop := ∀ s t r, p s = some (t, r) → t.size + r.length ≤ s.length
theorem rdS_size {p : List UInt8 → Option (T × List UInt8)} (h : Dec p) (last : UInt8) : ∀ n s ts r, rdS p last n s = some (ts, r) → T.sizeL ts + r.length ≤ s.length
 | 0, s, ts, r, e => by cases e; simp [T.sizeL]
 | n + 1, s, ts, r, e => by
  rw [rdS] at e
  obtain ⟨x, h1, e⟩ := Option.bind_eq_some_iff.1 e
  obtain ⟨r1, h2, e⟩ := Option.bind_eq_some_iff.1 e
  obtain ⟨y, h3, e⟩ := Option.map_eq_some_iff.1 e
  cases e
  have := h s x.1 x.2 h1
  have := eat_len h2
  have := rdS_size h last n r1 y.1 y.2 h3
  simp only [T.sizeL]; omega
theorem sz_map {o : Option (T × List UInt8)} {k : Int} {t : T} {r s : List UInt8} (h : ∀ a q, o = some (a, q) → a.size + q.length ≤ s.length) (e : (o.map fun x => (T.mk k 0 [x.1], x.2)) = some (t, r)) : t.size + r.length ≤ s.length + 1 := by
 obtain ⟨x, h1, e⟩ := Option.map_eq_some_iff.1 e
 cases e
 have := h x.1 x.2 h1
 simp only [T.size, T.sizeL]; omega
theorem sz_S {o : Option (List T × List UInt8)} {k : Int} {t : T} {r s : List UInt8} (h : ∀ a q, o = some (a, q) → T.sizeL a + q.length ≤ s.length) (e : (o.map fun x => (T.mk k 0 x.1, x.2)) = some (t, r)) : t.size + r.length ≤ s.length + 1 := by
 obtain ⟨x, h1, e⟩ := Option.map_eq_some_iff.1 e
 cases e
 have := h x.1 x.2 h1
 simp only [T.size]; omega
theorem sz_two {p2 : List UInt8 → Option (T × List UInt8)} (h : Dec p2) {a : T} {q : List UInt8} {k : Int} {t : T} {r : List UInt8} (e : ((p2 q).bind fun b => (eat 41 b.2).map fun r => (T.mk k 0 [a, b.1], r)) = some (t, r)) : t.size + r.length ≤ a.size + q.length + 1 := by
 obtain ⟨b, h1, e⟩ := Option.bind_eq_some_iff.1 e
 obtain ⟨r1, h2, e⟩ := Option.map_eq_some_iff.1 e
 cases e
 have := h q b.1 b.2 h1
 have := eat_len h2
 simp only [T.size, T.sizeL]; omega
theorem ite_or {α : Type} {p : Prop} [Decidable p] {a b x : α} (h : (if p then a else b) = x) : (p ∧ a = x) ∨ (¬ p ∧ b = x) := by
 by_cases hp : p
 ·rw [if_pos hp] at h; exact .inl ⟨hp, h⟩
 ·rw [if_neg hp] at h; exact .inr ⟨hp, h⟩
theorem rd_size : ∀ (d : Nat) (env : List UInt8), Dec (rdI d env)
 | 0, env => fun s t r e => by cases e
 | d + 1, env => fun s t r e => by
  cases s with
  | nil => cases e
  | cons c s =>
   have ih := rd_size d
   rw [rdI] at e
   show t.size + r.length ≤ s.length + 1
   rcases ite_or e with ⟨hc, e⟩ | ⟨hc, e⟩
   ·obtain ⟨k, _, e⟩ := Option.map_eq_some_iff.1 e; cases e; simp only [T.size, T.sizeL]; omega
   rcases ite_or e with ⟨hc, e⟩ | ⟨hc, e⟩
   ·unfold numI at e
    split at e
    ·cases e; have := rnR_len s; simp only [T.size, T.sizeL]; omega
    ·cases e
   rcases ite_or e with ⟨hc, e⟩ | ⟨hc, e⟩
   ·cases e; simp only [T.size, T.sizeL]; omega
   rcases ite_or e with ⟨hc, e⟩ | ⟨hc, e⟩
   ·cases e; simp only [T.size, T.sizeL]; omega
   rcases ite_or e with ⟨hc, e⟩ | ⟨hc, e⟩
   ·exact sz_map (ih env s) e
   rcases ite_or e with ⟨hc, e⟩ | ⟨hc, e⟩
   ·exact sz_map (ih env s) e
   rcases ite_or e with ⟨hc, e⟩ | ⟨hc, e⟩
   ·exact sz_map (ih env s) e
   rcases ite_or e with ⟨hc, e⟩ | ⟨hc, e⟩
   ·exact sz_map (ih env s) e
   rcases ite_or e with ⟨hc, e⟩ | ⟨hc, e⟩
   ·split at e
    ·rename_i x s2 hb
     have := bnd_len hb
     obtain ⟨a, h1, e⟩ := Option.bind_eq_some_iff.1 e
     have h2 := ih env s2 a.1 a.2 h1
     split at e
     ·rename_i y q hq
      rw [hq, List.length_cons] at h2
      split at e
      ·have := sz_two (ih _) e; omega
      ·split at e
       ·have := sz_two (ih _) e; omega
       ·cases e
     ·cases e
    ·obtain ⟨a, h1, e⟩ := Option.bind_eq_some_iff.1 e
     obtain ⟨q, h2, e⟩ := Option.bind_eq_some_iff.1 e
     have := ih env s a.1 a.2 h1
     have := eat_len h2
     have := sz_two (ih _) e; omega
   rcases ite_or e with ⟨hc, e⟩ | ⟨hc, e⟩
   ·obtain ⟨x, hb, e⟩ := Option.bind_eq_some_iff.1 e
    have := bnd_len (y := x.1) (r := x.2) hb
    obtain ⟨a, h1, e⟩ := Option.bind_eq_some_iff.1 e
    obtain ⟨q, h2, e⟩ := Option.bind_eq_some_iff.1 e
    obtain ⟨b, h3, e⟩ := Option.map_eq_some_iff.1 e
    cases e
    have := ih env x.2 a.1 a.2 h1
    have := eat_len h2
    have := ih _ q b.1 b.2 h3
    simp only [T.size, T.sizeL]; omega
   rcases ite_or e with ⟨hc, e⟩ | ⟨hc, e⟩
   ·exact sz_S (rdS_size (ih env) 62 4 s) e
   rcases ite_or e with ⟨hc, e⟩ | ⟨hc, e⟩
   ·exact sz_S (rdS_size (ih env) 125 3 s) e
   rcases ite_or e with ⟨hc, e⟩ | ⟨hc, e⟩
   ·exact sz_S (rdS_size (ih env) 124 3 s) e
   rcases ite_or e with ⟨hc, e⟩ | ⟨hc, e⟩
   ·obtain ⟨q, h1, e⟩ := Option.bind_eq_some_iff.1 e
    have := eat_len h1
    have := sz_S (rdS_size (ih env) 62 3 q) e
    omega
   ·cases e
theorem f_NamesValidI {n : Nat} (l : List UInt8) (hl : l.length ≤ 1048577) (hn : l.length + 5 ≤ n) : FF n 20 [sr l] [] = some ([bl (nvB (bytesOf l))], []) := by
 obtain ⟨n, rfl⟩ : ∃ m, n = m + 3 := ⟨n - 3, by omega⟩
 have hs := by_size l
 rw [E_impl_NamesValid]
 refine nvI_loop (bytesOf l) (by omega) _ (fun c => ?_) (fun s c => ?_) (bytesOf l).size _ 0 (by omega) (by omega) (fun j hj => by omega)
 ·rw [f_isLetter (by omega), ← letB_eq]
 ·rw [E_strings_IndexByte, E_stringslite_IndexByte]
  simp only [byte_ok, byte_rt, evs]
theorem f_NamesValidS {n : Nat} (l : List UInt8) (hl : l.length ≤ 1048577) (hn : l.length + 5 ≤ n) : FF n 14 [sr l] [] = some ([bl (nvB (bytesOf l))], []) := by
 obtain ⟨n, rfl⟩ : ∃ m, n = m + 2 := ⟨n - 2, by omega⟩
 have hs := by_size l
 rw [E_spec_NamesValid]
 refine nvS_loop (bytesOf l) (by omega) _ (fun c => ?_) (fun t c ht => ?_) (bytesOf l).size _ 0 (by omega) (by omega) (fun j hj => by omega)
 ·rw [f_l6Letter (by omega), ← letB_eq]
 ·rw [E_spec_l6Find, wrap64 (by omega), find_loop t c (by omega) n t.size n (by omega) (Nat.le_refl _)]; rfl
def psX (s names : List UInt8) : T × Bool := if nvB (bytesOf names) = true then psR s names.reverse else (.mk 0 0 [], false)
theorem f_ParseNamedI {n : Nat} {s names : List UInt8} (hn : 5000000 ≤ n) (hs : s.length ≤ 3000000) (hm : names.length ≤ 1048577) : FF n 27 [sr s, sr names] [] = some ([tm (psX s names).1, bl (psX s names).2], []) := by
 obtain ⟨n, rfl⟩ := pos_succ (show 0 < n by omega)
 rw [E_impl_ParseNamed, f_NamesValidI names hm (by omega)]
 simp only [evt]
 unfold psX
 cases hv : nvB (bytesOf names) with
 | false => rw [if_neg (by simp), Bool.not_false, cond_true]; rfl
 | true =>
  have h20 := nvB_size hv
  rw [by_size] at h20
  rw [if_pos rfl, Bool.not_true, cond_false]
  have hr := f_readNamed (B := 3000000) (by omega) 30 (by omega) (n := n) names.reverse s (by omega) (by rw [List.length_reverse]; omega) hs
  rw [List.reverse_reverse, show (31 : Int) - ((30 : Nat) : Int) = 1 from rfl] at hr
  rw [psR_I]
  rcases hr.both with ⟨t, r, ho, hr⟩ | ⟨t, r, ho, hr, hb⟩
  ·rw [hr, ho]
   simp only [evt]
   rfl
  ·rw [hr, ho]
   simp only [evt, by_toList, ne_nil]
   have hz := rd_size 30 names.reverse s t r ho
   cases r with
   | cons y r => simp only [List.cons_ne_nil, decide_false, Bool.not_false, cond_true, cond_false]; rfl
   | nil =>
    simp only [decide_true, Bool.not_true, cond_false]
    rw [f_valid (by omega)]
    simp only [evt]
    cases validB t <;> rfl
theorem f_ParseNamedS {n : Nat} {s names : List UInt8} (hn : 5000000 ≤ n) (hs : s.length ≤ 3000000) (hm : names.length ≤ 1048577) : FF n 25 [sr s, sr names] [] = some ([tm (psX s names).1, bl (psX s names).2], []) := by
 obtain ⟨n, rfl⟩ := pos_succ (show 0 < n by omega)
 rw [E_spec_ParseNamed, f_NamesValidS names hm (by omega)]
 simp only [evt]
 unfold psX
 cases hv : nvB (bytesOf names) with
 | false => rw [if_neg (by simp), Bool.not_false, cond_true]; rfl
 | true =>
  have h20 := nvB_size hv
  rw [by_size] at h20
  rw [if_pos rfl, Bool.not_true, cond_false]
  have hr := f_l6Parse (S := s) (by omega) 30 (by omega) (n := n) names.reverse 0 (by omega) (by rw [List.length_reverse]; omega) (by omega)
  rw [List.reverse_reverse, List.drop_zero] at hr
  obtain ⟨t, k, hr, hq⟩ := hr
  simp only [sr, nt] at hr
  rw [show (30 : Int) = ((30 : Nat) : Int) from rfl, show (0 : Int) = ((0 : Nat) : Int) from rfl, hr]
  simp only [evt]
  unfold psR
  rcases hq with ⟨j, ho, hj, rfl⟩ | ⟨ho, rfl⟩ | ⟨ho, j, y, r, rfl, hd, _⟩
  ·have hsz : t.size ≤ s.length := by
     have := ho
     rw [rd_grd] at this
     obtain ⟨x, h1, h2⟩ := Option.bind_eq_some_iff.1 this
     split at h2
     ·cases h2; have := rd_size 30 names.reverse s _ _ h1; omega
     ·cases h2
   rw [ho, by_size]
   by_cases he : j = s.length
   ·rw [decide_eq_true (show (j : Int) = ((s.length : Nat) : Int) by omega), Bool.not_true, cond_false, f_TermValidS (by omega) (by omega), List.drop_of_length_le (show s.length ≤ j by omega)]
    simp only [evt]
    cases validB t <;> rfl
   ·rw [decide_eq_false (show ¬ (j : Int) = ((s.length : Nat) : Int) by omega), Bool.not_false, cond_true]
    cases hd : s.drop j with
    | nil => have := dp_nil hd; omega
    | cons y r => rfl
  ·rw [ho, by_size, decide_eq_false (show ¬ (-1 : Int) = ((s.length : Nat) : Int) by omega), Bool.not_false, cond_true]; rfl
  ·have := dp_lt hd
   rw [ho, by_size, decide_eq_false (show ¬ (j : Int) = ((s.length : Nat) : Int) by omega), Bool.not_false, cond_true]; rfl
end Go.Proofs.YtnogehmgpfpjmaaDoor
end
section
namespace Go.Proofs.YtnogehmgpfpjmaaDoor
open Go Go.Ab Go.Dk
end Go.Proofs.YtnogehmgpfpjmaaDoor
end
section
namespace Go.Proofs.YtnogehmgpfpjmaaDoor
open Go Go.Ab Go.Dk
end Go.Proofs.YtnogehmgpfpjmaaDoor
end
section
namespace Go.Proofs.YtnogehmgpfpjmaaDoor
open Go Go.Ab Go.Dk
end Go.Proofs.YtnogehmgpfpjmaaDoor
end
section
namespace Go.Proofs.YtnogehmgpfpjmaaDoor
open Go Go.Ab Go.Dk
theorem eqf_loop (n : Nat) (ts us : List T) (hl : ts.length ≤ 4000000) (he : ts.length = us.length) (h : ∀ t ∈ ts, ∀ u, FF n 28 [tm t, tm u] [] = some ([bl (T.beq t u)], [])) :
   ∀ g m (i : Nat), g < m → i + g = ts.length → L_slices_EqualFunc_impl_TermSame_0 n m us ts ts.length i = some ([bl (T.beqL (ts.drop i) (us.drop i))], [])
 | g, 0, i, hg, _ => by omega
 | 0, m + 1, i, _, hi => by
  rw [L_slices_EqualFunc_impl_TermSame_0_eq, List.drop_of_length_le (by omega), List.drop_of_length_le (by omega)]
  simp only [cond_dec, if_neg (show ¬ (i : Int) < ts.length by omega), T.beqL]
 | g + 1, m + 1, i, hg, hi => by
  have hlt : i < ts.length := by omega
  have hlt2 : i < us.length := by omega
  rw [List.drop_eq_getElem_cons hlt, List.drop_eq_getElem_cons hlt2, T.beqL]
  rw [L_slices_EqualFunc_impl_TermSame_0_eq]; simp (disch := omega) only [evt, cond_dec, Int.toNat_natCast, cast1, wrap64, roomB_ok, List.length_append, List.length_cons, List.length_nil, if_pos (show (i : Int) < ts.length by omega), if_pos (show 0 ≤ (i : Int) by omega), List.getElem?_eq_getElem hlt, List.getElem?_eq_getElem hlt2, h _ (List.getElem_mem hlt)]
  cases hs : T.beq ts[i] us[i] with
  | false => simp
  | true =>
   simp only [Bool.not_true, cond_false, Bool.true_and]
   exact eqf_loop n ts us hl he h g m (i + 1) (by omega) (by omega)
theorem f_TermSame (t : T) : ∀ {n : Nat}, 2 * t.size + 5 ≤ n → t.size ≤ 4000000 → ∀ u : T, FF n 28 [tm t, tm u] [] = some ([bl (T.beq t u)], []) := by
 induction t using T.ind with | h t ih =>
 intro n hn hz u
 have hsz := T.size_eq t
 have hl := T.sizeL_len t.kids
 obtain ⟨n, rfl⟩ := pos_succ (show 0 < n by omega)
 rw [E_impl_TermSame, T.beq_eq]
 by_cases c1 : t.k = u.k
 ·by_cases c2 : t.n = u.n
  ·obtain ⟨n, rfl⟩ := pos_succ (show 0 < n by omega)
   rw [E_slices_EqualFunc_impl_TermSame]
   by_cases c3 : t.kids.length = u.kids.length
   ·have := eqf_loop n t.kids u.kids (by omega) c3 (fun v hv w => ih v hv (by have := T.sizeL_mem hv; omega) (by have := T.sizeL_mem hv; omega) w) t.kids.length n 0 (by omega) (by omega)
    rw [List.drop_zero, List.drop_zero] at this
    simp only [decide_eq_true c1, decide_eq_true c2, decide_eq_true (show (t.kids.length : Int) = u.kids.length by omega), Bool.not_true, cond_false, cond_true, Bool.true_and]
    rw [show (0 : Int) = ((0 : Nat) : Int) from rfl, this]
    simp only [evs]
   ·simp only [decide_eq_true c1, decide_eq_true c2, decide_eq_false (show ¬ (t.kids.length : Int) = u.kids.length by omega), Bool.not_true, Bool.not_false, cond_false, cond_true, Bool.true_and, beqL_len c3, evs]
  ·simp [c1, c2]
 ·simp [c1]
abbrev ins (w : List Nat) : List Int := w.map fun i : Nat => (i : Int)
end Go.Proofs.YtnogehmgpfpjmaaDoor
end
section
namespace Go.Proofs.YtnogehmgpfpjmaaDoor
open Go Go.Ab Go.Dk
theorem ps_ok {s names : List UInt8} (h : (psX s names).2 = true) : validB (psX s names).1 = true ∧ mfN (psX s names).1 ≤ names.length := by
 unfold psX at h ⊢
 split
 ·rename_i hn
  rw [if_pos hn] at h
  unfold psR at h ⊢
  split at h
  ·rename_i t hr
   split at h
   ·rename_i hv
    simp only [hv, if_true]
    refine ⟨trivial, (mfN_iff hv _).2 ?_⟩
    have := rd_cl 30 names.reverse s t [] hr
    rwa [List.length_reverse] at this
   ·cases h
  ·cases h
 ·rename_i hn; rw [if_neg hn] at h; cases h
theorem psR_or (s env : List UInt8) : (psR s env).2 = true ∨ psR s env = (.mk 0 0 [], false) := by
 unfold psR
 split
 ·split
  ·exact .inl rfl
  ·exact .inr rfl
 ·exact .inr rfl
theorem ps_size {s names : List UInt8} : (psX s names).1.size ≤ 400 := by
 cases h : (psX s names).2 with
 | true => exact validB_size (ps_ok h).1
 | false =>
  have : (psX s names).1 = .mk 0 0 [] := by
   unfold psX at h ⊢
   by_cases hn : nvB (bytesOf names) = true
   ·rw [if_pos hn] at h ⊢
    rcases psR_or s names.reverse with h2 | h2
    ·rw [h2] at h; cases h
    ·rw [h2]
   ·rw [if_neg hn]
  rw [this]; decide
def nsX (a b names : List UInt8) : Bool := (psX a names).2 && ((psX b names).2 && T.beq (psX a names).1 (psX b names).1)
theorem f_NamedSameI {n : Nat} {a b names : List UInt8} (hn : 5000100 ≤ n) (ha : a.length ≤ 3000000) (hb : b.length ≤ 3000000) (hm : names.length ≤ 1048577) : FF n 11 [sr a, sr b, sr names] [] = some ([bl (nsX a b names)], []) := by
 obtain ⟨n, rfl⟩ := pos_succ (show 0 < n by omega)
 have h1 := f_ParseNamedI (n := n) (by omega) ha hm
 have h2 := f_ParseNamedI (n := n) (by omega) hb hm
 simp only [sr] at h1 h2
 have := ps_size (s := a) (names := names)
 rw [E_impl_NamedSame, h1, h2]
 simp only [evt]
 rw [f_TermSame _ (by omega) (by omega)]
 simp only [evt]
 unfold nsX
 cases (psX a names).2 <;> cases (psX b names).2 <;> rfl
theorem f_NamedSameS {n : Nat} {a b names : List UInt8} (hn : 5000100 ≤ n) (ha : a.length ≤ 3000000) (hb : b.length ≤ 3000000) (hm : names.length ≤ 1048577) : FF n 10 [sr a, sr b, sr names] [] = some ([bl (nsX a b names)], []) := by
 obtain ⟨n, rfl⟩ := pos_succ (show 0 < n by omega)
 have h1 := f_ParseNamedS (n := n) (by omega) ha hm
 have h2 := f_ParseNamedS (n := n) (by omega) hb hm
 simp only [sr] at h1 h2
 have := ps_size (s := a) (names := names)
 rw [E_spec_NamedSame, h1, h2]
 simp only [evt]
 rw [f_TermSameS _ (by omega) (by omega)]
 simp only [evt]
 unfold nsX
 cases (psX a names).2 <;> cases (psX b names).2 <;> rfl
end Go.Proofs.YtnogehmgpfpjmaaDoor
end
section
namespace Go.Proofs.YtnogehmgpfpjmaaDoor
open Go.ChangeShapes Go.WideShapes Go.ChangeAt Go.RowKit
open Go.ChangeMaps (open_string shut_string)
open Go.Dk
theorem own : ownKnob Tryd.prog.godebug = none := by kernel_rfl
theorem laidOut : laidOutB Tryd.prog = true := by kernel_rfl
section
variable {H : Type} {enc : TypeId × Value → H} {P : Program} {W : World} {sp : Nat → Bool} {hd : Bool}
end
end Go.Proofs.YtnogehmgpfpjmaaDoor
end
section
namespace Go.Proofs.YtnogehmgpfpjmaaDoor
open Go.ChangeShapes Go.WideShapes Go.ChangeAt Go.RowKit
open Go.ChangeMaps (open_string shut_string)
open Go.Dk
theorem change_and_shaped {H : Type} {enc : TypeId × Value → H} {a : Assume} {C : Checked} {os : Os} {f : FuncId} {fn : Func} {s : ChangeSpec} {conds : List PathCond} {apart fresh handsOn again : Bool} {X : World → Array Value → Prop}
   (hX : ∀ (w w' : World) (args : Array Value), w.heap = w'.heap → X w args → X w' args)
   (own : ownKnob C.prog.godebug = none) (started : os.Started) (noInit : C.prog.inits.idxOf? f = none) (hfn : C.prog.funcs[f]? = some fn)
   (witness : ∃ (w : World) (tape : Tape) (i : Input), w.os = os ∧ (w.forCall tape i).Shaped C.prog ∧ i.vars = [] ∧ Input.okWide C.prog (w.forCall tape i) .any w.heap.size f i ∧
    ((s.pre enc C.prog fn conds apart (w.forCall tape i).memory i.args ∧ X (w.forCall tape i).memory i.args) ∧ sizedMet enc C.prog fn (OpenSpec.ofChange s) apart (w.forCall tape i).memory i.args) ∧ a.holds C.prog (lone (Frame.enter C.prog f i.args .normal) [] (w.forCall tape i)))
   (contract : ∀ (W : World) (base : Nat) (args : Array Value) (ds gs : List (DataW H)) (before : List MemPlace),
    (∀ (j : Nat) t v, fn.params[j]? = some t → args[j]? = some v → Value.okWide C.prog W .any base t v) →
    DataW.Whole enc C.prog fn.params.toList s.vars apart W args.toList ds gs before → X W args → W.ShapedOpen C.prog →
    Calls C.prog f args W fun e W' => ∃ v, e = .returned v ∧ s.post enc C.prog fn apart fresh handsOn again W args v W') :
   ReturnsInHanded a C os f .any (fun w args => (s.pre enc C.prog fn conds apart w args ∧ X w args) ∧ sizedMet enc C.prog fn (OpenSpec.ofChange s) apart w args) (s.post enc C.prog fn apart fresh handsOn again) := by
 refine returnsInHanded_of_calls own started noInit witness ?_
 intro w tape i _ hsh _ hok hpre hholds
 obtain ⟨_, _, _, fn', hfn', _, _, _, _, hval⟩ := hok
 have e : fn' = fn := Option.some.inj (hfn'.symm.trans hfn)
 subst e
 obtain ⟨⟨⟨ds, gs, before, hw, hc⟩, hx⟩, hz⟩ := hpre
 have hw' := DataW.Whole.of_heap (w' := w.forCall tape i) (by rfl) hw
 refine (contract (w.forCall tape i) w.heap.size i.args ds gs before hval hw' (hX _ _ _ (by rfl) hx) hsh).mono fun e W' ⟨v, he, hp⟩ => ?_
 subst he
 exact ChangeSpec.post_blind hp
theorem trod_iface {H : Type} {enc : TypeId × Value → H} {P : Program} {w : World} {base : Nat} {sp : Nat → Bool} {held : Bool} {fuel : Nat} {t : TypeId} {cs : List Value} {x : DataW H × List MemPlace} {ms : Array (String × TypeId)}
   (ht : P.underlying t = some (.interface ms)) (h : DataW.trod enc P w base sp held fuel t cs = some x) : ∃ ev, cs = [ev] ∧ (ev = .nilIface ∨ ∃ u v, ev = .iface u v) := by
 cases fuel with
 | zero => simp [DataW.trod] at h
 | succ n =>
  unfold DataW.trod at h
  rw [ht] at h
  split at h <;> simp_all
theorem iface_of_reads {P : Program} {W : World} {name : String} {d : DataW Unit} {g : Nat} {t : TypeId} {ms : Array (String × TypeId)} (h : Lib.VarReads P W name d)
   (hg : P.globalNamed name = some g) (hty : (P.globals[g]?).map (·.type) = some t) (ht : P.underlying t = some (.interface ms)) : ∃ ev, W.cell? ⟨g, 0, none⟩ = some ev ∧ (ev = .nilIface ∨ ∃ t p, ev = .iface t p) := by
 obtain ⟨g', t', cs, fuel, p, hg', ht', hv, hd⟩ := h
 obtain rfl := Option.some.inj (hg.symm.trans hg')
 obtain rfl := Option.some.inj (hty.symm.trans ht')
 obtain ⟨ev, hc, he⟩ := trod_iface ht hd
 refine ⟨ev, ?_, he⟩
 have := World.var?_cell hg hv 0
 rw [Array.eq_one_of_toList hc] at this
 simpa using this
theorem heap_of_reads {P : Program} {W : World} {name : String} {k : IntKind} {zs : List Int} {g : Nat} {t e : TypeId} {n : Nat} (h : Lib.VarReads P W name (Lib.tabData k zs))
   (hg : P.globalNamed name = some g) (hty : (P.globals[g]?).map (·.type) = some t) (ht : P.underlying t = some (.array n e)) (he : P.underlying e = some (.int k)) (hce : P.cellsOf e = 1) (hct : P.cellsOf t = n) :
   ∃ t p, W.heap[g]? = some (.cells (zs.map fun z => Value.int k z).toArray t p) := by
 obtain ⟨g', t', cs, fuel, p, hg', ht', hv, hd⟩ := h
 obtain rfl := Option.some.inj (hg.symm.trans hg')
 obtain rfl := Option.some.inj (hty.symm.trans ht')
 have hcs := Lib.cells_of_tab ht he hce hct hd
 unfold World.var? at hv
 rw [hg, Option.bind_some] at hv
 split at hv
 ·rename_i cs' t2 p2 hh
  cases hv
  exact ⟨t2, p2, by rw [hh, ← hcs]⟩
 ·cases hv
theorem size_of_shapedOpen {P : Program} {w : World} {g : Nat} {r : Array Value × TypeId} (h : w.ShapedOpen P) (hg : g < P.globals.size) (h0 : ((begin P (fun _ _ => 0) default).world.heap[g]?).bind Obj.row? = some r) : g < w.heap.size := by
 obtain ⟨cs, hh, _⟩ := h.1 g r.1 r.2 hg h0
 exact (Array.getElem?_eq_some_iff.1 hh).1
theorem gl_of {W : World} {l : List (String × DataW Unit)} (hL : laidMet Tryd.prog l W) (hs : W.ShapedOpen Tryd.prog)
   (h1 : ("internal/strconv.uint64pow10", Rows.laid_internal_strconv_uint64pow10) ∈ l) (h2 : ("strconv.ErrSyntax", Rows.laid_strconv_ErrSyntax) ∈ l) (h3 : ("strconv.ErrRange", Rows.laid_strconv_ErrRange) ∈ l) : Go.Ab.GL noneZ W := by
 refine ⟨W, ⟨?_, ?_, ?_, ?_⟩, fun g hg => ⟨fun h => h.elim, ?_, rfl⟩⟩
 ·exact cell_of_shapedOpen_int (t := 3) (zero := #[.int .i64 0]) hs (of_decide_eq_true (by kernel_rfl)) (by kernel_rfl) rfl (by kernel_rfl) (by kernel_rfl) Tryd.underlying3
 ·exact iface_of_reads (Lib.laidMet.reads hL h2) (by kernel_rfl) (by kernel_rfl) Tryd.underlying91
 ·exact iface_of_reads (Lib.laidMet.reads hL h3) (by kernel_rfl) (by kernel_rfl) Tryd.underlying91
 ·exact heap_of_reads (k := .u64) (zs := ((List.range 20).map fun i => ((10 ^ i : Nat) : Int))) (Lib.laidMet.reads hL h1) (by kernel_rfl) (by kernel_rfl) Tryd.underlying116 Tryd.underlying103 (by kernel_rfl) (by kernel_rfl)
 ·have hb : ∀ g, g < Go.Ab.GLK → g < Tryd.prog.globals.size ∧ (((begin Tryd.prog (fun _ _ => 0) default).world.heap[g]?).bind Obj.row?).isSome = true := by
    have : ((List.range Go.Ab.GLK).all fun g => decide (g < Tryd.prog.globals.size) && (((begin Tryd.prog (fun _ _ => 0) default).world.heap[g]?).bind Obj.row?).isSome) = true := by kernel_rfl
    intro g hg
    have := List.all_eq_true.1 this g (List.mem_range.2 hg)
    simpa using this
  obtain ⟨h1, h2⟩ := hb g hg
  obtain ⟨r, hr⟩ := Option.isSome_iff_exists.1 h2
  exact size_of_shapedOpen hs h1 hr
end Go.Proofs.YtnogehmgpfpjmaaDoor
end
